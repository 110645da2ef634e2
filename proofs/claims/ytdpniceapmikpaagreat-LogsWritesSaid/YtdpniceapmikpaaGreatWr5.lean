/-
  Opening a frame: from its data to lists in memory.
  Opening an object: its numbers are within 64 bits.
  Opening a frame and the law's disk: their numbers are within 64 bits.
  LogsWrites: for every input the law answers true, and its arguments read as they did; without conditions.
-/
import Derived.Deep.Slices
import Derived.Test.YtdpniceapmikpaaGreatSt9
import Derived.Test.YtdpniceapmikpaaGreatWr1
import Derived.Test.YtdpniceapmikpaaGreatWr2
import Derived.Test.YtdpniceapmikpaaGreatWr3
import Derived.Test.YtdpniceapmikpaaGreatWr4
set_option linter.unusedVariables false
set_option linter.unusedSimpArgs false
namespace Go.Proofs.YtdpniceapmikpaaGreat
open Go.ChangeShapes Go.WideShapes Go.ChangeAt Go.RowKit Go.Deep

theorem list_blocks {α : Type} (f : α → List Value) (Pr : α → Prop) (C : Nat) : ∀ (n : Nat) (cs : List Value), cs.length = n * C → (∀ i, i < n → ∃ a, Pr a ∧ (cs.drop (i * C)).take C = f a) → ∃ l : List α, l.length = n ∧ (∀ a ∈ l, Pr a) ∧ cs = l.flatMap f
 | 0, cs, hl, _ => ⟨[], rfl, (fun a h => by cases h), by have h0 : cs = [] := List.eq_nil_of_length_eq_zero (by simpa using hl); rw [h0]; rfl⟩
 | n + 1, cs, hl, h => by
  obtain ⟨a, ha, e⟩ := h 0 (by omega)
  have hl2 : (cs.drop C).length = n * C := by rw [List.length_drop, hl, Nat.succ_mul]; omega
  obtain ⟨l, h1, h2, h3⟩ := list_blocks f Pr C n (cs.drop C) hl2 (fun i hi => by
   obtain ⟨b, hb, e⟩ := h (i + 1) (by omega)
   refine ⟨b, hb, ?_⟩
   rw [List.drop_drop, ← e]
   congr 2
   rw [Nat.succ_mul]
   omega)
  refine ⟨a :: l, by simp [h1], fun b hb => ?_, ?_⟩
  ·rcases List.mem_cons.1 hb with rfl | hb
   ·exact ha
   ·exact h2 b hb
  ·rw [List.flatMap_cons, ← h3, ← e]
   simp
theorem four_list (cs : List Value) (h : cs.length = 4) : ∃ a b c d, cs = [a, b, c, d] := by
 match cs, h with
 | [a, b, c, d], _ => exact ⟨a, b, c, d, rfl⟩
theorem six_list (cs : List Value) (h : cs.length = 6) : ∃ a b c d e f, cs = [a, b, c, d, e, f] := by
 match cs, h with
 | [a, b, c, d, e, f], _ => exact ⟨a, b, c, d, e, f, rfl⟩
section
variable {H : Type} {enc : TypeId × Value → H} {w : World} {base : Nat} {spare : Nat → Bool} {held : Bool} {n : Nat} {cs : List Value} {x : DataW H × List MemPlace}
theorem int_trod {t : TypeId} (ht : Tryz.prog.underlying t = some (.int .i64)) (h : DataW.trod enc Tryz.prog w base spare held n t cs = some x) : ∃ k : Int, cs = [.int .i64 k] ∧ k < 9223372036854775808 := by
 obtain ⟨k, e, _, hw⟩ := DataW.trod_int ht h
 exact ⟨k, e, (i64_lt hw).2⟩
theorem byte_trod (h : DataW.trod enc Tryz.prog w base spare held n 5 cs = some x) : ∃ c : UInt8, cs = [vu8 c] := by
 obtain ⟨k, e, _, hw⟩ := DataW.trod_int Tryz.underlying5 h
 simp [Lit.wf, IntKind.min, IntKind.max, IntKind.signed, IntKind.bits] at hw
 refine ⟨UInt8.ofNat k.toNat, ?_⟩
 rw [e]
 unfold vu8
 rw [UInt8.toNat_ofNat']
 congr 2
 omega
end
theorem pick_list {α : Type} (R : Nat → α → Prop) : ∀ (n : Nat), (∀ i, i < n → ∃ a, R i a) → ∃ l : List α, l.length = n ∧ ∀ i a, l[i]? = some a → R i a
 | 0, _ => ⟨[], rfl, fun i a h => by simp at h⟩
 | n + 1, h => by
  obtain ⟨l, h1, h2⟩ := pick_list R n (fun i hi => h i (by omega))
  obtain ⟨a, ha⟩ := h n (by omega)
  refine ⟨l ++ [a], by simp [h1], fun i b hb => ?_⟩
  rcases Nat.lt_or_ge i n with hi | hi
  ·rw [List.getElem?_append_left (by omega)] at hb
   exact h2 i b hb
  ·rw [List.getElem?_append_right (by omega), h1] at hb
   have : i = n := by
    rcases Nat.lt_or_ge (i - n) 1 with hh | hh
    ·omega
    ·rw [List.getElem?_eq_none (by simpa using hh)] at hb; cases hb
   subst this
   simp at hb
   rw [← hb]
   exact ha
section
variable {H : Type} {enc : TypeId × Value → H} {w : World} {n : Nat} {cs : List Value} {x : DataW H × List MemPlace}
set_option maxRecDepth 100000 in
theorem row_els {T e : TypeId} {C : Nat} (hu : Tryz.prog.underlying T = some (.slice e)) (hC : Tryz.prog.cellsOf e = C) (h0 : 0 < C) (h : DataW.trod enc Tryz.prog w 0 (fun _ => true) true n T cs = some x) :
  ∃ A len cap, cs = [.slice A len cap] ∧ len ≤ maxLen ∧ len ≤ cap ∧ ∀ i, i < len → ∃ g off cs' m y, A = some ⟨g, off, none⟩ ∧ g < w.heap.size ∧ (∀ j u, cs'[j]? = some u → w.cell? ⟨g, off + i * C + j, none⟩ = some u) ∧ DataW.trod enc Tryz.prog w 0 (fun _ => true) true m e cs' = some y := by
 rcases open_slice hu h with ⟨hcs, _⟩ | ⟨a, len, cap, m, k, D, Pl, hcs, hb, hl, hm, hmm, _, hi⟩
 ·exact ⟨none, 0, 0, hcs, Nat.zero_le _, Nat.le_refl _, fun i hi => absurd hi (Nat.not_lt_zero _)⟩
 ·simp at hmm
  refine ⟨some a, len, cap, hcs, by omega, hl, fun i hil => ?_⟩
  obtain ⟨cs', hc, ht⟩ := hi i (by omega)
  rw [hC] at hc
  obtain ⟨_, hlen, hat⟩ := World.cells?_some hc
  obtain ⟨b, off, spot⟩ := a
  have hspot : spot = none := by
   obtain ⟨cs0, hc0, _⟩ := hi 0 (by omega)
   rw [hC] at hc0
   obtain ⟨_, hl0, hat0⟩ := World.cells?_some hc0
   have h00 := hat0 0 h0
   rw [List.getElem?_eq_getElem (by omega)] at h00
   simpa [Addr.add] using World.cell?_spot h00
  subst hspot
  have g : ∀ j, j < C → w.cell? ⟨b, off + i * C + j, none⟩ = cs'[j]? := fun j hj => by
   rw [← hat j hj, Go.WideShapes.add_plain, Go.WideShapes.add_plain]
  have hg0 := g 0 h0
  rw [List.getElem?_eq_getElem (by omega)] at hg0
  refine ⟨b, off, cs', k, _, rfl, block_lt_of_cell hg0, fun j u hj => ?_, ht⟩
  have hjl : j < C := by
   rcases Nat.lt_or_ge j C with hh | hh
   ·exact hh
   ·rw [List.getElem?_eq_none (by omega)] at hj; cases hj
  rw [g j hjl, hj]
set_option maxRecDepth 100000 in
theorem ints_trod (h : DataW.trod enc Tryz.prog w 0 (fun _ => true) true n 24 cs = some x) : ∃ v l, cs = [v] ∧ IntsIn w w.heap.size v l := by
 obtain ⟨A, len, cap, hcs, hm, hl, hi⟩ := row_els (C := 1) Tryz.underlying24 (by kernel_rfl) (by omega) h
 obtain ⟨l, hll, hR⟩ := pick_list (fun i (c : Int) => ∃ g off, A = some ⟨g, off, none⟩ ∧ g < w.heap.size ∧ w.cell? ⟨g, off + i, none⟩ = some (.int .i64 c)) len (fun i hil => by
  obtain ⟨g, off, cs', m, y, e1, e2, e3, e4⟩ := hi i hil
  obtain ⟨k, rfl, _⟩ := int_trod Tryz.underlying3 e4
  exact ⟨k, g, off, e1, e2, by have := e3 0 _ rfl; simpa using this⟩)
 subst hll
 exact ⟨_, l, hcs, hm, A, cap, rfl, hl, fun j c hj => hR j c hj⟩
set_option maxRecDepth 100000 in
theorem bytes_trod (h : DataW.trod enc Tryz.prog w 0 (fun _ => true) true n 26 cs = some x) : ∃ v l, cs = [v] ∧ BytesIn w w.heap.size v l := by
 obtain ⟨A, len, cap, hcs, hm, hl, hi⟩ := row_els (C := 1) Tryz.underlying26 (by kernel_rfl) (by omega) h
 obtain ⟨l, hll, hR⟩ := pick_list (fun i (c : UInt8) => ∃ g off, A = some ⟨g, off, none⟩ ∧ g < w.heap.size ∧ w.cell? ⟨g, off + i, none⟩ = some (vu8 c)) len (fun i hil => by
  obtain ⟨g, off, cs', m, y, e1, e2, e3, e4⟩ := hi i hil
  obtain ⟨k, rfl⟩ := byte_trod e4
  exact ⟨k, g, off, e1, e2, by have := e3 0 _ rfl; simpa using this⟩)
 subst hll
 exact ⟨_, l, hcs, hm, A, cap, rfl, hl, fun j c hj => hR j c hj⟩
end
end Go.Proofs.YtdpniceapmikpaaGreat
namespace Go.Proofs.YtdpniceapmikpaaGreat
open Go.ChangeShapes Go.WideShapes Go.ChangeAt Go.RowKit Go.Deep

section
variable {H : Type} {enc : TypeId × Value → H} {w : World} {base : Nat} {spare : Nat → Bool} {held : Bool} {n : Nat} {cs : List Value} {x : DataW H × List MemPlace}
theorem int_trod64 {t : TypeId} (ht : Tryz.prog.underlying t = some (.int .i64)) (h : DataW.trod enc Tryz.prog w base spare held n t cs = some x) : ∃ k : Int, cs = [.int .i64 k] ∧ I64 k := by
 obtain ⟨k, e, _, hw⟩ := DataW.trod_int ht h
 have h1 := i64_lt hw
 exact ⟨k, e, by omega, by omega⟩
theorem key_trod64 (h : DataW.trod enc Tryz.prog w base spare held n 58 cs = some x) : ∃ k : KeyD, (k.r < 9223372036854775808 ∧ I64 k.v) ∧ cs = k.cells := by
 obtain ⟨xs, m, _, _, hlen, hxl, hg⟩ := DataW.trod_struct Tryz.underlying58 h
 have h6 : cs.length = 6 := hlen.trans cellsOf_key
 have c0 : Tryz.prog.cellsOf 55 = 1 := by kernel_rfl
 have c1 : Tryz.prog.cellsOf 3 = 1 := by kernel_rfl
 have c2 : Tryz.prog.cellsOf 2 = 1 := by kernel_rfl
 have c3 : Tryz.prog.cellsOf 56 = 1 := by kernel_rfl
 have g0 : DataW.trod enc Tryz.prog w base spare held m 55 ((cs.drop 0).take (Tryz.prog.cellsOf 55)) = xs[0]? := hg 0 _ rfl
 have g1 : DataW.trod enc Tryz.prog w base spare held m 3 ((cs.drop 1).take (Tryz.prog.cellsOf 3)) = xs[1]? := hg 1 _ rfl
 have g2 : DataW.trod enc Tryz.prog w base spare held m 2 ((cs.drop 2).take (Tryz.prog.cellsOf 2)) = xs[2]? := hg 2 _ rfl
 have g3 : DataW.trod enc Tryz.prog w base spare held m 2 ((cs.drop 3).take (Tryz.prog.cellsOf 2)) = xs[3]? := hg 3 _ rfl
 have g4 : DataW.trod enc Tryz.prog w base spare held m 56 ((cs.drop 4).take (Tryz.prog.cellsOf 56)) = xs[4]? := hg 4 _ rfl
 have g5 : DataW.trod enc Tryz.prog w base spare held m 2 ((cs.drop 5).take (Tryz.prog.cellsOf 2)) = xs[5]? := hg 5 _ rfl
 have len : 6 = xs.length := by rw [hxl]; rfl
 have ex : ∀ i, i < 6 → ∃ y, xs[i]? = some y := fun i hi => ⟨_, List.getElem?_eq_getElem (by omega)⟩
 obtain ⟨y0, e0⟩ := ex 0 (by omega)
 obtain ⟨y1, e1⟩ := ex 1 (by omega)
 obtain ⟨y2, e2⟩ := ex 2 (by omega)
 obtain ⟨y3, e3⟩ := ex 3 (by omega)
 obtain ⟨y4, e4⟩ := ex 4 (by omega)
 obtain ⟨y5, e5⟩ := ex 5 (by omega)
 rw [e0] at g0; rw [e1] at g1; rw [e2] at g2; rw [e3] at g3; rw [e4] at g4; rw [e5] at g5
 rw [c0] at g0
 rw [c1] at g1
 rw [c2] at g2 g3 g5
 rw [c3] at g4
 obtain ⟨k0, p0, _⟩ := int_trod Tryz.underlying55 g0
 obtain ⟨k1, p1, _⟩ := int_trod Tryz.underlying3 g1
 obtain ⟨k2, p2, _⟩ := int_trod Tryz.underlying2 g2
 obtain ⟨k3, p3, _⟩ := int_trod Tryz.underlying2 g3
 obtain ⟨k4, p4, w4⟩ := int_trod Tryz.underlying56 g4
 obtain ⟨k5, p5, w5⟩ := int_trod64 Tryz.underlying2 g5
 refine ⟨⟨k0, k1, k2, k3, k4, k5⟩, ⟨w4, w5⟩, ?_⟩
 obtain ⟨a, b, c, d, e, f, rfl⟩ := six_list cs h6
 simp only [List.drop_zero, List.drop_succ_cons, List.take_succ_cons, List.take_zero, List.cons.injEq, and_true] at p0 p1 p2 p3 p4 p5
 rw [p0, p1, p2, p3, p4, p5]
 rfl
theorem obj_trod64 (h : DataW.trod enc Tryz.prog w base spare held n 62 cs = some x) : ∃ o : ObjD, (o.ok ∧ rightsOk o ∧ ∀ x ∈ o.slots, I64 x.v) ∧ cs = o.cells := by
 obtain ⟨xs, m, _, _, hlen, hxl, hg⟩ := DataW.trod_struct Tryz.underlying62 h
 have h163 : cs.length = 163 := hlen.trans (by kernel_rfl)
 have c0 : Tryz.prog.cellsOf 54 = 1 := by kernel_rfl
 have c1 : Tryz.prog.cellsOf 2 = 1 := by kernel_rfl
 have c3 : Tryz.prog.cellsOf 59 = 96 := by kernel_rfl
 have c4 : Tryz.prog.cellsOf 60 = 64 := by kernel_rfl
 have c5 : Tryz.prog.cellsOf 5 = 1 := by kernel_rfl
 have g0 : DataW.trod enc Tryz.prog w base spare held m 54 ((cs.drop 0).take (Tryz.prog.cellsOf 54)) = xs[0]? := hg 0 _ rfl
 have g1 : DataW.trod enc Tryz.prog w base spare held m 2 ((cs.drop 1).take (Tryz.prog.cellsOf 2)) = xs[1]? := hg 1 _ rfl
 have g2 : DataW.trod enc Tryz.prog w base spare held m 2 ((cs.drop 2).take (Tryz.prog.cellsOf 2)) = xs[2]? := hg 2 _ rfl
 have g3 : DataW.trod enc Tryz.prog w base spare held m 59 ((cs.drop 3).take (Tryz.prog.cellsOf 59)) = xs[3]? := hg 3 _ rfl
 have g4 : DataW.trod enc Tryz.prog w base spare held m 60 ((cs.drop 99).take (Tryz.prog.cellsOf 60)) = xs[4]? := hg 4 _ rfl
 have len : 5 = xs.length := by rw [hxl]; rfl
 have ex : ∀ i, i < 5 → ∃ y, xs[i]? = some y := fun i hi => ⟨_, List.getElem?_eq_getElem (by omega)⟩
 obtain ⟨y0, e0⟩ := ex 0 (by omega)
 obtain ⟨y1, e1⟩ := ex 1 (by omega)
 obtain ⟨y2, e2⟩ := ex 2 (by omega)
 obtain ⟨y3, e3⟩ := ex 3 (by omega)
 obtain ⟨y4, e4⟩ := ex 4 (by omega)
 rw [e0] at g0; rw [e1] at g1; rw [e2] at g2; rw [e3] at g3; rw [e4] at g4
 rw [c0] at g0
 rw [c1] at g1 g2
 rw [c3] at g3
 rw [c4] at g4
 obtain ⟨k0, p0, _⟩ := int_trod Tryz.underlying54 g0
 obtain ⟨k1, p1, _⟩ := int_trod Tryz.underlying2 g1
 obtain ⟨k2, p2, _⟩ := int_trod Tryz.underlying2 g2
 obtain ⟨zs, m3, _, _, l3, zl, hz⟩ := DataW.trod_array Tryz.underlying59 g3
 obtain ⟨us, m4, _, _, l4, ul, hu⟩ := DataW.trod_array Tryz.underlying60 g4
 simp only [cellsOf_key] at hz
 simp only [c5] at hu
 obtain ⟨ks, k1l, kp, ke⟩ := list_blocks KeyD.cells (fun k => k.r < 9223372036854775808 ∧ I64 k.v) 6 16 _ (l3.trans c3) (fun i hi => by
  have h1 := hz i hi
  rw [List.getElem?_eq_getElem (by omega)] at h1
  exact key_trod64 h1)
 obtain ⟨bs, b1l, _, be⟩ := list_blocks (fun c : UInt8 => [vu8 c]) (fun _ => True) 1 64 _ (l4.trans c4) (fun i hi => by
  have h1 := hu i hi
  rw [List.getElem?_eq_getElem (by omega)] at h1
  obtain ⟨c, hc⟩ := byte_trod h1
  exact ⟨c, trivial, hc⟩)
 refine ⟨⟨k0, k1, k2, ks, bs⟩, ⟨⟨k1l, b1l⟩, fun x hx => (kp x hx).1, fun x hx => (kp x hx).2⟩, ?_⟩
 unfold ObjD.cells slotCells
 simp only
 rw [← ke, show bs.map vu8 = bs.flatMap (fun c => [vu8 c]) by rw [List.map_eq_flatMap], ← be]
 have t : ∀ (l : List Value) (k : Nat), l.take k ++ l.drop k = l := fun l k => List.take_append_drop k l
 have q4 : (cs.drop 99).take 64 = cs.drop 99 := List.take_of_length_le (by rw [List.length_drop, h163]; decide)
 have q3 := t (cs.drop 3) 96
 have q2 := t (cs.drop 2) 1
 have q1 := t (cs.drop 1) 1
 have q0 := t (cs.drop 0) 1
 rw [List.drop_drop] at q3 q2 q1 q0
 rw [p0] at q0
 rw [p1] at q1
 rw [p2] at q2
 rw [q4, show (cs.drop 3).take 96 ++ cs.drop 99 = cs.drop 3 from q3]
 refine q0.symm.trans ?_
 rw [show cs.drop (0 + 1) = cs.drop 1 from rfl, ← q1, show cs.drop (1 + 1) = cs.drop 2 from rfl, ← q2]
 rfl
end
end Go.Proofs.YtdpniceapmikpaaGreat
namespace Go.Proofs.YtdpniceapmikpaaGreat
open Go.ChangeShapes Go.WideShapes Go.ChangeAt Go.RowKit Go.Deep

section
variable {H : Type} {enc : TypeId × Value → H} {w : World} {n : Nat} {cs : List Value} {x : DataW H × List MemPlace}
theorem bytes_cap (h : DataW.trod enc Tryz.prog w 0 (fun _ => true) true n 26 cs = some x) (a : Option Addr) (k c : Nat) (e : (cs.drop 0) = [.slice a k c] ∨ cs = [.slice a k c]) : c ≤ maxLen := by
 have e' : cs = [.slice a k c] := by
  rcases e with e | e
  ·simpa using e
  ·exact e
 rcases open_slice Tryz.underlying26 h with ⟨hcs, _⟩ | ⟨a', len', cap', m, k', D, Pl, hcs, _, _, hm, _⟩
 ·rw [e'] at hcs
  simp at hcs
  omega
 ·rw [e'] at hcs
  simp at hcs
  omega
set_option maxRecDepth 100000 in
theorem ints_trod64 (h : DataW.trod enc Tryz.prog w 0 (fun _ => true) true n 24 cs = some x) : ∃ v l, cs = [v] ∧ IntsIn w w.heap.size v l ∧ ∀ n ∈ l, n ≤ 9223372036854775807 := by
 obtain ⟨A, len, cap, hcs, hm, hl, hi⟩ := row_els (C := 1) Tryz.underlying24 (by kernel_rfl) (by omega) h
 obtain ⟨l, hll, hR⟩ := pick_list (fun i (c : Int) => ∃ g off, A = some ⟨g, off, none⟩ ∧ g < w.heap.size ∧ w.cell? ⟨g, off + i, none⟩ = some (.int .i64 c) ∧ c ≤ 9223372036854775807) len (fun i hil => by
  obtain ⟨g, off, cs', m, y, e1, e2, e3, e4⟩ := hi i hil
  obtain ⟨k, rfl, hk⟩ := int_trod Tryz.underlying3 e4
  exact ⟨k, g, off, e1, e2, by have := e3 0 _ rfl; simpa using this, by omega⟩)
 subst hll
 refine ⟨_, l, hcs, ⟨hm, A, cap, rfl, hl, fun j c hj => ?_⟩, fun n hn => ?_⟩
 ·obtain ⟨g, off, h1, h2, h3, _⟩ := hR j c hj
  exact ⟨g, off, h1, h2, h3⟩
 ·obtain ⟨j, hj⟩ := List.mem_iff_getElem?.1 hn
  obtain ⟨_, _, _, _, _, h4⟩ := hR j n hj
  exact h4
set_option maxRecDepth 100000 in
theorem objs_trod64 (h : DataW.trod enc Tryz.prog w 0 (fun _ => true) true n 25 cs = some x) : ∃ v l, cs = [v] ∧ ObjsIn w w.heap.size v l ∧ ∀ o ∈ l, o.ok ∧ ∀ x ∈ o.slots, I64 x.v := by
 obtain ⟨A, len, cap, hcs, hm, hl, hi⟩ := row_els (C := 163) Tryz.underlying25 (by kernel_rfl) (by omega) h
 obtain ⟨l, hll, hR⟩ := pick_list (fun i (o : ObjD) => (∀ x ∈ o.slots, I64 x.v) ∧ o.ok ∧ rightsOk o ∧ ∃ g off, A = some ⟨g, off, none⟩ ∧ g < w.heap.size ∧ w.rangeAt g (off + i * 163) o.cells) len (fun i hil => by
  obtain ⟨g, off, cs', m, y, e1, e2, e3, e4⟩ := hi i hil
  obtain ⟨o, ⟨ho, hr, hv⟩, rfl⟩ := obj_trod64 e4
  exact ⟨o, hv, ho, hr, g, off, e1, e2, e3⟩)
 subst hll
 refine ⟨_, l, hcs, ⟨hm, A, cap, rfl, hl, fun j o hj => (hR j o hj).2⟩, fun o ho => ?_⟩
 obtain ⟨j, hj⟩ := List.mem_iff_getElem?.1 ho
 exact ⟨(hR j o hj).2.1, (hR j o hj).1⟩
set_option maxRecDepth 100000 in
theorem open_frame64 {r : Reach} {b0 : Nat} {v : Value} {d : DataW H} {p : List MemPlace} (hv : Value.okWide Tryz.prog w r b0 28 v) (h : DataW.Trod enc Tryz.prog w 0 (fun _ => true) true 28 v d p) : ∃ f, FrameIn w w.heap.size v f ∧ (∀ a c, (∃ x y z, v = .agg #[x, y, z, .slice a f.state.length c]) → c ≤ maxLen) ∧ f.ed ≤ 9223372036854775807 ∧ ∀ o ∈ f.objs, o.ok ∧ ∀ x ∈ o.slots, I64 x.v := by
 obtain ⟨cs, rfl, hsz⟩ := okWide_struct Tryz.underlying28 hv
 obtain ⟨fuel, hf⟩ := h
 obtain ⟨xs, m, _, _, hlen, hxl, hg⟩ := DataW.trod_struct Tryz.underlying28 hf
 have h4 : cs.toList.length = 4 := hlen.trans (by kernel_rfl)
 have c0 : Tryz.prog.cellsOf 2 = 1 := by kernel_rfl
 have c1 : Tryz.prog.cellsOf 24 = 1 := by kernel_rfl
 have c2 : Tryz.prog.cellsOf 25 = 1 := by kernel_rfl
 have c3 : Tryz.prog.cellsOf 26 = 1 := by kernel_rfl
 have g0 : DataW.trod enc Tryz.prog w 0 (fun _ => true) true m 2 ((cs.toList.drop 0).take (Tryz.prog.cellsOf 2)) = xs[0]? := hg 0 _ rfl
 have g1 : DataW.trod enc Tryz.prog w 0 (fun _ => true) true m 24 ((cs.toList.drop 1).take (Tryz.prog.cellsOf 24)) = xs[1]? := hg 1 _ rfl
 have g2 : DataW.trod enc Tryz.prog w 0 (fun _ => true) true m 25 ((cs.toList.drop 2).take (Tryz.prog.cellsOf 25)) = xs[2]? := hg 2 _ rfl
 have g3 : DataW.trod enc Tryz.prog w 0 (fun _ => true) true m 26 ((cs.toList.drop 3).take (Tryz.prog.cellsOf 26)) = xs[3]? := hg 3 _ rfl
 have len : 4 = xs.length := by rw [hxl]; rfl
 have ex : ∀ i, i < 4 → ∃ y, xs[i]? = some y := fun i hi => ⟨_, List.getElem?_eq_getElem (by omega)⟩
 obtain ⟨y0, e0⟩ := ex 0 (by omega)
 obtain ⟨y1, e1⟩ := ex 1 (by omega)
 obtain ⟨y2, e2⟩ := ex 2 (by omega)
 obtain ⟨y3, e3⟩ := ex 3 (by omega)
 rw [e0, c0] at g0
 rw [e1, c1] at g1
 rw [e2, c2] at g2
 rw [e3, c3] at g3
 obtain ⟨ed, p0, hed⟩ := int_trod Tryz.underlying2 g0
 obtain ⟨vo, lo, p1, h1⟩ := ints_trod g1
 obtain ⟨vb, lb, p2, h2, h2b⟩ := objs_trod64 g2
 obtain ⟨vs, ls, p3, h3⟩ := bytes_trod g3
 have hcp := bytes_cap g3
 obtain ⟨a, b, c, d', e⟩ := four_list cs.toList h4
 rw [e] at p0 p1 p2 p3
 have hcs : cs = #[a, b, c, d'] := Array.ext' e
 simp only [List.drop_zero, List.drop_succ_cons, List.take_succ_cons, List.take_zero, List.cons.injEq, and_true] at p0 p1 p2 p3
 subst p0 p1 p2 p3
 subst hcs
 refine ⟨⟨ed, lo, lb, ls⟩, ⟨_, _, _, rfl, h1, h2, h3⟩, ?_, by show ed ≤ _; omega, h2b⟩
 rintro a c ⟨x, y, z, e⟩
 simp only [Value.agg.injEq, Array.mk.injEq, List.cons.injEq] at e
 have e4 := e.2.2.2.1
 subst e4
 exact hcp a _ c (.inr rfl)
set_option maxRecDepth 100000 in
theorem open_disk64 {r : Reach} {b0 : Nat} {v : Value} {d : DataW H} {p : List MemPlace} (hv : Value.okWide Tryz.prog w r b0 43 v) (h : DataW.Trod enc Tryz.prog w 0 (fun _ => true) true 43 v d p) :
  ∃ (s : Int) (vb vf : Value) (bl : List UInt8) (fs : List Int), v = .agg #[.int .i64 s, vb, vf] ∧ BytesIn w w.heap.size vb bl ∧ IntsIn w w.heap.size vf fs ∧ ∀ n ∈ fs, n ≤ 9223372036854775807 := by
 obtain ⟨cs, rfl, hsz⟩ := okWide_struct Tryz.underlying43 hv
 obtain ⟨fuel, hf⟩ := h
 obtain ⟨xs, m, _, _, hlen, hxl, hg⟩ := DataW.trod_struct Tryz.underlying43 hf
 have h3 : cs.toList.length = 3 := hlen.trans (by kernel_rfl)
 have c0 : Tryz.prog.cellsOf 3 = 1 := by kernel_rfl
 have c1 : Tryz.prog.cellsOf 26 = 1 := by kernel_rfl
 have c2 : Tryz.prog.cellsOf 24 = 1 := by kernel_rfl
 have g0 : DataW.trod enc Tryz.prog w 0 (fun _ => true) true m 3 ((cs.toList.drop 0).take (Tryz.prog.cellsOf 3)) = xs[0]? := hg 0 _ rfl
 have g1 : DataW.trod enc Tryz.prog w 0 (fun _ => true) true m 26 ((cs.toList.drop 1).take (Tryz.prog.cellsOf 26)) = xs[1]? := hg 1 _ rfl
 have g2 : DataW.trod enc Tryz.prog w 0 (fun _ => true) true m 24 ((cs.toList.drop 2).take (Tryz.prog.cellsOf 24)) = xs[2]? := hg 2 _ rfl
 have len : 3 = xs.length := by rw [hxl]; rfl
 have ex : ∀ i, i < 3 → ∃ y, xs[i]? = some y := fun i hi => ⟨_, List.getElem?_eq_getElem (by omega)⟩
 obtain ⟨y0, e0⟩ := ex 0 (by omega)
 obtain ⟨y1, e1⟩ := ex 1 (by omega)
 obtain ⟨y2, e2⟩ := ex 2 (by omega)
 rw [e0, c0] at g0
 rw [e1, c1] at g1
 rw [e2, c2] at g2
 obtain ⟨s, p0, _⟩ := int_trod Tryz.underlying3 g0
 obtain ⟨vb, lb, p1, h1⟩ := bytes_trod g1
 obtain ⟨vf, lf, p2, h2, h2b⟩ := ints_trod64 g2
 refine ⟨s, vb, vf, lb, lf, ?_, h1, h2, h2b⟩
 obtain ⟨a, b, c, e⟩ : ∃ a b c, cs.toList = [a, b, c] := by
  match cs.toList, h3 with
  | [a, b, c], _ => exact ⟨a, b, c, rfl⟩
 rw [e] at p0 p1 p2
 have hcs : cs = #[a, b, c] := Array.ext' e
 simp only [List.drop_zero, List.drop_succ_cons, List.take_succ_cons, List.take_zero, List.cons.injEq, and_true] at p0 p1 p2
 rw [hcs, p0, p1, p2]
end
end Go.Proofs.YtdpniceapmikpaaGreat
namespace Go.Proofs.YtdpniceapmikpaaGreat
open Go.ChangeShapes Go.WideShapes Go.ChangeAt Go.RowKit Go.Deep

set_option maxRecDepth 100000 in
theorem open_plan64 {H : Type} {enc : TypeId × Value → H} {w : World} {base : Nat} {spare : Nat → Bool} {held : Bool} {r : Reach} {b0 : Nat} {v : Value} {d : DataW H} {p : List MemPlace}
  (hv : Value.okWide Tryz.prog w r b0 23 v) (h : DataW.Trod enc Tryz.prog w base spare held 23 v d p) : ∃ N : Int, v = .agg #[.int .i64 N] := by
 obtain ⟨l, hl, rfl, _⟩ := open_nums (kd := .i64) Tryz.underlying23 (by kernel_rfl) (by kernel_rfl) (fun j f hf => by
  match j, hf with
  | 0, hf => injection hf with hf; subst hf; exact Tryz.underlying3
  | j + 1, hf => simp at hf) hv h
 obtain ⟨N, rfl⟩ : ∃ a, l = [a] := by
  match l, hl with
  | [a], _ => exact ⟨a, rfl⟩
 exact ⟨N, rfl⟩
set_option maxRecDepth 100000 in
theorem logsWrites_lifted (os : Os) (started : os.Started) (H : Type) (enc : TypeId × Value → H) :
  ReturnsInHanded {} Tryz.checked os 6 .any (Rows.logsWritesSpec.pre6 enc Tryz.prog Tryz.f6 Rows.logsWritesRow.domain false) (Rows.logsWritesSpec.post enc Tryz.prog Tryz.f6 false true false false) := by
 refine returnsInHanded_of_change (C := Tryz.checked) own started (by kernel_rfl) Tryz.func6
  (ChangeSpec.witness6 (enc := enc) (C := Tryz.checked) false ⟨#[], #[.agg #[.int .i64 0, .slice none 0 0, .slice none 0 0], .agg #[.int .i64 0], .int .i64 0, .agg #[.int .i64 0, .slice none 0 0, .slice none 0 0, .slice none 0 0]], []⟩ 8 (by kernel_rfl) (by kernel_rfl) (by kernel_rfl) (by kernel_rfl)) ?_
 intro W base args ds gs before hval0 hW hcnd _
 have hval : ∀ (j : Nat) t v, Tryz.f6.params[j]? = some t → args[j]? = some v → Value.okWide Tryz.prog W .any base t v := hval0
 have hW' := hW
 obtain ⟨p, q, hA0, hV, rfl, hfz, hnd⟩ := hW
 have hA : DataW.TrodAll enc Tryz.prog W 0 (fun _ => true) true Tryz.f6.params.toList args.toList ds p := hA0
 rw [Tryz.params6] at hA hval
 obtain ⟨v0, vs0, d0, ds0, p0, q0, hargs, rfl, rfl, h0, hA1⟩ := trodAll_cons hA
 obtain ⟨v1, vs1, d1, ds1, p1, q1, rfl, rfl, rfl, h1, hA2⟩ := trodAll_cons hA1
 obtain ⟨v2, vs2, d2, ds2, p2, q2, rfl, rfl, rfl, h2, hA3⟩ := trodAll_cons hA2
 obtain ⟨v3, vs3, d3, ds3, p3, q3, rfl, rfl, rfl, h3, hA4⟩ := trodAll_cons hA3
 obtain ⟨rfl, rfl, rfl⟩ : vs3 = [] ∧ ds3 = [] ∧ q3 = [] := by
  cases vs3 <;> cases ds3 <;> simp [DataW.TrodAll] at hA4
  exact ⟨rfl, rfl, hA4⟩
 obtain rfl : args = #[v0, v1, v2, v3] := Array.ext' hargs
 obtain ⟨rfl, rfl⟩ := trodVars_none hV
 obtain ⟨s, vb, vf, bl, fs, rfl, hb0, hf0, hfi⟩ := open_disk64 (hval 0 _ v0 rfl rfl) h0
 obtain ⟨N, rfl⟩ := open_plan64 (hval 1 _ v1 rfl rfl) h1
 obtain ⟨area, rfl, _, _, _⟩ := open_int Tryz.underlying3 (hval 2 _ v2 rfl rfl) h2
 obtain ⟨f, hfr, hcap, hed, hobj⟩ := open_frame64 (hval 3 _ v3 rfl rfl) h3
 clear hA0 hval0
 refine (wrs_any s N area vb vf v3 bl fs f W hb0 hf0 hfi hfr hcap hed hobj).mono fun e W' ⟨he, hb⟩ => ?_
 subst he
 exact ⟨_, rfl, law_post laidOut (by rw [Tryz.params6]; intro t ht; simp at ht; rcases ht with rfl | rfl | rfl | rfl <;> exact ⟨by kernel_rfl, of_decide_eq_true (by kernel_rfl)⟩) rfl Tryz.underlying4 rfl hW' rfl hb⟩

theorem logsWrites_holds : Rows.LogsWritesSaid :=
 OpenClaim.holds_of_wide 6 Tryz.f6 rfl rfl rfl rfl rfl rfl rfl ⟨rfl, rfl, rfl, rfl, rfl⟩ rfl rfl rfl rfl rfl (by kernel_rfl) Tryz.func6 (by kernel_rfl)
  (of_decide_eq_true (by kernel_rfl)) (by unfold Func.isWrapper; first | (rw [if_pos (by decide +kernel)]; kernel_rfl) | (rw [if_neg (by decide +kernel)]; exact ⟨rfl, rfl⟩))
  (fun os started H enc _ => logsWrites_lifted os started H enc)

end Go.Proofs.YtdpniceapmikpaaGreat
