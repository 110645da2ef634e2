/-
  Opening a frame: from its data to lists in memory.
  Opening an object: its numbers are within 64 bits.
  Opening a frame and the law's disk: their numbers are within 64 bits.
  Opening a world.
  CacheGets: for every input the law answers true, and its arguments read as they did; without conditions.
-/
import Derived.Deep.Slices
import Derived.Test.YtemcgfncahccgaaGreatCa6
import Derived.Test.YtemcgfncahccgaaGreatCa37
set_option linter.unusedVariables false
set_option linter.unusedSimpArgs false
namespace Go.Proofs.YtemcgfncahccgaaGreat
open Go.ChangeShapes Go.WideShapes Go.ChangeAt Go.RowKit Go.Deep

theorem list_blocks {α : Type} (f : α → List Value) (Pr : α → Prop) (C : Nat) : ∀ (n : Nat) (cs : List Value), cs.length = n * C → (∀ i, i < n → ∃ a, Pr a ∧ (cs.drop (i * C)).take C = f a) → ∃ l : List α, l.length = n ∧ (∀ a ∈ l, Pr a) ∧ cs = l.flatMap f
 | 0, cs, hl, _ => ⟨[], rfl, (fun a h => by cases h), by have h0 : cs = [] := List.eq_nil_of_length_eq_zero (by simpa using hl); rw [h0]; rfl⟩
 | n + 1, cs, hl, h => by
  obtain ⟨a, ha, e⟩ := h 0 (by omega)
  have hl2 : (cs.drop C).length = n * C := by rw [List.length_drop, hl, Nat.succ_mul]; omega
  obtain ⟨l, h1, h2, h3⟩ := list_blocks f Pr C n (cs.drop C) hl2 (fun i hi => by
   obtain ⟨b, hb, e⟩ := h (i + 1) (by omega)
   refine ⟨b, hb, ?_⟩
   rw [List.drop_drop, ← e]
   congr 2
   rw [Nat.succ_mul]
   omega)
  refine ⟨a :: l, by simp [h1], fun b hb => ?_, ?_⟩
  ·rcases List.mem_cons.1 hb with rfl | hb
   ·exact ha
   ·exact h2 b hb
  ·rw [List.flatMap_cons, ← h3, ← e]
   simp
theorem four_list (cs : List Value) (h : cs.length = 4) : ∃ a b c d, cs = [a, b, c, d] := by
 match cs, h with
 | [a, b, c, d], _ => exact ⟨a, b, c, d, rfl⟩
theorem six_list (cs : List Value) (h : cs.length = 6) : ∃ a b c d e f, cs = [a, b, c, d, e, f] := by
 match cs, h with
 | [a, b, c, d, e, f], _ => exact ⟨a, b, c, d, e, f, rfl⟩
section
variable {H : Type} {enc : TypeId × Value → H} {w : World} {base : Nat} {spare : Nat → Bool} {held : Bool} {n : Nat} {cs : List Value} {x : DataW H × List MemPlace}
theorem int_trod {t : TypeId} (ht : Tryz.prog.underlying t = some (.int .i64)) (h : DataW.trod enc Tryz.prog w base spare held n t cs = some x) : ∃ k : Int, cs = [.int .i64 k] ∧ k < 9223372036854775808 := by
 obtain ⟨k, e, _, hw⟩ := DataW.trod_int ht h
 exact ⟨k, e, (i64_lt hw).2⟩
theorem byte_trod (h : DataW.trod enc Tryz.prog w base spare held n 5 cs = some x) : ∃ c : UInt8, cs = [vu8 c] := by
 obtain ⟨k, e, _, hw⟩ := DataW.trod_int Tryz.underlying5 h
 simp [Lit.wf, IntKind.min, IntKind.max, IntKind.signed, IntKind.bits] at hw
 refine ⟨UInt8.ofNat k.toNat, ?_⟩
 rw [e]
 unfold vu8
 rw [UInt8.toNat_ofNat']
 congr 2
 omega
end
theorem pick_list {α : Type} (R : Nat → α → Prop) : ∀ (n : Nat), (∀ i, i < n → ∃ a, R i a) → ∃ l : List α, l.length = n ∧ ∀ i a, l[i]? = some a → R i a
 | 0, _ => ⟨[], rfl, fun i a h => by simp at h⟩
 | n + 1, h => by
  obtain ⟨l, h1, h2⟩ := pick_list R n (fun i hi => h i (by omega))
  obtain ⟨a, ha⟩ := h n (by omega)
  refine ⟨l ++ [a], by simp [h1], fun i b hb => ?_⟩
  rcases Nat.lt_or_ge i n with hi | hi
  ·rw [List.getElem?_append_left (by omega)] at hb
   exact h2 i b hb
  ·rw [List.getElem?_append_right (by omega), h1] at hb
   have : i = n := by
    rcases Nat.lt_or_ge (i - n) 1 with hh | hh
    ·omega
    ·rw [List.getElem?_eq_none (by simpa using hh)] at hb; cases hb
   subst this
   simp at hb
   rw [← hb]
   exact ha
section
variable {H : Type} {enc : TypeId × Value → H} {w : World} {n : Nat} {cs : List Value} {x : DataW H × List MemPlace}
set_option maxRecDepth 100000 in
theorem row_els {T e : TypeId} {C : Nat} (hu : Tryz.prog.underlying T = some (.slice e)) (hC : Tryz.prog.cellsOf e = C) (h0 : 0 < C) (h : DataW.trod enc Tryz.prog w 0 (fun _ => true) true n T cs = some x) :
  ∃ A len cap, cs = [.slice A len cap] ∧ len ≤ maxLen ∧ len ≤ cap ∧ ∀ i, i < len → ∃ g off cs' m y, A = some ⟨g, off, none⟩ ∧ g < w.heap.size ∧ (∀ j u, cs'[j]? = some u → w.cell? ⟨g, off + i * C + j, none⟩ = some u) ∧ DataW.trod enc Tryz.prog w 0 (fun _ => true) true m e cs' = some y := by
 rcases open_slice hu h with ⟨hcs, _⟩ | ⟨a, len, cap, m, k, D, Pl, hcs, hb, hl, hm, hmm, _, hi⟩
 ·exact ⟨none, 0, 0, hcs, Nat.zero_le _, Nat.le_refl _, fun i hi => absurd hi (Nat.not_lt_zero _)⟩
 ·simp at hmm
  refine ⟨some a, len, cap, hcs, by omega, hl, fun i hil => ?_⟩
  obtain ⟨cs', hc, ht⟩ := hi i (by omega)
  rw [hC] at hc
  obtain ⟨_, hlen, hat⟩ := World.cells?_some hc
  obtain ⟨b, off, spot⟩ := a
  have hspot : spot = none := by
   obtain ⟨cs0, hc0, _⟩ := hi 0 (by omega)
   rw [hC] at hc0
   obtain ⟨_, hl0, hat0⟩ := World.cells?_some hc0
   have h00 := hat0 0 h0
   rw [List.getElem?_eq_getElem (by omega)] at h00
   simpa [Addr.add] using World.cell?_spot h00
  subst hspot
  have g : ∀ j, j < C → w.cell? ⟨b, off + i * C + j, none⟩ = cs'[j]? := fun j hj => by
   rw [← hat j hj, Go.WideShapes.add_plain, Go.WideShapes.add_plain]
  have hg0 := g 0 h0
  rw [List.getElem?_eq_getElem (by omega)] at hg0
  refine ⟨b, off, cs', k, _, rfl, block_lt_of_cell hg0, fun j u hj => ?_, ht⟩
  have hjl : j < C := by
   rcases Nat.lt_or_ge j C with hh | hh
   ·exact hh
   ·rw [List.getElem?_eq_none (by omega)] at hj; cases hj
  rw [g j hjl, hj]
end
end Go.Proofs.YtemcgfncahccgaaGreat
namespace Go.Proofs.YtemcgfncahccgaaGreat
open Go.ChangeShapes Go.WideShapes Go.ChangeAt Go.RowKit Go.Deep

section
variable {H : Type} {enc : TypeId × Value → H} {w : World} {base : Nat} {spare : Nat → Bool} {held : Bool} {n : Nat} {cs : List Value} {x : DataW H × List MemPlace}
theorem int_trod64 {t : TypeId} (ht : Tryz.prog.underlying t = some (.int .i64)) (h : DataW.trod enc Tryz.prog w base spare held n t cs = some x) : ∃ k : Int, cs = [.int .i64 k] ∧ I64 k := by
 obtain ⟨k, e, _, hw⟩ := DataW.trod_int ht h
 have h1 := i64_lt hw
 exact ⟨k, e, by omega, by omega⟩
theorem key_trod64 (h : DataW.trod enc Tryz.prog w base spare held n 43 cs = some x) : ∃ k : KeyD, (k.r < 9223372036854775808 ∧ I64 k.v) ∧ cs = k.cells := by
 obtain ⟨xs, m, _, _, hlen, hxl, hg⟩ := DataW.trod_struct Tryz.underlying43 h
 have h6 : cs.length = 6 := hlen.trans cellsOf_key
 have c0 : Tryz.prog.cellsOf 40 = 1 := by kernel_rfl
 have c1 : Tryz.prog.cellsOf 3 = 1 := by kernel_rfl
 have c2 : Tryz.prog.cellsOf 2 = 1 := by kernel_rfl
 have c3 : Tryz.prog.cellsOf 41 = 1 := by kernel_rfl
 have g0 : DataW.trod enc Tryz.prog w base spare held m 40 ((cs.drop 0).take (Tryz.prog.cellsOf 40)) = xs[0]? := hg 0 _ rfl
 have g1 : DataW.trod enc Tryz.prog w base spare held m 3 ((cs.drop 1).take (Tryz.prog.cellsOf 3)) = xs[1]? := hg 1 _ rfl
 have g2 : DataW.trod enc Tryz.prog w base spare held m 2 ((cs.drop 2).take (Tryz.prog.cellsOf 2)) = xs[2]? := hg 2 _ rfl
 have g3 : DataW.trod enc Tryz.prog w base spare held m 2 ((cs.drop 3).take (Tryz.prog.cellsOf 2)) = xs[3]? := hg 3 _ rfl
 have g4 : DataW.trod enc Tryz.prog w base spare held m 41 ((cs.drop 4).take (Tryz.prog.cellsOf 41)) = xs[4]? := hg 4 _ rfl
 have g5 : DataW.trod enc Tryz.prog w base spare held m 2 ((cs.drop 5).take (Tryz.prog.cellsOf 2)) = xs[5]? := hg 5 _ rfl
 have len : 6 = xs.length := by rw [hxl]; rfl
 have ex : ∀ i, i < 6 → ∃ y, xs[i]? = some y := fun i hi => ⟨_, List.getElem?_eq_getElem (by omega)⟩
 obtain ⟨y0, e0⟩ := ex 0 (by omega)
 obtain ⟨y1, e1⟩ := ex 1 (by omega)
 obtain ⟨y2, e2⟩ := ex 2 (by omega)
 obtain ⟨y3, e3⟩ := ex 3 (by omega)
 obtain ⟨y4, e4⟩ := ex 4 (by omega)
 obtain ⟨y5, e5⟩ := ex 5 (by omega)
 rw [e0] at g0; rw [e1] at g1; rw [e2] at g2; rw [e3] at g3; rw [e4] at g4; rw [e5] at g5
 rw [c0] at g0
 rw [c1] at g1
 rw [c2] at g2 g3 g5
 rw [c3] at g4
 obtain ⟨k0, p0, _⟩ := int_trod Tryz.underlying40 g0
 obtain ⟨k1, p1, _⟩ := int_trod Tryz.underlying3 g1
 obtain ⟨k2, p2, _⟩ := int_trod Tryz.underlying2 g2
 obtain ⟨k3, p3, _⟩ := int_trod Tryz.underlying2 g3
 obtain ⟨k4, p4, w4⟩ := int_trod Tryz.underlying41 g4
 obtain ⟨k5, p5, w5⟩ := int_trod64 Tryz.underlying2 g5
 refine ⟨⟨k0, k1, k2, k3, k4, k5⟩, ⟨w4, w5⟩, ?_⟩
 obtain ⟨a, b, c, d, e, f, rfl⟩ := six_list cs h6
 simp only [List.drop_zero, List.drop_succ_cons, List.take_succ_cons, List.take_zero, List.cons.injEq, and_true] at p0 p1 p2 p3 p4 p5
 rw [p0, p1, p2, p3, p4, p5]
 rfl
theorem obj_trod64 (h : DataW.trod enc Tryz.prog w base spare held n 47 cs = some x) : ∃ o : ObjD, (o.ok ∧ rightsOk o ∧ ∀ x ∈ o.slots, I64 x.v) ∧ cs = o.cells := by
 obtain ⟨xs, m, _, _, hlen, hxl, hg⟩ := DataW.trod_struct Tryz.underlying47 h
 have h163 : cs.length = 163 := hlen.trans (by kernel_rfl)
 have c0 : Tryz.prog.cellsOf 39 = 1 := by kernel_rfl
 have c1 : Tryz.prog.cellsOf 2 = 1 := by kernel_rfl
 have c3 : Tryz.prog.cellsOf 44 = 96 := by kernel_rfl
 have c4 : Tryz.prog.cellsOf 45 = 64 := by kernel_rfl
 have c5 : Tryz.prog.cellsOf 5 = 1 := by kernel_rfl
 have g0 : DataW.trod enc Tryz.prog w base spare held m 39 ((cs.drop 0).take (Tryz.prog.cellsOf 39)) = xs[0]? := hg 0 _ rfl
 have g1 : DataW.trod enc Tryz.prog w base spare held m 2 ((cs.drop 1).take (Tryz.prog.cellsOf 2)) = xs[1]? := hg 1 _ rfl
 have g2 : DataW.trod enc Tryz.prog w base spare held m 2 ((cs.drop 2).take (Tryz.prog.cellsOf 2)) = xs[2]? := hg 2 _ rfl
 have g3 : DataW.trod enc Tryz.prog w base spare held m 44 ((cs.drop 3).take (Tryz.prog.cellsOf 44)) = xs[3]? := hg 3 _ rfl
 have g4 : DataW.trod enc Tryz.prog w base spare held m 45 ((cs.drop 99).take (Tryz.prog.cellsOf 45)) = xs[4]? := hg 4 _ rfl
 have len : 5 = xs.length := by rw [hxl]; rfl
 have ex : ∀ i, i < 5 → ∃ y, xs[i]? = some y := fun i hi => ⟨_, List.getElem?_eq_getElem (by omega)⟩
 obtain ⟨y0, e0⟩ := ex 0 (by omega)
 obtain ⟨y1, e1⟩ := ex 1 (by omega)
 obtain ⟨y2, e2⟩ := ex 2 (by omega)
 obtain ⟨y3, e3⟩ := ex 3 (by omega)
 obtain ⟨y4, e4⟩ := ex 4 (by omega)
 rw [e0] at g0; rw [e1] at g1; rw [e2] at g2; rw [e3] at g3; rw [e4] at g4
 rw [c0] at g0
 rw [c1] at g1 g2
 rw [c3] at g3
 rw [c4] at g4
 obtain ⟨k0, p0, _⟩ := int_trod Tryz.underlying39 g0
 obtain ⟨k1, p1, _⟩ := int_trod Tryz.underlying2 g1
 obtain ⟨k2, p2, _⟩ := int_trod Tryz.underlying2 g2
 obtain ⟨zs, m3, _, _, l3, zl, hz⟩ := DataW.trod_array Tryz.underlying44 g3
 obtain ⟨us, m4, _, _, l4, ul, hu⟩ := DataW.trod_array Tryz.underlying45 g4
 simp only [cellsOf_key] at hz
 simp only [c5] at hu
 obtain ⟨ks, k1l, kp, ke⟩ := list_blocks KeyD.cells (fun k => k.r < 9223372036854775808 ∧ I64 k.v) 6 16 _ (l3.trans c3) (fun i hi => by
  have h1 := hz i hi
  rw [List.getElem?_eq_getElem (by omega)] at h1
  exact key_trod64 h1)
 obtain ⟨bs, b1l, _, be⟩ := list_blocks (fun c : UInt8 => [vu8 c]) (fun _ => True) 1 64 _ (l4.trans c4) (fun i hi => by
  have h1 := hu i hi
  rw [List.getElem?_eq_getElem (by omega)] at h1
  obtain ⟨c, hc⟩ := byte_trod h1
  exact ⟨c, trivial, hc⟩)
 refine ⟨⟨k0, k1, k2, ks, bs⟩, ⟨⟨k1l, b1l⟩, fun x hx => (kp x hx).1, fun x hx => (kp x hx).2⟩, ?_⟩
 unfold ObjD.cells slotCells
 simp only
 rw [← ke, show bs.map vu8 = bs.flatMap (fun c => [vu8 c]) by rw [List.map_eq_flatMap], ← be]
 have t : ∀ (l : List Value) (k : Nat), l.take k ++ l.drop k = l := fun l k => List.take_append_drop k l
 have q4 : (cs.drop 99).take 64 = cs.drop 99 := List.take_of_length_le (by rw [List.length_drop, h163]; decide)
 have q3 := t (cs.drop 3) 96
 have q2 := t (cs.drop 2) 1
 have q1 := t (cs.drop 1) 1
 have q0 := t (cs.drop 0) 1
 rw [List.drop_drop] at q3 q2 q1 q0
 rw [p0] at q0
 rw [p1] at q1
 rw [p2] at q2
 rw [q4, show (cs.drop 3).take 96 ++ cs.drop 99 = cs.drop 3 from q3]
 refine q0.symm.trans ?_
 rw [show cs.drop (0 + 1) = cs.drop 1 from rfl, ← q1, show cs.drop (1 + 1) = cs.drop 2 from rfl, ← q2]
 rfl
end
end Go.Proofs.YtemcgfncahccgaaGreat
namespace Go.Proofs.YtemcgfncahccgaaGreat
open Go.ChangeShapes Go.WideShapes Go.ChangeAt Go.RowKit Go.Deep

section
variable {H : Type} {enc : TypeId × Value → H} {w : World} {n : Nat} {cs : List Value} {x : DataW H × List MemPlace}
set_option maxRecDepth 100000 in
theorem ints_trod64 (h : DataW.trod enc Tryz.prog w 0 (fun _ => true) true n 23 cs = some x) : ∃ v l, cs = [v] ∧ IntsIn w w.heap.size v l ∧ ∀ n ∈ l, n ≤ 9223372036854775807 := by
 obtain ⟨A, len, cap, hcs, hm, hl, hi⟩ := row_els (C := 1) Tryz.underlying23 (by kernel_rfl) (by omega) h
 obtain ⟨l, hll, hR⟩ := pick_list (fun i (c : Int) => ∃ g off, A = some ⟨g, off, none⟩ ∧ g < w.heap.size ∧ w.cell? ⟨g, off + i, none⟩ = some (.int .i64 c) ∧ c ≤ 9223372036854775807) len (fun i hil => by
  obtain ⟨g, off, cs', m, y, e1, e2, e3, e4⟩ := hi i hil
  obtain ⟨k, rfl, hk⟩ := int_trod Tryz.underlying3 e4
  exact ⟨k, g, off, e1, e2, by have := e3 0 _ rfl; simpa using this, by omega⟩)
 subst hll
 refine ⟨_, l, hcs, ⟨hm, A, cap, rfl, hl, fun j c hj => ?_⟩, fun n hn => ?_⟩
 ·obtain ⟨g, off, h1, h2, h3, _⟩ := hR j c hj
  exact ⟨g, off, h1, h2, h3⟩
 ·obtain ⟨j, hj⟩ := List.mem_iff_getElem?.1 hn
  obtain ⟨_, _, _, _, _, h4⟩ := hR j n hj
  exact h4
set_option maxRecDepth 100000 in
theorem objs_trod64 (h : DataW.trod enc Tryz.prog w 0 (fun _ => true) true n 22 cs = some x) : ∃ v l, cs = [v] ∧ ObjsIn w w.heap.size v l ∧ ∀ o ∈ l, o.ok ∧ ∀ x ∈ o.slots, I64 x.v := by
 obtain ⟨A, len, cap, hcs, hm, hl, hi⟩ := row_els (C := 163) Tryz.underlying22 (by kernel_rfl) (by omega) h
 obtain ⟨l, hll, hR⟩ := pick_list (fun i (o : ObjD) => (∀ x ∈ o.slots, I64 x.v) ∧ o.ok ∧ rightsOk o ∧ ∃ g off, A = some ⟨g, off, none⟩ ∧ g < w.heap.size ∧ w.rangeAt g (off + i * 163) o.cells) len (fun i hil => by
  obtain ⟨g, off, cs', m, y, e1, e2, e3, e4⟩ := hi i hil
  obtain ⟨o, ⟨ho, hr, hv⟩, rfl⟩ := obj_trod64 e4
  exact ⟨o, hv, ho, hr, g, off, e1, e2, e3⟩)
 subst hll
 refine ⟨_, l, hcs, ⟨hm, A, cap, rfl, hl, fun j o hj => (hR j o hj).2⟩, fun o ho => ?_⟩
 obtain ⟨j, hj⟩ := List.mem_iff_getElem?.1 ho
 exact ⟨(hR j o hj).2.1, (hR j o hj).1⟩
end
end Go.Proofs.YtemcgfncahccgaaGreat
namespace Go.Proofs.YtemcgfncahccgaaGreat
open Go.ChangeShapes Go.WideShapes Go.ChangeAt Go.RowKit Go.Deep

section
variable {H : Type} {enc : TypeId × Value → H} {w : World}
set_option maxRecDepth 100000 in
theorem open_world {r : Reach} {b0 : Nat} {v : Value} {d : DataW H} {p : List MemPlace} (hv : Value.okWide Tryz.prog w r b0 25 v) (h : DataW.Trod enc Tryz.prog w 0 (fun _ => true) true 25 v d p) : ∃ x : WorldD, WArg w v x := by
 obtain ⟨cs, rfl, hsz⟩ := okWide_struct Tryz.underlying25 hv
 obtain ⟨fuel, hf⟩ := h
 obtain ⟨xs, m, _, _, hlen, hxl, hg⟩ := DataW.trod_struct Tryz.underlying25 hf
 have h4 : cs.toList.length = 4 := hlen.trans (by kernel_rfl)
 have c0 : Tryz.prog.cellsOf 22 = 1 := by kernel_rfl
 have c1 : Tryz.prog.cellsOf 3 = 1 := by kernel_rfl
 have c3 : Tryz.prog.cellsOf 23 = 1 := by kernel_rfl
 have g0 : DataW.trod enc Tryz.prog w 0 (fun _ => true) true m 22 ((cs.toList.drop 0).take (Tryz.prog.cellsOf 22)) = xs[0]? := hg 0 _ rfl
 have g1 : DataW.trod enc Tryz.prog w 0 (fun _ => true) true m 3 ((cs.toList.drop 1).take (Tryz.prog.cellsOf 3)) = xs[1]? := hg 1 _ rfl
 have g2 : DataW.trod enc Tryz.prog w 0 (fun _ => true) true m 3 ((cs.toList.drop 2).take (Tryz.prog.cellsOf 3)) = xs[2]? := hg 2 _ rfl
 have g3 : DataW.trod enc Tryz.prog w 0 (fun _ => true) true m 23 ((cs.toList.drop 3).take (Tryz.prog.cellsOf 23)) = xs[3]? := hg 3 _ rfl
 have len : 4 = xs.length := by rw [hxl]; rfl
 have ex : ∀ i, i < 4 → ∃ y, xs[i]? = some y := fun i hi => ⟨_, List.getElem?_eq_getElem (by omega)⟩
 obtain ⟨y0, e0⟩ := ex 0 (by omega)
 obtain ⟨y1, e1⟩ := ex 1 (by omega)
 obtain ⟨y2, e2⟩ := ex 2 (by omega)
 obtain ⟨y3, e3⟩ := ex 3 (by omega)
 rw [e0, c0] at g0
 rw [e1, c1] at g1
 rw [e2, c1] at g2
 rw [e3, c3] at g3
 obtain ⟨vb, lb, p0, h0, h0b⟩ := objs_trod64 g0
 obtain ⟨mo, p1, _⟩ := int_trod Tryz.underlying3 g1
 obtain ⟨ro, p2, _⟩ := int_trod Tryz.underlying3 g2
 obtain ⟨vf, lf, p3, h3, h3b⟩ := ints_trod64 g3
 obtain ⟨a, b, c, d', e⟩ := four_list cs.toList h4
 rw [e] at p0 p1 p2 p3
 have hcs : cs = #[a, b, c, d'] := Array.ext' e
 simp only [List.drop_zero, List.drop_succ_cons, List.take_succ_cons, List.take_zero, List.cons.injEq, and_true] at p0 p1 p2 p3
 refine ⟨⟨lb, mo, ro, lf⟩, ⟨vb, vf, by rw [hcs, p0, p1, p2, p3], h0, h3⟩, fun o ho => ?_, h3b⟩
 obtain ⟨j, hj⟩ := List.mem_iff_getElem?.1 ho
 obtain ⟨_, _, _, _, _, hc⟩ := h0
 exact ⟨(h0b o ho).1, (hc j o hj).2.1, (h0b o ho).2⟩
set_option maxRecDepth 100000 in
theorem open_ints {r : Reach} {b0 : Nat} {v : Value} {d : DataW H} {p : List MemPlace} (hv : Value.okWide Tryz.prog w r b0 23 v) (h : DataW.Trod enc Tryz.prog w 0 (fun _ => true) true 23 v d p) : ∃ l, IntsIn w w.heap.size v l ∧ ∀ n ∈ l, n ≤ 9223372036854775807 := by
 obtain ⟨a0, len, cap, rfl⟩ := okWide_slice Tryz.underlying23 hv
 obtain ⟨fuel, hf⟩ := h
 obtain ⟨v, l, hc, hi, hb⟩ := ints_trod64 hf
 have e : Value.slice a0 len cap = v := by simpa [Value.cells] using hc
 subst e
 exact ⟨l, hi, hb⟩
end
end Go.Proofs.YtemcgfncahccgaaGreat
namespace Go.Proofs.YtemcgfncahccgaaGreat
open Go.ChangeShapes Go.WideShapes Go.ChangeAt Go.RowKit Go.Deep

set_option maxRecDepth 100000 in
theorem cacheGets_lifted (os : Os) (started : os.Started) (H : Type) (enc : TypeId × Value → H) :
  ReturnsInHanded {} Tryz.checked os 5 .any (Rows.cacheGetsSpec.pre6 enc Tryz.prog Tryz.f5 Rows.cacheGetsRow.domain false) (Rows.cacheGetsSpec.post enc Tryz.prog Tryz.f5 false true false false) := by
 refine returnsInHanded_of_change (C := Tryz.checked) own started (by kernel_rfl) Tryz.func5
  (ChangeSpec.witness6 (enc := enc) (C := Tryz.checked) false ⟨#[], #[.agg #[.slice none 0 0, .int .i64 0, .int .i64 0, .slice none 0 0], .slice none 0 0], []⟩ 8 (by kernel_rfl) (by kernel_rfl) (by kernel_rfl) (by kernel_rfl)) ?_
 intro W base args ds gs before hval0 hW hcnd _
 have hval : ∀ (j : Nat) t v, Tryz.f5.params[j]? = some t → args[j]? = some v → Value.okWide Tryz.prog W .any base t v := hval0
 have hW' := hW
 obtain ⟨p, q, hA0, hV, rfl, hfz, hnd⟩ := hW
 have hA : DataW.TrodAll enc Tryz.prog W 0 (fun _ => true) true Tryz.f5.params.toList args.toList ds p := hA0
 rw [Tryz.params5] at hA hval
 obtain ⟨v0, vs0, d0, ds0, p0, q0, hargs, rfl, rfl, h0, hA1⟩ := trodAll_cons hA
 obtain ⟨v1, vs1, d1, ds1, p1, q1, rfl, rfl, rfl, h1, hA2⟩ := trodAll_cons hA1
 obtain ⟨rfl, rfl, rfl⟩ : vs1 = [] ∧ ds1 = [] ∧ q1 = [] := by
  cases vs1 <;> cases ds1 <;> simp [DataW.TrodAll] at hA2
  exact ⟨rfl, rfl, hA2⟩
 obtain rfl : args = #[v0, v1] := Array.ext' hargs
 obtain ⟨rfl, rfl⟩ := trodVars_none hV
 obtain ⟨x, hx⟩ := open_world (hval 0 _ v0 rfl rfl) h0
 obtain ⟨l, hl, _⟩ := open_ints (hval 1 _ v1 rfl rfl) h1
 clear hA0 hval0
 refine (gets17_any x v0 v1 l W hx hl).mono fun e W' ⟨he, hb⟩ => ?_
 subst he
 exact ⟨_, rfl, law_post laidOut (by rw [Tryz.params5]; intro t ht; simp at ht; rcases ht with rfl | rfl <;> exact ⟨by kernel_rfl, of_decide_eq_true (by kernel_rfl)⟩) rfl Tryz.underlying4 rfl hW' rfl hb⟩

theorem cacheGets_holds : Rows.CacheGetsSaid :=
 OpenClaim.holds_of_wide 5 Tryz.f5 rfl rfl rfl rfl rfl rfl rfl ⟨rfl, rfl, rfl, rfl, rfl⟩ rfl rfl rfl rfl rfl (by kernel_rfl) Tryz.func5 (by kernel_rfl)
  (of_decide_eq_true (by kernel_rfl)) (by unfold Func.isWrapper; first | (rw [if_pos (by decide +kernel)]; kernel_rfl) | (rw [if_neg (by decide +kernel)]; exact ⟨rfl, rfl⟩))
  (fun os started H enc _ => cacheGets_lifted os started H enc)

end Go.Proofs.YtemcgfncahccgaaGreat
