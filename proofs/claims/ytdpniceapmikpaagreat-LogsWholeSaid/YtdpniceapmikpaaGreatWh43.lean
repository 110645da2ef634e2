/-
  From a walk to a law's row: a call that answers true and turns nothing that was there; for all arguments.
  Opening a frame: from its data to lists in memory.
  Opening an object: its numbers are within 64 bits.
  Opening a frame and the law's disk: their numbers are within 64 bits.
  Opening the argument of LogsWhole: an area, a crash, bits.
  LogsWhole: for every input the law answers true, and its arguments read as they did; without conditions.
-/
import Derived.Test.YtdpniceapmikpaaGreatRows
import Derived.WalkKit
import Derived.ProofKit
import Derived.OpenShut
import Derived.Below
import Derived.ChangeSame
import Derived.Deep.Fields
import Derived.Deep.Slices
import Derived.Test.YtdpniceapmikpaaGreatWh7
import Derived.Test.YtdpniceapmikpaaGreatWh33
import Derived.Test.YtdpniceapmikpaaGreatWh42
set_option linter.unusedVariables false
set_option linter.unusedSimpArgs false
namespace Go.Proofs.YtdpniceapmikpaaGreat
open Go.ChangeShapes Go.WideShapes Go.ChangeAt Go.RowKit Go.Deep

section
variable {H : Type} {enc : TypeId × Value → H} {P : Program}

/-- arguments read as they read, behind a call that turned nothing below -/
theorem trodAll_stays (hl : laidOutB P = true) {W W' : World} (hb : Below W.heap.size W W') {sp : Nat → Bool} :
  ∀ {ts : List TypeId} {vs : List Value} {ds : List (DataW H)} {ps : List MemPlace}, (∀ t ∈ ts, P.readableRec t = true ∧ t < P.types.size) →
   DataW.TrodAll enc P W 0 (fun _ => true) true ts vs ds ps → (∀ p ∈ ps, p.block < W.heap.size) → (∀ p ∈ ps, sp p.block = true) → DataW.TrodAll enc P W' 0 sp true ts vs ds ps
 | [], vs, ds, ps, _, h, _, _ => by
  obtain ⟨rfl, rfl, rfl⟩ := trodAll_nil h
  exact trodAll_mk0
 | t :: ts, vs, ds, ps, ht, h, hlt, hsp => by
  obtain ⟨v, vs', d, ds', p, q, rfl, rfl, rfl, h1, h2⟩ := trodAll_cons h
  have hp : ∀ x ∈ p, x.block < W.heap.size := fun x hx => hlt x (List.mem_append_left _ hx)
  exact trodAll_cons_mk (WideElems.Trod_stays hl (ht t (List.mem_cons_self ..)).1 (ht t (List.mem_cons_self ..)).2 h1 (fun x hx => hb.same (hp x hx)) (fun x hx => hsp x (List.mem_append_left _ hx)))
   (trodAll_stays hl hb (fun u hu => ht u (List.mem_cons_of_mem _ hu)) h2 (fun x hx => hlt x (List.mem_append_right _ hx)) (fun x hx => hsp x (List.mem_append_right _ hx)))

theorem law_post (hl : laidOutB P = true) {f : Func} {s : ChangeSpec} {T : TypeId} (hts : ∀ t ∈ f.params.toList, P.readableRec t = true ∧ t < P.types.size) (hres : f.resultTypes = #[T]) (hT : P.underlying T = some .bool)
  (hvars : s.vars = []) {W W' : World} {args : Array Value} {ds gs : List (DataW H)} {before : List MemPlace} (hW : DataW.Whole enc P f.params.toList s.vars false W args.toList ds gs before)
  (hfn : s.fn H (ds ++ gs) = { results := [.lit (.bool true)], args := ds }) (hb : Below W.heap.size W W') : s.post enc P f false true false false W args (.bool true) W' := by
 have hlt : ∀ p ∈ before, p.block < W.heap.size := fun p hp => hW.lt p hp
 have hold : ∀ p ∈ before, (fun b => decide (b < W.heap.size)) p.block = true := fun p hp => by simpa using hlt p hp
 have hW' := hW
 obtain ⟨p, q, hA, hV, rfl, hz, hn⟩ := hW
 rw [hvars] at hV
 obtain ⟨rfl, rfl⟩ := trodVars_none hV
 refine ⟨ds, [], p ++ [], [], p, [], hW', ?_, ?_, ?_, World.keptBut_mono (fun x hx => ⟨hx, ?_⟩) (hb.frame (· ∈ p ++ [])), fun h => by cases h⟩
 ·rw [hfn, hres]
  exact trodAll_mk1 (shut_bool hT _)
 ·rw [hfn]
  exact trodAll_stays hl hb hts hA (fun x hx => hlt x (List.mem_append_left _ hx)) (fun x hx => hold x (List.mem_append_left _ hx))
 ·rw [hfn, hvars]
  exact rfl
 ·simpa using hx
end

section
variable {H : Type} {enc : TypeId × Value → H} {P : Program} {w : World} {base : Nat} {spare : Nat → Bool} {held : Bool}
theorem all_nums (kd : IntKind) : ∀ (m : Nat) (l : List Value), l.length = m → (∀ j, j < m → ∃ x, l[j]? = some (Value.int kd x) ∧ (Lit.int kd x).wf = true) → ∃ ns : List Int, ns.length = m ∧ l = ns.map (Value.int kd) ∧ ∀ x ∈ ns, (Lit.int kd x).wf = true := by
 intro m
 induction m with
 | zero => intro l hl _; exact ⟨[], rfl, List.eq_nil_of_length_eq_zero hl, fun x hx => by cases hx⟩
 | succ m ih =>
  intro l hl h
  cases l with
  | nil => cases hl
  | cons a l =>
   obtain ⟨x, hx, wx⟩ := h 0 (by omega)
   obtain ⟨ns, h1, h2, h3⟩ := ih l (by simpa using hl) (fun j hj => by simpa using h (j + 1) (by omega))
   simp only [List.getElem?_cons_zero, Option.some.injEq] at hx
   exact ⟨x :: ns, by simp [h1], by rw [hx, h2]; rfl, fun y hy => by
    cases List.mem_cons.1 hy with
    | inl e => rw [e]; exact wx
    | inr e => exact h3 y e⟩

/-- the cells of a struct of whole numbers of one kind -/
theorem nums_cells {t : TypeId} {fs : Array Field} {kd : IntKind} {n : Nat} {cs : List Value} {x : DataW H × List MemPlace} (hs : P.underlying t = some (.struct fs)) (hone : oneCellFields P fs = true) (hC : P.cellsOf t = fs.size)
  (hk : ∀ (j : Nat) (f : Field), fs[j]? = some f → P.underlying f.type = some (.int kd)) (h : DataW.trod enc P w base spare held n t cs = some x) :
  ∃ l : List Int, l.length = fs.size ∧ cs = l.map (Value.int kd) ∧ ∀ x ∈ l, (Lit.int kd x).wf = true := by
 obtain ⟨xs, n, _, _, hlen, hxl, hg⟩ := DataW.trod_struct hs h
 have hl : cs.length = fs.size := by rw [hlen, hC]
 have key : ∀ j, j < fs.size → ∃ x, cs[j]? = some (Value.int kd x) ∧ (Lit.int kd x).wf = true := by
  intro j hj
  have hfj : fs[j]? = some fs[j] := Array.getElem?_eq_getElem hj
  obtain ⟨ho, hk1⟩ := hone_of hone j _ hfj
  have h1 := hg j _ hfj
  rw [ho, hk1] at h1
  have hone' : (cs.drop j).take 1 = [cs[j]'(by omega)] := by
   rw [List.drop_eq_getElem_cons (by omega)]
   rfl
  rw [hone'] at h1
  have hx : xs[j]? = some (xs[j]'(by omega)) := List.getElem?_eq_getElem (by omega)
  rw [hx] at h1
  obtain ⟨x, hx1, _, hx3⟩ := DataW.trod_int (hk j _ hfj) h1
  simp only [List.cons.injEq, and_true] at hx1
  exact ⟨x, by rw [List.getElem?_eq_getElem (by omega), hx1], hx3⟩
 exact all_nums kd fs.size cs hl key

/-- a struct of whole numbers of one kind, by value: its cells -/
theorem open_nums {r : Reach} {b0 : Nat} {t : TypeId} {fs : Array Field} {kd : IntKind} {v : Value} {d : DataW H} {p : List MemPlace} (hs : P.underlying t = some (.struct fs)) (hone : oneCellFields P fs = true) (hC : P.cellsOf t = fs.size)
  (hk : ∀ (j : Nat) (f : Field), fs[j]? = some f → P.underlying f.type = some (.int kd)) (hv : Value.okWide P w r b0 t v) (h : DataW.Trod enc P w base spare held t v d p) :
  ∃ l : List Int, l.length = fs.size ∧ v = .agg (l.map (Value.int kd)).toArray ∧ ∀ x ∈ l, (Lit.int kd x).wf = true := by
 obtain ⟨cs, rfl, hsz⟩ := okWide_struct hs hv
 obtain ⟨fuel, hf⟩ := h
 obtain ⟨l, h1, h2, h3⟩ := nums_cells hs hone hC hk hf
 refine ⟨l, h1, ?_, h3⟩
 simp only [Value.cells] at h2
 rw [← h2]

theorem i64_lt {x : Int} (h : (Lit.int .i64 x).wf = true) : -9223372036854775808 ≤ x ∧ x < 9223372036854775808 := by
 simp [Lit.wf, IntKind.min, IntKind.max, IntKind.signed, IntKind.bits] at h
 omega
end

theorem own : ownKnob Tryz.prog.godebug = none := by kernel_rfl
theorem laidOut : laidOutB Tryz.prog = true := by kernel_rfl
end Go.Proofs.YtdpniceapmikpaaGreat
namespace Go.Proofs.YtdpniceapmikpaaGreat
open Go.ChangeShapes Go.WideShapes Go.ChangeAt Go.RowKit Go.Deep

theorem list_blocks {α : Type} (f : α → List Value) (Pr : α → Prop) (C : Nat) : ∀ (n : Nat) (cs : List Value), cs.length = n * C → (∀ i, i < n → ∃ a, Pr a ∧ (cs.drop (i * C)).take C = f a) → ∃ l : List α, l.length = n ∧ (∀ a ∈ l, Pr a) ∧ cs = l.flatMap f
 | 0, cs, hl, _ => ⟨[], rfl, (fun a h => by cases h), by have h0 : cs = [] := List.eq_nil_of_length_eq_zero (by simpa using hl); rw [h0]; rfl⟩
 | n + 1, cs, hl, h => by
  obtain ⟨a, ha, e⟩ := h 0 (by omega)
  have hl2 : (cs.drop C).length = n * C := by rw [List.length_drop, hl, Nat.succ_mul]; omega
  obtain ⟨l, h1, h2, h3⟩ := list_blocks f Pr C n (cs.drop C) hl2 (fun i hi => by
   obtain ⟨b, hb, e⟩ := h (i + 1) (by omega)
   refine ⟨b, hb, ?_⟩
   rw [List.drop_drop, ← e]
   congr 2
   rw [Nat.succ_mul]
   omega)
  refine ⟨a :: l, by simp [h1], fun b hb => ?_, ?_⟩
  ·rcases List.mem_cons.1 hb with rfl | hb
   ·exact ha
   ·exact h2 b hb
  ·rw [List.flatMap_cons, ← h3, ← e]
   simp
theorem four_list (cs : List Value) (h : cs.length = 4) : ∃ a b c d, cs = [a, b, c, d] := by
 match cs, h with
 | [a, b, c, d], _ => exact ⟨a, b, c, d, rfl⟩
theorem six_list (cs : List Value) (h : cs.length = 6) : ∃ a b c d e f, cs = [a, b, c, d, e, f] := by
 match cs, h with
 | [a, b, c, d, e, f], _ => exact ⟨a, b, c, d, e, f, rfl⟩
section
variable {H : Type} {enc : TypeId × Value → H} {w : World} {base : Nat} {spare : Nat → Bool} {held : Bool} {n : Nat} {cs : List Value} {x : DataW H × List MemPlace}
theorem int_trod {t : TypeId} (ht : Tryz.prog.underlying t = some (.int .i64)) (h : DataW.trod enc Tryz.prog w base spare held n t cs = some x) : ∃ k : Int, cs = [.int .i64 k] ∧ k < 9223372036854775808 := by
 obtain ⟨k, e, _, hw⟩ := DataW.trod_int ht h
 exact ⟨k, e, (i64_lt hw).2⟩
theorem byte_trod (h : DataW.trod enc Tryz.prog w base spare held n 5 cs = some x) : ∃ c : UInt8, cs = [vu8 c] := by
 obtain ⟨k, e, _, hw⟩ := DataW.trod_int Tryz.underlying5 h
 simp [Lit.wf, IntKind.min, IntKind.max, IntKind.signed, IntKind.bits] at hw
 refine ⟨UInt8.ofNat k.toNat, ?_⟩
 rw [e]
 unfold vu8
 rw [UInt8.toNat_ofNat']
 congr 2
 omega
end
theorem pick_list {α : Type} (R : Nat → α → Prop) : ∀ (n : Nat), (∀ i, i < n → ∃ a, R i a) → ∃ l : List α, l.length = n ∧ ∀ i a, l[i]? = some a → R i a
 | 0, _ => ⟨[], rfl, fun i a h => by simp at h⟩
 | n + 1, h => by
  obtain ⟨l, h1, h2⟩ := pick_list R n (fun i hi => h i (by omega))
  obtain ⟨a, ha⟩ := h n (by omega)
  refine ⟨l ++ [a], by simp [h1], fun i b hb => ?_⟩
  rcases Nat.lt_or_ge i n with hi | hi
  ·rw [List.getElem?_append_left (by omega)] at hb
   exact h2 i b hb
  ·rw [List.getElem?_append_right (by omega), h1] at hb
   have : i = n := by
    rcases Nat.lt_or_ge (i - n) 1 with hh | hh
    ·omega
    ·rw [List.getElem?_eq_none (by simpa using hh)] at hb; cases hb
   subst this
   simp at hb
   rw [← hb]
   exact ha
section
variable {H : Type} {enc : TypeId × Value → H} {w : World} {n : Nat} {cs : List Value} {x : DataW H × List MemPlace}
set_option maxRecDepth 100000 in
theorem row_els {T e : TypeId} {C : Nat} (hu : Tryz.prog.underlying T = some (.slice e)) (hC : Tryz.prog.cellsOf e = C) (h0 : 0 < C) (h : DataW.trod enc Tryz.prog w 0 (fun _ => true) true n T cs = some x) :
  ∃ A len cap, cs = [.slice A len cap] ∧ len ≤ maxLen ∧ len ≤ cap ∧ ∀ i, i < len → ∃ g off cs' m y, A = some ⟨g, off, none⟩ ∧ g < w.heap.size ∧ (∀ j u, cs'[j]? = some u → w.cell? ⟨g, off + i * C + j, none⟩ = some u) ∧ DataW.trod enc Tryz.prog w 0 (fun _ => true) true m e cs' = some y := by
 rcases open_slice hu h with ⟨hcs, _⟩ | ⟨a, len, cap, m, k, D, Pl, hcs, hb, hl, hm, hmm, _, hi⟩
 ·exact ⟨none, 0, 0, hcs, Nat.zero_le _, Nat.le_refl _, fun i hi => absurd hi (Nat.not_lt_zero _)⟩
 ·simp at hmm
  refine ⟨some a, len, cap, hcs, by omega, hl, fun i hil => ?_⟩
  obtain ⟨cs', hc, ht⟩ := hi i (by omega)
  rw [hC] at hc
  obtain ⟨_, hlen, hat⟩ := World.cells?_some hc
  obtain ⟨b, off, spot⟩ := a
  have hspot : spot = none := by
   obtain ⟨cs0, hc0, _⟩ := hi 0 (by omega)
   rw [hC] at hc0
   obtain ⟨_, hl0, hat0⟩ := World.cells?_some hc0
   have h00 := hat0 0 h0
   rw [List.getElem?_eq_getElem (by omega)] at h00
   simpa [Addr.add] using World.cell?_spot h00
  subst hspot
  have g : ∀ j, j < C → w.cell? ⟨b, off + i * C + j, none⟩ = cs'[j]? := fun j hj => by
   rw [← hat j hj, Go.WideShapes.add_plain, Go.WideShapes.add_plain]
  have hg0 := g 0 h0
  rw [List.getElem?_eq_getElem (by omega)] at hg0
  refine ⟨b, off, cs', k, _, rfl, block_lt_of_cell hg0, fun j u hj => ?_, ht⟩
  have hjl : j < C := by
   rcases Nat.lt_or_ge j C with hh | hh
   ·exact hh
   ·rw [List.getElem?_eq_none (by omega)] at hj; cases hj
  rw [g j hjl, hj]
set_option maxRecDepth 100000 in
theorem ints_trod (h : DataW.trod enc Tryz.prog w 0 (fun _ => true) true n 24 cs = some x) : ∃ v l, cs = [v] ∧ IntsIn w w.heap.size v l := by
 obtain ⟨A, len, cap, hcs, hm, hl, hi⟩ := row_els (C := 1) Tryz.underlying24 (by kernel_rfl) (by omega) h
 obtain ⟨l, hll, hR⟩ := pick_list (fun i (c : Int) => ∃ g off, A = some ⟨g, off, none⟩ ∧ g < w.heap.size ∧ w.cell? ⟨g, off + i, none⟩ = some (.int .i64 c)) len (fun i hil => by
  obtain ⟨g, off, cs', m, y, e1, e2, e3, e4⟩ := hi i hil
  obtain ⟨k, rfl, _⟩ := int_trod Tryz.underlying3 e4
  exact ⟨k, g, off, e1, e2, by have := e3 0 _ rfl; simpa using this⟩)
 subst hll
 exact ⟨_, l, hcs, hm, A, cap, rfl, hl, fun j c hj => hR j c hj⟩
set_option maxRecDepth 100000 in
theorem bytes_trod (h : DataW.trod enc Tryz.prog w 0 (fun _ => true) true n 26 cs = some x) : ∃ v l, cs = [v] ∧ BytesIn w w.heap.size v l := by
 obtain ⟨A, len, cap, hcs, hm, hl, hi⟩ := row_els (C := 1) Tryz.underlying26 (by kernel_rfl) (by omega) h
 obtain ⟨l, hll, hR⟩ := pick_list (fun i (c : UInt8) => ∃ g off, A = some ⟨g, off, none⟩ ∧ g < w.heap.size ∧ w.cell? ⟨g, off + i, none⟩ = some (vu8 c)) len (fun i hil => by
  obtain ⟨g, off, cs', m, y, e1, e2, e3, e4⟩ := hi i hil
  obtain ⟨k, rfl⟩ := byte_trod e4
  exact ⟨k, g, off, e1, e2, by have := e3 0 _ rfl; simpa using this⟩)
 subst hll
 exact ⟨_, l, hcs, hm, A, cap, rfl, hl, fun j c hj => hR j c hj⟩
end
end Go.Proofs.YtdpniceapmikpaaGreat
namespace Go.Proofs.YtdpniceapmikpaaGreat
open Go.ChangeShapes Go.WideShapes Go.ChangeAt Go.RowKit Go.Deep

section
variable {H : Type} {enc : TypeId × Value → H} {w : World} {base : Nat} {spare : Nat → Bool} {held : Bool} {n : Nat} {cs : List Value} {x : DataW H × List MemPlace}
theorem int_trod64 {t : TypeId} (ht : Tryz.prog.underlying t = some (.int .i64)) (h : DataW.trod enc Tryz.prog w base spare held n t cs = some x) : ∃ k : Int, cs = [.int .i64 k] ∧ I64 k := by
 obtain ⟨k, e, _, hw⟩ := DataW.trod_int ht h
 have h1 := i64_lt hw
 exact ⟨k, e, by omega, by omega⟩
theorem key_trod64 (h : DataW.trod enc Tryz.prog w base spare held n 58 cs = some x) : ∃ k : KeyD, (k.r < 9223372036854775808 ∧ I64 k.v) ∧ cs = k.cells := by
 obtain ⟨xs, m, _, _, hlen, hxl, hg⟩ := DataW.trod_struct Tryz.underlying58 h
 have h6 : cs.length = 6 := hlen.trans cellsOf_key
 have c0 : Tryz.prog.cellsOf 55 = 1 := by kernel_rfl
 have c1 : Tryz.prog.cellsOf 3 = 1 := by kernel_rfl
 have c2 : Tryz.prog.cellsOf 2 = 1 := by kernel_rfl
 have c3 : Tryz.prog.cellsOf 56 = 1 := by kernel_rfl
 have g0 : DataW.trod enc Tryz.prog w base spare held m 55 ((cs.drop 0).take (Tryz.prog.cellsOf 55)) = xs[0]? := hg 0 _ rfl
 have g1 : DataW.trod enc Tryz.prog w base spare held m 3 ((cs.drop 1).take (Tryz.prog.cellsOf 3)) = xs[1]? := hg 1 _ rfl
 have g2 : DataW.trod enc Tryz.prog w base spare held m 2 ((cs.drop 2).take (Tryz.prog.cellsOf 2)) = xs[2]? := hg 2 _ rfl
 have g3 : DataW.trod enc Tryz.prog w base spare held m 2 ((cs.drop 3).take (Tryz.prog.cellsOf 2)) = xs[3]? := hg 3 _ rfl
 have g4 : DataW.trod enc Tryz.prog w base spare held m 56 ((cs.drop 4).take (Tryz.prog.cellsOf 56)) = xs[4]? := hg 4 _ rfl
 have g5 : DataW.trod enc Tryz.prog w base spare held m 2 ((cs.drop 5).take (Tryz.prog.cellsOf 2)) = xs[5]? := hg 5 _ rfl
 have len : 6 = xs.length := by rw [hxl]; rfl
 have ex : ∀ i, i < 6 → ∃ y, xs[i]? = some y := fun i hi => ⟨_, List.getElem?_eq_getElem (by omega)⟩
 obtain ⟨y0, e0⟩ := ex 0 (by omega)
 obtain ⟨y1, e1⟩ := ex 1 (by omega)
 obtain ⟨y2, e2⟩ := ex 2 (by omega)
 obtain ⟨y3, e3⟩ := ex 3 (by omega)
 obtain ⟨y4, e4⟩ := ex 4 (by omega)
 obtain ⟨y5, e5⟩ := ex 5 (by omega)
 rw [e0] at g0; rw [e1] at g1; rw [e2] at g2; rw [e3] at g3; rw [e4] at g4; rw [e5] at g5
 rw [c0] at g0
 rw [c1] at g1
 rw [c2] at g2 g3 g5
 rw [c3] at g4
 obtain ⟨k0, p0, _⟩ := int_trod Tryz.underlying55 g0
 obtain ⟨k1, p1, _⟩ := int_trod Tryz.underlying3 g1
 obtain ⟨k2, p2, _⟩ := int_trod Tryz.underlying2 g2
 obtain ⟨k3, p3, _⟩ := int_trod Tryz.underlying2 g3
 obtain ⟨k4, p4, w4⟩ := int_trod Tryz.underlying56 g4
 obtain ⟨k5, p5, w5⟩ := int_trod64 Tryz.underlying2 g5
 refine ⟨⟨k0, k1, k2, k3, k4, k5⟩, ⟨w4, w5⟩, ?_⟩
 obtain ⟨a, b, c, d, e, f, rfl⟩ := six_list cs h6
 simp only [List.drop_zero, List.drop_succ_cons, List.take_succ_cons, List.take_zero, List.cons.injEq, and_true] at p0 p1 p2 p3 p4 p5
 rw [p0, p1, p2, p3, p4, p5]
 rfl
theorem obj_trod64 (h : DataW.trod enc Tryz.prog w base spare held n 62 cs = some x) : ∃ o : ObjD, (o.ok ∧ rightsOk o ∧ ∀ x ∈ o.slots, I64 x.v) ∧ cs = o.cells := by
 obtain ⟨xs, m, _, _, hlen, hxl, hg⟩ := DataW.trod_struct Tryz.underlying62 h
 have h163 : cs.length = 163 := hlen.trans (by kernel_rfl)
 have c0 : Tryz.prog.cellsOf 54 = 1 := by kernel_rfl
 have c1 : Tryz.prog.cellsOf 2 = 1 := by kernel_rfl
 have c3 : Tryz.prog.cellsOf 59 = 96 := by kernel_rfl
 have c4 : Tryz.prog.cellsOf 60 = 64 := by kernel_rfl
 have c5 : Tryz.prog.cellsOf 5 = 1 := by kernel_rfl
 have g0 : DataW.trod enc Tryz.prog w base spare held m 54 ((cs.drop 0).take (Tryz.prog.cellsOf 54)) = xs[0]? := hg 0 _ rfl
 have g1 : DataW.trod enc Tryz.prog w base spare held m 2 ((cs.drop 1).take (Tryz.prog.cellsOf 2)) = xs[1]? := hg 1 _ rfl
 have g2 : DataW.trod enc Tryz.prog w base spare held m 2 ((cs.drop 2).take (Tryz.prog.cellsOf 2)) = xs[2]? := hg 2 _ rfl
 have g3 : DataW.trod enc Tryz.prog w base spare held m 59 ((cs.drop 3).take (Tryz.prog.cellsOf 59)) = xs[3]? := hg 3 _ rfl
 have g4 : DataW.trod enc Tryz.prog w base spare held m 60 ((cs.drop 99).take (Tryz.prog.cellsOf 60)) = xs[4]? := hg 4 _ rfl
 have len : 5 = xs.length := by rw [hxl]; rfl
 have ex : ∀ i, i < 5 → ∃ y, xs[i]? = some y := fun i hi => ⟨_, List.getElem?_eq_getElem (by omega)⟩
 obtain ⟨y0, e0⟩ := ex 0 (by omega)
 obtain ⟨y1, e1⟩ := ex 1 (by omega)
 obtain ⟨y2, e2⟩ := ex 2 (by omega)
 obtain ⟨y3, e3⟩ := ex 3 (by omega)
 obtain ⟨y4, e4⟩ := ex 4 (by omega)
 rw [e0] at g0; rw [e1] at g1; rw [e2] at g2; rw [e3] at g3; rw [e4] at g4
 rw [c0] at g0
 rw [c1] at g1 g2
 rw [c3] at g3
 rw [c4] at g4
 obtain ⟨k0, p0, _⟩ := int_trod Tryz.underlying54 g0
 obtain ⟨k1, p1, _⟩ := int_trod Tryz.underlying2 g1
 obtain ⟨k2, p2, _⟩ := int_trod Tryz.underlying2 g2
 obtain ⟨zs, m3, _, _, l3, zl, hz⟩ := DataW.trod_array Tryz.underlying59 g3
 obtain ⟨us, m4, _, _, l4, ul, hu⟩ := DataW.trod_array Tryz.underlying60 g4
 simp only [cellsOf_key] at hz
 simp only [c5] at hu
 obtain ⟨ks, k1l, kp, ke⟩ := list_blocks KeyD.cells (fun k => k.r < 9223372036854775808 ∧ I64 k.v) 6 16 _ (l3.trans c3) (fun i hi => by
  have h1 := hz i hi
  rw [List.getElem?_eq_getElem (by omega)] at h1
  exact key_trod64 h1)
 obtain ⟨bs, b1l, _, be⟩ := list_blocks (fun c : UInt8 => [vu8 c]) (fun _ => True) 1 64 _ (l4.trans c4) (fun i hi => by
  have h1 := hu i hi
  rw [List.getElem?_eq_getElem (by omega)] at h1
  obtain ⟨c, hc⟩ := byte_trod h1
  exact ⟨c, trivial, hc⟩)
 refine ⟨⟨k0, k1, k2, ks, bs⟩, ⟨⟨k1l, b1l⟩, fun x hx => (kp x hx).1, fun x hx => (kp x hx).2⟩, ?_⟩
 unfold ObjD.cells slotCells
 simp only
 rw [← ke, show bs.map vu8 = bs.flatMap (fun c => [vu8 c]) by rw [List.map_eq_flatMap], ← be]
 have t : ∀ (l : List Value) (k : Nat), l.take k ++ l.drop k = l := fun l k => List.take_append_drop k l
 have q4 : (cs.drop 99).take 64 = cs.drop 99 := List.take_of_length_le (by rw [List.length_drop, h163]; decide)
 have q3 := t (cs.drop 3) 96
 have q2 := t (cs.drop 2) 1
 have q1 := t (cs.drop 1) 1
 have q0 := t (cs.drop 0) 1
 rw [List.drop_drop] at q3 q2 q1 q0
 rw [p0] at q0
 rw [p1] at q1
 rw [p2] at q2
 rw [q4, show (cs.drop 3).take 96 ++ cs.drop 99 = cs.drop 3 from q3]
 refine q0.symm.trans ?_
 rw [show cs.drop (0 + 1) = cs.drop 1 from rfl, ← q1, show cs.drop (1 + 1) = cs.drop 2 from rfl, ← q2]
 rfl
end
end Go.Proofs.YtdpniceapmikpaaGreat
namespace Go.Proofs.YtdpniceapmikpaaGreat
open Go.ChangeShapes Go.WideShapes Go.ChangeAt Go.RowKit Go.Deep

section
variable {H : Type} {enc : TypeId × Value → H} {w : World} {n : Nat} {cs : List Value} {x : DataW H × List MemPlace}
theorem bytes_cap (h : DataW.trod enc Tryz.prog w 0 (fun _ => true) true n 26 cs = some x) (a : Option Addr) (k c : Nat) (e : (cs.drop 0) = [.slice a k c] ∨ cs = [.slice a k c]) : c ≤ maxLen := by
 have e' : cs = [.slice a k c] := by
  rcases e with e | e
  ·simpa using e
  ·exact e
 rcases open_slice Tryz.underlying26 h with ⟨hcs, _⟩ | ⟨a', len', cap', m, k', D, Pl, hcs, _, _, hm, _⟩
 ·rw [e'] at hcs
  simp at hcs
  omega
 ·rw [e'] at hcs
  simp at hcs
  omega
set_option maxRecDepth 100000 in
theorem objs_trod64 (h : DataW.trod enc Tryz.prog w 0 (fun _ => true) true n 25 cs = some x) : ∃ v l, cs = [v] ∧ ObjsIn w w.heap.size v l ∧ ∀ o ∈ l, o.ok ∧ ∀ x ∈ o.slots, I64 x.v := by
 obtain ⟨A, len, cap, hcs, hm, hl, hi⟩ := row_els (C := 163) Tryz.underlying25 (by kernel_rfl) (by omega) h
 obtain ⟨l, hll, hR⟩ := pick_list (fun i (o : ObjD) => (∀ x ∈ o.slots, I64 x.v) ∧ o.ok ∧ rightsOk o ∧ ∃ g off, A = some ⟨g, off, none⟩ ∧ g < w.heap.size ∧ w.rangeAt g (off + i * 163) o.cells) len (fun i hil => by
  obtain ⟨g, off, cs', m, y, e1, e2, e3, e4⟩ := hi i hil
  obtain ⟨o, ⟨ho, hr, hv⟩, rfl⟩ := obj_trod64 e4
  exact ⟨o, hv, ho, hr, g, off, e1, e2, e3⟩)
 subst hll
 refine ⟨_, l, hcs, ⟨hm, A, cap, rfl, hl, fun j o hj => (hR j o hj).2⟩, fun o ho => ?_⟩
 obtain ⟨j, hj⟩ := List.mem_iff_getElem?.1 ho
 exact ⟨(hR j o hj).2.1, (hR j o hj).1⟩
set_option maxRecDepth 100000 in
theorem open_frame64 {r : Reach} {b0 : Nat} {v : Value} {d : DataW H} {p : List MemPlace} (hv : Value.okWide Tryz.prog w r b0 28 v) (h : DataW.Trod enc Tryz.prog w 0 (fun _ => true) true 28 v d p) : ∃ f, FrameIn w w.heap.size v f ∧ (∀ a c, (∃ x y z, v = .agg #[x, y, z, .slice a f.state.length c]) → c ≤ maxLen) ∧ f.ed ≤ 9223372036854775807 ∧ ∀ o ∈ f.objs, o.ok ∧ ∀ x ∈ o.slots, I64 x.v := by
 obtain ⟨cs, rfl, hsz⟩ := okWide_struct Tryz.underlying28 hv
 obtain ⟨fuel, hf⟩ := h
 obtain ⟨xs, m, _, _, hlen, hxl, hg⟩ := DataW.trod_struct Tryz.underlying28 hf
 have h4 : cs.toList.length = 4 := hlen.trans (by kernel_rfl)
 have c0 : Tryz.prog.cellsOf 2 = 1 := by kernel_rfl
 have c1 : Tryz.prog.cellsOf 24 = 1 := by kernel_rfl
 have c2 : Tryz.prog.cellsOf 25 = 1 := by kernel_rfl
 have c3 : Tryz.prog.cellsOf 26 = 1 := by kernel_rfl
 have g0 : DataW.trod enc Tryz.prog w 0 (fun _ => true) true m 2 ((cs.toList.drop 0).take (Tryz.prog.cellsOf 2)) = xs[0]? := hg 0 _ rfl
 have g1 : DataW.trod enc Tryz.prog w 0 (fun _ => true) true m 24 ((cs.toList.drop 1).take (Tryz.prog.cellsOf 24)) = xs[1]? := hg 1 _ rfl
 have g2 : DataW.trod enc Tryz.prog w 0 (fun _ => true) true m 25 ((cs.toList.drop 2).take (Tryz.prog.cellsOf 25)) = xs[2]? := hg 2 _ rfl
 have g3 : DataW.trod enc Tryz.prog w 0 (fun _ => true) true m 26 ((cs.toList.drop 3).take (Tryz.prog.cellsOf 26)) = xs[3]? := hg 3 _ rfl
 have len : 4 = xs.length := by rw [hxl]; rfl
 have ex : ∀ i, i < 4 → ∃ y, xs[i]? = some y := fun i hi => ⟨_, List.getElem?_eq_getElem (by omega)⟩
 obtain ⟨y0, e0⟩ := ex 0 (by omega)
 obtain ⟨y1, e1⟩ := ex 1 (by omega)
 obtain ⟨y2, e2⟩ := ex 2 (by omega)
 obtain ⟨y3, e3⟩ := ex 3 (by omega)
 rw [e0, c0] at g0
 rw [e1, c1] at g1
 rw [e2, c2] at g2
 rw [e3, c3] at g3
 obtain ⟨ed, p0, hed⟩ := int_trod Tryz.underlying2 g0
 obtain ⟨vo, lo, p1, h1⟩ := ints_trod g1
 obtain ⟨vb, lb, p2, h2, h2b⟩ := objs_trod64 g2
 obtain ⟨vs, ls, p3, h3⟩ := bytes_trod g3
 have hcp := bytes_cap g3
 obtain ⟨a, b, c, d', e⟩ := four_list cs.toList h4
 rw [e] at p0 p1 p2 p3
 have hcs : cs = #[a, b, c, d'] := Array.ext' e
 simp only [List.drop_zero, List.drop_succ_cons, List.take_succ_cons, List.take_zero, List.cons.injEq, and_true] at p0 p1 p2 p3
 subst p0 p1 p2 p3
 subst hcs
 refine ⟨⟨ed, lo, lb, ls⟩, ⟨_, _, _, rfl, h1, h2, h3⟩, ?_, by show ed ≤ _; omega, h2b⟩
 rintro a c ⟨x, y, z, e⟩
 simp only [Value.agg.injEq, Array.mk.injEq, List.cons.injEq] at e
 have e4 := e.2.2.2.1
 subst e4
 exact hcp a _ c (.inr rfl)
end
end Go.Proofs.YtdpniceapmikpaaGreat
namespace Go.Proofs.YtdpniceapmikpaaGreat
open Go.ChangeShapes Go.WideShapes Go.ChangeAt Go.RowKit Go.Deep

section
variable {H : Type} {enc : TypeId × Value → H} {w : World} {n : Nat} {cs : List Value} {x : DataW H × List MemPlace}
theorem bools_trod (h : DataW.trod enc Tryz.prog w 0 (fun _ => true) true n 79 cs = some x) : ∃ v l, cs = [v] ∧ BoolsIn w w.heap.size v l := by
 obtain ⟨A, len, cap, hcs, hm, hl, hi⟩ := row_els (C := 1) Tryz.underlying79 (by kernel_rfl) (by omega) h
 obtain ⟨l, hll, hR⟩ := pick_list (fun i (c : Bool) => ∃ g off, A = some ⟨g, off, none⟩ ∧ g < w.heap.size ∧ w.cell? ⟨g, off + i, none⟩ = some (.bool c)) len (fun i hil => by
  obtain ⟨g, off, cs', m, y, e1, e2, e3, e4⟩ := hi i hil
  obtain ⟨k, rfl, _⟩ := DataW.trod_bool Tryz.underlying4 e4
  exact ⟨k, g, off, e1, e2, by have := e3 0 _ rfl; simpa using this⟩)
 subst hll
 exact ⟨_, l, hcs, hm, A, cap, rfl, hl, fun j c hj => hR j c hj⟩
theorem u32_trod {t : TypeId} (ht : Tryz.prog.underlying t = some (.int .u32)) (h : DataW.trod enc Tryz.prog w 0 (fun _ => true) true n t cs = some x) : ∃ k : Nat, cs = [.int .u32 k] := by
 obtain ⟨k, e, _, hw⟩ := DataW.trod_int ht h
 simp [Lit.wf, IntKind.min, IntKind.max, IntKind.signed, IntKind.bits] at hw
 have hk : 0 ≤ k := hw.1
 exact ⟨k.toNat, by rw [e, Int.toNat_of_nonneg hk]⟩
theorem three_list (cs : List Value) (h : cs.length = 3) : ∃ a b c, cs = [a, b, c] := by
 match cs, h with
 | [a, b, c], _ => exact ⟨a, b, c, rfl⟩
theorem seven_list (cs : List Value) (h : cs.length = 7) : ∃ a b c d e f g, cs = [a, b, c, d, e, f, g] := by
 match cs, h with
 | [a, b, c, d, e, f, g], _ => exact ⟨a, b, c, d, e, f, g, rfl⟩
set_option maxRecDepth 100000 in
theorem crash_trod (h : DataW.trod enc Tryz.prog w 0 (fun _ => true) true n 81 cs = some x) : ∃ v l torn bytes, cs = [v, .int .i64 torn, .int .i64 bytes] ∧ BoolsIn w w.heap.size v l := by
 obtain ⟨xs, m, _, _, hlen, hxl, hg⟩ := DataW.trod_struct Tryz.underlying81 h
 have h3 : cs.length = 3 := hlen.trans (by kernel_rfl)
 have c0 : Tryz.prog.cellsOf 79 = 1 := by kernel_rfl
 have c1 : Tryz.prog.cellsOf 3 = 1 := by kernel_rfl
 have g0 : DataW.trod enc Tryz.prog w 0 (fun _ => true) true m 79 ((cs.drop 0).take (Tryz.prog.cellsOf 79)) = xs[0]? := hg 0 _ rfl
 have g1 : DataW.trod enc Tryz.prog w 0 (fun _ => true) true m 3 ((cs.drop 1).take (Tryz.prog.cellsOf 3)) = xs[1]? := hg 1 _ rfl
 have g2 : DataW.trod enc Tryz.prog w 0 (fun _ => true) true m 3 ((cs.drop 2).take (Tryz.prog.cellsOf 3)) = xs[2]? := hg 2 _ rfl
 have len : 3 = xs.length := by rw [hxl]; rfl
 have ex : ∀ i, i < 3 → ∃ y, xs[i]? = some y := fun i hi => ⟨_, List.getElem?_eq_getElem (by omega)⟩
 obtain ⟨y0, e0⟩ := ex 0 (by omega)
 obtain ⟨y1, e1⟩ := ex 1 (by omega)
 obtain ⟨y2, e2⟩ := ex 2 (by omega)
 rw [e0, c0] at g0
 rw [e1, c1] at g1
 rw [e2, c1] at g2
 obtain ⟨v, l, p0, hb⟩ := bools_trod g0
 obtain ⟨s, p1, _⟩ := int_trod Tryz.underlying3 g1
 obtain ⟨t, p2, _⟩ := int_trod Tryz.underlying3 g2
 refine ⟨v, l, s, t, ?_, hb⟩
 obtain ⟨a, b, c, rfl⟩ := three_list cs h3
 simp only [List.drop_zero, List.drop_succ_cons, List.take_succ_cons, List.take_zero, List.cons.injEq, and_true] at p0 p1 p2
 rw [p0, p1, p2]
set_option maxRecDepth 100000 in
theorem bits_trod (h : DataW.trod enc Tryz.prog w 0 (fun _ => true) true n 72 cs = some x) : ∃ (s fr : Int) (t : Nat), cs = [.int .i64 s, .int .i64 fr, .int .u32 t] := by
 obtain ⟨xs, m, _, _, hlen, hxl, hg⟩ := DataW.trod_struct Tryz.underlying72 h
 have h3 : cs.length = 3 := hlen.trans (by kernel_rfl)
 have c0 : Tryz.prog.cellsOf 70 = 1 := by kernel_rfl
 have c1 : Tryz.prog.cellsOf 3 = 1 := by kernel_rfl
 have g0 : DataW.trod enc Tryz.prog w 0 (fun _ => true) true m 3 ((cs.drop 0).take (Tryz.prog.cellsOf 3)) = xs[0]? := hg 0 _ rfl
 have g1 : DataW.trod enc Tryz.prog w 0 (fun _ => true) true m 3 ((cs.drop 1).take (Tryz.prog.cellsOf 3)) = xs[1]? := hg 1 _ rfl
 have g2 : DataW.trod enc Tryz.prog w 0 (fun _ => true) true m 70 ((cs.drop 2).take (Tryz.prog.cellsOf 70)) = xs[2]? := hg 2 _ rfl
 have len : 3 = xs.length := by rw [hxl]; rfl
 have ex : ∀ i, i < 3 → ∃ y, xs[i]? = some y := fun i hi => ⟨_, List.getElem?_eq_getElem (by omega)⟩
 obtain ⟨y0, e0⟩ := ex 0 (by omega)
 obtain ⟨y1, e1⟩ := ex 1 (by omega)
 obtain ⟨y2, e2⟩ := ex 2 (by omega)
 rw [e0, c1] at g0
 rw [e1, c1] at g1
 rw [e2, c0] at g2
 obtain ⟨s, p0, _⟩ := int_trod Tryz.underlying3 g0
 obtain ⟨fr, p1, _⟩ := int_trod Tryz.underlying3 g1
 obtain ⟨t, p2⟩ := u32_trod Tryz.underlying70 g2
 refine ⟨s, fr, t, ?_⟩
 obtain ⟨a, b, c, rfl⟩ := three_list cs h3
 simp only [List.drop_zero, List.drop_succ_cons, List.take_succ_cons, List.take_zero, List.cons.injEq, and_true] at p0 p1 p2
 rw [p0, p1, p2]
set_option maxRecDepth 100000 in
theorem open_whole {r : Reach} {b0 : Nat} {v : Value} {d : DataW H} {p : List MemPlace} (hv : Value.okWide Tryz.prog w r b0 83 v) (h : DataW.Trod enc Tryz.prog w 0 (fun _ => true) true 83 v d p) :
  ∃ (ar torn bytes s fr : Int) (t : Nat) (vk : Value) (keep : List Bool), v = .agg #[.int .i64 ar, vk, .int .i64 torn, .int .i64 bytes, .int .i64 s, .int .i64 fr, .int .u32 t] ∧ BoolsIn w w.heap.size vk keep := by
 obtain ⟨cs, rfl, hsz⟩ := okWide_struct Tryz.underlying83 hv
 obtain ⟨fuel, hf⟩ := h
 obtain ⟨xs, m, _, _, hlen, hxl, hg⟩ := DataW.trod_struct Tryz.underlying83 hf
 have h7 : cs.toList.length = 7 := hlen.trans (by kernel_rfl)
 have c0 : Tryz.prog.cellsOf 3 = 1 := by kernel_rfl
 have c1 : Tryz.prog.cellsOf 81 = 3 := by kernel_rfl
 have c2 : Tryz.prog.cellsOf 72 = 3 := by kernel_rfl
 have g0 : DataW.trod enc Tryz.prog w 0 (fun _ => true) true m 3 ((cs.toList.drop 0).take (Tryz.prog.cellsOf 3)) = xs[0]? := hg 0 _ rfl
 have g1 : DataW.trod enc Tryz.prog w 0 (fun _ => true) true m 81 ((cs.toList.drop 1).take (Tryz.prog.cellsOf 81)) = xs[1]? := hg 1 _ rfl
 have g2 : DataW.trod enc Tryz.prog w 0 (fun _ => true) true m 72 ((cs.toList.drop 4).take (Tryz.prog.cellsOf 72)) = xs[2]? := hg 2 _ rfl
 have len : 3 = xs.length := by rw [hxl]; rfl
 have ex : ∀ i, i < 3 → ∃ y, xs[i]? = some y := fun i hi => ⟨_, List.getElem?_eq_getElem (by omega)⟩
 obtain ⟨y0, e0⟩ := ex 0 (by omega)
 obtain ⟨y1, e1⟩ := ex 1 (by omega)
 obtain ⟨y2, e2⟩ := ex 2 (by omega)
 rw [e0, c0] at g0
 rw [e1, c1] at g1
 rw [e2, c2] at g2
 obtain ⟨ar, p0, _⟩ := int_trod Tryz.underlying3 g0
 obtain ⟨vk, keep, torn, bytes, p1, hb⟩ := crash_trod g1
 obtain ⟨s, fr, t, p2⟩ := bits_trod g2
 refine ⟨ar, torn, bytes, s, fr, t, vk, keep, ?_, hb⟩
 obtain ⟨a, b, c, d, e, f, g, e7⟩ := seven_list cs.toList h7
 rw [e7] at p0 p1 p2
 have hcs : cs = #[a, b, c, d, e, f, g] := Array.ext' e7
 simp only [List.drop_zero, List.drop_succ_cons, List.take_succ_cons, List.take_zero, List.cons.injEq, and_true] at p0 p1 p2
 rw [hcs, p0, p1.1, p1.2.1, p1.2.2, p2.1, p2.2.1, p2.2.2]
end
end Go.Proofs.YtdpniceapmikpaaGreat
namespace Go.Proofs.YtdpniceapmikpaaGreat
open Go.ChangeShapes Go.WideShapes Go.ChangeAt Go.RowKit Go.Deep

set_option maxRecDepth 100000 in
theorem open_plan07 {H : Type} {enc : TypeId × Value → H} {w : World} {base : Nat} {spare : Nat → Bool} {held : Bool} {r : Reach} {b0 : Nat} {v : Value} {d : DataW H} {p : List MemPlace}
  (hv : Value.okWide Tryz.prog w r b0 23 v) (h : DataW.Trod enc Tryz.prog w base spare held 23 v d p) : ∃ N : Int, v = .agg #[.int .i64 N] := by
 obtain ⟨l, hl, rfl, _⟩ := open_nums (kd := .i64) Tryz.underlying23 (by kernel_rfl) (by kernel_rfl) (fun j f hf => by
  match j, hf with
  | 0, hf => injection hf with hf; subst hf; exact Tryz.underlying3
  | j + 1, hf => simp at hf) hv h
 obtain ⟨N, rfl⟩ : ∃ a, l = [a] := by
  match l, hl with
  | [a], _ => exact ⟨a, rfl⟩
 exact ⟨N, rfl⟩
theorem frame_rights {w : World} {B : Nat} {v : Value} {f : FrameD} (h : FrameIn w B v f) : ∀ o ∈ f.objs, rightsOk o := by
 obtain ⟨_, _, _, _, _, ⟨_, _, _, _, _, h4⟩, _⟩ := h
 intro o ho
 obtain ⟨j, hj⟩ := List.mem_iff_getElem?.1 ho
 exact (h4 j o hj).2.1
set_option maxRecDepth 100000 in
theorem logsWhole_lifted (os : Os) (started : os.Started) (H : Type) (enc : TypeId × Value → H) :
  ReturnsInHanded {} Tryz.checked os 8 .any (Rows.logsWholeSpec.pre6 enc Tryz.prog Tryz.f8 Rows.logsWholeRow.domain false) (Rows.logsWholeSpec.post enc Tryz.prog Tryz.f8 false true false false) := by
 refine returnsInHanded_of_change (C := Tryz.checked) own started (by kernel_rfl) Tryz.func8
  (ChangeSpec.witness6 (enc := enc) (C := Tryz.checked) false ⟨#[], #[.agg #[.int .i64 0], .agg #[.int .i64 0, .slice none 0 0, .slice none 0 0, .slice none 0 0], .agg #[.int .i64 0, .slice none 0 0, .slice none 0 0, .slice none 0 0], .agg #[.int .i64 0, .slice none 0 0, .int .i64 0, .int .i64 0, .int .i64 0, .int .i64 0, .int .u32 0]], []⟩ 8 (by kernel_rfl) (by kernel_rfl) (by kernel_rfl) (by kernel_rfl)) ?_
 intro W base args ds gs before hval0 hW hcnd _
 have hval : ∀ (j : Nat) t v, Tryz.f8.params[j]? = some t → args[j]? = some v → Value.okWide Tryz.prog W .any base t v := hval0
 have hW' := hW
 obtain ⟨p, q, hA0, hV, rfl, hfz, hnd⟩ := hW
 have hA : DataW.TrodAll enc Tryz.prog W 0 (fun _ => true) true Tryz.f8.params.toList args.toList ds p := hA0
 rw [Tryz.params8] at hA hval
 obtain ⟨v0, vs0, d0, ds0, p0, q0, hargs, rfl, rfl, h0, hA1⟩ := trodAll_cons hA
 obtain ⟨v1, vs1, d1, ds1, p1, q1, rfl, rfl, rfl, h1, hA2⟩ := trodAll_cons hA1
 obtain ⟨v2, vs2, d2, ds2, p2, q2, rfl, rfl, rfl, h2, hA3⟩ := trodAll_cons hA2
 obtain ⟨v3, vs3, d3, ds3, p3, q3, rfl, rfl, rfl, h3, hA4⟩ := trodAll_cons hA3
 obtain ⟨rfl, rfl, rfl⟩ : vs3 = [] ∧ ds3 = [] ∧ q3 = [] := by
  cases vs3 <;> cases ds3 <;> simp [DataW.TrodAll] at hA4
  exact ⟨rfl, rfl, hA4⟩
 obtain rfl : args = #[v0, v1, v2, v3] := Array.ext' hargs
 obtain ⟨rfl, rfl⟩ := trodVars_none hV
 obtain ⟨N, rfl⟩ := open_plan07 (hval 0 _ v0 rfl rfl) h0
 obtain ⟨fa, hfa, hca, hea, hoa⟩ := open_frame64 (hval 1 _ v1 rfl rfl) h1
 obtain ⟨fb, hfb, hcb, heb, hob⟩ := open_frame64 (hval 2 _ v2 rfl rfl) h2
 obtain ⟨ar, torn, bytes, s, fr, t, vk, keep, rfl, hk⟩ := open_whole (hval 3 _ v3 rfl rfl) h3
 clear hA0 hval0
 refine (whole_any N fa fb v1 v2 vk ar torn bytes s fr t keep W hfa hfb hk hca hcb hea heb (fun o ho => ⟨(hoa o ho).1, frame_rights hfa o ho, (hoa o ho).2⟩) (fun o ho => ⟨(hob o ho).1, frame_rights hfb o ho, (hob o ho).2⟩)).mono fun e W' ⟨he, hb⟩ => ?_
 subst he
 exact ⟨_, rfl, law_post laidOut (by rw [Tryz.params8]; intro t ht; simp at ht; rcases ht with rfl | rfl | rfl <;> exact ⟨by kernel_rfl, of_decide_eq_true (by kernel_rfl)⟩) rfl Tryz.underlying4 rfl hW' rfl hb⟩

theorem logsWhole_holds : Rows.LogsWholeSaid :=
 OpenClaim.holds_of_wide 8 Tryz.f8 rfl rfl rfl rfl rfl rfl rfl ⟨rfl, rfl, rfl, rfl, rfl⟩ rfl rfl rfl rfl rfl (by kernel_rfl) Tryz.func8 (by kernel_rfl)
  (of_decide_eq_true (by kernel_rfl)) (by unfold Func.isWrapper; first | (rw [if_pos (by decide +kernel)]; kernel_rfl) | (rw [if_neg (by decide +kernel)]; exact ⟨rfl, rfl⟩))
  (fun os started H enc _ => logsWhole_lifted os started H enc)

end Go.Proofs.YtdpniceapmikpaaGreat
