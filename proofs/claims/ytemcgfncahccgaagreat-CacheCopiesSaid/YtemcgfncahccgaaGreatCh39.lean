/-
  Opening an object: its numbers are within 64 bits.
  Opening a frame and the law's disk: their numbers are within 64 bits.
  Opening a world.
  The law CacheEvicts. (Written by gen_claw.py.)
  The law CacheSettles. (Written by gen_cset.py.)
  Opening numbers within 64 bits, an object, calls.
  Opening a call.
-/
import Derived.Test.YtemcgfncahccgaaGreatCh38
set_option linter.unusedVariables false
set_option linter.unusedSimpArgs false
namespace Go.Proofs.YtemcgfncahccgaaGreat
open Go.ChangeShapes Go.WideShapes Go.ChangeAt Go.RowKit Go.Deep

section
variable {H : Type} {enc : TypeId × Value → H} {w : World} {base : Nat} {spare : Nat → Bool} {held : Bool} {n : Nat} {cs : List Value} {x : DataW H × List MemPlace}
theorem int_trod64 {t : TypeId} (ht : Tryz.prog.underlying t = some (.int .i64)) (h : DataW.trod enc Tryz.prog w base spare held n t cs = some x) : ∃ k : Int, cs = [.int .i64 k] ∧ I64 k := by
 obtain ⟨k, e, _, hw⟩ := DataW.trod_int ht h
 have h1 := i64_lt hw
 exact ⟨k, e, by omega, by omega⟩
theorem key_trod64 (h : DataW.trod enc Tryz.prog w base spare held n 43 cs = some x) : ∃ k : KeyD, (k.r < 9223372036854775808 ∧ I64 k.v) ∧ cs = k.cells := by
 obtain ⟨xs, m, _, _, hlen, hxl, hg⟩ := DataW.trod_struct Tryz.underlying43 h
 have h6 : cs.length = 6 := hlen.trans cellsOf_key
 have c0 : Tryz.prog.cellsOf 40 = 1 := by kernel_rfl
 have c1 : Tryz.prog.cellsOf 3 = 1 := by kernel_rfl
 have c2 : Tryz.prog.cellsOf 2 = 1 := by kernel_rfl
 have c3 : Tryz.prog.cellsOf 41 = 1 := by kernel_rfl
 have g0 : DataW.trod enc Tryz.prog w base spare held m 40 ((cs.drop 0).take (Tryz.prog.cellsOf 40)) = xs[0]? := hg 0 _ rfl
 have g1 : DataW.trod enc Tryz.prog w base spare held m 3 ((cs.drop 1).take (Tryz.prog.cellsOf 3)) = xs[1]? := hg 1 _ rfl
 have g2 : DataW.trod enc Tryz.prog w base spare held m 2 ((cs.drop 2).take (Tryz.prog.cellsOf 2)) = xs[2]? := hg 2 _ rfl
 have g3 : DataW.trod enc Tryz.prog w base spare held m 2 ((cs.drop 3).take (Tryz.prog.cellsOf 2)) = xs[3]? := hg 3 _ rfl
 have g4 : DataW.trod enc Tryz.prog w base spare held m 41 ((cs.drop 4).take (Tryz.prog.cellsOf 41)) = xs[4]? := hg 4 _ rfl
 have g5 : DataW.trod enc Tryz.prog w base spare held m 2 ((cs.drop 5).take (Tryz.prog.cellsOf 2)) = xs[5]? := hg 5 _ rfl
 have len : 6 = xs.length := by rw [hxl]; rfl
 have ex : ∀ i, i < 6 → ∃ y, xs[i]? = some y := fun i hi => ⟨_, List.getElem?_eq_getElem (by omega)⟩
 obtain ⟨y0, e0⟩ := ex 0 (by omega)
 obtain ⟨y1, e1⟩ := ex 1 (by omega)
 obtain ⟨y2, e2⟩ := ex 2 (by omega)
 obtain ⟨y3, e3⟩ := ex 3 (by omega)
 obtain ⟨y4, e4⟩ := ex 4 (by omega)
 obtain ⟨y5, e5⟩ := ex 5 (by omega)
 rw [e0] at g0; rw [e1] at g1; rw [e2] at g2; rw [e3] at g3; rw [e4] at g4; rw [e5] at g5
 rw [c0] at g0
 rw [c1] at g1
 rw [c2] at g2 g3 g5
 rw [c3] at g4
 obtain ⟨k0, p0, _⟩ := int_trod Tryz.underlying40 g0
 obtain ⟨k1, p1, _⟩ := int_trod Tryz.underlying3 g1
 obtain ⟨k2, p2, _⟩ := int_trod Tryz.underlying2 g2
 obtain ⟨k3, p3, _⟩ := int_trod Tryz.underlying2 g3
 obtain ⟨k4, p4, w4⟩ := int_trod Tryz.underlying41 g4
 obtain ⟨k5, p5, w5⟩ := int_trod64 Tryz.underlying2 g5
 refine ⟨⟨k0, k1, k2, k3, k4, k5⟩, ⟨w4, w5⟩, ?_⟩
 obtain ⟨a, b, c, d, e, f, rfl⟩ := six_list cs h6
 simp only [List.drop_zero, List.drop_succ_cons, List.take_succ_cons, List.take_zero, List.cons.injEq, and_true] at p0 p1 p2 p3 p4 p5
 rw [p0, p1, p2, p3, p4, p5]
 rfl
theorem obj_trod64 (h : DataW.trod enc Tryz.prog w base spare held n 47 cs = some x) : ∃ o : ObjD, (o.ok ∧ rightsOk o ∧ ∀ x ∈ o.slots, I64 x.v) ∧ cs = o.cells := by
 obtain ⟨xs, m, _, _, hlen, hxl, hg⟩ := DataW.trod_struct Tryz.underlying47 h
 have h163 : cs.length = 163 := hlen.trans (by kernel_rfl)
 have c0 : Tryz.prog.cellsOf 39 = 1 := by kernel_rfl
 have c1 : Tryz.prog.cellsOf 2 = 1 := by kernel_rfl
 have c3 : Tryz.prog.cellsOf 44 = 96 := by kernel_rfl
 have c4 : Tryz.prog.cellsOf 45 = 64 := by kernel_rfl
 have c5 : Tryz.prog.cellsOf 5 = 1 := by kernel_rfl
 have g0 : DataW.trod enc Tryz.prog w base spare held m 39 ((cs.drop 0).take (Tryz.prog.cellsOf 39)) = xs[0]? := hg 0 _ rfl
 have g1 : DataW.trod enc Tryz.prog w base spare held m 2 ((cs.drop 1).take (Tryz.prog.cellsOf 2)) = xs[1]? := hg 1 _ rfl
 have g2 : DataW.trod enc Tryz.prog w base spare held m 2 ((cs.drop 2).take (Tryz.prog.cellsOf 2)) = xs[2]? := hg 2 _ rfl
 have g3 : DataW.trod enc Tryz.prog w base spare held m 44 ((cs.drop 3).take (Tryz.prog.cellsOf 44)) = xs[3]? := hg 3 _ rfl
 have g4 : DataW.trod enc Tryz.prog w base spare held m 45 ((cs.drop 99).take (Tryz.prog.cellsOf 45)) = xs[4]? := hg 4 _ rfl
 have len : 5 = xs.length := by rw [hxl]; rfl
 have ex : ∀ i, i < 5 → ∃ y, xs[i]? = some y := fun i hi => ⟨_, List.getElem?_eq_getElem (by omega)⟩
 obtain ⟨y0, e0⟩ := ex 0 (by omega)
 obtain ⟨y1, e1⟩ := ex 1 (by omega)
 obtain ⟨y2, e2⟩ := ex 2 (by omega)
 obtain ⟨y3, e3⟩ := ex 3 (by omega)
 obtain ⟨y4, e4⟩ := ex 4 (by omega)
 rw [e0] at g0; rw [e1] at g1; rw [e2] at g2; rw [e3] at g3; rw [e4] at g4
 rw [c0] at g0
 rw [c1] at g1 g2
 rw [c3] at g3
 rw [c4] at g4
 obtain ⟨k0, p0, _⟩ := int_trod Tryz.underlying39 g0
 obtain ⟨k1, p1, _⟩ := int_trod Tryz.underlying2 g1
 obtain ⟨k2, p2, _⟩ := int_trod Tryz.underlying2 g2
 obtain ⟨zs, m3, _, _, l3, zl, hz⟩ := DataW.trod_array Tryz.underlying44 g3
 obtain ⟨us, m4, _, _, l4, ul, hu⟩ := DataW.trod_array Tryz.underlying45 g4
 simp only [cellsOf_key] at hz
 simp only [c5] at hu
 obtain ⟨ks, k1l, kp, ke⟩ := list_blocks KeyD.cells (fun k => k.r < 9223372036854775808 ∧ I64 k.v) 6 16 _ (l3.trans c3) (fun i hi => by
  have h1 := hz i hi
  rw [List.getElem?_eq_getElem (by omega)] at h1
  exact key_trod64 h1)
 obtain ⟨bs, b1l, _, be⟩ := list_blocks (fun c : UInt8 => [vu8 c]) (fun _ => True) 1 64 _ (l4.trans c4) (fun i hi => by
  have h1 := hu i hi
  rw [List.getElem?_eq_getElem (by omega)] at h1
  obtain ⟨c, hc⟩ := byte_trod h1
  exact ⟨c, trivial, hc⟩)
 refine ⟨⟨k0, k1, k2, ks, bs⟩, ⟨⟨k1l, b1l⟩, fun x hx => (kp x hx).1, fun x hx => (kp x hx).2⟩, ?_⟩
 unfold ObjD.cells slotCells
 simp only
 rw [← ke, show bs.map vu8 = bs.flatMap (fun c => [vu8 c]) by rw [List.map_eq_flatMap], ← be]
 have t : ∀ (l : List Value) (k : Nat), l.take k ++ l.drop k = l := fun l k => List.take_append_drop k l
 have q4 : (cs.drop 99).take 64 = cs.drop 99 := List.take_of_length_le (by rw [List.length_drop, h163]; decide)
 have q3 := t (cs.drop 3) 96
 have q2 := t (cs.drop 2) 1
 have q1 := t (cs.drop 1) 1
 have q0 := t (cs.drop 0) 1
 rw [List.drop_drop] at q3 q2 q1 q0
 rw [p0] at q0
 rw [p1] at q1
 rw [p2] at q2
 rw [q4, show (cs.drop 3).take 96 ++ cs.drop 99 = cs.drop 3 from q3]
 refine q0.symm.trans ?_
 rw [show cs.drop (0 + 1) = cs.drop 1 from rfl, ← q1, show cs.drop (1 + 1) = cs.drop 2 from rfl, ← q2]
 rfl
end
end Go.Proofs.YtemcgfncahccgaaGreat
namespace Go.Proofs.YtemcgfncahccgaaGreat
open Go.ChangeShapes Go.WideShapes Go.ChangeAt Go.RowKit Go.Deep

section
variable {H : Type} {enc : TypeId × Value → H} {w : World} {n : Nat} {cs : List Value} {x : DataW H × List MemPlace}
set_option maxRecDepth 100000 in
theorem ints_trod64 (h : DataW.trod enc Tryz.prog w 0 (fun _ => true) true n 23 cs = some x) : ∃ v l, cs = [v] ∧ IntsIn w w.heap.size v l ∧ ∀ n ∈ l, n ≤ 9223372036854775807 := by
 obtain ⟨A, len, cap, hcs, hm, hl, hi⟩ := row_els (C := 1) Tryz.underlying23 (by kernel_rfl) (by omega) h
 obtain ⟨l, hll, hR⟩ := pick_list (fun i (c : Int) => ∃ g off, A = some ⟨g, off, none⟩ ∧ g < w.heap.size ∧ w.cell? ⟨g, off + i, none⟩ = some (.int .i64 c) ∧ c ≤ 9223372036854775807) len (fun i hil => by
  obtain ⟨g, off, cs', m, y, e1, e2, e3, e4⟩ := hi i hil
  obtain ⟨k, rfl, hk⟩ := int_trod Tryz.underlying3 e4
  exact ⟨k, g, off, e1, e2, by have := e3 0 _ rfl; simpa using this, by omega⟩)
 subst hll
 refine ⟨_, l, hcs, ⟨hm, A, cap, rfl, hl, fun j c hj => ?_⟩, fun n hn => ?_⟩
 ·obtain ⟨g, off, h1, h2, h3, _⟩ := hR j c hj
  exact ⟨g, off, h1, h2, h3⟩
 ·obtain ⟨j, hj⟩ := List.mem_iff_getElem?.1 hn
  obtain ⟨_, _, _, _, _, h4⟩ := hR j n hj
  exact h4
set_option maxRecDepth 100000 in
theorem objs_trod64 (h : DataW.trod enc Tryz.prog w 0 (fun _ => true) true n 22 cs = some x) : ∃ v l, cs = [v] ∧ ObjsIn w w.heap.size v l ∧ ∀ o ∈ l, o.ok ∧ ∀ x ∈ o.slots, I64 x.v := by
 obtain ⟨A, len, cap, hcs, hm, hl, hi⟩ := row_els (C := 163) Tryz.underlying22 (by kernel_rfl) (by omega) h
 obtain ⟨l, hll, hR⟩ := pick_list (fun i (o : ObjD) => (∀ x ∈ o.slots, I64 x.v) ∧ o.ok ∧ rightsOk o ∧ ∃ g off, A = some ⟨g, off, none⟩ ∧ g < w.heap.size ∧ w.rangeAt g (off + i * 163) o.cells) len (fun i hil => by
  obtain ⟨g, off, cs', m, y, e1, e2, e3, e4⟩ := hi i hil
  obtain ⟨o, ⟨ho, hr, hv⟩, rfl⟩ := obj_trod64 e4
  exact ⟨o, hv, ho, hr, g, off, e1, e2, e3⟩)
 subst hll
 refine ⟨_, l, hcs, ⟨hm, A, cap, rfl, hl, fun j o hj => (hR j o hj).2⟩, fun o ho => ?_⟩
 obtain ⟨j, hj⟩ := List.mem_iff_getElem?.1 ho
 exact ⟨(hR j o hj).2.1, (hR j o hj).1⟩
end
end Go.Proofs.YtemcgfncahccgaaGreat
namespace Go.Proofs.YtemcgfncahccgaaGreat
open Go.ChangeShapes Go.WideShapes Go.ChangeAt Go.RowKit Go.Deep

section
variable {H : Type} {enc : TypeId × Value → H} {w : World}
set_option maxRecDepth 100000 in
theorem open_world {r : Reach} {b0 : Nat} {v : Value} {d : DataW H} {p : List MemPlace} (hv : Value.okWide Tryz.prog w r b0 25 v) (h : DataW.Trod enc Tryz.prog w 0 (fun _ => true) true 25 v d p) : ∃ x : WorldD, WArg w v x := by
 obtain ⟨cs, rfl, hsz⟩ := okWide_struct Tryz.underlying25 hv
 obtain ⟨fuel, hf⟩ := h
 obtain ⟨xs, m, _, _, hlen, hxl, hg⟩ := DataW.trod_struct Tryz.underlying25 hf
 have h4 : cs.toList.length = 4 := hlen.trans (by kernel_rfl)
 have c0 : Tryz.prog.cellsOf 22 = 1 := by kernel_rfl
 have c1 : Tryz.prog.cellsOf 3 = 1 := by kernel_rfl
 have c3 : Tryz.prog.cellsOf 23 = 1 := by kernel_rfl
 have g0 : DataW.trod enc Tryz.prog w 0 (fun _ => true) true m 22 ((cs.toList.drop 0).take (Tryz.prog.cellsOf 22)) = xs[0]? := hg 0 _ rfl
 have g1 : DataW.trod enc Tryz.prog w 0 (fun _ => true) true m 3 ((cs.toList.drop 1).take (Tryz.prog.cellsOf 3)) = xs[1]? := hg 1 _ rfl
 have g2 : DataW.trod enc Tryz.prog w 0 (fun _ => true) true m 3 ((cs.toList.drop 2).take (Tryz.prog.cellsOf 3)) = xs[2]? := hg 2 _ rfl
 have g3 : DataW.trod enc Tryz.prog w 0 (fun _ => true) true m 23 ((cs.toList.drop 3).take (Tryz.prog.cellsOf 23)) = xs[3]? := hg 3 _ rfl
 have len : 4 = xs.length := by rw [hxl]; rfl
 have ex : ∀ i, i < 4 → ∃ y, xs[i]? = some y := fun i hi => ⟨_, List.getElem?_eq_getElem (by omega)⟩
 obtain ⟨y0, e0⟩ := ex 0 (by omega)
 obtain ⟨y1, e1⟩ := ex 1 (by omega)
 obtain ⟨y2, e2⟩ := ex 2 (by omega)
 obtain ⟨y3, e3⟩ := ex 3 (by omega)
 rw [e0, c0] at g0
 rw [e1, c1] at g1
 rw [e2, c1] at g2
 rw [e3, c3] at g3
 obtain ⟨vb, lb, p0, h0, h0b⟩ := objs_trod64 g0
 obtain ⟨mo, p1, _⟩ := int_trod Tryz.underlying3 g1
 obtain ⟨ro, p2, _⟩ := int_trod Tryz.underlying3 g2
 obtain ⟨vf, lf, p3, h3, h3b⟩ := ints_trod64 g3
 obtain ⟨a, b, c, d', e⟩ := four_list cs.toList h4
 rw [e] at p0 p1 p2 p3
 have hcs : cs = #[a, b, c, d'] := Array.ext' e
 simp only [List.drop_zero, List.drop_succ_cons, List.take_succ_cons, List.take_zero, List.cons.injEq, and_true] at p0 p1 p2 p3
 refine ⟨⟨lb, mo, ro, lf⟩, ⟨vb, vf, by rw [hcs, p0, p1, p2, p3], h0, h3⟩, fun o ho => ?_, h3b⟩
 obtain ⟨j, hj⟩ := List.mem_iff_getElem?.1 ho
 obtain ⟨_, _, _, _, _, hc⟩ := h0
 exact ⟨(h0b o ho).1, (hc j o hj).2.1, (h0b o ho).2⟩
end
end Go.Proofs.YtemcgfncahccgaaGreat
namespace Go.Proofs.YtemcgfncahccgaaGreat
open Go.RowKit Go.Shelf

end Go.Proofs.YtemcgfncahccgaaGreat
namespace Go.Proofs.YtemcgfncahccgaaGreat
open Go.RowKit Go.Shelf

/-- a slice of calls that is read -/
def ActsIn (W : World) (B : Nat) (v : Value) (l : List ActD) : Prop :=
 l.length ≤ maxLen ∧ ∃ a cap, v = .slice a l.length cap ∧ l.length ≤ cap ∧ ∀ j (o : ActD), l[j]? = some o → o.ok ∧ ∃ g off, a = some ⟨g, off, none⟩ ∧ g < B ∧ W.rangeAt g (off + j * 167) o.cells
theorem ActsIn.below {W W' : World} {B C : Nat} {v : Value} {l : List ActD} (h : ActsIn W B v l) (hb : Below C W W') (hC : B ≤ C) : ActsIn W' B v l := by
 obtain ⟨h1, a, cap, h2, h3, h4⟩ := h
 refine ⟨h1, a, cap, h2, h3, fun j o hj => ?_⟩
 obtain ⟨ho, g, off, e, hg, hr⟩ := h4 j o hj
 exact ⟨ho, g, off, e, hg, range_below hr hb (by omega)⟩
theorem ActsIn.at_ {W : World} {B : Nat} {a : Option Addr} {n c : Nat} {l : List ActD} (h : ActsIn W B (.slice a n c) l) {j : Nat} {x : ActD} (hx : l[j]? = some x) :
  x.ok ∧ ∃ g off, a = some ⟨g, off, none⟩ ∧ g < B ∧ W.rangeAt g (off + j * 167) x.cells := by
 obtain ⟨_, a', c', e, _, h4⟩ := h
 injection e with ea _ _
 subst ea
 exact h4 j x hx
end Go.Proofs.YtemcgfncahccgaaGreat
namespace Go.Proofs.YtemcgfncahccgaaGreat
open Go.ChangeShapes Go.WideShapes Go.ChangeAt Go.RowKit Go.Deep

section
variable {H : Type} {enc : TypeId × Value → H} {w : World} {n : Nat} {cs : List Value} {x : DataW H × List MemPlace}
set_option maxRecDepth 100000 in
theorem act_trod (h : DataW.trod enc Tryz.prog w 0 (fun _ => true) true n 49 cs = some x) : ∃ a : ActD, a.ok ∧ cs = a.cells := by
 obtain ⟨xs, m, _, _, hlen, hxl, hg⟩ := DataW.trod_struct Tryz.underlying49 h
 have h167 : cs.length = 167 := hlen.trans (by kernel_rfl)
 have c0 : Tryz.prog.cellsOf 3 = 1 := by kernel_rfl
 have c3 : Tryz.prog.cellsOf 47 = 163 := by kernel_rfl
 have c4 : Tryz.prog.cellsOf 5 = 1 := by kernel_rfl
 have g0 : DataW.trod enc Tryz.prog w 0 (fun _ => true) true m 3 ((cs.drop 0).take (Tryz.prog.cellsOf 3)) = xs[0]? := hg 0 _ rfl
 have g1 : DataW.trod enc Tryz.prog w 0 (fun _ => true) true m 3 ((cs.drop 1).take (Tryz.prog.cellsOf 3)) = xs[1]? := hg 1 _ rfl
 have g2 : DataW.trod enc Tryz.prog w 0 (fun _ => true) true m 3 ((cs.drop 2).take (Tryz.prog.cellsOf 3)) = xs[2]? := hg 2 _ rfl
 have g3 : DataW.trod enc Tryz.prog w 0 (fun _ => true) true m 47 ((cs.drop 3).take (Tryz.prog.cellsOf 47)) = xs[3]? := hg 3 _ rfl
 have g4 : DataW.trod enc Tryz.prog w 0 (fun _ => true) true m 5 ((cs.drop 166).take (Tryz.prog.cellsOf 5)) = xs[4]? := hg 4 _ rfl
 have len : 5 = xs.length := by rw [hxl]; rfl
 have ex : ∀ i, i < 5 → ∃ y, xs[i]? = some y := fun i hi => ⟨_, List.getElem?_eq_getElem (by omega)⟩
 obtain ⟨y0, e0⟩ := ex 0 (by omega)
 obtain ⟨y1, e1⟩ := ex 1 (by omega)
 obtain ⟨y2, e2⟩ := ex 2 (by omega)
 obtain ⟨y3, e3⟩ := ex 3 (by omega)
 obtain ⟨y4, e4⟩ := ex 4 (by omega)
 rw [e0, c0] at g0
 rw [e1, c0] at g1
 rw [e2, c0] at g2
 rw [e3, c3] at g3
 rw [e4, c4] at g4
 obtain ⟨k0, p0, _⟩ := int_trod64 Tryz.underlying3 g0
 obtain ⟨k1, p1, _⟩ := int_trod64 Tryz.underlying3 g1
 obtain ⟨k2, p2, i2⟩ := int_trod64 Tryz.underlying3 g2
 obtain ⟨o, ⟨o1, o2, o3⟩, p3⟩ := obj_trod64 g3
 obtain ⟨c, p4⟩ := byte_trod g4
 refine ⟨⟨k0, k1, k2, o, c⟩, ⟨o1, o2, i2⟩, ?_⟩
 show cs = .int .i64 k0 :: .int .i64 k1 :: .int .i64 k2 :: (o.cells ++ [vu8 c])
 have t : ∀ (l : List Value) (k : Nat), l.take k ++ l.drop k = l := fun l k => List.take_append_drop k l
 have q4 : (cs.drop 166).take 1 = cs.drop 166 := List.take_of_length_le (by rw [List.length_drop, h167]; decide)
 have q3 := t (cs.drop 3) 163
 have q2 := t (cs.drop 2) 1
 have q1 := t (cs.drop 1) 1
 have q0 := t (cs.drop 0) 1
 rw [List.drop_drop] at q3 q2 q1 q0
 rw [p0] at q0
 rw [p1] at q1
 rw [p2] at q2
 rw [p3, show 3 + 163 = 166 from rfl, ← q4, p4] at q3
 rw [q3]
 refine q0.symm.trans ?_
 rw [show cs.drop (0 + 1) = cs.drop 1 from rfl, ← q1, show cs.drop (1 + 1) = cs.drop 2 from rfl, ← q2]
 rfl
set_option maxRecDepth 100000 in
theorem open_acts {r : Reach} {b0 : Nat} {v : Value} {d : DataW H} {p : List MemPlace} (hv : Value.okWide Tryz.prog w r b0 26 v) (h : DataW.Trod enc Tryz.prog w 0 (fun _ => true) true 26 v d p) : ∃ l, ActsIn w w.heap.size v l := by
 obtain ⟨a0, len0, cap0, rfl⟩ := okWide_slice Tryz.underlying26 hv
 obtain ⟨fuel, hf⟩ := h
 obtain ⟨A, len, cap, hcs, hm, hl, hi⟩ := row_els (C := 167) Tryz.underlying26 (by kernel_rfl) (by omega) hf
 obtain ⟨l, hll, hR⟩ := pick_list (fun i (o : ActD) => o.ok ∧ ∃ g off, A = some ⟨g, off, none⟩ ∧ g < w.heap.size ∧ w.rangeAt g (off + i * 167) o.cells) len (fun i hil => by
  obtain ⟨g, off, cs', m, y, e1, e2, e3, e4⟩ := hi i hil
  obtain ⟨o, ho, rfl⟩ := act_trod e4
  exact ⟨o, ho, g, off, e1, e2, e3⟩)
 subst hll
 have e : Value.slice a0 len0 cap0 = .slice A l.length cap := by simpa [Value.cells] using hcs
 exact ⟨l, hm, A, cap, e, hl, fun j o hj => hR j o hj⟩
end
end Go.Proofs.YtemcgfncahccgaaGreat
namespace Go.Proofs.YtemcgfncahccgaaGreat
open Go.ChangeShapes Go.WideShapes Go.ChangeAt Go.RowKit Go.Deep

set_option maxRecDepth 100000 in
theorem open_act {H : Type} {enc : TypeId × Value → H} {w : World} {r : Reach} {b0 : Nat} {v : Value} {d : DataW H} {p : List MemPlace} (hv : Value.okWide Tryz.prog w r b0 49 v) (h : DataW.Trod enc Tryz.prog w 0 (fun _ => true) true 49 v d p) : ∃ a : ActD, v = .agg a.cells.toArray ∧ a.ok := by
 obtain ⟨cs, rfl, hsz⟩ := okWide_struct Tryz.underlying49 hv
 obtain ⟨fuel, hf⟩ := h
 obtain ⟨a, h1, he⟩ := act_trod hf
 refine ⟨a, ?_, h1⟩
 rw [← he]
 rfl
end Go.Proofs.YtemcgfncahccgaaGreat
