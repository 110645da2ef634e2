/-
  A list of bytes that grows: number.
  slices.Equal of numbers and of objects. (Written by gen_lequal.py.)
  logs.Write: what it writes; the walk. (Written by gen_lwrite.py.)
  What is written of a frame on a disk none of whose steps fail, and what is read of it: plain laws.
  A frame that is written on a disk none of whose steps fail is there: plain laws.
  An object that its bytes bring back: plain laws.
  The law CacheEvicts. (Written by gen_claw.py.)
  The law CacheSettles. (Written by gen_cset.py.)
  Opening numbers within 64 bits, an object, calls.
  The plain law of CacheRooms: what is got is what was put last.
  CacheRooms: rows of objects in memory; two caches over one disk.
-/
import Derived.Deep.RegionHeld3
import Derived.Lib.SlBytesConst
import Derived.WalkMore
import Derived.Test.YtemcgfncahccgaaGreatCa10
import Derived.Test.YtemcgfncahccgaaGreatCa11
import Derived.Test.YtemcgfncahccgaaGreatCa22
import Derived.Test.YtemcgfncahccgaaGreatCa24
import Derived.Test.YtemcgfncahccgaaGreatCa25
import Derived.Test.YtemcgfncahccgaaGreatCa36
import Derived.Test.YtemcgfncahccgaaGreatCa37
import Derived.Test.YtemcgfncahccgaaGreatCa38
import Derived.Test.YtemcgfncahccgaaGreatCa5
import Derived.Test.YtemcgfncahccgaaGreatCa6
set_option linter.unusedVariables false
set_option linter.unusedSimpArgs false
namespace Go.Proofs.YtemcgfncahccgaaGreat
open Go.RowKit

theorem RowStep.last {g : Nat} {v v' : Value} {w w1 w2 : World} (h : RowStep g v v' w w1) (hb : Below w1.heap.size w1 w2) : RowStep g v v' w w2 :=
 ⟨h.out.trans (G := fun _ => False) (outB hb) (fun _ _ => False.elim), h.new_⟩
end Go.Proofs.YtemcgfncahccgaaGreat
namespace Go.Proofs.YtemcgfncahccgaaGreat
open Go.RowKit

theorem yieldsIf_neq_agg {P : Program} {ops : Array Oper} {S : World → Prop} {op : Oper} {a : Act} (hw : Region.wanted op (yielded ops a.tmps) = true) (t t' : TypeId) (x y : Operand) (ho : op.op = .binOp .neq t x y t') (xs ys : Array Value)
  (hx : a.eval x = .agg xs) (hy : a.eval y = .agg ys) (hm : P.eqGuardType P.depth t = false) (b : Bool) (hS : ∀ w, S w → (Op.equalIn 10000 t (.agg xs) (.agg ys)).run P w = .ok b w) : YieldsIf P ops S op (.bool (!b)) a :=
 .inl ⟨hw, fun w hw' => by
  unfold execOp
  simp only [ho, hx, hy, Sem.run_bind, run_eqGuard_agg _ _ _ _ _ _ _ hm, run_neq_struct, hS w hw', Sem.run_pure, Result.andThen_ok]⟩

end Go.Proofs.YtemcgfncahccgaaGreat
namespace Go.Proofs.YtemcgfncahccgaaGreat
open Go.RowKit Go.Shelf

attribute [local go_sem] Oper.semAt_some

theorem sectorL_take (l : List UInt8) (h : l.length ≤ 508) : (sectorL l).take 508 = padL l := by
 unfold sectorL sealOf
 rw [List.take_append_of_le_length (by rw [padL_len l h]; exact Nat.le_refl _), List.take_of_length_le (by rw [padL_len l h]; exact Nat.le_refl _)]

end Go.Proofs.YtemcgfncahccgaaGreat
namespace Go.Proofs.YtemcgfncahccgaaGreat
open Go.RowKit

/-! numbers of bytes -/
theorem cut_mid (a m c : List UInt8) (i k : Nat) (ha : a.length = i) (hm : m.length = k) : ((a ++ (m ++ c)).drop i).take k = m := by
 rw [List.drop_append, ← ha, List.drop_length, Nat.sub_self, List.drop_zero, List.nil_append, List.take_append_of_le_length (by omega), List.take_of_length_le (by omega)]
theorem numAt_mid (a c : List UInt8) (i k n : Nat) (ha : a.length = i) (hn : n < 256 ^ k) : numAt (a ++ (leB n k ++ c)) i k = n := by
 unfold numAt
 rw [cut_mid a _ c i k ha (leB_len n k), leN_leB, Nat.mod_eq_of_lt hn]
theorem sealedB_sealOf (l : List UInt8) : sealedB (sealOf l) = true := by
 have hl := sealOf_len l
 rw [sealedB_iff _ (by omega), hl, Nat.add_sub_cancel]
 congr 1
 unfold sealOf
 rw [List.take_append_of_le_length (Nat.le_refl _), List.take_length]
theorem sealedB_sectorL (l : List UInt8) : sealedB (sectorL l) = true := sealedB_sealOf _
theorem padL_zeros (l : List UInt8) : ((padL l).drop l.length).any (· != 0) = false := by
 unfold padL
 rw [List.drop_append, List.drop_length, Nat.sub_self, List.drop_zero, List.nil_append]
 simp
section
variable {N : Int} {f : FrameD}
end
end Go.Proofs.YtemcgfncahccgaaGreat
namespace Go.Proofs.YtemcgfncahccgaaGreat
open Go.RowKit

/-- an object that its sector brings back -/
def BackO (N : Int) (o : ObjD) : Prop := getE (sectorL (objL o)) N = 0 ∧ objOf (padL (objL o)) = o ∧ (objL o).length ≤ 508
section
variable {N a : Nat} {f : FrameD}
variable {x : DiskD}
end
end Go.Proofs.YtemcgfncahccgaaGreat
namespace Go.Proofs.YtemcgfncahccgaaGreat
open Go.RowKit

theorem keyOf_keyB (x : KeyD) (hx : KeyFits x) (T : List UInt8) : keyOf (keyB x ++ T) = x := by
 obtain ⟨k, o, c, a, r, v⟩ := x
 obtain ⟨hk, hr, ho, hc, ha, hv⟩ := hx
 simp only at hk hr ho hc ha hv
 have p1 : (256 : Nat) ^ 1 = 256 := by decide
 have p2 : (256 : Nat) ^ 2 = 65536 := by decide
 have p4 : (256 : Nat) ^ 4 = 4294967296 := by decide
 have p8 : (256 : Nat) ^ 8 = 18446744073709551616 := by decide
 have uk := u64_small hk.1 (by omega)
 have ur := u64_small hr.1 (by omega)
 have uo := u64_small ho.1 (by omega)
 have uc := u64_small hc.1 (by omega)
 have ua := u64_small ha.1 (by omega)
 have uv : u64 v < 18446744073709551616 := by unfold u64; omega
 have e : keyB ⟨k, o, c, a, r, v⟩ ++ T = leB (u64 k) 1 ++ (leB (u64 r) 1 ++ (leB (u64 o) 2 ++ (leB (u64 c) 4 ++ (leB (u64 a) 4 ++ (leB (u64 v) 8 ++ T))))) := by
  rw [keyB_eq]
  simp only [List.append_assoc]
 have n0 : numAt (keyB ⟨k, o, c, a, r, v⟩ ++ T) 0 1 = u64 k := by rw [e]; exact numAt_mid [] _ 0 1 _ rfl (by omega)
 have n1 : numAt (keyB ⟨k, o, c, a, r, v⟩ ++ T) 1 1 = u64 r := by rw [e]; exact numAt_mid (leB (u64 k) 1) _ 1 1 _ (leB_len _ _) (by omega)
 have n2 : numAt (keyB ⟨k, o, c, a, r, v⟩ ++ T) 2 2 = u64 o := by rw [e, ← List.append_assoc]; exact numAt_mid (leB (u64 k) 1 ++ leB (u64 r) 1) _ 2 2 _ (by simp [leB_len]) (by omega)
 have n3 : numAt (keyB ⟨k, o, c, a, r, v⟩ ++ T) 4 4 = u64 c := by rw [e, ← List.append_assoc, ← List.append_assoc]; exact numAt_mid (leB (u64 k) 1 ++ leB (u64 r) 1 ++ leB (u64 o) 2) _ 4 4 _ (by simp [leB_len]) (by omega)
 have n4 : numAt (keyB ⟨k, o, c, a, r, v⟩ ++ T) 8 4 = u64 a := by rw [e, ← List.append_assoc, ← List.append_assoc, ← List.append_assoc]; exact numAt_mid (leB (u64 k) 1 ++ leB (u64 r) 1 ++ leB (u64 o) 2 ++ leB (u64 c) 4) _ 8 4 _ (by simp [leB_len]) (by omega)
 have n5 : numAt (keyB ⟨k, o, c, a, r, v⟩ ++ T) 12 8 = u64 v := by rw [e, ← List.append_assoc, ← List.append_assoc, ← List.append_assoc, ← List.append_assoc]; exact numAt_mid (leB (u64 k) 1 ++ leB (u64 r) 1 ++ leB (u64 o) 2 ++ leB (u64 c) 4 ++ leB (u64 a) 4) _ 12 8 _ (by simp [leB_len]) (by omega)
 unfold numAt at n0 n1 n2 n3 n4 n5
 unfold keyOf
 rw [n0, n1, n2, n3, n4, n5, uk, ur, uo, uc, ua, wrap_u64 hv]
theorem keys_drop : ∀ (l : List KeyD) (i : Nat) (x : KeyD), l[i]? = some x → ∃ R, (l.flatMap keyB).drop (20 * i) = keyB x ++ R
 | [], i, x, h => by simp at h
 | y :: l, 0, x, h => by
  obtain rfl : y = x := by simpa using h
  exact ⟨l.flatMap keyB, by simp⟩
 | y :: l, i + 1, x, h => by
  obtain ⟨R, hR⟩ := keys_drop l i x (by simpa using h)
  refine ⟨R, ?_⟩
  rw [List.flatMap_cons, List.drop_append, keyB_len, List.drop_eq_nil_of_le (by rw [keyB_len]; omega), List.nil_append, show 20 * (i + 1) - 20 = 20 * i by omega]
  exact hR
/-- an object whose numbers fit is what its bytes say -/
theorem objOf_objL (o : ObjD) (ho : o.ok) (hk : 0 ≤ o.kd ∧ o.kd < 4294967296) (hct : 0 ≤ o.ct ∧ o.ct < 4294967296) (hcl : 0 ≤ o.cl ∧ o.cl < 4294967296) (hs : ∀ x ∈ o.slots, KeyFits x) : objOf (padL (objL o)) = o := by
 obtain ⟨kd, ct, cl, slots, bytes⟩ := o
 obtain ⟨h16, h64⟩ := ho
 simp only at h16 h64 hk hct hcl hs
 have p4 : (256 : Nat) ^ 4 = 4294967296 := by decide
 have uk := u64_small hk.1 (by omega)
 have uc := u64_small hct.1 (by omega)
 have ul := u64_small hcl.1 (by omega)
 have hkl : (slots.flatMap keyB).length = 320 := by
  have : ∀ l : List KeyD, (l.flatMap keyB).length = 20 * l.length := by
   intro l
   induction l with
   | nil => rfl
   | cons y l ih => rw [List.flatMap_cons, List.length_append, keyB_len, ih, List.length_cons]; omega
  rw [this, h16]
 obtain ⟨Z, eZ⟩ : ∃ Z, Z = List.replicate (508 - (objL ⟨kd, ct, cl, slots, bytes⟩).length) (0 : UInt8) := ⟨_, rfl⟩
 have e : padL (objL ⟨kd, ct, cl, slots, bytes⟩) = leB (u64 kd) 4 ++ (leB (u64 ct) 4 ++ (leB (u64 cl) 4 ++ (slots.flatMap keyB ++ (bytes ++ Z)))) := by
  unfold padL
  rw [← eZ]
  unfold objL
  simp only [List.append_assoc]
 rw [e]
 obtain ⟨A, eA⟩ : ∃ A, A = leB (u64 kd) 4 ++ leB (u64 ct) 4 ++ leB (u64 cl) 4 := ⟨_, rfl⟩
 have hA : A.length = 12 := by rw [eA]; simp [leB_len]
 have e2 : leB (u64 kd) 4 ++ (leB (u64 ct) 4 ++ (leB (u64 cl) 4 ++ (slots.flatMap keyB ++ (bytes ++ Z)))) = A ++ (slots.flatMap keyB ++ (bytes ++ Z)) := by rw [eA]; simp only [List.append_assoc]
 have n0 : numAt (A ++ (slots.flatMap keyB ++ (bytes ++ Z))) 0 4 = u64 kd := by rw [← e2]; exact numAt_mid [] _ 0 4 _ rfl (by omega)
 have n1 : numAt (A ++ (slots.flatMap keyB ++ (bytes ++ Z))) 4 4 = u64 ct := by rw [← e2]; exact numAt_mid (leB (u64 kd) 4) _ 4 4 _ (leB_len _ _) (by omega)
 have n2 : numAt (A ++ (slots.flatMap keyB ++ (bytes ++ Z))) 8 4 = u64 cl := by rw [← e2, ← List.append_assoc]; exact numAt_mid (leB (u64 kd) 4 ++ leB (u64 ct) 4) _ 8 4 _ (by simp [leB_len]) (by omega)
 have hkeys : (List.range 16).map (fun i => keyOf ((A ++ (slots.flatMap keyB ++ (bytes ++ Z))).drop (12 + 20 * i))) = slots := by
  apply List.ext_getElem?
  intro i
  rw [List.getElem?_map]
  by_cases hi : i < 16
  ·have ex : slots[i]? = some (slots[i]'(by omega)) := List.getElem?_eq_getElem (by omega)
   rw [List.getElem?_range hi, ex]
   simp only [Option.map_some]
   congr 1
   obtain ⟨R, hR⟩ := keys_drop slots i _ ex
   have ed : (A ++ (slots.flatMap keyB ++ (bytes ++ Z))).drop (12 + 20 * i) = keyB (slots[i]'(by omega)) ++ (R ++ (bytes ++ Z)) := by
    rw [List.drop_append, hA, List.drop_eq_nil_of_le (by omega), List.nil_append, show 12 + 20 * i - 12 = 20 * i by omega, List.drop_append, hR, hkl, show 20 * i - 320 = 0 by omega, List.drop_zero, List.append_assoc]
   rw [ed]
   exact keyOf_keyB _ (hs _ (List.getElem_mem _)) _
  ·rw [List.getElem?_eq_none (by simp; omega), List.getElem?_eq_none (by omega)]
   rfl
 have hby : ((A ++ (slots.flatMap keyB ++ (bytes ++ Z))).drop 332).take 64 = bytes := by
  rw [← List.append_assoc]
  exact cut_mid (A ++ slots.flatMap keyB) bytes Z 332 64 (by rw [List.length_append, hA, hkl]) h64
 unfold numAt at n0 n1 n2
 rw [e2]
 unfold objOf
 rw [n0, n1, n2, hkeys, hby, uk, uc, ul]
/-- an object that may be is brought back by its sector -/
theorem back_obj {o : ObjD} {N : Int} (ho : o.ok) (h : objB o N = true) (hr : rightsOk o) (hv : ∀ x ∈ o.slots, I64 x.v) : BackO N o := by
 obtain ⟨hk, hc, hl, n1, n2, hs⟩ := objB_facts h
 have hb := objOf_objL o ho (by omega) (by omega) (by omega) (fun x hx => fits_of (hs x hx) (hr x hx) (hv x hx))
 have hlen : (objL o).length = 396 := objL_len o ho
 refine ⟨?_, hb, by omega⟩
 unfold getE
 rw [if_neg (by omega), sealedB_sectorL, if_pos rfl, sectorL_take _ (by omega)]
 have hcode : codeB (padL (objL o)) N = true := by
  unfold codeB
  rw [hb, h]
  have z := padL_zeros (objL o)
  rw [hlen] at z
  have z2 : ((padL (objL o)).drop 396).all (· == 0) = true := by
   rw [List.all_eq_true]
   intro c hcm
   have := List.any_eq_false.1 z c hcm
   simpa using this
  rw [z2, Bool.and_true, Bool.and_true, List.all_eq_true]
  intro i hi
  have e : (objOf (padL (objL o))).slots = o.slots := by rw [hb]
  have hm : keyOf ((padL (objL o)).drop (12 + 20 * i)) ∈ o.slots := by
   rw [← e]
   exact List.mem_map.2 ⟨i, hi, rfl⟩
  exact hs _ hm
 rw [hcode]
 rfl
end Go.Proofs.YtemcgfncahccgaaGreat
namespace Go.Proofs.YtemcgfncahccgaaGreat
open Go.RowKit Go.Shelf

end Go.Proofs.YtemcgfncahccgaaGreat
namespace Go.Proofs.YtemcgfncahccgaaGreat
open Go.RowKit Go.Shelf

theorem act_ones (a : ActD) : a.cells.toArray.all (·.oneCell') = true := by
 simp only [List.all_toArray]
 refine List.all_eq_true.2 fun v hv => ?_
 rcases List.mem_cons.1 hv with rfl | hv
 ·rfl
 rcases List.mem_cons.1 hv with rfl | hv
 ·rfl
 rcases List.mem_cons.1 hv with rfl | hv
 ·rfl
 rcases List.mem_append.1 hv with hv | hv
 ·exact obj_one _ v hv
 ·rw [List.mem_singleton.1 hv]; rfl
/-- a slice of calls that is read -/
def ActsIn (W : World) (B : Nat) (v : Value) (l : List ActD) : Prop :=
 l.length ≤ maxLen ∧ ∃ a cap, v = .slice a l.length cap ∧ l.length ≤ cap ∧ ∀ j (o : ActD), l[j]? = some o → o.ok ∧ ∃ g off, a = some ⟨g, off, none⟩ ∧ g < B ∧ W.rangeAt g (off + j * 167) o.cells
theorem ActsIn.below {W W' : World} {B C : Nat} {v : Value} {l : List ActD} (h : ActsIn W B v l) (hb : Below C W W') (hC : B ≤ C) : ActsIn W' B v l := by
 obtain ⟨h1, a, cap, h2, h3, h4⟩ := h
 refine ⟨h1, a, cap, h2, h3, fun j o hj => ?_⟩
 obtain ⟨ho, g, off, e, hg, hr⟩ := h4 j o hj
 exact ⟨ho, g, off, e, hg, range_below hr hb (by omega)⟩
theorem ActsIn.at_ {W : World} {B : Nat} {a : Option Addr} {n c : Nat} {l : List ActD} (h : ActsIn W B (.slice a n c) l) {j : Nat} {x : ActD} (hx : l[j]? = some x) :
  x.ok ∧ ∃ g off, a = some ⟨g, off, none⟩ ∧ g < B ∧ W.rangeAt g (off + j * 167) x.cells := by
 obtain ⟨_, a', c', e, _, h4⟩ := h
 injection e with ea _ _
 subst ea
 exact h4 j x hx
end Go.Proofs.YtemcgfncahccgaaGreat
namespace Go.Proofs.YtemcgfncahccgaaGreat
open Go.ChangeShapes Go.WideShapes Go.ChangeAt Go.RowKit Go.Deep

section
variable {H : Type} {enc : TypeId × Value → H} {w : World} {n : Nat} {cs : List Value} {x : DataW H × List MemPlace}
set_option maxRecDepth 100000 in
theorem open_intI {r : Reach} {b0 : Nat} {v : Value} {d : DataW H} {p : List MemPlace} (hv : Value.okWide Tryz.prog w r b0 3 v) (h : DataW.Trod enc Tryz.prog w 0 (fun _ => true) true 3 v d p) : ∃ k, v = .int .i64 k ∧ I64 k := by
 obtain ⟨k, rfl, _, _, hw⟩ := open_int Tryz.underlying3 hv h
 have h1 := i64_lt hw
 exact ⟨k, rfl, by omega, by omega⟩
set_option maxRecDepth 100000 in
theorem act_trod (h : DataW.trod enc Tryz.prog w 0 (fun _ => true) true n 49 cs = some x) : ∃ a : ActD, a.ok ∧ cs = a.cells := by
 obtain ⟨xs, m, _, _, hlen, hxl, hg⟩ := DataW.trod_struct Tryz.underlying49 h
 have h167 : cs.length = 167 := hlen.trans (by kernel_rfl)
 have c0 : Tryz.prog.cellsOf 3 = 1 := by kernel_rfl
 have c3 : Tryz.prog.cellsOf 47 = 163 := by kernel_rfl
 have c4 : Tryz.prog.cellsOf 5 = 1 := by kernel_rfl
 have g0 : DataW.trod enc Tryz.prog w 0 (fun _ => true) true m 3 ((cs.drop 0).take (Tryz.prog.cellsOf 3)) = xs[0]? := hg 0 _ rfl
 have g1 : DataW.trod enc Tryz.prog w 0 (fun _ => true) true m 3 ((cs.drop 1).take (Tryz.prog.cellsOf 3)) = xs[1]? := hg 1 _ rfl
 have g2 : DataW.trod enc Tryz.prog w 0 (fun _ => true) true m 3 ((cs.drop 2).take (Tryz.prog.cellsOf 3)) = xs[2]? := hg 2 _ rfl
 have g3 : DataW.trod enc Tryz.prog w 0 (fun _ => true) true m 47 ((cs.drop 3).take (Tryz.prog.cellsOf 47)) = xs[3]? := hg 3 _ rfl
 have g4 : DataW.trod enc Tryz.prog w 0 (fun _ => true) true m 5 ((cs.drop 166).take (Tryz.prog.cellsOf 5)) = xs[4]? := hg 4 _ rfl
 have len : 5 = xs.length := by rw [hxl]; rfl
 have ex : ∀ i, i < 5 → ∃ y, xs[i]? = some y := fun i hi => ⟨_, List.getElem?_eq_getElem (by omega)⟩
 obtain ⟨y0, e0⟩ := ex 0 (by omega)
 obtain ⟨y1, e1⟩ := ex 1 (by omega)
 obtain ⟨y2, e2⟩ := ex 2 (by omega)
 obtain ⟨y3, e3⟩ := ex 3 (by omega)
 obtain ⟨y4, e4⟩ := ex 4 (by omega)
 rw [e0, c0] at g0
 rw [e1, c0] at g1
 rw [e2, c0] at g2
 rw [e3, c3] at g3
 rw [e4, c4] at g4
 obtain ⟨k0, p0, _⟩ := int_trod64 Tryz.underlying3 g0
 obtain ⟨k1, p1, _⟩ := int_trod64 Tryz.underlying3 g1
 obtain ⟨k2, p2, i2⟩ := int_trod64 Tryz.underlying3 g2
 obtain ⟨o, ⟨o1, o2, o3⟩, p3⟩ := obj_trod64 g3
 obtain ⟨c, p4⟩ := byte_trod g4
 refine ⟨⟨k0, k1, k2, o, c⟩, ⟨o1, o2, i2⟩, ?_⟩
 show cs = .int .i64 k0 :: .int .i64 k1 :: .int .i64 k2 :: (o.cells ++ [vu8 c])
 have t : ∀ (l : List Value) (k : Nat), l.take k ++ l.drop k = l := fun l k => List.take_append_drop k l
 have q4 : (cs.drop 166).take 1 = cs.drop 166 := List.take_of_length_le (by rw [List.length_drop, h167]; decide)
 have q3 := t (cs.drop 3) 163
 have q2 := t (cs.drop 2) 1
 have q1 := t (cs.drop 1) 1
 have q0 := t (cs.drop 0) 1
 rw [List.drop_drop] at q3 q2 q1 q0
 rw [p0] at q0
 rw [p1] at q1
 rw [p2] at q2
 rw [p3, show 3 + 163 = 166 from rfl, ← q4, p4] at q3
 rw [q3]
 refine q0.symm.trans ?_
 rw [show cs.drop (0 + 1) = cs.drop 1 from rfl, ← q1, show cs.drop (1 + 1) = cs.drop 2 from rfl, ← q2]
 rfl
set_option maxRecDepth 100000 in
theorem open_acts {r : Reach} {b0 : Nat} {v : Value} {d : DataW H} {p : List MemPlace} (hv : Value.okWide Tryz.prog w r b0 26 v) (h : DataW.Trod enc Tryz.prog w 0 (fun _ => true) true 26 v d p) : ∃ l, ActsIn w w.heap.size v l := by
 obtain ⟨a0, len0, cap0, rfl⟩ := okWide_slice Tryz.underlying26 hv
 obtain ⟨fuel, hf⟩ := h
 obtain ⟨A, len, cap, hcs, hm, hl, hi⟩ := row_els (C := 167) Tryz.underlying26 (by kernel_rfl) (by omega) hf
 obtain ⟨l, hll, hR⟩ := pick_list (fun i (o : ActD) => o.ok ∧ ∃ g off, A = some ⟨g, off, none⟩ ∧ g < w.heap.size ∧ w.rangeAt g (off + i * 167) o.cells) len (fun i hil => by
  obtain ⟨g, off, cs', m, y, e1, e2, e3, e4⟩ := hi i hil
  obtain ⟨o, ho, rfl⟩ := act_trod e4
  exact ⟨o, ho, g, off, e1, e2, e3⟩)
 subst hll
 have e : Value.slice a0 len0 cap0 = .slice A l.length cap := by simpa [Value.cells] using hcs
 exact ⟨l, hm, A, cap, e, hl, fun j o hj => hR j o hj⟩
end
end Go.Proofs.YtemcgfncahccgaaGreat
namespace Go.Proofs.YtemcgfncahccgaaGreat
open Go.RowKit

/-- what is at hand agrees with what was put last, what is clean with what lies on the disk -/
def HandRm (os now : List ObjD) (h : List ItemD) : Prop := ∀ k : Nat, k < os.length →
 (∃ it, itemOf h (k : Int) = some it ∧ now[k]? = some it.o ∧ (it.ch = false → now[k]? = os[k]?)) ∨ (itemOf h (k : Int) = none ∧ now[k]? = os[k]?)
/-- a disk on which objects lie, and whose steps go well -/
structure DiskRm (os : List ObjD) (d : DiskD) : Prop where
 fails : d.fails = []
 waits : d.waits = []
 size : (os.length : Int) ≤ d.size
 lasts : ∀ (k : Nat) o, os[k]? = some o → d.lasts (k : Int) = sectorL (objL o)
 back : ∀ o ∈ os, BackO os.length o
structure Rm (os now : List ObjD) (x : CacheD) : Prop where
 places : x.places = countI os.length
 len : now.length = os.length
 disk : DiskRm os x.disk
 hand : HandRm os now x.hand
section
variable {os now now' : List ObjD} {h : List ItemD} {n : Nat} {x : CacheD}
theorem HandRm.drop (H : HandRm os now h) (oid : Int) (hc : ∀ it, itemOf h oid = some it → it.ch = false) : HandRm os now (dropI h oid) := by
 intro k hk
 rw [itemOf_drop]
 unfold dropF
 by_cases e : (k : Int) = oid
 ·rw [if_pos e]
  refine .inr ⟨rfl, ?_⟩
  rcases H k hk with ⟨it, h1, h2, h3⟩ | ⟨_, h2⟩
  ·exact h3 (hc it (by rw [← e]; exact h1))
  ·exact h2
 ·rw [if_neg e]; exact H k hk
theorem HandRm.put (H : HandRm os now h) (y : ItemD) (k0 : Nat) (hy : y.oid = (k0 : Int)) (h1 : ∀ k, k ≠ k0 → now'[k]? = now[k]?) (h2 : now'[k0]? = some y.o) (h3 : y.ch = false → now'[k0]? = os[k0]?) : HandRm os now' (dropI h y.oid ++ [y]) := by
 intro k hk
 rw [itemOf_put]
 unfold setF
 by_cases e : k = k0
 ·subst e
  rw [if_pos hy.symm]
  exact .inl ⟨y, rfl, h2, h3⟩
 ·rw [if_neg (by rw [hy]; omega), h1 k e]
  exact H k hk
theorem HandRm.with_ (HO : HandOk n h) (H : HandRm os now h) (room : Int) (y : ItemD) (hy0 : 0 ≤ y.oid ∧ y.oid < (n : Int)) (k0 : Nat) (hy : y.oid = (k0 : Int)) (h1 : ∀ k, k ≠ k0 → now'[k]? = now[k]?) (h2 : now'[k0]? = some y.o) (h3 : y.ch = false → now'[k0]? = os[k0]?) : HandRm os now' (withD room n h y) := by
 have H1 := H.put y k0 hy h1 h2 h3
 have O1 := HO.put y hy0
 unfold withD
 dsimp only
 split
 ·split
  ·next z hz =>
   have hzm := List.mem_of_find?_eq_some hz
   have hzc := List.find?_some hz
   refine H1.drop z.oid fun it hit => ?_
   rw [itemOf_mem O1.once hzm] at hit
   cases hit
   simpa using hzc
  ·exact H1
 ·exact H1
theorem countI_get (n k : Nat) (hk : k < n) : (countI n).getD k 0 = (k : Int) := by
 unfold countI
 rw [List.getD_eq_getElem?_getD, List.getElem?_map, List.getElem?_range hk]
 rfl
theorem Rm.len_ (R : Rm os now x) : x.n = os.length := by unfold CacheD.n; rw [R.places, countI_len]
theorem Rm.place (R : Rm os now x) (k : Nat) (hk : k < os.length) : x.placeOf (k : Int) = (k : Int) := by
 unfold CacheD.placeOf
 rw [R.places, Int.toNat_natCast, countI_get _ _ hk]
theorem Rm.there (R : Rm os now x) (oid : Int) : x.there oid = true ↔ 0 ≤ oid ∧ oid < (os.length : Int) := by rw [there_iff, R.len_]
theorem Rm.reads (R : Rm os now x) (k : Nat) (o : ObjD) (ho : os[k]? = some o) : x.disk.read (x.placeOf (k : Int)) = sectorL (objL o) ∧ x.disk.err (x.placeOf (k : Int)) = 0 := by
 have hk := (List.getElem?_eq_some_iff.1 ho).1
 have hs := R.disk.size
 rw [R.place k hk]
 have e : x.disk.err (k : Int) = 0 := by
  unfold DiskD.err
  rw [if_neg (by omega), R.disk.fails]
  rfl
 refine ⟨?_, e⟩
 unfold DiskD.read
 rw [if_pos e]
 unfold DiskD.reads
 rw [R.disk.waits]
 exact R.disk.lasts k o ho
theorem Rm.fetch (R : Rm os now x) (k : Nat) (o : ObjD) (ho : os[k]? = some o) : x.fetchE (k : Int) = 0 ∧ getO (x.disk.read (x.placeOf (k : Int))) x.n = o := by
 obtain ⟨e1, e2⟩ := R.reads k o ho
 have hk := (List.getElem?_eq_some_iff.1 ho).1
 obtain ⟨b1, b2, b3⟩ := R.disk.back o (List.mem_of_getElem? ho)
 constructor
 ·unfold CacheD.fetchE
  rw [if_pos e2, e1, R.len_, if_pos b1]
 ·rw [e1, R.len_]
  unfold getO
  rw [if_pos b1, sectorL_take _ b3, b2]
/-- what a Get tells -/
def rmE (os : List ObjD) (oid : Int) : Int := if 0 ≤ oid ∧ oid < (os.length : Int) then 0 else 4
def rmO (os now : List ObjD) (oid : Int) : ObjD := if 0 ≤ oid ∧ oid < (os.length : Int) then now.getD oid.toNat objZ else objZ
def rmP (os : List ObjD) (oid : Int) (o : ObjD) : Int := if 0 ≤ oid ∧ oid < (os.length : Int) then (if objB o os.length then 0 else 2) else 4
def rmN (os now : List ObjD) (oid : Int) (o : ObjD) : List ObjD := if rmP os oid o = 0 then now.set oid.toNat o else now
theorem DiskRm.after (R : DiskRm os x.disk) (p : Int) : DiskRm os (x.disk.after p) := by
 unfold DiskD.after
 split
 ·exact R
 ·exact ⟨R.fails, R.waits, R.size, R.lasts, R.back⟩
theorem Rm.get (R : Rm os now x) (O : HandOk x.n x.hand) (oid : Int) : x.getE_ oid = rmE os oid ∧ x.getO_ oid = rmO os now oid ∧ Rm os now (x.get_ oid) ∧ ∃ p, (x.get_ oid).disk = x.disk ∨ (x.get_ oid).disk = x.disk.after p := by
 unfold CacheD.getE_ CacheD.getO_ CacheD.get_ rmE rmO
 by_cases ht : x.there oid = true
 ·have hr := (R.there oid).1 ht
  simp only [if_pos ht, if_pos hr]
  obtain ⟨k, rfl⟩ : ∃ k : Nat, oid = (k : Int) := ⟨oid.toNat, by omega⟩
  have hk : k < os.length := by omega
  have hxn := R.len_
  rcases R.hand k hk with ⟨it, h1, h2, h3⟩ | ⟨h1, h2⟩
  ·rw [h1]
   dsimp only
   have hio : it.oid = (k : Int) := (itemOf_some h1).2
   refine ⟨rfl, by rw [Int.toNat_natCast, List.getD_eq_getElem?_getD, h2]; rfl, ⟨R.places, R.len, R.disk, ?_⟩, 0, .inl rfl⟩
   exact HandRm.with_ O R.hand x.room it (by rw [hio, hxn]; exact hr) k hio (fun _ _ => rfl) h2 h3
  ·obtain ⟨o, ho⟩ : ∃ o, os[k]? = some o := ⟨_, List.getElem?_eq_getElem hk⟩
   obtain ⟨f1, f2⟩ := R.fetch k o ho
   rw [h1]
   dsimp only
   rw [if_pos f1, if_pos f1, f2]
   refine ⟨f1, by rw [Int.toNat_natCast, List.getD_eq_getElem?_getD, h2, ho]; rfl, ⟨R.places, R.len, R.disk.after _, ?_⟩, _, .inr rfl⟩
   exact HandRm.with_ O R.hand x.room ⟨k, o, false⟩ (by rw [hxn]; exact hr) k rfl (fun _ _ => rfl) (by rw [h2]; exact ho) (fun _ => h2)
 ·have hr : ¬ (0 ≤ oid ∧ oid < (os.length : Int)) := fun h => ht ((R.there oid).2 h)
  simp only [if_neg ht, if_neg hr]
  exact ⟨trivial, trivial, R, 0, .inl trivial⟩
theorem Rm.put (R : Rm os now x) (O : HandOk x.n x.hand) (oid : Int) (o : ObjD) : x.putE oid o = rmP os oid o ∧ Rm os (rmN os now oid o) (x.put oid o) := by
 have e : x.putE oid o = rmP os oid o := by
  unfold CacheD.putE rmP
  rw [R.len_]
  by_cases ht : x.there oid = true
  ·rw [if_pos ht, if_pos ((R.there oid).1 ht)]
  ·rw [if_neg ht, if_neg fun h => ht ((R.there oid).2 h)]
 refine ⟨e, ?_⟩
 unfold CacheD.put rmN
 rw [e]
 by_cases h0 : rmP os oid o = 0
 ·rw [if_pos h0, if_pos h0]
  have hr : 0 ≤ oid ∧ oid < (os.length : Int) := by
   unfold rmP at h0
   by_cases h : 0 ≤ oid ∧ oid < (os.length : Int)
   ·exact h
   ·rw [if_neg h] at h0; cases h0
  obtain ⟨k, rfl⟩ : ∃ k : Nat, oid = (k : Int) := ⟨oid.toNat, by omega⟩
  have hn := R.len
  refine ⟨R.places, by rw [List.length_set]; exact hn, R.disk, ?_⟩
  exact HandRm.with_ O R.hand x.room ⟨k, o, true⟩ (by rw [R.len_]; exact hr) k rfl (fun j hj => by rw [Int.toNat_natCast, List.getElem?_set_ne (by omega)]) (by rw [Int.toNat_natCast, List.getElem?_set_self (by omega)]) (fun h => by cases h)
 ·rw [if_neg h0, if_neg h0]; exact R
theorem Rm.evict (R : Rm os now x) (p : Int) : Rm os now (x.evict p) := by
 unfold CacheD.evict
 split
 ·exact R
 ·next hc =>
  refine ⟨R.places, R.len, R.disk, R.hand.drop _ fun it hit => ?_⟩
  have hlen : 0 < x.cleanL.length := List.length_pos_iff.2 hc
  have hm : pickL x.cleanL p ∈ x.cleanL := by
   unfold pickL
   have h1 := Int.emod_nonneg p (show (x.cleanL.length : Int) ≠ 0 by omega)
   have h2 := Int.emod_lt_of_pos p (show (0 : Int) < (x.cleanL.length : Int) by omega)
   rw [List.getD_eq_getElem?_getD, List.getElem?_eq_getElem (by omega)]
   exact List.getElem_mem _
  have hb := (mem_rising.1 hm).2
  unfold cleanB at hb
  rw [hit] at hb
  simpa using hb
/-- the disk goes on beside it -/
theorem Rm.beside (R : Rm os now x) {d : DiskD} (hd : DiskRm os d) : Rm os now { x with disk := d } := ⟨R.places, R.len, hd, R.hand⟩
end
theorem secs_at : ∀ (l : List ObjD) (T : List UInt8), (∀ o ∈ l, o.ok) → ∀ (k : Nat) (o : ObjD), l[k]? = some o → ((secsL l ++ T).drop (512 * k)).take 512 = sectorL (objL o)
 | [], T, _, k, o, h => by simp at h
 | y :: l, T, hl, 0, o, h => by
  obtain rfl : y = o := by simpa using h
  show (((sectorL (objL y) ++ secsL l) ++ T).drop 0).take 512 = _
  rw [List.drop_zero, List.append_assoc]
  exact List.take_left' (sectorL_len _ (by rw [objL_len y (hl y List.mem_cons_self)]; decide))
 | y :: l, T, hl, k + 1, o, h => by
  have hy : (sectorL (objL y)).length = 512 := sectorL_len _ (by rw [objL_len y (hl y List.mem_cons_self)]; decide)
  show (((sectorL (objL y) ++ secsL l) ++ T).drop (512 * (k + 1))).take 512 = _
  rw [List.append_assoc, List.drop_append, hy, List.drop_eq_nil_of_le (by omega), List.nil_append, show 512 * (k + 1) - 512 = 512 * k by omega]
  exact secs_at l T (fun z hz => hl z (List.mem_cons_of_mem _ hz)) k o (by simpa using h)
/-- the disk of a world whose steps go well -/
theorem disk_rm {x : WorldD} (hx : x.fine) (hf : x.fails = []) : DiskRm x.objs (disk17 x) := by
 have hm := hx.more
 have e : disk17 x = ofDisk (x.n + x.more.toNat) (allL17 x) := by
  unfold disk17 failed17
  rw [hf]
  rfl
 rw [e]
 refine ⟨rfl, rfl, by show ((x.objs.length : Nat) : Int) ≤ ((x.n + x.more.toNat : Nat) : Int); unfold WorldD.n; omega, fun k o ho => ?_, fun o ho => ?_⟩
 ·have hk := (List.getElem?_eq_some_iff.1 ho).1
  show (if 0 ≤ (k : Int) ∧ (k : Int) < ((x.n + x.more.toNat : Nat) : Int) then ((allL17 x).drop (512 * (k : Int).toNat)).take 512 else sector0) = _
  rw [if_pos (by unfold WorldD.n; omega), Int.toNat_natCast]
  exact secs_at x.objs _ (fun o ho => (hx.ok o ho).1) k o ho
 ·obtain ⟨h1, h2, h3, h4⟩ := hx.ok o ho
  exact back_obj h1 h4 h2 h3
theorem rm_start {x : WorldD} (hx : x.fine) (hf : x.fails = []) (room : Int) : Rm x.objs x.objs (newC (disk17 x) room (countI x.n)) :=
 ⟨rfl, rfl, disk_rm hx hf, fun k hk => .inr ⟨rfl, rfl⟩⟩
end Go.Proofs.YtemcgfncahccgaaGreat
namespace Go.Proofs.YtemcgfncahccgaaGreat
open Go.RowKit Go.Shelf

def objsCells (l : List ObjD) : List Value := l.flatMap ObjD.cells
theorem objsCells_len : ∀ (l : List ObjD), (∀ x ∈ l, x.ok) → (objsCells l).length = l.length * 163
  | [], _ => rfl
  | y :: l, h => by
    show (y.cells ++ objsCells l).length = _
    rw [List.length_append, ObjD.len (h y List.mem_cons_self), objsCells_len l (fun z hz => h z (List.mem_cons_of_mem _ hz)), List.length_cons, Nat.add_mul]
    omega
theorem objsCells_split : ∀ (l : List ObjD), (∀ x ∈ l, x.ok) → ∀ (j : Nat) (u : Value), (objsCells l)[j]? = some u → ∃ i y k, l[i]? = some y ∧ j = i * 163 + k ∧ y.cells[k]? = some u
  | [], _, j, u, h => by simp [objsCells] at h
  | z :: l, hl, j, u, h => by
    have hz := ObjD.len (hl z List.mem_cons_self)
    have h' : (z.cells ++ objsCells l)[j]? = some u := h
    by_cases hj : j < 163
    · rw [List.getElem?_append_left (by omega)] at h'
      exact ⟨0, z, j, rfl, by omega, h'⟩
    · rw [List.getElem?_append_right (by omega), hz] at h'
      obtain ⟨i, y, k, h1, h2, h3⟩ := objsCells_split l (fun y hy => hl y (List.mem_cons_of_mem _ hy)) _ u h'
      exact ⟨i + 1, y, k, by simpa using h1, by omega, h3⟩
theorem objsCells_at : ∀ (l : List ObjD), (∀ x ∈ l, x.ok) → ∀ (i : Nat) (y : ObjD), l[i]? = some y → ∀ j u, y.cells[j]? = some u → (objsCells l)[i * 163 + j]? = some u
  | [], _, i, y, h, _, _, _ => by cases h
  | z :: l, hl, 0, y, h, j, u, hj => by
    obtain rfl : z = y := by simpa using h
    show (z.cells ++ objsCells l)[0 * 163 + j]? = some u
    rw [Nat.zero_mul, Nat.zero_add, List.getElem?_append_left (List.getElem?_eq_some_iff.1 hj).1]
    exact hj
  | z :: l, hl, i + 1, y, h, j, u, hj => by
    have hz := ObjD.len (hl z List.mem_cons_self)
    show (z.cells ++ objsCells l)[(i + 1) * 163 + j]? = some u
    rw [List.getElem?_append_right (by omega), hz, show (i + 1) * 163 + j - 163 = i * 163 + j by omega]
    exact objsCells_at l (fun y hy => hl y (List.mem_cons_of_mem _ hy)) i y (by simpa using h) j u hj
theorem objsCells_one (l : List ObjD) : ∀ u ∈ objsCells l, u.oneCell' = true := by
  intro u hu
  unfold objsCells at hu
  obtain ⟨y, _, hy⟩ := List.mem_flatMap.1 hu
  exact obj_one y u hy
/-- a row of objects of one's own -/
def NowAt (W : World) (B g cap : Nat) (l : List ObjD) : Prop := W.ownsRow B 47 163 (.slice (some ⟨g, 0, none⟩) l.length cap) l.length (objsCells l) ∧ ∀ o ∈ l, o.ok
section
variable {W W' : World} {B g cap : Nat} {l : List ObjD}
theorem NowAt.out (h : NowAt W B g cap l) {F : Nat → Prop} (ho : Out F W W') (hF : ¬ F g) : NowAt W' B g cap l := ⟨ownsRow_out ho h.1 (fun i hi => by cases hi; exact hF), h.2⟩
theorem NowAt.blk (h : NowAt W B g cap l) : B ≤ g ∧ ∃ cur, Blk W g 47 cur ∧ cur.toList.take (l.length * 163) = objsCells l ∧ cur.size = cap * 163 ∧ l.length ≤ cap ∧ cap ≤ maxLen := by
  rcases h.1.2 with ⟨e, _⟩ | ⟨g', cap', cur, e, hB, hg, h1, h2, h3, h4⟩
  · cases e
  · cases e
    exact ⟨hB, cur, hg, h4, h3, h1, h2⟩
theorem NowAt.lt (h : NowAt W B g cap l) : g < W.heap.size := by obtain ⟨_, cur, hb, _⟩ := h.blk; exact hb.lt
theorem NowAt.range (h : NowAt W B g cap l) {i : Nat} {o : ObjD} (hi : l[i]? = some o) : W.rangeAt g (i * 163) o.cells := by
  obtain ⟨_, cur, hb, h1, _⟩ := h.blk
  intro j u hj
  have hc := objsCells_at l h.2 i o hi j u hj
  rw [← h1, List.getElem?_take] at hc
  split at hc
  · have := blk_range hb (i * 163 + j) u hc
    rwa [Nat.zero_add] at this
  · cases hc
/-- an object is put into the row -/
theorem objsCells_set (l : List ObjD) (hl : ∀ x ∈ l, x.ok) (i : Nat) (hi : i < l.length) (o : ObjD) : objsCells (l.set i o) = (objsCells l).take (i * 163) ++ o.cells ++ (objsCells l).drop (i * 163 + 163) := by
  have h1 : (objsCells (l.take i)).length = i * 163 := by
    rw [objsCells_len _ (fun x hx => hl x (List.mem_of_mem_take hx)), List.length_take]
    congr 1
    omega
  have e0 : objsCells l = objsCells (l.take i) ++ ((l[i]).cells ++ objsCells (l.drop (i + 1))) := by
    have e : l = l.take i ++ l[i] :: l.drop (i + 1) := by rw [← List.drop_eq_getElem_cons hi, List.take_append_drop]
    have : objsCells (l.take i ++ l[i] :: l.drop (i + 1)) = objsCells (l.take i) ++ ((l[i]).cells ++ objsCells (l.drop (i + 1))) := by
      unfold objsCells
      rw [List.flatMap_append, List.flatMap_cons]
    rw [← e] at this
    exact this
  have h2 := ObjD.len (hl l[i] (List.getElem_mem hi))
  rw [List.set_eq_take_append_cons_drop, if_pos hi]
  have e1 : objsCells (l.take i ++ o :: l.drop (i + 1)) = objsCells (l.take i) ++ (o.cells ++ objsCells (l.drop (i + 1))) := by
    unfold objsCells
    rw [List.flatMap_append, List.flatMap_cons]
  rw [e1, e0]
  generalize objsCells (l.drop (i + 1)) = R
  generalize objsCells (l.take i) = T at *
  rw [List.take_left' h1, List.drop_append, h1, List.drop_eq_nil_of_le (by omega), List.nil_append, show i * 163 + 163 - i * 163 = 163 by omega, List.drop_left' h2, List.append_assoc]
theorem NowAt.set (h : NowAt W B g cap l) {i : Nat} (hi : i < l.length) (o : ObjD) (ho : o.ok) : NowAt (W.setCells g (i * 163) o.cells) B g cap (l.set i o) := by
  obtain ⟨hB, cur, hb, h4, h3, h1, h2⟩ := h.blk
  have hol := ObjD.len ho
  have hmul : i * 163 + 163 ≤ l.length * 163 := by omega
  have hmul2 : l.length * 163 ≤ cap * 163 := by omega
  have hcl : cur.toList.length = cap * 163 := by simpa using h3
  have hok : ∀ y ∈ l.set i o, y.ok := fun y hy => by
    rcases List.mem_or_eq_of_mem_set hy with h5 | rfl
    · exact h.2 y h5
    · exact ho
  have hb2 := setCells_blk g 47 o.cells (i * 163) W cur hb (by rw [hol, h3]; omega)
  rw [hol] at hb2
  refine ⟨⟨by rw [objsCells_len _ hok], .inr ⟨g, cap, _, by rw [List.length_set], hB, hb2, by rw [List.length_set]; exact h1, h2, ?_, ?_⟩⟩, hok⟩
  · rw [List.size_toArray, List.length_append, List.length_append, List.length_take, List.length_drop, hol, hcl]
    omega
  · have e1 : (cur.toList.take (i * 163)).length = i * 163 := by rw [List.length_take]; omega
    rw [objsCells_set l h.2 i hi o, ← h4, List.length_set, List.take_take, List.drop_take, show min (i * 163) (l.length * 163) = i * 163 by omega]
    show List.take (l.length * 163) (cur.toList.take (i * 163) ++ o.cells ++ cur.toList.drop (i * 163 + 163)) = _
    rw [List.take_append, List.take_of_length_le (by rw [List.length_append, e1, hol]; omega), List.length_append, e1, hol]
end
/-- all of a row of objects is put behind an empty row -/
theorem run_append_objs (w : World) {base B : Nat} {v : Value} (hown : w.ownsRow base 47 163 v 0 []) (ty : TypeId) (a : Option Addr) (cap : Nat) (l : List ObjD)
    (hu : ObjsIn w B (.slice a l.length cap) l) (hn : l.length ≤ 1000) (h0 : 0 < l.length) (hbase : base ≤ w.heap.size) :
    ∃ v' w', (Builtin.append_ #[22, 22] ty #[v, .slice a l.length cap]).run Tryz.prog w = .ok v' w' ∧ w'.ownsRow base 47 163 v' l.length (objsCells l) ∧ w.grownBy w' v.ownBlock := by
  obtain ⟨i0, z0, hi, hz, h1, h2, h3⟩ := info_object
  obtain ⟨hm, a', cap', ea, hc, hcs⟩ := hu
  injection ea with e1 e2 e3
  subst e1
  have hws : ∀ o ∈ l, o.ok := fun o ho => by
    obtain ⟨j, hj⟩ := List.mem_iff_getElem?.1 ho
    exact (hcs j o hj).1
  have hlen := objsCells_len l hws
  obtain ⟨_, _, g, off, rfl, _, _⟩ := hcs 0 l[0] (List.getElem?_eq_getElem h0)
  have hnews : ∀ j u, (objsCells l)[j]? = some u → w.cell? ((⟨g, off, none⟩ : Addr).add j) = some u := by
    intro j u hj
    obtain ⟨i, y, k, h1, rfl, h3⟩ := objsCells_split l hws j u hj
    obtain ⟨_, _, g', off', e, _, hr⟩ := hcs i y h1
    cases e
    have := hr k u h3
    rw [add_at, show off + (i * 163 + k) = off + i * 163 + k by omega]
    exact this
  obtain ⟨v', w', hrun, h2', h3', _, _⟩ := run_append_own_at (P := Tryz.prog) w base 22 ty 47 i0 z0 163 856 Tryz.underlying22 hi hz h1 h2 h3 (by omega) v 0 [] hown ⟨g, off, none⟩ l.length cap (objsCells l) hlen hnews (objsCells_one l) (by unfold maxLen; omega) (by omega) hbase
  refine ⟨v', w', hrun, ?_, h3'⟩
  rw [Nat.zero_add, List.nil_append] at h2'
  exact h2'
theorem wpList_append_objs (w : World) {ops : Array Oper} {rest : List Oper} {o : Oper} {a : Act} {Q : Exit → Act → World → Prop} (hw : Region.wanted o (yielded ops a.tmps) = true) (s x : Operand)
    (ho : o.op = .call { callee := .builtin .append, args := #[s, x], argTypes := #[22, 22] })
    (base B : Nat) (v : Value) (hs : a.eval s = v) (hown : w.ownsRow base 47 163 v 0 []) (A : Option Addr) (cap : Nat) (l : List ObjD) (hx : a.eval x = .slice A l.length cap)
    (hu : ObjsIn w B (.slice A l.length cap) l) (hn : l.length ≤ 1000) (h0 : 0 < l.length) (hbase : base ≤ w.heap.size)
    (h : ∀ g c w', NowAt w' base g c l → w.grownBy w' v.ownBlock → wpList Tryz.prog ops Q rest (a.put o.dst (.slice (some ⟨g, 0, none⟩) l.length c)) w') : wpList Tryz.prog ops Q (o :: rest) a w :=
  wpList_step fun K hK => by
    obtain ⟨v', w', hrun, h2, h3⟩ := run_append_objs w hown o.type A cap l hu hn h0 hbase
    simp only [hw, if_true]
    unfold Oper.wp execOp
    simp only [ho, resolve, invoke, builtin, Sem.run_bind, Sem.run_pure, Result.andThen_ok, List.map_toArray, List.map_cons, List.map_nil, hs, hx, hrun]
    have hok : ∀ o ∈ l, o.ok := fun o ho => by
      obtain ⟨j, hj⟩ := List.mem_iff_getElem?.1 ho
      exact (hu.at_ hj).1
    obtain ⟨g, c, rfl, -, -⟩ := World.ownsRow.form h2 (by omega)
    exact hK _ _ (h g c w' ⟨h2, hok⟩ h3)

/-- two caches over one disk -/
structure Rooms (w : World) (D : DiskP) (A B : CacheP) (xa xb : CacheD) (os na nb : List ObjD) (k : Int) : Prop where
  a : Alone w D A xa
  b : Alone w D B xb
  same : xa.disk = xb.disk
  sep : ∀ i, A.has i → ¬ B.has i
  ka : COk xa k
  kb : COk xb k
  ra : Rm os na xa
  rb : Rm os nb xb
theorem Rooms.swap {w : World} {D : DiskP} {A B : CacheP} {xa xb : CacheD} {os na nb : List ObjD} {k : Int} (h : Rooms w D A B xa xb os na nb k) : Rooms w D B A xb xa os nb na k :=
  ⟨h.b, h.a, h.same.symm, fun i hb ha => h.sep i ha hb, h.kb, h.ka, h.rb, h.ra⟩
theorem Rooms.below {w w' : World} {D : DiskP} {A B : CacheP} {xa xb : CacheD} {os na nb : List ObjD} {k : Int} (h : Rooms w D A B xa xb os na nb k) (hb : Below w.heap.size w w') : Rooms w' D A B xa xb os na nb k :=
  ⟨h.a.below hb, h.b.below hb, h.same, h.sep, h.ka, h.kb, h.ra, h.rb⟩
theorem Rooms.out {w w' : World} {D : DiskP} {A B : CacheP} {xa xb : CacheD} {os na nb : List ObjD} {k : Int} (h : Rooms w D A B xa xb os na nb k) {F : Nat → Prop} (ho : Out F w w') (hF : ∀ i, D.has i ∨ A.has i ∨ B.has i → ¬ F i) : Rooms w' D A B xa xb os na nb k :=
  ⟨⟨h.a.disk.out ho (fun i hi => hF i (.inl hi)), h.a.cache.out ho (fun i hi => hF i (.inr (.inl hi))), h.a.dp, h.a.sep⟩,
   ⟨h.b.disk.out ho (fun i hi => hF i (.inl hi)), h.b.cache.out ho (fun i hi => hF i (.inr (.inr hi))), h.b.dp, h.b.sep⟩, h.same, h.sep, h.ka, h.kb, h.ra, h.rb⟩
theorem COk.beside {x y : CacheD} {k : Int} (hx : COk x k) (hy : COk y k) : COk { x with disk := y.disk } k := ⟨hx.hand, hx.room, hx.len, hy.disk, hy.steps, hy.waits⟩
/-- the first one goes on -/
theorem Rooms.step {w w' : World} {D : DiskP} {A B : CacheP} {xa xb xa' : CacheD} {os na na' nb : List ObjD} {k k' : Int} (h : Rooms w D A B xa xb os na nb k) (hp : APost D A w w' xa') (hk : COk xa' k') (hkk : k ≤ k') (hr : Rm os na' xa') :
    ∃ A' xb', A'.g = A.g ∧ (∀ i, A'.own i ↔ A.own i) ∧ (∀ i, A'.has i → A.has i ∨ w.heap.size ≤ i) ∧ Rooms w' D A' B xa' xb' os na' nb k' ∧ Out (fun i => D.has i ∨ A.own i) w w' := by
  obtain ⟨A', hA, hs⟩ := hp
  have hB : ∀ i, B.has i → ¬ (D.has i ∨ A.own i) := fun i hb h2 => h2.elim (fun hd => h.b.sep i hd hb) (fun ha => h.sep i (.inl ha) hb)
  refine ⟨A', { xb with disk := xa'.disk }, hs.same.1, hs.own_, hs.new_, ⟨hA, ⟨hA.disk, h.b.cache.out hs.out hB, h.b.dp, h.b.sep⟩, rfl, fun i ha hb => ?_, hk, (h.kb.mono hkk).beside hk, hr, h.rb.beside hr.disk⟩, hs.out⟩
  rcases hs.new_ i ha with h1 | h1
  · exact h.sep i h1 hb
  · have := h.b.cache.has_lt i hb; omega
/-- both, within a statement: w0 its beginning, F what they write -/
def RoI (w0 : World) (F : Nat → Prop) (gn ag bg : Nat) (W : World) (os na nb : List ObjD) (k : Int) : Prop :=
  ∃ D A B xa xb, A.g = ag ∧ B.g = bg ∧ (∀ i, F i ↔ (D.has i ∨ A.own i ∨ B.own i)) ∧ Rooms W D A B xa xb os na nb k ∧ (∀ i, D.has i ∨ A.has i ∨ B.has i → w0.heap.size ≤ i ∧ i ≠ gn)
section
variable {w0 W W' : World} {F : Nat → Prop} {gn ag bg : Nat} {os na nb : List ObjD} {k : Int}
theorem RoI.swap (h : RoI w0 F gn ag bg W os na nb k) : RoI w0 F gn bg ag W os nb na k := by
  obtain ⟨D, A, B, xa, xb, e1, e2, hF, hR, hl⟩ := h
  exact ⟨D, B, A, xb, xa, e2, e1, fun i => (hF i).trans (or_congr Iff.rfl or_comm), hR.swap, fun i hi => hl i (hi.imp id Or.symm)⟩
theorem RoI.below (h : RoI w0 F gn ag bg W os na nb k) (hb : Below W.heap.size W W') : RoI w0 F gn ag bg W' os na nb k := by
  obtain ⟨D, A, B, xa, xb, e1, e2, hF, hR, hl⟩ := h
  exact ⟨D, A, B, xa, xb, e1, e2, hF, hR.below hb, hl⟩
theorem RoI.mono (h : RoI w0 F gn ag bg W os na nb k) {m : Int} (hm : k ≤ m) : RoI w0 F gn ag bg W os na nb m := by
  obtain ⟨D, A, B, xa, xb, e1, e2, hF, hR, hl⟩ := h
  exact ⟨D, A, B, xa, xb, e1, e2, hF, ⟨hR.a, hR.b, hR.same, hR.sep, hR.ka.mono hm, hR.kb.mono hm, hR.ra, hR.rb⟩, hl⟩
theorem RoI.lt (h : RoI w0 F gn ag bg W os na nb k) (i : Nat) (hi : F i) : w0.heap.size ≤ i ∧ i ≠ gn ∧ i < W.heap.size := by
  obtain ⟨D, A, B, xa, xb, e1, e2, hF, hR, hl⟩ := h
  have h1 := (hF i).1 hi
  have h2 := hl i (h1.imp id (Or.imp .inl .inl))
  refine ⟨h2.1, h2.2, ?_⟩
  rcases h1 with h1 | h1 | h1
  · exact hR.a.disk.has_lt i h1
  · exact hR.a.cache.has_lt i (.inl h1)
  · exact hR.b.cache.has_lt i (.inl h1)
/-- the row of what was put last is written -/
theorem RoI.out (h : RoI w0 F gn ag bg W os na nb k) (ho : Out (fun i => i = gn) W W') : RoI w0 F gn ag bg W' os na nb k := by
  obtain ⟨D, A, B, xa, xb, e1, e2, hF, hR, hl⟩ := h
  exact ⟨D, A, B, xa, xb, e1, e2, hF, hR.out ho (fun i hi e => (hl i hi).2 e), hl⟩
theorem RoI.step {D : DiskP} {A B : CacheP} {xa xb xa' : CacheD} {na' : List ObjD} {k' : Int} (e1 : A.g = ag) (e2 : B.g = bg) (hF : ∀ i, F i ↔ (D.has i ∨ A.own i ∨ B.own i)) (hR : Rooms W D A B xa xb os na nb k) (hl : ∀ i, D.has i ∨ A.has i ∨ B.has i → w0.heap.size ≤ i ∧ i ≠ gn) (hgn : gn < W.heap.size) (hw : w0.heap.size ≤ W.heap.size)
    (hp : APost D A W W' xa') (hk : COk xa' k') (hkk : k ≤ k') (hr : Rm os na' xa') : RoI w0 F gn ag bg W' os na' nb k' ∧ Out F W W' := by
  obtain ⟨A', xb', g1, g2, g3, g4, g5⟩ := hR.step hp hk hkk hr
  refine ⟨⟨D, A', B, xa', xb', g1.trans e1, e2, fun i => (hF i).trans (or_congr Iff.rfl (or_congr (g2 i).symm Iff.rfl)), g4, fun i hi => ?_⟩, g5.sub fun i hi => (hF i).2 (hi.imp id .inl)⟩
  rcases hi with hi | hi | hi
  · exact hl i (.inl hi)
  · rcases g3 i hi with h1 | h1
    · exact hl i (.inr (.inl h1))
    · exact ⟨by omega, by omega⟩
  · exact hl i (.inr (.inr hi))
theorem RoI.get (h : RoI w0 F gn ag bg W os na nb k) (hgn : gn < W.heap.size) (hw : w0.heap.size ≤ W.heap.size) (hk : k ≤ 1000) (oid : Int) :
    Calls Tryz.prog 18 #[.pointer (some ⟨ag, 0, none⟩), .int .i64 oid] W fun e W' => e = .returned (.tuple #[.agg (rmO os na oid).cells.toArray, .int .i64 (rmE os oid)]) ∧ RoI w0 F gn ag bg W' os na nb (k + 1) ∧ Out F W W' := by
  obtain ⟨D, A, B, xa, xb, e1, e2, hF, hR, hl⟩ := h
  obtain ⟨r1, r2, r3, _⟩ := hR.ra.get hR.ka.hand oid
  have hc := aget hR.a hR.ka oid
  unfold ptr at hc
  rw [e1] at hc
  refine hc.mono fun e W' ⟨h1, h2⟩ => ?_
  rw [r1, r2] at h1
  exact ⟨h1, RoI.step e1 e2 hF hR hl hgn hw h2 (hR.ka.get hk oid) (by omega) r3⟩
theorem RoI.put (h : RoI w0 F gn ag bg W os na nb k) (hgn : gn < W.heap.size) (hw : w0.heap.size ≤ W.heap.size) (oid : Int) (o : ObjD) (ho : o.ok) :
    Calls Tryz.prog 15 #[.pointer (some ⟨ag, 0, none⟩), .int .i64 oid, .agg o.cells.toArray] W fun e W' => e = .returned (.int .i64 (rmP os oid o)) ∧ RoI w0 F gn ag bg W' os (rmN os na oid o) nb (k + 1) ∧ Out F W W' := by
  obtain ⟨D, A, B, xa, xb, e1, e2, hF, hR, hl⟩ := h
  obtain ⟨r1, r2⟩ := hR.ra.put hR.ka.hand oid o
  have hc := aput hR.a hR.ka oid o ho
  unfold ptr at hc
  rw [e1] at hc
  refine hc.mono fun e W' ⟨h1, h2⟩ => ?_
  rw [r1] at h1
  exact ⟨h1, RoI.step e1 e2 hF hR hl hgn hw h2 (hR.ka.put oid o) (by omega) r2⟩
theorem RoI.evict (h : RoI w0 F gn ag bg W os na nb k) (hgn : gn < W.heap.size) (hw : w0.heap.size ≤ W.heap.size) (p : Int) (hp : I64 p) :
    Calls Tryz.prog 17 #[.pointer (some ⟨ag, 0, none⟩), .int .i64 p] W fun e W' => (∃ o b, e = .returned (.tuple #[.int .i64 o, .bool b])) ∧ RoI w0 F gn ag bg W' os na nb (k + 1) ∧ Out F W W' := by
  obtain ⟨D, A, B, xa, xb, e1, e2, hF, hR, hl⟩ := h
  have hc := aevict hR.a hR.ka p hp
  unfold ptr at hc
  rw [e1] at hc
  refine hc.mono fun e W' ⟨h1, h2⟩ => ?_
  exact ⟨⟨_, _, h1⟩, RoI.step e1 e2 hF hR hl hgn hw h2 (hR.ka.evict p) (by omega) (hR.ra.evict p)⟩
end
end Go.Proofs.YtemcgfncahccgaaGreat
