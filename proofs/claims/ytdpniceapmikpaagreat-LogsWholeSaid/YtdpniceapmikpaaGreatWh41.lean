/-
  The reference's Same (logs). (Written by gen_rsame.py.)
  works of the statements' package: it is so. (Written by gen_lworks2.py.)
  few of the statements' package.
  The contract of the reference's Check (logs). (Written by gen_rlchk.py.)
  The contract of the reference's Check (logs), of all frames.
  The law LogsChecks. (Written by gen_llaw.py.)
-/
import Derived.Deep.RegionHeld3
import Derived.Test.YtdpniceapmikpaaGreatWh1
import Derived.Test.YtdpniceapmikpaaGreatWh7
import Derived.Test.YtdpniceapmikpaaGreatWh10
import Derived.Test.YtdpniceapmikpaaGreatWh11
import Derived.Test.YtdpniceapmikpaaGreatWh20
import Derived.Test.YtdpniceapmikpaaGreatWh30
import Derived.Test.YtdpniceapmikpaaGreatWh38
import Derived.Test.YtdpniceapmikpaaGreatWh40
set_option linter.unusedVariables false
set_option linter.unusedSimpArgs false
namespace Go.Proofs.YtdpniceapmikpaaGreat
open Go.RowKit

set_option maxRecDepth 100000 in
set_option maxHeartbeats 4000000 in
theorem rsame_no (ed ed' : Int) (n m on om : Nat) (ls ms : List UInt8) (a1 a2 b1 b2 : Option Addr) (c1 c2 d1 d2 : Nat) (vs ys : Value) (w : World) (hs1 : BytesIn w w.heap.size vs ls) (hs2 : BytesIn w w.heap.size ys ms)
  (h : ((ed == ed') && ((n == m) && ((on == om) && (ls == ms)))) = false) : Calls Tryz.prog 15 #[.agg #[.int .i64 ed, .slice a1 n c1, .slice b1 on d1, vs], .agg #[.int .i64 ed', .slice a2 m c2, .slice b2 om d2, ys]] w fun e w' =>
  e = .returned (.bool false) ∧ Below w.heap.size w w' := by
 have hB0 := ((Below.refl w.heap.size w).alloc (Nat.le_refl _) (.cells #[.int .i64 ed, .slice a1 n c1, .slice b1 on d1, vs] 28)).alloc (by simp) (.cells #[.int .i64 ed', .slice a2 m c2, .slice b2 om d2, ys] 28)
 have K1 : Blk ((w.alloc (.cells #[.int .i64 ed, .slice a1 n c1, .slice b1 on d1, vs] 28)).alloc (.cells #[.int .i64 ed', .slice a2 m c2, .slice b2 om d2, ys] 28)) w.heap.size 28 #[.int .i64 ed, .slice a1 n c1, .slice b1 on d1, vs] := (Blk.new w _ _).alloc _
 have K2 : Blk ((w.alloc (.cells #[.int .i64 ed, .slice a1 n c1, .slice b1 on d1, vs] 28)).alloc (.cells #[.int .i64 ed', .slice a2 m c2, .slice b2 om d2, ys] 28)) (w.heap.size + 1) 28 #[.int .i64 ed', .slice a2 m c2, .slice b2 om d2, ys] := Blk.new2 w _ _ _
 have x0 := K1.cell_is 0 rfl
 have y0 := K2.cell_is 0 rfl
 have x1 := K1.cell_is 1 rfl
 have y1 := K2.cell_is 1 rfl
 have x2 := K1.cell_is 2 rfl
 have y2 := K2.cell_is 2 rfl
 have x3 := K1.cell_is 3 rfl
 have y3 := K2.cell_is 3 rfl
 have h1 := run_str _ ((hs1.below hB0 (Nat.le_refl _)).mono hB0.size)
 have h2 := run_str _ ((hs2.below hB0 (Nat.le_refl _)).mono hB0.size)
 have e1 := bStr_list ls
 have e2 := bStr_list ms
 clear K1 K2 hs1 hs2
 have hs : (ed != ed') = true ∨ ((ed != ed') = false ∧ (((n : Int) != (m : Int)) = true ∨ (((n : Int) != (m : Int)) = false ∧ (((on : Int) != (om : Int)) = true ∨ (((on : Int) != (om : Int)) = false ∧ (ls == ms) = false))))) := by
  cases q1 : (ed != ed')
  ·right
   refine ⟨rfl, ?_⟩
   cases q2 : ((n : Int) != (m : Int))
   ·right
    refine ⟨rfl, ?_⟩
    cases q3 : ((on : Int) != (om : Int))
    ·right
     refine ⟨rfl, ?_⟩
     have r1 : (ed == ed') = true := by simpa using q1
     have r2 : (n == m) = true := by have : (n : Int) = m := (by simpa using q2); simpa using (by omega : n = m)
     have r3 : (on == om) = true := by have : (on : Int) = om := (by simpa using q3); simpa using (by omega : on = om)
     rw [r1, r2, r3] at h
     simpa using h
    ·left; rfl
   ·left; rfl
  ·left; rfl
 clear h
 rcases hs with q1 | ⟨q1, q2 | ⟨q2, q3 | ⟨q3, q4⟩⟩⟩
 all_goals
  go_enter Tryz.func15, Tryz.ntmps15
  go_wp2_with fail
  go_ret
  exact ⟨rfl, hB0⟩

set_option maxRecDepth 100000 in
set_option maxHeartbeats 8000000 in
theorem rsame_yes (ed ed' : Int) (l m : List Int) (ol om : List ObjD) (ls ms : List UInt8) (a1 a2 b1 b2 : Option Addr) (c1 c2 d1 d2 : Nat) (vs ys : Value) (w : World) (hs1 : BytesIn w w.heap.size vs ls) (hs2 : BytesIn w w.heap.size ys ms)
  (hu : IntsIn w w.heap.size (.slice a1 l.length c1) l) (hv : IntsIn w w.heap.size (.slice a2 m.length c2) m) (hou : ObjsIn w w.heap.size (.slice b1 ol.length d1) ol) (hov : ObjsIn w w.heap.size (.slice b2 om.length d2) om)
  (h : ((ed == ed') && ((l.length == m.length) && ((ol.length == om.length) && (ls == ms)))) = true) : Calls Tryz.prog 15 #[.agg #[.int .i64 ed, .slice a1 l.length c1, .slice b1 ol.length d1, vs], .agg #[.int .i64 ed', .slice a2 m.length c2, .slice b2 om.length d2, ys]] w fun e w' =>
  e = .returned (.bool (intsEq l m && objsEq ol om)) ∧ Below w.heap.size w w' := by
 obtain ⟨q1, q2, q3, q4⟩ : (ed == ed') = true ∧ l.length = m.length ∧ ol.length = om.length ∧ (ls == ms) = true := by
  simp at h; simp; exact h
 have hB0 := ((Below.refl w.heap.size w).alloc (Nat.le_refl _) (.cells #[.int .i64 ed, .slice a1 l.length c1, .slice b1 ol.length d1, vs] 28)).alloc (by simp) (.cells #[.int .i64 ed', .slice a2 m.length c2, .slice b2 om.length d2, ys] 28)
 have K1 : Blk ((w.alloc (.cells #[.int .i64 ed, .slice a1 l.length c1, .slice b1 ol.length d1, vs] 28)).alloc (.cells #[.int .i64 ed', .slice a2 m.length c2, .slice b2 om.length d2, ys] 28)) w.heap.size 28 #[.int .i64 ed, .slice a1 l.length c1, .slice b1 ol.length d1, vs] := (Blk.new w _ _).alloc _
 have K2 : Blk ((w.alloc (.cells #[.int .i64 ed, .slice a1 l.length c1, .slice b1 ol.length d1, vs] 28)).alloc (.cells #[.int .i64 ed', .slice a2 m.length c2, .slice b2 om.length d2, ys] 28)) (w.heap.size + 1) 28 #[.int .i64 ed', .slice a2 m.length c2, .slice b2 om.length d2, ys] := Blk.new2 w _ _ _
 have x0 := K1.cell_is 0 rfl
 have y0 := K2.cell_is 0 rfl
 have x1 := K1.cell_is 1 rfl
 have y1 := K2.cell_is 1 rfl
 have x2 := K1.cell_is 2 rfl
 have y2 := K2.cell_is 2 rfl
 have x3 := K1.cell_is 3 rfl
 have y3 := K2.cell_is 3 rfl
 have h1 := run_str _ ((hs1.below hB0 (Nat.le_refl _)).mono hB0.size)
 have h2 := run_str _ ((hs2.below hB0 (Nat.le_refl _)).mono hB0.size)
 have e1 := bStr_list ls
 have e2 := bStr_list ms
 have n1 : (ed != ed') = false := by simpa using q1
 have n2 : ((l.length : Int) != (m.length : Int)) = false := by rw [q2]; simp
 have n3 : ((ol.length : Int) != (om.length : Int)) = false := by rw [q3]; simp
 have HL1 := Lib.hid q2
 have HL2 := Lib.hid q3
 obtain ⟨hlb, _⟩ := id hu
 have hlb : l.length ≤ 9223372036854775807 := by unfold maxLen at hlb; exact hlb
 obtain ⟨hlc, _⟩ := id hou
 have hlc : ol.length ≤ 9223372036854775807 := by unfold maxLen at hlc; exact hlc
 obtain ⟨q, hq⟩ : ∃ q, q = (intsEq l m && objsEq ol om) := ⟨_, rfl⟩
 rw [← hq]
 have HQ := Lib.hid hq
 clear hs1 hs2 h q1 q2 q3 hq
 go_enter Tryz.func15, Tryz.ntmps15
 go_wp2_with fail
 clear x0 y0 x1 y1 x2 y2 x3 y3 h1 h2 e1 e2 n1 n2 n3 q4
 go_loopw [5] (fun i wr => ∃ (j : Nat), j ≤ l.length ∧ i = .int .i64 j ∧ Hid (l.take j = m.take j) ∧ Blk wr w.heap.size 28 #[.int .i64 ed, .slice a1 l.length c1, .slice b1 ol.length d1, vs] ∧ Blk wr (w.heap.size + 1) 28 #[.int .i64 ed', .slice a2 m.length c2, .slice b2 om.length d2, ys] ∧ Below w.heap.size w wr) (fun i _ => l.length - (intOf i).toNat)
 case atStart => exact ⟨0, by omega, rfl, Lib.hid rfl, K1, K2, hB0⟩
 case round =>
  clear K1 K2 hB0
  obtain ⟨j, hj, rfl, HT, K1, K2, hB⟩ := hrel
  have p1 := K1.cell_is 1 rfl
  have p2 := K2.cell_is 1 rfl
  by_cases hlt : j < l.length
  ·obtain ⟨x, hx⟩ : ∃ c, l[j]? = some c := ⟨_, List.getElem?_eq_getElem hlt⟩
   have hlt2 : j < m.length := by have := HL1.out; omega
   obtain ⟨y, hy⟩ : ∃ c, m[j]? = some c := ⟨_, List.getElem?_eq_getElem hlt2⟩
   obtain ⟨g1, o1, rfl, hg1, hc1⟩ := hu.at_ hx
   obtain ⟨g2, o2, rfl, hg2, hc2⟩ := hv.at_ hy
   have x0 := (hB.cell (p := ⟨g1, o1 + j, none⟩) hg1).trans hc1
   have y0 := (hB.cell (p := ⟨g2, o2 + j, none⟩) hg2).trans hc2
   have p1 : wr.cell? ⟨w.heap.size, 1, none⟩ = some (.slice (some ⟨g1, o1, none⟩) l.length c1) := p1
   have p2 : wr.cell? ⟨w.heap.size + 1, 1, none⟩ = some (.slice (some ⟨g2, o2, none⟩) m.length c2) := p2
   have HX := Lib.hid hx
   have HY := Lib.hid hy
   clear hx hy hu hv hc1 hc2
   by_cases hxy : x = y
   ·have HS : Hid (l.take (j + 1) = m.take (j + 1)) := Lib.hid (by rw [List.take_add_one, List.take_add_one, HT.out, HX.out, HY.out, hxy])
    have f1 : (x != y) = false := by rw [hxy]; simp
    clear hxy
    go_upto_region 6 with fail
    have k1 := hB.drew
    refine wp_region_held_drew (S := (fun w' => Below w.heap.size w w' ∧ w'.cell? ⟨w.heap.size, 1, none⟩ = some (.slice (some ⟨g1, o1, none⟩) l.length c1) ∧ w'.cell? ⟨w.heap.size + 1, 1, none⟩ = some (.slice (some ⟨g2, o2, none⟩) m.length c2) ∧ w'.cell? ⟨g1, o1 + j, none⟩ = some (.int .i64 x) ∧ w'.cell? ⟨g2, o2 + j, none⟩ = some (.int .i64 y))) (by kernel_rfl) (by (try dsimp only); (refine ⟨?_, ?_, ?_, ?_, ?_⟩ <;> assumption)) (fun hHeld => ?_)
    refine tk 0 ?_
    refine tk 1 ?_
    refine tk 2 ?_
    refine tk 3 ?_
    refine tk 4 ?_
    refine tk 5 ?_
    refine tk 6 ?_
    refine tk 7 ?_
    refine tk 8 ?_
    refine tk 9 ?_
    refine tk 10 ?_
    refine wpAnyH_done (by kernel_rfl) ?_ _
    go_wp2_with fail
    exact ⟨⟨j + 1, by omega, by go_num, HS, K1.drew, K2.drew, by assumption⟩, by simp [intOf] <;> omega⟩
   ·have hq : q = false := by
     rw [HQ.out, (show intsEq l m = false from beq_eq_false_iff_ne.2 (ints_no HX.out HY.out hxy))]; rfl
    have HN := Lib.hid hq
    have f1 : (x != y) = true := by simpa using hxy
    clear hxy hq
    go_upto_region 6 with fail
    have k1 := hB.drew
    refine wp_region_held_drew (S := (fun w' => Below w.heap.size w w' ∧ w'.cell? ⟨w.heap.size, 1, none⟩ = some (.slice (some ⟨g1, o1, none⟩) l.length c1) ∧ w'.cell? ⟨w.heap.size + 1, 1, none⟩ = some (.slice (some ⟨g2, o2, none⟩) m.length c2) ∧ w'.cell? ⟨g1, o1 + j, none⟩ = some (.int .i64 x) ∧ w'.cell? ⟨g2, o2 + j, none⟩ = some (.int .i64 y))) (by kernel_rfl) (by (try dsimp only); (refine ⟨?_, ?_, ?_, ?_, ?_⟩ <;> assumption)) (fun hHeld => ?_)
    refine tk 0 ?_
    refine tk 1 ?_
    refine tk 2 ?_
    refine tk 3 ?_
    refine tk 4 ?_
    refine tk 5 ?_
    refine tk 6 ?_
    refine tk 7 ?_
    refine tk 8 ?_
    refine tk 9 ?_
    refine tk 10 ?_
    refine wpAnyH_done (by kernel_rfl) ?_ _
    go_wp2_with fail
    go_ret
    exact ⟨by rw [HN.out]; rfl, by assumption⟩
  ·obtain rfl : j = l.length := by omega
   have hq : intsEq l m = true := by
    have := HT.out
    rw [List.take_of_length_le (by omega), List.take_of_length_le (by rw [HL1.out]; omega)] at this
    exact beq_iff_eq.2 this
   have hq2 : q = objsEq ol om := by rw [HQ.out, hq]; rfl
   have HQ2 := Lib.hid hq2
   clear hq hq2 HT HQ
   go_wp2_with fail
   clear p1 p2
   go_loopw [6] (fun i wr => ∃ (j : Nat), j ≤ ol.length ∧ i = .int .i64 j ∧ Hid (ol.take j = om.take j) ∧ Blk wr w.heap.size 28 #[.int .i64 ed, .slice a1 l.length c1, .slice b1 ol.length d1, vs] ∧ Blk wr (w.heap.size + 1) 28 #[.int .i64 ed', .slice a2 m.length c2, .slice b2 om.length d2, ys] ∧ Below w.heap.size w wr) (fun i _ => ol.length - (intOf i).toNat)
   case atStart => exact ⟨0, by omega, rfl, Lib.hid rfl, K1, K2, hB⟩
   case round =>
    clear K1 K2 hB
    obtain ⟨j, hj, rfl, HT, K1, K2, hB⟩ := hrel
    have p1 := K1.cell_is 2 rfl
    have p2 := K2.cell_is 2 rfl
    by_cases hlt : j < ol.length
    ·obtain ⟨x, hx⟩ : ∃ c, ol[j]? = some c := ⟨_, List.getElem?_eq_getElem hlt⟩
     have hlt2 : j < om.length := by have := HL2.out; omega
     obtain ⟨y, hy⟩ : ∃ c, om[j]? = some c := ⟨_, List.getElem?_eq_getElem hlt2⟩
     obtain ⟨hxo, _, g1, o1, rfl, hg1, hr1⟩ := hou.at_ hx
     obtain ⟨hyo, _, g2, o2, rfl, hg2, hr2⟩ := hov.at_ hy
     have p1 : wr.cell? ⟨w.heap.size, 2, none⟩ = some (.slice (some ⟨g1, o1, none⟩) ol.length d1) := p1
     have p2 : wr.cell? ⟨w.heap.size + 1, 2, none⟩ = some (.slice (some ⟨g2, o2, none⟩) om.length d2) := p2
     have HR1 := Lib.hid hr1
     have HR2 := Lib.hid hr2
     have HX := Lib.hid hx
     have HY := Lib.hid hy
     clear hx hy hou hov hr1 hr2
     cases hxy : objEq x y
     ·have hq : q = false := by
       rw [HQ2.out]
       exact objs_no HX.out HY.out hxy
      have HN := Lib.hid hq
      clear hq
      go_upto_region 11 with fail
      have k1 := hB.drew
      refine wp_region_held_drew (S := (fun w' => Below w.heap.size w w' ∧ w'.cell? ⟨w.heap.size, 2, none⟩ = some (.slice (some ⟨g1, o1, none⟩) ol.length d1) ∧ w'.cell? ⟨w.heap.size + 1, 2, none⟩ = some (.slice (some ⟨g2, o2, none⟩) om.length d2))) (by kernel_rfl) (by (try dsimp only); (refine ⟨?_, ?_, ?_⟩ <;> assumption)) (fun hHeld => ?_)
      refine tk 0 ?_
      refine tk 1 ?_
      refine tk 2 ?_
      refine tk 3 ?_
      refine ty 4 rfl (yieldsIf_load_mid (by rfl) 62 _ rfl _ _ rfl x.cells _ (fun w' h => range_below HR1.out h.1 hg1) Tryz.underlying62 rfl (by rw [ObjD.len hxo]; kernel_rfl)) ?_
      try simp only [Act.put, Array.toArray_toList, List.toArray_toList, pz0, pz1, pz2, pz3, pz4, pz5]
      refine tk 5 ?_
      refine tk 6 ?_
      refine tk 7 ?_
      refine tk 8 ?_
      refine ty 9 rfl (yieldsIf_load_mid (by rfl) 62 _ rfl _ _ rfl y.cells _ (fun w' h => range_below HR2.out h.1 hg2) Tryz.underlying62 rfl (by rw [ObjD.len hyo]; kernel_rfl)) ?_
      try simp only [Act.put, Array.toArray_toList, List.toArray_toList, pz0, pz1, pz2, pz3, pz4, pz5]
      refine ty 10 rfl (yieldsIf_neq_agg (by rfl) 62 _ _ _ rfl x.cells.toArray y.cells.toArray rfl rfl (by kernel_rfl) false (fun w' _ => (obj_equalIn 9996 x y hxo hyo w').trans (by rw [hxy]))) ?_
      refine wpAnyH_done (by kernel_rfl) ?_ _
      go_wp2_with fail
      go_ret
      exact ⟨by rw [HN.out]; rfl, by assumption⟩
     ·have HS : Hid (ol.take (j + 1) = om.take (j + 1)) := Lib.hid (by rw [List.take_add_one, List.take_add_one, HT.out, HX.out, HY.out, (objEq_iff x y).1 hxy])
      go_upto_region 11 with fail
      have k1 := hB.drew
      refine wp_region_held_drew (S := (fun w' => Below w.heap.size w w' ∧ w'.cell? ⟨w.heap.size, 2, none⟩ = some (.slice (some ⟨g1, o1, none⟩) ol.length d1) ∧ w'.cell? ⟨w.heap.size + 1, 2, none⟩ = some (.slice (some ⟨g2, o2, none⟩) om.length d2))) (by kernel_rfl) (by (try dsimp only); (refine ⟨?_, ?_, ?_⟩ <;> assumption)) (fun hHeld => ?_)
      refine tk 0 ?_
      refine tk 1 ?_
      refine tk 2 ?_
      refine tk 3 ?_
      refine ty 4 rfl (yieldsIf_load_mid (by rfl) 62 _ rfl _ _ rfl x.cells _ (fun w' h => range_below HR1.out h.1 hg1) Tryz.underlying62 rfl (by rw [ObjD.len hxo]; kernel_rfl)) ?_
      try simp only [Act.put, Array.toArray_toList, List.toArray_toList, pz0, pz1, pz2, pz3, pz4, pz5]
      refine tk 5 ?_
      refine tk 6 ?_
      refine tk 7 ?_
      refine tk 8 ?_
      refine ty 9 rfl (yieldsIf_load_mid (by rfl) 62 _ rfl _ _ rfl y.cells _ (fun w' h => range_below HR2.out h.1 hg2) Tryz.underlying62 rfl (by rw [ObjD.len hyo]; kernel_rfl)) ?_
      try simp only [Act.put, Array.toArray_toList, List.toArray_toList, pz0, pz1, pz2, pz3, pz4, pz5]
      refine ty 10 rfl (yieldsIf_neq_agg (by rfl) 62 _ _ _ rfl x.cells.toArray y.cells.toArray rfl rfl (by kernel_rfl) true (fun w' _ => (obj_equalIn 9996 x y hxo hyo w').trans (by rw [hxy]))) ?_
      refine wpAnyH_done (by kernel_rfl) ?_ _
      go_wp2_with fail
      exact ⟨⟨j + 1, by omega, by go_num, HS, K1.drew, K2.drew, by assumption⟩, by simp [intOf] <;> omega⟩
    ·obtain rfl : j = ol.length := by omega
     have hq : q = true := by
      rw [HQ2.out]
      have := HT.out
      rw [List.take_of_length_le (by omega), List.take_of_length_le (by rw [HL2.out]; omega)] at this
      exact (objsEq_iff ol om).2 this
     have HN := Lib.hid hq
     clear hq
     go_wp2_with fail
     go_ret
     exact ⟨by rw [HN.out]; rfl, hB⟩

theorem rsame_any (f g : FrameD) (u v : Value) (w : World) (hu : FrameIn w w.heap.size u f) (hv : FrameIn w w.heap.size v g) : Calls Tryz.prog 15 #[u, v] w fun e w' => e = .returned (.bool (sameB f g)) ∧ Below w.heap.size w w' := by
 obtain ⟨vo, vb, vs, rfl, o1, b1, s1⟩ := hu
 obtain ⟨yo, yb, ys, rfl, o2, b2, s2⟩ := hv
 obtain ⟨_, a1, c1, rfl, _, _⟩ := id o1
 obtain ⟨_, a2, c2, rfl, _, _⟩ := id o2
 obtain ⟨_, a3, c3, rfl, _, _⟩ := id b1
 obtain ⟨_, a4, c4, rfl, _, _⟩ := id b2
 cases h : ((f.ed == g.ed) && ((f.oids.length == g.oids.length) && ((f.objs.length == g.objs.length) && (f.state == g.state))))
 ·have e : sameB f g = false := by
   cases hs : sameB f g
   ·rfl
   ·have := (sameB_iff f g).1 hs
    subst this
    simp at h
  rw [e]
  exact rsame_no f.ed g.ed _ _ _ _ f.state g.state a1 a2 a3 a4 c1 c2 c3 c4 vs ys w s1 s2 h
 ·have e : sameB f g = (intsEq f.oids g.oids && objsEq f.objs g.objs) := by
   simp at h
   unfold sameB
   rw [h.1, h.2.2.2]; simp
  rw [e]
  exact rsame_yes f.ed g.ed f.oids g.oids f.objs g.objs f.state g.state a1 a2 a3 a4 c1 c2 c3 c4 vs ys w s1 s2 o1 o2 b1 b2 h
end Go.Proofs.YtdpniceapmikpaaGreat
namespace Go.Proofs.YtdpniceapmikpaaGreat
open Go.RowKit

set_option maxRecDepth 100000 in
set_option maxHeartbeats 8000000 in
theorem works_any (w : World) : Calls Tryz.prog 10 #[] w fun e w' => e = .returned (.bool true) ∧ Below w.heap.size w w' := by
 have HN := Lib.hid (dnew_yes 29 w (by decide) (by decide))
 obtain ⟨D0, eD0⟩ : ∃ D, D = newAt w.heap.size := ⟨_, rfl⟩
 rw [← eD0] at HN
 have hD0 : ∀ i, D0.has i → w.heap.size ≤ i := by
  rw [eD0]
  rintro i (rfl | rfl | h | h)
  ·exact Nat.le_succ _
  ·exact Nat.le_refl _
  ·cases h
  ·cases h
 unfold ptr at HN
 clear eD0
 go_enter Tryz.func10, Tryz.ntmps10
 go_wp2_with fail
 refine HN.out.mono ?_; rintro e w1 ⟨rfl, hd1, hb1⟩
 have HD1 := Lib.hid hd1
 have HB1 := Lib.hid hb1
 clear hd1 hb1 HN
 go_upto_region 3 with fail
 obtain ⟨W1, eW1⟩ : ∃ W, W = w1.alloc (.cells #[.int .i64 3] 23) := ⟨_, rfl⟩
 obtain ⟨gp, egp⟩ : ∃ k, k = w1.heap.size := ⟨_, rfl⟩
 have HP1 := Lib.hid (show Blk W1 gp 23 #[.int .i64 3] by rw [eW1, egp]; exact Blk.new w1 _ _)
 have HD2 := Lib.hid (show DiskAt W1 D0 (newDisk 29) by rw [eW1]; exact HD1.out.below ((Below.refl _ w1).alloc (Nat.le_refl _) _))
 have hnp : ¬ D0.has gp := fun hd => by have := HD1.out.has_lt gp hd; omega
 have HB2 := Lib.hid (show Below w.heap.size w W1 by rw [eW1]; exact HB1.out.alloc HB1.out.size _)
 have hgp : w.heap.size ≤ gp := by rw [egp]; exact HB1.out.size
 rw [← eW1, ← egp]
 clear eW1 egp HD1 HB1
 refine wp_region_held_drew (S := (fun w' => w'.cell? ⟨gp, 0, none⟩ = some (.int .i64 3))) (by kernel_rfl) (by first | exact HP1.out.drew.cell_is 0 rfl | ((try dsimp only); exact HP1.out.drew.cell_is 0 rfl)) (fun hHeld => ?_)
 refine tk 0 ?_
 refine tk 1 ?_
 refine rd 2 fun K hK => ?_
 go_simp
 refine (some_any _).mono ?_; rintro e wS ⟨vS, rfl, hfS, hcS, hbS⟩
 have HP3 := Lib.hid (HP1.out.drew.below hbS HP1.out.lt)
 have HD3 := Lib.hid (HD2.out.drew.below hbS)
 have HBS := Lib.hid (HB2.out.drew.trans (hbS.mono HB2.out.size))
 have HFS := Lib.hid (And.intro hfS hcS)
 have hnpS := hnp
 clear hfS hcS hbS
 go_wp2_with fail
 refine hK.out _ _ (by first | first | exact (hs1.out.blk HP3.out hnpS).cell_is 0 rfl | exact HP3.out.cell_is 0 rfl | ((try dsimp only); first | exact (hs1.out.blk HP3.out hnpS).cell_is 0 rfl | exact HP3.out.cell_is 0 rfl)) (fun hHeld => ?_)
 clear hK K
 try simp only [Act.put, pz0, pz1, pz2, pz3, pz4, pz5]
 refine rd 3 fun K hK => ?_
 go_simp
 have hwr := callsIn_wide.1 (lwrite_in 6 (Nat.le_refl _) D0 (newDisk 29) 3 1 frame0 vS wS HD3.out (newDisk_ok 29 (by decide) (by decide)) HFS.out.1 (by kernel_rfl) (by kernel_rfl) (by decide) HFS.out.2 works_steps)
 unfold ptr at hwr
 rw [disk1_is] at hwr
 refine hwr.mono ?_; rintro e wW ⟨rfl, D1, hd1, hs1⟩
 clear hwr
 go_wp2_with fail
 refine hK.out _ _ (by first | first | exact (hs1.out.blk HP3.out hnpS).cell_is 0 rfl | exact HP3.out.cell_is 0 rfl | ((try dsimp only); first | exact (hs1.out.blk HP3.out hnpS).cell_is 0 rfl | exact HP3.out.cell_is 0 rfl)) (fun hHeld => ?_)
 clear hK K
 try simp only [Act.put, pz0, pz1, pz2, pz3, pz4, pz5]
 refine tk 4 ?_
 refine wpAnyH_done (by kernel_rfl) ?_ _
 try simp only [Act.put, pz0, pz1, pz2, pz3, pz4, pz5]
 have HD5 := Lib.hid hd1
 have HS5 := Lib.hid hs1
 clear hd1 hs1
 have hnp1 : ¬ D1.has gp := HS5.out.far HP3.out.lt hnpS
 have HP5 := Lib.hid (HS5.out.out.blk HP3.out hnpS)
 have hD1w : ∀ i, D1.has i → w.heap.size ≤ i := fun i hi => (HS5.out.new_ i hi).elim (hD0 i) (fun h => Nat.le_trans HBS.out.size h)
 have HB5 := Lib.hid (show Below w.heap.size w wW from HBS.out.trans (HS5.out.out.below HBS.out.size (fun i hi hd => by have := hD0 i hd; omega)))
 rw [HS5.out.same.symm]
 have c1 := HP5.out.cell_is 0 rfl
 have hr1 := callsIn_wide.1 (lread_well 6 (Nat.le_refl _) D1 disk1 3 1 wW HD5.out works_go)
 unfold ptr at hr1
 go_wp2_with fail
 refine hr1.mono ?_; rintro e w4 ⟨v4, y4, rfl, hf4, hd4, hy4, hs4⟩
 clear hr1 c1
 have hfi := hf4.in_
 obtain ⟨vo, vb, vs, rfl, ⟨_, a1, q1, rfl, _⟩, ⟨_, a2, q2, rfl, _⟩, ⟨_, a3, q3, rfl, _⟩⟩ := hfi
 have hy : y4 = disk1.plus 4 := by rw [hy4, head_is, head_n, head_nb]; rfl
 rw [hy] at hd4
 obtain ⟨F4, eF⟩ : ∃ F, F = (#[.int .i64 (frameOf disk1 3 1).ed, .slice a1 (frameOf disk1 3 1).oids.length q1, .slice a2 (frameOf disk1 3 1).objs.length q2, .slice a3 (frameOf disk1 3 1).state.length q3] : Array Value) := ⟨_, rfl⟩
 rw [← eF] at hf4 ⊢
 have hFi : (Tryz.prog.info? 28).map (·.size) = some F4.size := by rw [eF]; kernel_rfl
 have hF1 : F4.all (·.oneCell') = true := by rw [eF, List.all_toArray]; rfl
 have hFz : zeroF.size = F4.size := by rw [eF]; rfl
 rw [frame_is] at hf4
 have HF4 := Lib.hid hf4
 have HD6 := Lib.hid hd4
 have HS6 := Lib.hid hs4
 have HP6 := Lib.hid (hs4.out.blk HP5.out hnp1)
 have HB6 := Lib.hid (HB5.out.trans (hs4.out.below HB5.out.size (fun i hi hd => by have := hD1w i hd; omega)))
 have hlt1 := HD5.out.has_lt
 have HLT := Lib.hid hlt1
 clear hf4 hd4 hs4 hy hy4 eF hlt1 HD3 HP3 HS5 HFS
 go_upto_region 5 with (refine wpList_store_row rfl 28 _ _ rfl w4.heap.size F4 rfl rfl 28 _ (heap_alloc_new w4 _) hFi hFz hF1 ?_; rw [World.setRow_alloc_new])
 obtain ⟨W7, eW7⟩ : ∃ W, W = w4.alloc (.cells F4 28) := ⟨_, rfl⟩
 obtain ⟨gx, egx⟩ : ∃ k, k = w4.heap.size := ⟨_, rfl⟩
 have hb7 : Below w4.heap.size w4 W7 := by rw [eW7]; exact (Below.refl _ w4).alloc (Nat.le_refl _) _
 have HX7 := Lib.hid (show Blk W7 gx 28 F4 by rw [eW7, egx]; exact Blk.new w4 _ _)
 have HO7 := Lib.hid (outB hb7 : Out D1.has w4 W7)
 have HD7 := Lib.hid (HD6.out.below hb7)
 have HP7 := Lib.hid (HP6.out.below hb7 HP6.out.lt)
 have hnx : ¬ D1.has gx := fun hd => by have := HD6.out.has_lt gx hd; omega
 have HB7 := Lib.hid (HB6.out.trans (hb7.mono HB6.out.size))
 rw [← eW7, ← egx]
 have HGX := Lib.hid egx
 clear eW7 egx hb7
 have c1 := HP7.out.cell_is 0 rfl
 have hr2 := lread_none D1 (disk1.plus 4) 3 0 W7 HD7.out (disk1_ok 4 (by decide)) (by kernel_rfl) (disk1_err 4 2 (by decide) (by decide)) (by rw [show headS (disk1.plus 4) 3 0 = sector0 from head0_is]; exact head_none)
 unfold ptr zeroF at hr2
 rw [plus_stepped] at hr2
 go_wp2_with fail
 refine hr2.mono ?_; rintro e w8 ⟨rfl, hd8, hs8⟩
 have hZi : (Tryz.prog.info? 28).map (·.size) = some (#[.int .i64 0, .slice none 0 0, .slice none 0 0, .slice none 0 0] : Array Value).size := by kernel_rfl
 have hZ1 : (#[.int .i64 0, .slice none 0 0, .slice none 0 0, .slice none 0 0] : Array Value).all (·.oneCell') = true := by rw [List.all_toArray]; rfl
 clear hr2 c1
 have HX8 := Lib.hid (hs8.out.blk HX7.out hnx)
 have HP8 := Lib.hid (hs8.out.blk HP7.out hnp1)
 have HO8 := Lib.hid (HO7.out.trans hs8.out (fun _ _ h => h))
 have HD8 := Lib.hid hd8
 have HB8 := Lib.hid (HB7.out.trans (hs8.out.below HB7.out.size (fun i hi hd => by have := hD1w i hd; omega)))
 clear hd8 hs8
 go_upto_region 6 with (refine wpList_store_row rfl 28 _ _ rfl w8.heap.size #[.int .i64 0, .slice none 0 0, .slice none 0 0, .slice none 0 0] rfl rfl 28 _ (heap_alloc_new w8 _) hZi rfl hZ1 ?_; rw [World.setRow_alloc_new])
 obtain ⟨W9, eW9⟩ : ∃ W, W = w8.alloc (.cells #[.int .i64 0, .slice none 0 0, .slice none 0 0, .slice none 0 0] 28) := ⟨_, rfl⟩
 have hb9 : Below w8.heap.size w8 W9 := by rw [eW9]; exact (Below.refl _ w8).alloc (Nat.le_refl _) _
 rw [← eW9]
 clear eW9
 have c1 := (HP8.out.below hb9 HP8.out.lt).cell_is 0 rfl
 have hsc := rsector_yes 3 ⟨2, 1, 0⟩ W9 (by decide) ⟨by decide, .inl ⟨rfl, rfl⟩⟩
 have HX9 := Lib.hid (HX8.out.below hb9 HX8.out.lt)
 have HP9 := Lib.hid (HP8.out.below hb9 HP8.out.lt)
 have HD9 := Lib.hid (HD8.out.below hb9)
 have HO9 := Lib.hid (HO8.out.trans (G := fun _ => False) (outB hb9) (fun _ _ => False.elim))
 have HB9 := Lib.hid (HB8.out.trans (hb9.mono HB8.out.size))
 have hse : ((Place.sec 3 ⟨2, 1, 0⟩ : Nat) : Int) = 14 := by kernel_rfl
 rw [hse] at hsc
 clear hb9 hse
 go_wp2_with fail
 refine hsc.mono ?_; rintro e w10 ⟨rfl, hb10⟩
 have HX10 := Lib.hid (HX9.out.below hb10 HX9.out.lt)
 have HP10 := Lib.hid (HP9.out.below hb10 HP9.out.lt)
 have HD10 := Lib.hid (HD9.out.below hb10)
 have HO10 := Lib.hid (HO9.out.trans (G := fun _ => False) (outB hb10) (fun _ _ => False.elim))
 have HB10 := Lib.hid (HB9.out.trans (hb10.mono HB9.out.size))
 clear hb10 hsc c1
 have hsp := dspoil_any D1 (disk1.plus 5) 14 5 1 w10 HD10.out (disk1_ok 5 (by decide)) (by decide +kernel) (by decide)
 unfold ptr at hsp
 go_wp2_with fail
 refine hsp.mono ?_; rintro e w11 ⟨rfl, hd11, hs11⟩
 have HX11 := Lib.hid (hs11.out.blk HX10.out hnx)
 have HP11 := Lib.hid (hs11.out.blk HP10.out hnp1)
 have HO11 := Lib.hid (HO10.out.trans hs11.out (fun _ _ h => h))
 have HD11 := Lib.hid (show DiskAt w11 D1 (disk2 5) from hd11)
 have HB11 := Lib.hid (HB10.out.trans (hs11.out.below HB10.out.size (fun i hi hd => by have := hD1w i hd; omega)))
 clear hd11 hs11 hsp
 have c1 := HP11.out.cell_is 0 rfl
 have hr3 := lread_none D1 (disk2 5) 3 1 w11 HD11.out (disk2_ok 5 (by decide)) (by kernel_rfl) (disk2_err 5 14 (by decide) (by decide)) (by rw [head2_is]; exact head2_none)
 unfold ptr zeroF at hr3
 go_wp2_with fail
 refine hr3.mono ?_; rintro e w12 ⟨rfl, hd12, hs12⟩
 have HX12 := Lib.hid (hs12.out.blk HX11.out hnx)
 have HO12 := Lib.hid (HO11.out.trans hs12.out (fun _ _ h => h))
 have HD12 := Lib.hid hd12
 have HB12 := Lib.hid (HB11.out.trans (hs12.out.below HB11.out.size (fun i hi hd => by have := hD1w i hd; omega)))
 clear hd12 hs12 hr3 c1
 go_upto_region 9 with (refine wpList_store_row rfl 28 _ _ rfl w12.heap.size #[.int .i64 0, .slice none 0 0, .slice none 0 0, .slice none 0 0] rfl rfl 28 _ (heap_alloc_new w12 _) hZi rfl hZ1 ?_; rw [World.setRow_alloc_new])
 obtain ⟨W13, eW13⟩ : ∃ W, W = w12.alloc (.cells #[.int .i64 0, .slice none 0 0, .slice none 0 0, .slice none 0 0] 28) := ⟨_, rfl⟩
 have hb13 : Below w12.heap.size w12 W13 := by rw [eW13]; exact (Below.refl _ w12).alloc (Nat.le_refl _) _
 rw [← eW13]
 clear eW13
 have e6 : (disk2 5).stepped = disk2 6 := by kernel_rfl
 have HX13 := Lib.hid (HX12.out.below hb13 HX12.out.lt)
 have HD13 := Lib.hid (show DiskAt W13 D1 (disk2 6) by rw [← e6]; exact HD12.out.below hb13)
 have HO13 := Lib.hid (HO12.out.trans (G := fun _ => False) (outB hb13) (fun _ _ => False.elim))
 have HB13 := Lib.hid (HB12.out.trans (hb13.mono HB12.out.size))
 clear hb13 e6 HX7 HX8 HX9 HX10 HX11 HX12 HD7 HD8 HD9 HD10 HD11 HD12 HO7 HO8 HO9 HO10 HO11 HO12 HB7 HB8 HB9 HB10 HB11 HB12 HP7 HP8 HP9 HP10 HP11 hZi hZ1
 refine wp_region_held_drew (S := (fun w' => Blk w' gx 28 F4)) (by kernel_rfl) (by first | exact HX13.out.drew | ((try dsimp only); exact HX13.out.drew)) (fun hHeld => ?_)
 refine tk 0 ?_
 refine tk 2 ?_
 refine tk 5 ?_
 refine tk 8 ?_
 refine rd 1 fun K hK => ?_
 go_simp
 refine (num_any _ _).mono ?_; rintro e wN ⟨rfl, rfl⟩
 go_wp2_with fail
 refine hK.out _ _ (by first | exact hHeld | ((try dsimp only); exact hHeld)) (fun hHeld => ?_)
 clear hK K
 try simp only [Act.put, pz0, pz1, pz2, pz3, pz4, pz5]
 refine rd 3 fun K hK => ?_
 go_simp
 refine (num_any _ _).mono ?_; rintro e wN ⟨rfl, rfl⟩
 go_wp2_with fail
 refine hK.out _ _ (by first | exact hHeld | ((try dsimp only); exact hHeld)) (fun hHeld => ?_)
 clear hK K
 try simp only [Act.put, pz0, pz1, pz2, pz3, pz4, pz5]
 refine tk 4 ?_
 refine rd 6 fun K hK => ?_
 go_simp
 refine (num_any _ _).mono ?_; rintro e wN ⟨rfl, rfl⟩
 go_wp2_with fail
 refine hK.out _ _ (by first | exact hHeld | ((try dsimp only); exact hHeld)) (fun hHeld => ?_)
 clear hK K
 try simp only [Act.put, pz0, pz1, pz2, pz3, pz4, pz5]
 refine tk 7 ?_
 refine rd 9 fun K hK => ?_
 go_simp
 refine (num_any _ _).mono ?_; rintro e wN ⟨rfl, rfl⟩
 go_wp2_with fail
 refine hK.out _ _ (by first | exact hHeld | ((try dsimp only); exact hHeld)) (fun hHeld => ?_)
 clear hK K
 try simp only [Act.put, pz0, pz1, pz2, pz3, pz4, pz5]
 refine tk 10 ?_
 refine tk 11 ?_
 refine tk 12 ?_
 refine ty 13 rfl (yieldsIf_load_mid (by rfl) 28 _ rfl gx 0 rfl F4.toList _ (fun w' h k u hu => h.cell_is (0 + k) (by rw [Nat.zero_add, ← Array.getElem?_toList]; exact hu)) Tryz.underlying28 rfl (by rw [Array.length_toList]; exact hFi)) ?_
 refine rd 14 fun K hK => ?_
 go_simp
 refine (some_any _).mono ?_; rintro e wS ⟨vS2, rfl, hfS, _, hbS⟩
 have hbs2 : Below W13.heap.size W13 wS := (Below.refl _ W13).drew.trans hbS
 have HDs := Lib.hid (HD13.out.below hbs2)
 have HOs := Lib.hid (HO13.out.trans (G := fun _ => False) (outB hbs2) (fun _ _ => False.elim))
 have HBs := Lib.hid (HB13.out.trans (hbs2.mono HB13.out.size))
 have HFX := Lib.hid ((HF4.out D1.has wS HOs.out (fun i h1 h2 hd => by have := HLT.out i hd; omega)).mono HOs.out.size)
 have HFS2 := Lib.hid hfS
 have HXs := Lib.hid (HX13.out.below hbs2 HX13.out.lt)
 clear hfS hbS hbs2
 go_wp2_with fail
 refine hK.out _ _ (by first | exact HXs.out | ((try dsimp only); exact HXs.out)) (fun hHeld => ?_)
 clear hK K
 try simp only [Act.put, pz0, pz1, pz2, pz3, pz4, pz5]
 refine rd 15 fun K hK => ?_
 go_simp
 refine (rsame_any frame0 frame0 _ _ _ HFX.out HFS2.out).mono ?_; rintro e wT ⟨rfl, hbT⟩
 rw [(sameB_iff frame0 frame0).2 rfl]
 have HDt := Lib.hid (HDs.out.below hbT)
 have HBt := Lib.hid (HBs.out.trans (hbT.mono HBs.out.size))
 have HXt := Lib.hid (HXs.out.below hbT HXs.out.lt)
 clear hbT
 go_wp2_with fail
 refine hK.out _ _ (by first | exact HXt.out | ((try dsimp only); exact HXt.out)) (fun hHeld => ?_)
 clear hK K
 try simp only [Act.put, pz0, pz1, pz2, pz3, pz4, pz5]
 refine tk 16 ?_
 refine tk 17 ?_
 refine tk 18 ?_
 refine rd 19 fun K hK => ?_
 go_simp
 have hwt := waits_any D1 (disk2 6) _ HDt.out (disk2_ok 6 (by decide))
 unfold ptr at hwt
 rw [disk2_waits] at hwt
 refine hwt.mono ?_; rintro e wU ⟨⟨aU, cU, rfl⟩, hbU⟩
 have HBu := Lib.hid (HBt.out.trans (hbU.mono HBt.out.size))
 have HXu := Lib.hid (HXt.out.below hbU HXt.out.lt)
 clear hbU hwt
 go_wp2_with fail
 refine hK.out _ _ (by first | exact HXu.out | ((try dsimp only); exact HXu.out)) (fun hHeld => ?_)
 clear hK K
 try simp only [Act.put, pz0, pz1, pz2, pz3, pz4, pz5]
 refine tk 20 ?_
 refine tk 21 ?_
 refine tk 22 ?_
 refine tk 23 ?_
 refine tk 24 ?_
 refine rd 25 fun K hK => ?_
 go_simp
 refine (num_any _ _).mono ?_; rintro e wN ⟨rfl, rfl⟩
 go_wp2_with fail
 refine hK.out _ _ (by first | exact hHeld | ((try dsimp only); exact hHeld)) (fun hHeld => ?_)
 clear hK K
 try simp only [Act.put, pz0, pz1, pz2, pz3, pz4, pz5]
 refine tk 26 ?_
 refine tk 27 ?_
 refine tk 28 ?_
 refine tk 29 ?_
 refine rd 30 fun K hK => ?_
 go_simp
 refine (num_any _ _).mono ?_; rintro e wN ⟨rfl, rfl⟩
 go_wp2_with fail
 refine hK.out _ _ (by first | exact hHeld | ((try dsimp only); exact hHeld)) (fun hHeld => ?_)
 clear hK K
 try simp only [Act.put, pz0, pz1, pz2, pz3, pz4, pz5]
 refine tk 31 ?_
 refine tk 32 ?_
 refine tk 33 ?_
 refine wpAnyH_done (by kernel_rfl) ?_ _
 try simp only [Act.put, pz0, pz1, pz2, pz3, pz4, pz5]
 go_wp2_with fail
 go_ret
 exact ⟨rfl, HBu.out⟩
end Go.Proofs.YtdpniceapmikpaaGreat
namespace Go.Proofs.YtdpniceapmikpaaGreat
open Go.RowKit

def fewB (f : FrameD) : Bool := decide ((f.oids.length : Int) ≤ 70) && (decide ((f.objs.length : Int) ≤ 20) && decide ((f.state.length : Int) ≤ 5000))
theorem few_any (f : FrameD) (B : Nat) (v : Value) (w : World) (hf : FrameIn w B v f) : Calls Tryz.prog 9 #[v] w fun e w' => e = .returned (.bool (fewB f)) ∧ Below w.heap.size w w' := by
 obtain ⟨vo, vb, vs, rfl, ⟨_, a1, q1, rfl, _⟩, ⟨_, a2, q2, rfl, _⟩, ⟨_, a3, q3, rfl, _⟩⟩ := hf
 unfold fewB
 cases h1 : decide ((f.oids.length : Int) ≤ 70) <;> cases h2 : decide ((f.objs.length : Int) ≤ 20) <;> cases h3 : decide ((f.state.length : Int) ≤ 5000)
 all_goals
  go_enter Tryz.func9, Tryz.ntmps9
  go_wp2_with fail
  go_ret
  exact ⟨rfl, (Below.refl _ _).alloc (Nat.le_refl _) _⟩
end Go.Proofs.YtdpniceapmikpaaGreat
namespace Go.Proofs.YtdpniceapmikpaaGreat
open Go.RowKit

end Go.Proofs.YtdpniceapmikpaaGreat
namespace Go.Proofs.YtdpniceapmikpaaGreat
open Go.RowKit

end Go.Proofs.YtdpniceapmikpaaGreat
namespace Go.Proofs.YtdpniceapmikpaaGreat
open Go.RowKit

structure LawInv (N : Int) (fa fb : FrameD) (FA FB : Array Value) (w W : World) : Prop where
 below : Below w.heap.size w W
 fa : FrameIn W W.heap.size (.agg FA) fa
 fb : FrameIn W W.heap.size (.agg FB) fb
 bp : Blk W w.heap.size 23 #[.int .i64 N]
 ba : Blk W (w.heap.size + 1) 28 FA
 bb : Blk W (w.heap.size + 1 + 1) 28 FB
theorem LawInv.next {N : Int} {fa fb : FrameD} {FA FB : Array Value} {w W W' : World} (h : LawInv N fa fb FA FB w W) (hb : Below W.heap.size W W') : LawInv N fa fb FA FB w W' :=
 ⟨h.below.trans (hb.mono h.below.size), (h.fa.below hb (Nat.le_refl _)).mono hb.size, (h.fb.below hb (Nat.le_refl _)).mono hb.size, h.bp.below hb h.bp.lt, h.ba.below hb h.ba.lt, h.bb.below hb h.bb.lt⟩
theorem load_frame (W : World) (g : Nat) (F : Array Value) (h : Blk W g 28 F) (hi : (Tryz.prog.info? 28).map (·.size) = some F.size) : (loadVar 28 ⟨g, 0, none⟩).run Tryz.prog W = .ok (.agg F) W :=
 run_loadVar_row W g _ _ F _ _ h Tryz.underlying28 rfl hi
theorem frame_fit {W : World} {B : Nat} {v : Value} {f : FrameD} (h : FrameIn W B v f) : ∃ F : Array Value, v = .agg F ∧ (Tryz.prog.info? 28).map (·.size) = some F.size := by
 obtain ⟨vo, vb, vs, rfl, _⟩ := h
 exact ⟨_, rfl, by kernel_rfl⟩
end Go.Proofs.YtdpniceapmikpaaGreat
