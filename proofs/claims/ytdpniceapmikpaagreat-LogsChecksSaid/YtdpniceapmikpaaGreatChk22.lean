/-
  The contract of the reference's Check (logs), of all frames.
  The law LogsChecks. (Written by gen_llaw.py.)
  From a walk to a law's row: a call that answers true and turns nothing that was there; for all arguments.
  Opening a frame: from its data to lists in memory.
  LogsChecks: for every input the law answers true, and its arguments read as they did; without conditions.
-/
import Derived.Test.YtdpniceapmikpaaGreatRows
import Derived.WalkKit
import Derived.ProofKit
import Derived.OpenShut
import Derived.Below
import Derived.ChangeSame
import Derived.Deep.Fields
import Derived.Deep.Slices
import Derived.Test.YtdpniceapmikpaaGreatChk5
import Derived.Test.YtdpniceapmikpaaGreatChk20
import Derived.Test.YtdpniceapmikpaaGreatChk21
set_option linter.unusedVariables false
set_option linter.unusedSimpArgs false
namespace Go.Proofs.YtdpniceapmikpaaGreat
open Go.RowKit

set_option maxRecDepth 100000 in
set_option maxHeartbeats 4000000 in
theorem rlcheck_no (N ed : Int) (n m sl : Nat) (ao ab aw : Option Addr) (co cb cs : Nat) (w : World) (hpre : (rightB N && framePre N ed n m sl) = false) :
    Calls Tryz.prog 13 #[.agg #[.int .i64 N], .agg #[.int .i64 ed, .slice ao n co, .slice ab m cb, .slice aw sl cs]] w fun e w' =>
    e = .returned (.int .i64 2) ∧ Below w.heap.size w w' := by
  have hs : rightB N = false ∨ (rightB N = true ∧ (ed < 0 ∨ (¬ ed < 0 ∧ ((n : Int) != (m : Int)) = true) ∨ (¬ ed < 0 ∧ ((n : Int) != (m : Int)) = false ∧ (sl : Int) > 4096) ∨ (¬ ed < 0 ∧ ((n : Int) != (m : Int)) = false ∧ ¬ (sl : Int) > 4096 ∧ (n : Int) > N))) := by
    cases hR : rightB N
    · exact .inl rfl
    · right
      rw [hR, Bool.true_and] at hpre
      refine ⟨rfl, ?_⟩
      simp [framePre] at hpre
      simp
      omega
  clear hpre
  rcases hs with hR | ⟨hR, hs⟩
  · go_enter Tryz.func13, Tryz.ntmps13
    go_wp2_with fail
    refine (rright_any N _).mono ?_; rintro e w1 ⟨rfl, hb⟩
    have hB := (((Below.refl w.heap.size w).alloc (Nat.le_refl _) (.cells #[.int .i64 N] 23)).alloc (by simp) (.cells #[.int .i64 ed, .slice ao n co, .slice ab m cb, .slice aw sl cs] 28)).trans (hb.mono (by simp; omega))
    have he2 : errB false = 2 := rfl
    rw [hR]
    go_wp2_with fail
    go_ret
    exact ⟨rfl, hB⟩
  · rcases hs with h1 | ⟨h1, h2⟩ | ⟨h1, h2, h3⟩ | ⟨h1, h2, h3, h4⟩
    all_goals
      go_enter Tryz.func13, Tryz.ntmps13
      go_wp2_with fail
      refine (rright_any N _).mono ?_; rintro e w1 ⟨rfl, hb⟩
      have K1 : Blk w1 w.heap.size 23 #[.int .i64 N] := ((Blk.new w _ _).alloc _).below hb (by simp; omega)
      have K2 : Blk w1 (w.heap.size + 1) 28 #[.int .i64 ed, .slice ao n co, .slice ab m cb, .slice aw sl cs] := (Blk.new2 w _ _ _).below hb (by simp)
      have hB := (((Below.refl w.heap.size w).alloc (Nat.le_refl _) (.cells #[.int .i64 N] 23)).alloc (by simp) (.cells #[.int .i64 ed, .slice ao n co, .slice ab m cb, .slice aw sl cs] 28)).trans (hb.mono (by simp; omega))
      have c0 := K1.cell_is 0 rfl
      have d0 := K2.cell_is 0 rfl
      have d1 := K2.cell_is 1 rfl
      have d2 := K2.cell_is 2 rfl
      have d3 := K2.cell_is 3 rfl
      have he : errB true = 0 := rfl
      rw [hR]
      clear hb K1 K2
      go_wp2_with fail
      go_ret
      exact ⟨rfl, hB⟩

theorem rlcheck_any (N : Int) (f : FrameD) (v : Value) (w : World) (h : FrameIn w w.heap.size v f) : Calls Tryz.prog 13 #[.agg #[.int .i64 N], v] w fun e w' => e = .returned (.int .i64 (errB (frameB N f))) ∧ Below w.heap.size w w' := by
  obtain ⟨vo, vb, vs, rfl, h1, h2, h3⟩ := h
  obtain ⟨_, ao, co, e1, _, _⟩ := id h1
  obtain ⟨_, ab, cb, e2, _, _⟩ := id h2
  obtain ⟨_, aw, cs, e3, _, _⟩ := id h3
  subst e1 e2 e3
  have e : frameB N f = ((rightB N && framePre N f.ed f.oids.length f.objs.length f.state.length) && rowsB N (-1) f.oids f.objs) := by
    unfold frameB; rw [Bool.and_assoc]
  rw [e]
  cases hp : (rightB N && framePre N f.ed f.oids.length f.objs.length f.state.length)
  · exact rlcheck_no N f.ed _ _ _ ao ab aw co cb cs w hp
  · rw [Bool.true_and]
    exact rlcheck_raw N f.ed f.oids f.objs _ ao ab aw co cb cs w h1 h2 hp
end Go.Proofs.YtdpniceapmikpaaGreat
namespace Go.Proofs.YtdpniceapmikpaaGreat
open Go.RowKit

structure LawInv (N : Int) (fa fb : FrameD) (FA FB : Array Value) (w W : World) : Prop where
  below : Below w.heap.size w W
  fa : FrameIn W W.heap.size (.agg FA) fa
  fb : FrameIn W W.heap.size (.agg FB) fb
  bp : Blk W w.heap.size 23 #[.int .i64 N]
  ba : Blk W (w.heap.size + 1) 28 FA
  bb : Blk W (w.heap.size + 1 + 1) 28 FB
theorem LawInv.next {N : Int} {fa fb : FrameD} {FA FB : Array Value} {w W W' : World} (h : LawInv N fa fb FA FB w W) (hb : Below W.heap.size W W') : LawInv N fa fb FA FB w W' :=
  ⟨h.below.trans (hb.mono h.below.size), (h.fa.below hb (Nat.le_refl _)).mono hb.size, (h.fb.below hb (Nat.le_refl _)).mono hb.size, h.bp.below hb h.bp.lt, h.ba.below hb h.ba.lt, h.bb.below hb h.bb.lt⟩
theorem load_frame (W : World) (g : Nat) (F : Array Value) (h : Blk W g 28 F) (hi : (Tryz.prog.info? 28).map (·.size) = some F.size) : (loadVar 28 ⟨g, 0, none⟩).run Tryz.prog W = .ok (.agg F) W :=
  run_loadVar_row W g _ _ F _ _ h Tryz.underlying28 rfl hi
theorem frame_fit {W : World} {B : Nat} {v : Value} {f : FrameD} (h : FrameIn W B v f) : ∃ F : Array Value, v = .agg F ∧ (Tryz.prog.info? 28).map (·.size) = some F.size := by
  obtain ⟨vo, vb, vs, rfl, _⟩ := h
  exact ⟨_, rfl, by kernel_rfl⟩
set_option maxRecDepth 100000 in
set_option maxHeartbeats 4000000 in
theorem law_any (N : Int) (fa fb : FrameD) (va vb : Value) (w : World) (ha : FrameIn w w.heap.size va fa) (hb : FrameIn w w.heap.size vb fb) :
    Calls Tryz.prog 3 #[.agg #[.int .i64 N], va, vb] w fun e w' => e = .returned (.bool true) ∧ Below w.heap.size w w' := by
  obtain ⟨FA, rfl, hiA⟩ := frame_fit ha
  obtain ⟨FB, rfl, hiB⟩ := frame_fit hb
  obtain ⟨W0, eW0⟩ : ∃ W, W = ((w.alloc (.cells #[.int .i64 N] 23)).alloc (.cells FA 28)).alloc (.cells FB 28) := ⟨_, rfl⟩
  have hw0 : Below w.heap.size w W0 := by rw [eW0]; exact (((Below.refl _ w).alloc (Nat.le_refl _) _).alloc (by simp) _).alloc (by simp; omega) _
  have I0 := Lib.hid (show LawInv N fa fb FA FB w W0 by
    refine ⟨hw0, (ha.below hw0 (Nat.le_refl _)).mono hw0.size, (hb.below hw0 (Nat.le_refl _)).mono hw0.size, ?_, ?_, ?_⟩
    · rw [eW0]; exact ((Blk.new w _ _).alloc _).alloc _
    · rw [eW0]; exact (Blk.new2 w _ _ _).alloc _
    · rw [eW0]; exact Blk.new' (by simp))
  clear ha hb hw0
  cases qa : fewB fa
  · go_enter Tryz.func3, Tryz.ntmps3
    go_upto_region 1 with fail
    rw [← eW0]
    clear eW0
    have l0 := load_frame _ _ _ I0.out.ba hiA
    go_wp2_with (refine wpList_load_midG rfl 28 _ rfl (w.heap.size + 1) 0 rfl FA l0 ?_)
    refine (few_any fa _ _ _ I0.out.fa).mono ?_; rintro e w1 ⟨rfl, hb1⟩
    rw [qa]
    have I1 := Lib.hid (I0.out.next hb1)
    clear hb1
    go_wp2_with fail
    refine (works_any _).mono ?_; rintro e w2 ⟨rfl, hb2⟩
    go_wp2_with fail
    go_ret
    exact ⟨rfl, (I1.out.next hb2).below⟩
  cases qb : fewB fb
  · go_enter Tryz.func3, Tryz.ntmps3
    go_upto_region 1 with fail
    rw [← eW0]
    clear eW0
    have l0 := load_frame _ _ _ I0.out.ba hiA
    go_wp2_with (refine wpList_load_midG rfl 28 _ rfl (w.heap.size + 1) 0 rfl FA l0 ?_)
    refine (few_any fa _ _ _ I0.out.fa).mono ?_; rintro e w1 ⟨rfl, hb1⟩
    rw [qa]
    have I1 := Lib.hid (I0.out.next hb1)
    clear hb1 l0
    have l1 := load_frame _ _ _ I1.out.bb hiB
    go_wp2_with (refine wpList_load_midG rfl 28 _ rfl (w.heap.size + 1 + 1) 0 rfl FB l1 ?_)
    refine (few_any fb _ _ _ I1.out.fb).mono ?_; rintro e w2 ⟨rfl, hb2⟩
    rw [qb]
    have I2 := Lib.hid (I1.out.next hb2)
    clear hb2 l1
    go_wp2_with fail
    refine (works_any _).mono ?_; rintro e w3 ⟨rfl, hb3⟩
    go_wp2_with fail
    go_ret
    exact ⟨rfl, (I2.out.next hb3).below⟩
  · go_enter Tryz.func3, Tryz.ntmps3
    go_upto_region 1 with fail
    rw [← eW0]
    clear eW0
    have l0 := load_frame _ _ _ I0.out.ba hiA
    go_wp2_with (refine wpList_load_midG rfl 28 _ rfl (w.heap.size + 1) 0 rfl FA l0 ?_)
    refine (few_any fa _ _ _ I0.out.fa).mono ?_; rintro e w1 ⟨rfl, hb1⟩
    rw [qa]
    have I1 := Lib.hid (I0.out.next hb1)
    clear hb1 l0
    have l1 := load_frame _ _ _ I1.out.bb hiB
    go_wp2_with (refine wpList_load_midG rfl 28 _ rfl (w.heap.size + 1 + 1) 0 rfl FB l1 ?_)
    refine (few_any fb _ _ _ I1.out.fb).mono ?_; rintro e w2 ⟨rfl, hb2⟩
    rw [qb]
    have IC := Lib.hid (I1.out.next (hb2.trans ((Below.refl _ w2).drew.mono hb2.size)))
    clear hb2 l1 qa qb
    obtain ⟨q, eq⟩ : ∃ q, q = errB (frameB N fa) := ⟨_, rfl⟩
    obtain ⟨r, er⟩ : ∃ r, r = sameB fa fb := ⟨_, rfl⟩
    have HLC := Lib.hid (fun W h => lcheck_any N fa (.agg FA) W h)
    have HRC := Lib.hid (fun W h => rlcheck_any N fa (.agg FA) W h)
    have HLS := Lib.hid (fun W h1 h2 => lsame_any fa fb (.agg FA) (.agg FB) W h1 h2)
    have HRS := Lib.hid (fun W h1 h2 => rsame_any fa fb (.agg FA) (.agg FB) W h1 h2)
    rw [← eq] at HLC HRC
    rw [← er] at HLS HRS
    clear eq er
    go_upto_region 3 with fail
    refine wp_region_held_drew (S := (fun w' => LawInv N fa fb FA FB w w')) (by kernel_rfl) (by first | exact IC.out | ((try dsimp only); exact IC.out)) (fun hHeld => ?_)
    refine' wpAnyH_take (i := 0) (v := _) rfl (by kernel_rfl) (by kernel_rfl) (by kernel_rfl) (fun _ _ _ h => h) (Or.inl ⟨by rfl, ?_⟩) (by assumption) ?_
    rotate_left 1
    · (intro w' hSw; have hc := hSw.bp.cell_is 0 rfl; clear hSw; go_simp; try with_reducible rfl)
    try simp only [Act.put, List.getElem_toArray, List.getElem_cons_succ, List.getElem_cons_zero, List.setIfInBounds_toArray, List.set_cons_zero, List.set_cons_succ]
    refine wpAnyH_take (i := 1) rfl (by kernel_rfl) (by kernel_rfl) (by kernel_rfl) (fun _ _ _ h => h) (yieldsIf_load_mid (by rfl) 28 _ rfl (w.heap.size + 1) 0 rfl FA.toList _ (fun w' h k u hu => h.ba.cell_is (0 + k) (by rw [Nat.zero_add, ← Array.getElem?_toList]; exact hu)) Tryz.underlying28 rfl (by rw [Array.length_toList]; exact hiA)) (by assumption) ?_
    try simp only [Act.put, Array.toArray_toList, List.getElem_toArray, List.getElem_cons_succ, List.getElem_cons_zero, List.setIfInBounds_toArray, List.set_cons_zero, List.set_cons_succ]
    refine' wpAnyH_take (i := 4) (v := _) rfl (by kernel_rfl) (by kernel_rfl) (by kernel_rfl) (fun _ _ _ h => h) (Or.inl ⟨by rfl, ?_⟩) (by assumption) ?_
    rotate_left 1
    · (intro w' hSw; have hc := hSw.bp.cell_is 0 rfl; clear hSw; go_simp; try with_reducible rfl)
    try simp only [Act.put, List.getElem_toArray, List.getElem_cons_succ, List.getElem_cons_zero, List.setIfInBounds_toArray, List.set_cons_zero, List.set_cons_succ]
    refine wpAnyH_take (i := 5) rfl (by kernel_rfl) (by kernel_rfl) (by kernel_rfl) (fun _ _ _ h => h) (yieldsIf_load_mid (by rfl) 28 _ rfl (w.heap.size + 1) 0 rfl FA.toList _ (fun w' h k u hu => h.ba.cell_is (0 + k) (by rw [Nat.zero_add, ← Array.getElem?_toList]; exact hu)) Tryz.underlying28 rfl (by rw [Array.length_toList]; exact hiA)) (by assumption) ?_
    try simp only [Act.put, Array.toArray_toList, List.getElem_toArray, List.getElem_cons_succ, List.getElem_cons_zero, List.setIfInBounds_toArray, List.set_cons_zero, List.set_cons_succ]
    refine wpAnyH_ready (rs := [2]) (by kernel_rfl) (by simp) ?_
    refine AllReadyH.cons rfl (fun K hK => ?_) AllReadyH.nil
    go_simp
    refine (HLC.out _ IC.out.fa).mono ?_; rintro e wc ⟨rfl, hbc⟩
    have IC := Lib.hid (IC.out.next hbc)
    clear hbc
    go_wp2_with fail
    refine hK.out _ _ (by first | exact IC.out | ((try dsimp only); exact IC.out)) (fun hHeld => ?_)
    clear hK K
    try simp only [Act.put, List.getElem_toArray, List.getElem_cons_succ, List.getElem_cons_zero, List.setIfInBounds_toArray, List.set_cons_zero, List.set_cons_succ]
    refine wpAnyH_ready (rs := [3]) (by kernel_rfl) (by simp) ?_
    refine AllReadyH.cons rfl (fun K hK => ?_) AllReadyH.nil
    go_simp
    refine (num_any _ _).mono ?_; rintro e wN ⟨rfl, rfl⟩
    go_wp2_with fail
    refine hK.out _ _ (by first | exact IC.out | ((try dsimp only); exact IC.out)) (fun hHeld => ?_)
    clear hK K
    try simp only [Act.put, List.getElem_toArray, List.getElem_cons_succ, List.getElem_cons_zero, List.setIfInBounds_toArray, List.set_cons_zero, List.set_cons_succ]
    refine wpAnyH_ready (rs := [6]) (by kernel_rfl) (by simp) ?_
    refine AllReadyH.cons rfl (fun K hK => ?_) AllReadyH.nil
    go_simp
    refine (HRC.out _ IC.out.fa).mono ?_; rintro e wc ⟨rfl, hbc⟩
    have IC := Lib.hid (IC.out.next hbc)
    clear hbc
    go_wp2_with fail
    refine hK.out _ _ (by first | exact IC.out | ((try dsimp only); exact IC.out)) (fun hHeld => ?_)
    clear hK K
    try simp only [Act.put, List.getElem_toArray, List.getElem_cons_succ, List.getElem_cons_zero, List.setIfInBounds_toArray, List.set_cons_zero, List.set_cons_succ]
    refine wpAnyH_take (i := 7) (v := ?v7q_1) rfl (by kernel_rfl) (by kernel_rfl) (by kernel_rfl) (fun _ _ _ h => h) (Or.inl ⟨by rfl, ?hy7q_1⟩) (by assumption) ?_
    case hy7q_1 => (intro w hSw; (try dsimp only at hSw); go_simp; try with_reducible rfl)
    try simp only [Act.put, List.getElem_toArray, List.getElem_cons_succ, List.getElem_cons_zero, List.setIfInBounds_toArray, List.set_cons_zero, List.set_cons_succ]
    refine wpAnyH_take (i := 8) (v := ?v8q_2) rfl (by kernel_rfl) (by kernel_rfl) (by kernel_rfl) (fun _ _ _ h => h) (Or.inl ⟨by rfl, ?hy8q_2⟩) (by assumption) ?_
    case hy8q_2 => (intro w hSw; (try dsimp only at hSw); go_simp; try with_reducible rfl)
    try simp only [Act.put, List.getElem_toArray, List.getElem_cons_succ, List.getElem_cons_zero, List.setIfInBounds_toArray, List.set_cons_zero, List.set_cons_succ]
    refine wpAnyH_take (i := 9) rfl (by kernel_rfl) (by kernel_rfl) (by kernel_rfl) (fun _ _ _ h => h) (yieldsIf_load_mid (by rfl) 28 _ rfl (w.heap.size + 1) 0 rfl FA.toList _ (fun w' h k u hu => h.ba.cell_is (0 + k) (by rw [Nat.zero_add, ← Array.getElem?_toList]; exact hu)) Tryz.underlying28 rfl (by rw [Array.length_toList]; exact hiA)) (by assumption) ?_
    try simp only [Act.put, Array.toArray_toList, List.getElem_toArray, List.getElem_cons_succ, List.getElem_cons_zero, List.setIfInBounds_toArray, List.set_cons_zero, List.set_cons_succ]
    refine wpAnyH_take (i := 10) rfl (by kernel_rfl) (by kernel_rfl) (by kernel_rfl) (fun _ _ _ h => h) (yieldsIf_load_mid (by rfl) 28 _ rfl (w.heap.size + 1 + 1) 0 rfl FB.toList _ (fun w' h k u hu => h.bb.cell_is (0 + k) (by rw [Nat.zero_add, ← Array.getElem?_toList]; exact hu)) Tryz.underlying28 rfl (by rw [Array.length_toList]; exact hiB)) (by assumption) ?_
    try simp only [Act.put, Array.toArray_toList, List.getElem_toArray, List.getElem_cons_succ, List.getElem_cons_zero, List.setIfInBounds_toArray, List.set_cons_zero, List.set_cons_succ]
    refine wpAnyH_take (i := 12) rfl (by kernel_rfl) (by kernel_rfl) (by kernel_rfl) (fun _ _ _ h => h) (yieldsIf_load_mid (by rfl) 28 _ rfl (w.heap.size + 1) 0 rfl FA.toList _ (fun w' h k u hu => h.ba.cell_is (0 + k) (by rw [Nat.zero_add, ← Array.getElem?_toList]; exact hu)) Tryz.underlying28 rfl (by rw [Array.length_toList]; exact hiA)) (by assumption) ?_
    try simp only [Act.put, Array.toArray_toList, List.getElem_toArray, List.getElem_cons_succ, List.getElem_cons_zero, List.setIfInBounds_toArray, List.set_cons_zero, List.set_cons_succ]
    refine wpAnyH_take (i := 13) rfl (by kernel_rfl) (by kernel_rfl) (by kernel_rfl) (fun _ _ _ h => h) (yieldsIf_load_mid (by rfl) 28 _ rfl (w.heap.size + 1 + 1) 0 rfl FB.toList _ (fun w' h k u hu => h.bb.cell_is (0 + k) (by rw [Nat.zero_add, ← Array.getElem?_toList]; exact hu)) Tryz.underlying28 rfl (by rw [Array.length_toList]; exact hiB)) (by assumption) ?_
    try simp only [Act.put, Array.toArray_toList, List.getElem_toArray, List.getElem_cons_succ, List.getElem_cons_zero, List.setIfInBounds_toArray, List.set_cons_zero, List.set_cons_succ]
    refine wpAnyH_ready (rs := [11]) (by kernel_rfl) (by simp) ?_
    refine AllReadyH.cons rfl (fun K hK => ?_) AllReadyH.nil
    go_simp
    refine (HLS.out _ IC.out.fa IC.out.fb).mono ?_; rintro e wc ⟨rfl, hbc⟩
    have IC := Lib.hid (IC.out.next hbc)
    clear hbc
    go_wp2_with fail
    refine hK.out _ _ (by first | exact IC.out | ((try dsimp only); exact IC.out)) (fun hHeld => ?_)
    clear hK K
    try simp only [Act.put, List.getElem_toArray, List.getElem_cons_succ, List.getElem_cons_zero, List.setIfInBounds_toArray, List.set_cons_zero, List.set_cons_succ]
    refine wpAnyH_ready (rs := [14]) (by kernel_rfl) (by simp) ?_
    refine AllReadyH.cons rfl (fun K hK => ?_) AllReadyH.nil
    go_simp
    refine (HRS.out _ IC.out.fa IC.out.fb).mono ?_; rintro e wc ⟨rfl, hbc⟩
    have IC := Lib.hid (IC.out.next hbc)
    clear hbc
    go_wp2_with fail
    refine hK.out _ _ (by first | exact IC.out | ((try dsimp only); exact IC.out)) (fun hHeld => ?_)
    clear hK K
    try simp only [Act.put, List.getElem_toArray, List.getElem_cons_succ, List.getElem_cons_zero, List.setIfInBounds_toArray, List.set_cons_zero, List.set_cons_succ]
    refine wpAnyH_take (i := 15) (v := ?v15q_3) rfl (by kernel_rfl) (by kernel_rfl) (by kernel_rfl) (fun _ _ _ h => h) (Or.inl ⟨by rfl, ?hy15q_3⟩) (by assumption) ?_
    case hy15q_3 => (intro w hSw; (try dsimp only at hSw); go_simp; try with_reducible rfl)
    try simp only [Act.put, List.getElem_toArray, List.getElem_cons_succ, List.getElem_cons_zero, List.setIfInBounds_toArray, List.set_cons_zero, List.set_cons_succ]
    refine wpAnyH_take (i := 16) (v := ?v16q_4) rfl (by kernel_rfl) (by kernel_rfl) (by kernel_rfl) (fun _ _ _ h => h) (Or.inl ⟨by rfl, ?hy16q_4⟩) (by assumption) ?_
    case hy16q_4 => (intro w hSw; (try dsimp only at hSw); go_simp; try with_reducible rfl)
    try simp only [Act.put, List.getElem_toArray, List.getElem_cons_succ, List.getElem_cons_zero, List.setIfInBounds_toArray, List.set_cons_zero, List.set_cons_succ]
    refine wpAnyH_take (i := 17) (v := ?v17q_5) rfl (by kernel_rfl) (by kernel_rfl) (by kernel_rfl) (fun _ _ _ h => h) (Or.inl ⟨by rfl, ?hy17q_5⟩) (by assumption) ?_
    case hy17q_5 => (intro w hSw; (try dsimp only at hSw); go_simp; try with_reducible rfl)
    try simp only [Act.put, List.getElem_toArray, List.getElem_cons_succ, List.getElem_cons_zero, List.setIfInBounds_toArray, List.set_cons_zero, List.set_cons_succ]
    refine wpAnyH_take (i := 18) rfl (by kernel_rfl) (by kernel_rfl) (by kernel_rfl) (fun _ _ _ h => h) (yieldsIf_load_mid (by rfl) 28 _ rfl (w.heap.size + 1) 0 rfl FA.toList _ (fun w' h k u hu => h.ba.cell_is (0 + k) (by rw [Nat.zero_add, ← Array.getElem?_toList]; exact hu)) Tryz.underlying28 rfl (by rw [Array.length_toList]; exact hiA)) (by assumption) ?_
    try simp only [Act.put, Array.toArray_toList, List.getElem_toArray, List.getElem_cons_succ, List.getElem_cons_zero, List.setIfInBounds_toArray, List.set_cons_zero, List.set_cons_succ]
    refine wpAnyH_take (i := 19) rfl (by kernel_rfl) (by kernel_rfl) (by kernel_rfl) (fun _ _ _ h => h) (yieldsIf_load_mid (by rfl) 28 _ rfl (w.heap.size + 1) 0 rfl FA.toList _ (fun w' h k u hu => h.ba.cell_is (0 + k) (by rw [Nat.zero_add, ← Array.getElem?_toList]; exact hu)) Tryz.underlying28 rfl (by rw [Array.length_toList]; exact hiA)) (by assumption) ?_
    try simp only [Act.put, Array.toArray_toList, List.getElem_toArray, List.getElem_cons_succ, List.getElem_cons_zero, List.setIfInBounds_toArray, List.set_cons_zero, List.set_cons_succ]
    refine wpAnyH_ready (rs := [20]) (by kernel_rfl) (by simp) ?_
    refine AllReadyH.cons rfl (fun K hK => ?_) AllReadyH.nil
    go_simp
    refine (lsame_any fa fa _ _ _ IC.out.fa IC.out.fa).mono ?_; rintro e wc ⟨rfl, hbc⟩
    have IC := Lib.hid (IC.out.next hbc)
    clear hbc
    rw [(sameB_iff fa fa).2 rfl]
    go_wp2_with fail
    refine hK.out _ _ (by first | exact IC.out | ((try dsimp only); exact IC.out)) (fun hHeld => ?_)
    clear hK K
    try simp only [Act.put, List.getElem_toArray, List.getElem_cons_succ, List.getElem_cons_zero, List.setIfInBounds_toArray, List.set_cons_zero, List.set_cons_succ]
    refine wpAnyH_take (i := 21) (v := ?v21q_6) rfl (by kernel_rfl) (by kernel_rfl) (by kernel_rfl) (fun _ _ _ h => h) (Or.inl ⟨by rfl, ?hy21q_6⟩) (by assumption) ?_
    case hy21q_6 => (intro w hSw; (try dsimp only at hSw); go_simp; try with_reducible rfl)
    try simp only [Act.put, List.getElem_toArray, List.getElem_cons_succ, List.getElem_cons_zero, List.setIfInBounds_toArray, List.set_cons_zero, List.set_cons_succ]
    refine wpAnyH_take (i := 22) (v := ?v22q_7) rfl (by kernel_rfl) (by kernel_rfl) (by kernel_rfl) (fun _ _ _ h => h) (Or.inl ⟨by rfl, ?hy22q_7⟩) (by assumption) ?_
    case hy22q_7 => (intro w hSw; (try dsimp only at hSw); go_simp; try with_reducible rfl)
    try simp only [Act.put, List.getElem_toArray, List.getElem_cons_succ, List.getElem_cons_zero, List.setIfInBounds_toArray, List.set_cons_zero, List.set_cons_succ]
    refine wpAnyH_ready (rs := [23]) (by kernel_rfl) (by simp) ?_
    refine AllReadyH.cons rfl (fun K hK => ?_) AllReadyH.nil
    go_simp
    refine (works_any _).mono ?_; rintro e wc ⟨rfl, hbc⟩
    have IC := Lib.hid (IC.out.next hbc)
    clear hbc
    go_wp2_with fail
    refine hK.out _ _ (by first | exact IC.out | ((try dsimp only); exact IC.out)) (fun hHeld => ?_)
    clear hK K
    try simp only [Act.put, List.getElem_toArray, List.getElem_cons_succ, List.getElem_cons_zero, List.setIfInBounds_toArray, List.set_cons_zero, List.set_cons_succ]
    refine wpAnyH_take (i := 24) (v := ?v24q_8) rfl (by kernel_rfl) (by kernel_rfl) (by kernel_rfl) (fun _ _ _ h => h) (Or.inl ⟨by rfl, ?hy24q_8⟩) (by assumption) ?_
    case hy24q_8 => (intro w hSw; (try dsimp only at hSw); go_simp; try with_reducible rfl)
    try simp only [Act.put, List.getElem_toArray, List.getElem_cons_succ, List.getElem_cons_zero, List.setIfInBounds_toArray, List.set_cons_zero, List.set_cons_succ]
    refine wpAnyH_take (i := 25) (v := ?v25q_9) rfl (by kernel_rfl) (by kernel_rfl) (by kernel_rfl) (fun _ _ _ h => h) (Or.inl ⟨by rfl, ?hy25q_9⟩) (by assumption) ?_
    case hy25q_9 => (intro w hSw; (try dsimp only at hSw); go_simp; try with_reducible rfl)
    try simp only [Act.put, List.getElem_toArray, List.getElem_cons_succ, List.getElem_cons_zero, List.setIfInBounds_toArray, List.set_cons_zero, List.set_cons_succ]
    refine wpAnyH_done (by kernel_rfl) ?_ _
    try simp only [Act.put, List.getElem_toArray, List.getElem_cons_succ, List.getElem_cons_zero, List.setIfInBounds_toArray, List.set_cons_zero, List.set_cons_succ]
    go_wp2_with fail
    go_ret
    exact ⟨rfl, IC.out.below⟩
end Go.Proofs.YtdpniceapmikpaaGreat
namespace Go.Proofs.YtdpniceapmikpaaGreat
open Go.ChangeShapes Go.WideShapes Go.ChangeAt Go.RowKit Go.Deep

section
variable {H : Type} {enc : TypeId × Value → H} {P : Program}

/-- arguments read as they read, behind a call that turned nothing below -/
theorem trodAll_stays (hl : laidOutB P = true) {W W' : World} (hb : Below W.heap.size W W') {sp : Nat → Bool} :
    ∀ {ts : List TypeId} {vs : List Value} {ds : List (DataW H)} {ps : List MemPlace}, (∀ t ∈ ts, P.readableRec t = true ∧ t < P.types.size) →
      DataW.TrodAll enc P W 0 (fun _ => true) true ts vs ds ps → (∀ p ∈ ps, p.block < W.heap.size) → (∀ p ∈ ps, sp p.block = true) → DataW.TrodAll enc P W' 0 sp true ts vs ds ps
  | [], vs, ds, ps, _, h, _, _ => by
    obtain ⟨rfl, rfl, rfl⟩ := trodAll_nil h
    exact trodAll_mk0
  | t :: ts, vs, ds, ps, ht, h, hlt, hsp => by
    obtain ⟨v, vs', d, ds', p, q, rfl, rfl, rfl, h1, h2⟩ := trodAll_cons h
    have hp : ∀ x ∈ p, x.block < W.heap.size := fun x hx => hlt x (List.mem_append_left _ hx)
    exact trodAll_cons_mk (WideElems.Trod_stays hl (ht t (List.mem_cons_self ..)).1 (ht t (List.mem_cons_self ..)).2 h1 (fun x hx => hb.same (hp x hx)) (fun x hx => hsp x (List.mem_append_left _ hx)))
      (trodAll_stays hl hb (fun u hu => ht u (List.mem_cons_of_mem _ hu)) h2 (fun x hx => hlt x (List.mem_append_right _ hx)) (fun x hx => hsp x (List.mem_append_right _ hx)))

theorem law_post (hl : laidOutB P = true) {f : Func} {s : ChangeSpec} {T : TypeId} (hts : ∀ t ∈ f.params.toList, P.readableRec t = true ∧ t < P.types.size) (hres : f.resultTypes = #[T]) (hT : P.underlying T = some .bool)
    (hvars : s.vars = []) {W W' : World} {args : Array Value} {ds gs : List (DataW H)} {before : List MemPlace} (hW : DataW.Whole enc P f.params.toList s.vars false W args.toList ds gs before)
    (hfn : s.fn H (ds ++ gs) = { results := [.lit (.bool true)], args := ds }) (hb : Below W.heap.size W W') : s.post enc P f false true false false W args (.bool true) W' := by
  have hlt : ∀ p ∈ before, p.block < W.heap.size := fun p hp => hW.lt p hp
  have hold : ∀ p ∈ before, (fun b => decide (b < W.heap.size)) p.block = true := fun p hp => by simpa using hlt p hp
  have hW' := hW
  obtain ⟨p, q, hA, hV, rfl, hz, hn⟩ := hW
  rw [hvars] at hV
  obtain ⟨rfl, rfl⟩ := trodVars_none hV
  refine ⟨ds, [], p ++ [], [], p, [], hW', ?_, ?_, ?_, World.keptBut_mono (fun x hx => ⟨hx, ?_⟩) (hb.frame (· ∈ p ++ [])), fun h => by cases h⟩
  · rw [hfn, hres]
    exact trodAll_mk1 (shut_bool hT _)
  · rw [hfn]
    exact trodAll_stays hl hb hts hA (fun x hx => hlt x (List.mem_append_left _ hx)) (fun x hx => hold x (List.mem_append_left _ hx))
  · rw [hfn, hvars]
    exact rfl
  · simpa using hx
end

section
variable {H : Type} {enc : TypeId × Value → H} {P : Program} {w : World} {base : Nat} {spare : Nat → Bool} {held : Bool}
theorem all_nums (kd : IntKind) : ∀ (m : Nat) (l : List Value), l.length = m → (∀ j, j < m → ∃ x, l[j]? = some (Value.int kd x) ∧ (Lit.int kd x).wf = true) → ∃ ns : List Int, ns.length = m ∧ l = ns.map (Value.int kd) ∧ ∀ x ∈ ns, (Lit.int kd x).wf = true := by
  intro m
  induction m with
  | zero => intro l hl _; exact ⟨[], rfl, List.eq_nil_of_length_eq_zero hl, fun x hx => by cases hx⟩
  | succ m ih =>
    intro l hl h
    cases l with
    | nil => cases hl
    | cons a l =>
      obtain ⟨x, hx, wx⟩ := h 0 (by omega)
      obtain ⟨ns, h1, h2, h3⟩ := ih l (by simpa using hl) (fun j hj => by simpa using h (j + 1) (by omega))
      simp only [List.getElem?_cons_zero, Option.some.injEq] at hx
      exact ⟨x :: ns, by simp [h1], by rw [hx, h2]; rfl, fun y hy => by
        cases List.mem_cons.1 hy with
        | inl e => rw [e]; exact wx
        | inr e => exact h3 y e⟩

/-- the cells of a struct of whole numbers of one kind -/
theorem nums_cells {t : TypeId} {fs : Array Field} {kd : IntKind} {n : Nat} {cs : List Value} {x : DataW H × List MemPlace} (hs : P.underlying t = some (.struct fs)) (hone : oneCellFields P fs = true) (hC : P.cellsOf t = fs.size)
    (hk : ∀ (j : Nat) (f : Field), fs[j]? = some f → P.underlying f.type = some (.int kd)) (h : DataW.trod enc P w base spare held n t cs = some x) :
    ∃ l : List Int, l.length = fs.size ∧ cs = l.map (Value.int kd) ∧ ∀ x ∈ l, (Lit.int kd x).wf = true := by
  obtain ⟨xs, n, _, _, hlen, hxl, hg⟩ := DataW.trod_struct hs h
  have hl : cs.length = fs.size := by rw [hlen, hC]
  have key : ∀ j, j < fs.size → ∃ x, cs[j]? = some (Value.int kd x) ∧ (Lit.int kd x).wf = true := by
    intro j hj
    have hfj : fs[j]? = some fs[j] := Array.getElem?_eq_getElem hj
    obtain ⟨ho, hk1⟩ := hone_of hone j _ hfj
    have h1 := hg j _ hfj
    rw [ho, hk1] at h1
    have hone' : (cs.drop j).take 1 = [cs[j]'(by omega)] := by
      rw [List.drop_eq_getElem_cons (by omega)]
      rfl
    rw [hone'] at h1
    have hx : xs[j]? = some (xs[j]'(by omega)) := List.getElem?_eq_getElem (by omega)
    rw [hx] at h1
    obtain ⟨x, hx1, _, hx3⟩ := DataW.trod_int (hk j _ hfj) h1
    simp only [List.cons.injEq, and_true] at hx1
    exact ⟨x, by rw [List.getElem?_eq_getElem (by omega), hx1], hx3⟩
  exact all_nums kd fs.size cs hl key

/-- a struct of whole numbers of one kind, by value: its cells -/
theorem open_nums {r : Reach} {b0 : Nat} {t : TypeId} {fs : Array Field} {kd : IntKind} {v : Value} {d : DataW H} {p : List MemPlace} (hs : P.underlying t = some (.struct fs)) (hone : oneCellFields P fs = true) (hC : P.cellsOf t = fs.size)
    (hk : ∀ (j : Nat) (f : Field), fs[j]? = some f → P.underlying f.type = some (.int kd)) (hv : Value.okWide P w r b0 t v) (h : DataW.Trod enc P w base spare held t v d p) :
    ∃ l : List Int, l.length = fs.size ∧ v = .agg (l.map (Value.int kd)).toArray ∧ ∀ x ∈ l, (Lit.int kd x).wf = true := by
  obtain ⟨cs, rfl, hsz⟩ := okWide_struct hs hv
  obtain ⟨fuel, hf⟩ := h
  obtain ⟨l, h1, h2, h3⟩ := nums_cells hs hone hC hk hf
  refine ⟨l, h1, ?_, h3⟩
  simp only [Value.cells] at h2
  rw [← h2]

theorem six_of {l : List Int} (h : l.length = 6) : ∃ a b c d e f, l = [a, b, c, d, e, f] := by
  match l, h with
  | [a, b, c, d, e, f], _ => exact ⟨a, b, c, d, e, f, rfl⟩
theorem seven_of {l : List Int} (h : l.length = 7) : ∃ a b c d e f g, l = [a, b, c, d, e, f, g] := by
  match l, h with
  | [a, b, c, d, e, f, g], _ => exact ⟨a, b, c, d, e, f, g, rfl⟩
theorem i64_lt {x : Int} (h : (Lit.int .i64 x).wf = true) : -9223372036854775808 ≤ x ∧ x < 9223372036854775808 := by
  simp [Lit.wf, IntKind.min, IntKind.max, IntKind.signed, IntKind.bits] at h
  omega
end

theorem own : ownKnob Tryz.prog.godebug = none := by kernel_rfl
theorem laidOut : laidOutB Tryz.prog = true := by kernel_rfl
end Go.Proofs.YtdpniceapmikpaaGreat
namespace Go.Proofs.YtdpniceapmikpaaGreat
open Go.ChangeShapes Go.WideShapes Go.ChangeAt Go.RowKit Go.Deep

theorem list_blocks {α : Type} (f : α → List Value) (Pr : α → Prop) (C : Nat) : ∀ (n : Nat) (cs : List Value), cs.length = n * C → (∀ i, i < n → ∃ a, Pr a ∧ (cs.drop (i * C)).take C = f a) → ∃ l : List α, l.length = n ∧ (∀ a ∈ l, Pr a) ∧ cs = l.flatMap f
  | 0, cs, hl, _ => ⟨[], rfl, (fun a h => by cases h), by have h0 : cs = [] := List.eq_nil_of_length_eq_zero (by simpa using hl); rw [h0]; rfl⟩
  | n + 1, cs, hl, h => by
    obtain ⟨a, ha, e⟩ := h 0 (by omega)
    have hl2 : (cs.drop C).length = n * C := by rw [List.length_drop, hl, Nat.succ_mul]; omega
    obtain ⟨l, h1, h2, h3⟩ := list_blocks f Pr C n (cs.drop C) hl2 (fun i hi => by
      obtain ⟨b, hb, e⟩ := h (i + 1) (by omega)
      refine ⟨b, hb, ?_⟩
      rw [List.drop_drop, ← e]
      congr 2
      rw [Nat.succ_mul]
      omega)
    refine ⟨a :: l, by simp [h1], fun b hb => ?_, ?_⟩
    · rcases List.mem_cons.1 hb with rfl | hb
      · exact ha
      · exact h2 b hb
    · rw [List.flatMap_cons, ← h3, ← e]
      simp
theorem four_list (cs : List Value) (h : cs.length = 4) : ∃ a b c d, cs = [a, b, c, d] := by
  match cs, h with
  | [a, b, c, d], _ => exact ⟨a, b, c, d, rfl⟩
theorem six_list (cs : List Value) (h : cs.length = 6) : ∃ a b c d e f, cs = [a, b, c, d, e, f] := by
  match cs, h with
  | [a, b, c, d, e, f], _ => exact ⟨a, b, c, d, e, f, rfl⟩
section
variable {H : Type} {enc : TypeId × Value → H} {w : World} {base : Nat} {spare : Nat → Bool} {held : Bool} {n : Nat} {cs : List Value} {x : DataW H × List MemPlace}
theorem int_trod {t : TypeId} (ht : Tryz.prog.underlying t = some (.int .i64)) (h : DataW.trod enc Tryz.prog w base spare held n t cs = some x) : ∃ k : Int, cs = [.int .i64 k] ∧ k < 9223372036854775808 := by
  obtain ⟨k, e, _, hw⟩ := DataW.trod_int ht h
  exact ⟨k, e, (i64_lt hw).2⟩
theorem byte_trod (h : DataW.trod enc Tryz.prog w base spare held n 5 cs = some x) : ∃ c : UInt8, cs = [vu8 c] := by
  obtain ⟨k, e, _, hw⟩ := DataW.trod_int Tryz.underlying5 h
  simp [Lit.wf, IntKind.min, IntKind.max, IntKind.signed, IntKind.bits] at hw
  refine ⟨UInt8.ofNat k.toNat, ?_⟩
  rw [e]
  unfold vu8
  rw [UInt8.toNat_ofNat']
  congr 2
  omega
theorem key_trod (h : DataW.trod enc Tryz.prog w base spare held n 58 cs = some x) : ∃ k : KeyD, k.r < 9223372036854775808 ∧ cs = k.cells := by
  obtain ⟨xs, m, _, _, hlen, hxl, hg⟩ := DataW.trod_struct Tryz.underlying58 h
  have h6 : cs.length = 6 := hlen.trans cellsOf_key
  have c0 : Tryz.prog.cellsOf 55 = 1 := by kernel_rfl
  have c1 : Tryz.prog.cellsOf 3 = 1 := by kernel_rfl
  have c2 : Tryz.prog.cellsOf 2 = 1 := by kernel_rfl
  have c3 : Tryz.prog.cellsOf 56 = 1 := by kernel_rfl
  have g0 : DataW.trod enc Tryz.prog w base spare held m 55 ((cs.drop 0).take (Tryz.prog.cellsOf 55)) = xs[0]? := hg 0 _ rfl
  have g1 : DataW.trod enc Tryz.prog w base spare held m 3 ((cs.drop 1).take (Tryz.prog.cellsOf 3)) = xs[1]? := hg 1 _ rfl
  have g2 : DataW.trod enc Tryz.prog w base spare held m 2 ((cs.drop 2).take (Tryz.prog.cellsOf 2)) = xs[2]? := hg 2 _ rfl
  have g3 : DataW.trod enc Tryz.prog w base spare held m 2 ((cs.drop 3).take (Tryz.prog.cellsOf 2)) = xs[3]? := hg 3 _ rfl
  have g4 : DataW.trod enc Tryz.prog w base spare held m 56 ((cs.drop 4).take (Tryz.prog.cellsOf 56)) = xs[4]? := hg 4 _ rfl
  have g5 : DataW.trod enc Tryz.prog w base spare held m 2 ((cs.drop 5).take (Tryz.prog.cellsOf 2)) = xs[5]? := hg 5 _ rfl
  have len : 6 = xs.length := by rw [hxl]; rfl
  have ex : ∀ i, i < 6 → ∃ y, xs[i]? = some y := fun i hi => ⟨_, List.getElem?_eq_getElem (by omega)⟩
  obtain ⟨y0, e0⟩ := ex 0 (by omega)
  obtain ⟨y1, e1⟩ := ex 1 (by omega)
  obtain ⟨y2, e2⟩ := ex 2 (by omega)
  obtain ⟨y3, e3⟩ := ex 3 (by omega)
  obtain ⟨y4, e4⟩ := ex 4 (by omega)
  obtain ⟨y5, e5⟩ := ex 5 (by omega)
  rw [e0] at g0; rw [e1] at g1; rw [e2] at g2; rw [e3] at g3; rw [e4] at g4; rw [e5] at g5
  rw [c0] at g0
  rw [c1] at g1
  rw [c2] at g2 g3 g5
  rw [c3] at g4
  obtain ⟨k0, p0, _⟩ := int_trod Tryz.underlying55 g0
  obtain ⟨k1, p1, _⟩ := int_trod Tryz.underlying3 g1
  obtain ⟨k2, p2, _⟩ := int_trod Tryz.underlying2 g2
  obtain ⟨k3, p3, _⟩ := int_trod Tryz.underlying2 g3
  obtain ⟨k4, p4, w4⟩ := int_trod Tryz.underlying56 g4
  obtain ⟨k5, p5, _⟩ := int_trod Tryz.underlying2 g5
  refine ⟨⟨k0, k1, k2, k3, k4, k5⟩, w4, ?_⟩
  obtain ⟨a, b, c, d, e, f, rfl⟩ := six_list cs h6
  simp only [List.drop_zero, List.drop_succ_cons, List.take_succ_cons, List.take_zero, List.cons.injEq, and_true] at p0 p1 p2 p3 p4 p5
  rw [p0, p1, p2, p3, p4, p5]
  rfl
theorem obj_trod (h : DataW.trod enc Tryz.prog w base spare held n 62 cs = some x) : ∃ o : ObjD, (o.ok ∧ rightsOk o) ∧ cs = o.cells := by
  obtain ⟨xs, m, _, _, hlen, hxl, hg⟩ := DataW.trod_struct Tryz.underlying62 h
  have h163 : cs.length = 163 := hlen.trans (by kernel_rfl)
  have c0 : Tryz.prog.cellsOf 54 = 1 := by kernel_rfl
  have c1 : Tryz.prog.cellsOf 2 = 1 := by kernel_rfl
  have c3 : Tryz.prog.cellsOf 59 = 96 := by kernel_rfl
  have c4 : Tryz.prog.cellsOf 60 = 64 := by kernel_rfl
  have c5 : Tryz.prog.cellsOf 5 = 1 := by kernel_rfl
  have g0 : DataW.trod enc Tryz.prog w base spare held m 54 ((cs.drop 0).take (Tryz.prog.cellsOf 54)) = xs[0]? := hg 0 _ rfl
  have g1 : DataW.trod enc Tryz.prog w base spare held m 2 ((cs.drop 1).take (Tryz.prog.cellsOf 2)) = xs[1]? := hg 1 _ rfl
  have g2 : DataW.trod enc Tryz.prog w base spare held m 2 ((cs.drop 2).take (Tryz.prog.cellsOf 2)) = xs[2]? := hg 2 _ rfl
  have g3 : DataW.trod enc Tryz.prog w base spare held m 59 ((cs.drop 3).take (Tryz.prog.cellsOf 59)) = xs[3]? := hg 3 _ rfl
  have g4 : DataW.trod enc Tryz.prog w base spare held m 60 ((cs.drop 99).take (Tryz.prog.cellsOf 60)) = xs[4]? := hg 4 _ rfl
  have len : 5 = xs.length := by rw [hxl]; rfl
  have ex : ∀ i, i < 5 → ∃ y, xs[i]? = some y := fun i hi => ⟨_, List.getElem?_eq_getElem (by omega)⟩
  obtain ⟨y0, e0⟩ := ex 0 (by omega)
  obtain ⟨y1, e1⟩ := ex 1 (by omega)
  obtain ⟨y2, e2⟩ := ex 2 (by omega)
  obtain ⟨y3, e3⟩ := ex 3 (by omega)
  obtain ⟨y4, e4⟩ := ex 4 (by omega)
  rw [e0] at g0; rw [e1] at g1; rw [e2] at g2; rw [e3] at g3; rw [e4] at g4
  rw [c0] at g0
  rw [c1] at g1 g2
  rw [c3] at g3
  rw [c4] at g4
  obtain ⟨k0, p0, _⟩ := int_trod Tryz.underlying54 g0
  obtain ⟨k1, p1, _⟩ := int_trod Tryz.underlying2 g1
  obtain ⟨k2, p2, _⟩ := int_trod Tryz.underlying2 g2
  obtain ⟨zs, m3, _, _, l3, zl, hz⟩ := DataW.trod_array Tryz.underlying59 g3
  obtain ⟨us, m4, _, _, l4, ul, hu⟩ := DataW.trod_array Tryz.underlying60 g4
  simp only [cellsOf_key] at hz
  simp only [c5] at hu
  obtain ⟨ks, k1l, kp, ke⟩ := list_blocks KeyD.cells (fun k => k.r < 9223372036854775808) 6 16 _ (l3.trans c3) (fun i hi => by
    have h1 := hz i hi
    rw [List.getElem?_eq_getElem (by omega)] at h1
    exact key_trod h1)
  obtain ⟨bs, b1l, _, be⟩ := list_blocks (fun c : UInt8 => [vu8 c]) (fun _ => True) 1 64 _ (l4.trans c4) (fun i hi => by
    have h1 := hu i hi
    rw [List.getElem?_eq_getElem (by omega)] at h1
    obtain ⟨c, hc⟩ := byte_trod h1
    exact ⟨c, trivial, hc⟩)
  refine ⟨⟨k0, k1, k2, ks, bs⟩, ⟨⟨k1l, b1l⟩, kp⟩, ?_⟩
  unfold ObjD.cells slotCells
  simp only
  rw [← ke, show bs.map vu8 = bs.flatMap (fun c => [vu8 c]) by rw [List.map_eq_flatMap], ← be]
  have t : ∀ (l : List Value) (k : Nat), l.take k ++ l.drop k = l := fun l k => List.take_append_drop k l
  have q4 : (cs.drop 99).take 64 = cs.drop 99 := List.take_of_length_le (by rw [List.length_drop, h163]; decide)
  have q3 := t (cs.drop 3) 96
  have q2 := t (cs.drop 2) 1
  have q1 := t (cs.drop 1) 1
  have q0 := t (cs.drop 0) 1
  rw [List.drop_drop] at q3 q2 q1 q0
  rw [p0] at q0
  rw [p1] at q1
  rw [p2] at q2
  rw [q4, show (cs.drop 3).take 96 ++ cs.drop 99 = cs.drop 3 from q3]
  refine q0.symm.trans ?_
  rw [show cs.drop (0 + 1) = cs.drop 1 from rfl, ← q1, show cs.drop (1 + 1) = cs.drop 2 from rfl, ← q2]
  rfl
end
theorem pick_list {α : Type} (R : Nat → α → Prop) : ∀ (n : Nat), (∀ i, i < n → ∃ a, R i a) → ∃ l : List α, l.length = n ∧ ∀ i a, l[i]? = some a → R i a
  | 0, _ => ⟨[], rfl, fun i a h => by simp at h⟩
  | n + 1, h => by
    obtain ⟨l, h1, h2⟩ := pick_list R n (fun i hi => h i (by omega))
    obtain ⟨a, ha⟩ := h n (by omega)
    refine ⟨l ++ [a], by simp [h1], fun i b hb => ?_⟩
    rcases Nat.lt_or_ge i n with hi | hi
    · rw [List.getElem?_append_left (by omega)] at hb
      exact h2 i b hb
    · rw [List.getElem?_append_right (by omega), h1] at hb
      have : i = n := by
        rcases Nat.lt_or_ge (i - n) 1 with hh | hh
        · omega
        · rw [List.getElem?_eq_none (by simpa using hh)] at hb; cases hb
      subst this
      simp at hb
      rw [← hb]
      exact ha
section
variable {H : Type} {enc : TypeId × Value → H} {w : World} {n : Nat} {cs : List Value} {x : DataW H × List MemPlace}
set_option maxRecDepth 100000 in
theorem row_els {T e : TypeId} {C : Nat} (hu : Tryz.prog.underlying T = some (.slice e)) (hC : Tryz.prog.cellsOf e = C) (h0 : 0 < C) (h : DataW.trod enc Tryz.prog w 0 (fun _ => true) true n T cs = some x) :
    ∃ A len cap, cs = [.slice A len cap] ∧ len ≤ maxLen ∧ len ≤ cap ∧ ∀ i, i < len → ∃ g off cs' m y, A = some ⟨g, off, none⟩ ∧ g < w.heap.size ∧ (∀ j u, cs'[j]? = some u → w.cell? ⟨g, off + i * C + j, none⟩ = some u) ∧ DataW.trod enc Tryz.prog w 0 (fun _ => true) true m e cs' = some y := by
  rcases open_slice hu h with ⟨hcs, _⟩ | ⟨a, len, cap, m, k, D, Pl, hcs, hb, hl, hm, hmm, _, hi⟩
  · exact ⟨none, 0, 0, hcs, Nat.zero_le _, Nat.le_refl _, fun i hi => absurd hi (Nat.not_lt_zero _)⟩
  · simp at hmm
    refine ⟨some a, len, cap, hcs, by omega, hl, fun i hil => ?_⟩
    obtain ⟨cs', hc, ht⟩ := hi i (by omega)
    rw [hC] at hc
    obtain ⟨_, hlen, hat⟩ := World.cells?_some hc
    obtain ⟨b, off, spot⟩ := a
    have hspot : spot = none := by
      obtain ⟨cs0, hc0, _⟩ := hi 0 (by omega)
      rw [hC] at hc0
      obtain ⟨_, hl0, hat0⟩ := World.cells?_some hc0
      have h00 := hat0 0 h0
      rw [List.getElem?_eq_getElem (by omega)] at h00
      simpa [Addr.add] using World.cell?_spot h00
    subst hspot
    have g : ∀ j, j < C → w.cell? ⟨b, off + i * C + j, none⟩ = cs'[j]? := fun j hj => by
      rw [← hat j hj, Go.WideShapes.add_plain, Go.WideShapes.add_plain]
    have hg0 := g 0 h0
    rw [List.getElem?_eq_getElem (by omega)] at hg0
    refine ⟨b, off, cs', k, _, rfl, block_lt_of_cell hg0, fun j u hj => ?_, ht⟩
    have hjl : j < C := by
      rcases Nat.lt_or_ge j C with hh | hh
      · exact hh
      · rw [List.getElem?_eq_none (by omega)] at hj; cases hj
    rw [g j hjl, hj]
set_option maxRecDepth 100000 in
theorem ints_trod (h : DataW.trod enc Tryz.prog w 0 (fun _ => true) true n 24 cs = some x) : ∃ v l, cs = [v] ∧ IntsIn w w.heap.size v l := by
  obtain ⟨A, len, cap, hcs, hm, hl, hi⟩ := row_els (C := 1) Tryz.underlying24 (by kernel_rfl) (by omega) h
  obtain ⟨l, hll, hR⟩ := pick_list (fun i (c : Int) => ∃ g off, A = some ⟨g, off, none⟩ ∧ g < w.heap.size ∧ w.cell? ⟨g, off + i, none⟩ = some (.int .i64 c)) len (fun i hil => by
    obtain ⟨g, off, cs', m, y, e1, e2, e3, e4⟩ := hi i hil
    obtain ⟨k, rfl, _⟩ := int_trod Tryz.underlying3 e4
    exact ⟨k, g, off, e1, e2, by have := e3 0 _ rfl; simpa using this⟩)
  subst hll
  exact ⟨_, l, hcs, hm, A, cap, rfl, hl, fun j c hj => hR j c hj⟩
set_option maxRecDepth 100000 in
theorem bytes_trod (h : DataW.trod enc Tryz.prog w 0 (fun _ => true) true n 26 cs = some x) : ∃ v l, cs = [v] ∧ BytesIn w w.heap.size v l := by
  obtain ⟨A, len, cap, hcs, hm, hl, hi⟩ := row_els (C := 1) Tryz.underlying26 (by kernel_rfl) (by omega) h
  obtain ⟨l, hll, hR⟩ := pick_list (fun i (c : UInt8) => ∃ g off, A = some ⟨g, off, none⟩ ∧ g < w.heap.size ∧ w.cell? ⟨g, off + i, none⟩ = some (vu8 c)) len (fun i hil => by
    obtain ⟨g, off, cs', m, y, e1, e2, e3, e4⟩ := hi i hil
    obtain ⟨k, rfl⟩ := byte_trod e4
    exact ⟨k, g, off, e1, e2, by have := e3 0 _ rfl; simpa using this⟩)
  subst hll
  exact ⟨_, l, hcs, hm, A, cap, rfl, hl, fun j c hj => hR j c hj⟩
set_option maxRecDepth 100000 in
theorem objs_trod (h : DataW.trod enc Tryz.prog w 0 (fun _ => true) true n 25 cs = some x) : ∃ v l, cs = [v] ∧ ObjsIn w w.heap.size v l := by
  obtain ⟨A, len, cap, hcs, hm, hl, hi⟩ := row_els (C := 163) Tryz.underlying25 (by kernel_rfl) (by omega) h
  obtain ⟨l, hll, hR⟩ := pick_list (fun i (o : ObjD) => o.ok ∧ rightsOk o ∧ ∃ g off, A = some ⟨g, off, none⟩ ∧ g < w.heap.size ∧ w.rangeAt g (off + i * 163) o.cells) len (fun i hil => by
    obtain ⟨g, off, cs', m, y, e1, e2, e3, e4⟩ := hi i hil
    obtain ⟨o, ⟨ho, hr⟩, rfl⟩ := obj_trod e4
    exact ⟨o, ho, hr, g, off, e1, e2, e3⟩)
  subst hll
  exact ⟨_, l, hcs, hm, A, cap, rfl, hl, fun j o hj => hR j o hj⟩
set_option maxRecDepth 100000 in
theorem open_frame {r : Reach} {b0 : Nat} {v : Value} {d : DataW H} {p : List MemPlace} (hv : Value.okWide Tryz.prog w r b0 28 v) (h : DataW.Trod enc Tryz.prog w 0 (fun _ => true) true 28 v d p) : ∃ f, FrameIn w w.heap.size v f := by
  obtain ⟨cs, rfl, hsz⟩ := okWide_struct Tryz.underlying28 hv
  obtain ⟨fuel, hf⟩ := h
  obtain ⟨xs, m, _, _, hlen, hxl, hg⟩ := DataW.trod_struct Tryz.underlying28 hf
  have h4 : cs.toList.length = 4 := hlen.trans (by kernel_rfl)
  have c0 : Tryz.prog.cellsOf 2 = 1 := by kernel_rfl
  have c1 : Tryz.prog.cellsOf 24 = 1 := by kernel_rfl
  have c2 : Tryz.prog.cellsOf 25 = 1 := by kernel_rfl
  have c3 : Tryz.prog.cellsOf 26 = 1 := by kernel_rfl
  have g0 : DataW.trod enc Tryz.prog w 0 (fun _ => true) true m 2 ((cs.toList.drop 0).take (Tryz.prog.cellsOf 2)) = xs[0]? := hg 0 _ rfl
  have g1 : DataW.trod enc Tryz.prog w 0 (fun _ => true) true m 24 ((cs.toList.drop 1).take (Tryz.prog.cellsOf 24)) = xs[1]? := hg 1 _ rfl
  have g2 : DataW.trod enc Tryz.prog w 0 (fun _ => true) true m 25 ((cs.toList.drop 2).take (Tryz.prog.cellsOf 25)) = xs[2]? := hg 2 _ rfl
  have g3 : DataW.trod enc Tryz.prog w 0 (fun _ => true) true m 26 ((cs.toList.drop 3).take (Tryz.prog.cellsOf 26)) = xs[3]? := hg 3 _ rfl
  have len : 4 = xs.length := by rw [hxl]; rfl
  have ex : ∀ i, i < 4 → ∃ y, xs[i]? = some y := fun i hi => ⟨_, List.getElem?_eq_getElem (by omega)⟩
  obtain ⟨y0, e0⟩ := ex 0 (by omega)
  obtain ⟨y1, e1⟩ := ex 1 (by omega)
  obtain ⟨y2, e2⟩ := ex 2 (by omega)
  obtain ⟨y3, e3⟩ := ex 3 (by omega)
  rw [e0, c0] at g0
  rw [e1, c1] at g1
  rw [e2, c2] at g2
  rw [e3, c3] at g3
  obtain ⟨ed, p0, _⟩ := int_trod Tryz.underlying2 g0
  obtain ⟨vo, lo, p1, h1⟩ := ints_trod g1
  obtain ⟨vb, lb, p2, h2⟩ := objs_trod g2
  obtain ⟨vs, ls, p3, h3⟩ := bytes_trod g3
  refine ⟨⟨ed, lo, lb, ls⟩, vo, vb, vs, ?_, h1, h2, h3⟩
  obtain ⟨a, b, c, d', e⟩ := four_list cs.toList h4
  rw [e] at p0 p1 p2 p3
  have hcs : cs = #[a, b, c, d'] := Array.ext' e
  simp only [List.drop_zero, List.drop_succ_cons, List.take_succ_cons, List.take_zero, List.cons.injEq, and_true] at p0 p1 p2 p3
  rw [hcs, p0, p1, p2, p3]
end
end Go.Proofs.YtdpniceapmikpaaGreat
namespace Go.Proofs.YtdpniceapmikpaaGreat
open Go.ChangeShapes Go.WideShapes Go.ChangeAt Go.RowKit Go.Deep

theorem one_list (l : List Int) (h : l.length = 1) : ∃ a, l = [a] := by
  match l, h with
  | [a], _ => exact ⟨a, rfl⟩
set_option maxRecDepth 100000 in
theorem open_plan {H : Type} {enc : TypeId × Value → H} {w : World} {base : Nat} {spare : Nat → Bool} {held : Bool} {r : Reach} {b0 : Nat} {v : Value} {d : DataW H} {p : List MemPlace}
    (hv : Value.okWide Tryz.prog w r b0 23 v) (h : DataW.Trod enc Tryz.prog w base spare held 23 v d p) : ∃ N : Int, v = .agg #[.int .i64 N] := by
  obtain ⟨l, hl, rfl, _⟩ := open_nums (kd := .i64) Tryz.underlying23 (by kernel_rfl) (by kernel_rfl) (fun j f hf => by
    match j, hf with
    | 0, hf => injection hf with hf; subst hf; exact Tryz.underlying3
    | j + 1, hf => simp at hf) hv h
  obtain ⟨N, rfl⟩ := one_list l hl
  exact ⟨N, rfl⟩
set_option maxRecDepth 100000 in
theorem logsChecks_lifted (os : Os) (started : os.Started) (H : Type) (enc : TypeId × Value → H) :
    ReturnsInHanded {} Tryz.checked os 3 .any (Rows.logsChecksSpec.pre6 enc Tryz.prog Tryz.f3 Rows.logsChecksRow.domain false) (Rows.logsChecksSpec.post enc Tryz.prog Tryz.f3 false true false false) := by
  refine returnsInHanded_of_change (C := Tryz.checked) own started (by kernel_rfl) Tryz.func3
    (ChangeSpec.witness6 (enc := enc) (C := Tryz.checked) false ⟨#[], #[.agg #[.int .i64 0], .agg #[.int .i64 0, .slice none 0 0, .slice none 0 0, .slice none 0 0], .agg #[.int .i64 0, .slice none 0 0, .slice none 0 0, .slice none 0 0]], []⟩ 8 (by kernel_rfl) (by kernel_rfl) (by kernel_rfl) (by kernel_rfl)) ?_
  intro W base args ds gs before hval0 hW hcnd _
  have hval : ∀ (j : Nat) t v, Tryz.f3.params[j]? = some t → args[j]? = some v → Value.okWide Tryz.prog W .any base t v := hval0
  have hW' := hW
  obtain ⟨p, q, hA0, hV, rfl, hfz, hnd⟩ := hW
  have hA : DataW.TrodAll enc Tryz.prog W 0 (fun _ => true) true Tryz.f3.params.toList args.toList ds p := hA0
  rw [Tryz.params3] at hA hval
  obtain ⟨v0, v1, v2, d0, d1, d2, p0, p1, p2, rfl, rfl, rfl, h0, h1, h2⟩ := trodAll_three hA
  obtain ⟨rfl, rfl⟩ := trodVars_none hV
  obtain ⟨N, rfl⟩ := open_plan (hval 0 _ v0 rfl rfl) h0
  obtain ⟨fa, ha⟩ := open_frame (hval 1 _ v1 rfl rfl) h1
  obtain ⟨fb, hb2⟩ := open_frame (hval 2 _ v2 rfl rfl) h2
  clear hA0 hval0
  refine (law_any N fa fb v1 v2 W ha hb2).mono fun e W' ⟨he, hb⟩ => ?_
  subst he
  exact ⟨_, rfl, law_post laidOut (by rw [Tryz.params3]; intro t ht; simp at ht; rcases ht with rfl | rfl <;> exact ⟨by kernel_rfl, of_decide_eq_true (by kernel_rfl)⟩) rfl Tryz.underlying4 rfl hW' rfl hb⟩

theorem logsChecks_holds : Rows.LogsChecksSaid :=
  OpenClaim.holds_of_wide 3 Tryz.f3 rfl rfl rfl rfl rfl rfl rfl ⟨rfl, rfl, rfl, rfl, rfl⟩ rfl rfl rfl rfl rfl (by kernel_rfl) Tryz.func3 (by kernel_rfl)
    (of_decide_eq_true (by kernel_rfl)) (by unfold Func.isWrapper; first | (rw [if_pos (by decide +kernel)]; kernel_rfl) | (rw [if_neg (by decide +kernel)]; exact ⟨rfl, rfl⟩))
    (fun os started H enc _ => logsChecks_lifted os started H enc)

end Go.Proofs.YtdpniceapmikpaaGreat
