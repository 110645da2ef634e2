/-
  The contract of keys.Weaken, for all keys.
-/
import Derived.Test.YtlfkfhdcljkhkaaDoorWeak
namespace Go.Proofs.YtlfkfhdcljkhkaaDoor
open Go.RowKit

theorem keyV_one (k o c a r v : Int) : (keyV k o c a r v).all (·.oneCell') = true := by simp [Value.oneCell']

set_option maxHeartbeats 400000 in
theorem weaken_no (k o c a r v : Int) (w : World) (hB : ofB k o c a r v = false) :
    Calls Tryd.prog 8 #[.agg #[.int .i64 k, .int .i64 o, .int .i64 c, .int .i64 a, .int .i64 r, .int .i64 v]] w fun e w' =>
      e = .returned (.tuple #[.agg #[.int .i64 0, .int .i64 0, .int .i64 0, .int .i64 0, .int .i64 0, .int .i64 0], .int .i64 2]) ∧ Below w.heap.size w w' := by
  go_enter Tryd.func8, Tryd.ntmps8
  go_wp2_with fail
  refine (check_any _ _ _ _ _ _ _).mono ?_; rintro e w1 ⟨rfl, hb⟩
  have K2 : Blk w1 (w.heap.size + 1) 30 (keyV 0 0 0 0 0 0) := (Blk.new2 w _ _ _).below hb (by simp)
  have hbb : Below w.heap.size w w1 := (((Below.refl _ _).alloc (Nat.le_refl _) _).alloc (by simp) _).trans (hb.mono (by simp; omega))
  clear hb
  rw [hB]
  have he : errB false = 2 := rfl
  go_wp2_with (refine wpList_store_row rfl 30 _ _ rfl (w.heap.size + 1) (keyV 0 0 0 0 0 0) rfl rfl 30 (keyV 0 0 0 0 0 0) K2 info_key rfl (keyV_one _ _ _ _ _ _) ?_)
  exact bodyPost_ret (results_row_tmp Tryd.results8 _ _ (w.heap.size + 1) 30 (keyV 0 0 0 0 0 0) (0, 0) _ rfl (K2.row _) Tryd.underlying30 rfl info_key _ rfl) rfl ⟨rfl, below_row hbb _ (by omega)⟩

theorem look2 (g : Nat) : lookOf [(2, withF (g + 1)), (3, withF (g + 2)), (1, sameF), (8, sameF)] 2 = some (withF (g + 1)) := rfl

set_option maxHeartbeats 400000 in
theorem weaken_2 (o c a r v : Int) (w : World) (hB : ofB 2 o c a r v = true) :
    Calls Tryd.prog 8 #[.agg #[.int .i64 2, .int .i64 o, .int .i64 c, .int .i64 a, .int .i64 r, .int .i64 v]] w fun e w' =>
      e = .returned (.tuple #[.agg #[.int .i64 2, .int .i64 o, .int .i64 c, .int .i64 a, .int .i64 (bits .or .i64 r 3), .int .i64 v], .int .i64 0]) ∧ Below w.heap.size w w' := by
  go_enter Tryd.func8, Tryd.ntmps8
  go_wp2_with fail
  refine (check_any _ _ _ _ _ _ _).mono ?_; rintro e w1 ⟨rfl, hb⟩
  have K1 : Blk w1 w.heap.size 30 (keyV 2 o c a r v) := ((Blk.new w _ _).alloc _).below hb (by simp; omega)
  have K2 : Blk w1 (w.heap.size + 1) 30 (keyV 0 0 0 0 0 0) := (Blk.new2 w _ _ _).below hb (by simp)
  have hbb : Below w.heap.size w w1 := (((Below.refl _ _).alloc (Nat.le_refl _) _).alloc (by simp) _).trans (hb.mono (by simp; omega))
  have hz : w.heap.size + 1 < w1.heap.size := by have := hb.size; simp at this; omega
  clear hb
  rw [hB]
  have he : errB true = 0 := rfl
  go_upto_region 3 with fail
  go_cut [4, 5] (fun s4 s5 wx => ∃ g : Nat, s4 = withF g ∧ s5 = .bool true ∧ Blk wx g 28 #[.int .i64 3] ∧ Below w1.heap.size w1 wx)
  case first =>
    have k0 := K1.cell_is 0 rfl
    go_region_with (go_at_call 18; refine (weak_any _).mono ?_; rintro e w' ⟨rfl, hm, hp2, hp3, hbw⟩; have k0' := (by first | exact (K1.below hbw K1.lt).cell_is 0 rfl | exact (K1.drew.below hbw K1.lt).cell_is 0 rfl : w'.cell? ⟨w.heap.size, 0, none⟩ = some (.int .i64 2)); have hl : (Instr.lookup 54 (.map (some w1.heap.size)) (.int .i64 2) true).run Tryd.prog w' = .ok (.tuple #[withF (w1.heap.size + 1), .bool true]) w' := run_lookup_ok w' Tryd.underlying54 Tryd.underlying27 _ _ hm 2 _ (look2 w1.heap.size) true; have hl2 : (Instr.lookup 54 (.map (some w1.heap.size)) (.int .i64 2) true).run Tryd.prog w'.drew = .ok (.tuple #[withF (w1.heap.size + 1), .bool true]) w'.drew := run_lookup_ok w'.drew Tryd.underlying54 Tryd.underlying27 _ _ hm 2 _ (look2 w1.heap.size) true)
    all_goals go_wp2_with fail
    all_goals go_meet
    all_goals refine ⟨w1.heap.size + 1, rfl, rfl, ?_, ?_⟩
    all_goals first
      | exact hp2
      | exact hp2.drew
      | exact hbw
      | exact hbw.drew
      | exact (Below.refl _ _).drew.trans hbw
  case rest =>
    obtain ⟨g, rfl, rfl, hp, hbw⟩ := hcut
    have K1' := K1.below hbw K1.lt
    have K2' := K2.below hbw K2.lt
    have hz' : w.heap.size + 1 < wc.heap.size := Nat.lt_of_lt_of_le hz hbw.size
    have hbb' : Below w.heap.size w wc := hbb.trans (hbw.mono (by omega))
    obtain ⟨x0, x1, x2, x3, x4, x5⟩ := K1'.key
    clear K1 K2 hbw hbb K1'
    have hpc : wc.cell? ⟨g, 0, none⟩ = some (.int .i64 3) := hp.cell_is 0 rfl
    go_wp2_with (first
      | (go_at_call 28; refine (withr_any _ _ _ _ _ _ 3 _ _ hpc).mono ?_; rintro e w2 ⟨rfl, hb2⟩; have K3 := K2'.below hb2 K2'.lt)
      | (refine wpList_store_row rfl 30 _ _ rfl (w.heap.size + 1) (keyV 2 o c a (bits .or .i64 r 3) v) rfl rfl 30 (keyV 0 0 0 0 0 0) K3 info_key rfl (keyV_one _ _ _ _ _ _) ?_))
    exact bodyPost_ret (results_row_tmp Tryd.results8 _ _ (w.heap.size + 1) 30 (keyV 2 o c a (bits .or .i64 r 3) v) (0, 0) _ rfl (K3.row _) Tryd.underlying30 rfl info_key _ rfl) rfl ⟨rfl, below_row (hbb'.trans (hb2.mono (by omega))) _ (by omega)⟩

theorem look3 (g : Nat) : lookOf [(2, withF (g + 1)), (3, withF (g + 2)), (1, sameF), (8, sameF)] 3 = some (withF (g + 2)) := rfl

set_option maxHeartbeats 400000 in
theorem weaken_3 (o c a r v : Int) (w : World) (hB : ofB 3 o c a r v = true) :
    Calls Tryd.prog 8 #[.agg #[.int .i64 3, .int .i64 o, .int .i64 c, .int .i64 a, .int .i64 r, .int .i64 v]] w fun e w' =>
      e = .returned (.tuple #[.agg #[.int .i64 3, .int .i64 o, .int .i64 c, .int .i64 a, .int .i64 (bits .or .i64 r 1), .int .i64 v], .int .i64 0]) ∧ Below w.heap.size w w' := by
  go_enter Tryd.func8, Tryd.ntmps8
  go_wp2_with fail
  refine (check_any _ _ _ _ _ _ _).mono ?_; rintro e w1 ⟨rfl, hb⟩
  have K1 : Blk w1 w.heap.size 30 (keyV 3 o c a r v) := ((Blk.new w _ _).alloc _).below hb (by simp; omega)
  have K2 : Blk w1 (w.heap.size + 1) 30 (keyV 0 0 0 0 0 0) := (Blk.new2 w _ _ _).below hb (by simp)
  have hbb : Below w.heap.size w w1 := (((Below.refl _ _).alloc (Nat.le_refl _) _).alloc (by simp) _).trans (hb.mono (by simp; omega))
  have hz : w.heap.size + 1 < w1.heap.size := by have := hb.size; simp at this; omega
  clear hb
  rw [hB]
  have he : errB true = 0 := rfl
  go_upto_region 3 with fail
  go_cut [4, 5] (fun s4 s5 wx => ∃ g : Nat, s4 = withF g ∧ s5 = .bool true ∧ Blk wx g 28 #[.int .i64 1] ∧ Below w1.heap.size w1 wx)
  case first =>
    have k0 := K1.cell_is 0 rfl
    go_region_with (go_at_call 18; refine (weak_any _).mono ?_; rintro e w' ⟨rfl, hm, hp2, hp3, hbw⟩; have k0' := (by first | exact (K1.below hbw K1.lt).cell_is 0 rfl | exact (K1.drew.below hbw K1.lt).cell_is 0 rfl : w'.cell? ⟨w.heap.size, 0, none⟩ = some (.int .i64 3)); have hl : (Instr.lookup 54 (.map (some w1.heap.size)) (.int .i64 3) true).run Tryd.prog w' = .ok (.tuple #[withF (w1.heap.size + 2), .bool true]) w' := run_lookup_ok w' Tryd.underlying54 Tryd.underlying27 _ _ hm 3 _ (look3 w1.heap.size) true; have hl2 : (Instr.lookup 54 (.map (some w1.heap.size)) (.int .i64 3) true).run Tryd.prog w'.drew = .ok (.tuple #[withF (w1.heap.size + 2), .bool true]) w'.drew := run_lookup_ok w'.drew Tryd.underlying54 Tryd.underlying27 _ _ hm 3 _ (look3 w1.heap.size) true)
    all_goals go_wp2_with fail
    all_goals go_meet
    all_goals refine ⟨w1.heap.size + 2, rfl, rfl, ?_, ?_⟩
    all_goals first
      | exact hp3
      | exact hp3.drew
      | exact hbw
      | exact hbw.drew
      | exact (Below.refl _ _).drew.trans hbw
  case rest =>
    obtain ⟨g, rfl, rfl, hp, hbw⟩ := hcut
    have K1' := K1.below hbw K1.lt
    have K2' := K2.below hbw K2.lt
    have hz' : w.heap.size + 1 < wc.heap.size := Nat.lt_of_lt_of_le hz hbw.size
    have hbb' : Below w.heap.size w wc := hbb.trans (hbw.mono (by omega))
    obtain ⟨x0, x1, x2, x3, x4, x5⟩ := K1'.key
    clear K1 K2 hbw hbb K1'
    have hpc : wc.cell? ⟨g, 0, none⟩ = some (.int .i64 1) := hp.cell_is 0 rfl
    go_wp2_with (first
      | (go_at_call 28; refine (withr_any _ _ _ _ _ _ 1 _ _ hpc).mono ?_; rintro e w2 ⟨rfl, hb2⟩; have K3 := K2'.below hb2 K2'.lt)
      | (refine wpList_store_row rfl 30 _ _ rfl (w.heap.size + 1) (keyV 3 o c a (bits .or .i64 r 1) v) rfl rfl 30 (keyV 0 0 0 0 0 0) K3 info_key rfl (keyV_one _ _ _ _ _ _) ?_))
    exact bodyPost_ret (results_row_tmp Tryd.results8 _ _ (w.heap.size + 1) 30 (keyV 3 o c a (bits .or .i64 r 1) v) (0, 0) _ rfl (K3.row _) Tryd.underlying30 rfl info_key _ rfl) rfl ⟨rfl, below_row (hbb'.trans (hb2.mono (by omega))) _ (by omega)⟩

theorem look1 (g : Nat) : lookOf [(2, withF (g + 1)), (3, withF (g + 2)), (1, sameF), (8, sameF)] 1 = some sameF := rfl

set_option maxHeartbeats 400000 in
theorem weaken_1 (o c a r v : Int) (w : World) (hB : ofB 1 o c a r v = true) :
    Calls Tryd.prog 8 #[.agg #[.int .i64 1, .int .i64 o, .int .i64 c, .int .i64 a, .int .i64 r, .int .i64 v]] w fun e w' =>
      e = .returned (.tuple #[.agg #[.int .i64 1, .int .i64 o, .int .i64 c, .int .i64 a, .int .i64 r, .int .i64 v], .int .i64 0]) ∧ Below w.heap.size w w' := by
  go_enter Tryd.func8, Tryd.ntmps8
  go_wp2_with fail
  refine (check_any _ _ _ _ _ _ _).mono ?_; rintro e w1 ⟨rfl, hb⟩
  have K1 : Blk w1 w.heap.size 30 (keyV 1 o c a r v) := ((Blk.new w _ _).alloc _).below hb (by simp; omega)
  have K2 : Blk w1 (w.heap.size + 1) 30 (keyV 0 0 0 0 0 0) := (Blk.new2 w _ _ _).below hb (by simp)
  have hbb : Below w.heap.size w w1 := (((Below.refl _ _).alloc (Nat.le_refl _) _).alloc (by simp) _).trans (hb.mono (by simp; omega))
  have hz : w.heap.size + 1 < w1.heap.size := by have := hb.size; simp at this; omega
  clear hb
  rw [hB]
  have he : errB true = 0 := rfl
  go_upto_region 3 with fail
  go_cut [4, 5] (fun s4 s5 wx => s4 = sameF ∧ s5 = .bool true ∧ Below w1.heap.size w1 wx)
  case first =>
    have k0 := K1.cell_is 0 rfl
    go_region_with (go_at_call 18; refine (weak_any _).mono ?_; rintro e w' ⟨rfl, hm, hp2, hp3, hbw⟩; have k0' := (by first | exact (K1.below hbw K1.lt).cell_is 0 rfl | exact (K1.drew.below hbw K1.lt).cell_is 0 rfl : w'.cell? ⟨w.heap.size, 0, none⟩ = some (.int .i64 1)); have hl : (Instr.lookup 54 (.map (some w1.heap.size)) (.int .i64 1) true).run Tryd.prog w' = .ok (.tuple #[sameF, .bool true]) w' := run_lookup_ok w' Tryd.underlying54 Tryd.underlying27 _ _ hm 1 _ (look1 w1.heap.size) true; have hl2 : (Instr.lookup 54 (.map (some w1.heap.size)) (.int .i64 1) true).run Tryd.prog w'.drew = .ok (.tuple #[sameF, .bool true]) w'.drew := run_lookup_ok w'.drew Tryd.underlying54 Tryd.underlying27 _ _ hm 1 _ (look1 w1.heap.size) true)
    all_goals go_wp2_with fail
    all_goals go_meet
    all_goals refine ⟨rfl, rfl, ?_⟩
    all_goals first
      | exact hbw
      | exact hbw.drew
      | exact (Below.refl _ _).drew.trans hbw
  case rest =>
    obtain ⟨rfl, rfl, hbw⟩ := hcut
    have K1' := K1.below hbw K1.lt
    have K2' := K2.below hbw K2.lt
    have hz' : w.heap.size + 1 < wc.heap.size := Nat.lt_of_lt_of_le hz hbw.size
    have hbb' : Below w.heap.size w wc := hbb.trans (hbw.mono (by omega))
    obtain ⟨x0, x1, x2, x3, x4, x5⟩ := K1'.key
    clear K1 K2 hbw hbb K1'
    go_wp2_with (first
      | (go_at_call 26; refine (same_any _ _ _ _ _ _ _).mono ?_; rintro e w2 ⟨rfl, hb2⟩; have K3 := K2'.below hb2 K2'.lt)
      | (refine wpList_store_row rfl 30 _ _ rfl (w.heap.size + 1) (keyV 1 o c a r v) rfl rfl 30 (keyV 0 0 0 0 0 0) K3 info_key rfl (keyV_one _ _ _ _ _ _) ?_))
    exact bodyPost_ret (results_row_tmp Tryd.results8 _ _ (w.heap.size + 1) 30 (keyV 1 o c a r v) (0, 0) _ rfl (K3.row _) Tryd.underlying30 rfl info_key _ rfl) rfl ⟨rfl, below_row (hbb'.trans (hb2.mono (by omega))) _ (by omega)⟩

theorem look8 (g : Nat) : lookOf [(2, withF (g + 1)), (3, withF (g + 2)), (1, sameF), (8, sameF)] 8 = some sameF := rfl

set_option maxHeartbeats 400000 in
theorem weaken_8 (o c a r v : Int) (w : World) (hB : ofB 8 o c a r v = true) :
    Calls Tryd.prog 8 #[.agg #[.int .i64 8, .int .i64 o, .int .i64 c, .int .i64 a, .int .i64 r, .int .i64 v]] w fun e w' =>
      e = .returned (.tuple #[.agg #[.int .i64 8, .int .i64 o, .int .i64 c, .int .i64 a, .int .i64 r, .int .i64 v], .int .i64 0]) ∧ Below w.heap.size w w' := by
  go_enter Tryd.func8, Tryd.ntmps8
  go_wp2_with fail
  refine (check_any _ _ _ _ _ _ _).mono ?_; rintro e w1 ⟨rfl, hb⟩
  have K1 : Blk w1 w.heap.size 30 (keyV 8 o c a r v) := ((Blk.new w _ _).alloc _).below hb (by simp; omega)
  have K2 : Blk w1 (w.heap.size + 1) 30 (keyV 0 0 0 0 0 0) := (Blk.new2 w _ _ _).below hb (by simp)
  have hbb : Below w.heap.size w w1 := (((Below.refl _ _).alloc (Nat.le_refl _) _).alloc (by simp) _).trans (hb.mono (by simp; omega))
  have hz : w.heap.size + 1 < w1.heap.size := by have := hb.size; simp at this; omega
  clear hb
  rw [hB]
  have he : errB true = 0 := rfl
  go_upto_region 3 with fail
  go_cut [4, 5] (fun s4 s5 wx => s4 = sameF ∧ s5 = .bool true ∧ Below w1.heap.size w1 wx)
  case first =>
    have k0 := K1.cell_is 0 rfl
    go_region_with (go_at_call 18; refine (weak_any _).mono ?_; rintro e w' ⟨rfl, hm, hp2, hp3, hbw⟩; have k0' := (by first | exact (K1.below hbw K1.lt).cell_is 0 rfl | exact (K1.drew.below hbw K1.lt).cell_is 0 rfl : w'.cell? ⟨w.heap.size, 0, none⟩ = some (.int .i64 8)); have hl : (Instr.lookup 54 (.map (some w1.heap.size)) (.int .i64 8) true).run Tryd.prog w' = .ok (.tuple #[sameF, .bool true]) w' := run_lookup_ok w' Tryd.underlying54 Tryd.underlying27 _ _ hm 8 _ (look8 w1.heap.size) true; have hl2 : (Instr.lookup 54 (.map (some w1.heap.size)) (.int .i64 8) true).run Tryd.prog w'.drew = .ok (.tuple #[sameF, .bool true]) w'.drew := run_lookup_ok w'.drew Tryd.underlying54 Tryd.underlying27 _ _ hm 8 _ (look8 w1.heap.size) true)
    all_goals go_wp2_with fail
    all_goals go_meet
    all_goals refine ⟨rfl, rfl, ?_⟩
    all_goals first
      | exact hbw
      | exact hbw.drew
      | exact (Below.refl _ _).drew.trans hbw
  case rest =>
    obtain ⟨rfl, rfl, hbw⟩ := hcut
    have K1' := K1.below hbw K1.lt
    have K2' := K2.below hbw K2.lt
    have hz' : w.heap.size + 1 < wc.heap.size := Nat.lt_of_lt_of_le hz hbw.size
    have hbb' : Below w.heap.size w wc := hbb.trans (hbw.mono (by omega))
    obtain ⟨x0, x1, x2, x3, x4, x5⟩ := K1'.key
    clear K1 K2 hbw hbb K1'
    go_wp2_with (first
      | (go_at_call 26; refine (same_any _ _ _ _ _ _ _).mono ?_; rintro e w2 ⟨rfl, hb2⟩; have K3 := K2'.below hb2 K2'.lt)
      | (refine wpList_store_row rfl 30 _ _ rfl (w.heap.size + 1) (keyV 8 o c a r v) rfl rfl 30 (keyV 0 0 0 0 0 0) K3 info_key rfl (keyV_one _ _ _ _ _ _) ?_))
    exact bodyPost_ret (results_row_tmp Tryd.results8 _ _ (w.heap.size + 1) 30 (keyV 8 o c a r v) (0, 0) _ rfl (K3.row _) Tryd.underlying30 rfl info_key _ rfl) rfl ⟨rfl, below_row (hbb'.trans (hb2.mono (by omega))) _ (by omega)⟩

theorem lookn (g : Nat) (k : Int) (hk : k ≠ 1 ∧ k ≠ 2 ∧ k ≠ 3 ∧ k ≠ 8) : lookOf [(2, withF (g + 1)), (3, withF (g + 2)), (1, sameF), (8, sameF)] k = none := by
  obtain ⟨h1, h2, h3, h4⟩ := hk
  simp [lookOf, h1, h2, h3, h4]

set_option maxHeartbeats 400000 in
theorem weaken_n (k o c a r v : Int) (w : World) (hk : k ≠ 1 ∧ k ≠ 2 ∧ k ≠ 3 ∧ k ≠ 8) (hB : ofB k o c a r v = true) :
    Calls Tryd.prog 8 #[.agg #[.int .i64 k, .int .i64 o, .int .i64 c, .int .i64 a, .int .i64 r, .int .i64 v]] w fun e w' =>
      e = .returned (.tuple #[.agg #[.int .i64 0, .int .i64 0, .int .i64 0, .int .i64 0, .int .i64 0, .int .i64 0], .int .i64 0]) ∧ Below w.heap.size w w' := by
  have hk' := Lib.hid hk
  clear hk
  go_enter Tryd.func8, Tryd.ntmps8
  go_wp2_with fail
  refine (check_any _ _ _ _ _ _ _).mono ?_; rintro e w1 ⟨rfl, hb⟩
  have K1 : Blk w1 w.heap.size 30 (keyV k o c a r v) := ((Blk.new w _ _).alloc _).below hb (by simp; omega)
  have K2 : Blk w1 (w.heap.size + 1) 30 (keyV 0 0 0 0 0 0) := (Blk.new2 w _ _ _).below hb (by simp)
  have hbb : Below w.heap.size w w1 := (((Below.refl _ _).alloc (Nat.le_refl _) _).alloc (by simp) _).trans (hb.mono (by simp; omega))
  have hz : w.heap.size + 1 < w1.heap.size := by have := hb.size; simp at this; omega
  clear hb
  rw [hB]
  have he : errB true = 0 := rfl
  go_upto_region 3 with fail
  go_cut [4, 5] (fun s4 s5 wx => s5 = .bool false ∧ Below w1.heap.size w1 wx)
  case first =>
    have k0 := K1.cell_is 0 rfl
    go_region_with (go_at_call 18; refine (weak_any _).mono ?_; rintro e w' ⟨rfl, hm, hp2, hp3, hbw⟩; have k0' := (by first | exact (K1.below hbw K1.lt).cell_is 0 rfl | exact (K1.drew.below hbw K1.lt).cell_is 0 rfl : w'.cell? ⟨w.heap.size, 0, none⟩ = some (.int .i64 k)); have hl : (Instr.lookup 54 (.map (some w1.heap.size)) (.int .i64 k) true).run Tryd.prog w' = .ok (.tuple #[.nilFunc, .bool false]) w' := run_lookup_none w' Tryd.underlying54 Tryd.underlying27 _ _ hm k _ (Tryd.zeroValue52 _) (lookn w1.heap.size k hk'.out) true; have hl2 : (Instr.lookup 54 (.map (some w1.heap.size)) (.int .i64 k) true).run Tryd.prog w'.drew = .ok (.tuple #[.nilFunc, .bool false]) w'.drew := run_lookup_none w'.drew Tryd.underlying54 Tryd.underlying27 _ _ hm k _ (Tryd.zeroValue52 _) (lookn w1.heap.size k hk'.out) true)
    all_goals go_wp2_with fail
    all_goals go_meet
    all_goals refine ⟨rfl, ?_⟩
    all_goals first
      | exact hbw
      | exact hbw.drew
      | exact (Below.refl _ _).drew.trans hbw
  case rest =>
    obtain ⟨rfl, hbw⟩ := hcut
    have K1' := K1.below hbw K1.lt
    have K2' := K2.below hbw K2.lt
    have hz' : w.heap.size + 1 < wc.heap.size := Nat.lt_of_lt_of_le hz hbw.size
    have hbb' : Below w.heap.size w wc := hbb.trans (hbw.mono (by omega))
    obtain ⟨x0, x1, x2, x3, x4, x5⟩ := K1'.key
    clear K1 K2 hbw hbb K1'
    go_wp2_with (first
      | (refine wpList_store_row rfl 30 _ _ rfl (w.heap.size + 1) (keyV 0 0 0 0 0 0) rfl rfl 30 (keyV 0 0 0 0 0 0) K2' info_key rfl (keyV_one _ _ _ _ _ _) ?_))
    exact bodyPost_ret (results_row_tmp Tryd.results8 _ _ (w.heap.size + 1) 30 (keyV 0 0 0 0 0 0) (0, 0) _ rfl (K2'.row _) Tryd.underlying30 rfl info_key _ rfl) rfl ⟨rfl, below_row (hbb') _ (by omega)⟩

end Go.Proofs.YtlfkfhdcljkhkaaDoor
