/-
  The law's own look at known keys answers true.
-/
import Derived.Test.YtlfkfhdcljkhkaaDoorKeys2
import Derived.Test.YtlfkfhdcljkhkaaDoorLess
namespace Go.Proofs.YtlfkfhdcljkhkaaDoor
open Go.RowKit

theorem or03 : bits .or .i64 0 3 = 3 := by decide
theorem of_known : ofB 2 5 1 0 0 0 = true := by decide
theorem of_known3 : ofB 2 5 1 0 3 0 = true := by decide
theorem of_99 : ofB 99 0 0 0 0 0 = false := by decide
theorem names_known : namesB 2 5 1 0 0 0 = true := by decide
theorem with_known : withB 2 5 1 0 3 0 2 5 1 0 0 0 = true := by decide
theorem with_known2 : withB 2 5 1 0 0 0 2 5 1 0 3 0 = false := by decide

theorem weaken_known (w : World) : Calls Tryd.prog 8 #[.agg #[.int .i64 2, .int .i64 5, .int .i64 1, .int .i64 0, .int .i64 0, .int .i64 0]] w fun e w' =>
    e = .returned (.tuple #[.agg #[.int .i64 2, .int .i64 5, .int .i64 1, .int .i64 0, .int .i64 3, .int .i64 0], .int .i64 0]) ∧ Below w.heap.size w w' := by
  have h := weaken_2 5 1 0 0 0 w of_known
  rw [or03] at h
  exact h
theorem names_known_c (w : World) : Calls Tryd.prog 9 #[.agg #[.int .i64 2, .int .i64 5, .int .i64 1, .int .i64 0, .int .i64 0, .int .i64 0]] w fun e w' =>
    e = .returned (.tuple #[.int .i64 5, .bool true]) ∧ Below w.heap.size w w' := by
  have h := names_any 2 5 1 0 0 0 w
  rw [names_known] at h
  exact h
theorem check_99 (w : World) : Calls Tryd.prog 10 #[.agg #[.int .i64 99, .int .i64 0, .int .i64 0, .int .i64 0, .int .i64 0, .int .i64 0]] w fun e w' =>
    e = .returned (.int .i64 2) ∧ Below w.heap.size w w' := by
  have h := check_any 99 0 0 0 0 0 w
  rw [of_99] at h
  exact h
theorem within_known (w : World) : Calls Tryd.prog 11 #[.agg #[.int .i64 2, .int .i64 5, .int .i64 1, .int .i64 0, .int .i64 3, .int .i64 0], .agg #[.int .i64 2, .int .i64 5, .int .i64 1, .int .i64 0, .int .i64 0, .int .i64 0]] w fun e w' =>
    e = .returned (.bool true) ∧ Below w.heap.size w w' := by
  have h := within_yes 2 5 1 0 3 0 2 5 1 0 0 0 w of_known3 of_known
  rw [with_known] at h
  exact h
theorem within_known2 (w : World) : Calls Tryd.prog 11 #[.agg #[.int .i64 2, .int .i64 5, .int .i64 1, .int .i64 0, .int .i64 0, .int .i64 0], .agg #[.int .i64 2, .int .i64 5, .int .i64 1, .int .i64 0, .int .i64 3, .int .i64 0]] w fun e w' =>
    e = .returned (.bool false) ∧ Below w.heap.size w w' := by
  have h := within_yes 2 5 1 0 0 0 2 5 1 0 3 0 w of_known of_known3
  rw [with_known2] at h
  exact h

set_option maxHeartbeats 400000 in
theorem known_any (w : World) : Calls Tryd.prog 4 #[] w fun e w' => e = .returned (.bool true) ∧ Below w.heap.size w w' := by
  go_enter Tryd.func4, Tryd.ntmps4
  go_wp2_with fail
  refine (weaken_known _).mono ?_; rintro e w1 ⟨rfl, hb⟩
  have K1 : Blk w1 w.heap.size 30 (keyV 2 5 1 0 0 0) := (Blk.new w _ _).below hb (by simp)
  have hbb : Below w.heap.size w w1 := ((Below.refl _ _).alloc (Nat.le_refl _) _).trans (hb.mono (by simp))
  have J1 := K1.alloc (.cells (keyV 2 5 1 0 3 0) 30)
  have J2 := Blk.new w1 30 (keyV 2 5 1 0 3 0)
  have hbj := hbb.alloc (Nat.le_of_lt K1.lt) (.cells (keyV 2 5 1 0 3 0) 30)
  have hz := K1.lt
  obtain ⟨x0, x1, x2, x3, x4, x5⟩ := K1.key
  clear hb K1
  go_wp2_with fail
  refine (names_known_c _).mono ?_; rintro e w2 ⟨rfl, hb2⟩
  have I1 := J1.below hb2 J1.lt
  have I2 := J2.below hb2 J2.lt
  have hbi := hbj.trans (hb2.mono (by simp; omega))
  clear hb2 J1 J2 hbj hbb x0 x1 x2 x3 x4 x5
  have y4 := I2.cell_is 4 rfl
  go_wp2_with fail
  refine (check_99 _).mono ?_; rintro e w3 ⟨rfl, hb3⟩
  have L1 := I1.below hb3 I1.lt
  have L2 := I2.below hb3 I2.lt
  have hbl := hbi.trans (hb3.mono (by have := I1.lt; omega))
  clear hb3 I1 I2 hbi y4
  obtain ⟨x0, x1, x2, x3, x4, x5⟩ := L1.key
  obtain ⟨y0, y1, y2, y3, y4, y5⟩ := L2.key
  go_wp2_with fail
  refine (within_known _).mono ?_; rintro e w4 ⟨rfl, hb4⟩
  have M1 := L1.below hb4 L1.lt
  have M2 := L2.below hb4 L2.lt
  have hbm := hbl.trans (hb4.mono (by have := L1.lt; omega))
  clear hb4 L1 L2 hbl y0 y1 y2 y3 y4 y5 x0 x1 x2 x3 x4 x5
  obtain ⟨x0, x1, x2, x3, x4, x5⟩ := M1.key
  obtain ⟨y0, y1, y2, y3, y4, y5⟩ := M2.key
  go_wp2_with fail
  refine (within_known2 _).mono ?_; rintro e w5 ⟨rfl, hb5⟩
  have hbn := hbm.trans (hb5.mono (by have := M1.lt; omega))
  clear M1 M2 hb5
  go_wp2_with fail
  go_ret
  exact ⟨rfl, hbn⟩

end Go.Proofs.YtlfkfhdcljkhkaaDoor
