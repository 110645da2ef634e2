/-
  cmp.Compare of numbers, and keys.first of six numbers in a slice.
-/
import Derived.Test.YtlfkfhdcljkhkaaLawMany
namespace Go.Proofs.Ytlfkfhdcljkhkaa
open Go.RowKit

/-- -1, 0, 1 -/
def cmp3 (x y : Int) : Int := if x < y then -1 else if y < x then 1 else 0

theorem cmp3_lt {x y : Int} (h : x < y) : cmp3 x y = -1 := if_pos h
theorem cmp3_gt {x y : Int} (h : ¬ x < y) (h' : y < x) : cmp3 x y = 1 := by unfold cmp3; rw [if_neg h, if_pos h']
theorem cmp3_eq {x y : Int} (h : ¬ x < y) (h' : ¬ y < x) : cmp3 x y = 0 := by unfold cmp3; rw [if_neg h, if_neg h']

theorem nan_kind (x : Int) (w : World) : Calls Try.prog 43 #[.int .i64 x] w fun e w' => e = .returned (.bool false) ∧ w' = w := by
  go_enter Try.func43, Try.ntmps43
  go_wp2_with fail
  go_ret
  exact ⟨by simp, rfl⟩

theorem compare_kind (x y : Int) (w : World) : Calls Try.prog 34 #[.int .i64 x, .int .i64 y] w fun e w' => e = .returned (.int .i64 (cmp3 x y)) ∧ w' = w := by
  by_cases h : x < y
  · rw [cmp3_lt h]
    go_enter Try.func34, Try.ntmps34
    go_wp2_with (go_at_call 43; refine (nan_kind _ _).mono ?_; rintro e w' ⟨rfl, rfl⟩)
    go_ret
    exact ⟨rfl, rfl⟩
  · by_cases h' : y < x
    · rw [cmp3_gt h h']
      go_enter Try.func34, Try.ntmps34
      go_wp2_with (go_at_call 43; refine (nan_kind _ _).mono ?_; rintro e w' ⟨rfl, rfl⟩)
      go_ret
      exact ⟨rfl, rfl⟩
    · rw [cmp3_eq h h']
      go_enter Try.func34, Try.ntmps34
      go_wp2_with (go_at_call 43; refine (nan_kind _ _).mono ?_; rintro e w' ⟨rfl, rfl⟩)
      go_ret
      exact ⟨rfl, rfl⟩

theorem nan_int (x : Int) (w : World) : Calls Try.prog 44 #[.int .i64 x] w fun e w' => e = .returned (.bool false) ∧ w' = w := by
  go_enter Try.func44, Try.ntmps44
  go_wp2_with fail
  go_ret
  exact ⟨by simp, rfl⟩

theorem compare_int (x y : Int) (w : World) : Calls Try.prog 35 #[.int .i64 x, .int .i64 y] w fun e w' => e = .returned (.int .i64 (cmp3 x y)) ∧ w' = w := by
  by_cases h : x < y
  · rw [cmp3_lt h]
    go_enter Try.func35, Try.ntmps35
    go_wp2_with (go_at_call 44; refine (nan_int _ _).mono ?_; rintro e w' ⟨rfl, rfl⟩)
    go_ret
    exact ⟨rfl, rfl⟩
  · by_cases h' : y < x
    · rw [cmp3_gt h h']
      go_enter Try.func35, Try.ntmps35
      go_wp2_with (go_at_call 44; refine (nan_int _ _).mono ?_; rintro e w' ⟨rfl, rfl⟩)
      go_ret
      exact ⟨rfl, rfl⟩
    · rw [cmp3_eq h h']
      go_enter Try.func35, Try.ntmps35
      go_wp2_with (go_at_call 44; refine (nan_int _ _).mono ?_; rintro e w' ⟨rfl, rfl⟩)
      go_ret
      exact ⟨rfl, rfl⟩

theorem nan_i64 (x : Int) (w : World) : Calls Try.prog 45 #[.int .i64 x] w fun e w' => e = .returned (.bool false) ∧ w' = w := by
  go_enter Try.func45, Try.ntmps45
  go_wp2_with fail
  go_ret
  exact ⟨by simp, rfl⟩

theorem compare_i64 (x y : Int) (w : World) : Calls Try.prog 36 #[.int .i64 x, .int .i64 y] w fun e w' => e = .returned (.int .i64 (cmp3 x y)) ∧ w' = w := by
  by_cases h : x < y
  · rw [cmp3_lt h]
    go_enter Try.func36, Try.ntmps36
    go_wp2_with (go_at_call 45; refine (nan_i64 _ _).mono ?_; rintro e w' ⟨rfl, rfl⟩)
    go_ret
    exact ⟨rfl, rfl⟩
  · by_cases h' : y < x
    · rw [cmp3_gt h h']
      go_enter Try.func36, Try.ntmps36
      go_wp2_with (go_at_call 45; refine (nan_i64 _ _).mono ?_; rintro e w' ⟨rfl, rfl⟩)
      go_ret
      exact ⟨rfl, rfl⟩
    · rw [cmp3_eq h h']
      go_enter Try.func36, Try.ntmps36
      go_wp2_with (go_at_call 45; refine (nan_i64 _ _).mono ?_; rintro e w' ⟨rfl, rfl⟩)
      go_ret
      exact ⟨rfl, rfl⟩

theorem nan_rights (x : Int) (w : World) : Calls Try.prog 46 #[.int .i64 x] w fun e w' => e = .returned (.bool false) ∧ w' = w := by
  go_enter Try.func46, Try.ntmps46
  go_wp2_with fail
  go_ret
  exact ⟨by simp, rfl⟩

theorem compare_rights (x y : Int) (w : World) : Calls Try.prog 37 #[.int .i64 x, .int .i64 y] w fun e w' => e = .returned (.int .i64 (cmp3 x y)) ∧ w' = w := by
  by_cases h : x < y
  · rw [cmp3_lt h]
    go_enter Try.func37, Try.ntmps37
    go_wp2_with (go_at_call 46; refine (nan_rights _ _).mono ?_; rintro e w' ⟨rfl, rfl⟩)
    go_ret
    exact ⟨rfl, rfl⟩
  · by_cases h' : y < x
    · rw [cmp3_gt h h']
      go_enter Try.func37, Try.ntmps37
      go_wp2_with (go_at_call 46; refine (nan_rights _ _).mono ?_; rintro e w' ⟨rfl, rfl⟩)
      go_ret
      exact ⟨rfl, rfl⟩
    · rw [cmp3_eq h h']
      go_enter Try.func37, Try.ntmps37
      go_wp2_with (go_at_call 46; refine (nan_rights _ _).mono ?_; rintro e w' ⟨rfl, rfl⟩)
      go_ret
      exact ⟨rfl, rfl⟩

/-- the first of n numbers from i on that is not 0 -/
def fst (f : Nat → Int) : Nat → Nat → Int
  | 0, _ => 0
  | n + 1, i => if f i = 0 then fst f n (i + 1) else f i

theorem fst_zero {f : Nat → Int} {n i : Nat} (h : f i = 0) : fst f (n + 1) i = fst f n (i + 1) := if_pos h
theorem fst_here {f : Nat → Int} {n i : Nat} (h : ¬ f i = 0) : fst f (n + 1) i = f i := if_neg h

set_option maxHeartbeats 1000000 in
theorem first_any (b cap : Nat) (f : Nat → Int) (w : World) (hc : ∀ i, i < 6 → w.cell? ⟨b, i, none⟩ = some (.int .i64 (f i))) :
    Calls Try.prog 33 #[.slice (some ⟨b, 0, none⟩) 6 cap] w fun e w' => e = .returned (.int .i64 (fst f 6 0)) ∧ w' = w := by
  have HC := Lib.hid hc
  clear hc
  go_enter Try.func33, Try.ntmps33
  go_wp2_with fail
  go_loopw [8] (fun i wr => ∃ k : Nat, k ≤ 6 ∧ i = .int .i64 k ∧ wr = w ∧ Hid (fst f (6 - k) k = fst f 6 0)) (fun i _ => 6 - (intOf i).toNat)
  case atStart => exact ⟨0, Nat.zero_le _, rfl, rfl, Lib.hid rfl⟩
  case round =>
    obtain ⟨k, hk, rfl, rfl, hF⟩ := hrel
    by_cases hlt : k < 6
    · have c := HC.out k hlt
      have e6 : 6 - k = (6 - (k + 1)) + 1 := by omega
      have E6 := Lib.hid e6
      clear e6
      by_cases hz : f k = 0
      · have hN : Hid (fst f (6 - (k + 1)) (k + 1) = fst f 6 0) := Lib.hid (by rw [← hF.out, E6.out, fst_zero hz])
        rw [hz] at c
        clear hz
        go_wp2_with fail
        exact ⟨⟨k + 1, by omega, by go_num, by first | rfl | trivial, hN⟩, by simp [intOf]; omega⟩
      · have hN : Hid (f k = fst f 6 0) := Lib.hid (by rw [← hF.out, E6.out, fst_here hz])
        have hz1 : decide (f k = 0) = false := decide_eq_false hz
        go_wp2_with fail
        go_ret
        exact ⟨by rw [hN.out]; rfl, rfl⟩
    · have hk6 : k = 6 := by omega
      subst hk6
      go_wp2_with fail
      go_ret
      exact ⟨by rw [← hF.out]; rfl, rfl⟩

end Go.Proofs.Ytlfkfhdcljkhkaa
