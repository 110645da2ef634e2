/-
  The contracts of the reference's with, Names, Wants, for all keys that are int64s.
-/
import Derived.Test.YtlfkfhdcljkhkaaBits
namespace Go.Proofs.Ytlfkfhdcljkhkaa
open Go.RowKit

def bitw (r m b : Int) : Int := if r / b % 2 = 1 ∨ m / b % 2 = 1 then b else 0
def partW (r m : Int) : Nat → Int
  | 0 => 0
  | 1 => bitw r m 1
  | 2 => bitw r m 1 + bitw r m 2
  | _ => bitw r m 1 + bitw r m 2 + bitw r m 4
def powW : Nat → Int
  | 0 => 1
  | 1 => 2
  | 2 => 4
  | _ => 8
theorem bitw_bd (r m b : Int) (h : 0 ≤ b) : 0 ≤ bitw r m b ∧ bitw r m b ≤ b := by unfold bitw; split <;> omega

set_option maxHeartbeats 400000 in
theorem rwith_any (r m : Int) (w : World) (hr : 0 ≤ r) (hr1 : r ≤ 7) (hm : 0 ≤ m) (hm1 : m ≤ 7) :
    Calls Try.prog 30 #[.int .i64 r, .int .i64 m] w fun e w' => e = .returned (.int .i64 (partW r m 3)) ∧ w = w' := by
  have b1 := bitw_bd r m 1 (by omega)
  have b2 := bitw_bd r m 2 (by omega)
  have b4 := bitw_bd r m 4 (by omega)
  go_enter Try.func30, Try.ntmps30
  go_wp2
  go_loop [5, 6] (fun u b => ∃ j : Nat, j ≤ 3 ∧ b = .int .i64 (powW j) ∧ u = .int .i64 (partW r m j)) (fun _ b => 8 - (intOf b).toNat)
  case atStart => exact ⟨0, by omega, rfl, rfl⟩
  case round =>
    obtain ⟨j, hj, rfl, rfl⟩ := hrel
    have hj' : j = 0 ∨ j = 1 ∨ j = 2 ∨ j = 3 := by omega
    rcases hj' with rfl | rfl | rfl | rfl
    · simp only [show powW 0 = 1 from rfl, show partW r m 0 = 0 from rfl]
      go_wp2
      all_goals refine ⟨⟨1, by omega, rfl, ?_⟩, by simp [intOf]⟩
      all_goals go_light
      all_goals simp [partW]
      all_goals ((try simp only [beq_iff_eq, beq_eq_false_iff_ne] at *); simp only [bitw]; simp; omega)
    · simp only [show powW 1 = 2 from rfl, show partW r m 1 = bitw r m 1 from rfl]
      go_wp2
      all_goals refine ⟨⟨2, by omega, rfl, ?_⟩, by simp [intOf]⟩
      all_goals go_light
      all_goals simp [partW]
      all_goals ((try simp only [beq_iff_eq, beq_eq_false_iff_ne] at *); simp only [bitw]; simp; omega)
    · simp only [show powW 2 = 4 from rfl, show partW r m 2 = bitw r m 1 + bitw r m 2 from rfl]
      go_wp2
      all_goals refine ⟨⟨3, by omega, rfl, ?_⟩, by simp [intOf]⟩
      all_goals go_light
      all_goals simp [partW]
      all_goals ((try simp only [beq_iff_eq, beq_eq_false_iff_ne] at *); simp only [bitw]; simp; omega)
    · simp only [show powW 3 = 8 from rfl, show partW r m 3 = bitw r m 1 + bitw r m 2 + bitw r m 4 from rfl]
      go_wp2
      go_ret
      exact ⟨rfl, rfl⟩

theorem withW_or (r m : Int) (hr : 0 ≤ r) (hr7 : r ≤ 7) (hm : 0 ≤ m) (hm7 : m ≤ 7) : partW r m 3 = bits .or .i64 r m := by
  obtain ⟨R, rfl⟩ := Int.eq_ofNat_of_zero_le hr
  obtain ⟨M, rfl⟩ := Int.eq_ofNat_of_zero_le hm
  rw [or_nat R M (by omega) (by omega)]
  have h : ∀ a : Fin 8, ∀ b : Fin 8, partW (a.val : Int) (b.val : Int) 3 = ((a.val ||| b.val : Nat) : Int) := by decide
  exact h ⟨R, by omega⟩ ⟨M, by omega⟩

theorem withW_andNot (r m : Int) (hr : 0 ≤ r) (hr7 : r ≤ 7) (hm : 0 ≤ m) (hm7 : m ≤ 7) : (partW r m 3 == r) = (bits .andNot .i64 m r == 0) := by
  have h : ∀ a : Fin 8, ∀ b : Fin 8, (partW (a.val : Int) (b.val : Int) 3 == (a.val : Int)) = decide (b.val &&& a.val = b.val) := by decide
  obtain ⟨R, rfl⟩ := Int.eq_ofNat_of_zero_le hr
  obtain ⟨M, rfl⟩ := Int.eq_ofNat_of_zero_le hm
  rw [h ⟨R, by omega⟩ ⟨M, by omega⟩, Bool.eq_iff_iff]
  have := andNot_sub (M : Int) (R : Int) (by omega) (by omega) (by omega) (by omega)
  simp only [Int.toNat_natCast] at this
  simp [this]

theorem rights_bd {k o c a r v : Int} (h : ofB k o c a r v = true) (hr : r < 9223372036854775808) : 0 ≤ r ∧ r ≤ mostOf k := by
  unfold ofB at h
  simp only [Bool.and_eq_true, decide_eq_true_eq, beq_iff_eq] at h
  obtain ⟨⟨⟨_, h1⟩, h2⟩, _⟩ := h
  exact ⟨h1, (andNot_most k r h1 hr).1 h2⟩

theorem names_nonneg {k o c a r v : Int} (h : namesB k o c a r v = true) : 0 ≤ o := by
  unfold namesB ofB withinB at h
  rw [Bool.and_eq_true] at h
  obtain ⟨h1, h2⟩ := h
  rw [h2] at h1
  simp at h1
  omega

set_option maxHeartbeats 400000 in
theorem rnames_any (k o c a r v : Int) (w : World) (hr : r < 9223372036854775808) :
    Calls Try.prog 16 #[.agg #[.int .i64 k, .int .i64 o, .int .i64 c, .int .i64 a, .int .i64 r, .int .i64 v]] w fun e w' =>
      e = .returned (.int .i64 (if namesB k o c a r v then o else -1)) ∧ Below w.heap.size w w' := by
  have hc := fun W => rcheck_any k o c a r v W hr
  unfold namesB
  have HC := Lib.hid hc
  clear hc hr
  cases hB : ofB k o c a r v <;> cases hO : oidB k
  all_goals
    go_enter Try.func16, Try.ntmps16
    go_wp2_with fail
    refine (names4_any _ _).mono ?_; rintro e w1 ⟨rfl, rfl⟩
    go_wp2_with fail
    refine (HC.out _).mono ?_; rintro e w1 ⟨rfl, hb⟩
    have K1 : Blk w1 w.heap.size 25 (keyV k o c a r v) := (Blk.new w _ _).below hb (by simp)
    have k1 := K1.cell_is 1 rfl
    have hbb : Below w.heap.size w w1 := ((Below.refl _ _).alloc (Nat.le_refl _) _).trans (hb.mono (by simp))
    clear hb K1
    rw [hB]
    have he : errB true = 0 := rfl
    have he2 : errB false = 2 := rfl
    go_wp2_with fail
    go_ret
    exact ⟨rfl, hbb⟩

set_option maxHeartbeats 400000 in
theorem rwants_any (k o c a r v : Int) (w : World) (hr : r < 9223372036854775808) :
    Calls Try.prog 19 #[.agg #[.int .i64 k, .int .i64 o, .int .i64 c, .int .i64 a, .int .i64 r, .int .i64 v]] w fun e w' =>
      e = .returned (.int .i64 (if ofB k o c a r v then wantsOf k else 0)) ∧ Below w.heap.size w w' := by
  have HC := Lib.hid (fun W => rnames_any k o c a r v W hr)
  clear hr
  cases hN : namesB k o c a r v
  · have hfin : (if ofB k o c a r v then wantsOf k else 0) = 0 := by
      unfold namesB at hN
      cases hB : ofB k o c a r v
      · rfl
      · rw [hB] at hN
        simp at hN
        have h3 : k ≠ 3 := by rintro rfl; simp [oidB] at hN
        simp [wantsOf, hN, h3]
    rw [hfin]
    go_enter Try.func19, Try.ntmps19
    go_wp2_with fail
    refine (HC.out _).mono ?_; rintro e w1 ⟨rfl, hb⟩
    have hbb : Below w.heap.size w w1 := ((Below.refl _ _).alloc (Nat.le_refl _) _).trans (hb.mono (by simp))
    clear hb
    rw [hN]
    go_wp2_with fail
    go_ret
    exact ⟨rfl, hbb⟩
  · have ho := names_nonneg hN
    have hfin : (if ofB k o c a r v then wantsOf k else 0) = if k = 3 then 2 else 1 := by
      unfold namesB at hN
      rw [Bool.and_eq_true] at hN
      rw [hN.1]
      simp [wantsOf, hN.2]
    rw [hfin]
    by_cases h3 : k = 3
    · subst h3
      go_enter Try.func19, Try.ntmps19
      go_wp2_with fail
      refine (HC.out _).mono ?_; rintro e w1 ⟨rfl, hb⟩
      have K1 : Blk w1 w.heap.size 25 (keyV 3 o c a r v) := (Blk.new w _ _).below hb (by simp)
      have k0 := K1.cell_is 0 rfl
      have hbb : Below w.heap.size w w1 := ((Below.refl _ _).alloc (Nat.le_refl _) _).trans (hb.mono (by simp))
      clear hb K1
      rw [hN]
      go_wp2_with fail
      go_ret
      exact ⟨rfl, hbb⟩
    · go_enter Try.func19, Try.ntmps19
      go_wp2_with fail
      refine (HC.out _).mono ?_; rintro e w1 ⟨rfl, hb⟩
      have K1 : Blk w1 w.heap.size 25 (keyV k o c a r v) := (Blk.new w _ _).below hb (by simp)
      have k0 := K1.cell_is 0 rfl
      have hbb : Below w.heap.size w w1 := ((Below.refl _ _).alloc (Nat.le_refl _) _).trans (hb.mono (by simp))
      clear hb K1
      rw [hN]
      go_wp2_with fail
      go_ret
      exact ⟨by simp, hbb⟩

end Go.Proofs.Ytlfkfhdcljkhkaa
