/-
  Plain laws on bits of int64 and on whether a key may be; no program in sight.
-/
import Derived.Test.YtlfkfhdcljkhkaaDoorRef2
import Derived.Laws.BitsAllLaws
import Derived.Laws.BitsLemmas
namespace Go.Proofs.YtlfkfhdcljkhkaaDoor
open Go.RowKit

theorem ofInt_i64 (a : Nat) (ha : a < 9223372036854775808) : (BitVec.ofInt 64 (a : Int)).toNat = a := by
  rw [BitVec.ofInt_natCast, BitVec.toNat_ofNat]; exact Nat.mod_eq_of_lt (by omega)
theorem wrap_small (n : Nat) (h : n < 9223372036854775808) : IntKind.i64.wrap (n : Int) = (n : Int) := by
  rw [IntKind.wrap_i64]; omega
theorem and_nat (a b : Nat) (ha : a < 9223372036854775808) (hb : b < 9223372036854775808) : bits .and .i64 (a : Int) (b : Int) = ((a &&& b : Nat) : Int) := by
  have hx : a &&& b < 2 ^ 63 := Nat.and_lt_two_pow _ (by omega)
  show IntKind.i64.wrap ((BitVec.ofInt 64 (a : Int) &&& BitVec.ofInt 64 (b : Int)).toNat : Int) = _
  rw [BitVec.toNat_and, ofInt_i64 a ha, ofInt_i64 b hb]
  exact wrap_small _ (by omega)
theorem or_nat (a b : Nat) (ha : a < 9223372036854775808) (hb : b < 9223372036854775808) : bits .or .i64 (a : Int) (b : Int) = ((a ||| b : Nat) : Int) := by
  have hx : a ||| b < 2 ^ 63 := Nat.or_lt_two_pow (by omega) (by omega)
  show IntKind.i64.wrap ((BitVec.ofInt 64 (a : Int) ||| BitVec.ofInt 64 (b : Int)).toNat : Int) = _
  rw [BitVec.toNat_or, ofInt_i64 a ha, ofInt_i64 b hb]
  exact wrap_small _ (by omega)
theorem andNot_nat (a b : Nat) (ha : a < 9223372036854775808) (hb : b < 9223372036854775808) : bits .andNot .i64 (a : Int) (b : Int) = ((a &&& (2 ^ 64 - (b + 1)) : Nat) : Int) := by
  have hx : a &&& (2 ^ 64 - (b + 1)) ≤ a := Nat.and_le_left
  show IntKind.i64.wrap ((BitVec.ofInt 64 (a : Int) &&& ~~~BitVec.ofInt 64 (b : Int)).toNat : Int) = _
  rw [BitVec.toNat_and, BitVec.toNat_not, ofInt_i64 a ha, ofInt_i64 b hb]
  have e : 2 ^ 64 - 1 - b = 2 ^ 64 - (b + 1) := by omega
  rw [e]
  exact wrap_small _ (by omega)
theorem and_not_zero (a b : Nat) (ha : a < 2 ^ 64) (hb : b < 2 ^ 64) : a &&& (2 ^ 64 - (b + 1)) = 0 ↔ a &&& b = a := by
  constructor
  · intro h
    apply Nat.eq_of_testBit_eq
    intro i
    have h1 : (a &&& (2 ^ 64 - (b + 1))).testBit i = false := by rw [h]; simp
    rw [Nat.testBit_and, Nat.testBit_two_pow_sub_succ hb] at h1
    rw [Nat.testBit_and]
    cases h2 : a.testBit i
    · rfl
    · rw [h2] at h1
      have hi : i < 64 := by
        rcases Nat.lt_or_ge i 64 with h3 | h3
        · exact h3
        · rw [Nat.testBit_lt_two_pow (Nat.lt_of_lt_of_le ha (Nat.pow_le_pow_right (by omega) h3))] at h2; cases h2
      simpa [hi] using h1
  · intro h
    apply Nat.eq_of_testBit_eq
    intro i
    rw [Nat.testBit_and, Nat.testBit_two_pow_sub_succ hb, Nat.zero_testBit]
    have h1 : (a &&& b).testBit i = a.testBit i := by rw [h]
    rw [Nat.testBit_and] at h1
    cases h2 : a.testBit i
    · rfl
    · rw [h2] at h1
      simp at h1
      simp [h1]
theorem andNot_sub (a b : Int) (ha : 0 ≤ a) (ha1 : a < 9223372036854775808) (hb : 0 ≤ b) (hb1 : b < 9223372036854775808) : (bits .andNot .i64 a b = 0) ↔ a.toNat &&& b.toNat = a.toNat := by
  obtain ⟨A, rfl⟩ := Int.eq_ofNat_of_zero_le ha
  obtain ⟨B, rfl⟩ := Int.eq_ofNat_of_zero_le hb
  rw [andNot_nat A B (by omega) (by omega)]
  simp only [Int.toNat_natCast]
  rw [← and_not_zero A B (by omega) (by omega)]
  omega
theorem andNot_7 (a : Int) (ha : 0 ≤ a) (ha1 : a < 9223372036854775808) : (bits .andNot .i64 a 7 = 0) ↔ a ≤ 7 := by
  rw [andNot_sub a 7 ha ha1 (by omega) (by omega)]
  have e : a.toNat &&& (7 : Int).toNat = a.toNat % 8 := Nat.and_two_pow_sub_one_eq_mod a.toNat 3
  rw [e]; omega
theorem andNot_1 (a : Int) (ha : 0 ≤ a) (ha1 : a < 9223372036854775808) : (bits .andNot .i64 a 1 = 0) ↔ a ≤ 1 := by
  rw [andNot_sub a 1 ha ha1 (by omega) (by omega)]
  have e : a.toNat &&& (1 : Int).toNat = a.toNat % 2 := Nat.and_two_pow_sub_one_eq_mod a.toNat 1
  rw [e]; omega
theorem andNot_0 (a : Int) (ha : 0 ≤ a) (ha1 : a < 9223372036854775808) : (bits .andNot .i64 a 0 = 0) ↔ a ≤ 0 := by
  rw [andNot_sub a 0 ha ha1 (by omega) (by omega)]
  have e : a.toNat &&& (0 : Int).toNat = 0 := Nat.and_zero _
  rw [e]; omega
theorem andNot_most (k r : Int) (ha : 0 ≤ r) (ha1 : r < 9223372036854775808) : (bits .andNot .i64 r (mostOf k) = 0) ↔ r ≤ mostOf k := by
  unfold mostOf
  split
  · exact andNot_7 r ha ha1
  · split
    · exact andNot_1 r ha ha1
    · exact andNot_0 r ha ha1

/-- what the reference tells of a key is what the program tells -/
theorem check_same (k o c a r v : Int) (hr : r < 9223372036854775808) :
    (if t1B k r v then (2 : Int) else if t2B k o c then 2 else if t3B k a then 2 else 0) = errB (ofB k o c a r v) := by
  have key : ofB k o c a r v = (!t1B k r v && !t2B k o c && !t3B k a) := by
    by_cases h0 : 0 ≤ r
    · have hm : (bits .andNot .i64 r (mostOf k) == 0) = decide (r ≤ mostOf k) := by
        rw [Bool.eq_iff_iff]; simpa using andNot_most k r h0 hr
      unfold ofB t1B t2B t3B withinB
      rw [hm]
      generalize mostOf k = m
      cases oidB k <;> cases callB k <;> cases valueB k <;> (rw [Bool.eq_iff_iff]; simp; omega)
    · unfold ofB t1B
      rw [decide_eq_false h0, decide_eq_true (by omega : r < 0)]
      simp
  rw [key]
  cases t1B k r v <;> cases t2B k o c <;> cases t3B k a <;> rfl

theorem rcheck_any (k o c a r v : Int) (w : World) (hr : r < 9223372036854775808) :
    Calls Tryd.prog 6 #[.agg #[.int .i64 k, .int .i64 o, .int .i64 c, .int .i64 a, .int .i64 r, .int .i64 v]] w fun e w' =>
      e = .returned (.int .i64 (errB (ofB k o c a r v))) ∧ Below w.heap.size w w' := by
  rw [← check_same k o c a r v hr]
  exact rcheck_raw k o c a r v w

end Go.Proofs.YtlfkfhdcljkhkaaDoor
