/-
  The contracts of keys.Within and of the reference's Within: the same answer, for all keys that are int64s.
-/
import Derived.Test.YtlfkfhdcljkhkaaRef4
namespace Go.Proofs.Ytlfkfhdcljkhkaa
open Go.RowKit

theorem withB_no (k o c a r v k' o' c' a' r' v' : Int) (h : ofB k o c a r v = false ∨ ofB k' o' c' a' r' v' = false) : withB k o c a r v k' o' c' a' r' v' = false := by
  unfold withB
  rcases h with h | h <;> rw [h] <;> simp

theorem within_any2 (k o c a r v k' o' c' a' r' v' : Int) (w : World) :
    Calls Try.prog 11 #[.agg #[.int .i64 k, .int .i64 o, .int .i64 c, .int .i64 a, .int .i64 r, .int .i64 v], .agg #[.int .i64 k', .int .i64 o', .int .i64 c', .int .i64 a', .int .i64 r', .int .i64 v']] w fun e w' =>
      e = .returned (.bool (withB k o c a r v k' o' c' a' r' v')) ∧ Below w.heap.size w w' := by
  cases hA : ofB k o c a r v
  · rw [withB_no _ _ _ _ _ _ _ _ _ _ _ _ (.inl hA)]; exact within_no _ _ _ _ _ _ _ _ _ _ _ _ w (.inl hA)
  · cases hB : ofB k' o' c' a' r' v'
    · rw [withB_no _ _ _ _ _ _ _ _ _ _ _ _ (.inr hB)]; exact within_no _ _ _ _ _ _ _ _ _ _ _ _ w (.inr hB)
    · exact within_yes _ _ _ _ _ _ _ _ _ _ _ _ w hA hB

theorem call_zero {k o c a r v : Int} (h : ofB k o c a r v = true) (hk : callB k = false) : a = 0 := by
  unfold ofB withinB at h
  rw [hk] at h
  simp at h
  omega
theorem value_zero {k o c a r v : Int} (h : ofB k o c a r v = true) (hk : valueB k = false) : v = 0 := by
  unfold ofB at h
  rw [hk] at h
  simp at h
  omega

theorem rwithin_yes (k o c a r v k' o' c' a' r' v' : Int) (w : World) (hr : r < 9223372036854775808) (hr' : r' < 9223372036854775808) (hA : ofB k o c a r v = true) (hB : ofB k' o' c' a' r' v' = true) :
    Calls Try.prog 12 #[.agg #[.int .i64 k, .int .i64 o, .int .i64 c, .int .i64 a, .int .i64 r, .int .i64 v], .agg #[.int .i64 k', .int .i64 o', .int .i64 c', .int .i64 a', .int .i64 r', .int .i64 v']] w fun e w' =>
      e = .returned (.bool (withB k o c a r v k' o' c' a' r' v')) ∧ Below w.heap.size w w' := by
  by_cases h0 : k = 0
  · subst h0; exact rwithin_0 _ _ _ _ _ _ _ _ _ _ _ w hr hr' hA hB
  by_cases e0 : k = k'
  · subst e0
    by_cases e1 : o = o'
    · subst e1
      by_cases e2 : c = c'
      · subst e2
        by_cases h2 : k = 2
        · subst h2
          obtain rfl : a = 0 := call_zero hA rfl
          obtain rfl : a' = 0 := call_zero hB rfl
          obtain rfl : v = 0 := value_zero hA rfl
          obtain rfl : v' = 0 := value_zero hB rfl
          by_cases e4 : r = r'
          · subst e4; exact rwithin_same _ _ _ _ _ _ w h0 hr hr' hA hB
          · exact rwithin_2_4 _ _ _ _ _ _ _ w (by simpa using e4) hr hr' hA hB
        by_cases h3 : k = 3
        · subst h3
          obtain rfl : a = 0 := call_zero hA rfl
          obtain rfl : a' = 0 := call_zero hB rfl
          obtain rfl : v = 0 := value_zero hA rfl
          obtain rfl : v' = 0 := value_zero hB rfl
          by_cases e4 : r = r'
          · subst e4; exact rwithin_same _ _ _ _ _ _ w h0 hr hr' hA hB
          · exact rwithin_3_4 _ _ _ _ _ _ _ w (by simpa using e4) hr hr' hA hB
        by_cases e3 : a = a'
        · subst e3
          by_cases e4 : r = r'
          · subst e4
            by_cases e5 : v = v'
            · subst e5; exact rwithin_same _ _ _ _ _ _ w h0 hr hr' hA hB
            · exact rwithin_k_5 _ _ _ _ _ _ _ w h0 (by simpa using h2) (by simpa using h3) (by simpa using e5) hr hr' hA hB
          · exact rwithin_k_4 _ _ _ _ _ _ _ _ w h0 (by simpa using h2) (by simpa using h3) (by simpa using e4) hr hr' hA hB
        · exact rwithin_k_3 _ _ _ _ _ _ _ _ _ w h0 (by simpa using h2) (by simpa using h3) (by simpa using e3) hr hr' hA hB
      · by_cases h2 : k = 2
        · subst h2; exact rwithin_2_2 _ _ _ _ _ _ _ _ _ w (by simpa using e2) hr hr' hA hB
        by_cases h3 : k = 3
        · subst h3; exact rwithin_3_2 _ _ _ _ _ _ _ _ _ w (by simpa using e2) hr hr' hA hB
        exact rwithin_k_2 _ _ _ _ _ _ _ _ _ _ w h0 (by simpa using h2) (by simpa using h3) (by simpa using e2) hr hr' hA hB
    · by_cases h2 : k = 2
      · subst h2; exact rwithin_2_1 _ _ _ _ _ _ _ _ _ _ w (by simpa using e1) hr hr' hA hB
      by_cases h3 : k = 3
      · subst h3; exact rwithin_3_1 _ _ _ _ _ _ _ _ _ _ w (by simpa using e1) hr hr' hA hB
      exact rwithin_k_1 _ _ _ _ _ _ _ _ _ _ _ w h0 (by simpa using h2) (by simpa using h3) (by simpa using e1) hr hr' hA hB
  · by_cases h2 : k = 2
    · subst h2; exact rwithin_2_0 _ _ _ _ _ _ _ _ _ _ _ w (by simpa using e0) hr hr' hA hB
    by_cases h3 : k = 3
    · subst h3; exact rwithin_3_0 _ _ _ _ _ _ _ _ _ _ _ w (by simpa using e0) hr hr' hA hB
    exact rwithin_k_0 _ _ _ _ _ _ _ _ _ _ _ _ w h0 (by simpa using h2) (by simpa using h3) (by simpa using e0) hr hr' hA hB

theorem rwithin_any (k o c a r v k' o' c' a' r' v' : Int) (w : World) (hr : r < 9223372036854775808) (hr' : r' < 9223372036854775808) :
    Calls Try.prog 12 #[.agg #[.int .i64 k, .int .i64 o, .int .i64 c, .int .i64 a, .int .i64 r, .int .i64 v], .agg #[.int .i64 k', .int .i64 o', .int .i64 c', .int .i64 a', .int .i64 r', .int .i64 v']] w fun e w' =>
      e = .returned (.bool (withB k o c a r v k' o' c' a' r' v')) ∧ Below w.heap.size w w' := by
  cases hA : ofB k o c a r v
  · rw [withB_no _ _ _ _ _ _ _ _ _ _ _ _ (.inl hA)]; exact rwithin_no _ _ _ _ _ _ _ _ _ _ _ _ w hr hr' (.inl hA)
  · cases hB : ofB k' o' c' a' r' v'
    · rw [withB_no _ _ _ _ _ _ _ _ _ _ _ _ (.inr hB)]; exact rwithin_no _ _ _ _ _ _ _ _ _ _ _ _ w hr hr' (.inr hB)
    · exact rwithin_yes _ _ _ _ _ _ _ _ _ _ _ _ w hr hr' hA hB

end Go.Proofs.Ytlfkfhdcljkhkaa
