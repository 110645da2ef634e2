/-
  The contracts of the reference's Weaken and Less, for keys that may be.
-/
import Derived.Test.YtlfkfhdcljkhkaaOrdMem
namespace Go.Proofs.Ytlfkfhdcljkhkaa
open Go.RowKit

theorem rwith_or (r m : Int) (w : World) (hr : 0 ≤ r) (hr1 : r ≤ 7) (hm : 0 ≤ m) (hm1 : m ≤ 7) :
    Calls Try.prog 30 #[.int .i64 r, .int .i64 m] w fun e w' => e = .returned (.int .i64 (orR r m)) ∧ w = w' := by
  have h := rwith_any r m w hr hr1 hm hm1
  rw [withW_or r m hr hr1 hm hm1] at h
  exact h

set_option maxHeartbeats 400000 in
theorem rweak_2 (o c a r v : Int) (w : World) (h0 : 0 ≤ r) (h7 : r ≤ 7) :
    Calls Try.prog 22 #[.agg #[.int .i64 2, .int .i64 o, .int .i64 c, .int .i64 a, .int .i64 r, .int .i64 v]] w fun e w' => e = .returned (.agg #[.int .i64 2, .int .i64 o, .int .i64 c, .int .i64 a, .int .i64 (orR r 3), .int .i64 v]) ∧ Below w.heap.size w w' := by
  go_enter Try.func22, Try.ntmps22
  go_wp2_with (go_at_call 30; refine (rwith_or _ _ _ h0 h7 (by omega) (by omega)).mono ?_; rintro e w1 ⟨rfl, rfl⟩)
  exact bodyPost_ret (v := .agg #[.int .i64 2, .int .i64 o, .int .i64 c, .int .i64 a, .int .i64 (orR r 3), .int .i64 v]) (by simp [results, Try.results22, go_sem]) rfl ⟨rfl, ((Below.refl _ _).alloc (Nat.le_refl _) _).alloc (by simp) _⟩

set_option maxHeartbeats 400000 in
theorem rweak_3 (o c a r v : Int) (w : World) :
    Calls Try.prog 22 #[.agg #[.int .i64 3, .int .i64 o, .int .i64 c, .int .i64 a, .int .i64 r, .int .i64 v]] w fun e w' => e = .returned (.agg #[.int .i64 3, .int .i64 o, .int .i64 c, .int .i64 a, .int .i64 1, .int .i64 v]) ∧ Below w.heap.size w w' := by
  go_enter Try.func22, Try.ntmps22
  go_wp2_with fail
  exact bodyPost_ret (v := .agg #[.int .i64 3, .int .i64 o, .int .i64 c, .int .i64 a, .int .i64 1, .int .i64 v]) (by simp [results, Try.results22, go_sem]) rfl ⟨rfl, ((Below.refl _ _).alloc (Nat.le_refl _) _).alloc (by simp) _⟩

set_option maxHeartbeats 400000 in
theorem rweak_1 (o c a r v : Int) (w : World) :
    Calls Try.prog 22 #[.agg #[.int .i64 1, .int .i64 o, .int .i64 c, .int .i64 a, .int .i64 r, .int .i64 v]] w fun e w' => e = .returned (.agg #[.int .i64 1, .int .i64 o, .int .i64 c, .int .i64 a, .int .i64 r, .int .i64 v]) ∧ Below w.heap.size w w' := by
  go_enter Try.func22, Try.ntmps22
  go_wp2_with fail
  exact bodyPost_ret (v := .agg #[.int .i64 1, .int .i64 o, .int .i64 c, .int .i64 a, .int .i64 r, .int .i64 v]) (by simp [results, Try.results22, go_sem]) rfl ⟨rfl, ((Below.refl _ _).alloc (Nat.le_refl _) _).alloc (by simp) _⟩

set_option maxHeartbeats 400000 in
theorem rweak_8 (o c a r v : Int) (w : World) :
    Calls Try.prog 22 #[.agg #[.int .i64 8, .int .i64 o, .int .i64 c, .int .i64 a, .int .i64 r, .int .i64 v]] w fun e w' => e = .returned (.agg #[.int .i64 8, .int .i64 o, .int .i64 c, .int .i64 a, .int .i64 r, .int .i64 v]) ∧ Below w.heap.size w w' := by
  go_enter Try.func22, Try.ntmps22
  go_wp2_with fail
  exact bodyPost_ret (v := .agg #[.int .i64 8, .int .i64 o, .int .i64 c, .int .i64 a, .int .i64 r, .int .i64 v]) (by simp [results, Try.results22, go_sem]) rfl ⟨rfl, ((Below.refl _ _).alloc (Nat.le_refl _) _).alloc (by simp) _⟩

set_option maxHeartbeats 400000 in
theorem rweak_n (k o c a r v : Int) (w : World) (hk1 : (k == 1) = false) (hk2 : (k == 2) = false) (hk3 : (k == 3) = false) (hk8 : (k == 8) = false) :
    Calls Try.prog 22 #[.agg #[.int .i64 k, .int .i64 o, .int .i64 c, .int .i64 a, .int .i64 r, .int .i64 v]] w fun e w' => e = .returned (.agg #[.int .i64 0, .int .i64 0, .int .i64 0, .int .i64 0, .int .i64 0, .int .i64 0]) ∧ Below w.heap.size w w' := by
  go_enter Try.func22, Try.ntmps22
  go_wp2_with fail
  exact bodyPost_ret (v := .agg #[.int .i64 0, .int .i64 0, .int .i64 0, .int .i64 0, .int .i64 0, .int .i64 0]) (by simp [results, Try.results22, go_sem]) rfl ⟨rfl, ((Below.refl _ _).alloc (Nat.le_refl _) _).alloc (by simp) _⟩

set_option maxHeartbeats 400000 in
theorem rless_2 (o c a r v x : Int) (w : World) (h0 : 0 ≤ r) (h7 : r ≤ 7) (x0 : 0 ≤ x) (x7 : x ≤ 7) :
    Calls Try.prog 23 #[.agg #[.int .i64 2, .int .i64 o, .int .i64 c, .int .i64 a, .int .i64 r, .int .i64 v], .int .i64 x] w fun e w' => e = .returned (.agg #[.int .i64 2, .int .i64 o, .int .i64 c, .int .i64 a, .int .i64 (orR r x), .int .i64 v]) ∧ Below w.heap.size w w' := by
  go_enter Try.func23, Try.ntmps23
  go_wp2_with (go_at_call 30; refine (rwith_or _ _ _ h0 h7 (by omega) (by omega)).mono ?_; rintro e w1 ⟨rfl, rfl⟩)
  exact bodyPost_ret (v := .agg #[.int .i64 2, .int .i64 o, .int .i64 c, .int .i64 a, .int .i64 (orR r x), .int .i64 v]) (by simp [results, Try.results23, go_sem]) rfl ⟨rfl, ((Below.refl _ _).alloc (Nat.le_refl _) _).alloc (by simp) _⟩

set_option maxHeartbeats 400000 in
theorem rless_3 (o c a r v x : Int) (w : World) (h0 : 0 ≤ r) (h7 : r ≤ 7) (x0 : 0 ≤ x) (x7 : x ≤ 7) :
    Calls Try.prog 23 #[.agg #[.int .i64 3, .int .i64 o, .int .i64 c, .int .i64 a, .int .i64 r, .int .i64 v], .int .i64 x] w fun e w' => e = .returned (.agg #[.int .i64 3, .int .i64 o, .int .i64 c, .int .i64 a, .int .i64 (orR r (x % 2)), .int .i64 v]) ∧ Below w.heap.size w w' := by
  go_enter Try.func23, Try.ntmps23
  go_wp2_with (go_at_call 30; refine (rwith_or _ _ _ h0 h7 (by omega) (by omega)).mono ?_; rintro e w1 ⟨rfl, rfl⟩)
  exact bodyPost_ret (v := .agg #[.int .i64 3, .int .i64 o, .int .i64 c, .int .i64 a, .int .i64 (orR r (x % 2)), .int .i64 v]) (by simp [results, Try.results23, go_sem]) rfl ⟨rfl, ((Below.refl _ _).alloc (Nat.le_refl _) _).alloc (by simp) _⟩

set_option maxHeartbeats 400000 in
theorem rless_n (k o c a r v x : Int) (w : World) (hk2 : (k == 2) = false) (hk3 : (k == 3) = false) :
    Calls Try.prog 23 #[.agg #[.int .i64 k, .int .i64 o, .int .i64 c, .int .i64 a, .int .i64 r, .int .i64 v], .int .i64 x] w fun e w' => e = .returned (.agg #[.int .i64 k, .int .i64 o, .int .i64 c, .int .i64 a, .int .i64 r, .int .i64 v]) ∧ Below w.heap.size w w' := by
  go_enter Try.func23, Try.ntmps23
  go_wp2_with fail
  exact bodyPost_ret (v := .agg #[.int .i64 k, .int .i64 o, .int .i64 c, .int .i64 a, .int .i64 r, .int .i64 v]) (by simp [results, Try.results23, go_sem]) rfl ⟨rfl, ((Below.refl _ _).alloc (Nat.le_refl _) _).alloc (by simp) _⟩

theorem and_7 {x : Int} (h0 : 0 ≤ x) (h7 : x ≤ 7) : andR x 7 = x := by
  obtain ⟨f, rfl⟩ := fin_of h0 h7
  have h : ∀ a : Fin 8, andR (a.val : Int) 7 = (a.val : Int) := by decide +kernel
  exact h f
theorem and_1 {x : Int} (h0 : 0 ≤ x) (h7 : x ≤ 7) : andR x 1 = x % 2 := by
  obtain ⟨f, rfl⟩ := fin_of h0 h7
  have h : ∀ a : Fin 8, andR (a.val : Int) 1 = (a.val : Int) % 2 := by decide +kernel
  exact h f
theorem and_0 {x : Int} (h0 : 0 ≤ x) (h7 : x ≤ 7) : andR x 0 = 0 := by
  obtain ⟨f, rfl⟩ := fin_of h0 h7
  have h : ∀ a : Fin 8, andR (a.val : Int) 0 = 0 := by decide +kernel
  exact h f

theorem rweakK (z : Key6) (w : World) (h : ofK z = true) (hr : z.r < 9223372036854775808) :
    Calls Try.prog 22 #[aggK z] w fun e w' => e = .returned (aggK (weakK z)) ∧ Below w.heap.size w w' := by
  obtain ⟨h0, h1⟩ := rights_bd h hr
  have hm := most_le z.k
  obtain ⟨k, o, c, a, r, v⟩ := z
  simp only at h0 h1 hm
  by_cases h2 : k = 2
  · subst h2; exact rweak_2 o c a r v w h0 (by omega)
  by_cases h3 : k = 3
  · subst h3
    have e : orR r 1 = 1 := by
      have : r = 0 ∨ r = 1 := by simp [mostOf] at h1; omega
      rcases this with rfl | rfl <;> decide
    have := rweak_3 o c a r v w
    rw [← e] at this
    exact this
  by_cases h1 : k = 1
  · subst h1; exact rweak_1 o c a r v w
  by_cases h8 : k = 8
  · subst h8; exact rweak_8 o c a r v w
  have e : ∀ x, wsel k x = 0 := fun x => by unfold wsel; rw [if_neg (by omega)]
  have er : wrig k r = 0 := by unfold wrig; rw [if_neg h2, if_neg h3, e]
  have hw : weakK ⟨k, o, c, a, r, v⟩ = ⟨0, 0, 0, 0, 0, 0⟩ := by unfold weakK; simp only [e, er]
  rw [hw]
  exact rweak_n k o c a r v w (by simpa using h1) (by simpa using h2) (by simpa using h3) (by simpa using h8)

theorem rlessK (z : Key6) (x : Int) (w : World) (h : ofK z = true) (hr : z.r < 9223372036854775808) (x0 : 0 ≤ x) (x7 : x ≤ 7) :
    Calls Try.prog 23 #[aggK z, .int .i64 x] w fun e w' => e = .returned (aggK (lessK z x)) ∧ Below w.heap.size w w' := by
  obtain ⟨h0, h1⟩ := rights_bd h hr
  have hm := most_le z.k
  obtain ⟨k, o, c, a, r, v⟩ := z
  simp only at h0 h1 hm
  by_cases h2 : k = 2
  · subst h2
    have e : lessK ⟨2, o, c, a, r, v⟩ x = ⟨2, o, c, a, orR r x, v⟩ := by
      unfold lessK; simp only [show mostOf 2 = 7 from rfl, and_7 x0 x7]
    rw [e]
    exact rless_2 o c a r v x w h0 (by omega) x0 x7
  by_cases h3 : k = 3
  · subst h3
    have e : lessK ⟨3, o, c, a, r, v⟩ x = ⟨3, o, c, a, orR r (x % 2), v⟩ := by
      unfold lessK; simp only [show mostOf 3 = 1 from rfl, and_1 x0 x7]
    rw [e]
    exact rless_3 o c a r v x w h0 (by omega) x0 x7
  have e : lessK ⟨k, o, c, a, r, v⟩ x = ⟨k, o, c, a, r, v⟩ := by
    have hk : mostOf k = 0 := by simp [mostOf, h2, h3]
    unfold lessK; simp only [hk, and_0 x0 x7, or_zero h0 (by omega : r ≤ 7)]
  rw [e]
  exact rless_n k o c a r v x w (by simpa using h2) (by simpa using h3)

end Go.Proofs.Ytlfkfhdcljkhkaa
