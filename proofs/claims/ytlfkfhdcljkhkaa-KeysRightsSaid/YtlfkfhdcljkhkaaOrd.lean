/-
  Plain laws on keys: weak, less, within; no program in sight.
-/
import Derived.Test.YtlfkfhdcljkhkaaRef5
import Derived.Test.YtlfkfhdcljkhkaaLess
namespace Go.Proofs.Ytlfkfhdcljkhkaa
open Go.RowKit

/-- r' has no right that r lacks -/
def subR (r' r : Int) : Bool := bits .andNot .i64 r' r == 0
abbrev orR (r x : Int) : Int := bits .or .i64 r x
abbrev andR (r x : Int) : Int := bits .and .i64 r x

theorem fin_of {r : Int} (h0 : 0 ≤ r) (h7 : r ≤ 7) : ∃ f : Fin 8, r = (f.val : Int) := ⟨⟨r.toNat, by omega⟩, by simp; omega⟩

theorem or_bd {r x : Int} (h0 : 0 ≤ r) (h7 : r ≤ 7) (x0 : 0 ≤ x) (x7 : x ≤ 7) : 0 ≤ orR r x ∧ orR r x ≤ 7 := by
  obtain ⟨f, rfl⟩ := fin_of h0 h7; obtain ⟨g, rfl⟩ := fin_of x0 x7
  have h : ∀ a b : Fin 8, 0 ≤ orR (a.val : Int) (b.val : Int) ∧ orR (a.val : Int) (b.val : Int) ≤ 7 := by decide +kernel
  exact h f g
theorem or_bd1 {r x : Int} (h0 : 0 ≤ r) (h7 : r ≤ 1) (x0 : 0 ≤ x) (x7 : x ≤ 1) : 0 ≤ orR r x ∧ orR r x ≤ 1 := by
  have : r = 0 ∨ r = 1 := by omega
  have : x = 0 ∨ x = 1 := by omega
  rcases ‹r = 0 ∨ r = 1› with rfl | rfl <;> rcases ‹x = 0 ∨ x = 1› with rfl | rfl <;> decide
theorem and_bd {x m : Int} (h0 : 0 ≤ x) (h7 : x ≤ 7) (hm0 : 0 ≤ m) (hm : m ≤ 7) : 0 ≤ andR x m ∧ andR x m ≤ m := by
  obtain ⟨f, rfl⟩ := fin_of h0 h7; obtain ⟨g, rfl⟩ := fin_of hm0 hm
  have h : ∀ a b : Fin 8, 0 ≤ andR (a.val : Int) (b.val : Int) ∧ andR (a.val : Int) (b.val : Int) ≤ (b.val : Int) := by decide +kernel
  exact h f g
theorem or_idem {r x : Int} (h0 : 0 ≤ r) (h7 : r ≤ 7) (x0 : 0 ≤ x) (x7 : x ≤ 7) : orR (orR r x) x = orR r x := by
  obtain ⟨f, rfl⟩ := fin_of h0 h7; obtain ⟨g, rfl⟩ := fin_of x0 x7
  have h : ∀ a b : Fin 8, orR (orR (a.val : Int) (b.val : Int)) (b.val : Int) = orR (a.val : Int) (b.val : Int) := by decide +kernel
  exact h f g
theorem or_zero {r : Int} (h0 : 0 ≤ r) (h7 : r ≤ 7) : orR r 0 = r := by
  obtain ⟨f, rfl⟩ := fin_of h0 h7
  have h : ∀ a : Fin 8, orR (a.val : Int) 0 = (a.val : Int) := by decide +kernel
  exact h f
theorem sub_or {r x : Int} (h0 : 0 ≤ r) (h7 : r ≤ 7) (x0 : 0 ≤ x) (x7 : x ≤ 7) : subR r (orR r x) = true := by
  obtain ⟨f, rfl⟩ := fin_of h0 h7; obtain ⟨g, rfl⟩ := fin_of x0 x7
  have h : ∀ a b : Fin 8, subR (a.val : Int) (orR (a.val : Int) (b.val : Int)) = true := by decide +kernel
  exact h f g
theorem sub_mono {r s x : Int} (h0 : 0 ≤ r) (h7 : r ≤ 7) (s0 : 0 ≤ s) (s7 : s ≤ 7) (x0 : 0 ≤ x) (x7 : x ≤ 7) (h : subR r s = true) : subR (orR r x) (orR s x) = true := by
  obtain ⟨f, rfl⟩ := fin_of h0 h7; obtain ⟨g, rfl⟩ := fin_of x0 x7; obtain ⟨e, rfl⟩ := fin_of s0 s7
  have hh : ∀ a b c : Fin 8, subR (a.val : Int) (c.val : Int) = true → subR (orR (a.val : Int) (b.val : Int)) (orR (c.val : Int) (b.val : Int)) = true := by decide +kernel
  exact hh f g e h
theorem sub_anti {r s : Int} (h0 : 0 ≤ r) (h7 : r ≤ 7) (s0 : 0 ≤ s) (s7 : s ≤ 7) (h : subR r s = true) (h' : subR s r = true) : r = s := by
  obtain ⟨f, rfl⟩ := fin_of h0 h7; obtain ⟨e, rfl⟩ := fin_of s0 s7
  have hh : ∀ a c : Fin 8, subR (a.val : Int) (c.val : Int) = true → subR (c.val : Int) (a.val : Int) = true → (a.val : Int) = (c.val : Int) := by decide +kernel
  exact hh f e h h'
theorem sub_trans {r s t : Int} (h0 : 0 ≤ r) (h7 : r ≤ 7) (s0 : 0 ≤ s) (s7 : s ≤ 7) (t0 : 0 ≤ t) (t7 : t ≤ 7) (h : subR r s = true) (h' : subR s t = true) : subR r t = true := by
  obtain ⟨f, rfl⟩ := fin_of h0 h7; obtain ⟨e, rfl⟩ := fin_of s0 s7; obtain ⟨g, rfl⟩ := fin_of t0 t7
  have hh : ∀ a b c : Fin 8, subR (a.val : Int) (b.val : Int) = true → subR (b.val : Int) (c.val : Int) = true → subR (a.val : Int) (c.val : Int) = true := by decide +kernel
  exact hh f e g h h'

/-- which keys may be, as a proposition -/
theorem ofB_iff {k o c a r v : Int} (hr : r < 9223372036854775808) : ofB k o c a r v = true ↔
    (0 ≤ k ∧ k ≤ 10 ∧ withinB (oidB k) o 63 = true ∧ withinB (oidB k) c 4294967295 = true ∧ withinB (callB k) a 4294967295 = true ∧ 0 ≤ r ∧ r ≤ mostOf k ∧ (valueB k = true ∨ v = 0)) := by
  constructor
  · intro h
    have hb := rights_bd h hr
    unfold ofB at h
    simp only [Bool.and_eq_true, decide_eq_true_eq, Bool.or_eq_true, beq_iff_eq] at h
    obtain ⟨⟨⟨⟨⟨⟨⟨h1, h2⟩, h3⟩, h4⟩, h5⟩, h6⟩, h7⟩, h8⟩ := h
    exact ⟨h1, h2, h3, h4, h5, hb.1, hb.2, h8⟩
  · rintro ⟨h1, h2, h3, h4, h5, h6, h7, h8⟩
    have h9 := (andNot_most k r h6 hr).2 h7
    unfold ofB
    simp only [Bool.and_eq_true, decide_eq_true_eq, Bool.or_eq_true, beq_iff_eq]
    exact ⟨⟨⟨⟨⟨⟨⟨h1, h2⟩, h3⟩, h4⟩, h5⟩, h6⟩, h9⟩, h8⟩

theorem most_le (k : Int) : 0 ≤ mostOf k ∧ mostOf k ≤ 7 := by unfold mostOf; split <;> (try split) <;> omega

theorem of_rights {k o c a r r' v : Int} (h : ofB k o c a r v = true) (hr : r < 9223372036854775808) (h0 : 0 ≤ r') (h1 : r' ≤ mostOf k) : ofB k o c a r' v = true := by
  have hm := most_le k
  obtain ⟨a1, a2, a3, a4, a5, a6, a7, a8⟩ := (ofB_iff hr).1 h
  exact (ofB_iff (by omega)).2 ⟨a1, a2, a3, a4, a5, h0, h1, a8⟩

theorem of_void : ofB 0 0 0 0 0 0 = true := by decide

/-- what Weaken makes of rights -/
theorem wrig_bd {k r : Int} (h0 : 0 ≤ r) (h1 : r ≤ mostOf k) : 0 ≤ wrig k r ∧ wrig k r ≤ mostOf (wsel k k) ∧ wrig k r ≤ 7 := by
  have hm := most_le k
  by_cases h2 : k = 2
  · subst h2
    have h7 : r ≤ 7 := by simpa [mostOf] using h1
    have := or_bd (r := r) (x := 3) h0 h7 (by omega) (by omega)
    show 0 ≤ orR r 3 ∧ orR r 3 ≤ 7 ∧ orR r 3 ≤ 7
    exact ⟨this.1, this.2, this.2⟩
  · by_cases h3 : k = 3
    · subst h3
      have hr : r ≤ 1 := by simpa [mostOf] using h1
      have := or_bd1 (r := r) (x := 1) h0 hr (by omega) (by omega)
      show 0 ≤ orR r 1 ∧ orR r 1 ≤ 1 ∧ orR r 1 ≤ 7
      exact ⟨this.1, this.2, by omega⟩
    · have hk : mostOf k = 0 := by simp [mostOf, h2, h3]
      have hr : r = 0 := by omega
      have e : wrig k r = 0 := by
        unfold wrig wsel
        rw [if_neg h2, if_neg h3, hr]
        split <;> rfl
      have hw := most_le (wsel k k)
      rw [e]; omega

theorem of_weak {k o c a r v : Int} (h : ofB k o c a r v = true) (hr : r < 9223372036854775808) : ofB (wsel k k) (wsel k o) (wsel k c) (wsel k a) (wrig k r) (wsel k v) = true := by
  obtain ⟨a1, a2, a3, a4, a5, a6, a7, a8⟩ := (ofB_iff hr).1 h
  have hw := wrig_bd a6 a7
  by_cases hk : k = 1 ∨ k = 2 ∨ k = 3 ∨ k = 8
  · have e : ∀ x, wsel k x = x := fun x => by unfold wsel; rw [if_pos hk]
    rw [e, e, e, e, e]
    rw [e] at hw
    exact of_rights h hr hw.1 hw.2.1
  · have e : ∀ x, wsel k x = 0 := fun x => by unfold wsel; rw [if_neg hk]
    have er : wrig k r = 0 := by unfold wrig; rw [if_neg (by omega), if_neg (by omega), e]
    rw [e, e, e, e, e, er]
    exact of_void

theorem weak_weak_sel (k x : Int) : wsel (wsel k k) (wsel k x) = wsel k x := by
  by_cases hk : k = 1 ∨ k = 2 ∨ k = 3 ∨ k = 8
  · have e : ∀ x, wsel k x = x := fun x => by unfold wsel; rw [if_pos hk]
    rw [e, e, e]
  · have e : ∀ x, wsel k x = 0 := fun x => by unfold wsel; rw [if_neg hk]
    rw [e, e]; rfl
theorem weak_weak_rig {k r : Int} (h0 : 0 ≤ r) (h1 : r ≤ 7) : wrig (wsel k k) (wrig k r) = wrig k r := by
  by_cases h2 : k = 2
  · subst h2
    show orR (orR r 3) 3 = orR r 3
    exact or_idem h0 h1 (by omega) (by omega)
  · by_cases h3 : k = 3
    · subst h3
      show orR (orR r 1) 1 = orR r 1
      exact or_idem h0 h1 (by omega) (by omega)
    · unfold wrig wsel
      rw [if_neg h2, if_neg h3]
      split <;> simp_all

theorem withB_iff {k o c a r v k' o' c' a' r' v' : Int} (hA : ofB k o c a r v = true) (hB : ofB k' o' c' a' r' v' = true) : withB k o c a r v k' o' c' a' r' v' = true ↔
    (k = 0 ∨ (k = k' ∧ o = o' ∧ c = c' ∧ a = a' ∧ r = r' ∧ v = v') ∨ ((k = 2 ∨ k = 3) ∧ k = k' ∧ o = o' ∧ c = c' ∧ subR r' r = true)) := by
  rw [withB_core _ _ _ _ _ _ _ _ _ _ _ _ hA hB]
  simp only [Bool.or_eq_true, Bool.and_eq_true, beq_iff_eq, rightsB, subR]
  constructor
  · rintro ((h | ⟨⟨⟨⟨⟨h1, h2⟩, h3⟩, h4⟩, h5⟩, h6⟩) | ⟨⟨⟨⟨h1, h2⟩, h3⟩, h4⟩, h5⟩)
    · exact .inl h
    · exact .inr (.inl ⟨h1, h2, h3, h4, h5, h6⟩)
    · exact .inr (.inr ⟨h1, h2, h3, h4, h5⟩)
  · rintro (h | ⟨h1, h2, h3, h4, h5, h6⟩ | ⟨h1, h2, h3, h4, h5⟩)
    · exact .inl (.inl h)
    · exact .inl (.inr ⟨⟨⟨⟨⟨h1, h2⟩, h3⟩, h4⟩, h5⟩, h6⟩)
    · exact .inr ⟨⟨⟨⟨h1, h2⟩, h3⟩, h4⟩, h5⟩

/-- of a node, of a page: nothing but rights -/
theorem plain_of {k o c a r v : Int} (h : ofB k o c a r v = true) (hk : k = 2 ∨ k = 3) : a = 0 ∧ v = 0 := by
  constructor
  · exact call_zero h (by rcases hk with rfl | rfl <;> rfl)
  · exact value_zero h (by rcases hk with rfl | rfl <;> rfl)

theorem within_weak {k o c a r v : Int} (h : ofB k o c a r v = true) (hr : r < 9223372036854775808) :
    withB (wsel k k) (wsel k o) (wsel k c) (wsel k a) (wrig k r) (wsel k v) k o c a r v = true := by
  obtain ⟨h0, h1⟩ := rights_bd h hr
  have hm := most_le k
  refine (withB_iff (of_weak h hr) h).2 ?_
  by_cases h2 : k = 2
  · subst h2
    exact .inr (.inr ⟨.inl rfl, rfl, rfl, rfl, sub_or h0 (by omega) (by omega) (by omega)⟩)
  · by_cases h3 : k = 3
    · subst h3
      exact .inr (.inr ⟨.inr rfl, rfl, rfl, rfl, sub_or h0 (by omega) (by omega) (by omega)⟩)
    · by_cases hk : k = 1 ∨ k = 8
      · have e : ∀ x, wsel k x = x := fun x => by unfold wsel; rw [if_pos (by omega)]
        refine .inr (.inl ⟨e _, e _, e _, e _, ?_, e _⟩)
        unfold wrig; rw [if_neg h2, if_neg h3, e]
      · left; unfold wsel; rw [if_neg (by omega)]

theorem less_bd {k r x : Int} (h0 : 0 ≤ r) (h1 : r ≤ mostOf k) (x0 : 0 ≤ x) (x7 : x ≤ 7) : 0 ≤ orR r (andR x (mostOf k)) ∧ orR r (andR x (mostOf k)) ≤ mostOf k := by
  have hm := most_le k
  have ha := and_bd x0 x7 hm.1 hm.2
  by_cases h2 : k = 2
  · subst h2
    exact or_bd h0 (by simpa [mostOf] using h1) ha.1 (by simpa [mostOf] using ha.2)
  · by_cases h3 : k = 3
    · subst h3
      exact or_bd1 h0 (by simpa [mostOf] using h1) ha.1 (by simpa [mostOf] using ha.2)
    · have hk : mostOf k = 0 := by simp [mostOf, h2, h3]
      rw [hk] at ha h1 ⊢
      have e1 : r = 0 := by omega
      have e2 : andR x 0 = 0 := by omega
      rw [e1, e2]; decide
theorem of_less {k o c a r v x : Int} (h : ofB k o c a r v = true) (hr : r < 9223372036854775808) (x0 : 0 ≤ x) (x7 : x ≤ 7) : ofB k o c a (orR r (andR x (mostOf k))) v = true := by
  obtain ⟨h0, h1⟩ := rights_bd h hr
  have := less_bd h0 h1 x0 x7
  exact of_rights h hr this.1 this.2
theorem less_less {k r x : Int} (h0 : 0 ≤ r) (h1 : r ≤ 7) (x0 : 0 ≤ x) (x7 : x ≤ 7) : orR (orR r (andR x (mostOf k))) (andR x (mostOf k)) = orR r (andR x (mostOf k)) := by
  have hm := most_le k
  have ha := and_bd x0 x7 hm.1 hm.2
  exact or_idem h0 h1 ha.1 (by omega)
theorem within_less {k o c a r v x : Int} (h : ofB k o c a r v = true) (hr : r < 9223372036854775808) (x0 : 0 ≤ x) (x7 : x ≤ 7) :
    withB k o c a (orR r (andR x (mostOf k))) v k o c a r v = true := by
  obtain ⟨h0, h1⟩ := rights_bd h hr
  have hm := most_le k
  have ha := and_bd x0 x7 hm.1 hm.2
  refine (withB_iff (of_less h hr x0 x7) h).2 ?_
  by_cases h2 : k = 2 ∨ k = 3
  · exact .inr (.inr ⟨h2, rfl, rfl, rfl, sub_or h0 (by omega) ha.1 (by omega)⟩)
  · have hk : mostOf k = 0 := by unfold mostOf; rw [if_neg (by omega), if_neg (by omega)]
    rw [hk] at ha h1 ⊢
    have e1 : r = 0 := by omega
    have e2 : andR x 0 = 0 := by omega
    rw [e2, or_zero h0 (by omega)]
    exact .inr (.inl ⟨rfl, rfl, rfl, rfl, rfl, rfl⟩)

theorem within_anti {k o c a r v k' o' c' a' r' v' : Int} (hA : ofB k o c a r v = true) (hB : ofB k' o' c' a' r' v' = true) (hr : r < 9223372036854775808) (hr' : r' < 9223372036854775808)
    (h : withB k o c a r v k' o' c' a' r' v' = true) (h' : withB k' o' c' a' r' v' k o c a r v = true) : k = k' ∧ o = o' ∧ c = c' ∧ a = a' ∧ r = r' ∧ v = v' := by
  obtain ⟨r0, r1⟩ := rights_bd hA hr
  obtain ⟨s0, s1⟩ := rights_bd hB hr'
  have hm := most_le k
  have hm' := most_le k'
  have zero : ∀ {o c a r v : Int}, ofB 0 o c a r v = true → r < 9223372036854775808 → o = 0 ∧ c = 0 ∧ a = 0 ∧ r = 0 ∧ v = 0 := by
    intro o c a r v h hr
    obtain ⟨_, _, b3, b4, b5, b6, b7, b8⟩ := (ofB_iff hr).1 h
    simp [withinB, oidB, callB, mostOf, valueB] at b3 b4 b5 b7 b8
    exact ⟨b3, b4, b5, by omega, b8⟩
  rcases (withB_iff hA hB).1 h with e | e | ⟨e1, e2, e3, e4, e5⟩
  · subst e
    rcases (withB_iff hB hA).1 h' with f | ⟨f1, f2, f3, f4, f5, f6⟩ | ⟨f1, f2, _⟩
    · subst f
      obtain ⟨a1, a2, a3, a4, a5⟩ := zero hA hr
      obtain ⟨b1, b2, b3, b4, b5⟩ := zero hB hr'
      exact ⟨rfl, by omega, by omega, by omega, by omega, by omega⟩
    · exact ⟨f1.symm, f2.symm, f3.symm, f4.symm, f5.symm, f6.symm⟩
    · omega
  · exact e
  · obtain ⟨p1, p2⟩ := plain_of hA e1
    obtain ⟨q1, q2⟩ := plain_of hB (by omega)
    rcases (withB_iff hB hA).1 h' with f | ⟨f1, f2, f3, f4, f5, f6⟩ | ⟨f1, f2, f3, f4, f5⟩
    · omega
    · exact ⟨f1.symm, f2.symm, f3.symm, f4.symm, f5.symm, f6.symm⟩
    · exact ⟨e2, e3, e4, by omega, sub_anti r0 (by omega) s0 (by omega) f5 e5, by omega⟩

theorem within_trans {k o c a r v k' o' c' a' r' v' K O C X R V : Int} (hA : ofB k o c a r v = true) (hB : ofB k' o' c' a' r' v' = true) (hC : ofB K O C X R V = true) (hr : r < 9223372036854775808) (hr' : r' < 9223372036854775808) (hR : R < 9223372036854775808)
    (h : withB k o c a r v k' o' c' a' r' v' = true) (h' : withB k' o' c' a' r' v' K O C X R V = true) : withB k o c a r v K O C X R V = true := by
  obtain ⟨r0, r1⟩ := rights_bd hA hr
  obtain ⟨s0, s1⟩ := rights_bd hB hr'
  obtain ⟨t0, t1⟩ := rights_bd hC hR
  have hm := most_le k
  have hm' := most_le k'
  have hM := most_le K
  refine (withB_iff hA hC).2 ?_
  rcases (withB_iff hA hB).1 h with e | ⟨e1, e2, e3, e4, e5, e6⟩ | ⟨e1, e2, e3, e4, e5⟩
  · exact .inl e
  · subst e1 e2 e3 e4 e5 e6
    exact (withB_iff hA hC).1 h'
  · rcases (withB_iff hB hC).1 h' with f | ⟨f1, f2, f3, f4, f5, f6⟩ | ⟨f1, f2, f3, f4, f5⟩
    · omega
    · subst f1 f2 f3 f4 f5 f6
      exact .inr (.inr ⟨e1, e2, e3, e4, e5⟩)
    · exact .inr (.inr ⟨e1, e2.trans f2, e3.trans f3, e4.trans f4, sub_trans t0 (by omega) s0 (by omega) r0 (by omega) f5 e5⟩)

theorem within_weak_weak {k o c a r v k' o' c' a' r' v' : Int} (hA : ofB k o c a r v = true) (hB : ofB k' o' c' a' r' v' = true) (hr : r < 9223372036854775808) (hr' : r' < 9223372036854775808) (h : withB k o c a r v k' o' c' a' r' v' = true) :
    withB (wsel k k) (wsel k o) (wsel k c) (wsel k a) (wrig k r) (wsel k v) (wsel k' k') (wsel k' o') (wsel k' c') (wsel k' a') (wrig k' r') (wsel k' v') = true := by
  obtain ⟨r0, r1⟩ := rights_bd hA hr
  obtain ⟨s0, s1⟩ := rights_bd hB hr'
  have hm := most_le k
  have hm' := most_le k'
  refine (withB_iff (of_weak hA hr) (of_weak hB hr')).2 ?_
  rcases (withB_iff hA hB).1 h with e | ⟨e1, e2, e3, e4, e5, e6⟩ | ⟨e1, e2, e3, e4, e5⟩
  · subst e; exact .inl rfl
  · subst e1 e2 e3 e4 e5 e6
    exact .inr (.inl ⟨rfl, rfl, rfl, rfl, rfl, rfl⟩)
  · subst e2 e3 e4
    rcases e1 with rfl | rfl
    · exact .inr (.inr ⟨.inl rfl, rfl, rfl, rfl, sub_mono s0 (by omega) r0 (by omega) (by omega) (by omega) e5⟩)
    · exact .inr (.inr ⟨.inr rfl, rfl, rfl, rfl, sub_mono s0 (by omega) r0 (by omega) (by omega) (by omega) e5⟩)

theorem within_less_less {k o c a r v k' o' c' a' r' v' x : Int} (hA : ofB k o c a r v = true) (hB : ofB k' o' c' a' r' v' = true) (hr : r < 9223372036854775808) (hr' : r' < 9223372036854775808) (x0 : 0 ≤ x) (x7 : x ≤ 7) (hk : k ≠ 0) (h : withB k o c a r v k' o' c' a' r' v' = true) :
    withB k o c a (orR r (andR x (mostOf k))) v k' o' c' a' (orR r' (andR x (mostOf k'))) v' = true := by
  obtain ⟨r0, r1⟩ := rights_bd hA hr
  obtain ⟨s0, s1⟩ := rights_bd hB hr'
  have hm := most_le k
  have hm' := most_le k'
  refine (withB_iff (of_less hA hr x0 x7) (of_less hB hr' x0 x7)).2 ?_
  rcases (withB_iff hA hB).1 h with e | ⟨e1, e2, e3, e4, e5, e6⟩ | ⟨e1, e2, e3, e4, e5⟩
  · exact absurd e hk
  · subst e1 e2 e3 e4 e5 e6
    exact .inr (.inl ⟨rfl, rfl, rfl, rfl, rfl, rfl⟩)
  · subst e2 e3 e4
    have ha := and_bd x0 x7 hm.1 hm.2
    exact .inr (.inr ⟨e1, rfl, rfl, rfl, sub_mono s0 (by omega) r0 (by omega) ha.1 (by omega) e5⟩)

end Go.Proofs.Ytlfkfhdcljkhkaa
