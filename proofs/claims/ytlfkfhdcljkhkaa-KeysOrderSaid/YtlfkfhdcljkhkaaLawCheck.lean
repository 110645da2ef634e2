/-
  The law KeysCheck answers true, for all keys.
-/
import Derived.Test.YtlfkfhdcljkhkaaLawWithin
namespace Go.Proofs.Ytlfkfhdcljkhkaa
open Go.RowKit

theorem one_step {w W w' : World} {b : Nat} {k o c a r v : Int} (hB : Below w.heap.size w W) (h : KeyAt W b k o c a r v) (hb : Below W.heap.size W w') :
    Below w.heap.size w w' ∧ KeyAt w' b k o c a r v := ⟨hB.trans (hb.mono hB.size), h.step hb⟩
theorem rnames_s (k o c a r v : Int) (w : World) (hr : Small r) :
    Calls Try.prog 16 #[.agg #[.int .i64 k, .int .i64 o, .int .i64 c, .int .i64 a, .int .i64 r, .int .i64 v]] w fun e w' =>
      e = .returned (.int .i64 (if namesB k o c a r v then o else -1)) ∧ Below w.heap.size w w' := rnames_any _ _ _ _ _ _ w hr
theorem rwants_s (k o c a r v : Int) (w : World) (hr : Small r) :
    Calls Try.prog 19 #[.agg #[.int .i64 k, .int .i64 o, .int .i64 c, .int .i64 a, .int .i64 r, .int .i64 v]] w fun e w' =>
      e = .returned (.int .i64 (if ofB k o c a r v then wantsOf k else 0)) ∧ Below w.heap.size w w' := rwants_any _ _ _ _ _ _ w hr
/-- what Wants answers, behind a name -/
def wantsV (k o c a r v : Int) : Int := if ofB k o c a r v then wantsOf k else 0
theorem wants_v (k o c a r v : Int) (w : World) :
    Calls Try.prog 18 #[.agg #[.int .i64 k, .int .i64 o, .int .i64 c, .int .i64 a, .int .i64 r, .int .i64 v]] w fun e w' =>
      e = .returned (.int .i64 (wantsV k o c a r v)) ∧ Below w.heap.size w w' := wants_any _ _ _ _ _ _ w
theorem rwants_v (k o c a r v : Int) (w : World) (hr : Small r) :
    Calls Try.prog 19 #[.agg #[.int .i64 k, .int .i64 o, .int .i64 c, .int .i64 a, .int .i64 r, .int .i64 v]] w fun e w' =>
      e = .returned (.int .i64 (wantsV k o c a r v)) ∧ Below w.heap.size w w' := rwants_any _ _ _ _ _ _ w hr

set_option maxHeartbeats 1000000 in
theorem lawCheck_walk (k o c a r v : Int) (w : World) (hr : Small r) :
    Calls Try.prog 4 #[.agg #[.int .i64 k, .int .i64 o, .int .i64 c, .int .i64 a, .int .i64 r, .int .i64 v]] w fun e w' =>
      e = .returned (.bool true) ∧ Below w.heap.size w w' := by
  cases hN : namesB k o c a r v
  all_goals (try have ho : ¬ o < 0 := Int.not_lt.2 (names_nonneg hN))
  all_goals (try have ho1 : (if o < 0 then (0 : Int) else o) = o := if_neg ho)
  all_goals (try have ho2 : decide (0 ≤ o) = true := decide_eq_true (Int.not_lt.1 ho))
  all_goals
    go_enter Try.func4, Try.ntmps4
    go_wp2_with fail
    refine (names_any _ _ _ _ _ _ _).mono ?_; rintro e w1 ⟨rfl, hb⟩
    obtain ⟨x0, x1, x2, x3, x4, x5⟩ := KeyAt.of ((Blk.new w 25 (keyV k o c a r v)).below hb (by simp))
    have hbb : Below w.heap.size w w1 := ((Below.refl _ _).alloc (Nat.le_refl _) _).trans (hb.mono (by simp))
    clear hb
    rw [hN]
    go_wp2_with fail
    refine (rnames_s _ _ _ _ _ _ _ hr).mono ?_; rintro e w2 ⟨rfl, hb⟩
    obtain ⟨hbb2, y0, y1, y2, y3, y4, y5⟩ := one_step hbb ⟨x0, x1, x2, x3, x4, x5⟩ hb
    clear hb hbb x0 x1 x2 x3 x4 x5
    rw [hN]
    go_upto_region 3 with fail
    have hbb3 := hbb2.drew
    go_region_held3 (fun w' => Below w.heap.size w w' ∧ w'.cell? ⟨w.heap.size, 0, none⟩ = some (.int .i64 k) ∧ w'.cell? ⟨w.heap.size, 1, none⟩ = some (.int .i64 o) ∧ w'.cell? ⟨w.heap.size, 2, none⟩ = some (.int .i64 c) ∧ w'.cell? ⟨w.heap.size, 3, none⟩ = some (.int .i64 a) ∧ w'.cell? ⟨w.heap.size, 4, none⟩ = some (.int .i64 r) ∧ w'.cell? ⟨w.heap.size, 5, none⟩ = some (.int .i64 v))
      ((first | (refine ⟨?_, ?_, ?_, ?_, ?_, ?_, ?_⟩ <;> assumption)))
      (first
        | (go_at_call 17; refine (check_any _ _ _ _ _ _ _).mono ?_; rintro e w' ⟨rfl, hb⟩; obtain ⟨z0, x0, x1, x2, x3, x4, x5⟩ := one_step (w := w) (b := w.heap.size) (by assumption) ⟨by assumption, by assumption, by assumption, by assumption, by assumption, by assumption⟩ hb; clear hb)
        | (go_at_call 13; refine (rcheck_s _ _ _ _ _ _ _ hr).mono ?_; rintro e w' ⟨rfl, hb⟩; obtain ⟨z0, x0, x1, x2, x3, x4, x5⟩ := one_step (w := w) (b := w.heap.size) (by assumption) ⟨by assumption, by assumption, by assumption, by assumption, by assumption, by assumption⟩ hb; clear hb)
        | (go_at_call 18; refine (wants_v _ _ _ _ _ _ _).mono ?_; rintro e w' ⟨rfl, hb⟩; obtain ⟨z0, x0, x1, x2, x3, x4, x5⟩ := one_step (w := w) (b := w.heap.size) (by assumption) ⟨by assumption, by assumption, by assumption, by assumption, by assumption, by assumption⟩ hb; clear hb)
        | (go_at_call 19; refine (rwants_v _ _ _ _ _ _ _ hr).mono ?_; rintro e w' ⟨rfl, hb⟩; obtain ⟨z0, x0, x1, x2, x3, x4, x5⟩ := one_step (w := w) (b := w.heap.size) (by assumption) ⟨by assumption, by assumption, by assumption, by assumption, by assumption, by assumption⟩ hb; clear hb)
        | (go_at_call 14; refine (known_any _).mono ?_; rintro e w' ⟨rfl, hb⟩; obtain ⟨z0, x0, x1, x2, x3, x4, x5⟩ := one_step (w := w) (b := w.heap.size) (by assumption) ⟨by assumption, by assumption, by assumption, by assumption, by assumption, by assumption⟩ hb; clear hb))
  all_goals go_wp2_with fail
  all_goals go_ret
  all_goals exact ⟨rfl, by assumption⟩

end Go.Proofs.Ytlfkfhdcljkhkaa
