/-
  KeysWithin: for every two keys the law answers true, and its arguments read as they did; without conditions.
-/
import Derived.Test.YtlfkfhdcljkhkaaLawWithin
import Derived.Test.YtlfkfhdcljkhkaaRow
namespace Go.Proofs.Ytlfkfhdcljkhkaa
open Go.ChangeShapes Go.WideShapes Go.ChangeAt Go.RowKit Go.Deep

theorem open_key {H : Type} {enc : TypeId × Value → H} {w : World} {base : Nat} {spare : Nat → Bool} {held : Bool} {r : Reach} {b0 : Nat} {v : Value} {d : DataW H} {p : List MemPlace}
    (hv : Value.okWide Try.prog w r b0 25 v) (h : DataW.Trod enc Try.prog w base spare held 25 v d p) :
    ∃ k o c a r v' : Int, v = .agg #[.int .i64 k, .int .i64 o, .int .i64 c, .int .i64 a, .int .i64 r, .int .i64 v'] ∧ Small r := by
  obtain ⟨l, hl, rfl, hw⟩ := open_nums (kd := .i64) Try.underlying25 (by kernel_rfl) (by kernel_rfl) (by
    intro j f hf
    match j, hf with
    | 0, hf => injection hf with hf; subst hf; exact Try.underlying22
    | 1, hf => injection hf with hf; subst hf; exact Try.underlying3
    | 2, hf => injection hf with hf; subst hf; exact Try.underlying2
    | 3, hf => injection hf with hf; subst hf; exact Try.underlying2
    | 4, hf => injection hf with hf; subst hf; exact Try.underlying23
    | 5, hf => injection hf with hf; subst hf; exact Try.underlying2
    | j + 6, hf => simp at hf) hv h
  obtain ⟨k, o, c, a, r, x, rfl⟩ := six_of hl
  exact ⟨k, o, c, a, r, x, rfl, (i64_lt (hw r (by simp))).2⟩

set_option maxRecDepth 100000 in
theorem within_lifted (os : Os) (started : os.Started) (H : Type) (enc : TypeId × Value → H) :
    ReturnsInHanded {} Try.checked os 3 .any (Rows.keysWithinSpec.pre6 enc Try.prog Try.f3 Rows.keysWithinRow.domain false) (Rows.keysWithinSpec.post enc Try.prog Try.f3 false true false false) := by
  refine returnsInHanded_of_change (C := Try.checked) own started (by kernel_rfl) Try.func3
    (ChangeSpec.witness6 (enc := enc) (C := Try.checked) false ⟨#[], #[.agg #[.int .i64 0, .int .i64 0, .int .i64 0, .int .i64 0, .int .i64 0, .int .i64 0], .agg #[.int .i64 0, .int .i64 0, .int .i64 0, .int .i64 0, .int .i64 0, .int .i64 0]], []⟩ 8 (by kernel_rfl) (by kernel_rfl) (by kernel_rfl) (by kernel_rfl)) ?_
  intro W base args ds gs before hval0 hW hcnd _
  have hval : ∀ (j : Nat) t v, Try.f3.params[j]? = some t → args[j]? = some v → Value.okWide Try.prog W .any base t v := hval0
  have hW' := hW
  obtain ⟨p, q, hA0, hV, rfl, hfz, hnd⟩ := hW
  have hA : DataW.TrodAll enc Try.prog W 0 (fun _ => true) true Try.f3.params.toList args.toList ds p := hA0
  rw [Try.params3] at hA hval
  obtain ⟨v0, v1, d0, d1, p0, p1, rfl, rfl, rfl, h0, h1⟩ := trodAll_two hA
  obtain ⟨rfl, rfl⟩ := trodVars_none hV
  obtain ⟨k, o, c, a, r, v, rfl, wr⟩ := open_key (hval 0 _ v0 rfl rfl) h0
  obtain ⟨k', o', c', a', r', v', rfl, wr'⟩ := open_key (hval 1 _ v1 rfl rfl) h1
  clear hA0 hval0
  refine (lawWithin_walk k o c a r v k' o' c' a' r' v' W wr wr').mono fun e W' ⟨he, hb⟩ => ?_
  subst he
  exact ⟨_, rfl, law_post laidOut (by rw [Try.params3]; intro t ht; simp at ht; subst ht; exact ⟨by kernel_rfl, of_decide_eq_true (by kernel_rfl)⟩) rfl Try.underlying4 rfl hW' rfl hb⟩

theorem within_holds : Rows.KeysWithinSaid :=
  OpenClaim.holds_of_wide 3 Try.f3 rfl rfl rfl rfl rfl rfl rfl ⟨rfl, rfl, rfl, rfl, rfl⟩ rfl rfl rfl rfl rfl (by kernel_rfl) Try.func3 (by kernel_rfl)
    (of_decide_eq_true (by kernel_rfl)) (by unfold Func.isWrapper; first | (rw [if_pos (by decide +kernel)]; kernel_rfl) | (rw [if_neg (by decide +kernel)]; exact ⟨rfl, rfl⟩))
    (fun os started H enc _ => within_lifted os started H enc)

end Go.Proofs.Ytlfkfhdcljkhkaa
