/-
  The contracts of keys.Weaken and keys.Less, for all keys.
-/
import Derived.Test.YtlfkfhdcljkhkaaWeaken
namespace Go.Proofs.Ytlfkfhdcljkhkaa
open Go.RowKit

def wsel (k x : Int) : Int := if k = 1 ∨ k = 2 ∨ k = 3 ∨ k = 8 then x else 0
def wrig (k r : Int) : Int := if k = 2 then bits .or .i64 r 3 else if k = 3 then bits .or .i64 r 1 else wsel k r

theorem weaken_yes (k o c a r v : Int) (w : World) (hB : ofB k o c a r v = true) :
    Calls Try.prog 20 #[.agg #[.int .i64 k, .int .i64 o, .int .i64 c, .int .i64 a, .int .i64 r, .int .i64 v]] w fun e w' =>
      e = .returned (.tuple #[.agg #[.int .i64 (wsel k k), .int .i64 (wsel k o), .int .i64 (wsel k c), .int .i64 (wsel k a), .int .i64 (wrig k r), .int .i64 (wsel k v)], .int .i64 0]) ∧ Below w.heap.size w w' := by
  by_cases h2 : k = 2
  · subst h2; exact weaken_2 o c a r v w hB
  by_cases h3 : k = 3
  · subst h3; exact weaken_3 o c a r v w hB
  by_cases h1 : k = 1
  · subst h1; exact weaken_1 o c a r v w hB
  by_cases h8 : k = 8
  · subst h8; exact weaken_8 o c a r v w hB
  have h := weaken_n k o c a r v w ⟨h1, h2, h3, h8⟩ hB
  have hs : ∀ x, wsel k x = 0 := fun x => by unfold wsel; rw [if_neg (by omega)]
  have hr : wrig k r = 0 := by unfold wrig; rw [if_neg h2, if_neg h3, hs]
  rw [hs, hs, hs, hs, hs, hr]
  exact h

set_option maxHeartbeats 400000 in
theorem less_no (k o c a r v x : Int) (w : World) (h : ofB k o c a r v = false ∨ x < 0 ∨ 7 < x) :
    Calls Try.prog 21 #[.agg #[.int .i64 k, .int .i64 o, .int .i64 c, .int .i64 a, .int .i64 r, .int .i64 v], .int .i64 x] w fun e w' =>
      e = .returned (.tuple #[.agg #[.int .i64 0, .int .i64 0, .int .i64 0, .int .i64 0, .int .i64 0, .int .i64 0], .int .i64 2]) ∧ Below w.heap.size w w' := by
  have h' : ofB k o c a r v = false ∨ (ofB k o c a r v = true ∧ x < 0) ∨ (ofB k o c a r v = true ∧ 0 ≤ x ∧ 7 < x) := by
    cases hB : ofB k o c a r v
    · exact .inl rfl
    · rcases h with h | h | h
      · rw [hB] at h; cases h
      · exact .inr (.inl ⟨rfl, h⟩)
      · exact .inr (.inr ⟨rfl, by omega, h⟩)
  clear h
  rcases h' with hB | ⟨hB, hx⟩ | ⟨hB, hx0, hx⟩
  all_goals
    go_enter Try.func21, Try.ntmps21
    go_wp2_with fail
    refine (of_any _ _ _ _ _ _ _).mono ?_; rintro e w1 ⟨rfl, hb⟩
    have K2 : Blk w1 (w.heap.size + 1) 25 (keyV 0 0 0 0 0 0) := (Blk.new2 w _ _ _).below hb (by simp)
    have hbb : Below w.heap.size w w1 := (((Below.refl _ _).alloc (Nat.le_refl _) _).alloc (by simp) _).trans (hb.mono (by simp; omega))
    have hz : w.heap.size + 1 < w1.heap.size := by have := hb.size; simp at this; omega
    have K3 := K2.alloc (.cells (kindV k) 57)
    unfold kindV at K3
    clear hb
    go_wp2_with (refine wpList_store_row rfl 25 _ _ rfl (w.heap.size + 1) (keyV 0 0 0 0 0 0) rfl rfl 25 (keyV 0 0 0 0 0 0) (by first | exact K3 | (rw [hB] at K3; exact K3)) info_key rfl (keyV_one _ _ _ _ _ _) ?_)
    exact bodyPost_ret (results_row_tmp Try.results21 _ _ (w.heap.size + 1) 25 (keyV 0 0 0 0 0 0) (0, 0) _ rfl (Blk.row K3 _) Try.underlying25 rfl info_key _ rfl) rfl ⟨rfl, below_row (hbb.alloc (by omega) _) _ (by omega)⟩

set_option maxHeartbeats 400000 in
theorem less_yes (k o c a r v x : Int) (w : World) (hB : ofB k o c a r v = true) (hx0 : 0 ≤ x) (hx1 : x ≤ 7) :
    Calls Try.prog 21 #[.agg #[.int .i64 k, .int .i64 o, .int .i64 c, .int .i64 a, .int .i64 r, .int .i64 v], .int .i64 x] w fun e w' =>
      e = .returned (.tuple #[.agg #[.int .i64 k, .int .i64 o, .int .i64 c, .int .i64 a, .int .i64 (bits .or .i64 r (bits .and .i64 x (mostOf k))), .int .i64 v], .int .i64 0]) ∧ Below w.heap.size w w' := by
  go_enter Try.func21, Try.ntmps21
  go_wp2_with fail
  refine (of_any _ _ _ _ _ _ _).mono ?_; rintro e w1 ⟨rfl, hb⟩
  have K1 : Blk w1 w.heap.size 25 (keyV k o c a r v) := ((Blk.new w _ _).alloc _).below hb (by simp; omega)
  have K2 : Blk w1 (w.heap.size + 1) 25 (keyV 0 0 0 0 0 0) := (Blk.new2 w _ _ _).below hb (by simp)
  have hbb : Below w.heap.size w w1 := (((Below.refl _ _).alloc (Nat.le_refl _) _).alloc (by simp) _).trans (hb.mono (by simp; omega))
  have hz : w.heap.size < w1.heap.size := by have := hb.size; simp at this; omega
  have hz1 : w.heap.size + 1 < w1.heap.size := by have := hb.size; simp at this; omega
  clear hb
  obtain ⟨x0, x1, x2, x3, x4, x5⟩ := K1.key
  have f4 := K1.frozen 4
  have hK : ∀ O, Blk ((w1.setCell ⟨w.heap.size, 4, none⟩ (.int .i64 (bits .or .i64 r (bits .and .i64 x (mostOf k))))).alloc O) (w.heap.size + 1) 25 (keyV 0 0 0 0 0 0) := fun O => (K2.far (p := ⟨w.heap.size, 4, none⟩) (by simp) _).alloc O
  have hbb2 : ∀ O, Below w.heap.size w ((w1.setCell ⟨w.heap.size, 4, none⟩ (.int .i64 (bits .or .i64 r (bits .and .i64 x (mostOf k))))).alloc O) := fun O => (hbb.setCell (Nat.le_refl _) _).alloc (by simp [World.setCell]; omega) O
  go_wp2_with (refine wpList_store_row rfl 25 _ _ rfl (w.heap.size + 1) (keyV k o c a (bits .or .i64 r (bits .and .i64 x (mostOf k))) v) rfl rfl 25 (keyV 0 0 0 0 0 0) (hK _) info_key rfl (keyV_one _ _ _ _ _ _) ?_)
  exact bodyPost_ret (results_row_tmp Try.results21 _ _ (w.heap.size + 1) 25 (keyV k o c a (bits .or .i64 r (bits .and .i64 x (mostOf k))) v) (0, 0) _ rfl ((hK _).row _) Try.underlying25 rfl info_key _ rfl) rfl ⟨rfl, below_row (hbb2 _) _ (by omega)⟩

end Go.Proofs.Ytlfkfhdcljkhkaa
