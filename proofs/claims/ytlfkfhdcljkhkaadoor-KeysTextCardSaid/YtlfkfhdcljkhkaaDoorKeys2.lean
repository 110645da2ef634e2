/-
  The contract of keys.Within, for all keys.
-/
import Derived.Test.YtlfkfhdcljkhkaaDoorKeys1
namespace Go.Proofs.YtlfkfhdcljkhkaaDoor
open Go.RowKit

def withB (k o c a r v k' o' c' a' r' v' : Int) : Bool :=
  ofB k o c a r v && ofB k' o' c' a' r' v' && (k == 0 || (k == k' && o == o' && c == c' && a == a' && r == r' && v == v') || (rightsB k && (k == k') && (o == o') && (c == c') && (bits .andNot .i64 r' r == 0)))

set_option maxHeartbeats 400000 in
theorem within_no (k o c a r v k' o' c' a' r' v' : Int) (w : World) (h : ofB k o c a r v = false ∨ ofB k' o' c' a' r' v' = false) :
    Calls Tryd.prog 11 #[.agg #[.int .i64 k, .int .i64 o, .int .i64 c, .int .i64 a, .int .i64 r, .int .i64 v], .agg #[.int .i64 k', .int .i64 o', .int .i64 c', .int .i64 a', .int .i64 r', .int .i64 v']] w fun e w' =>
      e = .returned (.bool false) ∧ Below w.heap.size w w' := by
  cases hA : ofB k o c a r v <;> cases hB : ofB k' o' c' a' r' v'
  all_goals first | (exfalso; simp [hA, hB] at h; done) | skip
  all_goals
    go_enter Tryd.func11, Tryd.ntmps11
    go_wp2_with fail
    refine (of_any _ _ _ _ _ _ _).mono ?_; rintro e w1 ⟨rfl, hb⟩; obtain ⟨hc, hf⟩ := bcell hb; have hz : w.heap.size + 1 < w1.heap.size := (by have := hb.size; simp at this; omega)
    go_wp2_with fail
    refine (of_any _ _ _ _ _ _ _).mono ?_; rintro e w2 ⟨rfl, hb2⟩; obtain ⟨hc2, hf2⟩ := bcell hb2; have hz2 : w1.heap.size < w2.heap.size := (by have := hb2.size; simp at this; omega)
    go_wp2_with fail
    go_ret
    refine ⟨rfl, ?_⟩
    exact (((((Below.refl _ _).alloc (Nat.le_refl _) _).alloc (by simp) _).trans (hb.mono (by simp; omega))).alloc (by omega) _ |>.trans (hb2.mono (by simp; omega))).alloc (by omega) _

theorem withB_core (k o c a r v k' o' c' a' r' v' : Int) (hA : ofB k o c a r v = true) (hB : ofB k' o' c' a' r' v' = true) : withB k o c a r v k' o' c' a' r' v' =
    (k == 0 || (k == k' && o == o' && c == c' && a == a' && r == r' && v == v') || (rightsB k && (k == k') && (o == o') && (c == c') && (bits .andNot .i64 r' r == 0))) := by
  unfold withB; rw [hA, hB]; rfl

set_option maxHeartbeats 400000 in
theorem within_yes (k o c a r v k' o' c' a' r' v' : Int) (w : World) (hA : ofB k o c a r v = true) (hB : ofB k' o' c' a' r' v' = true) :
    Calls Tryd.prog 11 #[.agg #[.int .i64 k, .int .i64 o, .int .i64 c, .int .i64 a, .int .i64 r, .int .i64 v], .agg #[.int .i64 k', .int .i64 o', .int .i64 c', .int .i64 a', .int .i64 r', .int .i64 v']] w fun e w' =>
      e = .returned (.bool (withB k o c a r v k' o' c' a' r' v')) ∧ Below w.heap.size w w' := by
  go_enter Tryd.func11, Tryd.ntmps11
  go_wp2_with fail
  refine (of_any _ _ _ _ _ _ _).mono ?_; rintro e w1 ⟨rfl, hb⟩; obtain ⟨hc, hf⟩ := bcell hb; have hz : w.heap.size + 1 < w1.heap.size := (by have := hb.size; simp at this; omega)
  go_wp2_with fail
  refine (of_any _ _ _ _ _ _ _).mono ?_; rintro e w2 ⟨rfl, hb2⟩; obtain ⟨hc2, hf2⟩ := bcell hb2; have hz2 : w1.heap.size < w2.heap.size := (by have := hb2.size; simp at this; omega)
  have hbb : ∀ O, Below w.heap.size w (w2.alloc O) := fun O => (((((Below.refl _ _).alloc (Nat.le_refl _) _).alloc (by simp) _).trans (hb.mono (by simp; omega))).alloc (by omega) _ |>.trans (hb2.mono (by simp; omega))).alloc (by omega) O
  have K1 : Blk w2 w.heap.size 30 (keyV k o c a r v) := (((((Blk.new w _ _).alloc _).below hb (by simp; omega)).alloc _).below hb2 (by simp; omega))
  have K2 : Blk w2 (w.heap.size + 1) 30 (keyV k' o' c' a' r' v') := ((((Blk.new2 w _ _ _).below hb (by simp)).alloc _).below hb2 (by simp; omega))
  have K3 : Blk w2 w1.heap.size 42 (kindV k) := (Blk.new w1 _ _).below hb2 (by simp)
  clear hc hf hc2 hf2 hb hb2
  obtain ⟨x0, x1, x2, x3, x4, x5⟩ := K1.key
  obtain ⟨y0, y1, y2, y3, y4, y5⟩ := K2.key
  obtain ⟨_, _, z2, _, _, _, _⟩ := K3.kind
  have hz3 : w.heap.size < w2.heap.size := by omega
  have hz4 : w.heap.size + 1 < w2.heap.size := by omega
  clear K1 K2 K3
  have HW := Lib.hid (withB_core k o c a r v k' o' c' a' r' v' hA hB)
  go_wp2_with fail
  all_goals go_ret
  all_goals refine ⟨?_, hbb _⟩
  all_goals go_light
  all_goals (rw [HW.out]; clear HW; simp [*])
end Go.Proofs.YtlfkfhdcljkhkaaDoor
