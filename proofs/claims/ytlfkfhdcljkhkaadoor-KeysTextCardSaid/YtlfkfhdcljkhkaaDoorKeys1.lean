/-
  The contracts of keys.of, Check, Names, Wants, for all keys.
-/
import Derived.Test.YtlfkfhdcljkhkaaDoorOf
namespace Go.Proofs.YtlfkfhdcljkhkaaDoor
open Go.RowKit

theorem bcell {W w1 : World} (hb : Below W.heap.size W w1) : (∀ b o, b < W.heap.size → w1.cell? ⟨b, o, none⟩ = W.cell? ⟨b, o, none⟩) ∧ (∀ b o, b < W.heap.size → w1.frozen? ⟨b, o, none⟩ = W.frozen? ⟨b, o, none⟩) :=
  ⟨fun b o h => hb.cell (p := ⟨b, o, none⟩) h, fun b o h => hb.frozen (p := ⟨b, o, none⟩) h⟩

theorem Blk.key {w : World} {g : Nat} {t : TypeId} {k o c a r v : Int} (h : Blk w g t (keyV k o c a r v)) :
    w.cell? ⟨g, 0, none⟩ = some (.int .i64 k) ∧ w.cell? ⟨g, 1, none⟩ = some (.int .i64 o) ∧ w.cell? ⟨g, 2, none⟩ = some (.int .i64 c) ∧ w.cell? ⟨g, 3, none⟩ = some (.int .i64 a) ∧ w.cell? ⟨g, 4, none⟩ = some (.int .i64 r) ∧ w.cell? ⟨g, 5, none⟩ = some (.int .i64 v) :=
  ⟨h.cell_is 0 rfl, h.cell_is 1 rfl, h.cell_is 2 rfl, h.cell_is 3 rfl, h.cell_is 4 rfl, h.cell_is 5 rfl⟩
theorem Blk.kind {w : World} {g : Nat} {t : TypeId} {k : Int} (h : Blk w g t (kindV k)) :
    w.cell? ⟨g, 0, none⟩ = some (.string (nameOf k)) ∧ w.cell? ⟨g, 1, none⟩ = some (.bool (oidB k)) ∧ w.cell? ⟨g, 2, none⟩ = some (.bool (rightsB k)) ∧ w.cell? ⟨g, 3, none⟩ = some (.bool (callB k)) ∧ w.cell? ⟨g, 4, none⟩ = some (.bool (valueB k)) ∧ w.cell? ⟨g, 5, none⟩ = some (.int .i64 (mostOf k)) ∧ w.cell? ⟨g, 6, none⟩ = some (.int .i64 (wantsOf k)) :=
  ⟨h.cell_is 0 rfl, h.cell_is 1 rfl, h.cell_is 2 rfl, h.cell_is 3 rfl, h.cell_is 4 rfl, h.cell_is 5 rfl, h.cell_is 6 rfl⟩

theorem kindV_out (k : Int) (h : k < 0 ∨ 10 < k) : kindV k = #[.string ⟨#[]⟩, .bool false, .bool false, .bool false, .bool false, .int .i64 0, .int .i64 0] := by
  have e : k ≠ 0 ∧ k ≠ 1 ∧ k ≠ 2 ∧ k ≠ 3 ∧ k ≠ 4 ∧ k ≠ 5 ∧ k ≠ 6 ∧ k ≠ 7 ∧ k ≠ 8 ∧ k ≠ 9 ∧ k ≠ 10 := by omega
  obtain ⟨e0, e1, e2, e3, e4, e5, e6, e7, e8, e9, e10⟩ := e
  have ho : ¬ (2 ≤ k ∧ k ≤ 7) := by omega
  have ho' : oidB k = false := by unfold oidB; rw [Bool.and_eq_false_iff]; simp; omega
  simp [kindV, nameOf, rightsB, callB, valueB, mostOf, wantsOf, *]
theorem ofB_out (k o c a r v : Int) (h : k < 0 ∨ 10 < k) : ofB k o c a r v = false := by
  unfold ofB
  rcases h with h | h
  · rw [decide_eq_false (by omega : ¬ 0 ≤ k)]; rfl
  · rw [decide_eq_false (by omega : ¬ k ≤ 10), Bool.and_false]; rfl

set_option maxHeartbeats 400000 in
theorem of_out (k o c a r v : Int) (w : World) (h : k < 0 ∨ 10 < k) :
    Calls Tryd.prog 12 #[.agg #[.int .i64 k, .int .i64 o, .int .i64 c, .int .i64 a, .int .i64 r, .int .i64 v]] w fun e w' =>
      e = .returned (.tuple #[.agg (kindV k), .bool (ofB k o c a r v)]) ∧ Below w.heap.size w w' := by
  rw [kindV_out k h, ofB_out k o c a r v h]
  rcases h with h | h
  · go_enter Tryd.func12, Tryd.ntmps12
    go_wp2
    exact bodyPost_ret (v := .tuple #[.agg #[.string ⟨#[]⟩, .bool false, .bool false, .bool false, .bool false, .int .i64 0, .int .i64 0], .bool false]) (by simp [results, Tryd.results12, go_sem]) rfl ⟨rfl, ((Below.refl _ _).alloc (Nat.le_refl _) _).alloc (by simp) _⟩
  · have h' : ¬ k < 0 := by omega
    go_enter Tryd.func12, Tryd.ntmps12
    go_wp2
    exact bodyPost_ret (v := .tuple #[.agg #[.string ⟨#[]⟩, .bool false, .bool false, .bool false, .bool false, .int .i64 0, .int .i64 0], .bool false]) (by simp [results, Tryd.results12, go_sem]) rfl ⟨rfl, ((Below.refl _ _).alloc (Nat.le_refl _) _).alloc (by simp) _⟩

theorem of_any (k o c a r v : Int) (w : World) :
    Calls Tryd.prog 12 #[.agg #[.int .i64 k, .int .i64 o, .int .i64 c, .int .i64 a, .int .i64 r, .int .i64 v]] w fun e w' =>
      e = .returned (.tuple #[.agg #[.string (nameOf k), .bool (oidB k), .bool (rightsB k), .bool (callB k), .bool (valueB k), .int .i64 (mostOf k), .int .i64 (wantsOf k)], .bool (ofB k o c a r v)]) ∧ Below w.heap.size w w' := by
  by_cases h : 0 ≤ k ∧ k ≤ 10
  · exact of_in k o c a r v w h.1 h.2
  · exact of_out k o c a r v w (by omega)

def errB (b : Bool) : Int := if b then 0 else 2

set_option maxHeartbeats 400000 in
theorem check_any (k o c a r v : Int) (w : World) :
    Calls Tryd.prog 10 #[.agg #[.int .i64 k, .int .i64 o, .int .i64 c, .int .i64 a, .int .i64 r, .int .i64 v]] w fun e w' =>
      e = .returned (.int .i64 (errB (ofB k o c a r v))) ∧ Below w.heap.size w w' := by
  cases hB : ofB k o c a r v
  all_goals
    go_enter Tryd.func10, Tryd.ntmps10
    go_wp2_with (go_at_call 12; refine (of_any _ _ _ _ _ _ _).mono ?_; rintro e w1 ⟨rfl, hb⟩)
    go_ret
    exact ⟨rfl, (((Below.refl _ _).alloc (Nat.le_refl _) _).trans (hb.mono (by simp))).alloc (by have := hb.size; simp at this; omega) _⟩

def namesB (k o c a r v : Int) : Bool := ofB k o c a r v && oidB k

set_option maxHeartbeats 400000 in
theorem names_any (k o c a r v : Int) (w : World) :
    Calls Tryd.prog 9 #[.agg #[.int .i64 k, .int .i64 o, .int .i64 c, .int .i64 a, .int .i64 r, .int .i64 v]] w fun e w' =>
      e = .returned (.tuple #[.int .i64 (if namesB k o c a r v then o else 0), .bool (namesB k o c a r v)]) ∧ Below w.heap.size w w' := by
  unfold namesB
  cases hB : ofB k o c a r v <;> cases hO : oidB k
  all_goals
    go_enter Tryd.func9, Tryd.ntmps9
    go_wp2_with (go_at_call 12; refine (of_any _ _ _ _ _ _ _).mono ?_; rintro e w1 ⟨rfl, hb⟩; obtain ⟨hc, hf⟩ := bcell hb; have hz : w.heap.size < w1.heap.size := (by have := hb.size; simp at this; omega))
    go_ret2
    exact ⟨rfl, (((Below.refl _ _).alloc (Nat.le_refl _) _).trans (hb.mono (by simp))).alloc (by have := hb.size; simp at this; omega) _⟩

end Go.Proofs.YtlfkfhdcljkhkaaDoor
