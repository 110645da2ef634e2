/-
  The contract of the reference's Check (logs), of all frames.
-/
import Derived.Test.YtdpniceapmikpaaGreatSt34
set_option linter.unusedVariables false
set_option linter.unusedSimpArgs false
namespace Go.Proofs.YtdpniceapmikpaaGreat
open Go.RowKit

set_option maxRecDepth 100000 in
set_option maxHeartbeats 4000000 in
theorem rlcheck_no (N ed : Int) (n m sl : Nat) (ao ab aw : Option Addr) (co cb cs : Nat) (w : World) (hpre : (rightB N && framePre N ed n m sl) = false) :
  Calls Tryz.prog 13 #[.agg #[.int .i64 N], .agg #[.int .i64 ed, .slice ao n co, .slice ab m cb, .slice aw sl cs]] w fun e w' =>
  e = .returned (.int .i64 2) ∧ Below w.heap.size w w' := by
 have hs : rightB N = false ∨ (rightB N = true ∧ (ed < 0 ∨ (¬ ed < 0 ∧ ((n : Int) != (m : Int)) = true) ∨ (¬ ed < 0 ∧ ((n : Int) != (m : Int)) = false ∧ (sl : Int) > 4096) ∨ (¬ ed < 0 ∧ ((n : Int) != (m : Int)) = false ∧ ¬ (sl : Int) > 4096 ∧ (n : Int) > N))) := by
  cases hR : rightB N
  ·exact .inl rfl
  ·right
   rw [hR, Bool.true_and] at hpre
   refine ⟨rfl, ?_⟩
   simp [framePre] at hpre
   simp
   omega
 clear hpre
 rcases hs with hR | ⟨hR, hs⟩
 ·go_enter Tryz.func13, Tryz.ntmps13
  go_wp2_with fail
  refine (rright_any N _).mono ?_; rintro e w1 ⟨rfl, hb⟩
  have hB := (((Below.refl w.heap.size w).alloc (Nat.le_refl _) (.cells #[.int .i64 N] 23)).alloc (by simp) (.cells #[.int .i64 ed, .slice ao n co, .slice ab m cb, .slice aw sl cs] 28)).trans (hb.mono (by simp; omega))
  have he2 : errB false = 2 := rfl
  rw [hR]
  go_wp2_with fail
  go_ret
  exact ⟨rfl, hB⟩
 ·rcases hs with h1 | ⟨h1, h2⟩ | ⟨h1, h2, h3⟩ | ⟨h1, h2, h3, h4⟩
  all_goals
   go_enter Tryz.func13, Tryz.ntmps13
   go_wp2_with fail
   refine (rright_any N _).mono ?_; rintro e w1 ⟨rfl, hb⟩
   have K1 : Blk w1 w.heap.size 23 #[.int .i64 N] := ((Blk.new w _ _).alloc _).below hb (by simp; omega)
   have K2 : Blk w1 (w.heap.size + 1) 28 #[.int .i64 ed, .slice ao n co, .slice ab m cb, .slice aw sl cs] := (Blk.new2 w _ _ _).below hb (by simp)
   have hB := (((Below.refl w.heap.size w).alloc (Nat.le_refl _) (.cells #[.int .i64 N] 23)).alloc (by simp) (.cells #[.int .i64 ed, .slice ao n co, .slice ab m cb, .slice aw sl cs] 28)).trans (hb.mono (by simp; omega))
   have c0 := K1.cell_is 0 rfl
   have d0 := K2.cell_is 0 rfl
   have d1 := K2.cell_is 1 rfl
   have d2 := K2.cell_is 2 rfl
   have d3 := K2.cell_is 3 rfl
   have he : errB true = 0 := rfl
   rw [hR]
   clear hb K1 K2
   go_wp2_with fail
   go_ret
   exact ⟨rfl, hB⟩

theorem rlcheck_any (N : Int) (f : FrameD) (v : Value) (w : World) (h : FrameIn w w.heap.size v f) : Calls Tryz.prog 13 #[.agg #[.int .i64 N], v] w fun e w' => e = .returned (.int .i64 (errB (frameB N f))) ∧ Below w.heap.size w w' := by
 obtain ⟨vo, vb, vs, rfl, h1, h2, h3⟩ := h
 obtain ⟨_, ao, co, e1, _, _⟩ := id h1
 obtain ⟨_, ab, cb, e2, _, _⟩ := id h2
 obtain ⟨_, aw, cs, e3, _, _⟩ := id h3
 subst e1 e2 e3
 have e : frameB N f = ((rightB N && framePre N f.ed f.oids.length f.objs.length f.state.length) && rowsB N (-1) f.oids f.objs) := by
  unfold frameB; rw [Bool.and_assoc]
 rw [e]
 cases hp : (rightB N && framePre N f.ed f.oids.length f.objs.length f.state.length)
 ·exact rlcheck_no N f.ed _ _ _ ao ab aw co cb cs w hp
 ·rw [Bool.true_and]
  exact rlcheck_raw N f.ed f.oids f.objs _ ao ab aw co cb cs w h1 h2 hp
end Go.Proofs.YtdpniceapmikpaaGreat
