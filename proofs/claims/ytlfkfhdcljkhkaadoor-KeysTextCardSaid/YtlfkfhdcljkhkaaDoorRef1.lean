/-
  The contracts of the reference's names and Check, for all keys.
-/
import Derived.Test.YtlfkfhdcljkhkaaDoorKeys1
namespace Go.Proofs.YtlfkfhdcljkhkaaDoor
open Go.RowKit

theorem results_tmp4 {fn : Func} {t u v x : Tmp} (h : fn.results = #[.tmp t, .tmp u, .tmp v, .tmp x]) (tmps : Array Value) (P : Program) (w : World) :
    (results fn tmps).run P w = .ok (.tuple #[tmps.getD t undef, tmps.getD u undef, tmps.getD v undef, tmps.getD x undef]) w := by simp [results, h]

set_option maxHeartbeats 400000 in
theorem names4_any (k : Int) (w : World) :
    Calls Tryd.prog 16 #[.int .i64 k] w fun e w' =>
      e = .returned (.tuple #[.bool (oidB k), .bool (rightsB k), .bool (callB k), .bool (valueB k)]) ∧ w = w' := by
  go_enter Tryd.func16, Tryd.ntmps16
  go_wp2
  all_goals refine bodyPost_ret (results_tmp4 rfl _ _ _) rfl ?_
  all_goals refine ⟨?_, rfl⟩
  all_goals go_light
  all_goals (simp [oidB, rightsB, callB, valueB, *] <;> omega)

end Go.Proofs.YtlfkfhdcljkhkaaDoor
