/-
  The contracts of keys.Weaken and keys.Less, for all keys.
-/
import Derived.Test.YtlfkfhdcljkhkaaDoorWeaken
namespace Go.Proofs.YtlfkfhdcljkhkaaDoor
open Go.RowKit

def wsel (k x : Int) : Int := if k = 1 ∨ k = 2 ∨ k = 3 ∨ k = 8 then x else 0
def wrig (k r : Int) : Int := if k = 2 then bits .or .i64 r 3 else if k = 3 then bits .or .i64 r 1 else wsel k r

theorem weaken_yes (k o c a r v : Int) (w : World) (hB : ofB k o c a r v = true) :
    Calls Tryd.prog 8 #[.agg #[.int .i64 k, .int .i64 o, .int .i64 c, .int .i64 a, .int .i64 r, .int .i64 v]] w fun e w' =>
      e = .returned (.tuple #[.agg #[.int .i64 (wsel k k), .int .i64 (wsel k o), .int .i64 (wsel k c), .int .i64 (wsel k a), .int .i64 (wrig k r), .int .i64 (wsel k v)], .int .i64 0]) ∧ Below w.heap.size w w' := by
  by_cases h2 : k = 2
  · subst h2; exact weaken_2 o c a r v w hB
  by_cases h3 : k = 3
  · subst h3; exact weaken_3 o c a r v w hB
  by_cases h1 : k = 1
  · subst h1; exact weaken_1 o c a r v w hB
  by_cases h8 : k = 8
  · subst h8; exact weaken_8 o c a r v w hB
  have h := weaken_n k o c a r v w ⟨h1, h2, h3, h8⟩ hB
  have hs : ∀ x, wsel k x = 0 := fun x => by unfold wsel; rw [if_neg (by omega)]
  have hr : wrig k r = 0 := by unfold wrig; rw [if_neg h2, if_neg h3, hs]
  rw [hs, hs, hs, hs, hs, hr]
  exact h

end Go.Proofs.YtlfkfhdcljkhkaaDoor
