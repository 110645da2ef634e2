/-
  No cell of these rows narrows 'for every input' (looked for: loops, veiled, ifaces, maps, wideKeys, modest, calm, conditions, laid).
  DERIVED. THE GIVEN ROWS OF THIS SEAT. 8 by the template 'for every input the law returns true; each argument reads behind the call as it read before'; 0 by the template 'total and deterministic' (their statements: YtlfkfhdcljkhkaaTotals.lean).
  GIVEN WITH THE SEED: the statements are not yours to turn. If you find one false, say at which input.
  Laid BY PROGRAM, IN A SANDBOX (cutbox-rows.mjs): the forced cells as the released guide's own fill.sh prints them over the translation ced6a053e697b91c… (all of the seat's roots in one cut). By AI agents, Wed Nov 11 2026. No macro, syntax, notation, axiom, sorry.
-/
import Derived.Test.YtlfkfhdcljkhkaaChecked
import GoSem.Claim
import GoSem.ClaimJoined
import GoSem.ClaimMapViews
import Derived.JoinedTies
import Derived.KernelRfl
namespace Go.Proofs.Ytlfkfhdcljkhkaa
/- THE CELL 'sum', in the pinned program and in every row, IS THE sha256 OF THE DUMP (.gsa) THAT YtlfkfhdcljkhkaaProg.lean LOADS. Nothing in Lean hashes anything: it is a label: what it is worth is what the hold of that sum in a sandbox is worth. -/
noncomputable def Try.pinned : Pinned := { name := "ytlfkfhdcljkhkaa", sum := "ced6a053e697b91c98c1dc54bd2024788877c671a75966684ccae5be3ebbbc99", checked := Try.checked }
namespace Rows
def none {H : Type} : Left H := { results := [], args := [] }

/-- 'chatelainelaw03.KeysWithin': WHATEVER THE INPUT: true; the input reads as it did. -/
def keysWithinSpec : ChangeSpec := { name := "keysWithin", fn := fun _ => fun
  | [d1, d2] => { results := [.lit (.bool true)], args := [d1, d2] }
  | _ => none }
def keysWithinRow : OpenClaim := { program := "ytlfkfhdcljkhkaa", sum := "ced6a053e697b91c98c1dc54bd2024788877c671a75966684ccae5be3ebbbc99", func := "chatelaine/chatelainelaw03.KeysWithin", spec := "keysWithin", unfollowed := true, recurses := true, apart := false }
def KeysWithinSaid : Prop := keysWithinRow.holds Try.pinned (OpenSpec.ofChange keysWithinSpec)

/-- ITS FALSE NEIGHBOUR: 'it returns false'. Refute it at one input. -/
def keysWithinWrong : ChangeSpec := { name := "keysWithin", fn := fun _ => fun
  | [d1, d2] => { results := [.lit (.bool false)], args := [d1, d2] }
  | _ => none }
def KeysWithinWrongFalsely : Prop := keysWithinRow.holds Try.pinned (OpenSpec.ofChange keysWithinWrong)

/-- 'chatelainelaw03.KeysCheck': WHATEVER THE INPUT: true; the input reads as it did. -/
def keysCheckSpec : ChangeSpec := { name := "keysCheck", fn := fun _ => fun
  | [d] => { results := [.lit (.bool true)], args := [d] }
  | _ => none }
def keysCheckRow : OpenClaim := { program := "ytlfkfhdcljkhkaa", sum := "ced6a053e697b91c98c1dc54bd2024788877c671a75966684ccae5be3ebbbc99", func := "chatelaine/chatelainelaw03.KeysCheck", spec := "keysCheck", unfollowed := true, recurses := true, apart := false }
def KeysCheckSaid : Prop := keysCheckRow.holds Try.pinned (OpenSpec.ofChange keysCheckSpec)

/-- ITS FALSE NEIGHBOUR: 'it returns false'. Refute it at one input. -/
def keysCheckWrong : ChangeSpec := { name := "keysCheck", fn := fun _ => fun
  | [d] => { results := [.lit (.bool false)], args := [d] }
  | _ => none }
def KeysCheckWrongFalsely : Prop := keysCheckRow.holds Try.pinned (OpenSpec.ofChange keysCheckWrong)

/-- 'chatelainelaw03.KeysMany': WHATEVER THE INPUT: true; the input reads as it did. -/
def keysManySpec : ChangeSpec := { name := "keysMany", fn := fun _ => fun
  | [d] => { results := [.lit (.bool true)], args := [d] }
  | _ => none }
def keysManyRow : OpenClaim := { program := "ytlfkfhdcljkhkaa", sum := "ced6a053e697b91c98c1dc54bd2024788877c671a75966684ccae5be3ebbbc99", func := "chatelaine/chatelainelaw03.KeysMany", spec := "keysMany", unfollowed := true, recurses := true, apart := false }
def KeysManySaid : Prop := keysManyRow.holds Try.pinned (OpenSpec.ofChange keysManySpec)

/-- ITS FALSE NEIGHBOUR: 'it returns false'. Refute it at one input. -/
def keysManyWrong : ChangeSpec := { name := "keysMany", fn := fun _ => fun
  | [d] => { results := [.lit (.bool false)], args := [d] }
  | _ => none }
def KeysManyWrongFalsely : Prop := keysManyRow.holds Try.pinned (OpenSpec.ofChange keysManyWrong)

/-- 'chatelainelaw03.KeysWeak': WHATEVER THE INPUT: true; the input reads as it did. -/
def keysWeakSpec : ChangeSpec := { name := "keysWeak", fn := fun _ => fun
  | [d1, d2] => { results := [.lit (.bool true)], args := [d1, d2] }
  | _ => none }
def keysWeakRow : OpenClaim := { program := "ytlfkfhdcljkhkaa", sum := "ced6a053e697b91c98c1dc54bd2024788877c671a75966684ccae5be3ebbbc99", func := "chatelaine/chatelainelaw03.KeysWeak", spec := "keysWeak", unfollowed := true, recurses := true, apart := false }
def KeysWeakSaid : Prop := keysWeakRow.holds Try.pinned (OpenSpec.ofChange keysWeakSpec)

/-- ITS FALSE NEIGHBOUR: 'it returns false'. Refute it at one input. -/
def keysWeakWrong : ChangeSpec := { name := "keysWeak", fn := fun _ => fun
  | [d1, d2] => { results := [.lit (.bool false)], args := [d1, d2] }
  | _ => none }
def KeysWeakWrongFalsely : Prop := keysWeakRow.holds Try.pinned (OpenSpec.ofChange keysWeakWrong)

/-- 'chatelainelaw03.KeysOrders': WHATEVER THE INPUT: true; the input reads as it did. -/
def keysOrdersSpec : ChangeSpec := { name := "keysOrders", fn := fun _ => fun
  | [d1, d2, d3] => { results := [.lit (.bool true)], args := [d1, d2, d3] }
  | _ => none }
def keysOrdersRow : OpenClaim := { program := "ytlfkfhdcljkhkaa", sum := "ced6a053e697b91c98c1dc54bd2024788877c671a75966684ccae5be3ebbbc99", func := "chatelaine/chatelainelaw03.KeysOrders", spec := "keysOrders", unfollowed := true, recurses := true, apart := false }
def KeysOrdersSaid : Prop := keysOrdersRow.holds Try.pinned (OpenSpec.ofChange keysOrdersSpec)

/-- ITS FALSE NEIGHBOUR: 'it returns false'. Refute it at one input. -/
def keysOrdersWrong : ChangeSpec := { name := "keysOrders", fn := fun _ => fun
  | [d1, d2, d3] => { results := [.lit (.bool false)], args := [d1, d2, d3] }
  | _ => none }
def KeysOrdersWrongFalsely : Prop := keysOrdersRow.holds Try.pinned (OpenSpec.ofChange keysOrdersWrong)

/-- 'chatelainelaw03.KeysRights': WHATEVER THE INPUT: true; the input reads as it did. -/
def keysRightsSpec : ChangeSpec := { name := "keysRights", fn := fun _ => fun
  | [d] => { results := [.lit (.bool true)], args := [d] }
  | _ => none }
def keysRightsRow : OpenClaim := { program := "ytlfkfhdcljkhkaa", sum := "ced6a053e697b91c98c1dc54bd2024788877c671a75966684ccae5be3ebbbc99", func := "chatelaine/chatelainelaw03.KeysRights", spec := "keysRights", unfollowed := true, recurses := true, apart := false }
def KeysRightsSaid : Prop := keysRightsRow.holds Try.pinned (OpenSpec.ofChange keysRightsSpec)

/-- ITS FALSE NEIGHBOUR: 'it returns false'. Refute it at one input. -/
def keysRightsWrong : ChangeSpec := { name := "keysRights", fn := fun _ => fun
  | [d] => { results := [.lit (.bool false)], args := [d] }
  | _ => none }
def KeysRightsWrongFalsely : Prop := keysRightsRow.holds Try.pinned (OpenSpec.ofChange keysRightsWrong)

/-- 'chatelainelaw03.KeysCounts': WHATEVER THE INPUT: true; the input reads as it did. -/
def keysCountsSpec : ChangeSpec := { name := "keysCounts", fn := fun _ => fun
  | [d1, d2] => { results := [.lit (.bool true)], args := [d1, d2] }
  | _ => none }
def keysCountsRow : OpenClaim := { program := "ytlfkfhdcljkhkaa", sum := "ced6a053e697b91c98c1dc54bd2024788877c671a75966684ccae5be3ebbbc99", func := "chatelaine/chatelainelaw03.KeysCounts", spec := "keysCounts", unfollowed := true, recurses := true, apart := false }
def KeysCountsSaid : Prop := keysCountsRow.holds Try.pinned (OpenSpec.ofChange keysCountsSpec)

/-- ITS FALSE NEIGHBOUR: 'it returns false'. Refute it at one input. -/
def keysCountsWrong : ChangeSpec := { name := "keysCounts", fn := fun _ => fun
  | [d1, d2] => { results := [.lit (.bool false)], args := [d1, d2] }
  | _ => none }
def KeysCountsWrongFalsely : Prop := keysCountsRow.holds Try.pinned (OpenSpec.ofChange keysCountsWrong)

/-- 'chatelainelaw03.KeysOrder': WHATEVER THE INPUT: true; the input reads as it did. -/
def keysOrderSpec : ChangeSpec := { name := "keysOrder", fn := fun _ => fun
  | [d1, d2, d3] => { results := [.lit (.bool true)], args := [d1, d2, d3] }
  | _ => none }
def keysOrderRow : OpenClaim := { program := "ytlfkfhdcljkhkaa", sum := "ced6a053e697b91c98c1dc54bd2024788877c671a75966684ccae5be3ebbbc99", func := "chatelaine/chatelainelaw03.KeysOrder", spec := "keysOrder", unfollowed := true, recurses := true, apart := false }
def KeysOrderSaid : Prop := keysOrderRow.holds Try.pinned (OpenSpec.ofChange keysOrderSpec)

/-- ITS FALSE NEIGHBOUR: 'it returns false'. Refute it at one input. -/
def keysOrderWrong : ChangeSpec := { name := "keysOrder", fn := fun _ => fun
  | [d1, d2, d3] => { results := [.lit (.bool false)], args := [d1, d2, d3] }
  | _ => none }
def KeysOrderWrongFalsely : Prop := keysOrderRow.holds Try.pinned (OpenSpec.ofChange keysOrderWrong)

/- THE SECOND FORM. 'bulk': how many values and letters a reading holds, each counted each time it is reached (what is shared counts as often as it is met; a slice's spare places count too). A statement '..UptoSaid' is the law's where the arguments, and the package variables that the reading takes, are together of bulk at most 1048576: NARROWER than '..Said'. Prove '..Said' where nothing that the law and all that it calls make is longer than what came in: it says more and counts as full. Else prove '..UptoSaid'. A law counts once. -/
mutual
def uptoBulk {H : Type} : DataW H → Nat
  | .lit (.string bytes) => bytes.length + 1
  | .lit _ => 1
  | .nil => 1
  | .ptr d => uptoBulk d + 1
  | .slice elems spare => uptoBulkAll elems + uptoBulkAll spare + 1
  | .agg parts => uptoBulkAll parts + 1
  | .iface _ d => uptoBulk d + 1
  | .map entries => uptoBulkEntries entries + 1
  | .held _ => 1
def uptoBulkAll {H : Type} : List (DataW H) → Nat
  | [] => 0
  | d :: r => uptoBulk d + uptoBulkAll r
def uptoBulkEntries {H : Type} : List (Lit × DataW H) → Nat
  | [] => 0
  | x :: r => uptoBulkEntry x + uptoBulkEntries r
def uptoBulkEntry {H : Type} : Lit × DataW H → Nat
  | (.string bytes, d) => bytes.length + uptoBulk d + 1
  | (_, d) => uptoBulk d + 1
 end
def uptoSmall : (H : Type) → List (DataW H) → Bool := fun _ ds => decide (uptoBulkAll ds ≤ 1048576)
def OpenSpec.upto (s : _root_.Go.ChangeSpec) : _root_.Go.OpenSpec := { _root_.Go.OpenSpec.ofChange s with cond := some uptoSmall }

/-- 'chatelainelaw03.KeysWithin', WHERE WHAT IT READS IS OF BULK AT MOST 1048576: true; the input reads as it did. -/
def keysWithinUptoRow : OpenClaim := { program := "ytlfkfhdcljkhkaa", sum := "ced6a053e697b91c98c1dc54bd2024788877c671a75966684ccae5be3ebbbc99", func := "chatelaine/chatelainelaw03.KeysWithin", spec := "keysWithin", unfollowed := true, recurses := true, apart := false, narrowed := true }
def KeysWithinUptoSaid : Prop := keysWithinUptoRow.holds Try.pinned (OpenSpec.upto keysWithinSpec)

/-- 'chatelainelaw03.KeysCheck', WHERE WHAT IT READS IS OF BULK AT MOST 1048576: true; the input reads as it did. -/
def keysCheckUptoRow : OpenClaim := { program := "ytlfkfhdcljkhkaa", sum := "ced6a053e697b91c98c1dc54bd2024788877c671a75966684ccae5be3ebbbc99", func := "chatelaine/chatelainelaw03.KeysCheck", spec := "keysCheck", unfollowed := true, recurses := true, apart := false, narrowed := true }
def KeysCheckUptoSaid : Prop := keysCheckUptoRow.holds Try.pinned (OpenSpec.upto keysCheckSpec)

/-- 'chatelainelaw03.KeysMany', WHERE WHAT IT READS IS OF BULK AT MOST 1048576: true; the input reads as it did. -/
def keysManyUptoRow : OpenClaim := { program := "ytlfkfhdcljkhkaa", sum := "ced6a053e697b91c98c1dc54bd2024788877c671a75966684ccae5be3ebbbc99", func := "chatelaine/chatelainelaw03.KeysMany", spec := "keysMany", unfollowed := true, recurses := true, apart := false, narrowed := true }
def KeysManyUptoSaid : Prop := keysManyUptoRow.holds Try.pinned (OpenSpec.upto keysManySpec)

/-- 'chatelainelaw03.KeysWeak', WHERE WHAT IT READS IS OF BULK AT MOST 1048576: true; the input reads as it did. -/
def keysWeakUptoRow : OpenClaim := { program := "ytlfkfhdcljkhkaa", sum := "ced6a053e697b91c98c1dc54bd2024788877c671a75966684ccae5be3ebbbc99", func := "chatelaine/chatelainelaw03.KeysWeak", spec := "keysWeak", unfollowed := true, recurses := true, apart := false, narrowed := true }
def KeysWeakUptoSaid : Prop := keysWeakUptoRow.holds Try.pinned (OpenSpec.upto keysWeakSpec)

/-- 'chatelainelaw03.KeysOrders', WHERE WHAT IT READS IS OF BULK AT MOST 1048576: true; the input reads as it did. -/
def keysOrdersUptoRow : OpenClaim := { program := "ytlfkfhdcljkhkaa", sum := "ced6a053e697b91c98c1dc54bd2024788877c671a75966684ccae5be3ebbbc99", func := "chatelaine/chatelainelaw03.KeysOrders", spec := "keysOrders", unfollowed := true, recurses := true, apart := false, narrowed := true }
def KeysOrdersUptoSaid : Prop := keysOrdersUptoRow.holds Try.pinned (OpenSpec.upto keysOrdersSpec)

/-- 'chatelainelaw03.KeysRights', WHERE WHAT IT READS IS OF BULK AT MOST 1048576: true; the input reads as it did. -/
def keysRightsUptoRow : OpenClaim := { program := "ytlfkfhdcljkhkaa", sum := "ced6a053e697b91c98c1dc54bd2024788877c671a75966684ccae5be3ebbbc99", func := "chatelaine/chatelainelaw03.KeysRights", spec := "keysRights", unfollowed := true, recurses := true, apart := false, narrowed := true }
def KeysRightsUptoSaid : Prop := keysRightsUptoRow.holds Try.pinned (OpenSpec.upto keysRightsSpec)

/-- 'chatelainelaw03.KeysCounts', WHERE WHAT IT READS IS OF BULK AT MOST 1048576: true; the input reads as it did. -/
def keysCountsUptoRow : OpenClaim := { program := "ytlfkfhdcljkhkaa", sum := "ced6a053e697b91c98c1dc54bd2024788877c671a75966684ccae5be3ebbbc99", func := "chatelaine/chatelainelaw03.KeysCounts", spec := "keysCounts", unfollowed := true, recurses := true, apart := false, narrowed := true }
def KeysCountsUptoSaid : Prop := keysCountsUptoRow.holds Try.pinned (OpenSpec.upto keysCountsSpec)

/-- 'chatelainelaw03.KeysOrder', WHERE WHAT IT READS IS OF BULK AT MOST 1048576: true; the input reads as it did. -/
def keysOrderUptoRow : OpenClaim := { program := "ytlfkfhdcljkhkaa", sum := "ced6a053e697b91c98c1dc54bd2024788877c671a75966684ccae5be3ebbbc99", func := "chatelaine/chatelainelaw03.KeysOrder", spec := "keysOrder", unfollowed := true, recurses := true, apart := false, narrowed := true }
def KeysOrderUptoSaid : Prop := keysOrderUptoRow.holds Try.pinned (OpenSpec.upto keysOrderSpec)

end Rows
end Go.Proofs.Ytlfkfhdcljkhkaa
