/-
  No cell of these rows narrows 'for every input' (looked for: loops, veiled, ifaces, maps, wideKeys, modest, calm, conditions, laid).
  DERIVED. THE GIVEN ROWS OF THIS SEAT. 6 by the template 'for every input the law returns true; each argument reads behind the call as it read before'; 0 by the template 'total and deterministic' (their statements: YtdpniceapmikpaaGreatTotals.lean).
  GIVEN WITH THE SEED: the statements are not yours to turn. If you find one false, say at which input.
  Laid BY PROGRAM, IN A SANDBOX (cutbox-rows.mjs): the forced cells as the released guide's own fill.sh prints them over the translation 4ac0983833ec1b74… (all of the seat's roots in one cut). By AI agents, Wed Nov 11 2026. No macro, syntax, notation, axiom, sorry.
-/
import Derived.Test.YtdpniceapmikpaaGreatChecked
import GoSem.Claim
import GoSem.ClaimJoined
import GoSem.ClaimMapViews
import Derived.JoinedTies
import Derived.KernelRfl
namespace Go.Proofs.YtdpniceapmikpaaGreat
/- THE CELL 'sum', in the pinned program and in every row, IS THE sha256 OF THE DUMP (.gsa) THAT YtdpniceapmikpaaGreatProg.lean LOADS. Nothing in Lean hashes anything: it is a label: what it is worth is what the hold of that sum in a sandbox is worth. -/
noncomputable def Tryz.pinned : Pinned := { name := "ytdpniceapmikpaagreat", sum := "4ac0983833ec1b745b12330cbd86bc1472f4017ec8dfb84045fef071825eb2eb", checked := Tryz.checked }
namespace Rows
def none {H : Type} : Left H := { results := [], args := [] }

/-- 'chatelainelaw07.LogsChecks': WHATEVER THE INPUT: true; the input reads as it did. -/
def logsChecksSpec : ChangeSpec := { name := "logsChecks", fn := fun _ => fun
  | [d1, d2, d3] => { results := [.lit (.bool true)], args := [d1, d2, d3] }
  | _ => none }
def logsChecksRow : OpenClaim := { program := "ytdpniceapmikpaagreat", sum := "4ac0983833ec1b745b12330cbd86bc1472f4017ec8dfb84045fef071825eb2eb", func := "chatelaine/chatelainelaw07.LogsChecks", spec := "logsChecks", unfollowed := true, recurses := true, apart := false }
def LogsChecksSaid : Prop := logsChecksRow.holds Tryz.pinned (OpenSpec.ofChange logsChecksSpec)

/-- ITS FALSE NEIGHBOUR: 'it returns false'. Refute it at one input. -/
def logsChecksWrong : ChangeSpec := { name := "logsChecks", fn := fun _ => fun
  | [d1, d2, d3] => { results := [.lit (.bool false)], args := [d1, d2, d3] }
  | _ => none }
def LogsChecksWrongFalsely : Prop := logsChecksRow.holds Tryz.pinned (OpenSpec.ofChange logsChecksWrong)

/-- 'chatelainelaw07.LogsStates': WHATEVER THE INPUT: true; the input reads as it did. -/
def logsStatesSpec : ChangeSpec := { name := "logsStates", fn := fun _ => fun
  | [d1, d2, d3] => { results := [.lit (.bool true)], args := [d1, d2, d3] }
  | _ => none }
def logsStatesRow : OpenClaim := { program := "ytdpniceapmikpaagreat", sum := "4ac0983833ec1b745b12330cbd86bc1472f4017ec8dfb84045fef071825eb2eb", func := "chatelaine/chatelainelaw07.LogsStates", spec := "logsStates", unfollowed := true, recurses := true, apart := false }
def LogsStatesSaid : Prop := logsStatesRow.holds Tryz.pinned (OpenSpec.ofChange logsStatesSpec)

/-- ITS FALSE NEIGHBOUR: 'it returns false'. Refute it at one input. -/
def logsStatesWrong : ChangeSpec := { name := "logsStates", fn := fun _ => fun
  | [d1, d2, d3] => { results := [.lit (.bool false)], args := [d1, d2, d3] }
  | _ => none }
def LogsStatesWrongFalsely : Prop := logsStatesRow.holds Tryz.pinned (OpenSpec.ofChange logsStatesWrong)

/-- 'chatelainelaw07.LogsObjects': WHATEVER THE INPUT: true; the input reads as it did. -/
def logsObjectsSpec : ChangeSpec := { name := "logsObjects", fn := fun _ => fun
  | [d1, d2] => { results := [.lit (.bool true)], args := [d1, d2] }
  | _ => none }
def logsObjectsRow : OpenClaim := { program := "ytdpniceapmikpaagreat", sum := "4ac0983833ec1b745b12330cbd86bc1472f4017ec8dfb84045fef071825eb2eb", func := "chatelaine/chatelainelaw07.LogsObjects", spec := "logsObjects", unfollowed := true, recurses := true, apart := false }
def LogsObjectsSaid : Prop := logsObjectsRow.holds Tryz.pinned (OpenSpec.ofChange logsObjectsSpec)

/-- ITS FALSE NEIGHBOUR: 'it returns false'. Refute it at one input. -/
def logsObjectsWrong : ChangeSpec := { name := "logsObjects", fn := fun _ => fun
  | [d1, d2] => { results := [.lit (.bool false)], args := [d1, d2] }
  | _ => none }
def LogsObjectsWrongFalsely : Prop := logsObjectsRow.holds Tryz.pinned (OpenSpec.ofChange logsObjectsWrong)

/-- 'chatelainelaw07.LogsWrites': WHATEVER THE INPUT: true; the input reads as it did. -/
def logsWritesSpec : ChangeSpec := { name := "logsWrites", fn := fun _ => fun
  | [d1, d2, d3, d4] => { results := [.lit (.bool true)], args := [d1, d2, d3, d4] }
  | _ => none }
def logsWritesRow : OpenClaim := { program := "ytdpniceapmikpaagreat", sum := "4ac0983833ec1b745b12330cbd86bc1472f4017ec8dfb84045fef071825eb2eb", func := "chatelaine/chatelainelaw07.LogsWrites", spec := "logsWrites", unfollowed := true, recurses := true, apart := false }
def LogsWritesSaid : Prop := logsWritesRow.holds Tryz.pinned (OpenSpec.ofChange logsWritesSpec)

/-- ITS FALSE NEIGHBOUR: 'it returns false'. Refute it at one input. -/
def logsWritesWrong : ChangeSpec := { name := "logsWrites", fn := fun _ => fun
  | [d1, d2, d3, d4] => { results := [.lit (.bool false)], args := [d1, d2, d3, d4] }
  | _ => none }
def LogsWritesWrongFalsely : Prop := logsWritesRow.holds Tryz.pinned (OpenSpec.ofChange logsWritesWrong)

/-- 'chatelainelaw07.LogsReads': WHATEVER THE INPUT: true; the input reads as it did. -/
def logsReadsSpec : ChangeSpec := { name := "logsReads", fn := fun _ => fun
  | [d1, d2, d3, d4, d5] => { results := [.lit (.bool true)], args := [d1, d2, d3, d4, d5] }
  | _ => none }
def logsReadsRow : OpenClaim := { program := "ytdpniceapmikpaagreat", sum := "4ac0983833ec1b745b12330cbd86bc1472f4017ec8dfb84045fef071825eb2eb", func := "chatelaine/chatelainelaw07.LogsReads", spec := "logsReads", unfollowed := true, recurses := true, apart := false }
def LogsReadsSaid : Prop := logsReadsRow.holds Tryz.pinned (OpenSpec.ofChange logsReadsSpec)

/-- ITS FALSE NEIGHBOUR: 'it returns false'. Refute it at one input. -/
def logsReadsWrong : ChangeSpec := { name := "logsReads", fn := fun _ => fun
  | [d1, d2, d3, d4, d5] => { results := [.lit (.bool false)], args := [d1, d2, d3, d4, d5] }
  | _ => none }
def LogsReadsWrongFalsely : Prop := logsReadsRow.holds Tryz.pinned (OpenSpec.ofChange logsReadsWrong)

/-- 'chatelainelaw07.LogsWhole': WHATEVER THE INPUT: true; the input reads as it did. -/
def logsWholeSpec : ChangeSpec := { name := "logsWhole", fn := fun _ => fun
  | [d1, d2, d3, d4] => { results := [.lit (.bool true)], args := [d1, d2, d3, d4] }
  | _ => none }
def logsWholeRow : OpenClaim := { program := "ytdpniceapmikpaagreat", sum := "4ac0983833ec1b745b12330cbd86bc1472f4017ec8dfb84045fef071825eb2eb", func := "chatelaine/chatelainelaw07.LogsWhole", spec := "logsWhole", unfollowed := true, recurses := true, apart := false }
def LogsWholeSaid : Prop := logsWholeRow.holds Tryz.pinned (OpenSpec.ofChange logsWholeSpec)

/-- ITS FALSE NEIGHBOUR: 'it returns false'. Refute it at one input. -/
def logsWholeWrong : ChangeSpec := { name := "logsWhole", fn := fun _ => fun
  | [d1, d2, d3, d4] => { results := [.lit (.bool false)], args := [d1, d2, d3, d4] }
  | _ => none }
def LogsWholeWrongFalsely : Prop := logsWholeRow.holds Tryz.pinned (OpenSpec.ofChange logsWholeWrong)

/- THE SECOND FORM. 'bulk': how many values and letters a reading holds, each counted each time it is reached (what is shared counts as often as it is met; a slice's spare places count too). A statement '..UptoSaid' is the law's where the arguments, and the package variables that the reading takes, are together of bulk at most 1048576: NARROWER than '..Said'. Prove '..Said' where nothing that the law and all that it calls make is longer than what came in: it says more and counts as full. Else prove '..UptoSaid'. A law counts once. -/
mutual
def uptoBulk {H : Type} : DataW H → Nat
  | .lit (.string bytes) => bytes.length + 1
  | .lit _ => 1
  | .nil => 1
  | .ptr d => uptoBulk d + 1
  | .slice elems spare => uptoBulkAll elems + uptoBulkAll spare + 1
  | .agg parts => uptoBulkAll parts + 1
  | .iface _ d => uptoBulk d + 1
  | .map entries => uptoBulkEntries entries + 1
  | .held _ => 1
def uptoBulkAll {H : Type} : List (DataW H) → Nat
  | [] => 0
  | d :: r => uptoBulk d + uptoBulkAll r
def uptoBulkEntries {H : Type} : List (Lit × DataW H) → Nat
  | [] => 0
  | x :: r => uptoBulkEntry x + uptoBulkEntries r
def uptoBulkEntry {H : Type} : Lit × DataW H → Nat
  | (.string bytes, d) => bytes.length + uptoBulk d + 1
  | (_, d) => uptoBulk d + 1
 end
def uptoSmall : (H : Type) → List (DataW H) → Bool := fun _ ds => decide (uptoBulkAll ds ≤ 1048576)
def OpenSpec.upto (s : _root_.Go.ChangeSpec) : _root_.Go.OpenSpec := { _root_.Go.OpenSpec.ofChange s with cond := some uptoSmall }

/-- 'chatelainelaw07.LogsChecks', WHERE WHAT IT READS IS OF BULK AT MOST 1048576: true; the input reads as it did. -/
def logsChecksUptoRow : OpenClaim := { program := "ytdpniceapmikpaagreat", sum := "4ac0983833ec1b745b12330cbd86bc1472f4017ec8dfb84045fef071825eb2eb", func := "chatelaine/chatelainelaw07.LogsChecks", spec := "logsChecks", unfollowed := true, recurses := true, apart := false, narrowed := true }
def LogsChecksUptoSaid : Prop := logsChecksUptoRow.holds Tryz.pinned (OpenSpec.upto logsChecksSpec)

/-- 'chatelainelaw07.LogsStates', WHERE WHAT IT READS IS OF BULK AT MOST 1048576: true; the input reads as it did. -/
def logsStatesUptoRow : OpenClaim := { program := "ytdpniceapmikpaagreat", sum := "4ac0983833ec1b745b12330cbd86bc1472f4017ec8dfb84045fef071825eb2eb", func := "chatelaine/chatelainelaw07.LogsStates", spec := "logsStates", unfollowed := true, recurses := true, apart := false, narrowed := true }
def LogsStatesUptoSaid : Prop := logsStatesUptoRow.holds Tryz.pinned (OpenSpec.upto logsStatesSpec)

/-- 'chatelainelaw07.LogsObjects', WHERE WHAT IT READS IS OF BULK AT MOST 1048576: true; the input reads as it did. -/
def logsObjectsUptoRow : OpenClaim := { program := "ytdpniceapmikpaagreat", sum := "4ac0983833ec1b745b12330cbd86bc1472f4017ec8dfb84045fef071825eb2eb", func := "chatelaine/chatelainelaw07.LogsObjects", spec := "logsObjects", unfollowed := true, recurses := true, apart := false, narrowed := true }
def LogsObjectsUptoSaid : Prop := logsObjectsUptoRow.holds Tryz.pinned (OpenSpec.upto logsObjectsSpec)

/-- 'chatelainelaw07.LogsWrites', WHERE WHAT IT READS IS OF BULK AT MOST 1048576: true; the input reads as it did. -/
def logsWritesUptoRow : OpenClaim := { program := "ytdpniceapmikpaagreat", sum := "4ac0983833ec1b745b12330cbd86bc1472f4017ec8dfb84045fef071825eb2eb", func := "chatelaine/chatelainelaw07.LogsWrites", spec := "logsWrites", unfollowed := true, recurses := true, apart := false, narrowed := true }
def LogsWritesUptoSaid : Prop := logsWritesUptoRow.holds Tryz.pinned (OpenSpec.upto logsWritesSpec)

/-- 'chatelainelaw07.LogsReads', WHERE WHAT IT READS IS OF BULK AT MOST 1048576: true; the input reads as it did. -/
def logsReadsUptoRow : OpenClaim := { program := "ytdpniceapmikpaagreat", sum := "4ac0983833ec1b745b12330cbd86bc1472f4017ec8dfb84045fef071825eb2eb", func := "chatelaine/chatelainelaw07.LogsReads", spec := "logsReads", unfollowed := true, recurses := true, apart := false, narrowed := true }
def LogsReadsUptoSaid : Prop := logsReadsUptoRow.holds Tryz.pinned (OpenSpec.upto logsReadsSpec)

/-- 'chatelainelaw07.LogsWhole', WHERE WHAT IT READS IS OF BULK AT MOST 1048576: true; the input reads as it did. -/
def logsWholeUptoRow : OpenClaim := { program := "ytdpniceapmikpaagreat", sum := "4ac0983833ec1b745b12330cbd86bc1472f4017ec8dfb84045fef071825eb2eb", func := "chatelaine/chatelainelaw07.LogsWhole", spec := "logsWhole", unfollowed := true, recurses := true, apart := false, narrowed := true }
def LogsWholeUptoSaid : Prop := logsWholeUptoRow.holds Tryz.pinned (OpenSpec.upto logsWholeSpec)

end Rows
end Go.Proofs.YtdpniceapmikpaaGreat
