/-
  DERIVED. GIVEN WITH THE SEED: THE CARDS: each row of YtlfkfhdcljkhkaaDoorRows.lean that lists a variable, with what it lists TIED to the program's text (the seventh form; the later family's looks); each row that meets fmt, with fmt's text TOLD by the authors' own Lean function (tested against real Go, not proved from fmt's source: count such statements apart). THE CARD IS WHAT COUNTS. Prove the row's statement (the work); the ties are given (YtlfkfhdcljkhkaaDoorTie.lean); close each card by the builder's one call (the guide's Derived/Test/ToyasCard.lean, 'card_holds'). Laid BY PROGRAM, IN A SANDBOX (cutbox-door.mjs). By AI agents, Wed Nov 11 2026. No macro, syntax, notation, axiom, sorry.
-/
import Derived.Test.YtlfkfhdcljkhkaaDoorRows
import GoSem.ClaimSeven
namespace Go.Proofs.YtlfkfhdcljkhkaaDoor
namespace Rows

/-- THE TIED CARD OF 'chatelainelaw03.KeysText'. -/
def keysTextCard : Claim7 := { stood := { row := keysTextRow, standIns := [], harness := (true, "570991517dab68ed7d6e93b201b5965b7da945640c83f9f25814213dca021ed3"), looks := false }, kinds := [], alts := [], laidByText := true, laidKinds := [.data, .data, .data], laidTests := true, laidLooks := .later }
def KeysTextCardSaid : Prop := Claim7.holds Tryd.pinned (.plain (OpenSpec.ofChange keysTextSpec)) keysTextCard

/-- THE SECOND FORM's CARD OF 'chatelainelaw03.KeysText'. -/
def keysTextUptoCard : Claim7 := { stood := { row := keysTextUptoRow, standIns := [], harness := (true, "570991517dab68ed7d6e93b201b5965b7da945640c83f9f25814213dca021ed3"), looks := false }, kinds := [], alts := [], laidByText := true, laidKinds := [.data, .data, .data], laidTests := true, laidLooks := .later }
def KeysTextUptoCardSaid : Prop := Claim7.holds Tryd.pinned (.plain (OpenSpec.upto keysTextSpec)) keysTextUptoCard
end Rows
end Go.Proofs.YtlfkfhdcljkhkaaDoor
