/-
  No cell of these rows narrows 'for every input' (looked for: loops, veiled, ifaces, maps, wideKeys, modest, calm, conditions, laid).
  DERIVED. THE GIVEN ROWS OF THIS SEAT. 8 by the template 'for every input the law returns true; each argument reads behind the call as it read before'; 0 by the template 'total and deterministic' (their statements: YtemcgfncahccgaaGreatTotals.lean).
  GIVEN WITH THE SEED: the statements are not yours to turn. If you find one false, say at which input.
  Laid BY PROGRAM, IN A SANDBOX (cutbox-rows.mjs): the forced cells as the released guide's own fill.sh prints them over the translation 80e5933b75f64b40… (all of the seat's roots in one cut). By AI agents, Wed Nov 11 2026. No macro, syntax, notation, axiom, sorry.
-/
import Derived.Test.YtemcgfncahccgaaGreatChecked
import GoSem.Claim
import GoSem.ClaimJoined
import GoSem.ClaimMapViews
import Derived.JoinedTies
import Derived.KernelRfl
namespace Go.Proofs.YtemcgfncahccgaaGreat
/- THE CELL 'sum', in the pinned program and in every row, IS THE sha256 OF THE DUMP (.gsa) THAT YtemcgfncahccgaaGreatProg.lean LOADS. Nothing in Lean hashes anything: it is a label: what it is worth is what the hold of that sum in a sandbox is worth. -/
noncomputable def Tryz.pinned : Pinned := { name := "ytemcgfncahccgaagreat", sum := "80e5933b75f64b40e7d98c809b9aa200cfc8ba3627f2b5377981a96a67ede686", checked := Tryz.checked }
namespace Rows
def none {H : Type} : Left H := { results := [], args := [] }

/-- 'chatelainelaw17.CacheRooms': WHATEVER THE INPUT: true; the input reads as it did. -/
def cacheRoomsSpec : ChangeSpec := { name := "cacheRooms", fn := fun _ => fun
  | [d1, d2, d3] => { results := [.lit (.bool true)], args := [d1, d2, d3] }
  | _ => none }
def cacheRoomsRow : OpenClaim := { program := "ytemcgfncahccgaagreat", sum := "80e5933b75f64b40e7d98c809b9aa200cfc8ba3627f2b5377981a96a67ede686", func := "chatelaine/chatelainelaw17.CacheRooms", spec := "cacheRooms", unfollowed := true, recurses := true, apart := false }
def CacheRoomsSaid : Prop := cacheRoomsRow.holds Tryz.pinned (OpenSpec.ofChange cacheRoomsSpec)

/-- ITS FALSE NEIGHBOUR: 'it returns false'. Refute it at one input. -/
def cacheRoomsWrong : ChangeSpec := { name := "cacheRooms", fn := fun _ => fun
  | [d1, d2, d3] => { results := [.lit (.bool false)], args := [d1, d2, d3] }
  | _ => none }
def CacheRoomsWrongFalsely : Prop := cacheRoomsRow.holds Tryz.pinned (OpenSpec.ofChange cacheRoomsWrong)

/-- 'chatelainelaw17.CacheMakes': WHATEVER THE INPUT: true; the input reads as it did. -/
def cacheMakesSpec : ChangeSpec := { name := "cacheMakes", fn := fun _ => fun
  | [d1, d2, d3] => { results := [.lit (.bool true)], args := [d1, d2, d3] }
  | _ => none }
def cacheMakesRow : OpenClaim := { program := "ytemcgfncahccgaagreat", sum := "80e5933b75f64b40e7d98c809b9aa200cfc8ba3627f2b5377981a96a67ede686", func := "chatelaine/chatelainelaw17.CacheMakes", spec := "cacheMakes", unfollowed := true, recurses := true, apart := false }
def CacheMakesSaid : Prop := cacheMakesRow.holds Tryz.pinned (OpenSpec.ofChange cacheMakesSpec)

/-- ITS FALSE NEIGHBOUR: 'it returns false'. Refute it at one input. -/
def cacheMakesWrong : ChangeSpec := { name := "cacheMakes", fn := fun _ => fun
  | [d1, d2, d3] => { results := [.lit (.bool false)], args := [d1, d2, d3] }
  | _ => none }
def CacheMakesWrongFalsely : Prop := cacheMakesRow.holds Tryz.pinned (OpenSpec.ofChange cacheMakesWrong)

/-- 'chatelainelaw17.CacheGets': WHATEVER THE INPUT: true; the input reads as it did. -/
def cacheGetsSpec : ChangeSpec := { name := "cacheGets", fn := fun _ => fun
  | [d1, d2] => { results := [.lit (.bool true)], args := [d1, d2] }
  | _ => none }
def cacheGetsRow : OpenClaim := { program := "ytemcgfncahccgaagreat", sum := "80e5933b75f64b40e7d98c809b9aa200cfc8ba3627f2b5377981a96a67ede686", func := "chatelaine/chatelainelaw17.CacheGets", spec := "cacheGets", unfollowed := true, recurses := true, apart := false }
def CacheGetsSaid : Prop := cacheGetsRow.holds Tryz.pinned (OpenSpec.ofChange cacheGetsSpec)

/-- ITS FALSE NEIGHBOUR: 'it returns false'. Refute it at one input. -/
def cacheGetsWrong : ChangeSpec := { name := "cacheGets", fn := fun _ => fun
  | [d1, d2] => { results := [.lit (.bool false)], args := [d1, d2] }
  | _ => none }
def CacheGetsWrongFalsely : Prop := cacheGetsRow.holds Tryz.pinned (OpenSpec.ofChange cacheGetsWrong)

/-- 'chatelainelaw17.CachePuts': WHATEVER THE INPUT: true; the input reads as it did. -/
def cachePutsSpec : ChangeSpec := { name := "cachePuts", fn := fun _ => fun
  | [d1, d2, d3] => { results := [.lit (.bool true)], args := [d1, d2, d3] }
  | _ => none }
def cachePutsRow : OpenClaim := { program := "ytemcgfncahccgaagreat", sum := "80e5933b75f64b40e7d98c809b9aa200cfc8ba3627f2b5377981a96a67ede686", func := "chatelaine/chatelainelaw17.CachePuts", spec := "cachePuts", unfollowed := true, recurses := true, apart := false }
def CachePutsSaid : Prop := cachePutsRow.holds Tryz.pinned (OpenSpec.ofChange cachePutsSpec)

/-- ITS FALSE NEIGHBOUR: 'it returns false'. Refute it at one input. -/
def cachePutsWrong : ChangeSpec := { name := "cachePuts", fn := fun _ => fun
  | [d1, d2, d3] => { results := [.lit (.bool false)], args := [d1, d2, d3] }
  | _ => none }
def CachePutsWrongFalsely : Prop := cachePutsRow.holds Tryz.pinned (OpenSpec.ofChange cachePutsWrong)

/-- 'chatelainelaw17.CachePlays': WHATEVER THE INPUT: true; the input reads as it did. -/
def cachePlaysSpec : ChangeSpec := { name := "cachePlays", fn := fun _ => fun
  | [d1, d2] => { results := [.lit (.bool true)], args := [d1, d2] }
  | _ => none }
def cachePlaysRow : OpenClaim := { program := "ytemcgfncahccgaagreat", sum := "80e5933b75f64b40e7d98c809b9aa200cfc8ba3627f2b5377981a96a67ede686", func := "chatelaine/chatelainelaw17.CachePlays", spec := "cachePlays", unfollowed := true, recurses := true, apart := false }
def CachePlaysSaid : Prop := cachePlaysRow.holds Tryz.pinned (OpenSpec.ofChange cachePlaysSpec)

/-- ITS FALSE NEIGHBOUR: 'it returns false'. Refute it at one input. -/
def cachePlaysWrong : ChangeSpec := { name := "cachePlays", fn := fun _ => fun
  | [d1, d2] => { results := [.lit (.bool false)], args := [d1, d2] }
  | _ => none }
def CachePlaysWrongFalsely : Prop := cachePlaysRow.holds Tryz.pinned (OpenSpec.ofChange cachePlaysWrong)

/-- 'chatelainelaw17.CacheEvicts': WHATEVER THE INPUT: true; the input reads as it did. -/
def cacheEvictsSpec : ChangeSpec := { name := "cacheEvicts", fn := fun _ => fun
  | [d1, d2, d3] => { results := [.lit (.bool true)], args := [d1, d2, d3] }
  | _ => none }
def cacheEvictsRow : OpenClaim := { program := "ytemcgfncahccgaagreat", sum := "80e5933b75f64b40e7d98c809b9aa200cfc8ba3627f2b5377981a96a67ede686", func := "chatelaine/chatelainelaw17.CacheEvicts", spec := "cacheEvicts", unfollowed := true, recurses := true, apart := false }
def CacheEvictsSaid : Prop := cacheEvictsRow.holds Tryz.pinned (OpenSpec.ofChange cacheEvictsSpec)

/-- ITS FALSE NEIGHBOUR: 'it returns false'. Refute it at one input. -/
def cacheEvictsWrong : ChangeSpec := { name := "cacheEvicts", fn := fun _ => fun
  | [d1, d2, d3] => { results := [.lit (.bool false)], args := [d1, d2, d3] }
  | _ => none }
def CacheEvictsWrongFalsely : Prop := cacheEvictsRow.holds Tryz.pinned (OpenSpec.ofChange cacheEvictsWrong)

/-- 'chatelainelaw17.CacheSettles': WHATEVER THE INPUT: true; the input reads as it did. -/
def cacheSettlesSpec : ChangeSpec := { name := "cacheSettles", fn := fun _ => fun
  | [d1, d2, d3, d4] => { results := [.lit (.bool true)], args := [d1, d2, d3, d4] }
  | _ => none }
def cacheSettlesRow : OpenClaim := { program := "ytemcgfncahccgaagreat", sum := "80e5933b75f64b40e7d98c809b9aa200cfc8ba3627f2b5377981a96a67ede686", func := "chatelaine/chatelainelaw17.CacheSettles", spec := "cacheSettles", unfollowed := true, recurses := true, apart := false }
def CacheSettlesSaid : Prop := cacheSettlesRow.holds Tryz.pinned (OpenSpec.ofChange cacheSettlesSpec)

/-- ITS FALSE NEIGHBOUR: 'it returns false'. Refute it at one input. -/
def cacheSettlesWrong : ChangeSpec := { name := "cacheSettles", fn := fun _ => fun
  | [d1, d2, d3, d4] => { results := [.lit (.bool false)], args := [d1, d2, d3, d4] }
  | _ => none }
def CacheSettlesWrongFalsely : Prop := cacheSettlesRow.holds Tryz.pinned (OpenSpec.ofChange cacheSettlesWrong)

/-- 'chatelainelaw17.CacheCopies': WHATEVER THE INPUT: true; the input reads as it did. -/
def cacheCopiesSpec : ChangeSpec := { name := "cacheCopies", fn := fun _ => fun
  | [d1, d2, d3] => { results := [.lit (.bool true)], args := [d1, d2, d3] }
  | _ => none }
def cacheCopiesRow : OpenClaim := { program := "ytemcgfncahccgaagreat", sum := "80e5933b75f64b40e7d98c809b9aa200cfc8ba3627f2b5377981a96a67ede686", func := "chatelaine/chatelainelaw17.CacheCopies", spec := "cacheCopies", unfollowed := true, recurses := true, apart := false }
def CacheCopiesSaid : Prop := cacheCopiesRow.holds Tryz.pinned (OpenSpec.ofChange cacheCopiesSpec)

/-- ITS FALSE NEIGHBOUR: 'it returns false'. Refute it at one input. -/
def cacheCopiesWrong : ChangeSpec := { name := "cacheCopies", fn := fun _ => fun
  | [d1, d2, d3] => { results := [.lit (.bool false)], args := [d1, d2, d3] }
  | _ => none }
def CacheCopiesWrongFalsely : Prop := cacheCopiesRow.holds Tryz.pinned (OpenSpec.ofChange cacheCopiesWrong)

/- THE SECOND FORM. 'bulk': how many values and letters a reading holds, each counted each time it is reached (what is shared counts as often as it is met; a slice's spare places count too). A statement '..UptoSaid' is the law's where the arguments, and the package variables that the reading takes, are together of bulk at most 1048576: NARROWER than '..Said'. Prove '..Said' where nothing that the law and all that it calls make is longer than what came in: it says more and counts as full. Else prove '..UptoSaid'. A law counts once. -/
mutual
def uptoBulk {H : Type} : DataW H → Nat
  | .lit (.string bytes) => bytes.length + 1
  | .lit _ => 1
  | .nil => 1
  | .ptr d => uptoBulk d + 1
  | .slice elems spare => uptoBulkAll elems + uptoBulkAll spare + 1
  | .agg parts => uptoBulkAll parts + 1
  | .iface _ d => uptoBulk d + 1
  | .map entries => uptoBulkEntries entries + 1
  | .held _ => 1
def uptoBulkAll {H : Type} : List (DataW H) → Nat
  | [] => 0
  | d :: r => uptoBulk d + uptoBulkAll r
def uptoBulkEntries {H : Type} : List (Lit × DataW H) → Nat
  | [] => 0
  | x :: r => uptoBulkEntry x + uptoBulkEntries r
def uptoBulkEntry {H : Type} : Lit × DataW H → Nat
  | (.string bytes, d) => bytes.length + uptoBulk d + 1
  | (_, d) => uptoBulk d + 1
 end
def uptoSmall : (H : Type) → List (DataW H) → Bool := fun _ ds => decide (uptoBulkAll ds ≤ 1048576)
def OpenSpec.upto (s : _root_.Go.ChangeSpec) : _root_.Go.OpenSpec := { _root_.Go.OpenSpec.ofChange s with cond := some uptoSmall }

/-- 'chatelainelaw17.CacheRooms', WHERE WHAT IT READS IS OF BULK AT MOST 1048576: true; the input reads as it did. -/
def cacheRoomsUptoRow : OpenClaim := { program := "ytemcgfncahccgaagreat", sum := "80e5933b75f64b40e7d98c809b9aa200cfc8ba3627f2b5377981a96a67ede686", func := "chatelaine/chatelainelaw17.CacheRooms", spec := "cacheRooms", unfollowed := true, recurses := true, apart := false, narrowed := true }
def CacheRoomsUptoSaid : Prop := cacheRoomsUptoRow.holds Tryz.pinned (OpenSpec.upto cacheRoomsSpec)

/-- 'chatelainelaw17.CacheMakes', WHERE WHAT IT READS IS OF BULK AT MOST 1048576: true; the input reads as it did. -/
def cacheMakesUptoRow : OpenClaim := { program := "ytemcgfncahccgaagreat", sum := "80e5933b75f64b40e7d98c809b9aa200cfc8ba3627f2b5377981a96a67ede686", func := "chatelaine/chatelainelaw17.CacheMakes", spec := "cacheMakes", unfollowed := true, recurses := true, apart := false, narrowed := true }
def CacheMakesUptoSaid : Prop := cacheMakesUptoRow.holds Tryz.pinned (OpenSpec.upto cacheMakesSpec)

/-- 'chatelainelaw17.CacheGets', WHERE WHAT IT READS IS OF BULK AT MOST 1048576: true; the input reads as it did. -/
def cacheGetsUptoRow : OpenClaim := { program := "ytemcgfncahccgaagreat", sum := "80e5933b75f64b40e7d98c809b9aa200cfc8ba3627f2b5377981a96a67ede686", func := "chatelaine/chatelainelaw17.CacheGets", spec := "cacheGets", unfollowed := true, recurses := true, apart := false, narrowed := true }
def CacheGetsUptoSaid : Prop := cacheGetsUptoRow.holds Tryz.pinned (OpenSpec.upto cacheGetsSpec)

/-- 'chatelainelaw17.CachePuts', WHERE WHAT IT READS IS OF BULK AT MOST 1048576: true; the input reads as it did. -/
def cachePutsUptoRow : OpenClaim := { program := "ytemcgfncahccgaagreat", sum := "80e5933b75f64b40e7d98c809b9aa200cfc8ba3627f2b5377981a96a67ede686", func := "chatelaine/chatelainelaw17.CachePuts", spec := "cachePuts", unfollowed := true, recurses := true, apart := false, narrowed := true }
def CachePutsUptoSaid : Prop := cachePutsUptoRow.holds Tryz.pinned (OpenSpec.upto cachePutsSpec)

/-- 'chatelainelaw17.CachePlays', WHERE WHAT IT READS IS OF BULK AT MOST 1048576: true; the input reads as it did. -/
def cachePlaysUptoRow : OpenClaim := { program := "ytemcgfncahccgaagreat", sum := "80e5933b75f64b40e7d98c809b9aa200cfc8ba3627f2b5377981a96a67ede686", func := "chatelaine/chatelainelaw17.CachePlays", spec := "cachePlays", unfollowed := true, recurses := true, apart := false, narrowed := true }
def CachePlaysUptoSaid : Prop := cachePlaysUptoRow.holds Tryz.pinned (OpenSpec.upto cachePlaysSpec)

/-- 'chatelainelaw17.CacheEvicts', WHERE WHAT IT READS IS OF BULK AT MOST 1048576: true; the input reads as it did. -/
def cacheEvictsUptoRow : OpenClaim := { program := "ytemcgfncahccgaagreat", sum := "80e5933b75f64b40e7d98c809b9aa200cfc8ba3627f2b5377981a96a67ede686", func := "chatelaine/chatelainelaw17.CacheEvicts", spec := "cacheEvicts", unfollowed := true, recurses := true, apart := false, narrowed := true }
def CacheEvictsUptoSaid : Prop := cacheEvictsUptoRow.holds Tryz.pinned (OpenSpec.upto cacheEvictsSpec)

/-- 'chatelainelaw17.CacheSettles', WHERE WHAT IT READS IS OF BULK AT MOST 1048576: true; the input reads as it did. -/
def cacheSettlesUptoRow : OpenClaim := { program := "ytemcgfncahccgaagreat", sum := "80e5933b75f64b40e7d98c809b9aa200cfc8ba3627f2b5377981a96a67ede686", func := "chatelaine/chatelainelaw17.CacheSettles", spec := "cacheSettles", unfollowed := true, recurses := true, apart := false, narrowed := true }
def CacheSettlesUptoSaid : Prop := cacheSettlesUptoRow.holds Tryz.pinned (OpenSpec.upto cacheSettlesSpec)

/-- 'chatelainelaw17.CacheCopies', WHERE WHAT IT READS IS OF BULK AT MOST 1048576: true; the input reads as it did. -/
def cacheCopiesUptoRow : OpenClaim := { program := "ytemcgfncahccgaagreat", sum := "80e5933b75f64b40e7d98c809b9aa200cfc8ba3627f2b5377981a96a67ede686", func := "chatelaine/chatelainelaw17.CacheCopies", spec := "cacheCopies", unfollowed := true, recurses := true, apart := false, narrowed := true }
def CacheCopiesUptoSaid : Prop := cacheCopiesUptoRow.holds Tryz.pinned (OpenSpec.upto cacheCopiesSpec)

end Rows
end Go.Proofs.YtemcgfncahccgaaGreat
