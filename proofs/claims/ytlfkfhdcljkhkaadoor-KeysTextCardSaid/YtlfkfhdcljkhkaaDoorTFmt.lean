/-
  strconv.Itoa and FormatInt at base 10, where the library's table lies as the program's text lays it: the numeral, and no old memory turned.
-/
import Derived.Test.YtlfkfhdcljkhkaaDoorTShelf
import Derived.Test.YtlfkfhdcljkhkaaDoorKeys1
import Derived.Lib.AppendIntMem
import Derived.Lib.ItoaLen
namespace Go.Proofs.YtlfkfhdcljkhkaaDoor
open Go.RowKit

/-- the library's table of powers of ten, at this world and at every one that turns nothing below block B -/
def Tab (B : Nat) (w : World) : Prop := Lib.TabBelow Tryd.prog B w "internal/strconv.uint64pow10" .u64 Lib.pow10Tab
theorem Tab.on {B : Nat} {w w1 : World} (h : Tab B w) (hb : Below B w w1) : Tab B w1 := Lib.TabBelow.on h hb
theorem Tab.at {B C : Nat} {w w1 : World} (h : Tab B w) (hC : B ≤ C) (hb : Below C w w1) : Tab B w1 := Lib.TabBelow.on h (hb.mono hC)
/-- a number that an int64 holds -/
def I64 (n : Int) : Prop := -9223372036854775808 ≤ n ∧ n ≤ 9223372036854775807
def numS (n : Int) : ByteArray := ⟨(Lib.itoa n).toArray⟩

theorem itoa_any {B : Nat} (n : Int) (w : World) (hT : Tab B w) (hn : I64 n) :
    Calls Tryd.prog 17 #[.int .i64 n] w fun e w' => e = .returned (.string (numS n)) ∧ Below w.heap.size w w' := by
  refine (Tryd.strconv_Itoa n hn.1 hn.2 w (Lib.TabBelow.here hT)).mono ?_
  rintro e w' ⟨rfl, k, os, rfl⟩
  exact ⟨rfl, Lib.below_grow _ w (Nat.le_refl _) k os⟩
theorem fmt_any {B : Nat} (n : Int) (w : World) (hT : Tab B w) (hn : I64 n) :
    Calls Tryd.prog 14 #[.int .i64 n, .int .i64 10] w fun e w' => e = .returned (.string (numS n)) ∧ Below w.heap.size w w' := by
  refine (Tryd.strconv_FormatInt_10 n hn.1 hn.2 w (Lib.TabBelow.here hT)).mono ?_
  rintro e w' ⟨rfl, k, os, rfl⟩
  exact ⟨rfl, Lib.below_grow _ w (Nat.le_refl _) k os⟩

theorem join_ok (x : ByteArray) (r : List ByteArray) (hx : x.data.toList.length ≤ 100) (hr : ∀ y ∈ r, y.data.toList.length ≤ 100) (hl : r.length ≤ 10) :
    (Lib.join ((x :: r).map (·.data.toList)) [32]).length ≤ 140737488355328 := by
  rw [List.map_cons, Lib.join_cons, List.length_append]
  have h : ∀ (r : List ByteArray), (∀ y ∈ r, y.data.toList.length ≤ 100) → (Lib.joinTail [32] (r.map (·.data.toList))).length ≤ 101 * r.length := by
    intro r
    induction r with
    | nil => intro _; simp [Lib.joinTail]
    | cons y r ih =>
      intro h
      have h1 := h y (List.mem_cons_self ..)
      have h2 := ih (fun z hz => h z (List.mem_cons_of_mem _ hz))
      simp only [Lib.joinTail, List.map_cons, List.flatten_cons, List.length_append, List.length_cons, List.length_nil] at h2 ⊢
      omega
  have := h r hr
  omega
theorem numS_len (n : Int) (hn : I64 n) : (numS n).data.toList.length ≤ 100 := by
  have := Lib.itoa_length_le n hn.1 hn.2
  show ((Lib.itoa n).toArray.toList).length ≤ 100
  simpa using by omega

end Go.Proofs.YtlfkfhdcljkhkaaDoor
