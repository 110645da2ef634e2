/-
  Words for KeysOrders: the variables of keys that a walk has made, all at once; contracts of Weaken, Less, Within on the keys that the law makes.
-/
import Derived.Test.YtlfkfhdcljkhkaaOrd
import Derived.Test.YtlfkfhdcljkhkaaLawMany
namespace Go.Proofs.Ytlfkfhdcljkhkaa
open Go.RowKit

def cellsK (z : Key6) : Array Value := #[.int .i64 z.k, .int .i64 z.o, .int .i64 z.c, .int .i64 z.a, .int .i64 z.r, .int .i64 z.v]

/-- what stands: nothing below has turned, the More in its block, each key in its own -/
def Held (w W : World) (g : Nat) (R : Int) (l : List (Nat × Key6)) : Prop :=
  Below w.heap.size w W ∧ W.cell? ⟨g, 6, none⟩ = some (.int .i64 R) ∧ ∀ x ∈ l, Blk W x.1 25 (cellsK x.2)

theorem Held.step {w W w' : World} {g : Nat} {R : Int} {l : List (Nat × Key6)} (h : Held w W g R l) (hb : Below W.heap.size W w') : Held w w' g R l :=
  ⟨h.1.trans (hb.mono h.1.size), (hb.cell (p := ⟨g, 6, none⟩) (block_lt_of_cell h.2.1)).trans h.2.1, fun x hx => (h.2.2 x hx).below hb (h.2.2 x hx).lt⟩
theorem Held.add {w W : World} {g : Nat} {R : Int} {l : List (Nat × Key6)} (h : Held w W g R l) (z : Key6) : Held w (W.alloc (.cells (cellsK z) 25)) g R ((W.heap.size, z) :: l) := by
  refine ⟨h.1.alloc h.1.size _, ?_, fun x hx => ?_⟩
  · rw [World.cell?_alloc_lt _ _ _ (block_lt_of_cell h.2.1)]; exact h.2.1
  · rcases List.mem_cons.1 hx with rfl | hx
    · exact Blk.new _ _ _
    · exact (h.2.2 x hx).alloc _
theorem Held.key {w W : World} {g : Nat} {R : Int} {l : List (Nat × Key6)} (h : Held w W g R l) (b : Nat) (z : Key6) (hx : (b, z) ∈ l) :
    b < W.heap.size ∧ W.cell? ⟨b, 0, none⟩ = some (.int .i64 z.k) ∧ W.cell? ⟨b, 1, none⟩ = some (.int .i64 z.o) ∧ W.cell? ⟨b, 2, none⟩ = some (.int .i64 z.c) ∧ W.cell? ⟨b, 3, none⟩ = some (.int .i64 z.a) ∧ W.cell? ⟨b, 4, none⟩ = some (.int .i64 z.r) ∧ W.cell? ⟨b, 5, none⟩ = some (.int .i64 z.v) := by
  have hB := h.2.2 _ hx
  exact ⟨hB.lt, hB.cell_is 0 rfl, hB.cell_is 1 rfl, hB.cell_is 2 rfl, hB.cell_is 3 rfl, hB.cell_is 4 rfl, hB.cell_is 5 rfl⟩
theorem Held.more {w W : World} {g : Nat} {R : Int} {l : List (Nat × Key6)} (h : Held w W g R l) : g < W.heap.size ∧ W.cell? ⟨g, 6, none⟩ = some (.int .i64 R) := ⟨block_lt_of_cell h.2.1, h.2.1⟩
theorem Held.sub {w W : World} {g : Nat} {R : Int} {l l' : List (Nat × Key6)} (h : Held w W g R l) (hl : ∀ x ∈ l', x ∈ l) : Held w W g R l' := ⟨h.1, h.2.1, fun x hx => h.2.2 x (hl x hx)⟩

theorem check_is {k o c a r v : Int} (w : World) (h : ofB k o c a r v = true) :
    Calls Try.prog 17 #[.agg #[.int .i64 k, .int .i64 o, .int .i64 c, .int .i64 a, .int .i64 r, .int .i64 v]] w fun e w' => e = .returned (.int .i64 0) ∧ Below w.heap.size w w' := by
  have := check_any k o c a r v w
  rw [h] at this
  exact this
theorem check_isnt {k o c a r v : Int} (w : World) (h : ofB k o c a r v = false) :
    Calls Try.prog 17 #[.agg #[.int .i64 k, .int .i64 o, .int .i64 c, .int .i64 a, .int .i64 r, .int .i64 v]] w fun e w' => e = .returned (.int .i64 2) ∧ Below w.heap.size w w' := by
  have := check_any k o c a r v w
  rw [h] at this
  exact this
theorem within_is {k o c a r v k' o' c' a' r' v' : Int} (b : Bool) (w : World) (h : withB k o c a r v k' o' c' a' r' v' = b) :
    Calls Try.prog 11 #[.agg #[.int .i64 k, .int .i64 o, .int .i64 c, .int .i64 a, .int .i64 r, .int .i64 v], .agg #[.int .i64 k', .int .i64 o', .int .i64 c', .int .i64 a', .int .i64 r', .int .i64 v']] w fun e w' =>
      e = .returned (.bool b) ∧ Below w.heap.size w w' := by
  subst h; exact within_any2 _ _ _ _ _ _ _ _ _ _ _ _ w

/-- the weak key, the lesser key -/
def weakK (z : Key6) : Key6 := ⟨wsel z.k z.k, wsel z.k z.o, wsel z.k z.c, wsel z.k z.a, wrig z.k z.r, wsel z.k z.v⟩
def lessK (z : Key6) (x : Int) : Key6 := ⟨z.k, z.o, z.c, z.a, orR z.r (andR x (mostOf z.k)), z.v⟩
def ofK (z : Key6) : Bool := ofB z.k z.o z.c z.a z.r z.v
def withK (z y : Key6) : Bool := withB z.k z.o z.c z.a z.r z.v y.k y.o y.c y.a y.r y.v
abbrev aggK (z : Key6) : Value := .agg #[.int .i64 z.k, .int .i64 z.o, .int .i64 z.c, .int .i64 z.a, .int .i64 z.r, .int .i64 z.v]

theorem weakenK (z : Key6) (w : World) (h : ofK z = true) :
    Calls Try.prog 20 #[aggK z] w fun e w' => e = .returned (.tuple #[aggK (weakK z), .int .i64 0]) ∧ Below w.heap.size w w' := weaken_yes _ _ _ _ _ _ w h
theorem lessK_c (z : Key6) (x : Int) (w : World) (h : ofK z = true) (x0 : 0 ≤ x) (x7 : x ≤ 7) :
    Calls Try.prog 21 #[aggK z, .int .i64 x] w fun e w' => e = .returned (.tuple #[aggK (lessK z x), .int .i64 0]) ∧ Below w.heap.size w w' := less_yes _ _ _ _ _ _ x w h x0 x7
theorem weak_weakK {z : Key6} (h : ofK z = true) (hr : z.r < 9223372036854775808) : weakK (weakK z) = weakK z := by
  obtain ⟨h0, h1⟩ := rights_bd h hr
  have hm := most_le z.k
  unfold weakK
  simp only [weak_weak_sel, weak_weak_rig h0 (by omega : z.r ≤ 7)]
theorem less_lessK {z : Key6} {x : Int} (h : ofK z = true) (hr : z.r < 9223372036854775808) (x0 : 0 ≤ x) (x7 : x ≤ 7) : lessK (lessK z x) x = lessK z x := by
  obtain ⟨h0, h1⟩ := rights_bd h hr
  have hm := most_le z.k
  unfold lessK
  simp only [less_less h0 (by omega : z.r ≤ 7) x0 x7]
theorem ofK_weak {z : Key6} (h : ofK z = true) (hr : z.r < 9223372036854775808) : ofK (weakK z) = true := of_weak h hr
theorem ofK_less {z : Key6} {x : Int} (h : ofK z = true) (hr : z.r < 9223372036854775808) (x0 : 0 ≤ x) (x7 : x ≤ 7) : ofK (lessK z x) = true := of_less h hr x0 x7

end Go.Proofs.Ytlfkfhdcljkhkaa
