/-
  The contract of the closure of keys.Text that adds a number to the list of words, for all numbers of int64.
-/
import Derived.Test.YtlfkfhdcljkhkaaDoorTFmt
import Derived.Deep.RegionLaw
import Derived.Deep.AppendLies
namespace Go.Proofs.YtlfkfhdcljkhkaaDoor
open Go.RowKit

theorem info_str : (Tryd.prog.info? 9).map (fun i => (i.zero, i.size, i.bytes)) = some (some (.string ⟨#[]⟩), 1, 16) := by kernel_rfl

/-- the words that are owned: variable l in block L, its array among the blocks from B on -/
structure Words (B L : Nat) (xs : List ByteArray) (w : World) : Prop where
  has : ∃ v, w.heap[L]? = some (.cells #[v] 45 (0, 0)) ∧ w.ownsRow B 9 1 v xs.length (xs.map Value.string)
def optS (has : Bool) (n : Int) : List ByteArray := if has then [numS n] else []

theorem ownsRow_below {w w1 : World} {B e size n : Nat} {v : Value} {xs : List Value} (h : w.ownsRow B e size v n xs) (hb : Below w.heap.size w w1) : w1.ownsRow B e size v n xs := by
  refine ⟨h.1, ?_⟩
  rcases h.2 with hn | ⟨g, cap, cur, h1, h2, h3, h4⟩
  · exact .inl hn
  · exact .inr ⟨g, cap, cur, h1, h2, (hb.block g (lt_of_block h3)).trans h3, h4⟩

/-- the variable stands where it stood behind an append to another row -/
theorem l_kept {w w1 w2 : World} {L : Nat} {X o : Obj} {row : Option Nat} (hL : w.heap[L]? = some X) (hb : Below w.heap.size w w1) (hg : (w1.alloc o).grownBy w2 row) (hne : row ≠ some L) : w2.heap[L]? = some X := by
  have hlt := lt_of_block hL
  have h1 := (hb.block L hlt).trans hL
  have h2 : (w1.alloc o).heap[L]? = some X := (Below.heap_alloc w1 o L (lt_of_block h1)).trans h1
  exact (hg.block L (lt_of_block h2) (Ne.symm hne)).trans h2
theorem tag_ne {w : World} {B L n : Nat} {v u : Value} {e t : TypeId} {xs : List Value} (h : w.ownsRow B e 1 v n xs) (hL : w.heap[L]? = some (.cells #[u] t (0, 0))) (het : e ≠ t) : v.ownBlock ≠ some L := by
  rcases h.2 with ⟨rfl, _⟩ | ⟨g, cap, cur, rfl, h2, h3, h4⟩
  · intro h; cases h
  · intro h
    obtain rfl : g = L := by simpa [Value.ownBlock] using h
    rw [hL] at h3
    injection h3 with h3
    injection h3 with _ h3
    exact het h3.symm

theorem add_no (n : Int) (L : Nat) (w : World) :
    Calls Tryd.prog 13 #[.bool false, .int .i64 n, .pointer (some ⟨L, 0, none⟩)] w fun e w' => e = .returned (.tuple #[]) ∧ w = w' := by
  go_enter Tryd.func13, Tryd.ntmps13
  go_wp2
  exact bodyPost_end (v := .tuple #[]) (by simp [results, Tryd.results13, go_sem]) rfl ⟨rfl, rfl⟩

set_option maxHeartbeats 1000000 in
theorem add_yes (n : Int) (B0 B L k : Nat) (v : Value) (xs : List Value) (w : World) (hn : I64 n) (hT : Tab B0 w) (hB0 : B0 ≤ B) (hBL : B ≤ L) (hL : w.heap[L]? = some (.cells #[v] 45 (0, 0)))
    (hown : w.ownsRow B 9 1 v k xs) (hk : k ≤ 100) :
    Calls Tryd.prog 13 #[.bool true, .int .i64 n, .pointer (some ⟨L, 0, none⟩)] w fun e w' => e = .returned (.tuple #[]) ∧ Below B w w' ∧
      ∃ v', w'.heap[L]? = some (.cells #[v'] 45 (0, 0)) ∧ w'.ownsRow B 9 1 v' (k + 1) (xs ++ [.string (numS n)]) := by
  obtain ⟨i0, hi0, hz0, hz1, hz2⟩ := info_parts info_str
  have hLs : L < w.heap.size := lt_of_block hL
  have hc : w.cell? ⟨L, 0, none⟩ = some v := cell_of_one hL
  have hne : v.ownBlock ≠ some L := tag_ne hown hL (by decide)
  have HL := Lib.hid hL
  have HW := Lib.hid hown
  have HT := Lib.hid hT
  have HN := Lib.hid hn
  clear hL hown hT hn
  go_enter Tryd.func13, Tryd.ntmps13
  go_wp2_with fail
  go_region_law (first
    | (go_simp; go_at_call 14; refine (fmt_any _ _ (HT.out.on (Below.refl _ _).drew) HN.out).mono ?_; rintro e w1 ⟨rfl, hb0⟩; have hb : Below w.heap.size w w1 := (Below.refl _ w).drew.trans hb0; clear hb0; have hc1 : w1.cell? ⟨L, 0, none⟩ = some v := (hb.cell (p := ⟨L, 0, none⟩) hLs).trans hc; have hc1a : (w1.alloc (Obj.cells #[Value.string (numS n)] 9)).cell? ⟨L, 0, none⟩ = some v := (World.cell?_alloc_lt _ _ _ (World.block_lt_of_cell? w1 _ hc1)).trans hc1; have HW1 := Lib.hid (ownsRow_below HW.out hb); go_wp2)
    | (refine step_append_lies _ (by rfl) _ _ _ (by rfl) B 9 i0 _ 1 16 Tryd.underlying45 hi0 hz0 hz1 hz2 rfl (by omega) v k xs (by rfl) (HW1.out.alloc _)
        ⟨w1.heap.size, 0, none⟩ 1 1 [.string (numS n)] (by rfl) (by rfl) (World.news_of_block (cs := #[.string (numS n)]) (t := 9) (fr := (0, 0)) (heap_alloc_new w1 _)) (by simp [Value.oneCell'])
        (by omega) (by unfold maxLen; omega) (by omega) (by have := hb.size; simp; omega) (w1.heap.size + 1) (by simp) ?_; intro gg cap w2 hown2 hgrow hat hlt; have hL2 := l_kept HL.out hb hgrow hne; have hc2 := cell_of_one hL2; have hf2 := free_of_one hL2))
  all_goals
    refine bodyPost_end (v := .tuple #[]) (by simp [results, Tryd.results13, go_sem]) rfl ⟨rfl, ?_, _, one_setCell hL2, ?_⟩
  all_goals first
    | exact ((((hb.mono (by omega : B ≤ w.heap.size)).alloc (by have := hb.size; omega) _).grown hgrow (by have := hb.size; simp; omega) (fun j hj => (HW.out.lt j hj).1)).setCell hBL _)
    | exact ownsRow_setCell_other hown2 (tag_ne hown2 hL2 (by decide)) _

/-- the closure's one contract: the words that are owned, and one more where it has it -/
theorem add_any (has : Bool) (n : Int) (B0 B L : Nat) (xs : List ByteArray) (w : World) (hn : I64 n) (hT : Tab B0 w) (hB0 : B0 ≤ B) (hBL : B ≤ L) (hw : Words B L xs w) (hk : xs.length ≤ 100) :
    Calls Tryd.prog 13 #[.bool has, .int .i64 n, .pointer (some ⟨L, 0, none⟩)] w fun e w' => e = .returned (.tuple #[]) ∧ Below B w w' ∧ Words B L (xs ++ optS has n) w' := by
  obtain ⟨v, hL, hown⟩ := hw
  cases has
  · refine (add_no n L w).mono ?_
    rintro e w' ⟨rfl, rfl⟩
    exact ⟨rfl, Below.refl _ _, ⟨v, hL, by simpa [optS] using hown⟩⟩
  · refine (add_yes n B0 B L _ v _ w hn hT hB0 hBL hL hown hk).mono ?_
    rintro e w' ⟨rfl, hb, v', hL', hown'⟩
    exact ⟨rfl, hb, ⟨v', hL', by simpa [optS] using hown'⟩⟩

end Go.Proofs.YtlfkfhdcljkhkaaDoor
