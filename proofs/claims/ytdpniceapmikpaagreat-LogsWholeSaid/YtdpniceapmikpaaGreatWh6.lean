/-
  The contracts of volume.right, of the closure of volume.parts, and of volume.parts.
  The contracts of volume.Size and volume.Sector.
  The contracts of the reference's Right and All (volume).
-/
import Derived.Test.YtdpniceapmikpaaGreatWh5
set_option linter.unusedVariables false
set_option linter.unusedSimpArgs false
namespace Go.Proofs.YtdpniceapmikpaaGreat
open Go.RowKit

def rightB (n : Int) : Bool := decide (1 ≤ n) && decide (n ≤ 64)
theorem right_any (n : Int) (w : World) : Calls Tryz.prog 88 #[.agg #[.int .i64 n]] w fun e w' => e = .returned (.bool (rightB n)) ∧ Below w.heap.size w w' := by
 by_cases h1 : 1 ≤ n
 ·have e : rightB n = decide (n ≤ 64) := by simp [rightB, h1]
  rw [e]
  go_enter Tryz.func88, Tryz.ntmps88
  go_wp2
  all_goals go_ret
  all_goals exact ⟨by simp, (Below.refl _ _).alloc (Nat.le_refl _) _⟩
 ·have e : rightB n = false := by simp [rightB, h1]
  rw [e]
  go_enter Tryz.func88, Tryz.ntmps88
  go_wp2
  all_goals go_ret
  all_goals exact ⟨by simp, (Below.refl _ _).alloc (Nat.le_refl _) _⟩

/-- places one behind the other: kind, area, from, how many -/
structure Part where
 k : Int
 a : Int
 f : Int
 m : Int
abbrev Part.cells (p : Part) : List Value := [.int .i64 p.k, .int .i64 p.a, .int .i64 p.f, .int .i64 p.m]
def partCells (ps : List Part) : List Value := ps.flatMap Part.cells
theorem partCells_snoc (ps : List Part) (p : Part) : partCells (ps ++ [p]) = partCells ps ++ p.cells := by simp [partCells]

/-- the parts that are owned: variable out in block O, the next sector in block X -/
structure Parts (B O X : Nat) (ps : List Part) (n : Int) (w : World) : Prop where
 has : ∃ v, w.heap[O]? = some (.cells #[v] 171 (0, 0)) ∧ w.ownsRow B 174 4 v ps.length (partCells ps)
 next : Blk w X 3 #[.int .i64 n]
theorem info_part : (Tryz.prog.info? 174).map (fun i => (i.zero, i.size, i.bytes)) = some (some (.agg #[.int .i64 0, .int .i64 0, .int .i64 0, .int .i64 0]), 4, 32) := by kernel_rfl
theorem tag_neS {w : World} {B L n size : Nat} {v u : Value} {e t : TypeId} {xs : List Value} (h : w.ownsRow B e size v n xs) (hL : w.heap[L]? = some (.cells #[u] t (0, 0))) (het : e ≠ t) : v.ownBlock ≠ some L := by
 rcases h.2 with ⟨rfl, _⟩ | ⟨g, cap, cur, rfl, h2, h3, h4⟩
 ·intro h; cases h
 ·intro h
  obtain rfl : g = L := by simpa [Value.ownBlock] using h
  rw [hL] at h3
  injection h3 with h3
  injection h3 with _ h3
  exact het h3.symm

theorem obj_kept {w w2 : World} {L : Nat} {X o : Obj} {row : Option Nat} (hL : w.heap[L]? = some X) (hg : (w.alloc o).grownBy w2 row) (hne : row ≠ some L) : w2.heap[L]? = some X := by
 have h2 : (w.alloc o).heap[L]? = some X := (Below.heap_alloc w o L (lt_of_block hL)).trans hL
 exact (hg.block L (lt_of_block h2) (Ne.symm hne)).trans h2

set_option maxHeartbeats 1000000 in
theorem addp_any (B O X : Nat) (ps : List Part) (n k a m : Int) (w : World) (h : Parts B O X ps n w) (hBO : B ≤ O) (hBX : B ≤ X) (hps : ps.length ≤ 100) (hn : 0 ≤ n) (hn2 : n ≤ 1000000) (hm : 0 ≤ m) (hm2 : m ≤ 1000000) :
  Calls Tryz.prog 129 #[.int .i64 k, .int .i64 a, .int .i64 m, .pointer (some ⟨O, 0, none⟩), .pointer (some ⟨X, 0, none⟩)] w fun e w' =>
   e = .returned (.tuple #[]) ∧ Parts B O X (ps ++ [⟨k, a, n, m⟩]) (n + m) w' ∧ Below B w w' := by
 obtain ⟨⟨v, hO, hown⟩, hX⟩ := h
 obtain ⟨i0, hi0, hz0, hz1, hz2⟩ := info_parts info_part
 have hOlt := lt_of_block hO
 have hXlt := hX.lt
 have hOX : O ≠ X := by
  rintro rfl
  unfold Blk at hX
  rw [hO] at hX
  injection hX with hX
  injection hX with _ hX
  exact absurd hX (by decide)
 have c1 := cell_of_one hO
 have c2 := hX.cell_is 0 rfl
 have hneO : v.ownBlock ≠ some O := tag_neS hown hO (by decide)
 have hneX : v.ownBlock ≠ some X := tag_neS hown hX (by decide)
 have HO := Lib.hid hO
 have HX := Lib.hid hX
 have HW := Lib.hid hown
 have HI := Lib.hid (And.intro hi0 (And.intro hz0 (And.intro hz1 hz2)))
 clear hO hX hown hi0 hz0 hz1 hz2
 go_enter Tryz.func129, Tryz.ntmps129
 go_wp2_with (at_builtin; refine wpList_append_lies _ rfl _ _ _ rfl B 174 i0 _ 4 32 Tryz.underlying171 HI.out.1 HI.out.2.1 HI.out.2.2.1 HI.out.2.2.2 rfl (by omega) v ps.length (partCells ps) rfl (HW.out.alloc _) ⟨w.heap.size, 0, none⟩ 1 1 [.int .i64 k, .int .i64 a, .int .i64 n, .int .i64 m] rfl rfl (World.news_of_block (cs := #[.int .i64 k, .int .i64 a, .int .i64 n, .int .i64 m]) (t := 174) (fr := (0, 0)) (heap_alloc_new w _)) (by simp [Value.oneCell']) (by omega) (by unfold maxLen; omega) (by omega) (by simp; omega) (w.heap.size + 1) (by simp) ?_; intro g cap w3 hO3 hg3 hat3 hlt3; have hOk := obj_kept HO.out hg3 hneO; have hXk := obj_kept HX.out hg3 hneX; have d1 := cell_of_one hOk; have d2 := free_of_one hOk; have d3 := cell_of_one hXk; have d4 := free_of_one hXk; have HOk := Lib.hid hOk; have HXk := Lib.hid hXk; clear hOk hXk)
 have hb3 : Below B w w3 := ((Below.refl B w).alloc (by omega) _).grown hg3 (by simp; omega) (fun r hr => (HW.out.lt r hr).1)
 refine bodyPost_end (v := .tuple #[]) (by simp [results, Tryz.results129, go_sem]) rfl ⟨rfl, ⟨⟨.slice (some ⟨g, 0, none⟩) (ps.length + 1) cap, ?_, ?_⟩, ?_⟩, ?_⟩
 ·exact (Below.heap_setCell _ _ _ _ hOX).trans (one_setCell HOk.out)
 ·have h1 := ownsRow_setCell_other hO3 (tag_neS hO3 HOk.out (by decide)) (a := ⟨O, 0, none⟩) (.slice (some ⟨g, 0, none⟩) (ps.length + 1) cap)
  have h2 := ownsRow_setCell_other h1 (by have := tag_neS hO3 HXk.out (by decide); exact this) (a := ⟨X, 0, none⟩) (.int .i64 (n + m))
  rw [List.length_append, partCells_snoc]
  exact h2
 ·exact one_setCell ((Below.heap_setCell _ _ _ _ (Ne.symm hOX)).trans HXk.out)
 ·exact (hb3.setCell (p := ⟨O, 0, none⟩) hBO _).setCell (p := ⟨X, 0, none⟩) hBX _

/-- the parts ahead of an area, and the sector behind them -/
def nAt (N : Int) : Nat → Int
 | 0 => 2
 | j + 1 => nAt N j + 1 + 8 + N
def psAt (N : Int) : Nat → List Part
 | 0 => [⟨1, 0, 0, 2⟩]
 | j + 1 => psAt N j ++ [⟨2, j, nAt N j, 1⟩] ++ [⟨3, j, nAt N j + 1, 8⟩] ++ [⟨4, j, nAt N j + 1 + 8, N⟩]
/-- the parts of a plan -/
def partsL (N : Int) : List Part := psAt N 2 ++ [⟨5, 0, nAt N 2, N⟩]
theorem psAt_len (N : Int) (j : Nat) : (psAt N j).length = 1 + 3 * j := by
 induction j with
 | zero => rfl
 | succ j ih => simp [psAt, ih]; omega

theorem own_baseS {W : World} {B C n size : Nat} {e : TypeId} {v : Value} {xs : List Value} (h : W.ownsRow B e size v n xs) (hC : C ≤ B) : W.ownsRow C e size v n xs := by
 refine ⟨h.1, ?_⟩
 rcases h.2 with hn | ⟨g, cap, cur, h1, h2, h3⟩
 ·exact .inl hn
 ·exact .inr ⟨g, cap, cur, h1, by omega, h3⟩

set_option maxHeartbeats 2000000 in
theorem parts_any (N : Int) (w : World) (h0 : 0 ≤ N) (h1 : N ≤ 1000) :
  Calls Tryz.prog 89 #[.agg #[.int .i64 N]] w fun e w' => ∃ v, e = .returned v ∧ w'.ownsRow w.heap.size 174 4 v 8 (partCells (partsL N)) ∧ Below w.heap.size w w' := by
 go_enter Tryz.func89, Tryz.ntmps89
 go_upto_region 4 with fail
 obtain ⟨W0, hW0⟩ : ∃ W0, W0 = ((((w.alloc (.cells #[.int .i64 N] 23)).alloc (.cells #[.slice none 0 0] 171)).alloc (.cells #[.int .i64 0] 3))) := ⟨_, rfl⟩
 have hP0 : Blk W0 w.heap.size 23 #[.int .i64 N] := by rw [hW0]; exact ((Blk.new w _ _).alloc _).alloc _
 have hO0 : Blk W0 (w.heap.size + 1) 171 #[.slice none 0 0] := by rw [hW0]; exact (Blk.new2 w _ _ _).alloc _
 have hX0 : Blk W0 (w.heap.size + 1 + 1) 3 #[.int .i64 0] := by
  rw [hW0]
  have h := Blk.new2 (w.alloc (.cells #[.int .i64 N] 23)) (.cells #[.slice none 0 0] 171) 3 #[.int .i64 0]
  rw [size_alloc] at h
  exact h
 have hB0 : Below w.heap.size w W0 := by rw [hW0]; exact (((Below.refl _ _).alloc (Nat.le_refl _) _).alloc (by simp) _).alloc (by simp; omega) _
 rw [← hW0]
 clear hW0
 have hPa : Parts (w.heap.size + 1) (w.heap.size + 1) (w.heap.size + 1 + 1) [] 0 W0 := ⟨⟨_, hO0, World.ownsRow_nil _ _ _ _⟩, hX0⟩
 clear hO0 hX0
 go_wp2_with fail
 refine (addp_any _ _ _ [] 0 1 0 2 W0 hPa (by omega) (by omega) (by simp) (by omega) (by omega) (by omega) (by omega)).mono ?_; rintro e W1 ⟨rfl, hP1, hb1⟩
 have hL1 := hP0.below hb1 (by omega)
 have hB1 := hB0.trans (hb1.mono (by omega))
 have HP1 := Lib.hid hP1
 clear hPa hP1 hP0 hB0 hb1
 go_wp2_with fail
 go_loopw [10] (fun i wr => ∃ j : Nat, j ≤ 2 ∧ i = .int .i64 j ∧ Parts (w.heap.size + 1) (w.heap.size + 1) (w.heap.size + 1 + 1) (psAt N j) (nAt N j) wr ∧ Blk wr w.heap.size 23 #[.int .i64 N] ∧ Below w.heap.size w wr) (fun i _ => 2 - (intOf i).toNat)
 case atStart => exact ⟨0, by omega, rfl, HP1.out, hL1, hB1⟩
 case round =>
  clear HP1 hL1 hB1
  obtain ⟨j, hj, rfl, hP, hL, hB⟩ := hrel
  have hlen := psAt_len N j
  have hnn : 0 ≤ nAt N j ∧ nAt N j ≤ 10000 := by
   have : j = 0 ∨ j = 1 ∨ j = 2 := by omega
   rcases this with rfl | rfl | rfl <;> simp [nAt] <;> omega
  have HP := Lib.hid hP
  clear hP
  have c0 := hL.cell_is 0 rfl
  by_cases hlt : j < 2
  ·go_wp2_with fail
   refine (addp_any _ _ _ _ _ 2 j 1 wr HP.out (by omega) (by omega) (by omega) (by omega) (by omega) (by omega) (by omega)).mono ?_; rintro e W2 ⟨rfl, hP2, hb2⟩
   have HP2 := Lib.hid hP2
   clear hP2
   go_wp2_with fail
   refine (addp_any _ _ _ _ _ 3 j 8 W2 HP2.out (by omega) (by omega) (by simp; omega) (by omega) (by omega) (by omega) (by omega)).mono ?_; rintro e W3 ⟨rfl, hP3, hb3⟩
   have HP3 := Lib.hid hP3
   have hL3 := hL.below (hb2.trans hb3) (by omega)
   have c3 := hL3.cell_is 0 rfl
   clear hP3
   go_wp2_with fail
   refine (addp_any _ _ _ _ _ 4 j N W3 HP3.out (by omega) (by omega) (by simp; omega) (by omega) (by omega) (by omega) (by omega)).mono ?_; rintro e W4 ⟨rfl, hP4, hb4⟩
   have HP4 := Lib.hid hP4
   have hL4 := hL3.below hb4 (by omega)
   have hB4 := hB.trans (((hb2.trans hb3).trans hb4).mono (by omega))
   clear hP4
   go_wp2_with fail
   exact ⟨⟨j + 1, by omega, by go_num, HP4.out, hL4, hB4⟩, by simp [intOf] <;> omega⟩
  ·obtain rfl : j = 2 := by omega
   go_wp2_with fail
   refine (addp_any _ _ _ _ _ 5 0 N wr HP.out (by omega) (by omega) (by omega) (by omega) (by omega) (by omega) (by omega)).mono ?_; rintro e W2 ⟨rfl, hP2, hb2⟩
   obtain ⟨⟨u, hOu, hown⟩, _⟩ := hP2
   have c5 := cell_of_one hOu
   have HW := Lib.hid hown
   have hB2 := hB.trans (hb2.mono (by omega))
   clear hOu hown
   go_wp2_with fail
   go_ret
   exact ⟨u, rfl, own_baseS HW.out (by omega), hB2⟩

end Go.Proofs.YtdpniceapmikpaaGreat
namespace Go.Proofs.YtdpniceapmikpaaGreat
open Go.RowKit

theorem partCells_at : ∀ (ps : List Part) (j : Nat) (p : Part), ps[j]? = some p → ∀ i, i < 4 → (partCells ps)[j * 4 + i]? = p.cells[i]? := by
 intro ps
 induction ps with
 | nil => intro j p h; simp at h
 | cons q ps ih =>
  intro j p h i hi
  have e : partCells (q :: ps) = q.cells ++ partCells ps := rfl
  rw [e]
  cases j with
  | zero =>
   obtain rfl : q = p := by simpa using h
   rw [Nat.zero_mul, Nat.zero_add, List.getElem?_append_left (by simpa using hi)]
  | succ j =>
   have h' : ps[j]? = some p := by simpa using h
   rw [List.getElem?_append_right (by simp; omega)]
   have e2 : (j + 1) * 4 + i - q.cells.length = j * 4 + i := by simp; omega
   rw [e2]
   exact ih j p h' i hi
/-- a row of parts that is read -/
theorem part_row {W : World} {B : Nat} {v : Value} {ps : List Part} (h : W.ownsRow B 174 4 v ps.length (partCells ps)) (hp : 0 < ps.length) :
  ∃ g cap, v = .slice (some ⟨g, 0, none⟩) ps.length cap ∧ g < W.heap.size ∧ ∀ j p, ps[j]? = some p → W.cell? ⟨g, j * 4, none⟩ = some (.int .i64 p.k) ∧ W.cell? ⟨g, j * 4 + 1, none⟩ = some (.int .i64 p.a) ∧ W.cell? ⟨g, j * 4 + 2, none⟩ = some (.int .i64 p.f) ∧ W.cell? ⟨g, j * 4 + 3, none⟩ = some (.int .i64 p.m) := by
 obtain ⟨g, cap, rfl, hB, hlt⟩ := h.form hp
 refine ⟨g, cap, rfl, hlt, fun j p hj => ?_⟩
 have hc := h.cells (g := g) rfl
 have key : ∀ i, i < 4 → ∀ u, p.cells[i]? = some u → W.cell? ⟨g, j * 4 + i, none⟩ = some u := by
  intro i hi u hu
  have := hc (j * 4 + i) u ((partCells_at ps j p hj i hi).trans hu)
  rw [add_at, Nat.zero_add] at this
  exact this
 exact ⟨key 0 (by omega) _ rfl, key 1 (by omega) _ rfl, key 2 (by omega) _ rfl, key 3 (by omega) _ rfl⟩
theorem partsL_len (N : Int) : (partsL N).length = 8 := rfl
def sumM (ps : List Part) : Int := (ps.map (·.m)).sum
theorem sumM_take (ps : List Part) (j : Nat) (p : Part) (h : ps[j]? = some p) : sumM (ps.take (j + 1)) = sumM (ps.take j) + p.m := by
 rw [List.take_add_one, h]
 simp [sumM]
theorem sumM_le (N : Int) (h0 : 0 ≤ N) (j : Nat) (hj : j ≤ 8) : 0 ≤ sumM ((partsL N).take j) ∧ sumM ((partsL N).take j) ≤ 20 + 3 * N := by
 have : j = 0 ∨ j = 1 ∨ j = 2 ∨ j = 3 ∨ j = 4 ∨ j = 5 ∨ j = 6 ∨ j = 7 ∨ j = 8 := by omega
 rcases this with rfl | rfl | rfl | rfl | rfl | rfl | rfl | rfl | rfl <;> simp [sumM, partsL, psAt] <;> omega
theorem sumM_all (N : Int) : sumM (partsL N) = 20 + 3 * N := by
 simp [sumM, partsL, psAt]; omega
theorem partsL_m (N : Int) (h0 : 0 ≤ N) (h1 : N ≤ 1000) (j : Nat) (p : Part) (h : (partsL N)[j]? = some p) : 0 ≤ p.m ∧ p.m ≤ 1000 ∧ 0 ≤ p.f ∧ p.f ≤ 3020 := by
 have hj : j < 8 := by
  rcases Nat.lt_or_ge j 8 with hh | hh
  ·exact hh
  ·rw [List.getElem?_eq_none (by rw [partsL_len]; exact hh)] at h; cases h
 have : j = 0 ∨ j = 1 ∨ j = 2 ∨ j = 3 ∨ j = 4 ∨ j = 5 ∨ j = 6 ∨ j = 7 := by omega
 rcases this with rfl | rfl | rfl | rfl | rfl | rfl | rfl | rfl <;> (obtain rfl := Option.some.inj h; simp [nAt] <;> omega)

theorem size_no (N : Int) (w : World) (h : rightB N = false) : Calls Tryz.prog 39 #[.agg #[.int .i64 N]] w fun e w' => e = .returned (.tuple #[.int .i64 0, .int .i64 2]) ∧ Below w.heap.size w w' := by
 go_enter Tryz.func39, Tryz.ntmps39
 go_wp2_with fail
 refine (right_any N _).mono ?_; rintro e w1 ⟨rfl, hb⟩
 have hbb := ((Below.refl w.heap.size w).alloc (Nat.le_refl _) (.cells #[.int .i64 N] 23)).trans (hb.mono (by simp))
 rw [h]
 go_wp2_with fail
 go_ret2
 exact ⟨rfl, hbb⟩

set_option maxHeartbeats 1000000 in
theorem size_yes (N : Int) (w : World) (h : rightB N = true) : Calls Tryz.prog 39 #[.agg #[.int .i64 N]] w fun e w' => e = .returned (.tuple #[.int .i64 (20 + 3 * N), .int .i64 0]) ∧ Below w.heap.size w w' := by
 have hN : 1 ≤ N ∧ N ≤ 64 := by simpa [rightB] using h
 go_enter Tryz.func39, Tryz.ntmps39
 go_wp2_with fail
 refine (right_any N _).mono ?_; rintro e w1 ⟨rfl, hb⟩
 have hP1 : Blk w1 w.heap.size 23 #[.int .i64 N] := (Blk.new w _ _).below hb (by simp)
 have hbb := ((Below.refl w.heap.size w).alloc (Nat.le_refl _) (.cells #[.int .i64 N] 23)).trans (hb.mono (by simp))
 have c0 := hP1.cell_is 0 rfl
 rw [h]
 clear hb
 go_wp2_with fail
 refine (parts_any N w1 (by omega) (by omega)).mono ?_; rintro e w2 ⟨v, rfl, hO, hb2⟩
 obtain ⟨g, cap, rfl, hg, hcs⟩ := part_row (ps := partsL N) hO (by rw [partsL_len]; omega)
 have hB2 := hbb.trans (hb2.mono hbb.size)
 have hs2 := hB2.size
 have HC := Lib.hid hcs
 rw [partsL_len]
 clear hO hcs hP1 c0 hbb hb2
 go_wp2_with fail
 go_loopw [4, 13] (fun n i wr => ∃ j : Nat, j ≤ 8 ∧ i = .int .i64 j ∧ n = .int .i64 (sumM ((partsL N).take j)) ∧ Below w2.heap.size w2 wr) (fun _ i _ => 8 - (intOf i).toNat)
 case atStart => exact ⟨0, by omega, rfl, rfl, Below.refl _ _⟩
 case round =>
  obtain ⟨j, hj, rfl, rfl, hB⟩ := hrel
  by_cases hlt : j < 8
  ·obtain ⟨p, hp⟩ : ∃ p, (partsL N)[j]? = some p := ⟨_, List.getElem?_eq_getElem (by rw [partsL_len]; exact hlt)⟩
   obtain ⟨y0, y1, y2, y3⟩ := HC.out j p hp
   have x0 := (hB.cell (p := ⟨g, j * 4, none⟩) hg).trans y0
   have x1 := (hB.cell (p := ⟨g, j * 4 + 1, none⟩) hg).trans y1
   have x2 := (hB.cell (p := ⟨g, j * 4 + 2, none⟩) hg).trans y2
   have x3 := (hB.cell (p := ⟨g, j * 4 + 3, none⟩) hg).trans y3
   have hT := Lib.hid (sumM_take _ j p hp)
   have hle := sumM_le N (by omega) j hj
   have hm := partsL_m N (by omega) (by omega) j p hp
   have hz := hB.size
   clear y0 y1 y2 y3 hp
   generalize sumM ((partsL N).take j) = n at *
   go_wp2_with fail
   exact ⟨⟨j + 1, by omega, by go_num, by rw [hT.out], hB.alloc hz _⟩, by simp [intOf] <;> omega⟩
  ·obtain rfl : j = 8 := by omega
   have e : (partsL N).take 8 = partsL N := List.take_of_length_le (by rw [partsL_len]; omega)
   rw [e, sumM_all]
   go_wp2_with fail
   go_ret2
   exact ⟨rfl, hB2.trans (hB.mono hs2)⟩

/-- whether a part is of a kind and an area -/
def isPart (k a : Int) (p : Part) : Bool := (p.k == k) && (p.a == a)
def sectorN (N k a t : Int) : Int × Int :=
 if rightB N && !((k == 2) && !(t == 0)) then
  match (partsL N).find? (isPart k a) with
  | some p => if t < 0 ∨ p.m ≤ t then (0, 4) else (p.f + t, 0)
  | none => (0, 2)
 else (0, 2)
theorem find_at : ∀ (ps : List Part) (k a : Int) (j : Nat) (p : Part), ps[j]? = some p → isPart k a p = true → (∀ i q, i < j → ps[i]? = some q → isPart k a q = false) → ps.find? (isPart k a) = some p := by
 intro ps
 induction ps with
 | nil => intro k a j p h; simp at h
 | cons q ps ih =>
  intro k a j p h hp hn
  cases j with
  | zero =>
   obtain rfl : q = p := by simpa using h
   rw [List.find?_cons, hp]
  | succ j =>
   have hq := hn 0 q (by omega) rfl
   rw [List.find?_cons, hq]
   exact ih k a j p (by simpa using h) hp (fun i r hi hr => hn (i + 1) r (by omega) (by simpa using hr))

theorem sector_no (N k a t : Int) (w : World) (h : rightB N = false) : Calls Tryz.prog 106 #[.agg #[.int .i64 N], .agg #[.int .i64 k, .int .i64 a, .int .i64 t]] w fun e w' => e = .returned (.tuple #[.int .i64 0, .int .i64 2]) ∧ Below w.heap.size w w' := by
 go_enter Tryz.func106, Tryz.ntmps106
 go_wp2_with fail
 refine (right_any N _).mono ?_; rintro e w1 ⟨rfl, hb⟩
 have hbb := (((Below.refl w.heap.size w).alloc (Nat.le_refl _) (.cells #[.int .i64 N] 23)).alloc (by simp) (.cells #[.int .i64 k, .int .i64 a, .int .i64 t] 88)).trans (hb.mono (by simp; omega))
 rw [h]
 go_wp2_with fail
 go_ret2
 exact ⟨rfl, hbb⟩

set_option maxHeartbeats 4000000 in
theorem sector_yes (N k a t : Int) (w : World) (h : rightB N = true) (ht : I64 t) : Calls Tryz.prog 106 #[.agg #[.int .i64 N], .agg #[.int .i64 k, .int .i64 a, .int .i64 t]] w fun e w' =>
  e = .returned (.tuple #[.int .i64 (sectorN N k a t).1, .int .i64 (sectorN N k a t).2]) ∧ Below w.heap.size w w' := by
 have hN : 1 ≤ N ∧ N ≤ 64 := by simpa [rightB] using h
 obtain ⟨r, hr⟩ : ∃ r, r = sectorN N k a t := ⟨_, rfl⟩
 rw [← hr]
 have HR := Lib.hid hr
 clear hr
 go_enter Tryz.func106, Tryz.ntmps106
 go_wp2_with fail
 refine (right_any N _).mono ?_; rintro e w1 ⟨rfl, hb⟩
 have hP1 : Blk w1 w.heap.size 23 #[.int .i64 N] := ((Blk.new w _ _).alloc _).below hb (by simp; omega)
 have hS1 : Blk w1 (w.heap.size + 1) 88 #[.int .i64 k, .int .i64 a, .int .i64 t] := (Blk.new2 w _ _ _).below hb (by simp)
 have hbb := (((Below.refl w.heap.size w).alloc (Nat.le_refl _) (.cells #[.int .i64 N] 23)).alloc (by simp) (.cells #[.int .i64 k, .int .i64 a, .int .i64 t] 88)).trans (hb.mono (by simp; omega))
 have c0 := hP1.cell_is 0 rfl
 have s0 := hS1.cell_is 0 rfl
 have s2 := hS1.cell_is 2 rfl
 rw [h]
 clear hb
 by_cases hk : (k == 2) = true ∧ (t == 0) = false
 ·obtain ⟨hk1, hk2⟩ := hk
  have hr : sectorN N k a t = (0, 2) := by unfold sectorN; rw [hk1, hk2]; simp
  have HR2 := Lib.hid (HR.out.trans hr)
  clear hr
  go_wp2_with fail
  go_ret2
  exact ⟨by rw [HR2.out]; rfl, hbb⟩
 ·have hg : (rightB N && !((k == 2) && !(t == 0))) = true := by
   rw [h]
   cases h1 : (k == 2) <;> cases h2 : (t == 0) <;> simp_all
  have hr2 : sectorN N k a t = (match (partsL N).find? (isPart k a) with
   | some p => if t < 0 ∨ p.m ≤ t then (0, 4) else (p.f + t, 0)
   | none => (0, 2)) := by unfold sectorN; rw [if_pos hg]
  have HR2 := Lib.hid (HR.out.trans hr2)
  clear hr2 hg
  have hside : (k == 2) = false ∨ ((k == 2) = true ∧ (t == 0) = true) := by
   cases h1 : (k == 2) <;> cases h2 : (t == 0) <;> simp_all
  clear hk
  have HT := Lib.hid ht
  clear ht
  rcases hside with h1 | ⟨h1, h2⟩
  all_goals
   go_wp2_with fail
   refine (parts_any N w1 (by omega) (by omega)).mono ?_; rintro e w2 ⟨v, rfl, hO, hb2⟩
   obtain ⟨g, cap, rfl, hg, hcs⟩ := part_row (ps := partsL N) hO (by rw [partsL_len]; omega)
   have hB2 := hbb.trans (hb2.mono hbb.size)
   have hs2 := hB2.size
   have HC := Lib.hid hcs
   have hS2 := hS1.below hb2 hS1.lt
   have hS2lt := hS2.lt
   rw [partsL_len]
   clear hO hcs hP1 hS1 c0 s0 s2 hbb hb2 h1
   try clear h2
   go_wp2_with fail
   go_loopw [24] (fun i wr => ∃ j : Nat, j ≤ 8 ∧ i = .int .i64 j ∧ Hid (∀ i q, i < j → (partsL N)[i]? = some q → isPart k a q = false) ∧ Below w2.heap.size w2 wr) (fun i _ => 8 - (intOf i).toNat)
   case atStart => exact ⟨0, by omega, rfl, Lib.hid (fun i q hi => absurd hi (Nat.not_lt_zero _)), Below.refl _ _⟩
   case round =>
    obtain ⟨j, hj, rfl, hno, hB⟩ := hrel
    by_cases hlt : j < 8
    ·obtain ⟨p, hp⟩ : ∃ p, (partsL N)[j]? = some p := ⟨_, List.getElem?_eq_getElem (by rw [partsL_len]; exact hlt)⟩
     obtain ⟨y0, y1, y2, y3⟩ := HC.out j p hp
     have x0 := (hB.cell (p := ⟨g, j * 4, none⟩) hg).trans y0
     have x1 := (hB.cell (p := ⟨g, j * 4 + 1, none⟩) hg).trans y1
     have x2 := (hB.cell (p := ⟨g, j * 4 + 2, none⟩) hg).trans y2
     have x3 := (hB.cell (p := ⟨g, j * 4 + 3, none⟩) hg).trans y3
     have hS3 := hS2.below hB hS2lt
     have s0 := hS3.cell_is 0 rfl
     have s1 := hS3.cell_is 1 rfl
     have s2 := hS3.cell_is 2 rfl
     have hSl := hS3.lt
     have hm := partsL_m N (by omega) (by omega) j p hp
     have hz := hB.size
     have HP := Lib.hid hp
     clear y0 y1 y2 y3 hp hS3
     cases hk : (p.k == k)
     ·have hnew : isPart k a p = false := by unfold isPart; rw [hk]; rfl
      have hk2 : ¬ p.k = k := by simpa using hk
      have hk3 : (p.k != k) = true := by simpa using hk2
      have HN := Lib.hid hnew
      clear hnew
      go_wp2_with fail
      refine ⟨⟨j + 1, by omega, by go_num, Lib.hid (fun i q hi hq => ?_), hB.alloc hz _⟩, by simp [intOf] <;> omega⟩
      rcases Nat.lt_or_ge i j with h | h
      ·exact hno.out i q h hq
      ·obtain rfl : i = j := by omega
       rw [HP.out] at hq
       obtain rfl := Option.some.inj hq
       exact HN.out
     ·have hk2 : p.k = k := by simpa using hk
      have hk3 : (p.k != k) = false := by simpa using hk2
      have HK2 := Lib.hid hk2
      clear hk2
      cases ha : (p.a == a)
      ·have hnew : isPart k a p = false := by unfold isPart; rw [hk, ha]; rfl
       have ha2 : ¬ p.a = a := by simpa using ha
       have ha3 : (p.a != a) = true := by simpa using ha2
       have HN := Lib.hid hnew
       clear hnew
       go_wp2_with fail
       refine ⟨⟨j + 1, by omega, by go_num, Lib.hid (fun i q hi hq => ?_), hB.alloc hz _⟩, by simp [intOf] <;> omega⟩
       rcases Nat.lt_or_ge i j with h | h
       ·exact hno.out i q h hq
       ·obtain rfl : i = j := by omega
        rw [HP.out] at hq
        obtain rfl := Option.some.inj hq
        exact HN.out
      ·have ha3 : (p.a != a) = false := by simpa using ha
       have hf := find_at _ k a j p HP.out (by unfold isPart; rw [hk, ha]; rfl) hno.out
       have hr3 : r = if t < 0 ∨ p.m ≤ t then (0, 4) else (p.f + t, 0) := by rw [HR2.out, hf]
       have HR3 := Lib.hid hr3
       clear hr3 hf
       by_cases ht0 : t < 0
       ·have HR4 := Lib.hid (HR3.out.trans (if_pos (Or.inl ht0)))
        go_wp2_with fail
        go_ret2
        exact ⟨by rw [HR4.out]; rfl, hB2.trans ((hB.alloc hz _).mono hs2)⟩
       ·by_cases ht1 : p.m ≤ t
        ·have HR4 := Lib.hid (HR3.out.trans (if_pos (Or.inr ht1)))
         go_wp2_with fail
         go_ret2
         exact ⟨by rw [HR4.out]; rfl, hB2.trans ((hB.alloc hz _).mono hs2)⟩
        ·have HR4 := Lib.hid (HR3.out.trans (if_neg (by omega)))
         go_wp2_with fail
         go_ret2
         exact ⟨by rw [HR4.out]; rfl, hB2.trans ((hB.alloc hz _).mono hs2)⟩
    ·obtain rfl : j = 8 := by omega
     have hf : (partsL N).find? (isPart k a) = none := by
      rw [List.find?_eq_none]
      intro q hq
      obtain ⟨i, hi⟩ := List.getElem?_of_mem hq
      have hi8 : i < 8 := by
       rcases Nat.lt_or_ge i 8 with hh | hh
       ·exact hh
       ·rw [List.getElem?_eq_none (by rw [partsL_len]; exact hh)] at hi; cases hi
      rw [hno.out i q hi8 hi]
      simp
     have hr3 : r = (0, 2) := by rw [HR2.out, hf]
     have HR3 := Lib.hid hr3
     clear hr3 hf
     go_wp2_with fail
     go_ret2
     exact ⟨by rw [HR3.out]; rfl, hB2.trans (hB.mono hs2)⟩

theorem sector_any (N k a t : Int) (w : World) (ht : I64 t) : Calls Tryz.prog 106 #[.agg #[.int .i64 N], .agg #[.int .i64 k, .int .i64 a, .int .i64 t]] w fun e w' =>
  e = .returned (.tuple #[.int .i64 (sectorN N k a t).1, .int .i64 (sectorN N k a t).2]) ∧ Below w.heap.size w w' := by
 cases h : rightB N
 ·have e : sectorN N k a t = (0, 2) := by unfold sectorN; rw [h]; rfl
  rw [e]
  exact sector_no N k a t w h
 ·exact sector_yes N k a t w h ht

end Go.Proofs.YtdpniceapmikpaaGreat
namespace Go.Proofs.YtdpniceapmikpaaGreat
open Go.RowKit

theorem rright_any (n : Int) (w : World) : Calls Tryz.prog 41 #[.agg #[.int .i64 n]] w fun e w' => e = .returned (.bool (rightB n)) ∧ Below w.heap.size w w' := by
 by_cases h1 : 1 ≤ n
 ·have e : rightB n = decide (n ≤ 64) := by simp [rightB, h1]
  rw [e]
  go_enter Tryz.func41, Tryz.ntmps41
  go_wp2
  all_goals go_ret
  all_goals exact ⟨by simp, (Below.refl _ _).alloc (Nat.le_refl _) _⟩
 ·have e : rightB n = false := by simp [rightB, h1]
  rw [e]
  go_enter Tryz.func41, Tryz.ntmps41
  go_wp2
  all_goals go_ret
  all_goals exact ⟨by simp, (Below.refl _ _).alloc (Nat.le_refl _) _⟩

/-- a place -/
structure Spot3 where
 k : Int
 a : Int
 t : Int
abbrev Spot3.cells (p : Spot3) : List Value := [.int .i64 p.k, .int .i64 p.a, .int .i64 p.t]
def spotCells (ps : List Spot3) : List Value := ps.flatMap Spot3.cells
theorem spotCells_snoc (ps : List Spot3) (p : Spot3) : spotCells (ps ++ [p]) = spotCells ps ++ p.cells := by simp [spotCells]
def spotRow (k a : Int) (n : Nat) : List Spot3 := (List.range n).map fun (i : Nat) => ⟨k, a, (i : Int)⟩
theorem spotRow_succ (k a : Int) (n : Nat) : spotRow k a (n + 1) = spotRow k a n ++ [⟨k, a, n⟩] := by simp [spotRow, List.range_succ]
theorem spotRow_len (k a : Int) (n : Nat) : (spotRow k a n).length = n := by simp [spotRow]
/-- the places ahead of an area, and all -/
def allUp (N : Nat) : Nat → List Spot3
 | 0 => [⟨1, 0, 0⟩, ⟨1, 0, 1⟩]
 | j + 1 => allUp N j ++ [⟨2, j, 0⟩] ++ spotRow 3 j 8 ++ spotRow 4 j N
def allL (N : Nat) : List Spot3 := allUp N 2 ++ spotRow 5 0 N
theorem allUp_len (N j : Nat) : (allUp N j).length = 2 + (9 + N) * j := by
 induction j with
 | zero => rfl
 | succ j ih => simp [allUp, ih, spotRow_len, Nat.mul_succ]; omega
theorem allL_len (N : Nat) : (allL N).length = 20 + 3 * N := by
 rw [allL, List.length_append, allUp_len, spotRow_len]; omega
theorem info_spot : (Tryz.prog.info? 88).map (fun i => (i.zero, i.size, i.bytes)) = some (some (.agg #[.int .i64 0, .int .i64 0, .int .i64 0]), 3, 24) := by kernel_rfl

/-- places that are owned -/
def Spots (B : Nat) (ss : List Spot3) (v : Value) (w : World) : Prop := w.ownsRow B 88 3 v ss.length (spotCells ss)

theorem wpList_append_spot (W : World) {ops : Array Oper} {rest : List Oper} {o : Oper} {a : Act} {Q : Exit → Act → World → Prop} (hgd : o.guard = none) (s x : Operand)
  (ho : o.op = .call { callee := .builtin .append, args := #[s, x], argTypes := #[168, 168] })
  (B : Nat) (ss : List Spot3) (v : Value) (k e t : Int) (hs : a.eval s = v) (hown : Spots B ss v W) (hx : a.eval x = .slice (some ⟨W.heap.size, 0, none⟩) 1 1) (hlen : ss.length ≤ 100000) (hB : B ≤ W.heap.size)
  (h : ∀ v' w', Spots B (ss ++ [⟨k, e, t⟩]) v' w' → Below B W w' → wpList Tryz.prog ops Q rest (a.put o.dst v') w') : wpList Tryz.prog ops Q (o :: rest) a (W.alloc (.cells #[.int .i64 k, .int .i64 e, .int .i64 t] 88)) := by
 obtain ⟨i0, hi0, hz0, hz1, hz2⟩ := info_parts info_spot
 have HO := Lib.hid hown
 unfold Spots at hown
 refine wpList_append_lies _ hgd s x _ ho B 88 i0 _ 3 24 Tryz.underlying168 hi0 hz0 hz1 hz2 rfl (by omega) v ss.length (spotCells ss) hs (hown.alloc _) ⟨W.heap.size, 0, none⟩ 1 1 [.int .i64 k, .int .i64 e, .int .i64 t] hx rfl (World.news_of_block (cs := #[.int .i64 k, .int .i64 e, .int .i64 t]) (t := 88) (fr := (0, 0)) (heap_alloc_new W _)) (by simp [Value.oneCell']) (by omega) (by unfold maxLen; omega) (by omega) (by simp; omega) (W.heap.size + 1) (by simp) ?_
 intro g cap w3 hO3 hg3 hat3 hlt3
 refine h _ _ ?_ (((Below.refl B W).alloc hB _).grown hg3 (by simp; omega) (fun r hr => (hown.lt r hr).1))
 unfold Spots
 rw [List.length_append, spotCells_snoc]
 exact hO3

set_option maxRecDepth 100000 in
set_option maxHeartbeats 4000000 in
theorem rall_any (N : Nat) (w : World) (h1 : N ≤ 1000) :
  Calls Tryz.prog 86 #[.agg #[.int .i64 N]] w fun e w' => ∃ v, e = .returned v ∧ Spots w.heap.size (allL N) v w' ∧ Below w.heap.size w w' := by
 go_enter Tryz.func86, Tryz.ntmps86
 go_upto_region 3 with fail
 have hP0 : Blk ((w.alloc (.cells #[.int .i64 N] 23)).alloc (.cells #[.int .i64 1, .int .i64 0, .int .i64 0, .int .i64 1, .int .i64 0, .int .i64 1] 88)) w.heap.size 23 #[.int .i64 N] := (Blk.new w _ _).alloc _
 have hS0 : Spots (w.heap.size + 1) (allUp N 0) (.slice (some ⟨w.heap.size + 1, 0, none⟩) 2 2) ((w.alloc (.cells #[.int .i64 N] 23)).alloc (.cells #[.int .i64 1, .int .i64 0, .int .i64 0, .int .i64 1, .int .i64 0, .int .i64 1] 88)) :=
  ⟨rfl, .inr ⟨w.heap.size + 1, 2, _, rfl, Nat.le_refl _, Blk.new2 w _ _ _, Nat.le_refl _, by simp [maxLen], rfl, rfl⟩⟩
 have hB0 : Below w.heap.size w ((w.alloc (.cells #[.int .i64 N] 23)).alloc (.cells #[.int .i64 1, .int .i64 0, .int .i64 0, .int .i64 1, .int .i64 0, .int .i64 1] 88)) := ((Below.refl _ _).alloc (Nat.le_refl _) _).alloc (by simp) _
 have HS0 := Lib.hid hS0
 clear hS0
 go_loopw [3, 4] (fun o i wr => ∃ j : Nat, j ≤ 2 ∧ i = .int .i64 j ∧ Hid (Spots (w.heap.size + 1) (allUp N j) o wr) ∧ Blk wr w.heap.size 23 #[.int .i64 N] ∧ Below w.heap.size w wr) (fun _ i _ => 2 - (intOf i).toNat)
 case atStart => exact ⟨0, by omega, rfl, HS0, hP0, hB0⟩
 case round =>
  clear HS0 hP0 hB0
  obtain ⟨j, hj, rfl, HO, hL, hB⟩ := hrel
  have hlen := allUp_len N j
  have hlb : (9 + N) * j ≤ (9 + N) * 2 := Nat.mul_le_mul_left _ hj
  have hsz := hL.lt
  by_cases hlt : j < 2
  ·go_wp2_with (at_builtin; refine wpList_append_spot wr rfl (.tmp 15) (.tmp 18) rfl (w.heap.size + 1) (allUp N j) _ 2 j 0 rfl HO.out rfl (by omega) (by omega) ?_; intro u w3 hO3 hb3; have HO3 := Lib.hid hO3; clear hO3)
   have hL3 := hL.below hb3 (by omega)
   have hB3 := hB.trans (hb3.mono (by omega))
   clear HO hL hB hb3
   obtain ⟨A1, hA1⟩ : ∃ A1, A1 = allUp N j ++ [⟨2, j, 0⟩] := ⟨_, rfl⟩
   have hA1l : A1.length ≤ 3000 := by rw [hA1]; simp; omega
   rw [← hA1] at HO3
   have HA1 := Lib.hid hA1
   clear hA1
   go_loopw [3, 5] (fun o i wx => ∃ q : Nat, q ≤ 8 ∧ i = .int .i64 q ∧ Hid (Spots (w.heap.size + 1) (A1 ++ spotRow 3 j q) o wx) ∧ Blk wx w.heap.size 23 #[.int .i64 N] ∧ Below w.heap.size w wx) (fun _ i _ => 8 - (intOf i).toNat)
   case atStart => exact ⟨0, by omega, rfl, by simpa [spotRow] using HO3, hL3, hB3⟩
   case round =>
    clear HO3 hL3 hB3 hsz
    obtain ⟨q, hq, rfl, HO, hL, hB⟩ := hrel
    have hsz := hL.lt
    by_cases hq8 : q < 8
    ·go_wp2_with (at_builtin; refine wpList_append_spot wr rfl (.tmp 24) (.tmp 28) rfl (w.heap.size + 1) _ _ 3 j q rfl HO.out rfl (by simp [spotRow_len]; omega) (by omega) ?_; intro u w3 hO3 hb3; have HO3 := Lib.hid hO3; clear hO3)
     refine ⟨⟨q + 1, by omega, by go_num, ?_, hL.below hb3 (by omega), hB.trans (hb3.mono (by omega))⟩, by simp [intOf] <;> omega⟩
     rw [spotRow_succ, ← List.append_assoc]; exact HO3
    ·have hqe : q = 8 := by omega
     have HQE := Lib.hid hqe
     have hlt8 : ¬ (q : Int) < 8 := by omega
     obtain ⟨A2, hA2⟩ : ∃ A2, A2 = A1 ++ spotRow 3 j q := ⟨_, rfl⟩
     have hA2l : A2.length ≤ 4000 := by rw [hA2]; simp [spotRow_len]; omega
     rw [← hA2] at HO
     rw [hqe] at hA2
     have HA2 := Lib.hid hA2
     clear hA2 hqe hq hq8
     go_wp2_with fail
     go_loopw [3, 6] (fun o i wx => ∃ q : Nat, q ≤ N ∧ i = .int .i64 q ∧ Hid (Spots (w.heap.size + 1) (A2 ++ spotRow 4 j q) o wx) ∧ Blk wx w.heap.size 23 #[.int .i64 N] ∧ Below w.heap.size w wx) (fun _ i _ => N - (intOf i).toNat)
     case atStart => exact ⟨0, by omega, rfl, by simpa [spotRow] using HO, hL, hB⟩
     case round =>
      clear HO hL hB hsz
      obtain ⟨q, hq, rfl, HO, hL, hB⟩ := hrel
      have hsz := hL.lt
      have c0 := hL.cell_is 0 rfl
      by_cases hqN : q < N
      ·go_wp2_with (at_builtin; refine wpList_append_spot wr rfl (.tmp 36) (.tmp 40) rfl (w.heap.size + 1) _ _ 4 j q rfl HO.out rfl (by simp [spotRow_len]; omega) (by omega) ?_; intro u w3 hO3 hb3; have HO3 := Lib.hid hO3; clear hO3)
       refine ⟨⟨q + 1, by omega, by go_num, ?_, hL.below hb3 (by omega), hB.trans (hb3.mono (by omega))⟩, by simp [intOf] <;> omega⟩
       rw [spotRow_succ, ← List.append_assoc]; exact HO3
      ·obtain rfl : q = N := by omega
       go_wp2_with fail
       refine ⟨⟨j + 1, by omega, by go_num, ?_, hL, hB⟩, by simp [intOf] <;> omega⟩
       rw [HA2.out, HA1.out] at HO
       exact HO
  ·have hje : j = 2 := by omega
   have hlt2 : ¬ (j : Int) < 2 := by omega
   obtain ⟨A2, hA2⟩ : ∃ A2, A2 = allUp N j := ⟨_, rfl⟩
   have hA2l : A2.length ≤ 4000 := by rw [hA2]; omega
   rw [← hA2] at HO
   rw [hje] at hA2
   have HA2 := Lib.hid hA2
   clear hA2 hje hlt hlb hlen
   go_wp2_with fail
   go_loopw [3, 7] (fun o i wx => ∃ q : Nat, q ≤ N ∧ i = .int .i64 q ∧ Hid (Spots (w.heap.size + 1) (A2 ++ spotRow 5 0 q) o wx) ∧ Blk wx w.heap.size 23 #[.int .i64 N] ∧ Below w.heap.size w wx) (fun _ i _ => N - (intOf i).toNat)
   case atStart => exact ⟨0, by omega, rfl, by simpa [spotRow] using HO, hL, hB⟩
   case round =>
    clear HO hL hB hsz
    obtain ⟨q, hq, rfl, HO, hL, hB⟩ := hrel
    have hsz := hL.lt
    have c0 := hL.cell_is 0 rfl
    by_cases hqN : q < N
    ·go_wp2_with (at_builtin; refine wpList_append_spot wr rfl (.tmp 48) (.tmp 51) rfl (w.heap.size + 1) _ _ 5 0 q rfl HO.out rfl (by simp [spotRow_len]; omega) (by omega) ?_; intro u w3 hO3 hb3; have HO3 := Lib.hid hO3; clear hO3)
     refine ⟨⟨q + 1, by omega, by go_num, ?_, hL.below hb3 (by omega), hB.trans (hb3.mono (by omega))⟩, by simp [intOf] <;> omega⟩
     rw [spotRow_succ, ← List.append_assoc]; exact HO3
    ·obtain rfl : q = N := by omega
     go_wp2_with fail
     go_ret
     refine ⟨_, rfl, ?_, hB⟩
     rw [HA2.out] at HO
     exact own_baseS HO.out (by omega)

end Go.Proofs.YtdpniceapmikpaaGreat
