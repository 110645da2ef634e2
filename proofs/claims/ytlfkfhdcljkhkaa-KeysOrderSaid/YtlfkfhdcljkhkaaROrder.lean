/-
  The contract of the reference's Order.
-/
import Derived.Test.YtlfkfhdcljkhkaaOrder
namespace Go.Proofs.Ytlfkfhdcljkhkaa
open Go.RowKit

/-- the six numbers of a key -/
def nth6 (k o c a r v : Int) : Nat → Int
  | 0 => k
  | 1 => o
  | 2 => c
  | 3 => a
  | 4 => r
  | 5 => v
  | _ => 0
/-- six numbers in a block -/
def Row6 (W : World) (b : Nat) (f : Nat → Int) : Prop := ∀ i, i < 6 → W.cell? ⟨b, i, none⟩ = some (.int .i64 (f i))
theorem row6_of {W : World} {b : Nat} {t : TypeId} {k o c a r v : Int} (h : Blk W b t (keyV k o c a r v)) : Row6 W b (nth6 k o c a r v) := fun i hi => h.cell_is i (by
  match i, hi with
  | 0, _ => rfl
  | 1, _ => rfl
  | 2, _ => rfl
  | 3, _ => rfl
  | 4, _ => rfl
  | 5, _ => rfl
  | n + 6, h => exact absurd h (by omega))
theorem cmpAt_is (k o c a r v k' o' c' a' r' v' : Int) (i : Nat) (hi : i < 6) : cmpAt k o c a r v k' o' c' a' r' v' i = cmp3 (nth6 k o c a r v i) (nth6 k' o' c' a' r' v' i) := by
  match i, hi with
  | 0, _ => rfl
  | 1, _ => rfl
  | 2, _ => rfl
  | 3, _ => rfl
  | 4, _ => rfl
  | 5, _ => rfl
  | n + 6, h => exact absurd h (by omega)
/-- a step of the search, by the comparison -/
def goOn (d rest : Int) : Int := if d = 0 then rest else d
theorem fst_step {f : Nat → Int} {n i : Nat} {d : Int} (h : f i = d) : fst f (n + 1) i = goOn d (fst f n (i + 1)) := by subst h; rfl
theorem cmp_lt {x y t : Int} (h : x < y) : goOn (cmp3 x y) t = -1 := by rw [cmp3_lt h]; rfl
theorem cmp_gt {x y t : Int} (h : ¬ x < y) (h' : y < x) : goOn (cmp3 x y) t = 1 := by rw [cmp3_gt h h']; rfl
theorem cmp_go {x y t : Int} (h : ¬ x < y) (h' : ¬ y < x) : goOn (cmp3 x y) t = t := by rw [cmp3_eq h h']; rfl

set_option maxHeartbeats 1000000 in
theorem rorder_any (k o c a r v k' o' c' a' r' v' : Int) (w : World) :
    Calls Try.prog 28 #[.agg #[.int .i64 k, .int .i64 o, .int .i64 c, .int .i64 a, .int .i64 r, .int .i64 v], .agg #[.int .i64 k', .int .i64 o', .int .i64 c', .int .i64 a', .int .i64 r', .int .i64 v']] w fun e w' =>
      e = .returned (.int .i64 (orderV k o c a r v k' o' c' a' r' v')) ∧ Below w.heap.size w w' := by
  go_enter Try.func28, Try.ntmps28
  have K1 := ((Blk.new w 25 (keyV k o c a r v)).alloc (.cells (keyV k' o' c' a' r' v') 25))
  have K2 := (Blk.new2 w (.cells (keyV k o c a r v) 25) 25 (keyV k' o' c' a' r' v'))
  obtain ⟨x0, x1, x2, x3, x4, x5⟩ := K1.key
  obtain ⟨y0, y1, y2, y3, y4, y5⟩ := K2.key
  clear K1 K2
  go_wp2_with fail
  have L1 := Blk.new' (w := (w.alloc (.cells #[.int .i64 k, .int .i64 o, .int .i64 c, .int .i64 a, .int .i64 r, .int .i64 v] 25)).alloc (.cells #[.int .i64 k', .int .i64 o', .int .i64 c', .int .i64 a', .int .i64 r', .int .i64 v'] 25)) (t := 2) (cs := keyV k o c a r v) (n := w.heap.size + 1 + 1) (by simp)
  have L2 := L1.alloc (.cells (keyV k' o' c' a' r' v') 2)
  have L3 := Blk.new' (w := ((w.alloc (.cells #[.int .i64 k, .int .i64 o, .int .i64 c, .int .i64 a, .int .i64 r, .int .i64 v] 25)).alloc (.cells #[.int .i64 k', .int .i64 o', .int .i64 c', .int .i64 a', .int .i64 r', .int .i64 v'] 25)).alloc (.cells (keyV k o c a r v) 2)) (t := 2) (cs := keyV k' o' c' a' r' v') (n := w.heap.size + 1 + 1 + 1) (by simp)
  have hbb := (((((Below.refl w.heap.size w).alloc (Nat.le_refl _) (.cells (keyV k o c a r v) 25)).alloc (by simp) (.cells (keyV k' o' c' a' r' v') 25)).alloc (by simp; omega) (.cells (keyV k o c a r v) 2)).alloc (by simp; omega) (.cells (keyV k' o' c' a' r' v') 2))
  clear L1 x0 x1 x2 x3 x4 x5 y0 y1 y2 y3 y4 y5
  generalize (((w.alloc (.cells #[.int .i64 k, .int .i64 o, .int .i64 c, .int .i64 a, .int .i64 r, .int .i64 v] 25)).alloc (.cells #[.int .i64 k', .int .i64 o', .int .i64 c', .int .i64 a', .int .i64 r', .int .i64 v'] 25)).alloc (.cells #[.int .i64 k, .int .i64 o, .int .i64 c, .int .i64 a, .int .i64 r, .int .i64 v] 2)).alloc (.cells #[.int .i64 k', .int .i64 o', .int .i64 c', .int .i64 a', .int .i64 r', .int .i64 v'] 2) = W at *
  have HF := row6_of L2
  have HG := row6_of L3
  clear L2 L3
  go_loopw [7] (fun i wr => ∃ n : Nat, n ≤ 6 ∧ i = .int .i64 n ∧ Below w.heap.size w wr ∧ Row6 wr (w.heap.size + 1 + 1) (nth6 k o c a r v) ∧ Row6 wr (w.heap.size + 1 + 1 + 1) (nth6 k' o' c' a' r' v') ∧ Hid (fst (cmpAt k o c a r v k' o' c' a' r' v') (6 - n) n = orderV k o c a r v k' o' c' a' r' v')) (fun i _ => 6 - (intOf i).toNat)
  case atStart => exact ⟨0, Nat.zero_le _, rfl, hbb, HF, HG, Lib.hid rfl⟩
  case round =>
    clear HF HG hbb
    obtain ⟨n, hn, rfl, hB, HF, HG, hR⟩ := hrel
    by_cases hlt : n < 6
    · have p := HF n hlt
      have q := HG n hlt
      have hN := Lib.hid (fst_step (i := n) (n := 5 - n) (cmpAt_is k o c a r v k' o' c' a' r' v' n hlt))
      have e6 : 6 - n = 5 - n + 1 := by omega
      rw [e6] at hR
      have hS := Lib.hid (hN.out.symm.trans hR.out)
      clear hN hR e6
      generalize nth6 k o c a r v n = x at *
      generalize nth6 k' o' c' a' r' v' n = y at *
      by_cases h1 : x < y
      · have hE := Lib.hid ((cmp_lt h1).symm.trans hS.out)
        have h1d : decide (x < y) = true := decide_eq_true h1
        clear hS HF HG h1
        go_upto_region 6 with fail
        go_region
        all_goals go_wp2_with fail
        all_goals go_ret
        all_goals exact ⟨by rw [← hE.out]; rfl, by first | exact hB.drew | exact hB.drew.drew⟩
      · by_cases h2 : y < x
        · have hE := Lib.hid ((cmp_gt h1 h2).symm.trans hS.out)
          have h1d : decide (x < y) = false := decide_eq_false h1
          have h2d : decide (y < x) = true := decide_eq_true h2
          clear hS HF HG h1 h2
          go_upto_region 6 with fail
          go_region
          all_goals go_upto_region 8 with fail
          all_goals go_region
          all_goals go_wp2_with fail
          all_goals go_ret
          all_goals exact ⟨by rw [← hE.out]; rfl, by first | exact hB.drew | exact hB.drew.drew⟩
        · have hE : Hid (fst (cmpAt k o c a r v k' o' c' a' r' v') (5 - n) (n + 1) = orderV k o c a r v k' o' c' a' r' v') := Lib.hid ((cmp_go h1 h2).symm.trans hS.out)
          have h1d : decide (x < y) = false := decide_eq_false h1
          have h2d : decide (y < x) = false := decide_eq_false h2
          have HF1 := Lib.hid HF
          have HG1 := Lib.hid HG
          clear hS HF HG h1 h2
          go_upto_region 6 with fail
          go_region
          all_goals go_upto_region 8 with fail
          all_goals go_region
          all_goals go_wp2_with fail
          all_goals exact ⟨⟨n + 1, by omega, by go_num, hB.drew.drew, HF1.out, HG1.out, by rw [show 6 - (n + 1) = 5 - n by omega]; exact hE⟩, by simp [intOf]; omega⟩
    · have hn6 : n = 6 := by omega
      subst hn6
      go_wp2_with fail
      go_ret
      exact ⟨by rw [← hR.out]; rfl, hB⟩

end Go.Proofs.Ytlfkfhdcljkhkaa
