/-
  The law KeysOrder answers true, for all three keys.
-/
import Derived.Test.YtlfkfhdcljkhkaaROrder
namespace Go.Proofs.Ytlfkfhdcljkhkaa
open Go.RowKit

/-- -1, 0 or 1 -/
def Sign (n : Int) : Prop := n = -1 ∨ n = 0 ∨ n = 1
theorem cmp3_sign (x y : Int) : Sign (cmp3 x y) := by
  unfold cmp3 Sign
  split
  · exact .inl rfl
  · split
    · exact .inr (.inr rfl)
    · exact .inr (.inl rfl)
theorem fst_sign {f : Nat → Int} (h : ∀ i, Sign (f i)) : ∀ n i, Sign (fst f n i)
  | 0, _ => .inr (.inl rfl)
  | n + 1, i => by
    unfold fst
    split
    · exact fst_sign h n (i + 1)
    · exact h i
theorem cmpAt_sign (k o c a r v k' o' c' a' r' v' : Int) (i : Nat) : Sign (cmpAt k o c a r v k' o' c' a' r' v' i) := by
  unfold cmpAt
  split <;> first | exact cmp3_sign _ _ | exact .inr (.inl rfl)
theorem order_sign (k o c a r v k' o' c' a' r' v' : Int) : Sign (orderV k o c a r v k' o' c' a' r' v') := fst_sign (cmpAt_sign _ _ _ _ _ _ _ _ _ _ _ _) 6 0
theorem cmp3_neg (x y : Int) : cmp3 y x = -cmp3 x y := by
  unfold cmp3
  split <;> split <;> (try split) <;> first | rfl | omega
theorem fst_neg {f g : Nat → Int} (h : ∀ i, g i = -f i) : ∀ n i, fst g n i = -fst f n i
  | 0, _ => rfl
  | n + 1, i => by
    unfold fst
    rw [h i]
    by_cases e : f i = 0
    · rw [if_pos e, if_pos (by omega), fst_neg h n (i + 1)]
    · rw [if_neg e, if_neg (by omega)]
theorem order_neg (k o c a r v k' o' c' a' r' v' : Int) : orderV k' o' c' a' r' v' k o c a r v = -orderV k o c a r v k' o' c' a' r' v' := fst_neg (fun i => by
  unfold cmpAt
  split <;> first | exact cmp3_neg _ _ | rfl) 6 0
theorem cmp3_zero {x y : Int} : cmp3 x y = 0 ↔ x = y := by
  unfold cmp3
  split
  · constructor <;> intro h <;> omega
  · split
    · constructor <;> intro h <;> omega
    · constructor <;> intro h
      · omega
      · rfl
theorem fst_all {f : Nat → Int} {n i : Nat} : fst f (n + 1) i = 0 ↔ f i = 0 ∧ fst f n (i + 1) = 0 := by
  by_cases e : f i = 0
  · rw [fst_zero e]
    exact ⟨fun h => ⟨e, h⟩, fun h => h.2⟩
  · rw [fst_here e]
    exact ⟨fun h => absurd h e, fun h => absurd h.1 e⟩
theorem order_zero (k o c a r v k' o' c' a' r' v' : Int) : orderV k o c a r v k' o' c' a' r' v' = 0 ↔ k = k' ∧ o = o' ∧ c = c' ∧ a = a' ∧ r = r' ∧ v = v' := by
  unfold orderV
  rw [fst_all, fst_all, fst_all, fst_all, fst_all, fst_all]
  simp only [cmpAt, fst, cmp3_zero, and_true]

theorem sign_any {n : Int} (h : Sign n) (w : World) : Calls Try.prog 26 #[.int .i64 n] w fun e w' => e = .returned (.int .i64 n) ∧ w' = w := by
  rcases h with rfl | rfl | rfl
  all_goals
    go_enter Try.func26, Try.ntmps26
    go_wp2_with fail
    go_ret
    exact ⟨by first | rfl | (simp; done) | decide, rfl⟩

theorem three_step {w W w' : World} {b b' b'' : Nat} {k o c a r v k' o' c' a' r' v' k'' o'' c'' a'' r'' v'' : Int} (hB : Below w.heap.size w W) (h : KeyAt W b k o c a r v) (h' : KeyAt W b' k' o' c' a' r' v') (h'' : KeyAt W b'' k'' o'' c'' a'' r'' v'') (hb : Below W.heap.size W w') :
    Below w.heap.size w w' ∧ KeyAt w' b k o c a r v ∧ KeyAt w' b' k' o' c' a' r' v' ∧ KeyAt w' b'' k'' o'' c'' a'' r'' v'' :=
  ⟨hB.trans (hb.mono hB.size), h.step hb, h'.step hb, h''.step hb⟩

set_option maxHeartbeats 4000000 in
theorem lawOrder_walk (k o c a r v k' o' c' a' r' v' k'' o'' c'' a'' r'' v'' : Int) (w : World) :
    Calls Try.prog 10 #[.agg #[.int .i64 k, .int .i64 o, .int .i64 c, .int .i64 a, .int .i64 r, .int .i64 v], .agg #[.int .i64 k', .int .i64 o', .int .i64 c', .int .i64 a', .int .i64 r', .int .i64 v'], .agg #[.int .i64 k'', .int .i64 o'', .int .i64 c'', .int .i64 a'', .int .i64 r'', .int .i64 v'']] w fun e w' => e = .returned (.bool true) ∧ Below w.heap.size w w' := by
  go_enter Try.func10, Try.ntmps10
  have K1 := ((((Blk.new w 25 (keyV k o c a r v)).alloc (.cells (keyV k' o' c' a' r' v') 25))).alloc (.cells (keyV k'' o'' c'' a'' r'' v'') 25)).drew
  have K2 := ((Blk.new2 w (.cells (keyV k o c a r v) 25) 25 (keyV k' o' c' a' r' v')).alloc (.cells (keyV k'' o'' c'' a'' r'' v'') 25)).drew
  have K3 := (Blk.new' (w := (w.alloc (.cells (keyV k o c a r v) 25)).alloc (.cells (keyV k' o' c' a' r' v') 25)) (t := 25) (cs := keyV k'' o'' c'' a'' r'' v'') (n := w.heap.size + 1 + 1) (by simp)).drew
  have hbb := ((((Below.refl w.heap.size w).alloc (Nat.le_refl _) (.cells (keyV k o c a r v) 25)).alloc (by simp) (.cells (keyV k' o' c' a' r' v') 25)).alloc (by simp; omega) (.cells (keyV k'' o'' c'' a'' r'' v'') 25)).drew
  obtain ⟨x0, x1, x2, x3, x4, x5⟩ := K1.key
  obtain ⟨y0, y1, y2, y3, y4, y5⟩ := K2.key
  obtain ⟨z1, z2, z3, z4, z5, z6⟩ := K3.key
  clear K1 K2 K3
  go_upto_region 2 with fail
  generalize ((w.alloc (.cells #[.int .i64 k, .int .i64 o, .int .i64 c, .int .i64 a, .int .i64 r, .int .i64 v] 25)).alloc (.cells #[.int .i64 k', .int .i64 o', .int .i64 c', .int .i64 a', .int .i64 r', .int .i64 v'] 25)).alloc (.cells #[.int .i64 k'', .int .i64 o'', .int .i64 c'', .int .i64 a'', .int .i64 r'', .int .i64 v''] 25) = W at *
  refine wp_region_held_drew (S := (fun w' => Below w.heap.size w w' ∧ w'.cell? ⟨w.heap.size, 0, none⟩ = some (.int .i64 k) ∧ w'.cell? ⟨w.heap.size, 1, none⟩ = some (.int .i64 o) ∧ w'.cell? ⟨w.heap.size, 2, none⟩ = some (.int .i64 c) ∧ w'.cell? ⟨w.heap.size, 3, none⟩ = some (.int .i64 a) ∧ w'.cell? ⟨w.heap.size, 4, none⟩ = some (.int .i64 r) ∧ w'.cell? ⟨w.heap.size, 5, none⟩ = some (.int .i64 v) ∧ w'.cell? ⟨w.heap.size + 1, 0, none⟩ = some (.int .i64 k') ∧ w'.cell? ⟨w.heap.size + 1, 1, none⟩ = some (.int .i64 o') ∧ w'.cell? ⟨w.heap.size + 1, 2, none⟩ = some (.int .i64 c') ∧ w'.cell? ⟨w.heap.size + 1, 3, none⟩ = some (.int .i64 a') ∧ w'.cell? ⟨w.heap.size + 1, 4, none⟩ = some (.int .i64 r') ∧ w'.cell? ⟨w.heap.size + 1, 5, none⟩ = some (.int .i64 v') ∧ w'.cell? ⟨w.heap.size + 1 + 1, 0, none⟩ = some (.int .i64 k'') ∧ w'.cell? ⟨w.heap.size + 1 + 1, 1, none⟩ = some (.int .i64 o'') ∧ w'.cell? ⟨w.heap.size + 1 + 1, 2, none⟩ = some (.int .i64 c'') ∧ w'.cell? ⟨w.heap.size + 1 + 1, 3, none⟩ = some (.int .i64 a'') ∧ w'.cell? ⟨w.heap.size + 1 + 1, 4, none⟩ = some (.int .i64 r'') ∧ w'.cell? ⟨w.heap.size + 1 + 1, 5, none⟩ = some (.int .i64 v''))) (by kernel_rfl) (by (try dsimp only); (refine ⟨?_, ?_, ?_, ?_, ?_, ?_, ?_, ?_, ?_, ?_, ?_, ?_, ?_, ?_, ?_, ?_, ?_, ?_, ?_⟩ <;> assumption)) (fun hHeld => ?_)
  refine wpAnyH_take (i := 0) (v := ?v0) rfl (by kernel_rfl) (by kernel_rfl) (by kernel_rfl) (fun _ _ _ h => h) (Or.inl ⟨by rfl, ?hy0⟩) (by assumption) ?_
  case hy0 => (intro w hSw; (try dsimp only at hSw); go_simp; try with_reducible rfl)
  try simp only [Act.put, List.getElem_toArray, List.getElem_cons_succ, List.getElem_cons_zero, List.setIfInBounds_toArray, List.set_cons_zero, List.set_cons_succ]
  refine wpAnyH_take (i := 1) (v := ?v1) rfl (by kernel_rfl) (by kernel_rfl) (by kernel_rfl) (fun _ _ _ h => h) (Or.inl ⟨by rfl, ?hy1⟩) (by assumption) ?_
  case hy1 => (intro w hSw; (try dsimp only at hSw); go_simp; try with_reducible rfl)
  try simp only [Act.put, List.getElem_toArray, List.getElem_cons_succ, List.getElem_cons_zero, List.setIfInBounds_toArray, List.set_cons_zero, List.set_cons_succ]
  refine wpAnyH_take (i := 2) (v := ?v2) rfl (by kernel_rfl) (by kernel_rfl) (by kernel_rfl) (fun _ _ _ h => h) (Or.inl ⟨by rfl, ?hy2⟩) (by assumption) ?_
  case hy2 => (intro w hSw; (try dsimp only at hSw); go_simp; try with_reducible rfl)
  try simp only [Act.put, List.getElem_toArray, List.getElem_cons_succ, List.getElem_cons_zero, List.setIfInBounds_toArray, List.set_cons_zero, List.set_cons_succ]
  refine wpAnyH_take (i := 5) (v := ?v5) rfl (by kernel_rfl) (by kernel_rfl) (by kernel_rfl) (fun _ _ _ h => h) (Or.inl ⟨by rfl, ?hy5⟩) (by assumption) ?_
  case hy5 => (intro w hSw; (try dsimp only at hSw); go_simp; try with_reducible rfl)
  try simp only [Act.put, List.getElem_toArray, List.getElem_cons_succ, List.getElem_cons_zero, List.setIfInBounds_toArray, List.set_cons_zero, List.set_cons_succ]
  refine wpAnyH_take (i := 6) (v := ?v6) rfl (by kernel_rfl) (by kernel_rfl) (by kernel_rfl) (fun _ _ _ h => h) (Or.inl ⟨by rfl, ?hy6⟩) (by assumption) ?_
  case hy6 => (intro w hSw; (try dsimp only at hSw); go_simp; try with_reducible rfl)
  try simp only [Act.put, List.getElem_toArray, List.getElem_cons_succ, List.getElem_cons_zero, List.setIfInBounds_toArray, List.set_cons_zero, List.set_cons_succ]
  refine wpAnyH_take (i := 7) (v := ?v7) rfl (by kernel_rfl) (by kernel_rfl) (by kernel_rfl) (fun _ _ _ h => h) (Or.inl ⟨by rfl, ?hy7⟩) (by assumption) ?_
  case hy7 => (intro w hSw; (try dsimp only at hSw); go_simp; try with_reducible rfl)
  try simp only [Act.put, List.getElem_toArray, List.getElem_cons_succ, List.getElem_cons_zero, List.setIfInBounds_toArray, List.set_cons_zero, List.set_cons_succ]
  refine wpAnyH_take (i := 10) (v := ?v10) rfl (by kernel_rfl) (by kernel_rfl) (by kernel_rfl) (fun _ _ _ h => h) (Or.inl ⟨by rfl, ?hy10⟩) (by assumption) ?_
  case hy10 => (intro w hSw; (try dsimp only at hSw); go_simp; try with_reducible rfl)
  try simp only [Act.put, List.getElem_toArray, List.getElem_cons_succ, List.getElem_cons_zero, List.setIfInBounds_toArray, List.set_cons_zero, List.set_cons_succ]
  refine wpAnyH_take (i := 11) (v := ?v11) rfl (by kernel_rfl) (by kernel_rfl) (by kernel_rfl) (fun _ _ _ h => h) (Or.inl ⟨by rfl, ?hy11⟩) (by assumption) ?_
  case hy11 => (intro w hSw; (try dsimp only at hSw); go_simp; try with_reducible rfl)
  try simp only [Act.put, List.getElem_toArray, List.getElem_cons_succ, List.getElem_cons_zero, List.setIfInBounds_toArray, List.set_cons_zero, List.set_cons_succ]
  refine wpAnyH_take (i := 12) (v := ?v12) rfl (by kernel_rfl) (by kernel_rfl) (by kernel_rfl) (fun _ _ _ h => h) (Or.inl ⟨by rfl, ?hy12⟩) (by assumption) ?_
  case hy12 => (intro w hSw; (try dsimp only at hSw); go_simp; try with_reducible rfl)
  try simp only [Act.put, List.getElem_toArray, List.getElem_cons_succ, List.getElem_cons_zero, List.setIfInBounds_toArray, List.set_cons_zero, List.set_cons_succ]
  refine wpAnyH_ready (rs := [3]) (by kernel_rfl) (by simp) ?_
  refine AllReadyH.cons rfl (fun K hK => ?_) AllReadyH.nil
  go_simp
  (refine (order_any _ _ _ _ _ _ _ _ _ _ _ _ _).mono ?_; rintro e w' ⟨rfl, hb⟩; obtain ⟨hbc, ⟨p0, p1, p2, p3, p4, p5⟩, ⟨q0, q1, q2, q3, q4, q5⟩, r1, r2, r3, r4, r5, r6⟩ := three_step (w := w) (b := w.heap.size) (b' := w.heap.size + 1) (b'' := w.heap.size + 1 + 1) (by assumption) ⟨by assumption, by assumption, by assumption, by assumption, by assumption, by assumption⟩ ⟨by assumption, by assumption, by assumption, by assumption, by assumption, by assumption⟩ ⟨by assumption, by assumption, by assumption, by assumption, by assumption, by assumption⟩ hb; clear hb x0 x1 x2 x3 x4 x5 y0 y1 y2 y3 y4 y5 z1 z2 z3 z4 z5 z6 hbb)
  go_wp2_with fail
  clear hHeld
  refine hK.out _ _ (by (try dsimp only); (refine ⟨?_, ?_, ?_, ?_, ?_, ?_, ?_, ?_, ?_, ?_, ?_, ?_, ?_, ?_, ?_, ?_, ?_, ?_, ?_⟩ <;> assumption)) (fun hHeld => ?_)
  clear hK K
  try simp only [Act.put, List.getElem_toArray, List.getElem_cons_succ, List.getElem_cons_zero, List.setIfInBounds_toArray, List.set_cons_zero, List.set_cons_succ]
  refine wpAnyH_ready (rs := [4]) (by kernel_rfl) (by simp) ?_
  refine AllReadyH.cons rfl (fun K hK => ?_) AllReadyH.nil
  go_simp
  (refine (sign_any (order_sign k o c a r v k' o' c' a' r' v') _).mono ?_; rintro e w' ⟨rfl, rfl⟩)
  go_wp2_with fail
  clear hHeld
  refine hK.out _ _ (by (try dsimp only); (refine ⟨?_, ?_, ?_, ?_, ?_, ?_, ?_, ?_, ?_, ?_, ?_, ?_, ?_, ?_, ?_, ?_, ?_, ?_, ?_⟩ <;> assumption)) (fun hHeld => ?_)
  clear hK K
  try simp only [Act.put, List.getElem_toArray, List.getElem_cons_succ, List.getElem_cons_zero, List.setIfInBounds_toArray, List.set_cons_zero, List.set_cons_succ]
  refine wpAnyH_ready (rs := [8]) (by kernel_rfl) (by simp) ?_
  refine AllReadyH.cons rfl (fun K hK => ?_) AllReadyH.nil
  go_simp
  (refine (order_any _ _ _ _ _ _ _ _ _ _ _ _ _).mono ?_; rintro e w' ⟨rfl, hb⟩; obtain ⟨hbb, ⟨x0, x1, x2, x3, x4, x5⟩, ⟨y0, y1, y2, y3, y4, y5⟩, z1, z2, z3, z4, z5, z6⟩ := three_step (w := w) (b := w.heap.size) (b' := w.heap.size + 1) (b'' := w.heap.size + 1 + 1) (by assumption) ⟨by assumption, by assumption, by assumption, by assumption, by assumption, by assumption⟩ ⟨by assumption, by assumption, by assumption, by assumption, by assumption, by assumption⟩ ⟨by assumption, by assumption, by assumption, by assumption, by assumption, by assumption⟩ hb; clear hb p0 p1 p2 p3 p4 p5 q0 q1 q2 q3 q4 q5 r1 r2 r3 r4 r5 r6 hbc)
  go_wp2_with fail
  clear hHeld
  refine hK.out _ _ (by (try dsimp only); (refine ⟨?_, ?_, ?_, ?_, ?_, ?_, ?_, ?_, ?_, ?_, ?_, ?_, ?_, ?_, ?_, ?_, ?_, ?_, ?_⟩ <;> assumption)) (fun hHeld => ?_)
  clear hK K
  try simp only [Act.put, List.getElem_toArray, List.getElem_cons_succ, List.getElem_cons_zero, List.setIfInBounds_toArray, List.set_cons_zero, List.set_cons_succ]
  refine wpAnyH_ready (rs := [9]) (by kernel_rfl) (by simp) ?_
  refine AllReadyH.cons rfl (fun K hK => ?_) AllReadyH.nil
  go_simp
  (refine (sign_any (order_sign k' o' c' a' r' v' k'' o'' c'' a'' r'' v'') _).mono ?_; rintro e w' ⟨rfl, rfl⟩)
  go_wp2_with fail
  clear hHeld
  refine hK.out _ _ (by (try dsimp only); (refine ⟨?_, ?_, ?_, ?_, ?_, ?_, ?_, ?_, ?_, ?_, ?_, ?_, ?_, ?_, ?_, ?_, ?_, ?_, ?_⟩ <;> assumption)) (fun hHeld => ?_)
  clear hK K
  try simp only [Act.put, List.getElem_toArray, List.getElem_cons_succ, List.getElem_cons_zero, List.setIfInBounds_toArray, List.set_cons_zero, List.set_cons_succ]
  refine wpAnyH_ready (rs := [13]) (by kernel_rfl) (by simp) ?_
  refine AllReadyH.cons rfl (fun K hK => ?_) AllReadyH.nil
  go_simp
  (refine (order_any _ _ _ _ _ _ _ _ _ _ _ _ _).mono ?_; rintro e w' ⟨rfl, hb⟩; obtain ⟨hbc, ⟨p0, p1, p2, p3, p4, p5⟩, ⟨q0, q1, q2, q3, q4, q5⟩, r1, r2, r3, r4, r5, r6⟩ := three_step (w := w) (b := w.heap.size) (b' := w.heap.size + 1) (b'' := w.heap.size + 1 + 1) (by assumption) ⟨by assumption, by assumption, by assumption, by assumption, by assumption, by assumption⟩ ⟨by assumption, by assumption, by assumption, by assumption, by assumption, by assumption⟩ ⟨by assumption, by assumption, by assumption, by assumption, by assumption, by assumption⟩ hb; clear hb x0 x1 x2 x3 x4 x5 y0 y1 y2 y3 y4 y5 z1 z2 z3 z4 z5 z6 hbb)
  go_wp2_with fail
  clear hHeld
  refine hK.out _ _ (by (try dsimp only); (refine ⟨?_, ?_, ?_, ?_, ?_, ?_, ?_, ?_, ?_, ?_, ?_, ?_, ?_, ?_, ?_, ?_, ?_, ?_, ?_⟩ <;> assumption)) (fun hHeld => ?_)
  clear hK K
  try simp only [Act.put, List.getElem_toArray, List.getElem_cons_succ, List.getElem_cons_zero, List.setIfInBounds_toArray, List.set_cons_zero, List.set_cons_succ]
  refine wpAnyH_ready (rs := [14]) (by kernel_rfl) (by simp) ?_
  refine AllReadyH.cons rfl (fun K hK => ?_) AllReadyH.nil
  go_simp
  (refine (sign_any (order_sign k o c a r v k'' o'' c'' a'' r'' v'') _).mono ?_; rintro e w' ⟨rfl, rfl⟩)
  go_wp2_with fail
  clear hHeld
  refine hK.out _ _ (by (try dsimp only); (refine ⟨?_, ?_, ?_, ?_, ?_, ?_, ?_, ?_, ?_, ?_, ?_, ?_, ?_, ?_, ?_, ?_, ?_, ?_, ?_⟩ <;> assumption)) (fun hHeld => ?_)
  clear hK K
  try simp only [Act.put, List.getElem_toArray, List.getElem_cons_succ, List.getElem_cons_zero, List.setIfInBounds_toArray, List.set_cons_zero, List.set_cons_succ]
  refine wpAnyH_take (i := 15) (v := ?v15) rfl (by kernel_rfl) (by kernel_rfl) (by kernel_rfl) (fun _ _ _ h => h) (Or.inl ⟨by rfl, ?hy15⟩) (by assumption) ?_
  case hy15 => (intro w hSw; (try dsimp only at hSw); go_simp; try with_reducible rfl)
  try simp only [Act.put, List.getElem_toArray, List.getElem_cons_succ, List.getElem_cons_zero, List.setIfInBounds_toArray, List.set_cons_zero, List.set_cons_succ]
  refine wpAnyH_take (i := 16) (v := ?v16) rfl (by kernel_rfl) (by kernel_rfl) (by kernel_rfl) (fun _ _ _ h => h) (Or.inl ⟨by rfl, ?hy16⟩) (by assumption) ?_
  case hy16 => (intro w hSw; (try dsimp only at hSw); go_simp; try with_reducible rfl)
  try simp only [Act.put, List.getElem_toArray, List.getElem_cons_succ, List.getElem_cons_zero, List.setIfInBounds_toArray, List.set_cons_zero, List.set_cons_succ]
  refine wpAnyH_take (i := 17) (v := ?v17) rfl (by kernel_rfl) (by kernel_rfl) (by kernel_rfl) (fun _ _ _ h => h) (Or.inl ⟨by rfl, ?hy17⟩) (by assumption) ?_
  case hy17 => (intro w hSw; (try dsimp only at hSw); go_simp; try with_reducible rfl)
  try simp only [Act.put, List.getElem_toArray, List.getElem_cons_succ, List.getElem_cons_zero, List.setIfInBounds_toArray, List.set_cons_zero, List.set_cons_succ]
  refine wpAnyH_done (by kernel_rfl) ?_ _
  have R1 := Lib.hid (fun U => rorder_any k o c a r v k' o' c' a' r' v' U)
  have R2 := Lib.hid (fun U => rorder_any k' o' c' a' r' v' k'' o'' c'' a'' r'' v'' U)
  have R3 := Lib.hid (fun U => rorder_any k o c a r v k'' o'' c'' a'' r'' v'' U)
  have R4 := Lib.hid (fun U => order_any k' o' c' a' r' v' k o c a r v U)
  rw [order_neg k o c a r v k' o' c' a' r' v'] at R4
  have HS := Lib.hid (order_sign k o c a r v k' o' c' a' r' v')
  have HZ := Lib.hid (order_zero k o c a r v k' o' c' a' r' v')
  generalize orderV k o c a r v k' o' c' a' r' v' = X at *
  generalize orderV k' o' c' a' r' v' k'' o'' c'' a'' r'' v'' = Y at *
  generalize orderV k o c a r v k'' o'' c'' a'' r'' v'' = Z at *
  clear hHeld
  have HS4 : Hid (Sign (-X)) := Lib.hid (by rcases HS.out with h | h | h <;> subst h <;> simp [Sign])
  rcases HS.out with e | e | e
  · have hne : ¬ (k = k' ∧ o = o' ∧ c = c' ∧ a = a' ∧ r = r' ∧ v = v') := fun h => by have := HZ.out.2 h; omega
    have HN := Lib.hid hne
    clear HZ hne HS
    subst e
    go_wp2_with fail
    refine (R1.out _).mono ?_; rintro e w' ⟨rfl, hb⟩
    obtain ⟨hbb, ⟨x0, x1, x2, x3, x4, x5⟩, ⟨y0, y1, y2, y3, y4, y5⟩, z1, z2, z3, z4, z5, z6⟩ := three_step (w := w) (b := w.heap.size) (b' := w.heap.size + 1) (b'' := w.heap.size + 1 + 1) (by assumption) ⟨by assumption, by assumption, by assumption, by assumption, by assumption, by assumption⟩ ⟨by assumption, by assumption, by assumption, by assumption, by assumption, by assumption⟩ ⟨by assumption, by assumption, by assumption, by assumption, by assumption, by assumption⟩ hb
    clear hb p0 p1 p2 p3 p4 p5 q0 q1 q2 q3 q4 q5 r1 r2 r3 r4 r5 r6 hbc
    go_wp2_with fail
    refine (R2.out _).mono ?_; rintro e w' ⟨rfl, hb⟩
    obtain ⟨hbc, ⟨p0, p1, p2, p3, p4, p5⟩, ⟨q0, q1, q2, q3, q4, q5⟩, r1, r2, r3, r4, r5, r6⟩ := three_step (w := w) (b := w.heap.size) (b' := w.heap.size + 1) (b'' := w.heap.size + 1 + 1) (by assumption) ⟨by assumption, by assumption, by assumption, by assumption, by assumption, by assumption⟩ ⟨by assumption, by assumption, by assumption, by assumption, by assumption, by assumption⟩ ⟨by assumption, by assumption, by assumption, by assumption, by assumption, by assumption⟩ hb
    clear hb x0 x1 x2 x3 x4 x5 y0 y1 y2 y3 y4 y5 z1 z2 z3 z4 z5 z6 hbb
    go_wp2_with fail
    refine (R3.out _).mono ?_; rintro e w' ⟨rfl, hb⟩
    obtain ⟨hbb, ⟨x0, x1, x2, x3, x4, x5⟩, ⟨y0, y1, y2, y3, y4, y5⟩, z1, z2, z3, z4, z5, z6⟩ := three_step (w := w) (b := w.heap.size) (b' := w.heap.size + 1) (b'' := w.heap.size + 1 + 1) (by assumption) ⟨by assumption, by assumption, by assumption, by assumption, by assumption, by assumption⟩ ⟨by assumption, by assumption, by assumption, by assumption, by assumption, by assumption⟩ ⟨by assumption, by assumption, by assumption, by assumption, by assumption, by assumption⟩ hb
    clear hb p0 p1 p2 p3 p4 p5 q0 q1 q2 q3 q4 q5 r1 r2 r3 r4 r5 r6 hbc
    go_wp2_with fail
    refine (R4.out _).mono ?_; rintro e w' ⟨rfl, hb⟩
    obtain ⟨hbc, ⟨p0, p1, p2, p3, p4, p5⟩, ⟨q0, q1, q2, q3, q4, q5⟩, r1, r2, r3, r4, r5, r6⟩ := three_step (w := w) (b := w.heap.size) (b' := w.heap.size + 1) (b'' := w.heap.size + 1 + 1) (by assumption) ⟨by assumption, by assumption, by assumption, by assumption, by assumption, by assumption⟩ ⟨by assumption, by assumption, by assumption, by assumption, by assumption, by assumption⟩ ⟨by assumption, by assumption, by assumption, by assumption, by assumption, by assumption⟩ hb
    clear hb x0 x1 x2 x3 x4 x5 y0 y1 y2 y3 y4 y5 z1 z2 z3 z4 z5 z6 hbb
    go_wp2_with fail
    refine (sign_any HS4.out _).mono ?_; rintro e w' ⟨rfl, rfl⟩
    go_wp2_with (go_at_call 14; refine (known_any _).mono ?_; rintro e w' ⟨rfl, hb⟩)
    all_goals go_ret
    all_goals first
      | exact ⟨rfl, hbc.trans (hb.mono hbc.size)⟩
      | exact absurd ⟨by assumption, by assumption, by assumption, by assumption, by assumption, by assumption⟩ HN.out

  · obtain ⟨e1, e2, e3, e4, e5, e6⟩ := HZ.out.1 e
    clear HZ HS
    subst e e1 e2 e3 e4 e5 e6
    go_wp2_with fail
    refine (R1.out _).mono ?_; rintro e w' ⟨rfl, hb⟩
    obtain ⟨hbb, ⟨x0, x1, x2, x3, x4, x5⟩, ⟨y0, y1, y2, y3, y4, y5⟩, z1, z2, z3, z4, z5, z6⟩ := three_step (w := w) (b := w.heap.size) (b' := w.heap.size + 1) (b'' := w.heap.size + 1 + 1) (by assumption) ⟨by assumption, by assumption, by assumption, by assumption, by assumption, by assumption⟩ ⟨by assumption, by assumption, by assumption, by assumption, by assumption, by assumption⟩ ⟨by assumption, by assumption, by assumption, by assumption, by assumption, by assumption⟩ hb
    clear hb p0 p1 p2 p3 p4 p5 q0 q1 q2 q3 q4 q5 r1 r2 r3 r4 r5 r6 hbc
    go_wp2_with fail
    refine (R2.out _).mono ?_; rintro e w' ⟨rfl, hb⟩
    obtain ⟨hbc, ⟨p0, p1, p2, p3, p4, p5⟩, ⟨q0, q1, q2, q3, q4, q5⟩, r1, r2, r3, r4, r5, r6⟩ := three_step (w := w) (b := w.heap.size) (b' := w.heap.size + 1) (b'' := w.heap.size + 1 + 1) (by assumption) ⟨by assumption, by assumption, by assumption, by assumption, by assumption, by assumption⟩ ⟨by assumption, by assumption, by assumption, by assumption, by assumption, by assumption⟩ ⟨by assumption, by assumption, by assumption, by assumption, by assumption, by assumption⟩ hb
    clear hb x0 x1 x2 x3 x4 x5 y0 y1 y2 y3 y4 y5 z1 z2 z3 z4 z5 z6 hbb
    go_wp2_with fail
    refine (R3.out _).mono ?_; rintro e w' ⟨rfl, hb⟩
    obtain ⟨hbb, ⟨x0, x1, x2, x3, x4, x5⟩, ⟨y0, y1, y2, y3, y4, y5⟩, z1, z2, z3, z4, z5, z6⟩ := three_step (w := w) (b := w.heap.size) (b' := w.heap.size + 1) (b'' := w.heap.size + 1 + 1) (by assumption) ⟨by assumption, by assumption, by assumption, by assumption, by assumption, by assumption⟩ ⟨by assumption, by assumption, by assumption, by assumption, by assumption, by assumption⟩ ⟨by assumption, by assumption, by assumption, by assumption, by assumption, by assumption⟩ hb
    clear hb p0 p1 p2 p3 p4 p5 q0 q1 q2 q3 q4 q5 r1 r2 r3 r4 r5 r6 hbc
    go_wp2_with fail
    refine (R4.out _).mono ?_; rintro e w' ⟨rfl, hb⟩
    obtain ⟨hbc, ⟨p0, p1, p2, p3, p4, p5⟩, ⟨q0, q1, q2, q3, q4, q5⟩, r1, r2, r3, r4, r5, r6⟩ := three_step (w := w) (b := w.heap.size) (b' := w.heap.size + 1) (b'' := w.heap.size + 1 + 1) (by assumption) ⟨by assumption, by assumption, by assumption, by assumption, by assumption, by assumption⟩ ⟨by assumption, by assumption, by assumption, by assumption, by assumption, by assumption⟩ ⟨by assumption, by assumption, by assumption, by assumption, by assumption, by assumption⟩ hb
    clear hb x0 x1 x2 x3 x4 x5 y0 y1 y2 y3 y4 y5 z1 z2 z3 z4 z5 z6 hbb
    go_wp2_with fail
    refine (sign_any HS4.out _).mono ?_; rintro e w' ⟨rfl, rfl⟩
    go_wp2_with (go_at_call 14; refine (known_any _).mono ?_; rintro e w' ⟨rfl, hb⟩)
    all_goals go_ret
    all_goals first
      | exact ⟨rfl, hbc.trans (hb.mono hbc.size)⟩
      | exact absurd ⟨by assumption, by assumption, by assumption, by assumption, by assumption, by assumption⟩ HN.out

  · have hne : ¬ (k = k' ∧ o = o' ∧ c = c' ∧ a = a' ∧ r = r' ∧ v = v') := fun h => by have := HZ.out.2 h; omega
    have HN := Lib.hid hne
    clear HZ hne HS
    subst e
    go_wp2_with fail
    refine (R1.out _).mono ?_; rintro e w' ⟨rfl, hb⟩
    obtain ⟨hbb, ⟨x0, x1, x2, x3, x4, x5⟩, ⟨y0, y1, y2, y3, y4, y5⟩, z1, z2, z3, z4, z5, z6⟩ := three_step (w := w) (b := w.heap.size) (b' := w.heap.size + 1) (b'' := w.heap.size + 1 + 1) (by assumption) ⟨by assumption, by assumption, by assumption, by assumption, by assumption, by assumption⟩ ⟨by assumption, by assumption, by assumption, by assumption, by assumption, by assumption⟩ ⟨by assumption, by assumption, by assumption, by assumption, by assumption, by assumption⟩ hb
    clear hb p0 p1 p2 p3 p4 p5 q0 q1 q2 q3 q4 q5 r1 r2 r3 r4 r5 r6 hbc
    go_wp2_with fail
    refine (R2.out _).mono ?_; rintro e w' ⟨rfl, hb⟩
    obtain ⟨hbc, ⟨p0, p1, p2, p3, p4, p5⟩, ⟨q0, q1, q2, q3, q4, q5⟩, r1, r2, r3, r4, r5, r6⟩ := three_step (w := w) (b := w.heap.size) (b' := w.heap.size + 1) (b'' := w.heap.size + 1 + 1) (by assumption) ⟨by assumption, by assumption, by assumption, by assumption, by assumption, by assumption⟩ ⟨by assumption, by assumption, by assumption, by assumption, by assumption, by assumption⟩ ⟨by assumption, by assumption, by assumption, by assumption, by assumption, by assumption⟩ hb
    clear hb x0 x1 x2 x3 x4 x5 y0 y1 y2 y3 y4 y5 z1 z2 z3 z4 z5 z6 hbb
    go_wp2_with fail
    refine (R3.out _).mono ?_; rintro e w' ⟨rfl, hb⟩
    obtain ⟨hbb, ⟨x0, x1, x2, x3, x4, x5⟩, ⟨y0, y1, y2, y3, y4, y5⟩, z1, z2, z3, z4, z5, z6⟩ := three_step (w := w) (b := w.heap.size) (b' := w.heap.size + 1) (b'' := w.heap.size + 1 + 1) (by assumption) ⟨by assumption, by assumption, by assumption, by assumption, by assumption, by assumption⟩ ⟨by assumption, by assumption, by assumption, by assumption, by assumption, by assumption⟩ ⟨by assumption, by assumption, by assumption, by assumption, by assumption, by assumption⟩ hb
    clear hb p0 p1 p2 p3 p4 p5 q0 q1 q2 q3 q4 q5 r1 r2 r3 r4 r5 r6 hbc
    go_wp2_with fail
    refine (R4.out _).mono ?_; rintro e w' ⟨rfl, hb⟩
    obtain ⟨hbc, ⟨p0, p1, p2, p3, p4, p5⟩, ⟨q0, q1, q2, q3, q4, q5⟩, r1, r2, r3, r4, r5, r6⟩ := three_step (w := w) (b := w.heap.size) (b' := w.heap.size + 1) (b'' := w.heap.size + 1 + 1) (by assumption) ⟨by assumption, by assumption, by assumption, by assumption, by assumption, by assumption⟩ ⟨by assumption, by assumption, by assumption, by assumption, by assumption, by assumption⟩ ⟨by assumption, by assumption, by assumption, by assumption, by assumption, by assumption⟩ hb
    clear hb x0 x1 x2 x3 x4 x5 y0 y1 y2 y3 y4 y5 z1 z2 z3 z4 z5 z6 hbb
    go_wp2_with fail
    refine (sign_any HS4.out _).mono ?_; rintro e w' ⟨rfl, rfl⟩
    go_wp2_with (go_at_call 14; refine (known_any _).mono ?_; rintro e w' ⟨rfl, hb⟩)
    all_goals go_ret
    all_goals first
      | exact ⟨rfl, hbc.trans (hb.mono hbc.size)⟩
      | exact absurd ⟨by assumption, by assumption, by assumption, by assumption, by assumption, by assumption⟩ HN.out

end Go.Proofs.Ytlfkfhdcljkhkaa
