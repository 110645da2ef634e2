/-
  The reference's headed: what a head's sector says. (Written by gen_lrhead.py.)
-/
import Derived.Test.YtdpniceapmikpaaGreatSt1
import Derived.Test.YtdpniceapmikpaaGreatSt7
import Derived.Test.YtdpniceapmikpaaGreatSt24
import Derived.Test.YtdpniceapmikpaaGreatSt36
set_option linter.unusedVariables false
set_option linter.unusedSimpArgs false
namespace Go.Proofs.YtdpniceapmikpaaGreat
open Go.RowKit

/-- the frame that a head says, its objects not read, its state noughts -/
def headF (b : List UInt8) : FrameD := ⟨(numAt b 4 8 : Int), (List.range (numAt b 12 2)).map fun i => (numAt b (20 + 6 * i) 2 : Int), [], List.replicate (numAt b 14 2) 0⟩
def frameZ : FrameD := ⟨0, [], [], []⟩
def headR (N : Int) (b : List UInt8) : FrameD := if headB N b then headF b else frameZ
theorem headR_no {N : Int} {b : List UInt8} (h : headB N b = false) : headR N b = frameZ := by unfold headR; rw [h]; rfl
theorem headR_yes {N : Int} {b : List UInt8} (h : headB N b = true) : headR N b = headF b := by unfold headR; rw [h]; rfl
theorem zeroFrame (W : World) (B : Nat) : FrameIn W B (.agg zeroF) frameZ := ⟨_, _, _, rfl, IntsIn.nil _ _, ObjsIn.nil _ _, BytesIn.nil _ _⟩
theorem sizeF : (Tryz.prog.info? 28).map (·.size) = some zeroF.size := by kernel_rfl
theorem oneF : zeroF.all (·.oneCell') = true := by simp [Value.oneCell']
theorem loadF {W : World} {g : Nat} {a b c d : Value} (h : Blk W g 28 #[a, b, c, d]) : (loadVar 28 ⟨g, 0, none⟩).run Tryz.prog W = .ok (.agg #[a, b, c, d]) W :=
 run_loadVar_row W g 28 28 #[a, b, c, d] (0, 0) _ h Tryz.underlying28 rfl (by
  show _ = some 4
  kernel_rfl)
theorem cut_blk {X : World} {g : Nat} {b : List UInt8} (hb : b.length = 512) (h : Blk X g 111 (b.map vu8).toArray) (i k : Nat) (hik : i + k ≤ 512) : BytesIn X X.heap.size (.slice (some ⟨g, i, none⟩) k (512 - i)) ((b.drop i).take k) := by
 have hl : ((b.drop i).take k).length = k := by rw [List.length_take, List.length_drop]; omega
 refine ⟨by rw [hl]; unfold maxLen; omega, some ⟨g, i, none⟩, 512 - i, by rw [hl], by omega, fun j c hj => ⟨g, i, rfl, h.lt, h.cell_is (i + j) ?_⟩⟩
 rw [List.getElem?_take] at hj
 split at hj
 ·rw [List.getElem?_drop] at hj
  rw [List.getElem?_toArray, List.getElem?_map, hj]
  rfl
 ·cases hj
set_option maxRecDepth 100000 in
set_option maxHeartbeats 8000000 in
theorem headed0_any (N : Int) (b : List UInt8) (hb : b.length = 512) (hn0 : numAt b 12 2 = 0) (w : World) :
  Calls Tryz.prog 82 #[.agg #[.int .i64 N], sectorV b] w fun e w' => ∃ v, e = .returned (.tuple #[v, .bool (headB N b)]) ∧ FrameFrom w.heap.size w' v (headR N b) ∧ Below w.heap.size w w' := by
 have HN0 := Lib.hid hn0
 clear hn0
 obtain ⟨W0, eW0⟩ : ∃ W, W = ((w.alloc (.cells #[.int .i64 N] 23)).alloc (.cells (b.map vu8).toArray 111)).alloc (.cells zeroF 28) := ⟨_, rfl⟩
 have hw0 : Below w.heap.size w W0 := by rw [eW0]; exact (((Below.refl _ w).alloc (Nat.le_refl _) _).alloc (by simp) _).alloc (by simp; omega) _
 have k0 : Blk W0 w.heap.size 23 #[.int .i64 N] := by rw [eW0]; exact ((Blk.new w _ _).alloc _).alloc _
 have k1 : Blk W0 (w.heap.size + 1) 111 (b.map vu8).toArray := by rw [eW0]; exact (Blk.new2 w _ _ _).alloc _
 have k2 : Blk W0 (w.heap.size + 2) 28 zeroF := by rw [eW0]; exact Blk.new' (by simp)
 have hcut : ∀ (W : World) (hb' : Blk W (w.heap.size + 1) 111 (b.map vu8).toArray) (i k : Nat), i + k ≤ 512 → BytesIn W (w.heap.size + 2) (.slice (some ⟨w.heap.size + 1, i, none⟩) k (512 - i)) ((b.drop i).take k) := by
  intro W hb' i k hik
  have hl : ((b.drop i).take k).length = k := by rw [List.length_take, List.length_drop]; omega
  refine ⟨by rw [hl]; unfold maxLen; omega, some ⟨w.heap.size + 1, i, none⟩, 512 - i, by rw [hl], by omega, fun j c hj => ⟨w.heap.size + 1, i, rfl, by omega, hb'.cell_is (i + j) ?_⟩⟩
  rw [List.getElem?_take] at hj
  split at hj
  ·rw [List.getElem?_drop] at hj
   rw [List.getElem?_toArray, List.getElem?_map, hj]
   rfl
  ·cases hj
 have hall : BytesIn W0 W0.heap.size (.slice (some ⟨w.heap.size + 1, 0, none⟩) 512 512) b := by
  have := (hcut W0 k1 0 512 (by omega)).mono (Nat.le_of_lt k2.lt)
  rw [List.drop_zero, List.take_of_length_le (by omega)] at this
  exact this.mono (Nat.le_refl _)
 have HSE := Lib.hid (rsealed_any _ b W0 hall (by omega))
 unfold sectorV
 go_enter Tryz.func82, Tryz.ntmps82
 go_upto_region 1 with fail
 rw [← eW0]
 clear eW0 hall
 go_wp2_with fail
 refine HSE.out.mono ?_; rintro e w1 ⟨u1, rfl, hb1⟩
 have K0 := k0.below hb1 k0.lt
 have K1 := k1.below hb1 k1.lt
 have K2 := k2.below hb1 k2.lt
 have hB1 := hw0.trans (hb1.mono hw0.size)
 clear k0 k1 k2 hw0 hb1
 have z1 : Blk (w1.alloc (.cells zeroF 28)) w1.heap.size 28 zeroF := Blk.new w1 _ _
 have z2 := z1.row zeroF
 have M0 := blk_row_far (K0.alloc (.cells zeroF 28)) zeroF (g' := w1.heap.size) (by have := K0.lt; omega)
 have M1 := blk_row_far (K1.alloc (.cells zeroF 28)) zeroF (g' := w1.heap.size) (by have := K1.lt; omega)
 have M2 := blk_row_far (K2.alloc (.cells zeroF 28)) zeroF (g' := w1.heap.size) (by have := K2.lt; omega)
 have MB := below_row (hB1.alloc hB1.size (.cells zeroF 28)) zeroF (g := w1.heap.size) (by have := K0.lt; omega)
 go_upto_region 3 with (first
  | (refine wpList_build_is rfl 28 _ rfl zeroF (by kernel_rfl) ?_)
  | (refine wpList_store_row rfl 28 _ _ rfl w1.heap.size zeroF rfl rfl 28 zeroF z1 sizeF rfl oneF ?_))
 have hgz : w.heap.size + 2 < w1.heap.size := K2.lt
 obtain ⟨W, eW⟩ : ∃ W, W = (w1.alloc (.cells zeroF 28)).setRow w1.heap.size zeroF := ⟨_, rfl⟩
 rw [← eW]
 rw [← eW] at z2 M0 M1 M2 MB
 clear eW z1 K0 K1 K2
 obtain ⟨gF, egF⟩ : ∃ gF, gF = w1.heap.size := ⟨_, rfl⟩
 rw [← egF] at z2 hgz ⊢
 clear egF
 obtain ⟨c11, hc11⟩ : ∃ c, b[11]? = some c := ⟨_, List.getElem?_eq_getElem (by omega)⟩
 obtain ⟨q, hq⟩ : ∃ q, q = bStr (b.take 4) := ⟨_, rfl⟩
 have HQ := Lib.hid hq
 have SK := Lib.hid (fun (W' : World) (hb' : Below W.heap.size W W') => And.intro ((M0.below hb' M0.lt).cell_is 0 rfl) (And.intro ((M1.below hb' M1.lt).cell_is 11 (v := vu8 c11) (by rw [List.getElem?_toArray, List.getElem?_map, hc11]; rfl)) (by have h := hcut W' (M1.below hb' M1.lt) 0 4 (by omega); rw [List.drop_zero] at h; exact h : BytesIn W' (w.heap.size + 2) (.slice (some ⟨w.heap.size + 1, 0, none⟩) 4 512) (b.take 4))))
 have HCUT := Lib.hid (fun (X : World) (hb' : Below W.heap.size W X) (i k : Nat) (hik : i + k ≤ 512) => (hcut X (M1.below hb' M1.lt) i k hik).mono (Nat.le_trans (Nat.le_of_lt M2.lt) hb'.size))
 have len2 : ∀ i, i + 2 ≤ 512 → ((b.drop i).take 2).length = 2 := fun i hi => by rw [List.length_take, List.length_drop]; omega
 have HNUM12 := Lib.hid (show (if getB ((b.drop 12).take 2) then (leN ((b.drop 12).take 2) : Int) else 0) = (numAt b 12 2 : Int) by rw [getB_small _ (.inl (len2 12 (by omega)))]; rfl)
 have HNUM14 := Lib.hid (show (if getB ((b.drop 14).take 2) then (leN ((b.drop 14).take 2) : Int) else 0) = (numAt b 14 2 : Int) by rw [getB_small _ (.inl (len2 14 (by omega)))]; rfl)
 have hg48 : getB ((b.drop 4).take 8) = decide (numAt b 4 8 < 9223372036854775808) := getB_8 _ (by rw [List.length_take, List.length_drop]; omega)
 have HG48 := Lib.hid hg48
 clear hg48
 have HKF := Lib.hid z2
 have HK0 := Lib.hid M0
 have HK1 := Lib.hid M1
 have HK2 := Lib.hid M2
 have HWw := Lib.hid MB
 have hb0 : Below W.heap.size W W.drew := (Below.refl _ W).drew
 have htop : (127 < c11.toNat) ↔ 9223372036854775808 ≤ numAt b 4 8 := by
  unfold numAt
  refine top_bit ((b.drop 4).take 8) c11 (by rw [List.length_take, List.length_drop]; omega) ?_
  rw [List.getElem?_take, if_pos (by omega), List.getElem?_drop]
  exact hc11
 have HTOP := Lib.hid htop
 have hmag : q = ⟨#[67, 72, 76, 71]⟩ ↔ b.take 4 = magicB := by rw [hq]; exact slice_bytes (b.take 4)
 have HMAG := Lib.hid hmag
 have hql : q.toList = b.take 4 := by rw [hq]; exact bStr_list _
 have HQL := Lib.hid hql
 clear z2 M0 M1 M2 MB htop hmag hq hc11 hcut len2 hql
 cases hs : sealedB b
 ·have HNO := Lib.hid (show headB N b = false by unfold headB; rw [hs]; rfl)
  refine wp_region_held_drew (S := (fun w' => w'.cell? ⟨w.heap.size, 0, none⟩ = some (.int .i64 N) ∧ w'.cell? ⟨w.heap.size + 1, 11, none⟩ = some (vu8 c11) ∧ BytesIn w' (w.heap.size + 2) (.slice (some ⟨w.heap.size + 1, 0, none⟩) 4 512) (b.take 4))) (by kernel_rfl) (by first | exact SK.out _ hb0 | ((try dsimp only); exact SK.out _ hb0)) (fun hHeld => ?_)
  generalize W.drew = X0 at *
  refine tk 0 ?_
  refine tk 1 ?_
  refine tk 2 ?_
  refine tu 3 ?_
  refine tu 4 ?_
  refine tu 5 ?_
  refine tk 6 ?_
  refine tk 7 ?_
  refine tu 8 ?_
  refine tu 9 ?_
  refine tu 10 ?_
  refine tk 11 ?_
  refine tk 12 ?_
  refine tu 13 ?_
  refine tu 15 ?_
  refine tu 14 ?_
  refine tu 16 ?_
  refine tu 17 ?_
  refine tk 18 ?_
  refine tk 19 ?_
  refine tu 20 ?_
  refine tu 21 ?_
  refine tu 22 ?_
  refine tk 23 ?_
  refine wpAnyH_done (by kernel_rfl) ?_ _
  try simp only [Act.put, pz0, pz1, pz2, pz3, pz4, pz5]
  have JF := HKF.out.below hb0 HKF.out.lt
  have J2 := HK2.out.below hb0 HK2.out.lt
  have JB := HWw.out.trans (hb0.mono HWw.out.size)
  go_wp2_with (first
   | (refine wpList_load_row rfl 28 _ rfl gF rfl 28 zeroF (0, 0) _ JF Tryz.underlying28 rfl sizeF ?_)
   | (refine wpList_store_row rfl 28 _ _ rfl (w.heap.size + 2) zeroF rfl rfl 28 zeroF J2 sizeF rfl oneF ?_))
  have hbf := below_row JB zeroF (g := w.heap.size + 2) (by omega)
  exact bodyPost_ret (results_row_tmp2 Tryz.results82 _ _ _ _ _ (by rfl) (loadF (J2.row _)) (by rfl)) rfl ⟨_, by rw [HNO.out]; rfl, by rw [headR_no HNO.out]; exact fun _ _ _ _ => zeroFrame _ _, hbf⟩
 ·by_cases hm : q.toList = [67, 72, 76, 71]
  ·by_cases h127 : (127 : Int) < (c11.toNat : Int)
   ·have HNO := Lib.hid (show headB N b = false by
     have h1 := HTOP.out.1 (by omega)
     have h2 : decide (numAt b 4 8 < 9223372036854775808) = false := decide_eq_false (by omega)
     unfold headB; rw [hs, h2]; simp only [Bool.false_and, Bool.and_false, Bool.true_and])
    refine wp_region_held_drew (S := (fun w' => w'.cell? ⟨w.heap.size, 0, none⟩ = some (.int .i64 N) ∧ w'.cell? ⟨w.heap.size + 1, 11, none⟩ = some (vu8 c11) ∧ BytesIn w' (w.heap.size + 2) (.slice (some ⟨w.heap.size + 1, 0, none⟩) 4 512) (b.take 4))) (by kernel_rfl) (by first | exact SK.out _ hb0 | ((try dsimp only); exact SK.out _ hb0)) (fun hHeld => ?_)
    generalize W.drew = X0 at *
    refine tk 0 ?_
    refine tk 1 ?_
    refine tk 2 ?_
    refine tk 3 ?_
    refine wpAnyH_take (i := 4) (v := .string q) rfl (by kernel_rfl) (by kernel_rfl) (by kernel_rfl) (fun _ _ _ h => h) (Or.inl ⟨by rfl, ?hyc2⟩) (by assumption) ?_
    case hyc2 =>
     intro w hSw
     have hs := run_str w hSw.2.2
     rw [← HQ.out] at hs
     go_simp
    try simp only [Act.put, pz0, pz1, pz2, pz3, pz4, pz5]
    refine wpAnyH_take (i := 5) (v := .bool false) rfl (by kernel_rfl) (by kernel_rfl) (by kernel_rfl) (fun _ _ _ h => h) (Or.inl ⟨by rfl, ?hyn2⟩) (by assumption) ?_
    case hyn2 =>
     intro w hSw
     try dsimp only at hSw
     go_simp
     try simp [hm]
    try simp only [Act.put, pz0, pz1, pz2, pz3, pz4, pz5]
    refine tk 6 ?_
    refine tk 7 ?_
    refine tk 8 ?_
    refine tk 9 ?_
    refine tk 10 ?_
    refine tk 11 ?_
    refine tk 12 ?_
    refine tu 13 ?_
    refine tu 15 ?_
    refine tu 14 ?_
    refine tu 16 ?_
    refine tu 17 ?_
    refine tk 18 ?_
    refine tk 19 ?_
    refine tu 20 ?_
    refine tu 21 ?_
    refine tu 22 ?_
    refine tk 23 ?_
    refine wpAnyH_done (by kernel_rfl) ?_ _
    try simp only [Act.put, pz0, pz1, pz2, pz3, pz4, pz5]
    have JF := HKF.out.below hb0 HKF.out.lt
    have J2 := HK2.out.below hb0 HK2.out.lt
    have JB := HWw.out.trans (hb0.mono HWw.out.size)
    go_wp2_with (first
     | (refine wpList_load_row rfl 28 _ rfl gF rfl 28 zeroF (0, 0) _ JF Tryz.underlying28 rfl sizeF ?_)
     | (refine wpList_store_row rfl 28 _ _ rfl (w.heap.size + 2) zeroF rfl rfl 28 zeroF J2 sizeF rfl oneF ?_))
    have hbf := below_row JB zeroF (g := w.heap.size + 2) (by omega)
    exact bodyPost_ret (results_row_tmp2 Tryz.results82 _ _ _ _ _ (by rfl) (loadF (J2.row _)) (by rfl)) rfl ⟨_, by rw [HNO.out]; rfl, by rw [headR_no HNO.out]; exact fun _ _ _ _ => zeroFrame _ _, hbf⟩
   ·by_cases hn : N < (numAt b 12 2 : Int)
    ·have HNO := Lib.hid (show headB N b = false by
      have h2 : decide ((numAt b 12 2 : Int) ≤ N) = false := decide_eq_false (by omega)
      unfold headB; rw [hs, h2]; simp only [Bool.false_and, Bool.and_false, Bool.true_and])
     refine wp_region_held_drew (S := (fun w' => w'.cell? ⟨w.heap.size, 0, none⟩ = some (.int .i64 N) ∧ w'.cell? ⟨w.heap.size + 1, 11, none⟩ = some (vu8 c11) ∧ BytesIn w' (w.heap.size + 2) (.slice (some ⟨w.heap.size + 1, 0, none⟩) 4 512) (b.take 4))) (by kernel_rfl) (by first | exact SK.out _ hb0 | ((try dsimp only); exact SK.out _ hb0)) (fun hHeld => ?_)
     generalize W.drew = X0 at *
     refine tk 0 ?_
     refine tk 1 ?_
     refine tk 2 ?_
     refine tk 3 ?_
     refine wpAnyH_take (i := 4) (v := .string q) rfl (by kernel_rfl) (by kernel_rfl) (by kernel_rfl) (fun _ _ _ h => h) (Or.inl ⟨by rfl, ?hyc3⟩) (by assumption) ?_
     case hyc3 =>
      intro w hSw
      have hs := run_str w hSw.2.2
      rw [← HQ.out] at hs
      go_simp
     try simp only [Act.put, pz0, pz1, pz2, pz3, pz4, pz5]
     refine wpAnyH_take (i := 5) (v := .bool false) rfl (by kernel_rfl) (by kernel_rfl) (by kernel_rfl) (fun _ _ _ h => h) (Or.inl ⟨by rfl, ?hyn3⟩) (by assumption) ?_
     case hyn3 =>
      intro w hSw
      try dsimp only at hSw
      go_simp
      try simp [hm]
     try simp only [Act.put, pz0, pz1, pz2, pz3, pz4, pz5]
     refine tk 6 ?_
     refine tk 7 ?_
     refine tk 8 ?_
     refine tk 9 ?_
     refine tk 10 ?_
     refine tk 11 ?_
     refine tk 12 ?_
     refine tk 13 ?_
     refine tk 15 ?_
     refine tk 16 ?_
     refine rd 14 fun K hK => ?_
     go_simp
     refine (rnum7_any (.slice (some ⟨w.heap.size + 1, 12, none⟩) 2 500) ((b.drop 12).take 2) X0 (HCUT.out X0 hb0 12 2 (by omega))).mono ?_; rintro e Y14 ⟨rfl, eY14⟩
     subst eY14
     rw [HNUM12.out]
     go_wp2_with fail
     refine hK.out _ _ (by first | exact SK.out _ hb0 | ((try dsimp only); exact SK.out _ hb0)) (fun hHeld => ?_)
     clear hK K
     try simp only [Act.put, pz0, pz1, pz2, pz3, pz4, pz5]
     refine tk 17 ?_
     refine tk 18 ?_
     refine tk 19 ?_
     refine tu 20 ?_
     refine tu 21 ?_
     refine tu 22 ?_
     refine tk 23 ?_
     refine wpAnyH_done (by kernel_rfl) ?_ _
     try simp only [Act.put, pz0, pz1, pz2, pz3, pz4, pz5]
     have JF := HKF.out.below hb0 HKF.out.lt
     have J2 := HK2.out.below hb0 HK2.out.lt
     have JB := HWw.out.trans (hb0.mono HWw.out.size)
     go_wp2_with (first
      | (refine wpList_load_row rfl 28 _ rfl gF rfl 28 zeroF (0, 0) _ JF Tryz.underlying28 rfl sizeF ?_)
      | (refine wpList_store_row rfl 28 _ _ rfl (w.heap.size + 2) zeroF rfl rfl 28 zeroF J2 sizeF rfl oneF ?_))
     have hbf := below_row JB zeroF (g := w.heap.size + 2) (by omega)
     exact bodyPost_ret (results_row_tmp2 Tryz.results82 _ _ _ _ _ (by rfl) (loadF (J2.row _)) (by rfl)) rfl ⟨_, by rw [HNO.out]; rfl, by rw [headR_no HNO.out]; exact fun _ _ _ _ => zeroFrame _ _, hbf⟩
    ·by_cases h4 : (4096 : Int) < (numAt b 14 2 : Int)
     ·have HNO := Lib.hid (show headB N b = false by
       have h2 : decide (numAt b 14 2 ≤ 4096) = false := decide_eq_false (by omega)
       unfold headB; rw [hs, h2]; simp only [Bool.false_and, Bool.and_false, Bool.true_and])
      refine wp_region_held_drew (S := (fun w' => w'.cell? ⟨w.heap.size, 0, none⟩ = some (.int .i64 N) ∧ w'.cell? ⟨w.heap.size + 1, 11, none⟩ = some (vu8 c11) ∧ BytesIn w' (w.heap.size + 2) (.slice (some ⟨w.heap.size + 1, 0, none⟩) 4 512) (b.take 4))) (by kernel_rfl) (by first | exact SK.out _ hb0 | ((try dsimp only); exact SK.out _ hb0)) (fun hHeld => ?_)
      generalize W.drew = X0 at *
      refine tk 0 ?_
      refine tk 1 ?_
      refine tk 2 ?_
      refine tk 3 ?_
      refine wpAnyH_take (i := 4) (v := .string q) rfl (by kernel_rfl) (by kernel_rfl) (by kernel_rfl) (fun _ _ _ h => h) (Or.inl ⟨by rfl, ?hyc4⟩) (by assumption) ?_
      case hyc4 =>
       intro w hSw
       have hs := run_str w hSw.2.2
       rw [← HQ.out] at hs
       go_simp
      try simp only [Act.put, pz0, pz1, pz2, pz3, pz4, pz5]
      refine wpAnyH_take (i := 5) (v := .bool false) rfl (by kernel_rfl) (by kernel_rfl) (by kernel_rfl) (fun _ _ _ h => h) (Or.inl ⟨by rfl, ?hyn4⟩) (by assumption) ?_
      case hyn4 =>
       intro w hSw
       try dsimp only at hSw
       go_simp
       try simp [hm]
      try simp only [Act.put, pz0, pz1, pz2, pz3, pz4, pz5]
      refine tk 6 ?_
      refine tk 7 ?_
      refine tk 8 ?_
      refine tk 9 ?_
      refine tk 10 ?_
      refine tk 11 ?_
      refine tk 12 ?_
      refine tk 13 ?_
      refine tk 15 ?_
      refine tk 16 ?_
      refine rd 14 fun K hK => ?_
      go_simp
      refine (rnum7_any (.slice (some ⟨w.heap.size + 1, 12, none⟩) 2 500) ((b.drop 12).take 2) X0 (HCUT.out X0 hb0 12 2 (by omega))).mono ?_; rintro e Y14 ⟨rfl, eY14⟩
      subst eY14
      rw [HNUM12.out]
      go_wp2_with fail
      refine hK.out _ _ (by first | exact SK.out _ hb0 | ((try dsimp only); exact SK.out _ hb0)) (fun hHeld => ?_)
      clear hK K
      try simp only [Act.put, pz0, pz1, pz2, pz3, pz4, pz5]
      refine wpAnyH_take (i := 17) (v := .bool false) rfl (by kernel_rfl) (by kernel_rfl) (by kernel_rfl) (fun _ _ _ h => h) (Or.inl ⟨by rfl, ?hyz17⟩) (by assumption) ?_
      case hyz17 =>
       intro w hSw
       try dsimp only at hSw
       go_simp
       first | done | (with_reducible rfl) | (simp; omega)
      try simp only [Act.put, pz0, pz1, pz2, pz3, pz4, pz5]
      refine tk 18 ?_
      refine tk 19 ?_
      refine tk 20 ?_
      refine rd 21 fun K hK => ?_
      go_simp
      refine (rnum7_any (.slice (some ⟨w.heap.size + 1, 14, none⟩) 2 498) ((b.drop 14).take 2) X0 (HCUT.out X0 hb0 14 2 (by omega))).mono ?_; rintro e Y21 ⟨rfl, eY21⟩
      subst eY21
      rw [HNUM14.out]
      go_wp2_with fail
      refine hK.out _ _ (by first | exact SK.out _ hb0 | ((try dsimp only); exact SK.out _ hb0)) (fun hHeld => ?_)
      clear hK K
      try simp only [Act.put, pz0, pz1, pz2, pz3, pz4, pz5]
      refine wpAnyH_take (i := 22) (v := .bool true) rfl (by kernel_rfl) (by kernel_rfl) (by kernel_rfl) (fun _ _ _ h => h) (Or.inl ⟨by rfl, ?hyz22⟩) (by assumption) ?_
      case hyz22 =>
       intro w hSw
       try dsimp only at hSw
       go_simp
       first | done | (with_reducible rfl) | (simp; omega)
      try simp only [Act.put, pz0, pz1, pz2, pz3, pz4, pz5]
      refine tk 23 ?_
      refine wpAnyH_done (by kernel_rfl) ?_ _
      try simp only [Act.put, pz0, pz1, pz2, pz3, pz4, pz5]
      have JF := HKF.out.below hb0 HKF.out.lt
      have J2 := HK2.out.below hb0 HK2.out.lt
      have JB := HWw.out.trans (hb0.mono HWw.out.size)
      go_wp2_with (first
       | (refine wpList_load_row rfl 28 _ rfl gF rfl 28 zeroF (0, 0) _ JF Tryz.underlying28 rfl sizeF ?_)
       | (refine wpList_store_row rfl 28 _ _ rfl (w.heap.size + 2) zeroF rfl rfl 28 zeroF J2 sizeF rfl oneF ?_))
      have hbf := below_row JB zeroF (g := w.heap.size + 2) (by omega)
      exact bodyPost_ret (results_row_tmp2 Tryz.results82 _ _ _ _ _ (by rfl) (loadF (J2.row _)) (by rfl)) rfl ⟨_, by rw [HNO.out]; rfl, by rw [headR_no HNO.out]; exact fun _ _ _ _ => zeroFrame _ _, hbf⟩
     ·skip
      refine wp_region_held_drew (S := (fun w' => w'.cell? ⟨w.heap.size, 0, none⟩ = some (.int .i64 N) ∧ w'.cell? ⟨w.heap.size + 1, 11, none⟩ = some (vu8 c11) ∧ BytesIn w' (w.heap.size + 2) (.slice (some ⟨w.heap.size + 1, 0, none⟩) 4 512) (b.take 4))) (by kernel_rfl) (by first | exact SK.out _ hb0 | ((try dsimp only); exact SK.out _ hb0)) (fun hHeld => ?_)
      generalize W.drew = X0 at *
      refine tk 0 ?_
      refine tk 1 ?_
      refine tk 2 ?_
      refine tk 3 ?_
      refine wpAnyH_take (i := 4) (v := .string q) rfl (by kernel_rfl) (by kernel_rfl) (by kernel_rfl) (fun _ _ _ h => h) (Or.inl ⟨by rfl, ?hyc5⟩) (by assumption) ?_
      case hyc5 =>
       intro w hSw
       have hs := run_str w hSw.2.2
       rw [← HQ.out] at hs
       go_simp
      try simp only [Act.put, pz0, pz1, pz2, pz3, pz4, pz5]
      refine wpAnyH_take (i := 5) (v := .bool false) rfl (by kernel_rfl) (by kernel_rfl) (by kernel_rfl) (fun _ _ _ h => h) (Or.inl ⟨by rfl, ?hyn5⟩) (by assumption) ?_
      case hyn5 =>
       intro w hSw
       try dsimp only at hSw
       go_simp
       try simp [hm]
      try simp only [Act.put, pz0, pz1, pz2, pz3, pz4, pz5]
      refine tk 6 ?_
      refine tk 7 ?_
      refine tk 8 ?_
      refine tk 9 ?_
      refine tk 10 ?_
      refine tk 11 ?_
      refine tk 12 ?_
      refine tk 13 ?_
      refine tk 15 ?_
      refine tk 16 ?_
      refine rd 14 fun K hK => ?_
      go_simp
      refine (rnum7_any (.slice (some ⟨w.heap.size + 1, 12, none⟩) 2 500) ((b.drop 12).take 2) X0 (HCUT.out X0 hb0 12 2 (by omega))).mono ?_; rintro e Y14 ⟨rfl, eY14⟩
      subst eY14
      rw [HNUM12.out]
      go_wp2_with fail
      refine hK.out _ _ (by first | exact SK.out _ hb0 | ((try dsimp only); exact SK.out _ hb0)) (fun hHeld => ?_)
      clear hK K
      try simp only [Act.put, pz0, pz1, pz2, pz3, pz4, pz5]
      refine wpAnyH_take (i := 17) (v := .bool false) rfl (by kernel_rfl) (by kernel_rfl) (by kernel_rfl) (fun _ _ _ h => h) (Or.inl ⟨by rfl, ?hyz17k⟩) (by assumption) ?_
      case hyz17k =>
       intro w hSw
       try dsimp only at hSw
       go_simp
       first | done | (with_reducible rfl) | (simp; omega)
      try simp only [Act.put, pz0, pz1, pz2, pz3, pz4, pz5]
      refine tk 18 ?_
      refine tk 19 ?_
      refine tk 20 ?_
      refine rd 21 fun K hK => ?_
      go_simp
      refine (rnum7_any (.slice (some ⟨w.heap.size + 1, 14, none⟩) 2 498) ((b.drop 14).take 2) X0 (HCUT.out X0 hb0 14 2 (by omega))).mono ?_; rintro e Y21 ⟨rfl, eY21⟩
      subst eY21
      rw [HNUM14.out]
      go_wp2_with fail
      refine hK.out _ _ (by first | exact SK.out _ hb0 | ((try dsimp only); exact SK.out _ hb0)) (fun hHeld => ?_)
      clear hK K
      try simp only [Act.put, pz0, pz1, pz2, pz3, pz4, pz5]
      refine wpAnyH_take (i := 22) (v := .bool false) rfl (by kernel_rfl) (by kernel_rfl) (by kernel_rfl) (fun _ _ _ h => h) (Or.inl ⟨by rfl, ?hyz22k⟩) (by assumption) ?_
      case hyz22k =>
       intro w hSw
       try dsimp only at hSw
       go_simp
       first | done | (with_reducible rfl) | (simp; omega)
      try simp only [Act.put, pz0, pz1, pz2, pz3, pz4, pz5]
      refine tk 23 ?_
      refine wpAnyH_done (by kernel_rfl) ?_ _
      try simp only [Act.put, pz0, pz1, pz2, pz3, pz4, pz5]
      have JF := HKF.out.below hb0 HKF.out.lt
      have J0 := HK0.out.below hb0 HK0.out.lt
      have J1 := HK1.out.below hb0 HK1.out.lt
      have J2 := HK2.out.below hb0 HK2.out.lt
      have JB := HWw.out.trans (hb0.mono HWw.out.size)
      have hlt63 : numAt b 4 8 < 9223372036854775808 := by
       rcases Nat.lt_or_ge (numAt b 4 8) 9223372036854775808 with h | h
       ·exact h
       ·exact absurd (HTOP.out.2 h) (by omega)
      have HNUM4 := Lib.hid (show (if getB ((b.drop 4).take 8) then (leN ((b.drop 4).take 8) : Int) else 0) = (numAt b 4 8 : Int) by rw [HG48.out, decide_eq_true hlt63]; rfl)
      have HL63 := Lib.hid hlt63
      clear hlt63 hb0
      go_wp2_with fail
      refine (rnum7_any (.slice (some ⟨w.heap.size + 1, 4, none⟩) 8 508) ((b.drop 4).take 8) X0 (cut_blk hb J1 4 8 (by omega))).mono ?_; rintro e Y5 ⟨rfl, eY5⟩
      subst eY5
      rw [HNUM4.out]
      have c0 := JF.cell_is 0 rfl
      have f0 := JF.frozen 0
      have JF1 := JF.set_ 0 (.int .i64 (numAt b 4 8 : Int))
      have J01 := J0.far (p := ⟨gF, 0, none⟩) (by show w.heap.size ≠ gF; omega) (.int .i64 (numAt b 4 8 : Int))
      have J11 := J1.far (p := ⟨gF, 0, none⟩) (by show w.heap.size + 1 ≠ gF; omega) (.int .i64 (numAt b 4 8 : Int))
      have J21 := J2.far (p := ⟨gF, 0, none⟩) (by show w.heap.size + 2 ≠ gF; omega) (.int .i64 (numAt b 4 8 : Int))
      have JB1 := JB.setCell (p := ⟨gF, 0, none⟩) (by show w.heap.size ≤ gF; omega) (.int .i64 (numAt b 4 8 : Int))
      go_upto_region 6 with fail
      clear c0 f0 JF J0 J1 J2 JB SK
      generalize X0.setCell _ _ = X1 at *
      obtain ⟨i0, hi0, hz0, hz1, hz2⟩ := info_parts info_u8
      go_wp2_with fail
      refine (rnum7_any (.slice (some ⟨w.heap.size + 1, 14, none⟩) 2 498) ((b.drop 14).take 2) X1 (cut_blk hb J11 14 2 (by omega))).mono ?_; rintro e Y6 ⟨rfl, eY6⟩
      subst eY6
      rw [HNUM14.out]
      obtain ⟨nb, enb⟩ : ∃ nb, nb = numAt b 14 2 := ⟨_, rfl⟩
      rw [← enb] at h4 ⊢
      have ENB := Lib.hid enb
      clear enb
      have hnb : nb ≤ 4096 := by omega
      have A1 := JF1.alloc (.cells (madeCells #[.int .u8 0] nb) 5)
      have A0 := J01.alloc (.cells (madeCells #[.int .u8 0] nb) 5)
      have A11 := J11.alloc (.cells (madeCells #[.int .u8 0] nb) 5)
      have A21 := J21.alloc (.cells (madeCells #[.int .u8 0] nb) 5)
      have AB := JB1.alloc JB1.size (.cells (madeCells #[.int .u8 0] nb) 5)
      have AZ : Blk (X1.alloc (.cells (madeCells #[.int .u8 0] nb) 5)) X1.heap.size 5 (madeCells #[.int .u8 0] nb) := Blk.new X1 _ _
      have hX1 := JF1.lt
      have c3 := A1.cell_is 3 rfl
      have f3 := A1.frozen 3
      have SL : Value := .slice (some ⟨X1.heap.size, 0, none⟩) nb nb
      clear SL
      have JF2 := (JF1.set_ 3 (.slice (some ⟨X1.heap.size, 0, none⟩) nb nb)).alloc (.cells (madeCells #[.int .u8 0] nb) 5)
      have J02 := (J01.far (p := ⟨gF, 3, none⟩) (by show w.heap.size ≠ gF; omega) (.slice (some ⟨X1.heap.size, 0, none⟩) nb nb)).alloc (.cells (madeCells #[.int .u8 0] nb) 5)
      have J12 := (J11.far (p := ⟨gF, 3, none⟩) (by show w.heap.size + 1 ≠ gF; omega) (.slice (some ⟨X1.heap.size, 0, none⟩) nb nb)).alloc (.cells (madeCells #[.int .u8 0] nb) 5)
      have J22 := (J21.far (p := ⟨gF, 3, none⟩) (by show w.heap.size + 2 ≠ gF; omega) (.slice (some ⟨X1.heap.size, 0, none⟩) nb nb)).alloc (.cells (madeCells #[.int .u8 0] nb) 5)
      have JB2' := JB1.setCell (p := ⟨gF, 3, none⟩) (by show w.heap.size ≤ gF; omega) (.slice (some ⟨X1.heap.size, 0, none⟩) nb nb)
      have JB2 := JB2'.alloc JB2'.size (.cells (madeCells #[.int .u8 0] nb) 5)
      have JZ2 := Blk.new (X1.setCell ⟨gF, 3, none⟩ (.slice (some ⟨X1.heap.size, 0, none⟩) nb nb)) 5 (madeCells #[.int .u8 0] nb)
      have hsz1 : (X1.setCell ⟨gF, 3, none⟩ (.slice (some ⟨X1.heap.size, 0, none⟩) nb nb)).heap.size = X1.heap.size := by simp
      rw [hsz1] at JZ2
      clear JB2' hsz1
      go_upto_region 7 with (refine wpList_make_row _ rfl _ _ _ rfl 5 i0 _ Tryz.underlying26 hi0 hz0 hz1 rfl .i64 .i64 nb rfl rfl (by rw [hz2]; omega) (by omega) ?_)
      clear c3 f3 A1 A0 A11 A21 AB AZ JF1 J01 J11 J21 JB1 hi0 hz0 hz1 hz2
      generalize X1.heap.size = gz at *
      generalize (X1.setCell _ _).alloc _ = X2 at *
      go_wp2_with fail
      refine (rnum7_any (.slice (some ⟨w.heap.size + 1, 12, none⟩) 2 500) ((b.drop 12).take 2) X2 (cut_blk hb J12 12 2 (by omega))).mono ?_; rintro e Y7 ⟨rfl, eY7⟩
      subst eY7
      rw [HNUM12.out, HN0.out]
      go_wp2_with fail
      go_loopw [10] (fun i wr => i = .int .i64 0 ∧ X2 = wr) (fun _ _ => 0)
      case atStart => exact ⟨rfl, rfl⟩
      case round =>
       obtain ⟨rfl, rfl⟩ := hrel
       go_wp2_with fail
       go_loopw [11] (fun i wr => ∃ p : Nat, 20 ≤ p ∧ p ≤ 508 ∧ i = .int .i64 (p : Int) ∧ (∀ r, 20 ≤ r → r < p → b[r]? = some 0) ∧ X2 = wr) (fun i _ => 508 - (intOf i).toNat)
       case atStart => exact ⟨20, by omega, by omega, by first | rfl | (go_num; done) | (simp; done), fun r h1 h2 => by omega, rfl⟩
       case round =>
        obtain ⟨p, hp1, hp2, rfl, hz, rfl⟩ := hrel
        have hzb : ∀ c, (∃ r, 20 ≤ r ∧ r < 508 ∧ b[r]? = some c ∧ c ≠ 0) → headB N b = false := by
         rintro c ⟨r, h1, h2, h3, h4'⟩
         have hany : ((b.take 508).drop (20 + 6 * numAt b 12 2)).any (· != 0) = true := by
          rw [HN0.out, List.any_eq_true]
          refine ⟨c, List.mem_of_getElem? (i := r - 20) ?_, by simpa using h4'⟩
          rw [List.getElem?_drop, List.getElem?_take, if_pos (by omega), show 20 + 6 * 0 + (r - 20) = r by omega]
          exact h3
         unfold headB
         rw [hany]
         simp
        have HZB := Lib.hid hzb
        clear hzb
        by_cases hlt : p < 508
        ·have hli : (p : Int) < 508 := by omega
         obtain ⟨c, hc⟩ : ∃ c, b[p]? = some c := ⟨_, List.getElem?_eq_getElem (by omega)⟩
         have cb := J12.cell_is p (v := vu8 c) (by rw [List.getElem?_toArray, List.getElem?_map, hc]; rfl)
         have hp5 : (p : Int) < 512 := by omega
         by_cases hc0 : c = 0
         ·subst hc0
          go_wp2_with fail
          exact ⟨⟨p + 1, by omega, by omega, by go_num, fun r h1 h2 => by
           by_cases h : r < p
           ·exact hz r h1 h
           ·obtain rfl : r = p := by omega
            exact hc, by first | rfl | trivial⟩, by simp [intOf]; omega⟩
         ·have HNO := Lib.hid (HZB.out c ⟨p, hp1, hlt, hc, hc0⟩)
          have hcn : ¬ ((c.toNat : Int) = 0) := fun h => hc0 (by
           have h2 : c.toNat = 0 := by omega
           exact UInt8.toNat_inj.1 (by rw [h2]; rfl))
          go_wp2_with (first
           | (refine wpList_build_is rfl 28 _ rfl zeroF (by kernel_rfl) ?_)
           | (refine wpList_store_row rfl 28 _ _ rfl (w.heap.size + 2) zeroF rfl rfl 28 zeroF J22 sizeF rfl oneF ?_))
          have hbf := below_row JB2 zeroF (g := w.heap.size + 2) (by omega)
          exact bodyPost_ret (results_row_tmp2 Tryz.results82 _ _ _ _ _ (by rfl) (loadF (J22.row _)) (by rfl)) rfl ⟨_, by rw [HNO.out]; rfl, by rw [headR_no HNO.out]; exact fun _ _ _ _ => zeroFrame _ _, hbf⟩
        ·have hpe : p = 508 := by omega
         have hpl : ¬ (p : Int) < 508 := by omega
         have HPE := Lib.hid hpe
         have HSS := Lib.hid hs
         have HMM := Lib.hid hm
         have hnn : (numAt b 12 2 : Int) ≤ N := by omega
         have HNN := Lib.hid hnn
         have heq : headB N b = true := by
          have z1 : ((b.take 508).drop (20 + 6 * numAt b 12 2)).any (· != 0) = false := by
           rw [HN0.out, List.any_eq_false]
           intro c hc
           obtain ⟨r, hr⟩ := List.getElem?_of_mem hc
           rw [List.getElem?_drop, List.getElem?_take] at hr
           split at hr
           ·rename_i hlt2
            rw [hz (20 + 6 * 0 + r) (by omega) (by omega)] at hr
            rw [← Option.some.inj hr]
            simp
           ·cases hr
          have z2 : (b.take 4 == magicB) = true := by
           have := HQL.out.symm.trans HMM.out
           rw [this]; rfl
          unfold headB
          rw [HSS.out, z1, z2, decide_eq_true HL63.out, decide_eq_true hnn, decide_eq_true (by have := ENB.out; omega : numAt b 14 2 ≤ 4096), HN0.out]
          rfl
         have HEQ := Lib.hid heq
         have hF2 : FrameFrom w.heap.size (X2.setRow (w.heap.size + 2) #[.int .i64 (numAt b 4 8 : Int), .slice none 0 0, .slice none 0 0, .slice (some ⟨gz, 0, none⟩) nb nb]) (.agg #[.int .i64 (numAt b 4 8 : Int), .slice none 0 0, .slice none 0 0, .slice (some ⟨gz, 0, none⟩) nb nb]) (headF b) := by
          have eF : headF b = ⟨(numAt b 4 8 : Int), [], [], List.replicate nb 0⟩ := by unfold headF; rw [HN0.out, ENB.out]; rfl
          rw [eF]
          have JZ3 := blk_row_far JZ2 #[.int .i64 (numAt b 4 8 : Int), .slice none 0 0, .slice none 0 0, .slice (some ⟨gz, 0, none⟩) nb nb] (g' := w.heap.size + 2) (by omega)
          intro F W' hO hF
          have JZ4 := hO.blk JZ3 (hF gz (by omega) JZ3.lt)
          refine ⟨_, _, _, rfl, IntsIn.nil _ _, ObjsIn.nil _ _, ⟨by simp; unfold maxLen; omega, some ⟨gz, 0, none⟩, nb, by simp, by simp, fun j c hj => ⟨gz, 0, rfl, JZ3.lt, ?_⟩⟩⟩
          have hjl : j < nb := by
           rcases Nat.lt_or_ge j nb with h | h
           ·exact h
           ·rw [List.getElem?_eq_none (by simp; omega)] at hj; cases hj
          have ec : c = 0 := by simpa [hjl] using hj.symm
          subst ec
          refine JZ4.cell_is (0 + j) ?_
          rw [made_nought, Nat.zero_add]
          simp [hjl]
         have HF2 := Lib.hid hF2
         clear hpe heq hnn hz hs hm hF2
         go_wp2_with (first
          | (refine wpList_load_row rfl 28 _ rfl gF rfl 28 #[.int .i64 (numAt b 4 8 : Int), .slice none 0 0, .slice none 0 0, .slice (some ⟨gz, 0, none⟩) nb nb] (0, 0) _ JF2 Tryz.underlying28 rfl (by show _ = some 4; kernel_rfl) ?_)
          | (refine wpList_store_row rfl 28 _ _ rfl (w.heap.size + 2) #[.int .i64 (numAt b 4 8 : Int), .slice none 0 0, .slice none 0 0, .slice (some ⟨gz, 0, none⟩) nb nb] rfl rfl 28 zeroF J22 (by show _ = some 4; kernel_rfl) rfl (by simp [Value.oneCell']) ?_))
         have hbf := below_row JB2 #[.int .i64 (numAt b 4 8 : Int), .slice none 0 0, .slice none 0 0, .slice (some ⟨gz, 0, none⟩) nb nb] (g := w.heap.size + 2) (by omega)
         exact bodyPost_ret (results_row_tmp2 Tryz.results82 _ _ _ _ _ (by rfl) (loadF (J22.row _)) (by rfl)) rfl ⟨_, by rw [HEQ.out]; rfl, by rw [headR_yes HEQ.out]; exact HF2.out, hbf⟩
  ·have HNO := Lib.hid (show headB N b = false by
    have h2 : (b.take 4 == magicB) = false := by
     have h1 : ¬ b.take 4 = magicB := fun h => hm (HQL.out.trans h)
     simpa using h1
    unfold headB; rw [hs, h2]; simp only [Bool.false_and, Bool.and_false, Bool.true_and])
   refine wp_region_held_drew (S := (fun w' => w'.cell? ⟨w.heap.size, 0, none⟩ = some (.int .i64 N) ∧ w'.cell? ⟨w.heap.size + 1, 11, none⟩ = some (vu8 c11) ∧ BytesIn w' (w.heap.size + 2) (.slice (some ⟨w.heap.size + 1, 0, none⟩) 4 512) (b.take 4))) (by kernel_rfl) (by first | exact SK.out _ hb0 | ((try dsimp only); exact SK.out _ hb0)) (fun hHeld => ?_)
   generalize W.drew = X0 at *
   refine tk 0 ?_
   refine tk 1 ?_
   refine tk 2 ?_
   refine tk 3 ?_
   refine wpAnyH_take (i := 4) (v := .string q) rfl (by kernel_rfl) (by kernel_rfl) (by kernel_rfl) (fun _ _ _ h => h) (Or.inl ⟨by rfl, ?hyc1⟩) (by assumption) ?_
   case hyc1 =>
    intro w hSw
    have hs := run_str w hSw.2.2
    rw [← HQ.out] at hs
    go_simp
   try simp only [Act.put, pz0, pz1, pz2, pz3, pz4, pz5]
   refine wpAnyH_take (i := 5) (v := .bool true) rfl (by kernel_rfl) (by kernel_rfl) (by kernel_rfl) (fun _ _ _ h => h) (Or.inl ⟨by rfl, ?hyn1⟩) (by assumption) ?_
   case hyn1 =>
    intro w hSw
    try dsimp only at hSw
    go_simp
    try simp [hm]
   try simp only [Act.put, pz0, pz1, pz2, pz3, pz4, pz5]
   refine tk 6 ?_
   refine tk 7 ?_
   refine tu 8 ?_
   refine tu 9 ?_
   refine tu 10 ?_
   refine tk 11 ?_
   refine tk 12 ?_
   refine tu 13 ?_
   refine tu 15 ?_
   refine tu 14 ?_
   refine tu 16 ?_
   refine tu 17 ?_
   refine tk 18 ?_
   refine tk 19 ?_
   refine tu 20 ?_
   refine tu 21 ?_
   refine tu 22 ?_
   refine tk 23 ?_
   refine wpAnyH_done (by kernel_rfl) ?_ _
   try simp only [Act.put, pz0, pz1, pz2, pz3, pz4, pz5]
   have JF := HKF.out.below hb0 HKF.out.lt
   have J2 := HK2.out.below hb0 HK2.out.lt
   have JB := HWw.out.trans (hb0.mono HWw.out.size)
   go_wp2_with (first
    | (refine wpList_load_row rfl 28 _ rfl gF rfl 28 zeroF (0, 0) _ JF Tryz.underlying28 rfl sizeF ?_)
    | (refine wpList_store_row rfl 28 _ _ rfl (w.heap.size + 2) zeroF rfl rfl 28 zeroF J2 sizeF rfl oneF ?_))
   have hbf := below_row JB zeroF (g := w.heap.size + 2) (by omega)
   exact bodyPost_ret (results_row_tmp2 Tryz.results82 _ _ _ _ _ (by rfl) (loadF (J2.row _)) (by rfl)) rfl ⟨_, by rw [HNO.out]; rfl, by rw [headR_no HNO.out]; exact fun _ _ _ _ => zeroFrame _ _, hbf⟩
end Go.Proofs.YtdpniceapmikpaaGreat
