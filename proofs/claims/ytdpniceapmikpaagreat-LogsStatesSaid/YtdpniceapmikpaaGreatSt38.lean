/-
  The reference's Head of an area whose head has no objects. (Written by gen_lrhd.py.)
-/
import Derived.Test.YtdpniceapmikpaaGreatSt1
import Derived.Test.YtdpniceapmikpaaGreatSt29
import Derived.Test.YtdpniceapmikpaaGreatSt37
set_option linter.unusedVariables false
set_option linter.unusedSimpArgs false
namespace Go.Proofs.YtdpniceapmikpaaGreat
open Go.RowKit

theorem wp_merge2 {P : Program} {id : Nat} {ops : Array Oper} {b : Bool} {Q : Exit → Act → World → Prop} {a : Act} {w : World} (A : Nat → Nat → Act) (I : Nat → Nat → World → Prop)
  (h : (Code.region id ops b).wp P (fun e a' w' => match e with | .normal => ∃ i j, a' = A i j ∧ I i j w' | _ => False) a w) (hk : ∀ i j w', I i j w' → Q .normal (A i j) w') : (Code.region id ops b).wp P Q a w :=
 Code.wp_mono (fun e a' w' h => by
  cases e with
  | normal => obtain ⟨i, j, rfl, hi⟩ := h; exact hk i j w' hi
  | _ => exact h.elim) h
/-- what the reference's Head comes to -/
def rheadR (x : DiskD) (N area : Int) : DiskD × FrameD × Int :=
 if askB N x.size area then
  if x.err (sectorN N 2 area 0).1 = 0 then (x.stepped, headR N (headS x N area), if headB N (headS x N area) then 0 else 170)
  else (x.after (sectorN N 2 area 0).1, frameZ, x.err (sectorN N 2 area 0).1)
 else (x, frameZ, 2)
set_option maxRecDepth 100000 in
set_option maxHeartbeats 8000000 in
theorem rhead0_any (x : DiskD) (lv wv fv : Value) (N area : Int) (w : World) (h : RDisk w w.heap.size lv wv fv x) (hx : x.ok) (hn0 : askB N x.size area = true → numAt (headS x N area) 12 2 = 0) :
  Calls Tryz.prog 31 #[.agg #[lv, wv, .int .i64 x.steps, fv], .agg #[.int .i64 N], .int .i64 area] w fun e w' => ∃ v, e = .returned (.tuple #[.agg #[lv, wv, .int .i64 (rheadR x N area).1.steps, fv], v, .int .i64 (rheadR x N area).2.2]) ∧
   FrameIn w' w'.heap.size v (rheadR x N area).2.1 ∧ Below w.heap.size w w' := by
 have HONE := Lib.hid h.one
 have HSZ := Lib.hid (fun W hh => rdsize_any x lv wv fv x.steps W hh hx)
 have HR := Lib.hid h
 have hl0 : sector0.length = 512 := List.length_replicate
 obtain ⟨W, eW⟩ : ∃ W, W = (((w.alloc (.cells #[lv, wv, .int .i64 x.steps, fv] 40)).alloc (.cells #[.int .i64 N] 23)).alloc (.cells zeroD 40)).alloc (.cells zeroF 28) := ⟨_, rfl⟩
 have hbW : Below w.heap.size w W := by rw [eW]; exact ((((Below.refl _ w).alloc (Nat.le_refl _) _).alloc (by simp) _).alloc (by simp; omega) _).alloc (by simp; omega) _
 have k0 : Blk W w.heap.size 40 #[lv, wv, .int .i64 x.steps, fv] := by rw [eW]; exact (((Blk.new w _ _).alloc _).alloc _).alloc _
 have k1 : Blk W (w.heap.size + 1) 23 #[.int .i64 N] := by rw [eW]; exact ((Blk.new2 w _ _ _).alloc _).alloc _
 have k3 : Blk W (w.heap.size + 2) 40 zeroD := by rw [eW]; exact (Blk.new' (by simp)).alloc _
 have k4 : Blk W (w.heap.size + 3) 28 zeroF := by rw [eW]; exact Blk.new' (by simp)
 have HASK := Lib.hid hn0
 clear h hn0
 go_enter Tryz.func31, Tryz.ntmps31
 go_upto_region 1 with fail
 rw [← eW]
 clear eW
 have HW := Lib.hid hbW
 have HK0 := Lib.hid k0
 have HK1 := Lib.hid k1
 have HK3 := Lib.hid k3
 have HK4 := Lib.hid k4
 have SK := Lib.hid (fun (W' : World) (hb' : Below W.heap.size W W') => (⟨by have := blk_range (k0.below hb' k0.lt); simpa using this, (k1.below hb' k1.lt).cell_is 0 rfl⟩ : W'.rangeAt w.heap.size 0 [lv, wv, .int .i64 x.steps, fv] ∧ W'.cell? ⟨w.heap.size + 1, 0, none⟩ = some (.int .i64 N)))
 have hb0 : Below W.heap.size W W.drew := (Below.refl _ W).drew
 have HAF := Lib.hid (askB_fits N x.size area)
 clear hbW k0 k1 k3 k4
 cases hfit : (rightB N && decide (20 + 3 * N ≤ x.size))
 ·have FITS := hfit
  have HRES := Lib.hid (show rheadR x N area = (x, frameZ, 2) by unfold rheadR; rw [HAF.out, hfit]; rfl)
  refine wp_region_held_drew (S := (fun w' => w'.rangeAt w.heap.size 0 [lv, wv, .int .i64 x.steps, fv] ∧ w'.cell? ⟨w.heap.size + 1, 0, none⟩ = some (.int .i64 N))) (by kernel_rfl) (by first | exact SK.out _ hb0 | ((try dsimp only); exact SK.out _ hb0)) (fun hHeld => ?_)
  generalize W.drew = X0 at *
  refine ty 0 rfl (yieldsIf_load_mid (by rfl) 40 _ rfl w.heap.size 0 rfl [lv, wv, .int .i64 x.steps, fv] _ (fun w' h => h.1) Tryz.underlying40 rfl (size_rdisk _ _ _ _)) ?_
  refine tk 2 ?_
  refine rd 1 fun K hK => ?_
  go_simp
  refine (HSZ.out X0 ((HR.out.below (HW.out.trans (hb0.mono HW.out.size)) (Nat.le_refl _)).mono ((HW.out.trans (hb0.mono HW.out.size))).size)).mono ?_; rintro e X1 ⟨rfl, hb1'⟩
  have hb1 := hb0.trans (hb1'.mono hb0.size)
  go_wp2_with fail
  refine hK.out _ _ (by first | exact SK.out _ hb1 | ((try dsimp only); exact SK.out _ hb1)) (fun hHeld => ?_)
  clear hK K
  try simp only [Act.put, pz0, pz1, pz2, pz3, pz4, pz5]
  refine rd 3 fun K hK => ?_
  go_simp
  refine (rfits_any x.size N X1).mono ?_; rintro e X2 ⟨rfl, hb2'⟩
  have hb2 := hb1.trans (hb2'.mono hb1.size)
  rw [FITS]
  go_wp2_with fail
  refine hK.out _ _ (by first | exact SK.out _ hb2 | ((try dsimp only); exact SK.out _ hb2)) (fun hHeld => ?_)
  clear hK K
  try simp only [Act.put, pz0, pz1, pz2, pz3, pz4, pz5]
  refine tk 4 ?_
  refine tk 5 ?_
  refine tu 6 ?_
  refine tu 7 ?_
  refine tk 8 ?_
  refine tk 9 ?_
  refine tu 10 ?_
  refine tu 11 ?_
  refine tk 12 ?_
  refine wpAnyH_done (by kernel_rfl) ?_ _
  try simp only [Act.put, pz0, pz1, pz2, pz3, pz4, pz5]
  have J0 := HK0.out.below hb2 HK0.out.lt
  have J3 := HK3.out.below hb2 HK3.out.lt
  have J4 := blk_row_far (HK4.out.below hb2 HK4.out.lt) #[lv, wv, .int .i64 x.steps, fv] (g' := w.heap.size + 2) (by omega)
  have HBF := (HW.out.trans (hb2.mono HW.out.size))
  go_wp2_with (first
   | (refine wpList_load_row rfl 40 _ rfl w.heap.size rfl 40 #[lv, wv, .int .i64 x.steps, fv] (0, 0) _ J0 Tryz.underlying40 rfl (size_rdisk _ _ _ _) ?_)
   | (refine wpList_build_is rfl 28 _ rfl zeroF (by kernel_rfl) ?_)
   | (refine wpList_store_row rfl 40 _ _ rfl (w.heap.size + 2) #[lv, wv, .int .i64 x.steps, fv] rfl rfl 40 zeroD J3 (size_rdisk _ _ _ _) rfl (HONE.out _) ?_)
   | (refine wpList_store_row rfl 28 _ _ rfl (w.heap.size + 3) zeroF rfl rfl 28 zeroF J4 sizeF rfl oneF ?_))
  have hbf := below_row (below_row HBF #[lv, wv, .int .i64 x.steps, fv] (g := w.heap.size + 2) (by omega)) zeroF (g := w.heap.size + 3) (by omega)
  exact bodyPost_ret (results_row_row_tmp Tryz.results31 _ _ _ _ _ _ _ (by rfl) (load_rdisk (blk_row_far (J3.row _) _ (by omega))) (by rfl) (loadF (J4.row _)) (by rfl)) rfl ⟨_, by rw [HRES.out]; rfl, by rw [HRES.out]; exact zeroFrame _ _, hbf⟩
 ·have FITS := hfit
  cases hneg : decide (area < 0)
  ·cases hbig : decide (1 < area)
   ·skip
    refine wp_region_held_drew (S := (fun w' => w'.rangeAt w.heap.size 0 [lv, wv, .int .i64 x.steps, fv] ∧ w'.cell? ⟨w.heap.size + 1, 0, none⟩ = some (.int .i64 N))) (by kernel_rfl) (by first | exact SK.out _ hb0 | ((try dsimp only); exact SK.out _ hb0)) (fun hHeld => ?_)
    generalize W.drew = X0 at *
    refine ty 0 rfl (yieldsIf_load_mid (by rfl) 40 _ rfl w.heap.size 0 rfl [lv, wv, .int .i64 x.steps, fv] _ (fun w' h => h.1) Tryz.underlying40 rfl (size_rdisk _ _ _ _)) ?_
    refine tk 2 ?_
    refine rd 1 fun K hK => ?_
    go_simp
    refine (HSZ.out X0 ((HR.out.below (HW.out.trans (hb0.mono HW.out.size)) (Nat.le_refl _)).mono ((HW.out.trans (hb0.mono HW.out.size))).size)).mono ?_; rintro e X1 ⟨rfl, hb1'⟩
    have hb1 := hb0.trans (hb1'.mono hb0.size)
    go_wp2_with fail
    refine hK.out _ _ (by first | exact SK.out _ hb1 | ((try dsimp only); exact SK.out _ hb1)) (fun hHeld => ?_)
    clear hK K
    try simp only [Act.put, pz0, pz1, pz2, pz3, pz4, pz5]
    refine rd 3 fun K hK => ?_
    go_simp
    refine (rfits_any x.size N X1).mono ?_; rintro e X2 ⟨rfl, hb2'⟩
    have hb2 := hb1.trans (hb2'.mono hb1.size)
    rw [FITS]
    go_wp2_with fail
    refine hK.out _ _ (by first | exact SK.out _ hb2 | ((try dsimp only); exact SK.out _ hb2)) (fun hHeld => ?_)
    clear hK K
    try simp only [Act.put, pz0, pz1, pz2, pz3, pz4, pz5]
    refine tk 4 ?_
    refine tk 5 ?_
    refine tk 6 ?_
    refine tk 7 ?_
    refine tk 8 ?_
    refine tk 9 ?_
    refine tk 10 ?_
    refine tk 11 ?_
    refine tk 12 ?_
    refine wpAnyH_done (by kernel_rfl) ?_ _
    try simp only [Act.put, pz0, pz1, pz2, pz3, pz4, pz5]
    have J0 := HK0.out.below hb2 HK0.out.lt
    have J1 := HK1.out.below hb2 HK1.out.lt
    have J3 := HK3.out.below hb2 HK3.out.lt
    have J4 := HK4.out.below hb2 HK4.out.lt
    have HW2 := Lib.hid (HW.out.trans (hb2.mono HW.out.size))
    have hask : askB N x.size area = true := by rw [HAF.out, hfit, hneg, hbig]; rfl
    have hnz := HASK.out hask
    obtain ⟨N, rfl⟩ : ∃ M : Nat, N = M := ⟨N.toNat, by unfold rightB at hfit; simp at hfit; omega⟩
    obtain ⟨a, rfl⟩ : ∃ a : Nat, area = a := ⟨area.toNat, by simp at hneg; omega⟩
    obtain ⟨q1, q2, q3, q4⟩ := askB_facts hask
    have hN : 1 ≤ N ∧ N ≤ 64 := ⟨q1, q2⟩
    have hp2 : Place.ok N ⟨2, a, 0⟩ := ⟨q4, .inl ⟨rfl, rfl⟩⟩
    have esn : sectorN N 2 a 0 = (((Place.sec N ⟨2, a, 0⟩ : Nat) : Int), 0) := sectorN_place N ⟨2, a, 0⟩ hN hp2
    obtain ⟨n, en⟩ : ∃ n, n = (sectorN N 2 a 0).1 := ⟨_, rfl⟩
    have HSN := Lib.hid (show n = ((Place.sec N ⟨2, a, 0⟩ : Nat) : Int) by rw [en, esn])
    have HEN := Lib.hid en
    have HNZ := Lib.hid hnz
    have HASKB := Lib.hid hask
    have hrl : (x.read n).length = 512 := by unfold DiskD.read; split; exact x.reads_len hx.sound n; exact hl0
    have HRD := Lib.hid (fun W hh => rdread_any x lv wv fv n W hh hx)
    have SK2 := Lib.hid (fun (W' : World) (hb' : Below X2.heap.size X2 W') => (⟨by have := blk_range (J0.below hb' J0.lt); simpa using this, (J1.below hb' J1.lt).cell_is 0 rfl⟩ : W'.rangeAt w.heap.size 0 [lv, wv, .int .i64 x.steps, fv] ∧ W'.cell? ⟨w.heap.size + 1, 0, none⟩ = some (.int .i64 N)))
    have hzX : Below X2.heap.size X2 X2.drew := (Below.refl _ X2).drew
    have K0 := Lib.hid J0
    have K1 := Lib.hid J1
    have K3 := Lib.hid J3
    have K4 := Lib.hid J4
    unfold sectorV at HRD
    clear hb0 hb1 hb2 hb1' hb2' J0 J1 J3 J4 hnz hask esn en SK
    generalize X2 = W2 at *
    go_upto_region 3 with fail
    refine' wp_merge2 (_ : Nat → Nat → Act) (fun g9 g10 Q => Blk Q g9 40 #[lv, wv, .int .i64 (x.after n).steps, fv] ∧ Blk Q g10 111 ((x.read n).map vu8).toArray ∧ Below W2.heap.size W2 Q ∧ W2.heap.size ≤ g9) ?_ ?_
    rotate_left 1
    ·skip
     refine wp_region_held_drew (S := (fun w' => w'.rangeAt w.heap.size 0 [lv, wv, .int .i64 x.steps, fv] ∧ w'.cell? ⟨w.heap.size + 1, 0, none⟩ = some (.int .i64 N))) (by kernel_rfl) (by first | exact SK2.out _ hzX | ((try dsimp only); exact SK2.out _ hzX)) (fun hHeld => ?_)
     refine ty 0 rfl (yieldsIf_load_mid (by rfl) 40 _ rfl w.heap.size 0 rfl [lv, wv, .int .i64 x.steps, fv] _ (fun w' h => h.1) Tryz.underlying40 rfl (size_rdisk _ _ _ _)) ?_
     refine tk 1 ?_
     refine tk 2 ?_
     refine wpAnyH_ready (rs := [3, 9, 10]) (by kernel_rfl) (by simp) ?_
     refine (AllReadyH.cons rfl (fun K hK => ?_) (AllReadyH.cons rfl (fun K hK => ?_) (AllReadyH.cons rfl (fun K hK => ?_) AllReadyH.nil)))
     ·skip
      go_simp
      refine (rat_any N ⟨2, a, 0⟩ W2.drew hN hp2).mono ?_; rintro e Z2 ⟨rfl, hq⟩
      have hzZ2 := hzX.trans (hq.mono hzX.size)
      rw [← HSN.out]
      go_wp2_with fail
      refine hK.out _ _ (by first | exact SK2.out _ hzZ2 | ((try dsimp only); exact SK2.out _ hzZ2)) (fun hHeld => ?_)
      clear hK K
      try simp only [Act.put, pz0, pz1, pz2, pz3, pz4, pz5]
      refine wpAnyH_ready (rs := [4, 9, 10]) (by kernel_rfl) (by simp) ?_
      refine (AllReadyH.cons rfl (fun K hK => ?_) (AllReadyH.cons rfl (fun K hK => ?_) (AllReadyH.cons rfl (fun K hK => ?_) AllReadyH.nil)))
      ·skip
       go_simp
       refine (HRD.out Z2 ((HR.out.below (HW2.out.trans (hzZ2.mono HW2.out.size)) (Nat.le_refl _)).mono (HW2.out.trans (hzZ2.mono HW2.out.size)).size)).mono ?_; rintro e Z3 ⟨rfl, hq⟩
       have hzZ3 := hzZ2.trans (hq.mono hzZ2.size)
       go_wp2_with fail
       refine hK.out _ _ (by first | exact SK2.out _ hzZ3 | ((try dsimp only); exact SK2.out _ hzZ3)) (fun hHeld => ?_)
       clear hK K
       try simp only [Act.put, pz0, pz1, pz2, pz3, pz4, pz5]
       refine tk 5 ?_
       refine tk 6 ?_
       refine tk 7 ?_
       refine tk 8 ?_
       refine wpAnyH_ready (rs := [9, 10]) (by kernel_rfl) (by simp) ?_
       refine (AllReadyH.cons rfl (fun K hK => ?_) (AllReadyH.cons rfl (fun K hK => ?_) AllReadyH.nil))
       ·skip
        go_simp
        obtain ⟨Z4, eZ4⟩ : ∃ Z, Z = Z3.alloc (.cells zeroD 40) := ⟨_, rfl⟩
        have hzZ4 : Below W2.heap.size W2 Z4 := by rw [eZ4]; exact hzZ3.alloc hzZ3.size (.cells zeroD 40)
        obtain ⟨g9, eg9⟩ : ∃ g, g = (Z3).heap.size := ⟨_, rfl⟩
        have bz9 : Blk Z4 g9 40 zeroD := by rw [eZ4, eg9]; exact Blk.new (Z3) 40 zeroD
        have hl9 : W2.heap.size ≤ g9 := by rw [eg9]; exact hzZ3.size
        try rw [← eZ4]
        clear eZ4
        try rw [← eg9]
        clear eg9
        refine hK.out _ _ (by first | exact SK2.out _ hzZ4 | ((try dsimp only); exact SK2.out _ hzZ4)) (fun hHeld => ?_)
        clear hK K
        try simp only [Act.put, pz0, pz1, pz2, pz3, pz4, pz5]
        refine rd 10 fun K hK => ?_
        go_simp
        obtain ⟨Z5, eZ5⟩ : ∃ Z, Z = Z4.alloc (.cells Tryz.zeroCells111 111) := ⟨_, rfl⟩
        have hzZ5 : Below W2.heap.size W2 Z5 := by rw [eZ5]; exact hzZ4.alloc hzZ4.size (.cells Tryz.zeroCells111 111)
        obtain ⟨g10, eg10⟩ : ∃ g, g = (Z4).heap.size := ⟨_, rfl⟩
        have bz10 : Blk Z5 g10 111 Tryz.zeroCells111 := by rw [eZ5, eg10]; exact Blk.new (Z4) 111 Tryz.zeroCells111
        have hl10 : W2.heap.size ≤ g10 := by rw [eg10]; exact hzZ4.size
        have bq9 : Blk Z5 g9 40 zeroD := by rw [eZ5]; exact bz9.alloc (.cells Tryz.zeroCells111 111)
        replace bz9 := bq9
        clear bq9
        try rw [← eZ5]
        clear eZ5
        try rw [← eg10]
        clear eg10
        refine hK.out _ _ (by first | exact SK2.out _ hzZ5 | ((try dsimp only); exact SK2.out _ hzZ5)) (fun hHeld => ?_)
        clear hK K
        try simp only [Act.put, pz0, pz1, pz2, pz3, pz4, pz5]
        refine rd 11 fun K hK => ?_
        refine wp_store_row 40 _ _ rfl g9 #[lv, wv, .int .i64 (x.after n).steps, fv] rfl rfl 40 zeroD bz9 (size_rdisk _ _ _ _) rfl (HONE.out _) ?_
        have hne : g9 ≠ g10 := by
         rintro rfl
         exact Blk.ne_ bz9 bz10 (by decide) rfl
        replace bz9 := bz9.row #[lv, wv, .int .i64 (x.after n).steps, fv]
        replace bz10 := blk_row_far bz10 #[lv, wv, .int .i64 (x.after n).steps, fv] (g' := g9) (Ne.symm hne)
        have hz1 := below_row hzZ5 #[lv, wv, .int .i64 (x.after n).steps, fv] (g := g9) hl9
        refine hK.out _ _ (by first | exact SK2.out _ hz1 | ((try dsimp only); exact SK2.out _ hz1)) (fun hHeld => ?_)
        clear hK K
        try simp only [Act.put, pz0, pz1, pz2, pz3, pz4, pz5]
        refine rd 12 fun K hK => ?_
        rw [zero111] at bz10
        refine wp_store_row 111 _ _ rfl g10 ((x.read n).map vu8).toArray rfl rfl 111 _ bz10 (sector_size _ hrl) (sector_eq _ _ hl0 hrl) (sector_all _) ?_
        replace bz10 := bz10.row ((x.read n).map vu8).toArray
        replace bz9 := blk_row_far bz9 ((x.read n).map vu8).toArray (g' := g10) hne
        have hz2 := below_row hz1 ((x.read n).map vu8).toArray (g := g10) hl10
        refine hK.out _ _ (by first | exact SK2.out _ hz2 | ((try dsimp only); exact SK2.out _ hz2)) (fun hHeld => ?_)
        clear hK K
        try simp only [Act.put, pz0, pz1, pz2, pz3, pz4, pz5]
        refine tk 13 ?_
        refine wpAnyH_done (by kernel_rfl) ?_ _
        try simp only [Act.put, pz0, pz1, pz2, pz3, pz4, pz5]
        refine ⟨g9, g10, ?_, bz9, bz10, hz2, hl9⟩
        with_reducible rfl
       ·skip
        go_simp
        obtain ⟨Z4, eZ4⟩ : ∃ Z, Z = Z3.alloc (.cells Tryz.zeroCells111 111) := ⟨_, rfl⟩
        have hzZ4 : Below W2.heap.size W2 Z4 := by rw [eZ4]; exact hzZ3.alloc hzZ3.size (.cells Tryz.zeroCells111 111)
        obtain ⟨g10, eg10⟩ : ∃ g, g = (Z3).heap.size := ⟨_, rfl⟩
        have bz10 : Blk Z4 g10 111 Tryz.zeroCells111 := by rw [eZ4, eg10]; exact Blk.new (Z3) 111 Tryz.zeroCells111
        have hl10 : W2.heap.size ≤ g10 := by rw [eg10]; exact hzZ3.size
        try rw [← eZ4]
        clear eZ4
        try rw [← eg10]
        clear eg10
        refine hK.out _ _ (by first | exact SK2.out _ hzZ4 | ((try dsimp only); exact SK2.out _ hzZ4)) (fun hHeld => ?_)
        clear hK K
        try simp only [Act.put, pz0, pz1, pz2, pz3, pz4, pz5]
        refine rd 9 fun K hK => ?_
        go_simp
        obtain ⟨Z5, eZ5⟩ : ∃ Z, Z = Z4.alloc (.cells zeroD 40) := ⟨_, rfl⟩
        have hzZ5 : Below W2.heap.size W2 Z5 := by rw [eZ5]; exact hzZ4.alloc hzZ4.size (.cells zeroD 40)
        obtain ⟨g9, eg9⟩ : ∃ g, g = (Z4).heap.size := ⟨_, rfl⟩
        have bz9 : Blk Z5 g9 40 zeroD := by rw [eZ5, eg9]; exact Blk.new (Z4) 40 zeroD
        have hl9 : W2.heap.size ≤ g9 := by rw [eg9]; exact hzZ4.size
        have bq10 : Blk Z5 g10 111 Tryz.zeroCells111 := by rw [eZ5]; exact bz10.alloc (.cells zeroD 40)
        replace bz10 := bq10
        clear bq10
        try rw [← eZ5]
        clear eZ5
        try rw [← eg9]
        clear eg9
        refine hK.out _ _ (by first | exact SK2.out _ hzZ5 | ((try dsimp only); exact SK2.out _ hzZ5)) (fun hHeld => ?_)
        clear hK K
        try simp only [Act.put, pz0, pz1, pz2, pz3, pz4, pz5]
        refine rd 11 fun K hK => ?_
        refine wp_store_row 40 _ _ rfl g9 #[lv, wv, .int .i64 (x.after n).steps, fv] rfl rfl 40 zeroD bz9 (size_rdisk _ _ _ _) rfl (HONE.out _) ?_
        have hne : g9 ≠ g10 := by
         rintro rfl
         exact Blk.ne_ bz9 bz10 (by decide) rfl
        replace bz9 := bz9.row #[lv, wv, .int .i64 (x.after n).steps, fv]
        replace bz10 := blk_row_far bz10 #[lv, wv, .int .i64 (x.after n).steps, fv] (g' := g9) (Ne.symm hne)
        have hz1 := below_row hzZ5 #[lv, wv, .int .i64 (x.after n).steps, fv] (g := g9) hl9
        refine hK.out _ _ (by first | exact SK2.out _ hz1 | ((try dsimp only); exact SK2.out _ hz1)) (fun hHeld => ?_)
        clear hK K
        try simp only [Act.put, pz0, pz1, pz2, pz3, pz4, pz5]
        refine rd 12 fun K hK => ?_
        rw [zero111] at bz10
        refine wp_store_row 111 _ _ rfl g10 ((x.read n).map vu8).toArray rfl rfl 111 _ bz10 (sector_size _ hrl) (sector_eq _ _ hl0 hrl) (sector_all _) ?_
        replace bz10 := bz10.row ((x.read n).map vu8).toArray
        replace bz9 := blk_row_far bz9 ((x.read n).map vu8).toArray (g' := g10) hne
        have hz2 := below_row hz1 ((x.read n).map vu8).toArray (g := g10) hl10
        refine hK.out _ _ (by first | exact SK2.out _ hz2 | ((try dsimp only); exact SK2.out _ hz2)) (fun hHeld => ?_)
        clear hK K
        try simp only [Act.put, pz0, pz1, pz2, pz3, pz4, pz5]
        refine tk 13 ?_
        refine wpAnyH_done (by kernel_rfl) ?_ _
        try simp only [Act.put, pz0, pz1, pz2, pz3, pz4, pz5]
        refine ⟨g9, g10, ?_, bz9, bz10, hz2, hl9⟩
        with_reducible rfl
      ·skip
       go_simp
       obtain ⟨Z3, eZ3⟩ : ∃ Z, Z = Z2.alloc (.cells zeroD 40) := ⟨_, rfl⟩
       have hzZ3 : Below W2.heap.size W2 Z3 := by rw [eZ3]; exact hzZ2.alloc hzZ2.size (.cells zeroD 40)
       obtain ⟨g9, eg9⟩ : ∃ g, g = (Z2).heap.size := ⟨_, rfl⟩
       have bz9 : Blk Z3 g9 40 zeroD := by rw [eZ3, eg9]; exact Blk.new (Z2) 40 zeroD
       have hl9 : W2.heap.size ≤ g9 := by rw [eg9]; exact hzZ2.size
       try rw [← eZ3]
       clear eZ3
       try rw [← eg9]
       clear eg9
       refine hK.out _ _ (by first | exact SK2.out _ hzZ3 | ((try dsimp only); exact SK2.out _ hzZ3)) (fun hHeld => ?_)
       clear hK K
       try simp only [Act.put, pz0, pz1, pz2, pz3, pz4, pz5]
       refine wpAnyH_ready (rs := [4, 10]) (by kernel_rfl) (by simp) ?_
       refine (AllReadyH.cons rfl (fun K hK => ?_) (AllReadyH.cons rfl (fun K hK => ?_) AllReadyH.nil))
       ·skip
        go_simp
        refine (HRD.out Z3 ((HR.out.below (HW2.out.trans (hzZ3.mono HW2.out.size)) (Nat.le_refl _)).mono (HW2.out.trans (hzZ3.mono HW2.out.size)).size)).mono ?_; rintro e Z4 ⟨rfl, hq⟩
        have hzZ4 := hzZ3.trans (hq.mono hzZ3.size)
        replace bz9 := bz9.below hq bz9.lt
        go_wp2_with fail
        refine hK.out _ _ (by first | exact SK2.out _ hzZ4 | ((try dsimp only); exact SK2.out _ hzZ4)) (fun hHeld => ?_)
        clear hK K
        try simp only [Act.put, pz0, pz1, pz2, pz3, pz4, pz5]
        refine tk 5 ?_
        refine tk 6 ?_
        refine tk 7 ?_
        refine tk 8 ?_
        refine rd 10 fun K hK => ?_
        go_simp
        obtain ⟨Z5, eZ5⟩ : ∃ Z, Z = Z4.alloc (.cells Tryz.zeroCells111 111) := ⟨_, rfl⟩
        have hzZ5 : Below W2.heap.size W2 Z5 := by rw [eZ5]; exact hzZ4.alloc hzZ4.size (.cells Tryz.zeroCells111 111)
        obtain ⟨g10, eg10⟩ : ∃ g, g = (Z4).heap.size := ⟨_, rfl⟩
        have bz10 : Blk Z5 g10 111 Tryz.zeroCells111 := by rw [eZ5, eg10]; exact Blk.new (Z4) 111 Tryz.zeroCells111
        have hl10 : W2.heap.size ≤ g10 := by rw [eg10]; exact hzZ4.size
        have bq9 : Blk Z5 g9 40 zeroD := by rw [eZ5]; exact bz9.alloc (.cells Tryz.zeroCells111 111)
        replace bz9 := bq9
        clear bq9
        try rw [← eZ5]
        clear eZ5
        try rw [← eg10]
        clear eg10
        refine hK.out _ _ (by first | exact SK2.out _ hzZ5 | ((try dsimp only); exact SK2.out _ hzZ5)) (fun hHeld => ?_)
        clear hK K
        try simp only [Act.put, pz0, pz1, pz2, pz3, pz4, pz5]
        refine rd 11 fun K hK => ?_
        refine wp_store_row 40 _ _ rfl g9 #[lv, wv, .int .i64 (x.after n).steps, fv] rfl rfl 40 zeroD bz9 (size_rdisk _ _ _ _) rfl (HONE.out _) ?_
        have hne : g9 ≠ g10 := by
         rintro rfl
         exact Blk.ne_ bz9 bz10 (by decide) rfl
        replace bz9 := bz9.row #[lv, wv, .int .i64 (x.after n).steps, fv]
        replace bz10 := blk_row_far bz10 #[lv, wv, .int .i64 (x.after n).steps, fv] (g' := g9) (Ne.symm hne)
        have hz1 := below_row hzZ5 #[lv, wv, .int .i64 (x.after n).steps, fv] (g := g9) hl9
        refine hK.out _ _ (by first | exact SK2.out _ hz1 | ((try dsimp only); exact SK2.out _ hz1)) (fun hHeld => ?_)
        clear hK K
        try simp only [Act.put, pz0, pz1, pz2, pz3, pz4, pz5]
        refine rd 12 fun K hK => ?_
        rw [zero111] at bz10
        refine wp_store_row 111 _ _ rfl g10 ((x.read n).map vu8).toArray rfl rfl 111 _ bz10 (sector_size _ hrl) (sector_eq _ _ hl0 hrl) (sector_all _) ?_
        replace bz10 := bz10.row ((x.read n).map vu8).toArray
        replace bz9 := blk_row_far bz9 ((x.read n).map vu8).toArray (g' := g10) hne
        have hz2 := below_row hz1 ((x.read n).map vu8).toArray (g := g10) hl10
        refine hK.out _ _ (by first | exact SK2.out _ hz2 | ((try dsimp only); exact SK2.out _ hz2)) (fun hHeld => ?_)
        clear hK K
        try simp only [Act.put, pz0, pz1, pz2, pz3, pz4, pz5]
        refine tk 13 ?_
        refine wpAnyH_done (by kernel_rfl) ?_ _
        try simp only [Act.put, pz0, pz1, pz2, pz3, pz4, pz5]
        refine ⟨g9, g10, ?_, bz9, bz10, hz2, hl9⟩
        with_reducible rfl
       ·skip
        go_simp
        obtain ⟨Z4, eZ4⟩ : ∃ Z, Z = Z3.alloc (.cells Tryz.zeroCells111 111) := ⟨_, rfl⟩
        have hzZ4 : Below W2.heap.size W2 Z4 := by rw [eZ4]; exact hzZ3.alloc hzZ3.size (.cells Tryz.zeroCells111 111)
        obtain ⟨g10, eg10⟩ : ∃ g, g = (Z3).heap.size := ⟨_, rfl⟩
        have bz10 : Blk Z4 g10 111 Tryz.zeroCells111 := by rw [eZ4, eg10]; exact Blk.new (Z3) 111 Tryz.zeroCells111
        have hl10 : W2.heap.size ≤ g10 := by rw [eg10]; exact hzZ3.size
        have bq9 : Blk Z4 g9 40 zeroD := by rw [eZ4]; exact bz9.alloc (.cells Tryz.zeroCells111 111)
        replace bz9 := bq9
        clear bq9
        try rw [← eZ4]
        clear eZ4
        try rw [← eg10]
        clear eg10
        refine hK.out _ _ (by first | exact SK2.out _ hzZ4 | ((try dsimp only); exact SK2.out _ hzZ4)) (fun hHeld => ?_)
        clear hK K
        try simp only [Act.put, pz0, pz1, pz2, pz3, pz4, pz5]
        refine rd 4 fun K hK => ?_
        go_simp
        refine (HRD.out Z4 ((HR.out.below (HW2.out.trans (hzZ4.mono HW2.out.size)) (Nat.le_refl _)).mono (HW2.out.trans (hzZ4.mono HW2.out.size)).size)).mono ?_; rintro e Z5 ⟨rfl, hq⟩
        have hzZ5 := hzZ4.trans (hq.mono hzZ4.size)
        replace bz9 := bz9.below hq bz9.lt
        replace bz10 := bz10.below hq bz10.lt
        go_wp2_with fail
        refine hK.out _ _ (by first | exact SK2.out _ hzZ5 | ((try dsimp only); exact SK2.out _ hzZ5)) (fun hHeld => ?_)
        clear hK K
        try simp only [Act.put, pz0, pz1, pz2, pz3, pz4, pz5]
        refine tk 5 ?_
        refine tk 6 ?_
        refine tk 7 ?_
        refine tk 8 ?_
        refine rd 11 fun K hK => ?_
        refine wp_store_row 40 _ _ rfl g9 #[lv, wv, .int .i64 (x.after n).steps, fv] rfl rfl 40 zeroD bz9 (size_rdisk _ _ _ _) rfl (HONE.out _) ?_
        have hne : g9 ≠ g10 := by
         rintro rfl
         exact Blk.ne_ bz9 bz10 (by decide) rfl
        replace bz9 := bz9.row #[lv, wv, .int .i64 (x.after n).steps, fv]
        replace bz10 := blk_row_far bz10 #[lv, wv, .int .i64 (x.after n).steps, fv] (g' := g9) (Ne.symm hne)
        have hz1 := below_row hzZ5 #[lv, wv, .int .i64 (x.after n).steps, fv] (g := g9) hl9
        refine hK.out _ _ (by first | exact SK2.out _ hz1 | ((try dsimp only); exact SK2.out _ hz1)) (fun hHeld => ?_)
        clear hK K
        try simp only [Act.put, pz0, pz1, pz2, pz3, pz4, pz5]
        refine rd 12 fun K hK => ?_
        rw [zero111] at bz10
        refine wp_store_row 111 _ _ rfl g10 ((x.read n).map vu8).toArray rfl rfl 111 _ bz10 (sector_size _ hrl) (sector_eq _ _ hl0 hrl) (sector_all _) ?_
        replace bz10 := bz10.row ((x.read n).map vu8).toArray
        replace bz9 := blk_row_far bz9 ((x.read n).map vu8).toArray (g' := g10) hne
        have hz2 := below_row hz1 ((x.read n).map vu8).toArray (g := g10) hl10
        refine hK.out _ _ (by first | exact SK2.out _ hz2 | ((try dsimp only); exact SK2.out _ hz2)) (fun hHeld => ?_)
        clear hK K
        try simp only [Act.put, pz0, pz1, pz2, pz3, pz4, pz5]
        refine tk 13 ?_
        refine wpAnyH_done (by kernel_rfl) ?_ _
        try simp only [Act.put, pz0, pz1, pz2, pz3, pz4, pz5]
        refine ⟨g9, g10, ?_, bz9, bz10, hz2, hl9⟩
        with_reducible rfl
      ·skip
       go_simp
       obtain ⟨Z3, eZ3⟩ : ∃ Z, Z = Z2.alloc (.cells Tryz.zeroCells111 111) := ⟨_, rfl⟩
       have hzZ3 : Below W2.heap.size W2 Z3 := by rw [eZ3]; exact hzZ2.alloc hzZ2.size (.cells Tryz.zeroCells111 111)
       obtain ⟨g10, eg10⟩ : ∃ g, g = (Z2).heap.size := ⟨_, rfl⟩
       have bz10 : Blk Z3 g10 111 Tryz.zeroCells111 := by rw [eZ3, eg10]; exact Blk.new (Z2) 111 Tryz.zeroCells111
       have hl10 : W2.heap.size ≤ g10 := by rw [eg10]; exact hzZ2.size
       try rw [← eZ3]
       clear eZ3
       try rw [← eg10]
       clear eg10
       refine hK.out _ _ (by first | exact SK2.out _ hzZ3 | ((try dsimp only); exact SK2.out _ hzZ3)) (fun hHeld => ?_)
       clear hK K
       try simp only [Act.put, pz0, pz1, pz2, pz3, pz4, pz5]
       refine wpAnyH_ready (rs := [4, 9]) (by kernel_rfl) (by simp) ?_
       refine (AllReadyH.cons rfl (fun K hK => ?_) (AllReadyH.cons rfl (fun K hK => ?_) AllReadyH.nil))
       ·skip
        go_simp
        refine (HRD.out Z3 ((HR.out.below (HW2.out.trans (hzZ3.mono HW2.out.size)) (Nat.le_refl _)).mono (HW2.out.trans (hzZ3.mono HW2.out.size)).size)).mono ?_; rintro e Z4 ⟨rfl, hq⟩
        have hzZ4 := hzZ3.trans (hq.mono hzZ3.size)
        replace bz10 := bz10.below hq bz10.lt
        go_wp2_with fail
        refine hK.out _ _ (by first | exact SK2.out _ hzZ4 | ((try dsimp only); exact SK2.out _ hzZ4)) (fun hHeld => ?_)
        clear hK K
        try simp only [Act.put, pz0, pz1, pz2, pz3, pz4, pz5]
        refine tk 5 ?_
        refine tk 6 ?_
        refine tk 7 ?_
        refine tk 8 ?_
        refine rd 9 fun K hK => ?_
        go_simp
        obtain ⟨Z5, eZ5⟩ : ∃ Z, Z = Z4.alloc (.cells zeroD 40) := ⟨_, rfl⟩
        have hzZ5 : Below W2.heap.size W2 Z5 := by rw [eZ5]; exact hzZ4.alloc hzZ4.size (.cells zeroD 40)
        obtain ⟨g9, eg9⟩ : ∃ g, g = (Z4).heap.size := ⟨_, rfl⟩
        have bz9 : Blk Z5 g9 40 zeroD := by rw [eZ5, eg9]; exact Blk.new (Z4) 40 zeroD
        have hl9 : W2.heap.size ≤ g9 := by rw [eg9]; exact hzZ4.size
        have bq10 : Blk Z5 g10 111 Tryz.zeroCells111 := by rw [eZ5]; exact bz10.alloc (.cells zeroD 40)
        replace bz10 := bq10
        clear bq10
        try rw [← eZ5]
        clear eZ5
        try rw [← eg9]
        clear eg9
        refine hK.out _ _ (by first | exact SK2.out _ hzZ5 | ((try dsimp only); exact SK2.out _ hzZ5)) (fun hHeld => ?_)
        clear hK K
        try simp only [Act.put, pz0, pz1, pz2, pz3, pz4, pz5]
        refine rd 11 fun K hK => ?_
        refine wp_store_row 40 _ _ rfl g9 #[lv, wv, .int .i64 (x.after n).steps, fv] rfl rfl 40 zeroD bz9 (size_rdisk _ _ _ _) rfl (HONE.out _) ?_
        have hne : g9 ≠ g10 := by
         rintro rfl
         exact Blk.ne_ bz9 bz10 (by decide) rfl
        replace bz9 := bz9.row #[lv, wv, .int .i64 (x.after n).steps, fv]
        replace bz10 := blk_row_far bz10 #[lv, wv, .int .i64 (x.after n).steps, fv] (g' := g9) (Ne.symm hne)
        have hz1 := below_row hzZ5 #[lv, wv, .int .i64 (x.after n).steps, fv] (g := g9) hl9
        refine hK.out _ _ (by first | exact SK2.out _ hz1 | ((try dsimp only); exact SK2.out _ hz1)) (fun hHeld => ?_)
        clear hK K
        try simp only [Act.put, pz0, pz1, pz2, pz3, pz4, pz5]
        refine rd 12 fun K hK => ?_
        rw [zero111] at bz10
        refine wp_store_row 111 _ _ rfl g10 ((x.read n).map vu8).toArray rfl rfl 111 _ bz10 (sector_size _ hrl) (sector_eq _ _ hl0 hrl) (sector_all _) ?_
        replace bz10 := bz10.row ((x.read n).map vu8).toArray
        replace bz9 := blk_row_far bz9 ((x.read n).map vu8).toArray (g' := g10) hne
        have hz2 := below_row hz1 ((x.read n).map vu8).toArray (g := g10) hl10
        refine hK.out _ _ (by first | exact SK2.out _ hz2 | ((try dsimp only); exact SK2.out _ hz2)) (fun hHeld => ?_)
        clear hK K
        try simp only [Act.put, pz0, pz1, pz2, pz3, pz4, pz5]
        refine tk 13 ?_
        refine wpAnyH_done (by kernel_rfl) ?_ _
        try simp only [Act.put, pz0, pz1, pz2, pz3, pz4, pz5]
        refine ⟨g9, g10, ?_, bz9, bz10, hz2, hl9⟩
        with_reducible rfl
       ·skip
        go_simp
        obtain ⟨Z4, eZ4⟩ : ∃ Z, Z = Z3.alloc (.cells zeroD 40) := ⟨_, rfl⟩
        have hzZ4 : Below W2.heap.size W2 Z4 := by rw [eZ4]; exact hzZ3.alloc hzZ3.size (.cells zeroD 40)
        obtain ⟨g9, eg9⟩ : ∃ g, g = (Z3).heap.size := ⟨_, rfl⟩
        have bz9 : Blk Z4 g9 40 zeroD := by rw [eZ4, eg9]; exact Blk.new (Z3) 40 zeroD
        have hl9 : W2.heap.size ≤ g9 := by rw [eg9]; exact hzZ3.size
        have bq10 : Blk Z4 g10 111 Tryz.zeroCells111 := by rw [eZ4]; exact bz10.alloc (.cells zeroD 40)
        replace bz10 := bq10
        clear bq10
        try rw [← eZ4]
        clear eZ4
        try rw [← eg9]
        clear eg9
        refine hK.out _ _ (by first | exact SK2.out _ hzZ4 | ((try dsimp only); exact SK2.out _ hzZ4)) (fun hHeld => ?_)
        clear hK K
        try simp only [Act.put, pz0, pz1, pz2, pz3, pz4, pz5]
        refine rd 4 fun K hK => ?_
        go_simp
        refine (HRD.out Z4 ((HR.out.below (HW2.out.trans (hzZ4.mono HW2.out.size)) (Nat.le_refl _)).mono (HW2.out.trans (hzZ4.mono HW2.out.size)).size)).mono ?_; rintro e Z5 ⟨rfl, hq⟩
        have hzZ5 := hzZ4.trans (hq.mono hzZ4.size)
        replace bz9 := bz9.below hq bz9.lt
        replace bz10 := bz10.below hq bz10.lt
        go_wp2_with fail
        refine hK.out _ _ (by first | exact SK2.out _ hzZ5 | ((try dsimp only); exact SK2.out _ hzZ5)) (fun hHeld => ?_)
        clear hK K
        try simp only [Act.put, pz0, pz1, pz2, pz3, pz4, pz5]
        refine tk 5 ?_
        refine tk 6 ?_
        refine tk 7 ?_
        refine tk 8 ?_
        refine rd 11 fun K hK => ?_
        refine wp_store_row 40 _ _ rfl g9 #[lv, wv, .int .i64 (x.after n).steps, fv] rfl rfl 40 zeroD bz9 (size_rdisk _ _ _ _) rfl (HONE.out _) ?_
        have hne : g9 ≠ g10 := by
         rintro rfl
         exact Blk.ne_ bz9 bz10 (by decide) rfl
        replace bz9 := bz9.row #[lv, wv, .int .i64 (x.after n).steps, fv]
        replace bz10 := blk_row_far bz10 #[lv, wv, .int .i64 (x.after n).steps, fv] (g' := g9) (Ne.symm hne)
        have hz1 := below_row hzZ5 #[lv, wv, .int .i64 (x.after n).steps, fv] (g := g9) hl9
        refine hK.out _ _ (by first | exact SK2.out _ hz1 | ((try dsimp only); exact SK2.out _ hz1)) (fun hHeld => ?_)
        clear hK K
        try simp only [Act.put, pz0, pz1, pz2, pz3, pz4, pz5]
        refine rd 12 fun K hK => ?_
        rw [zero111] at bz10
        refine wp_store_row 111 _ _ rfl g10 ((x.read n).map vu8).toArray rfl rfl 111 _ bz10 (sector_size _ hrl) (sector_eq _ _ hl0 hrl) (sector_all _) ?_
        replace bz10 := bz10.row ((x.read n).map vu8).toArray
        replace bz9 := blk_row_far bz9 ((x.read n).map vu8).toArray (g' := g10) hne
        have hz2 := below_row hz1 ((x.read n).map vu8).toArray (g := g10) hl10
        refine hK.out _ _ (by first | exact SK2.out _ hz2 | ((try dsimp only); exact SK2.out _ hz2)) (fun hHeld => ?_)
        clear hK K
        try simp only [Act.put, pz0, pz1, pz2, pz3, pz4, pz5]
        refine tk 13 ?_
        refine wpAnyH_done (by kernel_rfl) ?_ _
        try simp only [Act.put, pz0, pz1, pz2, pz3, pz4, pz5]
        refine ⟨g9, g10, ?_, bz9, bz10, hz2, hl9⟩
        with_reducible rfl
     ·skip
      go_simp
      obtain ⟨Z2, eZ2⟩ : ∃ Z, Z = (W2.alloc (.cells zeroD 40)).drew := ⟨_, rfl⟩
      have hzZ2 : Below W2.heap.size W2 Z2 := by rw [eZ2]; exact hzX.alloc hzX.size (.cells zeroD 40)
      obtain ⟨g9, eg9⟩ : ∃ g, g = (W2.drew).heap.size := ⟨_, rfl⟩
      have bz9 : Blk Z2 g9 40 zeroD := by rw [eZ2, eg9]; exact Blk.new (W2.drew) 40 zeroD
      have hl9 : W2.heap.size ≤ g9 := by rw [eg9]; exact hzX.size
      try rw [← eZ2]
      clear eZ2
      have egw : W2.heap.size = g9 := by rw [eg9]; rfl
      try rw [egw]
      clear egw
      clear eg9
      refine hK.out _ _ (by first | exact SK2.out _ hzZ2 | ((try dsimp only); exact SK2.out _ hzZ2)) (fun hHeld => ?_)
      clear hK K
      try simp only [Act.put, pz0, pz1, pz2, pz3, pz4, pz5]
      refine wpAnyH_ready (rs := [3, 10]) (by kernel_rfl) (by simp) ?_
      refine (AllReadyH.cons rfl (fun K hK => ?_) (AllReadyH.cons rfl (fun K hK => ?_) AllReadyH.nil))
      ·skip
       go_simp
       refine (rat_any N ⟨2, a, 0⟩ Z2 hN hp2).mono ?_; rintro e Z3 ⟨rfl, hq⟩
       have hzZ3 := hzZ2.trans (hq.mono hzZ2.size)
       replace bz9 := bz9.below hq bz9.lt
       rw [← HSN.out]
       go_wp2_with fail
       refine hK.out _ _ (by first | exact SK2.out _ hzZ3 | ((try dsimp only); exact SK2.out _ hzZ3)) (fun hHeld => ?_)
       clear hK K
       try simp only [Act.put, pz0, pz1, pz2, pz3, pz4, pz5]
       refine wpAnyH_ready (rs := [4, 10]) (by kernel_rfl) (by simp) ?_
       refine (AllReadyH.cons rfl (fun K hK => ?_) (AllReadyH.cons rfl (fun K hK => ?_) AllReadyH.nil))
       ·skip
        go_simp
        refine (HRD.out Z3 ((HR.out.below (HW2.out.trans (hzZ3.mono HW2.out.size)) (Nat.le_refl _)).mono (HW2.out.trans (hzZ3.mono HW2.out.size)).size)).mono ?_; rintro e Z4 ⟨rfl, hq⟩
        have hzZ4 := hzZ3.trans (hq.mono hzZ3.size)
        replace bz9 := bz9.below hq bz9.lt
        go_wp2_with fail
        refine hK.out _ _ (by first | exact SK2.out _ hzZ4 | ((try dsimp only); exact SK2.out _ hzZ4)) (fun hHeld => ?_)
        clear hK K
        try simp only [Act.put, pz0, pz1, pz2, pz3, pz4, pz5]
        refine tk 5 ?_
        refine tk 6 ?_
        refine tk 7 ?_
        refine tk 8 ?_
        refine rd 10 fun K hK => ?_
        go_simp
        obtain ⟨Z5, eZ5⟩ : ∃ Z, Z = Z4.alloc (.cells Tryz.zeroCells111 111) := ⟨_, rfl⟩
        have hzZ5 : Below W2.heap.size W2 Z5 := by rw [eZ5]; exact hzZ4.alloc hzZ4.size (.cells Tryz.zeroCells111 111)
        obtain ⟨g10, eg10⟩ : ∃ g, g = (Z4).heap.size := ⟨_, rfl⟩
        have bz10 : Blk Z5 g10 111 Tryz.zeroCells111 := by rw [eZ5, eg10]; exact Blk.new (Z4) 111 Tryz.zeroCells111
        have hl10 : W2.heap.size ≤ g10 := by rw [eg10]; exact hzZ4.size
        have bq9 : Blk Z5 g9 40 zeroD := by rw [eZ5]; exact bz9.alloc (.cells Tryz.zeroCells111 111)
        replace bz9 := bq9
        clear bq9
        try rw [← eZ5]
        clear eZ5
        try rw [← eg10]
        clear eg10
        refine hK.out _ _ (by first | exact SK2.out _ hzZ5 | ((try dsimp only); exact SK2.out _ hzZ5)) (fun hHeld => ?_)
        clear hK K
        try simp only [Act.put, pz0, pz1, pz2, pz3, pz4, pz5]
        refine rd 11 fun K hK => ?_
        refine wp_store_row 40 _ _ rfl g9 #[lv, wv, .int .i64 (x.after n).steps, fv] rfl rfl 40 zeroD bz9 (size_rdisk _ _ _ _) rfl (HONE.out _) ?_
        have hne : g9 ≠ g10 := by
         rintro rfl
         exact Blk.ne_ bz9 bz10 (by decide) rfl
        replace bz9 := bz9.row #[lv, wv, .int .i64 (x.after n).steps, fv]
        replace bz10 := blk_row_far bz10 #[lv, wv, .int .i64 (x.after n).steps, fv] (g' := g9) (Ne.symm hne)
        have hz1 := below_row hzZ5 #[lv, wv, .int .i64 (x.after n).steps, fv] (g := g9) hl9
        refine hK.out _ _ (by first | exact SK2.out _ hz1 | ((try dsimp only); exact SK2.out _ hz1)) (fun hHeld => ?_)
        clear hK K
        try simp only [Act.put, pz0, pz1, pz2, pz3, pz4, pz5]
        refine rd 12 fun K hK => ?_
        rw [zero111] at bz10
        refine wp_store_row 111 _ _ rfl g10 ((x.read n).map vu8).toArray rfl rfl 111 _ bz10 (sector_size _ hrl) (sector_eq _ _ hl0 hrl) (sector_all _) ?_
        replace bz10 := bz10.row ((x.read n).map vu8).toArray
        replace bz9 := blk_row_far bz9 ((x.read n).map vu8).toArray (g' := g10) hne
        have hz2 := below_row hz1 ((x.read n).map vu8).toArray (g := g10) hl10
        refine hK.out _ _ (by first | exact SK2.out _ hz2 | ((try dsimp only); exact SK2.out _ hz2)) (fun hHeld => ?_)
        clear hK K
        try simp only [Act.put, pz0, pz1, pz2, pz3, pz4, pz5]
        refine tk 13 ?_
        refine wpAnyH_done (by kernel_rfl) ?_ _
        try simp only [Act.put, pz0, pz1, pz2, pz3, pz4, pz5]
        refine ⟨g9, g10, ?_, bz9, bz10, hz2, hl9⟩
        with_reducible rfl
       ·skip
        go_simp
        obtain ⟨Z4, eZ4⟩ : ∃ Z, Z = Z3.alloc (.cells Tryz.zeroCells111 111) := ⟨_, rfl⟩
        have hzZ4 : Below W2.heap.size W2 Z4 := by rw [eZ4]; exact hzZ3.alloc hzZ3.size (.cells Tryz.zeroCells111 111)
        obtain ⟨g10, eg10⟩ : ∃ g, g = (Z3).heap.size := ⟨_, rfl⟩
        have bz10 : Blk Z4 g10 111 Tryz.zeroCells111 := by rw [eZ4, eg10]; exact Blk.new (Z3) 111 Tryz.zeroCells111
        have hl10 : W2.heap.size ≤ g10 := by rw [eg10]; exact hzZ3.size
        have bq9 : Blk Z4 g9 40 zeroD := by rw [eZ4]; exact bz9.alloc (.cells Tryz.zeroCells111 111)
        replace bz9 := bq9
        clear bq9
        try rw [← eZ4]
        clear eZ4
        try rw [← eg10]
        clear eg10
        refine hK.out _ _ (by first | exact SK2.out _ hzZ4 | ((try dsimp only); exact SK2.out _ hzZ4)) (fun hHeld => ?_)
        clear hK K
        try simp only [Act.put, pz0, pz1, pz2, pz3, pz4, pz5]
        refine rd 4 fun K hK => ?_
        go_simp
        refine (HRD.out Z4 ((HR.out.below (HW2.out.trans (hzZ4.mono HW2.out.size)) (Nat.le_refl _)).mono (HW2.out.trans (hzZ4.mono HW2.out.size)).size)).mono ?_; rintro e Z5 ⟨rfl, hq⟩
        have hzZ5 := hzZ4.trans (hq.mono hzZ4.size)
        replace bz9 := bz9.below hq bz9.lt
        replace bz10 := bz10.below hq bz10.lt
        go_wp2_with fail
        refine hK.out _ _ (by first | exact SK2.out _ hzZ5 | ((try dsimp only); exact SK2.out _ hzZ5)) (fun hHeld => ?_)
        clear hK K
        try simp only [Act.put, pz0, pz1, pz2, pz3, pz4, pz5]
        refine tk 5 ?_
        refine tk 6 ?_
        refine tk 7 ?_
        refine tk 8 ?_
        refine rd 11 fun K hK => ?_
        refine wp_store_row 40 _ _ rfl g9 #[lv, wv, .int .i64 (x.after n).steps, fv] rfl rfl 40 zeroD bz9 (size_rdisk _ _ _ _) rfl (HONE.out _) ?_
        have hne : g9 ≠ g10 := by
         rintro rfl
         exact Blk.ne_ bz9 bz10 (by decide) rfl
        replace bz9 := bz9.row #[lv, wv, .int .i64 (x.after n).steps, fv]
        replace bz10 := blk_row_far bz10 #[lv, wv, .int .i64 (x.after n).steps, fv] (g' := g9) (Ne.symm hne)
        have hz1 := below_row hzZ5 #[lv, wv, .int .i64 (x.after n).steps, fv] (g := g9) hl9
        refine hK.out _ _ (by first | exact SK2.out _ hz1 | ((try dsimp only); exact SK2.out _ hz1)) (fun hHeld => ?_)
        clear hK K
        try simp only [Act.put, pz0, pz1, pz2, pz3, pz4, pz5]
        refine rd 12 fun K hK => ?_
        rw [zero111] at bz10
        refine wp_store_row 111 _ _ rfl g10 ((x.read n).map vu8).toArray rfl rfl 111 _ bz10 (sector_size _ hrl) (sector_eq _ _ hl0 hrl) (sector_all _) ?_
        replace bz10 := bz10.row ((x.read n).map vu8).toArray
        replace bz9 := blk_row_far bz9 ((x.read n).map vu8).toArray (g' := g10) hne
        have hz2 := below_row hz1 ((x.read n).map vu8).toArray (g := g10) hl10
        refine hK.out _ _ (by first | exact SK2.out _ hz2 | ((try dsimp only); exact SK2.out _ hz2)) (fun hHeld => ?_)
        clear hK K
        try simp only [Act.put, pz0, pz1, pz2, pz3, pz4, pz5]
        refine tk 13 ?_
        refine wpAnyH_done (by kernel_rfl) ?_ _
        try simp only [Act.put, pz0, pz1, pz2, pz3, pz4, pz5]
        refine ⟨g9, g10, ?_, bz9, bz10, hz2, hl9⟩
        with_reducible rfl
      ·skip
       go_simp
       obtain ⟨Z3, eZ3⟩ : ∃ Z, Z = Z2.alloc (.cells Tryz.zeroCells111 111) := ⟨_, rfl⟩
       have hzZ3 : Below W2.heap.size W2 Z3 := by rw [eZ3]; exact hzZ2.alloc hzZ2.size (.cells Tryz.zeroCells111 111)
       obtain ⟨g10, eg10⟩ : ∃ g, g = (Z2).heap.size := ⟨_, rfl⟩
       have bz10 : Blk Z3 g10 111 Tryz.zeroCells111 := by rw [eZ3, eg10]; exact Blk.new (Z2) 111 Tryz.zeroCells111
       have hl10 : W2.heap.size ≤ g10 := by rw [eg10]; exact hzZ2.size
       have bq9 : Blk Z3 g9 40 zeroD := by rw [eZ3]; exact bz9.alloc (.cells Tryz.zeroCells111 111)
       replace bz9 := bq9
       clear bq9
       try rw [← eZ3]
       clear eZ3
       try rw [← eg10]
       clear eg10
       refine hK.out _ _ (by first | exact SK2.out _ hzZ3 | ((try dsimp only); exact SK2.out _ hzZ3)) (fun hHeld => ?_)
       clear hK K
       try simp only [Act.put, pz0, pz1, pz2, pz3, pz4, pz5]
       refine rd 3 fun K hK => ?_
       go_simp
       refine (rat_any N ⟨2, a, 0⟩ Z3 hN hp2).mono ?_; rintro e Z4 ⟨rfl, hq⟩
       have hzZ4 := hzZ3.trans (hq.mono hzZ3.size)
       replace bz9 := bz9.below hq bz9.lt
       replace bz10 := bz10.below hq bz10.lt
       rw [← HSN.out]
       go_wp2_with fail
       refine hK.out _ _ (by first | exact SK2.out _ hzZ4 | ((try dsimp only); exact SK2.out _ hzZ4)) (fun hHeld => ?_)
       clear hK K
       try simp only [Act.put, pz0, pz1, pz2, pz3, pz4, pz5]
       refine rd 4 fun K hK => ?_
       go_simp
       refine (HRD.out Z4 ((HR.out.below (HW2.out.trans (hzZ4.mono HW2.out.size)) (Nat.le_refl _)).mono (HW2.out.trans (hzZ4.mono HW2.out.size)).size)).mono ?_; rintro e Z5 ⟨rfl, hq⟩
       have hzZ5 := hzZ4.trans (hq.mono hzZ4.size)
       replace bz9 := bz9.below hq bz9.lt
       replace bz10 := bz10.below hq bz10.lt
       go_wp2_with fail
       refine hK.out _ _ (by first | exact SK2.out _ hzZ5 | ((try dsimp only); exact SK2.out _ hzZ5)) (fun hHeld => ?_)
       clear hK K
       try simp only [Act.put, pz0, pz1, pz2, pz3, pz4, pz5]
       refine tk 5 ?_
       refine tk 6 ?_
       refine tk 7 ?_
       refine tk 8 ?_
       refine rd 11 fun K hK => ?_
       refine wp_store_row 40 _ _ rfl g9 #[lv, wv, .int .i64 (x.after n).steps, fv] rfl rfl 40 zeroD bz9 (size_rdisk _ _ _ _) rfl (HONE.out _) ?_
       have hne : g9 ≠ g10 := by
        rintro rfl
        exact Blk.ne_ bz9 bz10 (by decide) rfl
       replace bz9 := bz9.row #[lv, wv, .int .i64 (x.after n).steps, fv]
       replace bz10 := blk_row_far bz10 #[lv, wv, .int .i64 (x.after n).steps, fv] (g' := g9) (Ne.symm hne)
       have hz1 := below_row hzZ5 #[lv, wv, .int .i64 (x.after n).steps, fv] (g := g9) hl9
       refine hK.out _ _ (by first | exact SK2.out _ hz1 | ((try dsimp only); exact SK2.out _ hz1)) (fun hHeld => ?_)
       clear hK K
       try simp only [Act.put, pz0, pz1, pz2, pz3, pz4, pz5]
       refine rd 12 fun K hK => ?_
       rw [zero111] at bz10
       refine wp_store_row 111 _ _ rfl g10 ((x.read n).map vu8).toArray rfl rfl 111 _ bz10 (sector_size _ hrl) (sector_eq _ _ hl0 hrl) (sector_all _) ?_
       replace bz10 := bz10.row ((x.read n).map vu8).toArray
       replace bz9 := blk_row_far bz9 ((x.read n).map vu8).toArray (g' := g10) hne
       have hz2 := below_row hz1 ((x.read n).map vu8).toArray (g := g10) hl10
       refine hK.out _ _ (by first | exact SK2.out _ hz2 | ((try dsimp only); exact SK2.out _ hz2)) (fun hHeld => ?_)
       clear hK K
       try simp only [Act.put, pz0, pz1, pz2, pz3, pz4, pz5]
       refine tk 13 ?_
       refine wpAnyH_done (by kernel_rfl) ?_ _
       try simp only [Act.put, pz0, pz1, pz2, pz3, pz4, pz5]
       refine ⟨g9, g10, ?_, bz9, bz10, hz2, hl9⟩
       with_reducible rfl
     ·skip
      go_simp
      obtain ⟨Z2, eZ2⟩ : ∃ Z, Z = (W2.alloc (.cells Tryz.zeroCells111 111)).drew := ⟨_, rfl⟩
      have hzZ2 : Below W2.heap.size W2 Z2 := by rw [eZ2]; exact hzX.alloc hzX.size (.cells Tryz.zeroCells111 111)
      obtain ⟨g10, eg10⟩ : ∃ g, g = (W2.drew).heap.size := ⟨_, rfl⟩
      have bz10 : Blk Z2 g10 111 Tryz.zeroCells111 := by rw [eZ2, eg10]; exact Blk.new (W2.drew) 111 Tryz.zeroCells111
      have hl10 : W2.heap.size ≤ g10 := by rw [eg10]; exact hzX.size
      try rw [← eZ2]
      clear eZ2
      have egw : W2.heap.size = g10 := by rw [eg10]; rfl
      try rw [egw]
      clear egw
      clear eg10
      refine hK.out _ _ (by first | exact SK2.out _ hzZ2 | ((try dsimp only); exact SK2.out _ hzZ2)) (fun hHeld => ?_)
      clear hK K
      try simp only [Act.put, pz0, pz1, pz2, pz3, pz4, pz5]
      refine wpAnyH_ready (rs := [3, 9]) (by kernel_rfl) (by simp) ?_
      refine (AllReadyH.cons rfl (fun K hK => ?_) (AllReadyH.cons rfl (fun K hK => ?_) AllReadyH.nil))
      ·skip
       go_simp
       refine (rat_any N ⟨2, a, 0⟩ Z2 hN hp2).mono ?_; rintro e Z3 ⟨rfl, hq⟩
       have hzZ3 := hzZ2.trans (hq.mono hzZ2.size)
       replace bz10 := bz10.below hq bz10.lt
       rw [← HSN.out]
       go_wp2_with fail
       refine hK.out _ _ (by first | exact SK2.out _ hzZ3 | ((try dsimp only); exact SK2.out _ hzZ3)) (fun hHeld => ?_)
       clear hK K
       try simp only [Act.put, pz0, pz1, pz2, pz3, pz4, pz5]
       refine wpAnyH_ready (rs := [4, 9]) (by kernel_rfl) (by simp) ?_
       refine (AllReadyH.cons rfl (fun K hK => ?_) (AllReadyH.cons rfl (fun K hK => ?_) AllReadyH.nil))
       ·skip
        go_simp
        refine (HRD.out Z3 ((HR.out.below (HW2.out.trans (hzZ3.mono HW2.out.size)) (Nat.le_refl _)).mono (HW2.out.trans (hzZ3.mono HW2.out.size)).size)).mono ?_; rintro e Z4 ⟨rfl, hq⟩
        have hzZ4 := hzZ3.trans (hq.mono hzZ3.size)
        replace bz10 := bz10.below hq bz10.lt
        go_wp2_with fail
        refine hK.out _ _ (by first | exact SK2.out _ hzZ4 | ((try dsimp only); exact SK2.out _ hzZ4)) (fun hHeld => ?_)
        clear hK K
        try simp only [Act.put, pz0, pz1, pz2, pz3, pz4, pz5]
        refine tk 5 ?_
        refine tk 6 ?_
        refine tk 7 ?_
        refine tk 8 ?_
        refine rd 9 fun K hK => ?_
        go_simp
        obtain ⟨Z5, eZ5⟩ : ∃ Z, Z = Z4.alloc (.cells zeroD 40) := ⟨_, rfl⟩
        have hzZ5 : Below W2.heap.size W2 Z5 := by rw [eZ5]; exact hzZ4.alloc hzZ4.size (.cells zeroD 40)
        obtain ⟨g9, eg9⟩ : ∃ g, g = (Z4).heap.size := ⟨_, rfl⟩
        have bz9 : Blk Z5 g9 40 zeroD := by rw [eZ5, eg9]; exact Blk.new (Z4) 40 zeroD
        have hl9 : W2.heap.size ≤ g9 := by rw [eg9]; exact hzZ4.size
        have bq10 : Blk Z5 g10 111 Tryz.zeroCells111 := by rw [eZ5]; exact bz10.alloc (.cells zeroD 40)
        replace bz10 := bq10
        clear bq10
        try rw [← eZ5]
        clear eZ5
        try rw [← eg9]
        clear eg9
        refine hK.out _ _ (by first | exact SK2.out _ hzZ5 | ((try dsimp only); exact SK2.out _ hzZ5)) (fun hHeld => ?_)
        clear hK K
        try simp only [Act.put, pz0, pz1, pz2, pz3, pz4, pz5]
        refine rd 11 fun K hK => ?_
        refine wp_store_row 40 _ _ rfl g9 #[lv, wv, .int .i64 (x.after n).steps, fv] rfl rfl 40 zeroD bz9 (size_rdisk _ _ _ _) rfl (HONE.out _) ?_
        have hne : g9 ≠ g10 := by
         rintro rfl
         exact Blk.ne_ bz9 bz10 (by decide) rfl
        replace bz9 := bz9.row #[lv, wv, .int .i64 (x.after n).steps, fv]
        replace bz10 := blk_row_far bz10 #[lv, wv, .int .i64 (x.after n).steps, fv] (g' := g9) (Ne.symm hne)
        have hz1 := below_row hzZ5 #[lv, wv, .int .i64 (x.after n).steps, fv] (g := g9) hl9
        refine hK.out _ _ (by first | exact SK2.out _ hz1 | ((try dsimp only); exact SK2.out _ hz1)) (fun hHeld => ?_)
        clear hK K
        try simp only [Act.put, pz0, pz1, pz2, pz3, pz4, pz5]
        refine rd 12 fun K hK => ?_
        rw [zero111] at bz10
        refine wp_store_row 111 _ _ rfl g10 ((x.read n).map vu8).toArray rfl rfl 111 _ bz10 (sector_size _ hrl) (sector_eq _ _ hl0 hrl) (sector_all _) ?_
        replace bz10 := bz10.row ((x.read n).map vu8).toArray
        replace bz9 := blk_row_far bz9 ((x.read n).map vu8).toArray (g' := g10) hne
        have hz2 := below_row hz1 ((x.read n).map vu8).toArray (g := g10) hl10
        refine hK.out _ _ (by first | exact SK2.out _ hz2 | ((try dsimp only); exact SK2.out _ hz2)) (fun hHeld => ?_)
        clear hK K
        try simp only [Act.put, pz0, pz1, pz2, pz3, pz4, pz5]
        refine tk 13 ?_
        refine wpAnyH_done (by kernel_rfl) ?_ _
        try simp only [Act.put, pz0, pz1, pz2, pz3, pz4, pz5]
        refine ⟨g9, g10, ?_, bz9, bz10, hz2, hl9⟩
        with_reducible rfl
       ·skip
        go_simp
        obtain ⟨Z4, eZ4⟩ : ∃ Z, Z = Z3.alloc (.cells zeroD 40) := ⟨_, rfl⟩
        have hzZ4 : Below W2.heap.size W2 Z4 := by rw [eZ4]; exact hzZ3.alloc hzZ3.size (.cells zeroD 40)
        obtain ⟨g9, eg9⟩ : ∃ g, g = (Z3).heap.size := ⟨_, rfl⟩
        have bz9 : Blk Z4 g9 40 zeroD := by rw [eZ4, eg9]; exact Blk.new (Z3) 40 zeroD
        have hl9 : W2.heap.size ≤ g9 := by rw [eg9]; exact hzZ3.size
        have bq10 : Blk Z4 g10 111 Tryz.zeroCells111 := by rw [eZ4]; exact bz10.alloc (.cells zeroD 40)
        replace bz10 := bq10
        clear bq10
        try rw [← eZ4]
        clear eZ4
        try rw [← eg9]
        clear eg9
        refine hK.out _ _ (by first | exact SK2.out _ hzZ4 | ((try dsimp only); exact SK2.out _ hzZ4)) (fun hHeld => ?_)
        clear hK K
        try simp only [Act.put, pz0, pz1, pz2, pz3, pz4, pz5]
        refine rd 4 fun K hK => ?_
        go_simp
        refine (HRD.out Z4 ((HR.out.below (HW2.out.trans (hzZ4.mono HW2.out.size)) (Nat.le_refl _)).mono (HW2.out.trans (hzZ4.mono HW2.out.size)).size)).mono ?_; rintro e Z5 ⟨rfl, hq⟩
        have hzZ5 := hzZ4.trans (hq.mono hzZ4.size)
        replace bz9 := bz9.below hq bz9.lt
        replace bz10 := bz10.below hq bz10.lt
        go_wp2_with fail
        refine hK.out _ _ (by first | exact SK2.out _ hzZ5 | ((try dsimp only); exact SK2.out _ hzZ5)) (fun hHeld => ?_)
        clear hK K
        try simp only [Act.put, pz0, pz1, pz2, pz3, pz4, pz5]
        refine tk 5 ?_
        refine tk 6 ?_
        refine tk 7 ?_
        refine tk 8 ?_
        refine rd 11 fun K hK => ?_
        refine wp_store_row 40 _ _ rfl g9 #[lv, wv, .int .i64 (x.after n).steps, fv] rfl rfl 40 zeroD bz9 (size_rdisk _ _ _ _) rfl (HONE.out _) ?_
        have hne : g9 ≠ g10 := by
         rintro rfl
         exact Blk.ne_ bz9 bz10 (by decide) rfl
        replace bz9 := bz9.row #[lv, wv, .int .i64 (x.after n).steps, fv]
        replace bz10 := blk_row_far bz10 #[lv, wv, .int .i64 (x.after n).steps, fv] (g' := g9) (Ne.symm hne)
        have hz1 := below_row hzZ5 #[lv, wv, .int .i64 (x.after n).steps, fv] (g := g9) hl9
        refine hK.out _ _ (by first | exact SK2.out _ hz1 | ((try dsimp only); exact SK2.out _ hz1)) (fun hHeld => ?_)
        clear hK K
        try simp only [Act.put, pz0, pz1, pz2, pz3, pz4, pz5]
        refine rd 12 fun K hK => ?_
        rw [zero111] at bz10
        refine wp_store_row 111 _ _ rfl g10 ((x.read n).map vu8).toArray rfl rfl 111 _ bz10 (sector_size _ hrl) (sector_eq _ _ hl0 hrl) (sector_all _) ?_
        replace bz10 := bz10.row ((x.read n).map vu8).toArray
        replace bz9 := blk_row_far bz9 ((x.read n).map vu8).toArray (g' := g10) hne
        have hz2 := below_row hz1 ((x.read n).map vu8).toArray (g := g10) hl10
        refine hK.out _ _ (by first | exact SK2.out _ hz2 | ((try dsimp only); exact SK2.out _ hz2)) (fun hHeld => ?_)
        clear hK K
        try simp only [Act.put, pz0, pz1, pz2, pz3, pz4, pz5]
        refine tk 13 ?_
        refine wpAnyH_done (by kernel_rfl) ?_ _
        try simp only [Act.put, pz0, pz1, pz2, pz3, pz4, pz5]
        refine ⟨g9, g10, ?_, bz9, bz10, hz2, hl9⟩
        with_reducible rfl
      ·skip
       go_simp
       obtain ⟨Z3, eZ3⟩ : ∃ Z, Z = Z2.alloc (.cells zeroD 40) := ⟨_, rfl⟩
       have hzZ3 : Below W2.heap.size W2 Z3 := by rw [eZ3]; exact hzZ2.alloc hzZ2.size (.cells zeroD 40)
       obtain ⟨g9, eg9⟩ : ∃ g, g = (Z2).heap.size := ⟨_, rfl⟩
       have bz9 : Blk Z3 g9 40 zeroD := by rw [eZ3, eg9]; exact Blk.new (Z2) 40 zeroD
       have hl9 : W2.heap.size ≤ g9 := by rw [eg9]; exact hzZ2.size
       have bq10 : Blk Z3 g10 111 Tryz.zeroCells111 := by rw [eZ3]; exact bz10.alloc (.cells zeroD 40)
       replace bz10 := bq10
       clear bq10
       try rw [← eZ3]
       clear eZ3
       try rw [← eg9]
       clear eg9
       refine hK.out _ _ (by first | exact SK2.out _ hzZ3 | ((try dsimp only); exact SK2.out _ hzZ3)) (fun hHeld => ?_)
       clear hK K
       try simp only [Act.put, pz0, pz1, pz2, pz3, pz4, pz5]
       refine rd 3 fun K hK => ?_
       go_simp
       refine (rat_any N ⟨2, a, 0⟩ Z3 hN hp2).mono ?_; rintro e Z4 ⟨rfl, hq⟩
       have hzZ4 := hzZ3.trans (hq.mono hzZ3.size)
       replace bz9 := bz9.below hq bz9.lt
       replace bz10 := bz10.below hq bz10.lt
       rw [← HSN.out]
       go_wp2_with fail
       refine hK.out _ _ (by first | exact SK2.out _ hzZ4 | ((try dsimp only); exact SK2.out _ hzZ4)) (fun hHeld => ?_)
       clear hK K
       try simp only [Act.put, pz0, pz1, pz2, pz3, pz4, pz5]
       refine rd 4 fun K hK => ?_
       go_simp
       refine (HRD.out Z4 ((HR.out.below (HW2.out.trans (hzZ4.mono HW2.out.size)) (Nat.le_refl _)).mono (HW2.out.trans (hzZ4.mono HW2.out.size)).size)).mono ?_; rintro e Z5 ⟨rfl, hq⟩
       have hzZ5 := hzZ4.trans (hq.mono hzZ4.size)
       replace bz9 := bz9.below hq bz9.lt
       replace bz10 := bz10.below hq bz10.lt
       go_wp2_with fail
       refine hK.out _ _ (by first | exact SK2.out _ hzZ5 | ((try dsimp only); exact SK2.out _ hzZ5)) (fun hHeld => ?_)
       clear hK K
       try simp only [Act.put, pz0, pz1, pz2, pz3, pz4, pz5]
       refine tk 5 ?_
       refine tk 6 ?_
       refine tk 7 ?_
       refine tk 8 ?_
       refine rd 11 fun K hK => ?_
       refine wp_store_row 40 _ _ rfl g9 #[lv, wv, .int .i64 (x.after n).steps, fv] rfl rfl 40 zeroD bz9 (size_rdisk _ _ _ _) rfl (HONE.out _) ?_
       have hne : g9 ≠ g10 := by
        rintro rfl
        exact Blk.ne_ bz9 bz10 (by decide) rfl
       replace bz9 := bz9.row #[lv, wv, .int .i64 (x.after n).steps, fv]
       replace bz10 := blk_row_far bz10 #[lv, wv, .int .i64 (x.after n).steps, fv] (g' := g9) (Ne.symm hne)
       have hz1 := below_row hzZ5 #[lv, wv, .int .i64 (x.after n).steps, fv] (g := g9) hl9
       refine hK.out _ _ (by first | exact SK2.out _ hz1 | ((try dsimp only); exact SK2.out _ hz1)) (fun hHeld => ?_)
       clear hK K
       try simp only [Act.put, pz0, pz1, pz2, pz3, pz4, pz5]
       refine rd 12 fun K hK => ?_
       rw [zero111] at bz10
       refine wp_store_row 111 _ _ rfl g10 ((x.read n).map vu8).toArray rfl rfl 111 _ bz10 (sector_size _ hrl) (sector_eq _ _ hl0 hrl) (sector_all _) ?_
       replace bz10 := bz10.row ((x.read n).map vu8).toArray
       replace bz9 := blk_row_far bz9 ((x.read n).map vu8).toArray (g' := g10) hne
       have hz2 := below_row hz1 ((x.read n).map vu8).toArray (g := g10) hl10
       refine hK.out _ _ (by first | exact SK2.out _ hz2 | ((try dsimp only); exact SK2.out _ hz2)) (fun hHeld => ?_)
       clear hK K
       try simp only [Act.put, pz0, pz1, pz2, pz3, pz4, pz5]
       refine tk 13 ?_
       refine wpAnyH_done (by kernel_rfl) ?_ _
       try simp only [Act.put, pz0, pz1, pz2, pz3, pz4, pz5]
       refine ⟨g9, g10, ?_, bz9, bz10, hz2, hl9⟩
       with_reducible rfl
    rintro g9 g10 Q ⟨bz9, bz10, hq, hl9⟩
    have L1 := (K1.out.below hq K1.out.lt).cell_is 0 rfl
    have L1b := K1.out.below hq K1.out.lt
    have L3 := K3.out.below hq K3.out.lt
    have L4 := K4.out.below hq K4.out.lt
    have HBQ := HW2.out.trans (hq.mono HW2.out.size)
    have hw2 : w.heap.size + 3 < W2.heap.size := K4.out.lt
    have ONE1 := HONE.out (x.after n).steps
    by_cases herr : x.err n = 0
    ·have hrd : x.read n = headS x N a := by unfold DiskD.read; rw [if_pos herr, HEN.out]; rfl
     have hst : x.after n = x.stepped := by
      unfold DiskD.err at herr
      unfold DiskD.after
      by_cases ho : n < 0 ∨ x.size ≤ n
      ·rw [if_pos ho] at herr; cases herr
      ·rw [if_neg ho]
     have HRES := Lib.hid (show rheadR x N a = (x.after n, headR N (x.read n), if headB N (x.read n) then 0 else 170) by
      unfold rheadR
      rw [HASKB.out, ← HEN.out, herr, hrd, hst]
      rfl)
     have hHD := headed0_any N (x.read n) hrl (by rw [hrd]; exact HNZ.out) Q
     unfold sectorV at hHD
     clear hrd hst
     rw [herr]
     obtain ⟨rb, erb⟩ : ∃ rb, rb = x.read n := ⟨_, rfl⟩
     rw [← erb] at hHD hrl bz10 HRES
     have HHD := Lib.hid hHD
     clear hHD erb
     go_wp2_with (refine wpList_load_row rfl 111 _ rfl g10 rfl 111 (rb.map vu8).toArray (0, 0) _ bz10 Tryz.underlying111 rfl (sector_size _ hrl) ?_)
     refine HHD.out.mono ?_; rintro e Q3 ⟨v, rfl, hF, hq3⟩
     have HF := Lib.hid hF
     obtain ⟨vo, vb, vs, rfl, hF1, hF2, hF3⟩ := hF (fun _ => False) Q3 (Out.refl _ _) (fun _ _ _ => id)
     have hLQ : w.heap.size + 3 < Q.heap.size := L4.lt
     obtain ⟨ed, eed⟩ : ∃ ed, ed = (headR N rb).ed := ⟨_, rfl⟩
     rw [← eed] at HF ⊢
     have oneVF : (#[.int .i64 ed, vo, vb, vs] : Array Value).all (·.oneCell') = true := by
      obtain ⟨_, _, _, rfl, _⟩ := hF1
      obtain ⟨_, _, _, rfl, _⟩ := hF2
      obtain ⟨_, _, _, rfl, _⟩ := hF3
      simp [Value.oneCell']
     have sizeVF : (Tryz.prog.info? 28).map (·.size) = some (#[.int .i64 ed, vo, vb, vs] : Array Value).size := by
      show _ = some 4
      kernel_rfl
     have M9 := bz9.below hq3 bz9.lt
     have M3 := L3.below hq3 L3.lt
     have M4 := L4.below hq3 L4.lt
     have MB := HBQ.trans (hq3.mono HBQ.size)
     have z := Blk.new Q3 28 zeroF
     have hg3 : g9 < Q3.heap.size := M9.lt
     have h43 : w.heap.size + 3 < Q3.heap.size := M4.lt
     have Y9 := blk_row_far (M9.alloc (.cells zeroF 28)) #[.int .i64 ed, vo, vb, vs] (g' := Q3.heap.size) (by omega)
     have Y3 := blk_row_far (M3.alloc (.cells zeroF 28)) #[.int .i64 ed, vo, vb, vs] (g' := Q3.heap.size) (by omega)
     have Y4 := blk_row_far (M4.alloc (.cells zeroF 28)) #[.int .i64 ed, vo, vb, vs] (g' := Q3.heap.size) (by omega)
     have YF := z.row #[.int .i64 ed, vo, vb, vs]
     have YB := below_row (MB.alloc MB.size (.cells zeroF 28)) #[.int .i64 ed, vo, vb, vs] (g := Q3.heap.size) (by omega)
     have YQ := below_row ((Below.refl Q3.heap.size Q3).alloc (Nat.le_refl _) (.cells zeroF 28)) #[.int .i64 ed, vo, vb, vs] (g := Q3.heap.size) (Nat.le_refl _)
     obtain ⟨Y, eY⟩ : ∃ Y, Y = (Q3.alloc (.cells zeroF 28)).setRow Q3.heap.size #[.int .i64 ed, vo, vb, vs] := ⟨_, rfl⟩
     rw [← eY] at Y9 Y3 Y4 YF YB YQ
     have Y4b := blk_row_far Y4 #[lv, wv, .int .i64 (x.after n).steps, fv] (g' := w.heap.size + 2) (by omega)
     clear eed hF1 hF2 hF3 bz9 bz10 L1 L1b L3 L4 HBQ M9 M3 M4 MB
     cases hh : headB N rb
     ·go_upto_region 7 with (refine wpList_store_row rfl 28 _ _ rfl Q3.heap.size #[.int .i64 ed, vo, vb, vs] rfl rfl 28 zeroF z sizeVF rfl oneVF ?_)
      rw [← eY]
      clear eY z
      go_wp2_with (first
       | (refine wpList_load_row rfl 40 _ rfl g9 rfl 40 #[lv, wv, .int .i64 (x.after n).steps, fv] (0, 0) _ Y9 Tryz.underlying40 rfl (size_rdisk _ _ _ _) ?_)
       | (refine wpList_build_is rfl 28 _ rfl zeroF (by kernel_rfl) ?_)
       | (refine wpList_store_row rfl 40 _ _ rfl (w.heap.size + 2) #[lv, wv, .int .i64 (x.after n).steps, fv] rfl rfl 40 zeroD Y3 (size_rdisk _ _ _ _) rfl ONE1 ?_)
       | (refine wpList_store_row rfl 28 _ _ rfl (w.heap.size + 3) zeroF rfl rfl 28 zeroF Y4b sizeF rfl oneF ?_))
      have hbf := below_row (below_row YB #[lv, wv, .int .i64 (x.after n).steps, fv] (g := w.heap.size + 2) (by omega)) zeroF (g := w.heap.size + 3) (by omega)
      exact bodyPost_ret (results_row_row_tmp Tryz.results31 _ _ _ _ _ _ _ (by rfl) (load_rdisk (blk_row_far (Y3.row _) _ (by omega))) (by rfl) (loadF (Y4b.row _)) (by rfl)) rfl ⟨_, by rw [HRES.out, hh]; rfl, by rw [HRES.out]; show FrameIn _ _ _ (headR N rb); rw [headR_no hh]; exact zeroFrame _ _, hbf⟩
     ·go_upto_region 9 with (refine wpList_store_row rfl 28 _ _ rfl Q3.heap.size #[.int .i64 ed, vo, vb, vs] rfl rfl 28 zeroF z sizeVF rfl oneVF ?_)
      rw [← eY]
      clear eY z
      obtain ⟨gV, egV⟩ : ∃ gV, gV = Q3.heap.size := ⟨_, rfl⟩
      rw [← egV] at YF h43 hg3 ⊢
      have HYQ := Lib.hid YQ
      clear YQ
      refine wp_region_held_drew (S := (fun w' => Blk w' g9 40 #[lv, wv, .int .i64 (x.after n).steps, fv] ∧ Blk w' gV 28 #[.int .i64 ed, vo, vb, vs])) (by kernel_rfl) (by first | exact ⟨Y9.drew, YF.drew⟩ | ((try dsimp only); exact ⟨Y9.drew, YF.drew⟩)) (fun hHeld => ?_)
      refine ty 0 rfl (yieldsIf_load_mid (by rfl) 40 _ rfl g9 0 rfl [lv, wv, .int .i64 (x.after n).steps, fv] _ (fun w' h => by have := blk_range h.1; simpa using this) Tryz.underlying40 rfl (size_rdisk _ _ _ _)) ?_
      refine ty 1 rfl (yieldsIf_load_mid (by rfl) 28 _ rfl gV 0 rfl [.int .i64 ed, vo, vb, vs] _ (fun w' h => by have := blk_range h.2; simpa using this) Tryz.underlying28 rfl sizeVF) ?_
      refine rd 2 fun K hK => ?_
      refine wp_store_row 40 _ _ rfl (w.heap.size + 2) #[lv, wv, .int .i64 (x.after n).steps, fv] rfl rfl 40 zeroD Y3.drew (size_rdisk _ _ _ _) rfl ONE1 ?_
      refine hK.out _ _ (by first | exact ⟨blk_row_far Y9.drew _ (by omega), blk_row_far YF.drew _ (by omega)⟩ | ((try dsimp only); exact ⟨blk_row_far Y9.drew _ (by omega), blk_row_far YF.drew _ (by omega)⟩)) (fun hHeld => ?_)
      clear hK K
      try simp only [Act.put, pz0, pz1, pz2, pz3, pz4, pz5]
      refine rd 3 fun K hK => ?_
      refine wp_store_row 28 _ _ rfl (w.heap.size + 3) #[.int .i64 ed, vo, vb, vs] rfl rfl 28 zeroF Y4b.drew sizeVF rfl oneVF ?_
      refine hK.out _ _ (by first | exact ⟨blk_row_far (blk_row_far Y9.drew _ (by omega)) _ (by omega), blk_row_far (blk_row_far YF.drew _ (by omega)) _ (by omega)⟩ | ((try dsimp only); exact ⟨blk_row_far (blk_row_far Y9.drew _ (by omega)) _ (by omega), blk_row_far (blk_row_far YF.drew _ (by omega)) _ (by omega)⟩)) (fun hHeld => ?_)
      clear hK K
      try simp only [Act.put, pz0, pz1, pz2, pz3, pz4, pz5]
      refine tk 4 ?_
      refine wpAnyH_done (by kernel_rfl) ?_ _
      try simp only [Act.put, pz0, pz1, pz2, pz3, pz4, pz5]
      have hbf := below_row (below_row YB.drew #[lv, wv, .int .i64 (x.after n).steps, fv] (g := w.heap.size + 2) (by omega)) #[.int .i64 ed, vo, vb, vs] (g := w.heap.size + 3) (by omega)
      have hF4 : FrameIn ((Y.drew.setRow (w.heap.size + 2) #[lv, wv, .int .i64 (x.after n).steps, fv]).setRow (w.heap.size + 3) #[.int .i64 ed, vo, vb, vs]) ((Y.drew.setRow (w.heap.size + 2) #[lv, wv, .int .i64 (x.after n).steps, fv]).setRow (w.heap.size + 3) #[.int .i64 ed, vo, vb, vs]).heap.size (.agg #[.int .i64 ed, vo, vb, vs]) (headR N rb) := by
       refine (HF.out (fun i => i = w.heap.size + 2 ∨ i = w.heap.size + 3 ∨ Q3.heap.size ≤ i) _ (Out.trans (Out.trans (outB' HYQ.out.drew (fun i hi => .inr (.inr hi))) (out_row #[lv, wv, .int .i64 (x.after n).steps, fv] (.inl rfl)) (fun _ _ h => h)) (out_row #[.int .i64 ed, vo, vb, vs] (.inr (.inl rfl))) (fun _ _ h => h)) (fun i h1 h2 h3 => by omega)).mono ?_
       have := HYQ.out.size
       simp
       exact this
      go_wp2_with fail
      exact bodyPost_ret (results_row_row_tmp Tryz.results31 _ _ _ _ _ _ _ (by rfl) (load_rdisk (blk_row_far (Y3.drew.row _) _ (by omega))) (by rfl) (loadF (Y4b.drew.row _)) (by rfl)) rfl ⟨_, by rw [HRES.out, hh]; rfl, by rw [HRES.out]; exact hF4, hbf⟩
    ·have HRES := Lib.hid (show rheadR x N a = (x.after n, frameZ, x.err n) by
      unfold rheadR
      rw [HASKB.out, ← HEN.out, if_pos rfl, if_neg herr])
     have L4b := blk_row_far L4 #[lv, wv, .int .i64 (x.after n).steps, fv] (g' := w.heap.size + 2) (by omega)
     go_wp2_with (first
      | (refine wpList_load_row rfl 40 _ rfl g9 rfl 40 #[lv, wv, .int .i64 (x.after n).steps, fv] (0, 0) _ bz9 Tryz.underlying40 rfl (size_rdisk _ _ _ _) ?_)
      | (refine wpList_build_is rfl 28 _ rfl zeroF (by kernel_rfl) ?_)
      | (refine wpList_store_row rfl 40 _ _ rfl (w.heap.size + 2) #[lv, wv, .int .i64 (x.after n).steps, fv] rfl rfl 40 zeroD L3 (size_rdisk _ _ _ _) rfl ONE1 ?_)
      | (refine wpList_store_row rfl 28 _ _ rfl (w.heap.size + 3) zeroF rfl rfl 28 zeroF L4b sizeF rfl oneF ?_))
     have hbf := below_row (below_row HBQ #[lv, wv, .int .i64 (x.after n).steps, fv] (g := w.heap.size + 2) (by omega)) zeroF (g := w.heap.size + 3) (by omega)
     exact bodyPost_ret (results_row_row_tmp Tryz.results31 _ _ _ _ _ _ _ (by rfl) (load_rdisk (blk_row_far (L3.row _) _ (by omega))) (by rfl) (loadF (L4b.row _)) (by rfl)) rfl ⟨_, by rw [HRES.out]; rfl, by rw [HRES.out]; exact zeroFrame _ _, hbf⟩
   ·have HRES := Lib.hid (show rheadR x N area = (x, frameZ, 2) by unfold rheadR; rw [HAF.out, hfit, hneg, hbig]; rfl)
    refine wp_region_held_drew (S := (fun w' => w'.rangeAt w.heap.size 0 [lv, wv, .int .i64 x.steps, fv] ∧ w'.cell? ⟨w.heap.size + 1, 0, none⟩ = some (.int .i64 N))) (by kernel_rfl) (by first | exact SK.out _ hb0 | ((try dsimp only); exact SK.out _ hb0)) (fun hHeld => ?_)
    generalize W.drew = X0 at *
    refine ty 0 rfl (yieldsIf_load_mid (by rfl) 40 _ rfl w.heap.size 0 rfl [lv, wv, .int .i64 x.steps, fv] _ (fun w' h => h.1) Tryz.underlying40 rfl (size_rdisk _ _ _ _)) ?_
    refine tk 2 ?_
    refine rd 1 fun K hK => ?_
    go_simp
    refine (HSZ.out X0 ((HR.out.below (HW.out.trans (hb0.mono HW.out.size)) (Nat.le_refl _)).mono ((HW.out.trans (hb0.mono HW.out.size))).size)).mono ?_; rintro e X1 ⟨rfl, hb1'⟩
    have hb1 := hb0.trans (hb1'.mono hb0.size)
    go_wp2_with fail
    refine hK.out _ _ (by first | exact SK.out _ hb1 | ((try dsimp only); exact SK.out _ hb1)) (fun hHeld => ?_)
    clear hK K
    try simp only [Act.put, pz0, pz1, pz2, pz3, pz4, pz5]
    refine rd 3 fun K hK => ?_
    go_simp
    refine (rfits_any x.size N X1).mono ?_; rintro e X2 ⟨rfl, hb2'⟩
    have hb2 := hb1.trans (hb2'.mono hb1.size)
    rw [FITS]
    go_wp2_with fail
    refine hK.out _ _ (by first | exact SK.out _ hb2 | ((try dsimp only); exact SK.out _ hb2)) (fun hHeld => ?_)
    clear hK K
    try simp only [Act.put, pz0, pz1, pz2, pz3, pz4, pz5]
    refine tk 4 ?_
    refine tk 5 ?_
    refine tk 6 ?_
    refine tk 7 ?_
    refine tk 8 ?_
    refine tk 9 ?_
    refine tk 10 ?_
    refine tk 11 ?_
    refine tk 12 ?_
    refine wpAnyH_done (by kernel_rfl) ?_ _
    try simp only [Act.put, pz0, pz1, pz2, pz3, pz4, pz5]
    have J0 := HK0.out.below hb2 HK0.out.lt
    have J3 := HK3.out.below hb2 HK3.out.lt
    have J4 := blk_row_far (HK4.out.below hb2 HK4.out.lt) #[lv, wv, .int .i64 x.steps, fv] (g' := w.heap.size + 2) (by omega)
    have HBF := (HW.out.trans (hb2.mono HW.out.size))
    go_wp2_with (first
     | (refine wpList_load_row rfl 40 _ rfl w.heap.size rfl 40 #[lv, wv, .int .i64 x.steps, fv] (0, 0) _ J0 Tryz.underlying40 rfl (size_rdisk _ _ _ _) ?_)
     | (refine wpList_build_is rfl 28 _ rfl zeroF (by kernel_rfl) ?_)
     | (refine wpList_store_row rfl 40 _ _ rfl (w.heap.size + 2) #[lv, wv, .int .i64 x.steps, fv] rfl rfl 40 zeroD J3 (size_rdisk _ _ _ _) rfl (HONE.out _) ?_)
     | (refine wpList_store_row rfl 28 _ _ rfl (w.heap.size + 3) zeroF rfl rfl 28 zeroF J4 sizeF rfl oneF ?_))
    have hbf := below_row (below_row HBF #[lv, wv, .int .i64 x.steps, fv] (g := w.heap.size + 2) (by omega)) zeroF (g := w.heap.size + 3) (by omega)
    exact bodyPost_ret (results_row_row_tmp Tryz.results31 _ _ _ _ _ _ _ (by rfl) (load_rdisk (blk_row_far (J3.row _) _ (by omega))) (by rfl) (loadF (J4.row _)) (by rfl)) rfl ⟨_, by rw [HRES.out]; rfl, by rw [HRES.out]; exact zeroFrame _ _, hbf⟩
  ·have HRES := Lib.hid (show rheadR x N area = (x, frameZ, 2) by unfold rheadR; rw [HAF.out, hfit, hneg]; rfl)
   refine wp_region_held_drew (S := (fun w' => w'.rangeAt w.heap.size 0 [lv, wv, .int .i64 x.steps, fv] ∧ w'.cell? ⟨w.heap.size + 1, 0, none⟩ = some (.int .i64 N))) (by kernel_rfl) (by first | exact SK.out _ hb0 | ((try dsimp only); exact SK.out _ hb0)) (fun hHeld => ?_)
   generalize W.drew = X0 at *
   refine ty 0 rfl (yieldsIf_load_mid (by rfl) 40 _ rfl w.heap.size 0 rfl [lv, wv, .int .i64 x.steps, fv] _ (fun w' h => h.1) Tryz.underlying40 rfl (size_rdisk _ _ _ _)) ?_
   refine tk 2 ?_
   refine rd 1 fun K hK => ?_
   go_simp
   refine (HSZ.out X0 ((HR.out.below (HW.out.trans (hb0.mono HW.out.size)) (Nat.le_refl _)).mono ((HW.out.trans (hb0.mono HW.out.size))).size)).mono ?_; rintro e X1 ⟨rfl, hb1'⟩
   have hb1 := hb0.trans (hb1'.mono hb0.size)
   go_wp2_with fail
   refine hK.out _ _ (by first | exact SK.out _ hb1 | ((try dsimp only); exact SK.out _ hb1)) (fun hHeld => ?_)
   clear hK K
   try simp only [Act.put, pz0, pz1, pz2, pz3, pz4, pz5]
   refine rd 3 fun K hK => ?_
   go_simp
   refine (rfits_any x.size N X1).mono ?_; rintro e X2 ⟨rfl, hb2'⟩
   have hb2 := hb1.trans (hb2'.mono hb1.size)
   rw [FITS]
   go_wp2_with fail
   refine hK.out _ _ (by first | exact SK.out _ hb2 | ((try dsimp only); exact SK.out _ hb2)) (fun hHeld => ?_)
   clear hK K
   try simp only [Act.put, pz0, pz1, pz2, pz3, pz4, pz5]
   refine tk 4 ?_
   refine tk 5 ?_
   refine tk 6 ?_
   refine tk 7 ?_
   refine tk 8 ?_
   refine tk 9 ?_
   refine tu 10 ?_
   refine tu 11 ?_
   refine tk 12 ?_
   refine wpAnyH_done (by kernel_rfl) ?_ _
   try simp only [Act.put, pz0, pz1, pz2, pz3, pz4, pz5]
   have J0 := HK0.out.below hb2 HK0.out.lt
   have J3 := HK3.out.below hb2 HK3.out.lt
   have J4 := blk_row_far (HK4.out.below hb2 HK4.out.lt) #[lv, wv, .int .i64 x.steps, fv] (g' := w.heap.size + 2) (by omega)
   have HBF := (HW.out.trans (hb2.mono HW.out.size))
   go_wp2_with (first
    | (refine wpList_load_row rfl 40 _ rfl w.heap.size rfl 40 #[lv, wv, .int .i64 x.steps, fv] (0, 0) _ J0 Tryz.underlying40 rfl (size_rdisk _ _ _ _) ?_)
    | (refine wpList_build_is rfl 28 _ rfl zeroF (by kernel_rfl) ?_)
    | (refine wpList_store_row rfl 40 _ _ rfl (w.heap.size + 2) #[lv, wv, .int .i64 x.steps, fv] rfl rfl 40 zeroD J3 (size_rdisk _ _ _ _) rfl (HONE.out _) ?_)
    | (refine wpList_store_row rfl 28 _ _ rfl (w.heap.size + 3) zeroF rfl rfl 28 zeroF J4 sizeF rfl oneF ?_))
   have hbf := below_row (below_row HBF #[lv, wv, .int .i64 x.steps, fv] (g := w.heap.size + 2) (by omega)) zeroF (g := w.heap.size + 3) (by omega)
   exact bodyPost_ret (results_row_row_tmp Tryz.results31 _ _ _ _ _ _ _ (by rfl) (load_rdisk (blk_row_far (J3.row _) _ (by omega))) (by rfl) (loadF (J4.row _)) (by rfl)) rfl ⟨_, by rw [HRES.out]; rfl, by rw [HRES.out]; exact zeroFrame _ _, hbf⟩
end Go.Proofs.YtdpniceapmikpaaGreat
