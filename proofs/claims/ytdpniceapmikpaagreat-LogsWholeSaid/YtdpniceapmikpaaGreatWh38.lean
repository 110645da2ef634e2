/-
  logs.Read and logs.Head of an area whose head is given up. (Written by gen_lreade.py.)
  logs.Read of an area that has no frame. (Written by gen_lreadn.py.)
  logs.Read of the program, for all disks; logs.Head where the head's step fails.
  The reference's Spot (volume): the place of a sector.
-/
import Derived.Test.YtdpniceapmikpaaGreatWh2
import Derived.Test.YtdpniceapmikpaaGreatWh7
import Derived.Test.YtdpniceapmikpaaGreatWh22
import Derived.Test.YtdpniceapmikpaaGreatWh24
import Derived.Test.YtdpniceapmikpaaGreatWh37
set_option linter.unusedVariables false
set_option linter.unusedSimpArgs false
namespace Go.Proofs.YtdpniceapmikpaaGreat
open Go.RowKit

set_option maxRecDepth 100000 in
set_option maxHeartbeats 4000000 in
theorem says_err (D : DiskP) (x : DiskD) (N area : Int) (w : World) (h : DiskAt w D x) (hx : x.ok) (he : x.err (sectorN N 2 area 0).1 ≠ 0) :
  Calls Tryz.prog 69 #[ptr D.p, .agg #[.int .i64 N], .int .i64 area] w fun e w' => e = .panicked (failC (x.err (sectorN N 2 area 0).1)) ∧ DiskAt w' D (x.after (sectorN N 2 area 0).1) ∧ DStep D D w w' := by
 obtain ⟨W0, eW0⟩ : ∃ W, W = (w.alloc (.cells #[.int .i64 N] 23)).alloc (.cells #[.int .i64 0, .slice none 0 0, .slice none 0 0, .slice none 0 0, .int .i64 0, .slice none 0 0] 142) := ⟨_, rfl⟩
 have hw0 : Below w.heap.size w W0 := by rw [eW0]; exact ((Below.refl _ w).alloc (Nat.le_refl _) _).alloc (by simp) _
 obtain ⟨n0, en0⟩ : ∃ n, n = (sectorN N 2 area 0).1 := ⟨_, rfl⟩
 have HAT := Lib.hid (fun W => at_any N 2 area 0 W (by unfold I64; omega))
 rw [← en0] at he HAT ⊢
 have HR := Lib.hid (fun W hh => lread_no D x n0 W hh hx he)
 have HX := Lib.hid h
 unfold ptr at *
 clear h hx he en0
 go_enter Tryz.func69, Tryz.ntmps69
 go_wp2_with fail
 rw [← eW0]
 have hW0s : W0.heap.size = w.heap.size + 2 := by rw [eW0]; simp
 clear eW0
 refine (HAT.out W0).mono ?_; rintro e w1 ⟨rfl, hb1⟩
 have hw1 := hw0.trans (hb1.mono (by omega))
 have HD1 := Lib.hid (HX.out.below hw1)
 go_wp2_with fail
 refine (HR.out w1 HD1.out).mono ?_; rintro e w2 ⟨rfl, hd2, hs2⟩
 have HD2 := Lib.hid hd2
 have HS2 := Lib.hid (hs2.first hw1 HX.out.has_lt)
 clear hd2 hs2 hb1 hw1 hw0 HAT HR HD1
 go_wp2_with fail
 exact ⟨rfl, rfl, HD2.out, HS2.out⟩
set_option maxRecDepth 100000 in
set_option maxHeartbeats 4000000 in
theorem lread_gone (D : DiskP) (x y : DiskD) (c : Int) (N area : Int) (w : World) (h : DiskAt w D x) (hx : x.ok) (hask : askB N x.size area = true) (hsay : ∀ W, DiskAt W D x → Calls Tryz.prog 69 #[ptr D.p, .agg #[.int .i64 N], .int .i64 area] W fun e w' => e = .panicked (failC c) ∧ DiskAt w' D y ∧ DStep D D W w') :
  Calls Tryz.prog 20 #[ptr D.p, .agg #[.int .i64 N], .int .i64 area] w fun e w' => e = .returned (.tuple #[.agg zeroF, .int .i64 c]) ∧ DiskAt w' D y ∧ DStep D D w w' := by
 have hD := Lib.hid h.has_lt
 obtain ⟨W0, eW0⟩ : ∃ W, W = ((((w.alloc (.cells #[ptr D.p] 37)).alloc (.cells #[.int .i64 N] 23)).alloc (.cells #[.int .i64 area] 3)).alloc (.cells zeroF 28)).alloc (.cells #[.int .i64 0] 32) := ⟨_, rfl⟩
 have hw0 : Below w.heap.size w W0 := by rw [eW0]; exact (((((Below.refl _ w).alloc (Nat.le_refl _) _).alloc (by simp) _).alloc (by simp; omega) _).alloc (by simp; omega) _).alloc (by simp; omega) _
 have hs0 : W0.heap.size = w.heap.size + 5 := by rw [eW0]; simp
 have k0 : Blk W0 w.heap.size 37 #[ptr D.p] := by rw [eW0]; exact ((((Blk.new w _ _).alloc _).alloc _).alloc _).alloc _
 have k1 : Blk W0 (w.heap.size + 1) 23 #[.int .i64 N] := by rw [eW0]; exact (((Blk.new2 w _ _ _).alloc _).alloc _).alloc _
 have k2 : Blk W0 (w.heap.size + 2) 3 #[.int .i64 area] := by rw [eW0]; exact ((Blk.new' (by simp)).alloc _).alloc _
 have k3 : Blk W0 (w.heap.size + 3) 28 zeroF := by rw [eW0]; exact (Blk.new' (by simp)).alloc _
 have k4 : Blk W0 (w.heap.size + 4) 32 #[.int .i64 0] := by rw [eW0]; exact Blk.new' (by simp)
 have HAK := Lib.hid (asked_any D x N area W0 (h.below hw0) hx)
 have HDK := Lib.hid (h.below hw0)
 have HB0 := Lib.hid hw0
 have c0 := k0.cell_is 0 rfl
 have c1 := k1.cell_is 0 rfl
 have c2 := k2.cell_is 0 rfl
 have K0 := Lib.hid k0
 have K1 := Lib.hid k1
 have K2 := Lib.hid k2
 have K3 := Lib.hid k3
 have K4 := Lib.hid k4
 rw [hask] at HAK
 have HSY := Lib.hid hsay
 unfold ptr at *
 clear h hw0 hsay k0 k1 k2 k3 k4
 go_enter_defers Tryz.func20, Tryz.ntmps20
 go_upto_region 1 with fail
 rw [← eW0]
 clear eW0
 go_wp2_with fail
 refine HAK.out.mono ?_; rintro e w1 ⟨rfl, hb1⟩
 unfold errB
 rw [if_pos rfl]
 have HB1 := Lib.hid (HB0.out.trans (hb1.mono (by omega)))
 have c0' := (K0.out.below hb1 (by omega)).cell_is 0 rfl
 have c1' := (K1.out.below hb1 (by omega)).cell_is 0 rfl
 have c2' := (K2.out.below hb1 (by omega)).cell_is 0 rfl
 have J0 := Lib.hid (K0.out.below hb1 (by omega))
 have J1 := Lib.hid (K1.out.below hb1 (by omega))
 have J2 := Lib.hid (K2.out.below hb1 (by omega))
 have J3 := Lib.hid (K3.out.below hb1 (by omega))
 have J4 := Lib.hid (K4.out.below hb1 (by omega))
 have hsz1 := hb1.size
 have HD1 := Lib.hid (HDK.out.below hb1)
 clear hb1 HAK c0 c1 c2 K0 K1 K2 K3 K4
 go_wp2_with fail
 refine (HSY.out w1 HD1.out).mono ?_; rintro e w2 ⟨rfl, hd2, hs2⟩
 have hnD : ∀ i, w.heap.size ≤ i → ¬ D.has i := fun i hi hd => by have := hD.out i hd; omega
 have b3 := hs2.out.blk J3.out (hnD _ (by omega))
 have b4 := hs2.out.blk J4.out (hnD _ (by omega))
 have HD2 := Lib.hid hd2
 have HS2 := Lib.hid (hs2.first HB1.out hD.out)
 have B3 := Lib.hid b3
 have B4 := Lib.hid b4
 clear hd2 hs2 b3 b4 J0 J1 J2 J3 J4
 go_wp2_with fail
 refine leaves_cons (f := 68) (args := #[ptr (w.heap.size + 4)]) (by simp) (by simp [go_sem, ptr]) ?_
 refine (given_panicking (w.heap.size + 4) _ c 0 w2 B4.out).mono ?_; rintro e u' w'' ⟨rfl, rfl, rfl⟩
 have b3 : Blk ((w2.setCell ⟨w.heap.size + 4, 0, none⟩ (.int .i64 c)).alloc (.cells #[.int .i64 c] 211)) (w.heap.size + 3) 28 zeroF := (B3.out.far (by simp) _).alloc _
 have b4 : Blk ((w2.setCell ⟨w.heap.size + 4, 0, none⟩ (.int .i64 c)).alloc (.cells #[.int .i64 c] 211)) (w.heap.size + 4) 32 #[.int .i64 c] := (B4.out.set_ 0 _).alloc _
 refine ⟨_, results_row_cell Tryz.results20 _ _ (w.heap.size + 3) 28 zeroF (0, 0) _ rfl b3 Tryz.underlying28 rfl (by kernel_rfl) _ _ rfl (load_errno _ (w.heap.size + 4) _ _ b4), rfl, ?_, ?_⟩
 ·exact (HD2.out.out (F := fun i => i = w.heap.size + 4) (out_set rfl) (fun i hi e => by have := hD.out i hi; omega)).below ((Below.refl _ _).alloc (Nat.le_refl _) _)
 ·exact DStep.below ⟨HS2.out.out.trans (out_set (F := fun i => i = w.heap.size + 4) rfl) (fun i hi e => by omega), rfl, fun i hi => .inl hi⟩ ((Below.refl _ _).alloc (Nat.le_refl _) _)
theorem lread_err (D : DiskP) (x : DiskD) (N area : Int) (w : World) (h : DiskAt w D x) (hx : x.ok) (hask : askB N x.size area = true) (he : x.err (sectorN N 2 area 0).1 ≠ 0) :
  Calls Tryz.prog 20 #[ptr D.p, .agg #[.int .i64 N], .int .i64 area] w fun e w' => e = .returned (.tuple #[.agg zeroF, .int .i64 (x.err (sectorN N 2 area 0).1)]) ∧ DiskAt w' D x.stepped ∧ DStep D D w w' :=
 lread_gone D x x.stepped _ N area w h hx hask (fun W hW => by
  have h1 := says_err D x N area W hW hx he
  rwa [after_there (place_there hask 2 0 (.inl ⟨rfl, rfl⟩))] at h1)
end Go.Proofs.YtdpniceapmikpaaGreat
namespace Go.Proofs.YtdpniceapmikpaaGreat
open Go.RowKit

set_option maxRecDepth 100000 in
set_option maxHeartbeats 4000000 in
theorem lread_none (D : DiskP) (x : DiskD) (N area : Int) (w : World) (h : DiskAt w D x) (hx : x.ok) (hask : askB N x.size area = true) (he2 : x.err (sectorN N 2 area 0).1 = 0) (hh : headB N (headS x N area) = false) :
  Calls Tryz.prog 20 #[ptr D.p, .agg #[.int .i64 N], .int .i64 area] w fun e w' => e = .returned (.tuple #[.agg zeroF, .int .i64 170]) ∧ DiskAt w' D x.stepped ∧ DStep D D w w' := by
 have hN : N ≤ 64 := by have h := hask; unfold askB rightB at h; simp at h; omega
 have hD := Lib.hid h.has_lt
 obtain ⟨W0, eW0⟩ : ∃ W, W = ((((w.alloc (.cells #[ptr D.p] 37)).alloc (.cells #[.int .i64 N] 23)).alloc (.cells #[.int .i64 area] 3)).alloc (.cells zeroF 28)).alloc (.cells #[.int .i64 0] 32) := ⟨_, rfl⟩
 have hw0 : Below w.heap.size w W0 := by rw [eW0]; exact (((((Below.refl _ w).alloc (Nat.le_refl _) _).alloc (by simp) _).alloc (by simp; omega) _).alloc (by simp; omega) _).alloc (by simp; omega) _
 have hs0 : W0.heap.size = w.heap.size + 5 := by rw [eW0]; simp
 have k0 : Blk W0 w.heap.size 37 #[ptr D.p] := by rw [eW0]; exact ((((Blk.new w _ _).alloc _).alloc _).alloc _).alloc _
 have k1 : Blk W0 (w.heap.size + 1) 23 #[.int .i64 N] := by rw [eW0]; exact (((Blk.new2 w _ _ _).alloc _).alloc _).alloc _
 have k2 : Blk W0 (w.heap.size + 2) 3 #[.int .i64 area] := by rw [eW0]; exact ((Blk.new' (by simp)).alloc _).alloc _
 have k3 : Blk W0 (w.heap.size + 3) 28 zeroF := by rw [eW0]; exact (Blk.new' (by simp)).alloc _
 have k4 : Blk W0 (w.heap.size + 4) 32 #[.int .i64 0] := by rw [eW0]; exact Blk.new' (by simp)
 have HAK := Lib.hid (asked_any D x N area W0 (h.below hw0) hx)
 have HDK := Lib.hid (h.below hw0)
 have HB0 := Lib.hid hw0
 have c0 := k0.cell_is 0 rfl
 have c1 := k1.cell_is 0 rfl
 have c2 := k2.cell_is 0 rfl
 have K0 := Lib.hid k0
 have K1 := Lib.hid k1
 have K2 := Lib.hid k2
 have K3 := Lib.hid k3
 have K4 := Lib.hid k4
 rw [hask] at HAK
 have HSY := Lib.hid (fun W hh => says_any D x N area W hh hx hN he2)
 unfold ptr at *
 clear h hw0 k0 k1 k2 k3 k4
 go_enter_defers Tryz.func20, Tryz.ntmps20
 go_upto_region 1 with fail
 rw [← eW0]
 clear eW0
 go_wp2_with fail
 refine HAK.out.mono ?_; rintro e w1 ⟨rfl, hb1⟩
 unfold errB
 rw [if_pos rfl]
 have HB1 := Lib.hid (HB0.out.trans (hb1.mono (by omega)))
 have c0' := (K0.out.below hb1 (by omega)).cell_is 0 rfl
 have c1' := (K1.out.below hb1 (by omega)).cell_is 0 rfl
 have c2' := (K2.out.below hb1 (by omega)).cell_is 0 rfl
 have J0 := Lib.hid (K0.out.below hb1 (by omega))
 have J1 := Lib.hid (K1.out.below hb1 (by omega))
 have J2 := Lib.hid (K2.out.below hb1 (by omega))
 have J3 := Lib.hid (K3.out.below hb1 (by omega))
 have J4 := Lib.hid (K4.out.below hb1 (by omega))
 have hsz1 := hb1.size
 have HD1 := Lib.hid (HDK.out.below hb1)
 clear hb1 HAK c0 c1 c2 K0 K1 K2 K3 K4
 go_wp2_with fail
 refine (HSY.out w1 HD1.out).mono ?_; rintro e w2 ⟨hd2, hs2, hv2⟩
 unfold headS at hh
 rw [hh] at hv2
 obtain rfl : e = .panicked (failC 170) := hv2
 have hnD : ∀ i, w.heap.size ≤ i → ¬ D.has i := fun i hi hd => by have := hD.out i hd; omega
 have b3 := hs2.out.blk J3.out (hnD _ (by omega))
 have b4 := hs2.out.blk J4.out (hnD _ (by omega))
 have HD2 := Lib.hid hd2
 have HS2 := Lib.hid (hs2.first HB1.out hD.out)
 have B3 := Lib.hid b3
 have B4 := Lib.hid b4
 clear hd2 hs2 b3 b4 J0 J1 J2 J3 J4 hh
 go_wp2_with fail
 refine leaves_cons (f := 68) (args := #[ptr (w.heap.size + 4)]) (by simp) (by simp [go_sem, ptr]) ?_
 refine (given_panicking (w.heap.size + 4) _ 170 0 w2 B4.out).mono ?_; rintro e u' w'' ⟨rfl, rfl, rfl⟩
 have b3 : Blk ((w2.setCell ⟨w.heap.size + 4, 0, none⟩ (.int .i64 170)).alloc (.cells #[.int .i64 170] 211)) (w.heap.size + 3) 28 zeroF := (B3.out.far (by simp) _).alloc _
 have b4 : Blk ((w2.setCell ⟨w.heap.size + 4, 0, none⟩ (.int .i64 170)).alloc (.cells #[.int .i64 170] 211)) (w.heap.size + 4) 32 #[.int .i64 170] := (B4.out.set_ 0 _).alloc _
 refine ⟨_, results_row_cell Tryz.results20 _ _ (w.heap.size + 3) 28 zeroF (0, 0) _ rfl b3 Tryz.underlying28 rfl (by kernel_rfl) _ _ rfl (load_errno _ (w.heap.size + 4) _ _ b4), rfl, ?_, ?_⟩
 ·exact (HD2.out.out (F := fun i => i = w.heap.size + 4) (out_set rfl) (fun i hi e => by have := hD.out i hi; omega)).below ((Below.refl _ _).alloc (Nat.le_refl _) _)
 ·exact DStep.below ⟨HS2.out.out.trans (out_set (F := fun i => i = w.heap.size + 4) rfl) (fun i hi e => by omega), rfl, fun i hi => .inl hi⟩ ((Below.refl _ _).alloc (Nat.le_refl _) _)
end Go.Proofs.YtdpniceapmikpaaGreat
namespace Go.Proofs.YtdpniceapmikpaaGreat
open Go.RowKit

theorem plus_one (x : DiskD) : x.stepped = x.plus 1 := by
 have h := plus_stepped x 0
 rw [plus_zero] at h
 exact h
theorem lread_any (D : DiskP) (x : DiskD) (N area : Int) (w : World) (h : DiskAt w D x) (hx : x.ok) (hst : x.steps ≤ 900000000000) (hask : askB N x.size area = true) :
  Calls Tryz.prog 20 #[ptr D.p, .agg #[.int .i64 N], .int .i64 area] w (RdPost D x N area w) := by
 by_cases he : x.err (sectorN N 2 area 0).1 = 0
 ·cases hh : headB N (headS x N area) with
  | true => exact callsIn_wide.1 (lread_some 6 (Nat.le_refl _) D x N area w h hx hst hask he hh)
  | false =>
   refine (lread_none D x N area w h hx hask he hh).mono ?_
   rintro e w' ⟨rfl, hd, hs⟩
   have hr := readR_none he hh
   exact ⟨_, _, by rw [hr], by rw [hr, if_neg (by decide)], hd, by rw [hr]; exact plus_one x, hs⟩
 ·refine (lread_err D x N area w h hx hask he).mono ?_
  rintro e w' ⟨rfl, hd, hs⟩
  have hr := readR_err he
  exact ⟨_, _, by rw [hr], by rw [hr, if_neg he], hd, by rw [hr]; exact plus_one x, hs⟩
end Go.Proofs.YtdpniceapmikpaaGreat
namespace Go.Proofs.YtdpniceapmikpaaGreat
open Go.RowKit

def spotR (N : Nat) (s : Int) : Spot3 × Int := if 0 ≤ s ∧ s < 20 + 3 * (N : Int) then (spotAt N s.toNat, 0) else (⟨0, 0, 0⟩, 4)
theorem spot_fit (p : Spot3) : (Tryz.prog.info? 88).map (·.size) = some p.cells.toArray.size := by
 show _ = some 3
 kernel_rfl
theorem spot_all (p : Spot3) : p.cells.toArray.all (·.oneCell') = true := by
 rw [List.all_toArray]
 rfl
set_option maxRecDepth 100000 in
set_option maxHeartbeats 2000000 in
theorem rspot_any (N : Nat) (s : Int) (w : World) (hN : 1 ≤ N ∧ N ≤ 64) : Calls Tryz.prog 34 #[.agg #[.int .i64 N], .int .i64 s] w fun e w' =>
  e = .returned (.tuple #[.agg (spotR N s).1.cells.toArray, .int .i64 (spotR N s).2]) ∧ Below w.heap.size w w' := by
 have hr : rightB N = true := by simp [rightB]; omega
 obtain ⟨W, eW⟩ : ∃ W, W = (w.alloc (.cells #[.int .i64 N] 23)).alloc (.cells #[.int .i64 0, .int .i64 0, .int .i64 0] 88) := ⟨_, rfl⟩
 have b0 : Below w.heap.size w W := by rw [eW]; exact ((Below.refl _ w).alloc (Nat.le_refl _) _).alloc (by simp) _
 have k0 : Blk W w.heap.size 23 #[.int .i64 N] := by rw [eW]; exact (Blk.new w _ _).alloc _
 have k1 : Blk W (w.heap.size + 1) 88 #[.int .i64 0, .int .i64 0, .int .i64 0] := by rw [eW]; exact Blk.new' (by simp)
 have c0 := k0.cell_is 0 rfl
 have HB0 := Lib.hid b0
 have HK1 := Lib.hid k1
 clear b0 k0 k1
 go_enter Tryz.func34, Tryz.ntmps34
 go_wp2_with fail
 rw [← eW]
 clear eW
 refine (rright_any N _).mono ?_; rintro e w1 ⟨rfl, hb⟩
 rw [hr]
 have HB1 := Lib.hid (HB0.out.trans (hb.mono HB0.out.size))
 have HK2 := Lib.hid (HK1.out.below hb HK1.out.lt)
 have c0 := (hb.cell (p := ⟨w.heap.size, 0, none⟩) (by have := HK1.out.lt; show w.heap.size < _; omega)).trans c0
 clear hb HB0 HK1
 go_wp2_with fail
 refine (rall_any N w1 (by omega)).mono ?_; rintro e w2 ⟨v, rfl, hO, hb2⟩
 obtain ⟨g, cap, rfl, hg, hcs⟩ := spot_row hO (by rw [allL_len]; omega)
 have HB2 := Lib.hid (HB1.out.trans (hb2.mono HB1.out.size))
 have HC := Lib.hid hcs
 have HK3 := Lib.hid (HK2.out.below hb2 HK2.out.lt)
 rw [allL_len]
 clear hO hcs hb2 HK2 HB1 hg c0
 have hsz : (#[.int .i64 0, .int .i64 0, .int .i64 0] : Array Value).size = 3 := rfl
 have HK := Lib.hid (show ∀ (p : Spot3), Blk (w2.setRow (w.heap.size + 1) p.cells.toArray) (w.heap.size + 1) 88 p.cells.toArray ∧ Below w.heap.size w (w2.setRow (w.heap.size + 1) p.cells.toArray) from fun p => ⟨HK3.out.row _, below_row HB2.out _ (by omega)⟩)
 by_cases h0 : s < 0
 ·have HR := Lib.hid (show spotR N s = (⟨0, 0, 0⟩, 4) by unfold spotR; rw [if_neg (by omega)])
  go_wp2_with (refine wpList_store_row rfl 88 _ _ rfl (w.heap.size + 1) (⟨0, 0, 0⟩ : Spot3).cells.toArray rfl rfl 88 _ HK3.out (spot_fit ⟨0, 0, 0⟩) rfl (spot_all ⟨0, 0, 0⟩) ?_)
  exact bodyPost_ret (results_row_tmp Tryz.results34 _ _ (w.heap.size + 1) 88 _ (0, 0) _ rfl (HK.out ⟨0, 0, 0⟩).1 Tryz.underlying88 rfl (spot_fit ⟨0, 0, 0⟩) _ rfl) rfl ⟨by rw [HR.out]; rfl, (HK.out ⟨0, 0, 0⟩).2⟩
 ·obtain ⟨k, rfl⟩ : ∃ k : Nat, s = k := ⟨s.toNat, by omega⟩
  by_cases hk : k < 20 + 3 * N
  ·have hkI : (k : Int) < 20 + 3 * (N : Int) := by omega
   have HR := Lib.hid (show spotR N k = (spotAt N k, 0) by unfold spotR; rw [if_pos ⟨by omega, hkI⟩]; rfl)
   obtain ⟨y0, y1, y2⟩ := HC.out k _ (allL_at N k hk)
   generalize spotAt N k = p at *
   obtain ⟨pk, pa, pt⟩ := p
   dsimp only at y0 y1 y2
   go_wp2_with (refine wpList_store_row rfl 88 _ _ rfl (w.heap.size + 1) (⟨pk, pa, pt⟩ : Spot3).cells.toArray rfl rfl 88 _ HK3.out (spot_fit ⟨pk, pa, pt⟩) rfl (spot_all ⟨pk, pa, pt⟩) ?_)
   exact bodyPost_ret (results_row_tmp Tryz.results34 _ _ (w.heap.size + 1) 88 _ (0, 0) _ rfl (HK.out ⟨pk, pa, pt⟩).1 Tryz.underlying88 rfl (spot_fit ⟨pk, pa, pt⟩) _ rfl) rfl ⟨by rw [HR.out]; rfl, (HK.out ⟨pk, pa, pt⟩).2⟩
  ·have hkI : 20 + 3 * (N : Int) ≤ (k : Int) := by omega
   have HR := Lib.hid (show spotR N k = (⟨0, 0, 0⟩, 4) by unfold spotR; rw [if_neg (by omega)])
   have hge : decide (20 + 3 * (N : Int) ≤ (k : Int)) = true := by simpa using hkI
   go_wp2_with (refine wpList_store_row rfl 88 _ _ rfl (w.heap.size + 1) (⟨0, 0, 0⟩ : Spot3).cells.toArray rfl rfl 88 _ HK3.out (spot_fit ⟨0, 0, 0⟩) rfl (spot_all ⟨0, 0, 0⟩) ?_)
   exact bodyPost_ret (results_row_tmp Tryz.results34 _ _ (w.heap.size + 1) 88 _ (0, 0) _ rfl (HK.out ⟨0, 0, 0⟩).1 Tryz.underlying88 rfl (spot_fit ⟨0, 0, 0⟩) _ rfl) rfl ⟨by rw [HR.out]; rfl, (HK.out ⟨0, 0, 0⟩).2⟩
end Go.Proofs.YtdpniceapmikpaaGreat
