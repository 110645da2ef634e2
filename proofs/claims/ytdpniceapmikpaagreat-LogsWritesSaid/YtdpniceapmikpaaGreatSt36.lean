/-
  The reference's Write of a frame. (Written by gen_lrwr.py.)
-/
import Derived.Test.YtdpniceapmikpaaGreatSt1
import Derived.Test.YtdpniceapmikpaaGreatSt14
import Derived.Test.YtdpniceapmikpaaGreatSt26
import Derived.Test.YtdpniceapmikpaaGreatSt33
import Derived.Test.YtdpniceapmikpaaGreatSt34
import Derived.Test.YtdpniceapmikpaaGreatSt35
set_option linter.unusedVariables false
set_option linter.unusedSimpArgs false
namespace Go.Proofs.YtdpniceapmikpaaGreat
open Go.RowKit

/-- writes one behind the other, up to the first that fails -/
def writesE : DiskD → List WaitD → DiskD × Int
 | x, [] => (x, 0)
 | x, y :: ys => if x.err y.n = 0 then writesE (x.write y.n y.b) ys else (x.write y.n y.b, x.err y.n)
def writesP (x : DiskD) (ys : List WaitD) : DiskD := ys.foldl (fun x y => x.write y.n y.b) x
theorem writesP_snoc (x : DiskD) (ys : List WaitD) (y : WaitD) : writesP x (ys ++ [y]) = (writesP x ys).write y.n y.b := by simp [writesP]
theorem size_frame (a b c d : Value) : (Tryz.prog.info? 28).map (·.size) = some ([a, b, c, d] : List Value).length := by
 show _ = some 4
 kernel_rfl
/-- what the reference's Write comes to -/
def rwriteR (x : DiskD) (N area : Int) (f : FrameD) (ys : List WaitD) : DiskD × Int := if askB N x.size area && frameB N f then writesE x ys else (x, 2)
theorem askB_fits (N size area : Int) : askB N size area = ((rightB N && decide (20 + 3 * N ≤ size)) && (!decide (area < 0) && !decide (1 < area))) := by
 unfold askB
 have g2 : decide (0 ≤ area) = !decide (area < 0) := by rw [← decide_not]; congr 1; simp [Int.not_lt]
 have g3 : decide (area ≤ 1) = !decide (1 < area) := by rw [← decide_not]; congr 1; simp [Int.not_lt]
 rw [g2, g3, Bool.and_assoc]
theorem writesP_keeps : ∀ (ys : List WaitD) (x : DiskD), flatL (writesP x ys) = flatL x ∧ (writesP x ys).fails = x.fails ∧ (writesP x ys).size = x.size
 | [], x => ⟨rfl, rfl, rfl⟩
 | y :: ys, x => by
  have h := writesP_keeps ys (x.write y.n y.b)
  have e : flatL (x.write y.n y.b) = flatL x ∧ (x.write y.n y.b).fails = x.fails ∧ (x.write y.n y.b).size = x.size := by
   unfold DiskD.write
   split
   ·exact ⟨rfl, rfl, rfl⟩
   ·split <;> exact ⟨rfl, rfl, rfl⟩
  show flatL (writesP (x.write y.n y.b) ys) = _ ∧ (writesP (x.write y.n y.b) ys).fails = _ ∧ (writesP (x.write y.n y.b) ys).size = _
  exact ⟨h.1.trans e.1, h.2.1.trans e.2.1, h.2.2.trans e.2.2⟩
theorem zero_no (n : Int) : zeroD[0]? ≠ some (.int .i64 n) := by simp
theorem WaitsIn.far {W : World} {B : Nat} {v : Value} {ws : List WaitD} (h : WaitsIn W B v ws) {g0 : Nat} {t : TypeId} {cs : Array Value} (cs' : Array Value) (hb : Blk W g0 t cs) (h0 : ∀ n, cs[0]? ≠ some (.int .i64 n)) : WaitsIn (W.setRow g0 cs') B v ws := by
 obtain ⟨hl, hws, a, cap, rfl, h2⟩ := h
 refine ⟨hl, hws, a, cap, rfl, fun i y hi => ?_⟩
 obtain ⟨g, rfl, hg, hr⟩ := h2 i y hi
 have hne : g ≠ g0 := by
  rintro rfl
  have hlt : 0 < ws.length := by
   cases ws with
   | nil => simp at hi
   | cons z ws => simp
  obtain ⟨g', e, _, hr'⟩ := h2 0 (ws[0]'hlt) (List.getElem?_eq_getElem hlt)
  cases e
  have hc := hr' 0 (.int .i64 (ws[0]'hlt).n) (by unfold WaitD.cells; rfl)
  have hc2 := hb.cell 0
  rw [Nat.zero_mul, Nat.add_zero] at hc
  exact h0 _ (hc2.symm.trans hc)
 exact ⟨g, rfl, hg, fun j u hj => (World.cell?_of_block (a := ⟨g, i * 513 + j, none⟩) (setRow_other W g0 g cs' hne)).trans (hr j u hj)⟩
set_option maxRecDepth 100000 in
set_option maxHeartbeats 8000000 in
theorem rwrite_any (x : DiskD) (lv wv fv : Value) (N area : Int) (f : FrameD) (fr : Value) (ys : List WaitD) (w : World) (h : RDisk w w.heap.size lv wv fv x) (hx : x.ok) (hf : FrameIn w w.heap.size fr f)
  (hys : ∀ y ∈ ys, y.b.length = 512) (hyl : ys.length ≤ 100)
  (hlays : askB N x.size area = true → frameB N f = true → ∀ W, Below w.heap.size w W → Calls Tryz.prog 49 #[.agg #[.int .i64 N], .int .i64 area, fr] W fun e w' => ∃ v, e = .returned v ∧ WaitsIn w' w'.heap.size v ys ∧ Below W.heap.size W w')
  (hok : ∀ k, k ≤ ys.length → (writesP x (ys.take k)).ok) :
  Calls Tryz.prog 17 #[.agg #[lv, wv, .int .i64 x.steps, fv], .agg #[.int .i64 N], .int .i64 area, fr] w fun e w' => ∃ wv', e = .returned (.tuple #[.agg #[lv, wv', .int .i64 (rwriteR x N area f ys).1.steps, fv], .int .i64 (rwriteR x N area f ys).2]) ∧
   RDisk w' w'.heap.size lv wv' fv (rwriteR x N area f ys).1 ∧ Below w.heap.size w w' ∧ (∀ g, wv'.ownBlock = some g → wv'.ownBlock = wv.ownBlock ∨ w.heap.size ≤ g) := by
 have HONE := Lib.hid h.one
 have HSZ := Lib.hid (fun W hh => rdsize_any x lv wv fv x.steps W hh hx)
 have HR := Lib.hid h
 have HFR := Lib.hid hf
 have HCK := Lib.hid (fun W hh => rlcheck_any N f fr W hh)
 have HLY := Lib.hid hlays
 obtain ⟨vo, vb, vs, rfl, hf1, hf2, hf3⟩ := hf
 obtain ⟨W, eW⟩ : ∃ W, W = (((w.alloc (.cells #[lv, wv, .int .i64 x.steps, fv] 40)).alloc (.cells #[.int .i64 N] 23)).alloc (.cells #[.int .i64 f.ed, vo, vb, vs] 28)).alloc (.cells zeroD 40) := ⟨_, rfl⟩
 have hbW : Below w.heap.size w W := by rw [eW]; exact ((((Below.refl _ w).alloc (Nat.le_refl _) _).alloc (by simp) _).alloc (by simp; omega) _).alloc (by simp; omega) _
 have k0 : Blk W w.heap.size 40 #[lv, wv, .int .i64 x.steps, fv] := by rw [eW]; exact (((Blk.new w _ _).alloc _).alloc _).alloc _
 have k1 : Blk W (w.heap.size + 1) 23 #[.int .i64 N] := by rw [eW]; exact ((Blk.new2 w _ _ _).alloc _).alloc _
 have k2 : Blk W (w.heap.size + 2) 28 #[.int .i64 f.ed, vo, vb, vs] := by rw [eW]; exact (Blk.new' (by simp)).alloc _
 have k3 : Blk W (w.heap.size + 3) 40 zeroD := by rw [eW]; exact Blk.new' (by simp)
 clear h hf1 hf2 hf3 hlays
 go_enter Tryz.func17, Tryz.ntmps17
 go_upto_region 1 with fail
 rw [← eW]
 clear eW
 have HW := Lib.hid hbW
 have HK0 := Lib.hid k0
 have HK1 := Lib.hid k1
 have HK2 := Lib.hid k2
 have HK3 := Lib.hid k3
 have SK := Lib.hid (fun (W' : World) (hb' : Below W.heap.size W W') => (⟨by have := blk_range (k0.below hb' k0.lt); simpa using this, (k1.below hb' k1.lt).cell_is 0 rfl, by have := blk_range (k2.below hb' k2.lt); simpa using this⟩ : W'.rangeAt w.heap.size 0 [lv, wv, .int .i64 x.steps, fv] ∧ W'.cell? ⟨w.heap.size + 1, 0, none⟩ = some (.int .i64 N) ∧ W'.rangeAt (w.heap.size + 2) 0 [.int .i64 f.ed, vo, vb, vs]))
 have hb0 : Below W.heap.size W W.drew := (Below.refl _ W).drew
 have HAF := Lib.hid (askB_fits N x.size area)
 clear hbW k0 k1 k2 k3
 cases hfit : (rightB N && decide (20 + 3 * N ≤ x.size))
 ·have FITS := hfit
  have HRES := Lib.hid (show rwriteR x N area f ys = (x, 2) by unfold rwriteR; rw [HAF.out, hfit]; rfl)
  refine wp_region_held_drew (S := (fun w' => w'.rangeAt w.heap.size 0 [lv, wv, .int .i64 x.steps, fv] ∧ w'.cell? ⟨w.heap.size + 1, 0, none⟩ = some (.int .i64 N) ∧ w'.rangeAt (w.heap.size + 2) 0 [.int .i64 f.ed, vo, vb, vs])) (by kernel_rfl) (by first | exact SK.out _ hb0 | ((try dsimp only); exact SK.out _ hb0)) (fun hHeld => ?_)
  generalize W.drew = X0 at *
  refine ty 0 rfl (yieldsIf_load_mid (by rfl) 40 _ rfl w.heap.size 0 rfl [lv, wv, .int .i64 x.steps, fv] _ (fun w' h => h.1) Tryz.underlying40 rfl (size_rdisk _ _ _ _)) ?_
  refine tk 2 ?_
  refine rd 1 fun K hK => ?_
  go_simp
  refine (HSZ.out X0 ((HR.out.below (HW.out.trans (hb0.mono HW.out.size)) (Nat.le_refl _)).mono ((HW.out.trans (hb0.mono HW.out.size))).size)).mono ?_; rintro e X1 ⟨rfl, hb1'⟩
  have hb1 := hb0.trans (hb1'.mono hb0.size)
  go_wp2_with fail
  refine hK.out _ _ (by first | exact SK.out _ hb1 | ((try dsimp only); exact SK.out _ hb1)) (fun hHeld => ?_)
  clear hK K
  try simp only [Act.put, pz0, pz1, pz2, pz3, pz4, pz5]
  refine rd 3 fun K hK => ?_
  go_simp
  refine (rfits_any x.size N X1).mono ?_; rintro e X2 ⟨rfl, hb2'⟩
  have hb2 := hb1.trans (hb2'.mono hb1.size)
  rw [FITS]
  go_wp2_with fail
  refine hK.out _ _ (by first | exact SK.out _ hb2 | ((try dsimp only); exact SK.out _ hb2)) (fun hHeld => ?_)
  clear hK K
  try simp only [Act.put, pz0, pz1, pz2, pz3, pz4, pz5]
  refine tk 4 ?_
  refine tk 5 ?_
  refine tu 6 ?_
  refine tu 7 ?_
  refine tk 8 ?_
  refine tk 9 ?_
  refine tu 10 ?_
  refine tu 11 ?_
  refine tk 12 ?_
  refine tk 13 ?_
  refine tu 14 ?_
  refine tu 15 ?_
  refine tu 16 ?_
  refine tu 17 ?_
  refine tk 18 ?_
  refine wpAnyH_done (by kernel_rfl) ?_ _
  try simp only [Act.put, pz0, pz1, pz2, pz3, pz4, pz5]
  have J0 := HK0.out.below hb2 HK0.out.lt
  have J3 := HK3.out.below hb2 HK3.out.lt
  have HBF := (HW.out.trans (hb2.mono HW.out.size))
  go_wp2_with (first
   | (refine wpList_load_row rfl 40 _ rfl w.heap.size rfl 40 #[lv, wv, .int .i64 x.steps, fv] (0, 0) _ J0 Tryz.underlying40 rfl (size_rdisk _ _ _ _) ?_)
   | (refine wpList_store_row rfl 40 _ _ rfl (w.heap.size + 3) #[lv, wv, .int .i64 x.steps, fv] rfl rfl 40 zeroD J3 (size_rdisk _ _ _ _) rfl (HONE.out _) ?_))
  have hbf := below_row HBF #[lv, wv, .int .i64 x.steps, fv] (g := w.heap.size + 3) (by omega)
  exact bodyPost_ret (results_row_tmp2 Tryz.results17 _ _ _ _ _ (by rfl) (load_rdisk (J3.row _)) (by rfl)) rfl ⟨wv, by rw [HRES.out]; rfl, by rw [HRES.out]; exact (HR.out.below hbf (Nat.le_refl _)).mono hbf.size, hbf, fun _ _ => .inl rfl⟩
 ·have FITS := hfit
  cases hneg : decide (area < 0)
  ·cases hbig : decide (1 < area)
   ·cases hchk : frameB N f
    ·have CHK := hchk
     have HRES := Lib.hid (show rwriteR x N area f ys = (x, 2) by unfold rwriteR; rw [HAF.out, hfit, hneg, hbig, hchk]; rfl)
     refine wp_region_held_drew (S := (fun w' => w'.rangeAt w.heap.size 0 [lv, wv, .int .i64 x.steps, fv] ∧ w'.cell? ⟨w.heap.size + 1, 0, none⟩ = some (.int .i64 N) ∧ w'.rangeAt (w.heap.size + 2) 0 [.int .i64 f.ed, vo, vb, vs])) (by kernel_rfl) (by first | exact SK.out _ hb0 | ((try dsimp only); exact SK.out _ hb0)) (fun hHeld => ?_)
     generalize W.drew = X0 at *
     refine ty 0 rfl (yieldsIf_load_mid (by rfl) 40 _ rfl w.heap.size 0 rfl [lv, wv, .int .i64 x.steps, fv] _ (fun w' h => h.1) Tryz.underlying40 rfl (size_rdisk _ _ _ _)) ?_
     refine tk 2 ?_
     refine rd 1 fun K hK => ?_
     go_simp
     refine (HSZ.out X0 ((HR.out.below (HW.out.trans (hb0.mono HW.out.size)) (Nat.le_refl _)).mono ((HW.out.trans (hb0.mono HW.out.size))).size)).mono ?_; rintro e X1 ⟨rfl, hb1'⟩
     have hb1 := hb0.trans (hb1'.mono hb0.size)
     go_wp2_with fail
     refine hK.out _ _ (by first | exact SK.out _ hb1 | ((try dsimp only); exact SK.out _ hb1)) (fun hHeld => ?_)
     clear hK K
     try simp only [Act.put, pz0, pz1, pz2, pz3, pz4, pz5]
     refine rd 3 fun K hK => ?_
     go_simp
     refine (rfits_any x.size N X1).mono ?_; rintro e X2 ⟨rfl, hb2'⟩
     have hb2 := hb1.trans (hb2'.mono hb1.size)
     rw [FITS]
     go_wp2_with fail
     refine hK.out _ _ (by first | exact SK.out _ hb2 | ((try dsimp only); exact SK.out _ hb2)) (fun hHeld => ?_)
     clear hK K
     try simp only [Act.put, pz0, pz1, pz2, pz3, pz4, pz5]
     refine tk 4 ?_
     refine tk 5 ?_
     refine tk 6 ?_
     refine tk 7 ?_
     refine tk 8 ?_
     refine tk 9 ?_
     refine tk 10 ?_
     refine tk 11 ?_
     refine tk 12 ?_
     refine tk 13 ?_
     refine tk 14 ?_
     refine ty 15 rfl (yieldsIf_load_mid (by rfl) 28 _ rfl (w.heap.size + 2) 0 rfl [.int .i64 f.ed, vo, vb, vs] _ (fun w' h => h.2.2) Tryz.underlying28 rfl (size_frame _ _ _ _)) ?_
     refine rd 16 fun K hK => ?_
     go_simp
     refine (HCK.out X2 ((HFR.out.below (HW.out.trans (hb2.mono HW.out.size)) (Nat.le_refl _)).mono ((HW.out.trans (hb2.mono HW.out.size))).size)).mono ?_; rintro e X3 ⟨rfl, hb3'⟩
     have hb3 := hb2.trans (hb3'.mono hb2.size)
     rw [CHK]
     go_wp2_with fail
     refine hK.out _ _ (by first | exact SK.out _ hb3 | ((try dsimp only); exact SK.out _ hb3)) (fun hHeld => ?_)
     clear hK K
     try simp only [Act.put, pz0, pz1, pz2, pz3, pz4, pz5]
     refine tk 17 ?_
     refine tk 18 ?_
     refine wpAnyH_done (by kernel_rfl) ?_ _
     try simp only [Act.put, pz0, pz1, pz2, pz3, pz4, pz5]
     have J0 := HK0.out.below hb3 HK0.out.lt
     have J3 := HK3.out.below hb3 HK3.out.lt
     have HBF := (HW.out.trans (hb3.mono HW.out.size))
     go_wp2_with (first
      | (refine wpList_load_row rfl 40 _ rfl w.heap.size rfl 40 #[lv, wv, .int .i64 x.steps, fv] (0, 0) _ J0 Tryz.underlying40 rfl (size_rdisk _ _ _ _) ?_)
      | (refine wpList_store_row rfl 40 _ _ rfl (w.heap.size + 3) #[lv, wv, .int .i64 x.steps, fv] rfl rfl 40 zeroD J3 (size_rdisk _ _ _ _) rfl (HONE.out _) ?_))
     have hbf := below_row HBF #[lv, wv, .int .i64 x.steps, fv] (g := w.heap.size + 3) (by omega)
     exact bodyPost_ret (results_row_tmp2 Tryz.results17 _ _ _ _ _ (by rfl) (load_rdisk (J3.row _)) (by rfl)) rfl ⟨wv, by rw [HRES.out]; rfl, by rw [HRES.out]; exact (HR.out.below hbf (Nat.le_refl _)).mono hbf.size, hbf, fun _ _ => .inl rfl⟩
    ·have CHK := hchk
     refine wp_region_held_drew (S := (fun w' => w'.rangeAt w.heap.size 0 [lv, wv, .int .i64 x.steps, fv] ∧ w'.cell? ⟨w.heap.size + 1, 0, none⟩ = some (.int .i64 N) ∧ w'.rangeAt (w.heap.size + 2) 0 [.int .i64 f.ed, vo, vb, vs])) (by kernel_rfl) (by first | exact SK.out _ hb0 | ((try dsimp only); exact SK.out _ hb0)) (fun hHeld => ?_)
     generalize W.drew = X0 at *
     refine ty 0 rfl (yieldsIf_load_mid (by rfl) 40 _ rfl w.heap.size 0 rfl [lv, wv, .int .i64 x.steps, fv] _ (fun w' h => h.1) Tryz.underlying40 rfl (size_rdisk _ _ _ _)) ?_
     refine tk 2 ?_
     refine rd 1 fun K hK => ?_
     go_simp
     refine (HSZ.out X0 ((HR.out.below (HW.out.trans (hb0.mono HW.out.size)) (Nat.le_refl _)).mono ((HW.out.trans (hb0.mono HW.out.size))).size)).mono ?_; rintro e X1 ⟨rfl, hb1'⟩
     have hb1 := hb0.trans (hb1'.mono hb0.size)
     go_wp2_with fail
     refine hK.out _ _ (by first | exact SK.out _ hb1 | ((try dsimp only); exact SK.out _ hb1)) (fun hHeld => ?_)
     clear hK K
     try simp only [Act.put, pz0, pz1, pz2, pz3, pz4, pz5]
     refine rd 3 fun K hK => ?_
     go_simp
     refine (rfits_any x.size N X1).mono ?_; rintro e X2 ⟨rfl, hb2'⟩
     have hb2 := hb1.trans (hb2'.mono hb1.size)
     rw [FITS]
     go_wp2_with fail
     refine hK.out _ _ (by first | exact SK.out _ hb2 | ((try dsimp only); exact SK.out _ hb2)) (fun hHeld => ?_)
     clear hK K
     try simp only [Act.put, pz0, pz1, pz2, pz3, pz4, pz5]
     refine tk 4 ?_
     refine tk 5 ?_
     refine tk 6 ?_
     refine tk 7 ?_
     refine tk 8 ?_
     refine tk 9 ?_
     refine tk 10 ?_
     refine tk 11 ?_
     refine tk 12 ?_
     refine tk 13 ?_
     refine tk 14 ?_
     refine ty 15 rfl (yieldsIf_load_mid (by rfl) 28 _ rfl (w.heap.size + 2) 0 rfl [.int .i64 f.ed, vo, vb, vs] _ (fun w' h => h.2.2) Tryz.underlying28 rfl (size_frame _ _ _ _)) ?_
     refine rd 16 fun K hK => ?_
     go_simp
     refine (HCK.out X2 ((HFR.out.below (HW.out.trans (hb2.mono HW.out.size)) (Nat.le_refl _)).mono ((HW.out.trans (hb2.mono HW.out.size))).size)).mono ?_; rintro e X3 ⟨rfl, hb3'⟩
     have hb3 := hb2.trans (hb3'.mono hb2.size)
     rw [CHK]
     go_wp2_with fail
     refine hK.out _ _ (by first | exact SK.out _ hb3 | ((try dsimp only); exact SK.out _ hb3)) (fun hHeld => ?_)
     clear hK K
     try simp only [Act.put, pz0, pz1, pz2, pz3, pz4, pz5]
     refine tk 17 ?_
     refine tk 18 ?_
     refine wpAnyH_done (by kernel_rfl) ?_ _
     try simp only [Act.put, pz0, pz1, pz2, pz3, pz4, pz5]
     have J0 := HK0.out.below hb3 HK0.out.lt
     have J1 := (HK1.out.below hb3 HK1.out.lt).cell_is 0 rfl
     have J2 := HK2.out.below hb3 HK2.out.lt
     have J3 := HK3.out.below hb3 HK3.out.lt
     have HB3 := HW.out.trans (hb3.mono HW.out.size)
     have hask : askB N x.size area = true := by rw [HAF.out, hfit, hneg, hbig]; rfl
     have HRES := Lib.hid (show rwriteR x N area f ys = writesE x ys by unfold rwriteR; rw [hask, hchk]; rfl)
     have HL0 := Lib.hid (HLY.out hask hchk X3 HB3)
     clear hb0 hb1 hb2 hb1' hb2' hb3'
     go_wp2_with (refine wpList_load_row rfl 28 _ rfl (w.heap.size + 2) rfl 28 #[.int .i64 f.ed, vo, vb, vs] (0, 0) _ J2 Tryz.underlying28 rfl (size_frame _ _ _ _) ?_)
     refine HL0.out.mono ?_; rintro e X4 ⟨v, rfl, hL, hb4⟩
     obtain ⟨hyl1, hyl2, ay, cy, rfl, hyl3⟩ := id hL
     have hL0 := hL
     have M0 := J0.below hb4 J0.lt
     have M3 := J3.below hb4 J3.lt
     have HB4 := HB3.trans (hb4.mono HB3.size)
     have hlvno : ∀ (a b c : Value) (n : Int), (#[lv, a, b, c] : Array Value)[0]? ≠ some (.int .i64 n) := by
      obtain ⟨_, _, _, rfl, _⟩ := HR.out.lasts
      intro a b c n hh
      simp at hh
     have hR4 := (HR.out.below HB4 (Nat.le_refl _)).mono HB4.size
     clear hL J0 J1 J2 J3 hb4 hyl3 HB3
     go_wp2_with fail
     go_loopw [11] (fun i wr => ∃ (k : Nat) (wvk : Value), k ≤ ys.length ∧ i = .int .i64 (k : Int) ∧ Hid (writesE x ys = writesE (writesP x (ys.take k)) (ys.drop k)) ∧ Blk wr w.heap.size 40 #[lv, wvk, .int .i64 (writesP x (ys.take k)).steps, fv] ∧ Blk wr (w.heap.size + 3) 40 zeroD ∧ WaitsIn wr wr.heap.size wvk (writesP x (ys.take k)).waits ∧ (∀ g, wvk.ownBlock = some g → wvk.ownBlock = wv.ownBlock ∨ w.heap.size ≤ g) ∧ WaitsIn wr wr.heap.size (.slice ay ys.length cy) ys ∧ Below w.heap.size w wr) (fun i _ => ys.length - (intOf i).toNat)
     case atStart => exact ⟨0, wv, by omega, rfl, Lib.hid rfl, M0, M3, hR4.waits, fun _ _ => .inl rfl, hL0, HB4⟩
     case round =>
      obtain ⟨k, wvk, hk, rfl, HEQ, hB0, hB3, hWk, hownk, hLw, hBw⟩ := hrel
      have hkeep := Lib.hid (writesP_keeps (ys.take k) x)
      by_cases hlt : k < ys.length
      ·have hli : (k : Int) < (ys.length : Int) := by omega
       obtain ⟨y, hy⟩ : ∃ y, ys[k]? = some y := ⟨_, List.getElem?_eq_getElem hlt⟩
       have hdrop : ys.drop k = y :: ys.drop (k + 1) := by
        have := List.drop_eq_getElem_cons hlt
        rw [this]
        have e : ys[k] = y := by have h2 := List.getElem?_eq_getElem hlt; rw [hy] at h2; exact (Option.some.inj h2).symm
        rw [e]
       have hsucc : writesP x (ys.take (k + 1)) = (writesP x (ys.take k)).write y.n y.b := by
        rw [List.take_add_one, hy, ← writesP_snoc]
        rfl
       have hxk := hok k hk
       have hxk2 := hok (k + 1) hlt
       rw [hsucc] at hxk2
       have hyb := hys y (List.mem_of_getElem? hy)
       obtain ⟨_, g, eg, hg, hc1, hc2⟩ := hLw.at_ hy
       subst eg
       obtain ⟨n, b⟩ := y
       simp only at hsucc hxk2 hyb hc1 hc2
       have hlk := hkeep.out
       obtain ⟨xk, exk⟩ : ∃ xk, xk = writesP x (ys.take k) := ⟨_, rfl⟩
       rw [← exk] at hsucc hxk hxk2 HEQ hB0 hWk hlk
       have HDROP := Lib.hid hdrop
       have HSUCC := Lib.hid hsucc
       have hlk2 := writesP_keeps (ys.take (k + 1)) x
       rw [hsucc] at hlk2
       have HLK2 := Lib.hid hlk2
       have EXK := Lib.hid exk
       clear hdrop hsucc exk hlk2
       have hRk : RDisk wr wr.heap.size lv wvk fv xk := by
        have hr0 := (HR.out.below hBw (Nat.le_refl _)).mono hBw.size
        exact ⟨by rw [hlk.1]; exact hr0.lasts, hWk, by rw [hlk.2.1]; exact hr0.fails⟩
       have HWR := Lib.hid (fun W hh => rdwrite_any xk lv wvk fv n b W hh hxk hyb hxk2)
       have HLW := Lib.hid hLw
       have HBB := Lib.hid hBw
       have hszl : (Tryz.prog.info? 111).map (·.size) = some (b.map vu8).length := by simpa using sector_size b hyb
       have SK7 := Lib.hid (fun (W' : World) (hb' : Below wr.heap.size wr W') => (⟨by have := blk_range (hB0.below hb' hB0.lt); simpa using this, (hb'.cell (p := ⟨g, k * 513, none⟩) hg).trans hc1, range_below hc2 hb' hg⟩ : W'.rangeAt w.heap.size 0 [lv, wvk, .int .i64 xk.steps, fv] ∧ W'.cell? ⟨g, k * 513, none⟩ = some (.int .i64 n) ∧ W'.rangeAt g (k * 513 + 1) (b.map vu8)))
       have hb0 : Below wr.heap.size wr wr.drew := (Below.refl _ wr).drew
       unfold sectorV at HWR
       clear hLw hBw hkeep hc1 hc2 hlk
       go_upto_region 7 with fail
       refine wp_region_held_drew (S := (fun w' => w'.rangeAt w.heap.size 0 [lv, wvk, .int .i64 xk.steps, fv] ∧ w'.cell? ⟨g, k * 513, none⟩ = some (.int .i64 n) ∧ w'.rangeAt g (k * 513 + 1) (b.map vu8))) (by kernel_rfl) (by first | exact SK7.out _ hb0 | ((try dsimp only); exact SK7.out _ hb0)) (fun hHeld => ?_)
       generalize wr.drew = X0 at *
       refine ty 0 rfl (yieldsIf_load_mid (by rfl) 40 _ rfl w.heap.size 0 rfl [lv, wvk, .int .i64 xk.steps, fv] _ (fun w' h => h.1) Tryz.underlying40 rfl (size_rdisk _ _ _ _)) ?_
       refine tk 1 ?_
       refine tk 2 ?_
       refine tk 6 ?_
       refine tk 7 ?_
       refine tk 3 ?_
       refine tk 8 ?_
       refine tk 4 ?_
       refine tk 9 ?_
       refine tk 5 ?_
       refine ty 10 rfl (yieldsIf_load_mid (by rfl) 111 _ rfl g (k * 513 + 1) rfl (b.map vu8) _ (fun w' h => h.2.2) Tryz.underlying111 rfl hszl) ?_
       refine wpAnyH_ready (rs := [11, 15]) (by kernel_rfl) (by simp) ?_
       refine (AllReadyH.cons rfl (fun K hK => ?_) (AllReadyH.cons rfl (fun K hK => ?_) AllReadyH.nil))
       ·skip
        go_simp
        refine (HWR.out X0 ((hRk.below hb0 (Nat.le_refl _)).mono hb0.size)).mono ?_; rintro e X1 ⟨wv2, rfl, hR2, hb1', hown2⟩
        have hb1 := hb0.trans (hb1'.mono hb0.size)
        go_wp2_with fail
        refine hK.out _ _ (by first | exact SK7.out _ hb1 | ((try dsimp only); exact SK7.out _ hb1)) (fun hHeld => ?_)
        clear hK K
        try simp only [Act.put, pz0, pz1, pz2, pz3, pz4, pz5]
        refine tk 12 ?_
        refine tk 13 ?_
        refine tk 14 ?_
        refine rd 15 fun K hK => ?_
        go_simp
        obtain ⟨X2, eX2⟩ : ∃ V, V = X1.alloc (.cells zeroD 40) := ⟨_, rfl⟩
        have hb2 : Below wr.heap.size wr X2 := by rw [eX2]; exact hb1.alloc hb1.size _
        have bz : Blk X2 X1.heap.size 40 zeroD := by rw [eX2]; exact Blk.new X1 _ _
        have hzl : wr.heap.size ≤ X1.heap.size := hb1.size
        have hW2 := (hR2.waits.below ((Below.refl _ X1).alloc (Nat.le_refl _) (.cells zeroD 40)) (Nat.le_refl _)).more (B' := (X1.alloc (.cells zeroD 40)).heap.size) (by simp)
        rw [← eX2] at hW2
        try rw [← eX2]
        clear eX2
        refine hK.out _ _ (by first | exact SK7.out _ hb2 | ((try dsimp only); exact SK7.out _ hb2)) (fun hHeld => ?_)
        clear hK K
        try simp only [Act.put, pz0, pz1, pz2, pz3, pz4, pz5]
        refine rd 16 fun K hK => ?_
        refine wp_store_row 40 _ _ rfl X1.heap.size #[lv, wv2, .int .i64 (xk.write n b).steps, fv] rfl rfl 40 zeroD bz (size_rdisk _ _ _ _) rfl (hR2.one _) ?_
        refine hK.out _ _ (by first | exact SK7.out _ (below_row hb2 _ hzl) | ((try dsimp only); exact SK7.out _ (below_row hb2 _ hzl))) (fun hHeld => ?_)
        clear hK K
        try simp only [Act.put, pz0, pz1, pz2, pz3, pz4, pz5]
        refine tk 17 ?_
        refine wpAnyH_done (by kernel_rfl) ?_ _
        try simp only [Act.put, pz0, pz1, pz2, pz3, pz4, pz5]
        have bz2 := bz.row #[lv, wv2, .int .i64 (xk.write n b).steps, fv]
        have hb9 := below_row hb2 #[lv, wv2, .int .i64 (xk.write n b).steps, fv] (g := X1.heap.size) hzl
        have hW9 := hW2.far #[lv, wv2, .int .i64 (xk.write n b).steps, fv] bz zero_no
        have hL9 := (HLW.out.below hb2 (Nat.le_refl _)).far #[lv, wv2, .int .i64 (xk.write n b).steps, fv] bz zero_no
        have c0b := hB0.below hb9 hB0.lt
        have c3b := hB3.below hb9 hB3.lt
        have HONE9 := Lib.hid (hR2.one (xk.write n b).steps)
        have hbz : X1.heap.size ≠ w.heap.size := by have := hB0.lt; omega
        have hBB := HBB.out.trans (hb9.mono HBB.out.size)
        have hrow0 := Lib.hid (c0b.row #[lv, wv2, .int .i64 (xk.write n b).steps, fv])
        have hrow3 := Lib.hid (blk_row_far c3b #[lv, wv2, .int .i64 (xk.write n b).steps, fv] (g' := w.heap.size) (by omega))
        have hbf := Lib.hid (below_row hBB #[lv, wv2, .int .i64 (xk.write n b).steps, fv] (g := w.heap.size) (Nat.le_refl _))
        have hWf := Lib.hid (hW9.far #[lv, wv2, .int .i64 (xk.write n b).steps, fv] c0b (hlvno _ _ _))
        have hLf := Lib.hid (hL9.far #[lv, wv2, .int .i64 (xk.write n b).steps, fv] c0b (hlvno _ _ _))
        have hsz9 : X2.heap.size = (X2.setRow X1.heap.size #[lv, wv2, .int .i64 (xk.write n b).steps, fv]).heap.size := by simp
        have hownf : ∀ g', wv2.ownBlock = some g' → wv2.ownBlock = wv.ownBlock ∨ w.heap.size ≤ g' := fun g' hg' => by
         rcases hown2 g' hg' with h9 | h9
         ·rw [h9] at hg'
          rcases hownk g' hg' with h8 | h8
          ·exact .inl (h9.trans h8)
          ·exact .inr h8
         ·exact .inr (by have := HBB.out.size; have := hb0.size; have := hb1.size; omega)
        clear hW9 hL9 hBB bz hW2 hR2 hown2
        generalize X2.setRow X1.heap.size #[lv, wv2, .int .i64 (xk.write n b).steps, fv] = Y at *
        by_cases herr : xk.err n = 0
        ·have hE0 : writesE x ys = writesE (xk.write n b) (ys.drop (k + 1)) := by
          rw [HEQ.out, HDROP.out]
          show (if xk.err n = 0 then _ else _) = _
          rw [if_pos herr]
         rw [herr]
         go_wp2_with (first
          | (refine wpList_load_row rfl 40 _ rfl (X1.heap.size) rfl 40 #[lv, wv2, .int .i64 (xk.write n b).steps, fv] (0, 0) _ bz2 Tryz.underlying40 rfl (size_rdisk _ _ _ _) ?_)
          | (refine wpList_store_row rfl 40 _ _ rfl w.heap.size #[lv, wv2, .int .i64 (xk.write n b).steps, fv] rfl rfl 40 _ c0b (size_rdisk _ _ _ _) rfl HONE9.out ?_))
         go_roundw
         case rel => exact ⟨k + 1, wv2, by omega, by go_num, by rw [HSUCC.out]; exact Lib.hid hE0, by rw [HSUCC.out]; exact hrow0.out, hrow3.out, by rw [HSUCC.out]; exact (by have := hWf.out; rw [hsz9] at this; simpa using this), hownf, (by have := hLf.out; exact this.more (by simp; have := hb2.size; omega)), hbf.out⟩
         case measure => simp [intOf]; omega
        ·have hE0 : writesE x ys = (xk.write n b, xk.err n) := by
          rw [HEQ.out, HDROP.out]
          show (if xk.err n = 0 then _ else _) = _
          rw [if_neg herr]
         have HER := Lib.hid hE0
         have hf3 := below_row hbf.out #[lv, wv2, .int .i64 (xk.write n b).steps, fv] (g := w.heap.size + 3) (by omega)
         go_wp2_with (first
          | (refine wpList_load_row rfl 40 _ rfl (X1.heap.size) rfl 40 #[lv, wv2, .int .i64 (xk.write n b).steps, fv] (0, 0) _ bz2 Tryz.underlying40 rfl (size_rdisk _ _ _ _) ?_)
          | (refine wpList_load_row rfl 40 _ rfl w.heap.size rfl 40 #[lv, wv2, .int .i64 (xk.write n b).steps, fv] (0, 0) _ hrow0.out Tryz.underlying40 rfl (size_rdisk _ _ _ _) ?_)
          | (refine wpList_store_row rfl 40 _ _ rfl w.heap.size #[lv, wv2, .int .i64 (xk.write n b).steps, fv] rfl rfl 40 _ c0b (size_rdisk _ _ _ _) rfl HONE9.out ?_)
          | (refine wpList_store_row rfl 40 _ _ rfl (w.heap.size + 3) #[lv, wv2, .int .i64 (xk.write n b).steps, fv] rfl rfl 40 zeroD hrow3.out (size_rdisk _ _ _ _) rfl HONE9.out ?_))
         have hr0 := (HR.out.below hf3 (Nat.le_refl _)).mono hf3.size
         have hWz := (hWf.out.far #[lv, wv2, .int .i64 (xk.write n b).steps, fv] hrow3.out zero_no).more (B' := ((Y.setRow w.heap.size #[lv, wv2, .int .i64 (xk.write n b).steps, fv]).setRow (w.heap.size + 3) #[lv, wv2, .int .i64 (xk.write n b).steps, fv]).heap.size) (by simp; omega)
         exact bodyPost_ret (results_row_tmp2 Tryz.results17 _ _ _ _ _ (by rfl) (load_rdisk (hrow3.out.row _)) (by rfl)) rfl ⟨wv2, by rw [HRES.out, HER.out]; rfl, by rw [HRES.out, HER.out]; exact ⟨by rw [HLK2.out.1]; exact hr0.lasts, hWz, by rw [HLK2.out.2.1]; exact hr0.fails⟩, hf3, hownf⟩
       ·skip
        go_simp
        obtain ⟨X1, eX1⟩ : ∃ V, V = X0.alloc (.cells zeroD 40) := ⟨_, rfl⟩
        have hb1 : Below wr.heap.size wr X1 := by rw [eX1]; exact hb0.alloc hb0.size _
        have bz : Blk X1 X0.heap.size 40 zeroD := by rw [eX1]; exact Blk.new X0 _ _
        have hzl : wr.heap.size ≤ X0.heap.size := hb0.size
        try rw [← eX1]
        clear eX1
        refine hK.out _ _ (by first | exact SK7.out _ hb1 | ((try dsimp only); exact SK7.out _ hb1)) (fun hHeld => ?_)
        clear hK K
        try simp only [Act.put, pz0, pz1, pz2, pz3, pz4, pz5]
        refine rd 11 fun K hK => ?_
        go_simp
        refine (HWR.out X1 ((hRk.below hb1 (Nat.le_refl _)).mono hb1.size)).mono ?_; rintro e X2 ⟨wv2, rfl, hR2, hb2', hown2⟩
        have hb2 := hb1.trans (hb2'.mono hb1.size)
        replace bz := bz.below hb2' bz.lt
        have hW2 := hR2.waits
        go_wp2_with fail
        refine hK.out _ _ (by first | exact SK7.out _ hb2 | ((try dsimp only); exact SK7.out _ hb2)) (fun hHeld => ?_)
        clear hK K
        try simp only [Act.put, pz0, pz1, pz2, pz3, pz4, pz5]
        refine tk 12 ?_
        refine tk 13 ?_
        refine tk 14 ?_
        refine rd 16 fun K hK => ?_
        refine wp_store_row 40 _ _ rfl X0.heap.size #[lv, wv2, .int .i64 (xk.write n b).steps, fv] rfl rfl 40 zeroD bz (size_rdisk _ _ _ _) rfl (hR2.one _) ?_
        refine hK.out _ _ (by first | exact SK7.out _ (below_row hb2 _ hzl) | ((try dsimp only); exact SK7.out _ (below_row hb2 _ hzl))) (fun hHeld => ?_)
        clear hK K
        try simp only [Act.put, pz0, pz1, pz2, pz3, pz4, pz5]
        refine tk 17 ?_
        refine wpAnyH_done (by kernel_rfl) ?_ _
        try simp only [Act.put, pz0, pz1, pz2, pz3, pz4, pz5]
        have bz2 := bz.row #[lv, wv2, .int .i64 (xk.write n b).steps, fv]
        have hb9 := below_row hb2 #[lv, wv2, .int .i64 (xk.write n b).steps, fv] (g := X0.heap.size) hzl
        have hW9 := hW2.far #[lv, wv2, .int .i64 (xk.write n b).steps, fv] bz zero_no
        have hL9 := (HLW.out.below hb2 (Nat.le_refl _)).far #[lv, wv2, .int .i64 (xk.write n b).steps, fv] bz zero_no
        have c0b := hB0.below hb9 hB0.lt
        have c3b := hB3.below hb9 hB3.lt
        have HONE9 := Lib.hid (hR2.one (xk.write n b).steps)
        have hbz : X0.heap.size ≠ w.heap.size := by have := hB0.lt; omega
        have hBB := HBB.out.trans (hb9.mono HBB.out.size)
        have hrow0 := Lib.hid (c0b.row #[lv, wv2, .int .i64 (xk.write n b).steps, fv])
        have hrow3 := Lib.hid (blk_row_far c3b #[lv, wv2, .int .i64 (xk.write n b).steps, fv] (g' := w.heap.size) (by omega))
        have hbf := Lib.hid (below_row hBB #[lv, wv2, .int .i64 (xk.write n b).steps, fv] (g := w.heap.size) (Nat.le_refl _))
        have hWf := Lib.hid (hW9.far #[lv, wv2, .int .i64 (xk.write n b).steps, fv] c0b (hlvno _ _ _))
        have hLf := Lib.hid (hL9.far #[lv, wv2, .int .i64 (xk.write n b).steps, fv] c0b (hlvno _ _ _))
        have hsz9 : X2.heap.size = (X2.setRow X0.heap.size #[lv, wv2, .int .i64 (xk.write n b).steps, fv]).heap.size := by simp
        have hownf : ∀ g', wv2.ownBlock = some g' → wv2.ownBlock = wv.ownBlock ∨ w.heap.size ≤ g' := fun g' hg' => by
         rcases hown2 g' hg' with h9 | h9
         ·rw [h9] at hg'
          rcases hownk g' hg' with h8 | h8
          ·exact .inl (h9.trans h8)
          ·exact .inr h8
         ·exact .inr (by have := HBB.out.size; have := hb0.size; have := hb1.size; omega)
        clear hW9 hL9 hBB bz hW2 hR2 hown2
        generalize X2.setRow X0.heap.size #[lv, wv2, .int .i64 (xk.write n b).steps, fv] = Y at *
        by_cases herr : xk.err n = 0
        ·have hE0 : writesE x ys = writesE (xk.write n b) (ys.drop (k + 1)) := by
          rw [HEQ.out, HDROP.out]
          show (if xk.err n = 0 then _ else _) = _
          rw [if_pos herr]
         rw [herr]
         go_wp2_with (first
          | (refine wpList_load_row rfl 40 _ rfl (X0.heap.size) rfl 40 #[lv, wv2, .int .i64 (xk.write n b).steps, fv] (0, 0) _ bz2 Tryz.underlying40 rfl (size_rdisk _ _ _ _) ?_)
          | (refine wpList_store_row rfl 40 _ _ rfl w.heap.size #[lv, wv2, .int .i64 (xk.write n b).steps, fv] rfl rfl 40 _ c0b (size_rdisk _ _ _ _) rfl HONE9.out ?_))
         go_roundw
         case rel => exact ⟨k + 1, wv2, by omega, by go_num, by rw [HSUCC.out]; exact Lib.hid hE0, by rw [HSUCC.out]; exact hrow0.out, hrow3.out, by rw [HSUCC.out]; exact (by have := hWf.out; rw [hsz9] at this; simpa using this), hownf, (by have := hLf.out; exact this.more (by simp; have := hb2.size; omega)), hbf.out⟩
         case measure => simp [intOf]; omega
        ·have hE0 : writesE x ys = (xk.write n b, xk.err n) := by
          rw [HEQ.out, HDROP.out]
          show (if xk.err n = 0 then _ else _) = _
          rw [if_neg herr]
         have HER := Lib.hid hE0
         have hf3 := below_row hbf.out #[lv, wv2, .int .i64 (xk.write n b).steps, fv] (g := w.heap.size + 3) (by omega)
         go_wp2_with (first
          | (refine wpList_load_row rfl 40 _ rfl (X0.heap.size) rfl 40 #[lv, wv2, .int .i64 (xk.write n b).steps, fv] (0, 0) _ bz2 Tryz.underlying40 rfl (size_rdisk _ _ _ _) ?_)
          | (refine wpList_load_row rfl 40 _ rfl w.heap.size rfl 40 #[lv, wv2, .int .i64 (xk.write n b).steps, fv] (0, 0) _ hrow0.out Tryz.underlying40 rfl (size_rdisk _ _ _ _) ?_)
          | (refine wpList_store_row rfl 40 _ _ rfl w.heap.size #[lv, wv2, .int .i64 (xk.write n b).steps, fv] rfl rfl 40 _ c0b (size_rdisk _ _ _ _) rfl HONE9.out ?_)
          | (refine wpList_store_row rfl 40 _ _ rfl (w.heap.size + 3) #[lv, wv2, .int .i64 (xk.write n b).steps, fv] rfl rfl 40 zeroD hrow3.out (size_rdisk _ _ _ _) rfl HONE9.out ?_))
         have hr0 := (HR.out.below hf3 (Nat.le_refl _)).mono hf3.size
         have hWz := (hWf.out.far #[lv, wv2, .int .i64 (xk.write n b).steps, fv] hrow3.out zero_no).more (B' := ((Y.setRow w.heap.size #[lv, wv2, .int .i64 (xk.write n b).steps, fv]).setRow (w.heap.size + 3) #[lv, wv2, .int .i64 (xk.write n b).steps, fv]).heap.size) (by simp; omega)
         exact bodyPost_ret (results_row_tmp2 Tryz.results17 _ _ _ _ _ (by rfl) (load_rdisk (hrow3.out.row _)) (by rfl)) rfl ⟨wv2, by rw [HRES.out, HER.out]; rfl, by rw [HRES.out, HER.out]; exact ⟨by rw [HLK2.out.1]; exact hr0.lasts, hWz, by rw [HLK2.out.2.1]; exact hr0.fails⟩, hf3, hownf⟩
      ·have hje : k = ys.length := by omega
       have hnl : ¬ (k : Int) < (ys.length : Int) := by omega
       have hE0 : writesE x ys = (writesP x (ys.take k), 0) := by
        rw [HEQ.out, List.drop_eq_nil_of_le (by omega)]
        rfl
       have HER := Lib.hid hE0
       have HJ := Lib.hid hje
       have hr0 := (HR.out.below hBw (Nat.le_refl _)).mono hBw.size
       have hlk := hkeep.out
       have hRk : RDisk wr wr.heap.size lv wvk fv (writesP x (ys.take k)) := ⟨by rw [hlk.1]; exact hr0.lasts, hWk, by rw [hlk.2.1]; exact hr0.fails⟩
       obtain ⟨xk, exk⟩ : ∃ xk, xk = writesP x (ys.take k) := ⟨_, rfl⟩
       rw [← exk] at hRk HER hB0 hlk
       have HLK := Lib.hid hlk
       clear hje hE0 hlk hr0 hkeep exk
       go_wp2_with (first
        | (refine wpList_load_row rfl 40 _ rfl w.heap.size rfl 40 #[lv, wvk, .int .i64 xk.steps, fv] (0, 0) _ hB0 Tryz.underlying40 rfl (size_rdisk _ _ _ _) ?_)
        | (refine wpList_store_row rfl 40 _ _ rfl (w.heap.size + 3) #[lv, wvk, .int .i64 xk.steps, fv] rfl rfl 40 zeroD hB3 (size_rdisk _ _ _ _) rfl (hRk.one _) ?_))
       have hbf := below_row hBw #[lv, wvk, .int .i64 xk.steps, fv] (g := w.heap.size + 3) (by omega)
       have hr0 := (HR.out.below hbf (Nat.le_refl _)).mono hbf.size
       have hWz := (hRk.waits.far #[lv, wvk, .int .i64 xk.steps, fv] hB3 zero_no).more (B' := (wr.setRow (w.heap.size + 3) #[lv, wvk, .int .i64 xk.steps, fv]).heap.size) (by simp)
       have hRf : RDisk (wr.setRow (w.heap.size + 3) #[lv, wvk, .int .i64 xk.steps, fv]) (wr.setRow (w.heap.size + 3) #[lv, wvk, .int .i64 xk.steps, fv]).heap.size lv wvk fv xk := ⟨by rw [HLK.out.1]; exact hr0.lasts, hWz, by rw [HLK.out.2.1]; exact hr0.fails⟩
       exact bodyPost_ret (results_row_tmp2 Tryz.results17 _ _ _ _ _ (by rfl) (load_rdisk (hB3.row _)) (by rfl)) rfl ⟨wvk, by rw [HRES.out, HER.out]; rfl, by rw [HRES.out, HER.out]; exact hRf, hbf, hownk⟩
   ·have HRES := Lib.hid (show rwriteR x N area f ys = (x, 2) by unfold rwriteR; rw [HAF.out, hfit, hneg, hbig]; rfl)
    refine wp_region_held_drew (S := (fun w' => w'.rangeAt w.heap.size 0 [lv, wv, .int .i64 x.steps, fv] ∧ w'.cell? ⟨w.heap.size + 1, 0, none⟩ = some (.int .i64 N) ∧ w'.rangeAt (w.heap.size + 2) 0 [.int .i64 f.ed, vo, vb, vs])) (by kernel_rfl) (by first | exact SK.out _ hb0 | ((try dsimp only); exact SK.out _ hb0)) (fun hHeld => ?_)
    generalize W.drew = X0 at *
    refine ty 0 rfl (yieldsIf_load_mid (by rfl) 40 _ rfl w.heap.size 0 rfl [lv, wv, .int .i64 x.steps, fv] _ (fun w' h => h.1) Tryz.underlying40 rfl (size_rdisk _ _ _ _)) ?_
    refine tk 2 ?_
    refine rd 1 fun K hK => ?_
    go_simp
    refine (HSZ.out X0 ((HR.out.below (HW.out.trans (hb0.mono HW.out.size)) (Nat.le_refl _)).mono ((HW.out.trans (hb0.mono HW.out.size))).size)).mono ?_; rintro e X1 ⟨rfl, hb1'⟩
    have hb1 := hb0.trans (hb1'.mono hb0.size)
    go_wp2_with fail
    refine hK.out _ _ (by first | exact SK.out _ hb1 | ((try dsimp only); exact SK.out _ hb1)) (fun hHeld => ?_)
    clear hK K
    try simp only [Act.put, pz0, pz1, pz2, pz3, pz4, pz5]
    refine rd 3 fun K hK => ?_
    go_simp
    refine (rfits_any x.size N X1).mono ?_; rintro e X2 ⟨rfl, hb2'⟩
    have hb2 := hb1.trans (hb2'.mono hb1.size)
    rw [FITS]
    go_wp2_with fail
    refine hK.out _ _ (by first | exact SK.out _ hb2 | ((try dsimp only); exact SK.out _ hb2)) (fun hHeld => ?_)
    clear hK K
    try simp only [Act.put, pz0, pz1, pz2, pz3, pz4, pz5]
    refine tk 4 ?_
    refine tk 5 ?_
    refine tk 6 ?_
    refine tk 7 ?_
    refine tk 8 ?_
    refine tk 9 ?_
    refine tk 10 ?_
    refine tk 11 ?_
    refine tk 12 ?_
    refine tk 13 ?_
    refine tu 14 ?_
    refine tu 15 ?_
    refine tu 16 ?_
    refine tu 17 ?_
    refine tk 18 ?_
    refine wpAnyH_done (by kernel_rfl) ?_ _
    try simp only [Act.put, pz0, pz1, pz2, pz3, pz4, pz5]
    have J0 := HK0.out.below hb2 HK0.out.lt
    have J3 := HK3.out.below hb2 HK3.out.lt
    have HBF := (HW.out.trans (hb2.mono HW.out.size))
    go_wp2_with (first
     | (refine wpList_load_row rfl 40 _ rfl w.heap.size rfl 40 #[lv, wv, .int .i64 x.steps, fv] (0, 0) _ J0 Tryz.underlying40 rfl (size_rdisk _ _ _ _) ?_)
     | (refine wpList_store_row rfl 40 _ _ rfl (w.heap.size + 3) #[lv, wv, .int .i64 x.steps, fv] rfl rfl 40 zeroD J3 (size_rdisk _ _ _ _) rfl (HONE.out _) ?_))
    have hbf := below_row HBF #[lv, wv, .int .i64 x.steps, fv] (g := w.heap.size + 3) (by omega)
    exact bodyPost_ret (results_row_tmp2 Tryz.results17 _ _ _ _ _ (by rfl) (load_rdisk (J3.row _)) (by rfl)) rfl ⟨wv, by rw [HRES.out]; rfl, by rw [HRES.out]; exact (HR.out.below hbf (Nat.le_refl _)).mono hbf.size, hbf, fun _ _ => .inl rfl⟩
  ·have HRES := Lib.hid (show rwriteR x N area f ys = (x, 2) by unfold rwriteR; rw [HAF.out, hfit, hneg]; rfl)
   refine wp_region_held_drew (S := (fun w' => w'.rangeAt w.heap.size 0 [lv, wv, .int .i64 x.steps, fv] ∧ w'.cell? ⟨w.heap.size + 1, 0, none⟩ = some (.int .i64 N) ∧ w'.rangeAt (w.heap.size + 2) 0 [.int .i64 f.ed, vo, vb, vs])) (by kernel_rfl) (by first | exact SK.out _ hb0 | ((try dsimp only); exact SK.out _ hb0)) (fun hHeld => ?_)
   generalize W.drew = X0 at *
   refine ty 0 rfl (yieldsIf_load_mid (by rfl) 40 _ rfl w.heap.size 0 rfl [lv, wv, .int .i64 x.steps, fv] _ (fun w' h => h.1) Tryz.underlying40 rfl (size_rdisk _ _ _ _)) ?_
   refine tk 2 ?_
   refine rd 1 fun K hK => ?_
   go_simp
   refine (HSZ.out X0 ((HR.out.below (HW.out.trans (hb0.mono HW.out.size)) (Nat.le_refl _)).mono ((HW.out.trans (hb0.mono HW.out.size))).size)).mono ?_; rintro e X1 ⟨rfl, hb1'⟩
   have hb1 := hb0.trans (hb1'.mono hb0.size)
   go_wp2_with fail
   refine hK.out _ _ (by first | exact SK.out _ hb1 | ((try dsimp only); exact SK.out _ hb1)) (fun hHeld => ?_)
   clear hK K
   try simp only [Act.put, pz0, pz1, pz2, pz3, pz4, pz5]
   refine rd 3 fun K hK => ?_
   go_simp
   refine (rfits_any x.size N X1).mono ?_; rintro e X2 ⟨rfl, hb2'⟩
   have hb2 := hb1.trans (hb2'.mono hb1.size)
   rw [FITS]
   go_wp2_with fail
   refine hK.out _ _ (by first | exact SK.out _ hb2 | ((try dsimp only); exact SK.out _ hb2)) (fun hHeld => ?_)
   clear hK K
   try simp only [Act.put, pz0, pz1, pz2, pz3, pz4, pz5]
   refine tk 4 ?_
   refine tk 5 ?_
   refine tk 6 ?_
   refine tk 7 ?_
   refine tk 8 ?_
   refine tk 9 ?_
   refine tu 10 ?_
   refine tu 11 ?_
   refine tk 12 ?_
   refine tk 13 ?_
   refine tu 14 ?_
   refine tu 15 ?_
   refine tu 16 ?_
   refine tu 17 ?_
   refine tk 18 ?_
   refine wpAnyH_done (by kernel_rfl) ?_ _
   try simp only [Act.put, pz0, pz1, pz2, pz3, pz4, pz5]
   have J0 := HK0.out.below hb2 HK0.out.lt
   have J3 := HK3.out.below hb2 HK3.out.lt
   have HBF := (HW.out.trans (hb2.mono HW.out.size))
   go_wp2_with (first
    | (refine wpList_load_row rfl 40 _ rfl w.heap.size rfl 40 #[lv, wv, .int .i64 x.steps, fv] (0, 0) _ J0 Tryz.underlying40 rfl (size_rdisk _ _ _ _) ?_)
    | (refine wpList_store_row rfl 40 _ _ rfl (w.heap.size + 3) #[lv, wv, .int .i64 x.steps, fv] rfl rfl 40 zeroD J3 (size_rdisk _ _ _ _) rfl (HONE.out _) ?_))
   have hbf := below_row HBF #[lv, wv, .int .i64 x.steps, fv] (g := w.heap.size + 3) (by omega)
   exact bodyPost_ret (results_row_tmp2 Tryz.results17 _ _ _ _ _ (by rfl) (load_rdisk (J3.row _)) (by rfl)) rfl ⟨wv, by rw [HRES.out]; rfl, by rw [HRES.out]; exact (HR.out.below hbf (Nat.le_refl _)).mono hbf.size, hbf, fun _ _ => .inl rfl⟩
end Go.Proofs.YtdpniceapmikpaaGreat
