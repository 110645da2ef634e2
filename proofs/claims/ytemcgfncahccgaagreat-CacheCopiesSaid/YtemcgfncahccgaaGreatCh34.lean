/-
  An Act: Get.
  Acts: Put, Settle, Move. (Written by gen_cact3.py.)
-/
import Derived.Test.YtemcgfncahccgaaGreatCh33
set_option linter.unusedVariables false
set_option linter.unusedSimpArgs false
namespace Go.Proofs.YtemcgfncahccgaaGreat
open Go.RowKit Go.Shelf

theorem CNew.mono {B T B' T' : Nat} {cv cv' : Value} (h : CNew B T cv cv') (hB : B' ≤ B) (hT : T ≤ T') : CNew B' T' cv cv' := fun g hg => (h g hg).imp id fun h => ⟨by omega, by omega⟩
theorem PStep.first {D : DiskP} {C C' : CacheP} {w W w1 : World} (hb : Below w.heap.size w W) (h : PStep D C C' W w1) : PStep D C C' w w1 :=
 ⟨(outB hb : Out (fun i => D.has i ∨ C.own i) w W).trans h.out (fun _ _ h => h), h.same, fun i hi => (h.new_ i hi).imp id fun h => by have := hb.size; omega⟩
theorem PStep.below {D : DiskP} {C C' : CacheP} {w w1 w2 : World} (h : PStep D C C' w w1) (hb : Below w1.heap.size w1 w2) : PStep D C C' w w2 :=
 ⟨h.out.trans (G := fun _ => False) (outB hb) (fun _ _ h => h.elim), h.same, h.new_⟩
theorem PStep.out_ {D : DiskP} {C C' : CacheP} {w w1 w2 : World} {F : Nat → Prop} (h : PStep D C C' w w1) (ho : Out F w1 w2) (hF : ∀ i, F i → w.heap.size ≤ i) : PStep D C C' w w2 :=
 ⟨h.out.trans ho (fun i hi h => by have := hF i h; omega), h.same, h.new_⟩
theorem Both.out {w w' : World} {D : DiskP} {C : CacheP} {cv : Value} {x : CacheD} {F : Nat → Prop} (h : Both w D C cv x) (ho : Out F w w') (hF : ∀ i, F i → ¬ D.has i ∧ ¬ C.has i ∧ ¬ i ∈ footV cv) : Both w' D C cv x :=
 ⟨h.disk.out ho (fun i hi hf => (hF i hf).1 hi), h.cache.out ho (fun i hi hf => (hF i hf).2.1 hi), h.dp, h.ref.outO ho (fun g hg hf => (hF g hf).2.2 hg), h.sep, fun g hg => ⟨Nat.lt_of_lt_of_le (h.far g hg).1 ho.size, (h.far g hg).2⟩⟩
theorem RCacheIn.agg {W : World} {B : Nat} {cv : Value} {x : CacheD} (h : RCacheIn W B cv x) : ∃ XV : Array Value, cv = .agg XV ∧ XV.size = 7 ∧ XV.all (·.oneCell') = true ∧ XV[2]? = some (.int .i64 x.disk.steps) := by
 obtain ⟨lv, wv, fv, pv, hv, rfl, h1, h2, h3⟩ := h
 exact ⟨_, rfl, rfl, rc_one (A := undef) h1.ones h2.one h3.one, rfl⟩
theorem info_cache {XV : Array Value} (h : XV.size = 7) : (Tryz.prog.info? 61).map (·.size) = some XV.size := by rw [h]; kernel_rfl
theorem load_cacheV {W : World} {g : Nat} {XV : Array Value} (hs : XV.size = 7) (h : Blk W g 61 XV) : (loadVar 61 ⟨g, 0, none⟩).run Tryz.prog W = .ok (.agg XV) W :=
 run_loadVar_row W g 61 61 XV (0, 0) _ h Tryz.underlying61 rfl (info_cache hs)
set_option maxRecDepth 100000 in
set_option maxHeartbeats 4000000 in
theorem act_get {w : World} {D : DiskP} {C : CacheP} {cv : Value} {x : CacheD} {k : Int} (H : Both w D C cv x) (O : COk x k) (hk : k ≤ 1000) (a : ActD) (ha : a.ok) (h0 : a.what = 0) :
  Calls Tryz.prog 30 #[ptr D.p, ptr C.g, cv, .agg a.cells.toArray] w (ActPost D C cv (x.get_ a.oid) w) := by
 obtain ⟨XV, rfl, s7, one7, st7⟩ := H.ref.agg
 have HI7 := Lib.hid (info_cache s7)
 obtain ⟨ac, eac⟩ : ∃ ac, ac = a.cells.toArray := ⟨_, rfl⟩
 have HAI := Lib.hid (act_info ha)
 have a0 : ac[0]? = some (.int .i64 0) := by rw [eac, ← h0]; rfl
 have a1 : ac[1]? = some (.int .i64 a.oid) := by rw [eac]; rfl
 rw [← eac] at HAI ⊢
 obtain ⟨W, eW⟩ : ∃ W, W = ((w.alloc (.cells XV 61)).alloc (.cells ac 49)).alloc (.cells zeroC 61) := ⟨_, rfl⟩
 have hbW : Below w.heap.size w W := by rw [eW]; exact (((Below.refl _ w).alloc (Nat.le_refl _) _).alloc (by simp) _).alloc (by simp; omega) _
 have k0 : Blk W w.heap.size 61 XV := by rw [eW]; exact ((Blk.new w _ _).alloc _).alloc _
 have k1 : Blk W (w.heap.size + 1) 49 ac := by rw [eW]; exact (Blk.new2 w _ _ _).alloc _
 have k2 : Blk W (w.heap.size + 2) 61 zeroC := by rw [eW]; exact Blk.new' (by simp)
 have HP := Lib.hid (pget (H.below hbW) O a.oid)
 have HB := Lib.hid hbW
 have HBo := Lib.hid H
 have hfar : ∀ i, w.heap.size ≤ i → ¬ (D.has i ∨ C.own i) := fun i hi h => by
  rcases h with h | h
  ·have := H.disk.has_lt i h; omega
  ·have := H.cache.has_lt i (.inl h); omega
 have HFAR := Lib.hid hfar
 obtain ⟨oc, eoc⟩ : ∃ oc, oc = (x.getO_ a.oid).cells.toArray := ⟨_, rfl⟩
 have hook : (x.getO_ a.oid).ok := by
  unfold CacheD.getO_
  split
  ·split
   ·next it hi =>
    obtain ⟨_, _, _, _, _, _, _, _, h3⟩ := H.ref
    exact h3.2.1 it (itemOf_some hi).1
   ·split
    ·exact getO_ok _ (read_len O.disk _) _
    ·exact objZ_ok
  ·exact objZ_ok
 have HOE := Lib.hid (fun X => obj_equalIn 9996 _ _ hook hook X)
 rw [show objEq (x.getO_ a.oid) (x.getO_ a.oid) = true from (objEq_iff _ _).2 rfl] at HOE
 have HOI := Lib.hid (obj_info _ hook)
 have HOS := Lib.hid (obj_size0 _ hook)
 have HO1 := Lib.hid (obj_ones (x.getO_ a.oid))
 have HRG := Lib.hid (fun X (hX : RCacheIn X X.heap.size (.agg XV) x) => rget17_any (.agg XV) x a.oid X hX O.fits O.disk)
 have HOK2 := Lib.hid (O.get hk a.oid)
 rw [← eoc] at HP HOE HOI HOS HO1 HRG
 obtain ⟨ge, ege⟩ : ∃ ge, ge = x.getE_ a.oid := ⟨_, rfl⟩
 rw [← ege] at HP HRG
 obtain ⟨x2, ex2⟩ : ∃ x2, x2 = x.get_ a.oid := ⟨_, rfl⟩
 rw [← ex2] at HP HRG HOK2 ⊢
 have c0 := k1.cell_is 0 a0
 unfold ptr at *
 clear H O hk ha h0 eac hbW hfar hook eoc ege ex2 a0
 go_enter Tryz.func30, Tryz.ntmps30
 go_upto_region 1 with fail
 rw [← eW]
 clear eW
 have c1 := k1.cell_is 1 a1
 go_upto_region 3 with fail
 go_wp2_with fail
 refine HP.out.mono ?_; rintro e w1 ⟨rfl, hd1, C1, hc1, hs1⟩
 have P1 := Lib.hid (And.intro hd1 (And.intro hc1 hs1))
 have q0 := hs1.out.blk k0 (HFAR.out _ (Nat.le_refl _))
 have q1 := hs1.out.blk k1 (HFAR.out _ (by omega))
 have q2 := hs1.out.blk k2 (HFAR.out _ (by omega))
 have hsW := hs1.out.size
 have hkW := k2.lt
 have hr1 := (HBo.out.below HB.out).ref.outO hs1.out (fun g hg h => by rcases h with h | h; exact (HBo.out.far g hg).2.2 h; exact (HBo.out.far g hg).2.1 h)
 have HR1 := Lib.hid hr1
 clear hd1 hc1 hs1 hr1 HP c0 c1 k0 k1 k2
 have hzo := Blk.new w1 47 Tryz.zeroCells47
 rw [zeroObj] at hzo
 go_upto_region 4 with (first
  | (refine wpList_store_row rfl 47 _ _ rfl w1.heap.size oc rfl rfl 47 _ hzo HOI.out HOS.out HO1.out ?_; rw [World.setRow_alloc_new])
  | fail)
 obtain ⟨w2, e2⟩ : ∃ w2, w2 = w1.alloc (.cells oc 47) := ⟨_, rfl⟩
 have hb2 : Below w1.heap.size w1 w2 := by rw [e2]; exact (Below.refl _ _).alloc (Nat.le_refl _) _
 have hs12 := hb2.size
 have t10 : Blk w2 w1.heap.size 47 oc := by rw [e2]; exact Blk.new _ _ _
 rw [← e2]
 clear e2 hzo
 have HR2 := Lib.hid (HR1.out.up hb2)
 have r0 := q0.below hb2 q0.lt
 have r1 := q1.below hb2 q1.lt
 have r2 := q2.below hb2 q2.lt
 have c1 := r1.cell_is 1 a1
 clear q0 q1 q2 HR1
 go_wp2_with (refine wpList_load_row rfl 61 _ rfl w.heap.size rfl 61 XV (0, 0) _ r0 Tryz.underlying61 rfl HI7.out ?_)
 refine (HRG.out w2 HR2.out).mono ?_; rintro e w3 ⟨cv', rfl, hr3, hb3, hn3⟩
 obtain ⟨XV2, rfl, s72, one72, st72⟩ := hr3.agg
 have z7 : zeroC.size = XV2.size := s72.symm
 have HI72 := Lib.hid (info_cache s72)
 have HS72 := Lib.hid s72
 have HONE := Lib.hid one72
 have HZ7 := Lib.hid z7
 have HST := Lib.hid st72
 have HR3 := Lib.hid (And.intro hr3 (And.intro hb3 hn3))
 have u2 := r2.below hb3 r2.lt
 have u10 := t10.below hb3 t10.lt
 have hs23 := hb3.size
 have l10 : w.heap.size + 2 < w1.heap.size := by omega
 clear s72 one72 st72 z7 hr3 hb3 hn3 r0 r1 r2 t10 c1 HRG HR2
 have hzc := (Blk.new w3 61 zeroC).alloc (.cells Tryz.zeroCells47 47)
 have hzo := blk_row_far (Blk.new2 w3 (.cells zeroC 61) 47 Tryz.zeroCells47) XV2 (g' := w3.heap.size) (by omega)
 rw [zeroObj] at hzo
 go_upto_region 5 with (first
  | (refine wpList_store_row rfl 61 _ _ rfl w3.heap.size XV2 rfl rfl 61 _ hzc HI72.out HZ7.out HONE.out ?_)
  | (refine wpList_store_row rfl 47 _ _ rfl (w3.heap.size + 1) oc rfl rfl 47 _ hzo HOI.out HOS.out HO1.out ?_))
 obtain ⟨Z, eZ⟩ : ∃ Z, Z = (((w3.alloc (.cells zeroC 61)).alloc (.cells Tryz.zeroCells47 47)).setRow w3.heap.size XV2).setRow (w3.heap.size + 1) oc := ⟨_, rfl⟩
 have hbZ : Below w3.heap.size w3 Z := by rw [eZ]; exact below_row (below_row (((Below.refl _ w3).alloc (Nat.le_refl _) _).alloc (by simp) _) _ (Nat.le_refl _)) _ (by omega)
 have t12 : Blk Z w3.heap.size 61 XV2 := by rw [eZ]; exact blk_row_far (hzc.row XV2) oc (g' := w3.heap.size + 1) (by omega)
 have t13 : Blk Z (w3.heap.size + 1) 47 oc := by rw [eZ, zeroObj]; exact hzo.row oc
 rw [← eZ]
 clear eZ hzc hzo
 have t10 := u10.below hbZ u10.lt
 have t8 := u2.below hbZ u2.lt
 have hs3Z := hbZ.size
 clear u10 u2
 obtain ⟨hd1, hc1, hs1⟩ := P1.out
 obtain ⟨hr3, hb3, hn3⟩ := HR3.out
 have hb13 : Below w1.heap.size w1 w3 := hb2.trans (hb3.mono hb2.size)
 obtain ⟨hBo, hPs⟩ := HBo.out.pr hd1 hc1 (PStep.first HB.out hs1) hb13 hr3 (CNew.mono hn3 hb2.size (Nat.le_refl _))
 have HBZ := Lib.hid (hBo.below hbZ)
 have HPS := Lib.hid (hPs.below hbZ)
 have hbw1 := (PStep.first HB.out hs1).out.size
 have HCN := Lib.hid (hn3.mono (show w.heap.size ≤ w2.heap.size by omega) hs3Z)
 have HDK := Lib.hid (fun X (hX : Out (fun i => i = w.heap.size + 2) Z X) => dsteps17_any D x2.disk X (HBZ.out.disk.out hX (fun i hi e => by have h9 := HBo.out.disk.has_lt i hi; omega)) HOK2.out.disk)
 unfold ptr at HDK
 have HN1 := Lib.hid hs1.new_
 have HN3 := Lib.hid hn3
 clear hd1 hc1 hs1 hr3 hb3 hn3 hBo hPs P1 HR3 hb2 hb13 hbZ
 have n12 : w3.heap.size ≠ w.heap.size + 2 := by omega
 have n10 : w1.heap.size ≠ w.heap.size + 2 := by omega
 have n13 : w3.heap.size + 1 ≠ w.heap.size + 2 := by omega
 have hST := HST.out
 refine jb (fun X => Out (fun i => i = w.heap.size + 2) Z X) (fun _ => True) 100 (outB (Below.refl _ _).drew) trivial fun hHeld hJ => ?_
 refine jy false 0 rfl (yieldsIf_load_mid (by rfl) 61 _ rfl w3.heap.size 0 rfl XV2.toList _ (fun w' h => blk_range (h.1.blk t12 n12)) Tryz.underlying61 rfl (by simpa using HI72.out)) ?_
 refine jy false 1 rfl (yieldsIf_load_mid (by rfl) 47 _ rfl w1.heap.size 0 rfl oc.toList _ (fun w' h => blk_range (h.1.blk t10 n10)) Tryz.underlying47 rfl (by simpa using HOI.out)) ?_
 refine jy false 2 rfl (yieldsIf_load_mid (by rfl) 47 _ rfl (w3.heap.size + 1) 0 rfl oc.toList _ (fun w' h => blk_range (h.1.blk t13 n13)) Tryz.underlying47 rfl (by simpa using HOI.out)) ?_
 refine jy false 3 rfl (yieldsIf_eql_agg (by rfl) 47 _ _ _ rfl oc oc rfl rfl (by kernel_rfl) true (fun X _ => HOE.out X)) ?_
 refine jk false 4 ?_
 refine jk false 5 ?_
 refine jk false 7 ?_
 refine jr 6 fun K hK => ?_
 go_simp
 refine (num17_any _ _).mono ?_; rintro r X1 ⟨rfl, rfl⟩
 dsimp only
 refine hK.out _ _ ⟨hHeld, fun _ => trivial⟩ ?_
 clear hK K
 refine jk false 8 ?_
 refine jk false 9 ?_
 refine jk false 10 ?_
 refine jk false 11 ?_
 refine jk false 13 ?_
 refine jk false 14 ?_
 refine jk false 15 ?_ (hy := by intro X hX _; have hc := (hX.blk t12 n12).cell_is 2 hST; go_simp; try with_reducible rfl)
 refine jr 12 fun K hK => ?_
 go_simp
 refine (HDK.out _ hHeld).mono ?_; rintro r X2 ⟨rfl, rfl⟩
 dsimp only
 refine hK.out _ _ ⟨hHeld, fun _ => trivial⟩ ?_
 clear hK K
 refine jk false 16 ?_
 refine jk false 17 ?_
 refine jr 18 fun K hK => ?_
 rw [if_pos (show Region.wanted _ _ = true from rfl)]
 refine wp_store_row 61 _ _ rfl (w.heap.size + 2) XV2 rfl rfl 61 _ t8.drew HI72.out HZ7.out HONE.out ?_
 have ho8 : Out (fun i => i = w.heap.size + 2) Z (Z.drew.setRow (w.heap.size + 2) XV2) := hHeld.trans (out_row (F := fun i => i = w.heap.size + 2) _ rfl) (fun _ _ h => h)
 have t9 := t8.drew.row XV2
 refine hK.out _ _ ⟨ho8, fun _ => trivial⟩ ?_
 clear hK K hHeld
 have hHeld := ho8
 refine jk false 19 ?_
 refine wpAnyJ_done (by kernel_rfl) ?_ _
 go_wp2_with fail
 refine bodyPost_ret (results_row_tmp2 Tryz.results30 _ _ _ _ _ rfl (load_cacheV HS72.out t9) rfl) rfl ⟨.agg XV2, C1, rfl, HBZ.out.out ho8 (fun i hi => ?_), HPS.out.out_ ho8 (fun i hi => by omega), HCN.out.mono (Nat.le_refl _) ho8.size⟩
 subst hi
 refine ⟨fun h => ?_, fun h => ?_, fun h => ?_⟩
 ·have := HBo.out.disk.has_lt _ h; omega
 ·rcases HN1.out _ h with h | h
  ·have := HBo.out.cache.has_lt _ h; omega
  ·omega
 ·rcases HN3.out _ h with h | h
  ·have := (HBo.out.far _ h).1; omega
  ·omega
end Go.Proofs.YtemcgfncahccgaaGreat
namespace Go.Proofs.YtemcgfncahccgaaGreat
open Go.RowKit Go.Shelf

set_option maxRecDepth 100000 in
set_option maxHeartbeats 4000000 in
theorem act_put {w : World} {D : DiskP} {C : CacheP} {cv : Value} {x : CacheD} {k : Int} (H : Both w D C cv x) (O : COk x k) (hk : k ≤ 1000) (a : ActD) (ha : a.ok) (h0 : a.what = 1) :
  Calls Tryz.prog 30 #[ptr D.p, ptr C.g, cv, .agg a.cells.toArray] w (ActPost D C cv (x.put a.oid a.o) w) := by
 obtain ⟨XV, rfl, s7, one7, st7⟩ := H.ref.agg
 have HI7 := Lib.hid (info_cache s7)
 obtain ⟨ac, eac⟩ : ∃ ac, ac = a.cells.toArray := ⟨_, rfl⟩
 have HAI := Lib.hid (act_info ha)
 have a0 : ac[0]? = some (.int .i64 1) := by rw [eac, ← h0]; rfl
 have a1 : ac[1]? = some (.int .i64 a.oid) := by rw [eac]; rfl
 have a2 : ac[2]? = some (.int .i64 a.at_) := by rw [eac]; rfl
 have ar : ∀ (X : World) (g : Nat), Blk X g 49 ac → X.rangeAt g 3 a.o.cells := fun X g h => by rw [eac] at h; exact act_range h
 have HOL := Lib.hid (show (Tryz.prog.info? 47).map (·.size) = some a.o.cells.length by rw [ObjD.len ha.o]; kernel_rfl)
 obtain ⟨oc, eoc⟩ : ∃ oc, oc = a.o.cells := ⟨_, rfl⟩
 rw [← eoc] at HOL
 simp only [← eoc] at ar
 rw [← eac] at HAI ⊢
 obtain ⟨W, eW⟩ : ∃ W, W = ((w.alloc (.cells XV 61)).alloc (.cells ac 49)).alloc (.cells zeroC 61) := ⟨_, rfl⟩
 have hbW : Below w.heap.size w W := by rw [eW]; exact (((Below.refl _ w).alloc (Nat.le_refl _) _).alloc (by simp) _).alloc (by simp; omega) _
 have k0 : Blk W w.heap.size 61 XV := by rw [eW]; exact ((Blk.new w _ _).alloc _).alloc _
 have k1 : Blk W (w.heap.size + 1) 49 ac := by rw [eW]; exact (Blk.new2 w _ _ _).alloc _
 have k2 : Blk W (w.heap.size + 2) 61 zeroC := by rw [eW]; exact Blk.new' (by simp)
 have HB := Lib.hid hbW
 have HBo := Lib.hid H
 have hfar : ∀ i, w.heap.size ≤ i → ¬ (D.has i ∨ C.own i) := fun i hi h => by
  rcases h with h | h
  ·have := H.disk.has_lt i h; omega
  ·have := H.cache.has_lt i (.inl h); omega
 have HFAR := Lib.hid hfar
 have HP := Lib.hid (fun X (hX : Below w.heap.size w X) => pput (H.below hX) O a.oid a.o ha.o)
 have HRG := Lib.hid (rput_any (.agg XV) x a.oid a.o W (H.below hbW).ref O.fits ha.o ha.r)
 rw [← eoc] at HRG
 simp only [← eoc] at HP
 obtain ⟨ge, ege⟩ : ∃ ge, ge = x.putE a.oid a.o := ⟨_, rfl⟩
 obtain ⟨x2, ex2⟩ : ∃ x2, x2 = x.put a.oid a.o := ⟨_, rfl⟩
 rw [← ege, ← ex2] at HP HRG
 rw [← ex2]
 have c0 := k1.cell_is 0 a0
 unfold ptr at *
 clear H O hk h0 hbW hfar ege ex2 a0 s7 one7 st7 eac eoc ha
 go_enter Tryz.func30, Tryz.ntmps30
 go_upto_region 1 with fail
 rw [← eW]
 clear eW
 have c1 := k1.cell_is 1 a1
 have c2 := k1.cell_is 2 a2
 have hkW := k2.lt
 go_wp2_with (first
  | (refine wpList_load_row rfl 61 _ rfl w.heap.size rfl 61 XV (0, 0) _ k0 Tryz.underlying61 rfl HI7.out ?_)
  | (refine wpList_load_mid rfl 47 _ rfl (w.heap.size + 1) 3 rfl oc _ (ar W _ k1) Tryz.underlying47 rfl HOL.out ?_)
  | fail)
 refine (HRG.out).mono ?_; rintro e w1 ⟨cv', rfl, hr1, hb1, hn1⟩
 obtain ⟨XV2, rfl, s72, one72, st72⟩ := hr1.agg
 have z7 : zeroC.size = XV2.size := s72.symm
 have HI72 := Lib.hid (info_cache s72)
 have HS72 := Lib.hid s72
 have HONE := Lib.hid one72
 have HZ7 := Lib.hid z7
 have q1 := k1.below hb1 k1.lt
 have q2 := k2.below hb1 k2.lt
 have hs01 := hb1.size
 have hs0 := HB.out.size
 have HR1 := Lib.hid (And.intro hr1 (And.intro hb1 hn1))
 clear s72 one72 st72 z7 hr1 hb1 hn1 k0 k1 k2 HRG c0 c1 c2
 have hzc := Blk.new w1 61 zeroC
 go_upto_region 8 with (refine wpList_store_row rfl 61 _ _ rfl w1.heap.size XV2 rfl rfl 61 _ hzc HI72.out HZ7.out HONE.out ?_; rw [World.setRow_alloc_new])
 obtain ⟨Z, eZ⟩ : ∃ Z, Z = w1.alloc (.cells XV2 61) := ⟨_, rfl⟩
 have hbZ : Below w1.heap.size w1 Z := by rw [eZ]; exact (Below.refl _ w1).alloc (Nat.le_refl _) _
 have t15 : Blk Z w1.heap.size 61 XV2 := by rw [eZ]; exact Blk.new _ _ _
 rw [← eZ]
 clear eZ hzc
 have t7 := q1.below hbZ q1.lt
 have t8 := q2.below hbZ q2.lt
 have hs1Z := hbZ.size
 clear q1 q2
 obtain ⟨hr1, hb1, hn1⟩ := HR1.out
 have hb1Z : Below W.heap.size W Z := hb1.trans (hbZ.mono hs01)
 have hbwZ : Below w.heap.size w Z := HB.out.trans (hb1Z.mono hs0)
 have HBZ := Lib.hid hbwZ
 have HRZ := Lib.hid (And.intro (hr1.up hbZ) (hn1.mono hs0 hs1Z))
 have HN1 := Lib.hid hn1
 clear hr1 hb1 hn1 HR1 hb1Z hbwZ hbZ
 have n7 : ¬ (D.has (w.heap.size + 1) ∨ C.own (w.heap.size + 1) ∨ w.heap.size + 1 = w.heap.size + 2) := fun h => by
  rcases h with h | h | h
  ·exact HFAR.out _ (by omega) (.inl h)
  ·exact HFAR.out _ (by omega) (.inr h)
  ·omega
 have n15 : ¬ (D.has w1.heap.size ∨ C.own w1.heap.size ∨ w1.heap.size = w.heap.size + 2) := fun h => by
  rcases h with h | h | h
  ·exact HFAR.out _ (by omega) (.inl h)
  ·exact HFAR.out _ (by omega) (.inr h)
  ·omega
 refine jb (fun X => Out (fun i => D.has i ∨ C.own i ∨ i = w.heap.size + 2) Z X) (fun _ => True) 100 (outB (Below.refl _ _).drew) trivial fun hHeld hJ => ?_
 refine jy false 0 rfl (yieldsIf_load_mid (by rfl) 61 _ rfl w1.heap.size 0 rfl XV2.toList _ (fun w' h => blk_range (h.1.blk t15 n15)) Tryz.underlying61 rfl (by simpa using HI72.out)) ?_
 refine jk false 1 ?_
 refine jk false 2 ?_
 refine jk false 3 ?_ (hy := by intro X hX _; have hc := (hX.blk t7 n7).cell_is 1 a1; go_simp; try with_reducible rfl)
 refine jk false 4 ?_
 refine jy false 5 rfl (yieldsIf_load_mid (by rfl) 47 _ rfl (w.heap.size + 1) 3 rfl oc _ (fun w' h => ar _ _ (h.1.blk t7 n7)) Tryz.underlying47 rfl HOL.out) ?_
 refine jk false 8 ?_
 refine jr 6 fun K hK => ?_
 go_simp
 refine (HP.out Z.drew HBZ.out.drew).mono ?_; rintro r X2 ⟨rfl, hd2, C2, hc2, hs2⟩
 dsimp only
 have hoX : Out (fun i => D.has i ∨ C.own i ∨ i = w.heap.size + 2) Z X2 := hHeld.trans hs2.out (fun i _ h => by rcases h with h | h; exact .inl h; exact .inr (.inl h))
 obtain ⟨hBo2, hPs2⟩ := HBo.out.rp_ HBZ.out.drew (HRZ.out.1.up (Below.refl _ Z).drew) HRZ.out.2 hd2 hc2 hs2
 have t8X := hs2.out.blk t8.drew (fun h => HFAR.out _ (by omega) h)
 have HBX := Lib.hid hBo2
 have HPX := Lib.hid hPs2
 have HN2 := Lib.hid hs2.new_
 have hsX : Z.heap.size ≤ X2.heap.size := hs2.out.size
 clear hd2 hc2 hs2 hBo2 hPs2 HP
 refine hK.out _ _ ⟨hoX, fun _ => trivial⟩ ?_
 clear hK K hHeld
 have hHeld := hoX
 refine jr 7 fun K hK => ?_
 go_simp
 refine (num17_any _ _).mono ?_; rintro r X3 ⟨rfl, rfl⟩
 dsimp only
 refine hK.out _ _ ⟨hHeld, fun _ => trivial⟩ ?_
 clear hK K
 refine jk false 9 ?_
 refine jr 10 fun K hK => ?_
 rw [if_pos (show Region.wanted _ _ = true from rfl)]
 refine wp_store_row 61 _ _ rfl (w.heap.size + 2) XV2 rfl rfl 61 _ t8X HI72.out HZ7.out HONE.out ?_
 have ho8 : Out (fun i => i = w.heap.size + 2) X3 (X3.setRow (w.heap.size + 2) XV2) := out_row _ rfl
 have t9 := t8X.row XV2
 refine hK.out _ _ ⟨hHeld.trans ho8 (fun i _ h => .inr (.inr h)), fun _ => trivial⟩ ?_
 clear hK K
 have hHeld2 := hHeld.trans ho8 (fun i _ h => .inr (.inr h))
 clear hHeld
 have hHeld := hHeld2
 refine jk false 11 ?_
 refine wpAnyJ_done (by kernel_rfl) ?_ _
 go_wp2_with fail
 refine bodyPost_ret (results_row_tmp2 Tryz.results30 _ _ _ _ _ rfl (load_cacheV HS72.out t9) rfl) rfl ⟨.agg XV2, C2, rfl, HBX.out.out ho8 (fun i hi => ?_), HPX.out.out_ ho8 (fun i hi => by omega), HRZ.out.2.mono (Nat.le_refl _) (Nat.le_trans hsX ho8.size)⟩
 subst hi
 refine ⟨fun h => ?_, fun h => ?_, fun h => ?_⟩
 ·have := HBo.out.disk.has_lt _ h; omega
 ·rcases HN2.out _ h with h | h
  ·have := HBo.out.cache.has_lt _ h; omega
  ·have h9 : Z.heap.size ≤ w.heap.size + 2 := h
   omega
 ·rcases HN1.out _ h with h | h
  ·have := (HBo.out.far _ h).1; omega
  ·omega
set_option maxRecDepth 100000 in
set_option maxHeartbeats 4000000 in
theorem act_settle {w : World} {D : DiskP} {C : CacheP} {cv : Value} {x : CacheD} {k : Int} (H : Both w D C cv x) (O : COk x k) (hk : k ≤ 1000) (a : ActD) (ha : a.ok) (h0 : a.what = 3) :
  Calls Tryz.prog 30 #[ptr D.p, ptr C.g, cv, .agg a.cells.toArray] w (ActPost D C cv (x.settle a.oid a.at_) w) := by
 obtain ⟨XV, rfl, s7, one7, st7⟩ := H.ref.agg
 have HI7 := Lib.hid (info_cache s7)
 obtain ⟨ac, eac⟩ : ∃ ac, ac = a.cells.toArray := ⟨_, rfl⟩
 have HAI := Lib.hid (act_info ha)
 have a0 : ac[0]? = some (.int .i64 3) := by rw [eac, ← h0]; rfl
 have a1 : ac[1]? = some (.int .i64 a.oid) := by rw [eac]; rfl
 have a2 : ac[2]? = some (.int .i64 a.at_) := by rw [eac]; rfl
 rw [← eac] at HAI ⊢
 obtain ⟨W, eW⟩ : ∃ W, W = ((w.alloc (.cells XV 61)).alloc (.cells ac 49)).alloc (.cells zeroC 61) := ⟨_, rfl⟩
 have hbW : Below w.heap.size w W := by rw [eW]; exact (((Below.refl _ w).alloc (Nat.le_refl _) _).alloc (by simp) _).alloc (by simp; omega) _
 have k0 : Blk W w.heap.size 61 XV := by rw [eW]; exact ((Blk.new w _ _).alloc _).alloc _
 have k1 : Blk W (w.heap.size + 1) 49 ac := by rw [eW]; exact (Blk.new2 w _ _ _).alloc _
 have k2 : Blk W (w.heap.size + 2) 61 zeroC := by rw [eW]; exact Blk.new' (by simp)
 have HB := Lib.hid hbW
 have HBo := Lib.hid H
 have hfar : ∀ i, w.heap.size ≤ i → ¬ (D.has i ∨ C.own i) := fun i hi h => by
  rcases h with h | h
  ·have := H.disk.has_lt i h; omega
  ·have := H.cache.has_lt i (.inl h); omega
 have HFAR := Lib.hid hfar
 have HP := Lib.hid (fun X (hX : Below w.heap.size w X) => psettle (H.below hX) O a.oid a.at_)
 have HRG := Lib.hid (rsettle_any (.agg XV) x a.oid a.at_ W (H.below hbW).ref O.fits O.disk)
 obtain ⟨ge, ege⟩ : ∃ ge, ge = x.moveE a.oid a.at_ := ⟨_, rfl⟩
 obtain ⟨x2, ex2⟩ : ∃ x2, x2 = x.settle a.oid a.at_ := ⟨_, rfl⟩
 rw [← ege, ← ex2] at HP HRG
 rw [← ex2]
 have c0 := k1.cell_is 0 a0
 unfold ptr at *
 clear H O hk h0 hbW hfar ege ex2 a0 s7 one7 st7 eac ha
 go_enter Tryz.func30, Tryz.ntmps30
 go_upto_region 1 with fail
 rw [← eW]
 clear eW
 have c1 := k1.cell_is 1 a1
 have c2 := k1.cell_is 2 a2
 have hkW := k2.lt
 go_wp2_with (first
  | (refine wpList_load_row rfl 61 _ rfl w.heap.size rfl 61 XV (0, 0) _ k0 Tryz.underlying61 rfl HI7.out ?_)
  | fail)
 refine (HRG.out).mono ?_; rintro e w1 ⟨cv', rfl, hr1, hb1, hn1⟩
 obtain ⟨XV2, rfl, s72, one72, st72⟩ := hr1.agg
 have z7 : zeroC.size = XV2.size := s72.symm
 have HI72 := Lib.hid (info_cache s72)
 have HS72 := Lib.hid s72
 have HONE := Lib.hid one72
 have HZ7 := Lib.hid z7
 have q1 := k1.below hb1 k1.lt
 have q2 := k2.below hb1 k2.lt
 have hs01 := hb1.size
 have hs0 := HB.out.size
 have HR1 := Lib.hid (And.intro hr1 (And.intro hb1 hn1))
 clear s72 one72 st72 z7 hr1 hb1 hn1 k0 k1 k2 HRG c0 c1 c2
 have hzc := Blk.new w1 61 zeroC
 go_upto_region 15 with (refine wpList_store_row rfl 61 _ _ rfl w1.heap.size XV2 rfl rfl 61 _ hzc HI72.out HZ7.out HONE.out ?_; rw [World.setRow_alloc_new])
 obtain ⟨Z, eZ⟩ : ∃ Z, Z = w1.alloc (.cells XV2 61) := ⟨_, rfl⟩
 have hbZ : Below w1.heap.size w1 Z := by rw [eZ]; exact (Below.refl _ w1).alloc (Nat.le_refl _) _
 have t15 : Blk Z w1.heap.size 61 XV2 := by rw [eZ]; exact Blk.new _ _ _
 rw [← eZ]
 clear eZ hzc
 have t7 := q1.below hbZ q1.lt
 have t8 := q2.below hbZ q2.lt
 have hs1Z := hbZ.size
 clear q1 q2
 obtain ⟨hr1, hb1, hn1⟩ := HR1.out
 have hb1Z : Below W.heap.size W Z := hb1.trans (hbZ.mono hs01)
 have hbwZ : Below w.heap.size w Z := HB.out.trans (hb1Z.mono hs0)
 have HBZ := Lib.hid hbwZ
 have HRZ := Lib.hid (And.intro (hr1.up hbZ) (hn1.mono hs0 hs1Z))
 have HN1 := Lib.hid hn1
 clear hr1 hb1 hn1 HR1 hb1Z hbwZ hbZ
 have n7 : ¬ (D.has (w.heap.size + 1) ∨ C.own (w.heap.size + 1) ∨ w.heap.size + 1 = w.heap.size + 2) := fun h => by
  rcases h with h | h | h
  ·exact HFAR.out _ (by omega) (.inl h)
  ·exact HFAR.out _ (by omega) (.inr h)
  ·omega
 have n15 : ¬ (D.has w1.heap.size ∨ C.own w1.heap.size ∨ w1.heap.size = w.heap.size + 2) := fun h => by
  rcases h with h | h | h
  ·exact HFAR.out _ (by omega) (.inl h)
  ·exact HFAR.out _ (by omega) (.inr h)
  ·omega
 refine jb (fun X => Out (fun i => D.has i ∨ C.own i ∨ i = w.heap.size + 2) Z X) (fun _ => True) 100 (outB (Below.refl _ _).drew) trivial fun hHeld hJ => ?_
 refine jy false 0 rfl (yieldsIf_load_mid (by rfl) 61 _ rfl w1.heap.size 0 rfl XV2.toList _ (fun w' h => blk_range (h.1.blk t15 n15)) Tryz.underlying61 rfl (by simpa using HI72.out)) ?_
 refine jk false 1 ?_
 refine jk false 2 ?_
 refine jk false 3 ?_ (hy := by intro X hX _; have hc := (hX.blk t7 n7).cell_is 1 a1; go_simp; try with_reducible rfl)
 refine jk false 4 ?_
 refine jk false 5 ?_ (hy := by intro X hX _; have hc := (hX.blk t7 n7).cell_is 2 a2; go_simp; try with_reducible rfl)
 refine jk false 8 ?_
 refine jr 6 fun K hK => ?_
 go_simp
 refine (HP.out Z.drew HBZ.out.drew).mono ?_; rintro r X2 ⟨rfl, hd2, C2, hc2, hs2⟩
 dsimp only
 have hoX : Out (fun i => D.has i ∨ C.own i ∨ i = w.heap.size + 2) Z X2 := hHeld.trans hs2.out (fun i _ h => by rcases h with h | h; exact .inl h; exact .inr (.inl h))
 obtain ⟨hBo2, hPs2⟩ := HBo.out.rp_ HBZ.out.drew (HRZ.out.1.up (Below.refl _ Z).drew) HRZ.out.2 hd2 hc2 hs2
 have t8X := hs2.out.blk t8.drew (fun h => HFAR.out _ (by omega) h)
 have HBX := Lib.hid hBo2
 have HPX := Lib.hid hPs2
 have HN2 := Lib.hid hs2.new_
 have hsX : Z.heap.size ≤ X2.heap.size := hs2.out.size
 clear hd2 hc2 hs2 hBo2 hPs2 HP
 refine hK.out _ _ ⟨hoX, fun _ => trivial⟩ ?_
 clear hK K hHeld
 have hHeld := hoX
 refine jr 7 fun K hK => ?_
 go_simp
 refine (num17_any _ _).mono ?_; rintro r X3 ⟨rfl, rfl⟩
 dsimp only
 refine hK.out _ _ ⟨hHeld, fun _ => trivial⟩ ?_
 clear hK K
 refine jk false 9 ?_
 refine jr 10 fun K hK => ?_
 rw [if_pos (show Region.wanted _ _ = true from rfl)]
 refine wp_store_row 61 _ _ rfl (w.heap.size + 2) XV2 rfl rfl 61 _ t8X HI72.out HZ7.out HONE.out ?_
 have ho8 : Out (fun i => i = w.heap.size + 2) X3 (X3.setRow (w.heap.size + 2) XV2) := out_row _ rfl
 have t9 := t8X.row XV2
 refine hK.out _ _ ⟨hHeld.trans ho8 (fun i _ h => .inr (.inr h)), fun _ => trivial⟩ ?_
 clear hK K
 have hHeld2 := hHeld.trans ho8 (fun i _ h => .inr (.inr h))
 clear hHeld
 have hHeld := hHeld2
 refine jk false 11 ?_
 refine wpAnyJ_done (by kernel_rfl) ?_ _
 go_wp2_with fail
 refine bodyPost_ret (results_row_tmp2 Tryz.results30 _ _ _ _ _ rfl (load_cacheV HS72.out t9) rfl) rfl ⟨.agg XV2, C2, rfl, HBX.out.out ho8 (fun i hi => ?_), HPX.out.out_ ho8 (fun i hi => by omega), HRZ.out.2.mono (Nat.le_refl _) (Nat.le_trans hsX ho8.size)⟩
 subst hi
 refine ⟨fun h => ?_, fun h => ?_, fun h => ?_⟩
 ·have := HBo.out.disk.has_lt _ h; omega
 ·rcases HN2.out _ h with h | h
  ·have := HBo.out.cache.has_lt _ h; omega
  ·have h9 : Z.heap.size ≤ w.heap.size + 2 := h
   omega
 ·rcases HN1.out _ h with h | h
  ·have := (HBo.out.far _ h).1; omega
  ·omega
set_option maxRecDepth 100000 in
set_option maxHeartbeats 4000000 in
theorem act_move {w : World} {D : DiskP} {C : CacheP} {cv : Value} {x : CacheD} {k : Int} (H : Both w D C cv x) (O : COk x k) (hk : k ≤ 1000) (a : ActD) (ha : a.ok) (h0 : a.what = 4) :
  Calls Tryz.prog 30 #[ptr D.p, ptr C.g, cv, .agg a.cells.toArray] w (ActPost D C cv (x.move a.oid a.at_) w) := by
 obtain ⟨XV, rfl, s7, one7, st7⟩ := H.ref.agg
 have HI7 := Lib.hid (info_cache s7)
 obtain ⟨ac, eac⟩ : ∃ ac, ac = a.cells.toArray := ⟨_, rfl⟩
 have HAI := Lib.hid (act_info ha)
 have a0 : ac[0]? = some (.int .i64 4) := by rw [eac, ← h0]; rfl
 have a1 : ac[1]? = some (.int .i64 a.oid) := by rw [eac]; rfl
 have a2 : ac[2]? = some (.int .i64 a.at_) := by rw [eac]; rfl
 rw [← eac] at HAI ⊢
 obtain ⟨W, eW⟩ : ∃ W, W = ((w.alloc (.cells XV 61)).alloc (.cells ac 49)).alloc (.cells zeroC 61) := ⟨_, rfl⟩
 have hbW : Below w.heap.size w W := by rw [eW]; exact (((Below.refl _ w).alloc (Nat.le_refl _) _).alloc (by simp) _).alloc (by simp; omega) _
 have k0 : Blk W w.heap.size 61 XV := by rw [eW]; exact ((Blk.new w _ _).alloc _).alloc _
 have k1 : Blk W (w.heap.size + 1) 49 ac := by rw [eW]; exact (Blk.new2 w _ _ _).alloc _
 have k2 : Blk W (w.heap.size + 2) 61 zeroC := by rw [eW]; exact Blk.new' (by simp)
 have HB := Lib.hid hbW
 have HBo := Lib.hid H
 have hfar : ∀ i, w.heap.size ≤ i → ¬ (D.has i ∨ C.own i) := fun i hi h => by
  rcases h with h | h
  ·have := H.disk.has_lt i h; omega
  ·have := H.cache.has_lt i (.inl h); omega
 have HFAR := Lib.hid hfar
 have HP := Lib.hid (fun X (hX : Below w.heap.size w X) => pmove (H.below hX) O a.oid a.at_)
 have HRG := Lib.hid (rmove_any (.agg XV) x a.oid a.at_ W (H.below hbW).ref O.fits O.disk)
 obtain ⟨ge, ege⟩ : ∃ ge, ge = x.moveE a.oid a.at_ := ⟨_, rfl⟩
 obtain ⟨x2, ex2⟩ : ∃ x2, x2 = x.move a.oid a.at_ := ⟨_, rfl⟩
 rw [← ege, ← ex2] at HP HRG
 rw [← ex2]
 have c0 := k1.cell_is 0 a0
 unfold ptr at *
 clear H O hk h0 hbW hfar ege ex2 a0 s7 one7 st7 eac ha
 go_enter Tryz.func30, Tryz.ntmps30
 go_upto_region 1 with fail
 rw [← eW]
 clear eW
 have c1 := k1.cell_is 1 a1
 have c2 := k1.cell_is 2 a2
 have hkW := k2.lt
 go_wp2_with (first
  | (refine wpList_load_row rfl 61 _ rfl w.heap.size rfl 61 XV (0, 0) _ k0 Tryz.underlying61 rfl HI7.out ?_)
  | fail)
 refine (HRG.out).mono ?_; rintro e w1 ⟨cv', rfl, hr1, hb1, hn1⟩
 obtain ⟨XV2, rfl, s72, one72, st72⟩ := hr1.agg
 have z7 : zeroC.size = XV2.size := s72.symm
 have HI72 := Lib.hid (info_cache s72)
 have HS72 := Lib.hid s72
 have HONE := Lib.hid one72
 have HZ7 := Lib.hid z7
 have q1 := k1.below hb1 k1.lt
 have q2 := k2.below hb1 k2.lt
 have hs01 := hb1.size
 have hs0 := HB.out.size
 have HR1 := Lib.hid (And.intro hr1 (And.intro hb1 hn1))
 clear s72 one72 st72 z7 hr1 hb1 hn1 k0 k1 k2 HRG c0 c1 c2
 have hzc := Blk.new w1 61 zeroC
 go_upto_region 18 with (refine wpList_store_row rfl 61 _ _ rfl w1.heap.size XV2 rfl rfl 61 _ hzc HI72.out HZ7.out HONE.out ?_; rw [World.setRow_alloc_new])
 obtain ⟨Z, eZ⟩ : ∃ Z, Z = w1.alloc (.cells XV2 61) := ⟨_, rfl⟩
 have hbZ : Below w1.heap.size w1 Z := by rw [eZ]; exact (Below.refl _ w1).alloc (Nat.le_refl _) _
 have t15 : Blk Z w1.heap.size 61 XV2 := by rw [eZ]; exact Blk.new _ _ _
 rw [← eZ]
 clear eZ hzc
 have t7 := q1.below hbZ q1.lt
 have t8 := q2.below hbZ q2.lt
 have hs1Z := hbZ.size
 clear q1 q2
 obtain ⟨hr1, hb1, hn1⟩ := HR1.out
 have hb1Z : Below W.heap.size W Z := hb1.trans (hbZ.mono hs01)
 have hbwZ : Below w.heap.size w Z := HB.out.trans (hb1Z.mono hs0)
 have HBZ := Lib.hid hbwZ
 have HRZ := Lib.hid (And.intro (hr1.up hbZ) (hn1.mono hs0 hs1Z))
 have HN1 := Lib.hid hn1
 clear hr1 hb1 hn1 HR1 hb1Z hbwZ hbZ
 have n7 : ¬ (D.has (w.heap.size + 1) ∨ C.own (w.heap.size + 1) ∨ w.heap.size + 1 = w.heap.size + 2) := fun h => by
  rcases h with h | h | h
  ·exact HFAR.out _ (by omega) (.inl h)
  ·exact HFAR.out _ (by omega) (.inr h)
  ·omega
 have n15 : ¬ (D.has w1.heap.size ∨ C.own w1.heap.size ∨ w1.heap.size = w.heap.size + 2) := fun h => by
  rcases h with h | h | h
  ·exact HFAR.out _ (by omega) (.inl h)
  ·exact HFAR.out _ (by omega) (.inr h)
  ·omega
 refine jb (fun X => Out (fun i => D.has i ∨ C.own i ∨ i = w.heap.size + 2) Z X) (fun _ => True) 100 (outB (Below.refl _ _).drew) trivial fun hHeld hJ => ?_
 refine jy false 0 rfl (yieldsIf_load_mid (by rfl) 61 _ rfl w1.heap.size 0 rfl XV2.toList _ (fun w' h => blk_range (h.1.blk t15 n15)) Tryz.underlying61 rfl (by simpa using HI72.out)) ?_
 refine jk false 1 ?_
 refine jk false 2 ?_
 refine jk false 3 ?_ (hy := by intro X hX _; have hc := (hX.blk t7 n7).cell_is 1 a1; go_simp; try with_reducible rfl)
 refine jk false 4 ?_
 refine jk false 5 ?_ (hy := by intro X hX _; have hc := (hX.blk t7 n7).cell_is 2 a2; go_simp; try with_reducible rfl)
 refine jk false 8 ?_
 refine jr 6 fun K hK => ?_
 go_simp
 refine (HP.out Z.drew HBZ.out.drew).mono ?_; rintro r X2 ⟨rfl, hd2, C2, hc2, hs2⟩
 dsimp only
 have hoX : Out (fun i => D.has i ∨ C.own i ∨ i = w.heap.size + 2) Z X2 := hHeld.trans hs2.out (fun i _ h => by rcases h with h | h; exact .inl h; exact .inr (.inl h))
 obtain ⟨hBo2, hPs2⟩ := HBo.out.rp_ HBZ.out.drew (HRZ.out.1.up (Below.refl _ Z).drew) HRZ.out.2 hd2 hc2 hs2
 have t8X := hs2.out.blk t8.drew (fun h => HFAR.out _ (by omega) h)
 have HBX := Lib.hid hBo2
 have HPX := Lib.hid hPs2
 have HN2 := Lib.hid hs2.new_
 have hsX : Z.heap.size ≤ X2.heap.size := hs2.out.size
 clear hd2 hc2 hs2 hBo2 hPs2 HP
 refine hK.out _ _ ⟨hoX, fun _ => trivial⟩ ?_
 clear hK K hHeld
 have hHeld := hoX
 refine jr 7 fun K hK => ?_
 go_simp
 refine (num17_any _ _).mono ?_; rintro r X3 ⟨rfl, rfl⟩
 dsimp only
 refine hK.out _ _ ⟨hHeld, fun _ => trivial⟩ ?_
 clear hK K
 refine jk false 9 ?_
 refine jr 10 fun K hK => ?_
 rw [if_pos (show Region.wanted _ _ = true from rfl)]
 refine wp_store_row 61 _ _ rfl (w.heap.size + 2) XV2 rfl rfl 61 _ t8X HI72.out HZ7.out HONE.out ?_
 have ho8 : Out (fun i => i = w.heap.size + 2) X3 (X3.setRow (w.heap.size + 2) XV2) := out_row _ rfl
 have t9 := t8X.row XV2
 refine hK.out _ _ ⟨hHeld.trans ho8 (fun i _ h => .inr (.inr h)), fun _ => trivial⟩ ?_
 clear hK K
 have hHeld2 := hHeld.trans ho8 (fun i _ h => .inr (.inr h))
 clear hHeld
 have hHeld := hHeld2
 refine jk false 11 ?_
 refine wpAnyJ_done (by kernel_rfl) ?_ _
 go_wp2_with fail
 refine bodyPost_ret (results_row_tmp2 Tryz.results30 _ _ _ _ _ rfl (load_cacheV HS72.out t9) rfl) rfl ⟨.agg XV2, C2, rfl, HBX.out.out ho8 (fun i hi => ?_), HPX.out.out_ ho8 (fun i hi => by omega), HRZ.out.2.mono (Nat.le_refl _) (Nat.le_trans hsX ho8.size)⟩
 subst hi
 refine ⟨fun h => ?_, fun h => ?_, fun h => ?_⟩
 ·have := HBo.out.disk.has_lt _ h; omega
 ·rcases HN2.out _ h with h | h
  ·have := HBo.out.cache.has_lt _ h; omega
  ·have h9 : Z.heap.size ≤ w.heap.size + 2 := h
   omega
 ·rcases HN1.out _ h with h | h
  ·have := (HBo.out.far _ h).1; omega
  ·omega
end Go.Proofs.YtemcgfncahccgaaGreat
