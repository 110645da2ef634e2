/-
  The reference's disk: Write. (Written by gen_lrd5.py.)
-/
import Derived.Deep.RegionHeld3
import Derived.Test.YtdpniceapmikpaaGreatSt1
import Derived.Test.YtdpniceapmikpaaGreatSt27
set_option linter.unusedVariables false
set_option linter.unusedSimpArgs false
namespace Go.Proofs.YtdpniceapmikpaaGreat
open Go.RowKit

theorem results_row_tmp2 {P : Program} {fn : Func} {p r : Tmp} {ty : TypeId} (h : fn.results = #[.cell p ty, .tmp r]) (tmps : Array Value) (w : World) (b v : Value) (g : Nat)
  (hp : tmps.getD p undef = .pointer (some ⟨g, 0, none⟩)) (hb : (loadVar ty ⟨g, 0, none⟩).run P w = .ok b w) (hr : tmps.getD r undef = v) :
  (results fn tmps).run P w = .ok (.tuple #[b, v]) w := by
 have hp' : tmps[p]?.getD undef = .pointer (some ⟨g, 0, none⟩) := by simpa using hp
 have hr' : tmps[r]?.getD undef = v := by simpa using hr
 simp [results, h, hp', hr', asAddr, hb]
set_option maxRecDepth 100000 in
set_option maxHeartbeats 4000000 in
theorem rdwrite_any (x : DiskD) (lv wv fv : Value) (n : Int) (b : List UInt8) (w : World) (h : RDisk w w.heap.size lv wv fv x) (hx : x.ok) (hb : b.length = 512) (hx2 : (x.write n b).ok) :
  Calls Tryz.prog 50 #[.agg #[lv, wv, .int .i64 x.steps, fv], .int .i64 n, sectorV b] w fun e w' => ∃ wv', e = .returned (.tuple #[.agg #[lv, wv', .int .i64 (x.write n b).steps, fv], .int .i64 (x.err n)]) ∧ RDisk w' w'.heap.size lv wv' fv (x.write n b) ∧ Below w.heap.size w w' ∧ (∀ g, wv'.ownBlock = some g → wv'.ownBlock = wv.ownBlock ∨ w.heap.size ≤ g) := by
 have HONE := Lib.hid h.one
 have HSZ := Lib.hid (fun W hh => rdsize_any x lv wv fv x.steps W hh hx)
 have HST := Lib.hid (fun W hh => rdstep_any x lv wv fv W hh hx)
 have HR := Lib.hid h
 have hwin := h.waits
 obtain ⟨hwl, hws, aw, cw, rfl, hwr⟩ := h.waits
 obtain ⟨W, eW⟩ : ∃ W, W = ((w.alloc (.cells #[lv, .slice aw x.waits.length cw, .int .i64 x.steps, fv] 40)).alloc (.cells (b.map vu8).toArray 111)).alloc (.cells zeroD 40) := ⟨_, rfl⟩
 have hbW : Below w.heap.size w W := by rw [eW]; exact (((Below.refl _ w).alloc (Nat.le_refl _) _).alloc (by simp) _).alloc (by simp; omega) _
 have k0 : Blk W w.heap.size 40 #[lv, .slice aw x.waits.length cw, .int .i64 x.steps, fv] := by rw [eW]; exact ((Blk.new w _ _).alloc _).alloc _
 have k1 : Blk W (w.heap.size + 1) 111 (b.map vu8).toArray := by rw [eW]; exact (Blk.new2 w _ _ _).alloc _
 have k2 : Blk W (w.heap.size + 2) 40 zeroD := by rw [eW]; exact Blk.new' (by simp)
 have HRW := Lib.hid ((HR.out.below hbW (Nat.le_refl _)).mono hbW.size)
 have HWIN := Lib.hid hwin
 unfold sectorV
 clear h hwr hwin
 go_enter Tryz.func50, Tryz.ntmps50
 go_upto_region 1 with fail
 rw [← eW]
 clear eW
 have HW := Lib.hid hbW
 have HK0 := Lib.hid k0
 have HK1 := Lib.hid k1
 have HK2 := Lib.hid k2
 clear hbW k0 k1 k2
 have fin : ∀ (W2 : World) (wv' : Value) (s er : Int) (tmps : Array Value), Blk W2 (w.heap.size + 2) 40 zeroD →
   tmps.getD 6 undef = .pointer (some ⟨w.heap.size + 2, 0, none⟩) → tmps.getD 7 undef = .int .i64 er →
   (results Tryz.f50 tmps).run Tryz.prog (W2.setRow (w.heap.size + 2) #[lv, wv', .int .i64 s, fv]) = .ok (.tuple #[.agg #[lv, wv', .int .i64 s, fv], .int .i64 er]) (W2.setRow (w.heap.size + 2) #[lv, wv', .int .i64 s, fv]) := by
  intro W2 wv' s er tmps h1 t4 t6
  exact results_row_tmp2 Tryz.results50 _ _ _ _ _ t4 (load_rdisk (h1.row _)) t6
 have FIN := Lib.hid fin
 clear fin
 have out4 : n < 0 ∨ x.size ≤ n → x.err n = 4 ∧ x.write n b = x := by
  intro ho
  exact ⟨by unfold DiskD.err; rw [if_pos ho], by unfold DiskD.write; rw [if_pos ho]⟩
 by_cases hneg : n < 0
 ·obtain ⟨he, ha⟩ := out4 (.inl hneg)
  go_wp2_with (first
   | (refine wpList_load_row rfl 40 _ rfl w.heap.size rfl 40 #[lv, .slice aw x.waits.length cw, .int .i64 x.steps, fv] (0, 0) _ HK0.out Tryz.underlying40 rfl (size_rdisk _ _ _ _) ?_)
   | (refine wpList_store_row rfl 40 _ _ rfl (w.heap.size + 2) #[lv, .slice aw x.waits.length cw, .int .i64 x.steps, fv] rfl rfl 40 zeroD HK2.out (size_rdisk _ _ _ _) rfl (HONE.out _) ?_))
  have hbf := below_row HW.out #[lv, .slice aw x.waits.length cw, .int .i64 x.steps, fv] (g := w.heap.size + 2) (by omega)
  exact bodyPost_ret (FIN.out W _ x.steps 4 _ HK2.out (by rfl) (by rfl)) rfl ⟨_, by rw [he, ha], by rw [ha]; exact (HR.out.below hbf (Nat.le_refl _)).mono hbf.size, hbf, fun _ _ => .inl rfl⟩
 ·go_wp2_with (refine wpList_load_midG rfl 40 _ rfl w.heap.size 0 rfl #[lv, .slice aw x.waits.length cw, .int .i64 x.steps, fv] (load_rdisk HK0.out) ?_)
  refine (HSZ.out W HRW.out).mono ?_; rintro e w1 ⟨rfl, hb1⟩
  have J0 := Lib.hid (HK0.out.below hb1 HK0.out.lt)
  have J1 := Lib.hid (HK1.out.below hb1 HK1.out.lt)
  have J2 := Lib.hid (HK2.out.below hb1 HK2.out.lt)
  have HB1 := Lib.hid (HW.out.trans (hb1.mono HW.out.size))
  have hRW1 := Lib.hid ((HR.out.below HB1.out (Nat.le_refl _)).mono HB1.out.size)
  clear hb1 HK0 HK1 HK2 HW HRW
  by_cases hbig : x.size ≤ n
  ·obtain ⟨he, ha⟩ := out4 (.inr hbig)
   go_wp2_with (first
    | (refine wpList_load_row rfl 40 _ rfl w.heap.size rfl 40 #[lv, .slice aw x.waits.length cw, .int .i64 x.steps, fv] (0, 0) _ J0.out Tryz.underlying40 rfl (size_rdisk _ _ _ _) ?_)
    | (refine wpList_store_row rfl 40 _ _ rfl (w.heap.size + 2) #[lv, .slice aw x.waits.length cw, .int .i64 x.steps, fv] rfl rfl 40 zeroD J2.out (size_rdisk _ _ _ _) rfl (HONE.out _) ?_))
   have hbf := below_row HB1.out #[lv, .slice aw x.waits.length cw, .int .i64 x.steps, fv] (g := w.heap.size + 2) (by omega)
   exact bodyPost_ret (FIN.out w1 _ x.steps 4 _ J2.out (by rfl) (by rfl)) rfl ⟨_, by rw [he, ha], by rw [ha]; exact (HR.out.below hbf (Nat.le_refl _)).mono hbf.size, hbf, fun _ _ => .inl rfl⟩
  ·clear out4
   go_wp2_with (refine wpList_load_row rfl 40 _ rfl w.heap.size rfl 40 #[lv, .slice aw x.waits.length cw, .int .i64 x.steps, fv] (0, 0) _ J0.out Tryz.underlying40 rfl (size_rdisk _ _ _ _) ?_)
   refine (HST.out w1 hRW1.out).mono ?_; rintro e w2 ⟨rfl, hb2⟩
   have L0 := Lib.hid (J0.out.below hb2 J0.out.lt)
   have L1 := Lib.hid (J1.out.below hb2 J1.out.lt)
   have L2 := Lib.hid (J2.out.below hb2 J2.out.lt)
   have HB2 := Lib.hid (HB1.out.trans (hb2.mono HB1.out.size))
   have hlt2 : w.heap.size + 2 < w2.heap.size := L2.out.lt
   clear hb2 J0 J1 J2 HB1 hRW1
   have z3 : Blk (w2.alloc (.cells zeroD 40)) w2.heap.size 40 zeroD := Blk.new w2 _ _
   have hz3 := z3.row #[lv, .slice aw x.waits.length cw, .int .i64 (x.steps + 1), fv]
   have HB3 := Lib.hid (below_row (HB2.out.alloc HB2.out.size (.cells zeroD 40)) #[lv, .slice aw x.waits.length cw, .int .i64 (x.steps + 1), fv] (g := w2.heap.size) (by omega))
   have M0 := Lib.hid (blk_row_far (L0.out.alloc (.cells zeroD 40)) #[lv, .slice aw x.waits.length cw, .int .i64 (x.steps + 1), fv] (g' := w2.heap.size) (by omega))
   have M1 := Lib.hid (blk_row_far (L1.out.alloc (.cells zeroD 40)) #[lv, .slice aw x.waits.length cw, .int .i64 (x.steps + 1), fv] (g' := w2.heap.size) (by omega))
   have M2 := Lib.hid (blk_row_far (L2.out.alloc (.cells zeroD 40)) #[lv, .slice aw x.waits.length cw, .int .i64 (x.steps + 1), fv] (g' := w2.heap.size) (by omega))
   have M3 := Lib.hid hz3
   have Z3 := Lib.hid z3
   have hs3 : ((w2.alloc (.cells zeroD 40)).setRow w2.heap.size #[lv, .slice aw x.waits.length cw, .int .i64 (x.steps + 1), fv]).heap.size = w2.heap.size + 1 := by simp
   clear L0 L1 L2 HB2 hz3 z3
   obtain ⟨W3, eW3⟩ : ∃ W3, W3 = (w2.alloc (.cells zeroD 40)).setRow w2.heap.size #[lv, .slice aw x.waits.length cw, .int .i64 (x.steps + 1), fv] := ⟨_, rfl⟩
   by_cases hf : x.steps ∈ x.fails
   ·have he : x.err n = 120 := by unfold DiskD.err; rw [if_neg (by omega), if_pos hf]
    have ha : x.write n b = x.stepped := by unfold DiskD.write; rw [if_neg (by omega), if_pos hf]
    rw [decide_eq_true hf]
    go_wp2_with (first
     | (refine wpList_store_row rfl 40 _ _ rfl w2.heap.size #[lv, .slice aw x.waits.length cw, .int .i64 (x.steps + 1), fv] rfl rfl 40 zeroD Z3.out (size_rdisk _ _ _ _) rfl (HONE.out _) ?_)
     | (refine wpList_load_row rfl 40 _ rfl w2.heap.size rfl 40 #[lv, .slice aw x.waits.length cw, .int .i64 (x.steps + 1), fv] (0, 0) _ M3.out Tryz.underlying40 rfl (size_rdisk _ _ _ _) ?_)
     | (refine wpList_store_row rfl 40 _ _ rfl (w.heap.size + 2) #[lv, .slice aw x.waits.length cw, .int .i64 (x.steps + 1), fv] rfl rfl 40 zeroD M2.out (size_rdisk _ _ _ _) rfl (HONE.out _) ?_))
    have hbf := below_row HB3.out #[lv, .slice aw x.waits.length cw, .int .i64 (x.steps + 1), fv] (g := w.heap.size + 2) (by omega)
    exact bodyPost_ret (FIN.out _ _ (x.steps + 1) 120 _ M2.out (by rfl) (by rfl)) rfl ⟨_, by rw [he, ha]; rfl, by rw [ha]; exact ((HR.out.below hbf (Nat.le_refl _)).mono hbf.size).stepped, hbf, fun _ _ => .inl rfl⟩
   ·have he : x.err n = 0 := by unfold DiskD.err; rw [if_neg (by omega), if_neg hf]
    have ha : x.write n b = x.stepped.put n b := by unfold DiskD.write; rw [if_neg (by omega), if_neg hf]
    rw [decide_eq_false hf]
    obtain ⟨i0, z0, T0⟩ := rowT_rwait
    have HT := Lib.hid T0
    have wlen : (WaitD.cells ⟨n, b⟩).toArray.size = 513 := by simpa using WaitD.len ⟨n, b⟩ hb
    have wlen2 : (WaitD.cells ⟨n, b⟩).length = 1 * 513 := WaitD.len ⟨n, b⟩ hb
    have hwl2 : x.waits.length + 1 ≤ 1000000 := by
     have := hx2.2.2.2.2.2.2
     rw [ha] at this
     simpa [DiskD.put, DiskD.stepped] using this
    have hsz : (Tryz.prog.info? 111).map (·.size) = some (b.map vu8).length := by simpa using sector_size b hb
    go_wp2_with (refine wpList_store_row rfl 40 _ _ rfl w2.heap.size #[lv, .slice aw x.waits.length cw, .int .i64 (x.steps + 1), fv] rfl rfl 40 zeroD Z3.out (size_rdisk _ _ _ _) rfl (HONE.out _) ?_)
    rw [← eW3]
    rw [← eW3] at HB3 M0 M1 M2 M3 hs3
    clear eW3 Z3
    have HWI := Lib.hid (HWIN.out.below HB3.out (Nat.le_refl _))
    have SK := Lib.hid (fun (W' : World) (hb' : Below W3.heap.size W3 W') => And.intro ((M0.out.below hb' M0.out.lt).cell_is 1 rfl) (M1.out.below hb' M1.out.lt))
    have hX0 : Below W3.heap.size W3 W3.drew := (Below.refl _ W3).drew
    refine wp_region_held_drew (S := (fun w' => w'.cell? ⟨w.heap.size, 1, none⟩ = some (.slice aw x.waits.length cw) ∧ Blk w' (w.heap.size + 1) 111 (b.map vu8).toArray)) (by kernel_rfl) (by first | exact ⟨M0.out.cell_is 1 rfl, M1.out⟩ | ((try dsimp only); exact ⟨M0.out.cell_is 1 rfl, M1.out⟩)) (fun hHeld => ?_)
    have hX0s : W3.drew.heap.size = W3.heap.size := rfl
    generalize W3.drew = X0 at *
    have HX0S := Lib.hid hX0s
    clear hX0s
    refine tk 1 ?_
    refine tk 4 ?_
    refine ty 5 rfl (yieldsIf_load_mid (by rfl) 111 _ rfl (w.heap.size + 1) 0 rfl (b.map vu8) _ (fun w' h => by have := blk_range h.2; simpa using this) Tryz.underlying111 rfl hsz) ?_
    refine tk 2 ?_
    refine ty 6 rfl (yieldsIf_build (by rfl) 154 _ rfl (WaitD.cells ⟨n, b⟩).toArray (by exact rwait_built n b hb)) ?_
    refine wpAnyH_ready (rs := [0, 7]) (by kernel_rfl) (by simp) ?_
    refine (AllReadyH.cons rfl (fun K hK => ?_) (AllReadyH.cons rfl (fun K hK => ?_) AllReadyH.nil))
    ·skip
     go_simp
     obtain ⟨X1, eX1⟩ : ∃ V, V = X0.alloc (.cells #[] 154) := ⟨_, rfl⟩
     have hb1 : Below W3.heap.size W3 X1 := by rw [eX1]; exact hX0.alloc hX0.size _
     have ow1 : X1.ownsRow W3.heap.size 154 513 (.slice (some ⟨X0.heap.size, 0, none⟩) 0 0) 0 [] := by rw [eX1]; exact ⟨rfl, .inr ⟨_, 0, #[], rfl, hX0.size, heap_alloc_new X0 _, Nat.le_refl _, by simp, rfl, rfl⟩⟩
     try rw [← eX1]
     clear eX1
     refine hK.out _ _ (by first | exact SK.out _ hb1 | ((try dsimp only); exact SK.out _ hb1)) (fun hHeld => ?_)
     clear hK K
     try simp only [Act.put, pz0, pz1, pz2, pz3, pz4, pz5]
     refine wpAnyH_ready (rs := [3, 7]) (by kernel_rfl) (by simp) ?_
     refine (AllReadyH.cons rfl (fun K hK => ?_) (AllReadyH.cons rfl (fun K hK => ?_) AllReadyH.nil))
     ·skip
      try rw [if_pos (by rfl)]
      refine wp_append_waits HT.out _ (.tmp 27) (.tmp 29) rfl W3.heap.size _ 0 (.slice (some ⟨X0.heap.size, 0, none⟩) 0 0) [] rfl ow1 aw x.waits.length cw x.waits rfl rfl (HWI.out.below hb1 (by have := HB3.out.size; omega)) (by omega) hb1.size ?_
      intro v30 X2 ow2 hg30
      rw [Nat.zero_add, List.nil_append] at ow2
      have hb2 : Below W3.heap.size W3 X2 := hb1.grown hg30 hb1.size (fun r hr => (ow1.lt r hr).1)
      
      refine hK.out _ _ (by first | exact SK.out _ hb2 | ((try dsimp only); exact SK.out _ hb2)) (fun hHeld => ?_)
      clear hK K
      try simp only [Act.put, pz0, pz1, pz2, pz3, pz4, pz5]
      refine rd 7 fun K hK => ?_
      try rw [if_pos (by rfl)]
      refine wp_buildSliceL 38 154 1 _ rfl (WaitD.cells ⟨n, b⟩).toArray i0 z0 HT.out.ht HT.out.hi HT.out.hz (by rw [HT.out.h1]; decide) (by rw [HT.out.h1]; decide) (by exact wait_row _ wlen i0 z0 HT.out.h1 HT.out.h3) ?_
      obtain ⟨X3, eX3⟩ : ∃ V, V = X2.alloc (.cells (WaitD.cells ⟨n, b⟩).toArray 154) := ⟨_, rfl⟩
      have hb3 : Below W3.heap.size W3 X3 := by rw [eX3]; exact hb2.alloc hb2.size _
      have bl3 : Blk X3 X2.heap.size 154 (WaitD.cells ⟨n, b⟩).toArray := by rw [eX3]; exact Blk.new X2 _ _
      have ow3 := ow2.alloc (.cells (WaitD.cells ⟨n, b⟩).toArray 154)
      rw [← eX3] at ow3
      try rw [← eX3]
      clear eX3
      refine hK.out _ _ (by first | exact SK.out _ hb3 | ((try dsimp only); exact SK.out _ hb3)) (fun hHeld => ?_)
      clear hK K
      try simp only [Act.put, pz0, pz1, pz2, pz3, pz4, pz5]
      refine rd 8 fun K hK => ?_
      try rw [if_pos (by rfl)]
      refine wp_append_lies _ (.tmp 30) (.tmp 34) 38 rfl W3.heap.size 154 i0 z0 513 520 HT.out.ht HT.out.hi HT.out.hz HT.out.h1 HT.out.h2 HT.out.h3 (by omega) v30 x.waits.length (waitCells x.waits) rfl ow3 ⟨X2.heap.size, 0, none⟩ 1 1 (WaitD.cells ⟨n, b⟩) rfl wlen2 (World.news_of_block (cs := (WaitD.cells ⟨n, b⟩).toArray) (t := 154) (fr := (0, 0)) bl3) (wait_one ⟨n, b⟩) (by omega) (by unfold maxLen; omega) (by omega) hb3.size X3.heap.size rfl ?_
      intro g35 c35 X9 hO9 hg9 hat9 hlt9
      have hb9 : Below W3.heap.size W3 X9 := hb3.grown hg9 hb3.size (fun r hr => (ow3.lt r hr).1)
      have N3 := M3.out.below hb9 M3.out.lt
      have N3c := N3.cell_is 1 rfl
      have N3f := N3.frozen 1
      refine hK.out _ _ (by first | exact SK.out _ hb9 | ((try dsimp only); exact SK.out _ hb9)) (fun hHeld => ?_)
      clear hK K
      try simp only [Act.put, pz0, pz1, pz2, pz3, pz4, pz5]
      refine tk 9 ?_
      refine rd 10 fun K hK => ?_
      go_simp
      refine hK.out _ _ (by first | exact ⟨(World.cell?_setCell_far X9 ⟨w2.heap.size, 1, none⟩ ⟨w.heap.size, 1, none⟩ _ (by show w2.heap.size ≠ w.heap.size; omega)).trans (SK.out _ hb9).1, (SK.out _ hb9).2.far (p := ⟨w2.heap.size, 1, none⟩) (by show w.heap.size + 1 ≠ w2.heap.size; omega) _⟩ | ((try dsimp only); exact ⟨(World.cell?_setCell_far X9 ⟨w2.heap.size, 1, none⟩ ⟨w.heap.size, 1, none⟩ _ (by show w2.heap.size ≠ w.heap.size; omega)).trans (SK.out _ hb9).1, (SK.out _ hb9).2.far (p := ⟨w2.heap.size, 1, none⟩) (by show w.heap.size + 1 ≠ w2.heap.size; omega) _⟩)) (fun hHeld => ?_)
      clear hK K
      try simp only [Act.put, pz0, pz1, pz2, pz3, pz4, pz5]
      refine wpAnyH_done (by kernel_rfl) ?_ _
      try simp only [Act.put, pz0, pz1, pz2, pz3, pz4, pz5]
      have N4 := N3.set_ 1 (.slice (some ⟨g35, 0, none⟩) (x.waits.length + 1) c35)
      have N2 := (M2.out.below hb9 M2.out.lt).far (p := ⟨w2.heap.size, 1, none⟩) (by show w.heap.size + 2 ≠ w2.heap.size; omega) (.slice (some ⟨g35, 0, none⟩) (x.waits.length + 1) c35)
      have HBf := (HB3.out.trans (hb9.mono HB3.out.size)).setCell (p := ⟨w2.heap.size, 1, none⟩) (by show w.heap.size ≤ w2.heap.size; omega) (.slice (some ⟨g35, 0, none⟩) (x.waits.length + 1) c35)
      have hO10 := ownsRow_setCell_other hO9 (a := ⟨w2.heap.size, 1, none⟩) (by
       intro e
       have e2 : g35 = w2.heap.size := by simpa [Value.ownBlock] using e
       have h9 := (hO9.lt g35 rfl).1
       omega) (.slice (some ⟨g35, 0, none⟩) (x.waits.length + 1) c35)
      have ONE4 : (#[lv, .slice (some ⟨g35, 0, none⟩) (x.waits.length + 1) c35, .int .i64 (x.steps + 1), fv] : Array Value).all (·.oneCell') = true := by
       have := HONE.out (x.steps + 1)
       simp only [List.all_toArray, List.all_cons, Bool.and_eq_true] at this ⊢
       exact ⟨this.1, rfl, this.2.2⟩
      clear hO9 N3c N3f
      obtain ⟨X10, eX10⟩ : ∃ X, X = X9.setCell ⟨w2.heap.size, 1, none⟩ (.slice (some ⟨g35, 0, none⟩) (x.waits.length + 1) c35) := ⟨_, rfl⟩
      rw [← eX10] at N4 N2 HBf hO10 ⊢
      clear eX10
      go_wp2_with (first
       | (refine wpList_load_row rfl 40 _ rfl w2.heap.size rfl 40 #[lv, .slice (some ⟨g35, 0, none⟩) (x.waits.length + 1) c35, .int .i64 (x.steps + 1), fv] (0, 0) _ N4 Tryz.underlying40 rfl (size_rdisk _ _ _ _) ?_)
       | (refine wpList_store_row rfl 40 _ _ rfl (w.heap.size + 2) #[lv, .slice (some ⟨g35, 0, none⟩) (x.waits.length + 1) c35, .int .i64 (x.steps + 1), fv] rfl rfl 40 zeroD N2 (size_rdisk _ _ _ _) rfl ONE4 ?_))
      have hbf := below_row HBf #[lv, .slice (some ⟨g35, 0, none⟩) (x.waits.length + 1) c35, .int .i64 (x.steps + 1), fv] (g := w.heap.size + 2) (by omega)
      have hr0 := (HR.out.below hbf (Nat.le_refl _)).mono hbf.size
      have hO11 := ownsRow_out (F := fun i => i = w.heap.size + 2) (out_row (w := X10) #[lv, .slice (some ⟨g35, 0, none⟩) (x.waits.length + 1) c35, .int .i64 (x.steps + 1), fv] rfl) hO10 (fun i hi e => by have := (hO10.lt i hi).1; omega)
      have hpw : WaitsIn (X10.setRow (w.heap.size + 2) #[lv, .slice (some ⟨g35, 0, none⟩) (x.waits.length + 1) c35, .int .i64 (x.steps + 1), fv]) (X10.setRow (w.heap.size + 2) #[lv, .slice (some ⟨g35, 0, none⟩) (x.waits.length + 1) c35, .int .i64 (x.steps + 1), fv]).heap.size (.slice (some ⟨g35, 0, none⟩) (x.waits.length + 1) c35) (x.waits ++ [⟨n, b⟩]) := by
       refine waits_own (B := W3.heap.size) (e := 154) ?_ ?_ ?_
       ·have e2 : waitCells (x.waits ++ [⟨n, b⟩]) = waitCells x.waits ++ WaitD.cells ⟨n, b⟩ := by simp [waitCells, List.flatMap_append]
        have e3 : (x.waits ++ [(⟨n, b⟩ : WaitD)]).length = x.waits.length + 1 := by simp
        rw [e2, e3]
        exact hO11
       ·intro y hy
        rcases List.mem_append.1 hy with hy | hy
        ·exact hws y hy
        ·rw [List.mem_singleton.1 hy]; exact hb
       ·simp; omega
      have hpost : RDisk (X10.setRow (w.heap.size + 2) #[lv, .slice (some ⟨g35, 0, none⟩) (x.waits.length + 1) c35, .int .i64 (x.steps + 1), fv]) (X10.setRow (w.heap.size + 2) #[lv, .slice (some ⟨g35, 0, none⟩) (x.waits.length + 1) c35, .int .i64 (x.steps + 1), fv]).heap.size lv (.slice (some ⟨g35, 0, none⟩) (x.waits.length + 1) c35) fv (x.write n b) := by
       rw [ha]
       exact ⟨hr0.lasts, hpw, hr0.fails⟩
      have hg35 : ∀ g, (Value.slice (some ⟨g35, 0, none⟩) (x.waits.length + 1) c35).ownBlock = some g → w.heap.size ≤ g := fun g hg => by
       have h1 := (hO10.lt g hg).1
       omega
      exact bodyPost_ret (FIN.out _ _ (x.steps + 1) 0 _ N2 (by rfl) (by rfl)) rfl ⟨_, by rw [he, ha]; rfl, hpost, hbf, fun g hg => .inr (hg35 g hg)⟩
     ·skip
      try rw [if_pos (by rfl)]
      refine wp_buildSliceL 38 154 1 _ rfl (WaitD.cells ⟨n, b⟩).toArray i0 z0 HT.out.ht HT.out.hi HT.out.hz (by rw [HT.out.h1]; decide) (by rw [HT.out.h1]; decide) (by exact wait_row _ wlen i0 z0 HT.out.h1 HT.out.h3) ?_
      obtain ⟨X2, eX2⟩ : ∃ V, V = X1.alloc (.cells (WaitD.cells ⟨n, b⟩).toArray 154) := ⟨_, rfl⟩
      have hb2 : Below W3.heap.size W3 X2 := by rw [eX2]; exact hb1.alloc hb1.size _
      have bl2 : Blk X2 X1.heap.size 154 (WaitD.cells ⟨n, b⟩).toArray := by rw [eX2]; exact Blk.new X1 _ _
      have ow2 := ow1.alloc (.cells (WaitD.cells ⟨n, b⟩).toArray 154)
      rw [← eX2] at ow2
      have ow2ne : ∀ i, (Value.slice (some ⟨X0.heap.size, 0, none⟩) 0 0).ownBlock = some i → i ≠ X1.heap.size := by
       intro i hi
       have h3 := (ow1.lt i hi).2
       omega
      try rw [← eX2]
      clear eX2
      refine hK.out _ _ (by first | exact SK.out _ hb2 | ((try dsimp only); exact SK.out _ hb2)) (fun hHeld => ?_)
      clear hK K
      try simp only [Act.put, pz0, pz1, pz2, pz3, pz4, pz5]
      refine rd 3 fun K hK => ?_
      try rw [if_pos (by rfl)]
      refine wp_append_waits HT.out _ (.tmp 27) (.tmp 29) rfl W3.heap.size _ 0 (.slice (some ⟨X0.heap.size, 0, none⟩) 0 0) [] rfl ow2 aw x.waits.length cw x.waits rfl rfl (HWI.out.below hb2 (by have := HB3.out.size; omega)) (by omega) hb2.size ?_
      intro v30 X3 ow3 hg30
      rw [Nat.zero_add, List.nil_append] at ow3
      have hb3 : Below W3.heap.size W3 X3 := hb2.grown hg30 hb2.size (fun r hr => (ow2.lt r hr).1)
      have bl3 : Blk X3 X1.heap.size 154 (WaitD.cells ⟨n, b⟩).toArray := (hg30.block _ bl2.lt (fun e => ow2ne _ e.symm rfl)).trans bl2
      
      refine hK.out _ _ (by first | exact SK.out _ hb3 | ((try dsimp only); exact SK.out _ hb3)) (fun hHeld => ?_)
      clear hK K
      try simp only [Act.put, pz0, pz1, pz2, pz3, pz4, pz5]
      refine rd 8 fun K hK => ?_
      try rw [if_pos (by rfl)]
      refine wp_append_lies _ (.tmp 30) (.tmp 34) 38 rfl W3.heap.size 154 i0 z0 513 520 HT.out.ht HT.out.hi HT.out.hz HT.out.h1 HT.out.h2 HT.out.h3 (by omega) v30 x.waits.length (waitCells x.waits) rfl ow3 ⟨X1.heap.size, 0, none⟩ 1 1 (WaitD.cells ⟨n, b⟩) rfl wlen2 (World.news_of_block (cs := (WaitD.cells ⟨n, b⟩).toArray) (t := 154) (fr := (0, 0)) bl3) (wait_one ⟨n, b⟩) (by omega) (by unfold maxLen; omega) (by omega) hb3.size X3.heap.size rfl ?_
      intro g35 c35 X9 hO9 hg9 hat9 hlt9
      have hb9 : Below W3.heap.size W3 X9 := hb3.grown hg9 hb3.size (fun r hr => (ow3.lt r hr).1)
      have N3 := M3.out.below hb9 M3.out.lt
      have N3c := N3.cell_is 1 rfl
      have N3f := N3.frozen 1
      refine hK.out _ _ (by first | exact SK.out _ hb9 | ((try dsimp only); exact SK.out _ hb9)) (fun hHeld => ?_)
      clear hK K
      try simp only [Act.put, pz0, pz1, pz2, pz3, pz4, pz5]
      refine tk 9 ?_
      refine rd 10 fun K hK => ?_
      go_simp
      refine hK.out _ _ (by first | exact ⟨(World.cell?_setCell_far X9 ⟨w2.heap.size, 1, none⟩ ⟨w.heap.size, 1, none⟩ _ (by show w2.heap.size ≠ w.heap.size; omega)).trans (SK.out _ hb9).1, (SK.out _ hb9).2.far (p := ⟨w2.heap.size, 1, none⟩) (by show w.heap.size + 1 ≠ w2.heap.size; omega) _⟩ | ((try dsimp only); exact ⟨(World.cell?_setCell_far X9 ⟨w2.heap.size, 1, none⟩ ⟨w.heap.size, 1, none⟩ _ (by show w2.heap.size ≠ w.heap.size; omega)).trans (SK.out _ hb9).1, (SK.out _ hb9).2.far (p := ⟨w2.heap.size, 1, none⟩) (by show w.heap.size + 1 ≠ w2.heap.size; omega) _⟩)) (fun hHeld => ?_)
      clear hK K
      try simp only [Act.put, pz0, pz1, pz2, pz3, pz4, pz5]
      refine wpAnyH_done (by kernel_rfl) ?_ _
      try simp only [Act.put, pz0, pz1, pz2, pz3, pz4, pz5]
      have N4 := N3.set_ 1 (.slice (some ⟨g35, 0, none⟩) (x.waits.length + 1) c35)
      have N2 := (M2.out.below hb9 M2.out.lt).far (p := ⟨w2.heap.size, 1, none⟩) (by show w.heap.size + 2 ≠ w2.heap.size; omega) (.slice (some ⟨g35, 0, none⟩) (x.waits.length + 1) c35)
      have HBf := (HB3.out.trans (hb9.mono HB3.out.size)).setCell (p := ⟨w2.heap.size, 1, none⟩) (by show w.heap.size ≤ w2.heap.size; omega) (.slice (some ⟨g35, 0, none⟩) (x.waits.length + 1) c35)
      have hO10 := ownsRow_setCell_other hO9 (a := ⟨w2.heap.size, 1, none⟩) (by
       intro e
       have e2 : g35 = w2.heap.size := by simpa [Value.ownBlock] using e
       have h9 := (hO9.lt g35 rfl).1
       omega) (.slice (some ⟨g35, 0, none⟩) (x.waits.length + 1) c35)
      have ONE4 : (#[lv, .slice (some ⟨g35, 0, none⟩) (x.waits.length + 1) c35, .int .i64 (x.steps + 1), fv] : Array Value).all (·.oneCell') = true := by
       have := HONE.out (x.steps + 1)
       simp only [List.all_toArray, List.all_cons, Bool.and_eq_true] at this ⊢
       exact ⟨this.1, rfl, this.2.2⟩
      clear hO9 N3c N3f
      obtain ⟨X10, eX10⟩ : ∃ X, X = X9.setCell ⟨w2.heap.size, 1, none⟩ (.slice (some ⟨g35, 0, none⟩) (x.waits.length + 1) c35) := ⟨_, rfl⟩
      rw [← eX10] at N4 N2 HBf hO10 ⊢
      clear eX10
      go_wp2_with (first
       | (refine wpList_load_row rfl 40 _ rfl w2.heap.size rfl 40 #[lv, .slice (some ⟨g35, 0, none⟩) (x.waits.length + 1) c35, .int .i64 (x.steps + 1), fv] (0, 0) _ N4 Tryz.underlying40 rfl (size_rdisk _ _ _ _) ?_)
       | (refine wpList_store_row rfl 40 _ _ rfl (w.heap.size + 2) #[lv, .slice (some ⟨g35, 0, none⟩) (x.waits.length + 1) c35, .int .i64 (x.steps + 1), fv] rfl rfl 40 zeroD N2 (size_rdisk _ _ _ _) rfl ONE4 ?_))
      have hbf := below_row HBf #[lv, .slice (some ⟨g35, 0, none⟩) (x.waits.length + 1) c35, .int .i64 (x.steps + 1), fv] (g := w.heap.size + 2) (by omega)
      have hr0 := (HR.out.below hbf (Nat.le_refl _)).mono hbf.size
      have hO11 := ownsRow_out (F := fun i => i = w.heap.size + 2) (out_row (w := X10) #[lv, .slice (some ⟨g35, 0, none⟩) (x.waits.length + 1) c35, .int .i64 (x.steps + 1), fv] rfl) hO10 (fun i hi e => by have := (hO10.lt i hi).1; omega)
      have hpw : WaitsIn (X10.setRow (w.heap.size + 2) #[lv, .slice (some ⟨g35, 0, none⟩) (x.waits.length + 1) c35, .int .i64 (x.steps + 1), fv]) (X10.setRow (w.heap.size + 2) #[lv, .slice (some ⟨g35, 0, none⟩) (x.waits.length + 1) c35, .int .i64 (x.steps + 1), fv]).heap.size (.slice (some ⟨g35, 0, none⟩) (x.waits.length + 1) c35) (x.waits ++ [⟨n, b⟩]) := by
       refine waits_own (B := W3.heap.size) (e := 154) ?_ ?_ ?_
       ·have e2 : waitCells (x.waits ++ [⟨n, b⟩]) = waitCells x.waits ++ WaitD.cells ⟨n, b⟩ := by simp [waitCells, List.flatMap_append]
        have e3 : (x.waits ++ [(⟨n, b⟩ : WaitD)]).length = x.waits.length + 1 := by simp
        rw [e2, e3]
        exact hO11
       ·intro y hy
        rcases List.mem_append.1 hy with hy | hy
        ·exact hws y hy
        ·rw [List.mem_singleton.1 hy]; exact hb
       ·simp; omega
      have hpost : RDisk (X10.setRow (w.heap.size + 2) #[lv, .slice (some ⟨g35, 0, none⟩) (x.waits.length + 1) c35, .int .i64 (x.steps + 1), fv]) (X10.setRow (w.heap.size + 2) #[lv, .slice (some ⟨g35, 0, none⟩) (x.waits.length + 1) c35, .int .i64 (x.steps + 1), fv]).heap.size lv (.slice (some ⟨g35, 0, none⟩) (x.waits.length + 1) c35) fv (x.write n b) := by
       rw [ha]
       exact ⟨hr0.lasts, hpw, hr0.fails⟩
      have hg35 : ∀ g, (Value.slice (some ⟨g35, 0, none⟩) (x.waits.length + 1) c35).ownBlock = some g → w.heap.size ≤ g := fun g hg => by
       have h1 := (hO10.lt g hg).1
       omega
      exact bodyPost_ret (FIN.out _ _ (x.steps + 1) 0 _ N2 (by rfl) (by rfl)) rfl ⟨_, by rw [he, ha]; rfl, hpost, hbf, fun g hg => .inr (hg35 g hg)⟩
    ·skip
     try rw [if_pos (by rfl)]
     refine wp_buildSliceL 38 154 1 _ rfl (WaitD.cells ⟨n, b⟩).toArray i0 z0 HT.out.ht HT.out.hi HT.out.hz (by rw [HT.out.h1]; decide) (by rw [HT.out.h1]; decide) (by exact wait_row _ wlen i0 z0 HT.out.h1 HT.out.h3) ?_
     obtain ⟨X1, eX1⟩ : ∃ V, V = X0.alloc (.cells (WaitD.cells ⟨n, b⟩).toArray 154) := ⟨_, rfl⟩
     have hb1 : Below W3.heap.size W3 X1 := by rw [eX1]; exact hX0.alloc hX0.size _
     have bl1 : Blk X1 X0.heap.size 154 (WaitD.cells ⟨n, b⟩).toArray := by rw [eX1]; exact Blk.new X0 _ _
     try rw [← eX1]
     clear eX1
     refine hK.out _ _ (by first | exact SK.out _ hb1 | ((try dsimp only); exact SK.out _ hb1)) (fun hHeld => ?_)
     clear hK K
     try simp only [Act.put, pz0, pz1, pz2, pz3, pz4, pz5]
     refine rd 0 fun K hK => ?_
     go_simp
     obtain ⟨X2, eX2⟩ : ∃ V, V = X1.alloc (.cells #[] 154) := ⟨_, rfl⟩
     have hb2 : Below W3.heap.size W3 X2 := by rw [eX2]; exact hb1.alloc hb1.size _
     have ow2 : X2.ownsRow W3.heap.size 154 513 (.slice (some ⟨X1.heap.size, 0, none⟩) 0 0) 0 [] := by rw [eX2]; exact ⟨rfl, .inr ⟨_, 0, #[], rfl, hb1.size, heap_alloc_new X1 _, Nat.le_refl _, by simp, rfl, rfl⟩⟩
     have bl2 : Blk X2 X0.heap.size 154 (WaitD.cells ⟨n, b⟩).toArray := by rw [eX2]; exact bl1.alloc _
     try rw [← eX2]
     clear eX2
     refine hK.out _ _ (by first | exact SK.out _ hb2 | ((try dsimp only); exact SK.out _ hb2)) (fun hHeld => ?_)
     clear hK K
     try simp only [Act.put, pz0, pz1, pz2, pz3, pz4, pz5]
     refine rd 3 fun K hK => ?_
     try rw [if_pos (by rfl)]
     refine wp_append_waits HT.out _ (.tmp 27) (.tmp 29) rfl W3.heap.size _ 0 (.slice (some ⟨X1.heap.size, 0, none⟩) 0 0) [] rfl ow2 aw x.waits.length cw x.waits rfl rfl (HWI.out.below hb2 (by have := HB3.out.size; omega)) (by omega) hb2.size ?_
     intro v30 X3 ow3 hg30
     rw [Nat.zero_add, List.nil_append] at ow3
     have hb3 : Below W3.heap.size W3 X3 := hb2.grown hg30 hb2.size (fun r hr => (ow2.lt r hr).1)
     have bl3 : Blk X3 X0.heap.size 154 (WaitD.cells ⟨n, b⟩).toArray := (hg30.block _ bl2.lt (fun e => by
      have e2 : X0.heap.size = X1.heap.size := by simpa [Value.ownBlock] using e
      have h4 := bl1.lt
      have h3 := HX0S.out
      omega)).trans bl2
     
     refine hK.out _ _ (by first | exact SK.out _ hb3 | ((try dsimp only); exact SK.out _ hb3)) (fun hHeld => ?_)
     clear hK K
     try simp only [Act.put, pz0, pz1, pz2, pz3, pz4, pz5]
     refine rd 8 fun K hK => ?_
     try rw [if_pos (by rfl)]
     refine wp_append_lies _ (.tmp 30) (.tmp 34) 38 rfl W3.heap.size 154 i0 z0 513 520 HT.out.ht HT.out.hi HT.out.hz HT.out.h1 HT.out.h2 HT.out.h3 (by omega) v30 x.waits.length (waitCells x.waits) rfl ow3 ⟨X0.heap.size, 0, none⟩ 1 1 (WaitD.cells ⟨n, b⟩) rfl wlen2 (World.news_of_block (cs := (WaitD.cells ⟨n, b⟩).toArray) (t := 154) (fr := (0, 0)) bl3) (wait_one ⟨n, b⟩) (by omega) (by unfold maxLen; omega) (by omega) hb3.size X3.heap.size rfl ?_
     intro g35 c35 X9 hO9 hg9 hat9 hlt9
     have hb9 : Below W3.heap.size W3 X9 := hb3.grown hg9 hb3.size (fun r hr => (ow3.lt r hr).1)
     have N3 := M3.out.below hb9 M3.out.lt
     have N3c := N3.cell_is 1 rfl
     have N3f := N3.frozen 1
     refine hK.out _ _ (by first | exact SK.out _ hb9 | ((try dsimp only); exact SK.out _ hb9)) (fun hHeld => ?_)
     clear hK K
     try simp only [Act.put, pz0, pz1, pz2, pz3, pz4, pz5]
     refine tk 9 ?_
     refine rd 10 fun K hK => ?_
     go_simp
     refine hK.out _ _ (by first | exact ⟨(World.cell?_setCell_far X9 ⟨w2.heap.size, 1, none⟩ ⟨w.heap.size, 1, none⟩ _ (by show w2.heap.size ≠ w.heap.size; omega)).trans (SK.out _ hb9).1, (SK.out _ hb9).2.far (p := ⟨w2.heap.size, 1, none⟩) (by show w.heap.size + 1 ≠ w2.heap.size; omega) _⟩ | ((try dsimp only); exact ⟨(World.cell?_setCell_far X9 ⟨w2.heap.size, 1, none⟩ ⟨w.heap.size, 1, none⟩ _ (by show w2.heap.size ≠ w.heap.size; omega)).trans (SK.out _ hb9).1, (SK.out _ hb9).2.far (p := ⟨w2.heap.size, 1, none⟩) (by show w.heap.size + 1 ≠ w2.heap.size; omega) _⟩)) (fun hHeld => ?_)
     clear hK K
     try simp only [Act.put, pz0, pz1, pz2, pz3, pz4, pz5]
     refine wpAnyH_done (by kernel_rfl) ?_ _
     try simp only [Act.put, pz0, pz1, pz2, pz3, pz4, pz5]
     have N4 := N3.set_ 1 (.slice (some ⟨g35, 0, none⟩) (x.waits.length + 1) c35)
     have N2 := (M2.out.below hb9 M2.out.lt).far (p := ⟨w2.heap.size, 1, none⟩) (by show w.heap.size + 2 ≠ w2.heap.size; omega) (.slice (some ⟨g35, 0, none⟩) (x.waits.length + 1) c35)
     have HBf := (HB3.out.trans (hb9.mono HB3.out.size)).setCell (p := ⟨w2.heap.size, 1, none⟩) (by show w.heap.size ≤ w2.heap.size; omega) (.slice (some ⟨g35, 0, none⟩) (x.waits.length + 1) c35)
     have hO10 := ownsRow_setCell_other hO9 (a := ⟨w2.heap.size, 1, none⟩) (by
      intro e
      have e2 : g35 = w2.heap.size := by simpa [Value.ownBlock] using e
      have h9 := (hO9.lt g35 rfl).1
      omega) (.slice (some ⟨g35, 0, none⟩) (x.waits.length + 1) c35)
     have ONE4 : (#[lv, .slice (some ⟨g35, 0, none⟩) (x.waits.length + 1) c35, .int .i64 (x.steps + 1), fv] : Array Value).all (·.oneCell') = true := by
      have := HONE.out (x.steps + 1)
      simp only [List.all_toArray, List.all_cons, Bool.and_eq_true] at this ⊢
      exact ⟨this.1, rfl, this.2.2⟩
     clear hO9 N3c N3f
     obtain ⟨X10, eX10⟩ : ∃ X, X = X9.setCell ⟨w2.heap.size, 1, none⟩ (.slice (some ⟨g35, 0, none⟩) (x.waits.length + 1) c35) := ⟨_, rfl⟩
     rw [← eX10] at N4 N2 HBf hO10 ⊢
     clear eX10
     go_wp2_with (first
      | (refine wpList_load_row rfl 40 _ rfl w2.heap.size rfl 40 #[lv, .slice (some ⟨g35, 0, none⟩) (x.waits.length + 1) c35, .int .i64 (x.steps + 1), fv] (0, 0) _ N4 Tryz.underlying40 rfl (size_rdisk _ _ _ _) ?_)
      | (refine wpList_store_row rfl 40 _ _ rfl (w.heap.size + 2) #[lv, .slice (some ⟨g35, 0, none⟩) (x.waits.length + 1) c35, .int .i64 (x.steps + 1), fv] rfl rfl 40 zeroD N2 (size_rdisk _ _ _ _) rfl ONE4 ?_))
     have hbf := below_row HBf #[lv, .slice (some ⟨g35, 0, none⟩) (x.waits.length + 1) c35, .int .i64 (x.steps + 1), fv] (g := w.heap.size + 2) (by omega)
     have hr0 := (HR.out.below hbf (Nat.le_refl _)).mono hbf.size
     have hO11 := ownsRow_out (F := fun i => i = w.heap.size + 2) (out_row (w := X10) #[lv, .slice (some ⟨g35, 0, none⟩) (x.waits.length + 1) c35, .int .i64 (x.steps + 1), fv] rfl) hO10 (fun i hi e => by have := (hO10.lt i hi).1; omega)
     have hpw : WaitsIn (X10.setRow (w.heap.size + 2) #[lv, .slice (some ⟨g35, 0, none⟩) (x.waits.length + 1) c35, .int .i64 (x.steps + 1), fv]) (X10.setRow (w.heap.size + 2) #[lv, .slice (some ⟨g35, 0, none⟩) (x.waits.length + 1) c35, .int .i64 (x.steps + 1), fv]).heap.size (.slice (some ⟨g35, 0, none⟩) (x.waits.length + 1) c35) (x.waits ++ [⟨n, b⟩]) := by
      refine waits_own (B := W3.heap.size) (e := 154) ?_ ?_ ?_
      ·have e2 : waitCells (x.waits ++ [⟨n, b⟩]) = waitCells x.waits ++ WaitD.cells ⟨n, b⟩ := by simp [waitCells, List.flatMap_append]
       have e3 : (x.waits ++ [(⟨n, b⟩ : WaitD)]).length = x.waits.length + 1 := by simp
       rw [e2, e3]
       exact hO11
      ·intro y hy
       rcases List.mem_append.1 hy with hy | hy
       ·exact hws y hy
       ·rw [List.mem_singleton.1 hy]; exact hb
      ·simp; omega
     have hpost : RDisk (X10.setRow (w.heap.size + 2) #[lv, .slice (some ⟨g35, 0, none⟩) (x.waits.length + 1) c35, .int .i64 (x.steps + 1), fv]) (X10.setRow (w.heap.size + 2) #[lv, .slice (some ⟨g35, 0, none⟩) (x.waits.length + 1) c35, .int .i64 (x.steps + 1), fv]).heap.size lv (.slice (some ⟨g35, 0, none⟩) (x.waits.length + 1) c35) fv (x.write n b) := by
      rw [ha]
      exact ⟨hr0.lasts, hpw, hr0.fails⟩
     have hg35 : ∀ g, (Value.slice (some ⟨g35, 0, none⟩) (x.waits.length + 1) c35).ownBlock = some g → w.heap.size ≤ g := fun g hg => by
      have h1 := (hO10.lt g hg).1
      omega
     exact bodyPost_ret (FIN.out _ _ (x.steps + 1) 0 _ N2 (by rfl) (by rfl)) rfl ⟨_, by rw [he, ha]; rfl, hpost, hbf, fun g hg => .inr (hg35 g hg)⟩
end Go.Proofs.YtdpniceapmikpaaGreat
