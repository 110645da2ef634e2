/-
  logs.Read of an area whose head says a frame, on any disk. (Written by gen_lreadp.py.)
-/
import Derived.Test.YtdpniceapmikpaaGreatWh1
import Derived.Test.YtdpniceapmikpaaGreatWh24
import Derived.Test.YtdpniceapmikpaaGreatWh29
set_option linter.unusedVariables false
set_option linter.unusedSimpArgs false
namespace Go.Proofs.YtdpniceapmikpaaGreat
open Go.RowKit
attribute [local go_sem] Oper.semAt_some

theorem said_fitP (S : Array Value) (ed c : Int) (vo vb vs vm : Value) (h : S = #[.int .i64 ed, vo, vb, vs, .int .i64 c, vm]) : (Tryz.prog.info? 142).map (·.size) = some S.size := by rw [h]; kernel_rfl
set_option maxRecDepth 100000 in
set_option maxHeartbeats 8000000 in
theorem lread_some (nf : Nat) (hnf : 6 ≤ nf) (D : DiskP) (x : DiskD) (N area : Int) (w : World) (h : DiskAt w D x) (hx : x.ok) (hst : x.steps ≤ 900000000000) (hask : askB N x.size area = true) (he2 : x.err (sectorN N 2 area 0).1 = 0) (hhd : headB N (headS x N area) = true) :
  CallsIn Fence.wide nf Tryz.prog 20 #[ptr D.p, .agg #[.int .i64 N], .int .i64 area] w (RdPost D x N area w) := by
 have HXO := Lib.hid (fun k hk => plus_ok hx hst k hk)
 have HASK := Lib.hid hask
 have HE2 := Lib.hid he2
 have HHD := Lib.hid hhd
 have hN := (ask_facts hask).2.1
 have hD := Lib.hid h.has_lt
 obtain ⟨W0, eW0⟩ : ∃ W, W = ((((w.alloc (.cells #[ptr D.p] 37)).alloc (.cells #[.int .i64 N] 23)).alloc (.cells #[.int .i64 area] 3)).alloc (.cells zeroF 28)).alloc (.cells #[.int .i64 0] 32) := ⟨_, rfl⟩
 have hw0 : Below w.heap.size w W0 := by rw [eW0]; exact (((((Below.refl _ w).alloc (Nat.le_refl _) _).alloc (by simp) _).alloc (by simp; omega) _).alloc (by simp; omega) _).alloc (by simp; omega) _
 have hs0 : W0.heap.size = w.heap.size + 5 := by rw [eW0]; simp
 have k0 : Blk W0 w.heap.size 37 #[ptr D.p] := by rw [eW0]; exact ((((Blk.new w _ _).alloc _).alloc _).alloc _).alloc _
 have k1 : Blk W0 (w.heap.size + 1) 23 #[.int .i64 N] := by rw [eW0]; exact (((Blk.new2 w _ _ _).alloc _).alloc _).alloc _
 have k2 : Blk W0 (w.heap.size + 2) 3 #[.int .i64 area] := by rw [eW0]; exact ((Blk.new' (by simp)).alloc _).alloc _
 have k3 : Blk W0 (w.heap.size + 3) 28 zeroF := by rw [eW0]; exact (Blk.new' (by simp)).alloc _
 have k4 : Blk W0 (w.heap.size + 4) 32 #[.int .i64 0] := by rw [eW0]; exact Blk.new' (by simp)
 have HAK := Lib.hid (asked_any D x N area W0 (h.below hw0) hx)
 have HDK := Lib.hid (h.below hw0)
 have HB0 := Lib.hid hw0
 have c0 := k0.cell_is 0 rfl
 have c1 := k1.cell_is 0 rfl
 have c2 := k2.cell_is 0 rfl
 have K0 := Lib.hid k0
 have K1 := Lib.hid k1
 have K2 := Lib.hid k2
 have K3 := Lib.hid k3
 have K4 := Lib.hid k4
 rw [hask] at HAK
 have HSY := Lib.hid (fun W hh => says_any D x N area W hh hx hN he2)
 unfold ptr at *
 clear h hw0 hx hst hask he2 hhd k0 k1 k2 k3 k4
 have hro : Fence.wide.round = none := rfl
 refine callsIn_of_wpAt Tryz.func20 rfl trivial ?_ hro
 simp only [Tryz.ntmps20, List.size_toArray, List.length_cons, List.length_nil, Nat.reduceAdd, Nat.reduceSub, Array.replicate_succ, Array.replicate_zero, List.push_toArray, List.append_toArray, List.nil_append, List.cons_append]
 refine wpAt_seq (wpAt_in (wpIn_wide.2 ?_))
 go_wp2_with fail
 rw [← eW0]
 clear eW0
 refine wpAt_seq (wpAt_in (wpIn_wide.2 ?_))
 go_wp2_with fail
 refine HAK.out.mono ?_; rintro e w1 ⟨rfl, hb1⟩
 unfold errB
 rw [if_pos rfl]
 have HB1 := Lib.hid (HB0.out.trans (hb1.mono (by omega)))
 have c0' := (K0.out.below hb1 (by omega)).cell_is 0 rfl
 have c1' := (K1.out.below hb1 (by omega)).cell_is 0 rfl
 have c2' := (K2.out.below hb1 (by omega)).cell_is 0 rfl
 have J0 := Lib.hid (K0.out.below hb1 (by omega))
 have J1 := Lib.hid (K1.out.below hb1 (by omega))
 have J2 := Lib.hid (K2.out.below hb1 (by omega))
 have J3 := Lib.hid (K3.out.below hb1 (by omega))
 have J4 := Lib.hid (K4.out.below hb1 (by omega))
 have hsz1 := hb1.size
 have HD1 := Lib.hid (HDK.out.below hb1)
 clear hb1 HAK c0 c1 c2 K0 K1 K2 K3 K4
 go_wp2_with fail
 refine wpAt_seq (wpAt_in (wpIn_wide.2 ?_))
 go_wp2_with fail
 refine wpAt_seq (wpAt_in (wpIn_wide.2 ?_))
 go_wp2_with fail
 refine (HSY.out w1 HD1.out).mono ?_; rintro e w2 ⟨hd2, hs2, hv2⟩
 have hgh := HHD.out
 unfold headS at hgh
 rw [hgh, if_pos rfl] at hv2
 clear hgh
 obtain ⟨v, rfl, vo, vs, vm, gst, rfl, ho, hm, rfl, hlg, hpg⟩ := hv2
 obtain ⟨ao, co, rfl⟩ := slice_form ho
 obtain ⟨am, cm, rfl⟩ := slice_form hm
 obtain ⟨S, eS⟩ : ∃ S, S = saidV (numAt (x.reads (sectorN N 2 area 0).1) 4 8) (.slice ao (numAt (x.reads (sectorN N 2 area 0).1) 12 2) co) (.slice none 0 0) (.slice (some ⟨gst, 0, none⟩) (numAt (x.reads (sectorN N 2 area 0).1) 14 2) (numAt (x.reads (sectorN N 2 area 0).1) 14 2)) (numAt (x.reads (sectorN N 2 area 0).1) 16 4) (.slice am (numAt (x.reads (sectorN N 2 area 0).1) 12 2) cm) := ⟨_, rfl⟩
 rw [← eS]
 have hS6 : (Tryz.prog.info? 142).map (·.size) = some S.size := said_fitP S _ _ _ _ _ _ eS
 have hS1 : S.all (·.oneCell') = true := by rw [eS]; unfold saidV; rw [List.all_toArray]; rfl
 have hSz : (#[.int .i64 0, .slice none 0 0, .slice none 0 0, .slice none 0 0, .int .i64 0, .slice none 0 0] : Array Value).size = S.size := by rw [eS]; rfl
 have hmD : ∀ i, D.has i → i < w1.heap.size := fun i hi => by have := hD.out i hi; omega
 have R0 := Lib.hid (show RdRows D w N area x w2.heap.size w1.heap.size gst (w2.alloc (.cells S 142)) (x.plus 1) (.slice ao (numAt (headS x N area) 12 2) co) (.slice none 0 0) (.slice am (numAt (headS x N area) 12 2) cm) 0 (stateBy x N area (numAt (headS x N area) 14 2) []) S by
  have hba : Below w2.heap.size w2 (w2.alloc (.cells S 142)) := (Below.refl _ w2).alloc (Nat.le_refl _) _
  have hsz2 := hs2.out.size
  have hnD : ∀ i, w.heap.size ≤ i → ¬ D.has i := fun i hi hd => by have := hD.out i hd; omega
  refine ⟨⟨?_, ?_, (hs2.out.blk J0.out (hnD _ (by omega))).alloc _, (hs2.out.blk J1.out (hnD _ (by omega))).alloc _, (hs2.out.blk J2.out (hnD _ (by omega))).alloc _, (hs2.out.blk J3.out (hnD _ (by omega))).alloc _, (hs2.out.blk J4.out (hnD _ (by omega))).alloc _, Blk.new w2 _ _, by omega⟩, ?_, ?_, World.ownsRow_nil _ _ _ _, ?_, by omega, hlg, by omega⟩
  ·have h1 := hd2.below hba
   have e1 : x.plus 1 = x.stepped := by have h2 := plus_stepped x 0; rw [plus_zero] at h2; exact h2.symm
   rw [e1]
   exact h1
  ·exact (hs2.below hba).first HB1.out hD.out
  ·exact ownsRow_out (F := fun _ => False) (outB hba) ho (fun _ _ => id)
  ·exact ownsRow_out (F := fun _ => False) (outB hba) hm (fun _ _ => id)
  ·have h1 := hpg.alloc (.cells S 142)
   have e : ((stateBy x N area (numAt (headS x N area) 14 2) []).map vu8).toArray = Array.replicate (numAt (x.reads (sectorN N 2 area 0).1) 14 2) (vu8 0) := by
    rw [stateBy_nil]
    unfold headS
    simp
   rw [e]
   exact h1)
 have HES := Lib.hid eS
 clear hd2 hs2 ho hm hpg eS hlg J0 J1 J2 J3 J4 HD1 HB1 HB0 HDK HSY c0' c1' c2'
 have HNW := Lib.hid (Blk.new w2 142 (#[.int .i64 0, .slice none 0 0, .slice none 0 0, .slice none 0 0, .int .i64 0, .slice none 0 0]))
 go_wp2_with (refine wpList_store_row rfl 142 _ _ rfl w2.heap.size S rfl rfl 142 _ (heap_alloc_new w2 _) hS6 hSz hS1 ?_; rw [World.setRow_alloc_new])
 obtain ⟨W3, eW3⟩ : ∃ W, W = w2.alloc (.cells S 142) := ⟨_, rfl⟩
 obtain ⟨m1, em1⟩ : ∃ k, k = w1.heap.size := ⟨_, rfl⟩
 obtain ⟨gs, egs⟩ : ∃ k, k = w2.heap.size := ⟨_, rfl⟩
 rw [← em1] at R0
 rw [← eW3, ← egs] at R0 ⊢
 clear eW3 em1 egs HNW hsz1 hmD
 obtain ⟨n, en⟩ : ∃ n, n = numAt (headS x N area) 12 2 := ⟨_, rfl⟩
 obtain ⟨nb, enb⟩ : ∃ n, n = numAt (headS x N area) 14 2 := ⟨_, rfl⟩
 have EN := Lib.hid en
 have ENB := Lib.hid enb
 have HSV := Lib.hid (show S = #[.int .i64 (numAt (headS x N area) 4 8 : Nat), .slice ao n co, .slice none 0 0, .slice (some ⟨gst, 0, none⟩) nb nb, .int .i64 (numAt (headS x N area) 16 4 : Nat), .slice am n cm] by rw [HES.out, en, enb]; rfl)
 rw [HSV.out] at R0
 have hn64 : n ≤ 64 := by
  have h1 := HHD.out
  unfold headB at h1
  simp only [Bool.and_eq_true, decide_eq_true_eq] at h1
  rw [en]
  have := h1.2.2.2.1
  omega
 have hnb : nb ≤ 4096 := by
  have h1 := HHD.out
  unfold headB at h1
  simp only [Bool.and_eq_true, decide_eq_true_eq] at h1
  rw [enb]
  exact h1.2.2.2.2.1
 clear en enb HES hS6 hS1 hSz
 have c5 := R0.out.inv.said.cell_is 5 rfl
 rw [← ENB.out, ← EN.out] at R0
 refine wpAt_seq (wpAt_in (wpIn_wide.2 ?_))
 go_wp2_with fail
 go_loopw [34] (fun i wr => ∃ (j : Nat) (vb : Value), j ≤ n ∧ i = .int .i64 (j : Int) ∧ (∀ k, k < j → objE x N area (1 + k) k = 0) ∧ RdRows D w N area x gs m1 gst wr (x.plus (1 + j)) (.slice ao n co) vb (.slice am n cm) j (stateBy x N area nb []) #[.int .i64 (numAt (headS x N area) 4 8 : Nat), .slice ao n co, vb, .slice (some ⟨gst, 0, none⟩) nb nb, .int .i64 (numAt (headS x N area) 16 4 : Nat), .slice am n cm]) (fun i _ => n - (intOf i).toNat)
 case atStart => exact ⟨0, .slice none 0 0, Nat.zero_le _, rfl, fun k hk => absurd hk (Nat.not_lt_zero _), R0.out⟩
 case round =>
  obtain ⟨j, vb, hj, rfl, hok, hR⟩ := hrel
  have HOB := Lib.hid hok
  clear hok
  have R1 := Lib.hid hR
  clear hR R0 c5
  by_cases hlt : j < n
  ·have hltI : (j : Int) < (n : Int) := by omega
   have hsm := R1.out.sums
   rw [← EN.out] at hsm
   obtain ⟨gm, rfl, hgm, hcm⟩ := ownsRow_at hsm (k := j) (u := .int .i64 (numAt (headS x N area) (22 + 6 * j) 4 : Nat)) (by unfold sumsL; rw [List.getElem?_map, List.getElem?_range hlt]; rfl)
   clear hsm
   obtain ⟨q4, eq4⟩ : ∃ q, q = numAt (headS x N area) (22 + 6 * j) 4 := ⟨_, rfl⟩
   rw [← eq4] at hcm
   have HQ4 := Lib.hid eq4
   clear eq4
   have HOK := Lib.hid (HXO.out (1 + j) (by omega))
   have hnN : (n : Int) ≤ N := by
    have h1 := HHD.out
    unfold headB at h1
    simp only [Bool.and_eq_true, decide_eq_true_eq] at h1
    rw [EN.out]
    exact h1.2.2.2.1
   have HTH := Lib.hid (place_there (x := x) HASK.out 4 j (.inr (.inr ⟨rfl, by omega, by omega⟩)))
   obtain ⟨bS, ebS⟩ : ∃ b, b = objS x N area j := ⟨_, rfl⟩
   have HBS := Lib.hid ebS
   have HL := Lib.hid (show bS.length = 512 by rw [ebS]; exact x.reads_len (by have := HOK.out.sound; exact this) _)
   clear ebS
   by_cases herr : (x.plus (1 + j)).err (sectorN N 4 area j).1 = 0
   case neg =>
    have HE4 := Lib.hid herr
    have HC := Lib.hid (show readR x N area = (1 + (j + 1), (x.plus (1 + j)).err (sectorN N 4 area j).1) from readR_obj HE2.out HHD.out (by rw [← EN.out]; exact hlt) HOB.out (objE_err herr) herr)
    clear herr
    go_upto_region 9 with fail
    clear hcm
    have RC := Lib.hid (R1.out.below hD.out (Below.refl _ wr).drew)
    refine' wp_mergeK 6 7 (.pointer (some ⟨w.heap.size + 3, 0, none⟩)) (.pointer (some ⟨w.heap.size + 4, 0, none⟩)) [{ target := .fn (.func 68) #[], args := #[.pointer (some ⟨w.heap.size + 4, 0, none⟩)] }] (fun _ : Nat => ({ tmps := #[], defers := [] } : Act)) (fun _ _ => False) (RdGone D x N area w) ?_ (fun _ _ h => h.elim) ?_
    rotate_left 1
    ·exact fun ch a' w' h1 h2 h3 h4 => (show LeavesInM _ _ _ _ _ _ a'.defers _ _ by rw [h1]; exact read_given nf h4 hD.out _ h2 h3)
    refine wp_region_held_drew (S := (fun w' => w'.cell? ⟨w.heap.size, 0, none⟩ = some (ptr D.p) ∧ w'.cell? ⟨w.heap.size + 1, 0, none⟩ = some (.int .i64 N) ∧ w'.cell? ⟨w.heap.size + 2, 0, none⟩ = some (.int .i64 area))) (by kernel_rfl) (by first | exact ⟨RC.out.inv.b0.cell_is 0 rfl, RC.out.inv.b1.cell_is 0 rfl, RC.out.inv.b2.cell_is 0 rfl⟩ | ((try dsimp only); exact ⟨RC.out.inv.b0.cell_is 0 rfl, RC.out.inv.b1.cell_is 0 rfl, RC.out.inv.b2.cell_is 0 rfl⟩)) (fun hHeld => ?_)
    refine wpAnyH_take (i := 0) (v := ?v0f_1) rfl (by kernel_rfl) (by kernel_rfl) (by kernel_rfl) (keepsK (by rfl) (by rfl)) (Or.inl ⟨by rfl, ?hy0f_1⟩) (by assumption) ?_
    case hy0f_1 => (intro w hSw; (try dsimp only at hSw); go_simp; try with_reducible rfl)
    try simp only [Act.put, pz0, pz1, pz2, pz3, pz4, pz5]
    refine wpAnyH_take (i := 1) (v := ?v1f_2) rfl (by kernel_rfl) (by kernel_rfl) (by kernel_rfl) (keepsK (by rfl) (by rfl)) (Or.inl ⟨by rfl, ?hy1f_2⟩) (by assumption) ?_
    case hy1f_2 => (intro w hSw; (try dsimp only at hSw); go_simp; try with_reducible rfl)
    try simp only [Act.put, pz0, pz1, pz2, pz3, pz4, pz5]
    refine wpAnyH_take (i := 2) (v := ?v2f_3) rfl (by kernel_rfl) (by kernel_rfl) (by kernel_rfl) (keepsK (by rfl) (by rfl)) (Or.inl ⟨by rfl, ?hy2f_3⟩) (by assumption) ?_
    case hy2f_3 => (intro w hSw; (try dsimp only at hSw); go_simp; try with_reducible rfl)
    try simp only [Act.put, pz0, pz1, pz2, pz3, pz4, pz5]
    refine wpAnyH_take (i := 3) (v := ?v3f_4) rfl (by kernel_rfl) (by kernel_rfl) (by kernel_rfl) (keepsK (by rfl) (by rfl)) (Or.inl ⟨by rfl, ?hy3f_4⟩) (by assumption) ?_
    case hy3f_4 => (intro w hSw; (try dsimp only at hSw); go_simp; try with_reducible rfl)
    try simp only [Act.put, pz0, pz1, pz2, pz3, pz4, pz5]
    obtain ⟨wd, ewd⟩ : ∃ W, W = wr.drew := ⟨_, rfl⟩
    rw [← ewd] at RC hHeld ⊢
    clear ewd
    refine wpAnyH_ready (rs := [4, 6]) (by kernel_rfl) (by simp) ?_
    refine (AllReadyH.cons rfl (fun K hK => ?_) (AllReadyH.cons rfl (fun K hK => ?_) AllReadyH.nil))
    ·skip
     go_simp
     refine (at_any N 4 area (j : Int) _ (by unfold I64; omega)).mono ?_; rintro e wA ⟨rfl, hbA⟩
     have RC := Lib.hid (RC.out.below hD.out hbA)
     clear hbA
     go_wp2_with fail
     refine hK.out _ _ (by first | exact ⟨RC.out.inv.b0.cell_is 0 rfl, RC.out.inv.b1.cell_is 0 rfl, RC.out.inv.b2.cell_is 0 rfl⟩ | ((try dsimp only); exact ⟨RC.out.inv.b0.cell_is 0 rfl, RC.out.inv.b1.cell_is 0 rfl, RC.out.inv.b2.cell_is 0 rfl⟩)) (fun hHeld => ?_)
     clear hK K
     try simp only [Act.put, pz0, pz1, pz2, pz3, pz4, pz5]
     refine wpAnyH_ready (rs := [5, 6]) (by kernel_rfl) (by simp) ?_
     refine (AllReadyH.cons rfl (fun K hK => ?_) (AllReadyH.cons rfl (fun K hK => ?_) AllReadyH.nil))
     ·skip
      go_simp
      refine (lread_no D _ _ _ RC.out.inv.disk HOK.out HE4.out).mono ?_; rintro e wB ⟨rfl, hdB, hsB⟩
      rw [after_there (y := x.plus (1 + j)) HTH.out, plus_stepped] at hdB
      have RC := Lib.hid (RC.out.read hD.out hdB hsB)
      clear hdB hsB
      go_wp2_with fail
      exact ⟨⟨rfl, rfl, rfl⟩, RC.out.inv.gone rfl HC.out HE4.out⟩
     ·skip
      go_simp
      obtain ⟨g, eg⟩ : ∃ k, k = wA.heap.size := ⟨_, rfl⟩
      have hg : m1 ≤ g := by rw [eg]; have h1 := RC.out.inv.said.lt; have h2 := RC.out.lo; omega
      have RC := Lib.hid (RC.out.below hD.out ((Below.refl _ wA).alloc (Nat.le_refl _) (.cells Tryz.zeroCells111 111)))
      obtain ⟨wG, eG⟩ : ∃ W, W = wA.alloc (.cells Tryz.zeroCells111 111) := ⟨_, rfl⟩
      have BG := Lib.hid (show Blk wG g 111 (sector0.map vu8).toArray by rw [eG, eg, ← zero111]; exact Blk.new wA _ _)
      rw [← eG] at RC
      rw [← eG, ← eg]
      clear eG eg
      go_wp2_with fail
      refine hK.out _ _ (by first | exact ⟨RC.out.inv.b0.cell_is 0 rfl, RC.out.inv.b1.cell_is 0 rfl, RC.out.inv.b2.cell_is 0 rfl⟩ | ((try dsimp only); exact ⟨RC.out.inv.b0.cell_is 0 rfl, RC.out.inv.b1.cell_is 0 rfl, RC.out.inv.b2.cell_is 0 rfl⟩)) (fun hHeld => ?_)
      clear hK K
      try simp only [Act.put, pz0, pz1, pz2, pz3, pz4, pz5]
      refine rd 5 fun K hK => ?_
      go_simp
      refine (lread_no D _ _ _ RC.out.inv.disk HOK.out HE4.out).mono ?_; rintro e wB ⟨rfl, hdB, hsB⟩
      rw [after_there (y := x.plus (1 + j)) HTH.out, plus_stepped] at hdB
      have RC := Lib.hid (RC.out.read hD.out hdB hsB)
      clear hdB hsB
      go_wp2_with fail
      exact ⟨⟨rfl, rfl, rfl⟩, RC.out.inv.gone rfl HC.out HE4.out⟩
    ·skip
     go_simp
     obtain ⟨g, eg⟩ : ∃ k, k = wd.heap.size := ⟨_, rfl⟩
     have hg : m1 ≤ g := by rw [eg]; have h1 := RC.out.inv.said.lt; have h2 := RC.out.lo; omega
     have RC := Lib.hid (RC.out.below hD.out ((Below.refl _ wd).alloc (Nat.le_refl _) (.cells Tryz.zeroCells111 111)))
     obtain ⟨wG, eG⟩ : ∃ W, W = wd.alloc (.cells Tryz.zeroCells111 111) := ⟨_, rfl⟩
     have BG := Lib.hid (show Blk wG g 111 (sector0.map vu8).toArray by rw [eG, eg, ← zero111]; exact Blk.new wd _ _)
     rw [← eG] at RC
     rw [← eG, ← eg]
     clear eG eg
     go_wp2_with fail
     refine hK.out _ _ (by first | exact ⟨RC.out.inv.b0.cell_is 0 rfl, RC.out.inv.b1.cell_is 0 rfl, RC.out.inv.b2.cell_is 0 rfl⟩ | ((try dsimp only); exact ⟨RC.out.inv.b0.cell_is 0 rfl, RC.out.inv.b1.cell_is 0 rfl, RC.out.inv.b2.cell_is 0 rfl⟩)) (fun hHeld => ?_)
     clear hK K
     try simp only [Act.put, pz0, pz1, pz2, pz3, pz4, pz5]
     refine rd 4 fun K hK => ?_
     go_simp
     refine (at_any N 4 area (j : Int) _ (by unfold I64; omega)).mono ?_; rintro e wA ⟨rfl, hbA⟩
     have RC := Lib.hid (RC.out.below hD.out hbA)
     have BG := Lib.hid (BG.out.below hbA BG.out.lt)
     clear hbA
     go_wp2_with fail
     refine hK.out _ _ (by first | exact ⟨RC.out.inv.b0.cell_is 0 rfl, RC.out.inv.b1.cell_is 0 rfl, RC.out.inv.b2.cell_is 0 rfl⟩ | ((try dsimp only); exact ⟨RC.out.inv.b0.cell_is 0 rfl, RC.out.inv.b1.cell_is 0 rfl, RC.out.inv.b2.cell_is 0 rfl⟩)) (fun hHeld => ?_)
     clear hK K
     try simp only [Act.put, pz0, pz1, pz2, pz3, pz4, pz5]
     refine rd 5 fun K hK => ?_
     go_simp
     refine (lread_no D _ _ _ RC.out.inv.disk HOK.out HE4.out).mono ?_; rintro e wB ⟨rfl, hdB, hsB⟩
     rw [after_there (y := x.plus (1 + j)) HTH.out, plus_stepped] at hdB
     have RC := Lib.hid (RC.out.read hD.out hdB hsB)
     clear hdB hsB
     go_wp2_with fail
     exact ⟨⟨rfl, rfl, rfl⟩, RC.out.inv.gone rfl HC.out HE4.out⟩
   have HE4 := Lib.hid herr
   clear herr
   go_upto_region 9 with fail
   clear hcm
   refine' wp_merge (_ : Nat → Act) (fun g W' => RdRows D w N area x gs m1 gst W' (x.plus (1 + (j + 1))) (.slice ao n co) vb (.slice (some ⟨gm, 0, none⟩) n cm) j (stateBy x N area nb []) #[.int .i64 (numAt (headS x N area) 4 8 : Nat), .slice ao n co, vb, .slice (some ⟨gst, 0, none⟩) nb nb, .int .i64 (numAt (headS x N area) 16 4 : Nat), .slice (some ⟨gm, 0, none⟩) n cm] ∧ Blk W' g 111 (bS.map vu8).toArray ∧ m1 ≤ g) ?_ ?_
   rotate_left 1
   ·have RC := Lib.hid (R1.out.below hD.out (Below.refl _ wr).drew)
    skip
    refine wp_region_held_drew (S := (fun w' => w'.cell? ⟨w.heap.size, 0, none⟩ = some (ptr D.p) ∧ w'.cell? ⟨w.heap.size + 1, 0, none⟩ = some (.int .i64 N) ∧ w'.cell? ⟨w.heap.size + 2, 0, none⟩ = some (.int .i64 area))) (by kernel_rfl) (by first | exact ⟨RC.out.inv.b0.cell_is 0 rfl, RC.out.inv.b1.cell_is 0 rfl, RC.out.inv.b2.cell_is 0 rfl⟩ | ((try dsimp only); exact ⟨RC.out.inv.b0.cell_is 0 rfl, RC.out.inv.b1.cell_is 0 rfl, RC.out.inv.b2.cell_is 0 rfl⟩)) (fun hHeld => ?_)
    refine tk 0 ?_
    refine tk 1 ?_
    refine tk 2 ?_
    refine tk 3 ?_
    obtain ⟨wd, ewd⟩ : ∃ W, W = wr.drew := ⟨_, rfl⟩
    rw [← ewd] at RC hHeld ⊢
    clear ewd
    refine wpAnyH_ready (rs := [4, 6]) (by kernel_rfl) (by simp) ?_
    refine (AllReadyH.cons rfl (fun K hK => ?_) (AllReadyH.cons rfl (fun K hK => ?_) AllReadyH.nil))
    ·skip
     go_simp
     refine (at_any N 4 area (j : Int) _ (by unfold I64; omega)).mono ?_; rintro e wA ⟨rfl, hbA⟩
     have RC := Lib.hid (RC.out.below hD.out hbA)
     clear hbA
     go_wp2_with fail
     refine hK.out _ _ (by first | exact ⟨RC.out.inv.b0.cell_is 0 rfl, RC.out.inv.b1.cell_is 0 rfl, RC.out.inv.b2.cell_is 0 rfl⟩ | ((try dsimp only); exact ⟨RC.out.inv.b0.cell_is 0 rfl, RC.out.inv.b1.cell_is 0 rfl, RC.out.inv.b2.cell_is 0 rfl⟩)) (fun hHeld => ?_)
     clear hK K
     try simp only [Act.put, pz0, pz1, pz2, pz3, pz4, pz5]
     refine wpAnyH_ready (rs := [5, 6]) (by kernel_rfl) (by simp) ?_
     refine (AllReadyH.cons rfl (fun K hK => ?_) (AllReadyH.cons rfl (fun K hK => ?_) AllReadyH.nil))
     ·skip
      go_simp
      refine (lread_yes D _ _ _ RC.out.inv.disk HOK.out HE4.out).mono ?_; rintro e wB ⟨rfl, hdB, hsB⟩
      rw [plus_stepped] at hdB
      have RC := Lib.hid (RC.out.read hD.out hdB hsB)
      clear hdB hsB
      go_wp2_with fail
      refine hK.out _ _ (by first | exact ⟨RC.out.inv.b0.cell_is 0 rfl, RC.out.inv.b1.cell_is 0 rfl, RC.out.inv.b2.cell_is 0 rfl⟩ | ((try dsimp only); exact ⟨RC.out.inv.b0.cell_is 0 rfl, RC.out.inv.b1.cell_is 0 rfl, RC.out.inv.b2.cell_is 0 rfl⟩)) (fun hHeld => ?_)
      clear hK K
      try simp only [Act.put, pz0, pz1, pz2, pz3, pz4, pz5]
      refine rd 6 fun K hK => ?_
      go_simp
      obtain ⟨g, eg⟩ : ∃ k, k = wB.heap.size := ⟨_, rfl⟩
      have hg : m1 ≤ g := by rw [eg]; have h1 := RC.out.inv.said.lt; have h2 := RC.out.lo; omega
      have RC := Lib.hid (RC.out.below hD.out ((Below.refl _ wB).alloc (Nat.le_refl _) (.cells Tryz.zeroCells111 111)))
      obtain ⟨wG, eG⟩ : ∃ W, W = wB.alloc (.cells Tryz.zeroCells111 111) := ⟨_, rfl⟩
      have BG := Lib.hid (show Blk wG g 111 (sector0.map vu8).toArray by rw [eG, eg, ← zero111]; exact Blk.new wB _ _)
      rw [← eG] at RC
      rw [← eG, ← eg]
      clear eG eg
      go_wp2_with fail
      refine hK.out _ _ (by first | exact ⟨RC.out.inv.b0.cell_is 0 rfl, RC.out.inv.b1.cell_is 0 rfl, RC.out.inv.b2.cell_is 0 rfl⟩ | ((try dsimp only); exact ⟨RC.out.inv.b0.cell_is 0 rfl, RC.out.inv.b1.cell_is 0 rfl, RC.out.inv.b2.cell_is 0 rfl⟩)) (fun hHeld => ?_)
      clear hK K
      try simp only [Act.put, pz0, pz1, pz2, pz3, pz4, pz5]
      refine rd 7 fun K hK => ?_
      rw [if_pos (by rfl)]
      refine wp_store_row 111 _ _ rfl g (bS.map vu8).toArray rfl (by first | rfl | (unfold sectorV; rw [HBS.out]; rfl)) 111 _ BG.out (sector_size _ HL.out) (sector_eq _ _ sector0_len HL.out) (sector_all _) ?_
      have RC := Lib.hid (RC.out.sector hD.out BG.out hg (bS.map vu8).toArray)
      have BG := Lib.hid (BG.out.row (bS.map vu8).toArray)
      refine hK.out _ _ (by first | exact ⟨RC.out.inv.b0.cell_is 0 rfl, RC.out.inv.b1.cell_is 0 rfl, RC.out.inv.b2.cell_is 0 rfl⟩ | ((try dsimp only); exact ⟨RC.out.inv.b0.cell_is 0 rfl, RC.out.inv.b1.cell_is 0 rfl, RC.out.inv.b2.cell_is 0 rfl⟩)) (fun hHeld => ?_)
      clear hK K
      try simp only [Act.put, pz0, pz1, pz2, pz3, pz4, pz5]
      refine wpAnyH_done (by kernel_rfl) ?_ _
      try simp only [Act.put, pz0, pz1, pz2, pz3, pz4, pz5]
      refine ⟨g, ?_, RC.out, BG.out, hg⟩
      with_reducible rfl
     ·skip
      go_simp
      obtain ⟨g, eg⟩ : ∃ k, k = wA.heap.size := ⟨_, rfl⟩
      have hg : m1 ≤ g := by rw [eg]; have h1 := RC.out.inv.said.lt; have h2 := RC.out.lo; omega
      have RC := Lib.hid (RC.out.below hD.out ((Below.refl _ wA).alloc (Nat.le_refl _) (.cells Tryz.zeroCells111 111)))
      obtain ⟨wG, eG⟩ : ∃ W, W = wA.alloc (.cells Tryz.zeroCells111 111) := ⟨_, rfl⟩
      have BG := Lib.hid (show Blk wG g 111 (sector0.map vu8).toArray by rw [eG, eg, ← zero111]; exact Blk.new wA _ _)
      rw [← eG] at RC
      rw [← eG, ← eg]
      clear eG eg
      go_wp2_with fail
      refine hK.out _ _ (by first | exact ⟨RC.out.inv.b0.cell_is 0 rfl, RC.out.inv.b1.cell_is 0 rfl, RC.out.inv.b2.cell_is 0 rfl⟩ | ((try dsimp only); exact ⟨RC.out.inv.b0.cell_is 0 rfl, RC.out.inv.b1.cell_is 0 rfl, RC.out.inv.b2.cell_is 0 rfl⟩)) (fun hHeld => ?_)
      clear hK K
      try simp only [Act.put, pz0, pz1, pz2, pz3, pz4, pz5]
      refine rd 5 fun K hK => ?_
      go_simp
      refine (lread_yes D _ _ _ RC.out.inv.disk HOK.out HE4.out).mono ?_; rintro e wB ⟨rfl, hdB, hsB⟩
      rw [plus_stepped] at hdB
      have RC := Lib.hid (RC.out.read hD.out hdB hsB)
      have BG := Lib.hid (hsB.out.blk BG.out (fun hd => by have := hD.out _ hd; have := RC.out.lo; omega))
      clear hdB hsB
      go_wp2_with fail
      refine hK.out _ _ (by first | exact ⟨RC.out.inv.b0.cell_is 0 rfl, RC.out.inv.b1.cell_is 0 rfl, RC.out.inv.b2.cell_is 0 rfl⟩ | ((try dsimp only); exact ⟨RC.out.inv.b0.cell_is 0 rfl, RC.out.inv.b1.cell_is 0 rfl, RC.out.inv.b2.cell_is 0 rfl⟩)) (fun hHeld => ?_)
      clear hK K
      try simp only [Act.put, pz0, pz1, pz2, pz3, pz4, pz5]
      refine rd 7 fun K hK => ?_
      rw [if_pos (by rfl)]
      refine wp_store_row 111 _ _ rfl g (bS.map vu8).toArray rfl (by first | rfl | (unfold sectorV; rw [HBS.out]; rfl)) 111 _ BG.out (sector_size _ HL.out) (sector_eq _ _ sector0_len HL.out) (sector_all _) ?_
      have RC := Lib.hid (RC.out.sector hD.out BG.out hg (bS.map vu8).toArray)
      have BG := Lib.hid (BG.out.row (bS.map vu8).toArray)
      refine hK.out _ _ (by first | exact ⟨RC.out.inv.b0.cell_is 0 rfl, RC.out.inv.b1.cell_is 0 rfl, RC.out.inv.b2.cell_is 0 rfl⟩ | ((try dsimp only); exact ⟨RC.out.inv.b0.cell_is 0 rfl, RC.out.inv.b1.cell_is 0 rfl, RC.out.inv.b2.cell_is 0 rfl⟩)) (fun hHeld => ?_)
      clear hK K
      try simp only [Act.put, pz0, pz1, pz2, pz3, pz4, pz5]
      refine wpAnyH_done (by kernel_rfl) ?_ _
      try simp only [Act.put, pz0, pz1, pz2, pz3, pz4, pz5]
      refine ⟨g, ?_, RC.out, BG.out, hg⟩
      with_reducible rfl
    ·skip
     go_simp
     obtain ⟨g, eg⟩ : ∃ k, k = wd.heap.size := ⟨_, rfl⟩
     have hg : m1 ≤ g := by rw [eg]; have h1 := RC.out.inv.said.lt; have h2 := RC.out.lo; omega
     have RC := Lib.hid (RC.out.below hD.out ((Below.refl _ wd).alloc (Nat.le_refl _) (.cells Tryz.zeroCells111 111)))
     obtain ⟨wG, eG⟩ : ∃ W, W = wd.alloc (.cells Tryz.zeroCells111 111) := ⟨_, rfl⟩
     have BG := Lib.hid (show Blk wG g 111 (sector0.map vu8).toArray by rw [eG, eg, ← zero111]; exact Blk.new wd _ _)
     rw [← eG] at RC
     rw [← eG, ← eg]
     clear eG eg
     go_wp2_with fail
     refine hK.out _ _ (by first | exact ⟨RC.out.inv.b0.cell_is 0 rfl, RC.out.inv.b1.cell_is 0 rfl, RC.out.inv.b2.cell_is 0 rfl⟩ | ((try dsimp only); exact ⟨RC.out.inv.b0.cell_is 0 rfl, RC.out.inv.b1.cell_is 0 rfl, RC.out.inv.b2.cell_is 0 rfl⟩)) (fun hHeld => ?_)
     clear hK K
     try simp only [Act.put, pz0, pz1, pz2, pz3, pz4, pz5]
     refine rd 4 fun K hK => ?_
     go_simp
     refine (at_any N 4 area (j : Int) _ (by unfold I64; omega)).mono ?_; rintro e wA ⟨rfl, hbA⟩
     have RC := Lib.hid (RC.out.below hD.out hbA)
     have BG := Lib.hid (BG.out.below hbA BG.out.lt)
     clear hbA
     go_wp2_with fail
     refine hK.out _ _ (by first | exact ⟨RC.out.inv.b0.cell_is 0 rfl, RC.out.inv.b1.cell_is 0 rfl, RC.out.inv.b2.cell_is 0 rfl⟩ | ((try dsimp only); exact ⟨RC.out.inv.b0.cell_is 0 rfl, RC.out.inv.b1.cell_is 0 rfl, RC.out.inv.b2.cell_is 0 rfl⟩)) (fun hHeld => ?_)
     clear hK K
     try simp only [Act.put, pz0, pz1, pz2, pz3, pz4, pz5]
     refine rd 5 fun K hK => ?_
     go_simp
     refine (lread_yes D _ _ _ RC.out.inv.disk HOK.out HE4.out).mono ?_; rintro e wB ⟨rfl, hdB, hsB⟩
     rw [plus_stepped] at hdB
     have RC := Lib.hid (RC.out.read hD.out hdB hsB)
     have BG := Lib.hid (hsB.out.blk BG.out (fun hd => by have := hD.out _ hd; have := RC.out.lo; omega))
     clear hdB hsB
     go_wp2_with fail
     refine hK.out _ _ (by first | exact ⟨RC.out.inv.b0.cell_is 0 rfl, RC.out.inv.b1.cell_is 0 rfl, RC.out.inv.b2.cell_is 0 rfl⟩ | ((try dsimp only); exact ⟨RC.out.inv.b0.cell_is 0 rfl, RC.out.inv.b1.cell_is 0 rfl, RC.out.inv.b2.cell_is 0 rfl⟩)) (fun hHeld => ?_)
     clear hK K
     try simp only [Act.put, pz0, pz1, pz2, pz3, pz4, pz5]
     refine rd 7 fun K hK => ?_
     rw [if_pos (by rfl)]
     refine wp_store_row 111 _ _ rfl g (bS.map vu8).toArray rfl (by first | rfl | (unfold sectorV; rw [HBS.out]; rfl)) 111 _ BG.out (sector_size _ HL.out) (sector_eq _ _ sector0_len HL.out) (sector_all _) ?_
     have RC := Lib.hid (RC.out.sector hD.out BG.out hg (bS.map vu8).toArray)
     have BG := Lib.hid (BG.out.row (bS.map vu8).toArray)
     refine hK.out _ _ (by first | exact ⟨RC.out.inv.b0.cell_is 0 rfl, RC.out.inv.b1.cell_is 0 rfl, RC.out.inv.b2.cell_is 0 rfl⟩ | ((try dsimp only); exact ⟨RC.out.inv.b0.cell_is 0 rfl, RC.out.inv.b1.cell_is 0 rfl, RC.out.inv.b2.cell_is 0 rfl⟩)) (fun hHeld => ?_)
     clear hK K
     try simp only [Act.put, pz0, pz1, pz2, pz3, pz4, pz5]
     refine wpAnyH_done (by kernel_rfl) ?_ _
     try simp only [Act.put, pz0, pz1, pz2, pz3, pz4, pz5]
     refine ⟨g, ?_, RC.out, BG.out, hg⟩
     with_reducible rfl
   rintro g W9 ⟨hR9, hB9, hg9⟩
   have R9 := Lib.hid hR9
   have B9 := Lib.hid hB9
   clear hR9 hB9 HOK R1 hgm hltI
   have c1 := R9.out.inv.b1.cell_is 0 rfl
   have hsz9 := sector_size _ HL.out
   go_wp2_with (refine wpList_load_row rfl 111 _ rfl g rfl 111 (bS.map vu8).toArray (0, 0) _ B9.out Tryz.underlying111 rfl hsz9 ?_)
   have hcg := cget_any bS HL.out N W9
   unfold sectorV at hcg
   refine hcg.mono ?_; rintro e wC ⟨rfl, hbC⟩
   clear hcg c1
   obtain ⟨eG, eeG⟩ : ∃ q, q = getE bS N := ⟨_, rfl⟩
   obtain ⟨oG, eoG⟩ : ∃ q, q = getO bS N := ⟨_, rfl⟩
   rw [← eeG, ← eoG]
   have h508 : (bS.take 508).length = 508 := by rw [List.length_take, HL.out]; rfl
   have hok : oG.ok := by rw [eoG]; exact getO_ok HL.out N
   have HOG := Lib.hid (And.intro eeG eoG)
   clear eeG eoG
   obtain ⟨X, eX⟩ : ∃ X, X = oG.cells.toArray := ⟨_, rfl⟩
   rw [← eX]
   have hxi : (Tryz.prog.info? 62).map (·.size) = some X.size := by rw [eX, List.size_toArray, ObjD.len hok]; exact objZ_info
   have hx1 : X.all (·.oneCell') = true := by rw [eX, List.all_toArray]; exact List.all_eq_true.2 (fun v hv => obj_one _ v hv)
   have hxz : Tryz.zeroCells62.size = X.size := by rw [eX, zeroObj, List.size_toArray, List.size_toArray, ObjD.len hok]; rfl
   have HEX := Lib.hid eX
   have RC := Lib.hid (R9.out.below hD.out (hbC.trans (((Below.refl _ wC).alloc (Nat.le_refl _) (.cells X 62)).mono hbC.size)))
   have BC := Lib.hid ((B9.out.below hbC B9.out.lt).alloc (.cells X 62))
   have XC := Lib.hid (Blk.new wC 62 X)
   clear hbC eX R9 B9
   by_cases hg0 : eG = 0
   case neg =>
    have hbe : (eG == 0) = false := by simpa using hg0
    have HC := Lib.hid (show readR x N area = (1 + (j + 1), 170) from readR_obj HE2.out HHD.out (by rw [← EN.out]; exact hlt) HOB.out (objE_no HE4.out (fun hgo => hg0 (by rw [HOG.out.1, HBS.out]; exact hgo.1))) (by decide))
    go_upto_region 11 with (refine wpList_store_row rfl 62 _ _ rfl wC.heap.size X rfl rfl 62 _ (heap_alloc_new wC _) hxi hxz hx1 ?_; rw [World.setRow_alloc_new])
    go_wp2_with fail
    refine (must_no 170 _).mono ?_; rintro e wE ⟨rfl, rfl⟩
    go_wp2_with fail
    exact read_given nf (RC.out.inv.gone rfl HC.out (by decide)) hD.out _ rfl rfl
   subst hg0
   have eo2 : oG = objOf (bS.take 508) := by rw [HOG.out.2]; unfold getO; rw [← HOG.out.1, if_pos rfl]
   have HEX := Lib.hid (show X = (objOf (bS.take 508)).cells.toArray by rw [HEX.out, eo2])
   clear eo2
   go_upto_region 11 with (refine wpList_store_row rfl 62 _ _ rfl wC.heap.size X rfl rfl 62 _ (heap_alloc_new wC _) hxi hxz hx1 ?_; rw [World.setRow_alloc_new])
   obtain ⟨wX, eWX⟩ : ∃ W, W = wC.alloc (.cells X 62) := ⟨_, rfl⟩
   obtain ⟨gx, egx⟩ : ∃ k, k = wC.heap.size := ⟨_, rfl⟩
   rw [← eWX] at RC BC XC ⊢
   rw [← egx] at XC ⊢
   clear eWX egx
   have HBY := Lib.hid (show BytesIn wX wX.heap.size (.slice (some ⟨g, 0, none⟩) 508 512) (bS.take 508) by
    have h := blk_bytes BC.out 508 (by rw [HL.out]; decide) (by rw [HL.out]; decide)
    rwa [HL.out] at h)
   go_wp2_with fail
   refine (crc_any _ _ _ HBY.out).mono ?_; rintro e wD ⟨rfl, hbD⟩
   have RD := Lib.hid (RC.out.below hD.out hbD)
   have XD := Lib.hid (XC.out.below hbD XC.out.lt)
   obtain ⟨qc, eqc⟩ : ∃ q, q = (crcW (bS.take 508)).toNat := ⟨_, rfl⟩
   have hqw : IntKind.i64.wrap (qc : Int) = (qc : Int) := by
    have h1 := (crcW (bS.take 508)).isLt
    rw [IntKind.wrap_i64]
    omega
   unfold vu32
   rw [← eqc]
   have HQC := Lib.hid eqc
   clear hbD HBY RC BC XC eqc
   by_cases hqq : qc = q4
   case neg =>
    have hqi : ¬ (qc : Int) = (q4 : Int) := fun e => hqq (by omega)
    have hqb : ((qc : Int) == (q4 : Int)) = false := by simpa using hqi
    have HC := Lib.hid (show readR x N area = (1 + (j + 1), 170) from readR_obj HE2.out HHD.out (by rw [← EN.out]; exact hlt) HOB.out (objE_no HE4.out (fun hgo => hqq (by rw [HQC.out, HQ4.out, HBS.out]; exact hgo.2))) (by decide))
    go_wp2_with fail
    refine (must_no 170 _).mono ?_; rintro e wE ⟨rfl, rfl⟩
    go_wp2_with fail
    exact read_given nf (RD.out.inv.gone rfl HC.out (by decide)) hD.out _ rfl rfl
   subst hqq
   have HGJ := Lib.hid (show objE x N area (1 + j) j = 0 from objE_yes HE4.out ⟨by rw [← HBS.out]; exact HOG.out.1.symm, by rw [← HBS.out, ← HQ4.out]; exact HQC.out.symm⟩)
   go_wp2_with fail
   refine (must_yes 170 _).mono ?_; rintro e wE ⟨rfl, rfl⟩
   have c2 := RD.out.inv.said.cell_is 2 rfl
   obtain ⟨i0, z0, hi0, hz0, hz1, hz2, hz3⟩ := info_object
   have hX163 : X.size = 163 := by rw [HEX.out, List.size_toArray]; exact ObjD.len (objOf_ok _ h508)
   have RE := Lib.hid (RD.out.below hD.out ((Below.refl _ wD).alloc (Nat.le_refl _) (.cells X 62)))
   have XE := Lib.hid (Blk.new wD 62 X)
   have hbs : m1 ≤ (wD.alloc (.cells X 62)).heap.size := by have h1 := RD.out.inv.said.lt; have h2 := RD.out.lo; simp; omega
   have HEN := Lib.hid (show objsL x N area j ++ X.toList = objsL x N area (j + 1) by rw [objsL_snoc, HEX.out, List.toList_toArray, HBS.out])
   have hone : ∀ u ∈ X.toList, u.oneCell' = true := by rw [HEX.out]; exact fun u hu => obj_one _ u hu
   go_wp2_with (first
    | (refine wpList_load_row rfl 62 _ rfl gx rfl 62 X (0, 0) _ XD.out Tryz.underlying62 rfl hxi ?_)
    | (refine wpList_plain rfl fun K hK => wp_buildSliceL 25 62 1 _ rfl X i0 z0 Tryz.underlying25 hi0 hz0 (by rw [hz1]; decide) (by rw [hz1]; decide) (by exact obj_row _ hX163 i0 z0 hz1 hz3) (hK _ _ ?_))
    | (refine wpList_append_lies _ rfl (.tmp 64) (.tmp 66) 25 rfl m1 62 i0 z0 163 856 Tryz.underlying25 hi0 hz0 hz1 hz2 hz3 (by omega) vb j (objsL x N area j) rfl RE.out.objs ⟨wD.heap.size, 0, none⟩ 1 1 X.toList rfl (by simp [hX163]) (World.news_of_block (cs := X) (t := 62) (fr := (0, 0)) XE.out) hone (by omega) (by unfold maxLen; omega) (by omega) hbs _ rfl ?_; intro gn capn wF hOF hgF hatF hltF; have RF := Lib.hid (RE.out.obj hD.out hgF (by rw [← HEN.out]; exact hOF)); have c3 := RF.out.inv.said.cell_is 2 rfl; have f3 := RF.out.inv.said.frozen 2; clear hOF hgF hatF hltF))
   go_roundw
   case rel =>
    refine ⟨j + 1, _, hlt, by push_cast; rfl, fun k hk => ?_, RF.out.set_ hD.out 2 _⟩
    rcases Nat.lt_or_ge k j with h | h
    ·exact HOB.out k h
    ·obtain rfl : k = j := by omega
     exact HGJ.out
   case measure => simp [intOf]; omega
  ·obtain rfl : j = n := by omega
   have c3 := R1.out.inv.said.cell_is 3 rfl
   go_wp2_with fail
   refine wpAt_seq (wpAt_seq (wpAt_in (wpIn_wide.2 ?_)))
   go_wp2_with fail
   refine (callsIn_wide.1 (parts_in 5 _ _ _ _)).mono ?_; rintro e w20 ⟨rfl, rfl⟩
   go_wp2_with fail
   clear c3
   obtain ⟨Wl, eWl⟩ : ∃ Wl, Wl = wr.alloc (.cells #[.slice (some ⟨gst, 0, none⟩) nb nb] 26) := ⟨_, rfl⟩
   obtain ⟨gB, egB⟩ : ∃ k, k = wr.heap.size := ⟨_, rfl⟩
   have R2 := Lib.hid (show RdRows D w N area x gs m1 gst Wl (x.plus (1 + (j + 0))) (.slice ao j co) vb (.slice am j cm) j (stateBy x N area nb []) #[.int .i64 (numAt (headS x N area) 4 8 : Nat), .slice ao j co, vb, .slice (some ⟨gst, 0, none⟩) nb nb, .int .i64 (numAt (headS x N area) 16 4 : Nat), .slice am j cm] by rw [eWl]; exact R1.out.below hD.out ((Below.refl _ wr).alloc (Nat.le_refl _) _))
   have KBs : Blk Wl gB 26 #[.slice (some ⟨gst, 0, none⟩) nb nb] := by rw [eWl, egB]; exact Blk.new wr _ _
   rw [← eWl, ← egB]
   clear eWl egB R1
   have hpg : PageAt gst nb Wl := ⟨_, stateBy_len x N area nb [], R2.out.page⟩
   have hgl := R2.out.page.lt
   have hsl := R2.out.inv.said.lt
   have hlo := R2.out.lo
   have hCD : ∀ i, D.has i → i < Wl.heap.size := fun i hi => by have := hD.out i hi; omega
   have hrl : ∀ i, (Value.slice ao j co).ownBlock = some i ∨ vb.ownBlock = some i ∨ (Value.slice am j cm).ownBlock = some i → i < Wl.heap.size := by
    rintro i (h | h | h)
    ·exact (R2.out.oids.lt i h).2
    ·exact (R2.out.objs.lt i h).2
    ·exact (R2.out.sums.lt i h).2
   refine wpAt_block ?_
   refine rangeBP (α := Fin (chunksN nb) × SecS) (gf := 107) (lb := #[.pointer (some ⟨gB, 0, none⟩)]) ⟨_, Tryz.func20⟩ (fun y t => ((t.setIfInBounds 75 (.int .i64 (y.1.val : Int))).setIfInBounds 76 (.agg (y.2.1.map vu8).toArray)).setIfInBounds 15 (.int .i64 (y.1.val : Int)))
    rfl (enters_of Tryz.func107 (by kernel_rfl) rfl)
    (parts2p_m (nf - 1) (by omega) gB (RdT gst) gst nb Wl (fun i hi => ⟨fun h => h.elim (by decide) (fun h => h.elim (by decide) (by omega)), fun h => h.elim (by decide) (fun h => h.elim (by decide) (by omega)), fun h => h.elim (by decide) (fun h => h.elim (by decide) (by omega))⟩) KBs hpg (by omega) hgl) KeepsU.trans (KeepsU.put (by omega)) (fun _ => rfl)
    (fun pre X => (∀ k, k < pre.length → partE x N area nb (1 + (j + k)) k = 0) ∧ RdRows D w N area x gs m1 gst X (x.plus (1 + (j + pre.length))) (.slice ao j co) vb (.slice am j cm) j (stateBy x N area nb (pre.map (·.1.val))) #[.int .i64 (numAt (headS x N area) 4 8 : Nat), .slice ao j co, vb, .slice (some ⟨gst, 0, none⟩) nb nb, .int .i64 (numAt (headS x N area) 16 4 : Nat), .slice am j cm])
    (fun _ _ _ => False) (fun ch _ X => RdGone D x N area w ch X)
    (fun s A A' row hs hg hr => ⟨hs.1, RdRows.far hs.2 hD.out (out_grown hg) Wl.heap.size (fun i e => (hr i e).1) ⟨hsl, hgl, by omega⟩ hrl⟩)
    (fun _ _ _ _ _ hs _ _ => hs)
    (fun ch s A A' row hs hg hr => hs.out hD.out (out_grown hg) (fun i e _ => by have := (hr i e).1; omega))
    ⟨fun k hk => absurd hk (Nat.not_lt_zero _), R2.out⟩ ?assign ?body ?done ?pan ?stop
   case stop => intro _ _ _ _ _ _ h _; exact h.elim
   case pan =>
    intro Dd ch pre X hDd _ hI hK
    refine ⟨by simp, .inl ⟨_, _, rfl, run_takeDeferred hK, ?_⟩⟩
    exact read_given nf (RdGone.out (W' := X.putObj Dd (.deferred none)) hI hD.out (F := fun i => i = Dd) ⟨rfl, rfl, rfl, by simp, fun k hk hn => World.putObj_heap_other hn⟩ (fun i e _ => by omega)) hD.out _ rfl rfl
   case assign =>
    intro l2 pre y X K hI hXs hK
    dsimp only
    rw [show vp2 y = #[.int .i64 (y.1.val : Int), .agg (y.2.1.map vu8).toArray] from rfl, zip2]
    simp only [List.setIfInBounds_toArray, List.set_cons_zero, List.set_cons_succ]
    gi_wp2
    have h := hK X (KeepsFrom.refl _ _) (KeepsU.refl _) hI
    simp only [List.setIfInBounds_toArray, List.set_cons_zero, List.set_cons_succ] at h
    exact h
   case body =>
    rintro l2 pre ⟨⟨i, hi⟩, sec⟩ X ⟨hpa, hI⟩ hix hlen hXs
    replace hix : i = pre.length := hix
    simp only [List.setIfInBounds_toArray, List.set_cons_zero, List.set_cons_succ]
    have hp8 : pre.length < 9 := by
     have h1 : pre.length < (nb + 511) / 512 := hlen
     clear hlen hi hXs hI
     omega
    have hiI : 512 * i < nb := by
     have h1 : i < (nb + 511) / 512 := hi
     clear hlen hi hXs hI
     omega
    have HPA := Lib.hid hpa
    have HIX := Lib.hid hix
    rw [← hix] at hI
    clear hix hpa
    have HOK3 := Lib.hid (HXO.out (1 + (j + i)) (by have := HIX.out; omega))
    have HTH := Lib.hid (place_there (x := x) HASK.out 3 i (.inr (.inl ⟨rfl, by omega, by have := HIX.out; have h1 : pre.length < (nb + 511) / 512 := hlen; omega⟩)))
    obtain ⟨bP, ebP⟩ : ∃ b, b = partS x N area i := ⟨_, rfl⟩
    have HBP := Lib.hid ebP
    have HLP := Lib.hid (show bP.length = 512 by rw [ebP]; exact x.reads_len (by have := HOK3.out.sound; exact this) _)
    clear ebP
    have R3 := Lib.hid hI
    have HDX := Lib.hid hI.inv.disk
    clear hI
    have hki : ∀ (W' : World) (S' : Array Value) (st' : List UInt8) (y' : DiskD), st'.length = nb → RdP D w N area x gs m1 gst W' y' (.slice ao j co) vb (.slice am j cm) j st' S' X → KeepsFrom Wl.heap.size X W' := fun W' S' st' y' hl hR => (hR.keepsU HDX.out (C := Wl.heap.size) hCD hgl (by omega) hl).1
    have HKI := Lib.hid hki
    clear hki
    by_cases herr : (x.plus (1 + (j + i))).err (sectorN N 3 area i).1 = 0
    case neg =>
     have HE3 := Lib.hid herr
     have HC := Lib.hid (show readR x N area = (1 + (j + i) + 1, (x.plus (1 + (j + i))).err (sectorN N 3 area i).1) from readR_part HE2.out HHD.out EN.out ENB.out HOB.out hi (fun k hk => HPA.out k (by rw [← HIX.out]; exact hk)) (partE_err herr) herr)
     clear herr
     gi_wp2
     refine' wpIn_mergeP (fun _ : Nat => ({ tmps := #[], defers := [] } : Act)) (fun _ _ => False) (fun ch W' => KeepsFrom Wl.heap.size X W' ∧ RdGone D x N area w ch W') ?_ (fun _ _ h => h.elim) (fun ch a' w' h1 h2 => ⟨h1, h2⟩)
     have RC := Lib.hid (RdP.below ⟨R3.out, Out.refl _ _⟩ hD.out (Below.refl _ X).drew)
     refine region_round_held (S := (fun w' => w'.cell? ⟨w.heap.size, 0, none⟩ = some (ptr D.p) ∧ w'.cell? ⟨w.heap.size + 1, 0, none⟩ = some (.int .i64 N) ∧ w'.cell? ⟨w.heap.size + 2, 0, none⟩ = some (.int .i64 area))) (by kernel_rfl) (by kernel_rfl) (by rintro ⟨_, _, h⟩; exact h) (by first | exact ⟨RC.out.inv.b0.cell_is 0 rfl, RC.out.inv.b1.cell_is 0 rfl, RC.out.inv.b2.cell_is 0 rfl⟩ | ((try dsimp only); exact ⟨RC.out.inv.b0.cell_is 0 rfl, RC.out.inv.b1.cell_is 0 rfl, RC.out.inv.b2.cell_is 0 rfl⟩)) (fun hHeld => ?_)
     refine tk 0 ?_
     refine tk 1 ?_
     refine tk 2 ?_
     refine tk 3 ?_
     obtain ⟨wd, ewd⟩ : ∃ W, W = X.drew := ⟨_, rfl⟩
     rw [← ewd] at RC hHeld ⊢
     clear ewd
     refine wpAnyH_ready (rs := [4, 6]) (by kernel_rfl) (by simp) ?_
     refine (AllReadyH.cons rfl (fun K hK => ?_) (AllReadyH.cons rfl (fun K hK => ?_) AllReadyH.nil))
     ·skip
      go_simp
      refine (at_any N 3 area (i : Int) _ (by unfold I64; omega)).mono ?_; rintro e wA ⟨rfl, hbA⟩
      have RC := Lib.hid (RC.out.below hD.out hbA)
      clear hbA
      go_wp2_with fail
      refine hK.out _ _ (by first | exact ⟨RC.out.inv.b0.cell_is 0 rfl, RC.out.inv.b1.cell_is 0 rfl, RC.out.inv.b2.cell_is 0 rfl⟩ | ((try dsimp only); exact ⟨RC.out.inv.b0.cell_is 0 rfl, RC.out.inv.b1.cell_is 0 rfl, RC.out.inv.b2.cell_is 0 rfl⟩)) (fun hHeld => ?_)
      clear hK K
      try simp only [Act.put, pz0, pz1, pz2, pz3, pz4, pz5]
      refine wpAnyH_ready (rs := [5, 6]) (by kernel_rfl) (by simp) ?_
      refine (AllReadyH.cons rfl (fun K hK => ?_) (AllReadyH.cons rfl (fun K hK => ?_) AllReadyH.nil))
      ·skip
       go_simp
       refine (lread_no D _ _ _ RC.out.inv.disk HOK3.out HE3.out).mono ?_; rintro e wB ⟨rfl, hdB, hsB⟩
       rw [after_there (y := x.plus (1 + (j + i))) HTH.out, plus_stepped] at hdB
       have RC := Lib.hid (RC.out.read hD.out hdB hsB)
       clear hdB hsB
       go_wp2_with fail
       first | exact ⟨HKI.out _ _ _ _ (stateBy_len _ _ _ _ _) RC.out, RC.out.inv.gone rfl HC.out HE3.out⟩ | exact ⟨rfl, HKI.out _ _ _ _ (stateBy_len _ _ _ _ _) RC.out, RC.out.inv.gone rfl HC.out HE3.out⟩
      ·skip
       go_simp
       obtain ⟨g, eg⟩ : ∃ k, k = wA.heap.size := ⟨_, rfl⟩
       have hg : m1 ≤ g ∧ X.heap.size ≤ g := by rw [eg]; have h1 := RC.out.inv.said.lt; have h2 := RC.out.lo; have h3 := RC.out.o.size; omega
       have RC := Lib.hid (RC.out.below hD.out ((Below.refl _ wA).alloc (Nat.le_refl _) (.cells Tryz.zeroCells111 111)))
       obtain ⟨wG, eG⟩ : ∃ W, W = wA.alloc (.cells Tryz.zeroCells111 111) := ⟨_, rfl⟩
       have BG := Lib.hid (show Blk wG g 111 (sector0.map vu8).toArray by rw [eG, eg, ← zero111]; exact Blk.new wA _ _)
       rw [← eG] at RC
       rw [← eG, ← eg]
       clear eG eg
       go_wp2_with fail
       refine hK.out _ _ (by first | exact ⟨RC.out.inv.b0.cell_is 0 rfl, RC.out.inv.b1.cell_is 0 rfl, RC.out.inv.b2.cell_is 0 rfl⟩ | ((try dsimp only); exact ⟨RC.out.inv.b0.cell_is 0 rfl, RC.out.inv.b1.cell_is 0 rfl, RC.out.inv.b2.cell_is 0 rfl⟩)) (fun hHeld => ?_)
       clear hK K
       try simp only [Act.put, pz0, pz1, pz2, pz3, pz4, pz5]
       refine rd 5 fun K hK => ?_
       go_simp
       refine (lread_no D _ _ _ RC.out.inv.disk HOK3.out HE3.out).mono ?_; rintro e wB ⟨rfl, hdB, hsB⟩
       rw [after_there (y := x.plus (1 + (j + i))) HTH.out, plus_stepped] at hdB
       have RC := Lib.hid (RC.out.read hD.out hdB hsB)
       clear hdB hsB
       go_wp2_with fail
       first | exact ⟨HKI.out _ _ _ _ (stateBy_len _ _ _ _ _) RC.out, RC.out.inv.gone rfl HC.out HE3.out⟩ | exact ⟨rfl, HKI.out _ _ _ _ (stateBy_len _ _ _ _ _) RC.out, RC.out.inv.gone rfl HC.out HE3.out⟩
     ·skip
      go_simp
      obtain ⟨g, eg⟩ : ∃ k, k = wd.heap.size := ⟨_, rfl⟩
      have hg : m1 ≤ g ∧ X.heap.size ≤ g := by rw [eg]; have h1 := RC.out.inv.said.lt; have h2 := RC.out.lo; have h3 := RC.out.o.size; omega
      have RC := Lib.hid (RC.out.below hD.out ((Below.refl _ wd).alloc (Nat.le_refl _) (.cells Tryz.zeroCells111 111)))
      obtain ⟨wG, eG⟩ : ∃ W, W = wd.alloc (.cells Tryz.zeroCells111 111) := ⟨_, rfl⟩
      have BG := Lib.hid (show Blk wG g 111 (sector0.map vu8).toArray by rw [eG, eg, ← zero111]; exact Blk.new wd _ _)
      rw [← eG] at RC
      rw [← eG, ← eg]
      clear eG eg
      go_wp2_with fail
      refine hK.out _ _ (by first | exact ⟨RC.out.inv.b0.cell_is 0 rfl, RC.out.inv.b1.cell_is 0 rfl, RC.out.inv.b2.cell_is 0 rfl⟩ | ((try dsimp only); exact ⟨RC.out.inv.b0.cell_is 0 rfl, RC.out.inv.b1.cell_is 0 rfl, RC.out.inv.b2.cell_is 0 rfl⟩)) (fun hHeld => ?_)
      clear hK K
      try simp only [Act.put, pz0, pz1, pz2, pz3, pz4, pz5]
      refine rd 4 fun K hK => ?_
      go_simp
      refine (at_any N 3 area (i : Int) _ (by unfold I64; omega)).mono ?_; rintro e wA ⟨rfl, hbA⟩
      have RC := Lib.hid (RC.out.below hD.out hbA)
      have BG := Lib.hid (BG.out.below hbA BG.out.lt)
      clear hbA
      go_wp2_with fail
      refine hK.out _ _ (by first | exact ⟨RC.out.inv.b0.cell_is 0 rfl, RC.out.inv.b1.cell_is 0 rfl, RC.out.inv.b2.cell_is 0 rfl⟩ | ((try dsimp only); exact ⟨RC.out.inv.b0.cell_is 0 rfl, RC.out.inv.b1.cell_is 0 rfl, RC.out.inv.b2.cell_is 0 rfl⟩)) (fun hHeld => ?_)
      clear hK K
      try simp only [Act.put, pz0, pz1, pz2, pz3, pz4, pz5]
      refine rd 5 fun K hK => ?_
      go_simp
      refine (lread_no D _ _ _ RC.out.inv.disk HOK3.out HE3.out).mono ?_; rintro e wB ⟨rfl, hdB, hsB⟩
      rw [after_there (y := x.plus (1 + (j + i))) HTH.out, plus_stepped] at hdB
      have RC := Lib.hid (RC.out.read hD.out hdB hsB)
      clear hdB hsB
      go_wp2_with fail
      first | exact ⟨HKI.out _ _ _ _ (stateBy_len _ _ _ _ _) RC.out, RC.out.inv.gone rfl HC.out HE3.out⟩ | exact ⟨rfl, HKI.out _ _ _ _ (stateBy_len _ _ _ _ _) RC.out, RC.out.inv.gone rfl HC.out HE3.out⟩
    have HE3 := Lib.hid herr
    clear herr
    gi_wp2
    refine' wpIn_merge (_ : Nat → Act) (fun g W' => RdP D w N area x gs m1 gst W' (x.plus (1 + (j + i) + 1)) (.slice ao j co) vb (.slice am j cm) j (stateBy x N area nb (pre.map (·.1.val))) #[.int .i64 (numAt (headS x N area) 4 8 : Nat), .slice ao j co, vb, .slice (some ⟨gst, 0, none⟩) nb nb, .int .i64 (numAt (headS x N area) 16 4 : Nat), .slice am j cm] X ∧ Blk W' g 111 (bP.map vu8).toArray ∧ (m1 ≤ g ∧ X.heap.size ≤ g)) ?_ ?_
    rotate_left 1
    ·have RC := Lib.hid (RdP.below ⟨R3.out, Out.refl _ _⟩ hD.out (Below.refl _ X).drew)
     refine region_round_held (S := (fun w' => w'.cell? ⟨w.heap.size, 0, none⟩ = some (ptr D.p) ∧ w'.cell? ⟨w.heap.size + 1, 0, none⟩ = some (.int .i64 N) ∧ w'.cell? ⟨w.heap.size + 2, 0, none⟩ = some (.int .i64 area))) (by kernel_rfl) (by kernel_rfl) (by rintro ⟨_, _, h⟩; exact h) (by first | exact ⟨RC.out.inv.b0.cell_is 0 rfl, RC.out.inv.b1.cell_is 0 rfl, RC.out.inv.b2.cell_is 0 rfl⟩ | ((try dsimp only); exact ⟨RC.out.inv.b0.cell_is 0 rfl, RC.out.inv.b1.cell_is 0 rfl, RC.out.inv.b2.cell_is 0 rfl⟩)) (fun hHeld => ?_)
     refine tk 0 ?_
     refine tk 1 ?_
     refine tk 2 ?_
     refine tk 3 ?_
     obtain ⟨wd, ewd⟩ : ∃ W, W = X.drew := ⟨_, rfl⟩
     rw [← ewd] at RC hHeld ⊢
     clear ewd
     refine wpAnyH_ready (rs := [4, 6]) (by kernel_rfl) (by simp) ?_
     refine (AllReadyH.cons rfl (fun K hK => ?_) (AllReadyH.cons rfl (fun K hK => ?_) AllReadyH.nil))
     ·skip
      go_simp
      refine (at_any N 3 area (i : Int) _ (by unfold I64; omega)).mono ?_; rintro e wA ⟨rfl, hbA⟩
      have RC := Lib.hid (RC.out.below hD.out hbA)
      clear hbA
      go_wp2_with fail
      refine hK.out _ _ (by first | exact ⟨RC.out.inv.b0.cell_is 0 rfl, RC.out.inv.b1.cell_is 0 rfl, RC.out.inv.b2.cell_is 0 rfl⟩ | ((try dsimp only); exact ⟨RC.out.inv.b0.cell_is 0 rfl, RC.out.inv.b1.cell_is 0 rfl, RC.out.inv.b2.cell_is 0 rfl⟩)) (fun hHeld => ?_)
      clear hK K
      try simp only [Act.put, pz0, pz1, pz2, pz3, pz4, pz5]
      refine wpAnyH_ready (rs := [5, 6]) (by kernel_rfl) (by simp) ?_
      refine (AllReadyH.cons rfl (fun K hK => ?_) (AllReadyH.cons rfl (fun K hK => ?_) AllReadyH.nil))
      ·skip
       go_simp
       refine (lread_yes D _ _ _ RC.out.inv.disk HOK3.out HE3.out).mono ?_; rintro e wB ⟨rfl, hdB, hsB⟩
       rw [plus_stepped] at hdB
       have RC := Lib.hid (RC.out.read hD.out hdB hsB)
       clear hdB hsB
       go_wp2_with fail
       refine hK.out _ _ (by first | exact ⟨RC.out.inv.b0.cell_is 0 rfl, RC.out.inv.b1.cell_is 0 rfl, RC.out.inv.b2.cell_is 0 rfl⟩ | ((try dsimp only); exact ⟨RC.out.inv.b0.cell_is 0 rfl, RC.out.inv.b1.cell_is 0 rfl, RC.out.inv.b2.cell_is 0 rfl⟩)) (fun hHeld => ?_)
       clear hK K
       try simp only [Act.put, pz0, pz1, pz2, pz3, pz4, pz5]
       refine rd 6 fun K hK => ?_
       go_simp
       obtain ⟨g, eg⟩ : ∃ k, k = wB.heap.size := ⟨_, rfl⟩
       have hg : m1 ≤ g ∧ X.heap.size ≤ g := by rw [eg]; have h1 := RC.out.inv.said.lt; have h2 := RC.out.lo; have h3 := RC.out.o.size; omega
       have RC := Lib.hid (RC.out.below hD.out ((Below.refl _ wB).alloc (Nat.le_refl _) (.cells Tryz.zeroCells111 111)))
       obtain ⟨wG, eG⟩ : ∃ W, W = wB.alloc (.cells Tryz.zeroCells111 111) := ⟨_, rfl⟩
       have BG := Lib.hid (show Blk wG g 111 (sector0.map vu8).toArray by rw [eG, eg, ← zero111]; exact Blk.new wB _ _)
       rw [← eG] at RC
       rw [← eG, ← eg]
       clear eG eg
       go_wp2_with fail
       refine hK.out _ _ (by first | exact ⟨RC.out.inv.b0.cell_is 0 rfl, RC.out.inv.b1.cell_is 0 rfl, RC.out.inv.b2.cell_is 0 rfl⟩ | ((try dsimp only); exact ⟨RC.out.inv.b0.cell_is 0 rfl, RC.out.inv.b1.cell_is 0 rfl, RC.out.inv.b2.cell_is 0 rfl⟩)) (fun hHeld => ?_)
       clear hK K
       try simp only [Act.put, pz0, pz1, pz2, pz3, pz4, pz5]
       refine rd 7 fun K hK => ?_
       rw [if_pos (by rfl)]
       refine wp_store_row 111 _ _ rfl g (bP.map vu8).toArray rfl (by first | rfl | (unfold sectorV; rw [HBP.out]; rfl)) 111 _ BG.out (sector_size _ HLP.out) (sector_eq _ _ sector0_len HLP.out) (sector_all _) ?_
       have RC := Lib.hid (RC.out.sector hD.out BG.out hg (bP.map vu8).toArray)
       have BG := Lib.hid (BG.out.row (bP.map vu8).toArray)
       refine hK.out _ _ (by first | exact ⟨RC.out.inv.b0.cell_is 0 rfl, RC.out.inv.b1.cell_is 0 rfl, RC.out.inv.b2.cell_is 0 rfl⟩ | ((try dsimp only); exact ⟨RC.out.inv.b0.cell_is 0 rfl, RC.out.inv.b1.cell_is 0 rfl, RC.out.inv.b2.cell_is 0 rfl⟩)) (fun hHeld => ?_)
       clear hK K
       try simp only [Act.put, pz0, pz1, pz2, pz3, pz4, pz5]
       refine wpAnyH_done (by kernel_rfl) ?_ _
       try simp only [Act.put, pz0, pz1, pz2, pz3, pz4, pz5]
       refine ⟨g, ?_, RC.out, BG.out, hg⟩
       with_reducible rfl
      ·skip
       go_simp
       obtain ⟨g, eg⟩ : ∃ k, k = wA.heap.size := ⟨_, rfl⟩
       have hg : m1 ≤ g ∧ X.heap.size ≤ g := by rw [eg]; have h1 := RC.out.inv.said.lt; have h2 := RC.out.lo; have h3 := RC.out.o.size; omega
       have RC := Lib.hid (RC.out.below hD.out ((Below.refl _ wA).alloc (Nat.le_refl _) (.cells Tryz.zeroCells111 111)))
       obtain ⟨wG, eG⟩ : ∃ W, W = wA.alloc (.cells Tryz.zeroCells111 111) := ⟨_, rfl⟩
       have BG := Lib.hid (show Blk wG g 111 (sector0.map vu8).toArray by rw [eG, eg, ← zero111]; exact Blk.new wA _ _)
       rw [← eG] at RC
       rw [← eG, ← eg]
       clear eG eg
       go_wp2_with fail
       refine hK.out _ _ (by first | exact ⟨RC.out.inv.b0.cell_is 0 rfl, RC.out.inv.b1.cell_is 0 rfl, RC.out.inv.b2.cell_is 0 rfl⟩ | ((try dsimp only); exact ⟨RC.out.inv.b0.cell_is 0 rfl, RC.out.inv.b1.cell_is 0 rfl, RC.out.inv.b2.cell_is 0 rfl⟩)) (fun hHeld => ?_)
       clear hK K
       try simp only [Act.put, pz0, pz1, pz2, pz3, pz4, pz5]
       refine rd 5 fun K hK => ?_
       go_simp
       refine (lread_yes D _ _ _ RC.out.inv.disk HOK3.out HE3.out).mono ?_; rintro e wB ⟨rfl, hdB, hsB⟩
       rw [plus_stepped] at hdB
       have RC := Lib.hid (RC.out.read hD.out hdB hsB)
       have BG := Lib.hid (hsB.out.blk BG.out (fun hd => by have := hD.out _ hd; have := RC.out.lo; omega))
       clear hdB hsB
       go_wp2_with fail
       refine hK.out _ _ (by first | exact ⟨RC.out.inv.b0.cell_is 0 rfl, RC.out.inv.b1.cell_is 0 rfl, RC.out.inv.b2.cell_is 0 rfl⟩ | ((try dsimp only); exact ⟨RC.out.inv.b0.cell_is 0 rfl, RC.out.inv.b1.cell_is 0 rfl, RC.out.inv.b2.cell_is 0 rfl⟩)) (fun hHeld => ?_)
       clear hK K
       try simp only [Act.put, pz0, pz1, pz2, pz3, pz4, pz5]
       refine rd 7 fun K hK => ?_
       rw [if_pos (by rfl)]
       refine wp_store_row 111 _ _ rfl g (bP.map vu8).toArray rfl (by first | rfl | (unfold sectorV; rw [HBP.out]; rfl)) 111 _ BG.out (sector_size _ HLP.out) (sector_eq _ _ sector0_len HLP.out) (sector_all _) ?_
       have RC := Lib.hid (RC.out.sector hD.out BG.out hg (bP.map vu8).toArray)
       have BG := Lib.hid (BG.out.row (bP.map vu8).toArray)
       refine hK.out _ _ (by first | exact ⟨RC.out.inv.b0.cell_is 0 rfl, RC.out.inv.b1.cell_is 0 rfl, RC.out.inv.b2.cell_is 0 rfl⟩ | ((try dsimp only); exact ⟨RC.out.inv.b0.cell_is 0 rfl, RC.out.inv.b1.cell_is 0 rfl, RC.out.inv.b2.cell_is 0 rfl⟩)) (fun hHeld => ?_)
       clear hK K
       try simp only [Act.put, pz0, pz1, pz2, pz3, pz4, pz5]
       refine wpAnyH_done (by kernel_rfl) ?_ _
       try simp only [Act.put, pz0, pz1, pz2, pz3, pz4, pz5]
       refine ⟨g, ?_, RC.out, BG.out, hg⟩
       with_reducible rfl
     ·skip
      go_simp
      obtain ⟨g, eg⟩ : ∃ k, k = wd.heap.size := ⟨_, rfl⟩
      have hg : m1 ≤ g ∧ X.heap.size ≤ g := by rw [eg]; have h1 := RC.out.inv.said.lt; have h2 := RC.out.lo; have h3 := RC.out.o.size; omega
      have RC := Lib.hid (RC.out.below hD.out ((Below.refl _ wd).alloc (Nat.le_refl _) (.cells Tryz.zeroCells111 111)))
      obtain ⟨wG, eG⟩ : ∃ W, W = wd.alloc (.cells Tryz.zeroCells111 111) := ⟨_, rfl⟩
      have BG := Lib.hid (show Blk wG g 111 (sector0.map vu8).toArray by rw [eG, eg, ← zero111]; exact Blk.new wd _ _)
      rw [← eG] at RC
      rw [← eG, ← eg]
      clear eG eg
      go_wp2_with fail
      refine hK.out _ _ (by first | exact ⟨RC.out.inv.b0.cell_is 0 rfl, RC.out.inv.b1.cell_is 0 rfl, RC.out.inv.b2.cell_is 0 rfl⟩ | ((try dsimp only); exact ⟨RC.out.inv.b0.cell_is 0 rfl, RC.out.inv.b1.cell_is 0 rfl, RC.out.inv.b2.cell_is 0 rfl⟩)) (fun hHeld => ?_)
      clear hK K
      try simp only [Act.put, pz0, pz1, pz2, pz3, pz4, pz5]
      refine rd 4 fun K hK => ?_
      go_simp
      refine (at_any N 3 area (i : Int) _ (by unfold I64; omega)).mono ?_; rintro e wA ⟨rfl, hbA⟩
      have RC := Lib.hid (RC.out.below hD.out hbA)
      have BG := Lib.hid (BG.out.below hbA BG.out.lt)
      clear hbA
      go_wp2_with fail
      refine hK.out _ _ (by first | exact ⟨RC.out.inv.b0.cell_is 0 rfl, RC.out.inv.b1.cell_is 0 rfl, RC.out.inv.b2.cell_is 0 rfl⟩ | ((try dsimp only); exact ⟨RC.out.inv.b0.cell_is 0 rfl, RC.out.inv.b1.cell_is 0 rfl, RC.out.inv.b2.cell_is 0 rfl⟩)) (fun hHeld => ?_)
      clear hK K
      try simp only [Act.put, pz0, pz1, pz2, pz3, pz4, pz5]
      refine rd 5 fun K hK => ?_
      go_simp
      refine (lread_yes D _ _ _ RC.out.inv.disk HOK3.out HE3.out).mono ?_; rintro e wB ⟨rfl, hdB, hsB⟩
      rw [plus_stepped] at hdB
      have RC := Lib.hid (RC.out.read hD.out hdB hsB)
      have BG := Lib.hid (hsB.out.blk BG.out (fun hd => by have := hD.out _ hd; have := RC.out.lo; omega))
      clear hdB hsB
      go_wp2_with fail
      refine hK.out _ _ (by first | exact ⟨RC.out.inv.b0.cell_is 0 rfl, RC.out.inv.b1.cell_is 0 rfl, RC.out.inv.b2.cell_is 0 rfl⟩ | ((try dsimp only); exact ⟨RC.out.inv.b0.cell_is 0 rfl, RC.out.inv.b1.cell_is 0 rfl, RC.out.inv.b2.cell_is 0 rfl⟩)) (fun hHeld => ?_)
      clear hK K
      try simp only [Act.put, pz0, pz1, pz2, pz3, pz4, pz5]
      refine rd 7 fun K hK => ?_
      rw [if_pos (by rfl)]
      refine wp_store_row 111 _ _ rfl g (bP.map vu8).toArray rfl (by first | rfl | (unfold sectorV; rw [HBP.out]; rfl)) 111 _ BG.out (sector_size _ HLP.out) (sector_eq _ _ sector0_len HLP.out) (sector_all _) ?_
      have RC := Lib.hid (RC.out.sector hD.out BG.out hg (bP.map vu8).toArray)
      have BG := Lib.hid (BG.out.row (bP.map vu8).toArray)
      refine hK.out _ _ (by first | exact ⟨RC.out.inv.b0.cell_is 0 rfl, RC.out.inv.b1.cell_is 0 rfl, RC.out.inv.b2.cell_is 0 rfl⟩ | ((try dsimp only); exact ⟨RC.out.inv.b0.cell_is 0 rfl, RC.out.inv.b1.cell_is 0 rfl, RC.out.inv.b2.cell_is 0 rfl⟩)) (fun hHeld => ?_)
      clear hK K
      try simp only [Act.put, pz0, pz1, pz2, pz3, pz4, pz5]
      refine wpAnyH_done (by kernel_rfl) ?_ _
      try simp only [Act.put, pz0, pz1, pz2, pz3, pz4, pz5]
      refine ⟨g, ?_, RC.out, BG.out, hg⟩
      with_reducible rfl
    rintro g W9 ⟨hR9, hB9, hg9⟩
    have R9 := Lib.hid hR9
    have B9 := Lib.hid hB9
    clear hR9 hB9
    have hiw : IntKind.i64.wrap ((i : Int) * 512) = (i : Int) * 512 := by
     clear hlen hXs hpg
     rw [IntKind.wrap_i64]; omega
    have hit : ((i : Int) * 512).toNat = i * 512 := by clear hlen hXs hpg; omega
    have hi0 : (0 : Int) ≤ (i : Int) * 512 := by clear hlen hXs hpg; omega
    have hi1 : (i : Int) * 512 ≤ (nb : Int) := by clear hlen hXs hpg; omega
    have hi2 : ¬ nb = i * 512 := by clear hlen hXs hpg; omega
    gi_wp2
    refine' wpIn_merge (_ : Nat → Act) (fun _ W' => RdP D w N area x gs m1 gst W' (x.plus (1 + (j + i) + 1)) (.slice ao j co) vb (.slice am j cm) j (stateBy x N area nb (pre.map (·.1.val) ++ [i])) #[.int .i64 (numAt (headS x N area) 4 8 : Nat), .slice ao j co, vb, .slice (some ⟨gst, 0, none⟩) nb nb, .int .i64 (numAt (headS x N area) 16 4 : Nat), .slice am j cm] X ∧ Blk W' g 111 (bP.map vu8).toArray) ?_ ?_
    rotate_left 1
    ·have RC := Lib.hid (R9.out.below hD.out (Below.refl _ W9).drew)
     have BC := Lib.hid B9.out.drew
     refine region_round_held (S := (fun w' => w'.cell? ⟨gs, 3, none⟩ = some (.slice (some ⟨gst, 0, none⟩) nb nb))) (by kernel_rfl) (by kernel_rfl) (by rintro ⟨_, _, h⟩; exact h) (by first | exact RC.out.inv.said.cell_is 3 rfl | ((try dsimp only); exact RC.out.inv.said.cell_is 3 rfl)) (fun hHeld => ?_)
     refine tk 0 ?_
     refine tk 3 ?_
     refine tk 6 ?_
     refine tk 1 ?_
     refine tk 4 ?_
     refine tk 2 ?_
     refine tk 5 ?_
     refine rd 7 fun K hK => ?_
     rw [if_pos (by rfl)]
     obtain ⟨w3, hr3, hb3, ho3⟩ := copy_part (c1 := nb - i * 512) (x := x) (N := N) (area := area) (i := i) hiI (by rw [← HBP.out]; exact HLP.out) RC.out.page (by rw [← HBP.out]; exact BC.out) 3
     refine Lib.wp_copy_run _ (.tmp 88) (.tmp 89) 26 26 rfl _ _ (by first | rfl | trace_state) rfl hr3 ?_
     have R17 := Lib.hid (RC.out.fill hD.out ho3 hb3)
     have B17 := Lib.hid (ho3.blk BC.out (Blk.ne_ BC.out RC.out.page (by decide)))
     clear hr3 hb3 ho3
     refine hK.out _ _ (by first | exact R17.out.inv.said.cell_is 3 rfl | ((try dsimp only); exact R17.out.inv.said.cell_is 3 rfl)) (fun hHeld => ?_)
     clear hK K
     try simp only [Act.put, pz0, pz1, pz2, pz3, pz4, pz5]
     refine tk 8 ?_
     refine wpAnyH_done (by kernel_rfl) ?_ _
     try simp only [Act.put, pz0, pz1, pz2, pz3, pz4, pz5]
     obtain ⟨uu, huu⟩ : ∃ u : Nat, u = 0 := ⟨_, rfl⟩
     clear huu
     refine ⟨uu, ?_, R17.out, B17.out⟩
     with_reducible rfl
    rintro _ W10 ⟨hR10, hB10⟩
    have R10 := Lib.hid hR10
    have B10 := Lib.hid hB10
    clear hR10 hB10 R9 B9 hiw hit hi0 hi1 hi2
    gi_wp2
    obtain ⟨W11, eW11⟩ : ∃ W, W = W10.alloc (.cells Tryz.zeroCells111 111) := ⟨_, rfl⟩
    obtain ⟨g18, eg18⟩ : ∃ k, k = W10.heap.size := ⟨_, rfl⟩
    have R11 := Lib.hid (show RdP D w N area x gs m1 gst W11 (x.plus (1 + (j + i) + 1)) (.slice ao j co) vb (.slice am j cm) j (stateBy x N area nb (pre.map (·.1.val) ++ [i])) #[.int .i64 (numAt (headS x N area) 4 8 : Nat), .slice ao j co, vb, .slice (some ⟨gst, 0, none⟩) nb nb, .int .i64 (numAt (headS x N area) 16 4 : Nat), .slice am j cm] X by rw [eW11]; exact R10.out.below hD.out ((Below.refl _ W10).alloc (Nat.le_refl _) _))
    have B11 := Lib.hid (show Blk W11 g 111 (bP.map vu8).toArray by rw [eW11]; exact B10.out.alloc _)
    have Z11 := Lib.hid (show Blk W11 g18 111 (sector0.map vu8).toArray by rw [eW11, eg18, ← zero111]; exact Blk.new W10 _ _)
    rw [← eW11, ← eg18]
    clear eW11 eg18 R10 B10
    obtain ⟨rest, er⟩ : ∃ r, r = min 512 (nb - 512 * i) := ⟨_, rfl⟩
    rw [← er]
    obtain ⟨q, eq⟩ : ∃ q, q = (bP.drop (nb - 512 * i)).all (· == 0) := ⟨_, rfl⟩
    have HR := Lib.hid (show (bP.drop rest == sector0.drop rest) = q by rw [er, eq]; exact zeros_beq HLP.out _)
    have HPE := Lib.hid (show partE x N area nb (1 + (j + i)) i = if q = true then 0 else 170 from partE_is HE3.out (by rw [eq, HBP.out]))
    clear eq
    have hr5 : rest ≤ 512 := by rw [er]; exact Nat.min_le_left _ _
    clear er
    have hu := blk_bytes B11.out 512 (by rw [HLP.out]; exact Nat.le_refl _) (by rw [HLP.out]; decide)
    have hz := blk_bytes Z11.out 512 (by rw [sector0_len]; exact Nat.le_refl _) (by rw [sector0_len]; decide)
    rw [List.take_of_length_le (Nat.le_of_eq HLP.out), HLP.out] at hu
    rw [List.take_of_length_le (Nat.le_of_eq sector0_len), sector0_len] at hz
    have HU := Lib.hid hu
    have HZ := Lib.hid hz
    clear hu hz
    have hr0 : (0 : Int) ≤ (rest : Int) := by omega
    have hr6 : (rest : Int) ≤ 512 := by omega
    by_cases h512 : rest = 512
    ·subst h512
     have hqt : q = true := by
      have h1 := HR.out
      rw [zeros_512 HLP.out] at h1
      exact h1.symm
     clear HR
     subst hqt
     clear hr0 hr5 hr6
     refine jbR (fun _ => True) (fun _ => True) 100 trivial trivial fun hHeld hJ => ?_
     refine jk false 0 ?_
     refine jk false 2 ?_
     refine jk false 1 ?_
     refine jk false 3 ?_
     refine jr 4 fun K hK => ?_
     go_simp
     refine (equalBytes_any [] [] _ _ _ (bytesNil _ _ _ _) (bytesNil _ _ _ _)).mono ?_; rintro e wq ⟨rfl, hbq⟩
     rw [show (([] : List UInt8) == []) = true from rfl]
     have RQ := Lib.hid (R11.out.below hD.out ((Below.refl _ W11).drew.trans hbq))
     clear hbq
     dsimp only
     refine hK.out _ _ ⟨trivial, fun _ => trivial⟩ ?_
     clear hK K
     refine jr 5 fun K hK => ?_
     go_simp
     refine (must_yes 170 _).mono ?_; rintro e wq2 ⟨rfl, rfl⟩
     dsimp only
     refine hK.out _ _ ⟨trivial, fun _ => trivial⟩ ?_
     clear hK K hHeld hJ
     refine wpAnyJ_done (by kernel_rfl) ?_ _
     have R12 := Lib.hid RQ.out
     gi_wp2
     exact ⟨(R12.out.keepsU HDX.out (C := Wl.heap.size) hCD hgl (by omega) (stateBy_len _ _ _ _ _)).1, (R12.out.keepsU HDX.out (C := Wl.heap.size + 2) (fun k hk => Nat.lt_add_right 2 (hCD k hk)) (Nat.lt_add_right 2 hgl) (by omega) (stateBy_len _ _ _ _ _)).2, by
      refine ⟨fun k hk => ?_, ?_⟩
      ·rw [List.length_append, List.length_singleton] at hk
       rcases Nat.lt_or_ge k pre.length with h | h
       ·exact HPA.out k h
       ·obtain rfl : k = i := by have := HIX.out; omega
        exact HPE.out
      ·rw [List.length_append, List.map_append, show 1 + (j + (pre.length + [((⟨i, hi⟩, sec) : Fin (chunksN nb) × SecS)].length)) = 1 + (j + i) + 1 by have := HIX.out; simp; omega]
       exact R12.out.toRdRows⟩
    ·have hne5 : ¬ 512 = rest := fun e => h512 e.symm
     have hu1 : BytesIn W11 W11.heap.size (.slice (some ⟨g, 0, none⟩) bP.length 512) bP := by rw [HLP.out]; exact HU.out
     have hu2 := hu1.from_ rest (by rw [HLP.out]; exact hr5) (by rw [HLP.out]; exact Nat.le_refl _)
     rw [if_neg hne5, HLP.out, Option.map_some, add_at, Nat.zero_add] at hu2
     have hz1 : BytesIn W11 W11.heap.size (.slice (some ⟨g18, 0, none⟩) sector0.length 512) sector0 := by rw [sector0_len]; exact HZ.out
     have hz2 := hz1.from_ rest (by rw [sector0_len]; exact hr5) (by rw [sector0_len]; exact Nat.le_refl _)
     rw [if_neg hne5, sector0_len, Option.map_some, add_at, Nat.zero_add] at hz2
     have HU2 := Lib.hid (hu2.below (Below.refl W11.heap.size W11).drew (Nat.le_refl _))
     have HZ2 := Lib.hid (hz2.below (Below.refl W11.heap.size W11).drew (Nat.le_refl _))
     clear hu1 hu2 hz1 hz2
     cases q
     case false =>
      have HC := Lib.hid (show readR x N area = (1 + (j + i) + 1, 170) from readR_part HE2.out HHD.out EN.out ENB.out HOB.out hi (fun k hk => HPA.out k (by rw [← HIX.out]; exact hk)) HPE.out (by decide))
      refine' wpIn_mergeP (fun _ : Nat => ({ tmps := #[], defers := [] } : Act)) (fun _ _ => False) (fun ch W' => KeepsFrom Wl.heap.size X W' ∧ RdGone D x N area w ch W') ?_ (fun _ _ h => h.elim) (fun ch a' w' h1 h2 => ⟨h1, h2⟩)
      refine region_round_held (S := (fun _ => True)) (by kernel_rfl) (by kernel_rfl) (by rintro ⟨_, _, h⟩; exact h) (by first | trivial | ((try dsimp only); trivial)) (fun hHeld => ?_)
      refine tk 0 ?_
      refine tk 2 ?_
      refine tk 1 ?_
      refine tk 3 ?_
      refine rd 4 fun K hK => ?_
      go_simp
      refine (equalBytes_any (bP.drop rest) (sector0.drop rest) _ _ _ HU2.out HZ2.out).mono ?_; rintro e wq ⟨rfl, hbq⟩
      rw [HR.out]
      have RQ := Lib.hid (R11.out.below hD.out ((Below.refl _ W11).drew.trans hbq))
      clear hbq
      go_wp2_with fail
      refine hK.out _ _ (by first | trivial | ((try dsimp only); trivial)) (fun hHeld => ?_)
      clear hK K
      try simp only [Act.put, pz0, pz1, pz2, pz3, pz4, pz5]
      refine rd 5 fun K hK => ?_
      go_simp
      refine (must_no 170 _).mono ?_; rintro e wq2 ⟨rfl, rfl⟩
      go_wp2_with fail
      first | exact ⟨HKI.out _ _ _ _ (stateBy_len _ _ _ _ _) RQ.out, RQ.out.inv.gone rfl HC.out (by decide)⟩ | exact ⟨rfl, HKI.out _ _ _ _ (stateBy_len _ _ _ _ _) RQ.out, RQ.out.inv.gone rfl HC.out (by decide)⟩
     refine jbR (fun _ => True) (fun _ => True) 100 trivial trivial fun hHeld hJ => ?_
     refine jk false 0 ?_
     refine jk false 2 ?_
     refine jk false 1 ?_
     refine jk false 3 ?_
     refine jr 4 fun K hK => ?_
     go_simp
     refine (equalBytes_any (bP.drop rest) (sector0.drop rest) _ _ _ HU2.out HZ2.out).mono ?_; rintro e wq ⟨rfl, hbq⟩
     rw [HR.out]
     have RQ := Lib.hid (R11.out.below hD.out ((Below.refl _ W11).drew.trans hbq))
     clear hbq
     dsimp only
     refine hK.out _ _ ⟨trivial, fun _ => trivial⟩ ?_
     clear hK K
     refine jr 5 fun K hK => ?_
     go_simp
     refine (must_yes 170 _).mono ?_; rintro e wq2 ⟨rfl, rfl⟩
     dsimp only
     refine hK.out _ _ ⟨trivial, fun _ => trivial⟩ ?_
     clear hK K hHeld hJ
     refine wpAnyJ_done (by kernel_rfl) ?_ _
     have R12 := Lib.hid RQ.out
     gi_wp2
     exact ⟨(R12.out.keepsU HDX.out (C := Wl.heap.size) hCD hgl (by omega) (stateBy_len _ _ _ _ _)).1, (R12.out.keepsU HDX.out (C := Wl.heap.size + 2) (fun k hk => Nat.lt_add_right 2 (hCD k hk)) (Nat.lt_add_right 2 hgl) (by omega) (stateBy_len _ _ _ _ _)).2, by
      refine ⟨fun k hk => ?_, ?_⟩
      ·rw [List.length_append, List.length_singleton] at hk
       rcases Nat.lt_or_ge k pre.length with h | h
       ·exact HPA.out k h
       ·obtain rfl : k = i := by have := HIX.out; omega
        exact HPE.out
      ·rw [List.length_append, List.map_append, show 1 + (j + (pre.length + [((⟨i, hi⟩, sec) : Fin (chunksN nb) × SecS)].length)) = 1 + (j + i) + 1 by have := HIX.out; simp; omega]
       exact R12.out.toRdRows⟩
   case done =>
    intro Dd xs X hDd hS hI hK
    have hxl : xs.length = chunksN nb := by have := congrArg List.length hS; simpa using this
    obtain ⟨hpa, hI⟩ := hI
    rw [hS, stateBy_all, hxl] at hI
    rw [hxl] at hpa
    have R4 := Lib.hid hI
    have HEND := Lib.hid (readR_end HE2.out HHD.out EN.out ENB.out HOB.out hpa)
    clear hpa
    have HK := Lib.hid hK
    clear hI hK hS hxl KBs hpg
    obtain ⟨ab, cb, evb⟩ := slice_form R4.out.objs
    subst evb
    obtain ⟨st, est⟩ : ∃ st, st = stateOf x N area nb := ⟨_, rfl⟩
    have HST := Lib.hid est
    have hstl : st.length = nb := by rw [est]; simp [stateOf]
    obtain ⟨sq, esq⟩ : ∃ q, q = numAt (headS x N area) 16 4 := ⟨_, rfl⟩
    obtain ⟨qs, eqs⟩ : ∃ q, q = (crcW st).toNat := ⟨_, rfl⟩
    have hend := HEND.out
    clear HEND
    rw [← est, ← eqs, ← esq] at hend
    have HEND := Lib.hid hend
    have hq : ((crcW st).toNat : Int) = (qs : Int) := by rw [eqs]
    have hqw : IntKind.i64.wrap (qs : Int) = (qs : Int) := by
     have h1 := (crcW st).isLt
     rw [IntKind.wrap_i64]
     clear hrl hCD
     omega
    have HQ := Lib.hid hq
    have HBY := Lib.hid (show BytesIn X.drew X.drew.heap.size (.slice (some ⟨gst, 0, none⟩) nb nb) st by
     have h1 := R4.out.page.drew
     rw [← est] at h1
     have h2 := blk_bytes h1 st.length (Nat.le_refl _) (by rw [hstl]; unfold maxLen; omega)
     rw [List.take_length, hstl] at h2
     exact h2)
    clear hq est eqs hend
    have c3 := R4.out.inv.said.cell_is 3 rfl
    have c4 := R4.out.inv.said.cell_is 4 rfl
    rw [← esq] at c4
    have HSQ := Lib.hid esq
    clear esq
    refine wpAt_in (wpIn_wide.2 ?_)
    by_cases hqs : qs = sq
    case neg =>
     have hqi : ¬ (qs : Int) = (sq : Int) := fun e => hqs (by omega)
     have hqb : ((qs : Int) == (sq : Int)) = false := by simpa using hqi
     have hend := HEND.out
     rw [if_neg hqs] at hend
     have HC := Lib.hid hend
     clear hend
     go_upto_region 20 with fail
     refine' wp_mergeK 6 7 (.pointer (some ⟨w.heap.size + 3, 0, none⟩)) (.pointer (some ⟨w.heap.size + 4, 0, none⟩)) [{ target := .collected Dd, args := #[] }, { target := .fn (.func 68) #[], args := #[.pointer (some ⟨w.heap.size + 4, 0, none⟩)] }] (fun _ : Nat => ({ tmps := #[], defers := [] } : Act)) (fun _ _ => False) (fun ch W' => W'.heap[Dd]? = some (.deferred (some [])) ∧ RdGone D x N area w ch W') ?_ (fun _ _ h => h.elim) ?_
     rotate_left 1
     ·intro ch a' w' h1 h2 h3 h4
      show LeavesInM _ _ _ _ _ _ a'.defers _ _
      rw [h1]
      refine ⟨by simp, .inl ⟨_, _, rfl, run_takeDeferred h4.1, ?_⟩⟩
      exact read_given nf (RdGone.out (W' := w'.putObj Dd (.deferred none)) h4.2 hD.out (F := fun i => i = Dd) ⟨rfl, rfl, rfl, by simp, fun k hk hn => World.putObj_heap_other hn⟩ (fun i e _ => by omega)) hD.out _ h2 h3
     refine wp_region_held_drew (S := (fun w' => w'.cell? ⟨gs, 3, none⟩ = some (.slice (some ⟨gst, 0, none⟩) nb nb) ∧ w'.cell? ⟨gs, 4, none⟩ = some (.int .i64 (sq : Int)))) (by kernel_rfl) (by first | exact ⟨c3, c4⟩ | ((try dsimp only); exact ⟨c3, c4⟩)) (fun hHeld => ?_)
     refine wpAnyH_take (i := 0) (v := ?v0i_1) rfl (by kernel_rfl) (by kernel_rfl) (by kernel_rfl) (keepsK (by rfl) (by rfl)) (Or.inl ⟨by rfl, ?hy0i_1⟩) (by assumption) ?_
     case hy0i_1 => (intro w hSw; (try dsimp only at hSw); go_simp; try with_reducible rfl)
     try simp only [Act.put, pz0, pz1, pz2, pz3, pz4, pz5]
     refine wpAnyH_take (i := 5) (v := ?v5i_2) rfl (by kernel_rfl) (by kernel_rfl) (by kernel_rfl) (keepsK (by rfl) (by rfl)) (Or.inl ⟨by rfl, ?hy5i_2⟩) (by assumption) ?_
     case hy5i_2 => (intro w hSw; (try dsimp only at hSw); go_simp; try with_reducible rfl)
     try simp only [Act.put, pz0, pz1, pz2, pz3, pz4, pz5]
     refine wpAnyH_take (i := 1) (v := ?v1i_3) rfl (by kernel_rfl) (by kernel_rfl) (by kernel_rfl) (keepsK (by rfl) (by rfl)) (Or.inl ⟨by rfl, ?hy1i_3⟩) (by assumption) ?_
     case hy1i_3 => (intro w hSw; (try dsimp only at hSw); go_simp; try with_reducible rfl)
     try simp only [Act.put, pz0, pz1, pz2, pz3, pz4, pz5]
     refine wpAnyH_take (i := 6) (v := ?v6i_4) rfl (by kernel_rfl) (by kernel_rfl) (by kernel_rfl) (keepsK (by rfl) (by rfl)) (Or.inl ⟨by rfl, ?hy6i_4⟩) (by assumption) ?_
     case hy6i_4 => (intro w hSw; (try dsimp only at hSw); go_simp; try with_reducible rfl)
     try simp only [Act.put, pz0, pz1, pz2, pz3, pz4, pz5]
     refine wpAnyH_take (i := 2) (v := ?v2i_5) rfl (by kernel_rfl) (by kernel_rfl) (by kernel_rfl) (keepsK (by rfl) (by rfl)) (Or.inl ⟨by rfl, ?hy2i_5⟩) (by assumption) ?_
     case hy2i_5 => (intro w hSw; (try dsimp only at hSw); go_simp; try with_reducible rfl)
     try simp only [Act.put, pz0, pz1, pz2, pz3, pz4, pz5]
     refine rd 3 fun K hK => ?_
     go_simp
     refine (crc_any _ st _ HBY.out).mono ?_; rintro e wk ⟨rfl, hbk⟩
     unfold vu32
     rw [HQ.out]
     have R5 := Lib.hid (R4.out.below hD.out ((Below.refl _ X).drew.trans hbk))
     have HK5 := Lib.hid ((Below.refl _ X).drew.trans hbk)
     clear hbk
     go_wp2_with fail
     refine hK.out _ _ (by first | exact ⟨R5.out.inv.said.cell_is 3 rfl, by rw [HSQ.out]; exact R5.out.inv.said.cell_is 4 rfl⟩ | ((try dsimp only); exact ⟨R5.out.inv.said.cell_is 3 rfl, by rw [HSQ.out]; exact R5.out.inv.said.cell_is 4 rfl⟩)) (fun hHeld => ?_)
     clear hK K
     try simp only [Act.put, pz0, pz1, pz2, pz3, pz4, pz5]
     refine wpAnyH_take (i := 4) (v := ?v4i_6) rfl (by kernel_rfl) (by kernel_rfl) (by kernel_rfl) (keepsK (by rfl) (by rfl)) (Or.inl ⟨by rfl, ?hy4i_6⟩) (by assumption) ?_
     case hy4i_6 => (intro w hSw; (try dsimp only at hSw); go_simp; try with_reducible rfl)
     try simp only [Act.put, pz0, pz1, pz2, pz3, pz4, pz5]
     refine wpAnyH_take (i := 7) (v := ?v7i_7) rfl (by kernel_rfl) (by kernel_rfl) (by kernel_rfl) (keepsK (by rfl) (by rfl)) (Or.inl ⟨by rfl, ?hy7i_7⟩) (by assumption) ?_
     case hy7i_7 => (intro w hSw; (try dsimp only at hSw); go_simp; try with_reducible rfl)
     try simp only [Act.put, pz0, pz1, pz2, pz3, pz4, pz5]
     refine rd 8 fun K hK => ?_
     go_simp
     refine (must_no 170 _).mono ?_; rintro e wk2 ⟨rfl, rfl⟩
     go_wp2_with fail
     exact ⟨⟨rfl, rfl, rfl⟩, (HK5.out.block Dd (Array.getElem?_eq_some_iff.1 HK.out).1).trans HK.out, R5.out.inv.gone rfl HC.out (by decide)⟩
    have hqs2 := hqs.symm
    subst hqs2
    have hend := HEND.out
    clear HEND
    rw [if_pos rfl] at hend
    have HEND := Lib.hid hend
    clear hend
    go_upto_region 20 with fail
    refine wp_region_noPanic ?_
    refine wp_region_held_drew (S := (fun w' => w'.cell? ⟨gs, 3, none⟩ = some (.slice (some ⟨gst, 0, none⟩) nb nb) ∧ w'.cell? ⟨gs, 4, none⟩ = some (.int .i64 (sq : Int)))) (by kernel_rfl) (by first | exact ⟨c3, c4⟩ | ((try dsimp only); exact ⟨c3, c4⟩)) (fun hHeld => ?_)
    refine tk 0 ?_
    refine tk 5 ?_
    refine tk 1 ?_
    refine tk 6 ?_
    refine tk 2 ?_
    refine rd 3 fun K hK => ?_
    go_simp
    refine (crc_any _ st _ HBY.out).mono ?_; rintro e wk ⟨rfl, hbk⟩
    unfold vu32
    rw [HQ.out]
    have R5 := Lib.hid (R4.out.below hD.out ((Below.refl _ X).drew.trans hbk))
    have HK5 := Lib.hid ((Below.refl _ X).drew.trans hbk)
    clear hbk
    go_wp2_with fail
    refine hK.out _ _ (by first | exact ⟨R5.out.inv.said.cell_is 3 rfl, by rw [HSQ.out]; exact R5.out.inv.said.cell_is 4 rfl⟩ | ((try dsimp only); exact ⟨R5.out.inv.said.cell_is 3 rfl, by rw [HSQ.out]; exact R5.out.inv.said.cell_is 4 rfl⟩)) (fun hHeld => ?_)
    clear hK K
    try simp only [Act.put, pz0, pz1, pz2, pz3, pz4, pz5]
    refine tk 4 ?_
    refine tk 7 ?_
    refine rd 8 fun K hK => ?_
    go_simp
    refine (must_yes 170 _).mono ?_; rintro e wk2 ⟨rfl, rfl⟩
    go_wp2_with fail
    refine hK.out _ _ (by first | exact ⟨R5.out.inv.said.cell_is 3 rfl, by rw [HSQ.out]; exact R5.out.inv.said.cell_is 4 rfl⟩ | ((try dsimp only); exact ⟨R5.out.inv.said.cell_is 3 rfl, by rw [HSQ.out]; exact R5.out.inv.said.cell_is 4 rfl⟩)) (fun hHeld => ?_)
    clear hK K
    try simp only [Act.put, pz0, pz1, pz2, pz3, pz4, pz5]
    refine wpAnyH_done (by kernel_rfl) ?_ _
    try simp only [Act.put, pz0, pz1, pz2, pz3, pz4, pz5]
    refine NoPanic.normal ?_
    clear c3 c4
    obtain ⟨F4, eF⟩ : ∃ F4, F4 = (#[.int .i64 (numAt (headS x N area) 4 8 : Nat), .slice ao j co, .slice ab j cb, .slice (some ⟨gst, 0, none⟩) nb nb] : Array Value) := ⟨_, rfl⟩
    have hF4i : (Tryz.prog.info? 28).map (·.size) = some F4.size := by rw [eF]; kernel_rfl
    have hF41 : F4.all (·.oneCell') = true := by rw [eF, List.all_toArray]; rfl
    have hF4z : zeroF.size = F4.size := by rw [eF]; rfl
    have hld : (loadVar 28 ⟨gs, 0, none⟩).run Tryz.prog wk = .ok (.agg F4) wk := by
     have h1 := run_loadVar_mid (P := Tryz.prog) wk gs 0 28 F4.toList _ (by
      rw [eF]
      intro k u hu
      rw [Nat.zero_add]
      have hk : k < 4 := by
       rcases Nat.lt_or_ge k 4 with h | h
       ·exact h
       ·rw [List.getElem?_eq_none (by simpa using h)] at hu; cases hu
      have hk4 : k = 0 ∨ k = 1 ∨ k = 2 ∨ k = 3 := by omega
      rcases hk4 with rfl | rfl | rfl | rfl
      all_goals exact R5.out.inv.said.cell_is _ hu) Tryz.underlying28 rfl (by rw [Array.length_toList]; exact hF4i)
     rwa [Array.toArray_toList] at h1
    have HLD := Lib.hid hld
    have HEF := Lib.hid eF
    clear hld eF
    have b3 := R5.out.inv.b3
    have b4 := R5.out.inv.b4
    have c7 := (b4.row_far (g' := w.heap.size + 3) F4 (by omega)).cell_is 0 rfl
    have f7 := (b4.row_far (g' := w.heap.size + 3) F4 (by omega)).frozen 0
    have B3 := Lib.hid b3
    have B4 := Lib.hid b4
    clear b3 b4
    go_wp2_with (first
     | (refine wpList_load_midG rfl 28 _ rfl gs 0 rfl F4 HLD.out ?_)
     | (refine wpList_store_row rfl 28 _ _ rfl (w.heap.size + 3) F4 rfl rfl 28 _ B3.out hF4i hF4z hF41 ?_))
    have hDl : Dd < X.heap.size := (Array.getElem?_eq_some_iff.1 HK.out).1
    have hlo5 := R5.out.lo
    have hK1 : ((wk.setRow (w.heap.size + 3) F4).setCell ⟨w.heap.size + 4, 0, none⟩ (.int .i64 0)).heap[Dd]? = some (.deferred (some [])) :=
     (Below.heap_setCell _ _ _ _ (by show Dd ≠ w.heap.size + 4; omega)).trans ((setRow_other _ (w.heap.size + 3) Dd F4 (by omega)).trans ((HK5.out.block Dd hDl).trans HK.out))
    refine ⟨by simp, .inl ⟨_, _, rfl, run_takeDeferred hK1, ?_⟩⟩
    refine ⟨by simp, .inr ⟨(fun h => by cases h), Fn.func 68, #[], 68, #[ptr (w.heap.size + 4)], rfl, by simp [go_sem, ptr], fun _ _ => trivial, ?_⟩⟩
    refine CallsDIn.mono' (given_idle_in (nf - 1) ⟨w.heap.size + 4, 0, none⟩ _) ?_
    rintro e u' w'' ⟨rfl, rfl, rfl⟩
    have hof : Out (fun i => i = w.heap.size + 3 ∨ i = w.heap.size + 4 ∨ i = Dd) wk (((wk.setRow (w.heap.size + 3) F4).setCell ⟨w.heap.size + 4, 0, none⟩ (.int .i64 0)).putObj Dd (.deferred none)) :=
     ⟨rfl, rfl, rfl, by simp, fun k hk hn => (World.putObj_heap_other (fun e => hn (.inr (.inr e)))).trans ((Below.heap_setCell _ _ _ _ (fun e => hn (.inr (.inl e)))).trans (setRow_other _ (w.heap.size + 3) k F4 (fun e => hn (.inl e))))⟩
    have b3 : Blk (((wk.setRow (w.heap.size + 3) F4).setCell ⟨w.heap.size + 4, 0, none⟩ (.int .i64 0)).putObj Dd (.deferred none)) (w.heap.size + 3) 28 F4 :=
     (World.putObj_heap_other (by omega)).trans ((B3.out.row F4).far (by simp) _)
    have b4 : Blk (((wk.setRow (w.heap.size + 3) F4).setCell ⟨w.heap.size + 4, 0, none⟩ (.int .i64 0)).putObj Dd (.deferred none)) (w.heap.size + 4) 32 #[.int .i64 0] :=
     (World.putObj_heap_other (by omega)).trans ((B4.out.row_far F4 (by omega)).set_ 0 (.int .i64 0))
    refine ⟨_, results_row_cell Tryz.results20 _ _ (w.heap.size + 3) 28 F4 (0, 0) _ rfl b3 Tryz.underlying28 rfl hF4i _ _ rfl (load_errno _ (w.heap.size + 4) _ _ b4), .agg F4, x.plus (1 + (j + chunksN nb)), by rw [HEND.out], ?_, ?_, by rw [HEND.out], ?_⟩
    ·have ho := R5.out.oids
     rw [← EN.out] at ho
     have hne : ∀ k, m1 ≤ k → k < Wl.heap.size → ¬ (k = w.heap.size + 3 ∨ k = w.heap.size + 4 ∨ k = Dd) := fun k h1 h2 h3 => by omega
     have hfr := frame_from (lo := w.heap.size) (ownsRow_out hof ho (fun k hk => hne k (ho.lt k hk).1 (hrl k (.inl hk)))) (ownsRow_out hof R5.out.objs (fun k hk => hne k (R5.out.objs.lt k hk).1 (hrl k (.inr (.inl hk))))) (hof.blk R5.out.page (hne gst hlo5.2.1 hgl)) EN.out ENB.out ⟨by omega, hlo5.2.1⟩ hnb (fun i hi => x.reads_len (by have := (HXO.out 0 (by omega)).sound; exact this) _)
     rw [← HEF.out] at hfr
     rw [HEND.out]
     exact (if_pos (by rfl)).mpr hfr
    ·exact R5.out.inv.disk.out hof (fun k hk hf => by have := hD.out k hk; omega)
    ·exact ⟨R5.out.inv.step.out.trans hof (fun k hk hf => by omega), rfl, fun k hk => .inl hk⟩
end Go.Proofs.YtdpniceapmikpaaGreat
