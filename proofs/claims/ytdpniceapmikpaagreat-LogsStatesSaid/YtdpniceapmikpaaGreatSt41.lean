/-
  The reference's Read of an area that has no frame, or of no area.
  The reference's Lays of a frame without objects. (Written by gen_lrlays0.py.)
  logs.Write and logs.Read refused.
-/
import Derived.Test.YtdpniceapmikpaaGreatSt1
import Derived.Test.YtdpniceapmikpaaGreatSt23
import Derived.Test.YtdpniceapmikpaaGreatSt24
import Derived.Test.YtdpniceapmikpaaGreatSt25
import Derived.Test.YtdpniceapmikpaaGreatSt29
import Derived.Test.YtdpniceapmikpaaGreatSt36
import Derived.Test.YtdpniceapmikpaaGreatSt38
import Derived.Test.YtdpniceapmikpaaGreatSt39
set_option linter.unusedVariables false
set_option linter.unusedSimpArgs false
namespace Go.Proofs.YtdpniceapmikpaaGreat
open Go.RowKit

set_option maxRecDepth 100000 in
set_option maxHeartbeats 8000000 in
theorem rread_stop (x : DiskD) (lv wv fv : Value) (N area : Int) (w : World) (h : RDisk w w.heap.size lv wv fv x) (hx : x.ok) (hn0 : askB N x.size area = true → numAt (headS x N area) 12 2 = 0) (he : (rheadR x N area).2.2 ≠ 0) :
  Calls Tryz.prog 19 #[.agg #[lv, wv, .int .i64 x.steps, fv], .agg #[.int .i64 N], .int .i64 area] w fun e w' => e = .returned (.tuple #[.agg #[lv, wv, .int .i64 (rheadR x N area).1.steps, fv], .agg zeroF, .int .i64 (rheadR x N area).2.2]) ∧ Below w.heap.size w w' := by
 have HONE := Lib.hid h.one
 obtain ⟨W, eW⟩ : ∃ W, W = (((w.alloc (.cells #[lv, wv, .int .i64 x.steps, fv] 40)).alloc (.cells #[.int .i64 N] 23)).alloc (.cells zeroD 40)).alloc (.cells zeroF 28) := ⟨_, rfl⟩
 have hbW : Below w.heap.size w W := by rw [eW]; exact ((((Below.refl _ w).alloc (Nat.le_refl _) _).alloc (by simp) _).alloc (by simp; omega) _).alloc (by simp; omega) _
 have k0 : Blk W w.heap.size 40 #[lv, wv, .int .i64 x.steps, fv] := by rw [eW]; exact (((Blk.new w _ _).alloc _).alloc _).alloc _
 have k1 : Blk W (w.heap.size + 1) 23 #[.int .i64 N] := by rw [eW]; exact ((Blk.new2 w _ _ _).alloc _).alloc _
 have k3 : Blk W (w.heap.size + 2) 40 zeroD := by rw [eW]; exact (Blk.new' (by simp)).alloc _
 have k4 : Blk W (w.heap.size + 3) 28 zeroF := by rw [eW]; exact Blk.new' (by simp)
 have HH := Lib.hid (rhead0_any x lv wv fv N area W ((h.below hbW (Nat.le_refl _)).mono hbW.size) hx hn0)
 obtain ⟨z, hz⟩ : ∃ z, z = (rheadR x N area).2.2 := ⟨_, rfl⟩
 obtain ⟨s, hs⟩ : ∃ s, s = (rheadR x N area).1.steps := ⟨_, rfl⟩
 rw [← hz] at he
 rw [← hz, ← hs] at HH ⊢
 have c1 := k1.cell_is 0 rfl
 clear h hn0 hz hs
 go_enter Tryz.func19, Tryz.ntmps19
 go_upto_region 1 with fail
 rw [← eW]
 clear eW
 go_wp2_with (first
  | (refine wpList_load_row rfl 40 _ rfl w.heap.size rfl 40 #[lv, wv, .int .i64 x.steps, fv] (0, 0) _ k0 Tryz.underlying40 rfl (size_rdisk _ _ _ _) ?_))
 refine HH.out.mono ?_; rintro e X1 ⟨v, rfl, hF, hx1⟩
 obtain ⟨vo, vb, vs, rfl, hf1, hf2, hf3⟩ := hF
 have oneVF : (#[.int .i64 (rheadR x N area).2.1.ed, vo, vb, vs] : Array Value).all (·.oneCell') = true := by
  obtain ⟨_, _, _, rfl, _⟩ := hf1
  obtain ⟨_, _, _, rfl, _⟩ := hf2
  obtain ⟨_, _, _, rfl, _⟩ := hf3
  simp [Value.oneCell']
 obtain ⟨VF, eVF⟩ : ∃ V, V = (#[.int .i64 (rheadR x N area).2.1.ed, vo, vb, vs] : Array Value) := ⟨_, rfl⟩
 have sizeVF : VF.size = 4 := by rw [eVF]; rfl
 have sizeVF2 : (Tryz.prog.info? 28).map (·.size) = some VF.size := by
  rw [sizeVF]
  kernel_rfl
 rw [← eVF] at oneVF ⊢
 clear eVF hf1 hf2 hf3 HH
 have ONE1 := HONE.out s
 have J3 := k3.below hx1 k3.lt
 have J4 := k4.below hx1 k4.lt
 have hl : w.heap.size + 3 < X1.heap.size := J4.lt
 have hB := hbW.trans (hx1.mono hbW.size)
 have y9 := (Blk.new X1 40 zeroD).alloc (.cells zeroF 28)
 have y10 := blk_row_far (Blk.new2 X1 (.cells zeroD 40) 28 zeroF) #[lv, wv, .int .i64 s, fv] (g' := X1.heap.size) (by omega)
 have z9 := blk_row_far (y9.row #[lv, wv, .int .i64 s, fv]) VF (g' := X1.heap.size + 1) (by omega)
 have z3 := blk_row_far (blk_row_far ((J3.alloc (.cells zeroD 40)).alloc (.cells zeroF 28)) #[lv, wv, .int .i64 s, fv] (g' := X1.heap.size) (by omega)) VF (g' := X1.heap.size + 1) (by omega)
 have z4 := blk_row_far (blk_row_far ((J4.alloc (.cells zeroD 40)).alloc (.cells zeroF 28)) #[lv, wv, .int .i64 s, fv] (g' := X1.heap.size) (by omega)) VF (g' := X1.heap.size + 1) (by omega)
 have hB2 := below_row (below_row ((hB.alloc hB.size (.cells zeroD 40)).alloc (by rw [World.size_alloc]; have := hB.size; omega) (.cells zeroF 28)) #[lv, wv, .int .i64 s, fv] (g := X1.heap.size) (by omega)) VF (g := X1.heap.size + 1) (by omega)
 clear J3 J4 k0 k1 k3 k4 hbW hx1 hB
 go_upto_region 3 with (first
  | (refine wpList_store_row rfl 40 _ _ rfl X1.heap.size #[lv, wv, .int .i64 s, fv] rfl rfl 40 zeroD y9 (size_rdisk _ _ _ _) rfl ONE1 ?_)
  | (refine wpList_store_row rfl 28 _ _ rfl (X1.heap.size + 1) VF rfl rfl 28 zeroF y10 sizeVF2 sizeVF.symm oneVF ?_))
 obtain ⟨Y, eY⟩ : ∃ Y, Y = (((X1.alloc (.cells zeroD 40)).alloc (.cells zeroF 28)).setRow X1.heap.size #[lv, wv, .int .i64 s, fv]).setRow (X1.heap.size + 1) VF := ⟨_, rfl⟩
 rw [← eY] at z9 z3 z4 hB2 ⊢
 clear eY y9 y10
 have z4b := blk_row_far z4 #[lv, wv, .int .i64 s, fv] (g' := w.heap.size + 2) (by omega)
 go_wp2_with (first
  | (refine wpList_load_row rfl 40 _ rfl X1.heap.size rfl 40 #[lv, wv, .int .i64 s, fv] (0, 0) _ z9 Tryz.underlying40 rfl (size_rdisk _ _ _ _) ?_)
  | (refine wpList_build_is rfl 28 _ rfl zeroF (by kernel_rfl) ?_)
  | (refine wpList_store_row rfl 40 _ _ rfl (w.heap.size + 2) #[lv, wv, .int .i64 s, fv] rfl rfl 40 zeroD z3 (size_rdisk _ _ _ _) rfl ONE1 ?_)
  | (refine wpList_store_row rfl 28 _ _ rfl (w.heap.size + 3) zeroF rfl rfl 28 zeroF z4b sizeF rfl oneF ?_))
 have hbf := below_row (below_row hB2 #[lv, wv, .int .i64 s, fv] (g := w.heap.size + 2) (by omega)) zeroF (g := w.heap.size + 3) (by omega)
 exact bodyPost_ret (results_row_row_tmp Tryz.results19 _ _ _ _ _ _ _ (by rfl) (load_rdisk (blk_row_far (z3.row _) _ (by omega))) (by rfl) (loadF (z4b.row _)) (by rfl)) rfl ⟨rfl, hbf⟩
end Go.Proofs.YtdpniceapmikpaaGreat
namespace Go.Proofs.YtdpniceapmikpaaGreat
open Go.RowKit

theorem ne_rows' {w : World} {B B' k k' : Nat} {e e' : TypeId} {v v' : Value} {n n' : Nat} {xs xs' : List Value} (h : w.ownsRow B e k v n xs) (h' : w.ownsRow B' e' k' v' n' xs') (he : e ≠ e') (i : Nat) (hi : v.ownBlock = some i) (hi' : v'.ownBlock = some i) : False := ne_rows h h' he i hi hi'
theorem waitCells_snoc (l : List WaitD) (y : WaitD) : waitCells (l ++ [y]) = waitCells l ++ y.cells := by simp [waitCells, List.flatMap_append]
/-- the first sectors of a state -/
def laysK (N a : Nat) (st : List UInt8) (k : Nat) : List WaitD := (List.range k).map fun i => ⟨((Place.sec N ⟨3, a, i⟩ : Nat) : Int), (secOf st i).1⟩
theorem laysK_succ (N a : Nat) (st : List UInt8) (k : Nat) : laysK N a st (k + 1) = laysK N a st k ++ [⟨((Place.sec N ⟨3, a, k⟩ : Nat) : Int), (secOf st k).1⟩] := by
 unfold laysK
 rw [List.range_succ, List.map_append]
 rfl
theorem laysK_len (N a : Nat) (st : List UInt8) (k : Nat) : (laysK N a st k).length = k := by simp [laysK]
theorem laysK_all {N a : Nat} {f : FrameD} (h : frameB N f = true) (ha : a ≤ 1) (h0 : f.objs = []) : (allSteps N a f).map (·.1) = laysK N a f.state (chunksN f.state.length) ++ [⟨((Place.sec N ⟨2, a, 0⟩ : Nat) : Int), sectorL (headL f)⟩] := by
 obtain ⟨hR, _, _, _, _, _⟩ := frameB_facts h
 have hN := right_le hR
 have hN' : 1 ≤ N ∧ N ≤ 64 := by omega
 have hc := chunks_le h
 unfold allSteps
 rw [h0, List.map_append, List.map_append, List.map_map]
 have e1 : (objSteps N a ([] : List ObjD)).map (·.1) = [] := rfl
 rw [e1, List.nil_append]
 congr 1
 ·unfold laysK partL
  rw [List.map_map]
  apply List.map_congr_left
  intro i hi
  have hi := List.mem_range.1 hi
  show (⟨(sectorN N 3 a (mkIdx i).1).1, (secOf f.state i).1⟩ : WaitD) = _
  have e : sectorN N 3 a i = (((Place.sec N ⟨3, a, i⟩ : Nat) : Int), 0) := sectorN_place N ⟨3, a, i⟩ hN' ⟨ha, .inr (.inl ⟨rfl, by show i < 8; omega⟩)⟩
  rw [mkIdx_val i (by omega), e]
 ·have e : sectorN N 2 a 0 = (((Place.sec N ⟨2, a, 0⟩ : Nat) : Int), 0) := sectorN_place N ⟨2, a, 0⟩ hN' ⟨ha, .inl ⟨rfl, rfl⟩⟩
  show [(⟨(sectorN N 2 a 0).1, (secS (sectorL (headL f))).1⟩ : WaitD)] = _
  rw [e, secS_val _ (sectorL_len _ (headL_len h).2)]
set_option maxRecDepth 100000 in
set_option maxHeartbeats 8000000 in
theorem rlays0_any (N a : Nat) (f : FrameD) (fr : Value) (w : World) (hf : FrameIn w w.heap.size fr f) (hfr : frameB N f = true) (ha : a ≤ 1) (hed : f.ed ≤ 9223372036854775807) (h0 : f.oids = []) (h0b : f.objs = []) :
  Calls Tryz.prog 49 #[.agg #[.int .i64 (N : Int)], .int .i64 (a : Int), fr] w fun e w' => ∃ v, e = .returned v ∧ WaitsIn w' w'.heap.size v ((allSteps N a f).map (·.1)) ∧ Below w.heap.size w w' := by
 rw [laysK_all hfr ha h0b]
 have hcl := chunks_le hfr
 have hlh := headL_len hfr
 have hhl : headL f = headPre f := by unfold headL; rw [h0]; exact List.append_nil _
 obtain ⟨hR, p1, p2, p3, p4, p5⟩ := frameB_facts hfr
 have hN0 := right_le hR
 have hN : 1 ≤ N ∧ N ≤ 64 := by omega
 have hp3 : ∀ k, k < 8 → Place.ok N ⟨3, a, k⟩ := fun k hk => ⟨ha, .inr (.inl ⟨rfl, hk⟩)⟩
 have hp2 : Place.ok N ⟨2, a, 0⟩ := ⟨ha, .inl ⟨rfl, rfl⟩⟩
 obtain ⟨vo, vb, vs, rfl, hf1, hf2, hf3⟩ := hf
 obtain ⟨_, ao, co, evo, _, _⟩ := hf1
 rw [h0, List.length_nil] at evo
 subst evo
 have HST0 := hf3
 obtain ⟨_, aw, cs, rfl, _, _⟩ := hf3
 obtain ⟨ed, hede⟩ : ∃ ed : Nat, f.ed = (ed : Int) := ⟨f.ed.toNat, by omega⟩
 have hed2 : (ed : Int) ≤ 9223372036854775807 := by omega
 have ehp : headPre f = [67, 72, 76, 71] ++ leB ed 8 ++ leB 0 2 ++ leB f.state.length 2 ++ leB (crcW f.state).toNat 4 := by
  unfold headPre
  rw [hede, h0]
  rfl
 rw [hhl, hede]
 have hl20 := headPre_len f
 have hl508 : (headPre f).length ≤ 508 := by omega
 obtain ⟨st, est⟩ : ∃ st, st = f.state := ⟨_, rfl⟩
 obtain ⟨hl, ehl⟩ : ∃ hl, hl = headPre f := ⟨_, rfl⟩
 rw [← ehl] at hl20 ehp hl508 ⊢
 rw [← est] at HST0 hcl p4 ehp ⊢
 have HST := Lib.hid HST0
 have HHL := Lib.hid ehp
 have hcr := crcW_lt st
 have HCRC := Lib.hid (fun W (hh : BytesIn W W.heap.size (.slice aw st.length cs) st) => rcrc_any (.slice aw st.length cs) st W hh)
 have h12 := laysK_len N a st
 have HLEN := Lib.hid h12
 clear HST0 hhl est ehl hf2 hfr ehp h0 h0b h12 hlh p1 p2 p3 p5 hed hede
 have hst4 : st.length ≤ 4096 := p4
 have cv := Lib.run_convert_bytes_const (P := Tryz.prog) ((w.alloc (.cells #[.int .i64 (N : Int)] 23)).alloc (.cells #[.int .i64 (ed : Int), .slice ao 0 co, vb, .slice aw st.length cs] 28)) 26 5 #[.int .u8 67, .int .u8 72, .int .u8 76, .int .u8 71] 4 4 Tryz.underlying26 Tryz.underlying5
 rw [World.size_alloc, World.size_alloc] at cv
 go_enter Tryz.func49, Tryz.ntmps49
 go_upto_region 3 with fail
 obtain ⟨W, eW⟩ : ∃ W, W = ((w.alloc (.cells #[.int .i64 (N : Int)] 23)).alloc (.cells #[.int .i64 (ed : Int), .slice ao 0 co, vb, .slice aw st.length cs] 28)).alloc (.cells #[.int .u8 67, .int .u8 72, .int .u8 76, .int .u8 71] 5 (4, 5)) := ⟨_, rfl⟩
 rw [← eW]
 have hb0 : Below w.heap.size w W := by rw [eW]; exact (((Below.refl _ w).alloc (Nat.le_refl _) _).alloc (by simp) _).alloc (by simp; omega) _
 have k0 : Blk W w.heap.size 23 #[.int .i64 (N : Int)] := by rw [eW]; exact ((Blk.new w _ _).alloc _).alloc _
 have k1 : Blk W (w.heap.size + 1) 28 #[.int .i64 (ed : Int), .slice ao 0 co, vb, .slice aw st.length cs] := by rw [eW]; exact (Blk.new2 w _ _ _).alloc _
 have KM : W.heap[w.heap.size + 2]? = some (.cells #[.int .u8 67, .int .u8 72, .int .u8 76, .int .u8 71] 5 (4, 5)) := by
  rw [eW]
  have := heap_alloc_new ((w.alloc (.cells #[.int .i64 (N : Int)] 23)).alloc (.cells #[.int .i64 (ed : Int), .slice ao 0 co, vb, .slice aw st.length cs] 28)) (.cells #[.int .u8 67, .int .u8 72, .int .u8 76, .int .u8 71] 5 (4, 5))
  rw [World.size_alloc, World.size_alloc] at this
  exact this
 have hWs : W.heap.size = w.heap.size + 3 := by rw [eW]; simp
 clear eW cv
 have q0 := k1.cell_is 0 rfl
 go_wp2_with fail
 refine (rlow_any ed 8 W rfl hed2).mono ?_; rintro e L1 ⟨l1, rfl, hlo1, hlb1⟩
 obtain ⟨g1, cap1, e1, _, _⟩ := World.ownsRow.form hlo1 (by omega)
 subst e1
 have hu1 := BytesIn.own hlo1
 have hnews : ∀ j u, ((leB ed 8).map vu8)[j]? = some u → L1.cell? ((⟨g1, 0, none⟩ : Addr).add j) = some u := by
  intro j u hj
  rw [List.getElem?_map] at hj
  obtain ⟨c, hcj, rfl⟩ := Option.map_eq_some_iff.1 hj
  obtain ⟨g2, off, h, _, hcell⟩ := hu1.at_ hcj
  cases h
  rw [add_at]
  exact hcell
 have holds : ∀ j u, (([67, 72, 76, 71] : List UInt8).map vu8)[j]? = some u → L1.cell? ((⟨w.heap.size + 2, 0, none⟩ : Addr).add j) = some u := by
  intro j u hj
  rw [add_at, Nat.zero_add]
  refine (hlb1.cell (p := ⟨w.heap.size + 2, j, none⟩) (by show w.heap.size + 2 < W.heap.size; omega)).trans ?_
  rw [cell_of_row W (w.heap.size + 2) j _ _ _ KM]
  have e : (#[.int .u8 67, .int .u8 72, .int .u8 76, .int .u8 71] : Array Value).toList = ([67, 72, 76, 71] : List UInt8).map vu8 := rfl
  rw [← Array.getElem?_toList, e]
  exact hj
 have kk0 := k0.below hlb1 k0.lt
 have kk1 := k1.below hlb1 k1.lt
 have hbL := hb0.trans (hlb1.mono hb0.size)
 have hke := leB_len ed 8
 go_upto_region 4 with (at_builtin; refine wpList_append_grows L1 rfl (.tmp 15) (.tmp 18) rfl ⟨w.heap.size + 2, 0, none⟩ 4 4 [67, 72, 76, 71] rfl rfl holds ⟨g1, 0, none⟩ 8 cap1 (leB ed 8) rfl hke hnews (by omega) (by omega) ?_; intro hv1 X1 hO1 hg1)
 have hb1 := hbL.grown hg1 hbL.size (fun r hr => by cases hr)
 have r1 : X1.ownsRow w.heap.size 5 1 hv1 12 (([67, 72, 76, 71] ++ leB ed 8).map vu8) := by rw [List.map_append]; exact ownsRow_mono' hO1 hbL.size
 have a0 : Blk X1 w.heap.size 23 #[.int .i64 (N : Int)] := (hg1.block _ kk0.lt (fun e => by cases e)).trans kk0
 have a1 : Blk X1 (w.heap.size + 1) 28 #[.int .i64 (ed : Int), .slice ao 0 co, vb, .slice aw st.length cs] := (hg1.block _ kk1.lt (fun e => by cases e)).trans kk1
 clear q0 k0 k1 KM hnews holds kk0 kk1 hbL hO1 hg1 hlo1 hlb1 hu1 hke hb0
 have q2 := a1.cell_is 1 rfl
 go_wp2_with fail
 refine (rlow_any 0 2 X1 rfl (by omega)).mono ?_; rintro e L2 ⟨l2, rfl, hlo2, hlb2⟩
 obtain ⟨g2, cap2, e2, _, _⟩ := World.ownsRow.form hlo2 (by omega)
 subst e2
 have hu2 := BytesIn.own hlo2
 have hke2 := leB_len (0) 2
 have kk02 := (a0 : Blk _ _ _ _).below hlb2 (a0 : Blk _ _ _ _).lt
 have kk12 := (a1 : Blk _ _ _ _).below hlb2 (a1 : Blk _ _ _ _).lt
 have hbL2 := hb1.trans (hlb2.mono hb1.size)
 have ho2 := ownsRow_out (F := fun _ => False) (outB hlb2) r1 (fun _ _ => id)
 go_upto_region 5 with (at_builtin; refine wpList_append_bytes _ rfl (.tmp 20) (.tmp 24) rfl w.heap.size L2.heap.size 12 hv1 _ rfl ho2 (some ⟨g2, 0, none⟩) 2 cap2 (leB (0) 2) rfl hke2 hu2 (by omega) hbL2.size ?_; intro hv2 X2 hO2 hg2)
 have hb2 := hbL2.grown hg2 hbL2.size (fun r hr => (ho2.lt r hr).1)
 have r2 : X2.ownsRow w.heap.size 5 1 hv2 (12 + 2) (([67, 72, 76, 71] ++ leB ed 8 ++ leB (0) 2).map vu8) := by rw [List.map_append]; exact hO2
 have b02 : Blk X2 w.heap.size 23 #[.int .i64 (N : Int)] := (hg2.block _ kk02.lt (fun e => ne_own ho2 kk02 (by decide) _ e.symm rfl)).trans kk02
 have b12 : Blk X2 (w.heap.size + 1) 28 #[.int .i64 (ed : Int), .slice ao 0 co, vb, .slice aw st.length cs] := (hg2.block _ kk12.lt (fun e => ne_own ho2 kk12 (by decide) _ e.symm rfl)).trans kk12
 clear q2 kk02 kk12 hbL2 hO2 hg2 hlo2 hlb2 hu2 hke2 ho2 hb1 r1 a0 a1
 have q3 := b12.cell_is 3 rfl
 go_wp2_with fail
 refine (rlow_any st.length 2 X2 rfl (by omega)).mono ?_; rintro e L3 ⟨l3, rfl, hlo3, hlb3⟩
 obtain ⟨g3, cap3, e3, _, _⟩ := World.ownsRow.form hlo3 (by omega)
 subst e3
 have hu3 := BytesIn.own hlo3
 have hke3 := leB_len (st.length) 2
 have kk03 := (b02 : Blk _ _ _ _).below hlb3 (b02 : Blk _ _ _ _).lt
 have kk13 := (b12 : Blk _ _ _ _).below hlb3 (b12 : Blk _ _ _ _).lt
 have hbL3 := hb2.trans (hlb3.mono hb2.size)
 have ho3 := ownsRow_out (F := fun _ => False) (outB hlb3) r2 (fun _ _ => id)
 go_upto_region 6 with (at_builtin; refine wpList_append_bytes _ rfl (.tmp 26) (.tmp 30) rfl w.heap.size L3.heap.size (12 + 2) hv2 _ rfl ho3 (some ⟨g3, 0, none⟩) 2 cap3 (leB (st.length) 2) rfl hke3 hu3 (by omega) hbL3.size ?_; intro hv3 X3 hO3 hg3)
 have hb3 := hbL3.grown hg3 hbL3.size (fun r hr => (ho3.lt r hr).1)
 have r3 : X3.ownsRow w.heap.size 5 1 hv3 ((12 + 2) + 2) (([67, 72, 76, 71] ++ leB ed 8 ++ leB (0) 2 ++ leB (st.length) 2).map vu8) := by rw [List.map_append]; exact hO3
 have b03 : Blk X3 w.heap.size 23 #[.int .i64 (N : Int)] := (hg3.block _ kk03.lt (fun e => ne_own ho3 kk03 (by decide) _ e.symm rfl)).trans kk03
 have b13 : Blk X3 (w.heap.size + 1) 28 #[.int .i64 (ed : Int), .slice ao 0 co, vb, .slice aw st.length cs] := (hg3.block _ kk13.lt (fun e => ne_own ho3 kk13 (by decide) _ e.symm rfl)).trans kk13
 clear q3 kk03 kk13 hbL3 hO3 hg3 hlo3 hlb3 hu3 hke3 ho3 hb2 r2 b02 b12
 have q4 := b13.cell_is 3 rfl
 go_wp2_with fail
 refine (HCRC.out X3 ((HST.out.below hb3 (Nat.le_refl _)).mono hb3.size)).mono ?_; rintro e c3 ⟨rfl, hwc⟩
 subst hwc
 obtain ⟨C, eC⟩ : ∃ C, C = (crcW st).toNat := ⟨_, rfl⟩
 unfold vu32
 rw [← eC] at hcr ⊢
 have EC := Lib.hid eC
 clear eC
 go_wp2_with fail
 refine (rlow_any C 4 X3 rfl (by omega)).mono ?_; rintro e L4 ⟨l4, rfl, hlo4, hlb4⟩
 obtain ⟨g4, cap4, e4, _, _⟩ := World.ownsRow.form hlo4 (by omega)
 subst e4
 have hu4 := BytesIn.own hlo4
 have hke4 := leB_len (C) 4
 have kk04 := (b03 : Blk _ _ _ _).below hlb4 (b03 : Blk _ _ _ _).lt
 have kk14 := (b13 : Blk _ _ _ _).below hlb4 (b13 : Blk _ _ _ _).lt
 have hbL4 := hb3.trans (hlb4.mono hb3.size)
 have ho4 := ownsRow_out (F := fun _ => False) (outB hlb4) r3 (fun _ _ => id)
 go_upto_region 7 with (at_builtin; refine wpList_append_bytes _ rfl (.tmp 32) (.tmp 37) rfl w.heap.size L4.heap.size (12 + 2 + 2) hv3 _ rfl ho4 (some ⟨g4, 0, none⟩) 4 cap4 (leB (C) 4) rfl hke4 hu4 (by omega) hbL4.size ?_; intro hv4 X4 hO4 hg4)
 have hb4 := hbL4.grown hg4 hbL4.size (fun r hr => (ho4.lt r hr).1)
 have r4 : X4.ownsRow w.heap.size 5 1 hv4 ((12 + 2 + 2) + 4) (([67, 72, 76, 71] ++ leB ed 8 ++ leB (0) 2 ++ leB (st.length) 2 ++ leB (C) 4).map vu8) := by rw [List.map_append]; exact hO4
 have b04 : Blk X4 w.heap.size 23 #[.int .i64 (N : Int)] := (hg4.block _ kk04.lt (fun e => ne_own ho4 kk04 (by decide) _ e.symm rfl)).trans kk04
 have b14 : Blk X4 (w.heap.size + 1) 28 #[.int .i64 (ed : Int), .slice ao 0 co, vb, .slice aw st.length cs] := (hg4.block _ kk14.lt (fun e => ne_own ho4 kk14 (by decide) _ e.symm rfl)).trans kk14
 clear q4 kk04 kk14 hbL4 hO4 hg4 hlo4 hlb4 hu4 hke4 ho4 hb3 r3 b03 b13
 have hrow : X4.ownsRow w.heap.size 5 1 hv4 20 (hl.map vu8) := by
  rw [HHL.out, ← EC.out]
  exact r4
 have HC4 := Lib.hid hb4
 have HROW := Lib.hid hrow
 have HB04 := Lib.hid b04
 have HB14 := Lib.hid b14
 clear r4 hrow hb4 b04 b14
 go_wp2_with fail
 go_loopw [7, 8, 9] (fun o h i wr => o = .slice none 0 0 ∧ hv4 = h ∧ i = .int .i64 0 ∧ X4 = wr) (fun _ _ _ _ => 0)
 case atStart => exact ⟨rfl, rfl, rfl, rfl⟩
 case round =>
  obtain ⟨rfl, rfl, rfl, rfl⟩ := hrel
  have q1 := HB14.out.cell_is 1 rfl
  go_wp2_with fail
  go_loopw [7, 12] (fun o i wr => ∃ (k : Nat) (o' : Value), o' = o ∧ k ≤ chunksN st.length ∧ i = .int .i64 (k : Int) ∧ wr.ownsRow w.heap.size 113 513 o' k (waitCells (laysK N a st k)) ∧ wr.ownsRow w.heap.size 5 1 hv4 20 (hl.map vu8) ∧ Blk wr w.heap.size 23 #[.int .i64 (N : Int)] ∧ Blk wr (w.heap.size + 1) 28 #[.int .i64 (ed : Int), .slice ao 0 co, vb, .slice aw st.length cs] ∧ Below w.heap.size w wr) (fun _ i _ => chunksN st.length - (intOf i).toNat)
  case atStart => exact ⟨0, _, rfl, by omega, rfl, World.ownsRow_nil _ _ _ _, HROW.out, HB04.out, HB14.out, HC4.out⟩
  case round =>
   obtain ⟨k, o, rfl, hk, rfl, hO, hH, hK0, hK1, hBw⟩ := hrel
   have q3 := hK1.cell_is 3 rfl
   have HO := Lib.hid hO
   have HH := Lib.hid hH
   have HBr := Lib.hid hBw
   obtain ⟨i0, z0, T0⟩ := rowT_lay
   have HT := Lib.hid T0
   clear hO hH hBw T0
   by_cases hlt : k < chunksN st.length
   ·have hli : (k : Int) < (chunksN st.length : Int) := by omega
    have SK := Lib.hid (fun (W' : World) (hb' : Below wr.heap.size wr W') => And.intro ((hK0.below hb' hK0.lt).cell_is 0 rfl) ((hK1.below hb' hK1.lt).cell_is 3 rfl))
    have hb0 : Below wr.heap.size wr wr.drew := (Below.refl _ wr).drew
    go_wp2_with fail
    refine (rparts_any st.length wr (by omega)).mono ?_; rintro e w9 ⟨rfl, rfl⟩
    go_upto_region 17 with fail
    refine wp_region_held_drew (S := (fun w' => w'.cell? ⟨w.heap.size, 0, none⟩ = some (.int .i64 (N : Int)) ∧ w'.cell? ⟨w.heap.size + 1, 3, none⟩ = some (.slice aw st.length cs))) (by kernel_rfl) (by first | exact SK.out _ hb0 | ((try dsimp only); exact SK.out _ hb0)) (fun hHeld => ?_)
    generalize wr.drew = X0 at *
    refine tk 0 ?_
    refine tk 1 ?_
    refine tk 2 ?_
    refine tk 3 ?_
    refine tk 5 ?_
    refine tk 7 ?_
    refine tk 6 ?_
    refine rd 4 fun K hK => ?_
    go_simp
    refine (rat_any N ⟨3, a, k⟩ X0 hN (hp3 k (by omega))).mono ?_; rintro e X1 ⟨rfl, hb1'⟩
    have hb1 := hb0.trans (hb1'.mono hb0.size)
    obtain ⟨sn, esn⟩ : ∃ sn : Int, sn = ((Place.sec N ⟨3, a, k⟩ : Nat) : Int) := ⟨_, rfl⟩
    rw [← esn]
    have HSN := Lib.hid esn
    clear esn
    go_wp2_with fail
    refine hK.out _ _ (by first | exact SK.out _ hb1 | ((try dsimp only); exact SK.out _ hb1)) (fun hHeld => ?_)
    clear hK K
    try simp only [Act.put, pz0, pz1, pz2, pz3, pz4, pz5]
    refine rd 8 fun K hK => ?_
    go_simp
    refine (rpart_any (.slice aw st.length cs) st k X1 ((HST.out.below (HBr.out.trans (hb1.mono HBr.out.size)) (Nat.le_refl _)).mono (HBr.out.trans (hb1.mono HBr.out.size)).size) (by omega)).mono ?_; rintro e X2 ⟨rfl, hb2'⟩
    have hb2 := hb1.trans (hb2'.mono hb1.size)
    have hsb := (secOf st k).2
    obtain ⟨sb, esb⟩ : ∃ sb, sb = (secOf st k).1 := ⟨_, rfl⟩
    rw [← esb] at hsb ⊢
    have HSB := Lib.hid esb
    clear esb
    have wlen : (WaitD.cells ⟨sn, sb⟩).toArray.size = 513 := by simpa using WaitD.len ⟨sn, sb⟩ hsb
    have wlen2 : (WaitD.cells ⟨sn, sb⟩).length = 1 * 513 := WaitD.len ⟨sn, sb⟩ hsb
    unfold sectorV
    go_wp2_with fail
    refine hK.out _ _ (by first | exact SK.out _ hb2 | ((try dsimp only); exact SK.out _ hb2)) (fun hHeld => ?_)
    clear hK K
    try simp only [Act.put, pz0, pz1, pz2, pz3, pz4, pz5]
    refine ty 9 rfl (yieldsIf_build (by rfl) 113 _ rfl (WaitD.cells ⟨sn, sb⟩).toArray (by exact lay_built _ _ hsb)) ?_
    refine rd 10 fun K hK => ?_
    try rw [if_pos (by rfl)]
    refine wp_buildSliceL 108 113 1 _ rfl (WaitD.cells ⟨sn, sb⟩).toArray i0 z0 HT.out.ht HT.out.hi HT.out.hz (by rw [HT.out.h1]; decide) (by rw [HT.out.h1]; decide) (by exact wait_row _ wlen i0 z0 HT.out.h1 HT.out.h3) ?_
    obtain ⟨X3, eX3⟩ : ∃ V, V = X2.alloc (.cells (WaitD.cells ⟨sn, sb⟩).toArray 113) := ⟨_, rfl⟩
    have hb3 : Below wr.heap.size wr X3 := by rw [eX3]; exact hb2.alloc hb2.size _
    have bl3 : Blk X3 X2.heap.size 113 (WaitD.cells ⟨sn, sb⟩).toArray := by rw [eX3]; exact Blk.new X2 _ _
    try rw [← eX3]
    clear eX3
    refine hK.out _ _ (by first | exact SK.out _ hb3 | ((try dsimp only); exact SK.out _ hb3)) (fun hHeld => ?_)
    clear hK K
    try simp only [Act.put, pz0, pz1, pz2, pz3, pz4, pz5]
    refine rd 11 fun K hK => ?_
    try rw [if_pos (by rfl)]
    have ow3 := ownsRow_out (F := fun _ => False) (outB hb3) HO.out (fun _ _ => id)
    refine wp_append_lies _ (.tmp 88) (.tmp 98) 108 rfl w.heap.size 113 i0 z0 513 520 HT.out.ht HT.out.hi HT.out.hz HT.out.h1 HT.out.h2 HT.out.h3 (by omega) o k (waitCells (laysK N a st k)) rfl ow3 ⟨X2.heap.size, 0, none⟩ 1 1 (WaitD.cells ⟨sn, sb⟩) rfl wlen2 (World.news_of_block (cs := (WaitD.cells ⟨sn, sb⟩).toArray) (t := 113) (fr := (0, 0)) bl3) (wait_one ⟨sn, sb⟩) (by omega) (by unfold maxLen; omega) (by omega) (HBr.out.trans (hb3.mono HBr.out.size)).size X3.heap.size rfl ?_
    intro g4 c4 X4 hO4 hg4 hat4 hlt4
    have hb4 : Below w.heap.size w X4 := (HBr.out.trans (hb3.mono HBr.out.size)).grown hg4 (HBr.out.trans (hb3.mono HBr.out.size)).size (fun r hr => (ow3.lt r hr).1)
    have hh3 := ownsRow_out (F := fun _ => False) (outB hb3) HH.out (fun _ _ => id)
    have hh4 : X4.ownsRow w.heap.size 5 1 hv4 20 (hl.map vu8) := ownsRow_out (F := fun i => o.ownBlock = some i) ⟨hg4.os, hg4.tape, hg4.output, hg4.size, fun i hi hn => hg4.block i hi (fun e => hn e.symm)⟩ hh3 (fun i hi hi2 => ne_rows' ow3 hh3 (by decide) i hi2 hi)
    have k03 := hK0.below hb3 hK0.lt
    have k13 := hK1.below hb3 hK1.lt
    have k04 : Blk X4 w.heap.size 23 #[.int .i64 (N : Int)] := (hg4.block _ k03.lt (fun e => ne_own ow3 k03 (by decide) _ e.symm rfl)).trans k03
    have k14 : Blk X4 (w.heap.size + 1) 28 #[.int .i64 (ed : Int), .slice ao 0 co, vb, .slice aw st.length cs] := (hg4.block _ k13.lt (fun e => ne_own ow3 k13 (by decide) _ e.symm rfl)).trans k13
    refine hK.out _ _ (by first | exact ⟨k04.cell_is 0 rfl, k14.cell_is 3 rfl⟩ | ((try dsimp only); exact ⟨k04.cell_is 0 rfl, k14.cell_is 3 rfl⟩)) (fun hHeld => ?_)
    clear hK K
    try simp only [Act.put, pz0, pz1, pz2, pz3, pz4, pz5]
    refine tk 12 ?_
    refine wpAnyH_done (by kernel_rfl) ?_ _
    try simp only [Act.put, pz0, pz1, pz2, pz3, pz4, pz5]
    go_wp2_with fail
    go_roundw
    case rel =>
     refine ⟨k + 1, _, rfl, by omega, by go_num, ?_, hh4, k04, k14, hb4⟩
     rw [laysK_succ N a st k, waitCells_snoc, ← HSN.out, ← HSB.out]
     exact hO4
    case measure => simp [intOf]; omega
   ·have hnl : ¬ (k : Int) < (chunksN st.length : Int) := by omega
    have hke : k = chunksN st.length := by omega
    have HKE := Lib.hid hke
    have c0 := hK0.cell_is 0 rfl
    clear hke hlt
    go_wp2_with fail
    refine (rparts_any st.length wr (by omega)).mono ?_; rintro e w9 ⟨rfl, rfl⟩
    go_wp2_with fail
    refine (rat_any N ⟨2, a, 0⟩ wr hN hp2).mono ?_; rintro e Y1 ⟨rfl, hy1⟩
    obtain ⟨sn, esn⟩ : ∃ sn : Int, sn = ((Place.sec N ⟨2, a, 0⟩ : Nat) : Int) := ⟨_, rfl⟩
    rw [← esn]
    have HSN := Lib.hid esn
    clear esn
    have hH1 := ownsRow_out (F := fun _ => False) (outB hy1) HH.out (fun _ _ => id)
    have hO1 := ownsRow_out (F := fun _ => False) (outB hy1) HO.out (fun _ _ => id)
    have hB1 := HBr.out.trans (hy1.mono HBr.out.size)
    rw [show (20 : Nat) = hl.length from hl20.symm] at hH1
    go_wp2_with fail
    refine (rsealed_sec hv4 w.heap.size hl Y1 hH1 (by omega)).mono ?_; rintro e Y2 ⟨rfl, hy2⟩
    obtain ⟨sb, esb⟩ : ∃ sb, sb = sectorL hl := ⟨_, rfl⟩
    have hsb : sb.length = 512 := by rw [esb]; exact sectorL_len hl hl508
    rw [← esb]
    have HSB := Lib.hid esb
    clear esb
    have hO2 := ownsRow_out hy2 hO1 (fun i hi hi2 => ne_rows' hO1 hH1 (by decide) i hi hi2)
    have hB2 : Below w.heap.size w Y2 := (Out.trans (F := fun i => w.heap.size ≤ i) (outB' hB1 (fun _ h => h)) hy2 (fun i _ h => (hH1.lt i h).1)).below (Nat.le_refl _) (fun i hi h => by omega)
    have wlen : (WaitD.cells ⟨sn, sb⟩).toArray.size = 513 := by simpa using WaitD.len ⟨sn, sb⟩ hsb
    have wlen2 : (WaitD.cells ⟨sn, sb⟩).length = 1 * 513 := WaitD.len ⟨sn, sb⟩ hsb
    have hO3 := hO2.alloc (.cells (WaitD.cells ⟨sn, sb⟩).toArray 113)
    have hB3 := hB2.alloc hB2.size (.cells (WaitD.cells ⟨sn, sb⟩).toArray 113)
    unfold sectorV
    go_wp2_with (first
     | (refine wpList_build_L rfl 113 _ rfl (WaitD.cells ⟨sn, sb⟩).toArray (by exact lay_built _ _ hsb) ?_)
     | (refine wpList_plain rfl (fun K hK => wp_buildSliceL 108 113 1 _ rfl (WaitD.cells ⟨sn, sb⟩).toArray i0 z0 HT.out.ht HT.out.hi HT.out.hz (by rw [HT.out.h1]; decide) (by rw [HT.out.h1]; decide) (by exact wait_row _ wlen i0 z0 HT.out.h1 HT.out.h3) (hK _ _ ?_)))
     | (at_builtin; refine wpList_append_lies _ rfl (.tmp 100) (.tmp 107) 108 rfl w.heap.size 113 i0 z0 513 520 HT.out.ht HT.out.hi HT.out.hz HT.out.h1 HT.out.h2 HT.out.h3 (by omega) _ k (waitCells (laysK N a st k)) rfl hO3 ⟨Y2.heap.size, 0, none⟩ 1 1 (WaitD.cells ⟨sn, sb⟩) rfl wlen2 (World.news_of_block (cs := (WaitD.cells ⟨sn, sb⟩).toArray) (t := 113) (fr := (0, 0)) (heap_alloc_new Y2 _)) (wait_one ⟨sn, sb⟩) (by omega) (by unfold maxLen; omega) (by omega) hB3.size (Y2.heap.size + 1) (by simp) ?_; intro g9 c9 Y4 hO9 hg9 hat9 hlt9))
    go_ret
    have hbf := hB3.grown hg9 hB3.size (fun r hr => (hO3.lt r hr).1)
    refine ⟨_, rfl, ?_, hbf⟩
    rw [← HKE.out, ← HSN.out, ← HSB.out]
    refine waits_own (B := w.heap.size) (e := 113) ?_ ?_ ?_
    ·rw [waitCells_snoc, List.length_append, HLEN.out]
     exact hO9
    ·intro y hy
     rcases List.mem_append.1 hy with hy | hy
     ·unfold laysK at hy
      obtain ⟨i, _, rfl⟩ := List.mem_map.1 hy
      exact (secOf st i).2
     ·rw [List.mem_singleton.1 hy]; exact hsb
    ·rw [List.length_append, HLEN.out]; simp; omega
end Go.Proofs.YtdpniceapmikpaaGreat
namespace Go.Proofs.YtdpniceapmikpaaGreat
open Go.RowKit

set_option maxRecDepth 100000 in
set_option maxHeartbeats 2000000 in
theorem lwrite_no (D : DiskP) (x : DiskD) (N area : Int) (f : FrameD) (fv : Value) (w : World) (h : DiskAt w D x) (hx : x.ok) (hf : FrameIn w w.heap.size fv f) (hno : (askB N x.size area && frameB N f) = false) :
  Calls Tryz.prog 18 #[ptr D.p, .agg #[.int .i64 N], .int .i64 area, fv] w fun e w' => e = .returned (.int .i64 2) ∧ Below w.heap.size w w' := by
 have HA := Lib.hid (fun w' h' => asked_any D x N area w' h' hx)
 have HF := Lib.hid (fun w' h' => lcheck_any N f fv w' h')
 have HD := Lib.hid h
 have HFI := Lib.hid hf
 obtain ⟨vo, vb, vs, ev, i1, i2, i3⟩ := hf
 subst ev
 unfold ptr at *
 clear h i1 i2 i3
 go_enter_defers Tryz.func18, Tryz.ntmps18
 go_wp2_with fail
 go_step3
 go_wp2_with fail
 obtain ⟨V, eV⟩ : ∃ V, V = (((w.alloc (.cells #[.pointer (some ⟨D.p, 0, none⟩)] 37)).alloc (.cells #[.int .i64 N] 23)).alloc (.cells #[.int .i64 area] 3)).alloc (.cells #[.int .i64 f.ed, vo, vb, vs] 28) := ⟨_, rfl⟩
 have hV : Below w.heap.size w V := by rw [eV]; exact ((((Below.refl _ w).alloc (Nat.le_refl _) _).alloc (by simp) _).alloc (by simp; omega) _).alloc (by simp; omega) _
 have b1 : Blk V (w.heap.size + 1) 23 #[.int .i64 N] := by rw [eV]; exact ((Blk.new2 w _ _ _).alloc _).alloc _
 have b3 : Blk V (w.heap.size + 3) 28 #[.int .i64 f.ed, vo, vb, vs] := by rw [eV]; exact Blk.new' (by simp)
 rw [← eV]
 clear eV
 refine (HA.out V (HD.out.below hV)).mono ?_; rintro e w1 ⟨rfl, hb1⟩
 have HB1 := Lib.hid (hV.trans (hb1.mono hV.size))
 cases hask : askB N x.size area
 ·unfold errB
  simp only [Bool.false_eq_true, if_false]
  go_wp2_with fail
  rw [Exit.noGoto_ret]
  exact ⟨_, results_tmp rfl _ _ _, rfl, HB1.out⟩
 ·rw [hask, Bool.true_and] at hno
  rw [hno] at HF
  have c3 := (b3.below hb1 b3.lt).cell_is 0 rfl
  have c3b := (b3.below hb1 b3.lt).cell_is 1 rfl
  have c3c := (b3.below hb1 b3.lt).cell_is 2 rfl
  have c3d := (b3.below hb1 b3.lt).cell_is 3 rfl
  have c1 := (b1.below hb1 b1.lt).cell_is 0 rfl
  unfold errB at *
  simp only [Bool.false_eq_true, if_false, if_true] at *
  go_wp2_with fail
  refine (HF.out w1 ((HFI.out.below HB1.out (Nat.le_refl _)).mono HB1.out.size)).mono ?_; rintro e w2 ⟨rfl, hb2⟩
  have hbb := HB1.out.trans (hb2.mono HB1.out.size)
  go_wp2_with fail
  rw [Exit.noGoto_ret]
  exact ⟨_, results_tmp rfl _ _ _, rfl, hbb⟩

set_option maxRecDepth 100000 in
set_option maxHeartbeats 2000000 in
theorem lread_arg (D : DiskP) (x : DiskD) (N area : Int) (w : World) (h : DiskAt w D x) (hx : x.ok) (hask : askB N x.size area = false) :
  Calls Tryz.prog 20 #[ptr D.p, .agg #[.int .i64 N], .int .i64 area] w fun e w' => e = .returned (.tuple #[.agg zeroF, .int .i64 2]) ∧ Below w.heap.size w w' := by
 have HA := Lib.hid (fun w' h' => asked_any D x N area w' h' hx)
 rw [hask] at HA
 obtain ⟨W0, eW0⟩ : ∃ W, W = ((((w.alloc (.cells #[ptr D.p] 37)).alloc (.cells #[.int .i64 N] 23)).alloc (.cells #[.int .i64 area] 3)).alloc (.cells zeroF 28)).alloc (.cells #[.int .i64 0] 32) := ⟨_, rfl⟩
 have hw0 : Below w.heap.size w W0 := by rw [eW0]; exact (((((Below.refl _ w).alloc (Nat.le_refl _) _).alloc (by simp) _).alloc (by simp; omega) _).alloc (by simp; omega) _).alloc (by simp; omega) _
 have k0 : Blk W0 w.heap.size 37 #[ptr D.p] := by rw [eW0]; exact ((((Blk.new w _ _).alloc _).alloc _).alloc _).alloc _
 have k1 : Blk W0 (w.heap.size + 1) 23 #[.int .i64 N] := by rw [eW0]; exact (((Blk.new2 w _ _ _).alloc _).alloc _).alloc _
 have k2 : Blk W0 (w.heap.size + 2) 3 #[.int .i64 area] := by rw [eW0]; exact ((Blk.new' (by simp)).alloc _).alloc _
 have k3 : Blk W0 (w.heap.size + 3) 28 zeroF := by rw [eW0]; exact (Blk.new' (by simp)).alloc _
 have k4 : Blk W0 (w.heap.size + 4) 32 #[.int .i64 0] := by rw [eW0]; exact Blk.new' (by simp)
 have HH := Lib.hid (h.below hw0)
 have c0 := k0.cell_is 0 rfl
 have c1 := k1.cell_is 0 rfl
 have c2 := k2.cell_is 0 rfl
 have K3 := Lib.hid k3
 have K4 := Lib.hid k4
 have HB0 := Lib.hid hw0
 unfold ptr at *
 clear h hw0 k0 k1 k2 k3 k4
 go_enter_defers Tryz.func20, Tryz.ntmps20
 go_upto_region 1 with fail
 rw [← eW0]
 clear eW0
 go_wp2_with fail
 refine (HA.out W0 HH.out).mono ?_; rintro e w1 ⟨rfl, hb1⟩
 unfold errB
 simp only [Bool.false_eq_true, if_false]
 have b3 := K3.out.below hb1 K3.out.lt
 have b4 := K4.out.below hb1 K4.out.lt
 have c4 := b4.cell_is 0 rfl
 have f4 := b4.frozen 0
 have B1 := HB0.out.trans (hb1.mono HB0.out.size)
 have d0 := b3.cell_is 0 rfl
 have d1 := b3.cell_is 1 rfl
 have d2 := b3.cell_is 2 rfl
 have d3 := b3.cell_is 3 rfl
 have g0 := b3.frozen 0
 have g1 := b3.frozen 1
 have g2 := b3.frozen 2
 have g3 := b3.frozen 3
 have r0 := b3.set_ 0 (.int .i64 0)
 have r1 := r0.set_ 1 (.slice none 0 0)
 have r2 := r1.set_ 2 (.slice none 0 0)
 have r3 := r2.set_ 3 (.slice none 0 0)
 have n4 : w.heap.size + 4 ≠ w.heap.size + 3 := by omega
 have q4 := ((((b4.far (p := ⟨w.heap.size + 3, 0, none⟩) n4 (.int .i64 0)).far (p := ⟨w.heap.size + 3, 1, none⟩) n4 (.slice none 0 0)).far (p := ⟨w.heap.size + 3, 2, none⟩) n4 (.slice none 0 0)).far (p := ⟨w.heap.size + 3, 3, none⟩) n4 (.slice none 0 0)).set_ 0 (.int .i64 2)
 have r4 := r3.far (p := ⟨w.heap.size + 4, 0, none⟩) n4.symm (.int .i64 2)
 have B5 := ((((B1.setCell (p := ⟨w.heap.size + 3, 0, none⟩) (by show w.heap.size ≤ w.heap.size + 3; omega) (.int .i64 0)).setCell (p := ⟨w.heap.size + 3, 1, none⟩) (by show w.heap.size ≤ w.heap.size + 3; omega) (.slice none 0 0)).setCell (p := ⟨w.heap.size + 3, 2, none⟩) (by show w.heap.size ≤ w.heap.size + 3; omega) (.slice none 0 0)).setCell (p := ⟨w.heap.size + 3, 3, none⟩) (by show w.heap.size ≤ w.heap.size + 3; omega) (.slice none 0 0)).setCell (p := ⟨w.heap.size + 4, 0, none⟩) (by show w.heap.size ≤ w.heap.size + 4; omega) (.int .i64 2)
 have HR4 := Lib.hid r4
 have HQ4 := Lib.hid q4
 have HB5 := Lib.hid B5
 clear r0 r1 r2 r3 r4 q4 B5 B1 b3 b4
 go_wp2_with (refine wpList_build_is rfl 28 _ rfl zeroF (by kernel_rfl) ?_)
 exact ⟨_, results_row_cell Tryz.results20 _ _ (w.heap.size + 3) 28 zeroF (0, 0) _ rfl HR4.out Tryz.underlying28 rfl (by kernel_rfl) _ _ rfl (load_errno _ (w.heap.size + 4) _ _ HQ4.out), rfl, HB5.out⟩
end Go.Proofs.YtdpniceapmikpaaGreat
