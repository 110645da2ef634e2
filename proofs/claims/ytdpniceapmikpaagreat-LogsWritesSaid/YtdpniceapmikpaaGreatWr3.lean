/-
  The reference's Lays of a frame that may be. (Written by gen_lrlays.py.)
  logs.Write and logs.Read refused.
  A frame is written on a new disk, some of whose steps fail: the calls' contracts, all cases in one shape.
-/
import Derived.Test.YtdpniceapmikpaaGreatSt1
import Derived.Test.YtdpniceapmikpaaGreatSt24
import Derived.Test.YtdpniceapmikpaaGreatSt25
import Derived.Test.YtdpniceapmikpaaGreatSt28
import Derived.Test.YtdpniceapmikpaaGreatWr1
import Derived.Test.YtdpniceapmikpaaGreatWr2
set_option linter.unusedVariables false
set_option linter.unusedSimpArgs false
namespace Go.Proofs.YtdpniceapmikpaaGreat
open Go.RowKit

/-- the sectors of a frame's first objects -/
def laysO (N a : Nat) (f : FrameD) (j : Nat) : List WaitD := (objSteps N a (f.objs.take j)).map (·.1)
theorem laysO_len (N a : Nat) (f : FrameD) (j : Nat) (h : j ≤ f.objs.length) : (laysO N a f j).length = j := by simp [laysO, objSteps]; omega
theorem laysO_b (N a : Nat) (f : FrameD) (j : Nat) (y : WaitD) (h : y ∈ laysO N a f j) : y.b.length = 512 := by
 obtain ⟨z, _, rfl⟩ := List.mem_map.1 h
 exact z.2
theorem laysO_snoc (N a : Nat) (f : FrameD) (j : Nat) (o : ObjD) (ho : f.objs[j]? = some o) (hb : (objL o).length ≤ 508) (hN : 1 ≤ N ∧ N ≤ 64) (ha : a ≤ 1) (hj : j < N) :
  laysO N a f (j + 1) = laysO N a f j ++ [⟨((Place.sec N ⟨4, a, j⟩ : Nat) : Int), sectorL (objL o)⟩] := by
 have hl : j < f.objs.length := by
  rcases Nat.lt_or_ge j f.objs.length with h | h
  ·exact h
  ·rw [List.getElem?_eq_none h] at ho; cases ho
 have eo : f.objs[j] = o := Option.some.inj ((List.getElem?_eq_getElem hl).symm.trans ho)
 have e : sectorN N 4 a j = (((Place.sec N ⟨4, a, j⟩ : Nat) : Int), 0) := sectorN_place N ⟨4, a, j⟩ hN ⟨ha, .inr (.inr ⟨rfl, hj⟩)⟩
 have hlt : (f.objs.take j).length = j := by rw [List.length_take]; omega
 unfold laysO
 rw [take_snoc f.objs j hl, eo, objSteps_snoc, List.map_append, hlt]
 show _ ++ [(⟨(sectorN N 4 a j).1, (secS (sectorL (objL o))).1⟩ : WaitD)] = _
 rw [e, secS_val _ (sectorL_len _ hb)]
theorem lays_all {N a : Nat} {f : FrameD} (h : frameB N f = true) (ha : a ≤ 1) : (allSteps N a f).map (·.1) = laysO N a f f.objs.length ++ laysK N a f.state (chunksN f.state.length) ++ [⟨((Place.sec N ⟨2, a, 0⟩ : Nat) : Int), sectorL (headL f)⟩] := by
 obtain ⟨hR, _, _, _, _, _⟩ := frameB_facts h
 have hN := right_le hR
 have hN' : 1 ≤ N ∧ N ≤ 64 := by omega
 have hc := chunks_le h
 unfold allSteps laysO
 rw [List.map_append, List.map_append, List.map_map, List.take_length]
 congr 1
 ·congr 1
  unfold laysK partL
  rw [List.map_map]
  apply List.map_congr_left
  intro i hi
  have hi := List.mem_range.1 hi
  show (⟨(sectorN N 3 a (mkIdx i).1).1, (secOf f.state i).1⟩ : WaitD) = _
  have e : sectorN N 3 a i = (((Place.sec N ⟨3, a, i⟩ : Nat) : Int), 0) := sectorN_place N ⟨3, a, i⟩ hN' ⟨ha, .inr (.inl ⟨rfl, by show i < 8; omega⟩)⟩
  rw [mkIdx_val i (by omega), e]
 ·have e : sectorN N 2 a 0 = (((Place.sec N ⟨2, a, 0⟩ : Nat) : Int), 0) := sectorN_place N ⟨2, a, 0⟩ hN' ⟨ha, .inl ⟨rfl, rfl⟩⟩
  show [(⟨(sectorN N 2 a 0).1, (secS (sectorL (headL f))).1⟩ : WaitD)] = _
  rw [e, secS_val _ (sectorL_len _ (headL_len h).2)]
/-- the head, some of its rows written -/
def headK (f : FrameD) (j : Nat) : List UInt8 := headPre f ++ headRows (f.oids.take j) (f.objs.take j)
theorem headK_len (f : FrameD) (h : f.oids.length = f.objs.length) : ∀ j, j ≤ f.objs.length → (headK f j).length = 20 + 6 * j := by
 intro j hj
 unfold headK
 rw [List.length_append, headPre_len, headRows_len2 _ _ (by rw [List.length_take, List.length_take, h]), List.length_take]
 omega
theorem headK_snoc (f : FrameD) (h : f.oids.length = f.objs.length) (j : Nat) (x : Int) (o : ObjD) (hx : f.oids[j]? = some x) (ho : f.objs[j]? = some o) : headK f (j + 1) = headK f j ++ leB x.toNat 2 ++ leB (crcW (padL (objL o))).toNat 4 := by
 have hl : j < f.objs.length := by
  rcases Nat.lt_or_ge j f.objs.length with h | h
  ·exact h
  ·rw [List.getElem?_eq_none h] at ho; cases ho
 have eo : f.objs[j] = o := Option.some.inj ((List.getElem?_eq_getElem hl).symm.trans ho)
 have ex : f.oids[j]'(by omega) = x := Option.some.inj ((List.getElem?_eq_getElem (by omega)).symm.trans hx)
 unfold headK
 rw [take_snoc f.objs j hl, take_snoc f.oids j (by omega), eo, ex, headRows_snoc _ _ _ _ (by rw [List.length_take, List.length_take, h])]
 unfold headRow
 simp only [List.append_assoc]
set_option maxRecDepth 100000 in
set_option maxHeartbeats 8000000 in
theorem rlays_any (N a : Nat) (f : FrameD) (fr : Value) (w : World) (hf : FrameIn w w.heap.size fr f) (hfr : frameB N f = true) (ha : a ≤ 1) (hed : f.ed ≤ 9223372036854775807) (hv64 : ∀ o ∈ f.objs, ∀ x ∈ o.slots, I64 x.v) :
  Calls Tryz.prog 49 #[.agg #[.int .i64 (N : Int)], .int .i64 (a : Int), fr] w fun e w' => ∃ v, e = .returned v ∧ WaitsIn w' w'.heap.size v ((allSteps N a f).map (·.1)) ∧ Below w.heap.size w w' := by
 rw [lays_all hfr ha]
 have hcl := chunks_le hfr
 have hlh := headL_len hfr
 obtain ⟨hR, p1, p2, p3, p4, p5⟩ := frameB_facts hfr
 have hN0 := right_le hR
 have hN : 1 ≤ N ∧ N ≤ 64 := by omega
 have hp3 : ∀ k, k < 8 → Place.ok N ⟨3, a, k⟩ := fun k hk => ⟨ha, .inr (.inl ⟨rfl, hk⟩)⟩
 have hp4 : ∀ k, k < N → Place.ok N ⟨4, a, k⟩ := fun k hk => ⟨ha, .inr (.inr ⟨rfl, hk⟩)⟩
 have hp2 : Place.ok N ⟨2, a, 0⟩ := ⟨ha, .inl ⟨rfl, rfl⟩⟩
 obtain ⟨vo, vb, vs, rfl, hf1, hf2, hf3⟩ := hf
 have HOI0 := hf1
 have HOB0 := hf2
 have HST0 := hf3
 obtain ⟨_, ao, co, rfl, _, _⟩ := hf1
 obtain ⟨_, ab, cb, rfl, _, _⟩ := hf2
 obtain ⟨_, aw, cs, rfl, _, _⟩ := hf3
 obtain ⟨ed, hede⟩ : ∃ ed : Nat, f.ed = (ed : Int) := ⟨f.ed.toNat, by omega⟩
 have hed2 : (ed : Int) ≤ 9223372036854775807 := by omega
 have ehp : headPre f = [67, 72, 76, 71] ++ leB ed 8 ++ leB f.oids.length 2 ++ leB f.state.length 2 ++ leB (crcW f.state).toNat 4 := by
  unfold headPre
  rw [hede]
  rfl
 have HROWS := Lib.hid (fun (j : Nat) (x : Int) (o : ObjD) (hx : f.oids[j]? = some x) (ho : f.objs[j]? = some o) => rows_at N f.oids f.objs (-1) (by omega) p5 j x o hx ho)
 have HHK := Lib.hid (fun (j : Nat) (x : Int) (o : ObjD) (hx : f.oids[j]? = some x) (ho : f.objs[j]? = some o) => headK_snoc f p2 j x o hx ho)
 have HKL := Lib.hid (headK_len f p2)
 have HLO := Lib.hid (laysO_len N a f)
 have HLOB := Lib.hid (laysO_b N a f)
 have HLS := Lib.hid (fun (j : Nat) (o : ObjD) (ho : f.objs[j]? = some o) (hb : (objL o).length ≤ 508) (hj : j < N) => laysO_snoc N a f j o ho hb hN ha hj)
 have hk0 : headK f 0 = headPre f := by unfold headK; exact List.append_nil _
 have hkn : headK f f.objs.length = headL f := by unfold headK headL; rw [List.take_length, ← p2, List.take_length]
 have HVV := Lib.hid hv64
 rw [← hkn]
 have hl508 : (headK f f.objs.length).length ≤ 508 := by rw [hkn]; exact hlh.2
 have hlo0 : laysO N a f 0 = [] := rfl
 have HK0 := Lib.hid hk0
 obtain ⟨st, est⟩ : ∃ st, st = f.state := ⟨_, rfl⟩
 obtain ⟨oids, eoi⟩ : ∃ l, l = f.oids := ⟨_, rfl⟩
 obtain ⟨objs, eob⟩ : ∃ l, l = f.objs := ⟨_, rfl⟩
 obtain ⟨hk, ehk⟩ : ∃ h : Nat → List UInt8, h = headK f := ⟨_, rfl⟩
 obtain ⟨lo, elo⟩ : ∃ h : Nat → List WaitD, h = laysO N a f := ⟨_, rfl⟩
 obtain ⟨hpp, ehpp⟩ : ∃ h : List UInt8, h = headPre f := ⟨_, rfl⟩
 have hpp20 : hpp.length = 20 := by rw [ehpp]; exact headPre_len f
 rw [hede]
 rw [← est] at HST0 hcl p4 ehp ⊢
 rw [← eoi] at HOI0 HROWS HHK p2 p3 ehp ⊢
 rw [← eob] at HOB0 HROWS HHK HLO HLS HVV HKL p2 hl508 ⊢
 rw [← ehk] at HHK HKL HK0 hl508 ⊢
 rw [← elo] at HLO HLS HLOB hlo0 ⊢
 rw [← ehpp] at ehp HK0
 obtain ⟨no, eno⟩ : ∃ no, no = oids.length := ⟨_, rfl⟩
 have enb : objs.length = no := by rw [eno]; exact p2.symm
 rw [← eno] at ehp p3 ⊢
 rw [enb] at HLO HKL hl508 ⊢
 have hno : no ≤ 64 := by omega
 have HOI := Lib.hid HOI0
 have HOB := Lib.hid HOB0
 have HST := Lib.hid HST0
 have HHL := Lib.hid ehp
 have HEN := Lib.hid (And.intro eno enb)
 have HLO0 := Lib.hid hlo0
 clear HST0 HOI0 HOB0 est eoi eob ehk elo ehpp eno enb ehp hfr p1 p2 p5 hed hede hv64 hlh hkn hk0 hlo0
 have hcr := crcW_lt st
 have HCRC := Lib.hid (fun W (hh : BytesIn W W.heap.size (.slice aw st.length cs) st) => rcrc_any (.slice aw st.length cs) st W hh)
 have h12 := laysK_len N a st
 have HLEN := Lib.hid h12
 clear h12
 have hst4 : st.length ≤ 4096 := p4
 have cv := Lib.run_convert_bytes_const (P := Tryz.prog) ((w.alloc (.cells #[.int .i64 (N : Int)] 23)).alloc (.cells #[.int .i64 (ed : Int), .slice ao no co, .slice ab no cb, .slice aw st.length cs] 28)) 26 5 #[.int .u8 67, .int .u8 72, .int .u8 76, .int .u8 71] 4 4 Tryz.underlying26 Tryz.underlying5
 rw [World.size_alloc, World.size_alloc] at cv
 go_enter Tryz.func49, Tryz.ntmps49
 go_upto_region 3 with fail
 obtain ⟨W, eW⟩ : ∃ W, W = ((w.alloc (.cells #[.int .i64 (N : Int)] 23)).alloc (.cells #[.int .i64 (ed : Int), .slice ao no co, .slice ab no cb, .slice aw st.length cs] 28)).alloc (.cells #[.int .u8 67, .int .u8 72, .int .u8 76, .int .u8 71] 5 (4, 5)) := ⟨_, rfl⟩
 rw [← eW]
 have hb0 : Below w.heap.size w W := by rw [eW]; exact (((Below.refl _ w).alloc (Nat.le_refl _) _).alloc (by simp) _).alloc (by simp; omega) _
 have k0 : Blk W w.heap.size 23 #[.int .i64 (N : Int)] := by rw [eW]; exact ((Blk.new w _ _).alloc _).alloc _
 have k1 : Blk W (w.heap.size + 1) 28 #[.int .i64 (ed : Int), .slice ao no co, .slice ab no cb, .slice aw st.length cs] := by rw [eW]; exact (Blk.new2 w _ _ _).alloc _
 have KM : W.heap[w.heap.size + 2]? = some (.cells #[.int .u8 67, .int .u8 72, .int .u8 76, .int .u8 71] 5 (4, 5)) := by
  rw [eW]
  have := heap_alloc_new ((w.alloc (.cells #[.int .i64 (N : Int)] 23)).alloc (.cells #[.int .i64 (ed : Int), .slice ao no co, .slice ab no cb, .slice aw st.length cs] 28)) (.cells #[.int .u8 67, .int .u8 72, .int .u8 76, .int .u8 71] 5 (4, 5))
  rw [World.size_alloc, World.size_alloc] at this
  exact this
 have hWs : W.heap.size = w.heap.size + 3 := by rw [eW]; simp
 clear eW cv
 have q0 := k1.cell_is 0 rfl
 go_wp2_with fail
 refine (rlow_any ed 8 W rfl hed2).mono ?_; rintro e L1 ⟨l1, rfl, hlo1, hlb1⟩
 obtain ⟨g1, cap1, e1, _, _⟩ := World.ownsRow.form hlo1 (by omega)
 subst e1
 have hu1 := BytesIn.own hlo1
 have hnews : ∀ j u, ((leB ed 8).map vu8)[j]? = some u → L1.cell? ((⟨g1, 0, none⟩ : Addr).add j) = some u := by
  intro j u hj
  rw [List.getElem?_map] at hj
  obtain ⟨c, hcj, rfl⟩ := Option.map_eq_some_iff.1 hj
  obtain ⟨g2, off, h, _, hcell⟩ := hu1.at_ hcj
  cases h
  rw [add_at]
  exact hcell
 have holds : ∀ j u, (([67, 72, 76, 71] : List UInt8).map vu8)[j]? = some u → L1.cell? ((⟨w.heap.size + 2, 0, none⟩ : Addr).add j) = some u := by
  intro j u hj
  rw [add_at, Nat.zero_add]
  refine (hlb1.cell (p := ⟨w.heap.size + 2, j, none⟩) (by show w.heap.size + 2 < W.heap.size; omega)).trans ?_
  rw [cell_of_row W (w.heap.size + 2) j _ _ _ KM]
  have e : (#[.int .u8 67, .int .u8 72, .int .u8 76, .int .u8 71] : Array Value).toList = ([67, 72, 76, 71] : List UInt8).map vu8 := rfl
  rw [← Array.getElem?_toList, e]
  exact hj
 have kk0 := k0.below hlb1 k0.lt
 have kk1 := k1.below hlb1 k1.lt
 have hbL := hb0.trans (hlb1.mono hb0.size)
 have hke := leB_len ed 8
 go_upto_region 4 with (at_builtin; refine wpList_append_grows L1 rfl (.tmp 15) (.tmp 18) rfl ⟨w.heap.size + 2, 0, none⟩ 4 4 [67, 72, 76, 71] rfl rfl holds ⟨g1, 0, none⟩ 8 cap1 (leB ed 8) rfl hke hnews (by omega) (by omega) ?_; intro hv1 X1 hO1 hg1)
 have hb1 := hbL.grown hg1 hbL.size (fun r hr => by cases hr)
 have r1 : X1.ownsRow w.heap.size 5 1 hv1 12 (([67, 72, 76, 71] ++ leB ed 8).map vu8) := by rw [List.map_append]; exact ownsRow_mono' hO1 hbL.size
 have a0 : Blk X1 w.heap.size 23 #[.int .i64 (N : Int)] := (hg1.block _ kk0.lt (fun e => by cases e)).trans kk0
 have a1 : Blk X1 (w.heap.size + 1) 28 #[.int .i64 (ed : Int), .slice ao no co, .slice ab no cb, .slice aw st.length cs] := (hg1.block _ kk1.lt (fun e => by cases e)).trans kk1
 clear q0 k0 k1 KM hnews holds kk0 kk1 hbL hO1 hg1 hlo1 hlb1 hu1 hke hb0
 have q2 := a1.cell_is 1 rfl
 go_wp2_with fail
 refine (rlow_any no 2 X1 rfl (by omega)).mono ?_; rintro e L2 ⟨l2, rfl, hlo2, hlb2⟩
 obtain ⟨g2, cap2, e2, _, _⟩ := World.ownsRow.form hlo2 (by omega)
 subst e2
 have hu2 := BytesIn.own hlo2
 have hke2 := leB_len (no) 2
 have kk02 := (a0 : Blk _ _ _ _).below hlb2 (a0 : Blk _ _ _ _).lt
 have kk12 := (a1 : Blk _ _ _ _).below hlb2 (a1 : Blk _ _ _ _).lt
 have hbL2 := hb1.trans (hlb2.mono hb1.size)
 have ho2 := ownsRow_out (F := fun _ => False) (outB hlb2) r1 (fun _ _ => id)
 go_upto_region 5 with (at_builtin; refine wpList_append_bytes _ rfl (.tmp 20) (.tmp 24) rfl w.heap.size L2.heap.size 12 hv1 _ rfl ho2 (some ⟨g2, 0, none⟩) 2 cap2 (leB (no) 2) rfl hke2 hu2 (by omega) hbL2.size ?_; intro hv2 X2 hO2 hg2)
 have hb2 := hbL2.grown hg2 hbL2.size (fun r hr => (ho2.lt r hr).1)
 have r2 : X2.ownsRow w.heap.size 5 1 hv2 (12 + 2) (([67, 72, 76, 71] ++ leB ed 8 ++ leB (no) 2).map vu8) := by rw [List.map_append]; exact hO2
 have b02 : Blk X2 w.heap.size 23 #[.int .i64 (N : Int)] := (hg2.block _ kk02.lt (fun e => ne_own ho2 kk02 (by decide) _ e.symm rfl)).trans kk02
 have b12 : Blk X2 (w.heap.size + 1) 28 #[.int .i64 (ed : Int), .slice ao no co, .slice ab no cb, .slice aw st.length cs] := (hg2.block _ kk12.lt (fun e => ne_own ho2 kk12 (by decide) _ e.symm rfl)).trans kk12
 clear q2 kk02 kk12 hbL2 hO2 hg2 hlo2 hlb2 hu2 hke2 ho2 hb1 r1 a0 a1
 have q3 := b12.cell_is 3 rfl
 go_wp2_with fail
 refine (rlow_any st.length 2 X2 rfl (by omega)).mono ?_; rintro e L3 ⟨l3, rfl, hlo3, hlb3⟩
 obtain ⟨g3, cap3, e3, _, _⟩ := World.ownsRow.form hlo3 (by omega)
 subst e3
 have hu3 := BytesIn.own hlo3
 have hke3 := leB_len (st.length) 2
 have kk03 := (b02 : Blk _ _ _ _).below hlb3 (b02 : Blk _ _ _ _).lt
 have kk13 := (b12 : Blk _ _ _ _).below hlb3 (b12 : Blk _ _ _ _).lt
 have hbL3 := hb2.trans (hlb3.mono hb2.size)
 have ho3 := ownsRow_out (F := fun _ => False) (outB hlb3) r2 (fun _ _ => id)
 go_upto_region 6 with (at_builtin; refine wpList_append_bytes _ rfl (.tmp 26) (.tmp 30) rfl w.heap.size L3.heap.size (12 + 2) hv2 _ rfl ho3 (some ⟨g3, 0, none⟩) 2 cap3 (leB (st.length) 2) rfl hke3 hu3 (by omega) hbL3.size ?_; intro hv3 X3 hO3 hg3)
 have hb3 := hbL3.grown hg3 hbL3.size (fun r hr => (ho3.lt r hr).1)
 have r3 : X3.ownsRow w.heap.size 5 1 hv3 ((12 + 2) + 2) (([67, 72, 76, 71] ++ leB ed 8 ++ leB (no) 2 ++ leB (st.length) 2).map vu8) := by rw [List.map_append]; exact hO3
 have b03 : Blk X3 w.heap.size 23 #[.int .i64 (N : Int)] := (hg3.block _ kk03.lt (fun e => ne_own ho3 kk03 (by decide) _ e.symm rfl)).trans kk03
 have b13 : Blk X3 (w.heap.size + 1) 28 #[.int .i64 (ed : Int), .slice ao no co, .slice ab no cb, .slice aw st.length cs] := (hg3.block _ kk13.lt (fun e => ne_own ho3 kk13 (by decide) _ e.symm rfl)).trans kk13
 clear q3 kk03 kk13 hbL3 hO3 hg3 hlo3 hlb3 hu3 hke3 ho3 hb2 r2 b02 b12
 have q4 := b13.cell_is 3 rfl
 go_wp2_with fail
 refine (HCRC.out X3 ((HST.out.below hb3 (Nat.le_refl _)).mono hb3.size)).mono ?_; rintro e c3 ⟨rfl, hwc⟩
 subst hwc
 obtain ⟨C, eC⟩ : ∃ C, C = (crcW st).toNat := ⟨_, rfl⟩
 unfold vu32
 rw [← eC] at hcr ⊢
 have EC := Lib.hid eC
 clear eC
 go_wp2_with fail
 refine (rlow_any C 4 X3 rfl (by omega)).mono ?_; rintro e L4 ⟨l4, rfl, hlo4, hlb4⟩
 obtain ⟨g4, cap4, e4, _, _⟩ := World.ownsRow.form hlo4 (by omega)
 subst e4
 have hu4 := BytesIn.own hlo4
 have hke4 := leB_len (C) 4
 have kk04 := (b03 : Blk _ _ _ _).below hlb4 (b03 : Blk _ _ _ _).lt
 have kk14 := (b13 : Blk _ _ _ _).below hlb4 (b13 : Blk _ _ _ _).lt
 have hbL4 := hb3.trans (hlb4.mono hb3.size)
 have ho4 := ownsRow_out (F := fun _ => False) (outB hlb4) r3 (fun _ _ => id)
 go_upto_region 7 with (at_builtin; refine wpList_append_bytes _ rfl (.tmp 32) (.tmp 37) rfl w.heap.size L4.heap.size (12 + 2 + 2) hv3 _ rfl ho4 (some ⟨g4, 0, none⟩) 4 cap4 (leB (C) 4) rfl hke4 hu4 (by omega) hbL4.size ?_; intro hv4 X4 hO4 hg4)
 have hb4 := hbL4.grown hg4 hbL4.size (fun r hr => (ho4.lt r hr).1)
 have r4 : X4.ownsRow w.heap.size 5 1 hv4 ((12 + 2 + 2) + 4) (([67, 72, 76, 71] ++ leB ed 8 ++ leB (no) 2 ++ leB (st.length) 2 ++ leB (C) 4).map vu8) := by rw [List.map_append]; exact hO4
 have b04 : Blk X4 w.heap.size 23 #[.int .i64 (N : Int)] := (hg4.block _ kk04.lt (fun e => ne_own ho4 kk04 (by decide) _ e.symm rfl)).trans kk04
 have b14 : Blk X4 (w.heap.size + 1) 28 #[.int .i64 (ed : Int), .slice ao no co, .slice ab no cb, .slice aw st.length cs] := (hg4.block _ kk14.lt (fun e => ne_own ho4 kk14 (by decide) _ e.symm rfl)).trans kk14
 clear q4 kk04 kk14 hbL4 hO4 hg4 hlo4 hlb4 hu4 hke4 ho4 hb3 r3 b03 b13
 have hrow : X4.ownsRow w.heap.size 5 1 hv4 20 ((hk 0).map vu8) := by
  rw [HK0.out, HHL.out, ← EC.out]
  exact r4
 have HC4 := Lib.hid hb4
 have HROW := Lib.hid hrow
 have HB04 := Lib.hid b04
 have HB14 := Lib.hid b14
 clear r4 hrow hb4 b04 b14
 go_wp2_with fail
 go_loopw [7, 8, 9] (fun o h i wr => ∃ (j : Nat) (o' h' : Value), o' = o ∧ h' = h ∧ j ≤ no ∧ i = .int .i64 (j : Int) ∧ wr.ownsRow w.heap.size 113 513 o' j (waitCells (lo j)) ∧ wr.ownsRow w.heap.size 5 1 h' (20 + 6 * j) ((hk j).map vu8) ∧ Blk wr w.heap.size 23 #[.int .i64 (N : Int)] ∧ Blk wr (w.heap.size + 1) 28 #[.int .i64 (ed : Int), .slice ao no co, .slice ab no cb, .slice aw st.length cs] ∧ Below w.heap.size w wr) (fun _ _ i _ => no - (intOf i).toNat)
 case atStart => exact ⟨0, _, _, rfl, rfl, by omega, rfl, by rw [HLO0.out]; exact World.ownsRow_nil _ _ _ _, HROW.out, HB04.out, HB14.out, HC4.out⟩
 case round =>
  obtain ⟨j, o, h, rfl, rfl, hj, rfl, hO, hH, hK0, hK1, hBw⟩ := hrel
  have q1 := hK1.cell_is 1 rfl
  have HO := Lib.hid hO
  have HH := Lib.hid hH
  have HBr := Lib.hid hBw
  have HKP := Lib.hid hK0
  have HKF := Lib.hid hK1
  clear hO hH hBw hK0 hK1 HROW HB04 HB14 HC4 HHL HK0
  by_cases hlt : j < no
  ·have hji : (j : Int) < (no : Int) := by omega
   have hjN : j < N := by omega
   obtain ⟨i0, z0, T0⟩ := rowT_lay
   have HT := Lib.hid T0
   clear T0
   obtain ⟨x, hx⟩ : ∃ x, oids[j]? = some x := ⟨_, List.getElem?_eq_getElem (by rw [← HEN.out.1]; exact hlt)⟩
   obtain ⟨ob, hob⟩ : ∃ x, objs[j]? = some x := ⟨_, List.getElem?_eq_getElem (by rw [HEN.out.2]; exact hlt)⟩
   obtain ⟨hx0, hxN, hoB⟩ := HROWS.out j x ob hx hob
   obtain ⟨hok, hrs, gb, offb, eab, hgb, hrange⟩ := HOB.out.at_ hob
   obtain ⟨go, offo, eao, hgo, hcello⟩ := HOI.out.at_ hx
   have hsb : (sectorL (objL ob)).length = 512 := sectorL_len _ (by rw [objL_len ob hok]; decide)
   have hput := fun W => rput5_yes ob hok hrs (HVV.out ob (List.mem_of_getElem? hob)) N W hoB
   have hls := HLS.out j ob hob (by rw [objL_len ob hok]; decide) hjN
   have hhk := HHK.out j x ob hx hob
   have hsp : padL (objL ob) = (sectorL (objL ob)).take 508 := (sectorL_take _ (by rw [objL_len ob hok]; decide)).symm
   rw [hsp] at hhk
   obtain ⟨sb, esb⟩ : ∃ sb, sb = sectorL (objL ob) := ⟨_, rfl⟩
   rw [← esb] at hsb hput hls hhk
   unfold sectorV at hput
   obtain ⟨xn, rfl⟩ : ∃ xn : Nat, x = xn := ⟨x.toNat, by omega⟩
   rw [Int.toNat_natCast] at hhk
   obtain ⟨oc, eoc⟩ : ∃ oc, oc = ob.cells := ⟨_, rfl⟩
   have hocl : oc.length = 163 := by rw [eoc]; exact ObjD.len hok
   rw [← eoc] at hput hrange
   have HPUT := Lib.hid hput
   have HLS2 := Lib.hid hls
   have HHK2 := Lib.hid hhk
   have HRNG := Lib.hid hrange
   have HCEL := Lib.hid hcello
   have hl0 : sector0.length = 512 := List.length_replicate
   have soc : (Tryz.prog.info? 62).map (·.size) = some oc.length := by rw [hocl]; kernel_rfl
   subst eab
   subst eao
   clear hput hls hhk hrange hcello hoB hrs hok hob hx esb eoc hsp HROWS HHK HLS HOB HOI HVV hocl
   go_upto_region 10 with fail
   have hzX : Below wr.heap.size wr wr.drew := (Below.refl _ wr).drew
   have SK1 := Lib.hid (fun (W' : World) (hb' : Below wr.heap.size wr W') => (⟨(HKF.out.below hb' HKF.out.lt).cell_is 2 rfl, range_below HRNG.out (HBr.out.trans (hb'.mono HBr.out.size)) hgb, (HKP.out.below hb' HKP.out.lt).cell_is 0 rfl⟩ : W'.cell? ⟨w.heap.size + 1, 2, none⟩ = some (.slice (some ⟨gb, offb, none⟩) no cb) ∧ W'.rangeAt gb (offb + j * 163) oc ∧ W'.cell? ⟨w.heap.size, 0, none⟩ = some (.int .i64 (N : Int))))
   refine' wp_merge (_ : Nat → Act) (fun g10 Q => Blk Q g10 111 (sb.map vu8).toArray ∧ Below wr.heap.size wr Q ∧ wr.heap.size ≤ g10) ?_ ?_
   rotate_left 1
   ·skip
    refine wp_region_held_drew (S := (fun w' => w'.cell? ⟨w.heap.size + 1, 2, none⟩ = some (.slice (some ⟨gb, offb, none⟩) no cb) ∧ w'.rangeAt gb (offb + j * 163) oc ∧ w'.cell? ⟨w.heap.size, 0, none⟩ = some (.int .i64 (N : Int)))) (by kernel_rfl) (by first | exact SK1.out _ hzX | ((try dsimp only); exact SK1.out _ hzX)) (fun hHeld => ?_)
    refine tk 0 ?_
    refine tk 1 ?_
    refine tk 2 ?_
    refine tk 3 ?_
    refine ty 4 rfl (yieldsIf_load_mid (by rfl) 62 _ rfl _ _ rfl oc _ (fun w' h => h.2.1) Tryz.underlying62 rfl soc) ?_
    refine tk 5 ?_
    refine tk 6 ?_
    refine wpAnyH_ready (rs := [7, 11]) (by kernel_rfl) (by simp) ?_
    refine (AllReadyH.cons rfl (fun K hK => ?_) (AllReadyH.cons rfl (fun K hK => ?_) AllReadyH.nil))
    ·skip
     go_simp
     refine (HPUT.out wr.drew).mono ?_; rintro e Z2 ⟨rfl, hq⟩
     have hz2 := hzX.trans (hq.mono hzX.size)
     go_wp2_with fail
     refine hK.out _ _ (by first | exact SK1.out _ hz2 | ((try dsimp only); exact SK1.out _ hz2)) (fun hHeld => ?_)
     clear hK K
     try simp only [Act.put, pz0, pz1, pz2, pz3, pz4, pz5]
     refine tk 8 ?_
     refine tk 9 ?_
     refine tk 10 ?_
     refine rd 11 fun K hK => ?_
     go_simp
     obtain ⟨Z3, eZ⟩ : ∃ Z, Z = Z2.alloc (.cells Tryz.zeroCells111 111) := ⟨_, rfl⟩
     have hz3 : Below wr.heap.size wr Z3 := by rw [eZ]; exact hz2.alloc hz2.size (.cells Tryz.zeroCells111 111)
     obtain ⟨g10, eg⟩ : ∃ g, g = (Z2).heap.size := ⟨_, rfl⟩
     have bz : Blk Z3 g10 111 Tryz.zeroCells111 := by rw [eZ, eg]; exact Blk.new (Z2) 111 Tryz.zeroCells111
     have hl : wr.heap.size ≤ g10 := by rw [eg]; exact hz2.size
     try rw [← eZ]
     clear eZ
     try rw [← eg]
     clear eg
     refine hK.out _ _ (by first | exact SK1.out _ hz3 | ((try dsimp only); exact SK1.out _ hz3)) (fun hHeld => ?_)
     clear hK K
     try simp only [Act.put, pz0, pz1, pz2, pz3, pz4, pz5]
     refine rd 12 fun K hK => ?_
     rw [zero111] at bz
     refine wp_store_row 111 _ _ rfl g10 (sb.map vu8).toArray rfl rfl 111 _ bz (sector_size _ hsb) (sector_eq _ _ hl0 hsb) (sector_all _) ?_
     replace bz := bz.row (sb.map vu8).toArray
     have hz4 := below_row hz3 (sb.map vu8).toArray (g := g10) hl
     refine hK.out _ _ (by first | exact SK1.out _ hz4 | ((try dsimp only); exact SK1.out _ hz4)) (fun hHeld => ?_)
     clear hK K
     try simp only [Act.put, pz0, pz1, pz2, pz3, pz4, pz5]
     refine tk 13 ?_
     refine wpAnyH_done (by kernel_rfl) ?_ _
     try simp only [Act.put, pz0, pz1, pz2, pz3, pz4, pz5]
     refine ⟨g10, ?_, bz, hz4, hl⟩
     with_reducible rfl
    ·skip
     go_simp
     obtain ⟨Z2, eZ⟩ : ∃ Z, Z = (wr.alloc (.cells Tryz.zeroCells111 111)).drew := ⟨_, rfl⟩
     have hz2 : Below wr.heap.size wr Z2 := by rw [eZ]; exact hzX.alloc hzX.size (.cells Tryz.zeroCells111 111)
     obtain ⟨g10, eg⟩ : ∃ g, g = (wr.drew).heap.size := ⟨_, rfl⟩
     have bz : Blk Z2 g10 111 Tryz.zeroCells111 := by rw [eZ, eg]; exact Blk.new (wr.drew) 111 Tryz.zeroCells111
     have hl : wr.heap.size ≤ g10 := by rw [eg]; exact hzX.size
     try rw [← eZ]
     clear eZ
     have egw : wr.heap.size = g10 := by rw [eg]; rfl
     try rw [egw]
     clear egw
     clear eg
     refine hK.out _ _ (by first | exact SK1.out _ hz2 | ((try dsimp only); exact SK1.out _ hz2)) (fun hHeld => ?_)
     clear hK K
     try simp only [Act.put, pz0, pz1, pz2, pz3, pz4, pz5]
     refine rd 7 fun K hK => ?_
     go_simp
     refine (HPUT.out Z2).mono ?_; rintro e Z3 ⟨rfl, hq⟩
     have hz3 := hz2.trans (hq.mono hz2.size)
     replace bz := bz.below hq bz.lt
     go_wp2_with fail
     refine hK.out _ _ (by first | exact SK1.out _ hz3 | ((try dsimp only); exact SK1.out _ hz3)) (fun hHeld => ?_)
     clear hK K
     try simp only [Act.put, pz0, pz1, pz2, pz3, pz4, pz5]
     refine tk 8 ?_
     refine tk 9 ?_
     refine tk 10 ?_
     refine rd 12 fun K hK => ?_
     rw [zero111] at bz
     refine wp_store_row 111 _ _ rfl g10 (sb.map vu8).toArray rfl rfl 111 _ bz (sector_size _ hsb) (sector_eq _ _ hl0 hsb) (sector_all _) ?_
     replace bz := bz.row (sb.map vu8).toArray
     have hz4 := below_row hz3 (sb.map vu8).toArray (g := g10) hl
     refine hK.out _ _ (by first | exact SK1.out _ hz4 | ((try dsimp only); exact SK1.out _ hz4)) (fun hHeld => ?_)
     clear hK K
     try simp only [Act.put, pz0, pz1, pz2, pz3, pz4, pz5]
     refine tk 13 ?_
     refine wpAnyH_done (by kernel_rfl) ?_ _
     try simp only [Act.put, pz0, pz1, pz2, pz3, pz4, pz5]
     refine ⟨g10, ?_, bz, hz4, hl⟩
     with_reducible rfl
   rintro g10 Q ⟨b10, hq, hl10⟩
   have k0 := HKP.out.below hq HKP.out.lt
   have k1 := HKF.out.below hq HKF.out.lt
   have oQ := ownsRow_out (F := fun _ => False) (outB hq) HO.out (fun _ _ => id)
   have hQ := ownsRow_out (F := fun _ => False) (outB hq) HH.out (fun _ _ => id)
   have BQ := Lib.hid (HBr.out.trans (hq.mono HBr.out.size))
   have SK := Lib.hid (fun (W' : World) (hb' : Below Q.heap.size Q W') => And.intro ((k0.below hb' k0.lt).cell_is 0 rfl) (b10.below hb' b10.lt))
   have KP := Lib.hid k0
   have KF := Lib.hid k1
   have KT := Lib.hid b10
   have HOQ := Lib.hid oQ
   have HHQ := Lib.hid hQ
   clear HKP HKF HO HH HBr SK1 hzX k0 k1 b10 oQ hQ hq HPUT HRNG
   have hb0 : Below Q.heap.size Q Q.drew := (Below.refl _ Q).drew
   go_upto_region 11 with fail
   refine wp_region_held_drew (S := (fun w' => w'.cell? ⟨w.heap.size, 0, none⟩ = some (.int .i64 (N : Int)) ∧ Blk w' g10 111 (sb.map vu8).toArray)) (by kernel_rfl) (by first | exact SK.out _ hb0 | ((try dsimp only); exact SK.out _ hb0)) (fun hHeld => ?_)
   generalize Q.drew = X0 at *
   refine tk 0 ?_
   refine tk 1 ?_
   refine tk 2 ?_
   refine tk 3 ?_
   refine ty 5 rfl (yieldsIf_load_mid (by rfl) 111 _ rfl g10 0 rfl (sb.map vu8) _ (fun w' h => by have := blk_range h.2; simpa using this) Tryz.underlying111 rfl (by have h := sector_size sb hsb; rwa [List.size_toArray] at h)) ?_
   refine rd 4 fun K hK => ?_
   go_simp
   refine (rat_any N ⟨4, a, j⟩ X0 hN (hp4 j hjN)).mono ?_; rintro e X1 ⟨rfl, hb1'⟩
   have hb1 := hb0.trans (hb1'.mono hb0.size)
   obtain ⟨sn, esn⟩ : ∃ sn : Int, sn = ((Place.sec N ⟨4, a, j⟩ : Nat) : Int) := ⟨_, rfl⟩
   rw [← esn]
   have HSN := Lib.hid esn
   clear esn
   have wlen : (WaitD.cells ⟨sn, sb⟩).toArray.size = 513 := by simpa using WaitD.len ⟨sn, sb⟩ hsb
   have wlen2 : (WaitD.cells ⟨sn, sb⟩).length = 1 * 513 := WaitD.len ⟨sn, sb⟩ hsb
   go_wp2_with fail
   refine hK.out _ _ (by first | exact SK.out _ hb1 | ((try dsimp only); exact SK.out _ hb1)) (fun hHeld => ?_)
   clear hK K
   try simp only [Act.put, pz0, pz1, pz2, pz3, pz4, pz5]
   refine ty 6 rfl (yieldsIf_build (by rfl) 113 _ rfl (WaitD.cells ⟨sn, sb⟩).toArray (by exact lay_built _ _ hsb)) ?_
   refine rd 7 fun K hK => ?_
   try rw [if_pos (by rfl)]
   refine wp_buildSliceL 108 113 1 _ rfl (WaitD.cells ⟨sn, sb⟩).toArray i0 z0 HT.out.ht HT.out.hi HT.out.hz (by rw [HT.out.h1]; decide) (by rw [HT.out.h1]; decide) (by exact wait_row _ wlen i0 z0 HT.out.h1 HT.out.h3) ?_
   obtain ⟨X3, eX3⟩ : ∃ V, V = X1.alloc (.cells (WaitD.cells ⟨sn, sb⟩).toArray 113) := ⟨_, rfl⟩
   have hb3 : Below Q.heap.size Q X3 := by rw [eX3]; exact hb1.alloc hb1.size _
   have bl3 : Blk X3 X1.heap.size 113 (WaitD.cells ⟨sn, sb⟩).toArray := by rw [eX3]; exact Blk.new X1 _ _
   try rw [← eX3]
   clear eX3
   refine hK.out _ _ (by first | exact SK.out _ hb3 | ((try dsimp only); exact SK.out _ hb3)) (fun hHeld => ?_)
   clear hK K
   try simp only [Act.put, pz0, pz1, pz2, pz3, pz4, pz5]
   refine rd 8 fun K hK => ?_
   try rw [if_pos (by rfl)]
   have ow3 := ownsRow_out (F := fun _ => False) (outB hb3) HOQ.out (fun _ _ => id)
   refine wp_append_lies _ (.tmp 57) (.tmp 64) 108 rfl w.heap.size 113 i0 z0 513 520 HT.out.ht HT.out.hi HT.out.hz HT.out.h1 HT.out.h2 HT.out.h3 (by omega) o j (waitCells (lo j)) rfl ow3 ⟨X1.heap.size, 0, none⟩ 1 1 (WaitD.cells ⟨sn, sb⟩) rfl wlen2 (World.news_of_block (cs := (WaitD.cells ⟨sn, sb⟩).toArray) (t := 113) (fr := (0, 0)) bl3) (wait_one ⟨sn, sb⟩) (by omega) (by unfold maxLen; omega) (by omega) (BQ.out.trans (hb3.mono BQ.out.size)).size X3.heap.size rfl ?_
   intro g4 c4 X4 hO4 hg4 hat4 hlt4
   have hb4 : Below w.heap.size w X4 := (BQ.out.trans (hb3.mono BQ.out.size)).grown hg4 (BQ.out.trans (hb3.mono BQ.out.size)).size (fun r hr => (ow3.lt r hr).1)
   have hh3 := ownsRow_out (F := fun _ => False) (outB hb3) HHQ.out (fun _ _ => id)
   have hh4 := ownsRow_out (out_grown hg4) hh3 (fun i hi hi2 => ne_rows' ow3 hh3 (by decide) i hi2 hi)
   have k03 := KP.out.below hb3 KP.out.lt
   have k13 := KF.out.below hb3 KF.out.lt
   have k23 := KT.out.below hb3 KT.out.lt
   have k04 : Blk X4 w.heap.size 23 #[.int .i64 (N : Int)] := (hg4.block _ k03.lt (fun e => ne_own ow3 k03 (by decide) _ e.symm rfl)).trans k03
   have k14 : Blk X4 (w.heap.size + 1) 28 #[.int .i64 (ed : Int), .slice (some ⟨go, offo, none⟩) no co, .slice (some ⟨gb, offb, none⟩) no cb, .slice aw st.length cs] := (hg4.block _ k13.lt (fun e => ne_own ow3 k13 (by decide) _ e.symm rfl)).trans k13
   have k24 : Blk X4 g10 111 (sb.map vu8).toArray := (hg4.block _ k23.lt (fun e => ne_own ow3 k23 (by decide) _ e.symm rfl)).trans k23
   refine hK.out _ _ (by first | exact ⟨k04.cell_is 0 rfl, k24⟩ | ((try dsimp only); exact ⟨k04.cell_is 0 rfl, k24⟩)) (fun hHeld => ?_)
   clear hK K
   try simp only [Act.put, pz0, pz1, pz2, pz3, pz4, pz5]
   refine tk 9 ?_
   refine wpAnyH_done (by kernel_rfl) ?_ _
   try simp only [Act.put, pz0, pz1, pz2, pz3, pz4, pz5]
   have q1 := k14.cell_is 1 rfl
   have qx : X4.cell? ⟨go, offo + j, none⟩ = some (.int .i64 (xn : Int)) := (hb4.cell (p := ⟨go, offo + j, none⟩) hgo).trans HCEL.out
   have HO4 := Lib.hid hO4
   have HK4 := Lib.hid (And.intro k04 (And.intro k14 k24))
   have HH4 := Lib.hid hh4
   have HB4 := Lib.hid hb4
   clear k04 k14 k24 k03 k13 k23 hh3 hh4 ow3 hO4 hat4 hlt4 hg4 bl3 hb3 hb1 hb4 hb1' hb0 KP KF KT HOQ HHQ BQ SK
   go_wp2_with fail
   refine (rlow_any xn 2 X4 rfl (by omega)).mono ?_; rintro e L5 ⟨l5, rfl, hlo5, hlb5⟩
   obtain ⟨g5, cap5, e5, _, _⟩ := World.ownsRow.form hlo5 (by omega)
   subst e5
   have hu5 := BytesIn.own hlo5
   have hke5 := leB_len xn 2
   have kk05 := HK4.out.1.below hlb5 HK4.out.1.lt
   have kk15 := HK4.out.2.1.below hlb5 HK4.out.2.1.lt
   have kk25 := HK4.out.2.2.below hlb5 HK4.out.2.2.lt
   have hbL5 := HB4.out.trans (hlb5.mono HB4.out.size)
   have ho5 := ownsRow_out (F := fun _ => False) (outB hlb5) HH4.out (fun _ _ => id)
   have hO5 := ownsRow_out (F := fun _ => False) (outB hlb5) HO4.out (fun _ _ => id)
   go_upto_region 13 with (at_builtin; refine wpList_append_bytes _ rfl (.tmp 66) (.tmp 72) rfl w.heap.size L5.heap.size (20 + 6 * j) h _ rfl ho5 (some ⟨g5, 0, none⟩) 2 cap5 (leB xn 2) rfl hke5 hu5 (by omega) hbL5.size ?_; intro hv5 X5 hW5 hg5)
   have hb5 := hbL5.grown hg5 hbL5.size (fun r hr => (ho5.lt r hr).1)
   have hP5 := ownsRow_out (out_grown hg5) hO5 (fun i hi hi2 => ne_rows' hO5 ho5 (by decide) i hi hi2)
   have b05 := (hg5.block _ kk05.lt (fun e => ne_own ho5 kk05 (by decide) _ e.symm rfl)).trans kk05
   have b15 := (hg5.block _ kk15.lt (fun e => ne_own ho5 kk15 (by decide) _ e.symm rfl)).trans kk15
   have b25 := (hg5.block _ kk25.lt (fun e => ne_own ho5 kk25 (by decide) _ e.symm rfl)).trans kk25
   have hV := blk_bytes (show Blk X5 g10 111 (sb.map vu8).toArray from b25) 508 (by omega) (by rw [hsb]; decide)
   rw [hsb] at hV
   have HVB := Lib.hid hV
   have HW5 := Lib.hid hW5
   have HP5 := Lib.hid hP5
   have HB5 := Lib.hid hb5
   have HK5 := Lib.hid (And.intro (show Blk X5 w.heap.size 23 #[.int .i64 (N : Int)] from b05) (And.intro (show Blk X5 (w.heap.size + 1) 28 #[.int .i64 (ed : Int), .slice (some ⟨go, offo, none⟩) no co, .slice (some ⟨gb, offb, none⟩) no cb, .slice aw st.length cs] from b15) (show Blk X5 g10 111 (sb.map vu8).toArray from b25)))
   clear hV hW5 hP5 hb5 b05 b15 b25 ho5 hO5 kk05 kk15 kk25 hbL5 hu5 hlo5 hlb5 hg5 HO4 HK4 HH4 HB4 q1 qx
   have hcr5 := crcW_lt (sb.take 508)
   go_wp2_with fail
   refine (rcrc_any (.slice (some ⟨g10, 0, none⟩) 508 512) (sb.take 508) X5 HVB.out).mono ?_; rintro e c5 ⟨rfl, hwc⟩
   subst hwc
   obtain ⟨C5, eC5⟩ : ∃ C, C = (crcW (sb.take 508)).toNat := ⟨_, rfl⟩
   unfold vu32
   rw [← eC5] at hcr5 ⊢
   have EC5 := Lib.hid eC5
   clear eC5
   go_wp2_with fail
   refine (rlow_any C5 4 X5 rfl (by omega)).mono ?_; rintro e L6 ⟨l6, rfl, hlo6, hlb6⟩
   obtain ⟨g6, cap6, e6, _, _⟩ := World.ownsRow.form hlo6 (by omega)
   subst e6
   have hu6 := BytesIn.own hlo6
   have hke6 := leB_len C5 4
   have kk06 := HK5.out.1.below hlb6 HK5.out.1.lt
   have kk16 := HK5.out.2.1.below hlb6 HK5.out.2.1.lt
   have kk26 := HK5.out.2.2.below hlb6 HK5.out.2.2.lt
   have hbL6 := HB5.out.trans (hlb6.mono HB5.out.size)
   have ho6 := ownsRow_out (F := fun _ => False) (outB hlb6) HW5.out (fun _ _ => id)
   have hO6 := ownsRow_out (F := fun _ => False) (outB hlb6) HP5.out (fun _ _ => id)
   go_wp2_with (at_builtin; refine wpList_append_bytes _ rfl (.tmp 74) (.tmp 78) rfl w.heap.size L6.heap.size (20 + 6 * j + 2) hv5 _ rfl ho6 (some ⟨g6, 0, none⟩) 4 cap6 (leB C5 4) rfl hke6 hu6 (by omega) hbL6.size ?_; intro hv6 X6 hW6 hg6)
   have hb6 := hbL6.grown hg6 hbL6.size (fun r hr => (ho6.lt r hr).1)
   have hP6 := ownsRow_out (out_grown hg6) hO6 (fun i hi hi2 => ne_rows' hO6 ho6 (by decide) i hi hi2)
   have b06 := (hg6.block _ kk06.lt (fun e => ne_own ho6 kk06 (by decide) _ e.symm rfl)).trans kk06
   have b16 := (hg6.block _ kk16.lt (fun e => ne_own ho6 kk16 (by decide) _ e.symm rfl)).trans kk16
   have b26 := (hg6.block _ kk26.lt (fun e => ne_own ho6 kk26 (by decide) _ e.symm rfl)).trans kk26
   go_roundw
   case rel =>
    refine ⟨j + 1, _, _, rfl, rfl, by omega, by go_num, ?_, ?_, b06, b16, hb6⟩
    ·rw [HLS2.out, waitCells_snoc, ← HSN.out]
     exact hP6
    ·rw [HHK2.out, List.map_append, List.map_append, ← EC5.out, show 20 + 6 * (j + 1) = 20 + 6 * j + 2 + 4 by omega]
     exact hW6
   case measure => simp [intOf]; omega
  ·have hnl : ¬ (j : Int) < (no : Int) := by omega
   have hje : no = j := by omega
   subst hje
   have hO := HO.out
   have hH := HH.out
   have hBw := HBr.out
   have hK0 := HKP.out
   have hK1 := HKF.out
   have HROW := Lib.hid hH
   have HOO := Lib.hid hO
   have HB04 := Lib.hid hK0
   have HB14 := Lib.hid hK1
   have HC4 := Lib.hid hBw
   clear hO hH hBw hK0 hK1 HO HH HBr HKP HKF
   go_wp2_with fail
   go_loopw [7, 12] (fun o i wr => ∃ (k : Nat) (o' : Value), o' = o ∧ k ≤ chunksN st.length ∧ i = .int .i64 (k : Int) ∧ wr.ownsRow w.heap.size 113 513 o' (no + k) (waitCells (lo no ++ laysK N a st k)) ∧ wr.ownsRow w.heap.size 5 1 h (20 + 6 * no) ((hk no).map vu8) ∧ Blk wr w.heap.size 23 #[.int .i64 (N : Int)] ∧ Blk wr (w.heap.size + 1) 28 #[.int .i64 (ed : Int), .slice ao no co, .slice ab no cb, .slice aw st.length cs] ∧ Below w.heap.size w wr) (fun _ i _ => chunksN st.length - (intOf i).toNat)
   case atStart => exact ⟨0, _, rfl, by omega, rfl, by rw [show laysK N a st 0 = [] from rfl, List.append_nil]; exact HOO.out, HROW.out, HB04.out, HB14.out, HC4.out⟩
   case round =>
    obtain ⟨k, o, rfl, hkc, rfl, hO, hH, hK0, hK1, hBw⟩ := hrel
    have q3 := hK1.cell_is 3 rfl
    have HO := Lib.hid hO
    have HH := Lib.hid hH
    have HBr := Lib.hid hBw
    obtain ⟨i0, z0, T0⟩ := rowT_lay
    have HT := Lib.hid T0
    clear hO hH hBw T0
    by_cases hlt : k < chunksN st.length
    ·have hli : (k : Int) < (chunksN st.length : Int) := by omega
     have SK := Lib.hid (fun (W' : World) (hb' : Below wr.heap.size wr W') => And.intro ((hK0.below hb' hK0.lt).cell_is 0 rfl) ((hK1.below hb' hK1.lt).cell_is 3 rfl))
     have hb0 : Below wr.heap.size wr wr.drew := (Below.refl _ wr).drew
     go_wp2_with fail
     refine (rparts_any st.length wr (by omega)).mono ?_; rintro e w9 ⟨rfl, rfl⟩
     go_upto_region 17 with fail
     refine wp_region_held_drew (S := (fun w' => w'.cell? ⟨w.heap.size, 0, none⟩ = some (.int .i64 (N : Int)) ∧ w'.cell? ⟨w.heap.size + 1, 3, none⟩ = some (.slice aw st.length cs))) (by kernel_rfl) (by first | exact SK.out _ hb0 | ((try dsimp only); exact SK.out _ hb0)) (fun hHeld => ?_)
     generalize wr.drew = X0 at *
     refine tk 0 ?_
     refine tk 1 ?_
     refine tk 2 ?_
     refine tk 3 ?_
     refine tk 5 ?_
     refine tk 7 ?_
     refine tk 6 ?_
     refine rd 4 fun K hK => ?_
     go_simp
     refine (rat_any N ⟨3, a, k⟩ X0 hN (hp3 k (by omega))).mono ?_; rintro e X1 ⟨rfl, hb1'⟩
     have hb1 := hb0.trans (hb1'.mono hb0.size)
     obtain ⟨sn, esn⟩ : ∃ sn : Int, sn = ((Place.sec N ⟨3, a, k⟩ : Nat) : Int) := ⟨_, rfl⟩
     rw [← esn]
     have HSN := Lib.hid esn
     clear esn
     go_wp2_with fail
     refine hK.out _ _ (by first | exact SK.out _ hb1 | ((try dsimp only); exact SK.out _ hb1)) (fun hHeld => ?_)
     clear hK K
     try simp only [Act.put, pz0, pz1, pz2, pz3, pz4, pz5]
     refine rd 8 fun K hK => ?_
     go_simp
     refine (rpart_any (.slice aw st.length cs) st k X1 ((HST.out.below (HBr.out.trans (hb1.mono HBr.out.size)) (Nat.le_refl _)).mono (HBr.out.trans (hb1.mono HBr.out.size)).size) (by omega)).mono ?_; rintro e X2 ⟨rfl, hb2'⟩
     have hb2 := hb1.trans (hb2'.mono hb1.size)
     have hsb := (secOf st k).2
     obtain ⟨sb, esb⟩ : ∃ sb, sb = (secOf st k).1 := ⟨_, rfl⟩
     rw [← esb] at hsb ⊢
     have HSB := Lib.hid esb
     clear esb
     have wlen : (WaitD.cells ⟨sn, sb⟩).toArray.size = 513 := by simpa using WaitD.len ⟨sn, sb⟩ hsb
     have wlen2 : (WaitD.cells ⟨sn, sb⟩).length = 1 * 513 := WaitD.len ⟨sn, sb⟩ hsb
     unfold sectorV
     go_wp2_with fail
     refine hK.out _ _ (by first | exact SK.out _ hb2 | ((try dsimp only); exact SK.out _ hb2)) (fun hHeld => ?_)
     clear hK K
     try simp only [Act.put, pz0, pz1, pz2, pz3, pz4, pz5]
     refine ty 9 rfl (yieldsIf_build (by rfl) 113 _ rfl (WaitD.cells ⟨sn, sb⟩).toArray (by exact lay_built _ _ hsb)) ?_
     refine rd 10 fun K hK => ?_
     try rw [if_pos (by rfl)]
     refine wp_buildSliceL 108 113 1 _ rfl (WaitD.cells ⟨sn, sb⟩).toArray i0 z0 HT.out.ht HT.out.hi HT.out.hz (by rw [HT.out.h1]; decide) (by rw [HT.out.h1]; decide) (by exact wait_row _ wlen i0 z0 HT.out.h1 HT.out.h3) ?_
     obtain ⟨X3, eX3⟩ : ∃ V, V = X2.alloc (.cells (WaitD.cells ⟨sn, sb⟩).toArray 113) := ⟨_, rfl⟩
     have hb3 : Below wr.heap.size wr X3 := by rw [eX3]; exact hb2.alloc hb2.size _
     have bl3 : Blk X3 X2.heap.size 113 (WaitD.cells ⟨sn, sb⟩).toArray := by rw [eX3]; exact Blk.new X2 _ _
     try rw [← eX3]
     clear eX3
     refine hK.out _ _ (by first | exact SK.out _ hb3 | ((try dsimp only); exact SK.out _ hb3)) (fun hHeld => ?_)
     clear hK K
     try simp only [Act.put, pz0, pz1, pz2, pz3, pz4, pz5]
     refine rd 11 fun K hK => ?_
     try rw [if_pos (by rfl)]
     have ow3 := ownsRow_out (F := fun _ => False) (outB hb3) HO.out (fun _ _ => id)
     refine wp_append_lies _ (.tmp 88) (.tmp 98) 108 rfl w.heap.size 113 i0 z0 513 520 HT.out.ht HT.out.hi HT.out.hz HT.out.h1 HT.out.h2 HT.out.h3 (by omega) o (no + k) (waitCells (lo no ++ laysK N a st k)) rfl ow3 ⟨X2.heap.size, 0, none⟩ 1 1 (WaitD.cells ⟨sn, sb⟩) rfl wlen2 (World.news_of_block (cs := (WaitD.cells ⟨sn, sb⟩).toArray) (t := 113) (fr := (0, 0)) bl3) (wait_one ⟨sn, sb⟩) (by omega) (by unfold maxLen; omega) (by omega) (HBr.out.trans (hb3.mono HBr.out.size)).size X3.heap.size rfl ?_
     intro g4 c4 X4 hO4 hg4 hat4 hlt4
     have hb4 : Below w.heap.size w X4 := (HBr.out.trans (hb3.mono HBr.out.size)).grown hg4 (HBr.out.trans (hb3.mono HBr.out.size)).size (fun r hr => (ow3.lt r hr).1)
     have hh3 := ownsRow_out (F := fun _ => False) (outB hb3) HH.out (fun _ _ => id)
     have hh4 : X4.ownsRow w.heap.size 5 1 h (20 + 6 * no) ((hk no).map vu8) := ownsRow_out (F := fun i => o.ownBlock = some i) ⟨hg4.os, hg4.tape, hg4.output, hg4.size, fun i hi hn => hg4.block i hi (fun e => hn e.symm)⟩ hh3 (fun i hi hi2 => ne_rows' ow3 hh3 (by decide) i hi2 hi)
     have k03 := hK0.below hb3 hK0.lt
     have k13 := hK1.below hb3 hK1.lt
     have k04 : Blk X4 w.heap.size 23 #[.int .i64 (N : Int)] := (hg4.block _ k03.lt (fun e => ne_own ow3 k03 (by decide) _ e.symm rfl)).trans k03
     have k14 : Blk X4 (w.heap.size + 1) 28 #[.int .i64 (ed : Int), .slice ao no co, .slice ab no cb, .slice aw st.length cs] := (hg4.block _ k13.lt (fun e => ne_own ow3 k13 (by decide) _ e.symm rfl)).trans k13
     refine hK.out _ _ (by first | exact ⟨k04.cell_is 0 rfl, k14.cell_is 3 rfl⟩ | ((try dsimp only); exact ⟨k04.cell_is 0 rfl, k14.cell_is 3 rfl⟩)) (fun hHeld => ?_)
     clear hK K
     try simp only [Act.put, pz0, pz1, pz2, pz3, pz4, pz5]
     refine tk 12 ?_
     refine wpAnyH_done (by kernel_rfl) ?_ _
     try simp only [Act.put, pz0, pz1, pz2, pz3, pz4, pz5]
     go_wp2_with fail
     go_roundw
     case rel =>
      refine ⟨k + 1, _, rfl, by omega, by go_num, ?_, hh4, k04, k14, hb4⟩
      rw [laysK_succ N a st k, ← List.append_assoc, waitCells_snoc, ← HSN.out, ← HSB.out, show no + (k + 1) = no + k + 1 by omega]
      exact hO4
     case measure => simp [intOf]; omega
    ·have hnl : ¬ (k : Int) < (chunksN st.length : Int) := by omega
     have hke : k = chunksN st.length := by omega
     have HKE := Lib.hid hke
     have c0 := hK0.cell_is 0 rfl
     clear hke hlt
     go_wp2_with fail
     refine (rparts_any st.length wr (by omega)).mono ?_; rintro e w9 ⟨rfl, rfl⟩
     go_wp2_with fail
     refine (rat_any N ⟨2, a, 0⟩ wr hN hp2).mono ?_; rintro e Y1 ⟨rfl, hy1⟩
     obtain ⟨sn, esn⟩ : ∃ sn : Int, sn = ((Place.sec N ⟨2, a, 0⟩ : Nat) : Int) := ⟨_, rfl⟩
     rw [← esn]
     have HSN := Lib.hid esn
     clear esn
     have hH1 := ownsRow_out (F := fun _ => False) (outB hy1) HH.out (fun _ _ => id)
     have hO1 := ownsRow_out (F := fun _ => False) (outB hy1) HO.out (fun _ _ => id)
     have hB1 := HBr.out.trans (hy1.mono HBr.out.size)
     rw [show 20 + 6 * no = (hk no).length from (HKL.out no (Nat.le_refl _)).symm] at hH1
     go_wp2_with fail
     refine (rsealed_sec h w.heap.size (hk no) Y1 hH1 hl508).mono ?_; rintro e Y2 ⟨rfl, hy2⟩
     obtain ⟨sb, esb⟩ : ∃ sb, sb = sectorL (hk no) := ⟨_, rfl⟩
     have hsb : sb.length = 512 := by rw [esb]; exact sectorL_len (hk no) hl508
     rw [← esb]
     have HSB := Lib.hid esb
     clear esb
     have hO2 := ownsRow_out hy2 hO1 (fun i hi hi2 => ne_rows' hO1 hH1 (by decide) i hi hi2)
     have hB2 : Below w.heap.size w Y2 := (Out.trans (F := fun i => w.heap.size ≤ i) (outB' hB1 (fun _ h => h)) hy2 (fun i _ h => (hH1.lt i h).1)).below (Nat.le_refl _) (fun i hi h => by omega)
     have wlen : (WaitD.cells ⟨sn, sb⟩).toArray.size = 513 := by simpa using WaitD.len ⟨sn, sb⟩ hsb
     have wlen2 : (WaitD.cells ⟨sn, sb⟩).length = 1 * 513 := WaitD.len ⟨sn, sb⟩ hsb
     have hO3 := hO2.alloc (.cells (WaitD.cells ⟨sn, sb⟩).toArray 113)
     have hB3 := hB2.alloc hB2.size (.cells (WaitD.cells ⟨sn, sb⟩).toArray 113)
     unfold sectorV
     go_wp2_with (first
      | (refine wpList_build_L rfl 113 _ rfl (WaitD.cells ⟨sn, sb⟩).toArray (by exact lay_built _ _ hsb) ?_)
      | (refine wpList_plain rfl (fun K hK => wp_buildSliceL 108 113 1 _ rfl (WaitD.cells ⟨sn, sb⟩).toArray i0 z0 HT.out.ht HT.out.hi HT.out.hz (by rw [HT.out.h1]; decide) (by rw [HT.out.h1]; decide) (by exact wait_row _ wlen i0 z0 HT.out.h1 HT.out.h3) (hK _ _ ?_)))
      | (at_builtin; refine wpList_append_lies _ rfl (.tmp 100) (.tmp 107) 108 rfl w.heap.size 113 i0 z0 513 520 HT.out.ht HT.out.hi HT.out.hz HT.out.h1 HT.out.h2 HT.out.h3 (by omega) _ (no + k) (waitCells (lo no ++ laysK N a st k)) rfl hO3 ⟨Y2.heap.size, 0, none⟩ 1 1 (WaitD.cells ⟨sn, sb⟩) rfl wlen2 (World.news_of_block (cs := (WaitD.cells ⟨sn, sb⟩).toArray) (t := 113) (fr := (0, 0)) (heap_alloc_new Y2 _)) (wait_one ⟨sn, sb⟩) (by omega) (by unfold maxLen; omega) (by omega) hB3.size (Y2.heap.size + 1) (by simp) ?_; intro g9 c9 Y4 hO9 hg9 hat9 hlt9))
     go_ret
     have hbf := hB3.grown hg9 hB3.size (fun r hr => (hO3.lt r hr).1)
     refine ⟨_, rfl, ?_, hbf⟩
     rw [← HKE.out, ← HSN.out, ← HSB.out]
     rw [← List.append_assoc]
     refine waits_own (B := w.heap.size) (e := 113) ?_ ?_ ?_
     ·rw [waitCells_snoc, List.length_append, List.length_append, HLEN.out, HLO.out no (Nat.le_refl _)]
      exact hO9
     ·intro y hy
      rcases List.mem_append.1 hy with hy | hy
      ·rcases List.mem_append.1 hy with hy | hy
       ·exact HLOB.out no y hy
       ·unfold laysK at hy
        obtain ⟨i, _, rfl⟩ := List.mem_map.1 hy
        exact (secOf st i).2
      ·rw [List.mem_singleton.1 hy]; exact hsb
     ·rw [List.length_append, List.length_append, HLEN.out, HLO.out no (Nat.le_refl _)]; simp; omega
end Go.Proofs.YtdpniceapmikpaaGreat
namespace Go.Proofs.YtdpniceapmikpaaGreat
open Go.RowKit

set_option maxRecDepth 100000 in
set_option maxHeartbeats 2000000 in
theorem lwrite_no (D : DiskP) (x : DiskD) (N area : Int) (f : FrameD) (fv : Value) (w : World) (h : DiskAt w D x) (hx : x.ok) (hf : FrameIn w w.heap.size fv f) (hno : (askB N x.size area && frameB N f) = false) :
  Calls Tryz.prog 18 #[ptr D.p, .agg #[.int .i64 N], .int .i64 area, fv] w fun e w' => e = .returned (.int .i64 2) ∧ Below w.heap.size w w' := by
 have HA := Lib.hid (fun w' h' => asked_any D x N area w' h' hx)
 have HF := Lib.hid (fun w' h' => lcheck_any N f fv w' h')
 have HD := Lib.hid h
 have HFI := Lib.hid hf
 obtain ⟨vo, vb, vs, ev, i1, i2, i3⟩ := hf
 subst ev
 unfold ptr at *
 clear h i1 i2 i3
 go_enter_defers Tryz.func18, Tryz.ntmps18
 go_wp2_with fail
 go_step3
 go_wp2_with fail
 obtain ⟨V, eV⟩ : ∃ V, V = (((w.alloc (.cells #[.pointer (some ⟨D.p, 0, none⟩)] 37)).alloc (.cells #[.int .i64 N] 23)).alloc (.cells #[.int .i64 area] 3)).alloc (.cells #[.int .i64 f.ed, vo, vb, vs] 28) := ⟨_, rfl⟩
 have hV : Below w.heap.size w V := by rw [eV]; exact ((((Below.refl _ w).alloc (Nat.le_refl _) _).alloc (by simp) _).alloc (by simp; omega) _).alloc (by simp; omega) _
 have b1 : Blk V (w.heap.size + 1) 23 #[.int .i64 N] := by rw [eV]; exact ((Blk.new2 w _ _ _).alloc _).alloc _
 have b3 : Blk V (w.heap.size + 3) 28 #[.int .i64 f.ed, vo, vb, vs] := by rw [eV]; exact Blk.new' (by simp)
 rw [← eV]
 clear eV
 refine (HA.out V (HD.out.below hV)).mono ?_; rintro e w1 ⟨rfl, hb1⟩
 have HB1 := Lib.hid (hV.trans (hb1.mono hV.size))
 cases hask : askB N x.size area
 ·unfold errB
  simp only [Bool.false_eq_true, if_false]
  go_wp2_with fail
  rw [Exit.noGoto_ret]
  exact ⟨_, results_tmp rfl _ _ _, rfl, HB1.out⟩
 ·rw [hask, Bool.true_and] at hno
  rw [hno] at HF
  have c3 := (b3.below hb1 b3.lt).cell_is 0 rfl
  have c3b := (b3.below hb1 b3.lt).cell_is 1 rfl
  have c3c := (b3.below hb1 b3.lt).cell_is 2 rfl
  have c3d := (b3.below hb1 b3.lt).cell_is 3 rfl
  have c1 := (b1.below hb1 b1.lt).cell_is 0 rfl
  unfold errB at *
  simp only [Bool.false_eq_true, if_false, if_true] at *
  go_wp2_with fail
  refine (HF.out w1 ((HFI.out.below HB1.out (Nat.le_refl _)).mono HB1.out.size)).mono ?_; rintro e w2 ⟨rfl, hb2⟩
  have hbb := HB1.out.trans (hb2.mono HB1.out.size)
  go_wp2_with fail
  rw [Exit.noGoto_ret]
  exact ⟨_, results_tmp rfl _ _ _, rfl, hbb⟩

end Go.Proofs.YtdpniceapmikpaaGreat
namespace Go.Proofs.YtdpniceapmikpaaGreat
open Go.RowKit

theorem writesE_map : ∀ (l : List WaitS) (x : DiskD), writesE x (l.map (·.1)) = writesS x l
 | [], _ => rfl
 | y :: l, x => by
  show (if x.err y.1.n = 0 then writesE (x.write y.1.n y.1.b) (l.map (·.1)) else _) = (if x.err y.1.n = 0 then writesS (x.write y.1.n y.1.b) l else _)
  rw [writesE_map l]
theorem writesS_pre : ∀ (l : List WaitS) (x : DiskD), ∃ k, k ≤ l.length ∧ (writesS x l).1 = writesW x (l.take k)
 | [], x => ⟨0, Nat.le_refl _, rfl⟩
 | y :: l, x => by
  by_cases h : x.err y.1.n = 0
  ·obtain ⟨k, hk, e⟩ := writesS_pre l (x.write y.1.n y.1.b)
   refine ⟨k + 1, by simpa using hk, ?_⟩
   show (if x.err y.1.n = 0 then writesS (x.write y.1.n y.1.b) l else _).1 = _
   rw [if_pos h, e]
   rfl
  ·refine ⟨1, by simp, ?_⟩
   show (if x.err y.1.n = 0 then writesS (x.write y.1.n y.1.b) l else _).1 = _
   rw [if_neg h]
   rfl
/-- what holds of a disk k writes behind its beginning -/
structure Young (x : DiskD) (k : Nat) : Prop where
 ok : x.ok
 steps : x.steps ≤ k
 waits : x.waits.length ≤ k
 inR : x.inR
theorem Young.write {x : DiskD} {k : Nat} (h : Young x k) (hk : k ≤ 1000) (y : WaitS) : Young (x.write y.1.n y.1.b) (k + 1) := by
 obtain ⟨⟨o1, o2, o3, o4, o5, o6, o7⟩, h2, h3, h4⟩ := h
 unfold DiskD.write
 by_cases ho : y.1.n < 0 ∨ x.size ≤ y.1.n
 ·rw [if_pos ho]
  exact ⟨⟨o1, o2, o3, o4, o5, o6, o7⟩, by omega, by omega, h4⟩
 ·rw [if_neg ho]
  by_cases hf : x.steps ∈ x.fails
  ·rw [if_pos hf]
   exact ⟨⟨o1, o2, o3, o4, by show (0 : Int) ≤ x.steps + 1; omega, by show x.steps + 1 ≤ _; omega, o7⟩, by show x.steps + 1 ≤ _; omega, by show x.waits.length ≤ _; omega, h4⟩
  ·rw [if_neg hf]
   have hl : (x.waits ++ [(⟨y.1.n, y.1.b⟩ : WaitD)]).length = x.waits.length + 1 := by simp
   refine ⟨⟨o1, o2, o3, ?_, by show (0 : Int) ≤ x.steps + 1; omega, by show x.steps + 1 ≤ _; omega, ?_⟩, by show x.steps + 1 ≤ _; omega, ?_, ?_⟩
   ·intro z hz
    rcases List.mem_append.1 hz with hz | hz
    ·exact o4 z hz
    ·rw [List.mem_singleton.1 hz]; exact y.2
   ·show (x.waits ++ [(⟨y.1.n, y.1.b⟩ : WaitD)]).length ≤ _
    omega
   ·show (x.waits ++ [(⟨y.1.n, y.1.b⟩ : WaitD)]).length ≤ _
    omega
   ·intro z hz
    rcases List.mem_append.1 hz with hz | hz
    ·exact h4 z hz
    ·rw [List.mem_singleton.1 hz]
     show 0 ≤ y.1.n ∧ y.1.n < x.size
     omega
theorem Young.writes : ∀ (l : List WaitS) (x : DiskD) (k : Nat), Young x k → k + l.length ≤ 1000 → Young (writesW x l) (k + l.length)
 | [], x, k, h, _ => h
 | y :: l, x, k, h, hk => by
  have hk' : k + (l.length + 1) ≤ 1000 := by simpa using hk
  have h2 := Young.writes l (x.write y.1.n y.1.b) (k + 1) (h.write (by omega) y) (by omega)
  show Young (writesW (x.write y.1.n y.1.b) l) (k + (l.length + 1))
  rw [show k + (l.length + 1) = k + 1 + l.length by omega]
  exact h2
structure WrGo (N area : Int) (f : FrameD) (x x1 : DiskD) (no : Int) : Prop where
 rw_ : ∀ lv wv fv fr w, RDisk w w.heap.size lv wv fv x → FrameIn w w.heap.size fr f → Calls Tryz.prog 17 #[.agg #[lv, wv, .int .i64 x.steps, fv], .agg #[.int .i64 N], .int .i64 area, fr] w fun e w' =>
  ∃ wv', e = .returned (.tuple #[.agg #[lv, wv', .int .i64 x1.steps, fv], .int .i64 no]) ∧ RDisk w' w'.heap.size lv wv' fv x1 ∧ Below w.heap.size w w' ∧ (∀ g, wv'.ownBlock = some g → wv'.ownBlock = wv.ownBlock ∨ w.heap.size ≤ g)
 w_ : ∀ D fr w, DiskAt w D x → FrameIn w w.heap.size fr f → (∀ a c, (∃ x y z, fr = .agg #[x, y, z, .slice a f.state.length c]) → c ≤ maxLen) → Calls Tryz.prog 18 #[ptr D.p, .agg #[.int .i64 N], .int .i64 area, fr] w fun e w' =>
  e = .returned (.int .i64 no) ∧ ∃ D', DiskAt w' D' x1 ∧ DStep D D' w w'
 ok1 : x1.ok
 in1 : x1.inR
theorem wrGo (N area : Int) (f : FrameD) (x : DiskD) (hy : Young x 0) (hed : f.ed ≤ 9223372036854775807) (hok : ∀ o ∈ f.objs, o.ok ∧ ∀ x ∈ o.slots, I64 x.v) : ∃ x1 no, WrGo N area f x x1 no := by
 have hx := hy.ok
 cases hgo : (askB N x.size area && frameB N f)
 ·refine ⟨x, 2, ⟨fun lv wv fv fr w hr hf => ?_, fun D fr w hd hf _ => ?_, hx, hy.inR⟩⟩
  ·have h := rwrite_any x lv wv fv N area f fr [] w hr hx hf (fun y hy => by cases hy) (by simp) (fun h1 h2 => by rw [h1, h2] at hgo; cases hgo) (fun k hk => by rw [List.take_nil]; exact hx)
   have e : rwriteR x N area f [] = (x, 2) := by unfold rwriteR; rw [hgo]; rfl
   rw [e] at h
   exact h
  ·exact (lwrite_no D x N area f fr w hd hx hf hgo).mono fun e w' h => ⟨h.1, D, hd.below h.2, (DStep.refl D w).below h.2⟩
 ·have hask : askB N x.size area = true := by cases h : askB N x.size area; rw [h] at hgo; cases hgo; rfl
  have hfr : frameB N f = true := by rw [hask] at hgo; exact hgo
  obtain ⟨N, rfl⟩ : ∃ M : Nat, N = M := ⟨N.toNat, by unfold askB rightB at hask; simp at hask; omega⟩
  obtain ⟨a, rfl⟩ : ∃ a : Nat, area = a := ⟨area.toNat, by unfold askB rightB at hask; simp at hask; omega⟩
  obtain ⟨q1, q2, q3, q4⟩ := askB_facts hask
  have hlen := allSteps_len (N := N) (a := a) hfr
  obtain ⟨l, el⟩ : ∃ l, l = allSteps (N : Int) (a : Int) f := ⟨_, rfl⟩
  have hlays : ∀ fr W, FrameIn W W.heap.size fr f → Calls Tryz.prog 49 #[.agg #[.int .i64 (N : Int)], .int .i64 (a : Int), fr] W fun e w' => ∃ v, e = .returned v ∧ WaitsIn w' w'.heap.size v (l.map (·.1)) ∧ Below W.heap.size W w' := by
   rw [el]
   exact fun fr W hf => rlays_any N a f fr W hf hfr q4 hed (fun o ho => (hok o ho).2)
  have hyk : ∀ k, k ≤ l.length → Young (writesW x (l.take k)) k := fun k hk => by
   have h := Young.writes (l.take k) x 0 hy (by rw [List.length_take, el]; omega)
   rw [List.length_take, Nat.min_eq_left hk, Nat.zero_add] at h
   exact h
  have hww : ∀ D fr w, DiskAt w D x → FrameIn w w.heap.size fr f → (∀ b c, (∃ x y z, fr = .agg #[x, y, z, .slice b f.state.length c]) → c ≤ maxLen) → Calls Tryz.prog 18 #[ptr D.p, .agg #[.int .i64 (N : Int)], .int .i64 (a : Int), fr] w fun e w' =>
    e = .returned (.int .i64 (writesS x l).2) ∧ ∃ D', DiskAt w' D' (writesS x l).1 ∧ DStep D D' w w' := by
   rw [el]
   exact fun D fr w hd hf hc => callsIn_wide.1 (lwrite_any 6 (Nat.le_refl _) D x N a f fr w hd hx hf hask hfr hed hc (fun k hk => by rw [← el] at hk ⊢; exact (hyk k hk).ok))
  obtain ⟨k, hk, ek⟩ := writesS_pre l x
  have hwp : ∀ k, writesP x ((l.map (·.1)).take k) = writesW x (l.take k) := fun k => by rw [← List.map_take]; unfold writesP writesW; rw [List.foldl_map]
  refine ⟨(writesS x l).1, (writesS x l).2, ⟨fun lv wv fv fr w hr hf => ?_, hww, by rw [ek]; exact (hyk k hk).ok, by rw [ek]; exact (hyk k hk).inR⟩⟩
  have h := rwrite_any x lv wv fv N a f fr (l.map (·.1)) w hr hx hf (fun y hy => by obtain ⟨z, _, rfl⟩ := List.mem_map.1 hy; exact z.2) (by rw [List.length_map, el]; omega)
   (fun _ _ W hW => hlays fr W ((hf.below hW (Nat.le_refl _)).mono hW.size)) (fun k hk => by rw [hwp]; rw [List.length_map] at hk; exact (hyk k hk).ok)
  have eE : rwriteR x (N : Int) (a : Int) f (l.map (·.1)) = writesS x l := by
   unfold rwriteR
   rw [hask, hfr]
   exact writesE_map l x
  rw [eE] at h
  exact h
end Go.Proofs.YtdpniceapmikpaaGreat
