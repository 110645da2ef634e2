/-
  logs.Write: what it writes; the walk. (Written by gen_lwrite.py.)
-/
import Derived.Lib.SlBytesConst
import Derived.WalkMore
import Derived.Test.YtdpniceapmikpaaGreatWh1
import Derived.Test.YtdpniceapmikpaaGreatWh20
set_option linter.unusedVariables false
set_option linter.unusedSimpArgs false
namespace Go.Proofs.YtdpniceapmikpaaGreat
open Go.RowKit Go.Shelf

attribute [local go_sem] Oper.semAt_some

/-- what a head is laid from -/
def headPre (f : FrameD) : List UInt8 := [67, 72, 76, 71] ++ leB f.ed.toNat 8 ++ leB f.oids.length 2 ++ leB f.state.length 2 ++ leB (crcW f.state).toNat 4
def headRow (x : Int) (o : ObjD) : List UInt8 := leB x.toNat 2 ++ leB (crcW (padL (objL o))).toNat 4
def headRows : List Int → List ObjD → List UInt8
 | x :: l, o :: m => headRow x o ++ headRows l m
 | _, _ => []
theorem headPre_len (f : FrameD) : (headPre f).length = 20 := by simp [headPre, leB_len]
theorem sectorL_take (l : List UInt8) (h : l.length ≤ 508) : (sectorL l).take 508 = padL l := by
 unfold sectorL sealOf
 rw [List.take_append_of_le_length (by rw [padL_len l h]; exact Nat.le_refl _), List.take_of_length_le (by rw [padL_len l h]; exact Nat.le_refl _)]

theorem obj_all (o : ObjD) : o.cells.toArray.all (·.oneCell') = true := by
 rw [List.all_toArray, List.all_eq_true]
 intro v hv
 rcases List.mem_append.1 hv with hv | hv
 ·simp at hv
  rcases hv with rfl | rfl | rfl <;> rfl
 ·rcases List.mem_append.1 hv with hv | hv
  ·obtain ⟨k, _, hk⟩ := List.mem_flatMap.1 hv
   simp [KeyD.cells] at hk
   rcases hk with rfl | rfl | rfl | rfl | rfl | rfl <;> rfl
  ·exact sector_one _ v hv
theorem zero62 : Tryz.zeroCells62.size = 163 := by kernel_rfl
theorem size62 : (Tryz.prog.info? 62).map (·.size) = some 163 := by kernel_rfl
/-- bytes as a sector, where they are one -/
def secS (b : List UInt8) : SecS := if h : b.length = 512 then ⟨b, h⟩ else ⟨sector0, sector0_len⟩
theorem secS_val (b : List UInt8) (h : b.length = 512) : (secS b).1 = b := by unfold secS; rw [dif_pos h]
def stepL (N k a i : Int) (s : SecS) : WaitS := ⟨⟨(sectorN N k a i).1, s.1⟩, s.2⟩
def objSteps (N a : Int) (l : List ObjD) : List WaitS := l.zipIdx.map fun x => stepL N 4 a x.2 (secS (sectorL (objL x.1)))
theorem objSteps_snoc (N a : Int) (l : List ObjD) (o : ObjD) : objSteps N a (l ++ [o]) = objSteps N a l ++ [stepL N 4 a l.length (secS (sectorL (objL o)))] := by simp [objSteps, List.zipIdx_append]
theorem take_snoc {α : Type} (l : List α) (j : Nat) (h : j < l.length) : l.take (j + 1) = l.take j ++ [l[j]'h] := by rw [List.take_add_one, List.getElem?_eq_getElem h]; rfl
theorem headRows_snoc : ∀ (l : List Int) (m : List ObjD) (x : Int) (o : ObjD), l.length = m.length → headRows (l ++ [x]) (m ++ [o]) = headRows l m ++ headRow x o
 | [], [], x, o, _ => by simp [headRows]
 | y :: l, p :: m, x, o, h => by
  show headRow y p ++ headRows (l ++ [x]) (m ++ [o]) = headRow y p ++ headRows l m ++ headRow x o
  rw [headRows_snoc l m x o (by simpa using h), List.append_assoc]
 | [], _ :: _, _, _, h => by cases h
 | _ :: _, [], _, _, h => by cases h
theorem headRow_len (x : Int) (o : ObjD) : (headRow x o).length = 6 := by simp [headRow, leB_len]
theorem headRows_len : ∀ (l : List Int) (m : List ObjD), (headRows l m).length ≤ 6 * l.length
 | [], _ => by simp [headRows]
 | _ :: _, [] => by simp [headRows]
 | x :: l, o :: m => by
  have := headRows_len l m
  show (headRow x o ++ headRows l m).length ≤ 6 * (l.length + 1)
  rw [List.length_append, headRow_len]
  omega
theorem rows_at (N : Int) : ∀ (l : List Int) (m : List ObjD) (last : Int), -1 ≤ last → rowsB N last l m = true → ∀ (j : Nat) (x : Int) (o : ObjD), l[j]? = some x → m[j]? = some o → 0 ≤ x ∧ x < N ∧ objB o N = true
 | [], _, _, _, _, _, _, _, hx, _ => by cases hx
 | _ :: _, [], _, _, _, j, _, _, _, ho => by cases ho
 | y :: l, p :: m, last, hl, h, j, x, o, hx, ho => by
  have hh : (decide (last < y) && (decide (y < N) && (objB p N && rowsB N y l m))) = true := h
  simp only [Bool.and_eq_true, decide_eq_true_eq] at hh
  obtain ⟨h1, h2, h3, h4⟩ := hh
  cases j with
  | zero =>
   obtain rfl : y = x := by simpa using hx
   obtain rfl : p = o := by simpa using ho
   exact ⟨by omega, h2, h3⟩
  | succ j => exact rows_at N l m y (by omega) h4 j x o (by simpa using hx) (by simpa using ho)

def headL (f : FrameD) : List UInt8 := headPre f ++ headRows f.oids f.objs
/-- what is written of a frame, in order -/
def allSteps (N a : Int) (f : FrameD) : List WaitS := objSteps N a f.objs ++ (partL f.state).map (fun y => stepL N 3 a y.1.1 y.2) ++ [stepL N 2 a 0 (secS (sectorL (headL f)))]

set_option maxRecDepth 100000 in
set_option maxHeartbeats 8000000 in
theorem lwrite_in (n : Nat) (hn : 6 ≤ n) (D : DiskP) (x : DiskD) (N area : Int) (f : FrameD) (fv : Value) (w : World) (h : DiskAt w D x) (hx : x.ok) (hf : FrameIn w w.heap.size fv f) (hask : askB N x.size area = true) (hfr : frameB N f = true) (hed : f.ed ≤ 9223372036854775807) (hcap : ∀ a c, (∃ x y z, fv = .agg #[x, y, z, .slice a f.state.length c]) → c ≤ maxLen) (hgo : ∀ (k : Nat) (y : WaitS), (allSteps N area f)[k]? = some y → (writesW x ((allSteps N area f).take k)).ok ∧ (writesW x ((allSteps N area f).take k)).err y.1.n = 0) :
  CallsIn Fence.wide n Tryz.prog 18 #[ptr D.p, .agg #[.int .i64 N], .int .i64 area, fv] w fun e w' => e = .returned (.int .i64 0) ∧ ∃ D', DiskAt w' D' (writesW x (allSteps N area f)) ∧ DStep D D' w w' := by
 have HA := Lib.hid (fun w' h' => asked_any D x N area w' h' hx)
 have HF := Lib.hid (fun w' h' => lcheck_any N f fv w' h')
 rw [hask] at HA
 rw [hfr] at HF
 have HD := Lib.hid h
 have HFI := Lib.hid hf
 obtain ⟨vo, vb, vs, ev, i1, i2, i3⟩ := hf
 obtain ⟨hR, hpre, hrows⟩ : rightB N = true ∧ framePre N f.ed f.oids.length f.objs.length f.state.length = true ∧ rowsB N (-1) f.oids f.objs = true := by
  unfold frameB at hfr
  simpa only [Bool.and_eq_true] using hfr
 have hN : 1 ≤ N ∧ N ≤ 64 := by simpa [rightB] using hR
 obtain ⟨p1, p2, p3, p4⟩ : 0 ≤ f.ed ∧ f.oids.length = f.objs.length ∧ (f.oids.length : Int) ≤ N ∧ f.state.length ≤ 4096 := by
  simp [framePre] at hpre
  omega
 have p5 : f.ed ≤ 9223372036854775807 := hed
 obtain ⟨_, ao, co, eo, i1c, _⟩ := id i1
 obtain ⟨_, aw, cs, es, i3c, _⟩ := id i3
 have i3cc : f.state.length ≤ cs ∧ cs ≤ maxLen := ⟨i3c, hcap aw cs ⟨_, _, _, by rw [ev, es]⟩⟩
 obtain ⟨_, ab, cb, eb, i2c, _⟩ := id i2
 subst eb
 subst eo
 subst es
 obtain ⟨ed, hede⟩ : ∃ ed : Nat, f.ed = (ed : Int) := ⟨f.ed.toNat, by omega⟩
 rw [hede] at ev p5
 subst ev
 have HED := Lib.hid hede
 have HI1 := Lib.hid i1
 have HI2 := Lib.hid i2
 have HI3 := Lib.hid i3
 have HP2 := Lib.hid p2
 have HROWS := Lib.hid hrows
 unfold ptr at *
 clear h i1 i2 i3 hede p2 hrows hpre hR p1
 have hro : Fence.wide.round = none := rfl
 refine callsIn_of_wp_marks Tryz.func18 rfl trivial ?_ hro
 simp only [Tryz.ntmps18, List.size_toArray, List.length_cons, List.length_nil, Nat.reduceAdd, Nat.reduceSub, Array.replicate_succ, Array.replicate_zero, List.push_toArray, List.append_toArray, List.nil_append, List.cons_append]
 refine wpIn_wide.2 ?_
 go_wp2_with fail
 go_step3
 go_wp2_with fail
 obtain ⟨V, eV⟩ : ∃ V, V = (((w.alloc (.cells #[.pointer (some ⟨D.p, 0, none⟩)] 37)).alloc (.cells #[.int .i64 N] 23)).alloc (.cells #[.int .i64 area] 3)).alloc (.cells #[.int .i64 (ed : Int), .slice ao f.oids.length co, .slice ab f.objs.length cb, .slice aw f.state.length cs] 28) := ⟨_, rfl⟩
 have hV : Below w.heap.size w V := by rw [eV]; exact ((((Below.refl _ w).alloc (Nat.le_refl _) _).alloc (by simp) _).alloc (by simp; omega) _).alloc (by simp; omega) _
 have b0 : Blk V w.heap.size 37 #[.pointer (some ⟨D.p, 0, none⟩)] := by rw [eV]; exact (((Blk.new w _ _).alloc _).alloc _).alloc _
 have b1 : Blk V (w.heap.size + 1) 23 #[.int .i64 N] := by rw [eV]; exact ((Blk.new2 w _ _ _).alloc _).alloc _
 have b2 : Blk V (w.heap.size + 2) 3 #[.int .i64 area] := by rw [eV]; exact (Blk.new' (by simp)).alloc _
 have b3 : Blk V (w.heap.size + 3) 28 #[.int .i64 (ed : Int), .slice ao f.oids.length co, .slice ab f.objs.length cb, .slice aw f.state.length cs] := by rw [eV]; exact Blk.new' (by simp)
 have hVs : V.heap.size = w.heap.size + 4 := by rw [eV]; simp
 rw [← eV]
 clear eV
 refine (HA.out V (HD.out.below hV)).mono ?_; rintro e w1 ⟨rfl, hb1⟩
 have c3 := (b3.below hb1 b3.lt).cell_is 0 rfl
 have c3b := (b3.below hb1 b3.lt).cell_is 1 rfl
 have c3c := (b3.below hb1 b3.lt).cell_is 2 rfl
 have c3d := (b3.below hb1 b3.lt).cell_is 3 rfl
 have c1 := (b1.below hb1 b1.lt).cell_is 0 rfl
 go_wp2_with fail
 refine (HF.out w1 ((HFI.out.below (hV.trans (hb1.mono hV.size)) (Nat.le_refl _)).mono (by have := hV.size; have := hb1.size; omega))).mono ?_; rintro e w2 ⟨rfl, hb2⟩
 have hbb : Below V.heap.size V w2 := hb1.trans (hb2.mono hb1.size)
 have HBB := Lib.hid hbb
 clear c3 c3b c3c c3d c1
 have o1 : (Value.func (.func 52) #[] #[.pointer (some ⟨w2.heap.size, 0, none⟩), .pointer (some ⟨w.heap.size, 0, none⟩)]).oneCell' = true := rfl
 have e1 := set_new (w2.alloc (.cells #[.slice none 0 0] 115)) 117 .nilFunc (.func (.func 52) #[] #[.pointer (some ⟨w2.heap.size, 0, none⟩), .pointer (some ⟨w.heap.size, 0, none⟩)])
 rw [World.size_alloc] at e1
 have cv := Lib.run_convert_bytes_const (P := Tryz.prog) ((w2.alloc (.cells #[.slice none 0 0] 115)).alloc (.cells #[.func (.func 52) #[] #[.pointer (some ⟨w2.heap.size, 0, none⟩), .pointer (some ⟨w.heap.size, 0, none⟩)]] 117)) 26 5 #[.int .u8 67, .int .u8 72, .int .u8 76, .int .u8 71] 4 4 Tryz.underlying26 Tryz.underlying5
 rw [World.size_alloc, World.size_alloc] at cv
 go_upto_region 9 with (refine wpList_store_one rfl 117 _ _ rfl (w2.heap.size + 1) 117 .nilFunc (.func (.func 52) #[] #[.pointer (some ⟨w2.heap.size, 0, none⟩), .pointer (some ⟨w.heap.size, 0, none⟩)]) rfl rfl (Blk.new2 w2 _ _ _) (by kernel_rfl) rfl o1 ?_; rw [e1])
 clear e1 o1 cv
 obtain ⟨W, eW⟩ : ∃ W, W = (((w2.alloc (.cells #[.slice none 0 0] 115)).alloc (.cells #[(.func (.func 52) #[] #[.pointer (some ⟨w2.heap.size, 0, none⟩), .pointer (some ⟨w.heap.size, 0, none⟩)])] 117)).alloc (.cells #[.int .u8 67, .int .u8 72, .int .u8 76, .int .u8 71] 5 (4, 5))).alloc (.cells #[.slice (some ⟨w2.heap.size + 1 + 1, 0, none⟩) 4 4] 122) := ⟨_, rfl⟩
 rw [← eW]
 have hm2 : w.heap.size + 4 ≤ w2.heap.size := by have := HBB.out.size; omega
 have hW : Below w2.heap.size w2 W := by rw [eW]; exact ((((Below.refl _ w2).alloc (Nat.le_refl _) _).alloc (by simp) _).alloc (by simp; omega) _).alloc (by simp; omega) _
 have hb := HBB.out
 have K0 := (b0.below hb b0.lt).below hW (b0.below hb b0.lt).lt
 have K1 := (b1.below hb b1.lt).below hW (b1.below hb b1.lt).lt
 have K2 := (b2.below hb b2.lt).below hW (b2.below hb b2.lt).lt
 have K3 := (b3.below hb b3.lt).below hW (b3.below hb b3.lt).lt
 have KS : Blk W w2.heap.size 115 #[.slice none 0 0] := by rw [eW]; exact (((Blk.new w2 _ _).alloc _).alloc _).alloc _
 have KL : Blk W (w2.heap.size + 1) 117 #[.func (.func 52) #[] #[.pointer (some ⟨w2.heap.size, 0, none⟩), .pointer (some ⟨w.heap.size, 0, none⟩)]] := by rw [eW]; exact ((Blk.new2 w2 _ _ _).alloc _).alloc _
 have KH : Blk W (w2.heap.size + 1 + 1 + 1) 122 #[.slice (some ⟨w2.heap.size + 1 + 1, 0, none⟩) 4 4] := by rw [eW]; exact Blk.new' (by simp)
 have KM : W.heap[w2.heap.size + 1 + 1]? = some (.cells #[.int .u8 67, .int .u8 72, .int .u8 76, .int .u8 71] 5 (4, 5)) := by
  rw [eW]
  refine (Below.heap_alloc _ _ _ (by simp)).trans ?_
  have := heap_alloc_new ((w2.alloc (.cells #[.slice none 0 0] 115)).alloc (.cells #[.func (.func 52) #[] #[.pointer (some ⟨w2.heap.size, 0, none⟩), .pointer (some ⟨w.heap.size, 0, none⟩)]] 117)) (.cells #[.int .u8 67, .int .u8 72, .int .u8 76, .int .u8 71] 5 (4, 5))
  rw [World.size_alloc, World.size_alloc] at this
  exact this
 have hbW : Below w.heap.size w W := hV.trans ((hb.mono hV.size).trans (hW.mono (by omega)))
 clear eW
 clear HF HA
 have p5' : (ed : Int) ≤ 9223372036854775807 := p5
 generalize w2.heap.size = m2 at *
 have HKM := Lib.hid (show ∀ j u, ([67, 72, 76, 71].map vu8)[j]? = some u → W.drew.cell? ⟨m2 + 1 + 1, j, none⟩ = some u from fun j u hj => by
  rw [cell_of_row W.drew (m2 + 1 + 1) j _ _ _ KM]
  have e : (#[.int .u8 67, .int .u8 72, .int .u8 76, .int .u8 71] : Array Value).toList = [67, 72, 76, 71].map vu8 := rfl
  rw [← Array.getElem?_toList, e]
  exact hj)
 refine wp_region_noPanic ?_
 refine wp_region_held_drew (S := (fun w' => w'.cell? ⟨w.heap.size + 3, 0, none⟩ = some (.int .i64 (ed : Int)) ∧ w'.cell? ⟨w.heap.size + 3, 1, none⟩ = some (.slice ao f.oids.length co) ∧ w'.cell? ⟨w.heap.size + 3, 3, none⟩ = some (.slice aw f.state.length cs))) (by kernel_rfl) (by (try dsimp only); (first | exact ⟨K3.drew.cell_is 0 rfl, K3.drew.cell_is 1 rfl, K3.drew.cell_is 3 rfl⟩ | exact ⟨KF.cell_is 0 rfl, KF.cell_is 1 rfl, KF.cell_is 3 rfl⟩)) (fun hHeld => ?_)
 refine tk 0 ?_
 refine tk 1 ?_
 refine tk 2 ?_
 refine tk 3 ?_
 refine tk 4 ?_
 refine rd 5 fun K hK => ?_
 go_simp
 (refine (lnumber_first (m2 + 1 + 1 + 1) (m2 + 1 + 1) ed 122 [67, 72, 76, 71] rfl W.drew p5 KH.drew (by decide) (lt_of_block KM) HKM.out).mono ?_; rintro e w3 ⟨rfl, v3, hb3, ho3, hs3⟩; have KF := hs3.out.blk K3.drew (fun hd => hd.elim (fun e => by omega) (fun e => by simp [Value.ownBlock] at e; omega)))
 go_wp2_with fail
 refine hK.out _ _ (by (try dsimp only); (first | exact ⟨K3.drew.cell_is 0 rfl, K3.drew.cell_is 1 rfl, K3.drew.cell_is 3 rfl⟩ | exact ⟨KF.cell_is 0 rfl, KF.cell_is 1 rfl, KF.cell_is 3 rfl⟩)) (fun hHeld => ?_)
 clear hK K
 try simp only [Act.put, pz0, pz1, pz2, pz3, pz4, pz5]
 refine wpAnyH_done (by kernel_rfl) ?_ _
 refine NoPanic.normal ?_
 try simp only [Act.put, pz0, pz1, pz2, pz3, pz4, pz5]
 have H3 : WInv m2 (m2 + 1) (m2 + 1 + 1 + 1) w w3 D.p N area #[.int .i64 (ed : Int), .slice ao f.oids.length co, .slice ab f.objs.length cb, .slice aw f.state.length cs] (.slice none 0 0) v3 [] [] ([67, 72, 76, 71] ++ leB ed 8) := by
  have far : ∀ {g : Nat} {t : TypeId} {cs : Array Value}, Blk W g t cs → g ≠ m2 + 1 + 1 + 1 → g ≠ m2 + 1 + 1 → Blk w3 g t cs := fun hg h1 h2 => hs3.out.blk hg.drew (fun hd => hd.elim h1 (fun e => h2 (by simpa [Value.ownBlock] using e.symm)))
  have hWs := hbW.size
  have hlM := KH.lt
  exact ⟨far K0 (by omega) (by omega), far K1 (by omega) (by omega), far K2 (by omega) (by omega), far K3 (by omega) (by omega), far KS (by omega) (by omega), World.ownsRow_nil _ _ _ _, far KL (by omega) (by omega), hb3,
   by obtain ⟨q1, q2⟩ := ho3; exact ⟨q1, q2.imp id (by rintro ⟨a, b, c, d, e, f⟩; exact ⟨a, b, c, d, by have : W.drew.heap.size ≤ a := e; have : W.drew.heap.size = W.heap.size := rfl; omega, f⟩)⟩, ⟨rfl, fun j u y hu => by cases hu⟩,
   hbW.drew.trans (hs3.out.below hbW.size (fun i hi hd => hd.elim (fun e => by omega) (fun e => by simp [Value.ownBlock] at e; omega))), hm2, by omega⟩
 have H3 := Lib.hid H3
 clear K0 K1 K2 K3 KS KL KH KM HKM hbW hs3 hb3 ho3 KF
 have HX3 := Lib.hid (H3.out.far (Below.refl w3.heap.size w3).drew)
 have HS3 := Lib.hid (And.intro (HX3.out.bf.cell_is 0 rfl) (And.intro (HX3.out.bf.cell_is 1 rfl) (HX3.out.bf.cell_is 3 rfl)))
 go_upto_region 10 with fail
 refine wp_region_noPanic ?_
 refine wp_region_held_drew (S := (fun w' => w'.cell? ⟨w.heap.size + 3, 0, none⟩ = some (.int .i64 (ed : Int)) ∧ w'.cell? ⟨w.heap.size + 3, 1, none⟩ = some (.slice ao f.oids.length co) ∧ w'.cell? ⟨w.heap.size + 3, 3, none⟩ = some (.slice aw f.state.length cs))) (by kernel_rfl) (by (try dsimp only); (first | exact HS3.out | exact ⟨KF3.cell_is 0 rfl, KF3.cell_is 1 rfl, KF3.cell_is 3 rfl⟩)) (fun hHeld => ?_)
 refine tk 0 ?_
 refine tk 1 ?_
 refine tk 2 ?_
 refine tk 3 ?_
 refine tk 4 ?_
 refine tk 5 ?_
 refine rd 6 fun K hK => ?_
 go_simp
 (refine (lnumber_any (m2 + 1 + 1 + 1) (w.heap.size + 4) (f.oids.length) 2 122 v3 _ _ (.inl rfl) (fun _ => by simp; omega) (by omega) HX3.out.bh (by decide) HX3.out.oh (by simp [leB_len]) HX3.out.sz).mono ?_; rintro e w4 ⟨rfl, v4, hb3, ho3, hs3⟩; have HN3 := Lib.hid (HX3.out.head hs3 hb3 ho3); have KF3 := HN3.out.bf)
 go_wp2_with fail
 refine hK.out _ _ (by (try dsimp only); (first | exact HS3.out | exact ⟨KF3.cell_is 0 rfl, KF3.cell_is 1 rfl, KF3.cell_is 3 rfl⟩)) (fun hHeld => ?_)
 clear hK K
 try simp only [Act.put, pz0, pz1, pz2, pz3, pz4, pz5]
 refine wpAnyH_done (by kernel_rfl) ?_ _
 refine NoPanic.normal ?_
 try simp only [Act.put, pz0, pz1, pz2, pz3, pz4, pz5]
 have H4 := HN3
 clear HX3 HS3 H3 HN3 KF3 hb3 ho3 hs3
 have HX4 := Lib.hid (H4.out.far (Below.refl w4.heap.size w4).drew)
 have HS4 := Lib.hid (And.intro (HX4.out.bf.cell_is 0 rfl) (And.intro (HX4.out.bf.cell_is 1 rfl) (HX4.out.bf.cell_is 3 rfl)))
 go_upto_region 11 with fail
 refine wp_region_noPanic ?_
 refine wp_region_held_drew (S := (fun w' => w'.cell? ⟨w.heap.size + 3, 0, none⟩ = some (.int .i64 (ed : Int)) ∧ w'.cell? ⟨w.heap.size + 3, 1, none⟩ = some (.slice ao f.oids.length co) ∧ w'.cell? ⟨w.heap.size + 3, 3, none⟩ = some (.slice aw f.state.length cs))) (by kernel_rfl) (by (try dsimp only); (first | exact HS4.out | exact ⟨KF4.cell_is 0 rfl, KF4.cell_is 1 rfl, KF4.cell_is 3 rfl⟩)) (fun hHeld => ?_)
 refine tk 0 ?_
 refine tk 1 ?_
 refine tk 2 ?_
 refine tk 3 ?_
 refine tk 4 ?_
 refine tk 5 ?_
 refine rd 6 fun K hK => ?_
 go_simp
 (refine (lnumber_any (m2 + 1 + 1 + 1) (w.heap.size + 4) (f.state.length) 2 122 v4 _ _ (.inl rfl) (fun _ => by simp; omega) (by omega) HX4.out.bh (by decide) HX4.out.oh (by simp [leB_len]) HX4.out.sz).mono ?_; rintro e w5 ⟨rfl, v5, hb4, ho4, hs4⟩; have HN4 := Lib.hid (HX4.out.head hs4 hb4 ho4); have KF4 := HN4.out.bf)
 go_wp2_with fail
 refine hK.out _ _ (by (try dsimp only); (first | exact HS4.out | exact ⟨KF4.cell_is 0 rfl, KF4.cell_is 1 rfl, KF4.cell_is 3 rfl⟩)) (fun hHeld => ?_)
 clear hK K
 try simp only [Act.put, pz0, pz1, pz2, pz3, pz4, pz5]
 refine wpAnyH_done (by kernel_rfl) ?_ _
 refine NoPanic.normal ?_
 try simp only [Act.put, pz0, pz1, pz2, pz3, pz4, pz5]
 have H5 := HN4
 clear HX4 HS4 H4 HN4 KF4 hb4 ho4 hs4
 have hc32 := (crcW f.state).isLt
 have hwc : IntKind.i64.wrap (((crcW f.state).toNat : Nat) : Int) = ((crcW f.state).toNat : Int) := by rw [IntKind.wrap_i64]; omega
 have HX5 := Lib.hid (H5.out.far (Below.refl w5.heap.size w5).drew)
 have HS5 := Lib.hid (And.intro (HX5.out.bf.cell_is 0 rfl) (And.intro (HX5.out.bf.cell_is 1 rfl) (HX5.out.bf.cell_is 3 rfl)))
 go_upto_region 12 with fail
 refine wp_region_noPanic ?_
 refine wp_region_held_drew (S := (fun w' => w'.cell? ⟨w.heap.size + 3, 0, none⟩ = some (.int .i64 (ed : Int)) ∧ w'.cell? ⟨w.heap.size + 3, 1, none⟩ = some (.slice ao f.oids.length co) ∧ w'.cell? ⟨w.heap.size + 3, 3, none⟩ = some (.slice aw f.state.length cs))) (by kernel_rfl) (by (try dsimp only); (first | exact HS5.out | exact HSb5.out | exact ⟨KF5.cell_is 0 rfl, KF5.cell_is 1 rfl, KF5.cell_is 3 rfl⟩)) (fun hHeld => ?_)
 refine tk 0 ?_
 refine tk 1 ?_
 refine tk 2 ?_
 refine tk 3 ?_
 refine tk 4 ?_
 refine rd 5 fun K hK => ?_
 go_simp
 (refine (crc_any _ f.state _ ((HI3.out.below HX5.out.below (Nat.le_refl _)).mono HX5.out.below.size)).mono ?_; rintro e wc5 ⟨rfl, hbc5⟩; have HY5 := Lib.hid (HX5.out.far hbc5); have HSb5 := Lib.hid (And.intro (HY5.out.bf.cell_is 0 rfl) (And.intro (HY5.out.bf.cell_is 1 rfl) (HY5.out.bf.cell_is 3 rfl))))
 go_wp2_with fail
 refine hK.out _ _ (by (try dsimp only); (first | exact HS5.out | exact HSb5.out | exact ⟨KF5.cell_is 0 rfl, KF5.cell_is 1 rfl, KF5.cell_is 3 rfl⟩)) (fun hHeld => ?_)
 clear hK K
 try simp only [Act.put, pz0, pz1, pz2, pz3, pz4, pz5]
 refine tk 6 ?_
 refine rd 7 fun K hK => ?_
 go_simp
 (refine (lnumber_any (m2 + 1 + 1 + 1) (w.heap.size + 4) ((crcW f.state).toNat) 4 122 v5 _ _ (.inr (.inl rfl)) (fun _ => by simp; omega) (by omega) HY5.out.bh (by decide) HY5.out.oh (by simp [leB_len]) HY5.out.sz).mono ?_; rintro e w6 ⟨rfl, v6, hb5, ho5, hs5⟩; have HN5 := Lib.hid (HY5.out.head hs5 hb5 ho5); have KF5 := HN5.out.bf)
 go_wp2_with fail
 refine hK.out _ _ (by (try dsimp only); (first | exact HS5.out | exact HSb5.out | exact ⟨KF5.cell_is 0 rfl, KF5.cell_is 1 rfl, KF5.cell_is 3 rfl⟩)) (fun hHeld => ?_)
 clear hK K
 try simp only [Act.put, pz0, pz1, pz2, pz3, pz4, pz5]
 refine wpAnyH_done (by kernel_rfl) ?_ _
 refine NoPanic.normal ?_
 try simp only [Act.put, pz0, pz1, pz2, pz3, pz4, pz5]
 have H6 := HN5
 clear HX5 HS5 H5 HN5 KF5 hb5 ho5 hs5 HY5 HSb5 hbc5 hwc hc32
 have e2 := H6.out.bf.cell_is 2 rfl
 obtain ⟨l6, el6⟩ : ∃ l6, l6 = [67, 72, 76, 71] ++ leB ed 8 ++ leB f.oids.length 2 ++ leB f.state.length 2 ++ leB (crcW f.state).toNat 4 := ⟨_, rfl⟩
 rw [← el6] at H6
 have hl6 : l6.length ≤ 20 := by rw [el6]; simp [leB_len]
 have HL6 := Lib.hid el6
 have HRA := Lib.hid (rows_at N f.oids f.objs (-1) (by omega) HROWS.out)
 have hoL : f.objs.length ≤ 64 := by have := HP2.out; omega
 clear el6
 go_wp2_with fail
 clear e2
 go_loopw [70] (fun i wr => ∃ (j : Nat) (v hv : Value) (vals : List Value), j ≤ f.objs.length ∧ i = .int .i64 (j : Int) ∧ WInv m2 (m2 + 1) (m2 + 1 + 1 + 1) w wr D.p N area #[.int .i64 (ed : Int), .slice ao f.oids.length co, .slice ab f.objs.length cb, .slice aw f.state.length cs] v hv vals (objSteps N area (f.objs.take j)) (l6 ++ headRows (f.oids.take j) (f.objs.take j))) (fun i _ => f.objs.length - (intOf i).toNat)
 case atStart => exact ⟨0, _, _, _, Nat.zero_le _, rfl, by simpa [objSteps, headRows] using H6.out⟩
 case round =>
  obtain ⟨j, v, hv, vals, hj, rfl, hI⟩ := hrel
  by_cases hlt : j < f.objs.length
  ·have hjo : j < f.oids.length := by rw [HP2.out]; exact hlt
   obtain ⟨hok, hro, g, off, eab, hg, hrg⟩ := HI2.out.at_ (List.getElem?_eq_getElem hlt)
   obtain ⟨hx0, hxN, hob⟩ := HRA.out j _ _ (List.getElem?_eq_getElem hjo) (List.getElem?_eq_getElem hlt)
   obtain ⟨g1, off1, eao, hg1, hc1⟩ := HI1.out.at_ (List.getElem?_eq_getElem hjo)
   have HTo := Lib.hid (take_snoc f.objs j hlt)
   have HTx := Lib.hid (take_snoc f.oids j hjo)
   generalize f.objs[j]'hlt = o at *
   generalize f.oids[j]'hjo = xo at *
   have hrw := range_below hrg hI.below hg
   have hsz : (Tryz.prog.info? 62).map (·.size) = some o.cells.length := by rw [ObjD.len hok]; exact size62
   have hsz2 : (Tryz.prog.info? 62).map (·.size) = some o.cells.toArray.size := by rw [List.size_toArray, ObjD.len hok]; exact size62
   have hld := run_loadAt_mid (P := Tryz.prog) wr g (off + j * 163) 62 o.cells _ hrw Tryz.underlying62 rfl hsz
   have HOA := Lib.hid (obj_all o)
   have hzz : Tryz.zeroCells62.size = o.cells.toArray.size := by rw [zero62, List.size_toArray, ObjD.len hok]
   have HZZ := Lib.hid hzz
   have hlt' : (j : Int) < (f.objs.length : Int) := by omega
   have HI := Lib.hid (hI.far ((Below.refl _ wr).alloc (Nat.le_refl _) (.cells o.cells.toArray 62)))
   have e1 := HI.out.bp.cell_is 0 rfl
   obtain ⟨X, eX⟩ : ∃ X, X = o.cells.toArray := ⟨_, rfl⟩
   rw [← eX] at hld hsz2 HOA HZZ HI e1
   have HEX := Lib.hid eX
   have HCP := Lib.hid (fun w' => cput_yes o hok N w' hob)
   rw [← eX] at HCP
   have hwl := hI.below.size
   clear eX hzz hsz hrw hI hrg
   subst eab
   subst eao
   go_wp2_with (first
    | (refine wpList_load_is _ rfl 62 _ rfl _ _ rfl hld ?_)
    | (refine wpList_store_row rfl 62 _ _ rfl wr.heap.size X rfl rfl 62 _ (heap_alloc_new wr _) hsz2 HZZ.out HOA.out ?_; rw [World.setRow_alloc_new])
    | (refine wpList_load_row rfl 62 _ rfl wr.heap.size rfl 62 X (0, 0) _ (heap_alloc_new wr _) Tryz.underlying62 rfl hsz2 ?_))
   refine (HCP.out _).mono ?_; rintro e w8 ⟨rfl, hb8⟩
   have H8 := Lib.hid (HI.out.far hb8)
   clear e1 hld HCP
   obtain ⟨xn, exn⟩ : ∃ xn : Nat, xo = (xn : Int) := ⟨xo.toNat, by omega⟩
   subst exn
   have hol := objL_len o hok
   have hsec : (sectorL (objL o)).length = 512 := sectorL_len _ (by omega)
   have htk := sectorL_take (objL o) (by omega)
   obtain ⟨b, eb⟩ : ∃ b, b = sectorL (objL o) := ⟨_, rfl⟩
   rw [← eb] at hsec htk ⊢
   have HB := Lib.hid eb
   have HTK := Lib.hid htk
   have HSEC := Lib.hid hsec
   clear eb htk hsec hol
   go_upto_region 17 with (refine wpList_store_row rfl 111 _ _ rfl w8.heap.size (b.map vu8).toArray rfl rfl 111 _ (heap_alloc_new w8 _) (sector_size _ HSEC.out) (by rw [zero111]; exact sector_eq _ _ sector0_len HSEC.out) (sector_all _) ?_; rw [World.setRow_alloc_new])
   obtain ⟨W9, eW9⟩ : ∃ W9, W9 = w8.alloc (.cells (b.map vu8).toArray 111) := ⟨_, rfl⟩
   obtain ⟨ob, eob⟩ : ∃ ob, ob = w8.heap.size := ⟨_, rfl⟩
   have HX9 := Lib.hid (H8.out.far ((Below.refl _ w8).alloc (Nat.le_refl _) (.cells (b.map vu8).toArray 111)).drew)
   have KO : Blk W9 ob 111 (b.map vu8).toArray := by rw [eW9, eob]; exact Blk.new w8 _ _
   rw [← eW9] at HX9 ⊢
   rw [← eob]
   have hobm : w.heap.size + 4 ≤ ob := by rw [eob]; exact H8.out.sz
   have hob2 : m2 + 1 + 1 + 1 < ob := by rw [eob]; exact H8.out.bh.lt
   clear eW9 eob H8 HI hb8
   have HKO := Lib.hid KO
   clear KO
   have hj64 : I64 (j : Int) := ⟨by omega, by omega⟩
   have hvl : vals.length ≤ 64 := by rw [HX9.out.st.1]; simp [objSteps]; omega
   have HS9 := Lib.hid (And.intro (HX9.out.bp.cell_is 0 rfl) (And.intro (HX9.out.ba.cell_is 0 rfl) (And.intro (HX9.out.bl.cell_is 0 rfl) HKO.out.drew)))
   refine wp_region_noPanic ?_
   refine wp_region_held_drew (S := (fun w' => w'.cell? ⟨w.heap.size + 1, 0, none⟩ = some (.int .i64 N) ∧ w'.cell? ⟨w.heap.size + 2, 0, none⟩ = some (.int .i64 area) ∧ w'.cell? ⟨m2 + 1, 0, none⟩ = some (.func (.func 52) #[] #[.pointer (some ⟨m2, 0, none⟩), .pointer (some ⟨w.heap.size, 0, none⟩)]) ∧ Blk w' ob 111 (b.map vu8).toArray)) (by kernel_rfl) (by (try dsimp only); (first | exact HS9.out | exact HSa9.out | exact HSl9.out)) (fun hHeld => ?_)
   refine tk 0 ?_
   refine tk 1 ?_
   refine tk 2 ?_
   refine tk 3 ?_
   refine ty 5 rfl (yieldsIf_load_mid (by rfl) 111 _ rfl ob 0 rfl (b.map vu8) _ (fun w' h q u hq => h.2.2.2.cell_is (0 + q) (by rw [List.getElem?_toArray, Nat.zero_add]; exact hq)) Tryz.underlying111 rfl (by rw [List.length_map, HSEC.out]; exact size_sector)) ?_
   refine rd 4 fun K hK => ?_
   go_simp
   (refine (at_any N 4 area j _ hj64).mono ?_; rintro e wa9 ⟨rfl, hba9⟩; have HY9 := Lib.hid (HX9.out.far hba9); have KOa9 := (HKO.out.drew).below hba9 HKO.out.drew.lt; have HSa9 := Lib.hid (And.intro (HY9.out.bp.cell_is 0 rfl) (And.intro (HY9.out.ba.cell_is 0 rfl) (And.intro (HY9.out.bl.cell_is 0 rfl) KOa9))))
   go_wp2_with fail
   refine hK.out _ _ (by (try dsimp only); (first | exact HS9.out | exact HSa9.out | exact HSl9.out)) (fun hHeld => ?_)
   clear hK K
   try simp only [Act.put, pz0, pz1, pz2, pz3, pz4, pz5]
   refine rd 6 fun K hK => ?_
   go_simp
   (refine (lay_any m2 w.heap.size (w.heap.size + 4) v vals (sectorN N 4 area j).1 ⟨b, HSEC.out⟩ _ HY9.out.bs HY9.out.os (by omega) HY9.out.sz).mono ?_; rintro e wl9 ⟨rfl, v9l, u9l, hcl9, hol9, hul9, hsl9⟩; have KOl9 := hsl9.blk' HY9.out.os KOa9 (by omega) (by decide); have HL9 := Lib.hid (HY9.out.lay hsl9 hcl9 hol9 hul9); have HSl9 := Lib.hid (And.intro (HL9.out.bp.cell_is 0 rfl) (And.intro (HL9.out.ba.cell_is 0 rfl) (And.intro (HL9.out.bl.cell_is 0 rfl) KOl9))))
   go_wp2_with fail
   refine hK.out _ _ (by (try dsimp only); (first | exact HS9.out | exact HSa9.out | exact HSl9.out)) (fun hHeld => ?_)
   clear hK K
   try simp only [Act.put, pz0, pz1, pz2, pz3, pz4, pz5]
   refine wpAnyH_done (by kernel_rfl) ?_ _
   refine NoPanic.normal ?_
   try simp only [Act.put, pz0, pz1, pz2, pz3, pz4, pz5]

   have H10 := HL9
   have HKP := Lib.hid KOl9
   clear HX9 HS9 HL9 HSl9 HSa9 HY9 KOa9 KOl9 hba9 hcl9 hol9 hul9 hsl9 HKO hvl
   have HX10 := Lib.hid (H10.out.far (Below.refl wl9.heap.size wl9).drew)
   have hco : wl9.drew.cell? ⟨g1, off1 + j, none⟩ = some (.int .i64 (xn : Int)) := (HX10.out.below.cell (p := ⟨g1, off1 + j, none⟩) hg1).trans hc1
   have HS10 := Lib.hid (And.intro (HX10.out.bf.cell_is 1 rfl) hco)
   clear hco
   have hjl' : (j : Int) < (f.oids.length : Int) := by omega
   have hxf : xn < 65536 := by omega
   go_upto_region 18 with fail
   refine wp_region_noPanic ?_
   refine wp_region_held_drew (S := (fun w' => w'.cell? ⟨w.heap.size + 3, 1, none⟩ = some (.slice (some ⟨g1, off1, none⟩) f.oids.length co) ∧ w'.cell? ⟨g1, off1 + j, none⟩ = some (.int .i64 (xn : Int)))) (by kernel_rfl) (by (try dsimp only); (first | exact HS10.out | exact KF10)) (fun hHeld => ?_)
   refine tk 0 ?_
   refine tk 1 ?_
   refine tk 2 ?_
   refine tk 3 ?_
   refine tk 4 ?_
   refine tk 5 ?_
   refine tk 6 ?_
   refine tk 7 ?_
   refine rd 8 fun K hK => ?_
   go_simp
   (refine (lnumber_any (m2 + 1 + 1 + 1) (w.heap.size + 4) xn 2 122 hv _ _ (.inl rfl) (fun _ => by simp; omega) (by omega) HX10.out.bh (by decide) HX10.out.oh (by rw [List.length_append]; have := headRows_len (f.oids.take j) (f.objs.take j); rw [List.length_take] at this; omega) HX10.out.sz).mono ?_; rintro e wn10 ⟨rfl, v10, hb10, ho10, hs10⟩; have HN10 := Lib.hid (HX10.out.head hs10 hb10 ho10); have KOn10 := hs10.blk' HX10.out.oh HKP.out.drew (by omega) (by decide); have KF10 := And.intro (HN10.out.bf.cell_is 1 rfl) ((HN10.out.below.cell (p := ⟨g1, off1 + j, none⟩) hg1).trans hc1))
   go_wp2_with fail
   refine hK.out _ _ (by (try dsimp only); (first | exact HS10.out | exact KF10)) (fun hHeld => ?_)
   clear hK K
   try simp only [Act.put, pz0, pz1, pz2, pz3, pz4, pz5]
   refine wpAnyH_done (by kernel_rfl) ?_ _
   refine NoPanic.normal ?_
   try simp only [Act.put, pz0, pz1, pz2, pz3, pz4, pz5]

   have H11 := HN10
   have HKQ := Lib.hid KOn10
   clear HX10 HS10 HN10 hb10 ho10 hs10 KF10 KOn10 HKP
   have HX11 := Lib.hid (H11.out.far (Below.refl wn10.heap.size wn10).drew)
   have HS11 := Lib.hid HKQ.out.drew
   have hc32 := (crcW (b.take 508)).isLt
   have hwc : IntKind.i64.wrap (((crcW (b.take 508)).toNat : Nat) : Int) = ((crcW (b.take 508)).toNat : Int) := by rw [IntKind.wrap_i64]; omega
   have hbb := blk_bytes HKQ.out.drew 508 (by rw [HSEC.out]; decide) (by rw [HSEC.out]; decide)
   rw [HSEC.out] at hbb
   have HBB5 := Lib.hid hbb
   clear hbb
   go_upto_region 19 with fail
   refine wp_region_noPanic ?_
   refine wp_region_held_drew (S := (fun w' => Blk w' ob 111 (b.map vu8).toArray)) (by kernel_rfl) (by (try dsimp only); (first | exact HS11.out | exact KOc11 | exact KOn11)) (fun hHeld => ?_)
   refine tk 0 ?_
   refine tk 1 ?_
   refine tk 2 ?_
   refine tk 3 ?_
   refine rd 4 fun K hK => ?_
   go_simp
   (refine (crc_any _ (b.take 508) _ HBB5.out).mono ?_; rintro e wc11 ⟨rfl, hbc11⟩; have HY11 := Lib.hid (HX11.out.far hbc11); have KOc11 := HKQ.out.drew.below hbc11 HKQ.out.drew.lt)
   go_wp2_with fail
   refine hK.out _ _ (by (try dsimp only); (first | exact HS11.out | exact KOc11 | exact KOn11)) (fun hHeld => ?_)
   clear hK K
   try simp only [Act.put, pz0, pz1, pz2, pz3, pz4, pz5]
   refine tk 5 ?_
   refine rd 6 fun K hK => ?_
   go_simp
   (refine (lnumber_any (m2 + 1 + 1 + 1) (w.heap.size + 4) ((crcW (b.take 508)).toNat) 4 122 v10 _ _ (.inr (.inl rfl)) (fun _ => by simp; omega) (by omega) HY11.out.bh (by decide) HY11.out.oh (by rw [List.length_append, List.length_append, leB_len]; have := headRows_len (f.oids.take j) (f.objs.take j); rw [List.length_take] at this; omega) HY11.out.sz).mono ?_; rintro e wn11 ⟨rfl, v11, hb11, ho11, hs11⟩; have HN11 := Lib.hid (HY11.out.head hs11 hb11 ho11); have KOn11 := hs11.blk' HY11.out.oh KOc11 (by omega) (by decide))
   go_wp2_with fail
   refine hK.out _ _ (by (try dsimp only); (first | exact HS11.out | exact KOc11 | exact KOn11)) (fun hHeld => ?_)
   clear hK K
   try simp only [Act.put, pz0, pz1, pz2, pz3, pz4, pz5]
   refine wpAnyH_done (by kernel_rfl) ?_ _
   refine NoPanic.normal ?_
   try simp only [Act.put, pz0, pz1, pz2, pz3, pz4, pz5]

   have H12 := HN11
   clear HX11 HS11 HN11 hb11 ho11 hs11 HKQ HY11
   go_wp2_with fail
   go_roundw
   case rel =>
    refine ⟨j + 1, v9l, v11, vals ++ [u9l], by omega, by simp, ?_⟩
    have h := H12.out
    have ej : (f.objs.take j).length = j := by rw [List.length_take]; omega
    have es : objSteps N area (f.objs.take (j + 1)) = objSteps N area (f.objs.take j) ++ [⟨⟨(sectorN N 4 area (j : Int)).1, b⟩, HSEC.out⟩] := by
     rw [HTo.out, objSteps_snoc, ej]
     congr 2
     unfold stepL
     congr 2
     ·rw [secS_val _ (by rw [← HB.out]; exact HSEC.out), HB.out]
    have eh : l6 ++ headRows (f.oids.take (j + 1)) (f.objs.take (j + 1)) = l6 ++ headRows (f.oids.take j) (f.objs.take j) ++ leB xn 2 ++ leB (crcW (b.take 508)).toNat 4 := by
     rw [HTo.out, HTx.out, headRows_snoc _ _ _ _ (by rw [List.length_take, List.length_take]; omega)]
     unfold headRow
     rw [HTK.out]
     simp
    rw [es, eh]
    exact h
   case measure => simp [intOf]; omega
  ·obtain rfl : j = f.objs.length := by omega
   rw [List.take_of_length_le (Nat.le_refl _), List.take_of_length_le (by rw [HP2.out]; exact Nat.le_refl _)] at hI
   have e3 := hI.bf.cell_is 3 rfl
   have HI := Lib.hid hI
   clear hI
   go_wp2_with fail
   refine (callsIn_wide.1 (parts_in 5 _ _ _ _)).mono ?_; rintro e w20 ⟨rfl, rfl⟩
   go_wp2_with fail
   obtain ⟨Wl, eWl⟩ : ∃ Wl, Wl = wr.alloc (.cells #[.slice aw f.state.length cs] 26) := ⟨_, rfl⟩
   have HIl := Lib.hid (HI.out.far ((Below.refl _ wr).alloc (Nat.le_refl _) (.cells #[.slice aw f.state.length cs] 26)))
   have KBs : Blk Wl wr.heap.size 26 #[.slice aw f.state.length cs] := by rw [eWl]; exact Blk.new wr _ _
   rw [← eWl] at HIl ⊢
   obtain ⟨gs, egs⟩ : ∃ gs, gs = wr.heap.size := ⟨_, rfl⟩
   rw [← egs] at KBs ⊢
   clear eWl egs HI e3
   obtain ⟨L7, eL7⟩ : ∃ L7, L7 = l6 ++ headRows f.oids f.objs := ⟨_, rfl⟩
   rw [← eL7] at HIl
   have HL7 := Lib.hid eL7
   have hL7 : L7.length ≤ 500 := by rw [eL7, List.length_append]; have := headRows_len f.oids f.objs; omega
   clear eL7
   have hvl := HI3.out.below HIl.out.below (Nat.le_refl _)
   have hwl := HIl.out.sz
   have hcs : f.state.length ≤ cs ∧ cs ≤ maxLen := i3cc
   have lsb := HIl.out.bs.lt
   have llb := HIl.out.bl.lt
   have lhb := HIl.out.bh.lt
   have hfar := HIl.out.farV (R := fun r => Wl.heap.size ≤ r ∧ r < Wl.heap.size + 4) (fun r hr => hr.1)
   have lgs := KBs.lt
   refine (wpIn_wide (n := n)).1 ?_
   refine rangeB (gf := 107) (lb := #[.pointer (some ⟨gs, 0, none⟩)]) (fun y q t => (((t.setIfInBounds 109 (.int .i64 y.1.1)).setIfInBounds 110 (.agg (y.2.1.map vu8).toArray)).setIfInBounds 17 (.int .i64 y.1.1)).setIfInBounds 18 (.pointer (some ⟨q, 0, none⟩)))
    (fun y q X => Wl.heap.size + 4 ≤ q ∧ Blk X q 111 (y.2.1.map vu8).toArray) rfl (enters_of Tryz.func107 (by kernel_rfl) rfl)
    (parts_seq (n - 1) (by omega) gs w.heap.size (fun _ t => t = 115 ∨ t = 84) aw cs f.state Wl (fun i _ => ⟨by decide, by decide, by decide⟩) KBs hvl (by omega) hcs.1 hcs.2 (by omega)) keepsT_t (keepsT_b (by omega) (by omega)) (fun _ => rfl)
    (fun pre X => ∃ (v1 : Value) (vals1 : List Value), WInv m2 (m2 + 1) (m2 + 1 + 1 + 1) w X D.p N area #[.int .i64 (ed : Int), .slice ao f.oids.length co, .slice ab f.objs.length cb, .slice aw f.state.length cs] v1 hv vals1 (objSteps N area f.objs ++ pre.map (fun y => stepL N 3 area y.1.1 y.2)) L7 ∧ WFar (fun r => Wl.heap.size ≤ r ∧ r < Wl.heap.size + 4) v1 hv vals1 ∧ Wl.heap.size ≤ X.heap.size)
    (fun _ _ _ => False)
    (fun s A A' row hs hg hr => by obtain ⟨v1, vals1, h1, h2, h3⟩ := hs; exact ⟨v1, vals1, h1.abide h2 hg (fun r e => ⟨by have := (hr r e).1; omega, (hr r e).2.imp (fun h => ⟨by omega, by omega⟩) id⟩) ⟨by omega, by omega, by omega, by omega, by omega, by omega, by omega⟩, h2, Nat.le_trans h3 hg.size⟩)
    (fun _ _ _ _ _ hs _ _ => hs)
    ⟨v, vals, by simpa using HIl.out, hfar, Nat.le_refl _⟩
    (fun y q s A A' row hs hg hr => ⟨hs.1, hs.2.own hg (fun r e => (hr r e).2)⟩) ?assign ?body ?done ?stop
   case assign =>
    intro l2 pre y X K hI hXs hK
    dsimp only
    rw [show vp y = #[.int .i64 y.1.1, .agg (y.2.1.map vu8).toArray] from rfl, zip2]
    simp only [List.setIfInBounds_toArray, List.set_cons_zero, List.set_cons_succ]
    have hszs : (Tryz.prog.info? 111).map (·.size) = some (y.2.1.map vu8).toArray.size := sector_size _ y.2.2
    gi_wp2_with (refine wpListIn_store_row rfl rfl 111 _ _ rfl X.heap.size (y.2.1.map vu8).toArray rfl rfl 111 _ (heap_alloc_new X _) hszs (by rw [zero111]; exact sector_eq _ _ sector0_len y.2.2) (sector_all _) ?_; rw [World.setRow_alloc_new])
    obtain ⟨v1, vals1, h1, h2, h3⟩ := hI
    have h := hK X.heap.size (X.alloc (.cells (y.2.1.map vu8).toArray 111)) ((KeepsOthers.alloc X _).from _) (KeepsT.of ((Below.refl _ X).alloc (Nat.le_refl _) _) (by omega)) ⟨v1, vals1, h1.far ((Below.refl _ X).alloc (Nat.le_refl _) _), h2, by simp; omega⟩ ⟨by omega, Blk.new X _ _⟩
    simp only [List.setIfInBounds_toArray, List.set_cons_zero, List.set_cons_succ] at h
    exact h
   case body =>
    intro l2 pre y q X hI hP hlen hXs
    obtain ⟨v1, vals1, h1, h2, h3⟩ := hI
    obtain ⟨hq, hQ⟩ := hP
    simp only [List.setIfInBounds_toArray, List.set_cons_zero, List.set_cons_succ]
    have hI64 : I64 (y.1.1 : Int) := by have := y.1.2; exact ⟨by omega, by omega⟩
    have hpl : pre.length ≤ 100 := by
     have a1 : pre.length < chunksN f.state.length := hlen
     have a2 : chunksN f.state.length ≤ 100 := by unfold chunksN; omega
     omega
    have hvl1 : vals1.length ≤ 200 := by rw [h1.st.1]; simp [objSteps]; omega
    have HX20 := Lib.hid (h1.far (Below.refl X.heap.size X).drew)
    have HQ20 := Lib.hid hQ.drew
    have hql := hQ.lt
    have HS20 := Lib.hid (And.intro (HX20.out.bp.cell_is 0 rfl) (And.intro (HX20.out.ba.cell_is 0 rfl) (And.intro (HX20.out.bl.cell_is 0 rfl) HQ20.out)))
    have HF20 := Lib.hid h2
    have hlm2 := HX20.out.bs.lt
    clear h1 hQ h2 hlen
    gi_wp2
    refine region_round_held (S := (fun w' => w'.cell? ⟨w.heap.size + 1, 0, none⟩ = some (.int .i64 N) ∧ w'.cell? ⟨w.heap.size + 2, 0, none⟩ = some (.int .i64 area) ∧ w'.cell? ⟨m2 + 1, 0, none⟩ = some (.func (.func 52) #[] #[.pointer (some ⟨m2, 0, none⟩), .pointer (some ⟨w.heap.size, 0, none⟩)]) ∧ Blk w' q 111 (y.2.1.map vu8).toArray)) (by kernel_rfl) (by kernel_rfl) (fun ⟨_, _, h⟩ => h) (by (try dsimp only); (first | exact HS20.out | exact HSa20.out | exact HSl20.out)) (fun hHeld => ?_)
    refine tk 0 ?_
    refine tk 1 ?_
    refine tk 2 ?_
    refine tk 3 ?_
    refine ty 5 rfl (yieldsIf_load_mid (by rfl) 111 _ rfl q 0 rfl (y.2.1.map vu8) _ (fun w' h z u hz => h.2.2.2.cell_is (0 + z) (by rw [List.getElem?_toArray, Nat.zero_add]; exact hz)) Tryz.underlying111 rfl (by rw [List.length_map, y.2.2]; exact size_sector)) ?_
    refine rd 4 fun K hK => ?_
    go_simp
    (refine (at_any N 3 area (y.1.1 : Int) _ hI64).mono ?_; rintro e wa20 ⟨rfl, hba20⟩; have HY20 := Lib.hid (HX20.out.far hba20); have KOa20 := HQ20.out.below hba20 HQ20.out.lt; have HSa20 := Lib.hid (And.intro (HY20.out.bp.cell_is 0 rfl) (And.intro (HY20.out.ba.cell_is 0 rfl) (And.intro (HY20.out.bl.cell_is 0 rfl) KOa20))))
    go_wp2_with fail
    refine hK.out _ _ (by (try dsimp only); (first | exact HS20.out | exact HSa20.out | exact HSl20.out)) (fun hHeld => ?_)
    clear hK K
    try simp only [Act.put, pz0, pz1, pz2, pz3, pz4, pz5]
    refine rd 6 fun K hK => ?_
    go_simp
    (refine (lay_at m2 w.heap.size (w.heap.size + 4) v1 vals1 (sectorN N 3 area (y.1.1 : Int)).1 y.2 _ HY20.out.bs HY20.out.os (by omega) HY20.out.sz).mono ?_; rintro e wl20 ⟨rfl, v20l, u20l, hcl20, hol20, hul20, hsl20, hue20⟩; have KOl20 := hsl20.blk' HY20.out.os KOa20 (by omega) (by decide); have HL20 := Lib.hid (HY20.out.lay hsl20 hcl20 hol20 hul20); have HSl20 := Lib.hid (And.intro (HL20.out.bp.cell_is 0 rfl) (And.intro (HL20.out.ba.cell_is 0 rfl) (And.intro (HL20.out.bl.cell_is 0 rfl) KOl20))))
    go_wp2_with fail
    refine hK.out _ _ (by (try dsimp only); (first | exact HS20.out | exact HSa20.out | exact HSl20.out)) (fun hHeld => ?_)
    clear hK K
    try simp only [Act.put, pz0, pz1, pz2, pz3, pz4, pz5]
    refine wpAnyH_done (by kernel_rfl) ?_  _
    have hbX : Below X.heap.size X wa20 := (Below.refl _ X).drew.trans hba20
    have kt := (KeepsT.of (T := fun _ t => t = 115 ∨ t = 84) (B := w.heap.size) (C := Wl.heap.size) hbX (by omega)).trans (hsl20.keepsT HY20.out.bs HY20.out.os (by omega) (by omega))
    refine ⟨kt.from, kt.weak2 (fun _ _ h => h) (by omega), v20l, vals1 ++ [u20l], ?_, ⟨fun i hi hR => ?_, HF20.out.head, fun u hu => ?_⟩, Nat.le_trans h3 kt.size⟩
    ·have h := HL20.out
     rw [List.map_append, ← List.append_assoc]
     exact h
    ·rcases hsl20.new_ i hi with hh | hh
     ·exact HF20.out.own i hh hR
     ·have := hbX.size; omega
    ·rcases List.mem_append.1 hu with hu | hu
     ·exact HF20.out.vals u hu
     ·rw [List.mem_singleton.1 hu, hue20]
      intro k d gn gb e
      simp at e
      obtain ⟨_, _, rfl, rfl⟩ := e
      have := hbX.size
      exact ⟨fun h => by omega, fun h => by omega⟩
   case stop =>
    rintro Dd c pre X _ _ h _
    exact h.elim
   case done =>
    rintro Dd ys X hDd rfl ⟨v1, vals1, h1, h2, h3⟩ hK
    have H30 := Lib.hid h1
    clear h1 h2
    have HX25 := Lib.hid (H30.out.far (Below.refl X.heap.size X).drew)
    have HS25 := Lib.hid (And.intro (HX25.out.bp.cell_is 0 rfl) (And.intro (HX25.out.ba.cell_is 0 rfl) (HX25.out.bl.cell_is 0 rfl)))
    have hl508 : L7.length ≤ 508 := by omega
    have hvl1 : vals1.length ≤ 200 := by
     have a2 : chunksN f.state.length ≤ 100 := by unfold chunksN; omega
     rw [H30.out.st.1]; simp [objSteps, partL]; omega
    have hI0 : I64 (0 : Int) := ⟨by omega, by omega⟩
    go_upto_region 25 with fail
    refine wp_region_noPanic ?_
    refine wp_region_held_drew (S := (fun w' => w'.cell? ⟨w.heap.size + 1, 0, none⟩ = some (.int .i64 N) ∧ w'.cell? ⟨w.heap.size + 2, 0, none⟩ = some (.int .i64 area) ∧ w'.cell? ⟨m2 + 1, 0, none⟩ = some (.func (.func 52) #[] #[.pointer (some ⟨m2, 0, none⟩), .pointer (some ⟨w.heap.size, 0, none⟩)]))) (by kernel_rfl) (by (try dsimp only); (first | exact HS25.out | exact HSa25.out | exact HSb25.out | exact HSl25.out)) (fun hHeld => ?_)
    refine tk 0 ?_
    refine tk 1 ?_
    refine tk 2 ?_
    refine tk 4 ?_
    refine rd 3 fun K hK => ?_
    go_simp
    (refine (at_any N 2 area 0 _ hI0).mono ?_; rintro e wa25 ⟨rfl, hba25⟩; have HYa25 := Lib.hid (HX25.out.far hba25); have HSa25 := Lib.hid (And.intro (HYa25.out.bp.cell_is 0 rfl) (And.intro (HYa25.out.ba.cell_is 0 rfl) (HYa25.out.bl.cell_is 0 rfl))))
    go_wp2_with fail
    refine hK.out _ _ (by (try dsimp only); (first | exact HS25.out | exact HSa25.out | exact HSb25.out | exact HSl25.out)) (fun hHeld => ?_)
    clear hK K
    try simp only [Act.put, pz0, pz1, pz2, pz3, pz4, pz5]
    refine rd 5 fun K hK => ?_
    go_simp
    (refine (hsector_any (m2 + 1 + 1 + 1) (w.heap.size + 4) 122 hv L7 _ HYa25.out.bh HYa25.out.oh hl508).mono ?_; rintro e wh25 ⟨rfl, hbh25⟩; have HY25 := Lib.hid (HYa25.out.far hbh25); have HSb25 := Lib.hid (And.intro (HY25.out.bp.cell_is 0 rfl) (And.intro (HY25.out.ba.cell_is 0 rfl) (HY25.out.bl.cell_is 0 rfl))))
    go_wp2_with fail
    refine hK.out _ _ (by (try dsimp only); (first | exact HS25.out | exact HSa25.out | exact HSb25.out | exact HSl25.out)) (fun hHeld => ?_)
    clear hK K
    try simp only [Act.put, pz0, pz1, pz2, pz3, pz4, pz5]
    refine rd 6 fun K hK => ?_
    go_simp
    (refine (lay_any m2 w.heap.size (w.heap.size + 4) v1 vals1 (sectorN N 2 area 0).1 ⟨sectorL L7, sectorL_len L7 hl508⟩ _ HY25.out.bs HY25.out.os (by omega) HY25.out.sz).mono ?_; rintro e wl25 ⟨rfl, v25l, u25l, hcl25, hol25, hul25, hsl25⟩; have HL25 := Lib.hid (HY25.out.lay hsl25 hcl25 hol25 hul25); have HSl25 := Lib.hid (And.intro (HL25.out.bp.cell_is 0 rfl) (And.intro (HL25.out.ba.cell_is 0 rfl) (HL25.out.bl.cell_is 0 rfl))))
    go_wp2_with fail
    refine hK.out _ _ (by (try dsimp only); (first | exact HS25.out | exact HSa25.out | exact HSb25.out | exact HSl25.out)) (fun hHeld => ?_)
    clear hK K
    try simp only [Act.put, pz0, pz1, pz2, pz3, pz4, pz5]
    refine wpAnyH_done (by kernel_rfl) ?_ _
    refine NoPanic.normal ?_
    try simp only [Act.put, pz0, pz1, pz2, pz3, pz4, pz5]

    have hKz : wl25.heap[Dd]? = some (.deferred (some [])) := by
     have hb := (Below.refl X.heap.size X).drew.trans (hba25.trans (hbh25.mono hba25.size))
     have h1 := (hb.block Dd (Array.getElem?_eq_some_iff.1 hK).1).trans hK
     refine (hsl25.out.block Dd (Array.getElem?_eq_some_iff.1 h1).1 (fun hd => ?_)).trans h1
     rcases hd with e | e
     ·rw [e] at h1; have h2 := HY25.out.bs; unfold Blk at h2; rw [h1] at h2; cases h2
     ·obtain ⟨o', ho', hc'⟩ := ownsRow_cells HY25.out.os Dd e; rw [h1] at ho'; cases ho'; cases hc'
    have HKz := Lib.hid hKz
    have HZ := HL25
    clear hKz H30 HX25 HS25 HY25 HSa25 HSb25 HSl25 HL25 hba25 hbh25 hcl25 hol25 hul25 hsl25
    obtain ⟨a5, c5, rfl⟩ := slice_form HZ.out.os
    obtain ⟨vals2, ev2⟩ : ∃ vals2, vals2 = vals1 ++ [u25l] := ⟨_, rfl⟩
    have hYS : objSteps N area f.objs ++ (partL f.state).map (fun y => stepL N 3 area y.1.1 y.2) ++ [⟨⟨(sectorN N 2 area 0).1, sectorL L7⟩, sectorL_len L7 hl508⟩] = allSteps N area f := by
     unfold allSteps
     congr 2
     unfold stepL
     have eL : L7 = headL f := by
      rw [HL7.out, HL6.out]
      unfold headL headPre
      have : f.ed.toNat = ed := by rw [HED.out]; rfl
      rw [this]
     have e1 : (secS (sectorL (headL f))).1 = sectorL L7 := by rw [← eL]; exact secS_val _ (sectorL_len L7 hl508)
     apply Subtype.ext
     simp only [e1]
    rw [hYS, ← ev2] at HZ
    obtain ⟨YS, eYS⟩ : ∃ YS, YS = allSteps N area f := ⟨_, rfl⟩
    have HYS := Lib.hid eYS
    rw [← eYS] at HZ
    have HGO := Lib.hid hgo
    rw [← eYS] at HGO
    have hvy : vals2.length = YS.length := HZ.out.st.1
    have hYl : YS.length ≤ 400 := by rw [← hvy, ev2, List.length_append]; simp; omega
    clear hYS ev2 eYS hgo
    have e5 := HZ.out.bs.cell_is 0 rfl
    have hDz := HD.out.below HZ.out.below
    have HDz := Lib.hid hDz
    have hnD : ∀ i, w.heap.size ≤ i → ¬ D.has i := fun i hi hd => by have := HD.out.has_lt i hd; omega
    clear hDz
    go_wp2_with fail
    go_loopw [127] (fun i wr => ∃ (k : Nat) (D1 : DiskP), k ≤ YS.length ∧ i = .int .i64 (k : Int) ∧ DiskAt wr D1 (writesW x (YS.take k)) ∧ DStep D D1 wl25 wr) (fun i _ => YS.length - (intOf i).toNat)
    case atStart => exact ⟨0, D, Nat.zero_le _, rfl, HDz.out, DStep.refl _ _⟩
    case round =>
     obtain ⟨k, D1, hk, rfl, hD1, hS1⟩ := hrel
     by_cases hltk : k < YS.length
     ·have hkv : k < vals2.length := by omega
      have hst := HZ.out.st.2 k _ _ (List.getElem?_eq_getElem hkv) (List.getElem?_eq_getElem hltk)
      obtain ⟨gg, ea5, hgg, hcell⟩ := ownsRow_at HZ.out.os (List.getElem?_eq_getElem hkv)
      obtain ⟨hok2, herr⟩ := HGO.out k _ (List.getElem?_eq_getElem hltk)
      have HTK2 := Lib.hid (take_snoc YS k hltk)
      generalize YS[k]'hltk = y at *
      generalize vals2[k]'hkv = u at *
      have hst2 := hst.keep (fun g t cs ht hb => hS1.out.blk hb (HDz.out.free hb (by rcases ht with rfl | rfl <;> decide) (by rcases ht with rfl | rfl <;> decide)))
      have hcell2 : wr.cell? ⟨gg, k, none⟩ = some u := (World.cell?_of_block (a := ⟨gg, k, none⟩) (hS1.out.block gg (World.block_lt_of_cell? _ _ hcell) (hnD gg (by omega)))).trans hcell
      obtain ⟨gn, gb, eu, hcall⟩ := wstep_any D1 _ w.heap.size u y wr hD1 hok2 (by rw [hS1.same]; exact hS1.out.blk HZ.out.bd (hnD _ (Nat.le_refl _))) hst2
      subst eu
      subst ea5
      rw [herr] at hcall
      have HCALL := Lib.hid hcall
      have hkv' : (k : Int) < (vals2.length : Int) := by omega
      have HS1 := Lib.hid hS1
      clear hst hst2 hcell hD1 hS1 hcall herr hok2
      go_wp2_with fail
      refine HCALL.out.mono ?_; rintro e wu ⟨rfl, D2, hD2, hS2⟩
      have HD2 := Lib.hid hD2
      have HS2 := Lib.hid (HS1.out.trans hS2)
      clear hD2 hS2
      go_wp2_with fail
      go_roundw
      case rel => exact ⟨k + 1, D2, by omega, by simp, by rw [HTK2.out, writesW_snoc]; exact HD2.out, HS2.out⟩
      case measure => simp [intOf]; omega
     ·obtain rfl : k = YS.length := by omega
      rw [List.take_of_length_le (Nat.le_refl _)] at hD1
      have hKt : wr.heap[Dd]? = some (.deferred (some [])) := (hS1.out.block Dd (Array.getElem?_eq_some_iff.1 HKz.out).1 (hnD Dd (by omega))).trans HKz.out
      have HD1 := Lib.hid hD1
      have HS1 := Lib.hid hS1
      clear hD1 hS1
      go_wp2_with fail
      rw [Exit.noGoto_ret]
      refine ⟨by simp, .inl ⟨_, _, rfl, run_takeDeferred hKt, ?_⟩⟩
      have hDd2 : Dd < wl25.heap.size := (Array.getElem?_eq_some_iff.1 HKz.out).1
      have hfin := HS1.out.first HZ.out.below HD.out.has_lt
      refine ⟨_, results_tmp rfl _ _ _, rfl, D1, ?_, ⟨⟨hfin.out.os, hfin.out.tape, hfin.out.output, by have := hfin.out.size; rw [World.putObj_size]; exact this, fun i hi hn => (World.putObj_heap_other (by omega)).trans (hfin.out.block i hi hn)⟩, hfin.same, hfin.new_⟩⟩
      have h := HD1.out.out (F := fun i => i = Dd) (w' := wr.putObj Dd (.deferred none)) ⟨rfl, rfl, rfl, by simp, fun j _ hn => World.putObj_heap_other hn⟩ (fun i hi e => by
       rw [e] at hi
       rcases HS1.out.new_ Dd hi with hh | hh
       ·exact hnD Dd (by omega) hh
       ·omega)
      rw [HYS.out] at h
      exact h
end Go.Proofs.YtdpniceapmikpaaGreat
