/-
  The contract of the reference's Sector (volume), at the places of an area that there are; and what the program's Sector says of these.
  The law CacheEvicts. (Written by gen_claw.py.)
  The law CacheSettles. (Written by gen_cset.py.)
  Opening numbers within 64 bits, an object, calls.
  CacheSettles: for every input the law answers true, and its arguments read as they did; without conditions.
-/
import Derived.Test.YtemcgfncahccgaaGreatCa37
import Derived.Test.YtemcgfncahccgaaGreatCa38
import Derived.Test.YtemcgfncahccgaaGreatCa6
set_option linter.unusedVariables false
set_option linter.unusedSimpArgs false
namespace Go.Proofs.YtemcgfncahccgaaGreat
open Go.RowKit

def Place.sec (N : Nat) (p : Place) : Nat := (if p.k = 2 then 2 else if p.k = 3 then 3 + p.t else 11 + p.t) + p.a * (9 + N)
end Go.Proofs.YtemcgfncahccgaaGreat
namespace Go.Proofs.YtemcgfncahccgaaGreat
open Go.RowKit Go.Shelf

/-- without the steps that fail -/
theorem WArg.calm {w : World} {v : Value} {x : WorldD} (h : WArg w v x) : ∃ vo m r vf, v = .agg #[vo, m, r, vf] ∧ vf.oneCell' = true ∧ WArg w (.agg #[vo, m, r, .slice none 0 0]) { x with fails := [] } := by
 obtain ⟨⟨vo, vf, rfl, h1, h2⟩, h3, h4⟩ := h
 exact ⟨vo, _, _, vf, rfl, h2.one, ⟨vo, _, rfl, h1, IntsIn.nil _ _⟩, h3, fun m hm => by cases hm⟩
end Go.Proofs.YtemcgfncahccgaaGreat
namespace Go.Proofs.YtemcgfncahccgaaGreat
open Go.RowKit Go.Shelf

theorem act_ones (a : ActD) : a.cells.toArray.all (·.oneCell') = true := by
 simp only [List.all_toArray]
 refine List.all_eq_true.2 fun v hv => ?_
 rcases List.mem_cons.1 hv with rfl | hv
 ·rfl
 rcases List.mem_cons.1 hv with rfl | hv
 ·rfl
 rcases List.mem_cons.1 hv with rfl | hv
 ·rfl
 rcases List.mem_append.1 hv with hv | hv
 ·exact obj_one _ v hv
 ·rw [List.mem_singleton.1 hv]; rfl
/-- a slice of calls that is read -/
def ActsIn (W : World) (B : Nat) (v : Value) (l : List ActD) : Prop :=
 l.length ≤ maxLen ∧ ∃ a cap, v = .slice a l.length cap ∧ l.length ≤ cap ∧ ∀ j (o : ActD), l[j]? = some o → o.ok ∧ ∃ g off, a = some ⟨g, off, none⟩ ∧ g < B ∧ W.rangeAt g (off + j * 167) o.cells
theorem ActsIn.below {W W' : World} {B C : Nat} {v : Value} {l : List ActD} (h : ActsIn W B v l) (hb : Below C W W') (hC : B ≤ C) : ActsIn W' B v l := by
 obtain ⟨h1, a, cap, h2, h3, h4⟩ := h
 refine ⟨h1, a, cap, h2, h3, fun j o hj => ?_⟩
 obtain ⟨ho, g, off, e, hg, hr⟩ := h4 j o hj
 exact ⟨ho, g, off, e, hg, range_below hr hb (by omega)⟩
theorem ActsIn.at_ {W : World} {B : Nat} {a : Option Addr} {n c : Nat} {l : List ActD} (h : ActsIn W B (.slice a n c) l) {j : Nat} {x : ActD} (hx : l[j]? = some x) :
  x.ok ∧ ∃ g off, a = some ⟨g, off, none⟩ ∧ g < B ∧ W.rangeAt g (off + j * 167) x.cells := by
 obtain ⟨_, a', c', e, _, h4⟩ := h
 injection e with ea _ _
 subst ea
 exact h4 j x hx
def settleD17 (oid s : Int) : ActD := ⟨3, oid, s, objZ, 0⟩
theorem settleD17_ok (oid s : Int) (hs : I64 s) : (settleD17 oid s).ok := ⟨objZ_ok, fun s hs => (slotsZ_fine s hs).1, hs⟩
theorem settleD17_built (oid s : Int) : Tryz.prog.built 49 [(0, .int .i64 3), (1, .int .i64 oid), (2, .int .i64 s)] = some (settleD17 oid s).cells.toArray := by kernel_rfl
def moveD17 (oid : Int) : ActD := ⟨4, oid, 0, objZ, 0⟩
theorem moveD17_ok (oid : Int) : (moveD17 oid).ok := ⟨objZ_ok, fun s hs => (slotsZ_fine s hs).1, by unfold I64; exact ⟨by show -9223372036854775808 ≤ (0 : Int); omega, by show (0 : Int) ≤ _; omega⟩⟩
theorem moveD17_built (oid : Int) : Tryz.prog.built 49 [(0, .int .i64 4), (1, .int .i64 oid), (2, .int .i64 0)] = some (moveD17 oid).cells.toArray := by kernel_rfl
set_option maxRecDepth 100000 in
set_option maxHeartbeats 8000000 in
theorem settles17_any (x : WorldD) (v vo : Value) (puts : List ActD) (oid sec : Int) (w : World) (hv : WArg w v x) (ho : ActsIn w w.heap.size vo puts) (hsi : I64 sec) :
  Calls Tryz.prog 9 #[v, vo, .int .i64 oid, .int .i64 sec] w fun e w' => e = .returned (.bool true) ∧ Below w.heap.size w w' := by
 obtain ⟨v0, v1, v2, v3, rfl, h3o, hv'⟩ := hv.calm
 have HV := Lib.hid hv'
 have HO := Lib.hid ho
 obtain ⟨-, ao, co, rfl, -, -⟩ := ho
 have HSI := Lib.hid hsi
 obtain ⟨x0, ex0⟩ : ∃ x0 : WorldD, x0 = { x with fails := [] } := ⟨_, rfl⟩
 rw [← ex0] at HV
 obtain ⟨XV, eXV⟩ : ∃ XV : Array Value, XV = #[v0, v1, v2, .slice none 0 0] := ⟨_, rfl⟩
 rw [← eXV] at HV
 have sXV : (Tryz.prog.info? 25).map (·.size) = some XV.size := by rw [eXV]; exact size_world _ _ _ _
 have HSX := Lib.hid sXV
 obtain ⟨W, eW⟩ : ∃ W, W = w.alloc (.cells #[v0, v1, v2, v3] 25) := ⟨_, rfl⟩
 have k00 : Blk W w.heap.size 25 #[v0, v1, v2, v3] := by rw [eW]; exact Blk.new w _ _
 have c3 := k00.cell_is 3 rfl
 have f3 := k00.frozen 3
 obtain ⟨Y, eY⟩ : ∃ Y, Y = W.setCell ⟨w.heap.size, 3, none⟩ (.slice none 0 0) := ⟨_, rfl⟩
 have k0 : Blk Y w.heap.size 25 XV := by rw [eY, eXV]; exact k00.set_ 3 _
 have hbW : Below w.heap.size w Y := by
  have h1 : Below w.heap.size w W := by rw [eW]; exact (Below.refl _ w).alloc (Nat.le_refl _) _
  have h2 : Out (fun i => i = w.heap.size) W Y := by rw [eY]; exact out_set rfl
  exact ((outB h1 : Out (fun i => i = w.heap.size) w W).trans h2 (fun _ _ h => h)).below (Nat.le_refl _) (fun i hi e => by omega)
 have HSM := Lib.hid (small17_any x0 (.agg XV) Y (HV.out.inn.up hbW))
 have HB := Lib.hid hbW
 clear hv hv' sXV hbW ex0 eXV hsi
 go_enter Tryz.func9, Tryz.ntmps9
 go_upto_region 1 with fail
 rw [← eW]
 clear eW
 go_upto_region 2 with fail
 rw [← eY]
 clear eY k00 c3 f3
 go_wp2_with (refine wpList_load_row rfl 25 _ rfl w.heap.size rfl 25 XV (0, 0) _ k0 Tryz.underlying25 rfl HSX.out ?_)
 refine HSM.out.mono ?_; rintro e w1 ⟨rfl, hb1⟩
 have k1 := k0.below hb1 k0.lt
 have HB1 := Lib.hid (HB.out.trans (hb1.mono HB.out.size))
 clear hb1 k0
 cases hsm : smallW x0
 ·go_wp2_with fail
  refine (works17_any _).mono ?_; rintro e w2 ⟨rfl, hb2⟩
  go_wp2_with fail
  go_ret
  exact ⟨rfl, HB1.out.trans (hb2.mono HB1.out.size)⟩
 ·obtain ⟨hfine, hr⟩ := smallW_fine hsm HV.out.ok HV.out.fi
  have HFI := Lib.hid hfine
  have HRO := Lib.hid hr
  clear hsm hfine hr
  by_cases h20 : puts.length ≤ 20
  ·have g20 : ¬ (20 : Int) < (puts.length : Int) := by omega
   have HBG := Lib.hid (begun17_any x0 HFI.out HRO.out (.agg XV) w1 (HV.out.inn.up HB1.out))
   go_upto_region 4 with fail
   clear g20
   go_wp2_with (refine wpList_load_row rfl 25 _ rfl w.heap.size rfl 25 XV (0, 0) _ k1 Tryz.underlying25 rfl HSX.out ?_)
   refine HBG.out.mono ?_; rintro e w2 ⟨D, C, cv, rfl, hb2, hlD, hlC, hlF, hbw2⟩
   obtain ⟨CV, rfl, s7, one7, st7⟩ := hb2.ref.agg
   have HI7 := Lib.hid (info_cache s7)
   have hzc := Blk.new w2 61 zeroC
   have HZ7 := Lib.hid (show zeroC.size = CV.size from s7.symm)
   have HON := Lib.hid one7
   have hw01 := HB1.out.size
   have HB2 := Lib.hid (HB1.out.trans (hbw2.mono HB1.out.size))
   have HLI := Lib.hid (show LInv w D.p C.g w2.heap.size (w2.alloc (.cells CV 61)) D C CV (start17 x0) 0 from
    ⟨rfl, rfl, hb2.below ((Below.refl _ w2).alloc (Nat.le_refl _) _), start_ok HFI.out HRO.out.1, Blk.new _ _ _, fun i hi => hi.elim (fun h => by have := hlD i h; omega) (fun h => by have := hlC i h; omega), fun h => by have := hb2.disk.has_lt _ h; omega, fun h => by have := hb2.cache.has_lt _ h; omega, fun h => by have := (hb2.far _ h).1; omega, s7, one7, HB2.out.size, outB (HB2.out.alloc HB2.out.size _)⟩)
   unfold ptr
   clear hb2 hlD hlC hlF hbw2 s7 one7 st7 HBG k1
   go_upto_region 5 with (refine wpList_store_row rfl 61 _ _ rfl w2.heap.size CV rfl rfl 61 _ hzc HI7.out HZ7.out HON.out ?_; rw [World.setRow_alloc_new])
   obtain ⟨Z, eZ⟩ : ∃ Z, Z = w2.alloc (.cells CV 61) := ⟨_, rfl⟩
   rw [← eZ] at HLI ⊢
   clear eZ hzc
   obtain ⟨dp, edp⟩ : ∃ dp, dp = D.p := ⟨_, rfl⟩
   obtain ⟨cg, ecg⟩ : ∃ cg, cg = C.g := ⟨_, rfl⟩
   obtain ⟨G, eG⟩ : ∃ G, G = w2.heap.size := ⟨_, rfl⟩
   rw [← edp, ← ecg, ← eG] at HLI
   rw [← edp, ← ecg, ← eG]
   clear edp ecg eG HZ7 HON HI7
   go_wp2_with fail
   go_loopw [12, 13] (fun b i wr => ∃ j : Nat, j ≤ puts.length ∧ b = .bool true ∧ i = .int .i64 j ∧ ∃ D C CV x, LInv w dp cg G wr D C CV x (j : Int)) (fun _ i _ => puts.length - (intOf i).toNat)
   case atStart => exact ⟨0, by omega, rfl, rfl, _, _, _, _, HLI.out⟩
   case round =>
    obtain ⟨j, hj, rfl, rfl, D, C, CV, x, hL⟩ := hrel
    have HL := Lib.hid hL
    clear hL
    by_cases hlt : j < puts.length
    ·have i2 : (j : Int) < (puts.length : Int) := by omega
     obtain ⟨y, hy⟩ : ∃ y, puts[j]? = some y := ⟨_, List.getElem?_eq_getElem hlt⟩
     obtain ⟨hya, g, off, rfl, hg, hrng⟩ := (HO.out.below HL.out.below0 (Nat.le_refl _)).at_ hy
     have hyok := Lib.hid (And.intro hya (show ({ y with what := 1 } : ActD).ok from ⟨hya.o, hya.r, hya.i⟩))
     have hzA := Blk.new wr 49 Tryz.zeroCells49
     obtain ⟨acp, eacp⟩ : ∃ ac, ac = y.cells.toArray := ⟨_, rfl⟩
     obtain ⟨acp1, eacp1⟩ : ∃ ac, ac = ({ y with what := 1 } : ActD).cells.toArray := ⟨_, rfl⟩
     have HEA := Lib.hid eacp
     have HEB1 := Lib.hid eacp1
     have HEA1 := Lib.hid (show acp.setIfInBounds 0 (.int .i64 1) = acp1 by rw [eacp, eacp1]; rfl)
     have HAI := Lib.hid (show (Tryz.prog.info? 49).map (·.size) = some acp.size by rw [eacp]; exact act_info hya)
     have HAI1 := Lib.hid (show (Tryz.prog.info? 49).map (·.size) = some acp1.size by rw [eacp1]; exact act_info hyok.out.2)
     have HAZ := Lib.hid (show (Tryz.zeroCells49 : Array Value).size = acp.size by rw [eacp, show y.cells.toArray.size = 167 from by rw [List.size_toArray, ActD.len hya]]; kernel_rfl)
     have HAO := Lib.hid (show acp.all (·.oneCell') = true by rw [eacp]; exact act_ones y)
     have hac0 : acp[0]? = some (.int .i64 y.what) := by rw [eacp]; rfl
     obtain ⟨cl, ecl⟩ : ∃ cl, cl = y.cells := ⟨_, rfl⟩
     have hsl : (Tryz.prog.info? 49).map (·.size) = some cl.length := by rw [ecl, ActD.len hya]; kernel_rfl
     have hcl : cl.toArray = acp := by rw [ecl, eacp]
     rw [← ecl] at hrng
     have HCL := Lib.hid hcl
     clear hy eacp eacp1 ecl hya hcl
     go_upto_region 9 with (first
      | (refine wpList_load_mid rfl 49 _ rfl g (off + j * 167) rfl cl _ hrng Tryz.underlying49 rfl hsl ?_; rw [HCL.out])
      | (refine wpList_store_row rfl 49 _ _ rfl wr.heap.size acp rfl rfl 49 _ hzA HAI.out HAZ.out HAO.out ?_; rw [World.setRow_alloc_new]))
     obtain ⟨Yz, eYz⟩ : ∃ Z, Z = wr.alloc (.cells acp 49) := ⟨_, rfl⟩
     have hbYz : Below wr.heap.size wr Yz := by rw [eYz]; exact (Below.refl _ _).alloc (Nat.le_refl _) _
     have kA : Blk Yz wr.heap.size 49 acp := by rw [eYz]; exact Blk.new _ _ _
     rw [← eYz]
     clear eYz
     have cA := kA.cell_is 0 hac0
     have fA := kA.frozen 0
     by_cases hw : y.what = 0
     ·have hw0 := Lib.hid hw
      rw [hw] at cA
      clear hw hrng hsl hzA
      have HLB := Lib.hid (HL.out.below hbYz)
      have kB := kA
      have HAI2 := Lib.hid HAI.out
      go_upto_region 11 with fail
      clear kA cA fA hbYz
      have HA := act_run HLB.out.both HLB.out.ok (by omega) y hyok.out.1 (.inl hw0.out)
      have HAC := Lib.hid HA.1
      have HAK := Lib.hid HA.2
      rw [HLB.out.dp, HLB.out.cg] at HAC
      obtain ⟨acq, eac⟩ : ∃ ac, ac = (y).cells.toArray := ⟨_, rfl⟩
      obtain ⟨xq, exn⟩ : ∃ x2, x2 = (y).run x := ⟨_, rfl⟩
      rw [← eac, ← exn] at HAC
      rw [← exn] at HAK
      rw [← HEA.out] at eac
      subst eac
      have HSCq := Lib.hid (info_cache HLB.out.s7)
      have hGq := HLB.out.blk
      unfold ptr at HAC
      clear HA exn
      go_wp2_with (first
       | (refine wpList_load_row rfl 61 _ rfl G rfl 61 CV (0, 0) _ hGq Tryz.underlying61 rfl HSCq.out ?_)
       | (refine wpList_load_row rfl 49 _ rfl wr.heap.size rfl 49 acq (0, 0) _ kB Tryz.underlying49 rfl HAI2.out ?_))
      refine HAC.out.mono ?_; rintro e vq hpost
      obtain ⟨CVq, Cq, rfl, s72, one72, hkq, ho3, ho4, hL4⟩ := HLB.out.act hpost HAK.out
      have HIq := Lib.hid (info_cache s72)
      have HSq := Lib.hid s72
      have HZq := Lib.hid (HLB.out.s7.trans s72.symm)
      have HONq := Lib.hid one72
      have HLq_ := Lib.hid hL4
      clear hpost ho3 ho4 hL4 s72 one72 HAC HAK hGq
      go_wp2_with (refine wpList_store_row rfl 61 _ _ rfl G CVq rfl rfl 61 _ hkq HIq.out HZq.out HONq.out ?_)
      have HLq := Lib.hid HLq_.out
      clear HLq_ hkq
      exact ⟨⟨j + 1, by omega, rfl, by go_num, D, Cq, CVq, xq, by rw [show ((j + 1 : Nat) : Int) = (j : Int) + 1 by omega]; exact HLq.out⟩, by simp [intOf]; omega⟩
     ·have hwne : (y.what != 0) = true := by simpa using hw
      clear hw hrng hsl hzA
      obtain ⟨Yb, eYb⟩ : ∃ Z, Z = Yz.setCell ⟨wr.heap.size, 0, none⟩ (.int .i64 1) := ⟨_, rfl⟩
      have hoB : Out (fun i => i = wr.heap.size) Yz Yb := by rw [eYb]; exact out_set rfl
      have hbYb : Below wr.heap.size wr Yb := ((outB hbYz : Out (fun i => i = wr.heap.size) wr Yz).trans hoB (fun _ _ h => h)).below (Nat.le_refl _) (fun i hi e => by omega)
      have kB : Blk Yb wr.heap.size 49 (acp.setIfInBounds 0 (.int .i64 1)) := by rw [eYb]; exact kA.set_ 0 _
      have HLB := Lib.hid (HL.out.below hbYb)
      go_upto_region 11 with fail
      rw [← eYb]
      clear eYb hoB hbYb kA cA fA hbYz
      rw [HEA1.out] at kB
      have HA := act_run HLB.out.both HLB.out.ok (by omega) { y with what := 1 } hyok.out.2 (.inr (.inl rfl))
      have HAC := Lib.hid HA.1
      have HAK := Lib.hid HA.2
      rw [HLB.out.dp, HLB.out.cg] at HAC
      obtain ⟨acq, eac⟩ : ∃ ac, ac = ({ y with what := 1 }).cells.toArray := ⟨_, rfl⟩
      obtain ⟨xq, exn⟩ : ∃ x2, x2 = ({ y with what := 1 }).run x := ⟨_, rfl⟩
      rw [← eac, ← exn] at HAC
      rw [← exn] at HAK
      rw [← HEB1.out] at eac
      subst eac
      have HSCq := Lib.hid (info_cache HLB.out.s7)
      have hGq := HLB.out.blk
      unfold ptr at HAC
      clear HA exn
      go_wp2_with (first
       | (refine wpList_load_row rfl 61 _ rfl G rfl 61 CV (0, 0) _ hGq Tryz.underlying61 rfl HSCq.out ?_)
       | (refine wpList_load_row rfl 49 _ rfl wr.heap.size rfl 49 acq (0, 0) _ kB Tryz.underlying49 rfl HAI1.out ?_))
      refine HAC.out.mono ?_; rintro e vq hpost
      obtain ⟨CVq, Cq, rfl, s72, one72, hkq, ho3, ho4, hL4⟩ := HLB.out.act hpost HAK.out
      have HIq := Lib.hid (info_cache s72)
      have HSq := Lib.hid s72
      have HZq := Lib.hid (HLB.out.s7.trans s72.symm)
      have HONq := Lib.hid one72
      have HLq_ := Lib.hid hL4
      clear hpost ho3 ho4 hL4 s72 one72 HAC HAK hGq
      go_wp2_with (refine wpList_store_row rfl 61 _ _ rfl G CVq rfl rfl 61 _ hkq HIq.out HZq.out HONq.out ?_)
      have HLq := Lib.hid HLq_.out
      clear HLq_ hkq
      exact ⟨⟨j + 1, by omega, rfl, by go_num, D, Cq, CVq, xq, by rw [show ((j + 1 : Nat) : Int) = (j : Int) + 1 by omega]; exact HLq.out⟩, by simp [intOf]; omega⟩
    ·obtain rfl : j = puts.length := by omega
     have i2 : ¬ (puts.length : Int) < (puts.length : Int) := by omega
     obtain ⟨N0, eN0⟩ : ∃ N : Int, N = (puts.length : Int) := ⟨_, rfl⟩
     have HL0 := Lib.hid (show LInv w dp cg G wr D C CV x N0 from by rw [eN0]; exact HL.out)
     have hN0 : N0 ≤ 20 := by omega
     clear eN0 HL
     go_upto_region 12 with fail
     have HA := act_run HL0.out.both HL0.out.ok (by omega) (settleD17 oid sec) (settleD17_ok oid sec HSI.out) (.inr (.inr (.inr (.inl rfl))))
     have HAC := Lib.hid HA.1
     have HAK := Lib.hid HA.2
     rw [HL0.out.dp, HL0.out.cg] at HAC
     obtain ⟨acs, eac⟩ : ∃ ac, ac = ((settleD17 oid sec)).cells.toArray := ⟨_, rfl⟩
     obtain ⟨xs, exn⟩ : ∃ x2, x2 = ((settleD17 oid sec)).run x := ⟨_, rfl⟩
     rw [← eac, ← exn] at HAC
     rw [← exn] at HAK
     have HBS := Lib.hid (settleD17_built oid sec)
     rw [← eac] at HBS
     have HSCs := Lib.hid (info_cache HL0.out.s7)
     have hGs := HL0.out.blk
     unfold ptr at HAC
     clear HA eac exn
     go_wp2_with (first
      | (refine wpList_load_row rfl 61 _ rfl G rfl 61 CV (0, 0) _ hGs Tryz.underlying61 rfl HSCs.out ?_)
      | (refine wpList_buildL rfl 49 _ rfl acs HBS.out ?_))
     refine HAC.out.mono ?_; rintro e vs hpost
     obtain ⟨CVs, Cs, rfl, s72, one72, hks, ho3, ho4, hL4⟩ := HL0.out.act hpost HAK.out
     have HIs := Lib.hid (info_cache s72)
     have HSs := Lib.hid s72
     have HZs := Lib.hid (HL0.out.s7.trans s72.symm)
     have HONs := Lib.hid one72
     have HLs_ := Lib.hid hL4
     clear hpost ho3 ho4 hL4 s72 one72 HAC HAK hGs
     go_upto_region 13 with (refine wpList_store_row rfl 61 _ _ rfl G CVs rfl rfl 61 _ hks HIs.out HZs.out HONs.out ?_)
     obtain ⟨Ys, eY⟩ : ∃ Z, Z = vs.setRow G CVs := ⟨_, rfl⟩
     rw [← eY] at HLs_ ⊢
     have HLs := Lib.hid HLs_.out
     clear eY hks HLs_
     have HST := Lib.hid HLs.out.stands
     have hGs := HLs.out.blk
     unfold ptr at HST
     go_wp2_with (refine wpList_load_row rfl 61 _ rfl G rfl 61 CVs (0, 0) _ hGs Tryz.underlying61 rfl HIs.out ?_)
     refine HST.out.mono ?_; rintro e w5 ⟨rfl, hb5⟩
     have HL5 := Lib.hid (HLs.out.below hb5)
     clear hb5 HLs HST hGs
     have HA := act_run HL5.out.both HL5.out.ok (by omega) (moveD17 oid) (moveD17_ok oid) (.inr (.inr (.inr (.inr rfl))))
     have HAC := Lib.hid HA.1
     have HAK := Lib.hid HA.2
     rw [HL5.out.dp, HL5.out.cg] at HAC
     obtain ⟨acm, eac⟩ : ∃ ac, ac = ((moveD17 oid)).cells.toArray := ⟨_, rfl⟩
     obtain ⟨xm, exn⟩ : ∃ x2, x2 = ((moveD17 oid)).run xs := ⟨_, rfl⟩
     rw [← eac, ← exn] at HAC
     rw [← exn] at HAK
     have HBM := Lib.hid (moveD17_built oid)
     rw [← eac] at HBM
     have HSCm := Lib.hid (info_cache HL5.out.s7)
     have hGm := HL5.out.blk
     unfold ptr at HAC
     clear HA eac exn
     go_wp2_with (first
      | (refine wpList_load_row rfl 61 _ rfl G rfl 61 CVs (0, 0) _ hGm Tryz.underlying61 rfl HSCm.out ?_)
      | (refine wpList_buildL rfl 49 _ rfl acm HBM.out ?_))
     refine HAC.out.mono ?_; rintro e vm hpost
     obtain ⟨CVm, Cm, rfl, s72, one72, hkm, ho3, ho4, hL4⟩ := HL5.out.act hpost HAK.out
     have HIm := Lib.hid (info_cache s72)
     have HSm := Lib.hid s72
     have HZm := Lib.hid (HL5.out.s7.trans s72.symm)
     have HONm := Lib.hid one72
     have HLm_ := Lib.hid hL4
     clear hpost ho3 ho4 hL4 s72 one72 HAC HAK hGm
     go_upto_region 15 with (refine wpList_store_row rfl 61 _ _ rfl G CVm rfl rfl 61 _ hkm HIm.out HZm.out HONm.out ?_)
     obtain ⟨Ym, eY⟩ : ∃ Z, Z = vm.setRow G CVm := ⟨_, rfl⟩
     rw [← eY] at HLm_ ⊢
     have HLm := Lib.hid HLm_.out
     clear eY hkm HLm_
     have HST := Lib.hid HLm.out.stands
     have l7 := load_cacheV HSm.out HLm.out.blk
     unfold ptr at HST
     go_wp2_with (refine wpList_load_midG rfl 61 _ rfl G 0 rfl CVm l7 ?_)
     refine HST.out.mono ?_; rintro e w8 ⟨rfl, hb8⟩
     have HL8 := Lib.hid (HLm.out.below hb8)
     clear hb8 HLm HST l7
     go_wp2_with fail
     refine (works17_any _).mono ?_; rintro e wz ⟨rfl, hbz⟩
     go_wp2_with fail
     go_ret
     exact ⟨rfl, HL8.out.below0.trans (hbz.mono HL8.out.below0.size)⟩
  ·have g20 : (20 : Int) < (puts.length : Int) := by omega
   go_wp2_with fail
   refine (works17_any _).mono ?_; rintro e w2 ⟨rfl, hb2⟩
   go_wp2_with fail
   go_ret
   exact ⟨rfl, HB1.out.trans (hb2.mono HB1.out.size)⟩
end Go.Proofs.YtemcgfncahccgaaGreat
namespace Go.Proofs.YtemcgfncahccgaaGreat
open Go.ChangeShapes Go.WideShapes Go.ChangeAt Go.RowKit Go.Deep

section
variable {H : Type} {enc : TypeId × Value → H} {w : World} {n : Nat} {cs : List Value} {x : DataW H × List MemPlace}
set_option maxRecDepth 100000 in
theorem open_intI {r : Reach} {b0 : Nat} {v : Value} {d : DataW H} {p : List MemPlace} (hv : Value.okWide Tryz.prog w r b0 3 v) (h : DataW.Trod enc Tryz.prog w 0 (fun _ => true) true 3 v d p) : ∃ k, v = .int .i64 k ∧ I64 k := by
 obtain ⟨k, rfl, _, _, hw⟩ := open_int Tryz.underlying3 hv h
 have h1 := i64_lt hw
 exact ⟨k, rfl, by omega, by omega⟩
set_option maxRecDepth 100000 in
theorem act_trod (h : DataW.trod enc Tryz.prog w 0 (fun _ => true) true n 49 cs = some x) : ∃ a : ActD, a.ok ∧ cs = a.cells := by
 obtain ⟨xs, m, _, _, hlen, hxl, hg⟩ := DataW.trod_struct Tryz.underlying49 h
 have h167 : cs.length = 167 := hlen.trans (by kernel_rfl)
 have c0 : Tryz.prog.cellsOf 3 = 1 := by kernel_rfl
 have c3 : Tryz.prog.cellsOf 47 = 163 := by kernel_rfl
 have c4 : Tryz.prog.cellsOf 5 = 1 := by kernel_rfl
 have g0 : DataW.trod enc Tryz.prog w 0 (fun _ => true) true m 3 ((cs.drop 0).take (Tryz.prog.cellsOf 3)) = xs[0]? := hg 0 _ rfl
 have g1 : DataW.trod enc Tryz.prog w 0 (fun _ => true) true m 3 ((cs.drop 1).take (Tryz.prog.cellsOf 3)) = xs[1]? := hg 1 _ rfl
 have g2 : DataW.trod enc Tryz.prog w 0 (fun _ => true) true m 3 ((cs.drop 2).take (Tryz.prog.cellsOf 3)) = xs[2]? := hg 2 _ rfl
 have g3 : DataW.trod enc Tryz.prog w 0 (fun _ => true) true m 47 ((cs.drop 3).take (Tryz.prog.cellsOf 47)) = xs[3]? := hg 3 _ rfl
 have g4 : DataW.trod enc Tryz.prog w 0 (fun _ => true) true m 5 ((cs.drop 166).take (Tryz.prog.cellsOf 5)) = xs[4]? := hg 4 _ rfl
 have len : 5 = xs.length := by rw [hxl]; rfl
 have ex : ∀ i, i < 5 → ∃ y, xs[i]? = some y := fun i hi => ⟨_, List.getElem?_eq_getElem (by omega)⟩
 obtain ⟨y0, e0⟩ := ex 0 (by omega)
 obtain ⟨y1, e1⟩ := ex 1 (by omega)
 obtain ⟨y2, e2⟩ := ex 2 (by omega)
 obtain ⟨y3, e3⟩ := ex 3 (by omega)
 obtain ⟨y4, e4⟩ := ex 4 (by omega)
 rw [e0, c0] at g0
 rw [e1, c0] at g1
 rw [e2, c0] at g2
 rw [e3, c3] at g3
 rw [e4, c4] at g4
 obtain ⟨k0, p0, _⟩ := int_trod64 Tryz.underlying3 g0
 obtain ⟨k1, p1, _⟩ := int_trod64 Tryz.underlying3 g1
 obtain ⟨k2, p2, i2⟩ := int_trod64 Tryz.underlying3 g2
 obtain ⟨o, ⟨o1, o2, o3⟩, p3⟩ := obj_trod64 g3
 obtain ⟨c, p4⟩ := byte_trod g4
 refine ⟨⟨k0, k1, k2, o, c⟩, ⟨o1, o2, i2⟩, ?_⟩
 show cs = .int .i64 k0 :: .int .i64 k1 :: .int .i64 k2 :: (o.cells ++ [vu8 c])
 have t : ∀ (l : List Value) (k : Nat), l.take k ++ l.drop k = l := fun l k => List.take_append_drop k l
 have q4 : (cs.drop 166).take 1 = cs.drop 166 := List.take_of_length_le (by rw [List.length_drop, h167]; decide)
 have q3 := t (cs.drop 3) 163
 have q2 := t (cs.drop 2) 1
 have q1 := t (cs.drop 1) 1
 have q0 := t (cs.drop 0) 1
 rw [List.drop_drop] at q3 q2 q1 q0
 rw [p0] at q0
 rw [p1] at q1
 rw [p2] at q2
 rw [p3, show 3 + 163 = 166 from rfl, ← q4, p4] at q3
 rw [q3]
 refine q0.symm.trans ?_
 rw [show cs.drop (0 + 1) = cs.drop 1 from rfl, ← q1, show cs.drop (1 + 1) = cs.drop 2 from rfl, ← q2]
 rfl
set_option maxRecDepth 100000 in
theorem open_acts {r : Reach} {b0 : Nat} {v : Value} {d : DataW H} {p : List MemPlace} (hv : Value.okWide Tryz.prog w r b0 26 v) (h : DataW.Trod enc Tryz.prog w 0 (fun _ => true) true 26 v d p) : ∃ l, ActsIn w w.heap.size v l := by
 obtain ⟨a0, len0, cap0, rfl⟩ := okWide_slice Tryz.underlying26 hv
 obtain ⟨fuel, hf⟩ := h
 obtain ⟨A, len, cap, hcs, hm, hl, hi⟩ := row_els (C := 167) Tryz.underlying26 (by kernel_rfl) (by omega) hf
 obtain ⟨l, hll, hR⟩ := pick_list (fun i (o : ActD) => o.ok ∧ ∃ g off, A = some ⟨g, off, none⟩ ∧ g < w.heap.size ∧ w.rangeAt g (off + i * 167) o.cells) len (fun i hil => by
  obtain ⟨g, off, cs', m, y, e1, e2, e3, e4⟩ := hi i hil
  obtain ⟨o, ho, rfl⟩ := act_trod e4
  exact ⟨o, ho, g, off, e1, e2, e3⟩)
 subst hll
 have e : Value.slice a0 len0 cap0 = .slice A l.length cap := by simpa [Value.cells] using hcs
 exact ⟨l, hm, A, cap, e, hl, fun j o hj => hR j o hj⟩
end
end Go.Proofs.YtemcgfncahccgaaGreat
namespace Go.Proofs.YtemcgfncahccgaaGreat
open Go.ChangeShapes Go.WideShapes Go.ChangeAt Go.RowKit Go.Deep

set_option maxRecDepth 100000 in
theorem cacheSettles_lifted (os : Os) (started : os.Started) (H : Type) (enc : TypeId × Value → H) :
  ReturnsInHanded {} Tryz.checked os 9 .any (Rows.cacheSettlesSpec.pre6 enc Tryz.prog Tryz.f9 Rows.cacheSettlesRow.domain false) (Rows.cacheSettlesSpec.post enc Tryz.prog Tryz.f9 false true false false) := by
 refine returnsInHanded_of_change (C := Tryz.checked) own started (by kernel_rfl) Tryz.func9
  (ChangeSpec.witness6 (enc := enc) (C := Tryz.checked) false ⟨#[], #[.agg #[.slice none 0 0, .int .i64 0, .int .i64 0, .slice none 0 0], .slice none 0 0, .int .i64 0, .int .i64 0], []⟩ 8 (by kernel_rfl) (by kernel_rfl) (by kernel_rfl) (by kernel_rfl)) ?_
 intro W base args ds gs before hval0 hW hcnd _
 have hval : ∀ (j : Nat) t v, Tryz.f9.params[j]? = some t → args[j]? = some v → Value.okWide Tryz.prog W .any base t v := hval0
 have hW' := hW
 obtain ⟨p, q, hA0, hV, rfl, hfz, hnd⟩ := hW
 have hA : DataW.TrodAll enc Tryz.prog W 0 (fun _ => true) true Tryz.f9.params.toList args.toList ds p := hA0
 rw [Tryz.params9] at hA hval
 obtain ⟨v0, vs0, d0, ds0, p0, q0, hargs, rfl, rfl, h0, hA1⟩ := trodAll_cons hA
 obtain ⟨v1, vs1, d1, ds1, p1, q1, rfl, rfl, rfl, h1, hA2⟩ := trodAll_cons hA1
 obtain ⟨v2, vs2, d2, ds2, p2, q2, rfl, rfl, rfl, h2, hA3⟩ := trodAll_cons hA2
 obtain ⟨v3, vs3, d3, ds3, p3, q3, rfl, rfl, rfl, h3, hA4⟩ := trodAll_cons hA3
 obtain ⟨rfl, rfl, rfl⟩ : vs3 = [] ∧ ds3 = [] ∧ q3 = [] := by
  cases vs3 <;> cases ds3 <;> simp [DataW.TrodAll] at hA4
  exact ⟨rfl, rfl, hA4⟩
 obtain rfl : args = #[v0, v1, v2, v3] := Array.ext' hargs
 obtain ⟨rfl, rfl⟩ := trodVars_none hV
 obtain ⟨x, hx⟩ := open_world (hval 0 _ v0 rfl rfl) h0
 obtain ⟨l, hl⟩ := open_acts (hval 1 _ v1 rfl rfl) h1
 obtain ⟨oid, rfl, _⟩ := open_intI (hval 2 _ v2 rfl rfl) h2
 obtain ⟨sec, rfl, hsi⟩ := open_intI (hval 3 _ v3 rfl rfl) h3
 clear hA0 hval0
 refine (settles17_any x v0 v1 l oid sec W hx hl hsi).mono fun e W' ⟨he, hb⟩ => ?_
 subst he
 exact ⟨_, rfl, law_post laidOut (by rw [Tryz.params9]; intro t ht; simp at ht; rcases ht with rfl | rfl | rfl | rfl <;> exact ⟨by kernel_rfl, of_decide_eq_true (by kernel_rfl)⟩) rfl Tryz.underlying4 rfl hW' rfl hb⟩

theorem cacheSettles_holds : Rows.CacheSettlesSaid :=
 OpenClaim.holds_of_wide 9 Tryz.f9 rfl rfl rfl rfl rfl rfl rfl ⟨rfl, rfl, rfl, rfl, rfl⟩ rfl rfl rfl rfl rfl (by kernel_rfl) Tryz.func9 (by kernel_rfl)
  (of_decide_eq_true (by kernel_rfl)) (by unfold Func.isWrapper; first | (rw [if_pos (by decide +kernel)]; kernel_rfl) | (rw [if_neg (by decide +kernel)]; exact ⟨rfl, rfl⟩))
  (fun os started H enc _ => cacheSettles_lifted os started H enc)

end Go.Proofs.YtemcgfncahccgaaGreat
