/-
  The law CacheEvicts. (Written by gen_claw.py.)
  The law CacheSettles. (Written by gen_cset.py.)
  Opening numbers within 64 bits, an object, calls.
  The law CachePuts.
  CachePuts: for every input the law answers true, and its arguments read as they did; without conditions.
-/
import Derived.Test.YtemcgfncahccgaaGreatCa37
import Derived.Test.YtemcgfncahccgaaGreatCa38
set_option linter.unusedVariables false
set_option linter.unusedSimpArgs false
namespace Go.Proofs.YtemcgfncahccgaaGreat
open Go.RowKit Go.Shelf

end Go.Proofs.YtemcgfncahccgaaGreat
namespace Go.Proofs.YtemcgfncahccgaaGreat
open Go.RowKit Go.Shelf

/-- a slice of calls that is read -/
def ActsIn (W : World) (B : Nat) (v : Value) (l : List ActD) : Prop :=
 l.length ≤ maxLen ∧ ∃ a cap, v = .slice a l.length cap ∧ l.length ≤ cap ∧ ∀ j (o : ActD), l[j]? = some o → o.ok ∧ ∃ g off, a = some ⟨g, off, none⟩ ∧ g < B ∧ W.rangeAt g (off + j * 167) o.cells
theorem ActsIn.below {W W' : World} {B C : Nat} {v : Value} {l : List ActD} (h : ActsIn W B v l) (hb : Below C W W') (hC : B ≤ C) : ActsIn W' B v l := by
 obtain ⟨h1, a, cap, h2, h3, h4⟩ := h
 refine ⟨h1, a, cap, h2, h3, fun j o hj => ?_⟩
 obtain ⟨ho, g, off, e, hg, hr⟩ := h4 j o hj
 exact ⟨ho, g, off, e, hg, range_below hr hb (by omega)⟩
theorem ActsIn.at_ {W : World} {B : Nat} {a : Option Addr} {n c : Nat} {l : List ActD} (h : ActsIn W B (.slice a n c) l) {j : Nat} {x : ActD} (hx : l[j]? = some x) :
  x.ok ∧ ∃ g off, a = some ⟨g, off, none⟩ ∧ g < B ∧ W.rangeAt g (off + j * 167) x.cells := by
 obtain ⟨_, a', c', e, _, h4⟩ := h
 injection e with ea _ _
 subst ea
 exact h4 j x hx
end Go.Proofs.YtemcgfncahccgaaGreat
namespace Go.Proofs.YtemcgfncahccgaaGreat
open Go.ChangeShapes Go.WideShapes Go.ChangeAt Go.RowKit Go.Deep

section
variable {H : Type} {enc : TypeId × Value → H} {w : World} {n : Nat} {cs : List Value} {x : DataW H × List MemPlace}
set_option maxRecDepth 100000 in
theorem open_intI {r : Reach} {b0 : Nat} {v : Value} {d : DataW H} {p : List MemPlace} (hv : Value.okWide Tryz.prog w r b0 3 v) (h : DataW.Trod enc Tryz.prog w 0 (fun _ => true) true 3 v d p) : ∃ k, v = .int .i64 k ∧ I64 k := by
 obtain ⟨k, rfl, _, _, hw⟩ := open_int Tryz.underlying3 hv h
 have h1 := i64_lt hw
 exact ⟨k, rfl, by omega, by omega⟩
set_option maxRecDepth 100000 in
theorem open_obj {r : Reach} {b0 : Nat} {v : Value} {d : DataW H} {p : List MemPlace} (hv : Value.okWide Tryz.prog w r b0 47 v) (h : DataW.Trod enc Tryz.prog w 0 (fun _ => true) true 47 v d p) : ∃ o : ObjD, v = .agg o.cells.toArray ∧ o.ok ∧ rightsOk o ∧ ∀ x ∈ o.slots, I64 x.v := by
 obtain ⟨cs, rfl, hsz⟩ := okWide_struct Tryz.underlying47 hv
 obtain ⟨fuel, hf⟩ := h
 obtain ⟨o, ⟨h1, h2, h3⟩, he⟩ := obj_trod64 hf
 refine ⟨o, ?_, h1, h2, h3⟩
 rw [← he]
 rfl
end
end Go.Proofs.YtemcgfncahccgaaGreat
namespace Go.Proofs.YtemcgfncahccgaaGreat
open Go.RowKit Go.Shelf

def putD17 (oid : Int) (o : ObjD) : ActD := ⟨1, oid, 0, o, 0⟩
theorem putD17_ok (oid : Int) (o : ObjD) (ho : o.ok) (hr : rightsOk o) : (putD17 oid o).ok := ⟨ho, hr, by unfold I64; exact ⟨by show -9223372036854775808 ≤ (0 : Int); omega, by show (0 : Int) ≤ _; omega⟩⟩
theorem act_zero : ∃ i z, Tryz.prog.info? 49 = some i ∧ i.zero = some z ∧ z.cells.size = 167 ∧ z.cells[2]? = some (Value.int .i64 0) ∧ z.cells[166]? = some (vu8 0) := by
 have h : (Tryz.prog.info? 49).map (fun i => i.zero.map (fun z => (z.cells.size, z.cells[2]?, z.cells[166]?))) = some (some (167, some (Value.int .i64 0), some (vu8 0))) := by kernel_rfl
 obtain ⟨i, hi, he⟩ := Option.map_eq_some_iff.1 h
 obtain ⟨z, hz, h4⟩ := Option.map_eq_some_iff.1 he
 injection h4 with h4 h5
 injection h5 with h5 h6
 exact ⟨i, z, hi, hz, h4, h5, h6⟩
set_option maxRecDepth 100000 in
theorem putD17_built (oid : Int) (o : ObjD) (ho : o.ok) : Tryz.prog.built 49 [(0, .int .i64 1), (1, .int .i64 oid), (3, .agg o.cells.toArray)] = some (putD17 oid o).cells.toArray := by
 obtain ⟨i, z, hi, hz, h3, h2, h166⟩ := act_zero
 have hu := Tryz.underlying49
 have hol := ObjD.len ho
 unfold Program.built
 rw [hi, hu]
 simp only [hz]
 rw [show (List.mapM (fun f : Field => Option.map (fun i => (f.offset, i.size)) (Tryz.prog.info? f.type)) _ : Option (List (Nat × Nat))) = some [(0, 1), (1, 1), (2, 1), (3, 163), (166, 1)] from by kernel_rfl]
 simp only []
 have hd : z.cells.toList.length = 167 := by simpa using h3
 have h2' : z.cells.toList[2]? = some (Value.int .i64 0) := by simpa using h2
 have h166' : z.cells.toList[166]? = some (vu8 0) := by simpa using h166
 generalize z.cells = zc at *
 obtain ⟨oc, eoc⟩ : ∃ oc, oc = o.cells := ⟨_, rfl⟩
 have e1 : (putD17 oid o).cells = .int .i64 1 :: .int .i64 oid :: .int .i64 0 :: (oc ++ [vu8 0]) := by rw [eoc]; rfl
 rw [e1, ← eoc]
 rw [← eoc] at hol
 clear e1 eoc h2 h166 h3
 obtain ⟨zl, ezl⟩ : ∃ zl, zl = zc.toList := ⟨_, rfl⟩
 have hz : zc = zl.toArray := by rw [ezl]
 rw [← ezl] at hd h2' h166'
 subst hz
 obtain ⟨a, b, c, rest, rfl⟩ : ∃ a b c rest, zl = a :: b :: c :: rest := by
  match zl, hd with
  | a :: b :: c :: rest, _ => exact ⟨a, b, c, rest, rfl⟩
 have hc : c = Value.int .i64 0 := by simpa using h2'
 have hr : rest.length = 164 := by simpa using hd
 have hl : rest.drop 163 = [vu8 0] := by
  have h7 : rest[163]? = some (vu8 0) := by simpa using h166'
  rw [List.drop_eq_getElem_cons (by omega), List.drop_eq_nil_of_le (by omega)]
  rw [List.getElem?_eq_getElem (by omega)] at h7
  rw [Option.some.inj h7]
 subst hc
 rw [fill_part (off := 0) (size := 1) rfl rfl (by simp), fill_part (off := 1) (size := 1) rfl rfl (by simp [Value.cells]), fill_part (off := 3) (size := 163) rfl (by simpa [Value.cells] using hol) (by simp [Value.cells]; omega)]
 rw [fill_nil]
 apply congrArg some
 apply congrArg List.toArray
 simp only [Value.cells, List.take_zero, List.nil_append]
 show ([Value.int .i64 1, .int .i64 oid, .int .i64 0] ++ oc) ++ List.drop 163 rest = _
 rw [hl]
 simp
set_option maxRecDepth 100000 in
set_option maxHeartbeats 8000000 in
theorem puts17_any (x : WorldD) (v : Value) (oid : Int) (o : ObjD) (ho : o.ok) (hro : rightsOk o) (w : World) (hv : WArg w v x) :
  Calls Tryz.prog 6 #[v, .int .i64 oid, .agg o.cells.toArray] w fun e w' => e = .returned (.bool true) ∧ Below w.heap.size w w' := by
 obtain ⟨XV, rfl, sXV⟩ := hv.inn.agg
 have HV := Lib.hid hv
 have HSX := Lib.hid sXV
 have HBT := Lib.hid (putD17_built oid o ho)
 have HBG2 := Lib.hid (getD17_built oid)
 have HOK := Lib.hid (putD17_ok oid o ho hro)
 have HOI := Lib.hid (obj_info o ho)
 obtain ⟨oc, eoc⟩ : ∃ oc, oc = o.cells.toArray := ⟨_, rfl⟩
 rw [← eoc] at HBT HOI ⊢
 obtain ⟨W, eW⟩ : ∃ W, W = (w.alloc (.cells XV 25)).alloc (.cells oc 47) := ⟨_, rfl⟩
 have hbW : Below w.heap.size w W := by rw [eW]; exact ((Below.refl _ w).alloc (Nat.le_refl _) _).alloc (by simp) _
 have k0 : Blk W w.heap.size 25 XV := by rw [eW]; exact (Blk.new w _ _).alloc _
 have ko : Blk W (w.heap.size + 1) 47 oc := by rw [eW]; exact Blk.new2 w _ _ _
 have HSM := Lib.hid (small17_any x (.agg XV) W (hv.inn.up hbW))
 have HB := Lib.hid hbW
 clear hv sXV hbW eoc ho hro
 go_enter Tryz.func6, Tryz.ntmps6
 go_upto_region 1 with fail
 rw [← eW]
 clear eW
 go_wp2_with (refine wpList_load_row rfl 25 _ rfl w.heap.size rfl 25 XV (0, 0) _ k0 Tryz.underlying25 rfl HSX.out ?_)
 refine HSM.out.mono ?_; rintro e w1 ⟨rfl, hb1⟩
 have k1 := k0.below hb1 k0.lt
 have ko1 := ko.below hb1 ko.lt
 have HB1 := Lib.hid (HB.out.trans (hb1.mono HB.out.size))
 clear hb1 k0 ko
 cases hsm : smallW x
 ·go_wp2_with fail
  refine (works17_any _).mono ?_; rintro e w2 ⟨rfl, hb2⟩
  go_wp2_with fail
  go_ret
  exact ⟨rfl, HB1.out.trans (hb2.mono HB1.out.size)⟩
 ·obtain ⟨hfine, hr⟩ := smallW_fine hsm HV.out.ok HV.out.fi
  have HFI := Lib.hid hfine
  have HRO := Lib.hid hr
  clear hsm hfine hr
  have HBG := Lib.hid (begun17_any x HFI.out HRO.out (.agg XV) w1 (HV.out.inn.up HB1.out))
  go_upto_region 3 with fail
  go_wp2_with (refine wpList_load_row rfl 25 _ rfl w.heap.size rfl 25 XV (0, 0) _ k1 Tryz.underlying25 rfl HSX.out ?_)
  refine HBG.out.mono ?_; rintro e w2 ⟨D, C, cv, rfl, hb2, hlD, hlC, hlF, hbw2⟩
  obtain ⟨CV, rfl, s7, one7, st7⟩ := hb2.ref.agg
  have HI7 := Lib.hid (info_cache s7)
  have hzc := Blk.new w2 61 zeroC
  have HZ7 := Lib.hid (show zeroC.size = CV.size from s7.symm)
  have HON := Lib.hid one7
  have hw01 := HB1.out.size
  have HB2 := Lib.hid (HB1.out.trans (hbw2.mono HB1.out.size))
  have ko2 := ko1.below hbw2 ko1.lt
  have HLI := Lib.hid (show LInv w D.p C.g w2.heap.size (w2.alloc (.cells CV 61)) D C CV (start17 x) 0 from
   ⟨rfl, rfl, hb2.below ((Below.refl _ w2).alloc (Nat.le_refl _) _), start_ok HFI.out HRO.out.1, Blk.new _ _ _, fun i hi => hi.elim (fun h => by have := hlD i h; omega) (fun h => by have := hlC i h; omega), fun h => by have := hb2.disk.has_lt _ h; omega, fun h => by have := hb2.cache.has_lt _ h; omega, fun h => by have := (hb2.far _ h).1; omega, s7, one7, HB2.out.size, outB (HB2.out.alloc HB2.out.size _)⟩)
  have HNO := Lib.hid (show ¬ (D.has (w.heap.size + 1) ∨ C.own (w.heap.size + 1)) from fun h => by
   have hlo := ko1.lt
   rcases h with h | h
   ·have := hlD _ h; omega
   ·have := hlC _ (.inl h); omega)
  have hlo2 := ko2.lt
  unfold ptr
  clear hb2 hlD hlC hlF hbw2 s7 one7 st7 HBG k1
  go_upto_region 4 with (refine wpList_store_row rfl 61 _ _ rfl w2.heap.size CV rfl rfl 61 _ hzc HI7.out HZ7.out HON.out ?_; rw [World.setRow_alloc_new])
  obtain ⟨Z, eZ⟩ : ∃ Z, Z = w2.alloc (.cells CV 61) := ⟨_, rfl⟩
  have koZ : Blk Z (w.heap.size + 1) 47 oc := by rw [eZ]; exact ko2.alloc _
  rw [← eZ] at HLI ⊢
  clear eZ hzc ko1 ko2
  obtain ⟨dp, edp⟩ : ∃ dp, dp = D.p := ⟨_, rfl⟩
  obtain ⟨cg, ecg⟩ : ∃ cg, cg = C.g := ⟨_, rfl⟩
  obtain ⟨G, eG⟩ : ∃ G, G = w2.heap.size := ⟨_, rfl⟩
  have hGo : w.heap.size + 1 ≠ G := by omega
  rw [← edp, ← ecg, ← eG] at HLI
  rw [← edp, ← ecg, ← eG]
  clear edp ecg eG HZ7 HON HI7
  -- the put
  have HA := act_run HLI.out.both HLI.out.ok (by omega) (putD17 oid o) HOK.out (.inr (.inl rfl))
  have HAC := Lib.hid HA.1
  have HAK := Lib.hid HA.2
  rw [HLI.out.dp, HLI.out.cg] at HAC
  obtain ⟨ac, eac⟩ : ∃ ac, ac = (putD17 oid o).cells.toArray := ⟨_, rfl⟩
  obtain ⟨x2, ex2⟩ : ∃ x2, x2 = (putD17 oid o).run (start17 x) := ⟨_, rfl⟩
  rw [← eac, ← ex2] at HAC
  rw [← eac] at HBT
  rw [← ex2] at HAK
  have HSC := Lib.hid (info_cache HLI.out.s7)
  have hGb := HLI.out.blk
  unfold ptr at HAC
  clear HA eac ex2 HOK
  go_wp2_with (first
   | (refine wpList_load_row rfl 61 _ rfl G rfl 61 CV (0, 0) _ hGb Tryz.underlying61 rfl HSC.out ?_)
   | (refine wpList_load_row rfl 47 _ rfl (w.heap.size + 1) rfl 47 oc (0, 0) _ koZ Tryz.underlying47 rfl HOI.out ?_)
   | (refine wpList_buildL rfl 49 _ rfl ac HBT.out ?_))
  refine HAC.out.mono ?_; rintro e w3 hpost
  obtain ⟨CV2, C2, rfl, s72, one72, hk3, ho3, ho4, hL4⟩ := HLI.out.act hpost HAK.out
  have HI72 := Lib.hid (info_cache s72)
  have HZ72 := Lib.hid (HLI.out.s7.trans s72.symm)
  have HON2 := Lib.hid one72
  have HL4 := Lib.hid hL4
  clear hpost ho3 ho4 hL4 s72 one72 HAC HAK HBT hGb koZ HNO
  go_upto_region 5 with (refine wpList_store_row rfl 61 _ _ rfl G CV2 rfl rfl 61 _ hk3 HI72.out HZ72.out HON2.out ?_)
  obtain ⟨Z4, eZ4⟩ : ∃ Z, Z = w3.setRow G CV2 := ⟨_, rfl⟩
  rw [← eZ4] at HL4 ⊢
  clear eZ4 hk3
  have HST := Lib.hid HL4.out.stands
  have hG4 := HL4.out.blk
  unfold ptr at HST
  go_wp2_with (refine wpList_load_row rfl 61 _ rfl G rfl 61 CV2 (0, 0) _ hG4 Tryz.underlying61 rfl HI72.out ?_)
  refine HST.out.mono ?_; rintro e w5 ⟨rfl, hb5⟩
  have HL5 := Lib.hid (HL4.out.below hb5)
  clear hb5 HL4 HST hG4
  -- the get
  have HA := act_run HL5.out.both HL5.out.ok (by omega) (getD17 oid) (getD17_ok oid) (.inl rfl)
  have HAC := Lib.hid HA.1
  have HAK := Lib.hid HA.2
  rw [HL5.out.dp, HL5.out.cg] at HAC
  obtain ⟨ac2, eac⟩ : ∃ ac, ac = (getD17 oid).cells.toArray := ⟨_, rfl⟩
  obtain ⟨x3, ex3⟩ : ∃ x3, x3 = (getD17 oid).run x2 := ⟨_, rfl⟩
  rw [← eac, ← ex3] at HAC
  rw [← eac] at HBG2
  rw [← ex3] at HAK
  have hG5 := HL5.out.blk
  unfold ptr at HAC
  clear HA eac ex3
  go_wp2_with (first
   | (refine wpList_load_row rfl 61 _ rfl G rfl 61 CV2 (0, 0) _ hG5 Tryz.underlying61 rfl HI72.out ?_)
   | (refine wpList_buildL rfl 49 _ rfl ac2 HBG2.out ?_))
  refine HAC.out.mono ?_; rintro e w6 hpost
  obtain ⟨CV3, C3, rfl, s73, one73, hk6, ho6, ho7, hL7⟩ := HL5.out.act hpost HAK.out
  have HI73 := Lib.hid (info_cache s73)
  have HS73 := Lib.hid s73
  have HZ73 := Lib.hid (HL5.out.s7.trans s73.symm)
  have HON3 := Lib.hid one73
  have HL7 := Lib.hid hL7
  clear hpost ho6 ho7 hL7 s73 one73 HAC HAK HBG2 hG5 HL5
  go_upto_region 7 with (refine wpList_store_row rfl 61 _ _ rfl G CV3 rfl rfl 61 _ hk6 HI73.out HZ73.out HON3.out ?_)
  obtain ⟨Z7, eZ7⟩ : ∃ Z, Z = w6.setRow G CV3 := ⟨_, rfl⟩
  rw [← eZ7] at HL7 ⊢
  clear eZ7 hk6
  have HST := Lib.hid HL7.out.stands
  have l7 := load_cacheV HS73.out HL7.out.blk
  unfold ptr at HST
  go_wp2_with (refine wpList_load_midG rfl 61 _ rfl G 0 rfl CV3 l7 ?_)
  refine HST.out.mono ?_; rintro e w8 ⟨rfl, hb8⟩
  have HL8 := Lib.hid (HL7.out.below hb8)
  clear hb8 HL7 HST l7
  go_wp2_with fail
  refine (works17_any _).mono ?_; rintro e wz ⟨rfl, hbz⟩
  go_wp2_with fail
  go_ret
  exact ⟨rfl, HL8.out.below0.trans (hbz.mono HL8.out.below0.size)⟩
end Go.Proofs.YtemcgfncahccgaaGreat
namespace Go.Proofs.YtemcgfncahccgaaGreat
open Go.ChangeShapes Go.WideShapes Go.ChangeAt Go.RowKit Go.Deep

set_option maxRecDepth 100000 in
theorem cachePuts_lifted (os : Os) (started : os.Started) (H : Type) (enc : TypeId × Value → H) :
  ReturnsInHanded {} Tryz.checked os 6 .any (Rows.cachePutsSpec.pre6 enc Tryz.prog Tryz.f6 Rows.cachePutsRow.domain false) (Rows.cachePutsSpec.post enc Tryz.prog Tryz.f6 false true false false) := by
 refine returnsInHanded_of_change (C := Tryz.checked) own started (by kernel_rfl) Tryz.func6
  (ChangeSpec.witness6 (enc := enc) (C := Tryz.checked) false ⟨#[], #[.agg #[.slice none 0 0, .int .i64 0, .int .i64 0, .slice none 0 0], .int .i64 0, .agg objZ.cells.toArray], []⟩ 8 (by kernel_rfl) (by kernel_rfl) (by kernel_rfl) (by kernel_rfl)) ?_
 intro W base args ds gs before hval0 hW hcnd _
 have hval : ∀ (j : Nat) t v, Tryz.f6.params[j]? = some t → args[j]? = some v → Value.okWide Tryz.prog W .any base t v := hval0
 have hW' := hW
 obtain ⟨p, q, hA0, hV, rfl, hfz, hnd⟩ := hW
 have hA : DataW.TrodAll enc Tryz.prog W 0 (fun _ => true) true Tryz.f6.params.toList args.toList ds p := hA0
 rw [Tryz.params6] at hA hval
 obtain ⟨v0, vs0, d0, ds0, p0, q0, hargs, rfl, rfl, h0, hA1⟩ := trodAll_cons hA
 obtain ⟨v1, vs1, d1, ds1, p1, q1, rfl, rfl, rfl, h1, hA2⟩ := trodAll_cons hA1
 obtain ⟨v2, vs2, d2, ds2, p2, q2, rfl, rfl, rfl, h2, hA3⟩ := trodAll_cons hA2
 obtain ⟨rfl, rfl, rfl⟩ : vs2 = [] ∧ ds2 = [] ∧ q2 = [] := by
  cases vs2 <;> cases ds2 <;> simp [DataW.TrodAll] at hA3
  exact ⟨rfl, rfl, hA3⟩
 obtain rfl : args = #[v0, v1, v2] := Array.ext' hargs
 obtain ⟨rfl, rfl⟩ := trodVars_none hV
 obtain ⟨x, hx⟩ := open_world (hval 0 _ v0 rfl rfl) h0
 obtain ⟨oid, rfl, _⟩ := open_intI (hval 1 _ v1 rfl rfl) h1
 obtain ⟨o, rfl, ho, hro, _⟩ := open_obj (hval 2 _ v2 rfl rfl) h2
 clear hA0 hval0
 refine (puts17_any x v0 oid o ho hro W hx).mono fun e W' ⟨he, hb⟩ => ?_
 subst he
 exact ⟨_, rfl, law_post laidOut (by rw [Tryz.params6]; intro t ht; simp at ht; rcases ht with rfl | rfl | rfl <;> exact ⟨by kernel_rfl, of_decide_eq_true (by kernel_rfl)⟩) rfl Tryz.underlying4 rfl hW' rfl hb⟩

theorem cachePuts_holds : Rows.CachePutsSaid :=
 OpenClaim.holds_of_wide 6 Tryz.f6 rfl rfl rfl rfl rfl rfl rfl ⟨rfl, rfl, rfl, rfl, rfl⟩ rfl rfl rfl rfl rfl (by kernel_rfl) Tryz.func6 (by kernel_rfl)
  (of_decide_eq_true (by kernel_rfl)) (by unfold Func.isWrapper; first | (rw [if_pos (by decide +kernel)]; kernel_rfl) | (rw [if_neg (by decide +kernel)]; exact ⟨rfl, rfl⟩))
  (fun os started H enc _ => cachePuts_lifted os started H enc)

end Go.Proofs.YtemcgfncahccgaaGreat
