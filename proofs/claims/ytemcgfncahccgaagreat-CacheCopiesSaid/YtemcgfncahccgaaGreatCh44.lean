/-
  The law CacheCopies.
  CacheCopies: for every input the law answers true, and its arguments read as they did; without conditions.
-/
import Derived.Test.YtemcgfncahccgaaGreatCh39
import Derived.Test.YtemcgfncahccgaaGreatCh40
import Derived.Test.YtemcgfncahccgaaGreatCh42
import Derived.Test.YtemcgfncahccgaaGreatCh43
set_option linter.unusedVariables false
set_option linter.unusedSimpArgs false
namespace Go.Proofs.YtemcgfncahccgaaGreat
open Go.RowKit Go.Shelf

theorem zeroA17_built : Tryz.prog.built 49 [] = some (getD17 0).cells.toArray := by kernel_rfl
set_option maxRecDepth 100000 in
set_option maxHeartbeats 8000000 in
theorem copies17_any (x : WorldD) (v vo : Value) (acts : List ActD) (xa : ActD) (hxa : xa.ok) (w : World) (hv : WArg w v x) (ho : ActsIn w w.heap.size vo acts) :
  Calls Tryz.prog 10 #[v, vo, .agg xa.cells.toArray] w fun e w' => e = .returned (.bool true) ∧ Below w.heap.size w w' := by
 obtain ⟨XV, rfl, sXV⟩ := hv.inn.agg
 have HV := Lib.hid hv
 have HO := Lib.hid ho
 obtain ⟨-, ao, co, rfl, -, -⟩ := ho
 have HSX := Lib.hid sXV
 have HXA := Lib.hid hxa
 have HAI := Lib.hid (act_info hxa)
 obtain ⟨ac, eac⟩ : ∃ ac, ac = xa.cells.toArray := ⟨_, rfl⟩
 rw [← eac] at HAI ⊢
 have HEA := Lib.hid eac
 obtain ⟨W, eW⟩ : ∃ W, W = (w.alloc (.cells XV 25)).alloc (.cells ac 49) := ⟨_, rfl⟩
 have hbW : Below w.heap.size w W := by rw [eW]; exact ((Below.refl _ w).alloc (Nat.le_refl _) _).alloc (by simp) _
 have k0 : Blk W w.heap.size 25 XV := by rw [eW]; exact (Blk.new w _ _).alloc _
 have ka : Blk W (w.heap.size + 1) 49 ac := by rw [eW]; exact Blk.new2 w _ _ _
 have HSM := Lib.hid (small17_any x (.agg XV) W (hv.inn.up hbW))
 have HB := Lib.hid hbW
 clear hv sXV hbW eac hxa
 go_enter Tryz.func10, Tryz.ntmps10
 go_upto_region 1 with fail
 rw [← eW]
 clear eW
 go_wp2_with (refine wpList_load_row rfl 25 _ rfl w.heap.size rfl 25 XV (0, 0) _ k0 Tryz.underlying25 rfl HSX.out ?_)
 refine HSM.out.mono ?_; rintro e w1 ⟨rfl, hb1⟩
 have k1 := k0.below hb1 k0.lt
 have ka1 := ka.below hb1 ka.lt
 have HB1 := Lib.hid (HB.out.trans (hb1.mono HB.out.size))
 clear hb1 k0 ka
 cases hsm : smallW x
 ·go_wp2_with fail
  refine (works17_any _).mono ?_; rintro e w2 ⟨rfl, hb2⟩
  go_wp2_with fail
  go_ret
  exact ⟨rfl, HB1.out.trans (hb2.mono HB1.out.size)⟩
 ·obtain ⟨hfine, hr⟩ := smallW_fine hsm HV.out.ok HV.out.fi
  have HFI := Lib.hid hfine
  have HRO := Lib.hid hr
  clear hsm hfine hr
  by_cases h40 : acts.length ≤ 40
  ·have g40 : ¬ (40 : Int) < (acts.length : Int) := by omega
   have HBG := Lib.hid (begun17_any x HFI.out HRO.out (.agg XV) w1 (HV.out.inn.up HB1.out))
   go_upto_region 3 with fail
   clear g40
   go_wp2_with (refine wpList_load_row rfl 25 _ rfl w.heap.size rfl 25 XV (0, 0) _ k1 Tryz.underlying25 rfl HSX.out ?_)
   refine HBG.out.mono ?_; rintro e w2 ⟨D, C, cv, rfl, hb2, hlD, hlC, hlF, hbw2⟩
   obtain ⟨CV, rfl, s7, one7, st7⟩ := hb2.ref.agg
   have HI7 := Lib.hid (info_cache s7)
   have hzc := Blk.new w2 61 zeroC
   have HZ7 := Lib.hid (show zeroC.size = CV.size from s7.symm)
   have HON := Lib.hid one7
   have HBW2 := Lib.hid hbw2
   have HLI := Lib.hid (show LInv w1 D.p C.g w2.heap.size (w2.alloc (.cells CV 61)) D C CV (start17 x) 0 from
    ⟨rfl, rfl, hb2.below ((Below.refl _ w2).alloc (Nat.le_refl _) _), start_ok HFI.out HRO.out.1, Blk.new _ _ _, fun i hi => hi.elim (hlD i) (hlC i), fun h => by have := hb2.disk.has_lt _ h; omega, fun h => by have := hb2.cache.has_lt _ h; omega, fun h => by have := (hb2.far _ h).1; omega, s7, one7, HBW2.out.size, outB (HBW2.out.alloc HBW2.out.size _)⟩)
   unfold ptr
   clear hb2 hlD hlC hlF hbw2 s7 one7 st7 HBG k1
   go_upto_region 4 with (refine wpList_store_row rfl 61 _ _ rfl w2.heap.size CV rfl rfl 61 _ hzc HI7.out HZ7.out HON.out ?_; rw [World.setRow_alloc_new])
   obtain ⟨Z, eZ⟩ : ∃ Z, Z = w2.alloc (.cells CV 61) := ⟨_, rfl⟩
   rw [← eZ] at HLI ⊢
   clear eZ hzc
   obtain ⟨dp, edp⟩ : ∃ dp, dp = D.p := ⟨_, rfl⟩
   obtain ⟨cg, ecg⟩ : ∃ cg, cg = C.g := ⟨_, rfl⟩
   obtain ⟨G, eG⟩ : ∃ G, G = w2.heap.size := ⟨_, rfl⟩
   rw [← edp, ← ecg, ← eG] at HLI
   rw [← edp, ← ecg, ← eG]
   have HOA := Lib.hid (HO.out.below HB1.out (Nat.le_refl _))
   have HW1 := Lib.hid HB1.out.size
   clear edp ecg eG HZ7 HON HI7
   go_wp2_with fail
   go_loopw [10, 11] (fun b i wr => ∃ j : Nat, j ≤ acts.length ∧ b = .bool true ∧ i = .int .i64 j ∧ ∃ D C CV x, LInv w1 dp cg G wr D C CV x (j : Int)) (fun _ i _ => acts.length - (intOf i).toNat)
   case atStart => exact ⟨0, by omega, rfl, rfl, _, _, _, _, HLI.out⟩
   case round =>
    obtain ⟨j, hj, rfl, rfl, D, C, CV, x, hL⟩ := hrel
    have HL := Lib.hid hL
    have hGb := hL.blk
    clear hL
    by_cases hlt : j < acts.length
    ·have i2 : (j : Int) < (acts.length : Int) := by omega
     obtain ⟨y, hy⟩ : ∃ y, acts[j]? = some y := ⟨_, List.getElem?_eq_getElem hlt⟩
     obtain ⟨hya, g, off, rfl, hg, hrng⟩ := (HOA.out.below (HL.out.below0.mono HW1.out) (Nat.le_refl _)).at_ hy
     have HA := act_all HL.out.drew.both HL.out.ok (by omega) y hya
     have HAC := Lib.hid HA.1
     have HAK := Lib.hid HA.2
     rw [HL.out.dp, HL.out.cg] at HAC
     obtain ⟨cl, ecl⟩ : ∃ cl, cl = y.cells := ⟨_, rfl⟩
     have hsl : (Tryz.prog.info? 49).map (·.size) = some cl.length := by rw [ecl, ActD.len hya]; kernel_rfl
     obtain ⟨x2, ex2⟩ : ∃ x2, x2 = y.run2 x := ⟨_, rfl⟩
     rw [← ecl, ← ex2] at HAC
     rw [← ecl] at hrng
     rw [← ex2] at HAK
     have HSC := Lib.hid (info_cache HL.out.s7)
     have hgl := HL.out.low_ g (Nat.lt_of_lt_of_le hg HW1.out)
     unfold ptr at HAC
     clear hy HA ecl ex2 hya
     go_upto_region 7 with fail
     refine jb (fun X => Out (fun i => D.has i ∨ C.own i ∨ i = G) wr X) (fun X => Blk X G 61 CV) 7 (outB (Below.refl _ _).drew) hGb.drew fun hHeld hJ => ?_
     refine jk false 0 ?_
     refine jk false 1 ?_
     refine jy true 2 rfl (yieldsIf_load_mid (by rfl) 61 _ rfl G 0 rfl CV.toList _ (fun w' h => blk_range (h.2 rfl)) Tryz.underlying61 rfl (by simpa using HSC.out)) ?_
     refine jk false 3 ?_
     refine jk false 4 ?_
     refine jk false 5 ?_
     refine jy false 6 rfl (yieldsIf_load_mid (by rfl) 49 _ rfl g (off + j * 167) rfl cl _ (fun w' h i v hi => h.1.cell (hrng i v hi) hgl) Tryz.underlying49 rfl hsl) ?_
     refine jr 7 fun K hK => ?_
     go_simp
     refine HAC.out.mono ?_; rintro e w3 hpost
     obtain ⟨CV2, C2, rfl, s72, one72, hk3, ho3, ho4, hL4⟩ := HL.out.drew.act hpost HAK.out
     dsimp only
     have hoX : Out (fun i => D.has i ∨ C.own i ∨ i = G) wr w3 := hHeld.trans ho3 (fun i _ h => h.elim .inl (fun h => .inr (.inl h)))
     refine hK.out _ _ ⟨hoX, fun h => absurd h (by decide)⟩ ?_
     clear hK K hHeld hJ hpost
     have hHeld := hoX
     refine jk false 8 ?_
     refine jk false 9 ?_
     refine jk false 10 ?_
     refine jr 11 fun K hK => ?_
     rw [if_pos (show Region.wanted _ _ = true from rfl)]
     refine wp_store_row 61 _ _ rfl G CV2 rfl rfl 61 _ hk3 (info_cache s72) (HL.out.s7.trans s72.symm) one72 ?_
     have hoY := hoX.trans ho4 (fun i _ h => .inr (.inr h))
     refine hK.out _ _ ⟨hoY, fun h => absurd h (by decide)⟩ ?_
     clear hK K hHeld
     have hHeld := hoY
     refine jk false 12 ?_
     refine wpAnyJ_done (by kernel_rfl) ?_ _
     have HL4 := Lib.hid hL4
     obtain ⟨Z4, eZ4⟩ : ∃ Z, Z = w3.setRow G CV2 := ⟨_, rfl⟩
     rw [← eZ4] at HL4 ⊢
     clear hHeld hoY hoX ho3 ho4 hk3 s72 one72 hL4 HAC HAK HSC hgl eZ4 hrng hsl hGb
     go_wp2_with fail
     exact ⟨⟨j + 1, by omega, rfl, by go_num, D, C2, CV2, x2, by rw [show ((j + 1 : Nat) : Int) = (j : Int) + 1 by omega]; exact HL4.out⟩, by simp [intOf]; omega⟩
    ·obtain rfl : j = acts.length := by omega
     have i2 : ¬ (acts.length : Int) < (acts.length : Int) := by omega
     obtain ⟨k, ek⟩ : ∃ k : Int, k = (acts.length : Int) := ⟨_, rfl⟩
     have HK := Lib.hid (show k ≤ 40 by omega)
     have HLk := Lib.hid (show LInv w1 dp cg G wr D C CV x k from by rw [ek]; exact HL.out)
     have HDC := Lib.hid (dcopy_any D x.disk wr HL.out.both.disk HL.out.ok.disk)
     rw [HL.out.dp] at HDC
     unfold ptr at HDC
     clear HL ek hj hlt
     go_upto_region 8 with fail
     go_wp2_with fail
     refine HDC.out.mono ?_; rintro e wd ⟨D2, rfl, hd2, hd2lo, hbd⟩
     have HD2 := Lib.hid (And.intro hd2 (And.intro hd2lo hbd))
     have HCC := Lib.hid (copyc_any C x.room x.places (oidsOf x.hand) (itemOf x.hand) D2 x.disk wd (HLk.out.below hbd).both.cache hd2 HLk.out.ok.disk (by have := HLk.out.ok.len; omega) (by rw [oids_len]; have := hand_len HLk.out.ok.hand; have := HLk.out.ok.len; unfold CacheD.n at *; omega))
     rw [HLk.out.cg] at HCC
     unfold ptr at HCC
     clear hd2 hd2lo hbd
     go_wp2_with fail
     refine HCC.out.mono ?_; rintro e w3 ⟨C2, rfl, hdp2, hc2, hc2lo, hbc⟩
     obtain ⟨hd2, hd2lo, hbd⟩ := HD2.out
     have hb03 : Below wr.heap.size wr w3 := hbd.trans (hbc.mono hbd.size)
     have L3 := Lib.hid (HLk.out.below hb03)
     have hs0d := hbd.size
     have hs03 := hb03.size
     have hbo2 : Both w3 D2 C2 (.agg CV) x := ⟨hd2.below hbc, hc2, hdp2, L3.out.both.ref, fun i hd hc => by have h1 := hd2.has_lt i hd; have h2 := hc2lo i hc; omega, fun g hg => by
      have h1 := (HLk.out.both.far g hg).1
      exact ⟨by omega, fun h => by have := hc2lo g (.inl h); omega, fun h => by have := hd2lo g h; omega⟩⟩
     have HB2' := Lib.hid hbo2
     have HLO := Lib.hid (show (∀ i, D2.has i ∨ C2.has i → wr.heap.size ≤ i ∧ i < w3.heap.size) ∧ ∀ i, D.has i ∨ C.has i → i < wr.heap.size from ⟨fun i hi => by
      rcases hi with hi | hi
      ·have h1 := hd2lo i hi; have h2 := hbo2.disk.has_lt i hi; exact ⟨h1, h2⟩
      ·have h1 := hc2lo i hi; have h2 := hbo2.cache.has_lt i hi; exact ⟨by omega, h2⟩, fun i hi => hi.elim (HLk.out.both.disk.has_lt i) (HLk.out.both.cache.has_lt i)⟩)
     have kG := L3.out.blk
     have kA := ka1.below (L3.out.below0) ka1.lt
     have HSC := Lib.hid (info_cache L3.out.s7)
     have HA := act_all L3.out.both L3.out.ok (by have := HK.out; omega) xa HXA.out
     have HAC := Lib.hid HA.1
     have HAK := Lib.hid HA.2
     rw [L3.out.dp, L3.out.cg, ← HEA.out] at HAC
     obtain ⟨xn, exn⟩ : ∃ x2, x2 = xa.run2 x := ⟨_, rfl⟩
     rw [← exn] at HAC HAK
     unfold ptr at HAC
     have HBW3 := Lib.hid (L3.out.below0)
     have hGlt := kG.lt
     have HGN := Lib.hid (show ¬ (D.has G ∨ C.own G) from fun h => h.elim L3.out.nd (fun h => L3.out.nc (.inl h)))
     have HAN := Lib.hid (show ¬ (D.has (w.heap.size + 1) ∨ C.own (w.heap.size + 1)) from fun h => by
      have h1 := ka1.lt
      rcases h with h | h
      ·have := L3.out.low _ (.inl h); omega
      ·have := L3.out.low _ (.inr (.inl h)); omega)
     clear hd2 hd2lo hbd hb03 hs0d hs03 hbo2 hdp2 hc2 hc2lo hbc HA exn HD2 ka1
     go_wp2_with (first
      | (refine wpList_load_row rfl 61 _ rfl G rfl 61 CV (0, 0) _ kG Tryz.underlying61 rfl HSC.out ?_)
      | (refine wpList_load_row rfl 49 _ rfl (w.heap.size + 1) rfl 49 ac (0, 0) _ kA Tryz.underlying49 rfl HAI.out ?_)
      | fail)
     refine HAC.out.mono ?_; rintro e w4 ⟨cvn, Cn, rfl, hbn, hsn, hcn⟩
     obtain ⟨CVn, rfl, s7n, one7n, st7n⟩ := hbn.ref.agg
     have HIn := Lib.hid (info_cache s7n)
     have HSn := Lib.hid s7n
     have HZn := Lib.hid (show zeroC.size = CVn.size from s7n.symm)
     have HON := Lib.hid one7n
     have kG4 := hsn.out.blk kG HGN.out
     have hs34 := hsn.out.size
     have HN := Lib.hid (And.intro hbn (And.intro hsn hcn))
     have hzn := Blk.new w4 61 zeroC
     clear hbn hsn hcn s7n one7n st7n kG kA HAC
     go_upto_region 11 with (first
      | (refine wpList_store_row rfl 61 _ _ rfl w4.heap.size CVn rfl rfl 61 _ hzn HIn.out HZn.out HON.out ?_; rw [World.setRow_alloc_new])
      | fail)
     obtain ⟨w5, e5⟩ : ∃ w5, w5 = w4.alloc (.cells CVn 61) := ⟨_, rfl⟩
     have hb5 : Below w4.heap.size w4 w5 := by rw [e5]; exact (Below.refl _ _).alloc (Nat.le_refl _) _
     have kn5 : Blk w5 w4.heap.size 61 CVn := by rw [e5]; exact Blk.new _ _ _
     rw [← e5]
     have hs45 : w5.heap.size = w4.heap.size + 1 := by rw [e5]; simp
     clear e5 hzn
     have kG5 := kG4.below hb5 kG4.lt
     have HB5 := Lib.hid hb5
     obtain ⟨hbn, hsn, hcn⟩ := HN.out
     have hb25 : Both w5 D2 C2 (.agg CV) x := (HB2'.out.out hsn.out (fun i hi => ⟨fun h => by
      have h1 := (HLO.out.1 i (.inl h)).1
      have h2 := HLO.out.2 i (hi.imp id .inl)
      omega, fun h => by
      have h1 := (HLO.out.1 i (.inr h)).1
      have h2 := HLO.out.2 i (hi.imp id .inl)
      omega, fun h => hi.elim (L3.out.both.far i h).2.2 (L3.out.both.far i h).2.1⟩)).below hb5
     have HA2 := act_all hb25 L3.out.ok (by have := HK.out; omega) (getD17 0) (getD17_ok 0)
     have HAC2 := Lib.hid HA2.1
     have HAK2 := Lib.hid HA2.2
     obtain ⟨az, eaz⟩ : ∃ az, az = (getD17 0).cells.toArray := ⟨_, rfl⟩
     have HZB := Lib.hid zeroA17_built
     rw [← eaz] at HAC2 HZB
     obtain ⟨xl, exl⟩ : ∃ x2, x2 = (getD17 0).run2 x := ⟨_, rfl⟩
     rw [← exl] at HAC2 HAK2
     unfold ptr at HAC2
     have HN5 := Lib.hid (And.intro (hbn.below hb5) (And.intro (show ∀ i, Cn.has i → i < wr.heap.size ∨ (w3.heap.size ≤ i ∧ i < w4.heap.size) from fun i hi => by
      rcases hsn.new_ i hi with h | h
      ·exact .inl (HLO.out.2 i (.inr h))
      ·exact .inr ⟨h, hbn.cache.has_lt i hi⟩) (show ∀ g, g ∈ footV (.agg CVn) → (¬ C2.own g ∧ ¬ D2.has g) ∧ g < w4.heap.size from fun g hg => by
      rcases hcn g hg with h | h
      ·exact ⟨(HB2'.out.far g h).2, (hbn.far g hg).1⟩
      ·refine ⟨⟨fun h2 => ?_, fun h2 => ?_⟩, h.2⟩
       ·have := (HLO.out.1 g (.inr (.inl h2))).2; omega
       ·have := (HLO.out.1 g (.inl h2)).2; omega)))
     have HSN := Lib.hid (And.intro hsn.same.1 hsn.out)
     clear hbn hsn hcn hb25 HA2 eaz exl HN HB2' hb5
     have hG5 := kG5
     go_wp2_with (first
      | (refine wpList_load_row rfl 61 _ rfl G rfl 61 CV (0, 0) _ hG5 Tryz.underlying61 rfl HSC.out ?_)
      | (refine wpList_buildL rfl 49 _ rfl az HZB.out ?_)
      | fail)
     refine HAC2.out.mono ?_; rintro e w6 ⟨cvl, Cl, rfl, hbl, hsl, hcl⟩
     obtain ⟨CVl, rfl, s7l, one7l, st7l⟩ := hbl.ref.agg
     have HIl := Lib.hid (info_cache s7l)
     have HSl := Lib.hid s7l
     have HZl := Lib.hid (show zeroC.size = CVl.size from s7l.symm)
     have HOl := Lib.hid one7l
     have hs56 := hsl.out.size
     have hn2 : ∀ i, D2.has i ∨ C2.own i → wr.heap.size ≤ i ∧ i < w3.heap.size := fun i hi => HLO.out.1 i (hi.imp id .inl)
     have kn6 := hsl.out.blk kn5 (fun h => by have := hn2 _ h; omega)
     have hfn : Both w6 D Cn (.agg CVn) xn := HN5.out.1.out hsl.out (fun i hi => by
      have h1 := hn2 i hi
      refine ⟨fun h => ?_, fun h => ?_, fun h => ?_⟩
      ·have := HLO.out.2 i (.inl h); omega
      ·rcases HN5.out.2.1 i h with h2 | h2
       ·omega
       ·omega
      ·rcases hi with h2 | h2
       ·exact (HN5.out.2.2 i h).1.2 h2
       ·exact (HN5.out.2.2 i h).1.1 h2)
     have HFN := Lib.hid hfn
     have HFL := Lib.hid hbl
     have HSL := Lib.hid (And.intro hsl.same.1 hsl.out)
     have hzl := Blk.new w6 61 zeroC
     clear hbl hsl hcl hfn hn2 s7l one7l st7l kG5 hG5 kn5 kG4 HAC2
     go_upto_region 12 with (first
      | (refine wpList_store_row rfl 61 _ _ rfl w6.heap.size CVl rfl rfl 61 _ hzl HIl.out HZl.out HOl.out ?_; rw [World.setRow_alloc_new])
      | fail)
     obtain ⟨w7, e7⟩ : ∃ w7, w7 = w6.alloc (.cells CVl 61) := ⟨_, rfl⟩
     have hb7 : Below w6.heap.size w6 w7 := by rw [e7]; exact (Below.refl _ _).alloc (Nat.le_refl _) _
     have kl7 : Blk w7 w6.heap.size 61 CVl := by rw [e7]; exact Blk.new _ _ _
     rw [← e7]
     clear e7 hzl
     have kn7 := kn6.below hb7 kn6.lt
     have HST1 := Lib.hid (stands_any (HFN.out.below hb7) HAK.out)
     rw [HSN.out.1, L3.out.cg] at HST1
     have HFL7 := Lib.hid (HFL.out.below hb7)
     have ln := load_cacheV HSn.out kn7
     have HBW7 := Lib.hid (show Below w.heap.size w w7 from by
      have q0 := HB1.out
      have q3 := q0.trans (HBW3.out.mono q0.size)
      have q4 := q3.trans (HSN.out.2.below (B := w.heap.size) q3.size (fun i hi h => by
       have := HW1.out
       rcases h with h | h
       ·have := L3.out.low i (.inl h); omega
       ·have := L3.out.low i (.inr (.inl h)); omega))
      have q5 := q4.trans (HB5.out.mono q4.size)
      have hwr : w.heap.size ≤ wr.heap.size := Nat.le_trans HW1.out HLk.out.below0.size
      have q6 := q5.trans (HSL.out.2.below (B := w.heap.size) q5.size (fun i hi h => by
       have := (HLO.out.1 i (h.imp id .inl)).1
       omega))
      exact q6.trans (hb7.mono q6.size))
     unfold ptr at HST1
     clear hb7 kn6 kn7 HFN HFL
     go_wp2_with (refine wpList_load_midG rfl 61 _ rfl w4.heap.size 0 rfl CVn ln ?_)
     refine HST1.out.mono ?_; rintro e w8 ⟨rfl, hb8⟩
     have ll := load_cacheV HSl.out (kl7.below hb8 kl7.lt)
     have HST2 := Lib.hid (stands_any (HFL7.out.below hb8) HAK2.out)
     rw [HSL.out.1] at HST2
     unfold ptr at HST2
     have HBW8 := Lib.hid (HBW7.out.trans (hb8.mono HBW7.out.size))
     clear hb8 ln kl7
     go_wp2_with (refine wpList_load_midG rfl 61 _ rfl w6.heap.size 0 rfl CVl ll ?_)
     refine HST2.out.mono ?_; rintro e w9 ⟨rfl, hb9⟩
     have HBW9 := Lib.hid (HBW8.out.trans (hb9.mono HBW8.out.size))
     clear hb9 ll
     go_wp2_with fail
     refine (works17_any _).mono ?_; rintro e wz ⟨rfl, hbz⟩
     go_wp2_with fail
     go_ret
     exact ⟨rfl, HBW9.out.trans (hbz.mono HBW9.out.size)⟩
  ·have g40 : (40 : Int) < (acts.length : Int) := by omega
   go_wp2_with fail
   refine (works17_any _).mono ?_; rintro e w2 ⟨rfl, hb2⟩
   go_wp2_with fail
   go_ret
   exact ⟨rfl, HB1.out.trans (hb2.mono HB1.out.size)⟩
end Go.Proofs.YtemcgfncahccgaaGreat
namespace Go.Proofs.YtemcgfncahccgaaGreat
open Go.ChangeShapes Go.WideShapes Go.ChangeAt Go.RowKit Go.Deep

set_option maxRecDepth 100000 in
theorem cacheCopies_lifted (os : Os) (started : os.Started) (H : Type) (enc : TypeId × Value → H) :
  ReturnsInHanded {} Tryz.checked os 10 .any (Rows.cacheCopiesSpec.pre6 enc Tryz.prog Tryz.f10 Rows.cacheCopiesRow.domain false) (Rows.cacheCopiesSpec.post enc Tryz.prog Tryz.f10 false true false false) := by
 refine returnsInHanded_of_change (C := Tryz.checked) own started (by kernel_rfl) Tryz.func10
  (ChangeSpec.witness6 (enc := enc) (C := Tryz.checked) false ⟨#[], #[.agg #[.slice none 0 0, .int .i64 0, .int .i64 0, .slice none 0 0], .slice none 0 0, .agg (getD17 0).cells.toArray], []⟩ 8 (by kernel_rfl) (by kernel_rfl) (by kernel_rfl) (by kernel_rfl)) ?_
 intro W base args ds gs before hval0 hW hcnd _
 have hval : ∀ (j : Nat) t v, Tryz.f10.params[j]? = some t → args[j]? = some v → Value.okWide Tryz.prog W .any base t v := hval0
 have hW' := hW
 obtain ⟨p, q, hA0, hV, rfl, hfz, hnd⟩ := hW
 have hA : DataW.TrodAll enc Tryz.prog W 0 (fun _ => true) true Tryz.f10.params.toList args.toList ds p := hA0
 rw [Tryz.params10] at hA hval
 obtain ⟨v0, vs0, d0, ds0, p0, q0, hargs, rfl, rfl, h0, hA1⟩ := trodAll_cons hA
 obtain ⟨v1, vs1, d1, ds1, p1, q1, rfl, rfl, rfl, h1, hA2⟩ := trodAll_cons hA1
 obtain ⟨v2, vs2, d2, ds2, p2, q2, rfl, rfl, rfl, h2, hA3⟩ := trodAll_cons hA2
 obtain ⟨rfl, rfl, rfl⟩ : vs2 = [] ∧ ds2 = [] ∧ q2 = [] := by
  cases vs2 <;> cases ds2 <;> simp [DataW.TrodAll] at hA3
  exact ⟨rfl, rfl, hA3⟩
 obtain rfl : args = #[v0, v1, v2] := Array.ext' hargs
 obtain ⟨rfl, rfl⟩ := trodVars_none hV
 obtain ⟨x, hx⟩ := open_world (hval 0 _ v0 rfl rfl) h0
 obtain ⟨l, hl⟩ := open_acts (hval 1 _ v1 rfl rfl) h1
 obtain ⟨xa, rfl, hxa⟩ := open_act (hval 2 _ v2 rfl rfl) h2
 clear hA0 hval0
 refine (copies17_any x v0 v1 l xa hxa W hx hl).mono fun e W' ⟨he, hb⟩ => ?_
 subst he
 exact ⟨_, rfl, law_post laidOut (by rw [Tryz.params10]; intro t ht; simp at ht; rcases ht with rfl | rfl | rfl <;> exact ⟨by kernel_rfl, of_decide_eq_true (by kernel_rfl)⟩) rfl Tryz.underlying4 rfl hW' rfl hb⟩

theorem cacheCopies_holds : Rows.CacheCopiesSaid :=
 OpenClaim.holds_of_wide 10 Tryz.f10 rfl rfl rfl rfl rfl rfl rfl ⟨rfl, rfl, rfl, rfl, rfl⟩ rfl rfl rfl rfl rfl (by kernel_rfl) Tryz.func10 (by kernel_rfl)
  (of_decide_eq_true (by kernel_rfl)) (by unfold Func.isWrapper; first | (rw [if_pos (by decide +kernel)]; kernel_rfl) | (rw [if_neg (by decide +kernel)]; exact ⟨rfl, rfl⟩))
  (fun os started H enc _ => cacheCopies_lifted os started H enc)

end Go.Proofs.YtemcgfncahccgaaGreat
