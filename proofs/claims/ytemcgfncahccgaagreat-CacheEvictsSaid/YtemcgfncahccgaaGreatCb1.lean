/-
  The law CacheEvicts. (Written by gen_claw.py.)
  The law CacheSettles. (Written by gen_cset.py.)
  Opening numbers within 64 bits, an object, calls.
  CacheEvicts: for every input the law answers true, and its arguments read as they did; without conditions.
-/
import Derived.Test.YtemcgfncahccgaaGreatCa37
import Derived.Test.YtemcgfncahccgaaGreatCa38
set_option linter.unusedVariables false
set_option linter.unusedSimpArgs false
namespace Go.Proofs.YtemcgfncahccgaaGreat
open Go.RowKit Go.Shelf

def evictD17 (p : Int) : ActD := ⟨2, 0, p, objZ, 0⟩
theorem evictD17_ok (p : Int) (hp : I64 p) : (evictD17 p).ok := ⟨objZ_ok, fun s hs => (slotsZ_fine s hs).1, hp⟩
theorem evictD17_built (p : Int) : Tryz.prog.built 49 [(0, .int .i64 2), (2, .int .i64 p)] = some (evictD17 p).cells.toArray := by kernel_rfl
/-- without the steps that fail -/
theorem WArg.calm {w : World} {v : Value} {x : WorldD} (h : WArg w v x) : ∃ vo m r vf, v = .agg #[vo, m, r, vf] ∧ vf.oneCell' = true ∧ WArg w (.agg #[vo, m, r, .slice none 0 0]) { x with fails := [] } := by
 obtain ⟨⟨vo, vf, rfl, h1, h2⟩, h3, h4⟩ := h
 exact ⟨vo, _, _, vf, rfl, h2.one, ⟨vo, _, rfl, h1, IntsIn.nil _ _⟩, h3, fun m hm => by cases hm⟩
set_option maxRecDepth 100000 in
set_option maxHeartbeats 8000000 in
theorem evicts17_any (x : WorldD) (v vo vq : Value) (oids picks : List Int) (w : World) (hv : WArg w v x) (ho : IntsIn w w.heap.size vo oids) (hq : IntsIn w w.heap.size vq picks) (hqi : ∀ p ∈ picks, I64 p) :
  Calls Tryz.prog 8 #[v, vo, vq] w fun e w' => e = .returned (.bool true) ∧ Below w.heap.size w w' := by
 obtain ⟨v0, v1, v2, v3, rfl, h3o, hv'⟩ := hv.calm
 have HV := Lib.hid hv'
 have HO := Lib.hid ho
 have HQ := Lib.hid hq
 have HQI := Lib.hid hqi
 obtain ⟨-, ao, co, rfl, -, -⟩ := ho
 obtain ⟨-, aq, cq, rfl, -, -⟩ := hq
 obtain ⟨x0, ex0⟩ : ∃ x0 : WorldD, x0 = { x with fails := [] } := ⟨_, rfl⟩
 rw [← ex0] at HV
 obtain ⟨XV, eXV⟩ : ∃ XV : Array Value, XV = #[v0, v1, v2, .slice none 0 0] := ⟨_, rfl⟩
 rw [← eXV] at HV
 have sXV : (Tryz.prog.info? 25).map (·.size) = some XV.size := by rw [eXV]; exact size_world _ _ _ _
 have HSX := Lib.hid sXV
 obtain ⟨W, eW⟩ : ∃ W, W = w.alloc (.cells #[v0, v1, v2, v3] 25) := ⟨_, rfl⟩
 have k00 : Blk W w.heap.size 25 #[v0, v1, v2, v3] := by rw [eW]; exact Blk.new w _ _
 have c3 := k00.cell_is 3 rfl
 have f3 := k00.frozen 3
 obtain ⟨Y, eY⟩ : ∃ Y, Y = W.setCell ⟨w.heap.size, 3, none⟩ (.slice none 0 0) := ⟨_, rfl⟩
 have k0 : Blk Y w.heap.size 25 XV := by rw [eY, eXV]; exact k00.set_ 3 _
 have hbW : Below w.heap.size w Y := by
  have h1 : Below w.heap.size w W := by rw [eW]; exact (Below.refl _ w).alloc (Nat.le_refl _) _
  have h2 : Out (fun i => i = w.heap.size) W Y := by rw [eY]; exact out_set rfl
  exact ((outB h1 : Out (fun i => i = w.heap.size) w W).trans h2 (fun _ _ h => h)).below (Nat.le_refl _) (fun i hi e => by omega)
 have HSM := Lib.hid (small17_any x0 (.agg XV) Y (HV.out.inn.up hbW))
 have HB := Lib.hid hbW
 clear hv hv' sXV hbW ex0 eXV hqi
 go_enter Tryz.func8, Tryz.ntmps8
 go_upto_region 1 with fail
 rw [← eW]
 clear eW
 go_upto_region 2 with fail
 rw [← eY]
 clear eY k00 c3 f3
 go_wp2_with (refine wpList_load_row rfl 25 _ rfl w.heap.size rfl 25 XV (0, 0) _ k0 Tryz.underlying25 rfl HSX.out ?_)
 refine HSM.out.mono ?_; rintro e w1 ⟨rfl, hb1⟩
 have k1 := k0.below hb1 k0.lt
 have HB1 := Lib.hid (HB.out.trans (hb1.mono HB.out.size))
 clear hb1 k0
 cases hsm : smallW x0
 ·go_wp2_with fail
  refine (works17_any _).mono ?_; rintro e w2 ⟨rfl, hb2⟩
  go_wp2_with fail
  go_ret
  exact ⟨rfl, HB1.out.trans (hb2.mono HB1.out.size)⟩
 ·obtain ⟨hfine, hr⟩ := smallW_fine hsm HV.out.ok HV.out.fi
  have HFI := Lib.hid hfine
  have HRO := Lib.hid hr
  clear hsm hfine hr
  have h4 : (40 : Int) < (oids.length : Int) ∨ (¬ (40 : Int) < (oids.length : Int) ∧ (20 : Int) < (picks.length : Int)) ∨ (¬ (40 : Int) < (oids.length : Int) ∧ ¬ (20 : Int) < (picks.length : Int)) := by omega
  rcases h4 with g40 | ⟨g40, g20⟩ | ⟨g40, g20⟩
  ·go_wp2_with fail
   refine (works17_any _).mono ?_; rintro e w2 ⟨rfl, hb2⟩
   go_wp2_with fail
   go_ret
   exact ⟨rfl, HB1.out.trans (hb2.mono HB1.out.size)⟩
  ·go_wp2_with fail
   refine (works17_any _).mono ?_; rintro e w2 ⟨rfl, hb2⟩
   go_wp2_with fail
   go_ret
   exact ⟨rfl, HB1.out.trans (hb2.mono HB1.out.size)⟩
  ·have HBG := Lib.hid (begun17_any x0 HFI.out HRO.out (.agg XV) w1 (HV.out.inn.up HB1.out))
   go_upto_region 4 with fail
   have h40 : oids.length ≤ 40 := by omega
   have h20 : picks.length ≤ 20 := by omega
   clear g40 g20
   go_wp2_with (refine wpList_load_row rfl 25 _ rfl w.heap.size rfl 25 XV (0, 0) _ k1 Tryz.underlying25 rfl HSX.out ?_)
   refine HBG.out.mono ?_; rintro e w2 ⟨D, C, cv, rfl, hb2, hlD, hlC, hlF, hbw2⟩
   obtain ⟨CV, rfl, s7, one7, st7⟩ := hb2.ref.agg
   have HI7 := Lib.hid (info_cache s7)
   have hzc := Blk.new w2 61 zeroC
   have HZ7 := Lib.hid (show zeroC.size = CV.size from s7.symm)
   have HON := Lib.hid one7
   have hw01 := HB1.out.size
   have HB2 := Lib.hid (HB1.out.trans (hbw2.mono HB1.out.size))
   have HLI := Lib.hid (show LInv w D.p C.g w2.heap.size (w2.alloc (.cells CV 61)) D C CV (start17 x0) 0 from
    ⟨rfl, rfl, hb2.below ((Below.refl _ w2).alloc (Nat.le_refl _) _), start_ok HFI.out HRO.out.1, Blk.new _ _ _, fun i hi => hi.elim (fun h => by have := hlD i h; omega) (fun h => by have := hlC i h; omega), fun h => by have := hb2.disk.has_lt _ h; omega, fun h => by have := hb2.cache.has_lt _ h; omega, fun h => by have := (hb2.far _ h).1; omega, s7, one7, HB2.out.size, outB (HB2.out.alloc HB2.out.size _)⟩)
   unfold ptr
   clear hb2 hlD hlC hlF hbw2 s7 one7 st7 HBG k1
   go_upto_region 5 with (refine wpList_store_row rfl 61 _ _ rfl w2.heap.size CV rfl rfl 61 _ hzc HI7.out HZ7.out HON.out ?_; rw [World.setRow_alloc_new])
   obtain ⟨Z, eZ⟩ : ∃ Z, Z = w2.alloc (.cells CV 61) := ⟨_, rfl⟩
   rw [← eZ] at HLI ⊢
   clear eZ hzc
   obtain ⟨dp, edp⟩ : ∃ dp, dp = D.p := ⟨_, rfl⟩
   obtain ⟨cg, ecg⟩ : ∃ cg, cg = C.g := ⟨_, rfl⟩
   obtain ⟨G, eG⟩ : ∃ G, G = w2.heap.size := ⟨_, rfl⟩
   rw [← edp, ← ecg, ← eG] at HLI
   rw [← edp, ← ecg, ← eG]
   clear edp ecg eG HZ7 HON HI7
   go_wp2_with fail
   go_loopw [10, 11] (fun b i wr => ∃ j : Nat, j ≤ oids.length ∧ b = .bool true ∧ i = .int .i64 j ∧ ∃ D C CV x, LInv w dp cg G wr D C CV x ((j : Int))) (fun _ i _ => oids.length - (intOf i).toNat)
   case atStart => exact ⟨0, by omega, rfl, rfl, _, _, _, _, HLI.out⟩
   case round =>
    obtain ⟨j, hj, rfl, rfl, D, C, CV, x, hL⟩ := hrel
    have HL := Lib.hid hL
    have hGb := hL.blk
    clear hL
    by_cases hlt : j < oids.length
    ·have i2 : (j : Int) < (oids.length : Int) := by omega
     obtain ⟨y, hy⟩ : ∃ y, oids[j]? = some y := ⟨_, List.getElem?_eq_getElem hlt⟩
     obtain ⟨g, off, rfl, hg, hc⟩ := (HO.out.below HL.out.below0 (Nat.le_refl _)).at_ hy
     have HA := act_run HL.out.drew.both HL.out.ok (by omega) (getD17 y) (getD17_ok y) (.inl rfl)
     have HAC := Lib.hid HA.1
     have HAK := Lib.hid HA.2
     rw [HL.out.dp, HL.out.cg] at HAC
     have HBT := Lib.hid (getD17_built y)
     obtain ⟨ac, eac⟩ : ∃ ac, ac = (getD17 y).cells.toArray := ⟨_, rfl⟩
     obtain ⟨x2, ex2⟩ : ∃ x2, x2 = (getD17 y).run x := ⟨_, rfl⟩
     rw [← eac, ← ex2] at HAC
     rw [← eac] at HBT
     rw [← ex2] at HAK
     have HSC := Lib.hid (info_cache HL.out.s7)
     have hgl := HL.out.low_ g hg
     unfold ptr at HAC
     clear hy HA eac ex2
     go_upto_region 8 with fail
     refine jb (fun X => Out (fun i => D.has i ∨ C.own i ∨ i = G) wr X) (fun X => Blk X G 61 CV) 8 (outB (Below.refl _ _).drew) hGb.drew fun hHeld hJ => ?_
     refine jk false 0 ?_
     refine jk false 1 ?_
     refine jy true 2 rfl (yieldsIf_load_mid (by rfl) 61 _ rfl G 0 rfl CV.toList _ (fun w' h => blk_range (h.2 rfl)) Tryz.underlying61 rfl (by simpa using HSC.out)) ?_
     refine jk false 3 ?_
     refine jk false 4 ?_
     refine jk false 5 ?_
     refine jk false 6 ?_ (hy := by intro X hX _; have hc := hX.cell hc hgl; go_simp; try with_reducible rfl)
     refine jy false 7 rfl (yieldsIf_build (by rfl) 49 _ rfl ac (by exact HBT.out)) ?_
     refine jr 8 fun K hK => ?_
     go_simp
     refine HAC.out.mono ?_; rintro e w3 hpost
     obtain ⟨CV2, C2, rfl, s72, one72, hk3, ho3, ho4, hL4⟩ := HL.out.drew.act hpost HAK.out
     dsimp only
     have hoX : Out (fun i => D.has i ∨ C.own i ∨ i = G) wr w3 := hHeld.trans ho3 (fun i _ h => h.elim .inl (fun h => .inr (.inl h)))
     refine hK.out _ _ ⟨hoX, fun h => absurd h (by decide)⟩ ?_
     clear hK K hHeld hJ hpost
     have hHeld := hoX
     refine jk false 9 ?_
     refine jk false 10 ?_
     refine jk false 11 ?_
     refine jr 12 fun K hK => ?_
     rw [if_pos (show Region.wanted _ _ = true from rfl)]
     refine wp_store_row 61 _ _ rfl G CV2 rfl rfl 61 _ hk3 (info_cache s72) (HL.out.s7.trans s72.symm) one72 ?_
     have hoY := hoX.trans ho4 (fun i _ h => .inr (.inr h))
     refine hK.out _ _ ⟨hoY, fun h => absurd h (by decide)⟩ ?_
     clear hK K hHeld
     have hHeld := hoY
     refine jk false 13 ?_
     refine wpAnyJ_done (by kernel_rfl) ?_ _
     have HL4 := Lib.hid hL4
     have hG4 := hL4.blk
     have HS4 := Lib.hid s72
     have HST := Lib.hid hL4.stands
     obtain ⟨Z4, eZ4⟩ : ∃ Z, Z = w3.setRow G CV2 := ⟨_, rfl⟩
     rw [← eZ4] at HL4 hG4 HST ⊢
     unfold ptr at HST
     clear hHeld hoY hoX ho3 ho4 hk3 s72 one72 hL4 HAC HAK HBT HSC hgl eZ4 hc hGb
     clear HST hG4
     go_wp2_with fail
     exact ⟨⟨j + 1, by omega, rfl, by go_num, D, C2, CV2, x2, by rw [show ((j + 1 : Nat) : Int) = ((j : Int)) + 1 by omega]; exact HL4.out⟩, by simp [intOf]; omega⟩
    ·obtain rfl : j = oids.length := by omega
     have i2 : ¬ (oids.length : Int) < (oids.length : Int) := by omega
     obtain ⟨N0, eN0⟩ : ∃ N : Int, N = (oids.length : Int) := ⟨_, rfl⟩
     have HL0 := Lib.hid (show LInv w dp cg G wr D C CV x N0 from by rw [eN0]; exact HL.out)
     have hN0 : N0 ≤ 40 := by omega
     clear eN0
     have HL := HL0
     clear hGb
     go_upto_region 9 with fail
     go_wp2_with fail
     go_loopw [10, 12] (fun b i wr => ∃ j : Nat, j ≤ picks.length ∧ b = .bool true ∧ i = .int .i64 j ∧ ∃ D C CV x, LInv w dp cg G wr D C CV x (N0 + (j : Int))) (fun _ i _ => picks.length - (intOf i).toNat)
     case atStart => exact ⟨0, by omega, rfl, rfl, _, _, _, _, by simpa using HL.out⟩
     case round =>
      obtain ⟨j, hj, rfl, rfl, D, C, CV, x, hL⟩ := hrel
      have HL := Lib.hid hL
      have hGb := hL.blk
      clear hL
      by_cases hlt : j < picks.length
      ·have i2 : (j : Int) < (picks.length : Int) := by omega
       obtain ⟨y, hy⟩ : ∃ y, picks[j]? = some y := ⟨_, List.getElem?_eq_getElem hlt⟩
       obtain ⟨g, off, rfl, hg, hc⟩ := (HQ.out.below HL.out.below0 (Nat.le_refl _)).at_ hy
       have HA := act_run HL.out.drew.both HL.out.ok (by omega) (evictD17 y) (evictD17_ok y (HQI.out y (List.mem_of_getElem? hy))) (.inr (.inr (.inl rfl)))
       have HAC := Lib.hid HA.1
       have HAK := Lib.hid HA.2
       rw [HL.out.dp, HL.out.cg] at HAC
       have HBT := Lib.hid (evictD17_built y)
       obtain ⟨ac, eac⟩ : ∃ ac, ac = (evictD17 y).cells.toArray := ⟨_, rfl⟩
       obtain ⟨x2, ex2⟩ : ∃ x2, x2 = (evictD17 y).run x := ⟨_, rfl⟩
       rw [← eac, ← ex2] at HAC
       rw [← eac] at HBT
       rw [← ex2] at HAK
       have HSC := Lib.hid (info_cache HL.out.s7)
       have hgl := HL.out.low_ g hg
       unfold ptr at HAC
       clear hy HA eac ex2
       go_upto_region 12 with fail
       refine jb (fun X => Out (fun i => D.has i ∨ C.own i ∨ i = G) wr X) (fun X => Blk X G 61 CV) 8 (outB (Below.refl _ _).drew) hGb.drew fun hHeld hJ => ?_
       refine jk false 0 ?_
       refine jk false 1 ?_
       refine jy true 2 rfl (yieldsIf_load_mid (by rfl) 61 _ rfl G 0 rfl CV.toList _ (fun w' h => blk_range (h.2 rfl)) Tryz.underlying61 rfl (by simpa using HSC.out)) ?_
       refine jk false 3 ?_
       refine jk false 4 ?_
       refine jk false 5 ?_
       refine jk false 6 ?_ (hy := by intro X hX _; have hc := hX.cell hc hgl; go_simp; try with_reducible rfl)
       refine jy false 7 rfl (yieldsIf_build (by rfl) 49 _ rfl ac (by exact HBT.out)) ?_
       refine jr 8 fun K hK => ?_
       go_simp
       refine HAC.out.mono ?_; rintro e w3 hpost
       obtain ⟨CV2, C2, rfl, s72, one72, hk3, ho3, ho4, hL4⟩ := HL.out.drew.act hpost HAK.out
       dsimp only
       have hoX : Out (fun i => D.has i ∨ C.own i ∨ i = G) wr w3 := hHeld.trans ho3 (fun i _ h => h.elim .inl (fun h => .inr (.inl h)))
       refine hK.out _ _ ⟨hoX, fun h => absurd h (by decide)⟩ ?_
       clear hK K hHeld hJ hpost
       have hHeld := hoX
       refine jk false 9 ?_
       refine jk false 10 ?_
       refine jk false 11 ?_
       refine jr 12 fun K hK => ?_
       rw [if_pos (show Region.wanted _ _ = true from rfl)]
       refine wp_store_row 61 _ _ rfl G CV2 rfl rfl 61 _ hk3 (info_cache s72) (HL.out.s7.trans s72.symm) one72 ?_
       have hoY := hoX.trans ho4 (fun i _ h => .inr (.inr h))
       refine hK.out _ _ ⟨hoY, fun h => absurd h (by decide)⟩ ?_
       clear hK K hHeld
       have hHeld := hoY
       refine jk false 13 ?_
       refine wpAnyJ_done (by kernel_rfl) ?_ _
       have HL4 := Lib.hid hL4
       have hG4 := hL4.blk
       have HS4 := Lib.hid s72
       have HST := Lib.hid hL4.stands
       obtain ⟨Z4, eZ4⟩ : ∃ Z, Z = w3.setRow G CV2 := ⟨_, rfl⟩
       rw [← eZ4] at HL4 hG4 HST ⊢
       unfold ptr at HST
       clear hHeld hoY hoX ho3 ho4 hk3 s72 one72 hL4 HAC HAK HBT HSC hgl eZ4 hc hGb
       have l4 := load_cacheV HS4.out hG4
       go_wp2_with (refine wpList_load_midG rfl 61 _ rfl G 0 rfl CV2 l4 ?_)
       refine HST.out.mono ?_; rintro e w5 ⟨rfl, hb5⟩
       have HL5 := Lib.hid (HL4.out.below hb5)
       clear hb5 HL4 HST hG4 l4
       go_wp2_with fail
       exact ⟨⟨j + 1, by omega, rfl, by go_num, D, C2, CV2, x2, by rw [show N0 + ((j + 1 : Nat) : Int) = (N0 + (j : Int)) + 1 by omega]; exact HL5.out⟩, by simp [intOf]; omega⟩
      ·obtain rfl : j = picks.length := by omega
       have i2 : ¬ (picks.length : Int) < (picks.length : Int) := by omega
       go_wp2_with fail
       refine (works17_any _).mono ?_; rintro e wz ⟨rfl, hbz⟩
       go_wp2_with fail
       go_ret
       exact ⟨rfl, HL.out.below0.trans (hbz.mono HL.out.below0.size)⟩
end Go.Proofs.YtemcgfncahccgaaGreat
namespace Go.Proofs.YtemcgfncahccgaaGreat
open Go.RowKit Go.Shelf

/-- a slice of calls that is read -/
def ActsIn (W : World) (B : Nat) (v : Value) (l : List ActD) : Prop :=
 l.length ≤ maxLen ∧ ∃ a cap, v = .slice a l.length cap ∧ l.length ≤ cap ∧ ∀ j (o : ActD), l[j]? = some o → o.ok ∧ ∃ g off, a = some ⟨g, off, none⟩ ∧ g < B ∧ W.rangeAt g (off + j * 167) o.cells
theorem ActsIn.below {W W' : World} {B C : Nat} {v : Value} {l : List ActD} (h : ActsIn W B v l) (hb : Below C W W') (hC : B ≤ C) : ActsIn W' B v l := by
 obtain ⟨h1, a, cap, h2, h3, h4⟩ := h
 refine ⟨h1, a, cap, h2, h3, fun j o hj => ?_⟩
 obtain ⟨ho, g, off, e, hg, hr⟩ := h4 j o hj
 exact ⟨ho, g, off, e, hg, range_below hr hb (by omega)⟩
theorem ActsIn.at_ {W : World} {B : Nat} {a : Option Addr} {n c : Nat} {l : List ActD} (h : ActsIn W B (.slice a n c) l) {j : Nat} {x : ActD} (hx : l[j]? = some x) :
  x.ok ∧ ∃ g off, a = some ⟨g, off, none⟩ ∧ g < B ∧ W.rangeAt g (off + j * 167) x.cells := by
 obtain ⟨_, a', c', e, _, h4⟩ := h
 injection e with ea _ _
 subst ea
 exact h4 j x hx
end Go.Proofs.YtemcgfncahccgaaGreat
namespace Go.Proofs.YtemcgfncahccgaaGreat
open Go.ChangeShapes Go.WideShapes Go.ChangeAt Go.RowKit Go.Deep

section
variable {H : Type} {enc : TypeId × Value → H} {w : World} {n : Nat} {cs : List Value} {x : DataW H × List MemPlace}
set_option maxRecDepth 100000 in
theorem ints_trodI (h : DataW.trod enc Tryz.prog w 0 (fun _ => true) true n 23 cs = some x) : ∃ v l, cs = [v] ∧ IntsIn w w.heap.size v l ∧ ∀ n ∈ l, I64 n := by
 obtain ⟨A, len, cap, hcs, hm, hl, hi⟩ := row_els (C := 1) Tryz.underlying23 (by kernel_rfl) (by omega) h
 obtain ⟨l, hll, hR⟩ := pick_list (fun i (c : Int) => ∃ g off, A = some ⟨g, off, none⟩ ∧ g < w.heap.size ∧ w.cell? ⟨g, off + i, none⟩ = some (.int .i64 c) ∧ I64 c) len (fun i hil => by
  obtain ⟨g, off, cs', m, y, e1, e2, e3, e4⟩ := hi i hil
  obtain ⟨k, rfl, hk⟩ := int_trod64 Tryz.underlying3 e4
  exact ⟨k, g, off, e1, e2, by have := e3 0 _ rfl; simpa using this, hk⟩)
 subst hll
 refine ⟨_, l, hcs, ⟨hm, A, cap, rfl, hl, fun j c hj => ?_⟩, fun n hn => ?_⟩
 ·obtain ⟨g, off, h1, h2, h3, _⟩ := hR j c hj
  exact ⟨g, off, h1, h2, h3⟩
 ·obtain ⟨j, hj⟩ := List.mem_iff_getElem?.1 hn
  obtain ⟨_, _, _, _, _, h4⟩ := hR j n hj
  exact h4
set_option maxRecDepth 100000 in
theorem open_intsI {r : Reach} {b0 : Nat} {v : Value} {d : DataW H} {p : List MemPlace} (hv : Value.okWide Tryz.prog w r b0 23 v) (h : DataW.Trod enc Tryz.prog w 0 (fun _ => true) true 23 v d p) : ∃ l, IntsIn w w.heap.size v l ∧ ∀ n ∈ l, I64 n := by
 obtain ⟨a0, len, cap, rfl⟩ := okWide_slice Tryz.underlying23 hv
 obtain ⟨fuel, hf⟩ := h
 obtain ⟨v, l, hc, hi, hb⟩ := ints_trodI hf
 have e : Value.slice a0 len cap = v := by simpa [Value.cells] using hc
 subst e
 exact ⟨l, hi, hb⟩
end
end Go.Proofs.YtemcgfncahccgaaGreat
namespace Go.Proofs.YtemcgfncahccgaaGreat
open Go.ChangeShapes Go.WideShapes Go.ChangeAt Go.RowKit Go.Deep

set_option maxRecDepth 100000 in
theorem cacheEvicts_lifted (os : Os) (started : os.Started) (H : Type) (enc : TypeId × Value → H) :
  ReturnsInHanded {} Tryz.checked os 8 .any (Rows.cacheEvictsSpec.pre6 enc Tryz.prog Tryz.f8 Rows.cacheEvictsRow.domain false) (Rows.cacheEvictsSpec.post enc Tryz.prog Tryz.f8 false true false false) := by
 refine returnsInHanded_of_change (C := Tryz.checked) own started (by kernel_rfl) Tryz.func8
  (ChangeSpec.witness6 (enc := enc) (C := Tryz.checked) false ⟨#[], #[.agg #[.slice none 0 0, .int .i64 0, .int .i64 0, .slice none 0 0], .slice none 0 0, .slice none 0 0], []⟩ 8 (by kernel_rfl) (by kernel_rfl) (by kernel_rfl) (by kernel_rfl)) ?_
 intro W base args ds gs before hval0 hW hcnd _
 have hval : ∀ (j : Nat) t v, Tryz.f8.params[j]? = some t → args[j]? = some v → Value.okWide Tryz.prog W .any base t v := hval0
 have hW' := hW
 obtain ⟨p, q, hA0, hV, rfl, hfz, hnd⟩ := hW
 have hA : DataW.TrodAll enc Tryz.prog W 0 (fun _ => true) true Tryz.f8.params.toList args.toList ds p := hA0
 rw [Tryz.params8] at hA hval
 obtain ⟨v0, vs0, d0, ds0, p0, q0, hargs, rfl, rfl, h0, hA1⟩ := trodAll_cons hA
 obtain ⟨v1, vs1, d1, ds1, p1, q1, rfl, rfl, rfl, h1, hA2⟩ := trodAll_cons hA1
 obtain ⟨v2, vs2, d2, ds2, p2, q2, rfl, rfl, rfl, h2, hA3⟩ := trodAll_cons hA2
 obtain ⟨rfl, rfl, rfl⟩ : vs2 = [] ∧ ds2 = [] ∧ q2 = [] := by
  cases vs2 <;> cases ds2 <;> simp [DataW.TrodAll] at hA3
  exact ⟨rfl, rfl, hA3⟩
 obtain rfl : args = #[v0, v1, v2] := Array.ext' hargs
 obtain ⟨rfl, rfl⟩ := trodVars_none hV
 obtain ⟨x, hx⟩ := open_world (hval 0 _ v0 rfl rfl) h0
 obtain ⟨l, hl, _⟩ := open_ints (hval 1 _ v1 rfl rfl) h1
 obtain ⟨lq, hlq, hqi⟩ := open_intsI (hval 2 _ v2 rfl rfl) h2
 clear hA0 hval0
 refine (evicts17_any x v0 v1 v2 l lq W hx hl hlq hqi).mono fun e W' ⟨he, hb⟩ => ?_
 subst he
 exact ⟨_, rfl, law_post laidOut (by rw [Tryz.params8]; intro t ht; simp at ht; rcases ht with rfl | rfl | rfl <;> exact ⟨by kernel_rfl, of_decide_eq_true (by kernel_rfl)⟩) rfl Tryz.underlying4 rfl hW' rfl hb⟩

theorem cacheEvicts_holds : Rows.CacheEvictsSaid :=
 OpenClaim.holds_of_wide 8 Tryz.f8 rfl rfl rfl rfl rfl rfl rfl ⟨rfl, rfl, rfl, rfl, rfl⟩ rfl rfl rfl rfl rfl (by kernel_rfl) Tryz.func8 (by kernel_rfl)
  (of_decide_eq_true (by kernel_rfl)) (by unfold Func.isWrapper; first | (rw [if_pos (by decide +kernel)]; kernel_rfl) | (rw [if_neg (by decide +kernel)]; exact ⟨rfl, rfl⟩))
  (fun os started H enc _ => cacheEvicts_lifted os started H enc)

end Go.Proofs.YtemcgfncahccgaaGreat
