/-
  The reference's Disk.Spoil where nothing waits.
  The program's Spoil, where both caches stand alike; the act Spoil.
  The law CachePlays.
-/
import Derived.Test.YtemcgfncahccgaaGreatCh1
import Derived.Test.YtemcgfncahccgaaGreatCh11
import Derived.Test.YtemcgfncahccgaaGreatCh26
import Derived.Test.YtemcgfncahccgaaGreatCh34
import Derived.Test.YtemcgfncahccgaaGreatCh35
import Derived.Test.YtemcgfncahccgaaGreatCh39
set_option linter.unusedVariables false
set_option linter.unusedSimpArgs false
namespace Go.Proofs.YtemcgfncahccgaaGreat
open Go.RowKit

theorem flat_flip {x : DiskD} (hx : x.ok) (n o : Nat) (hn : (n : Int) < x.size) (ho : o < 512) (c : UInt8) : flatL (x.spoil n o c) = (flatL x).set (512 * n + o) ((x.lasts n).getD o 0 ^^^ c) := by
  have hy : ∀ m : Int, ((x.spoil n o c).lasts m).length = 512 := fun m => by
    show (if m = (n : Int) then flipL (x.lasts n) o c else x.lasts m).length = 512
    split
    · rw [flipL_len]; exact hx.2.2.1 _
    · exact hx.2.2.1 _
  have h0 := hx.1
  have l1 : (flatL (x.spoil n o c)).length = 512 * x.size.toNat := flat_len _ (fun m => hy m) _
  have l2 := flatL_len hx
  apply List.ext_getElem?
  intro i
  rw [List.getElem?_set]
  by_cases hi : i < 512 * x.size.toNat
  · have e : i = 512 * (i / 512) + i % 512 := by omega
    have a1 : (flatL (x.spoil n o c))[i]? = ((x.spoil n o c).lasts ((i / 512 : Nat) : Int))[i % 512]? := by
      have := flat_at (fun m : Nat => (x.spoil n o c).lasts m) (fun m => hy m) x.size.toNat (i / 512) (i % 512) (by omega) (by omega)
      rw [← e] at this
      exact this
    have a2 : (flatL x)[i]? = (x.lasts ((i / 512 : Nat) : Int))[i % 512]? := by
      have := flatL_at hx (i / 512) (i % 512) (by omega) (by omega)
      rw [← e] at this
      exact this
    rw [a1, a2, l2]
    show (if ((i / 512 : Nat) : Int) = (n : Int) then flipL (x.lasts n) o c else x.lasts ((i / 512 : Nat) : Int))[i % 512]? = _
    by_cases hq : i / 512 = n
    · rw [hq, if_pos rfl]
      unfold flipL
      rw [List.getElem?_set, hx.2.2.1]
      by_cases hr : i % 512 = o
      · rw [if_pos hr.symm, if_pos ho, if_pos (by omega), if_pos (by omega)]
      · rw [if_neg (fun h => hr h.symm), if_neg (by omega)]
    · rw [if_neg (by omega), if_neg (by omega)]
  · rw [List.getElem?_eq_none (by omega), if_neg (by omega), List.getElem?_eq_none (by omega)]
/-- may a byte be spoiled? -/
def DiskD.spoils (x : DiskD) (n o : Int) : Bool := decide (0 ≤ n ∧ n < x.size ∧ 0 ≤ o ∧ o < 512)
set_option maxRecDepth 100000 in
set_option maxHeartbeats 4000000 in
theorem rdspoil_any (x : DiskD) (n q : Int) (c : UInt8) (lv wv fv : Value) (w : World) (h : RDisk w w.heap.size lv wv fv x) (hx : x.ok) (hw : x.waits = []) :
    Calls Tryz.prog 60 #[.agg #[lv, wv, .int .i64 x.steps, fv], .int .i64 n, .int .i64 q, vu8 c] w fun e w' => Below w.heap.size w w' ∧
      ((x.spoils n q = true ∧ ∃ lv' wv', e = .returned (.tuple #[.agg #[lv', wv', .int .i64 x.steps, fv], .int .i64 0]) ∧ RDisk w' w'.heap.size lv' wv' fv (x.spoil n q.toNat c) ∧ (∀ g, lv'.ownBlock = some g → w.heap.size ≤ g ∧ g < w'.heap.size) ∧ ∀ g, wv'.ownBlock = some g → w.heap.size ≤ g ∧ g < w'.heap.size) ∨
       (x.spoils n q = false ∧ e = .returned (.tuple #[.agg #[lv, wv, .int .i64 x.steps, fv], .int .i64 4]))) := by
  have HON := Lib.hid (h.one x.steps)
  have HSZ := Lib.hid (fun W hh => rdsize_any x lv wv fv x.steps W hh hx)
  have HR := Lib.hid h
  obtain ⟨W, eW⟩ : ∃ W, W = (w.alloc (.cells #[lv, wv, .int .i64 x.steps, fv] 32)).alloc (.cells zeroD 32) := ⟨_, rfl⟩
  have b0 : Below w.heap.size w W := by rw [eW]; exact ((Below.refl _ w).alloc (Nat.le_refl _) _).alloc (by simp) _
  have k0 : Blk W w.heap.size 32 #[lv, wv, .int .i64 x.steps, fv] := by rw [eW]; exact (Blk.new w _ _).alloc _
  have k1 : Blk W (w.heap.size + 1) 32 zeroD := by rw [eW]; exact Blk.new' (by simp)
  have HB0 := Lib.hid b0
  have HRW := Lib.hid ((HR.out.below b0 (Nat.le_refl _)).mono b0.size)
  obtain ⟨sp, esp⟩ : ∃ s, s = x.spoils n q := ⟨_, rfl⟩
  rw [← esp]
  have HSP := Lib.hid esp
  unfold DiskD.spoils at esp
  clear h b0
  go_enter Tryz.func60, Tryz.ntmps60
  go_upto_region 1 with fail
  rw [← eW]
  clear eW
  have done4 : ∀ (W2 : World) (tmps : Array Value), Blk W2 (w.heap.size + 1) 32 zeroD → tmps.getD 8 undef = .pointer (some ⟨w.heap.size + 1, 0, none⟩) → tmps.getD 9 undef = .int .i64 4 →
      (results Tryz.f60 tmps).run Tryz.prog (W2.setRow (w.heap.size + 1) #[lv, wv, .int .i64 x.steps, fv]) = .ok (.tuple #[.agg #[lv, wv, .int .i64 x.steps, fv], .int .i64 4]) (W2.setRow (w.heap.size + 1) #[lv, wv, .int .i64 x.steps, fv]) := by
    intro W2 tmps h1 t8 t9
    exact results_row_tmp2 Tryz.results60 _ _ _ _ _ t8 (load_rdisk (h1.row _)) t9
  have D4 := Lib.hid done4
  clear done4
  by_cases hneg : n < 0
  · have HF := Lib.hid (show sp = false by rw [esp]; exact decide_eq_false (by omega))
    go_wp2_with (first
      | (refine wpList_load_row rfl 32 _ rfl w.heap.size rfl 32 #[lv, wv, .int .i64 x.steps, fv] (0, 0) _ k0 Tryz.underlying32 rfl (size_rdisk _ _ _ _) ?_)
      | (refine wpList_store_row rfl 32 _ _ rfl (w.heap.size + 1) #[lv, wv, .int .i64 x.steps, fv] rfl rfl 32 zeroD k1 (size_rdisk _ _ _ _) rfl HON.out ?_))
    exact bodyPost_ret (D4.out W _ k1 (by rfl) (by rfl)) rfl ⟨below_row HB0.out _ (by omega), .inr ⟨HF.out, rfl⟩⟩
  · go_wp2_with (refine wpList_load_midG rfl 32 _ rfl w.heap.size 0 rfl #[lv, wv, .int .i64 x.steps, fv] (load_rdisk k0) ?_)
    refine (HSZ.out W HRW.out).mono ?_; rintro e w1 ⟨rfl, hb1⟩
    have j0 := k0.below hb1 k0.lt
    have j1 := k1.below hb1 k1.lt
    have HB1 := Lib.hid (HB0.out.trans (hb1.mono HB0.out.size))
    have HR1 := Lib.hid ((HR.out.below HB1.out (Nat.le_refl _)).mono HB1.out.size)
    clear hb1 k0 k1 HRW HB0
    by_cases hbad : x.size ≤ n ∨ q < 0 ∨ 512 ≤ q
    · have HF := Lib.hid (show sp = false by rw [esp]; exact decide_eq_false (by omega))
      have hs : x.size ≤ n ∨ (¬ x.size ≤ n ∧ q < 0) ∨ (¬ x.size ≤ n ∧ ¬ q < 0 ∧ 512 ≤ q) := by omega
      clear hbad esp
      rcases hs with hs | ⟨h1, hs⟩ | ⟨h1, h2, hs⟩ <;>
      · go_wp2_with (first
          | (refine wpList_load_row rfl 32 _ rfl w.heap.size rfl 32 #[lv, wv, .int .i64 x.steps, fv] (0, 0) _ j0 Tryz.underlying32 rfl (size_rdisk _ _ _ _) ?_)
          | (refine wpList_store_row rfl 32 _ _ rfl (w.heap.size + 1) #[lv, wv, .int .i64 x.steps, fv] rfl rfl 32 zeroD j1 (size_rdisk _ _ _ _) rfl HON.out ?_))
        exact bodyPost_ret (D4.out w1 _ j1 (by rfl) (by rfl)) rfl ⟨below_row HB1.out _ (by omega), .inr ⟨HF.out, rfl⟩⟩
    · have h1 : ¬ x.size ≤ n := by omega
      have h2 : ¬ q < 0 := by omega
      have h3 : ¬ 512 ≤ q := by omega
      have HT := Lib.hid (show sp = true by rw [esp]; exact decide_eq_true (by omega))
      clear hbad esp D4
      obtain ⟨N, rfl⟩ := Int.eq_ofNat_of_zero_le (show 0 ≤ n by omega)
      obtain ⟨o, rfl⟩ := Int.eq_ofNat_of_zero_le (show 0 ≤ q by omega)
      have hNs : (N : Int) < x.size := by omega
      have ho : o < 512 := by omega
      obtain ⟨hl1, al, cl, elv, hl2⟩ := HR1.out.lasts
      have hfl := flatL_len hx
      have hm := hx.2.1
      have h0 := hx.1
      have HLen := Lib.hid hfl
      have HBY := Lib.hid HR1.out.lasts
      obtain ⟨L, eL⟩ : ∃ l, flatL x = l := ⟨_, rfl⟩
      have HLV := Lib.hid elv
      rw [eL] at HBY HLen HLV
      clear elv
      have HEL := Lib.hid eL
      clear eL hl2 hl1 hfl
      have c0 := j0.cell_is 0 rfl
      have HLT := Lib.hid j0.lt
      have J0 := Lib.hid j0
      have J1 := Lib.hid j1
      have HSz := Lib.hid (show x.size ≤ 4096 from hm)
      go_upto_region 3 with fail
      have k0 := j0.alloc (.cells #[] 5)
      have hbX : Below w1.heap.size w1 (w1.alloc (.cells #[] 5)) := (Below.refl _ w1).alloc (Nat.le_refl _) _
      have hown : (w1.alloc (.cells #[] 5)).ownsRow w1.heap.size 5 1 (.slice (some ⟨w1.heap.size, 0, none⟩) 0 0) 0 [] := ⟨rfl, .inr ⟨_, 0, #[], rfl, Nat.le_refl _, heap_alloc_new w1 _, Nat.le_refl _, by simp, rfl, rfl⟩⟩
      have HXB := Lib.hid (show BytesIn (w1.alloc (.cells #[] 5)) w1.heap.size (.slice al L.length cl) L by have := HBY.out.below hbX (Nat.le_refl _); rwa [HLV.out] at this)
      have HL1 := Lib.hid (show L.length ≤ 2097152 by have := HLen.out; omega)
      have cA := k0.cell_is 0 rfl
      go_wp2_with (at_builtin; refine wpList_append_bytes_at (w1.alloc (.cells #[] 5)) rfl _ _ rfl w1.heap.size w1.heap.size 0 _ [] rfl hown al L.length cl L HLV.out rfl HXB.out (by have := HL1.out; omega) (by simp) ?_; intro v2 w2 hO2 hg2 hn2; rw [Nat.zero_add, List.nil_append] at hO2; obtain ⟨a2, cap2, rfl⟩ := slice_form hO2; have k2 := (hg2.block _ k0.lt (fun e => absurd (Option.some.inj e) (Nat.ne_of_lt HLT.out))).trans k0; have c2 := Blk.cell_is k2 0 rfl; have f2 := Blk.frozen k2 0)
      have hB2 : Below w1.heap.size w1 w2 := hbX.grown hg2 hbX.size (fun r hr => by cases hr; exact Nat.le_refl _)
      have HO2 := Lib.hid hO2
      clear hn2
      obtain ⟨g, rfl, hgB, hgL⟩ : ∃ g, a2 = some ⟨g, 0, none⟩ ∧ w1.heap.size ≤ g ∧ g < w2.heap.size := by
        rcases hO2.2 with ⟨h0, hn0⟩ | ⟨g2, cap', cur, h0, hBg, hg, _⟩
        · have := HLen.out
          have hh : L.length = 0 := hn0
          omega
        · cases h0; exact ⟨g2, rfl, hBg, Blk.lt (t := 5) (cs := cur) hg⟩
      have hGg : w.heap.size < g := Nat.lt_of_lt_of_le HLT.out hgB
      obtain ⟨W3, eW3⟩ : ∃ W, W = w2.setCell ⟨w.heap.size, 0, none⟩ (.slice (some ⟨g, 0, none⟩) L.length cap2) := ⟨_, rfl⟩
      have k3 : Blk W3 w.heap.size 32 #[.slice (some ⟨g, 0, none⟩) L.length cap2, wv, .int .i64 x.steps, fv] := by rw [eW3]; exact Blk.set_ (w := w2) (t := 32) (cs := #[lv, wv, .int .i64 x.steps, fv]) k2 0 _
      have ho3 : Out (fun i => i = w.heap.size) w2 W3 := by rw [eW3]; exact out_set rfl
      have o3 := ownsRow_out ho3 hO2 (fun i hi e => by cases hi; exact absurd e (Nat.ne_of_gt hGg))
      have HY := Lib.hid (show L[512 * N + o]? = some ((x.lasts N).getD o 0) by rw [← HEL.out, flatL_at hx N o hNs ho, List.getElem?_eq_getElem (by rw [hx.2.2.1]; exact ho), List.getD_eq_getElem?_getD, List.getElem?_eq_getElem (by rw [hx.2.2.1]; exact ho)]; rfl)
      obtain ⟨y, ey⟩ : ∃ y, y = (x.lasts N).getD o 0 := ⟨_, rfl⟩
      rw [← ey] at HY
      have HEY := Lib.hid ey
      clear ey
      have hiL : ((512 * N + o : Nat) : Int) < (L.length : Int) := by have := HLen.out; omega
      obtain ⟨I, eI⟩ : ∃ I, I = 512 * N + o := ⟨_, rfl⟩
      have hmul : IntKind.i64.wrap (512 * (N : Int)) = 512 * N := by rw [IntKind.wrap_i64]; omega
      have hadd : IntKind.i64.wrap (512 * (N : Int) + o) = (I : Int) := by rw [IntKind.wrap_i64]; omega
      rw [← eI] at HY hiL
      have cI : W3.cell? ⟨g, I, none⟩ = some (vu8 y) := by
        have := o3.cells rfl I _ (show (L.map vu8)[I]? = some (vu8 y) by rw [List.getElem?_map, HY.out]; rfl)
        rwa [add_at, Nat.zero_add] at this
      have c0' := k3.cell_is 0 rfl
      have fI := ownsRow_frozen o3 I
      have HO3 := Lib.hid o3
      have HB3 := Lib.hid hB2
      have K3 := Lib.hid k3
      have HOU := Lib.hid ho3
      have HEI := Lib.hid eI
      have K13 := Lib.hid (HOU.out.blk (J1.out.below HB3.out J1.out.lt) (by omega))
      rw [← eW3]
      clear eW3 hO2 o3 hB2 k3 ho3 k2 c2 f2 eI hg2 hown k0 cA c0 hbX
      have hB4 : Below w.heap.size w W3 := (HB1.out.trans (HB3.out.mono HB1.out.size)).trans (HOU.out.below (by have := HB1.out.size; have := HB3.out.size; omega) (fun i hi e => by omega))
      have HB4 := Lib.hid hB4
      have cId : W3.drew.cell? ⟨g, I, none⟩ = some (.int .u8 (y.toNat : Int)) := cI
      have fId : W3.drew.frozen? ⟨g, I, none⟩ = false := fI
      clear hB4 cI fI
      refine wp_region_held_drew (S := (fun w' => w'.cell? ⟨w.heap.size, 0, none⟩ = some (.slice (some ⟨g, 0, none⟩) L.length cap2))) (by kernel_rfl) (by first | exact c0' | ((try dsimp only); exact c0')) (fun hHeld => ?_)
      refine tk 0 ?_
      refine tk 1 ?_
      refine tk 2 ?_
      refine tk 3 ?_
      refine tk 4 ?_
      refine tk 5 ?_
      refine tk 6 ?_
      refine tk 7 ?_
      refine tk 8 ?_
      refine tk 9 ?_
      refine tk 10 ?_
      refine tk 11 ?_
      refine tk 12 ?_
      refine tk 14 ?_
      refine rd 13 fun K hK => ?_
      try rw [if_pos (by rfl)]
      go_simp
      refine hK.out _ _ (by first | exact c0' | ((try dsimp only); exact c0')) (fun hHeld => ?_)
      clear hK K
      try simp only [Act.put, pz0, pz1, pz2, pz3, pz4, pz5]
      refine tk 15 ?_
      refine tk 16 ?_
      refine rd 17 fun K hK => ?_
      try rw [if_pos (by rfl)]
      go_simp
      obtain ⟨W4, eW4⟩ : ∃ W, W = (W3.setCell ⟨g, I, none⟩ (.int .u8 (bits .xor .u8 (y.toNat : Int) (c.toNat : Int)))).drew := ⟨_, rfl⟩
      have o4 : W4.ownsRow w1.heap.size 5 1 (.slice (some ⟨g, 0, none⟩) L.length cap2) L.length ((L.set I (y ^^^ c)).map vu8) := by
        have h1 := ownsRow_set HO3.out I (.int .u8 (bits .xor .u8 (y.toNat : Int) (c.toNat : Int))) (by rw [List.length_map]; omega)
        have h2 := ownsRow_out (F := fun _ => False) (outB (Below.refl _ (W3.setCell ⟨g, I, none⟩ (.int .u8 (bits .xor .u8 (y.toNat : Int) (c.toNat : Int))))).drew) h1 (fun _ _ => id)
        rw [eW4, List.map_set]
        rwa [xor_u8] at h2 ⊢
      have k4 : Blk W4 w.heap.size 32 #[.slice (some ⟨g, 0, none⟩) L.length cap2, wv, .int .i64 x.steps, fv] := by rw [eW4]; exact (Blk.far K3.out (p := ⟨g, I, none⟩) (fun e => absurd e (Nat.ne_of_lt hGg)) _).drew
      have ho4 : Out (fun i => i = g) W3 W4 := by rw [eW4]; exact Out.trans (F := fun i => i = g) (G := fun i => i = g) (out_set (F := fun i => i = g) rfl) (outB (Below.refl _ _).drew) (fun _ _ h => h)
      have hB4 : Below w.heap.size w W4 := HB4.out.trans (ho4.below HB4.out.size (fun i hi e => by omega))
      clear HB4
      have HB4 := Lib.hid hB4
      have K14 := Lib.hid (ho4.blk K13.out (fun e => by have := J1.out.lt; omega))
      have HO4 := Lib.hid o4
      have c04 := k4.cell_is 0 rfl
      rw [← eW4]
      clear eW4 hB4 o4 cId fId
      refine hK.out _ _ (by first | exact c04 | ((try dsimp only); exact c04)) (fun hHeld => ?_)
      clear hK K
      refine wpAnyH_done (by kernel_rfl) ?_ _
      try simp only [Act.put, pz0, pz1, pz2, pz3, pz4, pz5]
      obtain ⟨i5, z5, HT5⟩ := rowT_rwait
      have HTT := Lib.hid HT5
      have HWI := Lib.hid (show WaitsIn W4 W4.heap.size wv [] by
        have := (HR.out.waits.below HB4.out (Nat.le_refl _)).more HB4.out.size
        rwa [hw] at this)
      obtain ⟨_, _, aw, cw, ewv, _⟩ := HWI.out
      have HWV := Lib.hid ewv
      have HWJ := Lib.hid (show WaitsIn (W4.alloc (.cells #[] 157)) W4.heap.size (.slice aw 0 cw) [] by
        have := HWI.out.below ((Below.refl _ W4).alloc (Nat.le_refl _) (.cells #[] 157)) (Nat.le_refl _)
        rwa [HWV.out] at this)
      clear ewv HT5
      have k5 := k4.alloc (.cells #[] 157)
      have hown5 : (W4.alloc (.cells #[] 157)).ownsRow W4.heap.size 157 513 (.slice (some ⟨W4.heap.size, 0, none⟩) 0 0) 0 [] := ⟨rfl, .inr ⟨_, 0, #[], rfl, Nat.le_refl _, heap_alloc_new W4 _, Nat.le_refl _, by simp, rfl, rfl⟩⟩
      have HLT4 := Lib.hid k4.lt
      have c15 := k5.cell_is 1 rfl
      go_wp2_with (at_builtin; refine wpList_plain rfl fun K' hK' => ?_; refine wp_append_waits HTT.out (W4.alloc (.cells #[] 157)) _ _ rfl W4.heap.size W4.heap.size 0 _ [] rfl hown5 aw 0 cw [] HWV.out rfl HWJ.out (by decide) (by simp) ?_; intro v5 w5 hO5 hg5; rw [Nat.add_zero] at hO5; obtain ⟨a5, cap5, rfl⟩ := slice_form hO5; refine hK' _ _ ?_; have k6 := (hg5.block _ k5.lt (fun e => absurd (Option.some.inj e) (Nat.ne_of_lt HLT4.out))).trans k5; have c6 := Blk.cell_is k6 1 rfl; have f6 := Blk.frozen k6 1)
      have hB5 : Below W4.heap.size W4 w5 := ((Below.refl _ W4).alloc (Nat.le_refl _) _).grown hg5 (by simp) (fun r hr => by cases hr; exact Nat.le_refl _)
      obtain ⟨W6, eW6⟩ : ∃ W, W = w5.setCell ⟨w.heap.size, 1, none⟩ (.slice a5 0 cap5) := ⟨_, rfl⟩
      have k6' : Blk W6 w.heap.size 32 #[.slice (some ⟨g, 0, none⟩) L.length cap2, .slice a5 0 cap5, .int .i64 x.steps, fv] := by rw [eW6]; exact Blk.set_ (w := w5) (t := 32) (cs := #[.slice (some ⟨g, 0, none⟩) L.length cap2, wv, .int .i64 x.steps, fv]) k6 1 _
      have ho6 : Out (fun i => i = w.heap.size) w5 W6 := by rw [eW6]; exact out_set rfl
      have hB6 : Below w.heap.size w W6 := (HB4.out.trans (hB5.mono HB4.out.size)).trans (ho6.below (by have := HB4.out.size; have := hB5.size; omega) (fun i hi e => by omega))
      have hg4 : g < W4.heap.size := ownBlock_lt HO4.out rfl
      have o6 := ownsRow_out ho6 (ownsRow_out (F := fun _ => False) (outB hB5) HO4.out (fun _ _ => id)) (fun i hi e => by cases hi; exact absurd e (Nat.ne_of_gt hGg))
      have ha5 : ∀ i, (Value.slice a5 0 cap5).ownBlock = some i → W4.heap.size ≤ i ∧ i < W6.heap.size := fun i hi => ⟨(World.ownsRow.lt hO5 i hi).1, Nat.lt_of_lt_of_le (ownBlock_lt hO5 hi) ho6.size⟩
      have k16 := ho6.blk (K14.out.below hB5 K14.out.lt) (by omega)
      obtain ⟨_, _, _, efv, _⟩ := HR.out.fails
      have HFV := Lib.hid efv
      clear efv
      have HK6 := Lib.hid k6'
      have HK16 := Lib.hid k16
      have HB6 := Lib.hid hB6
      have HO6 := Lib.hid o6
      have HA5 := Lib.hid ha5
      have c66 := k6'.cell_is 1 rfl
      rw [← eW6]
      clear eW6 k6' ho6 hB6 o6 ha5 k16 hO5 hg5 k6 c6 f6 hB5 k5 hown5 c15 k4
      go_loopw [10] (fun i wr => i = .int .i64 0 ∧ wr = W6) (fun _ _ => 0)
      case atStart => exact ⟨rfl, rfl⟩
      case round =>
        obtain ⟨rfl, rfl⟩ := hrel
        go_wp2_with (first
          | (refine wpList_load_row rfl 32 _ rfl w.heap.size rfl 32 #[.slice (some ⟨g, 0, none⟩) L.length cap2, .slice a5 0 cap5, .int .i64 x.steps, fv] (0, 0) _ HK6.out Tryz.underlying32 rfl (size_rdisk _ _ _ _) ?_)
          | (refine wpList_store_row rfl 32 _ _ rfl (w.heap.size + 1) #[.slice (some ⟨g, 0, none⟩) L.length cap2, .slice a5 0 cap5, .int .i64 x.steps, fv] rfl rfl 32 zeroD HK16.out (size_rdisk _ _ _ _) rfl (by rw [HFV.out]; simp [Value.oneCell']) ?_))
        have ho7 : Out (fun i => i = w.heap.size + 1) wr (wr.setRow (w.heap.size + 1) #[.slice (some ⟨g, 0, none⟩) L.length cap2, .slice a5 0 cap5, .int .i64 x.steps, fv]) := out_row _ rfl
        have hB7 := below_row HB6.out #[.slice (some ⟨g, 0, none⟩) L.length cap2, .slice a5 0 cap5, .int .i64 x.steps, fv] (g := w.heap.size + 1) (by omega)
        have hg1 : w.heap.size + 1 < g := Nat.lt_of_lt_of_le J1.out.lt hgB
        have o7 := ownsRow_out ho7 HO6.out (fun i hi e => by cases hi; exact absurd e (Nat.ne_of_gt hg1))
        refine bodyPost_ret (results_row_tmp2 Tryz.results60 _ _ _ _ _ (by rfl) (load_rdisk (HK16.out.row _)) (by rfl)) rfl ⟨hB7, .inl ⟨HT.out, _, _, rfl, ⟨?_, ?_, (HR.out.fails.below hB7 (Nat.le_refl _)).mono hB7.size⟩, ?_, ?_⟩⟩
        · rw [Int.toNat_natCast, flat_flip hx N o hNs ho, HEL.out, ← HEI.out, ← HEY.out]
          obtain ⟨b1, a, cap, b2, b3, b4⟩ := BytesIn.own o7
          refine ⟨b1, a, cap, b2, b3, fun j c hc => ?_⟩
          obtain ⟨g', off, e', hg', hr⟩ := b4 j c hc
          exact ⟨g', off, e', ownBlock_lt o7 (by rw [b2, e']; rfl), hr⟩
        · show WaitsIn _ _ _ (x.waits.map _)
          rw [hw]
          exact ⟨Nat.zero_le _, (fun _ h => by cases h), a5, cap5, rfl, fun i y h => by simp at h⟩
        · exact fun i hi => by cases hi; exact ⟨Nat.le_of_lt hGg, ownBlock_lt o7 rfl⟩
        · exact fun i hi => ⟨by have := (HA5.out i hi).1; have := HB4.out.size; omega, Nat.lt_of_lt_of_le (HA5.out i hi).2 ho7.size⟩
end Go.Proofs.YtemcgfncahccgaaGreat
namespace Go.Proofs.YtemcgfncahccgaaGreat
open Go.RowKit Go.Shelf

theorem dspoil_no (D : DiskP) (x : DiskD) (n q : Int) (c : UInt8) (w : World) (h : DiskAt w D x) (hx : x.ok) (hn : x.spoils n q = false) :
  Calls Tryz.prog 61 #[ptr D.p, .int .i64 n, .int .i64 q, .int .u8 (c.toNat : Int)] w fun e w' => e = .returned (.int .i64 4) ∧ w = w' := by
 have HR := Lib.hid (dright_no D x n q w h hx (by unfold DiskD.spoils at hn; have := of_decide_eq_false hn; omega))
 unfold ptr at *
 clear h hx hn
 go_enter Tryz.func61, Tryz.ntmps61
 go_wp2_with fail
 refine HR.out.mono ?_; rintro e w1 ⟨rfl, rfl⟩
 go_wp2_with fail
 go_ret
 exact ⟨rfl, rfl⟩
theorem spoil_ok {x : DiskD} (hx : x.ok) (n : Int) (o : Nat) (c : UInt8) : (x.spoil n o c).ok := by
 obtain ⟨o1, o2, o3, o4, o5, o6, o7⟩ := hx
 refine ⟨o1, o2, fun m => ?_, fun y hy => ?_, o5, o6, by show (x.waits.map _).length ≤ _; rw [List.length_map]; exact o7⟩
 ·show (if m = n then flipL (x.lasts n) o c else x.lasts m).length = 512
  split
  ·rw [flipL_len]; exact o3 _
  ·exact o3 _
 ·obtain ⟨z, hz, rfl⟩ := List.mem_map.1 (show y ∈ x.waits.map (flipW n o c) from hy)
  exact flipW_len n o c z (o4 z hz)
/-- a byte of the cache's disk is spoiled, if there is one -/
def CacheD.spoil (x : CacheD) (n q : Int) (c : UInt8) : CacheD := if x.disk.spoils n q = true then { x with disk := x.disk.spoil n q.toNat c } else x
def CacheD.spoilE (x : CacheD) (n q : Int) : Int := if x.disk.spoils n q = true then 0 else 4
theorem COk.spoil {x : CacheD} {k : Int} (h : COk x k) (n q : Int) (c : UInt8) : COk (x.spoil n q c) k := by
 unfold CacheD.spoil
 split
 ·exact ⟨h.hand, h.room, h.len, spoil_ok h.disk _ _ _, h.steps, by show x.disk.waits.map _ = []; rw [h.waits]; rfl⟩
 ·exact h
theorem DStep.pstep {D : DiskP} {w w' : World} (h : DStep D D w w') (C : CacheP) : PStep D C C w w' := ⟨h.out.sub (fun _ h => .inl h), ⟨rfl, rfl, rfl, rfl⟩, fun _ h => .inl h⟩
section
variable {w : World} {D : DiskP} {C : CacheP} {cv : Value} {x : CacheD} {k : Int}
theorem pspoil (H : Both w D C cv x) (O : COk x k) (n q : Int) (c : UInt8) :
  Calls Tryz.prog 61 #[ptr D.p, .int .i64 n, .int .i64 q, .int .u8 (c.toNat : Int)] w fun e w' => e = .returned (.int .i64 (x.spoilE n q)) ∧ PPost D C w w' (x.spoil n q c) := by
 unfold CacheD.spoilE CacheD.spoil
 by_cases hs : x.disk.spoils n q = true
 ·rw [if_pos hs, if_pos hs]
  have hh := of_decide_eq_true hs
  obtain ⟨o, rfl⟩ := Int.eq_ofNat_of_zero_le hh.2.2.1
  refine (dspoil_any D x.disk n o c w H.disk O.disk ⟨hh.1, hh.2.1⟩ (by omega)).mono ?_
  rintro e w' ⟨h1, h2, h3⟩
  refine ⟨h1, by rw [Int.toNat_natCast]; exact h2, C, ?_, h3.pstep C⟩
  exact CacheRaw.out H.cache h3.out (fun i hi h => H.sep i h hi)
 ·rw [if_neg hs, if_neg hs]
  refine (dspoil_no D x.disk n q c w H.disk O.disk (by simpa using hs)).mono ?_
  rintro e w' ⟨h1, rfl⟩
  exact ⟨h1, H.disk, C, H.cache, ⟨Out.refl _ _, ⟨rfl, rfl, rfl, rfl⟩, fun _ h => .inl h⟩⟩
theorem rspoil_cache (x : CacheD) (n q : Int) (c : UInt8) (lv wv fv : Value) (w : World) (h : RDisk w w.heap.size lv wv fv x.disk) (hx : x.disk.ok) (hw : x.disk.waits = []) :
  Calls Tryz.prog 60 #[.agg #[lv, wv, .int .i64 x.disk.steps, fv], .int .i64 n, .int .i64 q, vu8 c] w fun e w' => Below w.heap.size w w' ∧ ∃ lv' wv', e = .returned (.tuple #[.agg #[lv', wv', .int .i64 x.disk.steps, fv], .int .i64 (x.spoilE n q)]) ∧
   RDisk w' w'.heap.size lv' wv' fv (x.spoil n q c).disk ∧ VNew w.heap.size w'.heap.size lv lv' ∧ VNew w.heap.size w'.heap.size wv wv' := by
 refine (rdspoil_any x.disk n q c lv wv fv w h hx hw).mono ?_
 rintro e w' ⟨hb, ⟨hs, lv', wv', rfl, hR, h1, h2⟩ | ⟨hs, rfl⟩⟩
 ·refine ⟨hb, lv', wv', by unfold CacheD.spoilE; rw [if_pos hs], by unfold CacheD.spoil; rw [if_pos hs]; exact hR, fun g hg => .inr (h1 g hg), fun g hg => .inr (h2 g hg)⟩
 ·refine ⟨hb, lv, wv, by unfold CacheD.spoilE; rw [if_neg (by rw [hs]; decide)], by unfold CacheD.spoil; rw [if_neg (by rw [hs]; decide)]; exact (h.below hb (Nat.le_refl _)).mono hb.size, VNew.refl _ _ _, VNew.refl _ _ _⟩
theorem spoil_same (x : CacheD) (n q : Int) (c : UInt8) : (x.spoil n q c).disk.steps = x.disk.steps ∧ (x.spoil n q c).room = x.room ∧ (x.spoil n q c).places = x.places ∧ (x.spoil n q c).hand = x.hand := by
 unfold CacheD.spoil
 split <;> exact ⟨rfl, rfl, rfl, rfl⟩
end
set_option maxRecDepth 100000 in
set_option maxHeartbeats 4000000 in
theorem act_spoil {w : World} {D : DiskP} {C : CacheP} {cv : Value} {x : CacheD} {k : Int} (H : Both w D C cv x) (O : COk x k) (a : ActD) (ha : a.ok) (h0 : ¬ a.what = 0) (h1 : ¬ a.what = 1) (h2 : ¬ a.what = 2) (h3 : ¬ a.what = 3) (h4 : ¬ a.what = 4) :
  Calls Tryz.prog 30 #[ptr D.p, ptr C.g, cv, .agg a.cells.toArray] w (ActPost D C cv (x.spoil a.oid a.at_ a.bits) w) := by
 obtain ⟨lv, wv, fv, pv, hv, rfl, hr1, hr2, hr3⟩ := H.ref
 have HI7 := Lib.hid (info_cache (XV := #[lv, wv, .int .i64 x.disk.steps, fv, .int .i64 x.room, pv, hv]) rfl)
 obtain ⟨ac, eac⟩ : ∃ ac, ac = a.cells.toArray := ⟨_, rfl⟩
 obtain ⟨t, et⟩ : ∃ t, t = a.what := ⟨_, rfl⟩
 have a0 : ac[0]? = some (.int .i64 t) := by rw [eac, et]; rfl
 have a1 : ac[1]? = some (.int .i64 a.oid) := by rw [eac]; rfl
 have a2 : ac[2]? = some (.int .i64 a.at_) := by rw [eac]; rfl
 have a3 : ac[166]? = some (vu8 a.bits) := by
  rw [eac, List.getElem?_toArray]
  show (Value.int .i64 a.what :: .int .i64 a.oid :: .int .i64 a.at_ :: (a.o.cells ++ [vu8 a.bits]))[163 + 1 + 1 + 1]? = some _
  rw [List.getElem?_cons_succ, List.getElem?_cons_succ, List.getElem?_cons_succ, List.getElem?_append_right (by rw [ObjD.len ha.o]; exact Nat.le_refl _), ObjD.len ha.o]
  rfl
 rw [← et] at h0 h1 h2 h3 h4
 rw [← eac]
 obtain ⟨W, eW⟩ : ∃ W, W = ((w.alloc (.cells #[lv, wv, .int .i64 x.disk.steps, fv, .int .i64 x.room, pv, hv] 61)).alloc (.cells ac 49)).alloc (.cells zeroC 61) := ⟨_, rfl⟩
 have hbW : Below w.heap.size w W := by rw [eW]; exact (((Below.refl _ w).alloc (Nat.le_refl _) _).alloc (by simp) _).alloc (by simp; omega) _
 have k0 : Blk W w.heap.size 61 #[lv, wv, .int .i64 x.disk.steps, fv, .int .i64 x.room, pv, hv] := by rw [eW]; exact ((Blk.new w _ _).alloc _).alloc _
 have k1 : Blk W (w.heap.size + 1) 49 ac := by rw [eW]; exact (Blk.new2 w _ _ _).alloc _
 have k2 : Blk W (w.heap.size + 2) 61 zeroC := by rw [eW]; exact Blk.new' (by simp)
 have HB := Lib.hid hbW
 have HBo := Lib.hid H
 have hfar : ∀ i, w.heap.size ≤ i → ¬ (D.has i ∨ C.own i) := fun i hi h => by
  rcases h with h | h
  ·have := H.disk.has_lt i h; omega
  ·have := H.cache.has_lt i (.inl h); omega
 have HFAR := Lib.hid hfar
 have HP := Lib.hid (fun X (hX : Below w.heap.size w X) => pspoil (H.below hX) O a.oid a.at_ a.bits)
 have HRG := Lib.hid (rspoil_cache x a.oid a.at_ a.bits lv wv fv W ((hr1.below hbW (Nat.le_refl _)).mono hbW.size) O.disk O.waits)
 have HSAME := Lib.hid (spoil_same x a.oid a.at_ a.bits)
 have HONE := Lib.hid (fun (s r : Int) (l v : Value) (h : l.oneCell' = true ∧ v.oneCell' = true) => rc_one (s := s) (room := r) (A := undef) (show l.oneCell' = true ∧ v.oneCell' = true ∧ fv.oneCell' = true from ⟨h.1, h.2, hr1.ones.2.2⟩) hr2.one hr3.one)
 have HR2 := Lib.hid (And.intro hr2 hr3)
 have HFV := Lib.hid hr1.ones.2.2
 obtain ⟨ge, ege⟩ : ∃ ge, ge = x.spoilE a.oid a.at_ := ⟨_, rfl⟩
 obtain ⟨x2, ex2⟩ : ∃ x2, x2 = x.spoil a.oid a.at_ a.bits := ⟨_, rfl⟩
 rw [← ex2] at HP HRG HSAME
 rw [← ege] at HP HRG
 rw [← ex2]
 have c0 := k1.cell_is 0 a0
 unfold ptr at *
 clear H O hbW hfar ege ex2 a0 eac ha et hr1 hr2 hr3
 go_enter Tryz.func30, Tryz.ntmps30
 go_upto_region 1 with fail
 rw [← eW]
 clear eW
 have c1 := k1.cell_is 1 a1
 have c2 := k1.cell_is 2 a2
 have c3 := k1.cell_is 166 a3
 have hkW := k2.lt
 go_wp2_with (first
  | (refine wpList_load_midG rfl 32 _ rfl w.heap.size 0 rfl #[lv, wv, .int .i64 x.disk.steps, fv] (load_rdiskC k0) ?_)
  | fail)
 refine (HRG.out).mono ?_; rintro e w1 ⟨hb1, lv', wv', rfl, hd1, hn1, hn2⟩
 have hs01 := hb1.size
 have hs0 := HB.out.size
 have hr1 : RCacheIn w1 w1.heap.size (.agg #[lv', wv', .int .i64 x.disk.steps, fv, .int .i64 x.room, pv, hv]) x2 := by
  have hbw := HB.out.trans (hb1.mono hs0)
  refine ⟨lv', wv', fv, pv, hv, by rw [HSAME.out.1, HSAME.out.2.1], hd1, ?_, ?_⟩
  ·rw [HSAME.out.2.2.1]; exact (HR2.out.1.below hbw (Nat.le_refl _)).mono hbw.size
  ·rw [HSAME.out.2.2.2]; exact HR2.out.2.up hbw
 have hn : CNew W.heap.size w1.heap.size (.agg #[lv, wv, .int .i64 x.disk.steps, fv, .int .i64 x.room, pv, hv]) (.agg #[lv', wv', .int .i64 x.disk.steps, fv, .int .i64 x.room, pv, hv]) := fun g hg => by
  rcases foot7.1 hg with h | h | h | h | h
  ·rcases hn1 g h with h | h
   ·exact .inl (foot7.2 (.inl h))
   ·exact .inr h
  ·rcases hn2 g h with h | h
   ·exact .inl (foot7.2 (.inr (.inl h)))
   ·exact .inr h
  ·exact .inl (foot7.2 (.inr (.inr (.inl h))))
  ·exact .inl (foot7.2 (.inr (.inr (.inr (.inl h)))))
  ·exact .inl (foot7.2 (.inr (.inr (.inr (.inr h)))))
 have HD4 := Lib.hid (hd1.one x.disk.steps)
 have HON := Lib.hid (HONE.out x.disk.steps x.room lv' wv' ⟨hd1.ones.1, hd1.ones.2.1⟩)
 have HR1 := Lib.hid (And.intro hr1 (And.intro hb1 hn))
 have q0 := k0.below hb1 k0.lt
 have q1 := k1.below hb1 k1.lt
 have q2 := k2.below hb1 k2.lt
 clear hd1 hn1 hn2 hn hr1 k0 k1 k2 c0 c1 c2 c3 HRG HONE
 have hzd := Blk.new w1 32 zeroD
 go_upto_region 20 with (first
  | (refine wpList_store_row rfl 32 _ _ rfl w1.heap.size #[lv', wv', .int .i64 x.disk.steps, fv] rfl rfl 32 _ hzd (size_rdisk _ _ _ _) rfl HD4.out ?_; rw [World.setRow_alloc_new])
  | fail)
 obtain ⟨W2, e2⟩ : ∃ W2, W2 = w1.alloc (.cells #[lv', wv', .int .i64 x.disk.steps, fv] 32) := ⟨_, rfl⟩
 have hb2 : Below w1.heap.size w1 W2 := by rw [e2]; exact (Below.refl _ _).alloc (Nat.le_refl _) _
 have t26 : Blk W2 w1.heap.size 32 #[lv', wv', .int .i64 x.disk.steps, fv] := by rw [e2]; exact Blk.new _ _ _
 rw [← e2]
 clear e2 hzd
 have hs12 := hb2.size
 have r0 := q0.below hb2 q0.lt
 have r1 := q1.below hb2 q1.lt
 have r2 := q2.below hb2 q2.lt
 have TH := Lib.hid (there_blk r0 0 4 (by show 4 ≤ 7; omega))
 have x0' := setCells_blk w.heap.size 61 [lv', wv', .int .i64 x.disk.steps, fv] 0 W2 _ r0 (by show 0 + 4 ≤ 7; omega)
 obtain ⟨Z, eZ⟩ : ∃ Z, Z = W2.setCells w.heap.size 0 [lv', wv', .int .i64 x.disk.steps, fv] := ⟨_, rfl⟩
 rw [← eZ] at x0'
 have t6 : Blk Z w.heap.size 61 #[lv', wv', .int .i64 x.disk.steps, fv, .int .i64 x.room, pv, hv] := x0'
 have hoZ : Out (fun i => i = w.heap.size) W2 Z := by rw [eZ]; exact out_setCells (F := fun i => i = w.heap.size) w.heap.size rfl _ _ _
 have t7 := hoZ.blk r1 (by omega)
 have t8 := hoZ.blk r2 (by omega)
 go_upto_region 21 with (first
  | (refine wpList_load_row rfl 32 _ rfl w1.heap.size rfl 32 #[lv', wv', .int .i64 x.disk.steps, fv] (0, 0) _ t26 Tryz.underlying32 rfl (size_rdisk _ _ _ _) ?_)
  | (refine wpList_store_mid rfl 32 _ _ rfl w.heap.size 0 #[lv', wv', .int .i64 x.disk.steps, fv] rfl rfl TH.out (size_rdisk _ _ _ _) HD4.out ?_))
 rw [← eZ]
 clear eZ x0' q0 q1 q2 r0 r1 r2 t26 hb1
 obtain ⟨hr1, hb1, hn1⟩ := HR1.out
 have hsZ := hoZ.size
 have hb1w : Below w.heap.size w W2 := (HB.out.trans (hb1.mono hs0)).trans (hb2.mono (by omega))
 have hbwZ : Below w.heap.size w Z := hb1w.trans (hoZ.below (by omega) (fun i hi e => by omega))
 have HBZ := Lib.hid hbwZ
 have hnot : ∀ g, g ∈ footV (.agg #[lv', wv', .int .i64 x.disk.steps, fv, .int .i64 x.room, pv, hv]) → ¬ g = w.heap.size := fun g hg e => by
  rcases hn1 g hg with h | h
  ·have := (HBo.out.far g h).1; omega
  ·omega
 have HRZ := Lib.hid (And.intro ((hr1.up hb2).outO hoZ hnot) (hn1.mono hs0 (show w1.heap.size ≤ Z.heap.size by omega)))
 have HN1 := Lib.hid hn1
 have HI72 := Lib.hid (info_cache (XV := #[lv', wv', .int .i64 x.disk.steps, fv, .int .i64 x.room, pv, hv]) rfl)
 have HNT := Lib.hid hnot
 clear hr1 hb1 hn1 HR1 hb1w hbwZ hb2 hoZ hnot
 obtain ⟨XV2, eXV⟩ : ∃ X : Array Value, X = #[lv', wv', .int .i64 x.disk.steps, fv, .int .i64 x.room, pv, hv] := ⟨_, rfl⟩
 rw [← eXV] at HRZ HN1 HI72 HNT HON t6
 have HS72 := Lib.hid (show XV2.size = 7 by rw [eXV]; rfl)
 have HZ7 := Lib.hid (show zeroC.size = XV2.size by rw [eXV]; rfl)
 clear eXV
 have n6 : ¬ (D.has w.heap.size ∨ C.own w.heap.size ∨ w.heap.size = w.heap.size + 2) := fun h => by
  rcases h with h | h | h
  ·exact HFAR.out _ (Nat.le_refl _) (.inl h)
  ·exact HFAR.out _ (Nat.le_refl _) (.inr h)
  ·omega
 have n7 : ¬ (D.has (w.heap.size + 1) ∨ C.own (w.heap.size + 1) ∨ w.heap.size + 1 = w.heap.size + 2) := fun h => by
  rcases h with h | h | h
  ·exact HFAR.out _ (by omega) (.inl h)
  ·exact HFAR.out _ (by omega) (.inr h)
  ·omega
 refine jb (fun X => Out (fun i => D.has i ∨ C.own i ∨ i = w.heap.size + 2) Z X) (fun _ => True) 100 (outB (Below.refl _ _).drew) trivial fun hHeld hJ => ?_
 refine jy false 0 rfl (yieldsIf_load_mid (by rfl) 61 _ rfl w.heap.size 0 rfl XV2.toList _ (fun w' h => blk_range (h.1.blk t6 n6)) Tryz.underlying61 rfl (by simpa using HI72.out)) ?_
 refine jk false 1 ?_
 refine jk false 2 ?_
 refine jk false 3 ?_ (hy := by intro X hX _; have hc := (hX.blk t7 n7).cell_is 1 a1; go_simp; try with_reducible rfl)
 refine jk false 4 ?_
 refine jk false 5 ?_ (hy := by intro X hX _; have hc := (hX.blk t7 n7).cell_is 2 a2; go_simp; try with_reducible rfl)
 refine jk false 6 ?_
 refine jk false 7 ?_ (hy := by intro X hX _; have hc := (hX.blk t7 n7).cell_is 166 a3; go_simp; try with_reducible rfl)
 refine jk false 10 ?_
 refine jr 8 fun K hK => ?_
 go_simp
 refine (HP.out Z.drew HBZ.out.drew).mono ?_; rintro r X2 ⟨rfl, hd2, C2, hc2, hs2⟩
 dsimp only
 have hoX : Out (fun i => D.has i ∨ C.own i ∨ i = w.heap.size + 2) Z X2 := hHeld.trans hs2.out (fun i _ h => by rcases h with h | h; exact .inl h; exact .inr (.inl h))
 obtain ⟨hBo2, hPs2⟩ := HBo.out.rp_ HBZ.out.drew (HRZ.out.1.up (Below.refl _ Z).drew) HRZ.out.2 hd2 hc2 hs2
 have t8X := hs2.out.blk t8.drew (fun h => HFAR.out _ (by omega) h)
 have HBX := Lib.hid hBo2
 have HPX := Lib.hid hPs2
 have HN2 := Lib.hid hs2.new_
 have hsX : Z.heap.size ≤ X2.heap.size := hs2.out.size
 clear hd2 hc2 hs2 hBo2 hPs2 HP
 refine hK.out _ _ ⟨hoX, fun _ => trivial⟩ ?_
 clear hK K hHeld
 have hHeld := hoX
 refine jr 9 fun K hK => ?_
 go_simp
 refine (num17_any _ _).mono ?_; rintro r X3 ⟨rfl, rfl⟩
 dsimp only
 refine hK.out _ _ ⟨hHeld, fun _ => trivial⟩ ?_
 clear hK K
 refine jk false 11 ?_
 refine jr 12 fun K hK => ?_
 rw [if_pos (show Region.wanted _ _ = true from rfl)]
 refine wp_store_row 61 _ _ rfl (w.heap.size + 2) XV2 rfl rfl 61 _ t8X HI72.out HZ7.out HON.out ?_
 have ho8 : Out (fun i => i = w.heap.size + 2) X3 (X3.setRow (w.heap.size + 2) XV2) := out_row _ rfl
 have t9 := t8X.row XV2
 refine hK.out _ _ ⟨hHeld.trans ho8 (fun i _ h => .inr (.inr h)), fun _ => trivial⟩ ?_
 clear hK K
 have hHeld2 := hHeld.trans ho8 (fun i _ h => .inr (.inr h))
 clear hHeld
 have hHeld := hHeld2
 refine jk false 13 ?_
 refine wpAnyJ_done (by kernel_rfl) ?_ _
 go_wp2_with fail
 refine bodyPost_ret (results_row_tmp2 Tryz.results30 _ _ _ _ _ rfl (load_cacheV HS72.out t9) rfl) rfl ⟨.agg XV2, C2, rfl, HBX.out.out ho8 (fun i hi => ?_), HPX.out.out_ ho8 (fun i hi => by omega), HRZ.out.2.mono (Nat.le_refl _) (Nat.le_trans hsX ho8.size)⟩
 subst hi
 refine ⟨fun h => ?_, fun h => ?_, fun h => ?_⟩
 ·have := HBo.out.disk.has_lt _ h; omega
 ·rcases HN2.out _ h with h | h
  ·have := HBo.out.cache.has_lt _ h; omega
  ·have h9 : Z.heap.size ≤ w.heap.size + 2 := h
   omega
 ·rcases HN1.out _ h with h | h
  ·have := (HBo.out.far _ h).1; omega
  ·omega
end Go.Proofs.YtemcgfncahccgaaGreat
namespace Go.Proofs.YtemcgfncahccgaaGreat
open Go.RowKit Go.Shelf

/-- any call -/
def ActD.run2 (a : ActD) (x : CacheD) : CacheD := if a.what = 0 ∨ a.what = 1 ∨ a.what = 2 ∨ a.what = 3 ∨ a.what = 4 then a.run x else x.spoil a.oid a.at_ a.bits
theorem act_all {w : World} {D : DiskP} {C : CacheP} {cv : Value} {x : CacheD} {k : Int} (H : Both w D C cv x) (O : COk x k) (hk : k ≤ 1000) (a : ActD) (ha : a.ok) :
  Calls Tryz.prog 30 #[ptr D.p, ptr C.g, cv, .agg a.cells.toArray] w (ActPost D C cv (a.run2 x) w) ∧ COk (a.run2 x) (k + 1) := by
 unfold ActD.run2
 by_cases h0 : a.what = 0 ∨ a.what = 1 ∨ a.what = 2 ∨ a.what = 3 ∨ a.what = 4
 ·rw [if_pos h0]; exact act_run H O hk a ha h0
 ·rw [if_neg h0]
  exact ⟨act_spoil H O a ha (fun h => h0 (.inl h)) (fun h => h0 (.inr (.inl h))) (fun h => h0 (.inr (.inr (.inl h)))) (fun h => h0 (.inr (.inr (.inr (.inl h))))) (fun h => h0 (.inr (.inr (.inr (.inr h))))), (O.spoil _ _ _).mono (by omega)⟩
end Go.Proofs.YtemcgfncahccgaaGreat
