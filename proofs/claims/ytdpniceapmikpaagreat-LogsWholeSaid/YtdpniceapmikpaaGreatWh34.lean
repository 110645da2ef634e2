/-
  disk.Flush. (Written by gen_lflush2.py.)
  The reference's Disk.Spoil where nothing waits.
  Spoil of both disks, whatever byte is named (of the reference's: as long as nothing waits there).
-/
import Derived.Test.YtdpniceapmikpaaGreatWh1
import Derived.Test.YtdpniceapmikpaaGreatWh10
import Derived.Test.YtdpniceapmikpaaGreatWh31
import Derived.Test.YtdpniceapmikpaaGreatWh32
set_option linter.unusedVariables false
set_option linter.unusedSimpArgs false
namespace Go.Proofs.YtdpniceapmikpaaGreat
open Go.RowKit

set_option maxRecDepth 100000 in
set_option maxHeartbeats 4000000 in
theorem dstep_do1 (k : Nat) (hk : ∀ args w, (callFunc k args).run Tryz.prog w = .ok (.enter k args) w) (p0 : Value) (R : World → Prop) (D : DiskP) (x : DiskD) (n : Int) (w : World) (h : DiskAt w D x) (hx : x.ok) (hn : 0 ≤ n ∧ n < x.size) (hf : ¬ x.steps ∈ x.fails)
  (hdo : ∀ w', DiskAt w' D x.stepped → DStep D D w w' → Calls Tryz.prog k #[p0] w' fun e w'' => e = .returned (.tuple #[]) ∧ R w'') :
  Calls Tryz.prog 83 #[ptr D.p, .int .i64 n, .func (.func k) #[] #[p0]] w fun e w' => e = .returned (.int .i64 0) ∧ R w' := by
 have HR := Lib.hid (dright_yes D x n 0 w h hx hn (by omega))
 have c4 := h.blk.cell_is 4 rfl
 have c3 := h.blk.cell_is 3 rfl
 have f3 := h.blk.frozen 3
 have hlt := h.blk.lt
 have k1 := look_fails h.drew x.steps
 have k2 := look_fails (h.below ((Below.refl _ _).alloc (Nat.le_refl _) (.cells #[] 157))).drew x.steps
 have k3 := look_fails (h.drew.below ((Below.refl _ _).alloc (Nat.le_refl _) (.cells #[] 157))) x.steps
 rw [decide_eq_false hf] at k1 k2 k3
 have HF := Lib.hid (fun o => disk_step_at h o)
 have HD := Lib.hid hdo
 have hs : x.steps ≤ 1000000000000 := hx.2.2.2.2.2.1
 have hs0 : 0 ≤ x.steps := hx.2.2.2.2.1
 unfold ptr at *
 clear h hx hf hdo
 generalize x.steps = s at *
 go_enter Tryz.func83, Tryz.ntmps83
 go_wp2_with fail
 refine HR.out.mono ?_; rintro e w1 ⟨rfl, rfl⟩
 go_upto_region 4 with fail
 go_region
 all_goals
  go_wp2_with fail
  refine (HD.out _ (HF.out _).1 (HF.out _).2).mono ?_
  rintro e w2 ⟨rfl, hR⟩
  go_wp2_with fail
  go_ret
  exact ⟨rfl, hR⟩

def DiskD.flush (x : DiskD) : DiskD := if x.steps ∈ x.fails then x.stepped else x.stepped.flushed
set_option maxRecDepth 100000 in
set_option maxHeartbeats 4000000 in
theorem dflush_any (D : DiskP) (x : DiskD) (w : World) (h : DiskAt w D x) (hx : x.ok) (hs9 : x.steps ≤ 999999999999) :
  Calls Tryz.prog 32 #[ptr D.p] w fun e w' => e = .returned (.int .i64 (x.err 0)) ∧ ∃ D', DiskAt w' D' x.flush ∧ DStep D D' w w' := by
 obtain ⟨W, eW⟩ : ∃ W, W = w.alloc (Obj.cells #[Value.pointer (some { block := D.p, off := 0 })] 37) := ⟨_, rfl⟩
 have hbW : Below w.heap.size w W := by rw [eW]; exact (Below.refl _ w).alloc (Nat.le_refl _) _
 have HC : Calls Tryz.prog 83 #[.pointer (some { block := D.p, off := 0 }), .int .i64 0, .func (.func 84) #[] #[.pointer (some ⟨w.heap.size, 0, none⟩)]] W
   fun e w' => e = .returned (.int .i64 (x.err 0)) ∧ ∃ D', DiskAt w' D' x.flush ∧ DStep D D' w w' := by
  have hW := h.below hbW
  have h2 : (0 : Int) ≤ 0 ∧ 0 < x.size := ⟨by omega, by have := hx.1; omega⟩
  unfold DiskD.err DiskD.flush
  rw [if_neg (by omega)]
  by_cases h3 : x.steps ∈ x.fails
  ·rw [if_pos h3, if_pos h3]
   refine (dstep_fails D x 0 _ W hW hx h2 h3).mono ?_
   rintro e w1 ⟨rfl, ha, hs⟩
   exact ⟨rfl, D, ha, hs.first hbW h.has_lt⟩
  ·rw [if_neg h3, if_neg h3]
   have n0 : ¬ D.has w.heap.size := has_new h (Nat.le_refl _) (w' := w)
   have b0 : Blk W w.heap.size 37 #[.pointer (some ⟨D.p, 0, none⟩)] := by rw [eW]; exact Blk.new w _ _
   clear eW
   have hxs : x.stepped.ok := ⟨hx.1, hx.2.1, hx.2.2.1, hx.2.2.2.1, by show 0 ≤ x.steps + 1; have := hx.2.2.2.2.1; omega, by show x.steps + 1 ≤ _; omega, hx.2.2.2.2.2.2⟩
   refine dstep_do1 _ (callFunc_is Tryz.func84 rfl rfl) _ (fun w' => ∃ D', DiskAt w' D' x.stepped.flushed ∧ DStep D D' w w') D x 0 W hW hx h2 h3 ?_
   intro w1 ha hs
   refine (callsIn_wide.1 (flush1_in 5 (by omega) w.heap.size D x.stepped w1 ha hxs (hs.out.blk b0 n0))).mono ?_
   rintro e w2 ⟨rfl, ha2, hs2⟩
   exact ⟨rfl, _, ha2, (hs.trans hs2).first hbW h.has_lt⟩
 have HH := Lib.hid HC
 clear HC hbW h
 subst eW
 unfold ptr at *
 go_enter Tryz.func32, Tryz.ntmps32
 go_wp2_with fail
 refine HH.out.mono ?_
 rintro e w1 ⟨rfl, hR⟩
 go_wp2_with fail
 go_ret
 exact ⟨rfl, hR⟩
end Go.Proofs.YtdpniceapmikpaaGreat
namespace Go.Proofs.YtdpniceapmikpaaGreat
open Go.RowKit

theorem flat_flip {x : DiskD} (hx : x.ok) (n o : Nat) (hn : (n : Int) < x.size) (ho : o < 512) (c : UInt8) : flatL (x.spoil n o c) = (flatL x).set (512 * n + o) ((x.lasts n).getD o 0 ^^^ c) := by
  have hy : ∀ m : Int, ((x.spoil n o c).lasts m).length = 512 := fun m => by
    show (if m = (n : Int) then flipL (x.lasts n) o c else x.lasts m).length = 512
    split
    · rw [flipL_len]; exact hx.2.2.1 _
    · exact hx.2.2.1 _
  have h0 := hx.1
  have l1 : (flatL (x.spoil n o c)).length = 512 * x.size.toNat := flat_len _ (fun m => hy m) _
  have l2 := flatL_len hx
  apply List.ext_getElem?
  intro i
  rw [List.getElem?_set]
  by_cases hi : i < 512 * x.size.toNat
  · have e : i = 512 * (i / 512) + i % 512 := by omega
    have a1 : (flatL (x.spoil n o c))[i]? = ((x.spoil n o c).lasts ((i / 512 : Nat) : Int))[i % 512]? := by
      have := flat_at (fun m : Nat => (x.spoil n o c).lasts m) (fun m => hy m) x.size.toNat (i / 512) (i % 512) (by omega) (by omega)
      rw [← e] at this
      exact this
    have a2 : (flatL x)[i]? = (x.lasts ((i / 512 : Nat) : Int))[i % 512]? := by
      have := flatL_at hx (i / 512) (i % 512) (by omega) (by omega)
      rw [← e] at this
      exact this
    rw [a1, a2, l2]
    show (if ((i / 512 : Nat) : Int) = (n : Int) then flipL (x.lasts n) o c else x.lasts ((i / 512 : Nat) : Int))[i % 512]? = _
    by_cases hq : i / 512 = n
    · rw [hq, if_pos rfl]
      unfold flipL
      rw [List.getElem?_set, hx.2.2.1]
      by_cases hr : i % 512 = o
      · rw [if_pos hr.symm, if_pos ho, if_pos (by omega), if_pos (by omega)]
      · rw [if_neg (fun h => hr h.symm), if_neg (by omega)]
    · rw [if_neg (by omega), if_neg (by omega)]
  · rw [List.getElem?_eq_none (by omega), if_neg (by omega), List.getElem?_eq_none (by omega)]
/-- may a byte be spoiled? -/
def DiskD.spoils (x : DiskD) (n o : Int) : Bool := decide (0 ≤ n ∧ n < x.size ∧ 0 ≤ o ∧ o < 512)
set_option maxRecDepth 100000 in
set_option maxHeartbeats 4000000 in
theorem rdspoil_any (x : DiskD) (n q : Int) (c : UInt8) (lv wv fv : Value) (w : World) (h : RDisk w w.heap.size lv wv fv x) (hx : x.ok) (hw : x.waits = []) :
    Calls Tryz.prog 80 #[.agg #[lv, wv, .int .i64 x.steps, fv], .int .i64 n, .int .i64 q, vu8 c] w fun e w' => Below w.heap.size w w' ∧
      ((x.spoils n q = true ∧ ∃ lv' wv', e = .returned (.tuple #[.agg #[lv', wv', .int .i64 x.steps, fv], .int .i64 0]) ∧ RDisk w' w'.heap.size lv' wv' fv (x.spoil n q.toNat c) ∧ (∀ g, lv'.ownBlock = some g → w.heap.size ≤ g ∧ g < w'.heap.size) ∧ ∀ g, wv'.ownBlock = some g → w.heap.size ≤ g ∧ g < w'.heap.size) ∨
       (x.spoils n q = false ∧ e = .returned (.tuple #[.agg #[lv, wv, .int .i64 x.steps, fv], .int .i64 4]))) := by
  have HON := Lib.hid (h.one x.steps)
  have HSZ := Lib.hid (fun W hh => rdsize_any x lv wv fv x.steps W hh hx)
  have HR := Lib.hid h
  obtain ⟨W, eW⟩ : ∃ W, W = (w.alloc (.cells #[lv, wv, .int .i64 x.steps, fv] 40)).alloc (.cells zeroD 40) := ⟨_, rfl⟩
  have b0 : Below w.heap.size w W := by rw [eW]; exact ((Below.refl _ w).alloc (Nat.le_refl _) _).alloc (by simp) _
  have k0 : Blk W w.heap.size 40 #[lv, wv, .int .i64 x.steps, fv] := by rw [eW]; exact (Blk.new w _ _).alloc _
  have k1 : Blk W (w.heap.size + 1) 40 zeroD := by rw [eW]; exact Blk.new' (by simp)
  have HB0 := Lib.hid b0
  have HRW := Lib.hid ((HR.out.below b0 (Nat.le_refl _)).mono b0.size)
  obtain ⟨sp, esp⟩ : ∃ s, s = x.spoils n q := ⟨_, rfl⟩
  rw [← esp]
  have HSP := Lib.hid esp
  unfold DiskD.spoils at esp
  clear h b0
  go_enter Tryz.func80, Tryz.ntmps80
  go_upto_region 1 with fail
  rw [← eW]
  clear eW
  have done4 : ∀ (W2 : World) (tmps : Array Value), Blk W2 (w.heap.size + 1) 40 zeroD → tmps.getD 8 undef = .pointer (some ⟨w.heap.size + 1, 0, none⟩) → tmps.getD 9 undef = .int .i64 4 →
      (results Tryz.f80 tmps).run Tryz.prog (W2.setRow (w.heap.size + 1) #[lv, wv, .int .i64 x.steps, fv]) = .ok (.tuple #[.agg #[lv, wv, .int .i64 x.steps, fv], .int .i64 4]) (W2.setRow (w.heap.size + 1) #[lv, wv, .int .i64 x.steps, fv]) := by
    intro W2 tmps h1 t8 t9
    exact results_row_tmp2 Tryz.results80 _ _ _ _ _ t8 (load_rdisk (h1.row _)) t9
  have D4 := Lib.hid done4
  clear done4
  by_cases hneg : n < 0
  · have HF := Lib.hid (show sp = false by rw [esp]; exact decide_eq_false (by omega))
    go_wp2_with (first
      | (refine wpList_load_row rfl 40 _ rfl w.heap.size rfl 40 #[lv, wv, .int .i64 x.steps, fv] (0, 0) _ k0 Tryz.underlying40 rfl (size_rdisk _ _ _ _) ?_)
      | (refine wpList_store_row rfl 40 _ _ rfl (w.heap.size + 1) #[lv, wv, .int .i64 x.steps, fv] rfl rfl 40 zeroD k1 (size_rdisk _ _ _ _) rfl HON.out ?_))
    exact bodyPost_ret (D4.out W _ k1 (by rfl) (by rfl)) rfl ⟨below_row HB0.out _ (by omega), .inr ⟨HF.out, rfl⟩⟩
  · go_wp2_with (refine wpList_load_midG rfl 40 _ rfl w.heap.size 0 rfl #[lv, wv, .int .i64 x.steps, fv] (load_rdisk k0) ?_)
    refine (HSZ.out W HRW.out).mono ?_; rintro e w1 ⟨rfl, hb1⟩
    have j0 := k0.below hb1 k0.lt
    have j1 := k1.below hb1 k1.lt
    have HB1 := Lib.hid (HB0.out.trans (hb1.mono HB0.out.size))
    have HR1 := Lib.hid ((HR.out.below HB1.out (Nat.le_refl _)).mono HB1.out.size)
    clear hb1 k0 k1 HRW HB0
    by_cases hbad : x.size ≤ n ∨ q < 0 ∨ 512 ≤ q
    · have HF := Lib.hid (show sp = false by rw [esp]; exact decide_eq_false (by omega))
      have hs : x.size ≤ n ∨ (¬ x.size ≤ n ∧ q < 0) ∨ (¬ x.size ≤ n ∧ ¬ q < 0 ∧ 512 ≤ q) := by omega
      clear hbad esp
      rcases hs with hs | ⟨h1, hs⟩ | ⟨h1, h2, hs⟩ <;>
      · go_wp2_with (first
          | (refine wpList_load_row rfl 40 _ rfl w.heap.size rfl 40 #[lv, wv, .int .i64 x.steps, fv] (0, 0) _ j0 Tryz.underlying40 rfl (size_rdisk _ _ _ _) ?_)
          | (refine wpList_store_row rfl 40 _ _ rfl (w.heap.size + 1) #[lv, wv, .int .i64 x.steps, fv] rfl rfl 40 zeroD j1 (size_rdisk _ _ _ _) rfl HON.out ?_))
        exact bodyPost_ret (D4.out w1 _ j1 (by rfl) (by rfl)) rfl ⟨below_row HB1.out _ (by omega), .inr ⟨HF.out, rfl⟩⟩
    · have h1 : ¬ x.size ≤ n := by omega
      have h2 : ¬ q < 0 := by omega
      have h3 : ¬ 512 ≤ q := by omega
      have HT := Lib.hid (show sp = true by rw [esp]; exact decide_eq_true (by omega))
      clear hbad esp D4
      obtain ⟨N, rfl⟩ := Int.eq_ofNat_of_zero_le (show 0 ≤ n by omega)
      obtain ⟨o, rfl⟩ := Int.eq_ofNat_of_zero_le (show 0 ≤ q by omega)
      have hNs : (N : Int) < x.size := by omega
      have ho : o < 512 := by omega
      obtain ⟨hl1, al, cl, elv, hl2⟩ := HR1.out.lasts
      have hfl := flatL_len hx
      have hm := hx.2.1
      have h0 := hx.1
      have HLen := Lib.hid hfl
      have HBY := Lib.hid HR1.out.lasts
      obtain ⟨L, eL⟩ : ∃ l, flatL x = l := ⟨_, rfl⟩
      have HLV := Lib.hid elv
      rw [eL] at HBY HLen HLV
      clear elv
      have HEL := Lib.hid eL
      clear eL hl2 hl1 hfl
      have c0 := j0.cell_is 0 rfl
      have HLT := Lib.hid j0.lt
      have J0 := Lib.hid j0
      have J1 := Lib.hid j1
      have HSz := Lib.hid (show x.size ≤ 4096 from hm)
      go_upto_region 3 with fail
      have k0 := j0.alloc (.cells #[] 5)
      have hbX : Below w1.heap.size w1 (w1.alloc (.cells #[] 5)) := (Below.refl _ w1).alloc (Nat.le_refl _) _
      have hown : (w1.alloc (.cells #[] 5)).ownsRow w1.heap.size 5 1 (.slice (some ⟨w1.heap.size, 0, none⟩) 0 0) 0 [] := ⟨rfl, .inr ⟨_, 0, #[], rfl, Nat.le_refl _, heap_alloc_new w1 _, Nat.le_refl _, by simp, rfl, rfl⟩⟩
      have HXB := Lib.hid (show BytesIn (w1.alloc (.cells #[] 5)) w1.heap.size (.slice al L.length cl) L by have := HBY.out.below hbX (Nat.le_refl _); rwa [HLV.out] at this)
      have HL1 := Lib.hid (show L.length ≤ 2097152 by have := HLen.out; omega)
      have cA := k0.cell_is 0 rfl
      go_wp2_with (at_builtin; refine wpList_append_bytes_at (w1.alloc (.cells #[] 5)) rfl _ _ rfl w1.heap.size w1.heap.size 0 _ [] rfl hown al L.length cl L HLV.out rfl HXB.out (by have := HL1.out; omega) (by simp) ?_; intro v2 w2 hO2 hg2 hn2; rw [Nat.zero_add, List.nil_append] at hO2; obtain ⟨a2, cap2, rfl⟩ := slice_form hO2; have k2 := (hg2.block _ k0.lt (fun e => absurd (Option.some.inj e) (Nat.ne_of_lt HLT.out))).trans k0; have c2 := Blk.cell_is k2 0 rfl; have f2 := Blk.frozen k2 0)
      have hB2 : Below w1.heap.size w1 w2 := hbX.grown hg2 hbX.size (fun r hr => by cases hr; exact Nat.le_refl _)
      have HO2 := Lib.hid hO2
      clear hn2
      obtain ⟨g, rfl, hgB, hgL⟩ : ∃ g, a2 = some ⟨g, 0, none⟩ ∧ w1.heap.size ≤ g ∧ g < w2.heap.size := by
        rcases hO2.2 with ⟨h0, hn0⟩ | ⟨g2, cap', cur, h0, hBg, hg, _⟩
        · have := HLen.out
          have hh : L.length = 0 := hn0
          omega
        · cases h0; exact ⟨g2, rfl, hBg, Blk.lt (t := 5) (cs := cur) hg⟩
      have hGg : w.heap.size < g := Nat.lt_of_lt_of_le HLT.out hgB
      obtain ⟨W3, eW3⟩ : ∃ W, W = w2.setCell ⟨w.heap.size, 0, none⟩ (.slice (some ⟨g, 0, none⟩) L.length cap2) := ⟨_, rfl⟩
      have k3 : Blk W3 w.heap.size 40 #[.slice (some ⟨g, 0, none⟩) L.length cap2, wv, .int .i64 x.steps, fv] := by rw [eW3]; exact Blk.set_ (w := w2) (t := 40) (cs := #[lv, wv, .int .i64 x.steps, fv]) k2 0 _
      have ho3 : Out (fun i => i = w.heap.size) w2 W3 := by rw [eW3]; exact out_set rfl
      have o3 := ownsRow_out ho3 hO2 (fun i hi e => by cases hi; exact absurd e (Nat.ne_of_gt hGg))
      have HY := Lib.hid (show L[512 * N + o]? = some ((x.lasts N).getD o 0) by rw [← HEL.out, flatL_at hx N o hNs ho, List.getElem?_eq_getElem (by rw [hx.2.2.1]; exact ho), List.getD_eq_getElem?_getD, List.getElem?_eq_getElem (by rw [hx.2.2.1]; exact ho)]; rfl)
      obtain ⟨y, ey⟩ : ∃ y, y = (x.lasts N).getD o 0 := ⟨_, rfl⟩
      rw [← ey] at HY
      have HEY := Lib.hid ey
      clear ey
      have hiL : ((512 * N + o : Nat) : Int) < (L.length : Int) := by have := HLen.out; omega
      obtain ⟨I, eI⟩ : ∃ I, I = 512 * N + o := ⟨_, rfl⟩
      have hmul : IntKind.i64.wrap (512 * (N : Int)) = 512 * N := by rw [IntKind.wrap_i64]; omega
      have hadd : IntKind.i64.wrap (512 * (N : Int) + o) = (I : Int) := by rw [IntKind.wrap_i64]; omega
      rw [← eI] at HY hiL
      have cI : W3.cell? ⟨g, I, none⟩ = some (vu8 y) := by
        have := o3.cells rfl I _ (show (L.map vu8)[I]? = some (vu8 y) by rw [List.getElem?_map, HY.out]; rfl)
        rwa [add_at, Nat.zero_add] at this
      have c0' := k3.cell_is 0 rfl
      have fI := ownsRow_frozen o3 I
      have HO3 := Lib.hid o3
      have HB3 := Lib.hid hB2
      have K3 := Lib.hid k3
      have HOU := Lib.hid ho3
      have HEI := Lib.hid eI
      have K13 := Lib.hid (HOU.out.blk (J1.out.below HB3.out J1.out.lt) (by omega))
      rw [← eW3]
      clear eW3 hO2 o3 hB2 k3 ho3 k2 c2 f2 eI hg2 hown k0 cA c0 hbX
      have hB4 : Below w.heap.size w W3 := (HB1.out.trans (HB3.out.mono HB1.out.size)).trans (HOU.out.below (by have := HB1.out.size; have := HB3.out.size; omega) (fun i hi e => by omega))
      have HB4 := Lib.hid hB4
      have cId : W3.drew.cell? ⟨g, I, none⟩ = some (.int .u8 (y.toNat : Int)) := cI
      have fId : W3.drew.frozen? ⟨g, I, none⟩ = false := fI
      clear hB4 cI fI
      refine wp_region_held_drew (S := (fun w' => w'.cell? ⟨w.heap.size, 0, none⟩ = some (.slice (some ⟨g, 0, none⟩) L.length cap2))) (by kernel_rfl) (by first | exact c0' | ((try dsimp only); exact c0')) (fun hHeld => ?_)
      refine tk 0 ?_
      refine tk 1 ?_
      refine tk 2 ?_
      refine tk 3 ?_
      refine tk 4 ?_
      refine tk 5 ?_
      refine tk 6 ?_
      refine tk 7 ?_
      refine tk 8 ?_
      refine tk 9 ?_
      refine tk 10 ?_
      refine tk 11 ?_
      refine tk 12 ?_
      refine tk 14 ?_
      refine rd 13 fun K hK => ?_
      try rw [if_pos (by rfl)]
      go_simp
      refine hK.out _ _ (by first | exact c0' | ((try dsimp only); exact c0')) (fun hHeld => ?_)
      clear hK K
      try simp only [Act.put, pz0, pz1, pz2, pz3, pz4, pz5]
      refine tk 15 ?_
      refine tk 16 ?_
      refine rd 17 fun K hK => ?_
      try rw [if_pos (by rfl)]
      go_simp
      obtain ⟨W4, eW4⟩ : ∃ W, W = (W3.setCell ⟨g, I, none⟩ (.int .u8 (bits .xor .u8 (y.toNat : Int) (c.toNat : Int)))).drew := ⟨_, rfl⟩
      have o4 : W4.ownsRow w1.heap.size 5 1 (.slice (some ⟨g, 0, none⟩) L.length cap2) L.length ((L.set I (y ^^^ c)).map vu8) := by
        have h1 := ownsRow_set HO3.out I (.int .u8 (bits .xor .u8 (y.toNat : Int) (c.toNat : Int))) (by rw [List.length_map]; omega)
        have h2 := ownsRow_out (F := fun _ => False) (outB (Below.refl _ (W3.setCell ⟨g, I, none⟩ (.int .u8 (bits .xor .u8 (y.toNat : Int) (c.toNat : Int))))).drew) h1 (fun _ _ => id)
        rw [eW4, List.map_set]
        rwa [xor_u8] at h2 ⊢
      have k4 : Blk W4 w.heap.size 40 #[.slice (some ⟨g, 0, none⟩) L.length cap2, wv, .int .i64 x.steps, fv] := by rw [eW4]; exact (Blk.far K3.out (p := ⟨g, I, none⟩) (fun e => absurd e (Nat.ne_of_lt hGg)) _).drew
      have ho4 : Out (fun i => i = g) W3 W4 := by rw [eW4]; exact Out.trans (F := fun i => i = g) (G := fun i => i = g) (out_set (F := fun i => i = g) rfl) (outB (Below.refl _ _).drew) (fun _ _ h => h)
      have hB4 : Below w.heap.size w W4 := HB4.out.trans (ho4.below HB4.out.size (fun i hi e => by omega))
      clear HB4
      have HB4 := Lib.hid hB4
      have K14 := Lib.hid (ho4.blk K13.out (fun e => by have := J1.out.lt; omega))
      have HO4 := Lib.hid o4
      have c04 := k4.cell_is 0 rfl
      rw [← eW4]
      clear eW4 hB4 o4 cId fId
      refine hK.out _ _ (by first | exact c04 | ((try dsimp only); exact c04)) (fun hHeld => ?_)
      clear hK K
      refine wpAnyH_done (by kernel_rfl) ?_ _
      try simp only [Act.put, pz0, pz1, pz2, pz3, pz4, pz5]
      obtain ⟨i5, z5, HT5⟩ := rowT_rwait
      have HTT := Lib.hid HT5
      have HWI := Lib.hid (show WaitsIn W4 W4.heap.size wv [] by
        have := (HR.out.waits.below HB4.out (Nat.le_refl _)).more HB4.out.size
        rwa [hw] at this)
      obtain ⟨_, _, aw, cw, ewv, _⟩ := HWI.out
      have HWV := Lib.hid ewv
      have HWJ := Lib.hid (show WaitsIn (W4.alloc (.cells #[] 154)) W4.heap.size (.slice aw 0 cw) [] by
        have := HWI.out.below ((Below.refl _ W4).alloc (Nat.le_refl _) (.cells #[] 154)) (Nat.le_refl _)
        rwa [HWV.out] at this)
      clear ewv HT5
      have k5 := k4.alloc (.cells #[] 154)
      have hown5 : (W4.alloc (.cells #[] 154)).ownsRow W4.heap.size 154 513 (.slice (some ⟨W4.heap.size, 0, none⟩) 0 0) 0 [] := ⟨rfl, .inr ⟨_, 0, #[], rfl, Nat.le_refl _, heap_alloc_new W4 _, Nat.le_refl _, by simp, rfl, rfl⟩⟩
      have HLT4 := Lib.hid k4.lt
      have c15 := k5.cell_is 1 rfl
      go_wp2_with (at_builtin; refine wpList_plain rfl fun K' hK' => ?_; refine wp_append_waits HTT.out (W4.alloc (.cells #[] 154)) _ _ rfl W4.heap.size W4.heap.size 0 _ [] rfl hown5 aw 0 cw [] HWV.out rfl HWJ.out (by decide) (by simp) ?_; intro v5 w5 hO5 hg5; rw [Nat.add_zero] at hO5; obtain ⟨a5, cap5, rfl⟩ := slice_form hO5; refine hK' _ _ ?_; have k6 := (hg5.block _ k5.lt (fun e => absurd (Option.some.inj e) (Nat.ne_of_lt HLT4.out))).trans k5; have c6 := Blk.cell_is k6 1 rfl; have f6 := Blk.frozen k6 1)
      have hB5 : Below W4.heap.size W4 w5 := ((Below.refl _ W4).alloc (Nat.le_refl _) _).grown hg5 (by simp) (fun r hr => by cases hr; exact Nat.le_refl _)
      obtain ⟨W6, eW6⟩ : ∃ W, W = w5.setCell ⟨w.heap.size, 1, none⟩ (.slice a5 0 cap5) := ⟨_, rfl⟩
      have k6' : Blk W6 w.heap.size 40 #[.slice (some ⟨g, 0, none⟩) L.length cap2, .slice a5 0 cap5, .int .i64 x.steps, fv] := by rw [eW6]; exact Blk.set_ (w := w5) (t := 40) (cs := #[.slice (some ⟨g, 0, none⟩) L.length cap2, wv, .int .i64 x.steps, fv]) k6 1 _
      have ho6 : Out (fun i => i = w.heap.size) w5 W6 := by rw [eW6]; exact out_set rfl
      have hB6 : Below w.heap.size w W6 := (HB4.out.trans (hB5.mono HB4.out.size)).trans (ho6.below (by have := HB4.out.size; have := hB5.size; omega) (fun i hi e => by omega))
      have hg4 : g < W4.heap.size := ownBlock_lt HO4.out rfl
      have o6 := ownsRow_out ho6 (ownsRow_out (F := fun _ => False) (outB hB5) HO4.out (fun _ _ => id)) (fun i hi e => by cases hi; exact absurd e (Nat.ne_of_gt hGg))
      have ha5 : ∀ i, (Value.slice a5 0 cap5).ownBlock = some i → W4.heap.size ≤ i ∧ i < W6.heap.size := fun i hi => ⟨(World.ownsRow.lt hO5 i hi).1, Nat.lt_of_lt_of_le (ownBlock_lt hO5 hi) ho6.size⟩
      have k16 := ho6.blk (K14.out.below hB5 K14.out.lt) (by omega)
      obtain ⟨_, _, _, efv, _⟩ := HR.out.fails
      have HFV := Lib.hid efv
      clear efv
      have HK6 := Lib.hid k6'
      have HK16 := Lib.hid k16
      have HB6 := Lib.hid hB6
      have HO6 := Lib.hid o6
      have HA5 := Lib.hid ha5
      have c66 := k6'.cell_is 1 rfl
      rw [← eW6]
      clear eW6 k6' ho6 hB6 o6 ha5 k16 hO5 hg5 k6 c6 f6 hB5 k5 hown5 c15 k4
      go_loopw [10] (fun i wr => i = .int .i64 0 ∧ wr = W6) (fun _ _ => 0)
      case atStart => exact ⟨rfl, rfl⟩
      case round =>
        obtain ⟨rfl, rfl⟩ := hrel
        go_wp2_with (first
          | (refine wpList_load_row rfl 40 _ rfl w.heap.size rfl 40 #[.slice (some ⟨g, 0, none⟩) L.length cap2, .slice a5 0 cap5, .int .i64 x.steps, fv] (0, 0) _ HK6.out Tryz.underlying40 rfl (size_rdisk _ _ _ _) ?_)
          | (refine wpList_store_row rfl 40 _ _ rfl (w.heap.size + 1) #[.slice (some ⟨g, 0, none⟩) L.length cap2, .slice a5 0 cap5, .int .i64 x.steps, fv] rfl rfl 40 zeroD HK16.out (size_rdisk _ _ _ _) rfl (by rw [HFV.out]; simp [Value.oneCell']) ?_))
        have ho7 : Out (fun i => i = w.heap.size + 1) wr (wr.setRow (w.heap.size + 1) #[.slice (some ⟨g, 0, none⟩) L.length cap2, .slice a5 0 cap5, .int .i64 x.steps, fv]) := out_row _ rfl
        have hB7 := below_row HB6.out #[.slice (some ⟨g, 0, none⟩) L.length cap2, .slice a5 0 cap5, .int .i64 x.steps, fv] (g := w.heap.size + 1) (by omega)
        have hg1 : w.heap.size + 1 < g := Nat.lt_of_lt_of_le J1.out.lt hgB
        have o7 := ownsRow_out ho7 HO6.out (fun i hi e => by cases hi; exact absurd e (Nat.ne_of_gt hg1))
        refine bodyPost_ret (results_row_tmp2 Tryz.results80 _ _ _ _ _ (by rfl) (load_rdisk (HK16.out.row _)) (by rfl)) rfl ⟨hB7, .inl ⟨HT.out, _, _, rfl, ⟨?_, ?_, (HR.out.fails.below hB7 (Nat.le_refl _)).mono hB7.size⟩, ?_, ?_⟩⟩
        · rw [Int.toNat_natCast, flat_flip hx N o hNs ho, HEL.out, ← HEI.out, ← HEY.out]
          obtain ⟨b1, a, cap, b2, b3, b4⟩ := BytesIn.own o7
          refine ⟨b1, a, cap, b2, b3, fun j c hc => ?_⟩
          obtain ⟨g', off, e', hg', hr⟩ := b4 j c hc
          exact ⟨g', off, e', ownBlock_lt o7 (by rw [b2, e']; rfl), hr⟩
        · show WaitsIn _ _ _ (x.waits.map _)
          rw [hw]
          exact ⟨Nat.zero_le _, (fun _ h => by cases h), a5, cap5, rfl, fun i y h => by simp at h⟩
        · exact fun i hi => by cases hi; exact ⟨Nat.le_of_lt hGg, ownBlock_lt o7 rfl⟩
        · exact fun i hi => ⟨by have := (HA5.out i hi).1; have := HB4.out.size; omega, Nat.lt_of_lt_of_le (HA5.out i hi).2 ho7.size⟩
end Go.Proofs.YtdpniceapmikpaaGreat
namespace Go.Proofs.YtdpniceapmikpaaGreat
open Go.RowKit

/-- a byte is spoiled, if there is one -/
def DiskD.spoilT (x : DiskD) (n q : Int) (c : UInt8) : DiskD := if x.spoils n q = true then x.spoil n q.toNat c else x
def DiskD.spoilE (x : DiskD) (n q : Int) : Int := if x.spoils n q = true then 0 else 4
theorem dspoilT_no (D : DiskP) (x : DiskD) (n q : Int) (c : UInt8) (w : World) (h : DiskAt w D x) (hx : x.ok) (hn : x.spoils n q = false) :
  Calls Tryz.prog 37 #[ptr D.p, .int .i64 n, .int .i64 q, .int .u8 (c.toNat : Int)] w fun e w' => e = .returned (.int .i64 4) ∧ w = w' := by
 have HR := Lib.hid (dright_no D x n q w h hx (by unfold DiskD.spoils at hn; have := of_decide_eq_false hn; omega))
 unfold ptr at *
 clear h hx hn
 go_enter Tryz.func37, Tryz.ntmps37
 go_wp2_with fail
 refine HR.out.mono ?_; rintro e w1 ⟨rfl, rfl⟩
 go_wp2_with fail
 go_ret
 exact ⟨rfl, rfl⟩
theorem dspoil_all (D : DiskP) (x : DiskD) (n q : Int) (c : UInt8) (w : World) (h : DiskAt w D x) (hx : x.ok) :
  Calls Tryz.prog 37 #[ptr D.p, .int .i64 n, .int .i64 q, .int .u8 (c.toNat : Int)] w fun e w' => e = .returned (.int .i64 (x.spoilE n q)) ∧ DiskAt w' D (x.spoilT n q c) ∧ DStep D D w w' := by
 unfold DiskD.spoilE DiskD.spoilT
 by_cases hs : x.spoils n q = true
 ·rw [if_pos hs, if_pos hs]
  have hh := of_decide_eq_true hs
  obtain ⟨o, rfl⟩ := Int.eq_ofNat_of_zero_le hh.2.2.1
  exact dspoil_any D x n o c w h hx ⟨hh.1, hh.2.1⟩ (by omega)
 ·rw [if_neg hs, if_neg hs]
  refine (dspoilT_no D x n q c w h hx (by simpa using hs)).mono ?_
  rintro e w' ⟨h1, rfl⟩
  exact ⟨h1, h, DStep.refl _ _⟩
theorem spoilT_ok {x : DiskD} (hx : x.ok) (n q : Int) (c : UInt8) : (x.spoilT n q c).ok := by
 unfold DiskD.spoilT
 split
 ·obtain ⟨o1, o2, o3, o4, o5, o6, o7⟩ := hx
  refine ⟨o1, o2, fun m => ?_, fun y hy => ?_, o5, o6, by show (x.waits.map _).length ≤ _; rw [List.length_map]; exact o7⟩
  ·show (if m = n then flipL (x.lasts n) q.toNat c else x.lasts m).length = 512
   split
   ·rw [flipL_len]; exact o3 _
   ·exact o3 _
  ·obtain ⟨z, hz, rfl⟩ := List.mem_map.1 (show y ∈ x.waits.map (flipW n q.toNat c) from hy)
   exact flipW_len n q.toNat c z (o4 z hz)
 ·exact hx
theorem spoilT_keeps (x : DiskD) (n q : Int) (c : UInt8) : (x.spoilT n q c).size = x.size ∧ (x.spoilT n q c).steps = x.steps ∧ (x.spoilT n q c).fails = x.fails ∧ (x.waits = [] → (x.spoilT n q c).waits = []) := by
 unfold DiskD.spoilT
 split
 ·exact ⟨rfl, rfl, rfl, fun h => by show x.waits.map _ = []; rw [h]; rfl⟩
 ·exact ⟨rfl, rfl, rfl, id⟩
/-- a block of what was there, or a new one -/
def NewOr (B C : Nat) (v v' : Value) : Prop := ∀ g, v'.ownBlock = some g → v.ownBlock = some g ∨ (B ≤ g ∧ g < C)
/-- what the reference's Spoil of a disk comes to -/
def RSpl (x : DiskD) : Prop := ∀ (n q : Int) (c : UInt8) (lv wv fv : Value) (w : World), RDisk w w.heap.size lv wv fv x → x.ok →
  Calls Tryz.prog 80 #[.agg #[lv, wv, .int .i64 x.steps, fv], .int .i64 n, .int .i64 q, .int .u8 (c.toNat : Int)] w fun e w' => Below w.heap.size w w' ∧ ∃ lv' wv', e = .returned (.tuple #[.agg #[lv', wv', .int .i64 x.steps, fv], .int .i64 (x.spoilE n q)]) ∧
   RDisk w' w'.heap.size lv' wv' fv (x.spoilT n q c) ∧ NewOr w.heap.size w'.heap.size lv lv' ∧ NewOr w.heap.size w'.heap.size wv wv'
theorem rspl_none {x : DiskD} (hw : x.waits = []) : RSpl x := by
 intro n q c lv wv fv w h hx
 refine (rdspoil_any x n q c lv wv fv w h hx hw).mono ?_
 unfold DiskD.spoilE DiskD.spoilT
 rintro e w' ⟨hb, ⟨hs, lv', wv', rfl, hR, h1, h2⟩ | ⟨hs, rfl⟩⟩
 ·exact ⟨hb, lv', wv', by rw [if_pos hs], by rw [if_pos hs]; exact hR, fun g hg => .inr (h1 g hg), fun g hg => .inr (h2 g hg)⟩
 ·exact ⟨hb, lv, wv, by rw [hs]; rfl, by rw [hs]; exact (h.below hb (Nat.le_refl _)).mono hb.size, fun g hg => .inl hg, fun g hg => .inl hg⟩
end Go.Proofs.YtdpniceapmikpaaGreat
