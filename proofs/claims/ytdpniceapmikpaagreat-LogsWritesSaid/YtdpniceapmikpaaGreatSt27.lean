/-
  The reference's disk: Read.
  Rows of writes: append, in a slice of the call's own.
  The program's disk: Bytes, Steps.
-/
import Derived.Test.YtdpniceapmikpaaGreatSt1
import Derived.Test.YtdpniceapmikpaaGreatSt13
import Derived.Test.YtdpniceapmikpaaGreatSt16
set_option linter.unusedVariables false
set_option linter.unusedSimpArgs false
namespace Go.Proofs.YtdpniceapmikpaaGreat
open Go.RowKit

theorem results_row_row_tmp {P : Program} {fn : Func} {p q r : Tmp} {ty te : TypeId} (h : fn.results = #[.cell p ty, .cell q te, .tmp r]) (tmps : Array Value) (w : World) (b c v : Value) (g g' : Nat)
  (hp : tmps.getD p undef = .pointer (some ⟨g, 0, none⟩)) (hb : (loadVar ty ⟨g, 0, none⟩).run P w = .ok b w) (hq : tmps.getD q undef = .pointer (some ⟨g', 0, none⟩)) (hc : (loadVar te ⟨g', 0, none⟩).run P w = .ok c w) (hr : tmps.getD r undef = v) :
  (results fn tmps).run P w = .ok (.tuple #[b, c, v]) w := by
 have hp' : tmps[p]?.getD undef = .pointer (some ⟨g, 0, none⟩) := by simpa using hp
 have hq' : tmps[q]?.getD undef = .pointer (some ⟨g', 0, none⟩) := by simpa using hq
 have hr' : tmps[r]?.getD undef = v := by simpa using hr
 simp [results, h, hp', hq', hr', asAddr, hb, hc]
theorem blk_range {W : World} {g : Nat} {t : TypeId} {cs : Array Value} (h : Blk W g t cs) : W.rangeAt g 0 cs.toList := fun j v hv => by
 rw [Nat.zero_add]
 exact h.cell_is j (by simpa using hv)
theorem RDisk.drew {W : World} {B : Nat} {lv wv fv : Value} {x : DiskD} (h : RDisk W B lv wv fv x) : RDisk W.drew B lv wv fv x := ⟨h.lasts, h.waits, h.fails⟩
theorem load_sector {W : World} {g : Nat} {b : List UInt8} (hb : b.length = 512) (h : Blk W g 111 (b.map vu8).toArray) : (loadVar 111 ⟨g, 0, none⟩).run Tryz.prog W = .ok (.agg (b.map vu8).toArray) W :=
 run_loadVar_row W g 111 111 (b.map vu8).toArray (0, 0) _ h Tryz.underlying111 rfl (sector_size _ hb)

set_option maxRecDepth 100000 in
set_option maxHeartbeats 4000000 in
theorem rdread_any (x : DiskD) (lv wv fv : Value) (n : Int) (w : World) (h : RDisk w w.heap.size lv wv fv x) (hx : x.ok) :
  Calls Tryz.prog 63 #[.agg #[lv, wv, .int .i64 x.steps, fv], .int .i64 n] w fun e w' => e = .returned (.tuple #[.agg #[lv, wv, .int .i64 (x.after n).steps, fv], sectorV (x.read n), .int .i64 (x.err n)]) ∧ Below w.heap.size w w' := by
 have HONE := Lib.hid h.one
 have HSZ := Lib.hid (fun W hh => rdsize_any x lv wv fv x.steps W hh hx)
 have HST := Lib.hid (fun W hh => rdstep_any x lv wv fv W hh hx)
 have HRD := Lib.hid (fun W hh (m : Nat) (e : n = m) (hm : (m : Int) < x.size) => rdreads_any x lv wv fv x.steps m W hh hx hm)
 have HR := Lib.hid h
 have hl0 : sector0.length = 512 := List.length_replicate
 obtain ⟨W, eW⟩ : ∃ W, W = ((w.alloc (.cells #[lv, wv, .int .i64 x.steps, fv] 40)).alloc (.cells zeroD 40)).alloc (.cells Tryz.zeroCells111 111) := ⟨_, rfl⟩
 have hbW : Below w.heap.size w W := by rw [eW]; exact (((Below.refl _ w).alloc (Nat.le_refl _) _).alloc (by simp) _).alloc (by simp; omega) _
 have k0 : Blk W w.heap.size 40 #[lv, wv, .int .i64 x.steps, fv] := by rw [eW]; exact ((Blk.new w _ _).alloc _).alloc _
 have k1 : Blk W (w.heap.size + 1) 40 zeroD := by rw [eW]; exact (Blk.new2 w _ _ _).alloc _
 have k2 : Blk W (w.heap.size + 2) 111 (sector0.map vu8).toArray := by rw [eW, ← zero111]; exact Blk.new' (by simp)
 have HRW := Lib.hid ((HR.out.below hbW (Nat.le_refl _)).mono hbW.size)
 unfold sectorV
 clear h
 go_enter Tryz.func63, Tryz.ntmps63
 go_upto_region 1 with fail
 rw [← eW]
 clear eW
 have HW := Lib.hid hbW
 have HK0 := Lib.hid k0
 have HK1 := Lib.hid k1
 have HK2 := Lib.hid k2
 clear hbW k0 k1 k2
 have fin : ∀ (W2 : World) (c : List UInt8) (s er : Int) (tmps : Array Value), c.length = 512 → Blk W2 (w.heap.size + 1) 40 zeroD → Blk W2 (w.heap.size + 2) 111 (sector0.map vu8).toArray →
   tmps.getD 4 undef = .pointer (some ⟨w.heap.size + 1, 0, none⟩) → tmps.getD 5 undef = .pointer (some ⟨w.heap.size + 2, 0, none⟩) → tmps.getD 6 undef = .int .i64 er →
   (results Tryz.f63 tmps).run Tryz.prog ((W2.setRow (w.heap.size + 1) #[lv, wv, .int .i64 s, fv]).setRow (w.heap.size + 2) (c.map vu8).toArray) = .ok (.tuple #[.agg #[lv, wv, .int .i64 s, fv], .agg (c.map vu8).toArray, .int .i64 er]) ((W2.setRow (w.heap.size + 1) #[lv, wv, .int .i64 s, fv]).setRow (w.heap.size + 2) (c.map vu8).toArray) := by
  intro W2 c s er tmps hc h1 h2 t4 t5 t6
  have i1 := blk_row_far (h1.row #[lv, wv, .int .i64 s, fv]) (c.map vu8).toArray (g' := w.heap.size + 2) (by omega)
  have i2 := (blk_row_far h2 #[lv, wv, .int .i64 s, fv] (g' := w.heap.size + 1) (by omega)).row (c.map vu8).toArray
  exact results_row_row_tmp Tryz.results63 _ _ _ _ _ _ _ t4 (load_rdisk i1) t5 (load_sector hc i2) t6
 have FIN := Lib.hid fin
 clear fin
 have out4 : n < 0 ∨ x.size ≤ n → x.err n = 4 ∧ x.after n = x ∧ x.read n = sector0 := by
  intro ho
  have he : x.err n = 4 := by unfold DiskD.err; rw [if_pos ho]
  refine ⟨he, by unfold DiskD.after; rw [if_pos ho], by unfold DiskD.read; rw [if_neg (by omega)]⟩
 by_cases hneg : n < 0
 ·obtain ⟨he, ha, hr⟩ := out4 (.inl hneg)
  have HK3 := Lib.hid (blk_row_far HK2.out #[lv, wv, .int .i64 x.steps, fv] (g' := w.heap.size + 1) (by omega))
  go_wp2_with (first
   | (refine wpList_load_row rfl 40 _ rfl w.heap.size rfl 40 #[lv, wv, .int .i64 x.steps, fv] (0, 0) _ HK0.out Tryz.underlying40 rfl (size_rdisk _ _ _ _) ?_)
   | (refine wpList_build_is rfl 111 _ rfl (sector0.map vu8).toArray (by kernel_rfl) ?_)
   | (refine wpList_store_row rfl 40 _ _ rfl (w.heap.size + 1) #[lv, wv, .int .i64 x.steps, fv] rfl rfl 40 zeroD HK1.out (size_rdisk _ _ _ _) rfl (HONE.out _) ?_)
   | (refine wpList_store_row rfl 111 _ _ rfl (w.heap.size + 2) (sector0.map vu8).toArray rfl rfl 111 _ HK3.out (sector_size _ hl0) rfl (sector_all _) ?_))
  exact bodyPost_ret (FIN.out W sector0 x.steps 4 _ hl0 HK1.out HK2.out (by rfl) (by rfl) (by rfl)) rfl ⟨by rw [he, ha, hr], below_row (below_row HW.out _ (by omega)) _ (by omega)⟩
 ·go_wp2_with (refine wpList_load_midG rfl 40 _ rfl w.heap.size 0 rfl #[lv, wv, .int .i64 x.steps, fv] (load_rdisk HK0.out) ?_)
  refine (HSZ.out W HRW.out).mono ?_; rintro e w1 ⟨rfl, hb1⟩
  have J0 := Lib.hid (HK0.out.below hb1 HK0.out.lt)
  have J1 := Lib.hid (HK1.out.below hb1 HK1.out.lt)
  have J2 := Lib.hid (HK2.out.below hb1 HK2.out.lt)
  have HB1 := Lib.hid (HW.out.trans (hb1.mono HW.out.size))
  have hRW1 := Lib.hid ((HR.out.below HB1.out (Nat.le_refl _)).mono HB1.out.size)
  clear hb1 HK0 HK1 HK2 HW HRW
  by_cases hbig : x.size ≤ n
  ·obtain ⟨he, ha, hr⟩ := out4 (.inr hbig)
   have HK3 := Lib.hid (blk_row_far J2.out #[lv, wv, .int .i64 x.steps, fv] (g' := w.heap.size + 1) (by omega))
   go_wp2_with (first
    | (refine wpList_load_row rfl 40 _ rfl w.heap.size rfl 40 #[lv, wv, .int .i64 x.steps, fv] (0, 0) _ J0.out Tryz.underlying40 rfl (size_rdisk _ _ _ _) ?_)
    | (refine wpList_build_is rfl 111 _ rfl (sector0.map vu8).toArray (by kernel_rfl) ?_)
    | (refine wpList_store_row rfl 40 _ _ rfl (w.heap.size + 1) #[lv, wv, .int .i64 x.steps, fv] rfl rfl 40 zeroD J1.out (size_rdisk _ _ _ _) rfl (HONE.out _) ?_)
    | (refine wpList_store_row rfl 111 _ _ rfl (w.heap.size + 2) (sector0.map vu8).toArray rfl rfl 111 _ HK3.out (sector_size _ hl0) rfl (sector_all _) ?_))
   exact bodyPost_ret (FIN.out w1 sector0 x.steps 4 _ hl0 J1.out J2.out (by rfl) (by rfl) (by rfl)) rfl ⟨by rw [he, ha, hr], below_row (below_row HB1.out _ (by omega)) _ (by omega)⟩
  ·clear out4
   go_wp2_with (refine wpList_load_row rfl 40 _ rfl w.heap.size rfl 40 #[lv, wv, .int .i64 x.steps, fv] (0, 0) _ J0.out Tryz.underlying40 rfl (size_rdisk _ _ _ _) ?_)
   refine (HST.out w1 hRW1.out).mono ?_; rintro e w2 ⟨rfl, hb2⟩
   have L0 := Lib.hid (J0.out.below hb2 J0.out.lt)
   have L1 := Lib.hid (J1.out.below hb2 J1.out.lt)
   have L2 := Lib.hid (J2.out.below hb2 J2.out.lt)
   have HB2 := Lib.hid (HB1.out.trans (hb2.mono HB1.out.size))
   have hlt2 : w.heap.size + 2 < w2.heap.size := L2.out.lt
   clear hb2 J0 J1 J2 HB1 hRW1
   have z3 : Blk (w2.alloc (.cells zeroD 40)) w2.heap.size 40 zeroD := Blk.new w2 _ _
   have hz3 := z3.row #[lv, wv, .int .i64 (x.steps + 1), fv]
   have HB3 := Lib.hid (below_row (HB2.out.alloc HB2.out.size (.cells zeroD 40)) #[lv, wv, .int .i64 (x.steps + 1), fv] (g := w2.heap.size) (by omega))
   have M0 := Lib.hid (blk_row_far (L0.out.alloc (.cells zeroD 40)) #[lv, wv, .int .i64 (x.steps + 1), fv] (g' := w2.heap.size) (by omega))
   have M1 := Lib.hid (blk_row_far (L1.out.alloc (.cells zeroD 40)) #[lv, wv, .int .i64 (x.steps + 1), fv] (g' := w2.heap.size) (by omega))
   have M2 := Lib.hid (blk_row_far (L2.out.alloc (.cells zeroD 40)) #[lv, wv, .int .i64 (x.steps + 1), fv] (g' := w2.heap.size) (by omega))
   have M3 := Lib.hid hz3
   have Z3 := Lib.hid z3
   have ha : x.after n = x.stepped := by unfold DiskD.after; rw [if_neg (by omega)]
   clear L0 L1 L2 HB2 hz3 z3
   obtain ⟨W3, eW3⟩ : ∃ W3, W3 = (w2.alloc (.cells zeroD 40)).setRow w2.heap.size #[lv, wv, .int .i64 (x.steps + 1), fv] := ⟨_, rfl⟩
   by_cases hf : x.steps ∈ x.fails
   ·have he : x.err n = 120 := by unfold DiskD.err; rw [if_neg (by omega), if_pos hf]
    have hr : x.read n = sector0 := by unfold DiskD.read; rw [if_neg (by omega)]
    rw [decide_eq_true hf]
    have HN2 := Lib.hid (blk_row_far M2.out #[lv, wv, .int .i64 (x.steps + 1), fv] (g' := w.heap.size + 1) (by omega))
    go_wp2_with (first
     | (refine wpList_store_row rfl 40 _ _ rfl w2.heap.size #[lv, wv, .int .i64 (x.steps + 1), fv] rfl rfl 40 zeroD Z3.out (size_rdisk _ _ _ _) rfl (HONE.out _) ?_)
     | (refine wpList_load_row rfl 40 _ rfl w2.heap.size rfl 40 #[lv, wv, .int .i64 (x.steps + 1), fv] (0, 0) _ M3.out Tryz.underlying40 rfl (size_rdisk _ _ _ _) ?_)
     | (refine wpList_build_is rfl 111 _ rfl (sector0.map vu8).toArray (by kernel_rfl) ?_)
     | (refine wpList_store_row rfl 40 _ _ rfl (w.heap.size + 1) #[lv, wv, .int .i64 (x.steps + 1), fv] rfl rfl 40 zeroD M1.out (size_rdisk _ _ _ _) rfl (HONE.out _) ?_)
     | (refine wpList_store_row rfl 111 _ _ rfl (w.heap.size + 2) (sector0.map vu8).toArray rfl rfl 111 _ HN2.out (sector_size _ hl0) rfl (sector_all _) ?_))
    exact bodyPost_ret (FIN.out _ sector0 (x.steps + 1) 120 _ hl0 M1.out M2.out (by rfl) (by rfl) (by rfl)) rfl ⟨by rw [he, ha, hr]; rfl, below_row (below_row HB3.out _ (by omega)) _ (by omega)⟩
   ·have he : x.err n = 0 := by unfold DiskD.err; rw [if_neg (by omega), if_neg hf]
    have hr : x.read n = x.reads n := by unfold DiskD.read; rw [if_pos he]
    rw [decide_eq_false hf]
    go_wp2_with (first
     | (refine wpList_store_row rfl 40 _ _ rfl w2.heap.size #[lv, wv, .int .i64 (x.steps + 1), fv] rfl rfl 40 zeroD Z3.out (size_rdisk _ _ _ _) rfl (HONE.out _) ?_)
     | (refine wpList_load_row rfl 40 _ rfl w2.heap.size rfl 40 #[lv, wv, .int .i64 (x.steps + 1), fv] (0, 0) _ M3.out Tryz.underlying40 rfl (size_rdisk _ _ _ _) ?_))
    rw [← eW3]
    rw [← eW3] at HB3 M0 M1 M2 M3
    clear eW3 Z3
    refine wp_region_held_drew (S := (fun w' => Blk w' w2.heap.size 40 #[lv, wv, .int .i64 (x.steps + 1), fv] ∧ Blk w' w.heap.size 40 #[lv, wv, .int .i64 x.steps, fv])) (by kernel_rfl) (by first | exact ⟨M3.out, M0.out⟩ | ((try dsimp only); exact ⟨M3.out, M0.out⟩)) (fun hHeld => ?_)
    refine ty 0 rfl (yieldsIf_load_mid (by rfl) 40 _ rfl w2.heap.size 0 rfl [lv, wv, .int .i64 (x.steps + 1), fv] _ (fun w' h => blk_range h.1) Tryz.underlying40 rfl (size_rdisk _ _ _ _)) ?_
    refine ty 1 rfl (yieldsIf_load_mid (by rfl) 40 _ rfl w.heap.size 0 rfl [lv, wv, .int .i64 x.steps, fv] _ (fun w' h => blk_range h.2) Tryz.underlying40 rfl (size_rdisk _ _ _ _)) ?_
    refine tk 2 ?_
    refine rd 3 fun K hK => ?_
    go_simp
    obtain ⟨m, hm⟩ : ∃ m : Nat, n = m := ⟨n.toNat, by omega⟩
    subst hm
    refine (HRD.out W3.drew (((HR.out.below HB3.out (Nat.le_refl _)).mono HB3.out.size).drew) m rfl (by omega)).mono ?_; rintro e w4 ⟨rfl, hb4⟩
    have P0 := Lib.hid (M0.out.drew.below hb4 M0.out.lt)
    have P1 := Lib.hid (M1.out.drew.below hb4 M1.out.lt)
    have P2 := Lib.hid (M2.out.drew.below hb4 M2.out.lt)
    have P3 := Lib.hid (M3.out.drew.below hb4 M3.out.lt)
    have HB4 := Lib.hid (HB3.out.drew.trans (hb4.mono HB3.out.size))
    have hl := x.reads_len hx.sound m
    unfold sectorV
    go_wp2_with fail
    refine hK.out _ _ (by first | exact ⟨P3.out, P0.out⟩ | ((try dsimp only); exact ⟨P3.out, P0.out⟩)) (fun hHeld => ?_)
    clear hK K
    try simp only [Act.put, pz0, pz1, pz2, pz3, pz4, pz5]
    refine rd 4 fun K hK => ?_
    refine wp_store_row 40 _ _ rfl (w.heap.size + 1) #[lv, wv, .int .i64 (x.steps + 1), fv] rfl rfl 40 zeroD P1.out (size_rdisk _ _ _ _) rfl (HONE.out _) ?_
    refine hK.out _ _ (by first | exact ⟨blk_row_far P3.out _ (by omega), blk_row_far P0.out _ (by omega)⟩ | ((try dsimp only); exact ⟨blk_row_far P3.out _ (by omega), blk_row_far P0.out _ (by omega)⟩)) (fun hHeld => ?_)
    clear hK K
    try simp only [Act.put, pz0, pz1, pz2, pz3, pz4, pz5]
    refine rd 5 fun K hK => ?_
    have Q2 := Lib.hid (blk_row_far P2.out #[lv, wv, .int .i64 (x.steps + 1), fv] (g' := w.heap.size + 1) (by omega))
    refine wp_store_row 111 _ _ rfl (w.heap.size + 2) ((x.reads m).map vu8).toArray rfl rfl 111 _ Q2.out (sector_size _ hl) (sector_eq _ _ hl0 hl) (sector_all _) ?_
    refine hK.out _ _ (by first | exact ⟨blk_row_far (blk_row_far P3.out _ (by omega)) _ (by omega), blk_row_far (blk_row_far P0.out _ (by omega)) _ (by omega)⟩ | ((try dsimp only); exact ⟨blk_row_far (blk_row_far P3.out _ (by omega)) _ (by omega), blk_row_far (blk_row_far P0.out _ (by omega)) _ (by omega)⟩)) (fun hHeld => ?_)
    clear hK K
    try simp only [Act.put, pz0, pz1, pz2, pz3, pz4, pz5]
    refine tk 6 ?_
    refine wpAnyH_done (by kernel_rfl) ?_ _
    try simp only [Act.put, pz0, pz1, pz2, pz3, pz4, pz5]
    go_wp2_with fail
    exact bodyPost_ret (FIN.out w4 (x.reads m) (x.steps + 1) 0 _ hl P1.out P2.out (by rfl) (by rfl) (by rfl)) rfl ⟨by rw [he, ha, hr]; rfl, below_row (below_row HB4.out _ (by omega)) _ (by omega)⟩
end Go.Proofs.YtdpniceapmikpaaGreat
namespace Go.Proofs.YtdpniceapmikpaaGreat
open Go.RowKit

/-- an owned row of writes -/
theorem waits_own {w : World} {B e : Nat} {v : Value} {ws : List WaitD} (h : w.ownsRow B e 513 v ws.length (waitCells ws)) (hws : ∀ y ∈ ws, y.b.length = 512) (hl : ws.length ≤ 1000000) : WaitsIn w w.heap.size v ws := by
 refine ⟨hl, hws, ?_⟩
 rcases h.2 with ⟨e, h0⟩ | ⟨g, cap, cur, e, _, hg, h1, h2, h3, h4⟩
 ·have : ws = [] := List.eq_nil_of_length_eq_zero h0
  rw [this]
  exact ⟨none, 0, e, fun i y hi => by cases hi⟩
 ·refine ⟨some ⟨g, 0, none⟩, cap, e, fun i y hi => ⟨g, rfl, lt_of_block hg, fun j u hj => ?_⟩⟩
  have hc := waitCells_at ws hws i y hi j u hj
  rw [cell_of_row w g _ cur _ _ hg, ← Array.getElem?_toList]
  rw [← h4, List.getElem?_take] at hc
  split at hc
  ·exact hc
  ·cases hc
theorem rwaits_len : ∀ (ws : List WaitD), (∀ y ∈ ws, y.b.length = 512) → (waitCells ws).length = ws.length * 513
 | [], _ => rfl
 | y :: ws, h => by
  show (y.cells ++ waitCells ws).length = _
  rw [List.length_append, WaitD.len y (h y List.mem_cons_self), rwaits_len ws (fun z hz => h z (List.mem_cons_of_mem _ hz)), List.length_cons, Nat.add_mul]
  omega
theorem waitCells_split : ∀ (ws : List WaitD), (∀ y ∈ ws, y.b.length = 512) → ∀ (j : Nat) (u : Value), (waitCells ws)[j]? = some u → ∃ i y k, ws[i]? = some y ∧ j = i * 513 + k ∧ y.cells[k]? = some u
 | [], _, j, u, hj => by cases hj
 | y :: ws, h, j, u, hj => by
  have hl := WaitD.len y (h y List.mem_cons_self)
  have hj' : (y.cells ++ waitCells ws)[j]? = some u := hj
  by_cases hlt : j < 513
  ·rw [List.getElem?_append_left (by omega)] at hj'
   exact ⟨0, y, j, rfl, by omega, hj'⟩
  ·rw [List.getElem?_append_right (by omega), hl] at hj'
   obtain ⟨i, z, k, h1, h2, h3⟩ := waitCells_split ws (fun z hz => h z (List.mem_cons_of_mem _ hz)) (j - 513) u hj'
   exact ⟨i + 1, z, k, by simpa using h1, by omega, h3⟩
theorem waitCells_one (ws : List WaitD) (u : Value) (hu : u ∈ waitCells ws) : u.oneCell' = true := by
 unfold waitCells at hu
 obtain ⟨y, _, hy⟩ := List.mem_flatMap.1 hu
 exact wait_one y u hy
/-- what is asked of the types of a slice of writes -/
structure RowT (t e : TypeId) (i : TypeInfo) (z : Value) : Prop where
 ht : Tryz.prog.underlying t = some (.slice e)
 hi : Tryz.prog.info? e = some i
 hz : i.zero = some z
 h1 : i.size = 513
 h2 : i.bytes = 520
 h3 : z.cells.size = 513
theorem run_append_waits {t e : TypeId} {i0 : TypeInfo} {z0 : Value} (T : RowT t e i0 z0) (w : World) {base B n : Nat} {v : Value} {xs : List Value} (hown : w.ownsRow base e 513 v n xs) (ty : TypeId) (a : Option Addr) (cap : Nat) (l : List WaitD)
  (hu : WaitsIn w B (.slice a l.length cap) l) (hn : n ≤ 1000000) (hbase : base ≤ w.heap.size) :
  ∃ v' w', (Builtin.append_ #[t, t] ty #[v, .slice a l.length cap]).run Tryz.prog w = .ok v' w' ∧ w'.ownsRow base e 513 v' (n + l.length) (xs ++ waitCells l) ∧ w.grownBy w' v.ownBlock := by
 obtain ⟨hm, hws, a', cap', ea, hc⟩ := hu
 injection ea with e1 e2 e3
 subst e1
 have hlen := rwaits_len l hws
 cases a with
 | none =>
  have hl : l = [] := by
   cases l with
   | nil => rfl
   | cons c l =>
    obtain ⟨g, h, _⟩ := hc 0 c rfl
    cases h
  subst hl
  refine ⟨v, w, ?_, by simpa [waitCells] using hown, World.grownBy.refl w _⟩
  rcases hown.2 with ⟨rfl, rfl⟩ | ⟨g, cap2, cur, rfl, _, _, hnc, _⟩
  ·simp [Builtin.append_, run_underlying T.ht, sizeOf, typeInfo, T.hi, Builtin.lenOf, Builtin.firstCells]
  ·simp [Builtin.append_, run_underlying T.ht, sizeOf, typeInfo, T.hi, Builtin.lenOf, Builtin.firstCells, hnc, storeCells]
 | some ad =>
  have hnews : ∀ j u, (waitCells l)[j]? = some u → w.cell? (ad.add j) = some u := by
   intro j u hj
   obtain ⟨i, y, k, h1, rfl, h3⟩ := waitCells_split l hws j u hj
   obtain ⟨g, h, _, hr⟩ := hc i y h1
   obtain rfl := Option.some.inj h
   have := hr k u h3
   rw [add_at, Nat.zero_add]
   exact this
  obtain ⟨v', w', hrun, h2, h3, _, _⟩ := run_append_own_at (P := Tryz.prog) w base t ty e i0 z0 513 520 T.ht T.hi T.hz T.h1 T.h2 T.h3 (by omega) v n xs hown ad l.length cap (waitCells l) hlen hnews (waitCells_one l) (by unfold maxLen; omega) (by omega) hbase
  exact ⟨v', w', hrun, h2, h3⟩
theorem wp_append_waits {t e : TypeId} {i0 : TypeInfo} {z0 : Value} (T : RowT t e i0 z0) (w : World) {o : Oper} {a : Act} {K : Act → World → Prop} {Q : Exit → Act → World → Prop} (s x : Operand)
  (ho : o.op = .call { callee := .builtin .append, args := #[s, x], argTypes := #[t, t] })
  (base B n : Nat) (v : Value) (xs : List Value) (hs : a.eval s = v) (hown : w.ownsRow base e 513 v n xs) (A : Option Addr) (m cap : Nat) (l : List WaitD) (hx : a.eval x = .slice A m cap) (hm : l.length = m)
  (hu : WaitsIn w B (.slice A m cap) l) (hn : n ≤ 1000000) (hbase : base ≤ w.heap.size)
  (h : ∀ v' w', w'.ownsRow base e 513 v' (n + m) (xs ++ waitCells l) → w.grownBy w' v.ownBlock → K (a.put o.dst v') w') : o.wp Tryz.prog a w K Q := by
 subst hm
 obtain ⟨v', w', hrun, h2, h3⟩ := run_append_waits T w hown o.type A cap l hu hn hbase
 unfold Oper.wp execOp
 simp only [ho, resolve, invoke, builtin, Sem.run_bind, Sem.run_pure, Result.andThen_ok, List.map_toArray, List.map_cons, List.map_nil, hs, hx, hrun]
 exact h v' w' h2 h3
theorem rowT_rwait : ∃ i z, RowT 38 154 i z := by
 have h : (Tryz.prog.info? 154).map (fun i => (i.zero.map (·.cells.size), i.size, i.bytes)) = some (some 513, 513, 520) := by kernel_rfl
 obtain ⟨i, hi, he⟩ := Option.map_eq_some_iff.1 h
 injection he with h1 h2
 injection h2 with h2 h3
 obtain ⟨z, hz, h4⟩ := Option.map_eq_some_iff.1 h1
 exact ⟨i, z, ⟨Tryz.underlying38, hi, hz, h2, h3, h4⟩⟩
theorem rowT_lay : ∃ i z, RowT 108 113 i z := by
 have h : (Tryz.prog.info? 113).map (fun i => (i.zero.map (·.cells.size), i.size, i.bytes)) = some (some 513, 513, 520) := by kernel_rfl
 obtain ⟨i, hi, he⟩ := Option.map_eq_some_iff.1 h
 injection he with h1 h2
 injection h2 with h2 h3
 obtain ⟨z, hz, h4⟩ := Option.map_eq_some_iff.1 h1
 exact ⟨i, z, ⟨Tryz.underlying108, hi, hz, h2, h3, h4⟩⟩
theorem rwait_built (n : Int) (b : List UInt8) (hb : b.length = 512) : Tryz.prog.built 154 [(0, .int .i64 n), (1, .agg (b.map vu8).toArray)] = some (WaitD.cells ⟨n, b⟩).toArray := by
 obtain ⟨i, z, T⟩ := rowT_rwait
 have hu := Tryz.underlying154
 have h3 := T.h3
 unfold Program.built
 rw [T.hi, hu]
 simp only [T.hz]
 rw [show (List.mapM (fun f : Field => Option.map (fun i => (f.offset, i.size)) (Tryz.prog.info? f.type)) _ : Option (List (Nat × Nat))) = some [(0, 1), (1, 512)] from by kernel_rfl]
 simp only []
 have hd : z.cells.toList.length = 513 := by simpa using h3
 generalize z.cells = zc at *
 rw [fill_part (off := 0) (size := 1) rfl rfl (by omega), fill_part (off := 1) (size := 512) rfl (by simpa [Value.cells] using hb) (by rw [List.size_toArray]; simp [hd]; exact Nat.le_refl 1)]
 rw [fill_nil]
 apply congrArg some
 apply congrArg List.toArray
 rw [List.take_append_of_le_length (by simp [Value.cells]), List.take_of_length_le (by simp [Value.cells]), List.drop_eq_nil_of_le (by simp [hd, Value.cells])]
 simp only [List.take_zero, List.nil_append, List.append_nil]
 rfl
theorem lay_built (n : Int) (b : List UInt8) (hb : b.length = 512) : Tryz.prog.built 113 [(0, .int .i64 n), (1, .agg (b.map vu8).toArray)] = some (WaitD.cells ⟨n, b⟩).toArray := by
 obtain ⟨i, z, T⟩ := rowT_lay
 have hu := Tryz.underlying113
 have h3 := T.h3
 unfold Program.built
 rw [T.hi, hu]
 simp only [T.hz]
 rw [show (List.mapM (fun f : Field => Option.map (fun i => (f.offset, i.size)) (Tryz.prog.info? f.type)) _ : Option (List (Nat × Nat))) = some [(0, 1), (1, 512)] from by kernel_rfl]
 simp only []
 have hd : z.cells.toList.length = 513 := by simpa using h3
 generalize z.cells = zc at *
 rw [fill_part (off := 0) (size := 1) rfl rfl (by omega), fill_part (off := 1) (size := 512) rfl (by simpa [Value.cells] using hb) (by rw [List.size_toArray]; simp [hd]; exact Nat.le_refl 1)]
 rw [fill_nil]
 apply congrArg some
 apply congrArg List.toArray
 rw [List.take_append_of_le_length (by simp [Value.cells]), List.take_of_length_le (by simp [Value.cells]), List.drop_eq_nil_of_le (by simp [hd, Value.cells])]
 simp only [List.take_zero, List.nil_append, List.append_nil]
 rfl
end Go.Proofs.YtdpniceapmikpaaGreat
namespace Go.Proofs.YtdpniceapmikpaaGreat
open Go.RowKit

/-- all that is read -/
def readsL (x : DiskD) : List UInt8 := (List.range x.size.toNat).flatMap fun (n : Nat) => x.reads (n : Int)
def readsTo (x : DiskD) (k : Nat) : List UInt8 := (List.range k).flatMap fun (n : Nat) => x.reads (n : Int)
theorem readsTo_succ (x : DiskD) (k : Nat) : readsTo x (k + 1) = readsTo x k ++ x.reads k := by
 unfold readsTo
 rw [List.range_succ, List.flatMap_append]
 simp
theorem readsTo_len {x : DiskD} (hx : x.sound) (k : Nat) : (readsTo x k).length = 512 * k := flat_len _ (fun n => DiskD.reads_len x hx n) _
set_option maxRecDepth 100000 in
set_option maxHeartbeats 4000000 in
theorem dbytes_any (D : DiskP) (x : DiskD) (w : World) (h : DiskAt w D x) (hx : x.ok) :
  Calls Tryz.prog 24 #[ptr D.p] w fun e w' => ∃ u, e = .returned u ∧ w'.ownsRow w.heap.size 5 1 u (readsL x).length ((readsL x).map vu8) ∧ Below w.heap.size w w' := by
 have HS := Lib.hid (dsize_any D x w h hx)
 have HR := Lib.hid (fun (n : Nat) W hh => reads_any D x n W hh hx.sound)
 have HH := Lib.hid h
 have HL := Lib.hid (readsTo_len hx.sound)
 have HLR := Lib.hid (fun n => x.reads_len hx.sound n)
 have HSU := Lib.hid (readsTo_succ x)
 have hl0 : sector0.length = 512 := List.length_replicate
 obtain ⟨hx1, hx2, _⟩ := hx
 obtain ⟨s, hs⟩ : ∃ s : Nat, x.size = s := ⟨x.size.toNat, by omega⟩
 have eR : readsL x = readsTo x s := by unfold readsL readsTo; rw [hs]; rfl
 rw [eR]
 rw [hs] at HS hx1 hx2
 clear eR h hs
 unfold ptr at *
 go_enter Tryz.func24, Tryz.ntmps24
 go_wp2_with fail
 refine HS.out.mono ?_; rintro e w1 ⟨rfl, rfl⟩
 go_wp2_with fail
 go_loopw [3, 8] (fun o i wr => ∃ k : Nat, k ≤ s ∧ i = .int .i64 (k : Int) ∧ wr.ownsRow w.heap.size 5 1 o (512 * k) ((readsTo x k).map vu8) ∧ Below w.heap.size w wr) (fun _ i _ => s - (intOf i).toNat)
 case atStart => exact ⟨0, by omega, rfl, World.ownsRow_nil _ _ _ _, Below.refl _ _⟩
 case round =>
  obtain ⟨k, hk, rfl, hO, hB⟩ := hrel
  by_cases hlt : k < s
  ·have hli : (k : Int) < (s : Int) := by omega
   have HO := Lib.hid hO
   have HB := Lib.hid hB
   have hsz := hB.size
   clear hO hB
   go_wp2_with fail
   refine (HR.out k wr (HH.out.below HB.out)).mono ?_; rintro e w2 ⟨rfl, hb2⟩
   have hbl := HLR.out k
   have hnx := HSU.out k
   have hlk := HL.out k
   obtain ⟨b, eb⟩ : ∃ b, b = x.reads k := ⟨_, rfl⟩
   rw [← eb] at hbl hnx ⊢
   have HNX := Lib.hid hnx
   clear eb hnx
   have hO2 := ownsRow_out (F := fun _ => False) (outB hb2) HO.out (fun _ _ => id)
   have hB2 := HB.out.trans (hb2.mono hsz)
   have hs2 := hb2.size
   have z1 : Blk (w2.alloc (.cells Tryz.zeroCells111 111)) w2.heap.size 111 (sector0.map vu8).toArray := by rw [← zero111]; exact Blk.new w2 _ _
   have z2 := z1.row (b.map vu8).toArray
   have hO3 := ownsRow_out (F := fun i => i = w2.heap.size) (out_row (w := w2.alloc (.cells Tryz.zeroCells111 111)) (b.map vu8).toArray rfl) (hO2.alloc (.cells Tryz.zeroCells111 111)) (fun i hi e => by have := (hO2.lt i hi).2; omega)
   have hB3 := below_row (hB2.alloc hB2.size (.cells Tryz.zeroCells111 111)) (b.map vu8).toArray (g := w2.heap.size) (by omega)
   have hs3 : ((w2.alloc (.cells Tryz.zeroCells111 111)).setRow w2.heap.size (b.map vu8).toArray).heap.size = w2.heap.size + 1 := by simp
   have HV := Lib.hid (blk_bytes z2 512 (by omega) (by rw [hbl]; decide))
   have hszb := sector_size b hbl
   have hseb := sector_eq _ _ hl0 hbl
   have honeb := sector_all b
   have Z1 := Lib.hid z1
   have HO3 := Lib.hid hO3
   have HB3 := Lib.hid hB3
   have hbt : b.take 512 = b := List.take_of_length_le (by omega)
   rw [hbt, hbl] at HV
   clear z1 z2 hO2 hB2 hO3 hB3 hb2 HO HB
   unfold sectorV
   obtain ⟨W3, eW3⟩ : ∃ W3, W3 = (w2.alloc (.cells Tryz.zeroCells111 111)).setRow w2.heap.size (b.map vu8).toArray := ⟨_, rfl⟩
   rw [← eW3] at HV HO3 HB3 hs3
   go_upto_region 6 with (refine wpList_store_row rfl 111 _ _ rfl w2.heap.size (b.map vu8).toArray rfl rfl 111 _ Z1.out hszb hseb honeb ?_)
   rw [← eW3]
   clear eW3
   go_wp2_with (at_builtin; refine wpList_append_bytes _ rfl (.tmp 14) (.tmp 15) rfl w.heap.size W3.heap.size (512 * k) _ _ rfl HO3.out (some ⟨w2.heap.size, 0, none⟩) 512 512 b rfl hbl HV.out (by omega) (by omega) ?_; intro u4 w4 hO4 hg4)
   go_roundw
   case rel =>
    refine ⟨k + 1, by omega, by go_num, ?_, HB3.out.grown hg4 (by omega) (fun r hr => (HO3.out.lt r hr).1)⟩
    rw [HNX.out, List.map_append, show 512 * (k + 1) = 512 * k + 512 by omega]
    exact hO4
   case measure => simp [intOf]; omega
  ·have hnl : ¬ ((k : Int) < (s : Int)) := by omega
   have hks : k = s := by omega
   go_wp2_with fail
   go_ret
   have hl := HL.out k
   rw [← hks, hl]
   exact ⟨_, rfl, hO, hB⟩
theorem dsteps_any (D : DiskP) (x : DiskD) (w : World) (h : DiskAt w D x) (hx : x.ok) : Calls Tryz.prog 73 #[ptr D.p] w fun e w' => e = .returned (.int .i64 x.steps) ∧ w = w' := by
 have c3 := h.blk.cell_is 3 rfl
 have HN := Lib.hid (dnone_any D x w h hx)
 unfold ptr at *
 clear h hx
 go_enter Tryz.func73, Tryz.ntmps73
 go_wp2_with fail
 refine HN.out.mono ?_; rintro e w1 ⟨rfl, rfl⟩
 go_wp2_with fail
 go_ret
 exact ⟨rfl, rfl⟩
end Go.Proofs.YtdpniceapmikpaaGreat
