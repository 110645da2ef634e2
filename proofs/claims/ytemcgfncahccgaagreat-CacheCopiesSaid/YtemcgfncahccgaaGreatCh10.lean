/-
  The reference's disk: Reads, step.
  The reference's disk: Read.
  Maps with integer keys that are known whole: a store, of a new key or of one that is there; for all worlds.
-/
import Derived.Test.YtemcgfncahccgaaGreatCh1
import Derived.Test.YtemcgfncahccgaaGreatCh4
import Derived.Test.YtemcgfncahccgaaGreatCh9
set_option linter.unusedVariables false
set_option linter.unusedSimpArgs false
namespace Go.Proofs.YtemcgfncahccgaaGreat
open Go.RowKit

/-- what is read behind the first j writes -/
def DiskD.readsK (x : DiskD) (n : Int) (j : Nat) : List UInt8 := ({ x with waits := x.waits.take j } : DiskD).reads n
theorem readsK_zero (x : DiskD) (n : Int) : x.readsK n 0 = x.lasts n := by unfold DiskD.readsK DiskD.reads; simp
theorem readsK_all (x : DiskD) (n : Int) : x.readsK n x.waits.length = x.reads n := by unfold DiskD.readsK; rw [List.take_length]
theorem readsK_succ (x : DiskD) (n : Int) (j : Nat) (y : WaitD) (hy : x.waits[j]? = some y) : x.readsK n (j + 1) = if y.n = n then y.b else x.readsK n j := by
 unfold DiskD.readsK DiskD.reads
 simp only [List.take_add_one, hy, Option.toList_some, List.reverse_append, List.reverse_cons, List.reverse_nil, List.nil_append, List.cons_append, List.find?_cons]
 by_cases h : y.n = n
 ·rw [if_pos h]; simp [h]
 ·rw [if_neg h]
  have : (y.n == n) = false := by simpa using h
  simp only [this]
theorem readsK_len {x : DiskD} (hx : x.sound) (n : Int) (j : Nat) : (x.readsK n j).length = 512 := by
 have h : ({ x with waits := x.waits.take j } : DiskD).sound := ⟨hx.1, fun y hy => hx.2.1 y (List.mem_of_mem_take hy), by show (x.waits.take j).length ≤ 1000000; rw [List.length_take]; have := hx.2.2; omega⟩
 exact DiskD.reads_len _ h n
theorem WaitsIn.at_ {w : World} {B : Nat} {a : Option Addr} {n c : Nat} {ws : List WaitD} (h : WaitsIn w B (.slice a n c) ws) {j : Nat} {y : WaitD} (hy : ws[j]? = some y) :
  y.b.length = 512 ∧ ∃ g, a = some ⟨g, 0, none⟩ ∧ g < B ∧ w.cell? ⟨g, j * 513, none⟩ = some (.int .i64 y.n) ∧ w.rangeAt g (j * 513 + 1) (y.b.map vu8) := by
 obtain ⟨_, hws, a', c', e, h4⟩ := h
 injection e with ea _ _
 subst ea
 obtain ⟨g, e2, hg, hr⟩ := h4 j y hy
 exact ⟨hws y (List.mem_of_getElem? hy), g, e2, hg, (by have := hr 0 (.int .i64 y.n) (by unfold WaitD.cells; rfl); rwa [Nat.add_zero] at this), fun i u hi => by
  have := hr (i + 1) u (by unfold WaitD.cells; simpa using hi)
  rw [show j * 513 + 1 + i = j * 513 + (i + 1) by omega]
  exact this⟩
set_option maxRecDepth 100000 in
set_option maxHeartbeats 2000000 in
theorem rdreads_any (x : DiskD) (lv wv fv : Value) (s : Int) (n : Nat) (w : World) (h : RDisk w w.heap.size lv wv fv x) (hx : x.ok) (hn : (n : Int) < x.size) :
  Calls Tryz.prog 110 #[.agg #[lv, wv, .int .i64 s, fv], .int .i64 n] w fun e w' => e = .returned (sectorV (x.reads n)) ∧ Below w.heap.size w w' := by
 have HL := Lib.hid h.waits
 have HS := Lib.hid (fun W (hh : RDisk W W.heap.size lv wv fv x) => rdsector_any x lv wv fv s n W hh hx hn)
 have HR := Lib.hid h
 obtain ⟨h1, hws, a, cap, rfl, h2⟩ := h.waits
 have hl0 : sector0.length = 512 := List.length_replicate
 have hlen := Lib.hid (readsK_len hx.sound n)
 have hz := readsK_zero x n
 have hlz := hx.2.2.1 n
 have hwl := hx.2.2.2.2.2.2
 have hsu := Lib.hid (readsK_succ x n)
 have hall := Lib.hid (readsK_all x n)
 obtain ⟨W, eW⟩ : ∃ W, W = (w.alloc (.cells #[lv, .slice a x.waits.length cap, .int .i64 s, fv] 32)).alloc (.cells Tryz.zeroCells84 84) := ⟨_, rfl⟩
 have hbW : Below w.heap.size w W := by rw [eW]; exact ((Below.refl _ w).alloc (Nat.le_refl _) _).alloc (by simp) _
 have k0 : Blk W w.heap.size 32 #[lv, .slice a x.waits.length cap, .int .i64 s, fv] := by rw [eW]; exact (Blk.new w _ _).alloc _
 have k1 : Blk W (w.heap.size + 1) 84 (sector0.map vu8).toArray := by rw [eW, ← zero111]; exact Blk.new2 w _ _ _
 have hWs : W.heap.size = w.heap.size + 2 := by rw [eW]; simp
 have hRW := (HR.out.below hbW (Nat.le_refl _)).mono hbW.size
 clear h h2
 go_enter Tryz.func110, Tryz.ntmps110
 go_upto_region 1 with fail
 rw [← eW]
 clear eW
 have q1 := k0.cell_is 0 rfl
 have q2 := k0.cell_is 1 rfl
 have q3 := k0.cell_is 2 rfl
 have q4 := k0.cell_is 3 rfl
 go_wp2_with (refine wpList_load_row rfl 32 _ rfl w.heap.size rfl 32 #[lv, .slice a x.waits.length cap, .int .i64 s, fv] (0, 0) _ k0 Tryz.underlying32 rfl (by kernel_rfl) ?_)
 refine (HS.out W hRW).mono ?_; rintro e w1 ⟨rfl, hb1⟩
 have K0 := k0.below hb1 k0.lt
 have K1 := k1.below hb1 k1.lt
 have hB1 := hbW.trans (hb1.mono hbW.size)
 have hs1 := hb1.size
 clear q1 q2 q3 q4 k0 k1
 have K2 : Blk (w1.alloc (.cells Tryz.zeroCells84 84)) w1.heap.size 84 (sector0.map vu8).toArray := by rw [← zero111]; exact Blk.new w1 _ _
 unfold sectorV
 go_wp2_with (refine wpList_store_row rfl 84 _ _ rfl w1.heap.size ((x.lasts n).map vu8).toArray rfl rfl 84 _ K2 (sector_size _ hlz) (sector_eq _ _ hl0 hlz) (sector_all _) ?_)
 have K3 := K2.row ((x.lasts n).map vu8).toArray
 have hs2 : (w1.alloc (.cells Tryz.zeroCells84 84)).heap.size = w1.heap.size + 1 := by simp
 have K0b := blk_row_far (K0.alloc (.cells Tryz.zeroCells84 84)) ((x.lasts n).map vu8).toArray (g' := w1.heap.size) (by have := K0.lt; omega)
 have K1b := blk_row_far (K1.alloc (.cells Tryz.zeroCells84 84)) ((x.lasts n).map vu8).toArray (g' := w1.heap.size) (by have := K1.lt; omega)
 have hB2 := below_row (hB1.alloc hB1.size (.cells Tryz.zeroCells84 84)) ((x.lasts n).map vu8).toArray (g := w1.heap.size) (by omega)
 clear K0 K1 K2 hB1
 generalize (w1.alloc _).setRow _ _ = W2 at *
 generalize w1.heap.size = G at *
 go_loopw [6] (fun i wr => ∃ j : Nat, j ≤ x.waits.length ∧ i = .int .i64 j ∧ Blk wr G 84 ((x.readsK n j).map vu8).toArray ∧ Blk wr (w.heap.size + 1) 84 (sector0.map vu8).toArray ∧ Blk wr w.heap.size 32 #[lv, .slice a x.waits.length cap, .int .i64 s, fv] ∧ Below w.heap.size w wr) (fun i _ => x.waits.length - (intOf i).toNat)
 case atStart => exact ⟨0, by omega, rfl, by rw [hz]; exact K3, K1b, K0b, hB2⟩
 case round =>
  obtain ⟨j, hj, rfl, hO, hR, hD, hB⟩ := hrel
  have cD := hD.cell_is 1 rfl
  by_cases hlt : j < x.waits.length
  ·obtain ⟨y, hy⟩ : ∃ y, x.waits[j]? = some y := ⟨_, List.getElem?_eq_getElem hlt⟩
   obtain ⟨hyb, g, rfl, hg, hc1, hc2⟩ := (HL.out.below hB (Nat.le_refl _)).at_ hy
   have hj1 := hsu.out j y hy
   have hl2 := hlen.out j
   obtain ⟨old, eold⟩ : ∃ old, old = x.readsK n j := ⟨_, rfl⟩
   rw [← eold] at hO hj1 hl2
   obtain ⟨yn, yb⟩ := y
   simp only at hc1 hc2 hyb hj1
   have HJ := Lib.hid hj1
   clear hj1
   by_cases hyn : yn = n
   ·subst hyn
    rw [if_pos rfl] at HJ
    have HC := Lib.hid hc2
    have hszy := sector_size yb hyb
    have hszl : (Tryz.prog.info? 84).map (·.size) = some (yb.map vu8).length := by simpa using hszy
    have hsey := sector_eq old yb hl2 hyb
    have hone := sector_all yb
    have HO := Lib.hid (hO.row (yb.map vu8).toArray)
    have HR1 := Lib.hid (blk_row_far hR (yb.map vu8).toArray (g' := G) (by omega))
    have HD1 := Lib.hid (blk_row_far hD (yb.map vu8).toArray (g' := G) (by omega))
    have HB1 := Lib.hid (below_row hB (yb.map vu8).toArray (g := G) (by omega))
    clear hR hD hB hc2
    go_wp2_with (first
     | (refine wpList_load_mid rfl 84 _ rfl g (j * 513 + 1) rfl (yb.map vu8) _ HC.out Tryz.underlying84 rfl hszl ?_)
     | (refine wpList_store_row rfl 84 _ _ rfl G (yb.map vu8).toArray rfl rfl 84 _ hO hszy hsey hone ?_))
    go_roundw
    case rel => exact ⟨j + 1, by omega, by go_num, by rw [HJ.out]; exact HO.out, HR1.out, HD1.out, HB1.out⟩
    case measure => simp [intOf]; omega
   ·rw [if_neg hyn] at HJ
    have hyn2 : ((yn : Int) == (n : Int)) = false := by simpa using hyn
    go_wp2_with fail
    exact ⟨⟨j + 1, by omega, by go_num, by rw [HJ.out]; exact hO, hR, hD, hB⟩, by simp [intOf]; omega⟩
  ·obtain rfl : j = x.waits.length := by omega
   rw [hall.out] at hO
   have hbl := x.reads_len hx.sound n
   obtain ⟨b, eb⟩ : ∃ b, b = x.reads n := ⟨_, rfl⟩
   rw [← eb] at hO hbl
   have hone := sector_all b
   have hsz := sector_size _ hbl
   have hse := sector_eq _ _ hl0 hbl
   go_wp2_with (first
    | (refine wpList_load_row rfl 84 _ rfl G rfl 84 (b.map vu8).toArray (0, 0) _ hO Tryz.underlying84 rfl hsz ?_)
    | (refine wpList_store_row rfl 84 _ _ rfl (w.heap.size + 1) (b.map vu8).toArray rfl rfl 84 _ hR hsz hse hone ?_))
   exact bodyPost_ret (results_cell_row Tryz.results110 _ _ (w.heap.size + 1) 84 (b.map vu8).toArray (0, 0) _ rfl (hR.row _) Tryz.underlying84 rfl hsz) rfl ⟨by rw [← eb]; rfl, below_row hB _ (by omega)⟩

set_option maxRecDepth 100000 in
set_option maxHeartbeats 2000000 in
theorem rdstep_any (x : DiskD) (lv wv fv : Value) (w : World) (h : RDisk w w.heap.size lv wv fv x) (hx : x.ok) :
  Calls Tryz.prog 109 #[.agg #[lv, wv, .int .i64 x.steps, fv]] w fun e w' => e = .returned (.tuple #[.agg #[lv, wv, .int .i64 (x.steps + 1), fv], .bool (!decide (x.steps ∈ x.fails))]) ∧ Below w.heap.size w w' := by
 have HL := Lib.hid h.fails
 have HONE := Lib.hid h.one
 obtain ⟨hmx, a, cap, rfl, hcap, h2⟩ := h.fails
 have hst := hx.2.2.2.2
 unfold maxLen at hmx
 obtain ⟨W, eW⟩ : ∃ W, W = (w.alloc (.cells #[lv, wv, .int .i64 x.steps, .slice a x.fails.length cap] 32)).alloc (.cells zeroD 32) := ⟨_, rfl⟩
 have hbW : Below w.heap.size w W := by rw [eW]; exact ((Below.refl _ w).alloc (Nat.le_refl _) _).alloc (by simp) _
 have k0 : Blk W w.heap.size 32 #[lv, wv, .int .i64 x.steps, .slice a x.fails.length cap] := by rw [eW]; exact (Blk.new w _ _).alloc _
 have k1 : Blk W (w.heap.size + 1) 32 zeroD := by rw [eW]; exact Blk.new2 w _ _ _
 clear h h2
 go_enter Tryz.func109, Tryz.ntmps109
 go_upto_region 1 with fail
 rw [← eW]
 clear eW
 have q0 := k0.cell_is 2 rfl
 have q1 := k0.frozen 2
 have k0b := k0.set_ 2 (.int .i64 (x.steps + 1))
 have k1b := k1.far (p := ⟨w.heap.size, 2, none⟩) (by simp) (.int .i64 (x.steps + 1))
 have hbb := hbW.setCell (p := ⟨w.heap.size, 2, none⟩) (by simp) (.int .i64 (x.steps + 1))
 have hs0 : 0 ≤ x.steps ∧ x.steps ≤ 1000000000000 := ⟨hst.1, hst.2.1⟩
 have hw0 : w.heap.size < W.heap.size := k0.lt
 clear k1 hbW hst
 go_wp2_with fail
 go_loopw [5] (fun i wr => ∃ j : Nat, j ≤ x.fails.length ∧ i = .int .i64 j ∧ x.steps ∉ x.fails.take j ∧ Blk wr (w.heap.size + 1) 32 zeroD ∧ Blk wr w.heap.size 32 #[lv, wv, .int .i64 (x.steps + 1), .slice a x.fails.length cap] ∧ Below w.heap.size w wr) (fun i _ => x.fails.length - (intOf i).toNat)
 case atStart => exact ⟨0, by omega, rfl, by simp, k1b, k0b, hbb⟩
 case round =>
  obtain ⟨j, hj, rfl, hnj, hR, hD, hB⟩ := hrel
  have c0 := hD.cell_is 0 rfl
  have c1 := hD.cell_is 1 rfl
  have c2 := hD.cell_is 2 rfl
  have c3 := hD.cell_is 3 rfl
  by_cases hlt : j < x.fails.length
  ·obtain ⟨y, hy⟩ : ∃ y, x.fails[j]? = some y := ⟨_, List.getElem?_eq_getElem hlt⟩
   obtain ⟨g, off, rfl, hg, hc1⟩ := (HL.out.below hB (Nat.le_refl _)).at_ hy
   by_cases hyn : y = x.steps
   ·subst hyn
    have hin : x.steps ∈ x.fails := List.mem_of_getElem? hy
    go_wp2_with (first
     | (refine wpList_load_row rfl 32 _ rfl w.heap.size rfl 32 #[lv, wv, .int .i64 (x.steps + 1), .slice (some ⟨g, off, none⟩) x.fails.length cap] (0, 0) _ hD Tryz.underlying32 rfl (size_rdisk _ _ _ _) ?_)
     | (refine wpList_store_row rfl 32 _ _ rfl (w.heap.size + 1) #[lv, wv, .int .i64 (x.steps + 1), .slice (some ⟨g, off, none⟩) x.fails.length cap] rfl rfl 32 zeroD hR (size_rdisk _ _ _ _) rfl (HONE.out _) ?_))
    refine bodyPost_ret (results_row_tmp Tryz.results109 _ _ (w.heap.size + 1) 32 #[lv, wv, .int .i64 (x.steps + 1), .slice (some ⟨g, off, none⟩) x.fails.length cap] (0, 0) _ rfl (hR.row _) Tryz.underlying32 rfl (size_rdisk _ _ _ _) _ rfl) rfl ⟨by rw [decide_eq_true hin]; rfl, below_row hB _ (by omega)⟩
   ·have hyn2 : (y == x.steps) = false := by simpa using hyn
    have hnj2 : x.steps ∉ x.fails.take (j + 1) := by
     rw [List.take_add_one, hy]
     simp only [Option.toList_some, List.mem_append, List.mem_singleton]
     rintro (h | h)
     ·exact hnj h
     ·exact hyn h.symm
    go_wp2_with fail
    exact ⟨⟨j + 1, by omega, by go_num, hnj2, hR, hD, hB⟩, by simp [intOf]; omega⟩
  ·obtain rfl : j = x.fails.length := by omega
   rw [List.take_length] at hnj
   go_wp2_with (first
    | (refine wpList_load_row rfl 32 _ rfl w.heap.size rfl 32 #[lv, wv, .int .i64 (x.steps + 1), .slice a x.fails.length cap] (0, 0) _ hD Tryz.underlying32 rfl (size_rdisk _ _ _ _) ?_)
    | (refine wpList_store_row rfl 32 _ _ rfl (w.heap.size + 1) #[lv, wv, .int .i64 (x.steps + 1), .slice a x.fails.length cap] rfl rfl 32 zeroD hR (size_rdisk _ _ _ _) rfl (HONE.out _) ?_))
   refine bodyPost_ret (results_row_tmp Tryz.results109 _ _ (w.heap.size + 1) 32 #[lv, wv, .int .i64 (x.steps + 1), .slice a x.fails.length cap] (0, 0) _ rfl (hR.row _) Tryz.underlying32 rfl (size_rdisk _ _ _ _) _ rfl) rfl ⟨by rw [decide_eq_false hnj]; rfl, below_row hB _ (by omega)⟩
end Go.Proofs.YtemcgfncahccgaaGreat
namespace Go.Proofs.YtemcgfncahccgaaGreat
open Go.RowKit

theorem results_row_row_tmp {P : Program} {fn : Func} {p q r : Tmp} {ty te : TypeId} (h : fn.results = #[.cell p ty, .cell q te, .tmp r]) (tmps : Array Value) (w : World) (b c v : Value) (g g' : Nat)
  (hp : tmps.getD p undef = .pointer (some ⟨g, 0, none⟩)) (hb : (loadVar ty ⟨g, 0, none⟩).run P w = .ok b w) (hq : tmps.getD q undef = .pointer (some ⟨g', 0, none⟩)) (hc : (loadVar te ⟨g', 0, none⟩).run P w = .ok c w) (hr : tmps.getD r undef = v) :
  (results fn tmps).run P w = .ok (.tuple #[b, c, v]) w := by
 have hp' : tmps[p]?.getD undef = .pointer (some ⟨g, 0, none⟩) := by simpa using hp
 have hq' : tmps[q]?.getD undef = .pointer (some ⟨g', 0, none⟩) := by simpa using hq
 have hr' : tmps[r]?.getD undef = v := by simpa using hr
 simp [results, h, hp', hq', hr', asAddr, hb, hc]
theorem blk_range {W : World} {g : Nat} {t : TypeId} {cs : Array Value} (h : Blk W g t cs) : W.rangeAt g 0 cs.toList := fun j v hv => by
 rw [Nat.zero_add]
 exact h.cell_is j (by simpa using hv)
theorem RDisk.drew {W : World} {B : Nat} {lv wv fv : Value} {x : DiskD} (h : RDisk W B lv wv fv x) : RDisk W.drew B lv wv fv x := ⟨h.lasts, h.waits, h.fails⟩
theorem load_sector {W : World} {g : Nat} {b : List UInt8} (hb : b.length = 512) (h : Blk W g 84 (b.map vu8).toArray) : (loadVar 84 ⟨g, 0, none⟩).run Tryz.prog W = .ok (.agg (b.map vu8).toArray) W :=
 run_loadVar_row W g 84 84 (b.map vu8).toArray (0, 0) _ h Tryz.underlying84 rfl (sector_size _ hb)

set_option maxRecDepth 100000 in
set_option maxHeartbeats 4000000 in
theorem rdread_any (x : DiskD) (lv wv fv : Value) (n : Int) (w : World) (h : RDisk w w.heap.size lv wv fv x) (hx : x.ok) :
  Calls Tryz.prog 84 #[.agg #[lv, wv, .int .i64 x.steps, fv], .int .i64 n] w fun e w' => e = .returned (.tuple #[.agg #[lv, wv, .int .i64 (x.after n).steps, fv], sectorV (x.read n), .int .i64 (x.err n)]) ∧ Below w.heap.size w w' := by
 have HONE := Lib.hid h.one
 have HSZ := Lib.hid (fun W hh => rdsize_any x lv wv fv x.steps W hh hx)
 have HST := Lib.hid (fun W hh => rdstep_any x lv wv fv W hh hx)
 have HRD := Lib.hid (fun W hh (m : Nat) (e : n = m) (hm : (m : Int) < x.size) => rdreads_any x lv wv fv x.steps m W hh hx hm)
 have HR := Lib.hid h
 have hl0 : sector0.length = 512 := List.length_replicate
 obtain ⟨W, eW⟩ : ∃ W, W = ((w.alloc (.cells #[lv, wv, .int .i64 x.steps, fv] 32)).alloc (.cells zeroD 32)).alloc (.cells Tryz.zeroCells84 84) := ⟨_, rfl⟩
 have hbW : Below w.heap.size w W := by rw [eW]; exact (((Below.refl _ w).alloc (Nat.le_refl _) _).alloc (by simp) _).alloc (by simp; omega) _
 have k0 : Blk W w.heap.size 32 #[lv, wv, .int .i64 x.steps, fv] := by rw [eW]; exact ((Blk.new w _ _).alloc _).alloc _
 have k1 : Blk W (w.heap.size + 1) 32 zeroD := by rw [eW]; exact (Blk.new2 w _ _ _).alloc _
 have k2 : Blk W (w.heap.size + 2) 84 (sector0.map vu8).toArray := by rw [eW, ← zero111]; exact Blk.new' (by simp)
 have HRW := Lib.hid ((HR.out.below hbW (Nat.le_refl _)).mono hbW.size)
 unfold sectorV
 clear h
 go_enter Tryz.func84, Tryz.ntmps84
 go_upto_region 1 with fail
 rw [← eW]
 clear eW
 have HW := Lib.hid hbW
 have HK0 := Lib.hid k0
 have HK1 := Lib.hid k1
 have HK2 := Lib.hid k2
 clear hbW k0 k1 k2
 have fin : ∀ (W2 : World) (c : List UInt8) (s er : Int) (tmps : Array Value), c.length = 512 → Blk W2 (w.heap.size + 1) 32 zeroD → Blk W2 (w.heap.size + 2) 84 (sector0.map vu8).toArray →
   tmps.getD 4 undef = .pointer (some ⟨w.heap.size + 1, 0, none⟩) → tmps.getD 5 undef = .pointer (some ⟨w.heap.size + 2, 0, none⟩) → tmps.getD 6 undef = .int .i64 er →
   (results Tryz.f84 tmps).run Tryz.prog ((W2.setRow (w.heap.size + 1) #[lv, wv, .int .i64 s, fv]).setRow (w.heap.size + 2) (c.map vu8).toArray) = .ok (.tuple #[.agg #[lv, wv, .int .i64 s, fv], .agg (c.map vu8).toArray, .int .i64 er]) ((W2.setRow (w.heap.size + 1) #[lv, wv, .int .i64 s, fv]).setRow (w.heap.size + 2) (c.map vu8).toArray) := by
  intro W2 c s er tmps hc h1 h2 t4 t5 t6
  have i1 := blk_row_far (h1.row #[lv, wv, .int .i64 s, fv]) (c.map vu8).toArray (g' := w.heap.size + 2) (by omega)
  have i2 := (blk_row_far h2 #[lv, wv, .int .i64 s, fv] (g' := w.heap.size + 1) (by omega)).row (c.map vu8).toArray
  exact results_row_row_tmp Tryz.results84 _ _ _ _ _ _ _ t4 (load_rdisk i1) t5 (load_sector hc i2) t6
 have FIN := Lib.hid fin
 clear fin
 have out4 : n < 0 ∨ x.size ≤ n → x.err n = 4 ∧ x.after n = x ∧ x.read n = sector0 := by
  intro ho
  have he : x.err n = 4 := by unfold DiskD.err; rw [if_pos ho]
  refine ⟨he, by unfold DiskD.after; rw [if_pos ho], by unfold DiskD.read; rw [if_neg (by omega)]⟩
 by_cases hneg : n < 0
 ·obtain ⟨he, ha, hr⟩ := out4 (.inl hneg)
  have HK3 := Lib.hid (blk_row_far HK2.out #[lv, wv, .int .i64 x.steps, fv] (g' := w.heap.size + 1) (by omega))
  go_wp2_with (first
   | (refine wpList_load_row rfl 32 _ rfl w.heap.size rfl 32 #[lv, wv, .int .i64 x.steps, fv] (0, 0) _ HK0.out Tryz.underlying32 rfl (size_rdisk _ _ _ _) ?_)
   | (refine wpList_build_is rfl 84 _ rfl (sector0.map vu8).toArray (by kernel_rfl) ?_)
   | (refine wpList_store_row rfl 32 _ _ rfl (w.heap.size + 1) #[lv, wv, .int .i64 x.steps, fv] rfl rfl 32 zeroD HK1.out (size_rdisk _ _ _ _) rfl (HONE.out _) ?_)
   | (refine wpList_store_row rfl 84 _ _ rfl (w.heap.size + 2) (sector0.map vu8).toArray rfl rfl 84 _ HK3.out (sector_size _ hl0) rfl (sector_all _) ?_))
  exact bodyPost_ret (FIN.out W sector0 x.steps 4 _ hl0 HK1.out HK2.out (by rfl) (by rfl) (by rfl)) rfl ⟨by rw [he, ha, hr], below_row (below_row HW.out _ (by omega)) _ (by omega)⟩
 ·go_wp2_with (refine wpList_load_midG rfl 32 _ rfl w.heap.size 0 rfl #[lv, wv, .int .i64 x.steps, fv] (load_rdisk HK0.out) ?_)
  refine (HSZ.out W HRW.out).mono ?_; rintro e w1 ⟨rfl, hb1⟩
  have J0 := Lib.hid (HK0.out.below hb1 HK0.out.lt)
  have J1 := Lib.hid (HK1.out.below hb1 HK1.out.lt)
  have J2 := Lib.hid (HK2.out.below hb1 HK2.out.lt)
  have HB1 := Lib.hid (HW.out.trans (hb1.mono HW.out.size))
  have hRW1 := Lib.hid ((HR.out.below HB1.out (Nat.le_refl _)).mono HB1.out.size)
  clear hb1 HK0 HK1 HK2 HW HRW
  by_cases hbig : x.size ≤ n
  ·obtain ⟨he, ha, hr⟩ := out4 (.inr hbig)
   have HK3 := Lib.hid (blk_row_far J2.out #[lv, wv, .int .i64 x.steps, fv] (g' := w.heap.size + 1) (by omega))
   go_wp2_with (first
    | (refine wpList_load_row rfl 32 _ rfl w.heap.size rfl 32 #[lv, wv, .int .i64 x.steps, fv] (0, 0) _ J0.out Tryz.underlying32 rfl (size_rdisk _ _ _ _) ?_)
    | (refine wpList_build_is rfl 84 _ rfl (sector0.map vu8).toArray (by kernel_rfl) ?_)
    | (refine wpList_store_row rfl 32 _ _ rfl (w.heap.size + 1) #[lv, wv, .int .i64 x.steps, fv] rfl rfl 32 zeroD J1.out (size_rdisk _ _ _ _) rfl (HONE.out _) ?_)
    | (refine wpList_store_row rfl 84 _ _ rfl (w.heap.size + 2) (sector0.map vu8).toArray rfl rfl 84 _ HK3.out (sector_size _ hl0) rfl (sector_all _) ?_))
   exact bodyPost_ret (FIN.out w1 sector0 x.steps 4 _ hl0 J1.out J2.out (by rfl) (by rfl) (by rfl)) rfl ⟨by rw [he, ha, hr], below_row (below_row HB1.out _ (by omega)) _ (by omega)⟩
  ·clear out4
   go_wp2_with (refine wpList_load_row rfl 32 _ rfl w.heap.size rfl 32 #[lv, wv, .int .i64 x.steps, fv] (0, 0) _ J0.out Tryz.underlying32 rfl (size_rdisk _ _ _ _) ?_)
   refine (HST.out w1 hRW1.out).mono ?_; rintro e w2 ⟨rfl, hb2⟩
   have L0 := Lib.hid (J0.out.below hb2 J0.out.lt)
   have L1 := Lib.hid (J1.out.below hb2 J1.out.lt)
   have L2 := Lib.hid (J2.out.below hb2 J2.out.lt)
   have HB2 := Lib.hid (HB1.out.trans (hb2.mono HB1.out.size))
   have hlt2 : w.heap.size + 2 < w2.heap.size := L2.out.lt
   clear hb2 J0 J1 J2 HB1 hRW1
   have z3 : Blk (w2.alloc (.cells zeroD 32)) w2.heap.size 32 zeroD := Blk.new w2 _ _
   have hz3 := z3.row #[lv, wv, .int .i64 (x.steps + 1), fv]
   have HB3 := Lib.hid (below_row (HB2.out.alloc HB2.out.size (.cells zeroD 32)) #[lv, wv, .int .i64 (x.steps + 1), fv] (g := w2.heap.size) (by omega))
   have M0 := Lib.hid (blk_row_far (L0.out.alloc (.cells zeroD 32)) #[lv, wv, .int .i64 (x.steps + 1), fv] (g' := w2.heap.size) (by omega))
   have M1 := Lib.hid (blk_row_far (L1.out.alloc (.cells zeroD 32)) #[lv, wv, .int .i64 (x.steps + 1), fv] (g' := w2.heap.size) (by omega))
   have M2 := Lib.hid (blk_row_far (L2.out.alloc (.cells zeroD 32)) #[lv, wv, .int .i64 (x.steps + 1), fv] (g' := w2.heap.size) (by omega))
   have M3 := Lib.hid hz3
   have Z3 := Lib.hid z3
   have ha : x.after n = x.stepped := by unfold DiskD.after; rw [if_neg (by omega)]
   clear L0 L1 L2 HB2 hz3 z3
   obtain ⟨W3, eW3⟩ : ∃ W3, W3 = (w2.alloc (.cells zeroD 32)).setRow w2.heap.size #[lv, wv, .int .i64 (x.steps + 1), fv] := ⟨_, rfl⟩
   by_cases hf : x.steps ∈ x.fails
   ·have he : x.err n = 120 := by unfold DiskD.err; rw [if_neg (by omega), if_pos hf]
    have hr : x.read n = sector0 := by unfold DiskD.read; rw [if_neg (by omega)]
    rw [decide_eq_true hf]
    have HN2 := Lib.hid (blk_row_far M2.out #[lv, wv, .int .i64 (x.steps + 1), fv] (g' := w.heap.size + 1) (by omega))
    go_wp2_with (first
     | (refine wpList_store_row rfl 32 _ _ rfl w2.heap.size #[lv, wv, .int .i64 (x.steps + 1), fv] rfl rfl 32 zeroD Z3.out (size_rdisk _ _ _ _) rfl (HONE.out _) ?_)
     | (refine wpList_load_row rfl 32 _ rfl w2.heap.size rfl 32 #[lv, wv, .int .i64 (x.steps + 1), fv] (0, 0) _ M3.out Tryz.underlying32 rfl (size_rdisk _ _ _ _) ?_)
     | (refine wpList_build_is rfl 84 _ rfl (sector0.map vu8).toArray (by kernel_rfl) ?_)
     | (refine wpList_store_row rfl 32 _ _ rfl (w.heap.size + 1) #[lv, wv, .int .i64 (x.steps + 1), fv] rfl rfl 32 zeroD M1.out (size_rdisk _ _ _ _) rfl (HONE.out _) ?_)
     | (refine wpList_store_row rfl 84 _ _ rfl (w.heap.size + 2) (sector0.map vu8).toArray rfl rfl 84 _ HN2.out (sector_size _ hl0) rfl (sector_all _) ?_))
    exact bodyPost_ret (FIN.out _ sector0 (x.steps + 1) 120 _ hl0 M1.out M2.out (by rfl) (by rfl) (by rfl)) rfl ⟨by rw [he, ha, hr]; rfl, below_row (below_row HB3.out _ (by omega)) _ (by omega)⟩
   ·have he : x.err n = 0 := by unfold DiskD.err; rw [if_neg (by omega), if_neg hf]
    have hr : x.read n = x.reads n := by unfold DiskD.read; rw [if_pos he]
    rw [decide_eq_false hf]
    go_wp2_with (first
     | (refine wpList_store_row rfl 32 _ _ rfl w2.heap.size #[lv, wv, .int .i64 (x.steps + 1), fv] rfl rfl 32 zeroD Z3.out (size_rdisk _ _ _ _) rfl (HONE.out _) ?_)
     | (refine wpList_load_row rfl 32 _ rfl w2.heap.size rfl 32 #[lv, wv, .int .i64 (x.steps + 1), fv] (0, 0) _ M3.out Tryz.underlying32 rfl (size_rdisk _ _ _ _) ?_))
    rw [← eW3]
    rw [← eW3] at HB3 M0 M1 M2 M3
    clear eW3 Z3
    refine wp_region_held_drew (S := (fun w' => Blk w' w2.heap.size 32 #[lv, wv, .int .i64 (x.steps + 1), fv] ∧ Blk w' w.heap.size 32 #[lv, wv, .int .i64 x.steps, fv])) (by kernel_rfl) (by first | exact ⟨M3.out, M0.out⟩ | ((try dsimp only); exact ⟨M3.out, M0.out⟩)) (fun hHeld => ?_)
    refine ty 0 rfl (yieldsIf_load_mid (by rfl) 32 _ rfl w2.heap.size 0 rfl [lv, wv, .int .i64 (x.steps + 1), fv] _ (fun w' h => blk_range h.1) Tryz.underlying32 rfl (size_rdisk _ _ _ _)) ?_
    refine ty 1 rfl (yieldsIf_load_mid (by rfl) 32 _ rfl w.heap.size 0 rfl [lv, wv, .int .i64 x.steps, fv] _ (fun w' h => blk_range h.2) Tryz.underlying32 rfl (size_rdisk _ _ _ _)) ?_
    refine tk 2 ?_
    refine rd 3 fun K hK => ?_
    go_simp
    obtain ⟨m, hm⟩ : ∃ m : Nat, n = m := ⟨n.toNat, by omega⟩
    subst hm
    refine (HRD.out W3.drew (((HR.out.below HB3.out (Nat.le_refl _)).mono HB3.out.size).drew) m rfl (by omega)).mono ?_; rintro e w4 ⟨rfl, hb4⟩
    have P0 := Lib.hid (M0.out.drew.below hb4 M0.out.lt)
    have P1 := Lib.hid (M1.out.drew.below hb4 M1.out.lt)
    have P2 := Lib.hid (M2.out.drew.below hb4 M2.out.lt)
    have P3 := Lib.hid (M3.out.drew.below hb4 M3.out.lt)
    have HB4 := Lib.hid (HB3.out.drew.trans (hb4.mono HB3.out.size))
    have hl := x.reads_len hx.sound m
    unfold sectorV
    go_wp2_with fail
    refine hK.out _ _ (by first | exact ⟨P3.out, P0.out⟩ | ((try dsimp only); exact ⟨P3.out, P0.out⟩)) (fun hHeld => ?_)
    clear hK K
    try simp only [Act.put, pz0, pz1, pz2, pz3, pz4, pz5]
    refine rd 4 fun K hK => ?_
    refine wp_store_row 32 _ _ rfl (w.heap.size + 1) #[lv, wv, .int .i64 (x.steps + 1), fv] rfl rfl 32 zeroD P1.out (size_rdisk _ _ _ _) rfl (HONE.out _) ?_
    refine hK.out _ _ (by first | exact ⟨blk_row_far P3.out _ (by omega), blk_row_far P0.out _ (by omega)⟩ | ((try dsimp only); exact ⟨blk_row_far P3.out _ (by omega), blk_row_far P0.out _ (by omega)⟩)) (fun hHeld => ?_)
    clear hK K
    try simp only [Act.put, pz0, pz1, pz2, pz3, pz4, pz5]
    refine rd 5 fun K hK => ?_
    have Q2 := Lib.hid (blk_row_far P2.out #[lv, wv, .int .i64 (x.steps + 1), fv] (g' := w.heap.size + 1) (by omega))
    refine wp_store_row 84 _ _ rfl (w.heap.size + 2) ((x.reads m).map vu8).toArray rfl rfl 84 _ Q2.out (sector_size _ hl) (sector_eq _ _ hl0 hl) (sector_all _) ?_
    refine hK.out _ _ (by first | exact ⟨blk_row_far (blk_row_far P3.out _ (by omega)) _ (by omega), blk_row_far (blk_row_far P0.out _ (by omega)) _ (by omega)⟩ | ((try dsimp only); exact ⟨blk_row_far (blk_row_far P3.out _ (by omega)) _ (by omega), blk_row_far (blk_row_far P0.out _ (by omega)) _ (by omega)⟩)) (fun hHeld => ?_)
    clear hK K
    try simp only [Act.put, pz0, pz1, pz2, pz3, pz4, pz5]
    refine tk 6 ?_
    refine wpAnyH_done (by kernel_rfl) ?_ _
    try simp only [Act.put, pz0, pz1, pz2, pz3, pz4, pz5]
    go_wp2_with fail
    exact bodyPost_ret (FIN.out w4 (x.reads m) (x.steps + 1) 0 _ hl P1.out P2.out (by rfl) (by rfl) (by rfl)) rfl ⟨by rw [he, ha, hr]; rfl, below_row (below_row HB4.out _ (by omega)) _ (by omega)⟩
end Go.Proofs.YtemcgfncahccgaaGreat
namespace Go.Proofs.YtemcgfncahccgaaGreat
open Go.RowKit

/-- the first entry of n has v -/
def setOld : List (Int × Value) → Int → Value → List (Int × Value)
 | [], _, _ => []
 | x :: l, n, v => if n == x.1 then (x.1, v) :: l else x :: setOld l n v
theorem setOld_len (l : List (Int × Value)) (n : Int) (v : Value) : (setOld l n v).length = l.length := by
 induction l with
 | nil => rfl
 | cons x l ih => unfold setOld; split <;> simp [ih]
theorem setOld_modify (n : Int) (v : Value) : ∀ (l : List (Int × Value)) (i : Nat) (x : (Int × Value) × Nat), (l.zipIdx i).find? (fun x => n == x.1.1) = some x → i ≤ x.2 ∧ l[x.2 - i]? = some x.1 ∧ x.1.1 = n ∧ setOld l n v = l.modify (x.2 - i) (fun y => (y.1, v))
 | [], _, _, h => by cases h
 | y :: l, i, x, h => by
  simp only [List.zipIdx_cons, List.find?_cons] at h
  cases hh : (n == y.1)
  ·rw [hh] at h
   obtain ⟨h1, h2, h3, h4⟩ := setOld_modify n v l (i + 1) x h
   have e : x.2 - i = (x.2 - (i + 1)) + 1 := by omega
   refine ⟨by omega, by rw [e]; exact h2, h3, ?_⟩
   unfold setOld
   rw [hh, e, h4]
   simp
  ·rw [hh] at h
   cases h
   refine ⟨Nat.le_refl _, by simp, by simpa using (beq_iff_eq.1 hh).symm, ?_⟩
   unfold setOld
   rw [hh]
   simp
theorem look_setOld (l : List (Int × Value)) (n : Int) (v : Value) (m : Int) : lookOf (setOld l n v) m = if m = n ∧ (lookOf l n).isSome = true then some v else lookOf l m := by
 induction l with
 | nil => simp [setOld, lookOf]
 | cons x l ih =>
  unfold setOld
  cases hh : (n == x.1)
  ·have hn : n ≠ x.1 := by simpa using hh
   simp only [Bool.false_eq_true, if_false]
   unfold lookOf at ih ⊢
   simp only [List.find?_cons, hh]
   cases hm : (m == x.1)
   ·exact ih
   ·have : m ≠ n := by rw [beq_iff_eq.1 hm]; exact Ne.symm hn
    simp [this]
  ·obtain rfl : n = x.1 := by simpa using hh
   simp only [if_true]
   unfold lookOf
   simp only [List.find?_cons, beq_self_eq_true]
   by_cases hm : m = x.1
   ·subst hm; simp
   ·have : (m == x.1) = false := by simpa using hm
    simp [this, hm]
theorem look_push (l : List (Int × Value)) (n : Int) (v : Value) (hn : lookOf l n = none) (m : Int) : lookOf (l ++ [(n, v)]) m = if m = n then some v else lookOf l m := by
 induction l with
 | nil =>
  by_cases h : m = n
  ·subst h; simp [lookOf]
  ·have : (m == n) = false := by simpa using h
   simp [lookOf, this, h]
 | cons x l ih =>
  unfold lookOf at hn ih ⊢
  simp only [List.find?_cons, List.cons_append] at hn ⊢
  cases h1 : (n == x.1)
  ·rw [h1] at hn
   cases h2 : (m == x.1)
   ·exact ih hn
   ·have : m ≠ n := by rw [beq_iff_eq.1 h2]; intro e; rw [e] at h1; simp at h1
    simp [this]
  ·rw [h1] at hn
   cases hn
theorem entriesOf_at (kd : IntKind) (l : List (Int × Value)) (k : Nat) : (entriesOf kd l)[k]? = l[k]?.map fun x => ⟨.int kd x.1, x.2, k⟩ := by
 unfold entriesOf
 rw [List.getElem?_toArray, List.getElem?_map, List.getElem?_zipIdx]
 cases l[k]? <;> simp

section
variable {P : Program} {t k e : TypeId} {kd : IntKind}
theorem run_sameInt {P : Program} (w : World) (kd : IntKind) (n : Int) : (Instr.keyThatStays (.int kd n) (.int kd n)).run P w = .ok (.int kd n) w := by
 unfold Instr.keyThatStays
 simp [Instr.sameBits]
theorem run_insert_old (w : World) (ht : P.underlying t = some (.map k e)) (hk : P.underlying k = some (.int kd)) (r : Nat) (l : List (Int × Value)) (hm : MapAt w r kd l) (n : Int) (hn : (lookOf l n).isSome = true) (v : Value) :
  ∃ w', (Instr.mapUpdate t (.map (some r)) (.int kd n) v).run P w = .ok () w' ∧ MapAt w' r kd (setOld l n v) ∧ Turn r w w' := by
 have hf := find_zipIdx n l 0
 obtain ⟨u, hu⟩ := Option.isSome_iff_exists.1 hn
 rw [hu] at hf
 obtain ⟨x, hx, hv⟩ := Option.map_eq_some_iff.1 hf
 obtain ⟨_, h2, h3, h4⟩ := setOld_modify n v l 0 x hx
 rw [Nat.sub_zero] at h2 h4
 have hkey : (((entriesOf kd l)[x.2]?).map (·.key)).getD (.int kd n) = .int kd n := by rw [entriesOf_at, h2]; simp [h3]
 refine ⟨{ w with heap := w.heap.setIfInBounds r (.map ((entriesOf kd l).modify x.2 fun e => { e with key := .int kd n, val := v }) l.length) }, ?_, ?_, ?_⟩
 ·unfold Instr.mapUpdate
  simp only [Sem.run_bind, run_underlying ht, Result.andThen, MapKept.run_getObj_map hm, run_checkKey_int w false 9999 hk, run_findKey w hk, hx, Option.map_some, hkey, run_sameInt]
  exact MapKept.run_setObj_map _ hm
 ·unfold MapAt
  have e1 : entriesOf kd (setOld l n v) = (entriesOf kd l).modify x.2 fun e => { e with key := .int kd n, val := v } := by
   apply Array.ext_getElem?
   intro j
   rw [entriesOf_at, Array.getElem?_modify, entriesOf_at, h4, List.getElem?_modify]
   by_cases hj : x.2 = j
   ·subst hj
    simp [h2, h3]
   ·simp [hj]
  rw [e1, setOld_len]
  simp [hm.lt]
 ·exact ⟨rfl, rfl, rfl, by simp, fun i hi => by simp [Array.getElem?_setIfInBounds_ne (fun e => hi e.symm)]⟩
theorem setOld_keys (l : List (Int × Value)) (n : Int) (v : Value) : (setOld l n v).map (·.1) = l.map (·.1) := by
 induction l with
 | nil => rfl
 | cons x l ih => unfold setOld; split <;> simp [ih]
theorem look_keys {l : List (Int × Value)} {n : Int} (h : lookOf l n = none) : n ∉ l.map (·.1) := by
 intro hm
 obtain ⟨x, hx, rfl⟩ := List.mem_map.1 hm
 unfold lookOf at h
 rw [Option.map_eq_none_iff, List.find?_eq_none] at h
 exact h x hx (by simp)
/-- a store keeps the keys apart -/
theorem run_insertN (w : World) (ht : P.underlying t = some (.map k e)) (hk : P.underlying k = some (.int kd)) (r : Nat) (l : List (Int × Value)) (hm : MapAt w r kd l) (hnd : (l.map (·.1)).Nodup) (n : Int) (v : Value) :
  ∃ w' l', (Instr.mapUpdate t (.map (some r)) (.int kd n) v).run P w = .ok () w' ∧ MapAt w' r kd l' ∧ (l'.map (·.1)).Nodup ∧ (∀ m, lookOf l' m = if m = n then some v else lookOf l m) ∧ Turn r w w' := by
 cases h : lookOf l n with
 | none =>
  obtain ⟨w', h1, h2, h3⟩ := run_insert_new (P := P) w ht hk r l hm n h v
  refine ⟨w', _, h1, h2, ?_, look_push l n v h, h3⟩
  rw [List.map_append, List.nodup_append]
  refine ⟨hnd, by simp, fun a ha b hb => ?_⟩
  simp only [List.map_cons, List.map_nil, List.mem_singleton] at hb
  rintro rfl
  exact look_keys h (by rw [← hb]; exact ha)
 | some u =>
  obtain ⟨w', h1, h2, h3⟩ := run_insert_old (P := P) w ht hk r l hm n (by rw [h]; rfl) v
  exact ⟨w', _, h1, h2, by rw [setOld_keys]; exact hnd, fun m => by rw [look_setOld, h]; simp, h3⟩
end
end Go.Proofs.YtemcgfncahccgaaGreat
