/-
  The reference's disk as data; its Size, sector, step.
  The reference's disk: Reads, step.
  disk.Of: a disk of bytes. (Written by gen_lof.py.)
-/
import Derived.Test.YtdpniceapmikpaaGreatSt1
import Derived.Test.YtdpniceapmikpaaGreatSt11
import Derived.Test.YtdpniceapmikpaaGreatSt12
set_option linter.unusedVariables false
set_option linter.unusedSimpArgs false
namespace Go.Proofs.YtdpniceapmikpaaGreat
open Go.RowKit

theorem flat_len (f : Nat → List UInt8) (hf : ∀ n, (f n).length = 512) (k : Nat) : ((List.range k).flatMap f).length = 512 * k := by
 induction k with
 | zero => rfl
 | succ k ih => rw [List.range_succ, List.flatMap_append, List.length_append, ih]; simp [hf]; omega
theorem flat_at (f : Nat → List UInt8) (hf : ∀ n, (f n).length = 512) (k n i : Nat) (hn : n < k) (hi : i < 512) : ((List.range k).flatMap f)[512 * n + i]? = (f n)[i]? := by
 induction k with
 | zero => omega
 | succ k ih =>
  rw [List.range_succ, List.flatMap_append]
  have hl := flat_len f hf k
  by_cases h : n < k
  ·rw [List.getElem?_append_left (by omega)]; exact ih h
  ·obtain rfl : n = k := by omega
   rw [List.getElem?_append_right (by omega), hl]
   simp only [List.flatMap_cons, List.flatMap_nil, List.append_nil]
   congr 1; omega
/-- all lasting bytes -/
def flatL (x : DiskD) : List UInt8 := (List.range x.size.toNat).flatMap fun (n : Nat) => x.lasts (n : Int)
theorem flatL_len {x : DiskD} (hx : x.ok) : (flatL x).length = 512 * x.size.toNat := flat_len _ (fun n => hx.2.2.1 n) _
theorem flatL_at {x : DiskD} (hx : x.ok) (n i : Nat) (hn : (n : Int) < x.size) (hi : i < 512) : (flatL x)[512 * n + i]? = (x.lasts n)[i]? := flat_at _ (fun n => hx.2.2.1 n) _ n i (by omega) hi
/-- the fields of the reference's disk -/
structure RDisk (W : World) (B : Nat) (lv wv fv : Value) (x : DiskD) : Prop where
 lasts : BytesIn W B lv (flatL x)
 waits : WaitsIn W B wv x.waits
 fails : IntsIn W B fv x.fails
theorem RDisk.below {W W' : World} {B C : Nat} {lv wv fv : Value} {x : DiskD} (h : RDisk W B lv wv fv x) (hb : Below C W W') (hC : B ≤ C) : RDisk W' B lv wv fv x := ⟨h.lasts.below hb hC, h.waits.below hb hC, h.fails.below hb hC⟩
theorem RDisk.mono {W : World} {B C : Nat} {lv wv fv : Value} {x : DiskD} (h : RDisk W B lv wv fv x) (hC : B ≤ C) : RDisk W C lv wv fv x := ⟨h.lasts.mono hC, h.waits.more hC, h.fails.mono hC⟩
theorem RDisk.stepped {W : World} {B : Nat} {lv wv fv : Value} {x : DiskD} (h : RDisk W B lv wv fv x) : RDisk W B lv wv fv x.stepped := ⟨h.lasts, h.waits, h.fails⟩
theorem RDisk.one {W : World} {B : Nat} {lv wv fv : Value} {x : DiskD} (h : RDisk W B lv wv fv x) (s : Int) : (#[lv, wv, .int .i64 s, fv] : Array Value).all (·.oneCell') = true := by
 obtain ⟨_, _, _, rfl, _⟩ := h.lasts
 obtain ⟨_, _, _, _, rfl, _⟩ := h.waits
 obtain ⟨_, _, _, rfl, _⟩ := h.fails
 simp [Value.oneCell']
theorem size_rdisk (a b c d : Value) : (Tryz.prog.info? 40).map (·.size) = some (#[a, b, c, d] : Array Value).size := by
 show _ = some 4
 kernel_rfl
theorem load_rdisk {W : World} {g : Nat} {a b c d : Value} (h : Blk W g 40 #[a, b, c, d]) : (loadVar 40 ⟨g, 0, none⟩).run Tryz.prog W = .ok (.agg #[a, b, c, d]) W :=
 run_loadVar_row W g 40 40 #[a, b, c, d] (0, 0) _ h Tryz.underlying40 rfl (size_rdisk a b c d)
abbrev zeroD : Array Value := #[.slice none 0 0, .slice none 0 0, .int .i64 0, .slice none 0 0]
/-- bytes of which the first j are others -/
def secTo (b c : List UInt8) (j : Nat) : List UInt8 := b.take j ++ c.drop j
theorem secTo_zero (b c : List UInt8) : secTo b c 0 = c := by simp [secTo]
theorem secTo_len {b c : List UInt8} (h : b.length = c.length) (j : Nat) : (secTo b c j).length = c.length := by simp [secTo]; omega
theorem secTo_all {b c : List UInt8} {j : Nat} (h : b.length = j) (hc : c.length = j) : secTo b c j = b := by
 unfold secTo
 rw [List.take_of_length_le (by omega), List.drop_eq_nil_of_le (by omega), List.append_nil]
theorem secTo_set {b c : List UInt8} (h : b.length = c.length) {j : Nat} {x : UInt8} (hx : b[j]? = some x) : ((secTo b c j).map vu8).toArray.setIfInBounds j (vu8 x) = ((secTo b c (j + 1)).map vu8).toArray := by
 have hj : j < b.length := by
  rcases Nat.lt_or_ge j b.length with hh | hh
  ·exact hh
  ·rw [List.getElem?_eq_none hh] at hx; cases hx
 rw [List.setIfInBounds_toArray]
 congr 1
 rw [← List.map_set]
 congr 1
 unfold secTo
 rw [List.set_append, if_neg (by rw [List.length_take]; omega), List.length_take, Nat.min_eq_left (by omega), Nat.sub_self]
 have e : c.drop j = c[j] :: c.drop (j + 1) := List.drop_eq_getElem_cons (by omega)
 rw [e, List.set_cons_zero, List.take_add_one, hx]
 simp
theorem secTo_at {b c : List UInt8} (h : b.length = c.length) {j : Nat} (hj : j < c.length) : ∃ u, ((secTo b c j).map vu8).toArray[j]? = some u := by
 refine ⟨((secTo b c j).map vu8).toArray[j]'(by simp [secTo_len h]; exact hj), Array.getElem?_eq_getElem _⟩

theorem blk_row_far {w : World} {g g' : Nat} {t : TypeId} {cs : Array Value} (h : Blk w g t cs) (cs' : Array Value) (hg : g ≠ g') : Blk (w.setRow g' cs') g t cs := (setRow_other w g' g cs' hg).trans h
theorem rdsize_any (x : DiskD) (lv wv fv : Value) (s : Int) (w : World) (h : RDisk w w.heap.size lv wv fv x) (hx : x.ok) :
  Calls Tryz.prog 48 #[.agg #[lv, wv, .int .i64 s, fv]] w fun e w' => e = .returned (.int .i64 x.size) ∧ Below w.heap.size w w' := by
 obtain ⟨h1, a, cap, rfl, h2⟩ := h.lasts
 have hl := flatL_len hx
 have h0 := hx.1
 have e : ((flatL x).length : Int) / 512 = x.size := by omega
 have hmx : (flatL x).length ≤ 2097152 := by have := hx.2.1; omega
 have hb : Below w.heap.size w (w.alloc (.cells #[.slice a (flatL x).length cap, wv, .int .i64 s, fv] 40)) := (Below.refl _ w).alloc (Nat.le_refl _) _
 generalize (flatL x).length = L at *
 clear h hx hl h2
 go_enter Tryz.func48, Tryz.ntmps48
 go_wp2_with fail
 go_ret
 exact ⟨by rw [← e]; congr 2, hb⟩

set_option maxRecDepth 100000 in
set_option maxHeartbeats 1000000 in
theorem rdsector_any (x : DiskD) (lv wv fv : Value) (s : Int) (n : Nat) (w : World) (h : RDisk w w.heap.size lv wv fv x) (hx : x.ok) (hn : (n : Int) < x.size) :
  Calls Tryz.prog 109 #[.agg #[lv, wv, .int .i64 s, fv], .int .i64 n] w fun e w' => e = .returned (sectorV (x.lasts n)) ∧ Below w.heap.size w w' := by
 have HL := Lib.hid h.lasts
 obtain ⟨h1, a, cap, rfl, hcap, h2⟩ := h.lasts
 have hl := flatL_len hx
 have h0 := hx.1
 have h4 := hx.2.1
 have hat := Lib.hid (fun i hi => flatL_at hx n i hn hi)
 have hbl := hx.2.2.1 n
 obtain ⟨b, eb⟩ : ∃ b, b = x.lasts n := ⟨_, rfl⟩
 rw [← eb] at hbl hat ⊢
 clear eb
 have hn5 : 512 * n + 512 ≤ (flatL x).length := by omega
 have hmx : (flatL x).length ≤ 2097152 := by omega
 generalize flatL x = L at *
 clear h hx h2 h1 hl h0 h4
 have hl0 : sector0.length = 512 := List.length_replicate
 have hbe : b.length = sector0.length := by rw [hl0, hbl]
 obtain ⟨W, eW⟩ : ∃ W, W = ((w.alloc (.cells #[.slice a L.length cap, wv, .int .i64 s, fv] 40)).alloc (.cells Tryz.zeroCells111 111)).alloc (.cells Tryz.zeroCells111 111) := ⟨_, rfl⟩
 have hbW : Below w.heap.size w W := by rw [eW]; exact (((Below.refl _ w).alloc (Nat.le_refl _) _).alloc (by simp) _).alloc (by simp; omega) _
 have k0 : Blk W w.heap.size 40 #[.slice a L.length cap, wv, .int .i64 s, fv] := by rw [eW]; exact ((Blk.new w _ _).alloc _).alloc _
 have k1 : Blk W (w.heap.size + 1) 111 (sector0.map vu8).toArray := by rw [eW, ← zero111]; exact (Blk.new2 w _ _ _).alloc _
 have k2 : Blk W (w.heap.size + 2) 111 (sector0.map vu8).toArray := by rw [eW, ← zero111]; exact Blk.new' (by simp)
 have HLW := Lib.hid (HL.out.below hbW (Nat.le_refl _))
 go_enter Tryz.func109, Tryz.ntmps109
 go_upto_region 2 with fail
 rw [← eW]
 clear eW
 go_wp2_with fail
 go_loopw [6] (fun i wr => ∃ j : Nat, j ≤ 512 ∧ i = .int .i64 j ∧ Blk wr (w.heap.size + 2) 111 ((secTo b sector0 j).map vu8).toArray ∧ Blk wr (w.heap.size + 1) 111 (sector0.map vu8).toArray ∧ Blk wr w.heap.size 40 #[.slice a L.length cap, wv, .int .i64 s, fv] ∧ Below w.heap.size w wr) (fun i _ => 512 - (intOf i).toNat)
 case atStart => exact ⟨0, by omega, rfl, by rw [secTo_zero]; exact k2, k1, k0, hbW⟩
 case round =>
  obtain ⟨j, hj, rfl, hO, hR, hD, hB⟩ := hrel
  by_cases hlt : j < 512
  ·obtain ⟨c, hc⟩ : ∃ c, b[j]? = some c := ⟨_, List.getElem?_eq_getElem (by omega)⟩
   obtain ⟨g, off, rfl, hg, hcell⟩ := (HL.out.below hB (Nat.le_refl _)).at_ ((hat.out j hlt).trans hc)
   have cD := hD.cell_is 0 rfl
   obtain ⟨u, hu⟩ := secTo_at hbe (j := j) (by omega)
   have cO := hO.cell_is j hu
   have fO := hO.frozen j
   have HO := Lib.hid (hO.set_ j (vu8 c))
   rw [secTo_set hbe hc] at HO
   have HR := Lib.hid (hR.far (p := ⟨w.heap.size + 2, j, none⟩) (by simp) (vu8 c))
   have HD := Lib.hid (hD.far (p := ⟨w.heap.size + 2, j, none⟩) (by simp) (vu8 c))
   have HB := Lib.hid (hB.setCell (p := ⟨w.heap.size + 2, j, none⟩) (by simp) (vu8 c))
   have i1 : ¬ (512 * (n : Int) + (j : Int)) < 0 := by omega
   have i2 : (512 * (n : Int) + (j : Int)) < (L.length : Int) := by omega
   clear hO hR hD hB
   go_wp2_with fail
   exact ⟨⟨j + 1, by omega, by go_num, HO.out, HR.out, HD.out, HB.out⟩, by simp [intOf]; omega⟩
  ·obtain rfl : j = 512 := by omega
   rw [secTo_all hbl hl0] at hO
   have hone := sector_all b
   have hsz := sector_size _ hbl
   have hse := sector_eq _ _ hl0 hbl
   go_wp2_with (first
    | (refine wpList_load_row rfl 111 _ rfl (w.heap.size + 2) rfl 111 (b.map vu8).toArray (0, 0) _ hO Tryz.underlying111 rfl hsz ?_)
    | (refine wpList_store_row rfl 111 _ _ rfl (w.heap.size + 1) (b.map vu8).toArray rfl rfl 111 _ hR hsz hse hone ?_))
   exact bodyPost_ret (results_cell_row Tryz.results109 _ _ (w.heap.size + 1) 111 (b.map vu8).toArray (0, 0) _ rfl (hR.row _) Tryz.underlying111 rfl hsz) rfl ⟨rfl, below_row hB _ (by omega)⟩
end Go.Proofs.YtdpniceapmikpaaGreat
namespace Go.Proofs.YtdpniceapmikpaaGreat
open Go.RowKit

/-- what is read behind the first j writes -/
def DiskD.readsK (x : DiskD) (n : Int) (j : Nat) : List UInt8 := ({ x with waits := x.waits.take j } : DiskD).reads n
theorem readsK_zero (x : DiskD) (n : Int) : x.readsK n 0 = x.lasts n := by unfold DiskD.readsK DiskD.reads; simp
theorem readsK_all (x : DiskD) (n : Int) : x.readsK n x.waits.length = x.reads n := by unfold DiskD.readsK; rw [List.take_length]
theorem readsK_succ (x : DiskD) (n : Int) (j : Nat) (y : WaitD) (hy : x.waits[j]? = some y) : x.readsK n (j + 1) = if y.n = n then y.b else x.readsK n j := by
 unfold DiskD.readsK DiskD.reads
 simp only [List.take_add_one, hy, Option.toList_some, List.reverse_append, List.reverse_cons, List.reverse_nil, List.nil_append, List.cons_append, List.find?_cons]
 by_cases h : y.n = n
 ·rw [if_pos h]; simp [h]
 ·rw [if_neg h]
  have : (y.n == n) = false := by simpa using h
  simp only [this]
theorem readsK_len {x : DiskD} (hx : x.sound) (n : Int) (j : Nat) : (x.readsK n j).length = 512 := by
 have h : ({ x with waits := x.waits.take j } : DiskD).sound := ⟨hx.1, fun y hy => hx.2.1 y (List.mem_of_mem_take hy), by show (x.waits.take j).length ≤ 1000000; rw [List.length_take]; have := hx.2.2; omega⟩
 exact DiskD.reads_len _ h n
theorem WaitsIn.at_ {w : World} {B : Nat} {a : Option Addr} {n c : Nat} {ws : List WaitD} (h : WaitsIn w B (.slice a n c) ws) {j : Nat} {y : WaitD} (hy : ws[j]? = some y) :
  y.b.length = 512 ∧ ∃ g, a = some ⟨g, 0, none⟩ ∧ g < B ∧ w.cell? ⟨g, j * 513, none⟩ = some (.int .i64 y.n) ∧ w.rangeAt g (j * 513 + 1) (y.b.map vu8) := by
 obtain ⟨_, hws, a', c', e, h4⟩ := h
 injection e with ea _ _
 subst ea
 obtain ⟨g, e2, hg, hr⟩ := h4 j y hy
 exact ⟨hws y (List.mem_of_getElem? hy), g, e2, hg, (by have := hr 0 (.int .i64 y.n) (by unfold WaitD.cells; rfl); rwa [Nat.add_zero] at this), fun i u hi => by
  have := hr (i + 1) u (by unfold WaitD.cells; simpa using hi)
  rw [show j * 513 + 1 + i = j * 513 + (i + 1) by omega]
  exact this⟩
theorem size_rwait : (Tryz.prog.info? 154).map (·.size) = some 513 := by kernel_rfl

set_option maxRecDepth 100000 in
set_option maxHeartbeats 2000000 in
theorem rdreads_any (x : DiskD) (lv wv fv : Value) (s : Int) (n : Nat) (w : World) (h : RDisk w w.heap.size lv wv fv x) (hx : x.ok) (hn : (n : Int) < x.size) :
  Calls Tryz.prog 61 #[.agg #[lv, wv, .int .i64 s, fv], .int .i64 n] w fun e w' => e = .returned (sectorV (x.reads n)) ∧ Below w.heap.size w w' := by
 have HL := Lib.hid h.waits
 have HS := Lib.hid (fun W (hh : RDisk W W.heap.size lv wv fv x) => rdsector_any x lv wv fv s n W hh hx hn)
 have HR := Lib.hid h
 obtain ⟨h1, hws, a, cap, rfl, h2⟩ := h.waits
 have hl0 : sector0.length = 512 := List.length_replicate
 have hlen := Lib.hid (readsK_len hx.sound n)
 have hz := readsK_zero x n
 have hlz := hx.2.2.1 n
 have hwl := hx.2.2.2.2.2.2
 have hsu := Lib.hid (readsK_succ x n)
 have hall := Lib.hid (readsK_all x n)
 obtain ⟨W, eW⟩ : ∃ W, W = (w.alloc (.cells #[lv, .slice a x.waits.length cap, .int .i64 s, fv] 40)).alloc (.cells Tryz.zeroCells111 111) := ⟨_, rfl⟩
 have hbW : Below w.heap.size w W := by rw [eW]; exact ((Below.refl _ w).alloc (Nat.le_refl _) _).alloc (by simp) _
 have k0 : Blk W w.heap.size 40 #[lv, .slice a x.waits.length cap, .int .i64 s, fv] := by rw [eW]; exact (Blk.new w _ _).alloc _
 have k1 : Blk W (w.heap.size + 1) 111 (sector0.map vu8).toArray := by rw [eW, ← zero111]; exact Blk.new2 w _ _ _
 have hWs : W.heap.size = w.heap.size + 2 := by rw [eW]; simp
 have hRW := (HR.out.below hbW (Nat.le_refl _)).mono hbW.size
 clear h h2
 go_enter Tryz.func61, Tryz.ntmps61
 go_upto_region 1 with fail
 rw [← eW]
 clear eW
 have q1 := k0.cell_is 0 rfl
 have q2 := k0.cell_is 1 rfl
 have q3 := k0.cell_is 2 rfl
 have q4 := k0.cell_is 3 rfl
 go_wp2_with (refine wpList_load_row rfl 40 _ rfl w.heap.size rfl 40 #[lv, .slice a x.waits.length cap, .int .i64 s, fv] (0, 0) _ k0 Tryz.underlying40 rfl (by kernel_rfl) ?_)
 refine (HS.out W hRW).mono ?_; rintro e w1 ⟨rfl, hb1⟩
 have K0 := k0.below hb1 k0.lt
 have K1 := k1.below hb1 k1.lt
 have hB1 := hbW.trans (hb1.mono hbW.size)
 have hs1 := hb1.size
 clear q1 q2 q3 q4 k0 k1
 have K2 : Blk (w1.alloc (.cells Tryz.zeroCells111 111)) w1.heap.size 111 (sector0.map vu8).toArray := by rw [← zero111]; exact Blk.new w1 _ _
 unfold sectorV
 go_wp2_with (refine wpList_store_row rfl 111 _ _ rfl w1.heap.size ((x.lasts n).map vu8).toArray rfl rfl 111 _ K2 (sector_size _ hlz) (sector_eq _ _ hl0 hlz) (sector_all _) ?_)
 have K3 := K2.row ((x.lasts n).map vu8).toArray
 have hs2 : (w1.alloc (.cells Tryz.zeroCells111 111)).heap.size = w1.heap.size + 1 := by simp
 have K0b := blk_row_far (K0.alloc (.cells Tryz.zeroCells111 111)) ((x.lasts n).map vu8).toArray (g' := w1.heap.size) (by have := K0.lt; omega)
 have K1b := blk_row_far (K1.alloc (.cells Tryz.zeroCells111 111)) ((x.lasts n).map vu8).toArray (g' := w1.heap.size) (by have := K1.lt; omega)
 have hB2 := below_row (hB1.alloc hB1.size (.cells Tryz.zeroCells111 111)) ((x.lasts n).map vu8).toArray (g := w1.heap.size) (by omega)
 clear K0 K1 K2 hB1
 generalize (w1.alloc _).setRow _ _ = W2 at *
 generalize w1.heap.size = G at *
 go_loopw [6] (fun i wr => ∃ j : Nat, j ≤ x.waits.length ∧ i = .int .i64 j ∧ Blk wr G 111 ((x.readsK n j).map vu8).toArray ∧ Blk wr (w.heap.size + 1) 111 (sector0.map vu8).toArray ∧ Blk wr w.heap.size 40 #[lv, .slice a x.waits.length cap, .int .i64 s, fv] ∧ Below w.heap.size w wr) (fun i _ => x.waits.length - (intOf i).toNat)
 case atStart => exact ⟨0, by omega, rfl, by rw [hz]; exact K3, K1b, K0b, hB2⟩
 case round =>
  obtain ⟨j, hj, rfl, hO, hR, hD, hB⟩ := hrel
  have cD := hD.cell_is 1 rfl
  by_cases hlt : j < x.waits.length
  ·obtain ⟨y, hy⟩ : ∃ y, x.waits[j]? = some y := ⟨_, List.getElem?_eq_getElem hlt⟩
   obtain ⟨hyb, g, rfl, hg, hc1, hc2⟩ := (HL.out.below hB (Nat.le_refl _)).at_ hy
   have hj1 := hsu.out j y hy
   have hl2 := hlen.out j
   obtain ⟨old, eold⟩ : ∃ old, old = x.readsK n j := ⟨_, rfl⟩
   rw [← eold] at hO hj1 hl2
   obtain ⟨yn, yb⟩ := y
   simp only at hc1 hc2 hyb hj1
   have HJ := Lib.hid hj1
   clear hj1
   by_cases hyn : yn = n
   ·subst hyn
    rw [if_pos rfl] at HJ
    have HC := Lib.hid hc2
    have hszy := sector_size yb hyb
    have hszl : (Tryz.prog.info? 111).map (·.size) = some (yb.map vu8).length := by simpa using hszy
    have hsey := sector_eq old yb hl2 hyb
    have hone := sector_all yb
    have HO := Lib.hid (hO.row (yb.map vu8).toArray)
    have HR1 := Lib.hid (blk_row_far hR (yb.map vu8).toArray (g' := G) (by omega))
    have HD1 := Lib.hid (blk_row_far hD (yb.map vu8).toArray (g' := G) (by omega))
    have HB1 := Lib.hid (below_row hB (yb.map vu8).toArray (g := G) (by omega))
    clear hR hD hB hc2
    go_wp2_with (first
     | (refine wpList_load_mid rfl 111 _ rfl g (j * 513 + 1) rfl (yb.map vu8) _ HC.out Tryz.underlying111 rfl hszl ?_)
     | (refine wpList_store_row rfl 111 _ _ rfl G (yb.map vu8).toArray rfl rfl 111 _ hO hszy hsey hone ?_))
    go_roundw
    case rel => exact ⟨j + 1, by omega, by go_num, by rw [HJ.out]; exact HO.out, HR1.out, HD1.out, HB1.out⟩
    case measure => simp [intOf]; omega
   ·rw [if_neg hyn] at HJ
    have hyn2 : ((yn : Int) == (n : Int)) = false := by simpa using hyn
    go_wp2_with fail
    exact ⟨⟨j + 1, by omega, by go_num, by rw [HJ.out]; exact hO, hR, hD, hB⟩, by simp [intOf]; omega⟩
  ·obtain rfl : j = x.waits.length := by omega
   rw [hall.out] at hO
   have hbl := x.reads_len hx.sound n
   obtain ⟨b, eb⟩ : ∃ b, b = x.reads n := ⟨_, rfl⟩
   rw [← eb] at hO hbl
   have hone := sector_all b
   have hsz := sector_size _ hbl
   have hse := sector_eq _ _ hl0 hbl
   go_wp2_with (first
    | (refine wpList_load_row rfl 111 _ rfl G rfl 111 (b.map vu8).toArray (0, 0) _ hO Tryz.underlying111 rfl hsz ?_)
    | (refine wpList_store_row rfl 111 _ _ rfl (w.heap.size + 1) (b.map vu8).toArray rfl rfl 111 _ hR hsz hse hone ?_))
   exact bodyPost_ret (results_cell_row Tryz.results61 _ _ (w.heap.size + 1) 111 (b.map vu8).toArray (0, 0) _ rfl (hR.row _) Tryz.underlying111 rfl hsz) rfl ⟨by rw [← eb]; rfl, below_row hB _ (by omega)⟩

set_option maxRecDepth 100000 in
set_option maxHeartbeats 2000000 in
theorem rdstep_any (x : DiskD) (lv wv fv : Value) (w : World) (h : RDisk w w.heap.size lv wv fv x) (hx : x.ok) :
  Calls Tryz.prog 99 #[.agg #[lv, wv, .int .i64 x.steps, fv]] w fun e w' => e = .returned (.tuple #[.agg #[lv, wv, .int .i64 (x.steps + 1), fv], .bool (!decide (x.steps ∈ x.fails))]) ∧ Below w.heap.size w w' := by
 have HL := Lib.hid h.fails
 have HONE := Lib.hid h.one
 obtain ⟨hmx, a, cap, rfl, hcap, h2⟩ := h.fails
 have hst := hx.2.2.2.2
 unfold maxLen at hmx
 obtain ⟨W, eW⟩ : ∃ W, W = (w.alloc (.cells #[lv, wv, .int .i64 x.steps, .slice a x.fails.length cap] 40)).alloc (.cells zeroD 40) := ⟨_, rfl⟩
 have hbW : Below w.heap.size w W := by rw [eW]; exact ((Below.refl _ w).alloc (Nat.le_refl _) _).alloc (by simp) _
 have k0 : Blk W w.heap.size 40 #[lv, wv, .int .i64 x.steps, .slice a x.fails.length cap] := by rw [eW]; exact (Blk.new w _ _).alloc _
 have k1 : Blk W (w.heap.size + 1) 40 zeroD := by rw [eW]; exact Blk.new2 w _ _ _
 clear h h2
 go_enter Tryz.func99, Tryz.ntmps99
 go_upto_region 1 with fail
 rw [← eW]
 clear eW
 have q0 := k0.cell_is 2 rfl
 have q1 := k0.frozen 2
 have k0b := k0.set_ 2 (.int .i64 (x.steps + 1))
 have k1b := k1.far (p := ⟨w.heap.size, 2, none⟩) (by simp) (.int .i64 (x.steps + 1))
 have hbb := hbW.setCell (p := ⟨w.heap.size, 2, none⟩) (by simp) (.int .i64 (x.steps + 1))
 have hs0 : 0 ≤ x.steps ∧ x.steps ≤ 1000000000000 := ⟨hst.1, hst.2.1⟩
 have hw0 : w.heap.size < W.heap.size := k0.lt
 clear k1 hbW hst
 go_wp2_with fail
 go_loopw [5] (fun i wr => ∃ j : Nat, j ≤ x.fails.length ∧ i = .int .i64 j ∧ x.steps ∉ x.fails.take j ∧ Blk wr (w.heap.size + 1) 40 zeroD ∧ Blk wr w.heap.size 40 #[lv, wv, .int .i64 (x.steps + 1), .slice a x.fails.length cap] ∧ Below w.heap.size w wr) (fun i _ => x.fails.length - (intOf i).toNat)
 case atStart => exact ⟨0, by omega, rfl, by simp, k1b, k0b, hbb⟩
 case round =>
  obtain ⟨j, hj, rfl, hnj, hR, hD, hB⟩ := hrel
  have c0 := hD.cell_is 0 rfl
  have c1 := hD.cell_is 1 rfl
  have c2 := hD.cell_is 2 rfl
  have c3 := hD.cell_is 3 rfl
  by_cases hlt : j < x.fails.length
  ·obtain ⟨y, hy⟩ : ∃ y, x.fails[j]? = some y := ⟨_, List.getElem?_eq_getElem hlt⟩
   obtain ⟨g, off, rfl, hg, hc1⟩ := (HL.out.below hB (Nat.le_refl _)).at_ hy
   by_cases hyn : y = x.steps
   ·subst hyn
    have hin : x.steps ∈ x.fails := List.mem_of_getElem? hy
    go_wp2_with (first
     | (refine wpList_load_row rfl 40 _ rfl w.heap.size rfl 40 #[lv, wv, .int .i64 (x.steps + 1), .slice (some ⟨g, off, none⟩) x.fails.length cap] (0, 0) _ hD Tryz.underlying40 rfl (size_rdisk _ _ _ _) ?_)
     | (refine wpList_store_row rfl 40 _ _ rfl (w.heap.size + 1) #[lv, wv, .int .i64 (x.steps + 1), .slice (some ⟨g, off, none⟩) x.fails.length cap] rfl rfl 40 zeroD hR (size_rdisk _ _ _ _) rfl (HONE.out _) ?_))
    refine bodyPost_ret (results_row_tmp Tryz.results99 _ _ (w.heap.size + 1) 40 #[lv, wv, .int .i64 (x.steps + 1), .slice (some ⟨g, off, none⟩) x.fails.length cap] (0, 0) _ rfl (hR.row _) Tryz.underlying40 rfl (size_rdisk _ _ _ _) _ rfl) rfl ⟨by rw [decide_eq_true hin]; rfl, below_row hB _ (by omega)⟩
   ·have hyn2 : (y == x.steps) = false := by simpa using hyn
    have hnj2 : x.steps ∉ x.fails.take (j + 1) := by
     rw [List.take_add_one, hy]
     simp only [Option.toList_some, List.mem_append, List.mem_singleton]
     rintro (h | h)
     ·exact hnj h
     ·exact hyn h.symm
    go_wp2_with fail
    exact ⟨⟨j + 1, by omega, by go_num, hnj2, hR, hD, hB⟩, by simp [intOf]; omega⟩
  ·obtain rfl : j = x.fails.length := by omega
   rw [List.take_length] at hnj
   go_wp2_with (first
    | (refine wpList_load_row rfl 40 _ rfl w.heap.size rfl 40 #[lv, wv, .int .i64 (x.steps + 1), .slice a x.fails.length cap] (0, 0) _ hD Tryz.underlying40 rfl (size_rdisk _ _ _ _) ?_)
    | (refine wpList_store_row rfl 40 _ _ rfl (w.heap.size + 1) #[lv, wv, .int .i64 (x.steps + 1), .slice a x.fails.length cap] rfl rfl 40 zeroD hR (size_rdisk _ _ _ _) rfl (HONE.out _) ?_))
   refine bodyPost_ret (results_row_tmp Tryz.results99 _ _ (w.heap.size + 1) 40 #[lv, wv, .int .i64 (x.steps + 1), .slice a x.fails.length cap] (0, 0) _ rfl (hR.row _) Tryz.underlying40 rfl (size_rdisk _ _ _ _) _ rfl) rfl ⟨by rw [decide_eq_false hnj]; rfl, below_row hB _ (by omega)⟩
end Go.Proofs.YtdpniceapmikpaaGreat
namespace Go.Proofs.YtdpniceapmikpaaGreat
open Go.RowKit

/-- the disk of some sectors, of which the first k have the bytes -/
def ofK (s : Nat) (l : List UInt8) (k : Nat) : DiskD := ⟨s, fun n => if 0 ≤ n ∧ n < (k : Int) then (l.drop (512 * n.toNat)).take 512 else sector0, [], 0, []⟩
def ofDisk (s : Nat) (l : List UInt8) : DiskD := ofK s l s
theorem ofK_zero (s : Nat) (l : List UInt8) : ofK s l 0 = newDisk s := by
 unfold ofK newDisk
 congr 1
 funext n
 rw [if_neg (by omega)]
theorem ofK_next (s : Nat) (l : List UInt8) (k : Nat) (b : List UInt8) (hb : b = (l.drop (512 * k)).take 512) : ({ ofK s l k with lasts := fun m => if m = (k : Int) then b else (ofK s l k).lasts m } : DiskD) = ofK s l (k + 1) := by
 refine congrArg (fun f => (⟨s, f, [], 0, []⟩ : DiskD)) ?_
 funext n
 show (if n = (k : Int) then b else if 0 ≤ n ∧ n < (k : Int) then (l.drop (512 * n.toNat)).take 512 else sector0) = if 0 ≤ n ∧ n < ((k + 1 : Nat) : Int) then (l.drop (512 * n.toNat)).take 512 else sector0
 by_cases h : n = k
 ·subst h
  rw [if_pos rfl, if_pos (by omega), hb, Int.toNat_natCast]
 ·rw [if_neg h]
  by_cases h2 : 0 ≤ n ∧ n < (k : Int)
  ·rw [if_pos h2, if_pos (by omega)]
  ·rw [if_neg h2, if_neg (by omega)]
theorem outB' {F : Nat → Prop} {B : Nat} {w w' : World} (h : Below B w w') (hF : ∀ i, B ≤ i → F i) : Out F w w' := ⟨h.os, h.tape, h.output, h.size, fun i hi hn => h.block i (by
 rcases Nat.lt_or_ge i B with h1 | h1
 ·exact h1
 ·exact absurd (hF i h1) hn)⟩
theorem bytes_range {W : World} {B : Nat} {g off n c : Nat} {l : List UInt8} (h : BytesIn W B (.slice (some ⟨g, off, none⟩) n c) l) (i m : Nat) : W.rangeAt g (off + i) (((l.drop i).take m).map vu8) := by
 intro j u hj
 rw [List.getElem?_map] at hj
 obtain ⟨c, hc, rfl⟩ := Option.map_eq_some_iff.1 hj
 rw [List.getElem?_take] at hc
 split at hc
 ·rw [List.getElem?_drop] at hc
  obtain ⟨g', off', e, _, hr⟩ := h.at_ hc
  cases e
  rw [show off + i + j = off + (i + j) by omega]
  exact hr
 ·cases hc
theorem array_at (a : Option Addr) (w : World) : (Instr.arrayAt 111 (.slice a 512 512)).run Tryz.prog w = .ok (.pointer a) w := by
 simp [Instr.arrayAt, run_underlying Tryz.underlying111]
set_option maxRecDepth 100000 in
set_option maxHeartbeats 4000000 in
theorem dof_any (v : Value) (l : List UInt8) (s : Nat) (w : World) (hv : BytesIn w w.heap.size v l) (hl : l.length = 512 * s) (h1 : 1 ≤ s) (h2 : s ≤ 4096) :
  Calls Tryz.prog 46 #[v] w fun e w' => ∃ D, e = .returned (.tuple #[ptr D.p, .int .i64 0]) ∧ DiskAt w' D (ofDisk s l) ∧ (∀ i, D.has i → w.heap.size ≤ i) ∧ Below w.heap.size w w' := by
 have HN := Lib.hid (dnew_yes s w (by omega) (by omega))
 have HV := Lib.hid hv
 obtain ⟨hm, a, cap, rfl, hcap, hc⟩ := hv
 obtain ⟨g, off, rfl, hg0, _⟩ := hc 0 (l[0]'(by omega)) (List.getElem?_eq_getElem (by omega))
 have HRNG := Lib.hid (fun k (_ : k < s) => bytes_range HV.out (512 * k) 512)
 have hq : (l.length : Int) / 512 = s := by omega
 have hq2 : (l.length : Int) % 512 = 0 := by omega
 have hmx : l.length ≤ 2097152 := by omega
 have hcap2 : (l.length : Int) ≤ (cap : Int) := by omega
 unfold ptr at *
 clear hc
 go_enter Tryz.func46, Tryz.ntmps46
 go_wp2_with fail
 refine HN.out.mono ?_; rintro e w1 ⟨rfl, hD, hB1⟩
 have hps : (newAt w.heap.size).p = w.heap.size + 1 := rfl
 rw [hps]
 have c0 : w1.cell? ⟨w.heap.size + 1, 0, none⟩ = some (.int .i64 (s : Int)) := hD.blk.cell_is 0 rfl
 have HD1 := Lib.hid hD
 clear hD hps
 go_wp2_with fail
 go_loopw [27] (fun i wr => ∃ k : Nat, k ≤ s ∧ i = .int .i64 (k : Int) ∧ DiskAt wr (newAt w.heap.size) (ofK s l k) ∧ Below w.heap.size w wr) (fun i _ => s - (intOf i).toNat)
 case atStart => exact ⟨0, by omega, rfl, by rw [ofK_zero]; exact HD1.out, hB1⟩
 case round =>
  obtain ⟨k, hk, rfl, hDk, hB⟩ := hrel
  by_cases hlt : k < s
  ·have p1 := hDk.blk.cell_is 1 rfl
   have p2 := range_below (HRNG.out k hlt) hB hg0
   obtain ⟨b, eb⟩ : ∃ b, b = (l.drop (512 * k)).take 512 := ⟨_, rfl⟩
   have hbl : b.length = 512 := by rw [eb, List.length_take, List.length_drop]; omega
   rw [← eb] at p2
   have hsz : (Tryz.prog.info? 111).map (·.size) = some (b.map vu8).length := by simpa using sector_size b hbl
   have z1 : IntKind.i64.wrap ((k : Int) * 512 + 512) = (k : Int) * 512 + 512 := by rw [IntKind.wrap_i64]; omega
   have z2 : 0 ≤ (k : Int) * 512 + 512 ∧ (k : Int) * 512 + 512 ≤ (cap : Int) := by omega
   have z3 : max ((k : Int) * 512 + 512) 0 = (k : Int) * 512 + 512 := by omega
   have z4 : 0 ≤ (k : Int) * 512 + 512 ∧ (k : Int) * 512 + 512 ≤ (k : Int) * 512 + 512 := by omega
   have z5 : 0 ≤ (k : Int) * 512 ∧ (k : Int) * 512 ≤ (k : Int) * 512 + 512 := by omega
   have z6 : ((k : Int) * 512 + 512).toNat = k * 512 + 512 := by omega
   have z7 : ((k : Int) * 512).toNat = k * 512 := by omega
   have z8 : ¬ (k * 512 + 512 = k * 512) := by omega
   have z9 : k * 512 + 512 - k * 512 = 512 := by omega
   have z10 : off + k * 512 = off + 512 * k := by omega
   have hli : (k : Int) < (s : Int) := by omega
   go_upto_region 8 with fail
   refine wp_region_held_drew (S := (fun w' => w'.cell? ⟨w.heap.size + 1, 1, none⟩ = some (.map (some w.heap.size)) ∧ w'.rangeAt g (off + 512 * k) (b.map vu8))) (by kernel_rfl) (by first | exact ⟨p1, p2⟩ | ((try dsimp only); exact ⟨p1, p2⟩)) (fun hHeld => ?_)
   refine tk 0 ?_
   refine tk 4 ?_
   refine tk 5 ?_
   refine tk 6 ?_
   refine tk 7 ?_
   refine tk 9 ?_
   refine tk 1 ?_
   refine tk 8 ?_
   refine tk 10 ?_
   refine tk 2 ?_
   refine wpAnyH_take (i := 11) (v := .slice (some ⟨g, off + 512 * k, none⟩) 512 512) rfl (by kernel_rfl) (by kernel_rfl) (by kernel_rfl) (fun _ _ _ h => h) (Or.inl ⟨by rfl, ?hysl⟩) (by assumption) ?_
   case hysl =>
    intro w hSw
    try dsimp only at hSw
    go_simp
    try simp only [z1, z2, z3, z4, z5, z6, z7, z8, z9, z10, if_true, if_false, and_self, Result.andThen_ok]
   try simp only [Act.put, pz0, pz1, pz2, pz3, pz4, pz5]
   refine tk 3 ?_
   refine wpAnyH_take (i := 12) (v := .pointer (some ⟨g, off + 512 * k, none⟩)) rfl (by kernel_rfl) (by kernel_rfl) (by kernel_rfl) (fun _ _ _ h => h) (Or.inl ⟨by rfl, ?hyar⟩) (by assumption) ?_
   case hyar =>
    intro w hSw
    try dsimp only at hSw
    go_simp
    rw [array_at]
    rfl
   try simp only [Act.put, pz0, pz1, pz2, pz3, pz4, pz5]
   refine ty 13 rfl (yieldsIf_load_mid (by rfl) 111 _ rfl g (off + 512 * k) rfl (b.map vu8) _ (fun w' h => h.2) Tryz.underlying111 rfl hsz) ?_
   refine rd 14 fun K hK => ?_
   obtain ⟨w2, hrun, hturn, hD2, hS2⟩ := diskLasts_set (D := newAt w.heap.size) (x := ofK s l k) hDk.drew (k : Int) b
   refine wp_mapUpdate_is wr.drew w2 _ _ _ _ rfl (.map (some w.heap.size)) (.int .i64 (k : Int)) (sectorV b) rfl rfl rfl hrun ?_
   have hB2 : Below w.heap.size w w2 := by
    have ho := Out.trans (F := fun i => w.heap.size ≤ i) (outB' hB.drew (fun _ h => h)) hS2.out (fun i hi h => by rcases h with h | h | h | h <;> first | (cases h; done) | (unfold newAt at h; simp at h; omega))
    exact ho.below (Nat.le_refl _) (fun i hi h => by omega)
   have eD : ({ ofK s l k with lasts := fun m => if m = (k : Int) then b else (ofK s l k).lasts m } : DiskD) = ofK s l (k + 1) := ofK_next s l k b eb
   rw [eD] at hD2
   have q1 := hD2.blk.cell_is 1 rfl
   have q2 := range_below (HRNG.out k hlt) hB2 hg0
   refine hK.out _ _ (by first | exact ⟨q1, by rw [eb]; exact q2⟩ | ((try dsimp only); exact ⟨q1, by rw [eb]; exact q2⟩)) (fun hHeld => ?_)
   clear hK K
   try simp only [Act.put, pz0, pz1, pz2, pz3, pz4, pz5]
   refine wpAnyH_done (by kernel_rfl) ?_ _
   try simp only [Act.put, pz0, pz1, pz2, pz3, pz4, pz5]
   go_wp2_with fail
   go_roundw
   case rel => exact ⟨k + 1, by omega, by go_num, hD2, hB2⟩
   case measure => simp [intOf]; omega
  ·have hnl : ¬ ((k : Int) < (s : Int)) := by omega
   have hks : k = s := by omega
   have HKS := Lib.hid hks
   clear hks hlt
   go_wp2_with fail
   all_goals
    have hks := HKS.out
    subst hks
    refine bodyPost_ret (results_tmp2 Tryz.results46 _ _ _) rfl ⟨newAt w.heap.size, rfl, hDk, fun i hi => by rcases hi with h | h | h | h <;> (try cases h) <;> (unfold newAt; simp; done), hB⟩
end Go.Proofs.YtdpniceapmikpaaGreat
