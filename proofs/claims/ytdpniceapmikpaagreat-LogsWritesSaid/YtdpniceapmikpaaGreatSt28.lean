/-
  The reference's disk: laid, Bytes. (Written by gen_lrd6.py.)
  The calls of the writes and the reads of one frame on one disk: one shape for all cases.
  What is written of a frame on a disk none of whose steps fail, and what is read of it: plain laws.
-/
import Derived.Test.YtdpniceapmikpaaGreatSt1
import Derived.Test.YtdpniceapmikpaaGreatSt6
import Derived.Test.YtdpniceapmikpaaGreatSt12
import Derived.Test.YtdpniceapmikpaaGreatSt24
import Derived.Test.YtdpniceapmikpaaGreatSt25
import Derived.Test.YtdpniceapmikpaaGreatSt26
import Derived.Test.YtdpniceapmikpaaGreatSt27
set_option linter.unusedVariables false
set_option linter.unusedSimpArgs false
namespace Go.Proofs.YtdpniceapmikpaaGreat
open Go.RowKit

/-- bytes laid over others, from a place on -/
def layAt (l : List UInt8) (i : Nat) (b : List UInt8) : List UInt8 := l.take i ++ b ++ l.drop (i + b.length)
theorem layAt_nil (l : List UInt8) (i : Nat) : layAt l i [] = l := by simp [layAt]
theorem layAt_len (l : List UInt8) (i : Nat) (b : List UInt8) (h : i + b.length ≤ l.length) : (layAt l i b).length = l.length := by simp [layAt]; omega
theorem layAt_at (l : List UInt8) (i : Nat) (b : List UInt8) (h : i + b.length ≤ l.length) (p : Nat) : (layAt l i b)[p]? = if i ≤ p ∧ p < i + b.length then b[p - i]? else l[p]? := by
 unfold layAt
 have ht : (l.take i).length = i := by rw [List.length_take]; omega
 by_cases h1 : p < i
 ·rw [if_neg (by omega), List.append_assoc, List.getElem?_append_left (by omega), List.getElem?_take, if_pos h1]
 ·by_cases h2 : p < i + b.length
  ·rw [if_pos (by omega), List.append_assoc, List.getElem?_append_right (by omega), ht, List.getElem?_append_left (by omega)]
  ·rw [if_neg (by omega), List.getElem?_append_right (by rw [List.length_append]; omega), List.getElem?_drop, List.length_append, ht]
   congr 1; omega
theorem layAt_set (l : List UInt8) (i : Nat) (b : List UInt8) (h : i + b.length ≤ l.length) (j : Nat) (c : UInt8) (hc : b[j]? = some c) : ((layAt l i (b.take j)).map vu8).set (i + j) (vu8 c) = (layAt l i (b.take (j + 1))).map vu8 := by
 have hj : j < b.length := by
  rcases Nat.lt_or_ge j b.length with hh | hh
  ·exact hh
  ·rw [List.getElem?_eq_none hh] at hc; cases hc
 have l1 : (b.take j).length = j := by rw [List.length_take]; omega
 have l2 : (b.take (j + 1)).length = j + 1 := by rw [List.length_take]; omega
 rw [← List.map_set]
 congr 1
 apply List.ext_getElem?
 intro p
 rw [List.getElem?_set, layAt_at l i _ (by omega) p, layAt_at l i _ (by omega) p, layAt_len l i _ (by omega), l1, l2]
 by_cases hp : i + j = p
 ·subst hp
  rw [if_pos rfl, if_pos (by omega), if_pos (by omega), List.getElem?_take, if_pos (by omega), show i + j - i = j by omega, hc]
 ·rw [if_neg hp]
  by_cases h1 : i ≤ p ∧ p < i + j
  ·rw [if_pos h1, if_pos (by omega), List.getElem?_take, List.getElem?_take, if_pos (by omega), if_pos (by omega)]
  ·rw [if_neg h1, if_neg (by omega)]
theorem flat_lay (f : Nat → List UInt8) (hf : ∀ n, (f n).length = 512) (s m : Nat) (hm : m < s) (b : List UInt8) (hb : b.length = 512) : layAt ((List.range s).flatMap f) (512 * m) b = (List.range s).flatMap fun n => if m = n then b else f n := by
 have hg : ∀ n, (if m = n then b else f n).length = 512 := fun n => by split; exact hb; exact hf n
 have hl := flat_len f hf s
 have hl2 := flat_len (fun n => if m = n then b else f n) hg s
 apply List.ext_getElem?
 intro p
 rw [layAt_at _ _ _ (by omega), hb]
 by_cases hp : p < 512 * s
 ·have e : p = 512 * (p / 512) + p % 512 := by omega
  have r := flat_at (fun n => if m = n then b else f n) hg s (p / 512) (p % 512) (by omega) (by omega)
  rw [← e] at r
  have r2 := flat_at f hf s (p / 512) (p % 512) (by omega) (by omega)
  rw [← e] at r2
  rw [r, r2]
  by_cases h1 : m = p / 512
  ·rw [if_pos (by omega), if_pos h1]; congr 1; omega
  ·rw [if_neg (by omega), if_neg h1]
 ·rw [if_neg (by omega), List.getElem?_eq_none (by omega), List.getElem?_eq_none (by omega)]
/-- the writes that wait are of sectors that there are -/
def DiskD.inR (x : DiskD) : Prop := ∀ y ∈ x.waits, 0 ≤ y.n ∧ y.n < x.size
/-- all bytes with the first writes laid over them -/
def laidK (x : DiskD) (k : Nat) : List UInt8 := (List.range x.size.toNat).flatMap fun (n : Nat) => x.readsK (n : Int) k
theorem laidK_zero (x : DiskD) : laidK x 0 = flatL x := by
 exact congrArg (fun f => (List.range x.size.toNat).flatMap f) (funext fun (n : Nat) => readsK_zero x n)
theorem laidK_all (x : DiskD) : laidK x x.waits.length = readsL x := by
 exact congrArg (fun f => (List.range x.size.toNat).flatMap f) (funext fun (n : Nat) => readsK_all x n)
theorem laidK_len {x : DiskD} (hx : x.ok) (k : Nat) : (laidK x k).length = 512 * x.size.toNat := flat_len _ (fun n => readsK_len hx.sound n k) _
theorem laidK_succ {x : DiskD} (hx : x.ok) (hr : x.inR) (k : Nat) (y : WaitD) (hy : x.waits[k]? = some y) : laidK x (k + 1) = layAt (laidK x k) (512 * y.n.toNat) y.b := by
 have hm := List.mem_of_getElem? hy
 have h1 := hr y hm
 unfold laidK
 rw [flat_lay _ (fun n => readsK_len hx.sound n k) _ _ (by omega) _ (hx.2.2.2.1 y hm)]
 refine congrArg (fun f => (List.range x.size.toNat).flatMap f) (funext fun (n : Nat) => ?_)
 rw [readsK_succ x n k y hy]
 by_cases h : y.n = (n : Int)
 ·rw [if_pos h, if_pos (by omega)]
 ·rw [if_neg h, if_neg (by omega)]
set_option maxRecDepth 100000 in
set_option maxHeartbeats 4000000 in
theorem rlaid_any (v : Value) (l : List UInt8) (n : Nat) (b : List UInt8) (w : World) (hv : BytesIn w w.heap.size v l) (hb : b.length = 512) (hn : 512 * n + 512 ≤ l.length) (hm : l.length ≤ 2097152) :
  Calls Tryz.prog 76 #[v, .agg (WaitD.cells ⟨n, b⟩).toArray, .int .i64 512] w fun e w' => ∃ u, e = .returned u ∧ w'.ownsRow w.heap.size 5 1 u l.length ((layAt l (512 * n) b).map vu8) ∧ Below w.heap.size w w' := by
 have HV := Lib.hid hv
 obtain ⟨_, a, cap, rfl, _, _⟩ := hv
 obtain ⟨W, eW⟩ : ∃ W, W = (w.alloc (.cells (WaitD.cells ⟨n, b⟩).toArray 154)).alloc (.cells #[] 5) := ⟨_, rfl⟩
 have hbW : Below w.heap.size w W := by rw [eW]; exact ((Below.refl _ w).alloc (Nat.le_refl _) _).alloc (by simp) _
 have k0 : Blk W w.heap.size 154 (WaitD.cells ⟨n, b⟩).toArray := by rw [eW]; exact (Blk.new w _ _).alloc _
 have hE : W.ownsRow w.heap.size 5 1 (.slice (some ⟨w.heap.size + 1, 0, none⟩) 0 0) 0 [] := by
  rw [eW]
  exact ⟨rfl, .inr ⟨w.heap.size + 1, 0, #[], rfl, by omega, by have := heap_alloc_new (w.alloc (.cells (WaitD.cells ⟨n, b⟩).toArray 154)) (.cells #[] 5); simpa using this, Nat.le_refl _, by simp, rfl, rfl⟩⟩
 have HVW := Lib.hid (HV.out.below hbW (Nat.le_refl _))
 have HE := Lib.hid hE
 have HW := Lib.hid hbW
 have HK := Lib.hid k0
 have hsW := hbW.size
 have hbe : ∀ j, j < 512 → ∃ c, b[j]? = some c := fun j hj => ⟨_, List.getElem?_eq_getElem (by omega)⟩
 clear hbW k0 hE
 go_enter Tryz.func76, Tryz.ntmps76
 go_upto_region 1 with fail
 go_wp2_with (rw [← eW]; at_builtin; refine wpList_append_bytes _ rfl (.tmp 9) (.tmp 10) rfl w.heap.size w.heap.size 0 (.slice (some ⟨w.heap.size + 1, 0, none⟩) 0 0) [] rfl HE.out a l.length cap l rfl rfl HVW.out (by omega) hsW ?_; intro u1 w1 hO1 hg1)
 rw [Nat.zero_add, List.nil_append] at hO1
 have hB1 := HW.out.grown hg1 hsW (fun r hr => (HE.out.lt r hr).1)
 have K1 : Blk w1 w.heap.size 154 (WaitD.cells ⟨n, b⟩).toArray := (hg1.block _ HK.out.lt (by simp [Value.ownBlock])).trans HK.out
 obtain ⟨g, cap1, rfl, hgB⟩ : ∃ g cap1, u1 = .slice (some ⟨g, 0, none⟩) l.length cap1 ∧ w.heap.size ≤ g := by
  rcases hO1.2 with ⟨_, h0⟩ | ⟨g, cap1, cur, e, hB, _⟩
  ·omega
  ·exact ⟨g, cap1, e, hB⟩
 have hgw : g ≠ w.heap.size := by
  rintro rfl
  exact ne_own hO1 K1 (by decide) _ rfl rfl
 have hla := Lib.hid (layAt_set l (512 * n) b (by omega))
 have hln := Lib.hid (fun c hc => layAt_len l (512 * n) c hc)
 rw [← layAt_nil l (512 * n)] at hO1
 rw [layAt_nil] at hO1
 go_wp2_with fail
 go_loopw [8] (fun i wr => ∃ j : Nat, j ≤ 512 ∧ i = .int .i64 (j : Int) ∧ wr.ownsRow w.heap.size 5 1 (.slice (some ⟨g, 0, none⟩) l.length cap1) l.length ((layAt l (512 * n) (b.take j)).map vu8) ∧ Blk wr w.heap.size 154 (WaitD.cells ⟨n, b⟩).toArray ∧ Below w.heap.size w wr) (fun i _ => 512 - (intOf i).toNat)
 case atStart => exact ⟨0, by omega, rfl, by rw [List.take_zero, layAt_nil]; exact hO1, K1, hB1⟩
 case round =>
  obtain ⟨j, hj, rfl, hO, hK, hB⟩ := hrel
  by_cases hlt : j < 512
  ·obtain ⟨c, hc⟩ := hbe j hlt
   have hli : (j : Int) < 512 := by omega
   have q1 := hK.cell_is 0 (v := .int .i64 (n : Int)) (by unfold WaitD.cells; rfl)
   have q2 : wr.cell? ⟨w.heap.size, 1 + j, none⟩ = some (vu8 c) := hK.cell_is (1 + j) (by
    unfold WaitD.cells
    rw [List.getElem?_toArray, Nat.add_comm 1 j, List.getElem?_cons_succ, List.getElem?_map, hc]
    rfl)
   have hxl : ((layAt l (512 * n) (b.take j)).map vu8).length = l.length := by rw [List.length_map]; exact hln.out _ (by rw [List.length_take]; omega)
   obtain ⟨u0, hu0⟩ : ∃ u0, ((layAt l (512 * n) (b.take j)).map vu8)[512 * n + j]? = some u0 := ⟨_, List.getElem?_eq_getElem (by omega)⟩
   have cO := hO.cells (g := g) rfl (512 * n + j) u0 hu0
   rw [add_at, Nat.zero_add] at cO
   have fO := ownsRow_frozen hO (512 * n + j)
   have HO1 := Lib.hid (ownsRow_set hO (512 * n + j) (vu8 c) (by omega))
   rw [hla.out j c hc] at HO1
   have HK1 := Lib.hid (hK.far (p := ⟨g, 512 * n + j, none⟩) (Ne.symm hgw) (vu8 c))
   have HB1 := Lib.hid (hB.setCell (p := ⟨g, 512 * n + j, none⟩) hgB (vu8 c))
   have y1 : IntKind.i64.wrap (512 * (n : Int)) = 512 * (n : Int) := by rw [IntKind.wrap_i64]; omega
   have y2 : IntKind.i64.wrap (512 * (n : Int) + (j : Int)) = 512 * (n : Int) + (j : Int) := by rw [IntKind.wrap_i64]; omega
   have y3 : (512 * (n : Int) + (j : Int)).toNat = 512 * n + j := by omega
   have i1 : 0 ≤ 512 * (n : Int) + (j : Int) := by omega
   have i2 : (512 * (n : Int) + (j : Int)) < (l.length : Int) := by omega
   clear hO hB
   go_upto_region 5 with fail
   refine wp_region_held_drew (S := (fun w' => w'.cell? ⟨w.heap.size, 0, none⟩ = some (.int .i64 (n : Int)) ∧ w'.cell? ⟨w.heap.size, 1 + j, none⟩ = some (vu8 c))) (by kernel_rfl) (by first | exact ⟨q1, q2⟩ | ((try dsimp only); exact ⟨q1, q2⟩)) (fun hHeld => ?_)
   refine tk 0 ?_
   refine tk 1 ?_
   refine tk 4 ?_
   refine tk 6 ?_
   refine tk 7 ?_
   refine tk 2 ?_
   refine tk 8 ?_
   refine tk 3 ?_
   refine tk 9 ?_
   refine tk 5 ?_
   refine tk 10 ?_
   refine rd 11 fun K hK => ?_
   go_simp
   refine hK.out _ _ (by first | exact ⟨(World.cell?_setCell_far wr.drew ⟨g, 512 * n + j, none⟩ ⟨w.heap.size, 0, none⟩ _ hgw).trans q1, (World.cell?_setCell_far wr.drew ⟨g, 512 * n + j, none⟩ ⟨w.heap.size, 1 + j, none⟩ _ hgw).trans q2⟩ | ((try dsimp only); exact ⟨(World.cell?_setCell_far wr.drew ⟨g, 512 * n + j, none⟩ ⟨w.heap.size, 0, none⟩ _ hgw).trans q1, (World.cell?_setCell_far wr.drew ⟨g, 512 * n + j, none⟩ ⟨w.heap.size, 1 + j, none⟩ _ hgw).trans q2⟩)) (fun hHeld => ?_)
   clear hK K
   try simp only [Act.put, pz0, pz1, pz2, pz3, pz4, pz5]
   refine wpAnyH_done (by kernel_rfl) ?_ _
   try simp only [Act.put, pz0, pz1, pz2, pz3, pz4, pz5]
   go_wp2_with fail
   go_roundw
   case rel => exact ⟨j + 1, by omega, by go_num, HO1.out, HK1.out, HB1.out.drew⟩
   case measure => simp [intOf]; omega
  ·have hje : j = 512 := by omega
   have hnl : ¬ (j : Int) < 512 := by omega
   have HJ := Lib.hid hje
   clear hje hlt
   go_wp2_with fail
   go_ret
   have hbt : b.take j = b := List.take_of_length_le (by have := HJ.out; omega)
   rw [hbt] at hO
   exact ⟨_, rfl, hO, hB⟩
theorem hlk' {w : World} {B : Nat} {e : TypeId} {u : Value} {l l2 : List UInt8} (h : l2.length = l.length) (hO : w.ownsRow B e 1 u l.length (l2.map vu8)) : w.ownsRow B e 1 u l2.length (l2.map vu8) := by rw [h]; exact hO
set_option maxRecDepth 100000 in
set_option maxHeartbeats 4000000 in
theorem rdbytes_any (x : DiskD) (lv wv fv : Value) (st : Int) (w : World) (h : RDisk w w.heap.size lv wv fv x) (hx : x.ok) (hr : x.inR) :
  Calls Tryz.prog 25 #[.agg #[lv, wv, .int .i64 st, fv]] w fun e w' => ∃ u, e = .returned u ∧ w'.ownsRow w.heap.size 5 1 u (readsL x).length ((readsL x).map vu8) ∧ Below w.heap.size w w' := by
 have HLA := Lib.hid h.lasts
 have HWA := Lib.hid h.waits
 obtain ⟨_, awl, cwl, rfl, _, _⟩ := h.lasts
 obtain ⟨hwl, hws, aw, cw, rfl, _⟩ := h.waits
 have hll := Lib.hid (fun k => laidK_len hx k)
 have hl0 := laidK_zero x
 have hla := Lib.hid (laidK_all x)
 have hsu := Lib.hid (fun k y hy => laidK_succ hx hr k y hy)
 have HIN := Lib.hid (fun k y (hy : x.waits[k]? = some y) => hr y (List.mem_of_getElem? hy))
 obtain ⟨hx1, hx2, _⟩ := hx
 have k0 : Blk (w.alloc (.cells #[.slice awl (flatL x).length cwl, .slice aw x.waits.length cw, .int .i64 st, fv] 40)) w.heap.size 40 #[.slice awl (flatL x).length cwl, .slice aw x.waits.length cw, .int .i64 st, fv] := Blk.new w _ _
 have hbW : Below w.heap.size w (w.alloc (.cells #[.slice awl (flatL x).length cwl, .slice aw x.waits.length cw, .int .i64 st, fv] 40)) := (Below.refl _ w).alloc (Nat.le_refl _) _
 clear h
 go_enter Tryz.func25, Tryz.ntmps25
 go_wp2_with fail
 have hsz1 : (w.alloc (.cells #[.slice awl (flatL x).length cwl, .slice aw x.waits.length cw, .int .i64 st, fv] 40)).heap.size = w.heap.size + 1 := by simp
 generalize w.alloc _ = W at *
 have HV0 := HLA.out.below hbW (Nat.le_refl _)
 rw [← hl0] at HV0
 go_loopw [3, 4] (fun o i wr => ∃ k : Nat, k ≤ x.waits.length ∧ i = .int .i64 (k : Int) ∧ BytesIn wr wr.heap.size o (laidK x k) ∧ Blk wr w.heap.size 40 #[.slice awl (flatL x).length cwl, .slice aw x.waits.length cw, .int .i64 st, fv] ∧ Below w.heap.size w wr) (fun _ i _ => x.waits.length - (intOf i).toNat)
 case atStart => exact ⟨0, by omega, rfl, by rw [← hl0] at *; exact HV0.mono (by omega), k0, hbW⟩
 case round =>
  obtain ⟨k, hk, rfl, hV, hK, hB⟩ := hrel
  have c1 := hK.cell_is 1 rfl
  by_cases hlt : k < x.waits.length
  ·have hli : (k : Int) < (x.waits.length : Int) := by omega
   obtain ⟨y, hy⟩ : ∃ y, x.waits[k]? = some y := ⟨_, List.getElem?_eq_getElem hlt⟩
   obtain ⟨hyb, g, rfl, hg, hc1, hc2⟩ := (HWA.out.below hB (Nat.le_refl _)).at_ hy
   have hrow : wr.rangeAt g (k * 513) y.cells := by
    intro i u hi
    cases i with
    | zero =>
     have e : u = .int .i64 y.n := by unfold WaitD.cells at hi; simpa using hi.symm
     rw [e, Nat.add_zero]; exact hc1
    | succ i =>
     have := hc2 i u (by unfold WaitD.cells at hi; simpa using hi)
     rw [show k * 513 + (i + 1) = k * 513 + 1 + i by omega]; exact this
   have hin := HIN.out k y hy
   have hnx := hsu.out k y hy
   have hlk := hll.out k
   obtain ⟨yn, yb⟩ := y
   simp only at hin hnx hyb
   obtain ⟨m, rfl⟩ : ∃ m : Nat, yn = m := ⟨yn.toNat, by omega⟩
   rw [Int.toNat_natCast] at hnx
   have HC := Lib.hid (fun W' (hW' : Below wr.heap.size wr W') v (hv : BytesIn wr wr.heap.size v (laidK x k)) => rlaid_any v (laidK x k) m yb wr hv hyb (by omega) (by omega))
   have HROW := Lib.hid hrow
   have HNX := Lib.hid hnx
   have HB := Lib.hid hB
   have HV := Lib.hid hV
   have HK := Lib.hid hK
   have hlen : (Tryz.prog.info? 154).map (·.size) = some (WaitD.cells ⟨(m : Int), yb⟩).length := by rw [WaitD.len _ hyb]; exact size_rwait
   clear hrow hnx hB hc1 hc2
   go_wp2_with (refine wpList_load_mid rfl 154 _ rfl g (k * 513) rfl (WaitD.cells ⟨(m : Int), yb⟩) _ HROW.out Tryz.underlying154 rfl hlen ?_)
   refine (HC.out wr (Below.refl _ _) _ HV.out).mono ?_; rintro e w2 ⟨u, rfl, hO, hb2⟩
   have hVn := BytesIn.own (hlk' (layAt_len (laidK x k) (512 * m) yb (by omega)) hO)
   rw [← HNX.out] at hVn
   have hle : (laidK x (k + 1)).length = (laidK x k).length := by rw [hll.out, hll.out]
   have hB2 := HB.out.trans (hb2.mono HB.out.size)
   have hK2 := HK.out.below hb2 HK.out.lt
   go_wp2_with fail
   exact ⟨⟨k + 1, by omega, by go_num, hVn, hK2, hB2⟩, by simp [intOf]; omega⟩
  ·have hnl : ¬ (k : Int) < (x.waits.length : Int) := by omega
   have hje : k = x.waits.length := by omega
   rw [hje, hla.out] at hV
   have hlR : (readsL x).length ≤ 2097152 := by rw [← hla.out, hll.out]; omega
   obtain ⟨_, av, cv, rfl, _, _⟩ := id hV
   have HJ := Lib.hid hje
   have HV := Lib.hid hV
   have hsr := hB.size
   have hE : (wr.alloc (.cells #[] 5)).ownsRow w.heap.size 5 1 (.slice (some ⟨wr.heap.size, 0, none⟩) 0 0) 0 [] := ⟨rfl, .inr ⟨wr.heap.size, 0, #[], rfl, hsr, heap_alloc_new wr _, Nat.le_refl _, by simp, rfl, rfl⟩⟩
   have hA : Below wr.heap.size wr (wr.alloc (.cells #[] 5)) := (Below.refl _ _).alloc (Nat.le_refl _) _
   have HV3 := Lib.hid (HV.out.below hA (Nat.le_refl _))
   have HE := Lib.hid hE
   have HB3 := Lib.hid (hB.alloc hsr (.cells #[] 5))
   clear hje hlt hV hE hA hB
   go_wp2_with (at_builtin; refine wpList_append_bytes _ rfl (.tmp 21) (.tmp 22) rfl w.heap.size wr.heap.size 0 (.slice (some ⟨wr.heap.size, 0, none⟩) 0 0) [] rfl HE.out av (readsL x).length cv (readsL x) rfl rfl HV3.out (by omega) (by simp; omega) ?_; intro u4 w4 hO4 hg4)
   have hb4 := HB3.out.grown hg4 (by simp; omega) (fun r hr => (HE.out.lt r hr).1)
   rw [Nat.zero_add, List.nil_append] at hO4
   go_ret
   exact ⟨_, rfl, hO4, hb4⟩
end Go.Proofs.YtdpniceapmikpaaGreat
namespace Go.Proofs.YtdpniceapmikpaaGreat
open Go.RowKit

/-- the writes and the reads of one frame on one disk -/
structure StGo (N area : Int) (f : FrameD) (x x1 : DiskD) (no : Int) (x2 : DiskD) (g : FrameD) (r : Int) : Prop where
 rw_ : ∀ lv wv fv fr w, RDisk w w.heap.size lv wv fv x → FrameIn w w.heap.size fr f → Calls Tryz.prog 17 #[.agg #[lv, wv, .int .i64 x.steps, fv], .agg #[.int .i64 N], .int .i64 area, fr] w fun e w' =>
  ∃ wv', e = .returned (.tuple #[.agg #[lv, wv', .int .i64 x1.steps, fv], .int .i64 no]) ∧ RDisk w' w'.heap.size lv wv' fv x1 ∧ Below w.heap.size w w' ∧ (∀ g, wv'.ownBlock = some g → wv'.ownBlock = wv.ownBlock ∨ w.heap.size ≤ g)
 w_ : ∀ D fr w, DiskAt w D x → FrameIn w w.heap.size fr f → (∀ a c, (∃ x y z, fr = .agg #[x, y, z, .slice a f.state.length c]) → c ≤ maxLen) → Calls Tryz.prog 18 #[ptr D.p, .agg #[.int .i64 N], .int .i64 area, fr] w fun e w' =>
  e = .returned (.int .i64 no) ∧ ∃ D', DiskAt w' D' x1 ∧ DStep D D' w w'
 rr_ : ∀ lv wv fv w, RDisk w w.heap.size lv wv fv x1 → Calls Tryz.prog 19 #[.agg #[lv, wv, .int .i64 x1.steps, fv], .agg #[.int .i64 N], .int .i64 area] w fun e w' =>
  ∃ v, e = .returned (.tuple #[.agg #[lv, wv, .int .i64 x2.steps, fv], v, .int .i64 r]) ∧ FrameFrom w.heap.size w' v g ∧ Below w.heap.size w w'
 r_ : ∀ D w, DiskAt w D x1 → Calls Tryz.prog 20 #[ptr D.p, .agg #[.int .i64 N], .int .i64 area] w fun e w' =>
  ∃ v, e = .returned (.tuple #[v, .int .i64 r]) ∧ FrameFrom w.heap.size w' v g ∧ DiskAt w' D x2 ∧ DStep D D w w'
 same : ∀ W B lv wv fv, RDisk W B lv wv fv x1 → RDisk W B lv wv fv x2
 ok2 : x2.ok
 in2 : x2.inR
end Go.Proofs.YtdpniceapmikpaaGreat
namespace Go.Proofs.YtdpniceapmikpaaGreat
open Go.RowKit

/-- the program's sector of a place that there is -/
theorem sectorN_place (N : Nat) (p : Place) (hN : 1 ≤ N ∧ N ≤ 64) (h : p.ok N) : sectorN N p.k p.a p.t = (((p.sec N : Nat) : Int), 0) := by
  have hr : rightB (N : Int) = true := by simp [rightB]; omega
  obtain ⟨k, a, t⟩ := p
  obtain ⟨ha, h⟩ := h
  simp only at ha h ⊢
  have ha2 : a = 0 ∨ a = 1 := by omega
  unfold sectorN Place.sec
  rw [hr]
  rcases ha2 with rfl | rfl <;> rcases h with ⟨rfl, rfl⟩ | ⟨rfl, h⟩ | ⟨rfl, h⟩
  all_goals
    simp [partsL, psAt, nAt, isPart]
    try first
      | omega
      | (rw [if_neg (by omega), Prod.mk.injEq]; omega)
theorem Place.sec_inj {N : Nat} {p q : Place} (hp : p.ok N) (hq : q.ok N) (h : p.sec N = q.sec N) : p.k = q.k ∧ p.a = q.a ∧ p.t = q.t := by
  have h1 := Place.at_sec hp
  rw [h, Place.at_sec hq] at h1
  injection h1 with h1 h2 h3
  omega
/-- a disk none of whose steps fail, with room -/
structure Calm (x : DiskD) : Prop where
  ok : x.ok
  fails : x.fails = []
  steps : x.steps ≤ 999999999000
  waits : x.waits.length ≤ 999000
theorem Calm.err {x : DiskD} (h : Calm x) {n : Int} (h0 : 0 ≤ n) (h1 : n < x.size) : x.err n = 0 := by
  unfold DiskD.err
  rw [if_neg (by omega), if_neg (by rw [h.fails]; simp)]
theorem write_calm {x : DiskD} (h : x.fails = []) {n : Int} (h0 : 0 ≤ n) (h1 : n < x.size) (b : List UInt8) : x.write n b = ⟨x.size, x.lasts, x.waits ++ [⟨n, b⟩], x.steps + 1, []⟩ := by
  unfold DiskD.write
  rw [if_neg (by omega), if_neg (by rw [h]; simp)]
  unfold DiskD.put DiskD.stepped
  simp [h]
theorem writes_calm : ∀ (ys : List WaitS) (x : DiskD), x.fails = [] → (∀ y ∈ ys, 0 ≤ y.1.n ∧ y.1.n < x.size) → writesW x ys = ⟨x.size, x.lasts, x.waits ++ ys.map (·.1), x.steps + ys.length, []⟩ := by
  intro ys
  induction ys with
  | nil => intro x h _; cases x; simp [writesW] at *; exact h
  | cons y ys ih =>
    intro x h hy
    have h1 := hy y (by simp)
    have e : writesW x (y :: ys) = writesW (x.write y.1.n y.1.b) ys := rfl
    rw [e, write_calm h h1.1 h1.2, ih ⟨x.size, x.lasts, x.waits ++ ([⟨y.1.n, y.1.b⟩] : List WaitD), x.steps + 1, []⟩ rfl (fun z hz => hy z (by simp [hz]))]
    simp only [List.map_cons, List.length_cons, List.append_assoc, List.cons_append, List.nil_append]
    congr 1
    omega
theorem reads_last {x : DiskD} (ys : List WaitD) (s : Int) (fs : List Int) (y : WaitD) (hy : y ∈ ys) (hd : ∀ z ∈ ys, z.n = y.n → z = y) : (⟨x.size, x.lasts, x.waits ++ ys, s, fs⟩ : DiskD).reads y.n = y.b := by
  unfold DiskD.reads
  simp only [List.reverse_append]
  rw [List.find?_append]
  obtain ⟨z, hz⟩ : ∃ z, ys.reverse.find? (fun z => z.n == y.n) = some z := by
    cases h : ys.reverse.find? (fun z => z.n == y.n) with
    | some z => exact ⟨z, rfl⟩
    | none =>
      have := List.find?_eq_none.1 h y (by simpa using hy)
      simp at this
  rw [hz]
  have h1 := List.find?_some hz
  have h2 := List.mem_of_find?_eq_some hz
  have := hd z (by simpa using h2) (by simpa using h1)
  subst this
  rfl
/-! numbers of bytes -/
theorem cut_mid (a m c : List UInt8) (i k : Nat) (ha : a.length = i) (hm : m.length = k) : ((a ++ (m ++ c)).drop i).take k = m := by
  rw [List.drop_append, ← ha, List.drop_length, Nat.sub_self, List.drop_zero, List.nil_append, List.take_append_of_le_length (by omega), List.take_of_length_le (by omega)]
theorem numAt_mid (a c : List UInt8) (i k n : Nat) (ha : a.length = i) (hn : n < 256 ^ k) : numAt (a ++ (leB n k ++ c)) i k = n := by
  unfold numAt
  rw [cut_mid a _ c i k ha (leB_len n k), leN_leB, Nat.mod_eq_of_lt hn]
theorem sectorL_parts (l : List UInt8) : sectorL l = l ++ (List.replicate (508 - l.length) 0 ++ leB (crcW (padL l)).toNat 4) := by
  unfold sectorL sealOf
  rw [show padL l = l ++ List.replicate (508 - l.length) 0 from rfl, List.append_assoc]
theorem sealedB_sealOf (l : List UInt8) : sealedB (sealOf l) = true := by
  have hl := sealOf_len l
  rw [sealedB_iff _ (by omega), hl, Nat.add_sub_cancel]
  congr 1
  unfold sealOf
  rw [List.take_append_of_le_length (Nat.le_refl _), List.take_length]
theorem sealedB_sectorL (l : List UInt8) : sealedB (sectorL l) = true := sealedB_sealOf _
theorem padL_zeros (l : List UInt8) : ((padL l).drop l.length).any (· != 0) = false := by
  unfold padL
  rw [List.drop_append, List.drop_length, Nat.sub_self, List.drop_zero, List.nil_append]
  simp
theorem headRows_split : ∀ (l : List Int) (m : List ObjD) (j : Nat) (x : Int) (o : ObjD), l[j]? = some x → m[j]? = some o → ∃ A B, headRows l m = A ++ (headRow x o ++ B) ∧ A.length = 6 * j
  | [], _, _, _, _, hx, _ => by simp at hx
  | _ :: _, [], _, _, _, _, ho => by simp at ho
  | y :: l, p :: m, 0, x, o, hx, ho => by
    obtain rfl : y = x := by simpa using hx
    obtain rfl : p = o := by simpa using ho
    exact ⟨[], headRows l m, rfl, rfl⟩
  | y :: l, p :: m, j + 1, x, o, hx, ho => by
    obtain ⟨A, B, h1, h2⟩ := headRows_split l m j x o (by simpa using hx) (by simpa using ho)
    refine ⟨headRow y p ++ A, B, ?_, by rw [List.length_append, headRow_len]; omega⟩
    show headRow y p ++ headRows l m = _
    rw [h1, List.append_assoc]
theorem headRows_len2 : ∀ (l : List Int) (m : List ObjD), l.length = m.length → (headRows l m).length = 6 * l.length
  | [], _, _ => rfl
  | _ :: _, [], h => by cases h
  | x :: l, o :: m, h => by
    have := headRows_len2 l m (by simpa using h)
    show (headRow x o ++ headRows l m).length = 6 * (l.length + 1)
    rw [List.length_append, headRow_len]
    omega
/-- the order of the oids -/
theorem rows_prev (N : Int) : ∀ (l : List Int) (m : List ObjD) (last : Int), rowsB N last l m = true → ∀ (j : Nat) (x : Int), l[j]? = some x → j < m.length → (if j = 0 then last else l.getD (j - 1) 0) < x
  | [], _, _, _, _, _, hx, _ => by simp at hx
  | _ :: _, [], _, _, _, _, _, hj => by simp at hj
  | y :: l, p :: m, last, h, j, x, hx, hj => by
    have hh : (decide (last < y) && (decide (y < N) && (objB p N && rowsB N y l m))) = true := h
    simp only [Bool.and_eq_true, decide_eq_true_eq] at hh
    obtain ⟨h1, h2, h3, h4⟩ := hh
    cases j with
    | zero =>
      obtain rfl : y = x := by simpa using hx
      simpa using h1
    | succ j =>
      have := rows_prev N l m y h4 j x (by simpa using hx) (by simpa using hj)
      rw [if_neg (by omega), show j + 1 - 1 = j by omega]
      cases j with
      | zero => simpa using this
      | succ j => simpa using this
section
variable {N : Int} {f : FrameD}
theorem frameB_facts (h : frameB N f = true) : rightB N = true ∧ 0 ≤ f.ed ∧ f.oids.length = f.objs.length ∧ (f.oids.length : Int) ≤ N ∧ f.state.length ≤ 4096 ∧ rowsB N (-1) f.oids f.objs = true := by
  unfold frameB framePre at h
  simp only [Bool.and_eq_true, decide_eq_true_eq, beq_iff_eq] at h
  obtain ⟨h0, ⟨⟨⟨h1, h2⟩, h3⟩, h4⟩, h5⟩ := h
  exact ⟨h0, h1, h2, h3, h4, h5⟩
theorem right_le (h : rightB N = true) : 1 ≤ N ∧ N ≤ 64 := by unfold rightB at h; simp at h; exact h
theorem headL_len (h : frameB N f = true) : (headL f).length = 20 + 6 * f.oids.length ∧ (headL f).length ≤ 508 := by
  obtain ⟨h0, h1, h2, h3, h4, h5⟩ := frameB_facts h
  have := right_le h0
  have hl : (headL f).length = 20 + 6 * f.oids.length := by unfold headL; rw [List.length_append, headPre_len, headRows_len2 _ _ h2]
  omega
/-- the numbers of a head that is written -/
theorem head_nums (h : frameB N f = true) (hed : f.ed ≤ 9223372036854775807) (T : List UInt8) :
    (headL f ++ T).take 4 = magicB ∧ (numAt (headL f ++ T) 4 8 : Int) = f.ed ∧ numAt (headL f ++ T) 12 2 = f.oids.length ∧ numAt (headL f ++ T) 14 2 = f.state.length ∧ numAt (headL f ++ T) 16 4 = (crcW f.state).toNat := by
  obtain ⟨h0, h1, h2, h3, h4, h5⟩ := frameB_facts h
  have hN := right_le h0
  have e : headL f ++ T = [67, 72, 76, 71] ++ (leB f.ed.toNat 8 ++ (leB f.oids.length 2 ++ (leB f.state.length 2 ++ (leB (crcW f.state).toNat 4 ++ (headRows f.oids f.objs ++ T))))) := by
    unfold headL headPre
    simp only [List.append_assoc]
  refine ⟨by rw [e]; rfl, ?_, ?_, ?_, ?_⟩
  · rw [e, numAt_mid _ _ 4 8 _ rfl (by have : (256 : Nat) ^ 8 = 18446744073709551616 := by decide
                                       omega)]
    omega
  · rw [e, ← List.append_assoc, numAt_mid _ _ 12 2 _ (by simp [leB_len]) (by omega)]
  · rw [e, ← List.append_assoc, ← List.append_assoc, numAt_mid _ _ 14 2 _ (by simp [leB_len]) (by omega)]
  · rw [e, ← List.append_assoc, ← List.append_assoc, ← List.append_assoc, numAt_mid _ _ 16 4 _ (by simp [leB_len]) (by have := crcW_lt f.state; have : (256 : Nat) ^ 4 = 4294967296 := by decide
                                                                                                                       omega)]
theorem head_row (h : frameB N f = true) (T : List UInt8) (j : Nat) (x : Int) (o : ObjD) (hx : f.oids[j]? = some x) (ho : f.objs[j]? = some o) :
    (numAt (headL f ++ T) (20 + 6 * j) 2 : Int) = x ∧ numAt (headL f ++ T) (22 + 6 * j) 4 = (crcW (padL (objL o))).toNat := by
  obtain ⟨h0, h1, h2, h3, h4, h5⟩ := frameB_facts h
  have hN := right_le h0
  obtain ⟨hx0, hx1, _⟩ := rows_at N f.oids f.objs (-1) (by omega) h5 j x o hx ho
  obtain ⟨A, B, e1, e2⟩ := headRows_split f.oids f.objs j x o hx ho
  have e : headL f ++ T = (headPre f ++ A) ++ (leB x.toNat 2 ++ (leB (crcW (padL (objL o))).toNat 4 ++ (B ++ T))) := by
    unfold headL
    rw [e1]
    unfold headRow
    simp only [List.append_assoc]
  have hl : (headPre f ++ A).length = 20 + 6 * j := by rw [List.length_append, headPre_len, e2]
  constructor
  · rw [e, numAt_mid _ _ _ 2 _ hl (by omega)]
    omega
  · rw [e, ← List.append_assoc, numAt_mid _ _ _ 4 _ (by rw [List.length_append, hl, leB_len]; omega) (by have := crcW_lt (padL (objL o)); have : (256 : Nat) ^ 4 = 4294967296 := by decide
                                                                                                         omega)]
/-- a head that is written is one -/
theorem head_written (h : frameB N f = true) (hed : f.ed ≤ 9223372036854775807) : headB N (sectorL (headL f)) = true := by
  obtain ⟨h0, h1, h2, h3, h4, h5⟩ := frameB_facts h
  have hN := right_le h0
  obtain ⟨hl, hl2⟩ := headL_len h
  have e := sectorL_parts (headL f)
  obtain ⟨T, eT⟩ : ∃ T, T = List.replicate (508 - (headL f).length) 0 ++ leB (crcW (padL (headL f))).toNat 4 := ⟨_, rfl⟩
  rw [← eT] at e
  obtain ⟨a1, a2, a3, a4, a5⟩ := head_nums h hed T
  have hrow := head_row h T
  have hs := sealedB_sectorL (headL f)
  have ht := sectorL_take (headL f) hl2
  have hz := padL_zeros (headL f)
  rw [← ht, hl] at hz
  rw [e] at hs hz ⊢
  unfold headB
  rw [hs, a1, a3, a4, hz]
  have b1 : decide (numAt (headL f ++ T) 4 8 < 9223372036854775808) = true := by simp; omega
  have b2 : decide ((f.oids.length : Int) ≤ N) = true := by simpa using h3
  have b3 : decide (f.state.length ≤ 4096) = true := by simpa using h4
  have b4 : (List.range f.oids.length).all (headGo N (headL f ++ T)) = true := by
    rw [List.all_eq_true]
    intro j hj
    have hj : j < f.oids.length := List.mem_range.1 hj
    have ex : f.oids[j]? = some f.oids[j] := List.getElem?_eq_getElem hj
    have eo : f.objs[j]? = some (f.objs[j]'(by omega)) := List.getElem?_eq_getElem (by omega)
    have r1 := (hrow j _ _ ex eo).1
    have r2 := rows_at N f.oids f.objs (-1) (by omega) h5 j _ _ ex eo
    have r3 := rows_prev N f.oids f.objs (-1) h5 j _ ex (by omega)
    unfold headGo headLast
    rw [r1]
    simp only [Bool.and_eq_true, decide_eq_true_eq]
    refine ⟨?_, r2.2.1⟩
    by_cases hj0 : j = 0
    · rw [if_pos hj0] at r3 ⊢; exact r3
    · rw [if_neg hj0] at r3 ⊢
      have ex' : f.oids[j - 1]? = some (f.oids[j - 1]'(by omega)) := List.getElem?_eq_getElem (by omega)
      have eo' : f.objs[j - 1]? = some (f.objs[j - 1]'(by omega)) := List.getElem?_eq_getElem (by omega)
      rw [(hrow (j - 1) _ _ ex' eo').1]
      rw [List.getD_eq_getElem?_getD, ex'] at r3
      exact r3
  rw [b1, b2, b3, b4]
  rfl
end
end Go.Proofs.YtdpniceapmikpaaGreat
