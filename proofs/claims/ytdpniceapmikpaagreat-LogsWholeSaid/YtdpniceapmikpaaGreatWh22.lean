/-
  Where logs.Read stands while it reads; what is asked of a disk whose area has a frame.
-/
import Derived.Deep.RegionHeld3
import Derived.Test.YtdpniceapmikpaaGreatWh11
import Derived.Test.YtdpniceapmikpaaGreatWh19
import Derived.Test.YtdpniceapmikpaaGreatWh20
import Derived.Test.YtdpniceapmikpaaGreatWh21
set_option linter.unusedVariables false
set_option linter.unusedSimpArgs false
namespace Go.Proofs.YtdpniceapmikpaaGreat
open Go.RowKit

/-- the same disk some steps later -/
def DiskD.plus (x : DiskD) (k : Nat) : DiskD := { x with steps := x.steps + k }
theorem plus_zero (x : DiskD) : x.plus 0 = x := by unfold DiskD.plus; simp
theorem plus_stepped (x : DiskD) (k : Nat) : (x.plus k).stepped = x.plus (k + 1) := by unfold DiskD.plus DiskD.stepped; simp; omega
/-- what is at an area's places -/
def headS (x : DiskD) (N area : Int) : List UInt8 := x.reads (sectorN N 2 area 0).1
def objS (x : DiskD) (N area : Int) (i : Nat) : List UInt8 := x.reads (sectorN N 4 area i).1
def partS (x : DiskD) (N area : Int) (i : Nat) : List UInt8 := x.reads (sectorN N 3 area i).1
def byteOf (x : DiskD) (N area : Int) (p : Nat) : UInt8 := (partS x N area (p / 512))[p % 512]?.getD 0
def stateOf (x : DiskD) (N area : Int) (nb : Nat) : List UInt8 := (List.range nb).map (byteOf x N area)
/-- the state, some parts of it read -/
def stateBy (x : DiskD) (N area : Int) (nb : Nat) (l : List Nat) : List UInt8 := (List.range nb).map fun p => if l.contains (p / 512) then byteOf x N area p else 0
def frameOf (x : DiskD) (N area : Int) : FrameD :=
 ⟨numAt (headS x N area) 4 8, (List.range (numAt (headS x N area) 12 2)).map fun i => (numAt (headS x N area) (20 + 6 * i) 2 : Int), (List.range (numAt (headS x N area) 12 2)).map fun i => objOf ((objS x N area i).take 508), stateOf x N area (numAt (headS x N area) 14 2)⟩
/-- an area that has a frame, on a disk whose steps go well -/
structure ReadGo (x : DiskD) (N area : Int) : Prop where
 ask : askB N x.size area = true
 okk : ∀ k : Nat, k ≤ 80 → (x.plus k).ok
 e2 : x.err (sectorN N 2 area 0).1 = 0
 e4 : ∀ i k : Nat, i < numAt (headS x N area) 12 2 → k ≤ 80 → (x.plus k).err (sectorN N 4 area i).1 = 0
 e3 : ∀ i k : Nat, i < chunksN (numAt (headS x N area) 14 2) → k ≤ 80 → (x.plus k).err (sectorN N 3 area i).1 = 0
 head : headB N (headS x N area) = true
 objs : ∀ i, i < numAt (headS x N area) 12 2 → getE (objS x N area i) N = 0 ∧ (crcW ((objS x N area i).take 508)).toNat = numAt (headS x N area) (22 + 6 * i) 4
 parts : ∀ i, i < chunksN (numAt (headS x N area) 14 2) → ((partS x N area i).drop (numAt (headS x N area) 14 2 - 512 * i)).all (· == 0) = true
 sum : (crcW (frameOf x N area).state).toNat = numAt (headS x N area) 16 4
/-- a region's ways through come together -/
theorem wp_merge {P : Program} {id : Nat} {ops : Array Oper} {b : Bool} {Q : Exit → Act → World → Prop} {a : Act} {w : World} {ι : Type} (A : ι → Act) (I : ι → World → Prop)
  (h : (Code.region id ops b).wp P (fun e a' w' => match e with | .normal => ∃ i, a' = A i ∧ I i w' | _ => False) a w) (hk : ∀ i w', I i w' → Q .normal (A i) w') : (Code.region id ops b).wp P Q a w :=
 Code.wp_mono (fun e a' w' h => by
  cases e with
  | normal => obtain ⟨i, rfl, hi⟩ := h; exact hk i w' hi
  | _ => exact h.elim) h
abbrev zeroF : Array Value := #[.int .i64 0, .slice none 0 0, .slice none 0 0, .slice none 0 0]
theorem info_object : ∃ i z, Tryz.prog.info? 62 = some i ∧ i.zero = some z ∧ i.size = 163 ∧ i.bytes = 856 ∧ z.cells.size = 163 := by
 have h : (Tryz.prog.info? 62).map (fun i => (i.zero.map (·.cells.size), i.size, i.bytes)) = some (some 163, 163, 856) := by kernel_rfl
 obtain ⟨i, hi, he⟩ := Option.map_eq_some_iff.1 h
 injection he with h1 h2
 injection h2 with h2 h3
 obtain ⟨z, hz, h4⟩ := Option.map_eq_some_iff.1 h1
 exact ⟨i, z, hi, hz, h2, h3, h4⟩
theorem obj_row (c : Array Value) (hc : c.size = 163) (i : TypeInfo) (z : Value) (h1 : i.size = 163) (h3 : z.cells.size = 163) :
  Instr.fill (fun k => some (k * i.size, i.size)) ((Array.range (1 * i.size)).map (z.cells[· % z.cells.size]!)) [(0, .agg c)] = some c := by
 rw [h1, fill_part (off := 0) (size := 163) (by simp) (by simpa [Value.cells] using hc) (by simp)]
 rw [Instr.fill, List.drop_eq_nil_of_le (by simp), List.take_zero, List.nil_append, List.append_nil]
 rfl
/-- the blocks of logs.Read itself -/
structure RdInv (D : DiskP) (w : World) (N area : Int) (gs : Nat) (W : World) (y : DiskD) (S : Array Value) : Prop where
 disk : DiskAt W D y
 step : DStep D D w W
 b0 : Blk W w.heap.size 37 #[ptr D.p]
 b1 : Blk W (w.heap.size + 1) 23 #[.int .i64 N]
 b2 : Blk W (w.heap.size + 2) 3 #[.int .i64 area]
 b3 : Blk W (w.heap.size + 3) 28 zeroF
 b4 : Blk W (w.heap.size + 4) 32 #[.int .i64 0]
 said : Blk W gs 142 S
 lo : w.heap.size + 5 ≤ gs
section
variable {D : DiskP} {w W W' : World} {N area : Int} {gs : Nat} {y y' : DiskD} {S : Array Value}
theorem RdInv.out (h : RdInv D w N area gs W y S) (hD : ∀ i, D.has i → i < w.heap.size) {F : Nat → Prop} (ho : Out F W W') (hF : ∀ i, F i → i < W.heap.size → w.heap.size + 5 ≤ i ∧ i ≠ gs) : RdInv D w N area gs W' y S := by
 have h1 := h.said.lt
 have h2 := h.lo
 have hn : ∀ i, i < w.heap.size + 5 → ¬ (F i ∧ i < W.heap.size) := fun i hi hf => by have := hF i hf.1 hf.2; omega
 have hb : ∀ i, i < w.heap.size + 5 → W'.heap[i]? = W.heap[i]? := fun i hi => ho.block i (by omega) (fun hf => hn i hi ⟨hf, by omega⟩)
 have ho2 : Out (fun i => F i ∧ i < W.heap.size) W W' := ⟨ho.os, ho.tape, ho.output, ho.size, fun i hi hf => ho.block i hi (fun hf' => hf ⟨hf', hi⟩)⟩
 refine ⟨h.disk.out ho2 (fun i hi hf => hn i (by have := hD i hi; omega) hf), ⟨h.step.out.trans ho2 (fun i hi hg => (hn i (by omega) hg).elim), rfl, fun i hi => .inl hi⟩, (hb _ (by omega)).trans h.b0, (hb _ (by omega)).trans h.b1, (hb _ (by omega)).trans h.b2, (hb _ (by omega)).trans h.b3, (hb _ (by omega)).trans h.b4, ho.blk h.said (fun hf => (hF gs hf h1).2 rfl), h2⟩
theorem RdInv.below (h : RdInv D w N area gs W y S) (hD : ∀ i, D.has i → i < w.heap.size) (hb : Below W.heap.size W W') : RdInv D w N area gs W' y S := h.out hD (F := fun _ => False) (outB hb) (fun _ hf => hf.elim)
theorem RdInv.read (h : RdInv D w N area gs W y S) (hD : ∀ i, D.has i → i < w.heap.size) (hd : DiskAt W' D y') (hs : DStep D D W W') : RdInv D w N area gs W' y' S := by
 have hn : ∀ i, w.heap.size ≤ i → ¬ D.has i := fun i hi hd => by have := hD i hd; omega
 have h2 := h.lo
 exact ⟨hd, h.step.trans hs, hs.out.blk h.b0 (hn _ (by omega)), hs.out.blk h.b1 (hn _ (by omega)), hs.out.blk h.b2 (hn _ (by omega)), hs.out.blk h.b3 (hn _ (by omega)), hs.out.blk h.b4 (hn _ (by omega)), hs.out.blk h.said (hn _ (by omega)), h2⟩
theorem RdInv.set_ (h : RdInv D w N area gs W y S) (hD : ∀ i, D.has i → i < w.heap.size) (j : Nat) (u : Value) : RdInv D w N area gs (W.setCell ⟨gs, j, none⟩ u) y (S.setIfInBounds j u) := by
 have hb : ∀ i, i ≠ gs → (W.setCell ⟨gs, j, none⟩ u).heap[i]? = W.heap[i]? := fun i hi => Below.heap_setCell W _ _ _ hi
 have h2 := h.lo
 have ho : Out (fun i => i = gs) W (W.setCell ⟨gs, j, none⟩ u) := out_set rfl
 refine ⟨h.disk.out ho (fun i hi e => by have := hD i hi; omega), ⟨h.step.out.trans ho (fun i hi e => by omega), rfl, fun i hi => .inl hi⟩, (hb _ (by omega)).trans h.b0, (hb _ (by omega)).trans h.b1, (hb _ (by omega)).trans h.b2, (hb _ (by omega)).trans h.b3, (hb _ (by omega)).trans h.b4, h.said.set_ j u, h2⟩
end
def objsL (x : DiskD) (N area : Int) (j : Nat) : List Value := (List.range j).flatMap fun i => (objOf ((objS x N area i).take 508)).cells
theorem objsL_snoc (x : DiskD) (N area : Int) (j : Nat) : objsL x N area (j + 1) = objsL x N area j ++ (objOf ((objS x N area j).take 508)).cells := by
 unfold objsL
 rw [List.range_succ, List.flatMap_append]
 simp
/-- and the lists of the frame under way -/
structure RdRows (D : DiskP) (w : World) (N area : Int) (x : DiskD) (gs m1 gst : Nat) (W : World) (y : DiskD) (vo vb vm : Value) (j : Nat) (st : List UInt8) (S : Array Value) : Prop where
 inv : RdInv D w N area gs W y S
 oids : W.ownsRow m1 3 1 vo (numAt (headS x N area) 12 2) (oidsL (headS x N area) (numAt (headS x N area) 12 2))
 sums : W.ownsRow m1 2 1 vm (numAt (headS x N area) 12 2) (sumsL (headS x N area) (numAt (headS x N area) 12 2))
 objs : W.ownsRow m1 62 163 vb j (objsL x N area j)
 page : Blk W gst 5 (st.map vu8).toArray
 lo : w.heap.size + 5 ≤ m1 ∧ m1 ≤ gst ∧ m1 ≤ gs
section
variable {D : DiskP} {w W W' : World} {N area : Int} {x : DiskD} {gs m1 gst : Nat} {y y' : DiskD} {S : Array Value} {vo vb vm : Value} {j j' : Nat} {st st' : List UInt8}
theorem RdRows.ne (h : RdRows D w N area x gs m1 gst W y vo vb vm j st S) : gst ≠ gs := by
 intro e
 have h1 := h.page
 rw [e] at h1
 have h2 := h.inv.said
 unfold Blk at h1 h2
 rw [h1] at h2
 injection h2 with h3
 injection h3 with _ h4
 exact absurd h4 (by decide)
theorem RdRows.below (h : RdRows D w N area x gs m1 gst W y vo vb vm j st S) (hD : ∀ i, D.has i → i < w.heap.size) (hb : Below W.heap.size W W') : RdRows D w N area x gs m1 gst W' y vo vb vm j st S :=
 ⟨h.inv.below hD hb, ownsRow_out (F := fun _ => False) (outB hb) h.oids (fun _ _ => id), ownsRow_out (F := fun _ => False) (outB hb) h.sums (fun _ _ => id), ownsRow_out (F := fun _ => False) (outB hb) h.objs (fun _ _ => id), h.page.below hb h.page.lt, h.lo⟩
theorem RdRows.read (h : RdRows D w N area x gs m1 gst W y vo vb vm j st S) (hD : ∀ i, D.has i → i < w.heap.size) (hd : DiskAt W' D y') (hs : DStep D D W W') : RdRows D w N area x gs m1 gst W' y' vo vb vm j st S := by
 have hn : ∀ i, m1 ≤ i → ¬ D.has i := fun i hi hd => by have := hD i hd; have := h.lo; omega
 exact ⟨h.inv.read hD hd hs, ownsRow_out hs.out h.oids (fun g hg => hn g (h.oids.lt g hg).1), ownsRow_out hs.out h.sums (fun g hg => hn g (h.sums.lt g hg).1), ownsRow_out hs.out h.objs (fun g hg => hn g (h.objs.lt g hg).1), hs.out.blk h.page (hn _ h.lo.2.1), h.lo⟩
theorem RdRows.set_ (h : RdRows D w N area x gs m1 gst W y vo vb vm j st S) (hD : ∀ i, D.has i → i < w.heap.size) (i : Nat) (u : Value) : RdRows D w N area x gs m1 gst (W.setCell ⟨gs, i, none⟩ u) y vo vb vm j st (S.setIfInBounds i u) :=
 have ho : Out (fun k => k = gs) W (W.setCell ⟨gs, i, none⟩ u) := out_set rfl
 ⟨h.inv.set_ hD i u, ownsRow_out ho h.oids (ne_own h.oids h.inv.said (by decide)), ownsRow_out ho h.sums (ne_own h.sums h.inv.said (by decide)), ownsRow_out ho h.objs (ne_own h.objs h.inv.said (by decide)), ho.blk h.page h.ne, h.lo⟩
theorem RdRows.obj (h : RdRows D w N area x gs m1 gst W y vo vb vm j st S) (hD : ∀ i, D.has i → i < w.heap.size) (hg : W.grownBy W' vb.ownBlock) {vb' : Value} (ho : W'.ownsRow m1 62 163 vb' j' (objsL x N area j')) : RdRows D w N area x gs m1 gst W' y vo vb' vm j' st S := by
 have h1 := out_grown hg
 have hl := h.lo
 exact ⟨h.inv.out hD h1 (fun i hi _ => ⟨by have := (h.objs.lt i hi).1; omega, ne_own h.objs h.inv.said (by decide) i hi⟩), ownsRow_out h1 h.oids (fun i hi hi' => ne_rows h.objs h.oids (by decide) i hi' hi), ownsRow_out h1 h.sums (fun i hi hi' => ne_rows h.objs h.sums (by decide) i hi' hi), ho, h1.blk h.page (fun hi => ne_own h.objs h.page (by decide) _ hi rfl), h.lo⟩
theorem RdRows.fill (h : RdRows D w N area x gs m1 gst W y vo vb vm j st S) (hD : ∀ i, D.has i → i < w.heap.size) (ho : Out (fun i => i = gst) W W') (hp : Blk W' gst 5 (st'.map vu8).toArray) : RdRows D w N area x gs m1 gst W' y vo vb vm j st' S := by
 have hl := h.lo
 exact ⟨h.inv.out hD ho (fun i e _ => ⟨by omega, by have := h.ne; omega⟩), ownsRow_out ho h.oids (ne_own h.oids h.page (by decide)), ownsRow_out ho h.sums (ne_own h.sums h.page (by decide)), ownsRow_out ho h.objs (ne_own h.objs h.page (by decide)), hp, h.lo⟩
theorem RdRows.sector (h : RdRows D w N area x gs m1 gst W y vo vb vm j st S) (hD : ∀ i, D.has i → i < w.heap.size) {g : Nat} {cs : Array Value} (hb : Blk W g 111 cs) (hg : m1 ≤ g) (cs' : Array Value) : RdRows D w N area x gs m1 gst (W.setRow g cs') y vo vb vm j st S := by
 have ho : Out (fun i => i = g) W (W.setRow g cs') := out_row _ rfl
 have hl := h.lo
 have hne : gs ≠ g := fun e => Blk.ne_ h.inv.said hb (by decide) e
 have hne2 : gst ≠ g := fun e => Blk.ne_ h.page hb (by decide) e
 exact ⟨h.inv.out hD ho (fun i e _ => ⟨by omega, fun e2 => hne (e2.symm.trans e)⟩), ownsRow_out ho h.oids (ne_own h.oids hb (by decide)), ownsRow_out ho h.sums (ne_own h.sums hb (by decide)), ownsRow_out ho h.objs (ne_own h.objs hb (by decide)), ho.blk h.page hne2, h.lo⟩
end
theorem stateBy_len (x : DiskD) (N area : Int) (nb : Nat) (l : List Nat) : (stateBy x N area nb l).length = nb := by simp [stateBy]
theorem stateBy_nil (x : DiskD) (N area : Int) (nb : Nat) : stateBy x N area nb [] = List.replicate nb 0 := by
 unfold stateBy
 simp only [List.contains_nil, Bool.false_eq_true, if_false]
 rw [List.map_const', List.length_range]
theorem stateBy_all (x : DiskD) (N area : Int) (nb : Nat) : stateBy x N area nb (List.range (chunksN nb)) = stateOf x N area nb := by
 unfold stateBy stateOf
 refine List.map_congr_left fun p hp => ?_
 have h1 : p < nb := List.mem_range.1 hp
 have h2 : p / 512 < chunksN nb := by unfold chunksN; omega
 have h3 : (List.range (chunksN nb)).contains (p / 512) = true := by simp [h2]
 rw [h3, if_pos rfl]
theorem stateBy_step (x : DiskD) (N area : Int) (nb : Nat) (l : List Nat) (i : Nat) (hi : 512 * i ≤ nb) (hx : (partS x N area i).length = 512) :
  (stateBy x N area nb l).take (512 * i) ++ (partS x N area i).take (min 512 (nb - 512 * i)) ++ (stateBy x N area nb l).drop (512 * i + min 512 (nb - 512 * i)) = stateBy x N area nb (l ++ [i]) := by
 have hl1 : ((stateBy x N area nb l).take (512 * i)).length = 512 * i := by rw [List.length_take, stateBy_len]; omega
 have hl2 : ((partS x N area i).take (min 512 (nb - 512 * i))).length = min 512 (nb - 512 * i) := by rw [List.length_take, hx]; omega
 apply List.ext_getElem?
 intro p
 have hrhs : (stateBy x N area nb (l ++ [i]))[p]? = if p < nb then some (if (l ++ [i]).contains (p / 512) then byteOf x N area p else 0) else none := by
  unfold stateBy
  rw [List.getElem?_map]
  by_cases h : p < nb
  ·rw [List.getElem?_range h, if_pos h]; rfl
  ·rw [List.getElem?_eq_none (by simp; omega), if_neg h]; rfl
 have hold : (stateBy x N area nb l)[p]? = if p < nb then some (if l.contains (p / 512) then byteOf x N area p else 0) else none := by
  unfold stateBy
  rw [List.getElem?_map]
  by_cases h : p < nb
  ·rw [List.getElem?_range h, if_pos h]; rfl
  ·rw [List.getElem?_eq_none (by simp; omega), if_neg h]; rfl
 rw [hrhs]
 have hc : (l ++ [i]).contains (p / 512) = (l.contains (p / 512) || (p / 512 == i)) := by simp; rfl
 rw [hc]
 by_cases h1 : p < 512 * i
 ·rw [List.append_assoc, List.getElem?_append_left (by omega), List.getElem?_take, if_pos h1, hold]
  have : (p / 512 == i) = false := by simp; omega
  rw [this, Bool.or_false]
 ·by_cases h2 : p < 512 * i + min 512 (nb - 512 * i)
  ·rw [List.getElem?_append_left (by rw [List.length_append]; omega), List.getElem?_append_right (by omega), hl1, List.getElem?_take, if_pos (by omega)]
   have h3 : p / 512 = i := by omega
   have h4 : p % 512 = p - 512 * i := by omega
   rw [if_pos (by omega), h3]
   simp only [beq_self_eq_true, Bool.or_true, if_true]
   unfold byteOf
   rw [h3, h4, List.getElem?_eq_getElem (by omega)]
   rfl
  ·rw [List.getElem?_append_right (by rw [List.length_append]; omega), List.length_append, hl1, hl2, List.getElem?_drop]
   rw [show 512 * i + min 512 (nb - 512 * i) + (p - (512 * i + min 512 (nb - 512 * i))) = p by omega, hold]
   by_cases h : p < nb
   ·have : (p / 512 == i) = false := by simp; omega
    rw [this, Bool.or_false]
   ·rw [if_neg h, if_neg h]
section
variable {D : DiskP} {w W W' : World} {N area : Int} {x : DiskD} {gs m1 gst : Nat} {y y' : DiskD} {S : Array Value} {vo vb vm : Value} {j j' : Nat} {st st' : List UInt8}
theorem RdRows.far (h : RdRows D w N area x gs m1 gst W y vo vb vm j st S) (hD : ∀ i, D.has i → i < w.heap.size) {F : Nat → Prop} (ho : Out F W W') (K : Nat) (hF : ∀ i, F i → K ≤ i) (h1 : gs < K ∧ gst < K ∧ w.heap.size + 5 ≤ K) (h2 : ∀ i, vo.ownBlock = some i ∨ vb.ownBlock = some i ∨ vm.ownBlock = some i → i < K) : RdRows D w N area x gs m1 gst W' y vo vb vm j st S :=
 ⟨h.inv.out hD ho (fun i hi _ => by have := hF i hi; omega), ownsRow_out ho h.oids (fun i hi hf => by have := hF i hf; have := h2 i (.inl hi); omega), ownsRow_out ho h.sums (fun i hi hf => by have := hF i hf; have := h2 i (.inr (.inr hi)); omega), ownsRow_out ho h.objs (fun i hi hf => by have := hF i hf; have := h2 i (.inr (.inl hi)); omega), ho.blk h.page (fun hf => by have := hF _ hf; omega), h.lo⟩
/-- and what a round has turned -/
structure RdP (D : DiskP) (w : World) (N area : Int) (x : DiskD) (gs m1 gst : Nat) (W : World) (y : DiskD) (vo vb vm : Value) (j : Nat) (st : List UInt8) (S : Array Value) (X : World) : Prop extends RdRows D w N area x gs m1 gst W y vo vb vm j st S where
 o : Out (fun i => D.has i ∨ i = gst ∨ X.heap.size ≤ i) X W
variable {X : World}
theorem RdP.below (h : RdP D w N area x gs m1 gst W y vo vb vm j st S X) (hD : ∀ i, D.has i → i < w.heap.size) (hb : Below W.heap.size W W') : RdP D w N area x gs m1 gst W' y vo vb vm j st S X :=
 ⟨h.toRdRows.below hD hb, h.o.trans (G := fun _ => False) (outB hb) (fun _ _ => False.elim)⟩
theorem RdP.read (h : RdP D w N area x gs m1 gst W y vo vb vm j st S X) (hD : ∀ i, D.has i → i < w.heap.size) (hd : DiskAt W' D y') (hs : DStep D D W W') : RdP D w N area x gs m1 gst W' y' vo vb vm j st S X :=
 ⟨h.toRdRows.read hD hd hs, h.o.trans hs.out (fun _ _ hd => .inl hd)⟩
theorem RdP.sector (h : RdP D w N area x gs m1 gst W y vo vb vm j st S X) (hD : ∀ i, D.has i → i < w.heap.size) {g : Nat} {cs : Array Value} (hb : Blk W g 111 cs) (hg : m1 ≤ g ∧ X.heap.size ≤ g) (cs' : Array Value) : RdP D w N area x gs m1 gst (W.setRow g cs') y vo vb vm j st S X :=
 ⟨h.toRdRows.sector hD hb hg.1 cs', h.o.trans (G := fun i => i = g) (out_row _ rfl) (fun i _ e => .inr (.inr (by omega)))⟩
theorem RdP.fill (h : RdP D w N area x gs m1 gst W y vo vb vm j st S X) (hD : ∀ i, D.has i → i < w.heap.size) (ho : Out (fun i => i = gst) W W') (hp : Blk W' gst 5 (st'.map vu8).toArray) : RdP D w N area x gs m1 gst W' y vo vb vm j st' S X :=
 ⟨h.toRdRows.fill hD ho hp, h.o.trans ho (fun _ _ e => .inr (.inl e))⟩
theorem KeepsU.refl {T : Nat → TypeId → Prop} {C g m : Nat} (W : World) : KeepsU T C g m W W := ⟨KeepsT.refl _ _ _ _, id⟩
theorem KeepsU.trans {T : Nat → TypeId → Prop} {C g m : Nat} {A B E : World} (h : KeepsU T C g m A B) (k : KeepsU T C g m B E) : KeepsU T C g m A E := ⟨h.k.trans k.k, fun p => k.p (h.p p)⟩
theorem KeepsU.put {T : Nat → TypeId → Prop} {C g m l : Nat} (hC : l < C) (W : World) (o o' : Obj) (h : W.heap[l]? = some o) (hc : o.isCells = false) : KeepsU T C g m W (W.putObj l o') :=
 ⟨keepsT_b (Nat.zero_le _) hC W o o' h hc, fun ⟨st, h1, h2⟩ => ⟨st, h1, (World.putObj_heap_other (fun e => by
  have h3 : W.heap[g]? = some (.cells (st.map vu8).toArray 5 (0, 0)) := h2
  rw [e, h] at h3
  injection h3 with h3
  rw [h3] at hc
  cases hc)).trans h2⟩⟩
def RdT (gst : Nat) (i : Nat) (t : TypeId) : Prop := t = 152 ∨ t = 161 ∨ i = gst
theorem disk_typed {y : DiskD} {X : World} (h : DiskAt X D y) {i : Nat} {cs : Array Value} {t : TypeId} {fr : Nat × Nat} (hi : X.heap[i]? = some (.cells cs t fr)) (h1 : t ≠ 152) (h2 : t ≠ 161) : ¬ D.has i := by
 rintro (rfl | rfl | hd | hd)
 ·have := h.blk
  unfold Blk at this
  rw [hi] at this
  injection this with this
  injection this with _ e
  exact h1 e
 ·obtain ⟨l, hm, _⟩ := h.lasts
  unfold MapAt at hm
  rw [hi] at hm
  cases hm
 ·obtain ⟨_, ⟨e, _⟩ | ⟨g, cap, cur, e, _, hg, _⟩⟩ := h.waits
  ·rw [e] at hd; cases hd
  ·rw [e] at hd
   have : g = i := by simpa [Value.ownBlock] using hd
   subst this
   rw [hi] at hg
   injection hg with hg
   injection hg with _ e2
   exact h2 e2
 ·rcases h.fails with ⟨e, _⟩ | ⟨r, k, e, hm, _⟩
  ·rw [e] at hd; cases hd
  ·rw [e] at hd; cases hd
   unfold MapAt at hm
   rw [hi] at hm
   cases hm
theorem RdP.keepsU (h : RdP D w N area x gs m1 gst W y vo vb vm j st S X) (hd : DiskAt X D y') {C nb : Nat} (hC : ∀ i, D.has i → i < C) (hg : gst < C) (hCX : C ≤ X.heap.size) (hn : st.length = nb) : KeepsFrom C X W ∧ KeepsU (RdT gst) C gst nb X W := by
 have hsame : ∀ (k : Nat) (o : Obj), C ≤ k → X.heap[k]? = some o → W.heap[k]? = some o := fun k o hk ho => (h.o.block k (Array.getElem?_eq_some_iff.1 ho).1 (fun hf => by
  have hkl := (Array.getElem?_eq_some_iff.1 ho).1
  rcases hf with hf | hf | hf
  ·have := hC k hf; omega
  ·omega
  ·omega)).trans ho
 refine ⟨⟨h.o.size, fun k o hk ho _ => hsame k o hk ho⟩, ⟨⟨h.o.os, h.o.tape, h.o.output, h.o.size, fun i hi => absurd hi (Nat.not_lt_zero _), fun k o hk ho _ => hsame k o hk ho, fun i cs t fr ht hi => ?_⟩, fun _ => ⟨st, hn, h.page⟩⟩⟩
 have hl := (Array.getElem?_eq_some_iff.1 hi).1
 refine (h.o.block i hl (fun hf => ?_)).trans hi
 rcases hf with hf | hf | hf
 ·exact disk_typed hd hi (fun e => ht (.inl e)) (fun e => ht (.inr (.inl e))) hf
 ·exact ht (.inr (.inr hf))
 ·omega
end
theorem parts2_m (n : Nat) (hn : 3 ≤ n) (Bs : Nat) (T : Nat → TypeId → Prop) (gs m : Nat) (w : World) (hT : ∀ i, w.heap.size ≤ i → (¬ T i 26 ∧ ¬ T i 3 ∧ ¬ T i 199))
  (hBs : Blk w Bs 26 #[.slice (some ⟨gs, 0, none⟩) m m]) (hv : PageAt gs m w) (hst : m ≤ 1000000) (hgs : gs < w.heap.size) :
  SeqO 2 n Tryz.prog 107 #[.pointer (some ⟨Bs, 0, none⟩)] (vp2 (N := chunksN m)) (KeepsU T (w.heap.size + 2) gs m) (fun ys => ys.map (·.1.val) = List.range (chunksN m)) (fun _ => True) (chunksN m) w := by
 obtain ⟨st, rfl⟩ : ∃ st : List UInt8, st.length = m := ⟨List.replicate m 0, by simp⟩
 exact parts2_seq n hn Bs T gs st w hT hBs hv hst hgs
set_option maxRecDepth 100000 in
theorem copy_part {x : DiskD} {N area : Int} {W : World} {gst g nb i : Nat} {l : List Nat} (hi : 512 * i < nb) (hx : (partS x N area i).length = 512) (hp : Blk W gst 5 ((stateBy x N area nb l).map vu8).toArray) (hb : Blk W g 111 ((partS x N area i).map vu8).toArray) (ty : TypeId) (c1 : Nat) :
  ∃ w', (Builtin.copy_ #[26, 26] ty #[.slice (some ⟨gst, i * 512, none⟩) (nb - i * 512) c1, .slice (some ⟨g, 0, none⟩) 512 512]).run Tryz.prog W = .ok (goInt (min 512 (nb - 512 * i) : Nat)) w' ∧ Blk w' gst 5 ((stateBy x N area nb (l ++ [i])).map vu8).toArray ∧ Out (fun k => k = gst) W w' := by
 have hl : ((partS x N area i).take (min 512 (nb - 512 * i))).length = min 512 (nb - 512 * i) := by rw [List.length_take, hx]; omega
 have hsrc : ∀ j u, (((partS x N area i).take (min 512 (nb - 512 * i))).map vu8)[j]? = some u → W.cell? ((⟨g, 0, none⟩ : Addr).add j) = some u := by
  intro j u hj
  rw [List.getElem?_map] at hj
  obtain ⟨c, hcj, rfl⟩ := Option.map_eq_some_iff.1 hj
  rw [add_at, hb.cell, List.getElem?_toArray, Nat.zero_add, List.getElem?_map]
  rw [List.getElem?_take] at hcj
  split at hcj
  ·rw [hcj]; rfl
  ·cases hcj
 have hr := run_copy_row (P := Tryz.prog) W 26 26 ty 5 gst (i * 512) (nb - i * 512) c1 ⟨g, 0, none⟩ 512 512 ((stateBy x N area nb l).map vu8).toArray 5 (((partS x N area i).take (min 512 (nb - 512 * i))).map vu8) Tryz.underlying26 (by kernel_rfl) hp
  (by rw [List.length_map, hl, Nat.mul_comm i 512]) hsrc (by rw [List.length_map, hl, List.size_toArray, List.length_map, stateBy_len]; omega) (sector_one _)
 rw [List.length_map, hl, List.toList_toArray, ← List.map_take, ← List.map_drop, ← List.map_append, ← List.map_append, Nat.mul_comm i 512, stateBy_step x N area nb l i (Nat.le_of_lt hi) hx, Nat.mul_comm 512 i] at hr
 rw [Nat.mul_comm 512 i]
 exact ⟨_, hr, hp.row _, out_row _ rfl⟩
theorem bytesNil (W : World) (B : Nat) (a : Option Addr) (c : Nat) : BytesIn W B (.slice a 0 c) [] := ⟨by simp, a, c, rfl, Nat.zero_le _, fun j c hc => by simp at hc⟩
theorem zeros_eq (l : List UInt8) (h : l.all (· == 0) = true) : l = List.replicate l.length 0 := by
 refine List.eq_replicate_of_mem fun b hb => ?_
 have := List.all_eq_true.1 h b hb
 simpa using this
theorem part_zeros {bP : List UInt8} (hl : bP.length = 512) {r : Nat} (h : (bP.drop r).all (· == 0) = true) : bP.drop r = sector0.drop r := by
 rw [zeros_eq _ h]
 unfold sector0
 rw [List.drop_replicate, List.length_drop, hl]
theorem CallsDIn.mono' {P : Program} {F : Fence} {n : Nat} {f : FuncId} {args : Array Value} {u : FrameMode} {w : World} {R R' : Ending → FrameMode → World → Prop} (h : CallsDIn F n P f args u w R) (hr : ∀ e u' w', R e u' w' → R' e u' w') : CallsDIn F n P f args u w R' :=
 ⟨h.1, fun c cs hu hro => let ⟨e, u', w', fr, r, rest⟩ := h.2 c cs hu hro; ⟨e, u', w', fr, hr _ _ _ r, rest⟩⟩
theorem ints_own {W : World} {B K n : Nat} {e : TypeId} {v : Value} {l : List Int} (h : W.ownsRow B e 1 v n (l.map (Value.int .i64))) (hK : ∀ g, v.ownBlock = some g → g < K) : IntsIn W K v l := by
 have hn : l.length = n := by have := h.1; simpa using this
 subst hn
 obtain ⟨hl, ⟨rfl, h0⟩ | ⟨g, cap, cur, rfl, hB, hg, hc, hm, hs, ht⟩⟩ := h
 ·have : l = [] := List.eq_nil_of_length_eq_zero h0
  subst this
  exact IntsIn.nil W _
 ·refine ⟨by omega, _, cap, rfl, hc, fun j c hj => ⟨g, 0, rfl, hK g rfl, ?_⟩⟩
  rw [cell_of_row W g (0 + j) cur e (0, 0) hg]
  have h1 : (cur.toList.take (l.length * 1))[j]? = some (.int .i64 c) := by rw [ht]; simp [hj]
  have hjl : j < l.length := by
   rcases Nat.lt_or_ge j l.length with h | h
   ·exact h
   ·rw [List.getElem?_eq_none h] at hj; cases hj
  rw [List.getElem?_take, if_pos (by omega)] at h1
  simpa using h1
theorem objs_at : ∀ (l : List ObjD) (j : Nat) (o : ObjD), (∀ x ∈ l, x.ok) → l[j]? = some o → ∀ i, i < 163 → (l.flatMap ObjD.cells)[j * 163 + i]? = o.cells[i]? := by
 intro l
 induction l with
 | nil => intro j x _ h; simp at h
 | cons y l ih =>
  intro j x hok h i hi
  have hy := ObjD.len (hok y (by simp))
  rw [List.flatMap_cons]
  cases j with
  | zero =>
   obtain rfl : y = x := by simpa using h
   rw [Nat.zero_mul, Nat.zero_add, List.getElem?_append_left (by rw [hy]; exact hi)]
  | succ j =>
   have h' : l[j]? = some x := by simpa using h
   rw [List.getElem?_append_right (by rw [hy]; omega), hy, show (j + 1) * 163 + i - 163 = j * 163 + i by omega]
   exact ih j x (fun z hz => hok z (by simp [hz])) h' i hi
theorem objs_own {W : World} {B K n : Nat} {e : TypeId} {v : Value} {l : List ObjD} (hok : ∀ x ∈ l, x.ok) (hr : ∀ x ∈ l, rightsOk x) (hn : l.length = n) (h : W.ownsRow B e 163 v n (l.flatMap ObjD.cells)) (hK : ∀ g, v.ownBlock = some g → g < K) : ObjsIn W K v l := by
 subst hn
 obtain ⟨hl, ⟨rfl, h0⟩ | ⟨g, cap, cur, rfl, hB, hg, hc, hm, hs, ht⟩⟩ := h
 ·have : l = [] := List.eq_nil_of_length_eq_zero h0
  subst this
  exact ObjsIn.nil W _
 ·refine ⟨by omega, _, cap, rfl, hc, fun j o hj => ?_⟩
  have hjl : j < l.length := by
   rcases Nat.lt_or_ge j l.length with h | h
   ·exact h
   ·rw [List.getElem?_eq_none h] at hj; cases hj
  have hm : o ∈ l := List.mem_of_getElem? hj
  refine ⟨hok o hm, hr o hm, g, 0, rfl, hK g rfl, fun i u hi => ?_⟩
  have hi163 : i < 163 := by
   rcases Nat.lt_or_ge i 163 with h | h
   ·exact h
   ·rw [List.getElem?_eq_none (by rw [ObjD.len (hok o hm)]; exact h)] at hi; cases hi
  rw [cell_of_row W g _ cur e (0, 0) hg]
  have h1 := objs_at l j o hok hj i hi163
  rw [← ht, List.getElem?_take, if_pos (by omega), hi] at h1
  simpa using h1
theorem keyOf_rights (l : List UInt8) : (keyOf l).r < 9223372036854775808 := by
 have h := leN_take_lt (l.drop 1) 1
 show ((leN ((l.drop 1).take 1) : Nat) : Int) < _
 omega
theorem objOf_rights (l : List UInt8) : rightsOk (objOf l) := by
 intro x hx
 obtain ⟨i, _, rfl⟩ := List.mem_map.1 hx
 exact keyOf_rights _
/-- a region's ways through come together, within a round -/
theorem wpIn_merge {P : Program} {F : Fence} {n : Nat} {c : Code} {Q : Exit → Act → World → Prop} {a : Act} {w : World} {ι : Type} (A : ι → Act) (I : ι → World → Prop)
  (h : c.wpIn F n P (fun e a' w' => match e with | .normal => ∃ i, a' = A i ∧ I i w' | _ => False) a w) (hk : ∀ i w', I i w' → Q .normal (A i) w') : c.wpIn F n P Q a w :=
 wpIn_mono h (fun e a' w' h => by
  cases e with
  | normal => obtain ⟨i, rfl, hi⟩ := h; exact hk i w' hi
  | _ => exact h.elim)
/-- a frame in memory, from block lo on -/
def FrameFrom (lo : Nat) (W : World) (v : Value) (f : FrameD) : Prop := ∀ (F : Nat → Prop) (W' : World), Out F W W' → (∀ i, lo ≤ i → i < W.heap.size → ¬ F i) → FrameIn W' W.heap.size v f
theorem FrameFrom.in_ {lo : Nat} {W : World} {v : Value} {f : FrameD} (h : FrameFrom lo W v f) : FrameIn W W.heap.size v f := h (fun _ => False) W (Out.refl _ _) (fun _ _ _ => id)
theorem frame_from {lo m1 gst n nb : Nat} {W : World} {x : DiskD} {N area : Int} {vo vb : Value} (ho : W.ownsRow m1 3 1 vo n (oidsL (headS x N area) n)) (hb : W.ownsRow m1 62 163 vb n (objsL x N area n)) (hp : Blk W gst 5 ((stateOf x N area nb).map vu8).toArray)
  (hn : n = numAt (headS x N area) 12 2) (hnb : nb = numAt (headS x N area) 14 2) (hlo : lo ≤ m1 ∧ m1 ≤ gst) (hb4 : nb ≤ 4096) (hS : ∀ i, i < n → (objS x N area i).length = 512) :
  FrameFrom lo W (.agg #[.int .i64 (numAt (headS x N area) 4 8 : Nat), vo, vb, .slice (some ⟨gst, 0, none⟩) nb nb]) (frameOf x N area) := by
 intro F W' hoF hF
 have hnl : (stateOf x N area nb).length = nb := by simp [stateOf]
 refine ⟨vo, vb, .slice (some ⟨gst, 0, none⟩) nb nb, rfl, ?_, ?_, ?_⟩
 ·have h1 := ownsRow_out hoF ho (fun g hg => hF g (by have := (ho.lt g hg).1; omega) (ho.lt g hg).2)
  refine ints_own (n := n) (B := m1) (e := 3) ?_ (fun g hg => (ho.lt g hg).2)
  unfold frameOf
  simp only
  rw [← hn, List.map_map]
  exact h1
 ·have h1 := ownsRow_out hoF hb (fun g hg => hF g (by have := (hb.lt g hg).1; omega) (hb.lt g hg).2)
  unfold frameOf
  simp only
  rw [← hn]
  refine objs_own (n := n) (B := m1) (e := 62) ?_ ?_ (by simp) ?_ (fun g hg => (hb.lt g hg).2)
  ·intro o ho
   obtain ⟨i, hi, rfl⟩ := List.mem_map.1 ho
   exact objOf_ok _ (by rw [List.length_take, hS i (List.mem_range.1 hi)]; rfl)
  ·intro o ho
   obtain ⟨i, hi, rfl⟩ := List.mem_map.1 ho
   exact objOf_rights _
  ·rw [List.flatMap_map]
   exact h1
 ·unfold frameOf
  simp only
  rw [← hnb]
  refine ⟨by rw [hnl]; unfold maxLen; omega, some ⟨gst, 0, none⟩, nb, by rw [hnl], by rw [hnl]; exact Nat.le_refl _, fun j c hj => ⟨gst, 0, rfl, hp.lt, (hoF.blk hp (hF gst (by omega) hp.lt)).cell_is (0 + j) ?_⟩⟩
  rw [List.getElem?_toArray, Nat.zero_add, List.getElem?_map, hj]
  rfl
end Go.Proofs.YtdpniceapmikpaaGreat
