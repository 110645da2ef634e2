/-
  The closure that Write hands to step: a sector that waits. (Written by gen_ldisk4.py.)
  A step that goes well; Write.
  slices.Backward over the writes that wait.
-/
import Derived.Deep.RegionHeld3
import Derived.Deep.AppendLies
import Derived.Great.BuildSlice
import Derived.Test.YtdpniceapmikpaaGreatWh1
import Derived.Test.YtdpniceapmikpaaGreatWh3
import Derived.Test.YtdpniceapmikpaaGreatWh5
import Derived.Test.YtdpniceapmikpaaGreatWh7
set_option linter.unusedVariables false
set_option linter.unusedSimpArgs false
namespace Go.Proofs.YtdpniceapmikpaaGreat
open Go.RowKit

theorem info_wait : ∃ i z, Tryz.prog.info? 161 = some i ∧ i.zero = some z ∧ i.size = 513 ∧ i.bytes = 520 ∧ z.cells.size = 513 := by
 have h : (Tryz.prog.info? 161).map (fun i => (i.zero.map (·.cells.size), i.size, i.bytes)) = some (some 513, 513, 520) := by kernel_rfl
 obtain ⟨i, hi, he⟩ := Option.map_eq_some_iff.1 h
 injection he with h1 h2
 injection h2 with h2 h3
 obtain ⟨z, hz, h4⟩ := Option.map_eq_some_iff.1 h1
 exact ⟨i, z, hi, hz, h2, h3, h4⟩
theorem size_sector : (Tryz.prog.info? 111).map (·.size) = some 512 := by kernel_rfl
theorem sector_one (b : List UInt8) (v : Value) (hv : v ∈ b.map vu8) : v.oneCell' = true := by
 obtain ⟨c, _, rfl⟩ := List.mem_map.1 hv
 rfl
theorem fold_part (off : Nat) (l : List Value) (cs : Array Value) (h : off + l.length ≤ cs.size) : (l.zipIdx 0).foldl (fun cs (x : Value × Nat) => cs.setIfInBounds (off + x.2) x.1) cs = (cs.toList.take off ++ l ++ cs.toList.drop (off + l.length)).toArray := by
 obtain ⟨h1, h2⟩ := Great.foldl_set off l 0 cs
 apply Array.ext_getElem?
 intro k
 rw [h2 k]
 refine Eq.trans ?_ List.getElem?_toArray.symm
 have ht : (cs.toList.take off).length = off := by simp; omega
 by_cases c1 : k < off
 ·rw [if_neg (by omega), List.append_assoc, List.getElem?_append_left (by omega), List.getElem?_take, if_pos c1]; simp
 ·by_cases c2 : k < off + l.length
  ·rw [if_pos (by omega), List.append_assoc, List.getElem?_append_right (by omega), ht, List.getElem?_append_left (by omega)]; simp
  ·rw [if_neg (by omega), List.getElem?_append_right (by simp; omega), List.getElem?_drop]
   simp only [List.length_append, ht, Array.getElem?_toList]
   congr 1
   omega
theorem fill_part {place : Nat → Option (Nat × Nat)} {cells : Array Value} {i off size : Nat} {v : Value} {rest : List (Nat × Value)} (hp : place i = some (off, size)) (hs : v.cells.size = size) (hle : off + size ≤ cells.size) :
  Instr.fill place cells ((i, v) :: rest) = Instr.fill place (cells.toList.take off ++ v.cells.toList ++ cells.toList.drop (off + size)).toArray rest := by
 rw [Instr.fill, hp]
 have h : (decide (v.cells.size ≠ size) || decide (off + v.cells.size > cells.size)) = false := by simp; omega
 simp only [h, Bool.false_eq_true, if_false]
 have e := fold_part off v.cells.toList cells (by simpa [hs] using hle)
 rw [show v.cells.toList.length = size by simpa using hs] at e
 rw [← e]
 congr 1
 rw [← Array.foldl_toList, Array.toList_zipIdx]
theorem fill_nil (place : Nat → Option (Nat × Nat)) (cells : Array Value) : Instr.fill place cells [] = some cells := rfl
theorem wait_built (n : Int) (b : List UInt8) (hb : b.length = 512) : Tryz.prog.built 161 [(0, .int .i64 n), (1, .agg (b.map vu8).toArray)] = some (WaitD.cells ⟨n, b⟩).toArray := by
 obtain ⟨i, z, hi, hz, h1, h2, h3⟩ := info_wait
 have hu := Tryz.underlying161
 unfold Program.built
 rw [hi, hu]
 simp only [hz]
 rw [show (List.mapM (fun f : Field => Option.map (fun i => (f.offset, i.size)) (Tryz.prog.info? f.type)) _ : Option (List (Nat × Nat))) = some [(0, 1), (1, 512)] from by kernel_rfl]
 simp only []
 have hd : z.cells.toList.length = 513 := by simpa using h3
 generalize z.cells = zc at *
 rw [fill_part (off := 0) (size := 1) rfl rfl (by omega), fill_part (off := 1) (size := 512) rfl (by simpa [Value.cells] using hb) (by rw [List.size_toArray]; simp [hd]; exact Nat.le_refl 1)]
 rw [fill_nil]
 apply congrArg some
 apply congrArg List.toArray
 rw [List.take_append_of_le_length (by simp [Value.cells]), List.take_of_length_le (by simp [Value.cells]), List.drop_eq_nil_of_le (by simp [hd, Value.cells])]
 simp only [List.take_zero, List.nil_append, List.append_nil]
 rfl
theorem wait_row (c : Array Value) (hc : c.size = 513) (i : TypeInfo) (z : Value) (h1 : i.size = 513) (h3 : z.cells.size = 513) :
  Instr.fill (fun k => some (k * i.size, i.size)) ((Array.range (1 * i.size)).map (z.cells[· % z.cells.size]!)) [(0, .agg c)] = some c := by
 rw [h1, fill_part (off := 0) (size := 513) (by simp) (by simpa [Value.cells] using hc) (by simp)]
 rw [Instr.fill, List.drop_eq_nil_of_le (by simp), List.take_zero, List.nil_append, List.append_nil]
 rfl
theorem yieldsIf_build {P : Program} {ops : Array Oper} {S : World → Prop} {op : Oper} {a : Act} (hw : Region.wanted op (yielded ops a.tmps) = true) (t : TypeId) (parts : Array (Nat × Operand)) (ho : op.op = .build t parts) (cells : Array Value)
  (hf : P.built t (parts.toList.map fun x => (x.1, a.eval x.2)) = some cells) : YieldsIf P ops S op (.agg cells) a :=
 .inl ⟨hw, fun w _ => by
  unfold execOp
  have hf' : P.built t (parts.map fun (i, x) => (i, a.eval x)).toList = some cells := by rw [Array.toList_map]; exact hf
  simp only [ho, Sem.run_bind, run_build w t _ _ hf', Sem.run_pure, Result.andThen_ok]⟩
theorem wp_buildSliceL {P : Program} {o : Oper} {a : Act} {w : World} {K : Act → World → Prop} {Q : Exit → Act → World → Prop} (t e : TypeId) (len : Nat) (parts : Array (Nat × Operand)) (ho : o.op = .buildSlice t len parts)
  (cells : Array Value) (ie : TypeInfo) (z : Value)
  (hu : P.underlying t = some (.slice e)) (hie : P.info? e = some ie) (hz : ie.zero = some z) (hsmall : ¬ len * ie.size > 2 ^ 24) (hpos : ¬ len * ie.size = 0)
  (hf : Instr.fill (fun i => some (i * ie.size, ie.size)) ((Array.range (len * ie.size)).map (z.cells[· % z.cells.size]!)) (parts.toList.map fun x => (x.1, a.eval x.2)) = some cells)
  (h : K (a.put o.dst (.slice (some ⟨w.heap.size, 0, none⟩) len len)) (w.alloc (.cells cells e))) : o.wp P a w K Q :=
 wp_buildSlice t e len parts ho cells ie z hu hie hz hsmall hpos (by rw [Array.toList_map]; exact hf) h
theorem WaitD.len (x : WaitD) (h : x.b.length = 512) : x.cells.length = 513 := by simp [WaitD.cells, h]
theorem wait_one (x : WaitD) (v : Value) (hv : v ∈ x.cells) : v.oneCell' = true := by
 rcases List.mem_cons.1 hv with rfl | hv
 ·rfl
 ·exact sector_one _ v hv
def DiskD.put (x : DiskD) (n : Int) (b : List UInt8) : DiskD := { x with waits := x.waits ++ [⟨n, b⟩] }
theorem range_lt {w : World} {g o : Nat} {cs : List Value} (hr : w.rangeAt g o cs) (h : cs ≠ []) : g < w.heap.size := by
 obtain ⟨c, l, rfl⟩ := List.exists_cons_of_ne_nil h
 exact World.block_lt_of_cell? w _ (hr 0 c rfl)
theorem ne_own_map {w : World} {k B e : Nat} {v : Value} {n r : Nat} {xs : List Value} {kd : IntKind} {l : List (Int × Value)} (h : w.ownsRow B e k v n xs) (hm : MapAt w r kd l) (i : Nat) (hi : v.ownBlock = some i) : i ≠ r := by
 rintro rfl
 rcases h.2 with ⟨rfl, _⟩ | ⟨g', cap, cur, rfl, h2, h3, h4⟩
 ·cases hi
 ·obtain rfl : g' = i := by simpa [Value.ownBlock] using hi
  unfold MapAt at hm
  rw [hm] at h3
  injection h3 with h3
  cases h3
theorem put_at {w w0 w2 : World} {D : DiskP} {x : DiskD} (h : DiskAt w D x) (hb : Below w.heap.size w w0) (hg : w0.grownBy w2 D.wv.ownBlock) {g : Nat} {n : Int} {b : List UInt8} {v : Value} (hv : v.ownBlock = some g) (hgg : D.wv.ownBlock = some g ∨ w.heap.size ≤ g)
  (ho : w2.ownsRow 0 161 513 v (x.waits.length + 1) (waitCells x.waits ++ WaitD.cells ⟨n, b⟩)) :
  DiskAt (w2.setCell ⟨D.p, 2, none⟩ v) { D with wv := v } (x.put n b) ∧ DStep D { D with wv := v } w (w2.setCell ⟨D.p, 2, none⟩ v) := by
 obtain ⟨n1, n2, n3⟩ := h.ne
 have hf : ∀ i, i < w.heap.size → some i ≠ D.wv.ownBlock → w2.heap[i]? = w.heap[i]? := fun i hi hn => (hg.block i (by have := hb.size; omega) hn).trans (hb.block i hi)
 have hp : Blk w2 D.p _ _ := (hf D.p h.blk.lt (fun e => n2 _ e.symm rfl)).trans h.blk
 refine ⟨⟨hp.set_ 2 v, ?_, ?_, ?_, h.apart⟩, ⟨⟨hg.os.trans hb.os, hg.tape.trans hb.tape, hg.output.trans hb.output, by have := hg.size; have := hb.size; simp; omega, fun i hi hn => ?_⟩, rfl, ?_⟩⟩
 ·obtain ⟨l, hm, hl⟩ := h.lasts
  refine ⟨l, (Below.heap_setCell w2 _ _ _ n1).trans ((hf D.lm hm.lt (fun e => ?_)).trans hm), hl⟩
  exact ne_own_map h.waits hm _ e.symm rfl
 ·have hne : ∀ i, v.ownBlock = some i → i ≠ D.p := ne_own ho hp (by decide)
  have e : waitCells (x.put n b).waits = waitCells x.waits ++ WaitD.cells ⟨n, b⟩ := by simp [waitCells, DiskD.put, List.flatMap_append]
  have e2 : (x.put n b).waits.length = x.waits.length + 1 := by simp [DiskD.put]
  show World.ownsRow _ 0 _ 513 v (x.put n b).waits.length (waitCells (x.put n b).waits)
  rw [e, e2]
  exact ownsRow_out (F := fun i => i = D.p) (out_set rfl) ho (fun i hi => hne i hi)
 ·rcases h.fails with hn | ⟨r, k, e, h1, h2⟩
  ·exact .inl hn
  ·refine .inr ⟨r, k, e, (Below.heap_setCell w2 _ _ _ (n3 r e)).trans ((hf r h1.lt (fun e => ?_)).trans h1), h2⟩
   exact ne_own_map h.waits h1 _ e.symm rfl
 ·exact (Below.heap_setCell w2 _ _ _ (fun e => hn (.inl e))).trans (hf i hi (fun e => hn (.inr (.inr (.inl e.symm)))))
 ·rintro i (rfl | rfl | hi | hi)
  ·exact .inl (.inl rfl)
  ·exact .inl (.inr (.inl rfl))
  ·have : i = g := by
    have : v.ownBlock = some i := hi
    rw [hv] at this
    exact (Option.some.inj this).symm
   subst this
   exact hgg.imp (fun e => .inr (.inr (.inl e))) id
  ·exact .inl (.inr (.inr (.inr hi)))

set_option maxRecDepth 100000 in
set_option maxHeartbeats 4000000 in
theorem dput_any (D : DiskP) (x : DiskD) (gd gn gb : Nat) (n : Int) (b : List UInt8) (w : World) (h : DiskAt w D x) (hb : b.length = 512) (hw : x.waits.length ≤ 1000000)
  (cd : w.cell? ⟨gd, 0, none⟩ = some (ptr D.p)) (cn : w.cell? ⟨gn, 0, none⟩ = some (.int .i64 n)) (rb : w.rangeAt gb 0 (b.map vu8)) (nd : ¬ D.has gd) (nn : ¬ D.has gn) (nb : ¬ D.has gb) :
  Calls Tryz.prog 100 #[.pointer (some ⟨gd, 0, none⟩), .pointer (some ⟨gn, 0, none⟩), .pointer (some ⟨gb, 0, none⟩)] w fun e w' =>
  e = .returned (.tuple #[]) ∧ ∃ D', DiskAt w' D' (x.put n b) ∧ DStep D D' w w' := by
 obtain ⟨i0, z0, hi0, hz0, hz1, hz2, hz3⟩ := info_wait
 have c2 := h.blk.cell_is 2 rfl
 have f2 := h.blk.frozen 2
 have hsz := size_sector
 have hus := Tryz.underlying111
 have hlen : (b.map vu8).length = 512 := by simpa using hb
 rw [← hlen] at hsz
 have hone := sector_one b
 have H := Lib.hid h
 have ld := World.block_lt_of_cell? w _ cd
 have ln := World.block_lt_of_cell? w _ cn
 have lb := range_lt rb (by intro e; rw [e] at hlen; cases hlen)
 have wlen : (WaitD.cells ⟨n, b⟩).toArray.size = 513 := by simpa using WaitD.len ⟨n, b⟩ hb
 have wlen2 : (WaitD.cells ⟨n, b⟩).length = 1 * 513 := WaitD.len ⟨n, b⟩ hb
 obtain ⟨W, eW⟩ : ∃ W, W = w.drew.alloc (.cells (WaitD.cells ⟨n, b⟩).toArray 161) := ⟨_, rfl⟩
 have hbW : Below w.heap.size w W := by rw [eW]; exact (Below.refl _ w).drew.alloc (Nat.le_refl _) _
 have HW := Lib.hid (ownsRow_out (F := fun _ => False) (outB hbW) h.waits (fun _ _ => id))
 have hfar : ∀ w2, W.grownBy w2 D.wv.ownBlock → ∀ i, i < w.heap.size → some i ≠ D.wv.ownBlock → w2.heap[i]? = w.heap[i]? := fun w2 hg i hi hn => (hg.block i (by have := hbW.size; omega) hn).trans (hbW.block i hi)
 have no : ∀ i, ¬ D.has i → some i ≠ D.wv.ownBlock := fun i hi e => hi (.inr (.inr (.inl e.symm)))
 have np : ∀ i, ¬ D.has i → i ≠ D.p := fun i hi e => hi (.inl e)
 obtain ⟨np1, np2, np3⟩ := h.ne
 have HF := Lib.hid (fun (w2 : World) (v : Value) g cap (hv : v = .slice (some ⟨g, 0, none⟩) (x.waits.length + 1) cap) (hg : W.grownBy w2 D.wv.ownBlock) =>
  And.intro ((World.cell?_of_block (a := ⟨D.p, 2, none⟩) (hfar w2 hg D.p h.blk.lt (fun e => np2 _ e.symm rfl))).trans c2) ((World.frozen?_of_block (a := ⟨D.p, 2, none⟩) (hfar w2 hg D.p h.blk.lt (fun e => np2 _ e.symm rfl))).trans f2))
 have HS := Lib.hid (fun (w2 : World) (hg : W.grownBy w2 D.wv.ownBlock) =>
  And.intro ((World.cell?_of_block (a := ⟨gd, 0, none⟩) (hfar w2 hg gd ld (no gd nd))).trans cd) (And.intro ((World.cell?_of_block (a := ⟨gn, 0, none⟩) (hfar w2 hg gn ln (no gn nn))).trans cn)
   (fun j u hj => (World.cell?_of_block (a := ⟨gb, 0 + j, none⟩) (hfar w2 hg gb lb (no gb nb))).trans (rb j u hj) : w2.rangeAt gb 0 (b.map vu8))))
 have HT := Lib.hid (fun (w2 : World) (hg : W.grownBy w2 D.wv.ownBlock) (v : Value) =>
  And.intro ((World.cell?_setCell_far w2 ⟨D.p, 2, none⟩ ⟨gd, 0, none⟩ v (np gd nd).symm).trans (HS.out w2 hg).1) (And.intro ((World.cell?_setCell_far w2 ⟨D.p, 2, none⟩ ⟨gn, 0, none⟩ v (np gn nn).symm).trans (HS.out w2 hg).2.1)
   (fun j u hj => (World.cell?_setCell_far w2 ⟨D.p, 2, none⟩ ⟨gb, 0 + j, none⟩ v (np gb nb).symm).trans ((HS.out w2 hg).2.2 j u hj) : (w2.setCell ⟨D.p, 2, none⟩ v).rangeAt gb 0 (b.map vu8))))
 have HP := Lib.hid (fun (w2 : World) g cap (hO : w2.ownsRow 0 161 513 (.slice (some ⟨g, 0, none⟩) (x.waits.length + 1) cap) (x.waits.length + 1) (waitCells x.waits ++ WaitD.cells ⟨n, b⟩)) (hg : W.grownBy w2 D.wv.ownBlock) (hat : D.wv.ownBlock = some g ∨ g = w.heap.size + 1) =>
  put_at h hbW hg rfl (hat.imp id (fun e => by omega)) hO)
 have c2w := (World.cell?_alloc_lt w (.cells (WaitD.cells ⟨n, b⟩).toArray 161) ⟨D.p, 2, none⟩ h.blk.lt).trans c2
 clear hbW hfar
 subst eW
 unfold ptr at *
 clear h
 go_enter Tryz.func100, Tryz.ntmps100
 go_upto_region 0 with fail
 refine wp_region_held_drew (S := (fun w' => w'.cell? ⟨gd, 0, none⟩ = some (Value.pointer (some ⟨D.p, 0, none⟩)) ∧ w'.cell? ⟨gn, 0, none⟩ = some (.int .i64 n) ∧ w'.rangeAt gb 0 (b.map vu8))) (by kernel_rfl) (by (try dsimp only); (exact ⟨cd, cn, rb⟩)) (fun hHeld => ?_)
 refine tk 0 ?_
 refine tk 1 ?_
 refine tk 2 ?_
 refine tk 3 ?_
 refine tk 5 ?_
 refine ty 6 rfl (yieldsIf_load_mid (by rfl) 111 _ rfl gb 0 rfl (b.map vu8) _ (fun w' h => h.2.2) hus rfl hsz) ?_
 refine ty 7 rfl (yieldsIf_build (by rfl) 161 _ rfl (WaitD.cells ⟨n, b⟩).toArray (by exact wait_built n b hb)) ?_

 refine wpAnyH_ready (rs := [4, 8]) (by kernel_rfl) (by simp) ?_
 refine AllReadyH.cons rfl (fun K hK => ?_) (AllReadyH.cons rfl (fun K hK => ?_) AllReadyH.nil)
 ·go_simp
  refine hK.out _ _ ⟨cd, cn, rb⟩ (fun hHeld => ?_)
  clear hK K
  try simp only [Act.put, pz0, pz1, pz2, pz3, pz4, pz5]
  refine rd 8 fun K hK => ?_
  rw [if_pos (by rfl)]
  refine wp_buildSliceL 149 161 1 _ rfl (WaitD.cells ⟨n, b⟩).toArray i0 z0 Tryz.underlying149 hi0 hz0 (by rw [hz1]; decide) (by rw [hz1]; decide) (by exact wait_row _ wlen i0 z0 hz1 hz3) ?_
  refine hK.out _ _ ⟨(World.cell?_alloc_lt _ _ _ ld).trans cd, (World.cell?_alloc_lt _ _ _ ln).trans cn, fun j v hj => (World.cell?_alloc_lt _ _ _ lb).trans (rb j v hj)⟩ (fun hHeld => ?_)
  clear hK K
  try simp only [Act.put, pz0, pz1, pz2, pz3, pz4, pz5]
  refine rd 9 fun K hK => ?_
  rw [if_pos (by rfl)]
  refine wp_append_lies _ (.tmp 7) (.tmp 11) 149 rfl 0 161 i0 z0 513 520 Tryz.underlying149 hi0 hz0 hz1 hz2 hz3 (by omega) D.wv x.waits.length (waitCells x.waits) rfl HW.out ⟨w.drew.heap.size, 0, none⟩ 1 1 (WaitD.cells ⟨n, b⟩) rfl wlen2 (World.news_of_block (cs := (WaitD.cells ⟨n, b⟩).toArray) (t := 161) (fr := (0, 0)) (heap_alloc_new w.drew _)) (wait_one ⟨n, b⟩)
   (by omega) (by unfold maxLen; omega) (by omega) (Nat.zero_le _) (w.heap.size + 1) (size_alloc _ _) ?_
  intro g cap w2 hO2 hg2 hat2 hlt2
  obtain ⟨e1, e2⟩ := HF.out w2 _ g cap rfl hg2
  refine hK.out _ _ (HS.out w2 hg2) (fun hHeld => ?_)
  clear hK K
  try simp only [Act.put, pz0, pz1, pz2, pz3, pz4, pz5]
  refine tk 10 ?_
  refine tk 11 ?_
  refine rd 12 fun K hK => ?_
  go_simp
  refine hK.out _ _ (HT.out w2 hg2 _) (fun hHeld => ?_)
  clear hK K
  try simp only [Act.put, pz0, pz1, pz2, pz3, pz4, pz5]
  refine wpAnyH_done (by kernel_rfl) ?_ _
  exact bodyPost_end (v := .tuple #[]) (by simp [results, Tryz.results100, go_sem]) rfl ⟨rfl, _, HP.out w2 g cap hO2 hg2 hat2⟩
 ·rw [if_pos (by rfl)]
  refine wp_buildSliceL 149 161 1 _ rfl (WaitD.cells ⟨n, b⟩).toArray i0 z0 Tryz.underlying149 hi0 hz0 (by rw [hz1]; decide) (by rw [hz1]; decide) (by exact wait_row _ wlen i0 z0 hz1 hz3) ?_
  refine hK.out _ _ ⟨(World.cell?_alloc_lt _ _ _ ld).trans cd, (World.cell?_alloc_lt _ _ _ ln).trans cn, fun j v hj => (World.cell?_alloc_lt _ _ _ lb).trans (rb j v hj)⟩ (fun hHeld => ?_)
  clear hK K
  try simp only [Act.put, pz0, pz1, pz2, pz3, pz4, pz5]
  refine rd 4 fun K hK => ?_
  go_simp
  refine hK.out _ _ hHeld (fun hHeld => ?_)
  clear hK K
  try simp only [Act.put, pz0, pz1, pz2, pz3, pz4, pz5]
  refine rd 9 fun K hK => ?_
  rw [if_pos (by rfl)]
  refine wp_append_lies _ (.tmp 7) (.tmp 11) 149 rfl 0 161 i0 z0 513 520 Tryz.underlying149 hi0 hz0 hz1 hz2 hz3 (by omega) D.wv x.waits.length (waitCells x.waits) rfl HW.out ⟨w.drew.heap.size, 0, none⟩ 1 1 (WaitD.cells ⟨n, b⟩) rfl wlen2 (World.news_of_block (cs := (WaitD.cells ⟨n, b⟩).toArray) (t := 161) (fr := (0, 0)) (heap_alloc_new w.drew _)) (wait_one ⟨n, b⟩)
   (by omega) (by unfold maxLen; omega) (by omega) (Nat.zero_le _) (w.heap.size + 1) (size_alloc _ _) ?_
  intro g cap w2 hO2 hg2 hat2 hlt2
  obtain ⟨e1, e2⟩ := HF.out w2 _ g cap rfl hg2
  refine hK.out _ _ (HS.out w2 hg2) (fun hHeld => ?_)
  clear hK K
  try simp only [Act.put, pz0, pz1, pz2, pz3, pz4, pz5]
  refine tk 10 ?_
  refine tk 11 ?_
  refine rd 12 fun K hK => ?_
  go_simp
  refine hK.out _ _ (HT.out w2 hg2 _) (fun hHeld => ?_)
  clear hK K
  try simp only [Act.put, pz0, pz1, pz2, pz3, pz4, pz5]
  refine wpAnyH_done (by kernel_rfl) ?_ _
  exact bodyPost_end (v := .tuple #[]) (by simp [results, Tryz.results100, go_sem]) rfl ⟨rfl, _, HP.out w2 g cap hO2 hg2 hat2⟩
end Go.Proofs.YtdpniceapmikpaaGreat
namespace Go.Proofs.YtdpniceapmikpaaGreat
open Go.RowKit

theorem callFunc_is {P : Program} {k : Nat} {fn : Func} (hf : P.funcs[k]? = some fn) (hname : (fn.name == "runtime.NumGoroutine") = false) (hb : fn.body.isNone = false) (args : Array Value) (w : World) : (callFunc k args).run P w = .ok (.enter k args) w := by
 have h1 : fn.name ≠ "runtime.NumGoroutine" := by simpa using hname
 have h2 : fn.body ≠ none := by intro h; rw [h] at hb; cases hb
 simp [callFunc, hf, h1, h2, Sem.run]
set_option maxRecDepth 100000 in
set_option maxHeartbeats 4000000 in
theorem dstep_do (k : Nat) (hk : ∀ args w, (callFunc k args).run Tryz.prog w = .ok (.enter k args) w) (p0 p1 p2 : Value) (R : World → Prop) (D : DiskP) (x : DiskD) (n : Int) (w : World) (h : DiskAt w D x) (hx : x.ok) (hn : 0 ≤ n ∧ n < x.size) (hf : ¬ x.steps ∈ x.fails)
  (hdo : ∀ w', DiskAt w' D x.stepped → DStep D D w w' → Calls Tryz.prog k #[p0, p1, p2] w' fun e w'' => e = .returned (.tuple #[]) ∧ R w'') :
  Calls Tryz.prog 83 #[ptr D.p, .int .i64 n, .func (.func k) #[] #[p0, p1, p2]] w fun e w' => e = .returned (.int .i64 0) ∧ R w' := by
 have HR := Lib.hid (dright_yes D x n 0 w h hx hn (by omega))
 have c4 := h.blk.cell_is 4 rfl
 have c3 := h.blk.cell_is 3 rfl
 have f3 := h.blk.frozen 3
 have hlt := h.blk.lt
 have k1 := look_fails h.drew x.steps
 have k2 := look_fails (h.below ((Below.refl _ _).alloc (Nat.le_refl _) (.cells #[] 157))).drew x.steps
 have k3 := look_fails (h.drew.below ((Below.refl _ _).alloc (Nat.le_refl _) (.cells #[] 157))) x.steps
 rw [decide_eq_false hf] at k1 k2 k3
 have HF := Lib.hid (fun o => disk_step_at h o)
 have HD := Lib.hid hdo
 have hs : x.steps ≤ 1000000000000 := hx.2.2.2.2.2.1
 have hs0 : 0 ≤ x.steps := hx.2.2.2.2.1
 unfold ptr at *
 clear h hx hf hdo
 generalize x.steps = s at *
 go_enter Tryz.func83, Tryz.ntmps83
 go_wp2_with fail
 refine HR.out.mono ?_; rintro e w1 ⟨rfl, rfl⟩
 go_upto_region 4 with fail
 go_region
 all_goals
  go_wp2_with fail
  refine (HD.out _ (HF.out _).1 (HF.out _).2).mono ?_
  rintro e w2 ⟨rfl, hR⟩
  go_wp2_with fail
  go_ret
  exact ⟨rfl, hR⟩

/-- what a step answers -/
def DiskD.err (x : DiskD) (n : Int) : Int := if n < 0 ∨ x.size ≤ n then 4 else if x.steps ∈ x.fails then 120 else 0
def DiskD.write (x : DiskD) (n : Int) (b : List UInt8) : DiskD := if n < 0 ∨ x.size ≤ n then x else if x.steps ∈ x.fails then x.stepped else x.stepped.put n b
theorem has_new {w w' : World} {D : DiskP} {x : DiskD} (h : DiskAt w D x) {i : Nat} (hi : w.heap.size ≤ i) : ¬ D.has i := fun hd => by have := h.has_lt i hd; omega

set_option maxRecDepth 100000 in
set_option maxHeartbeats 4000000 in
theorem dwrite_any (D : DiskP) (x : DiskD) (n : Int) (b : List UInt8) (w : World) (h : DiskAt w D x) (hx : x.ok) (hb : b.length = 512) :
  Calls Tryz.prog 54 #[ptr D.p, .int .i64 n, sectorV b] w fun e w' => e = .returned (.int .i64 (x.err n)) ∧ ∃ D', DiskAt w' D' (x.write n b) ∧ DStep D D' w w' := by
 obtain ⟨W, eW⟩ : ∃ W, W = ((w.alloc (Obj.cells #[Value.pointer (some { block := D.p, off := 0 })] 37)).alloc (Obj.cells #[Value.int IntKind.i64 n] 3)).alloc (Obj.cells (List.map vu8 b).toArray 111) := ⟨_, rfl⟩
 have hbW : Below w.heap.size w W := by rw [eW]; exact (((Below.refl _ w).alloc (Nat.le_refl _) _).alloc (by simp) _).alloc (by simp; omega) _
 have HC : Calls Tryz.prog 83 #[.pointer (some { block := D.p, off := 0 }), .int .i64 n, .func (.func 100) #[] #[.pointer (some ⟨w.heap.size, 0, none⟩), .pointer (some ⟨w.heap.size + 1, 0, none⟩), .pointer (some ⟨w.heap.size + 1 + 1, 0, none⟩)]] W
   fun e w' => e = .returned (.int .i64 (x.err n)) ∧ ∃ D', DiskAt w' D' (x.write n b) ∧ DStep D D' w w' := by
  have hW := h.below hbW
  unfold DiskD.err DiskD.write
  by_cases h1 : n < 0 ∨ x.size ≤ n
  ·rw [if_pos h1, if_pos h1]
   refine (dstep_range D x n _ W hW hx h1).mono ?_
   rintro e w1 ⟨rfl, rfl⟩
   exact ⟨rfl, D, hW, (DStep.refl D W).first hbW h.has_lt⟩
  ·rw [if_neg h1, if_neg h1]
   have h2 : 0 ≤ n ∧ n < x.size := by omega
   by_cases h3 : x.steps ∈ x.fails
   ·rw [if_pos h3, if_pos h3]
    refine (dstep_fails D x n _ W hW hx h2 h3).mono ?_
    rintro e w1 ⟨rfl, ha, hs⟩
    exact ⟨rfl, D, ha, hs.first hbW h.has_lt⟩
   ·rw [if_neg h3, if_neg h3]
    have n0 : ¬ D.has w.heap.size := has_new h (Nat.le_refl _) (w' := w)
    have n1 : ¬ D.has (w.heap.size + 1) := has_new h (by omega) (w' := w)
    have n2 : ¬ D.has (w.heap.size + 1 + 1) := has_new h (by omega) (w' := w)
    have b0 : Blk W w.heap.size 37 #[.pointer (some ⟨D.p, 0, none⟩)] := by rw [eW]; exact ((Blk.new w _ _).alloc _).alloc _
    have b1 : Blk W (w.heap.size + 1) 3 #[.int .i64 n] := by rw [eW]; exact (Blk.new2 w _ _ _).alloc _
    have b2 : Blk W (w.heap.size + 1 + 1) 111 (List.map vu8 b).toArray := by rw [eW]; exact Blk.new' (by simp)
    clear eW
    refine dstep_do _ (callFunc_is Tryz.func100 rfl rfl) _ _ _ (fun w' => ∃ D', DiskAt w' D' (x.stepped.put n b) ∧ DStep D D' w w') D x n W hW hx h2 h3 ?_
    intro w1 ha hs
    refine (dput_any D x.stepped _ _ _ n b w1 ha hb (hx.2.2.2.2.2.2) ((hs.out.blk b0 n0).cell_is 0 rfl) ((hs.out.blk b1 n1).cell_is 0 rfl) (fun j v hj => ?_) n0 n1 n2).mono ?_
    ·refine (hs.out.blk b2 n2).cell_is (0 + j) ?_
     rw [List.getElem?_toArray, Nat.zero_add]
     exact hj
    ·rintro e w2 ⟨rfl, D', ha2, hs2⟩
     exact ⟨rfl, D', ha2, (hs.trans hs2).first hbW h.has_lt⟩
 have HH := Lib.hid HC
 clear HC hbW h
 subst eW
 unfold ptr sectorV at *
 go_enter Tryz.func54, Tryz.ntmps54
 go_wp2_with fail
 refine HH.out.mono ?_
 rintro e w1 ⟨rfl, hR⟩
 go_wp2_with fail
 go_ret
 exact ⟨rfl, hR⟩
end Go.Proofs.YtdpniceapmikpaaGreat
namespace Go.Proofs.YtdpniceapmikpaaGreat
open Go.RowKit Go.Shelf

attribute [local go_sem] Oper.semAt_some

def WaitsIn (w : World) (B : Nat) (v : Value) (ws : List WaitD) : Prop := ws.length ≤ 1000000 ∧ (∀ y ∈ ws, y.b.length = 512) ∧ ∃ a cap, v = .slice a ws.length cap ∧ ∀ i y, ws[i]? = some y → ∃ g, a = some ⟨g, 0, none⟩ ∧ g < B ∧ w.rangeAt g (i * 513) y.cells
theorem WaitsIn.below {w w' : World} {B B' : Nat} {v : Value} {ws : List WaitD} (h : WaitsIn w B v ws) (hb : Below B' w w') (hB : B ≤ B') : WaitsIn w' B v ws := by
 obtain ⟨h0, h1, a, cap, e, h2⟩ := h
 refine ⟨h0, h1, a, cap, e, fun i y hi => ?_⟩
 obtain ⟨g, e2, hg, hr⟩ := h2 i y hi
 exact ⟨g, e2, hg, fun j u hj => (hb.cell (p := ⟨g, i * 513 + j, none⟩) (by show g < B'; omega)).trans (hr j u hj)⟩
theorem WaitsIn.more {w : World} {B B' : Nat} {v : Value} {ws : List WaitD} (h : WaitsIn w B v ws) (hB : B ≤ B') : WaitsIn w B' v ws := by
 obtain ⟨h0, h1, a, cap, e, h2⟩ := h
 refine ⟨h0, h1, a, cap, e, fun i y hi => ?_⟩
 obtain ⟨g, e2, hg, hr⟩ := h2 i y hi
 exact ⟨g, e2, by omega, hr⟩
theorem waitCells_at : ∀ (ws : List WaitD), (∀ y ∈ ws, y.b.length = 512) → ∀ (i : Nat) (y : WaitD), ws[i]? = some y → ∀ j u, y.cells[j]? = some u → (waitCells ws)[i * 513 + j]? = some u
 | [], _, i, y, h, _, _, _ => by cases h
 | z :: ws, hws, 0, y, h, j, u, hj => by
  obtain rfl : z = y := by simpa using h
  show (z.cells ++ waitCells ws)[0 * 513 + j]? = some u
  rw [Nat.zero_mul, Nat.zero_add, List.getElem?_append_left (List.getElem?_eq_some_iff.1 hj).1]
  exact hj
 | z :: ws, hws, i + 1, y, h, j, u, hj => by
  have hz := WaitD.len z (hws z List.mem_cons_self)
  show (z.cells ++ waitCells ws)[(i + 1) * 513 + j]? = some u
  rw [List.getElem?_append_right (by omega), hz, show (i + 1) * 513 + j - 513 = i * 513 + j by omega]
  exact waitCells_at ws (fun y hy => hws y (List.mem_cons_of_mem _ hy)) i y (by simpa using h) j u hj
/-- the lengths are right -/
def DiskD.sound (x : DiskD) : Prop := (∀ n, (x.lasts n).length = 512) ∧ (∀ y ∈ x.waits, y.b.length = 512) ∧ x.waits.length ≤ 1000000
theorem DiskD.ok.sound {x : DiskD} (hx : x.ok) : x.sound := ⟨hx.2.2.1, hx.2.2.2.1, hx.2.2.2.2.2.2⟩
theorem DiskAt.waitsIn {w : World} {D : DiskP} {x : DiskD} (h : DiskAt w D x) (hx : x.sound) : WaitsIn w w.heap.size D.wv x.waits := by
 refine ⟨hx.2.2, hx.2.1, ?_⟩
 rcases h.waits.2 with ⟨e, h0⟩ | ⟨g, cap, cur, e, _, hg, h1, h2, h3, h4⟩
 ·have : x.waits = [] := List.eq_nil_of_length_eq_zero h0
  rw [this]
  exact ⟨none, 0, e, fun i y hi => by cases hi⟩
 ·refine ⟨some ⟨g, 0, none⟩, cap, e, fun i y hi => ⟨g, rfl, lt_of_block hg, fun j u hj => ?_⟩⟩
  have hc := waitCells_at x.waits hx.2.1 i y hi j u hj
  rw [cell_of_row w g _ cur _ _ hg, ← Array.getElem?_toList]
  rw [← h4, List.getElem?_take] at hc
  split at hc
  ·exact hc
  ·cases hc

theorem size_wait : (Tryz.prog.info? 161).map (·.size) = some 513 := by kernel_rfl
theorem wpIn_load_is {F : Fence} {n : Nat} {P : Program} {o : Oper} {a : Act} {K : Act → World → Prop} {Q : Exit → Act → World → Prop} (w : World) (ty : TypeId) (x : Operand) (ho : o.op = .load ty x) (p v : Value) (hx : a.eval x = p)
  (hl : (Instr.loadAt ty p).run P w = .ok v w) (h : K (a.put o.dst v) w) : o.wpIn F n P a w K Q := by
 unfold Oper.wpIn
 refine ⟨by simp [Oper.about, ho], ?_⟩
 rw [Oper.semAt_plain F _ _ (by rw [ho]; intro c hc'; cases hc')]
 unfold execOp
 simp only [ho, hx, hl, Sem.run_bind, Sem.run_pure, Result.andThen_ok]
 exact h
/-- a write that waits, whose sector is one -/
abbrev WaitS := { y : WaitD // y.b.length = 512 }
theorem waitS_of : ∀ (ws : List WaitD), (∀ y ∈ ws, y.b.length = 512) → ∃ l : List WaitS, ws = l.map (·.1)
 | [], _ => ⟨[], rfl⟩
 | y :: ws, h => by
  obtain ⟨l, e⟩ := waitS_of ws (fun z hz => h z (List.mem_cons_of_mem _ hz))
  exact ⟨⟨y, h y List.mem_cons_self⟩ :: l, congrArg (y :: ·) e⟩
def backL (ws : List WaitS) : List (WaitS × Nat) := ws.zipIdx.reverse
def vb (x : WaitS × Nat) : Array Value := #[.int .i64 x.2, .agg x.1.1.cells.toArray]
theorem backL_len (ws : List WaitS) : (backL ws).length = ws.length := by simp [backL]
theorem backL_at (ws : List WaitS) (k : Nat) (hk : k < ws.length) : (backL ws)[ws.length - (k + 1)]? = some (ws[k]'hk, k) := by
 unfold backL
 rw [List.getElem?_reverse (by simp; omega)]
 simp only [List.length_zipIdx]
 rw [show ws.length - 1 - (ws.length - (k + 1)) = k by omega, List.getElem?_zipIdx]
 simp [hk]
theorem backL_take (ws : List WaitS) (k : Nat) (hk : k < ws.length) : (backL ws).take (ws.length - k) = (backL ws).take (ws.length - (k + 1)) ++ [(ws[k]'hk, k)] := by
 rw [show ws.length - k = ws.length - (k + 1) + 1 by omega, List.take_add_one, backL_at ws k hk]
 rfl

set_option maxRecDepth 100000 in
set_option maxHeartbeats 2000000 in
theorem back1_in (F : Fence) (n : Nat) (h7 : F.fn 148) (hro : F.round = none) (hn : 1 ≤ n) (l Bs n₀ : Nat) (v : Value) (ws : List WaitS) (J Jx : List (WaitS × Nat) → World → Prop)
  (hY : ∀ pre x W, J pre W → pre.length < ws.length → YieldAt F (n - 1) Tryz.prog l (vb x) W fun e W' =>
   (e = .returned (.bool true) ∧ J (pre ++ [x]) W' ∧ Below n₀ W W') ∨ (e = .returned (.bool false) ∧ Jx (pre ++ [x]) W'))
  (W : World) (hBs : W.cell? ⟨Bs, 0, none⟩ = some v) (hBn : Bs < n₀) (hv : WaitsIn W n₀ v (ws.map (·.1))) (h0 : J [] W) :
  CallsIn F n Tryz.prog 148 #[.func (.yield l) #[] #[], .pointer (some ⟨Bs, 0, none⟩)] W fun e W' => (∃ v, e = .returned v) ∧
   ((∃ ys, ys = backL ws ∧ J ys W') ∨ (∃ pre, pre <+: backL ws ∧ Jx pre W')) := by
 obtain ⟨hmax, hws, a, cap, ev, hc⟩ := hv
 rw [List.length_map] at hmax ev
 subst ev
 refine callsIn_of_wp Tryz.func148 rfl h7 ?_ hro
 simp only [Tryz.ntmps148, List.size_toArray, List.length_cons, List.length_nil, Nat.reduceAdd, Nat.reduceSub, Array.replicate_succ, Array.replicate_zero, List.push_toArray, List.append_toArray, List.nil_append, List.cons_append]
 have hsub : IntKind.i64.wrap ((ws.length : Int) - 1) = (ws.length : Int) - 1 := by rw [IntKind.wrap_i64]; omega
 gi_wp2
 gi_loopw [3] (fun i wr => ∃ k : Nat, k ≤ ws.length ∧ i = .int .i64 ((k : Int) - 1) ∧ J ((backL ws).take (ws.length - k)) wr ∧ Below n₀ W wr)
  (fun i _ => ((intOf i) + 1).toNat)
 case atStart => exact ⟨ws.length, Nat.le_refl _, rfl, by rw [Nat.sub_self]; exact h0, Below.refl _ _⟩
 case round =>
  obtain ⟨k, hk, rfl, hJs, hnx⟩ := hrel
  have hBs' := (hnx.cell (p := ⟨Bs, 0, none⟩) hBn).trans hBs
  cases k with
  | zero =>
   rw [show ws.length - 0 = (backL ws).length by rw [backL_len]; rfl, List.take_length] at hJs
   have hneg : ¬ (0 : Int) ≤ ((0 : Nat) : Int) - 1 := by omega
   gi_wp2
   go_end0
   exact ⟨⟨_, rfl⟩, .inl hJs⟩
  | succ k =>
   have hlt : k < ws.length := by omega
   obtain ⟨g, rfl, hg, hrg⟩ := hc k (ws[k]'hlt).1 (by rw [List.getElem?_map, List.getElem?_eq_getElem hlt]; rfl)
   have e1 : (((k + 1 : Nat) : Int) - 1) = (k : Int) := by omega
   rw [e1]
   have hpos : (0 : Int) ≤ (k : Int) := by omega
   have hlt' : (k : Int) < (ws.length : Int) := by omega
   have hsub2 : IntKind.i64.wrap ((k : Int) - 1) = (k : Int) - 1 := by rw [IntKind.wrap_i64]; omega
   have hlen1 : ((backL ws).take (ws.length - (k + 1))).length < ws.length := by rw [List.length_take, backL_len]; omega
   obtain ⟨fn, tmps, assign, body, hy, hR⟩ := hY _ (ws[k]'hlt, k) wr hJs hlen1
   have hld := run_loadAt_mid (P := Tryz.prog) wr g (k * 513) 161 (ws[k]'hlt).1.cells _ (fun j u hj => (hnx.cell (p := ⟨g, k * 513 + j, none⟩) hg).trans (hrg j u hj)) Tryz.underlying161 rfl (by rw [WaitD.len _ (ws[k]'hlt).2]; exact size_wait)
   have hLT := backL_take ws k hlt
   generalize ws[k]'hlt = y at *
   simp only [vb] at hy
   gi_wp2_with (refine wpIn_load_is _ 161 _ rfl _ _ rfl hld ?_)
   refine hR.mono ?_
   rintro e W3 (⟨rfl, hJ3, hk3⟩ | ⟨rfl, hJx3⟩)
   ·gi_wp2
    go_roundw
    case rel => exact ⟨k, by omega, rfl, by rw [hLT]; exact hJ3, hnx.trans hk3⟩
    case measure => simp [intOf]
   ·gi_wp2
    refine bodyPost_ret (results_none rfl _ _ _) rfl ?_
    exact ⟨⟨_, rfl⟩, (.inr ⟨_, by rw [← hLT]; exact List.take_prefix _ _, hJx3⟩)⟩

set_option maxHeartbeats 1000000 in
theorem back_in (F : Fence) (n : Nat) (h5 : F.fn 126) (hro : F.round = none) (a : Option Addr) (len cap : Nat) (w : World) :
  CallsIn F n Tryz.prog 126 #[.slice a len cap] w fun e w' => e = .returned (.func (.func 148) #[] #[.pointer (some ⟨w.heap.size, 0, none⟩)]) ∧ w' = w.alloc (.cells #[.slice a len cap] 149) := by
 refine callsIn_of_wp Tryz.func126 rfl h5 ?_ hro
 simp only [Tryz.ntmps126, List.size_toArray, List.length_cons, List.length_nil, Nat.reduceAdd, Nat.reduceSub, Array.replicate_succ, Array.replicate_zero, List.push_toArray, List.append_toArray, List.nil_append, List.cons_append]
 gi_wp2
 go_ret
 exact ⟨rfl, rfl⟩

theorem back_stops (F : Fence) (n : Nat) (h7 : F.fn 148) (hro : F.round = none) (hn : 1 ≤ n) (Bs n₀ : Nat) (v : Value) (ws : List WaitS) (w : World) (hBs : Bs < w.heap.size) (hBn : Bs < n₀) (hn₀ : n₀ ≤ w.heap.size)
  (hc : w.cell? ⟨Bs, 0, none⟩ = some v) (hv : WaitsIn w n₀ v (ws.map (·.1))) :
  SeqStopsK F n Tryz.prog 148 #[.pointer (some ⟨Bs, 0, none⟩)] vb (Below n₀) (fun ys => ys = backL ws) (fun pre => pre <+: backL ws) ws.length w := fun l J Jx W hW _ _ hY h0 =>
 back1_in F n h7 hro hn l Bs n₀ v ws J Jx hY W ((hW.cell (p := ⟨Bs, 0, none⟩) hBs).trans hc) hBn (hv.below hW hn₀) h0
end Go.Proofs.YtdpniceapmikpaaGreat
