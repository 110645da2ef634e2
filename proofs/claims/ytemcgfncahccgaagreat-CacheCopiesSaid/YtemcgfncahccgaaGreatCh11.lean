/-
  Spoil: bits of a byte are turned. (Written by gen_lspoil.py.)
  The contract of logs.Check. (Written by gen_lchk.py.)
  The contract of logs.Check.
  asked, at.
  A list of bytes that grows: number.
  The contract of codec's writer.number. (Written by gen_lwnum.py.)
  The contracts of codec.fields and writer.key. (Written by gen_lwkey.py.)
  copy of bytes to a sector; head.sector. (Written by gen_lhead.py.)
  The contract of codec.Put. (Written by gen_lcput.py.)
  slices.Chunk of bytes, by 512.
  A range over an iterator that has loops over iterators of its own: the law, for all loops of a function outside a round, at the wide fence.
  logs.parts: the sectors of a state.
  must, read, take: what logs.Read is made of.
-/
import Derived.Deep.RegionHeld3
import Derived.Laws.CopyRow
import Derived.Lib.SlBuf
import Derived.Test.YtemcgfncahccgaaGreatCh1
import Derived.Test.YtemcgfncahccgaaGreatCh3
import Derived.Test.YtemcgfncahccgaaGreatCh5
import Derived.Test.YtemcgfncahccgaaGreatCh6
import Derived.Test.YtemcgfncahccgaaGreatCh8
import Derived.Test.YtemcgfncahccgaaGreatCh10
set_option linter.unusedVariables false
set_option linter.unusedSimpArgs false
namespace Go.Proofs.YtemcgfncahccgaaGreat
open Go.RowKit

theorem ofInt_u8 (n : Nat) : BitVec.ofInt 8 (n : Int) = BitVec.ofNat 8 n := by rw [BitVec.ofInt_natCast]
theorem xor_u8 (x y : UInt8) : bits .xor .u8 (x.toNat : Int) (y.toNat : Int) = ((x ^^^ y).toNat : Int) := by
 show IntKind.u8.wrap ((BitVec.ofInt 8 (x.toNat : Int) ^^^ BitVec.ofInt 8 (y.toNat : Int)).toNat : Int) = _
 rw [ofInt_u8, ofInt_u8, IntKind.wrap_u8', UInt8.toNat_xor, BitVec.toNat_xor, BitVec.toNat_ofNat, BitVec.toNat_ofNat, Nat.mod_eq_of_lt (UInt8.toNat_lt x), Nat.mod_eq_of_lt (UInt8.toNat_lt y)]
 have h := UInt8.toNat_lt (x ^^^ y)
 rw [UInt8.toNat_xor] at h
 omega
/-- bits of a byte are turned -/
def flipL (b : List UInt8) (o : Nat) (c : UInt8) : List UInt8 := b.set o (b.getD o 0 ^^^ c)
theorem flipL_len (b : List UInt8) (o : Nat) (c : UInt8) : (flipL b o c).length = b.length := by simp [flipL]
def flipW (n : Int) (o : Nat) (c : UInt8) (y : WaitD) : WaitD := if y.n = n then ⟨y.n, flipL y.b o c⟩ else y
def DiskD.spoilK (x : DiskD) (n : Int) (o : Nat) (c : UInt8) (k : Nat) : DiskD := { x with lasts := fun m => if m = n then flipL (x.lasts n) o c else x.lasts m, waits := (x.waits.take k).map (flipW n o c) ++ x.waits.drop k }
def DiskD.spoil (x : DiskD) (n : Int) (o : Nat) (c : UInt8) : DiskD := { x with lasts := fun m => if m = n then flipL (x.lasts n) o c else x.lasts m, waits := x.waits.map (flipW n o c) }
theorem flip_at (b : List UInt8) (o : Nat) (c : UInt8) (ho : o < b.length) : b[o]? = some (b.getD o 0) := by
 rw [List.getElem?_eq_getElem ho, List.getD_eq_getElem?_getD, List.getElem?_eq_getElem ho]; rfl
theorem flip_cells (b : List UInt8) (o : Nat) (c : UInt8) : ((flipL b o c).map vu8) = (b.map vu8).set o (vu8 (b.getD o 0 ^^^ c)) := by simp [flipL, List.map_set]
theorem waitCells_append (A B : List WaitD) : waitCells (A ++ B) = waitCells A ++ waitCells B := by simp [waitCells]
theorem waitCells_len : ∀ (A : List WaitD), (∀ y ∈ A, y.b.length = 512) → (waitCells A).length = A.length * 513
 | [], _ => rfl
 | y :: A, h => by
  have := waitCells_len A (fun z hz => h z (List.mem_cons_of_mem _ hz))
  have h2 := WaitD.len y (h y List.mem_cons_self)
  show (y.cells ++ waitCells A).length = (A.length + 1) * 513
  rw [List.length_append, this, h2]
  omega
theorem waitCells_set (A R : List WaitD) (hA : ∀ y ∈ A, y.b.length = 512) (y y' : WaitD) (j : Nat) (u : Value) (hj : j < y.cells.length) (e : y'.cells = y.cells.set j u) : (waitCells (A ++ y :: R)).set (A.length * 513 + j) u = waitCells (A ++ y' :: R) := by
 rw [waitCells_append, waitCells_append, ← waitCells_len A hA]
 rw [List.set_append_right _ _ (by omega), show (waitCells A).length + j - (waitCells A).length = j by omega]
 congr 1
 show (y.cells ++ waitCells R).set j u = y'.cells ++ waitCells R
 rw [List.set_append_left _ _ hj, e]
theorem ownsRow_set {w : World} {B k : Nat} {e : TypeId} {n g cap : Nat} {xs : List Value} (h : w.ownsRow B e k (.slice (some ⟨g, 0, none⟩) n cap) n xs) (j : Nat) (u : Value) (hj : j < xs.length) : (w.setCell ⟨g, j, none⟩ u).ownsRow B e k (.slice (some ⟨g, 0, none⟩) n cap) n (xs.set j u) := by
 rcases h.2 with ⟨h0, _⟩ | ⟨g', cap', cur, h0, hB, hg, h1, h2, h3, h4⟩
 ·cases h0
 ·cases h0
  refine ⟨by rw [List.length_set]; exact h.1, .inr ⟨g, cap, cur.setIfInBounds j u, rfl, hB, ?_, h1, h2, by simpa using h3, ?_⟩⟩
  ·have := Blk.set_ (w := w) (g := g) (t := e) (cs := cur) hg j u
   exact this
  ·rw [← h4]
   apply List.ext_getElem?
   intro i
   rw [List.getElem?_take, List.getElem?_set, List.getElem?_take]
   have hlen : (List.take (n * k) cur.toList).length = xs.length := by rw [h4]
   rw [hlen]
   have hc : cur.toList.length = cap * k := by simpa using h3
   have hxs := h.1
   by_cases hi : i < n * k
   ·simp only [hi, if_true]
    rw [Array.getElem?_toList, Array.getElem?_setIfInBounds]
    by_cases he : j = i
    ·subst he
     have hjc : j < cur.size := by
      have : (List.take (n * k) cur.toList).length ≤ cur.toList.length := by rw [List.length_take]; exact Nat.min_le_right _ _
      rw [hlen] at this
      simp at this
      omega
     simp [hj, hjc]
    ·simp [he]
   ·have : j ≠ i := by omega
    simp [hi, this]
theorem diskWaits_set {w : World} {D : DiskP} {x : DiskD} (h : DiskAt w D x) {g cap : Nat} (ev : D.wv = .slice (some ⟨g, 0, none⟩) x.waits.length cap) (j : Nat) (u : Value) (ws : List WaitD) (hl : ws.length = x.waits.length) (hj : j < (waitCells x.waits).length) (hs : (waitCells x.waits).set j u = waitCells ws) :
  DiskAt (w.setCell ⟨g, j, none⟩ u) D { x with waits := ws } ∧ DStep D D w (w.setCell ⟨g, j, none⟩ u) := by
 have ho : D.wv.ownBlock = some g := by rw [ev]; rfl
 obtain ⟨n1, n2, n3⟩ := h.ne
 refine ⟨⟨h.blk.far (p := ⟨g, j, none⟩) (fun e => n2 g ho e.symm) u, ?_, ?_, ?_, h.apart⟩, ⟨out_set (.inr (.inr (.inl ho))), rfl, fun i hi => .inl hi⟩⟩
 ·obtain ⟨l, hm, hl⟩ := h.lasts
  exact ⟨l, (Below.heap_setCell w _ _ _ (fun e => ne_own_map h.waits hm g ho e.symm)).trans hm, hl⟩
 ·show World.ownsRow _ 0 _ 513 D.wv ws.length (waitCells ws)
  have hw := h.waits
  rw [ev] at hw ⊢
  rw [hl, ← hs]
  exact ownsRow_set hw j u hj
 ·rcases h.fails with hn | ⟨r, k, e, h1, h2⟩
  ·exact .inl hn
  ·exact .inr ⟨r, k, e, (Below.heap_setCell w _ _ _ (fun e => ne_own_map h.waits h1 g ho e.symm)).trans h1, h2⟩
theorem diskLasts_set {w : World} {D : DiskP} {x : DiskD} (h : DiskAt w D x) (n : Int) (b : List UInt8) :
  ∃ w', (Instr.mapUpdate 112 (.map (some D.lm)) (.int .i64 n) (sectorV b)).run Tryz.prog w = .ok () w' ∧ Turn D.lm w w' ∧ DiskAt w' D { x with lasts := fun m => if m = n then b else x.lasts m } ∧ DStep D D w w' := by
 obtain ⟨l, hm, hl⟩ := h.lasts
 obtain ⟨w', l', h1, h2, hnd, h3, h4⟩ := run_insertN (P := Tryz.prog) w Tryz.underlying112 Tryz.underlying3 D.lm l hm hl.1 n (sectorV b)
 obtain ⟨n1, n2, n3⟩ := h.ne
 have ho : Out (fun i => i = D.lm) w w' := ⟨h4.os, h4.tape, h4.output, Nat.le_of_eq h4.size.symm, fun i _ hi => h4.block i hi⟩
 refine ⟨w', h1, h4, ⟨ho.blk h.blk (fun e => n1 e.symm), ⟨l', h2, hnd, fun m => ?_⟩, ownsRow_out ho h.waits (fun i hi => ne_own_map h.waits hm i hi), ?_, h.apart⟩, ⟨⟨ho.os, ho.tape, ho.output, ho.size, fun i hi hn => ho.block i hi (fun e => hn (.inr (.inl e)))⟩, rfl, fun i hi => .inl hi⟩⟩
 ·rw [h3 m]
  by_cases e : m = n
  ·simp only [if_pos e]; exact .inl ⟨_, rfl, rfl⟩
  ·simp only [if_neg e]; exact hl.2 m
 ·rcases h.fails with hn | ⟨r, k, e, h1, h2⟩
  ·exact .inl hn
  ·refine .inr ⟨r, k, e, ?_, h2⟩
   by_cases hr : r = D.lm
   ·exact absurd (by rw [e, hr]) h.apart
   ·exact (h4.block r hr).trans h1
theorem wp_mapUpdate_is {P : Program} {o : Oper} {a : Act} {K : Act → World → Prop} {Q : Exit → Act → World → Prop} (w w' : World) (t : TypeId) (m k v : Operand) (ho : o.op = .mapUpdate t m k v) (mv kv vv : Value) (hm : a.eval m = mv) (hk : a.eval k = kv) (hv : a.eval v = vv)
  (hr : (Instr.mapUpdate t mv kv vv).run P w = .ok () w') (h : K (a.put o.dst undef) w') : o.wp P a w K Q := by
 unfold Oper.wp execOp
 simp only [ho, hm, hk, hv, hr, Sem.run_bind, Sem.run_pure, Result.andThen_ok]
 exact h
theorem flip_val (b : List UInt8) (o : Nat) (c : UInt8) (ho : o < b.length) : ((b.map vu8).set o (.int .u8 (bits .xor .u8 ((b[o]'ho).toNat : Int) (c.toNat : Int)))).toArray = ((flipL b o c).map vu8).toArray := by
 rw [flip_cells, xor_u8]
 have e : b.getD o 0 = b[o]'ho := by rw [List.getD_eq_getElem?_getD, List.getElem?_eq_getElem ho]; rfl
 rw [e]
theorem spoilK_at (x : DiskD) (n : Int) (o : Nat) (c : UInt8) (k : Nat) (hk : k < x.waits.length) : (x.spoilK n o c k).waits = (x.waits.take k).map (flipW n o c) ++ (x.waits[k]'hk) :: x.waits.drop (k + 1) := by
 show (x.waits.take k).map (flipW n o c) ++ x.waits.drop k = _
 rw [List.drop_eq_getElem_cons hk]
theorem spoilK_next (x : DiskD) (n : Int) (o : Nat) (c : UInt8) (k : Nat) (hk : k < x.waits.length) : (x.spoilK n o c (k + 1)).waits = (x.waits.take k).map (flipW n o c) ++ flipW n o c (x.waits[k]'hk) :: x.waits.drop (k + 1) := by
 show (x.waits.take (k + 1)).map (flipW n o c) ++ x.waits.drop (k + 1) = _
 have e : x.waits.take (k + 1) = x.waits.take k ++ [x.waits[k]'hk] := by rw [List.take_add_one, List.getElem?_eq_getElem hk]; rfl
 rw [e, List.map_append, List.append_assoc]
 rfl
theorem ownsRow_frozen {w : World} {B k : Nat} {e : TypeId} {n g cap : Nat} {xs : List Value} (h : w.ownsRow B e k (.slice (some ⟨g, 0, none⟩) n cap) n xs) (j : Nat) : w.frozen? ⟨g, j, none⟩ = false := by
 rcases h.2 with ⟨h0, _⟩ | ⟨g', cap', cur, h0, hB, hg, _⟩
 ·cases h0
 ·cases h0
  exact Blk.frozen (t := e) (cs := cur) hg j
theorem spoilK_len (x : DiskD) (n : Int) (o : Nat) (c : UInt8) (k : Nat) : (x.spoilK n o c k).waits.length = x.waits.length := by
 simp [DiskD.spoilK]; omega
theorem flipW_len (n : Int) (o : Nat) (c : UInt8) (y : WaitD) (hy : y.b.length = 512) : (flipW n o c y).b.length = 512 := by
 unfold flipW; split
 ·rw [flipL_len]; exact hy
 ·exact hy
theorem spoilK_sound (x : DiskD) (hx : x.sound) (n : Int) (o : Nat) (c : UInt8) (k : Nat) : (x.spoilK n o c k).sound := by
 refine ⟨fun m => ?_, fun y hy => ?_, by rw [spoilK_len]; exact hx.2.2⟩
 ·show (if m = n then flipL (x.lasts n) o c else x.lasts m).length = 512
  split
  ·rw [flipL_len]; exact hx.1 n
  ·exact hx.1 m
 ·have hy' : y ∈ (x.waits.take k).map (flipW n o c) ++ x.waits.drop k := hy
  rcases List.mem_append.1 hy' with h | h
  ·obtain ⟨z, hz, rfl⟩ := List.mem_map.1 h
   exact flipW_len n o c z (hx.2.1 z (List.mem_of_mem_take hz))
  ·exact hx.2.1 y (List.mem_of_mem_drop h)
theorem spoilK_all (x : DiskD) (n : Int) (o : Nat) (c : UInt8) : x.spoilK n o c x.waits.length = x.spoil n o c := by
 unfold DiskD.spoilK DiskD.spoil
 rw [List.take_length, List.drop_length, List.append_nil]
theorem spoilK_eq (x : DiskD) (n : Int) (o : Nat) (c : UInt8) (k k' : Nat) (h : (x.spoilK n o c k).waits = (x.spoilK n o c k').waits) : x.spoilK n o c k = x.spoilK n o c k' := by
 have e : (x.waits.take k).map (flipW n o c) ++ x.waits.drop k = (x.waits.take k').map (flipW n o c) ++ x.waits.drop k' := h
 unfold DiskD.spoilK
 rw [e]

set_option maxRecDepth 100000 in
set_option maxHeartbeats 4000000 in
theorem dspoil_any (D : DiskP) (x : DiskD) (n : Int) (o : Nat) (c : UInt8) (w : World) (h : DiskAt w D x) (hx : x.ok) (hn : 0 ≤ n ∧ n < x.size) (ho : o < 512) :
  Calls Tryz.prog 61 #[ptr D.p, .int .i64 n, .int .i64 o, .int .u8 (c.toNat : Int)] w fun e w' => e = .returned (.int .i64 0) ∧ DiskAt w' D (x.spoil n o c) ∧ DStep D D w w' := by
 have HR := Lib.hid (dright_yes D x n o w h hx hn (by omega))
 have c1 := h.blk.cell_is 1 rfl
 have k1 := look_lasts h n
 have hl := hx.2.2.1 n
 have HL := Lib.hid hl
 have hlt := h.blk.lt
 have hoi : (o : Int) < 512 := by omega
 have HH := Lib.hid h
 obtain ⟨hmax, hws, a, cap, ev, hcc⟩ := h.waitsIn hx.sound
 clear hcc
 unfold ptr sectorV at *
 go_enter Tryz.func61, Tryz.ntmps61
 go_wp2_with fail
 refine HR.out.mono ?_; rintro e w1 ⟨rfl, rfl⟩
 go_upto_region 4 with fail
 have hK := Blk.new w 84 Tryz.zeroCells84
 go_wp2_with (first
  | (refine wpList_store_row rfl 84 _ _ rfl w.heap.size ((x.lasts n).map vu8).toArray rfl rfl 84 _ hK (sector_size _ HL.out) (by rw [zero111]; exact sector_eq _ _ List.length_replicate HL.out) (sector_all _) ?_; rw [World.setRow_alloc_new])
  | fail)
 rw [flip_val (x.lasts n) o c (by omega)]
 obtain ⟨W, eW⟩ : ∃ W, W = w.alloc (.cells ((flipL (x.lasts n) o c).map vu8).toArray 84) := ⟨_, rfl⟩
 have hbW : Below w.heap.size w W := by rw [eW]; exact (Below.refl _ w).alloc (Nat.le_refl _) _
 have hG2 : Blk W w.heap.size 84 ((flipL (x.lasts n) o c).map vu8).toArray := by rw [eW]; exact Blk.new _ _ _
 rw [← eW]
 clear eW hK
 have hHW := (HH.out.below hbW).drew
 have c1b := hHW.blk.cell_is 1 rfl
 have hszF : (Tryz.prog.info? 84).map (·.size) = some ((flipL (x.lasts n) o c).map vu8).length := by rw [List.length_map, flipL_len, HL.out]; exact size_sector
 obtain ⟨W2, hrun, hT, hD2, hS2⟩ := diskLasts_set hHW n (flipL (x.lasts n) o c)
 have hS3 : DStep D D w W2 := hS2.first hbW.drew HH.out.has_lt
 have HD2 := Lib.hid hD2
 have HS3 := Lib.hid hS3
 have HHW := Lib.hid hHW
 have hlm : D.lm ≠ w.heap.size := fun e => by have := HH.out.has_lt D.lm (.inr (.inl rfl)); omega
 clear hHW hD2 hS2 hS3 h
 refine wp_region_held_drew (S := (fun w' => w'.cell? ⟨D.p, 1, none⟩ = some (.map (some D.lm)) ∧ Blk w' w.heap.size 84 ((flipL (x.lasts n) o c).map vu8).toArray)) (by kernel_rfl) (by (try dsimp only); (exact ⟨c1b, hG2.drew⟩)) (fun hHeld => ?_)
 refine tk 0 ?_
 refine tk 1 ?_
 refine tk 2 ?_
 refine tk 3 ?_
 refine tk 4 ?_
 refine ty 5 rfl (yieldsIf_load_mid (by rfl) 84 _ rfl w.heap.size 0 rfl ((flipL (x.lasts n) o c).map vu8) _ (fun w' h j v hj => h.2.cell_is (0 + j) (by rw [List.getElem?_toArray, Nat.zero_add]; exact hj)) Tryz.underlying84 rfl hszF) ?_
 refine rd 6 fun K hK => ?_
 rw [if_pos (by rfl)]
 refine wp_mapUpdate_is _ W2 112 _ _ _ rfl _ _ _ rfl rfl rfl hrun ?_
 refine hK.out _ _ ⟨HD2.out.blk.cell_is 1 rfl, (hT.block _ hlm.symm).trans hG2⟩ (fun hHeld => ?_)
 clear hK K
 refine wpAnyH_done (by kernel_rfl) ?_ _
 have c2 := HD2.out.blk.cell_is 2 rfl
 rw [ev] at c2
 try simp only [Act.put, pz0, pz1, pz2, pz3, pz4, pz5]
 go_wp2_with fail
 go_loopw [42] (fun i wr => ∃ k : Nat, k ≤ x.waits.length ∧ i = .int .i64 (k : Int) ∧ DiskAt wr D (x.spoilK n o c k) ∧ DStep D D w wr) (fun i _ => x.waits.length - (intOf i).toNat)
 case atStart => exact ⟨0, Nat.zero_le _, rfl, HD2.out, HS3.out⟩
 case round =>
  obtain ⟨k, hk, rfl, hD, hS⟩ := hrel
  by_cases hlt : k < x.waits.length
  ·obtain ⟨hm2, hws2, a2, cap2, ev2, hc2⟩ := hD.waitsIn (spoilK_sound x hx.sound n o c k)
   rw [spoilK_len, ev] at ev2
   cases ev2
   obtain ⟨g, rfl, hg, hrg⟩ := hc2 k (x.waits[k]'hlt) (by rw [spoilK_at x n o c k hlt, List.getElem?_append_right (by simp; omega)]; simp [Nat.min_eq_left (Nat.le_of_lt hlt)])
   have hy := hx.2.2.2.1 _ (List.getElem_mem hlt)
   have hAt := spoilK_at x n o c k hlt
   have hNx := spoilK_next x n o c k hlt
   have c2w : wr.cell? ⟨D.p, 2, none⟩ = some (.slice (some ⟨g, 0, none⟩) x.waits.length cap) := (hD.blk.cell_is 2 rfl).trans (by rw [ev]; rfl)
   have cn : wr.cell? ⟨g, k * 513, none⟩ = some (.int .i64 (x.waits[k]'hlt).n) := hrg 0 _ rfl
   have cb : wr.cell? ⟨g, k * 513 + 1 + o, none⟩ = some (vu8 ((x.waits[k]'hlt).b.getD o 0)) := by
    have := hrg (1 + o) (vu8 ((x.waits[k]'hlt).b.getD o 0)) (by rw [Nat.add_comm]; show ((x.waits[k]'hlt).b.map vu8)[o]? = _; rw [List.getElem?_map, flip_at _ o c (by omega)]; rfl)
    rw [← Nat.add_assoc] at this
    exact this
   have hlt' : (k : Int) < (x.waits.length : Int) := by omega
   generalize x.waits[k]'hlt = y at *
   have HA := Lib.hid hAt
   have HN := Lib.hid hNx
   have HD := Lib.hid hD
   have HS4 := Lib.hid hS
   clear hAt hNx hD hS hc2 hrg hws2
   obtain ⟨t, ht⟩ : ∃ t : Int, y.n = t := ⟨_, rfl⟩
   rw [ht] at cn
   have HTn := Lib.hid ht
   clear ht
   cases hh : (t == n)
   ·go_wp2_with fail
    go_roundw
    case rel =>
     refine ⟨k + 1, by omega, by simp, ?_, HS4.out⟩
     have e : x.spoilK n o c (k + 1) = x.spoilK n o c k := by
      have h1 : (x.spoilK n o c (k + 1)).waits = (x.spoilK n o c k).waits := by
       rw [HN.out, HA.out]
       unfold flipW
       rw [HTn.out, if_neg (by simpa using hh)]
      exact spoilK_eq x n o c _ _ h1
     rw [e]
     exact HD.out
    case measure => simp [intOf]; omega
   ·have f2w := ownsRow_frozen (by have := HD.out.waits; rw [ev, spoilK_len] at this; exact this) (k * 513 + 1 + o)
    have htn : t = n := by simpa using hh
    subst htn
    have hbo : o < y.b.length := by omega
    have eD : y.b.getD o 0 = y.b[o]'hbo := by rw [List.getD_eq_getElem?_getD, List.getElem?_eq_getElem hbo]; rfl
    have hcells : (flipW t o c y).cells = y.cells.set (1 + o) (.int .u8 (bits .xor .u8 ((y.b[o]'hbo).toNat : Int) (c.toNat : Int))) := by
     unfold flipW
     rw [if_pos HTn.out]
     show (Value.int .i64 y.n :: (flipL y.b o c).map vu8) = (Value.int .i64 y.n :: y.b.map vu8).set (1 + o) _
     rw [flip_cells, Nat.add_comm, List.set_cons_succ, eD, xor_u8]
    have hAl : ((x.waits.take k).map (flipW t o c)).length = k := by simp; omega
    have HQ := Lib.hid (diskWaits_set HD.out (by rw [ev, spoilK_len]) (k * 513 + 1 + o) (.int .u8 (bits .xor .u8 ((y.b[o]'hbo).toNat : Int) (c.toNat : Int))) (x.spoilK t o c (k + 1)).waits (by rw [spoilK_len, spoilK_len])
     (by rw [waitCells_len _ (spoilK_sound x hx.sound t o c k).2.1, spoilK_len]; omega)
     (by rw [HA.out, HN.out, ← waitCells_set _ _ (fun z hz => by obtain ⟨z', hz', rfl⟩ := List.mem_map.1 hz; exact flipW_len t o c z' (hx.2.2.2.1 z' (List.mem_of_mem_take hz'))) y _ (1 + o) _ (by rw [WaitD.len y hy]; omega) hcells, hAl, Nat.add_assoc]))
    have HNE := Lib.hid (show g ≠ D.p from HD.out.ne.2.1 g (by rw [ev]; rfl))
    clear eD hcells hAl
    go_wp2_with fail
    have c2 := c2w
    refine wp_region_held_drew (S := (fun w' => w'.cell? ⟨D.p, 2, none⟩ = some (Value.slice (some ⟨g, 0, none⟩) x.waits.length cap))) (by kernel_rfl) (by (try dsimp only); (exact c2)) (fun hHeld => ?_)
    refine tk 0 ?_
    refine tk 1 ?_
    refine tk 2 ?_
    refine tk 3 ?_
    refine tk 4 ?_
    refine tk 5 ?_
    refine tk 6 ?_
    refine tk 7 ?_
    refine tk 8 ?_
    refine tk 10 ?_
    refine tk 12 ?_
    refine tk 13 ?_
    refine rd 9 fun K hK => ?_
    go_simp
    refine hK.out _ _ hHeld (fun hHeld => ?_)
    clear hK K
    try simp only [Act.put, pz0, pz1, pz2, pz3, pz4, pz5]
    refine tk 11 ?_
    refine tk 14 ?_
    refine rd 15 fun K hK => ?_
    go_simp
    refine hK.out _ _ ((World.cell?_setCell_far _ ⟨g, k * 513 + 1 + o, none⟩ ⟨D.p, 2, none⟩ _ (HNE.out)).trans c2w) (fun hHeld => ?_)
    clear hK K
    refine wpAnyH_done (by kernel_rfl) ?_ _
    try simp only [Act.put, pz0, pz1, pz2, pz3, pz4, pz5]
    go_wp2_with fail
    obtain ⟨q1, q2⟩ := HQ.out
    go_roundw
    case rel => exact ⟨k + 1, by omega, by simp, q1.drew, (HS4.out.trans q2).below (Below.refl _ _).drew⟩
    case measure => simp [intOf]; omega
  ·obtain rfl : k = x.waits.length := by omega
   rw [spoilK_all] at hD
   go_wp2_with fail
   go_ret
   exact ⟨rfl, hD, hS⟩
end Go.Proofs.YtemcgfncahccgaaGreat
namespace Go.Proofs.YtemcgfncahccgaaGreat
open Go.RowKit

end Go.Proofs.YtemcgfncahccgaaGreat
namespace Go.Proofs.YtemcgfncahccgaaGreat
open Go.RowKit

end Go.Proofs.YtemcgfncahccgaaGreat
namespace Go.Proofs.YtemcgfncahccgaaGreat
open Go.RowKit

def askB (N size area : Int) : Bool := rightB N && decide (20 + 3 * N ≤ size) && decide (0 ≤ area) && decide (area ≤ 1)
end Go.Proofs.YtemcgfncahccgaaGreat
namespace Go.Proofs.YtemcgfncahccgaaGreat
open Go.RowKit

theorem run_append_bytes_at (w : World) {base B n : Nat} {v : Value} {xs : List Value} (hown : w.ownsRow base 5 1 v n xs) (ty : TypeId) (a : Option Addr) (cap : Nat) (l : List UInt8)
  (hu : BytesIn w B (.slice a l.length cap) l) (hbytes : n + l.length ≤ 140737488355328) (hbase : base ≤ w.heap.size) :
  ∃ v' w', (Builtin.append_ #[29, 29] ty #[v, .slice a l.length cap]).run Tryz.prog w = .ok v' w' ∧ w'.ownsRow base 5 1 v' (n + l.length) (xs ++ l.map vu8) ∧ w.grownBy w' v.ownBlock ∧ (∀ i, v'.ownBlock = some i → v.ownBlock = some i ∨ i = w.heap.size) := by
 obtain ⟨i0, hi0, hz0, hz1, hz2⟩ := info_parts info_u8
 obtain ⟨hm, a', cap', e, hcap, hc⟩ := hu
 injection e with e1 e2 e3
 subst e1
 cases a with
 | none =>
  have hl : l = [] := by
   cases l with
   | nil => rfl
   | cons c l =>
    obtain ⟨g, off, h, _⟩ := hc 0 c rfl
    cases h
  subst hl
  exact ⟨v, w, run_append_empty w hown ty cap, by simpa using hown, World.grownBy.refl w _, fun i hi => .inl hi⟩
 | some ad =>
  have hnews : ∀ j u, (l.map vu8)[j]? = some u → w.cell? (ad.add j) = some u := by
   intro j u hj
   rw [List.getElem?_map] at hj
   obtain ⟨c, hcj, rfl⟩ := Option.map_eq_some_iff.1 hj
   obtain ⟨g, off, h, _, hcell⟩ := hc j c hcj
   obtain rfl := Option.some.inj h
   rw [add_at]
   exact hcell
  obtain ⟨v', w', hrun, h2, h3, _, h5⟩ := run_append_own_at (P := Tryz.prog) w base 29 ty 5 i0 (.int .u8 0) 1 1 Tryz.underlying29 hi0 hz0 hz1 hz2 rfl (by omega) v n xs hown ad l.length cap (l.map vu8) (by simp) hnews
   (by intro u hu; obtain ⟨c, _, rfl⟩ := List.mem_map.1 hu; rfl) (by unfold maxLen; omega) (by omega) hbase
  refine ⟨v', w', hrun, h2, h3, fun i hi => ?_⟩
  rcases h5 with h5 | h5
  ·exact .inl (by rw [← h5]; exact hi)
  ·exact .inr (by rw [h5] at hi; exact (Option.some.inj hi).symm)
theorem wp_append_bytes_at (w : World) {o : Oper} {a : Act} {K : Act → World → Prop} {Q : Exit → Act → World → Prop} (s x : Operand)
  (ho : o.op = .call { callee := .builtin .append, args := #[s, x], argTypes := #[29, 29] })
  (base B n : Nat) (v : Value) (xs : List Value) (hs : a.eval s = v) (hown : w.ownsRow base 5 1 v n xs) (A : Option Addr) (m cap : Nat) (l : List UInt8) (hx : a.eval x = .slice A m cap) (hm : l.length = m)
  (hu : BytesIn w B (.slice A m cap) l) (hbytes : n + m ≤ 140737488355328) (hbase : base ≤ w.heap.size)
  (h : ∀ v' w', w'.ownsRow base 5 1 v' (n + m) (xs ++ l.map vu8) → w.grownBy w' v.ownBlock → (∀ i, v'.ownBlock = some i → v.ownBlock = some i ∨ i = w.heap.size) → K (a.put o.dst v') w') : o.wp Tryz.prog a w K Q := by
 subst hm
 obtain ⟨v', w', hrun, h2, h3, h4⟩ := run_append_bytes_at w hown o.type A cap l hu hbytes hbase
 unfold Oper.wp execOp
 simp only [ho, resolve, invoke, builtin, Sem.run_bind, Sem.run_pure, Result.andThen_ok, List.map_toArray, List.map_cons, List.map_nil, hs, hx, hrun]
 exact h v' w' h2 h3 h4
theorem wpList_append_bytes_at (w : World) {ops : Array Oper} {rest : List Oper} {o : Oper} {a : Act} {Q : Exit → Act → World → Prop} (hgd : o.guard = none) (s x : Operand)
  (ho : o.op = .call { callee := .builtin .append, args := #[s, x], argTypes := #[29, 29] })
  (base B n : Nat) (v : Value) (xs : List Value) (hs : a.eval s = v) (hown : w.ownsRow base 5 1 v n xs) (A : Option Addr) (m cap : Nat) (l : List UInt8) (hx : a.eval x = .slice A m cap) (hm : l.length = m)
  (hu : BytesIn w B (.slice A m cap) l) (hbytes : n + m ≤ 140737488355328) (hbase : base ≤ w.heap.size)
  (h : ∀ v' w', w'.ownsRow base 5 1 v' (n + m) (xs ++ l.map vu8) → w.grownBy w' v.ownBlock → (∀ i, v'.ownBlock = some i → v.ownBlock = some i ∨ i = w.heap.size) → wpList Tryz.prog ops Q rest (a.put o.dst v') w') : wpList Tryz.prog ops Q (o :: rest) a w :=
 wpList_plain hgd fun _ hK => wp_append_bytes_at w s x ho base B n v xs hs hown A m cap l hx hm hu hbytes hbase (fun v' w' h1 h2 h3 => hK _ _ (h v' w' h1 h2 h3))

/-- what an append to the list in block g may turn -/
structure RowStep (g : Nat) (v v' : Value) (w w' : World) : Prop where
 out : Out (fun i => i = g ∨ v.ownBlock = some i) w w'
 new_ : ∀ i, v'.ownBlock = some i → v.ownBlock = some i ∨ w.heap.size ≤ i
theorem RowStep.refl (g : Nat) (v : Value) (w : World) : RowStep g v v w w := ⟨Out.refl _ _, fun _ h => .inl h⟩
theorem RowStep.trans {g : Nat} {v v1 v2 : Value} {w w1 w2 : World} (h : RowStep g v v1 w w1) (k : RowStep g v1 v2 w1 w2) : RowStep g v v2 w w2 :=
 ⟨h.out.trans k.out (fun i hi hd => hd.elim .inl (fun hd => (h.new_ i hd).elim .inr (fun hs => absurd hs (by omega)))), fun i hi => (k.new_ i hi).elim (h.new_ i) (fun hs => .inr (by have := h.out.size; omega))⟩
theorem RowStep.first {g : Nat} {v v' : Value} {w0 w w1 : World} (h : RowStep g v v' w w1) (hb : Below w0.heap.size w0 w) : RowStep g v v' w0 w1 :=
 ⟨(outB hb : Out (fun i => i = g ∨ v.ownBlock = some i) w0 w).trans h.out (fun _ _ => id), fun i hi => (h.new_ i hi).imp id (fun hs => by have := hb.size; omega)⟩
/-- a block of another kind than the list's is as it was -/
theorem RowStep.blk {g : Nat} {v v' : Value} {w w' : World} (h : RowStep g v v' w w') {B n : Nat} {xs : List Value} {t : TypeId} {c : Value} (hg : Blk w g t #[c]) (ho : w.ownsRow B 5 1 v n xs) {j : Nat} {t' : TypeId} {cs : Array Value} (hb : Blk w j t' cs) (h1 : j ≠ g) (h2 : t' ≠ 5) : Blk w' j t' cs :=
 h.out.blk hb (fun hd => hd.elim h1 (fun e => ne_own ho hb (Ne.symm h2) j e rfl))
theorem RowStep.below {g B : Nat} {v v' : Value} {w w' : World} (h : RowStep g v v' w w') (hg : B ≤ g) (hv : ∀ i, v.ownBlock = some i → B ≤ i) : ∀ i, i < B → i < w.heap.size → w'.heap[i]? = w.heap[i]? :=
 fun i hi hl => h.out.block i hl (fun hd => hd.elim (fun e => by omega) (fun e => by have := hv i e; omega))
theorem slice_form {w : World} {B k : Nat} {e : TypeId} {v : Value} {n : Nat} {xs : List Value} (h : w.ownsRow B e k v n xs) : ∃ a cap, v = .slice a n cap := by
 rcases h.2 with ⟨rfl, h0⟩ | ⟨g, cap, cur, rfl, _⟩
 ·exact ⟨none, 0, by rw [h0]⟩
 ·exact ⟨_, _, rfl⟩
end Go.Proofs.YtemcgfncahccgaaGreat
namespace Go.Proofs.YtemcgfncahccgaaGreat
open Go.RowKit
end Go.Proofs.YtemcgfncahccgaaGreat
namespace Go.Proofs.YtemcgfncahccgaaGreat
open Go.RowKit

/-- an int64 as an uint64 -/
def u64 (n : Int) : Nat := (n % 18446744073709551616).toNat
def keyPre (x : KeyD) (j : Nat) : List UInt8 := (if 0 < j then leB (u64 x.k) 1 else []) ++ ((if 1 < j then leB (u64 x.r) 1 else []) ++ ((if 2 < j then leB (u64 x.o) 2 else []) ++ ((if 3 < j then leB (u64 x.c) 4 else []) ++ ((if 4 < j then leB (u64 x.a) 4 else []) ++ (if 5 < j then leB (u64 x.v) 8 else [])))))
def keyB (x : KeyD) : List UInt8 := keyPre x 6
theorem keyB_len (x : KeyD) : (keyB x).length = 20 := by simp [keyB, keyPre, leB_len]
def fieldsV : Array Value := #[.int .i64 1, .func (.func 145) #[] #[], .func (.func 146) #[] #[], .int .i64 1, .func (.func 147) #[] #[], .func (.func 148) #[] #[], .int .i64 2, .func (.func 149) #[] #[], .func (.func 150) #[] #[], .int .i64 4, .func (.func 151) #[] #[], .func (.func 152) #[] #[], .int .i64 4, .func (.func 153) #[] #[], .func (.func 154) #[] #[], .int .i64 8, .func (.func 155) #[] #[], .func (.func 156) #[] #[]]
set_option maxRecDepth 100000 in
theorem fields_any (w : World) : Calls Tryz.prog 132 #[] w fun e w' => e = .returned (.agg fieldsV) ∧ Below w.heap.size w w' := by
 have hi : (Tryz.prog.info? 218).map (·.size) = some fieldsV.size := by kernel_rfl
 have h1 : fieldsV.all (·.oneCell') = true := by kernel_rfl
 go_enter Tryz.func132, Tryz.ntmps132
 go_wp2_with (refine wpList_store_row rfl 218 _ _ rfl w.heap.size fieldsV rfl rfl 218 _ (heap_alloc_new w _) hi rfl h1 ?_; rw [World.setRow_alloc_new])
 exact bodyPost_ret (v := .agg fieldsV) (results_cell_row Tryz.results132 _ _ w.heap.size 218 fieldsV (0, 0) _ rfl (heap_alloc_last _ _) Tryz.underlying218 rfl (by kernel_rfl)) rfl ⟨rfl, (Below.refl _ w).alloc (Nat.le_refl _) _⟩
theorem index_0 (w : World) : (Instr.index 218 (.agg fieldsV) (.int .i64 0)).run Tryz.prog w = .ok (.agg #[.int .i64 1, .func (.func 145) #[] #[], .func (.func 146) #[] #[]]) w := by kernel_rfl
theorem index_1 (w : World) : (Instr.index 218 (.agg fieldsV) (.int .i64 1)).run Tryz.prog w = .ok (.agg #[.int .i64 1, .func (.func 147) #[] #[], .func (.func 148) #[] #[]]) w := by kernel_rfl
theorem index_2 (w : World) : (Instr.index 218 (.agg fieldsV) (.int .i64 2)).run Tryz.prog w = .ok (.agg #[.int .i64 2, .func (.func 149) #[] #[], .func (.func 150) #[] #[]]) w := by kernel_rfl
theorem index_3 (w : World) : (Instr.index 218 (.agg fieldsV) (.int .i64 3)).run Tryz.prog w = .ok (.agg #[.int .i64 4, .func (.func 151) #[] #[], .func (.func 152) #[] #[]]) w := by kernel_rfl
theorem index_4 (w : World) : (Instr.index 218 (.agg fieldsV) (.int .i64 4)).run Tryz.prog w = .ok (.agg #[.int .i64 4, .func (.func 153) #[] #[], .func (.func 154) #[] #[]]) w := by kernel_rfl
theorem index_5 (w : World) : (Instr.index 218 (.agg fieldsV) (.int .i64 5)).run Tryz.prog w = .ok (.agg #[.int .i64 8, .func (.func 155) #[] #[], .func (.func 156) #[] #[]]) w := by kernel_rfl
theorem info_field : (Tryz.prog.info? 217).map (·.size) = some 3 := by kernel_rfl
end Go.Proofs.YtemcgfncahccgaaGreat
namespace Go.Proofs.YtemcgfncahccgaaGreat
open Go.RowKit

def padL (l : List UInt8) : List UInt8 := l ++ List.replicate (508 - l.length) 0
theorem padL_len (l : List UInt8) (h : l.length ≤ 508) : (padL l).length = 508 := by simp [padL]; omega
/-- a sector that is sealed -/
def sectorL (l : List UInt8) : List UInt8 := sealOf (padL l)
theorem sectorL_len (l : List UInt8) (h : l.length ≤ 508) : (sectorL l).length = 512 := by rw [sectorL, sealOf_len, padL_len l h]
/-- a sector's block as bytes -/
theorem blk_bytes {w : World} {g : Nat} {t : TypeId} {b : List UInt8} (h : Blk w g t (b.map vu8).toArray) (n : Nat) (hn : n ≤ b.length) (hb : b.length ≤ maxLen) : BytesIn w w.heap.size (.slice (some ⟨g, 0, none⟩) n b.length) (b.take n) := by
 have hl : (b.take n).length = n := by rw [List.length_take]; omega
 refine ⟨by omega, _, b.length, by rw [hl], by omega, fun j c hj => ⟨g, 0, rfl, h.lt, h.cell_is (0 + j) ?_⟩⟩
 rw [List.getElem?_toArray, Nat.zero_add, List.getElem?_map]
 rw [List.getElem?_take] at hj
 split at hj
 ·rw [hj]; rfl
 ·cases hj

end Go.Proofs.YtemcgfncahccgaaGreat
namespace Go.Proofs.YtemcgfncahccgaaGreat
open Go.RowKit

/-- an object's bytes -/
def objL (o : ObjD) : List UInt8 := leB (u64 o.kd) 4 ++ leB (u64 o.ct) 4 ++ leB (u64 o.cl) 4 ++ o.slots.flatMap keyB ++ o.bytes
theorem keys_len (l : List KeyD) : (l.flatMap keyB).length = 20 * l.length := by
 induction l with
 | nil => rfl
 | cons x l ih => rw [List.flatMap_cons, List.length_append, keyB_len, ih, List.length_cons]; omega
theorem objL_len (o : ObjD) (ho : o.ok) : (objL o).length = 396 := by
 unfold objL
 simp only [List.length_append, leB_len, keys_len, ho.1, ho.2]
theorem keys_take (l : List KeyD) (j : Nat) (h : j < l.length) : (l.take (j + 1)).flatMap keyB = (l.take j).flatMap keyB ++ keyB (l[j]'h) := by
 rw [List.take_add_one, List.getElem?_eq_getElem h, List.flatMap_append]
 simp
end Go.Proofs.YtemcgfncahccgaaGreat
namespace Go.Proofs.YtemcgfncahccgaaGreat
open Go.RowKit Go.Shelf

attribute [local go_sem] Oper.semAt_some

/-- blocks below B, those from C on that hold no cells, and those whose cells are not of the types T, are as they were -/
structure KeepsT (T : Nat → TypeId → Prop) (B C : Nat) (W W' : World) : Prop where
 os : W'.os = W.os
 tape : W'.tape = W.tape
 output : W'.output = W.output
 size : W.heap.size ≤ W'.heap.size
 low : ∀ i, i < B → W'.heap[i]? = W.heap[i]?
 others : ∀ (k : Nat) (o : Obj), C ≤ k → W.heap[k]? = some o → o.isCells = false → W'.heap[k]? = some o
 typed : ∀ (i : Nat) (cs : Array Value) (t : TypeId) (fr : Nat × Nat), ¬ T i t → W.heap[i]? = some (.cells cs t fr) → W'.heap[i]? = some (.cells cs t fr)
theorem KeepsT.refl (T : Nat → TypeId → Prop) (B C : Nat) (W : World) : KeepsT T B C W W := ⟨rfl, rfl, rfl, Nat.le_refl _, fun _ _ => rfl, fun _ _ _ h _ => h, fun _ _ _ _ _ h => h⟩
theorem KeepsT.trans {T : Nat → TypeId → Prop} {B C : Nat} {X Y Z : World} (h : KeepsT T B C X Y) (k : KeepsT T B C Y Z) : KeepsT T B C X Z :=
 ⟨k.os.trans h.os, k.tape.trans h.tape, k.output.trans h.output, Nat.le_trans h.size k.size, fun i hi => (k.low i hi).trans (h.low i hi), fun i o hi ho hc => k.others i o hi (h.others i o hi ho hc) hc, fun i cs t fr ht hi => k.typed i cs t fr ht (h.typed i cs t fr ht hi)⟩
theorem keepsT_b {T : Nat → TypeId → Prop} {B C l : Nat} (hB : B ≤ l) (hC : l < C) (W : World) (o o' : Obj) (h : W.heap[l]? = some o) (hc : o.isCells = false) : KeepsT T B C W (W.putObj l o') :=
 ⟨rfl, rfl, rfl, by simp, fun i hi => World.putObj_heap_other (by omega), fun i x hi hx _ => (World.putObj_heap_other (by omega)).trans hx, fun i cs t fr _ hi => (World.putObj_heap_other (fun e => by rw [e, h] at hi; cases hi; cases hc)).trans hi⟩
theorem KeepsT.of {T : Nat → TypeId → Prop} {B C : Nat} {W W' : World} (h : Below W.heap.size W W') (hB : B ≤ W.heap.size) : KeepsT T B C W W' :=
 ⟨h.os, h.tape, h.output, h.size, fun i hi => h.block i (by omega), fun i o _ ho _ => (h.block i (Array.getElem?_eq_some_iff.1 ho).1).trans ho, fun i cs t fr _ hi => (h.block i (lt_of_block hi)).trans hi⟩
theorem KeepsT.blk {T : Nat → TypeId → Prop} {B C : Nat} {W W' : World} (h : KeepsT T B C W W') {g : Nat} {t : TypeId} {cs : Array Value} (hb : Blk W g t cs) (ht : ¬ T g t) : Blk W' g t cs := h.typed g cs t _ ht hb
theorem KeepsT.bytes {T : Nat → TypeId → Prop} {B C : Nat} {W W' : World} (h : KeepsT T B C W W') {v : Value} {l : List UInt8} (hb : BytesIn W B v l) : BytesIn W' B v l := by
 obtain ⟨h1, a, cap, h2, h3, h4⟩ := hb
 refine ⟨h1, a, cap, h2, h3, fun j c hc => ?_⟩
 obtain ⟨g, off, e, hg, hr⟩ := h4 j c hc
 exact ⟨g, off, e, hg, (World.cell?_of_block (a := ⟨g, off + j, none⟩) (h.low g hg)).trans hr⟩

/-- how many sectors bytes take -/
def chunksN (n : Nat) : Nat := (n + 511) / 512
end Go.Proofs.YtemcgfncahccgaaGreat
namespace Go.Proofs.YtemcgfncahccgaaGreat
open Go.RowKit Go.Shelf

/-- an invariant that abides what an iterator does to blocks from B on: to c of them from the d-th on, and to those that hold no cells -/
def OwnC {β : Type} (d c B : Nat) (J : β → World → Prop) : Prop :=
 ∀ s W W' row, J s W → W.grownBy W' row → (∀ r, row = some r → B ≤ r ∧ ((B + d ≤ r ∧ r < B + d + c) ∨ ∃ o : Obj, W.heap[r]? = some o ∧ o.isCells = false)) → J s W'
theorem OwnFrom.zero {β : Type} {d B : Nat} {J : β → World → Prop} (h : OwnFrom B J) : OwnC d 0 B J := fun s W W' row hs hg hr => h s W W' row hs hg (fun r e => ⟨(hr r e).1, (hr r e).2.resolve_left (by omega)⟩)
theorem OwnC.from {β : Type} {d c B : Nat} {J : β → World → Prop} (h : OwnC d c B J) : OwnFrom B J := fun s W W' row hs hg hr => h s W W' row hs hg (fun r e => ⟨(hr r e).1, .inr (hr r e).2⟩)
/-- the two blocks that a loop keeps its books in -/
structure Books (K : Nat) (r : Loop) (W : World) : Prop where
 loop : W.heap[K + 1]? = some (.loop r)
 shut : W.heap[K]? = some (.deferred (some []))
theorem Books.lt {K : Nat} {r : Loop} {W : World} (h : Books K r W) : K + 1 < W.heap.size := (Array.getElem?_eq_some_iff.1 h.loop).1
theorem Books.keeps {K : Nat} {r : Loop} {W W' : World} (h : Books K r W) (k : KeepsFrom K W W') : Books K r W' := ⟨k.same _ _ (by omega) h.loop rfl, k.same _ _ (Nat.le_refl _) h.shut rfl⟩
theorem Books.put {K : Nat} {r : Loop} {W : World} (h : Books K r W) (r' : Loop) : Books K r' (W.putObj (K + 1) (.loop r')) := ⟨World.putObj_heap_same h.lt, (World.putObj_heap_other (by omega)).trans h.shut⟩
theorem Books.own {K : Nat} {r : Loop} {W W' : World} {row : Option Nat} (h : Books K r W) (hg : W.grownBy W' row) (hr : ∀ q, row = some q → K + 2 ≤ q) : Books K r W' :=
 ⟨(hg.block _ h.lt (fun e => by have := hr _ e.symm; omega)).trans h.loop, (hg.block _ (Nat.lt_of_succ_lt h.lt) (fun e => by have := hr _ e.symm; omega)).trans h.shut⟩

end Go.Proofs.YtemcgfncahccgaaGreat
namespace Go.Proofs.YtemcgfncahccgaaGreat
open Go.RowKit Go.Shelf

attribute [local go_sem] Oper.semAt_some

end Go.Proofs.YtemcgfncahccgaaGreat
namespace Go.Proofs.YtemcgfncahccgaaGreat
open Go.RowKit

/-- the panic that codec.must gives up with -/
def cfailC : List PanicEntry := [{ v := .iface 212 (.agg #[]), recovered := false }]
theorem cmust_yes (w : World) : Calls Tryz.prog 107 #[.bool true] w fun e w' => e = .returned (.tuple #[]) ∧ w = w' := by
 go_enter Tryz.func107, Tryz.ntmps107
 go_wp2_with fail
 exact bodyPost_end (v := .tuple #[]) (by simp [results, Tryz.results107, go_sem]) rfl ⟨rfl, rfl⟩
theorem cmust_no (w : World) : Calls Tryz.prog 107 #[.bool false] w fun e w' => e = .panicked cfailC ∧ w = w' := by
 go_enter Tryz.func107, Tryz.ntmps107
 go_wp2_with fail
 exact ⟨rfl, rfl, rfl⟩
end Go.Proofs.YtemcgfncahccgaaGreat
