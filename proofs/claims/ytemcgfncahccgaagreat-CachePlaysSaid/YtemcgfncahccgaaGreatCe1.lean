/-
  Spoil: bits of a byte are turned. (Written by gen_lspoil.py.)
  A list of bytes that grows: number.
  Rows of writes: append, in a slice of the call's own.
  The law CacheEvicts. (Written by gen_claw.py.)
  The law CacheSettles. (Written by gen_cset.py.)
  Opening numbers within 64 bits, an object, calls.
  The reference's Disk.Spoil where nothing waits.
-/
import Derived.Test.YtemcgfncahccgaaGreatCa1
import Derived.Test.YtemcgfncahccgaaGreatCa10
import Derived.Test.YtemcgfncahccgaaGreatCa11
import Derived.Test.YtemcgfncahccgaaGreatCa25
import Derived.Test.YtemcgfncahccgaaGreatCa34
import Derived.Test.YtemcgfncahccgaaGreatCa37
import Derived.Test.YtemcgfncahccgaaGreatCa38
import Derived.Test.YtemcgfncahccgaaGreatCa5
import Derived.Test.YtemcgfncahccgaaGreatCa6
import Derived.Test.YtemcgfncahccgaaGreatCa8
set_option linter.unusedVariables false
set_option linter.unusedSimpArgs false
namespace Go.Proofs.YtemcgfncahccgaaGreat
open Go.RowKit

theorem ofInt_u8 (n : Nat) : BitVec.ofInt 8 (n : Int) = BitVec.ofNat 8 n := by rw [BitVec.ofInt_natCast]
theorem xor_u8 (x y : UInt8) : bits .xor .u8 (x.toNat : Int) (y.toNat : Int) = ((x ^^^ y).toNat : Int) := by
 show IntKind.u8.wrap ((BitVec.ofInt 8 (x.toNat : Int) ^^^ BitVec.ofInt 8 (y.toNat : Int)).toNat : Int) = _
 rw [ofInt_u8, ofInt_u8, IntKind.wrap_u8', UInt8.toNat_xor, BitVec.toNat_xor, BitVec.toNat_ofNat, BitVec.toNat_ofNat, Nat.mod_eq_of_lt (UInt8.toNat_lt x), Nat.mod_eq_of_lt (UInt8.toNat_lt y)]
 have h := UInt8.toNat_lt (x ^^^ y)
 rw [UInt8.toNat_xor] at h
 omega
/-- bits of a byte are turned -/
def flipL (b : List UInt8) (o : Nat) (c : UInt8) : List UInt8 := b.set o (b.getD o 0 ^^^ c)
theorem flipL_len (b : List UInt8) (o : Nat) (c : UInt8) : (flipL b o c).length = b.length := by simp [flipL]
def flipW (n : Int) (o : Nat) (c : UInt8) (y : WaitD) : WaitD := if y.n = n then ⟨y.n, flipL y.b o c⟩ else y
def DiskD.spoilK (x : DiskD) (n : Int) (o : Nat) (c : UInt8) (k : Nat) : DiskD := { x with lasts := fun m => if m = n then flipL (x.lasts n) o c else x.lasts m, waits := (x.waits.take k).map (flipW n o c) ++ x.waits.drop k }
def DiskD.spoil (x : DiskD) (n : Int) (o : Nat) (c : UInt8) : DiskD := { x with lasts := fun m => if m = n then flipL (x.lasts n) o c else x.lasts m, waits := x.waits.map (flipW n o c) }
theorem flip_at (b : List UInt8) (o : Nat) (c : UInt8) (ho : o < b.length) : b[o]? = some (b.getD o 0) := by
 rw [List.getElem?_eq_getElem ho, List.getD_eq_getElem?_getD, List.getElem?_eq_getElem ho]; rfl
theorem flip_cells (b : List UInt8) (o : Nat) (c : UInt8) : ((flipL b o c).map vu8) = (b.map vu8).set o (vu8 (b.getD o 0 ^^^ c)) := by simp [flipL, List.map_set]
theorem waitCells_append (A B : List WaitD) : waitCells (A ++ B) = waitCells A ++ waitCells B := by simp [waitCells]
theorem waitCells_len : ∀ (A : List WaitD), (∀ y ∈ A, y.b.length = 512) → (waitCells A).length = A.length * 513
 | [], _ => rfl
 | y :: A, h => by
  have := waitCells_len A (fun z hz => h z (List.mem_cons_of_mem _ hz))
  have h2 := WaitD.len y (h y List.mem_cons_self)
  show (y.cells ++ waitCells A).length = (A.length + 1) * 513
  rw [List.length_append, this, h2]
  omega
theorem waitCells_set (A R : List WaitD) (hA : ∀ y ∈ A, y.b.length = 512) (y y' : WaitD) (j : Nat) (u : Value) (hj : j < y.cells.length) (e : y'.cells = y.cells.set j u) : (waitCells (A ++ y :: R)).set (A.length * 513 + j) u = waitCells (A ++ y' :: R) := by
 rw [waitCells_append, waitCells_append, ← waitCells_len A hA]
 rw [List.set_append_right _ _ (by omega), show (waitCells A).length + j - (waitCells A).length = j by omega]
 congr 1
 show (y.cells ++ waitCells R).set j u = y'.cells ++ waitCells R
 rw [List.set_append_left _ _ hj, e]
theorem ownsRow_set {w : World} {B k : Nat} {e : TypeId} {n g cap : Nat} {xs : List Value} (h : w.ownsRow B e k (.slice (some ⟨g, 0, none⟩) n cap) n xs) (j : Nat) (u : Value) (hj : j < xs.length) : (w.setCell ⟨g, j, none⟩ u).ownsRow B e k (.slice (some ⟨g, 0, none⟩) n cap) n (xs.set j u) := by
 rcases h.2 with ⟨h0, _⟩ | ⟨g', cap', cur, h0, hB, hg, h1, h2, h3, h4⟩
 ·cases h0
 ·cases h0
  refine ⟨by rw [List.length_set]; exact h.1, .inr ⟨g, cap, cur.setIfInBounds j u, rfl, hB, ?_, h1, h2, by simpa using h3, ?_⟩⟩
  ·have := Blk.set_ (w := w) (g := g) (t := e) (cs := cur) hg j u
   exact this
  ·rw [← h4]
   apply List.ext_getElem?
   intro i
   rw [List.getElem?_take, List.getElem?_set, List.getElem?_take]
   have hlen : (List.take (n * k) cur.toList).length = xs.length := by rw [h4]
   rw [hlen]
   have hc : cur.toList.length = cap * k := by simpa using h3
   have hxs := h.1
   by_cases hi : i < n * k
   ·simp only [hi, if_true]
    rw [Array.getElem?_toList, Array.getElem?_setIfInBounds]
    by_cases he : j = i
    ·subst he
     have hjc : j < cur.size := by
      have : (List.take (n * k) cur.toList).length ≤ cur.toList.length := by rw [List.length_take]; exact Nat.min_le_right _ _
      rw [hlen] at this
      simp at this
      omega
     simp [hj, hjc]
    ·simp [he]
   ·have : j ≠ i := by omega
    simp [hi, this]
theorem diskWaits_set {w : World} {D : DiskP} {x : DiskD} (h : DiskAt w D x) {g cap : Nat} (ev : D.wv = .slice (some ⟨g, 0, none⟩) x.waits.length cap) (j : Nat) (u : Value) (ws : List WaitD) (hl : ws.length = x.waits.length) (hj : j < (waitCells x.waits).length) (hs : (waitCells x.waits).set j u = waitCells ws) :
  DiskAt (w.setCell ⟨g, j, none⟩ u) D { x with waits := ws } ∧ DStep D D w (w.setCell ⟨g, j, none⟩ u) := by
 have ho : D.wv.ownBlock = some g := by rw [ev]; rfl
 obtain ⟨n1, n2, n3⟩ := h.ne
 refine ⟨⟨h.blk.far (p := ⟨g, j, none⟩) (fun e => n2 g ho e.symm) u, ?_, ?_, ?_, h.apart⟩, ⟨out_set (.inr (.inr (.inl ho))), rfl, fun i hi => .inl hi⟩⟩
 ·obtain ⟨l, hm, hl⟩ := h.lasts
  exact ⟨l, (Below.heap_setCell w _ _ _ (fun e => ne_own_map h.waits hm g ho e.symm)).trans hm, hl⟩
 ·show World.ownsRow _ 0 _ 513 D.wv ws.length (waitCells ws)
  have hw := h.waits
  rw [ev] at hw ⊢
  rw [hl, ← hs]
  exact ownsRow_set hw j u hj
 ·rcases h.fails with hn | ⟨r, k, e, h1, h2⟩
  ·exact .inl hn
  ·exact .inr ⟨r, k, e, (Below.heap_setCell w _ _ _ (fun e => ne_own_map h.waits h1 g ho e.symm)).trans h1, h2⟩
theorem flip_val (b : List UInt8) (o : Nat) (c : UInt8) (ho : o < b.length) : ((b.map vu8).set o (.int .u8 (bits .xor .u8 ((b[o]'ho).toNat : Int) (c.toNat : Int)))).toArray = ((flipL b o c).map vu8).toArray := by
 rw [flip_cells, xor_u8]
 have e : b.getD o 0 = b[o]'ho := by rw [List.getD_eq_getElem?_getD, List.getElem?_eq_getElem ho]; rfl
 rw [e]
theorem spoilK_at (x : DiskD) (n : Int) (o : Nat) (c : UInt8) (k : Nat) (hk : k < x.waits.length) : (x.spoilK n o c k).waits = (x.waits.take k).map (flipW n o c) ++ (x.waits[k]'hk) :: x.waits.drop (k + 1) := by
 show (x.waits.take k).map (flipW n o c) ++ x.waits.drop k = _
 rw [List.drop_eq_getElem_cons hk]
theorem spoilK_next (x : DiskD) (n : Int) (o : Nat) (c : UInt8) (k : Nat) (hk : k < x.waits.length) : (x.spoilK n o c (k + 1)).waits = (x.waits.take k).map (flipW n o c) ++ flipW n o c (x.waits[k]'hk) :: x.waits.drop (k + 1) := by
 show (x.waits.take (k + 1)).map (flipW n o c) ++ x.waits.drop (k + 1) = _
 have e : x.waits.take (k + 1) = x.waits.take k ++ [x.waits[k]'hk] := by rw [List.take_add_one, List.getElem?_eq_getElem hk]; rfl
 rw [e, List.map_append, List.append_assoc]
 rfl
theorem spoilK_len (x : DiskD) (n : Int) (o : Nat) (c : UInt8) (k : Nat) : (x.spoilK n o c k).waits.length = x.waits.length := by
 simp [DiskD.spoilK]; omega
theorem flipW_len (n : Int) (o : Nat) (c : UInt8) (y : WaitD) (hy : y.b.length = 512) : (flipW n o c y).b.length = 512 := by
 unfold flipW; split
 ·rw [flipL_len]; exact hy
 ·exact hy
theorem spoilK_sound (x : DiskD) (hx : x.sound) (n : Int) (o : Nat) (c : UInt8) (k : Nat) : (x.spoilK n o c k).sound := by
 refine ⟨fun m => ?_, fun y hy => ?_, by rw [spoilK_len]; exact hx.2.2⟩
 ·show (if m = n then flipL (x.lasts n) o c else x.lasts m).length = 512
  split
  ·rw [flipL_len]; exact hx.1 n
  ·exact hx.1 m
 ·have hy' : y ∈ (x.waits.take k).map (flipW n o c) ++ x.waits.drop k := hy
  rcases List.mem_append.1 hy' with h | h
  ·obtain ⟨z, hz, rfl⟩ := List.mem_map.1 h
   exact flipW_len n o c z (hx.2.1 z (List.mem_of_mem_take hz))
  ·exact hx.2.1 y (List.mem_of_mem_drop h)
theorem spoilK_all (x : DiskD) (n : Int) (o : Nat) (c : UInt8) : x.spoilK n o c x.waits.length = x.spoil n o c := by
 unfold DiskD.spoilK DiskD.spoil
 rw [List.take_length, List.drop_length, List.append_nil]
theorem spoilK_eq (x : DiskD) (n : Int) (o : Nat) (c : UInt8) (k k' : Nat) (h : (x.spoilK n o c k).waits = (x.spoilK n o c k').waits) : x.spoilK n o c k = x.spoilK n o c k' := by
 have e : (x.waits.take k).map (flipW n o c) ++ x.waits.drop k = (x.waits.take k').map (flipW n o c) ++ x.waits.drop k' := h
 unfold DiskD.spoilK
 rw [e]

set_option maxRecDepth 100000 in
set_option maxHeartbeats 4000000 in
theorem dspoil_any (D : DiskP) (x : DiskD) (n : Int) (o : Nat) (c : UInt8) (w : World) (h : DiskAt w D x) (hx : x.ok) (hn : 0 ≤ n ∧ n < x.size) (ho : o < 512) :
  Calls Tryz.prog 61 #[ptr D.p, .int .i64 n, .int .i64 o, .int .u8 (c.toNat : Int)] w fun e w' => e = .returned (.int .i64 0) ∧ DiskAt w' D (x.spoil n o c) ∧ DStep D D w w' := by
 have HR := Lib.hid (dright_yes D x n o w h hx hn (by omega))
 have c1 := h.blk.cell_is 1 rfl
 have k1 := look_lasts h n
 have hl := hx.2.2.1 n
 have HL := Lib.hid hl
 have hlt := h.blk.lt
 have hoi : (o : Int) < 512 := by omega
 have HH := Lib.hid h
 obtain ⟨hmax, hws, a, cap, ev, hcc⟩ := h.waitsIn hx.sound
 clear hcc
 unfold ptr sectorV at *
 go_enter Tryz.func61, Tryz.ntmps61
 go_wp2_with fail
 refine HR.out.mono ?_; rintro e w1 ⟨rfl, rfl⟩
 go_upto_region 4 with fail
 have hK := Blk.new w 84 Tryz.zeroCells84
 go_wp2_with (first
  | (refine wpList_store_row rfl 84 _ _ rfl w.heap.size ((x.lasts n).map vu8).toArray rfl rfl 84 _ hK (sector_size _ HL.out) (by rw [zero111]; exact sector_eq _ _ List.length_replicate HL.out) (sector_all _) ?_; rw [World.setRow_alloc_new])
  | fail)
 rw [flip_val (x.lasts n) o c (by omega)]
 obtain ⟨W, eW⟩ : ∃ W, W = w.alloc (.cells ((flipL (x.lasts n) o c).map vu8).toArray 84) := ⟨_, rfl⟩
 have hbW : Below w.heap.size w W := by rw [eW]; exact (Below.refl _ w).alloc (Nat.le_refl _) _
 have hG2 : Blk W w.heap.size 84 ((flipL (x.lasts n) o c).map vu8).toArray := by rw [eW]; exact Blk.new _ _ _
 rw [← eW]
 clear eW hK
 have hHW := (HH.out.below hbW).drew
 have c1b := hHW.blk.cell_is 1 rfl
 have hszF : (Tryz.prog.info? 84).map (·.size) = some ((flipL (x.lasts n) o c).map vu8).length := by rw [List.length_map, flipL_len, HL.out]; exact size_sector
 obtain ⟨W2, hrun, hT, hD2, hS2⟩ := diskLasts_set hHW n (flipL (x.lasts n) o c)
 have hS3 : DStep D D w W2 := hS2.first hbW.drew HH.out.has_lt
 have HD2 := Lib.hid hD2
 have HS3 := Lib.hid hS3
 have HHW := Lib.hid hHW
 have hlm : D.lm ≠ w.heap.size := fun e => by have := HH.out.has_lt D.lm (.inr (.inl rfl)); omega
 clear hHW hD2 hS2 hS3 h
 refine wp_region_held_drew (S := (fun w' => w'.cell? ⟨D.p, 1, none⟩ = some (.map (some D.lm)) ∧ Blk w' w.heap.size 84 ((flipL (x.lasts n) o c).map vu8).toArray)) (by kernel_rfl) (by (try dsimp only); (exact ⟨c1b, hG2.drew⟩)) (fun hHeld => ?_)
 refine tk 0 ?_
 refine tk 1 ?_
 refine tk 2 ?_
 refine tk 3 ?_
 refine tk 4 ?_
 refine ty 5 rfl (yieldsIf_load_mid (by rfl) 84 _ rfl w.heap.size 0 rfl ((flipL (x.lasts n) o c).map vu8) _ (fun w' h j v hj => h.2.cell_is (0 + j) (by rw [List.getElem?_toArray, Nat.zero_add]; exact hj)) Tryz.underlying84 rfl hszF) ?_
 refine rd 6 fun K hK => ?_
 rw [if_pos (by rfl)]
 refine wp_mapUpdate_is _ W2 112 _ _ _ rfl _ _ _ rfl rfl rfl hrun ?_
 refine hK.out _ _ ⟨HD2.out.blk.cell_is 1 rfl, (hT.block _ hlm.symm).trans hG2⟩ (fun hHeld => ?_)
 clear hK K
 refine wpAnyH_done (by kernel_rfl) ?_ _
 have c2 := HD2.out.blk.cell_is 2 rfl
 rw [ev] at c2
 try simp only [Act.put, pz0, pz1, pz2, pz3, pz4, pz5]
 go_wp2_with fail
 go_loopw [42] (fun i wr => ∃ k : Nat, k ≤ x.waits.length ∧ i = .int .i64 (k : Int) ∧ DiskAt wr D (x.spoilK n o c k) ∧ DStep D D w wr) (fun i _ => x.waits.length - (intOf i).toNat)
 case atStart => exact ⟨0, Nat.zero_le _, rfl, HD2.out, HS3.out⟩
 case round =>
  obtain ⟨k, hk, rfl, hD, hS⟩ := hrel
  by_cases hlt : k < x.waits.length
  ·obtain ⟨hm2, hws2, a2, cap2, ev2, hc2⟩ := hD.waitsIn (spoilK_sound x hx.sound n o c k)
   rw [spoilK_len, ev] at ev2
   cases ev2
   obtain ⟨g, rfl, hg, hrg⟩ := hc2 k (x.waits[k]'hlt) (by rw [spoilK_at x n o c k hlt, List.getElem?_append_right (by simp; omega)]; simp [Nat.min_eq_left (Nat.le_of_lt hlt)])
   have hy := hx.2.2.2.1 _ (List.getElem_mem hlt)
   have hAt := spoilK_at x n o c k hlt
   have hNx := spoilK_next x n o c k hlt
   have c2w : wr.cell? ⟨D.p, 2, none⟩ = some (.slice (some ⟨g, 0, none⟩) x.waits.length cap) := (hD.blk.cell_is 2 rfl).trans (by rw [ev]; rfl)
   have cn : wr.cell? ⟨g, k * 513, none⟩ = some (.int .i64 (x.waits[k]'hlt).n) := hrg 0 _ rfl
   have cb : wr.cell? ⟨g, k * 513 + 1 + o, none⟩ = some (vu8 ((x.waits[k]'hlt).b.getD o 0)) := by
    have := hrg (1 + o) (vu8 ((x.waits[k]'hlt).b.getD o 0)) (by rw [Nat.add_comm]; show ((x.waits[k]'hlt).b.map vu8)[o]? = _; rw [List.getElem?_map, flip_at _ o c (by omega)]; rfl)
    rw [← Nat.add_assoc] at this
    exact this
   have hlt' : (k : Int) < (x.waits.length : Int) := by omega
   generalize x.waits[k]'hlt = y at *
   have HA := Lib.hid hAt
   have HN := Lib.hid hNx
   have HD := Lib.hid hD
   have HS4 := Lib.hid hS
   clear hAt hNx hD hS hc2 hrg hws2
   obtain ⟨t, ht⟩ : ∃ t : Int, y.n = t := ⟨_, rfl⟩
   rw [ht] at cn
   have HTn := Lib.hid ht
   clear ht
   cases hh : (t == n)
   ·go_wp2_with fail
    go_roundw
    case rel =>
     refine ⟨k + 1, by omega, by simp, ?_, HS4.out⟩
     have e : x.spoilK n o c (k + 1) = x.spoilK n o c k := by
      have h1 : (x.spoilK n o c (k + 1)).waits = (x.spoilK n o c k).waits := by
       rw [HN.out, HA.out]
       unfold flipW
       rw [HTn.out, if_neg (by simpa using hh)]
      exact spoilK_eq x n o c _ _ h1
     rw [e]
     exact HD.out
    case measure => simp [intOf]; omega
   ·have f2w := ownsRow_frozen (by have := HD.out.waits; rw [ev, spoilK_len] at this; exact this) (k * 513 + 1 + o)
    have htn : t = n := by simpa using hh
    subst htn
    have hbo : o < y.b.length := by omega
    have eD : y.b.getD o 0 = y.b[o]'hbo := by rw [List.getD_eq_getElem?_getD, List.getElem?_eq_getElem hbo]; rfl
    have hcells : (flipW t o c y).cells = y.cells.set (1 + o) (.int .u8 (bits .xor .u8 ((y.b[o]'hbo).toNat : Int) (c.toNat : Int))) := by
     unfold flipW
     rw [if_pos HTn.out]
     show (Value.int .i64 y.n :: (flipL y.b o c).map vu8) = (Value.int .i64 y.n :: y.b.map vu8).set (1 + o) _
     rw [flip_cells, Nat.add_comm, List.set_cons_succ, eD, xor_u8]
    have hAl : ((x.waits.take k).map (flipW t o c)).length = k := by simp; omega
    have HQ := Lib.hid (diskWaits_set HD.out (by rw [ev, spoilK_len]) (k * 513 + 1 + o) (.int .u8 (bits .xor .u8 ((y.b[o]'hbo).toNat : Int) (c.toNat : Int))) (x.spoilK t o c (k + 1)).waits (by rw [spoilK_len, spoilK_len])
     (by rw [waitCells_len _ (spoilK_sound x hx.sound t o c k).2.1, spoilK_len]; omega)
     (by rw [HA.out, HN.out, ← waitCells_set _ _ (fun z hz => by obtain ⟨z', hz', rfl⟩ := List.mem_map.1 hz; exact flipW_len t o c z' (hx.2.2.2.1 z' (List.mem_of_mem_take hz'))) y _ (1 + o) _ (by rw [WaitD.len y hy]; omega) hcells, hAl, Nat.add_assoc]))
    have HNE := Lib.hid (show g ≠ D.p from HD.out.ne.2.1 g (by rw [ev]; rfl))
    clear eD hcells hAl
    go_wp2_with fail
    have c2 := c2w
    refine wp_region_held_drew (S := (fun w' => w'.cell? ⟨D.p, 2, none⟩ = some (Value.slice (some ⟨g, 0, none⟩) x.waits.length cap))) (by kernel_rfl) (by (try dsimp only); (exact c2)) (fun hHeld => ?_)
    refine tk 0 ?_
    refine tk 1 ?_
    refine tk 2 ?_
    refine tk 3 ?_
    refine tk 4 ?_
    refine tk 5 ?_
    refine tk 6 ?_
    refine tk 7 ?_
    refine tk 8 ?_
    refine tk 10 ?_
    refine tk 12 ?_
    refine tk 13 ?_
    refine rd 9 fun K hK => ?_
    go_simp
    refine hK.out _ _ hHeld (fun hHeld => ?_)
    clear hK K
    try simp only [Act.put, pz0, pz1, pz2, pz3, pz4, pz5]
    refine tk 11 ?_
    refine tk 14 ?_
    refine rd 15 fun K hK => ?_
    go_simp
    refine hK.out _ _ ((World.cell?_setCell_far _ ⟨g, k * 513 + 1 + o, none⟩ ⟨D.p, 2, none⟩ _ (HNE.out)).trans c2w) (fun hHeld => ?_)
    clear hK K
    refine wpAnyH_done (by kernel_rfl) ?_ _
    try simp only [Act.put, pz0, pz1, pz2, pz3, pz4, pz5]
    go_wp2_with fail
    obtain ⟨q1, q2⟩ := HQ.out
    go_roundw
    case rel => exact ⟨k + 1, by omega, by simp, q1.drew, (HS4.out.trans q2).below (Below.refl _ _).drew⟩
    case measure => simp [intOf]; omega
  ·obtain rfl : k = x.waits.length := by omega
   rw [spoilK_all] at hD
   go_wp2_with fail
   go_ret
   exact ⟨rfl, hD, hS⟩
end Go.Proofs.YtemcgfncahccgaaGreat
namespace Go.Proofs.YtemcgfncahccgaaGreat
open Go.RowKit

theorem run_append_bytes_at (w : World) {base B n : Nat} {v : Value} {xs : List Value} (hown : w.ownsRow base 5 1 v n xs) (ty : TypeId) (a : Option Addr) (cap : Nat) (l : List UInt8)
  (hu : BytesIn w B (.slice a l.length cap) l) (hbytes : n + l.length ≤ 140737488355328) (hbase : base ≤ w.heap.size) :
  ∃ v' w', (Builtin.append_ #[29, 29] ty #[v, .slice a l.length cap]).run Tryz.prog w = .ok v' w' ∧ w'.ownsRow base 5 1 v' (n + l.length) (xs ++ l.map vu8) ∧ w.grownBy w' v.ownBlock ∧ (∀ i, v'.ownBlock = some i → v.ownBlock = some i ∨ i = w.heap.size) := by
 obtain ⟨i0, hi0, hz0, hz1, hz2⟩ := info_parts info_u8
 obtain ⟨hm, a', cap', e, hcap, hc⟩ := hu
 injection e with e1 e2 e3
 subst e1
 cases a with
 | none =>
  have hl : l = [] := by
   cases l with
   | nil => rfl
   | cons c l =>
    obtain ⟨g, off, h, _⟩ := hc 0 c rfl
    cases h
  subst hl
  exact ⟨v, w, run_append_empty w hown ty cap, by simpa using hown, World.grownBy.refl w _, fun i hi => .inl hi⟩
 | some ad =>
  have hnews : ∀ j u, (l.map vu8)[j]? = some u → w.cell? (ad.add j) = some u := by
   intro j u hj
   rw [List.getElem?_map] at hj
   obtain ⟨c, hcj, rfl⟩ := Option.map_eq_some_iff.1 hj
   obtain ⟨g, off, h, _, hcell⟩ := hc j c hcj
   obtain rfl := Option.some.inj h
   rw [add_at]
   exact hcell
  obtain ⟨v', w', hrun, h2, h3, _, h5⟩ := run_append_own_at (P := Tryz.prog) w base 29 ty 5 i0 (.int .u8 0) 1 1 Tryz.underlying29 hi0 hz0 hz1 hz2 rfl (by omega) v n xs hown ad l.length cap (l.map vu8) (by simp) hnews
   (by intro u hu; obtain ⟨c, _, rfl⟩ := List.mem_map.1 hu; rfl) (by unfold maxLen; omega) (by omega) hbase
  refine ⟨v', w', hrun, h2, h3, fun i hi => ?_⟩
  rcases h5 with h5 | h5
  ·exact .inl (by rw [← h5]; exact hi)
  ·exact .inr (by rw [h5] at hi; exact (Option.some.inj hi).symm)
theorem wp_append_bytes_at (w : World) {o : Oper} {a : Act} {K : Act → World → Prop} {Q : Exit → Act → World → Prop} (s x : Operand)
  (ho : o.op = .call { callee := .builtin .append, args := #[s, x], argTypes := #[29, 29] })
  (base B n : Nat) (v : Value) (xs : List Value) (hs : a.eval s = v) (hown : w.ownsRow base 5 1 v n xs) (A : Option Addr) (m cap : Nat) (l : List UInt8) (hx : a.eval x = .slice A m cap) (hm : l.length = m)
  (hu : BytesIn w B (.slice A m cap) l) (hbytes : n + m ≤ 140737488355328) (hbase : base ≤ w.heap.size)
  (h : ∀ v' w', w'.ownsRow base 5 1 v' (n + m) (xs ++ l.map vu8) → w.grownBy w' v.ownBlock → (∀ i, v'.ownBlock = some i → v.ownBlock = some i ∨ i = w.heap.size) → K (a.put o.dst v') w') : o.wp Tryz.prog a w K Q := by
 subst hm
 obtain ⟨v', w', hrun, h2, h3, h4⟩ := run_append_bytes_at w hown o.type A cap l hu hbytes hbase
 unfold Oper.wp execOp
 simp only [ho, resolve, invoke, builtin, Sem.run_bind, Sem.run_pure, Result.andThen_ok, List.map_toArray, List.map_cons, List.map_nil, hs, hx, hrun]
 exact h v' w' h2 h3 h4
theorem wpList_append_bytes_at (w : World) {ops : Array Oper} {rest : List Oper} {o : Oper} {a : Act} {Q : Exit → Act → World → Prop} (hgd : o.guard = none) (s x : Operand)
  (ho : o.op = .call { callee := .builtin .append, args := #[s, x], argTypes := #[29, 29] })
  (base B n : Nat) (v : Value) (xs : List Value) (hs : a.eval s = v) (hown : w.ownsRow base 5 1 v n xs) (A : Option Addr) (m cap : Nat) (l : List UInt8) (hx : a.eval x = .slice A m cap) (hm : l.length = m)
  (hu : BytesIn w B (.slice A m cap) l) (hbytes : n + m ≤ 140737488355328) (hbase : base ≤ w.heap.size)
  (h : ∀ v' w', w'.ownsRow base 5 1 v' (n + m) (xs ++ l.map vu8) → w.grownBy w' v.ownBlock → (∀ i, v'.ownBlock = some i → v.ownBlock = some i ∨ i = w.heap.size) → wpList Tryz.prog ops Q rest (a.put o.dst v') w') : wpList Tryz.prog ops Q (o :: rest) a w :=
 wpList_plain hgd fun _ hK => wp_append_bytes_at w s x ho base B n v xs hs hown A m cap l hx hm hu hbytes hbase (fun v' w' h1 h2 h3 => hK _ _ (h v' w' h1 h2 h3))

end Go.Proofs.YtemcgfncahccgaaGreat
namespace Go.Proofs.YtemcgfncahccgaaGreat
open Go.RowKit

theorem rwaits_len : ∀ (ws : List WaitD), (∀ y ∈ ws, y.b.length = 512) → (waitCells ws).length = ws.length * 513
 | [], _ => rfl
 | y :: ws, h => by
  show (y.cells ++ waitCells ws).length = _
  rw [List.length_append, WaitD.len y (h y List.mem_cons_self), rwaits_len ws (fun z hz => h z (List.mem_cons_of_mem _ hz)), List.length_cons, Nat.add_mul]
  omega
theorem waitCells_split : ∀ (ws : List WaitD), (∀ y ∈ ws, y.b.length = 512) → ∀ (j : Nat) (u : Value), (waitCells ws)[j]? = some u → ∃ i y k, ws[i]? = some y ∧ j = i * 513 + k ∧ y.cells[k]? = some u
 | [], _, j, u, hj => by cases hj
 | y :: ws, h, j, u, hj => by
  have hl := WaitD.len y (h y List.mem_cons_self)
  have hj' : (y.cells ++ waitCells ws)[j]? = some u := hj
  by_cases hlt : j < 513
  ·rw [List.getElem?_append_left (by omega)] at hj'
   exact ⟨0, y, j, rfl, by omega, hj'⟩
  ·rw [List.getElem?_append_right (by omega), hl] at hj'
   obtain ⟨i, z, k, h1, h2, h3⟩ := waitCells_split ws (fun z hz => h z (List.mem_cons_of_mem _ hz)) (j - 513) u hj'
   exact ⟨i + 1, z, k, by simpa using h1, by omega, h3⟩
theorem waitCells_one (ws : List WaitD) (u : Value) (hu : u ∈ waitCells ws) : u.oneCell' = true := by
 unfold waitCells at hu
 obtain ⟨y, _, hy⟩ := List.mem_flatMap.1 hu
 exact wait_one y u hy
theorem run_append_waits {t e : TypeId} {i0 : TypeInfo} {z0 : Value} (T : RowT t e i0 z0) (w : World) {base B n : Nat} {v : Value} {xs : List Value} (hown : w.ownsRow base e 513 v n xs) (ty : TypeId) (a : Option Addr) (cap : Nat) (l : List WaitD)
  (hu : WaitsIn w B (.slice a l.length cap) l) (hn : n ≤ 1000000) (hbase : base ≤ w.heap.size) :
  ∃ v' w', (Builtin.append_ #[t, t] ty #[v, .slice a l.length cap]).run Tryz.prog w = .ok v' w' ∧ w'.ownsRow base e 513 v' (n + l.length) (xs ++ waitCells l) ∧ w.grownBy w' v.ownBlock := by
 obtain ⟨hm, hws, a', cap', ea, hc⟩ := hu
 injection ea with e1 e2 e3
 subst e1
 have hlen := rwaits_len l hws
 cases a with
 | none =>
  have hl : l = [] := by
   cases l with
   | nil => rfl
   | cons c l =>
    obtain ⟨g, h, _⟩ := hc 0 c rfl
    cases h
  subst hl
  refine ⟨v, w, ?_, by simpa [waitCells] using hown, World.grownBy.refl w _⟩
  rcases hown.2 with ⟨rfl, rfl⟩ | ⟨g, cap2, cur, rfl, _, _, hnc, _⟩
  ·simp [Builtin.append_, run_underlying T.ht, sizeOf, typeInfo, T.hi, Builtin.lenOf, Builtin.firstCells]
  ·simp [Builtin.append_, run_underlying T.ht, sizeOf, typeInfo, T.hi, Builtin.lenOf, Builtin.firstCells, hnc, storeCells]
 | some ad =>
  have hnews : ∀ j u, (waitCells l)[j]? = some u → w.cell? (ad.add j) = some u := by
   intro j u hj
   obtain ⟨i, y, k, h1, rfl, h3⟩ := waitCells_split l hws j u hj
   obtain ⟨g, h, _, hr⟩ := hc i y h1
   obtain rfl := Option.some.inj h
   have := hr k u h3
   rw [add_at, Nat.zero_add]
   exact this
  obtain ⟨v', w', hrun, h2, h3, _, _⟩ := run_append_own_at (P := Tryz.prog) w base t ty e i0 z0 513 520 T.ht T.hi T.hz T.h1 T.h2 T.h3 (by omega) v n xs hown ad l.length cap (waitCells l) hlen hnews (waitCells_one l) (by unfold maxLen; omega) (by omega) hbase
  exact ⟨v', w', hrun, h2, h3⟩
theorem wp_append_waits {t e : TypeId} {i0 : TypeInfo} {z0 : Value} (T : RowT t e i0 z0) (w : World) {o : Oper} {a : Act} {K : Act → World → Prop} {Q : Exit → Act → World → Prop} (s x : Operand)
  (ho : o.op = .call { callee := .builtin .append, args := #[s, x], argTypes := #[t, t] })
  (base B n : Nat) (v : Value) (xs : List Value) (hs : a.eval s = v) (hown : w.ownsRow base e 513 v n xs) (A : Option Addr) (m cap : Nat) (l : List WaitD) (hx : a.eval x = .slice A m cap) (hm : l.length = m)
  (hu : WaitsIn w B (.slice A m cap) l) (hn : n ≤ 1000000) (hbase : base ≤ w.heap.size)
  (h : ∀ v' w', w'.ownsRow base e 513 v' (n + m) (xs ++ waitCells l) → w.grownBy w' v.ownBlock → K (a.put o.dst v') w') : o.wp Tryz.prog a w K Q := by
 subst hm
 obtain ⟨v', w', hrun, h2, h3⟩ := run_append_waits T w hown o.type A cap l hu hn hbase
 unfold Oper.wp execOp
 simp only [ho, resolve, invoke, builtin, Sem.run_bind, Sem.run_pure, Result.andThen_ok, List.map_toArray, List.map_cons, List.map_nil, hs, hx, hrun]
 exact h v' w' h2 h3
theorem rowT_rwait : ∃ i z, RowT 30 157 i z := by
 have h : (Tryz.prog.info? 157).map (fun i => (i.zero.map (·.cells.size), i.size, i.bytes)) = some (some 513, 513, 520) := by kernel_rfl
 obtain ⟨i, hi, he⟩ := Option.map_eq_some_iff.1 h
 injection he with h1 h2
 injection h2 with h2 h3
 obtain ⟨z, hz, h4⟩ := Option.map_eq_some_iff.1 h1
 exact ⟨i, z, ⟨Tryz.underlying30, hi, hz, h2, h3, h4⟩⟩
end Go.Proofs.YtemcgfncahccgaaGreat
namespace Go.Proofs.YtemcgfncahccgaaGreat
open Go.RowKit Go.Shelf

end Go.Proofs.YtemcgfncahccgaaGreat
namespace Go.Proofs.YtemcgfncahccgaaGreat
open Go.RowKit Go.Shelf

/-- a slice of calls that is read -/
def ActsIn (W : World) (B : Nat) (v : Value) (l : List ActD) : Prop :=
 l.length ≤ maxLen ∧ ∃ a cap, v = .slice a l.length cap ∧ l.length ≤ cap ∧ ∀ j (o : ActD), l[j]? = some o → o.ok ∧ ∃ g off, a = some ⟨g, off, none⟩ ∧ g < B ∧ W.rangeAt g (off + j * 167) o.cells
theorem ActsIn.below {W W' : World} {B C : Nat} {v : Value} {l : List ActD} (h : ActsIn W B v l) (hb : Below C W W') (hC : B ≤ C) : ActsIn W' B v l := by
 obtain ⟨h1, a, cap, h2, h3, h4⟩ := h
 refine ⟨h1, a, cap, h2, h3, fun j o hj => ?_⟩
 obtain ⟨ho, g, off, e, hg, hr⟩ := h4 j o hj
 exact ⟨ho, g, off, e, hg, range_below hr hb (by omega)⟩
theorem ActsIn.at_ {W : World} {B : Nat} {a : Option Addr} {n c : Nat} {l : List ActD} (h : ActsIn W B (.slice a n c) l) {j : Nat} {x : ActD} (hx : l[j]? = some x) :
  x.ok ∧ ∃ g off, a = some ⟨g, off, none⟩ ∧ g < B ∧ W.rangeAt g (off + j * 167) x.cells := by
 obtain ⟨_, a', c', e, _, h4⟩ := h
 injection e with ea _ _
 subst ea
 exact h4 j x hx
end Go.Proofs.YtemcgfncahccgaaGreat
namespace Go.Proofs.YtemcgfncahccgaaGreat
open Go.ChangeShapes Go.WideShapes Go.ChangeAt Go.RowKit Go.Deep

section
variable {H : Type} {enc : TypeId × Value → H} {w : World} {n : Nat} {cs : List Value} {x : DataW H × List MemPlace}
set_option maxRecDepth 100000 in
theorem act_trod (h : DataW.trod enc Tryz.prog w 0 (fun _ => true) true n 49 cs = some x) : ∃ a : ActD, a.ok ∧ cs = a.cells := by
 obtain ⟨xs, m, _, _, hlen, hxl, hg⟩ := DataW.trod_struct Tryz.underlying49 h
 have h167 : cs.length = 167 := hlen.trans (by kernel_rfl)
 have c0 : Tryz.prog.cellsOf 3 = 1 := by kernel_rfl
 have c3 : Tryz.prog.cellsOf 47 = 163 := by kernel_rfl
 have c4 : Tryz.prog.cellsOf 5 = 1 := by kernel_rfl
 have g0 : DataW.trod enc Tryz.prog w 0 (fun _ => true) true m 3 ((cs.drop 0).take (Tryz.prog.cellsOf 3)) = xs[0]? := hg 0 _ rfl
 have g1 : DataW.trod enc Tryz.prog w 0 (fun _ => true) true m 3 ((cs.drop 1).take (Tryz.prog.cellsOf 3)) = xs[1]? := hg 1 _ rfl
 have g2 : DataW.trod enc Tryz.prog w 0 (fun _ => true) true m 3 ((cs.drop 2).take (Tryz.prog.cellsOf 3)) = xs[2]? := hg 2 _ rfl
 have g3 : DataW.trod enc Tryz.prog w 0 (fun _ => true) true m 47 ((cs.drop 3).take (Tryz.prog.cellsOf 47)) = xs[3]? := hg 3 _ rfl
 have g4 : DataW.trod enc Tryz.prog w 0 (fun _ => true) true m 5 ((cs.drop 166).take (Tryz.prog.cellsOf 5)) = xs[4]? := hg 4 _ rfl
 have len : 5 = xs.length := by rw [hxl]; rfl
 have ex : ∀ i, i < 5 → ∃ y, xs[i]? = some y := fun i hi => ⟨_, List.getElem?_eq_getElem (by omega)⟩
 obtain ⟨y0, e0⟩ := ex 0 (by omega)
 obtain ⟨y1, e1⟩ := ex 1 (by omega)
 obtain ⟨y2, e2⟩ := ex 2 (by omega)
 obtain ⟨y3, e3⟩ := ex 3 (by omega)
 obtain ⟨y4, e4⟩ := ex 4 (by omega)
 rw [e0, c0] at g0
 rw [e1, c0] at g1
 rw [e2, c0] at g2
 rw [e3, c3] at g3
 rw [e4, c4] at g4
 obtain ⟨k0, p0, _⟩ := int_trod64 Tryz.underlying3 g0
 obtain ⟨k1, p1, _⟩ := int_trod64 Tryz.underlying3 g1
 obtain ⟨k2, p2, i2⟩ := int_trod64 Tryz.underlying3 g2
 obtain ⟨o, ⟨o1, o2, o3⟩, p3⟩ := obj_trod64 g3
 obtain ⟨c, p4⟩ := byte_trod g4
 refine ⟨⟨k0, k1, k2, o, c⟩, ⟨o1, o2, i2⟩, ?_⟩
 show cs = .int .i64 k0 :: .int .i64 k1 :: .int .i64 k2 :: (o.cells ++ [vu8 c])
 have t : ∀ (l : List Value) (k : Nat), l.take k ++ l.drop k = l := fun l k => List.take_append_drop k l
 have q4 : (cs.drop 166).take 1 = cs.drop 166 := List.take_of_length_le (by rw [List.length_drop, h167]; decide)
 have q3 := t (cs.drop 3) 163
 have q2 := t (cs.drop 2) 1
 have q1 := t (cs.drop 1) 1
 have q0 := t (cs.drop 0) 1
 rw [List.drop_drop] at q3 q2 q1 q0
 rw [p0] at q0
 rw [p1] at q1
 rw [p2] at q2
 rw [p3, show 3 + 163 = 166 from rfl, ← q4, p4] at q3
 rw [q3]
 refine q0.symm.trans ?_
 rw [show cs.drop (0 + 1) = cs.drop 1 from rfl, ← q1, show cs.drop (1 + 1) = cs.drop 2 from rfl, ← q2]
 rfl
set_option maxRecDepth 100000 in
theorem open_acts {r : Reach} {b0 : Nat} {v : Value} {d : DataW H} {p : List MemPlace} (hv : Value.okWide Tryz.prog w r b0 26 v) (h : DataW.Trod enc Tryz.prog w 0 (fun _ => true) true 26 v d p) : ∃ l, ActsIn w w.heap.size v l := by
 obtain ⟨a0, len0, cap0, rfl⟩ := okWide_slice Tryz.underlying26 hv
 obtain ⟨fuel, hf⟩ := h
 obtain ⟨A, len, cap, hcs, hm, hl, hi⟩ := row_els (C := 167) Tryz.underlying26 (by kernel_rfl) (by omega) hf
 obtain ⟨l, hll, hR⟩ := pick_list (fun i (o : ActD) => o.ok ∧ ∃ g off, A = some ⟨g, off, none⟩ ∧ g < w.heap.size ∧ w.rangeAt g (off + i * 167) o.cells) len (fun i hil => by
  obtain ⟨g, off, cs', m, y, e1, e2, e3, e4⟩ := hi i hil
  obtain ⟨o, ho, rfl⟩ := act_trod e4
  exact ⟨o, ho, g, off, e1, e2, e3⟩)
 subst hll
 have e : Value.slice a0 len0 cap0 = .slice A l.length cap := by simpa [Value.cells] using hcs
 exact ⟨l, hm, A, cap, e, hl, fun j o hj => hR j o hj⟩
end
end Go.Proofs.YtemcgfncahccgaaGreat
namespace Go.Proofs.YtemcgfncahccgaaGreat
open Go.RowKit

theorem flat_flip {x : DiskD} (hx : x.ok) (n o : Nat) (hn : (n : Int) < x.size) (ho : o < 512) (c : UInt8) : flatL (x.spoil n o c) = (flatL x).set (512 * n + o) ((x.lasts n).getD o 0 ^^^ c) := by
  have hy : ∀ m : Int, ((x.spoil n o c).lasts m).length = 512 := fun m => by
    show (if m = (n : Int) then flipL (x.lasts n) o c else x.lasts m).length = 512
    split
    · rw [flipL_len]; exact hx.2.2.1 _
    · exact hx.2.2.1 _
  have h0 := hx.1
  have l1 : (flatL (x.spoil n o c)).length = 512 * x.size.toNat := flat_len _ (fun m => hy m) _
  have l2 := flatL_len hx
  apply List.ext_getElem?
  intro i
  rw [List.getElem?_set]
  by_cases hi : i < 512 * x.size.toNat
  · have e : i = 512 * (i / 512) + i % 512 := by omega
    have a1 : (flatL (x.spoil n o c))[i]? = ((x.spoil n o c).lasts ((i / 512 : Nat) : Int))[i % 512]? := by
      have := flat_at (fun m : Nat => (x.spoil n o c).lasts m) (fun m => hy m) x.size.toNat (i / 512) (i % 512) (by omega) (by omega)
      rw [← e] at this
      exact this
    have a2 : (flatL x)[i]? = (x.lasts ((i / 512 : Nat) : Int))[i % 512]? := by
      have := flatL_at hx (i / 512) (i % 512) (by omega) (by omega)
      rw [← e] at this
      exact this
    rw [a1, a2, l2]
    show (if ((i / 512 : Nat) : Int) = (n : Int) then flipL (x.lasts n) o c else x.lasts ((i / 512 : Nat) : Int))[i % 512]? = _
    by_cases hq : i / 512 = n
    · rw [hq, if_pos rfl]
      unfold flipL
      rw [List.getElem?_set, hx.2.2.1]
      by_cases hr : i % 512 = o
      · rw [if_pos hr.symm, if_pos ho, if_pos (by omega), if_pos (by omega)]
      · rw [if_neg (fun h => hr h.symm), if_neg (by omega)]
    · rw [if_neg (by omega), if_neg (by omega)]
  · rw [List.getElem?_eq_none (by omega), if_neg (by omega), List.getElem?_eq_none (by omega)]
/-- may a byte be spoiled? -/
def DiskD.spoils (x : DiskD) (n o : Int) : Bool := decide (0 ≤ n ∧ n < x.size ∧ 0 ≤ o ∧ o < 512)
set_option maxRecDepth 100000 in
set_option maxHeartbeats 4000000 in
theorem rdspoil_any (x : DiskD) (n q : Int) (c : UInt8) (lv wv fv : Value) (w : World) (h : RDisk w w.heap.size lv wv fv x) (hx : x.ok) (hw : x.waits = []) :
    Calls Tryz.prog 60 #[.agg #[lv, wv, .int .i64 x.steps, fv], .int .i64 n, .int .i64 q, vu8 c] w fun e w' => Below w.heap.size w w' ∧
      ((x.spoils n q = true ∧ ∃ lv' wv', e = .returned (.tuple #[.agg #[lv', wv', .int .i64 x.steps, fv], .int .i64 0]) ∧ RDisk w' w'.heap.size lv' wv' fv (x.spoil n q.toNat c) ∧ (∀ g, lv'.ownBlock = some g → w.heap.size ≤ g ∧ g < w'.heap.size) ∧ ∀ g, wv'.ownBlock = some g → w.heap.size ≤ g ∧ g < w'.heap.size) ∨
       (x.spoils n q = false ∧ e = .returned (.tuple #[.agg #[lv, wv, .int .i64 x.steps, fv], .int .i64 4]))) := by
  have HON := Lib.hid (h.one x.steps)
  have HSZ := Lib.hid (fun W hh => rdsize_any x lv wv fv x.steps W hh hx)
  have HR := Lib.hid h
  obtain ⟨W, eW⟩ : ∃ W, W = (w.alloc (.cells #[lv, wv, .int .i64 x.steps, fv] 32)).alloc (.cells zeroD 32) := ⟨_, rfl⟩
  have b0 : Below w.heap.size w W := by rw [eW]; exact ((Below.refl _ w).alloc (Nat.le_refl _) _).alloc (by simp) _
  have k0 : Blk W w.heap.size 32 #[lv, wv, .int .i64 x.steps, fv] := by rw [eW]; exact (Blk.new w _ _).alloc _
  have k1 : Blk W (w.heap.size + 1) 32 zeroD := by rw [eW]; exact Blk.new' (by simp)
  have HB0 := Lib.hid b0
  have HRW := Lib.hid ((HR.out.below b0 (Nat.le_refl _)).mono b0.size)
  obtain ⟨sp, esp⟩ : ∃ s, s = x.spoils n q := ⟨_, rfl⟩
  rw [← esp]
  have HSP := Lib.hid esp
  unfold DiskD.spoils at esp
  clear h b0
  go_enter Tryz.func60, Tryz.ntmps60
  go_upto_region 1 with fail
  rw [← eW]
  clear eW
  have done4 : ∀ (W2 : World) (tmps : Array Value), Blk W2 (w.heap.size + 1) 32 zeroD → tmps.getD 8 undef = .pointer (some ⟨w.heap.size + 1, 0, none⟩) → tmps.getD 9 undef = .int .i64 4 →
      (results Tryz.f60 tmps).run Tryz.prog (W2.setRow (w.heap.size + 1) #[lv, wv, .int .i64 x.steps, fv]) = .ok (.tuple #[.agg #[lv, wv, .int .i64 x.steps, fv], .int .i64 4]) (W2.setRow (w.heap.size + 1) #[lv, wv, .int .i64 x.steps, fv]) := by
    intro W2 tmps h1 t8 t9
    exact results_row_tmp2 Tryz.results60 _ _ _ _ _ t8 (load_rdisk (h1.row _)) t9
  have D4 := Lib.hid done4
  clear done4
  by_cases hneg : n < 0
  · have HF := Lib.hid (show sp = false by rw [esp]; exact decide_eq_false (by omega))
    go_wp2_with (first
      | (refine wpList_load_row rfl 32 _ rfl w.heap.size rfl 32 #[lv, wv, .int .i64 x.steps, fv] (0, 0) _ k0 Tryz.underlying32 rfl (size_rdisk _ _ _ _) ?_)
      | (refine wpList_store_row rfl 32 _ _ rfl (w.heap.size + 1) #[lv, wv, .int .i64 x.steps, fv] rfl rfl 32 zeroD k1 (size_rdisk _ _ _ _) rfl HON.out ?_))
    exact bodyPost_ret (D4.out W _ k1 (by rfl) (by rfl)) rfl ⟨below_row HB0.out _ (by omega), .inr ⟨HF.out, rfl⟩⟩
  · go_wp2_with (refine wpList_load_midG rfl 32 _ rfl w.heap.size 0 rfl #[lv, wv, .int .i64 x.steps, fv] (load_rdisk k0) ?_)
    refine (HSZ.out W HRW.out).mono ?_; rintro e w1 ⟨rfl, hb1⟩
    have j0 := k0.below hb1 k0.lt
    have j1 := k1.below hb1 k1.lt
    have HB1 := Lib.hid (HB0.out.trans (hb1.mono HB0.out.size))
    have HR1 := Lib.hid ((HR.out.below HB1.out (Nat.le_refl _)).mono HB1.out.size)
    clear hb1 k0 k1 HRW HB0
    by_cases hbad : x.size ≤ n ∨ q < 0 ∨ 512 ≤ q
    · have HF := Lib.hid (show sp = false by rw [esp]; exact decide_eq_false (by omega))
      have hs : x.size ≤ n ∨ (¬ x.size ≤ n ∧ q < 0) ∨ (¬ x.size ≤ n ∧ ¬ q < 0 ∧ 512 ≤ q) := by omega
      clear hbad esp
      rcases hs with hs | ⟨h1, hs⟩ | ⟨h1, h2, hs⟩ <;>
      · go_wp2_with (first
          | (refine wpList_load_row rfl 32 _ rfl w.heap.size rfl 32 #[lv, wv, .int .i64 x.steps, fv] (0, 0) _ j0 Tryz.underlying32 rfl (size_rdisk _ _ _ _) ?_)
          | (refine wpList_store_row rfl 32 _ _ rfl (w.heap.size + 1) #[lv, wv, .int .i64 x.steps, fv] rfl rfl 32 zeroD j1 (size_rdisk _ _ _ _) rfl HON.out ?_))
        exact bodyPost_ret (D4.out w1 _ j1 (by rfl) (by rfl)) rfl ⟨below_row HB1.out _ (by omega), .inr ⟨HF.out, rfl⟩⟩
    · have h1 : ¬ x.size ≤ n := by omega
      have h2 : ¬ q < 0 := by omega
      have h3 : ¬ 512 ≤ q := by omega
      have HT := Lib.hid (show sp = true by rw [esp]; exact decide_eq_true (by omega))
      clear hbad esp D4
      obtain ⟨N, rfl⟩ := Int.eq_ofNat_of_zero_le (show 0 ≤ n by omega)
      obtain ⟨o, rfl⟩ := Int.eq_ofNat_of_zero_le (show 0 ≤ q by omega)
      have hNs : (N : Int) < x.size := by omega
      have ho : o < 512 := by omega
      obtain ⟨hl1, al, cl, elv, hl2⟩ := HR1.out.lasts
      have hfl := flatL_len hx
      have hm := hx.2.1
      have h0 := hx.1
      have HLen := Lib.hid hfl
      have HBY := Lib.hid HR1.out.lasts
      obtain ⟨L, eL⟩ : ∃ l, flatL x = l := ⟨_, rfl⟩
      have HLV := Lib.hid elv
      rw [eL] at HBY HLen HLV
      clear elv
      have HEL := Lib.hid eL
      clear eL hl2 hl1 hfl
      have c0 := j0.cell_is 0 rfl
      have HLT := Lib.hid j0.lt
      have J0 := Lib.hid j0
      have J1 := Lib.hid j1
      have HSz := Lib.hid (show x.size ≤ 4096 from hm)
      go_upto_region 3 with fail
      have k0 := j0.alloc (.cells #[] 5)
      have hbX : Below w1.heap.size w1 (w1.alloc (.cells #[] 5)) := (Below.refl _ w1).alloc (Nat.le_refl _) _
      have hown : (w1.alloc (.cells #[] 5)).ownsRow w1.heap.size 5 1 (.slice (some ⟨w1.heap.size, 0, none⟩) 0 0) 0 [] := ⟨rfl, .inr ⟨_, 0, #[], rfl, Nat.le_refl _, heap_alloc_new w1 _, Nat.le_refl _, by simp, rfl, rfl⟩⟩
      have HXB := Lib.hid (show BytesIn (w1.alloc (.cells #[] 5)) w1.heap.size (.slice al L.length cl) L by have := HBY.out.below hbX (Nat.le_refl _); rwa [HLV.out] at this)
      have HL1 := Lib.hid (show L.length ≤ 2097152 by have := HLen.out; omega)
      have cA := k0.cell_is 0 rfl
      go_wp2_with (at_builtin; refine wpList_append_bytes_at (w1.alloc (.cells #[] 5)) rfl _ _ rfl w1.heap.size w1.heap.size 0 _ [] rfl hown al L.length cl L HLV.out rfl HXB.out (by have := HL1.out; omega) (by simp) ?_; intro v2 w2 hO2 hg2 hn2; rw [Nat.zero_add, List.nil_append] at hO2; obtain ⟨a2, cap2, rfl⟩ := slice_form hO2; have k2 := (hg2.block _ k0.lt (fun e => absurd (Option.some.inj e) (Nat.ne_of_lt HLT.out))).trans k0; have c2 := Blk.cell_is k2 0 rfl; have f2 := Blk.frozen k2 0)
      have hB2 : Below w1.heap.size w1 w2 := hbX.grown hg2 hbX.size (fun r hr => by cases hr; exact Nat.le_refl _)
      have HO2 := Lib.hid hO2
      clear hn2
      obtain ⟨g, rfl, hgB, hgL⟩ : ∃ g, a2 = some ⟨g, 0, none⟩ ∧ w1.heap.size ≤ g ∧ g < w2.heap.size := by
        rcases hO2.2 with ⟨h0, hn0⟩ | ⟨g2, cap', cur, h0, hBg, hg, _⟩
        · have := HLen.out
          have hh : L.length = 0 := hn0
          omega
        · cases h0; exact ⟨g2, rfl, hBg, Blk.lt (t := 5) (cs := cur) hg⟩
      have hGg : w.heap.size < g := Nat.lt_of_lt_of_le HLT.out hgB
      obtain ⟨W3, eW3⟩ : ∃ W, W = w2.setCell ⟨w.heap.size, 0, none⟩ (.slice (some ⟨g, 0, none⟩) L.length cap2) := ⟨_, rfl⟩
      have k3 : Blk W3 w.heap.size 32 #[.slice (some ⟨g, 0, none⟩) L.length cap2, wv, .int .i64 x.steps, fv] := by rw [eW3]; exact Blk.set_ (w := w2) (t := 32) (cs := #[lv, wv, .int .i64 x.steps, fv]) k2 0 _
      have ho3 : Out (fun i => i = w.heap.size) w2 W3 := by rw [eW3]; exact out_set rfl
      have o3 := ownsRow_out ho3 hO2 (fun i hi e => by cases hi; exact absurd e (Nat.ne_of_gt hGg))
      have HY := Lib.hid (show L[512 * N + o]? = some ((x.lasts N).getD o 0) by rw [← HEL.out, flatL_at hx N o hNs ho, List.getElem?_eq_getElem (by rw [hx.2.2.1]; exact ho), List.getD_eq_getElem?_getD, List.getElem?_eq_getElem (by rw [hx.2.2.1]; exact ho)]; rfl)
      obtain ⟨y, ey⟩ : ∃ y, y = (x.lasts N).getD o 0 := ⟨_, rfl⟩
      rw [← ey] at HY
      have HEY := Lib.hid ey
      clear ey
      have hiL : ((512 * N + o : Nat) : Int) < (L.length : Int) := by have := HLen.out; omega
      obtain ⟨I, eI⟩ : ∃ I, I = 512 * N + o := ⟨_, rfl⟩
      have hmul : IntKind.i64.wrap (512 * (N : Int)) = 512 * N := by rw [IntKind.wrap_i64]; omega
      have hadd : IntKind.i64.wrap (512 * (N : Int) + o) = (I : Int) := by rw [IntKind.wrap_i64]; omega
      rw [← eI] at HY hiL
      have cI : W3.cell? ⟨g, I, none⟩ = some (vu8 y) := by
        have := o3.cells rfl I _ (show (L.map vu8)[I]? = some (vu8 y) by rw [List.getElem?_map, HY.out]; rfl)
        rwa [add_at, Nat.zero_add] at this
      have c0' := k3.cell_is 0 rfl
      have fI := ownsRow_frozen o3 I
      have HO3 := Lib.hid o3
      have HB3 := Lib.hid hB2
      have K3 := Lib.hid k3
      have HOU := Lib.hid ho3
      have HEI := Lib.hid eI
      have K13 := Lib.hid (HOU.out.blk (J1.out.below HB3.out J1.out.lt) (by omega))
      rw [← eW3]
      clear eW3 hO2 o3 hB2 k3 ho3 k2 c2 f2 eI hg2 hown k0 cA c0 hbX
      have hB4 : Below w.heap.size w W3 := (HB1.out.trans (HB3.out.mono HB1.out.size)).trans (HOU.out.below (by have := HB1.out.size; have := HB3.out.size; omega) (fun i hi e => by omega))
      have HB4 := Lib.hid hB4
      have cId : W3.drew.cell? ⟨g, I, none⟩ = some (.int .u8 (y.toNat : Int)) := cI
      have fId : W3.drew.frozen? ⟨g, I, none⟩ = false := fI
      clear hB4 cI fI
      refine wp_region_held_drew (S := (fun w' => w'.cell? ⟨w.heap.size, 0, none⟩ = some (.slice (some ⟨g, 0, none⟩) L.length cap2))) (by kernel_rfl) (by first | exact c0' | ((try dsimp only); exact c0')) (fun hHeld => ?_)
      refine tk 0 ?_
      refine tk 1 ?_
      refine tk 2 ?_
      refine tk 3 ?_
      refine tk 4 ?_
      refine tk 5 ?_
      refine tk 6 ?_
      refine tk 7 ?_
      refine tk 8 ?_
      refine tk 9 ?_
      refine tk 10 ?_
      refine tk 11 ?_
      refine tk 12 ?_
      refine tk 14 ?_
      refine rd 13 fun K hK => ?_
      try rw [if_pos (by rfl)]
      go_simp
      refine hK.out _ _ (by first | exact c0' | ((try dsimp only); exact c0')) (fun hHeld => ?_)
      clear hK K
      try simp only [Act.put, pz0, pz1, pz2, pz3, pz4, pz5]
      refine tk 15 ?_
      refine tk 16 ?_
      refine rd 17 fun K hK => ?_
      try rw [if_pos (by rfl)]
      go_simp
      obtain ⟨W4, eW4⟩ : ∃ W, W = (W3.setCell ⟨g, I, none⟩ (.int .u8 (bits .xor .u8 (y.toNat : Int) (c.toNat : Int)))).drew := ⟨_, rfl⟩
      have o4 : W4.ownsRow w1.heap.size 5 1 (.slice (some ⟨g, 0, none⟩) L.length cap2) L.length ((L.set I (y ^^^ c)).map vu8) := by
        have h1 := ownsRow_set HO3.out I (.int .u8 (bits .xor .u8 (y.toNat : Int) (c.toNat : Int))) (by rw [List.length_map]; omega)
        have h2 := ownsRow_out (F := fun _ => False) (outB (Below.refl _ (W3.setCell ⟨g, I, none⟩ (.int .u8 (bits .xor .u8 (y.toNat : Int) (c.toNat : Int))))).drew) h1 (fun _ _ => id)
        rw [eW4, List.map_set]
        rwa [xor_u8] at h2 ⊢
      have k4 : Blk W4 w.heap.size 32 #[.slice (some ⟨g, 0, none⟩) L.length cap2, wv, .int .i64 x.steps, fv] := by rw [eW4]; exact (Blk.far K3.out (p := ⟨g, I, none⟩) (fun e => absurd e (Nat.ne_of_lt hGg)) _).drew
      have ho4 : Out (fun i => i = g) W3 W4 := by rw [eW4]; exact Out.trans (F := fun i => i = g) (G := fun i => i = g) (out_set (F := fun i => i = g) rfl) (outB (Below.refl _ _).drew) (fun _ _ h => h)
      have hB4 : Below w.heap.size w W4 := HB4.out.trans (ho4.below HB4.out.size (fun i hi e => by omega))
      clear HB4
      have HB4 := Lib.hid hB4
      have K14 := Lib.hid (ho4.blk K13.out (fun e => by have := J1.out.lt; omega))
      have HO4 := Lib.hid o4
      have c04 := k4.cell_is 0 rfl
      rw [← eW4]
      clear eW4 hB4 o4 cId fId
      refine hK.out _ _ (by first | exact c04 | ((try dsimp only); exact c04)) (fun hHeld => ?_)
      clear hK K
      refine wpAnyH_done (by kernel_rfl) ?_ _
      try simp only [Act.put, pz0, pz1, pz2, pz3, pz4, pz5]
      obtain ⟨i5, z5, HT5⟩ := rowT_rwait
      have HTT := Lib.hid HT5
      have HWI := Lib.hid (show WaitsIn W4 W4.heap.size wv [] by
        have := (HR.out.waits.below HB4.out (Nat.le_refl _)).more HB4.out.size
        rwa [hw] at this)
      obtain ⟨_, _, aw, cw, ewv, _⟩ := HWI.out
      have HWV := Lib.hid ewv
      have HWJ := Lib.hid (show WaitsIn (W4.alloc (.cells #[] 157)) W4.heap.size (.slice aw 0 cw) [] by
        have := HWI.out.below ((Below.refl _ W4).alloc (Nat.le_refl _) (.cells #[] 157)) (Nat.le_refl _)
        rwa [HWV.out] at this)
      clear ewv HT5
      have k5 := k4.alloc (.cells #[] 157)
      have hown5 : (W4.alloc (.cells #[] 157)).ownsRow W4.heap.size 157 513 (.slice (some ⟨W4.heap.size, 0, none⟩) 0 0) 0 [] := ⟨rfl, .inr ⟨_, 0, #[], rfl, Nat.le_refl _, heap_alloc_new W4 _, Nat.le_refl _, by simp, rfl, rfl⟩⟩
      have HLT4 := Lib.hid k4.lt
      have c15 := k5.cell_is 1 rfl
      go_wp2_with (at_builtin; refine wpList_plain rfl fun K' hK' => ?_; refine wp_append_waits HTT.out (W4.alloc (.cells #[] 157)) _ _ rfl W4.heap.size W4.heap.size 0 _ [] rfl hown5 aw 0 cw [] HWV.out rfl HWJ.out (by decide) (by simp) ?_; intro v5 w5 hO5 hg5; rw [Nat.add_zero] at hO5; obtain ⟨a5, cap5, rfl⟩ := slice_form hO5; refine hK' _ _ ?_; have k6 := (hg5.block _ k5.lt (fun e => absurd (Option.some.inj e) (Nat.ne_of_lt HLT4.out))).trans k5; have c6 := Blk.cell_is k6 1 rfl; have f6 := Blk.frozen k6 1)
      have hB5 : Below W4.heap.size W4 w5 := ((Below.refl _ W4).alloc (Nat.le_refl _) _).grown hg5 (by simp) (fun r hr => by cases hr; exact Nat.le_refl _)
      obtain ⟨W6, eW6⟩ : ∃ W, W = w5.setCell ⟨w.heap.size, 1, none⟩ (.slice a5 0 cap5) := ⟨_, rfl⟩
      have k6' : Blk W6 w.heap.size 32 #[.slice (some ⟨g, 0, none⟩) L.length cap2, .slice a5 0 cap5, .int .i64 x.steps, fv] := by rw [eW6]; exact Blk.set_ (w := w5) (t := 32) (cs := #[.slice (some ⟨g, 0, none⟩) L.length cap2, wv, .int .i64 x.steps, fv]) k6 1 _
      have ho6 : Out (fun i => i = w.heap.size) w5 W6 := by rw [eW6]; exact out_set rfl
      have hB6 : Below w.heap.size w W6 := (HB4.out.trans (hB5.mono HB4.out.size)).trans (ho6.below (by have := HB4.out.size; have := hB5.size; omega) (fun i hi e => by omega))
      have hg4 : g < W4.heap.size := ownBlock_lt HO4.out rfl
      have o6 := ownsRow_out ho6 (ownsRow_out (F := fun _ => False) (outB hB5) HO4.out (fun _ _ => id)) (fun i hi e => by cases hi; exact absurd e (Nat.ne_of_gt hGg))
      have ha5 : ∀ i, (Value.slice a5 0 cap5).ownBlock = some i → W4.heap.size ≤ i ∧ i < W6.heap.size := fun i hi => ⟨(World.ownsRow.lt hO5 i hi).1, Nat.lt_of_lt_of_le (ownBlock_lt hO5 hi) ho6.size⟩
      have k16 := ho6.blk (K14.out.below hB5 K14.out.lt) (by omega)
      obtain ⟨_, _, _, efv, _⟩ := HR.out.fails
      have HFV := Lib.hid efv
      clear efv
      have HK6 := Lib.hid k6'
      have HK16 := Lib.hid k16
      have HB6 := Lib.hid hB6
      have HO6 := Lib.hid o6
      have HA5 := Lib.hid ha5
      have c66 := k6'.cell_is 1 rfl
      rw [← eW6]
      clear eW6 k6' ho6 hB6 o6 ha5 k16 hO5 hg5 k6 c6 f6 hB5 k5 hown5 c15 k4
      go_loopw [10] (fun i wr => i = .int .i64 0 ∧ wr = W6) (fun _ _ => 0)
      case atStart => exact ⟨rfl, rfl⟩
      case round =>
        obtain ⟨rfl, rfl⟩ := hrel
        go_wp2_with (first
          | (refine wpList_load_row rfl 32 _ rfl w.heap.size rfl 32 #[.slice (some ⟨g, 0, none⟩) L.length cap2, .slice a5 0 cap5, .int .i64 x.steps, fv] (0, 0) _ HK6.out Tryz.underlying32 rfl (size_rdisk _ _ _ _) ?_)
          | (refine wpList_store_row rfl 32 _ _ rfl (w.heap.size + 1) #[.slice (some ⟨g, 0, none⟩) L.length cap2, .slice a5 0 cap5, .int .i64 x.steps, fv] rfl rfl 32 zeroD HK16.out (size_rdisk _ _ _ _) rfl (by rw [HFV.out]; simp [Value.oneCell']) ?_))
        have ho7 : Out (fun i => i = w.heap.size + 1) wr (wr.setRow (w.heap.size + 1) #[.slice (some ⟨g, 0, none⟩) L.length cap2, .slice a5 0 cap5, .int .i64 x.steps, fv]) := out_row _ rfl
        have hB7 := below_row HB6.out #[.slice (some ⟨g, 0, none⟩) L.length cap2, .slice a5 0 cap5, .int .i64 x.steps, fv] (g := w.heap.size + 1) (by omega)
        have hg1 : w.heap.size + 1 < g := Nat.lt_of_lt_of_le J1.out.lt hgB
        have o7 := ownsRow_out ho7 HO6.out (fun i hi e => by cases hi; exact absurd e (Nat.ne_of_gt hg1))
        refine bodyPost_ret (results_row_tmp2 Tryz.results60 _ _ _ _ _ (by rfl) (load_rdisk (HK16.out.row _)) (by rfl)) rfl ⟨hB7, .inl ⟨HT.out, _, _, rfl, ⟨?_, ?_, (HR.out.fails.below hB7 (Nat.le_refl _)).mono hB7.size⟩, ?_, ?_⟩⟩
        · rw [Int.toNat_natCast, flat_flip hx N o hNs ho, HEL.out, ← HEI.out, ← HEY.out]
          obtain ⟨b1, a, cap, b2, b3, b4⟩ := BytesIn.own o7
          refine ⟨b1, a, cap, b2, b3, fun j c hc => ?_⟩
          obtain ⟨g', off, e', hg', hr⟩ := b4 j c hc
          exact ⟨g', off, e', ownBlock_lt o7 (by rw [b2, e']; rfl), hr⟩
        · show WaitsIn _ _ _ (x.waits.map _)
          rw [hw]
          exact ⟨Nat.zero_le _, (fun _ h => by cases h), a5, cap5, rfl, fun i y h => by simp at h⟩
        · exact fun i hi => by cases hi; exact ⟨Nat.le_of_lt hGg, ownBlock_lt o7 rfl⟩
        · exact fun i hi => ⟨by have := (HA5.out i hi).1; have := HB4.out.size; omega, Nat.lt_of_lt_of_le (HA5.out i hi).2 ho7.size⟩
end Go.Proofs.YtemcgfncahccgaaGreat
