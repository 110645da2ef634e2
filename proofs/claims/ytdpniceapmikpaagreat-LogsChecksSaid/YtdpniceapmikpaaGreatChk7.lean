/-
  Spoil: bits of a byte are turned. (Written by gen_lspoil.py.)
-/
import Derived.Test.YtdpniceapmikpaaGreatChk6
set_option linter.unusedVariables false
set_option linter.unusedSimpArgs false
namespace Go.Proofs.YtdpniceapmikpaaGreat
open Go.RowKit

theorem ofInt_u8 (n : Nat) : BitVec.ofInt 8 (n : Int) = BitVec.ofNat 8 n := by rw [BitVec.ofInt_natCast]
theorem xor_u8 (x y : UInt8) : bits .xor .u8 (x.toNat : Int) (y.toNat : Int) = ((x ^^^ y).toNat : Int) := by
  show IntKind.u8.wrap ((BitVec.ofInt 8 (x.toNat : Int) ^^^ BitVec.ofInt 8 (y.toNat : Int)).toNat : Int) = _
  rw [ofInt_u8, ofInt_u8, IntKind.wrap_u8', UInt8.toNat_xor, BitVec.toNat_xor, BitVec.toNat_ofNat, BitVec.toNat_ofNat, Nat.mod_eq_of_lt (UInt8.toNat_lt x), Nat.mod_eq_of_lt (UInt8.toNat_lt y)]
  have h := UInt8.toNat_lt (x ^^^ y)
  rw [UInt8.toNat_xor] at h
  omega
/-- bits of a byte are turned -/
def flipL (b : List UInt8) (o : Nat) (c : UInt8) : List UInt8 := b.set o (b.getD o 0 ^^^ c)
theorem flipL_len (b : List UInt8) (o : Nat) (c : UInt8) : (flipL b o c).length = b.length := by simp [flipL]
def flipW (n : Int) (o : Nat) (c : UInt8) (y : WaitD) : WaitD := if y.n = n then ⟨y.n, flipL y.b o c⟩ else y
def DiskD.spoilK (x : DiskD) (n : Int) (o : Nat) (c : UInt8) (k : Nat) : DiskD := { x with lasts := fun m => if m = n then flipL (x.lasts n) o c else x.lasts m, waits := (x.waits.take k).map (flipW n o c) ++ x.waits.drop k }
def DiskD.spoil (x : DiskD) (n : Int) (o : Nat) (c : UInt8) : DiskD := { x with lasts := fun m => if m = n then flipL (x.lasts n) o c else x.lasts m, waits := x.waits.map (flipW n o c) }
theorem flip_at (b : List UInt8) (o : Nat) (c : UInt8) (ho : o < b.length) : b[o]? = some (b.getD o 0) := by
  rw [List.getElem?_eq_getElem ho, List.getD_eq_getElem?_getD, List.getElem?_eq_getElem ho]; rfl
theorem flip_cells (b : List UInt8) (o : Nat) (c : UInt8) : ((flipL b o c).map vu8) = (b.map vu8).set o (vu8 (b.getD o 0 ^^^ c)) := by simp [flipL, List.map_set]
theorem waitCells_append (A B : List WaitD) : waitCells (A ++ B) = waitCells A ++ waitCells B := by simp [waitCells]
theorem waitCells_len : ∀ (A : List WaitD), (∀ y ∈ A, y.b.length = 512) → (waitCells A).length = A.length * 513
  | [], _ => rfl
  | y :: A, h => by
    have := waitCells_len A (fun z hz => h z (List.mem_cons_of_mem _ hz))
    have h2 := WaitD.len y (h y List.mem_cons_self)
    show (y.cells ++ waitCells A).length = (A.length + 1) * 513
    rw [List.length_append, this, h2]
    omega
theorem waitCells_set (A R : List WaitD) (hA : ∀ y ∈ A, y.b.length = 512) (y y' : WaitD) (j : Nat) (u : Value) (hj : j < y.cells.length) (e : y'.cells = y.cells.set j u) : (waitCells (A ++ y :: R)).set (A.length * 513 + j) u = waitCells (A ++ y' :: R) := by
  rw [waitCells_append, waitCells_append, ← waitCells_len A hA]
  rw [List.set_append_right _ _ (by omega), show (waitCells A).length + j - (waitCells A).length = j by omega]
  congr 1
  show (y.cells ++ waitCells R).set j u = y'.cells ++ waitCells R
  rw [List.set_append_left _ _ hj, e]
theorem ownsRow_set {w : World} {B k : Nat} {e : TypeId} {n g cap : Nat} {xs : List Value} (h : w.ownsRow B e k (.slice (some ⟨g, 0, none⟩) n cap) n xs) (j : Nat) (u : Value) (hj : j < xs.length) : (w.setCell ⟨g, j, none⟩ u).ownsRow B e k (.slice (some ⟨g, 0, none⟩) n cap) n (xs.set j u) := by
  rcases h.2 with ⟨h0, _⟩ | ⟨g', cap', cur, h0, hB, hg, h1, h2, h3, h4⟩
  · cases h0
  · cases h0
    refine ⟨by rw [List.length_set]; exact h.1, .inr ⟨g, cap, cur.setIfInBounds j u, rfl, hB, ?_, h1, h2, by simpa using h3, ?_⟩⟩
    · have := Blk.set_ (w := w) (g := g) (t := e) (cs := cur) hg j u
      exact this
    · rw [← h4]
      apply List.ext_getElem?
      intro i
      rw [List.getElem?_take, List.getElem?_set, List.getElem?_take]
      have hlen : (List.take (n * k) cur.toList).length = xs.length := by rw [h4]
      rw [hlen]
      have hc : cur.toList.length = cap * k := by simpa using h3
      have hxs := h.1
      by_cases hi : i < n * k
      · simp only [hi, if_true]
        rw [Array.getElem?_toList, Array.getElem?_setIfInBounds]
        by_cases he : j = i
        · subst he
          have hjc : j < cur.size := by
            have : (List.take (n * k) cur.toList).length ≤ cur.toList.length := by rw [List.length_take]; exact Nat.min_le_right _ _
            rw [hlen] at this
            simp at this
            omega
          simp [hj, hjc]
        · simp [he]
      · have : j ≠ i := by omega
        simp [hi, this]
theorem diskWaits_set {w : World} {D : DiskP} {x : DiskD} (h : DiskAt w D x) {g cap : Nat} (ev : D.wv = .slice (some ⟨g, 0, none⟩) x.waits.length cap) (j : Nat) (u : Value) (ws : List WaitD) (hl : ws.length = x.waits.length) (hj : j < (waitCells x.waits).length) (hs : (waitCells x.waits).set j u = waitCells ws) :
    DiskAt (w.setCell ⟨g, j, none⟩ u) D { x with waits := ws } ∧ DStep D D w (w.setCell ⟨g, j, none⟩ u) := by
  have ho : D.wv.ownBlock = some g := by rw [ev]; rfl
  obtain ⟨n1, n2, n3⟩ := h.ne
  refine ⟨⟨h.blk.far (p := ⟨g, j, none⟩) (fun e => n2 g ho e.symm) u, ?_, ?_, ?_, h.apart⟩, ⟨out_set (.inr (.inr (.inl ho))), rfl, fun i hi => .inl hi⟩⟩
  · obtain ⟨l, hm, hl⟩ := h.lasts
    exact ⟨l, (Below.heap_setCell w _ _ _ (fun e => ne_own_map h.waits hm g ho e.symm)).trans hm, hl⟩
  · show World.ownsRow _ 0 _ 513 D.wv ws.length (waitCells ws)
    have hw := h.waits
    rw [ev] at hw ⊢
    rw [hl, ← hs]
    exact ownsRow_set hw j u hj
  · rcases h.fails with hn | ⟨r, k, e, h1, h2⟩
    · exact .inl hn
    · exact .inr ⟨r, k, e, (Below.heap_setCell w _ _ _ (fun e => ne_own_map h.waits h1 g ho e.symm)).trans h1, h2⟩
theorem diskLasts_set {w : World} {D : DiskP} {x : DiskD} (h : DiskAt w D x) (n : Int) (b : List UInt8) :
    ∃ w', (Instr.mapUpdate 148 (.map (some D.lm)) (.int .i64 n) (sectorV b)).run Tryz.prog w = .ok () w' ∧ Turn D.lm w w' ∧ DiskAt w' D { x with lasts := fun m => if m = n then b else x.lasts m } ∧ DStep D D w w' := by
  obtain ⟨l, hm, hl⟩ := h.lasts
  obtain ⟨w', l', h1, h2, h3, h4⟩ := run_insert (P := Tryz.prog) w Tryz.underlying148 Tryz.underlying3 D.lm l hm n (sectorV b)
  obtain ⟨n1, n2, n3⟩ := h.ne
  have ho : Out (fun i => i = D.lm) w w' := ⟨h4.os, h4.tape, h4.output, Nat.le_of_eq h4.size.symm, fun i _ hi => h4.block i hi⟩
  refine ⟨w', h1, h4, ⟨ho.blk h.blk (fun e => n1 e.symm), ⟨l', h2, fun m => ?_⟩, ownsRow_out ho h.waits (fun i hi => ne_own_map h.waits hm i hi), ?_, h.apart⟩, ⟨⟨ho.os, ho.tape, ho.output, ho.size, fun i hi hn => ho.block i hi (fun e => hn (.inr (.inl e)))⟩, rfl, fun i hi => .inl hi⟩⟩
  · rw [h3 m]
    by_cases e : m = n
    · simp only [if_pos e]; exact .inl ⟨_, rfl, rfl⟩
    · simp only [if_neg e]; exact hl m
  · rcases h.fails with hn | ⟨r, k, e, h1, h2⟩
    · exact .inl hn
    · refine .inr ⟨r, k, e, ?_, h2⟩
      by_cases hr : r = D.lm
      · exact absurd (by rw [e, hr]) h.apart
      · exact (h4.block r hr).trans h1
theorem wp_mapUpdate_is {P : Program} {o : Oper} {a : Act} {K : Act → World → Prop} {Q : Exit → Act → World → Prop} (w w' : World) (t : TypeId) (m k v : Operand) (ho : o.op = .mapUpdate t m k v) (mv kv vv : Value) (hm : a.eval m = mv) (hk : a.eval k = kv) (hv : a.eval v = vv)
    (hr : (Instr.mapUpdate t mv kv vv).run P w = .ok () w') (h : K (a.put o.dst undef) w') : o.wp P a w K Q := by
  unfold Oper.wp execOp
  simp only [ho, hm, hk, hv, hr, Sem.run_bind, Sem.run_pure, Result.andThen_ok]
  exact h
theorem flip_val (b : List UInt8) (o : Nat) (c : UInt8) (ho : o < b.length) : ((b.map vu8).set o (.int .u8 (bits .xor .u8 ((b[o]'ho).toNat : Int) (c.toNat : Int)))).toArray = ((flipL b o c).map vu8).toArray := by
  rw [flip_cells, xor_u8]
  have e : b.getD o 0 = b[o]'ho := by rw [List.getD_eq_getElem?_getD, List.getElem?_eq_getElem ho]; rfl
  rw [e]
theorem spoilK_at (x : DiskD) (n : Int) (o : Nat) (c : UInt8) (k : Nat) (hk : k < x.waits.length) : (x.spoilK n o c k).waits = (x.waits.take k).map (flipW n o c) ++ (x.waits[k]'hk) :: x.waits.drop (k + 1) := by
  show (x.waits.take k).map (flipW n o c) ++ x.waits.drop k = _
  rw [List.drop_eq_getElem_cons hk]
theorem spoilK_next (x : DiskD) (n : Int) (o : Nat) (c : UInt8) (k : Nat) (hk : k < x.waits.length) : (x.spoilK n o c (k + 1)).waits = (x.waits.take k).map (flipW n o c) ++ flipW n o c (x.waits[k]'hk) :: x.waits.drop (k + 1) := by
  show (x.waits.take (k + 1)).map (flipW n o c) ++ x.waits.drop (k + 1) = _
  have e : x.waits.take (k + 1) = x.waits.take k ++ [x.waits[k]'hk] := by rw [List.take_add_one, List.getElem?_eq_getElem hk]; rfl
  rw [e, List.map_append, List.append_assoc]
  rfl
theorem ownsRow_frozen {w : World} {B k : Nat} {e : TypeId} {n g cap : Nat} {xs : List Value} (h : w.ownsRow B e k (.slice (some ⟨g, 0, none⟩) n cap) n xs) (j : Nat) : w.frozen? ⟨g, j, none⟩ = false := by
  rcases h.2 with ⟨h0, _⟩ | ⟨g', cap', cur, h0, hB, hg, _⟩
  · cases h0
  · cases h0
    exact Blk.frozen (t := e) (cs := cur) hg j
theorem spoilK_len (x : DiskD) (n : Int) (o : Nat) (c : UInt8) (k : Nat) : (x.spoilK n o c k).waits.length = x.waits.length := by
  simp [DiskD.spoilK]; omega
theorem flipW_len (n : Int) (o : Nat) (c : UInt8) (y : WaitD) (hy : y.b.length = 512) : (flipW n o c y).b.length = 512 := by
  unfold flipW; split
  · rw [flipL_len]; exact hy
  · exact hy
theorem spoilK_sound (x : DiskD) (hx : x.sound) (n : Int) (o : Nat) (c : UInt8) (k : Nat) : (x.spoilK n o c k).sound := by
  refine ⟨fun m => ?_, fun y hy => ?_, by rw [spoilK_len]; exact hx.2.2⟩
  · show (if m = n then flipL (x.lasts n) o c else x.lasts m).length = 512
    split
    · rw [flipL_len]; exact hx.1 n
    · exact hx.1 m
  · have hy' : y ∈ (x.waits.take k).map (flipW n o c) ++ x.waits.drop k := hy
    rcases List.mem_append.1 hy' with h | h
    · obtain ⟨z, hz, rfl⟩ := List.mem_map.1 h
      exact flipW_len n o c z (hx.2.1 z (List.mem_of_mem_take hz))
    · exact hx.2.1 y (List.mem_of_mem_drop h)
theorem spoilK_all (x : DiskD) (n : Int) (o : Nat) (c : UInt8) : x.spoilK n o c x.waits.length = x.spoil n o c := by
  unfold DiskD.spoilK DiskD.spoil
  rw [List.take_length, List.drop_length, List.append_nil]
theorem spoilK_eq (x : DiskD) (n : Int) (o : Nat) (c : UInt8) (k k' : Nat) (h : (x.spoilK n o c k).waits = (x.spoilK n o c k').waits) : x.spoilK n o c k = x.spoilK n o c k' := by
  have e : (x.waits.take k).map (flipW n o c) ++ x.waits.drop k = (x.waits.take k').map (flipW n o c) ++ x.waits.drop k' := h
  unfold DiskD.spoilK
  rw [e]

set_option maxRecDepth 100000 in
set_option maxHeartbeats 4000000 in
theorem dspoil_any (D : DiskP) (x : DiskD) (n : Int) (o : Nat) (c : UInt8) (w : World) (h : DiskAt w D x) (hx : x.ok) (hn : 0 ≤ n ∧ n < x.size) (ho : o < 512) :
    Calls Tryz.prog 37 #[ptr D.p, .int .i64 n, .int .i64 o, .int .u8 (c.toNat : Int)] w fun e w' => e = .returned (.int .i64 0) ∧ DiskAt w' D (x.spoil n o c) ∧ DStep D D w w' := by
  have HR := Lib.hid (dright_yes D x n o w h hx hn (by omega))
  have c1 := h.blk.cell_is 1 rfl
  have k1 := look_lasts h n
  have hl := hx.2.2.1 n
  have HL := Lib.hid hl
  have hlt := h.blk.lt
  have hoi : (o : Int) < 512 := by omega
  have HH := Lib.hid h
  obtain ⟨hmax, hws, a, cap, ev, hcc⟩ := h.waitsIn hx.sound
  clear hcc
  unfold ptr sectorV at *
  go_enter Tryz.func37, Tryz.ntmps37
  go_wp2_with fail
  refine HR.out.mono ?_; rintro e w1 ⟨rfl, rfl⟩
  go_upto_region 4 with fail
  have hK := Blk.new w 111 Tryz.zeroCells111
  go_wp2_with (first
    | (refine wpList_store_row rfl 111 _ _ rfl w.heap.size ((x.lasts n).map vu8).toArray rfl rfl 111 _ hK (sector_size _ HL.out) (by rw [zero111]; exact sector_eq _ _ List.length_replicate HL.out) (sector_all _) ?_; rw [World.setRow_alloc_new])
    | fail)
  rw [flip_val (x.lasts n) o c (by omega)]
  obtain ⟨W, eW⟩ : ∃ W, W = w.alloc (.cells ((flipL (x.lasts n) o c).map vu8).toArray 111) := ⟨_, rfl⟩
  have hbW : Below w.heap.size w W := by rw [eW]; exact (Below.refl _ w).alloc (Nat.le_refl _) _
  have hG2 : Blk W w.heap.size 111 ((flipL (x.lasts n) o c).map vu8).toArray := by rw [eW]; exact Blk.new _ _ _
  rw [← eW]
  clear eW hK
  have hHW := (HH.out.below hbW).drew
  have c1b := hHW.blk.cell_is 1 rfl
  have hszF : (Tryz.prog.info? 111).map (·.size) = some ((flipL (x.lasts n) o c).map vu8).length := by rw [List.length_map, flipL_len, HL.out]; exact size_sector
  obtain ⟨W2, hrun, hT, hD2, hS2⟩ := diskLasts_set hHW n (flipL (x.lasts n) o c)
  have hS3 : DStep D D w W2 := hS2.first hbW.drew HH.out.has_lt
  have HD2 := Lib.hid hD2
  have HS3 := Lib.hid hS3
  have HHW := Lib.hid hHW
  have hlm : D.lm ≠ w.heap.size := fun e => by have := HH.out.has_lt D.lm (.inr (.inl rfl)); omega
  clear hHW hD2 hS2 hS3 h
  refine wp_region_held_drew (S := (fun w' => w'.cell? ⟨D.p, 1, none⟩ = some (.map (some D.lm)) ∧ Blk w' w.heap.size 111 ((flipL (x.lasts n) o c).map vu8).toArray)) (by kernel_rfl) (by (try dsimp only); (exact ⟨c1b, hG2.drew⟩)) (fun hHeld => ?_)
  refine wpAnyH_take (i := 0) (v := ?v0a) rfl (by kernel_rfl) (by kernel_rfl) (by kernel_rfl) (fun _ _ _ h => h) (Or.inl ⟨by rfl, ?hy0a⟩) (by assumption) ?_
  case hy0a => (intro w hSw; (try dsimp only at hSw); go_simp; try with_reducible rfl)
  try simp only [Act.put, List.getElem_toArray, List.getElem_cons_succ, List.getElem_cons_zero, List.setIfInBounds_toArray, List.set_cons_zero, List.set_cons_succ]
  refine wpAnyH_take (i := 1) (v := ?v1a) rfl (by kernel_rfl) (by kernel_rfl) (by kernel_rfl) (fun _ _ _ h => h) (Or.inl ⟨by rfl, ?hy1a⟩) (by assumption) ?_
  case hy1a => (intro w hSw; (try dsimp only at hSw); go_simp; try with_reducible rfl)
  try simp only [Act.put, List.getElem_toArray, List.getElem_cons_succ, List.getElem_cons_zero, List.setIfInBounds_toArray, List.set_cons_zero, List.set_cons_succ]
  refine wpAnyH_take (i := 2) (v := ?v2a) rfl (by kernel_rfl) (by kernel_rfl) (by kernel_rfl) (fun _ _ _ h => h) (Or.inl ⟨by rfl, ?hy2a⟩) (by assumption) ?_
  case hy2a => (intro w hSw; (try dsimp only at hSw); go_simp; try with_reducible rfl)
  try simp only [Act.put, List.getElem_toArray, List.getElem_cons_succ, List.getElem_cons_zero, List.setIfInBounds_toArray, List.set_cons_zero, List.set_cons_succ]
  refine wpAnyH_take (i := 3) (v := ?v3a) rfl (by kernel_rfl) (by kernel_rfl) (by kernel_rfl) (fun _ _ _ h => h) (Or.inl ⟨by rfl, ?hy3a⟩) (by assumption) ?_
  case hy3a => (intro w hSw; (try dsimp only at hSw); go_simp; try with_reducible rfl)
  try simp only [Act.put, List.getElem_toArray, List.getElem_cons_succ, List.getElem_cons_zero, List.setIfInBounds_toArray, List.set_cons_zero, List.set_cons_succ]
  refine wpAnyH_take (i := 4) (v := ?v4a) rfl (by kernel_rfl) (by kernel_rfl) (by kernel_rfl) (fun _ _ _ h => h) (Or.inl ⟨by rfl, ?hy4a⟩) (by assumption) ?_
  case hy4a => (intro w hSw; (try dsimp only at hSw); go_simp; try with_reducible rfl)
  try simp only [Act.put, List.getElem_toArray, List.getElem_cons_succ, List.getElem_cons_zero, List.setIfInBounds_toArray, List.set_cons_zero, List.set_cons_succ]
  refine wpAnyH_take (i := 5) rfl (by kernel_rfl) (by kernel_rfl) (by kernel_rfl) (fun _ _ _ h => h) (yieldsIf_load_mid (by rfl) 111 _ rfl w.heap.size 0 rfl ((flipL (x.lasts n) o c).map vu8) _ (fun w' h j v hj => h.2.cell_is (0 + j) (by rw [List.getElem?_toArray, Nat.zero_add]; exact hj)) Tryz.underlying111 rfl hszF) (by assumption) ?_
  try simp only [Act.put, Array.toArray_toList, List.getElem_toArray, List.getElem_cons_succ, List.getElem_cons_zero, List.setIfInBounds_toArray, List.set_cons_zero, List.set_cons_succ]
  refine wpAnyH_ready (rs := [6]) (by kernel_rfl) (by simp) ?_
  refine AllReadyH.cons rfl (fun K hK => ?_) AllReadyH.nil
  rw [if_pos (by rfl)]
  refine wp_mapUpdate_is _ W2 148 _ _ _ rfl _ _ _ rfl rfl rfl hrun ?_
  refine hK.out _ _ ⟨HD2.out.blk.cell_is 1 rfl, (hT.block _ hlm.symm).trans hG2⟩ (fun hHeld => ?_)
  clear hK K
  refine wpAnyH_done (by kernel_rfl) ?_ _
  have c2 := HD2.out.blk.cell_is 2 rfl
  rw [ev] at c2
  try simp only [Act.put, List.getElem_toArray, List.getElem_cons_succ, List.getElem_cons_zero, List.setIfInBounds_toArray, List.set_cons_zero, List.set_cons_succ]
  go_wp2_with fail
  go_loopw [42] (fun i wr => ∃ k : Nat, k ≤ x.waits.length ∧ i = .int .i64 (k : Int) ∧ DiskAt wr D (x.spoilK n o c k) ∧ DStep D D w wr) (fun i _ => x.waits.length - (intOf i).toNat)
  case atStart => exact ⟨0, Nat.zero_le _, rfl, HD2.out, HS3.out⟩
  case round =>
    obtain ⟨k, hk, rfl, hD, hS⟩ := hrel
    by_cases hlt : k < x.waits.length
    · obtain ⟨hm2, hws2, a2, cap2, ev2, hc2⟩ := hD.waitsIn (spoilK_sound x hx.sound n o c k)
      rw [spoilK_len, ev] at ev2
      cases ev2
      obtain ⟨g, rfl, hg, hrg⟩ := hc2 k (x.waits[k]'hlt) (by rw [spoilK_at x n o c k hlt, List.getElem?_append_right (by simp; omega)]; simp [Nat.min_eq_left (Nat.le_of_lt hlt)])
      have hy := hx.2.2.2.1 _ (List.getElem_mem hlt)
      have hAt := spoilK_at x n o c k hlt
      have hNx := spoilK_next x n o c k hlt
      have c2w : wr.cell? ⟨D.p, 2, none⟩ = some (.slice (some ⟨g, 0, none⟩) x.waits.length cap) := (hD.blk.cell_is 2 rfl).trans (by rw [ev]; rfl)
      have cn : wr.cell? ⟨g, k * 513, none⟩ = some (.int .i64 (x.waits[k]'hlt).n) := hrg 0 _ rfl
      have cb : wr.cell? ⟨g, k * 513 + 1 + o, none⟩ = some (vu8 ((x.waits[k]'hlt).b.getD o 0)) := by
        have := hrg (1 + o) (vu8 ((x.waits[k]'hlt).b.getD o 0)) (by rw [Nat.add_comm]; show ((x.waits[k]'hlt).b.map vu8)[o]? = _; rw [List.getElem?_map, flip_at _ o c (by omega)]; rfl)
        rw [← Nat.add_assoc] at this
        exact this
      have hlt' : (k : Int) < (x.waits.length : Int) := by omega
      generalize x.waits[k]'hlt = y at *
      have HA := Lib.hid hAt
      have HN := Lib.hid hNx
      have HD := Lib.hid hD
      have HS4 := Lib.hid hS
      clear hAt hNx hD hS hc2 hrg hws2
      obtain ⟨t, ht⟩ : ∃ t : Int, y.n = t := ⟨_, rfl⟩
      rw [ht] at cn
      have HTn := Lib.hid ht
      clear ht
      cases hh : (t == n)
      · go_wp2_with fail
        go_roundw
        case rel =>
          refine ⟨k + 1, by omega, by simp, ?_, HS4.out⟩
          have e : x.spoilK n o c (k + 1) = x.spoilK n o c k := by
            have h1 : (x.spoilK n o c (k + 1)).waits = (x.spoilK n o c k).waits := by
              rw [HN.out, HA.out]
              unfold flipW
              rw [HTn.out, if_neg (by simpa using hh)]
            exact spoilK_eq x n o c _ _ h1
          rw [e]
          exact HD.out
        case measure => simp [intOf]; omega
      · have f2w := ownsRow_frozen (by have := HD.out.waits; rw [ev, spoilK_len] at this; exact this) (k * 513 + 1 + o)
        have htn : t = n := by simpa using hh
        subst htn
        have hbo : o < y.b.length := by omega
        have eD : y.b.getD o 0 = y.b[o]'hbo := by rw [List.getD_eq_getElem?_getD, List.getElem?_eq_getElem hbo]; rfl
        have hcells : (flipW t o c y).cells = y.cells.set (1 + o) (.int .u8 (bits .xor .u8 ((y.b[o]'hbo).toNat : Int) (c.toNat : Int))) := by
          unfold flipW
          rw [if_pos HTn.out]
          show (Value.int .i64 y.n :: (flipL y.b o c).map vu8) = (Value.int .i64 y.n :: y.b.map vu8).set (1 + o) _
          rw [flip_cells, Nat.add_comm, List.set_cons_succ, eD, xor_u8]
        have hAl : ((x.waits.take k).map (flipW t o c)).length = k := by simp; omega
        have HQ := Lib.hid (diskWaits_set HD.out (by rw [ev, spoilK_len]) (k * 513 + 1 + o) (.int .u8 (bits .xor .u8 ((y.b[o]'hbo).toNat : Int) (c.toNat : Int))) (x.spoilK t o c (k + 1)).waits (by rw [spoilK_len, spoilK_len])
          (by rw [waitCells_len _ (spoilK_sound x hx.sound t o c k).2.1, spoilK_len]; omega)
          (by rw [HA.out, HN.out, ← waitCells_set _ _ (fun z hz => by obtain ⟨z', hz', rfl⟩ := List.mem_map.1 hz; exact flipW_len t o c z' (hx.2.2.2.1 z' (List.mem_of_mem_take hz'))) y _ (1 + o) _ (by rw [WaitD.len y hy]; omega) hcells, hAl, Nat.add_assoc]))
        have HNE := Lib.hid (show g ≠ D.p from HD.out.ne.2.1 g (by rw [ev]; rfl))
        clear eD hcells hAl
        go_wp2_with fail
        have c2 := c2w
        refine wp_region_held_drew (S := (fun w' => w'.cell? ⟨D.p, 2, none⟩ = some (Value.slice (some ⟨g, 0, none⟩) x.waits.length cap))) (by kernel_rfl) (by (try dsimp only); (exact c2)) (fun hHeld => ?_)
        refine wpAnyH_take (i := 0) (v := ?v0b) rfl (by kernel_rfl) (by kernel_rfl) (by kernel_rfl) (fun _ _ _ h => h) (Or.inl ⟨by rfl, ?hy0b⟩) (by assumption) ?_
        case hy0b => (intro w hSw; (try dsimp only at hSw); go_simp; try with_reducible rfl)
        try simp only [Act.put, List.getElem_toArray, List.getElem_cons_succ, List.getElem_cons_zero, List.setIfInBounds_toArray, List.set_cons_zero, List.set_cons_succ]
        refine wpAnyH_take (i := 1) (v := ?v1b) rfl (by kernel_rfl) (by kernel_rfl) (by kernel_rfl) (fun _ _ _ h => h) (Or.inl ⟨by rfl, ?hy1b⟩) (by assumption) ?_
        case hy1b => (intro w hSw; (try dsimp only at hSw); go_simp; try with_reducible rfl)
        try simp only [Act.put, List.getElem_toArray, List.getElem_cons_succ, List.getElem_cons_zero, List.setIfInBounds_toArray, List.set_cons_zero, List.set_cons_succ]
        refine wpAnyH_take (i := 2) (v := ?v2b) rfl (by kernel_rfl) (by kernel_rfl) (by kernel_rfl) (fun _ _ _ h => h) (Or.inl ⟨by rfl, ?hy2b⟩) (by assumption) ?_
        case hy2b => (intro w hSw; (try dsimp only at hSw); go_simp; try with_reducible rfl)
        try simp only [Act.put, List.getElem_toArray, List.getElem_cons_succ, List.getElem_cons_zero, List.setIfInBounds_toArray, List.set_cons_zero, List.set_cons_succ]
        refine wpAnyH_take (i := 3) (v := ?v3b) rfl (by kernel_rfl) (by kernel_rfl) (by kernel_rfl) (fun _ _ _ h => h) (Or.inl ⟨by rfl, ?hy3b⟩) (by assumption) ?_
        case hy3b => (intro w hSw; (try dsimp only at hSw); go_simp; try with_reducible rfl)
        try simp only [Act.put, List.getElem_toArray, List.getElem_cons_succ, List.getElem_cons_zero, List.setIfInBounds_toArray, List.set_cons_zero, List.set_cons_succ]
        refine wpAnyH_take (i := 4) (v := ?v4b) rfl (by kernel_rfl) (by kernel_rfl) (by kernel_rfl) (fun _ _ _ h => h) (Or.inl ⟨by rfl, ?hy4b⟩) (by assumption) ?_
        case hy4b => (intro w hSw; (try dsimp only at hSw); go_simp; try with_reducible rfl)
        try simp only [Act.put, List.getElem_toArray, List.getElem_cons_succ, List.getElem_cons_zero, List.setIfInBounds_toArray, List.set_cons_zero, List.set_cons_succ]
        refine wpAnyH_take (i := 5) (v := ?v5b) rfl (by kernel_rfl) (by kernel_rfl) (by kernel_rfl) (fun _ _ _ h => h) (Or.inl ⟨by rfl, ?hy5b⟩) (by assumption) ?_
        case hy5b => (intro w hSw; (try dsimp only at hSw); go_simp; try with_reducible rfl)
        try simp only [Act.put, List.getElem_toArray, List.getElem_cons_succ, List.getElem_cons_zero, List.setIfInBounds_toArray, List.set_cons_zero, List.set_cons_succ]
        refine wpAnyH_take (i := 6) (v := ?v6b) rfl (by kernel_rfl) (by kernel_rfl) (by kernel_rfl) (fun _ _ _ h => h) (Or.inl ⟨by rfl, ?hy6b⟩) (by assumption) ?_
        case hy6b => (intro w hSw; (try dsimp only at hSw); go_simp; try with_reducible rfl)
        try simp only [Act.put, List.getElem_toArray, List.getElem_cons_succ, List.getElem_cons_zero, List.setIfInBounds_toArray, List.set_cons_zero, List.set_cons_succ]
        refine wpAnyH_take (i := 7) (v := ?v7b) rfl (by kernel_rfl) (by kernel_rfl) (by kernel_rfl) (fun _ _ _ h => h) (Or.inl ⟨by rfl, ?hy7b⟩) (by assumption) ?_
        case hy7b => (intro w hSw; (try dsimp only at hSw); go_simp; try with_reducible rfl)
        try simp only [Act.put, List.getElem_toArray, List.getElem_cons_succ, List.getElem_cons_zero, List.setIfInBounds_toArray, List.set_cons_zero, List.set_cons_succ]
        refine wpAnyH_take (i := 8) (v := ?v8b) rfl (by kernel_rfl) (by kernel_rfl) (by kernel_rfl) (fun _ _ _ h => h) (Or.inl ⟨by rfl, ?hy8b⟩) (by assumption) ?_
        case hy8b => (intro w hSw; (try dsimp only at hSw); go_simp; try with_reducible rfl)
        try simp only [Act.put, List.getElem_toArray, List.getElem_cons_succ, List.getElem_cons_zero, List.setIfInBounds_toArray, List.set_cons_zero, List.set_cons_succ]
        refine wpAnyH_take (i := 10) (v := ?v10b) rfl (by kernel_rfl) (by kernel_rfl) (by kernel_rfl) (fun _ _ _ h => h) (Or.inl ⟨by rfl, ?hy10b⟩) (by assumption) ?_
        case hy10b => (intro w hSw; (try dsimp only at hSw); go_simp; try with_reducible rfl)
        try simp only [Act.put, List.getElem_toArray, List.getElem_cons_succ, List.getElem_cons_zero, List.setIfInBounds_toArray, List.set_cons_zero, List.set_cons_succ]
        refine wpAnyH_take (i := 12) (v := ?v12b) rfl (by kernel_rfl) (by kernel_rfl) (by kernel_rfl) (fun _ _ _ h => h) (Or.inl ⟨by rfl, ?hy12b⟩) (by assumption) ?_
        case hy12b => (intro w hSw; (try dsimp only at hSw); go_simp; try with_reducible rfl)
        try simp only [Act.put, List.getElem_toArray, List.getElem_cons_succ, List.getElem_cons_zero, List.setIfInBounds_toArray, List.set_cons_zero, List.set_cons_succ]
        refine wpAnyH_take (i := 13) (v := ?v13b) rfl (by kernel_rfl) (by kernel_rfl) (by kernel_rfl) (fun _ _ _ h => h) (Or.inl ⟨by rfl, ?hy13b⟩) (by assumption) ?_
        case hy13b => (intro w hSw; (try dsimp only at hSw); go_simp; try with_reducible rfl)
        try simp only [Act.put, List.getElem_toArray, List.getElem_cons_succ, List.getElem_cons_zero, List.setIfInBounds_toArray, List.set_cons_zero, List.set_cons_succ]
        refine wpAnyH_ready (rs := [9]) (by kernel_rfl) (by simp) ?_
        refine AllReadyH.cons rfl (fun K hK => ?_) AllReadyH.nil
        go_simp
        refine hK.out _ _ hHeld (fun hHeld => ?_)
        clear hK K
        try simp only [Act.put, List.getElem_toArray, List.getElem_cons_succ, List.getElem_cons_zero, List.setIfInBounds_toArray, List.set_cons_zero, List.set_cons_succ]
        refine wpAnyH_take (i := 11) (v := ?v11c) rfl (by kernel_rfl) (by kernel_rfl) (by kernel_rfl) (fun _ _ _ h => h) (Or.inl ⟨by rfl, ?hy11c⟩) (by assumption) ?_
        case hy11c => (intro w hSw; (try dsimp only at hSw); go_simp; try with_reducible rfl)
        try simp only [Act.put, List.getElem_toArray, List.getElem_cons_succ, List.getElem_cons_zero, List.setIfInBounds_toArray, List.set_cons_zero, List.set_cons_succ]
        refine wpAnyH_take (i := 14) (v := ?v14c) rfl (by kernel_rfl) (by kernel_rfl) (by kernel_rfl) (fun _ _ _ h => h) (Or.inl ⟨by rfl, ?hy14c⟩) (by assumption) ?_
        case hy14c => (intro w hSw; (try dsimp only at hSw); go_simp; try with_reducible rfl)
        try simp only [Act.put, List.getElem_toArray, List.getElem_cons_succ, List.getElem_cons_zero, List.setIfInBounds_toArray, List.set_cons_zero, List.set_cons_succ]
        refine wpAnyH_ready (rs := [15]) (by kernel_rfl) (by simp) ?_
        refine AllReadyH.cons rfl (fun K hK => ?_) AllReadyH.nil
        go_simp
        refine hK.out _ _ ((World.cell?_setCell_far _ ⟨g, k * 513 + 1 + o, none⟩ ⟨D.p, 2, none⟩ _ (HNE.out)).trans c2w) (fun hHeld => ?_)
        clear hK K
        refine wpAnyH_done (by kernel_rfl) ?_ _
        try simp only [Act.put, List.getElem_toArray, List.getElem_cons_succ, List.getElem_cons_zero, List.setIfInBounds_toArray, List.set_cons_zero, List.set_cons_succ]
        go_wp2_with fail
        obtain ⟨q1, q2⟩ := HQ.out
        go_roundw
        case rel => exact ⟨k + 1, by omega, by simp, q1.drew, (HS4.out.trans q2).below (Below.refl _ _).drew⟩
        case measure => simp [intOf]; omega
    · obtain rfl : k = x.waits.length := by omega
      rw [spoilK_all] at hD
      go_wp2_with fail
      go_ret
      exact ⟨rfl, hD, hS⟩
end Go.Proofs.YtdpniceapmikpaaGreat
