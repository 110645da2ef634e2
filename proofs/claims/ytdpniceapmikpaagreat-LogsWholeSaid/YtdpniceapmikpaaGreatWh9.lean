/-
  reads: what is read of a sector.
  Read.
  all: the iterator over the writes that wait.
-/
import Derived.Test.YtdpniceapmikpaaGreatWh1
import Derived.Test.YtdpniceapmikpaaGreatWh3
import Derived.Test.YtdpniceapmikpaaGreatWh8
set_option linter.unusedVariables false
set_option linter.unusedSimpArgs false
namespace Go.Proofs.YtdpniceapmikpaaGreat
open Go.RowKit Go.Shelf

attribute [local go_sem] Oper.semAt_some

/-- what is read of a sector -/
def DiskD.reads (x : DiskD) (n : Int) : List UInt8 :=
 match x.waits.reverse.find? (fun y => y.n == n) with
 | some y => y.b
 | none => x.lasts n
theorem DiskD.reads_len (x : DiskD) (hx : x.sound) (n : Int) : (x.reads n).length = 512 := by
 unfold DiskD.reads
 cases h : x.waits.reverse.find? (fun y => y.n == n) with
 | some y => exact hx.2.1 y (by simpa using List.mem_of_find?_eq_some h)
 | none => exact hx.1 n
theorem backL_fst (ws : List WaitS) : (backL ws).map (·.1.1) = (ws.map (·.1)).reverse := by
 unfold backL
 rw [List.map_reverse]
 congr 1
 rw [show (fun x : WaitS × Nat => x.1.1) = Subtype.val ∘ Prod.fst from rfl, ← List.map_map]
 simp
theorem find_all (l : List (WaitS × Nat)) (q : Int) (h : ∀ y ∈ l, y.1.1.n ≠ q) : (l.map (·.1.1)).find? (fun y => y.n == q) = none := by
 rw [List.find?_eq_none]
 intro y hy
 obtain ⟨z, hz, rfl⟩ := List.mem_map.1 hy
 simpa using h z hz
theorem find_back (ws : List WaitS) (q : Int) (pre : List (WaitS × Nat)) (y : WaitS × Nat) (hp : pre ++ [y] <+: backL ws) (h : ∀ z ∈ pre, z.1.1.n ≠ q) (hy : y.1.1.n = q) : (ws.map (·.1)).reverse.find? (fun y => y.n == q) = some y.1.1 := by
 obtain ⟨r, e⟩ := hp
 rw [← backL_fst, ← e, List.map_append, List.map_append, List.append_assoc, List.find?_append, find_all pre q h]
 simp [hy]
theorem find_none (ws : List WaitS) (q : Int) (h : ∀ z ∈ backL ws, z.1.1.n ≠ q) : (ws.map (·.1)).reverse.find? (fun y => y.n == q) = none := by
 rw [← backL_fst]
 exact find_all _ q h
theorem look_lasts {w : World} {D : DiskP} {x : DiskD} (h : DiskAt w D x) (n : Int) : (Instr.lookup 148 (.map (some D.lm)) (.int .i64 n) false).run Tryz.prog w = .ok (sectorV (x.lasts n)) w := by
 have hz : (zeroValue 111).run Tryz.prog w = .ok (sectorV sector0) w := by kernel_rfl
 obtain ⟨l, hm, hl⟩ := h.lasts
 rcases hl.2 n with ⟨v, h1, rfl⟩ | ⟨h1, h2⟩
 ·exact run_lookup_ok w Tryz.underlying148 Tryz.underlying3 D.lm l hm n _ h1 false
 ·rw [h2]
  exact run_lookup_none w Tryz.underlying148 Tryz.underlying3 D.lm l hm n _ hz h1 false
theorem yieldsIf_is {P : Program} {ops : Array Oper} {S : World → Prop} {op : Oper} {a : Act} (hw : Region.wanted op (yielded ops a.tmps) = true) (t : TypeId) (m k : Operand) (ho : op.op = .lookup t m k false) (mv kv v : Value) (hm : a.eval m = mv) (hk : a.eval k = kv)
  (hS : ∀ w, S w → (Instr.lookup t mv kv false).run P w = .ok v w) : YieldsIf P ops S op v a :=
 .inl ⟨hw, fun w hw' => by
  unfold execOp
  simp only [ho, hm, hk, Sem.run_bind, hS w hw', Sem.run_pure, Result.andThen_ok]⟩
theorem wait_all (x : WaitD) : x.cells.toArray.all (·.oneCell') = true := by
 rw [List.all_toArray, List.all_eq_true]
 exact wait_one x
theorem wpListIn_store_row {l n : Nat} {P : Program} {ops : Array Oper} {rest : List Oper} {o : Oper} {a : Act} {w : World} {Q : Exit → Act → World → Prop} (hgd : o.guard = none) (hd : noDefer o = true) (ty : TypeId) (x y : Operand) (ho : o.op = .store ty x y)
  (g : Nat) (cells : Array Value) (hx : a.eval x = .pointer (some ⟨g, 0, none⟩)) (hy : a.eval y = .agg cells)
  (t : TypeId) (old : Array Value) (hg : w.heap[g]? = some (.cells old t (0, 0))) (hi : (P.info? ty).map (·.size) = some cells.size)
  (hold : old.size = cells.size) (h1 : cells.all (·.oneCell') = true)
  (h : wpListIn (Fence.wide.inRound l) n P ops Q rest (a.put o.dst undef) (w.setRow g cells)) : wpListIn (Fence.wide.inRound l) n P ops Q (o :: rest) a w :=
 wpListIn_plain hgd fun _ hK => op_round hd (wp_store_row ty x y ho g cells hx hy t old hg hi hold h1 (hK _ _ h))
theorem keepsFrom_row {B g : Nat} {W : World} {t : TypeId} {cs : Array Value} (h : Blk W g t cs) (cs' : Array Value) : KeepsFrom B W (W.setRow g cs') := by
 refine ⟨by simp, fun k o _ hk hc => ?_⟩
 by_cases e : k = g
 ·subst e
  unfold Blk at h
  rw [h] at hk
  cases hk
  cases hc
 ·exact (setRow_other W g k cs' e).trans hk
theorem zero161 : Tryz.zeroCells161.size = 513 := by kernel_rfl
theorem zero111 : Tryz.zeroCells111 = (sector0.map vu8).toArray := by kernel_rfl

set_option maxRecDepth 100000 in
set_option maxHeartbeats 4000000 in
theorem reads_in (n : Nat) (hn : 3 ≤ n) (D : DiskP) (x : DiskD) (q : Int) (w : World) (h : DiskAt w D x) (hx : x.sound) :
  CallsIn Fence.wide n Tryz.prog 75 #[ptr D.p, .int .i64 q] w fun e w' => e = .returned (sectorV (x.reads q)) ∧ Below w.heap.size w w' := by
 have h1 : 1 ≤ n := by omega
 have hro : Fence.wide.round = none := rfl
 have c2 := h.blk.cell_is 2 rfl
 have hlt := h.blk.lt
 obtain ⟨hmax, hws, a, cap, ev, hcc⟩ := h.waitsIn hx
 obtain ⟨ws, ews⟩ := waitS_of x.waits hws
 have hV : WaitsIn w w.heap.size D.wv (ws.map (·.1)) := by rw [← ews]; exact h.waitsIn hx
 have el : x.waits.length = ws.length := by rw [ews, List.length_map]
 rw [el] at ev
 rw [ev] at c2 hV
 have EW := Lib.hid ews
 have hmax2 : ws.length ≤ 1000000 := by omega
 have HV := Lib.hid hV
 have HH := Lib.hid h
 unfold ptr at *
 clear h hV hcc ews el hmax hws
 refine callsIn_of_wp_marks Tryz.func75 rfl trivial ?_ hro
 simp only [Tryz.ntmps75, List.size_toArray, List.length_cons, List.length_nil, Nat.reduceAdd, Nat.reduceSub, Array.replicate_succ, Array.replicate_zero, List.push_toArray, List.append_toArray, List.nil_append, List.cons_append]
 refine wpIn_wide.2 ?_
 go_wp2_with fail
 refine (callsIn_wide.1 (back_in Fence.wide 5 trivial rfl _ _ _ _)).mono ?_; rintro e w2 ⟨rfl, rfl⟩
 go_wp2_with fail
 obtain ⟨W0, eW0⟩ : ∃ W0, W0 = ((w.alloc (Obj.cells #[Value.int IntKind.i64 q] 3)).alloc (Obj.cells Tryz.zeroCells111 111)).alloc (Obj.cells #[Value.slice a ws.length cap] 149) := ⟨_, rfl⟩
 rw [← eW0]
 have hb0 : Below w.heap.size w W0 := by rw [eW0]; exact (((Below.refl _ w).alloc (Nat.le_refl _) _).alloc (by simp) _).alloc (by simp; omega) _
 have hK0 : Blk W0 w.heap.size 3 #[.int .i64 q] := by rw [eW0]; exact ((Blk.new w _ _).alloc _).alloc _
 have hK1 : Blk W0 (w.heap.size + 1) 111 (sector0.map vu8).toArray := by rw [eW0, ← zero111]; exact (Blk.new2 w _ _ _).alloc _
 have hK2 : W0.cell? ⟨w.heap.size + 1 + 1, 0, none⟩ = some (.slice a ws.length cap) := by rw [eW0]; exact (Blk.new' (by simp)).cell_is 0 rfl
 have hs0 : W0.heap.size = w.heap.size + 3 := by rw [eW0]; simp
 clear eW0
 have HV0 := HV.out.below hb0 (Nat.le_refl _)
 refine (wpIn_wide (n := n)).1 ?_
 refine wpIn_rangeFunc_ownH hro h1 (gf := 148) (lb := #[.pointer (some ⟨w.heap.size + 1 + 1, 0, none⟩)]) rfl trivial (enters_of Tryz.func148 (by kernel_rfl) rfl)
  (back_stops Fence.wide (n - 1) trivial rfl (by omega) (w.heap.size + 1 + 1) (w.heap.size + 3) (.slice a ws.length cap) ws _ (by omega) (by omega) (by omega) hK2 (HV0.more (by omega))) belowK_t (belowK_b (by omega)) (Below.refl _ _) (fun _ => rfl)
  (fun pre W => ((∀ y ∈ pre, y.1.1.n ≠ q) ∧ Blk W w.heap.size 3 #[.int .i64 q] ∧ Blk W (w.heap.size + 1) 111 (sector0.map vu8).toArray) ∧ Below w.heap.size W0 W)
  (fun c pre W => (c = .ret ∧ (∃ pre0 y, pre = pre0 ++ [y] ∧ (∀ y ∈ pre0, y.1.1.n ≠ q) ∧ y.1.1.n = q ∧ Blk W (w.heap.size + 1) 111 (y.1.1.b.map vu8).toArray)) ∧ Below w.heap.size W0 W)
  (OwnFrom.and (fun s A B row hs hg hr => ⟨hs.1, hs.2.1.own hg (fun r e => (hr r e).2), hs.2.2.own hg (fun r e => (hr r e).2)⟩) (ownFrom_below (by omega) (by omega)))
  (fun c => OwnFrom.and (fun s A B row hs hg hr => ⟨hs.1, by obtain ⟨p0, y, e, h1, h2, h3⟩ := hs.2; exact ⟨p0, y, e, h1, h2, h3.own hg (fun r e => (hr r e).2)⟩⟩) (ownFrom_below (by omega) (by omega)))
  ⟨⟨by simp, hK0, hK1⟩, Below.refl _ _⟩
  (fun y a' W => ∃ g, a' = { tmps := #[.pointer (some ⟨D.p, 0, none⟩), .int .i64 q, undef, .pointer (some ⟨w.heap.size, 0, none⟩), .pointer (some ⟨w.heap.size + 1, 0, none⟩), undef, .pointer (some ⟨g, 0, none⟩), .pointer (some ⟨D.p, 0, none⟩), .pointer (some ⟨D.p, 0, none⟩), .pointer (some ⟨D.p, 2, none⟩), .slice a ws.length cap,
     .func (.func 148) #[] #[.pointer (some ⟨w.heap.size + 1 + 1, 0, none⟩)], .int .i64 y.2, .agg y.1.1.cells.toArray, undef, undef, undef, undef, undef, undef, undef, undef, undef, undef, undef, undef], defers := [] } ∧ w.heap.size + 3 ≤ g ∧ Blk W g 161 y.1.1.cells.toArray)
  (fun y a' => (fun s A B row hs hg hr => by obtain ⟨g, e, hgg, hb⟩ := hs; exact ⟨g, e, hgg, hb.own hg (fun r e => (hr r e).2)⟩)) ?assign ?body ?done ?stop
 case assign =>
  intro l pre y W K hI hK
  have hzip : (#[12, 13].zip (vb y)).foldl (fun t (p : Nat × Value) => t.setIfInBounds p.1 p.2) #[.pointer (some ⟨D.p, 0, none⟩), .int .i64 q, undef, .pointer (some ⟨w.heap.size, 0, none⟩), .pointer (some ⟨w.heap.size + 1, 0, none⟩), undef, undef, .pointer (some ⟨D.p, 0, none⟩), .pointer (some ⟨D.p, 0, none⟩), .pointer (some ⟨D.p, 2, none⟩), .slice a ws.length cap,
     .func (.func 148) #[] #[.pointer (some ⟨w.heap.size + 1 + 1, 0, none⟩)], undef, undef, undef, undef, undef, undef, undef, undef, undef, undef, undef, undef, undef, undef] = #[.pointer (some ⟨D.p, 0, none⟩), .int .i64 q, undef, .pointer (some ⟨w.heap.size, 0, none⟩), .pointer (some ⟨w.heap.size + 1, 0, none⟩), undef, undef, .pointer (some ⟨D.p, 0, none⟩), .pointer (some ⟨D.p, 0, none⟩), .pointer (some ⟨D.p, 2, none⟩), .slice a ws.length cap,
     .func (.func 148) #[] #[.pointer (some ⟨w.heap.size + 1 + 1, 0, none⟩)], .int .i64 y.2, .agg y.1.1.cells.toArray, undef, undef, undef, undef, undef, undef, undef, undef, undef, undef, undef, undef] := by kernel_rfl
  dsimp only
  rw [hzip]
  clear hzip
  gi_wp2_with (refine wpListIn_store_row rfl rfl 161 _ _ rfl W.heap.size y.1.1.cells.toArray rfl rfl 161 Tryz.zeroCells161 (heap_alloc_new W _) (by rw [List.size_toArray, WaitD.len _ y.1.2]; exact size_wait) (by rw [zero161, List.size_toArray, WaitD.len _ y.1.2]) (wait_all y.1.1) ?_; rw [World.setRow_alloc_new])
  have hsz := hI.2.size
  exact hK _ _ ((KeepsOthers.alloc W _).from _) ((Below.refl _ W).alloc (by omega) _) ⟨⟨hI.1.1, hI.1.2.1.alloc _, hI.1.2.2.alloc _⟩, hI.2.alloc (by omega) _⟩ ⟨_, rfl, by omega, Blk.new W _ _⟩
 case body =>
  rintro l pre y a' W hl hr ⟨⟨hI, hQ, hT⟩, hB⟩ ⟨g, rfl, hg, hG⟩ hlen
  have cG : W.cell? ⟨g, 0, none⟩ = some (.int .i64 y.1.1.n) := hG.cell_is 0 rfl
  have cQ := hQ.cell_is 0 rfl
  obtain ⟨t, ht⟩ : ∃ t : Int, y.1.1.n = t := ⟨_, rfl⟩
  rw [ht] at cG
  have HT := Lib.hid ht
  clear ht
  cases hh : (t == q)
  ·have hne : t ≠ q := by simpa using hh
   gi_wp2
   refine ⟨KeepsFrom.refl _ _, Below.refl _ _, ⟨fun z hz => ?_, hQ, hT⟩, hB⟩
   rcases List.mem_append.1 hz with hz | hz
   ·exact hI z hz
   ·rw [List.mem_singleton.1 hz, HT.out]; exact hne
  ·have he : t = q := by simpa using hh
   have hlb := y.1.2
   have hone : (y.1.1.b.map vu8).toArray.all (·.oneCell') = true := by
    rw [List.all_toArray, List.all_eq_true]
    exact sector_one _
   have hsz : (Tryz.prog.info? 111).map (·.size) = some (y.1.1.b.map vu8).length := by rw [List.length_map, hlb]; exact size_sector
   have hld := run_loadAt_mid (P := Tryz.prog) W g 1 111 (y.1.1.b.map vu8) _ (fun j u hj => hG.cell_is (1 + j) (by rw [List.getElem?_toArray, Nat.add_comm]; exact hj)) Tryz.underlying111 rfl hsz
   have HL := Lib.hid hlb
   clear hlb
   gi_wp2_with (first
    | (refine wpIn_load_is _ 111 _ rfl _ _ rfl hld ?_)
    | (refine wpListIn_store_row rfl rfl 111 _ _ rfl (w.heap.size + 1) (y.1.1.b.map vu8).toArray rfl rfl 111 (sector0.map vu8).toArray hT (by rw [List.size_toArray]; exact hsz) (by rw [List.size_toArray, List.size_toArray, List.length_map, List.length_map, HL.out]; exact List.length_replicate) hone ?_))
   refine ⟨keepsFrom_row hT _, ⟨rfl, pre, y, rfl, hI, by rw [HT.out]; exact he, hT.row _⟩, below_row hB _ (by omega)⟩
 case done =>
  rintro Dd ys W hD rfl ⟨⟨hI, hQ, hT⟩, hB⟩ hK
  have hH := HH.out.below (hb0.trans hB)
  have c1 := hH.blk.cell_is 1 rfl
  have cQ := hQ.cell_is 0 rfl
  have hR : sectorV (x.reads q) = sectorV (x.lasts q) := by
   unfold DiskD.reads
   rw [EW.out, find_none ws q hI]
  have hlen : (x.lasts q).length = 512 := hx.1 q
  have hone : ((x.lasts q).map vu8).toArray.all (·.oneCell') = true := by
   rw [List.all_toArray, List.all_eq_true]
   exact sector_one _
  have hsz : (Tryz.prog.info? 111).map (·.size) = some ((x.lasts q).map vu8).toArray.size := by rw [List.size_toArray, List.length_map, hlen]; exact size_sector
  have HL := Lib.hid hH
  have HS := Lib.hid hsz
  have HE := Lib.hid hlen
  have HR := Lib.hid hR
  have HF := Lib.hid (And.intro ((World.cell?_of_block (a := ⟨D.p, 1, none⟩) (setRow_other W.drew (w.heap.size + 1) D.p ((x.lasts q).map vu8).toArray (by omega))).trans c1) (And.intro ((World.cell?_of_block (a := ⟨w.heap.size, 0, none⟩) (setRow_other W.drew (w.heap.size + 1) w.heap.size ((x.lasts q).map vu8).toArray (by omega))).trans cQ) (HH.out.below (below_row (hb0.trans hB).drew ((x.lasts q).map vu8).toArray (by omega : w.heap.size ≤ w.heap.size + 1)))))
  have HB := Lib.hid (below_row (hb0.trans hB).drew ((x.lasts q).map vu8).toArray (by omega : w.heap.size ≤ w.heap.size + 1))
  have HT2 := Lib.hid (hT.drew.row ((x.lasts q).map vu8).toArray)
  clear hH hsz hlen hR
  go_upto_region 5 with fail
  refine wp_region_noPanic ?_
  refine wp_region_held_drew (S := (fun w' => w'.cell? ⟨D.p, 1, none⟩ = some (.map (some D.lm)) ∧ w'.cell? ⟨w.heap.size, 0, none⟩ = some (.int .i64 q) ∧ DiskAt w' D x)) (by kernel_rfl) (by (try dsimp only); (exact ⟨c1, cQ, HL.out.drew⟩)) (fun hHeld => ?_)
  refine tk 0 ?_
  refine tk 1 ?_
  refine tk 2 ?_
  refine tk 3 ?_
  refine tk 4 ?_
  refine ty 5 rfl (yieldsIf_is (by rfl) 148 _ _ rfl (.map (some D.lm)) (.int .i64 q) _ rfl rfl (fun w' h => look_lasts h.2.2 q)) ?_
  refine wpAnyH_ready (rs := [6]) (by kernel_rfl) (by simp) ?_
  refine AllReadyH.cons rfl (fun K hK2 => ?_) AllReadyH.nil
  rw [if_pos (by rfl)]
  refine wp_store_row 111 _ _ rfl (w.heap.size + 1) ((x.lasts q).map vu8).toArray rfl rfl 111 (sector0.map vu8).toArray hT HS.out (by rw [List.size_toArray, List.size_toArray, List.length_map, List.length_map, HE.out]; exact List.length_replicate) hone ?_
  refine hK2.out _ _ HF.out (fun hHeld => ?_)
  clear hK2 K
  refine wpAnyH_done (by kernel_rfl) ?_ _
  refine NoPanic.normal ?_
  go_wp2_with fail
  rw [HR.out]
  refine ⟨by simp, .inl ⟨_, _, rfl, run_takeDeferred ((setRow_other W.drew (w.heap.size + 1) Dd _ (by omega)).trans hK), ?_⟩⟩
  exact ⟨_, results_cell_row Tryz.results75 _ _ (w.heap.size + 1) 111 ((x.lasts q).map vu8).toArray (0, 0) _ rfl ((World.putObj_heap_other (by omega)).trans HT2.out) Tryz.underlying111 rfl (by rw [List.size_toArray, List.length_map, HE.out]; exact size_sector), rfl,
   (HB.out).trans (belowK_b (w := w) (Nat.le_refl _) _ Dd _ _ (by omega) ((setRow_other W.drew (w.heap.size + 1) Dd _ (by omega)).trans hK) rfl rfl)⟩
 case stop =>
  rintro Dd c pre W hDd hSp ⟨⟨rfl, pre0, y, rfl, hI, hy, hT⟩, hB⟩ hK
  have hR : sectorV (x.reads q) = sectorV y.1.1.b := by
   unfold DiskD.reads
   rw [EW.out, find_back ws q pre0 y hSp hI hy]
  have HR := Lib.hid hR
  clear hR
  refine wpIn_wide.2 ?_
  go_wp2_with fail
  rw [HR.out]
  refine ⟨by simp, .inl ⟨_, _, rfl, run_takeDeferred hK, ?_⟩⟩
  exact ⟨_, results_cell_row Tryz.results75 _ _ (w.heap.size + 1) 111 (y.1.1.b.map vu8).toArray (0, 0) _ rfl ((World.putObj_heap_other (by omega)).trans hT) Tryz.underlying111 rfl (by rw [List.size_toArray, List.length_map, y.1.2]; exact size_sector), rfl,
   (hb0.trans hB).trans (belowK_b (w := w) (Nat.le_refl _) _ Dd _ _ (by omega) hK rfl rfl)⟩

theorem reads_any (D : DiskP) (x : DiskD) (q : Int) (w : World) (h : DiskAt w D x) (hx : x.sound) :
  Calls Tryz.prog 75 #[ptr D.p, .int .i64 q] w fun e w' => e = .returned (sectorV (x.reads q)) ∧ Below w.heap.size w w' :=
 callsIn_wide.1 (reads_in 5 (by omega) D x q w h hx)
end Go.Proofs.YtdpniceapmikpaaGreat
namespace Go.Proofs.YtdpniceapmikpaaGreat
open Go.RowKit

def DiskD.after (x : DiskD) (n : Int) : DiskD := if n < 0 ∨ x.size ≤ n then x else x.stepped
def DiskD.read (x : DiskD) (n : Int) : List UInt8 := if x.err n = 0 then x.reads n else sector0
theorem sector_all (b : List UInt8) : (b.map vu8).toArray.all (·.oneCell') = true := by
 rw [List.all_toArray, List.all_eq_true]
 exact sector_one b
theorem sector_size (b : List UInt8) (hb : b.length = 512) : (Tryz.prog.info? 111).map (·.size) = some (b.map vu8).toArray.size := by rw [List.size_toArray, List.length_map, hb]; exact size_sector
theorem sector_eq (b c : List UInt8) (hb : b.length = 512) (hc : c.length = 512) : (b.map vu8).toArray.size = (c.map vu8).toArray.size := by rw [List.size_toArray, List.size_toArray, List.length_map, List.length_map, hb, hc]
theorem out_row {w : World} {F : Nat → Prop} {g : Nat} (cs : Array Value) (hg : F g) : Out F w (w.setRow g cs) :=
 ⟨rfl, rfl, rfl, by simp, fun j _ hn => setRow_other w g j cs (fun e => hn (by rw [e]; exact hg))⟩

set_option maxRecDepth 100000 in
set_option maxHeartbeats 4000000 in
theorem dget_any (D : DiskP) (x : DiskD) (gd gn go : Nat) (q : Int) (b0 : List UInt8) (hb0 : b0.length = 512) (w : World) (h : DiskAt w D x) (hx : x.sound)
  (cd : w.cell? ⟨gd, 0, none⟩ = some (ptr D.p)) (cn : w.cell? ⟨gn, 0, none⟩ = some (.int .i64 q)) (bo : Blk w go 111 (b0.map vu8).toArray) :
  Calls Tryz.prog 147 #[.pointer (some ⟨gd, 0, none⟩), .pointer (some ⟨gn, 0, none⟩), .pointer (some ⟨go, 0, none⟩)] w fun e w' =>
  e = .returned (.tuple #[]) ∧ Blk w' go 111 ((x.reads q).map vu8).toArray ∧ Out (fun i => i = go) w w' := by
 have HR := Lib.hid (reads_any D x q w h hx)
 have hl := x.reads_len hx q
 have hone := sector_all (x.reads q)
 have hsz := sector_size _ hl
 have hse := sector_eq _ _ hb0 hl
 have HB := Lib.hid bo
 unfold ptr sectorV at *
 clear h hx bo
 generalize x.reads q = b at *
 go_enter Tryz.func147, Tryz.ntmps147
 go_wp2_with fail
 refine HR.out.mono ?_; rintro e w1 ⟨rfl, hb⟩
 have hB1 := HB.out.below hb HB.out.lt
 go_wp2_with (refine wpList_store_row rfl 111 _ _ rfl go (b.map vu8).toArray rfl rfl 111 _ hB1 hsz hse hone ?_)
 exact bodyPost_end (v := .tuple #[]) (by simp [results, Tryz.results147, go_sem]) rfl ⟨rfl, hB1.row _, Out.trans (F := fun i => i = go) (G := fun i => i = go) (outB hb) (out_row _ rfl) (fun _ _ h => h)⟩

set_option maxRecDepth 100000 in
set_option maxHeartbeats 4000000 in
theorem dread_any (D : DiskP) (x : DiskD) (n : Int) (w : World) (h : DiskAt w D x) (hx : x.ok) :
  Calls Tryz.prog 118 #[ptr D.p, .int .i64 n] w fun e w' => e = .returned (.tuple #[sectorV (x.read n), .int .i64 (x.err n)]) ∧ DiskAt w' D (x.after n) ∧ DStep D D w w' := by
 obtain ⟨W, eW⟩ : ∃ W, W = (((w.alloc (Obj.cells #[Value.pointer (some { block := D.p, off := 0 })] 37)).alloc (Obj.cells #[Value.int IntKind.i64 n] 3)).alloc (Obj.cells Tryz.zeroCells111 111)).alloc (Obj.cells Tryz.zeroCells111 111) := ⟨_, rfl⟩
 have hbW : Below w.heap.size w W := by rw [eW]; exact ((((Below.refl _ w).alloc (Nat.le_refl _) _).alloc (by simp) _).alloc (by simp; omega) _).alloc (by simp; omega) _
 have hWs : W.heap.size = w.heap.size + 4 := by rw [eW]; simp
 have n3 : ¬ D.has (w.heap.size + 1 + 1 + 1) := has_new h (by omega) (w' := w)
 have n2 : ¬ D.has (w.heap.size + 1 + 1) := has_new h (by omega) (w' := w)
 have b2 : Blk W (w.heap.size + 1 + 1) 111 (sector0.map vu8).toArray := by rw [eW, ← zero111]; exact (Blk.new' (by simp)).alloc _
 have b3 : Blk W (w.heap.size + 1 + 1 + 1) 111 (sector0.map vu8).toArray := by rw [eW, ← zero111]; exact Blk.new' (by simp)
 have hl0 : sector0.length = 512 := List.length_replicate
 have HC : Calls Tryz.prog 83 #[.pointer (some { block := D.p, off := 0 }), .int .i64 n, .func (.func 147) #[] #[.pointer (some ⟨w.heap.size, 0, none⟩), .pointer (some ⟨w.heap.size + 1, 0, none⟩), .pointer (some ⟨w.heap.size + 1 + 1 + 1, 0, none⟩)]] W
   fun e w' => e = .returned (.int .i64 (x.err n)) ∧ DiskAt w' D (x.after n) ∧ Out (fun i => D.has i ∨ i = w.heap.size + 1 + 1 + 1) W w' ∧ Blk w' (w.heap.size + 1 + 1 + 1) 111 ((x.read n).map vu8).toArray := by
  have hW := h.below hbW
  unfold DiskD.read DiskD.after
  by_cases h1 : n < 0 ∨ x.size ≤ n
  ·have he : x.err n = 4 := by unfold DiskD.err; rw [if_pos h1]
   rw [he, if_pos h1, if_neg (by omega)]
   refine (dstep_range D x n _ W hW hx h1).mono ?_
   rintro e w1 ⟨rfl, rfl⟩
   exact ⟨rfl, hW, Out.refl _ _, b3⟩
  ·have h2 : 0 ≤ n ∧ n < x.size := by omega
   by_cases h3 : x.steps ∈ x.fails
   ·have he : x.err n = 120 := by unfold DiskD.err; rw [if_neg h1, if_pos h3]
    rw [he, if_neg h1, if_neg (by omega)]
    refine (dstep_fails D x n _ W hW hx h2 h3).mono ?_
    rintro e w1 ⟨rfl, ha, hs⟩
    exact ⟨rfl, ha, ⟨hs.out.os, hs.out.tape, hs.out.output, hs.out.size, fun i hi hn => hs.out.block i hi (fun hd => hn (.inl hd))⟩, hs.out.blk b3 n3⟩
   ·have he : x.err n = 0 := by unfold DiskD.err; rw [if_neg h1, if_neg h3]
    rw [he, if_neg h1, if_pos rfl]
    have n0 : ¬ D.has w.heap.size := has_new h (Nat.le_refl _) (w' := w)
    have n1 : ¬ D.has (w.heap.size + 1) := has_new h (by omega) (w' := w)
    have b0 : Blk W w.heap.size 37 #[.pointer (some ⟨D.p, 0, none⟩)] := by rw [eW]; exact (((Blk.new w _ _).alloc _).alloc _).alloc _
    have b1 : Blk W (w.heap.size + 1) 3 #[.int .i64 n] := by rw [eW]; exact ((Blk.new2 w _ _ _).alloc _).alloc _
    clear eW
    refine dstep_do _ (callFunc_is Tryz.func147 rfl rfl) _ _ _ (fun w' => DiskAt w' D x.stepped ∧ Out (fun i => D.has i ∨ i = w.heap.size + 1 + 1 + 1) W w' ∧ Blk w' (w.heap.size + 1 + 1 + 1) 111 ((x.reads n).map vu8).toArray) D x n W hW hx h2 h3 ?_
    intro w1 ha hs
    refine (dget_any D x.stepped _ _ _ n sector0 hl0 w1 ha hx.sound ((hs.out.blk b0 n0).cell_is 0 rfl) ((hs.out.blk b1 n1).cell_is 0 rfl) (hs.out.blk b3 n3)).mono ?_
    rintro e w2 ⟨rfl, hb2, ho2⟩
    exact ⟨rfl, ha.out ho2 (fun i hi e => n3 (e ▸ hi)), ⟨ho2.os.trans hs.out.os, ho2.tape.trans hs.out.tape, ho2.output.trans hs.out.output, Nat.le_trans hs.out.size ho2.size,
     fun i hi hn => (ho2.block i (by have := hs.out.size; omega) (fun e => hn (.inr e))).trans (hs.out.block i hi (fun e => hn (.inl e)))⟩, hb2⟩
 have HH := Lib.hid HC
 have HX := Lib.hid (show (x.read n).length = 512 by unfold DiskD.read; split; exact x.reads_len hx.sound n; exact hl0)
 have HHAS := Lib.hid (h.has_lt)
 have HBW := Lib.hid hbW
 have HB2 := Lib.hid b2
 have HWS := Lib.hid hWs
 clear HC hbW h b2 b3 hWs
 generalize hE : x.err n = er at *
 generalize hRd : x.read n = rd at *
 generalize x.after n = xa at *
 clear hE hRd
 have HW2 := HB2
 unfold ptr sectorV at *
 go_enter Tryz.func118, Tryz.ntmps118
 go_wp2_with fail
 rw [← eW]
 refine HH.out.mono ?_
 rintro e w1 ⟨rfl, ha, ho, hb⟩
 have k2 := ho.blk HB2.out (fun hd => hd.elim n2 (by omega))
 go_wp2_with (first
  | (refine wpList_load_row rfl 111 _ rfl (w.heap.size + 1 + 1 + 1) rfl 111 (rd.map vu8).toArray (0, 0) _ hb Tryz.underlying111 rfl (sector_size _ HX.out) ?_)
  | (refine wpList_store_row rfl 111 _ _ rfl (w.heap.size + 1 + 1) (rd.map vu8).toArray rfl rfl 111 _ k2 (sector_size _ HX.out) (sector_eq _ _ hl0 HX.out) (sector_all _) ?_))
 refine bodyPost_ret (results_row_tmp Tryz.results118 _ _ (w.heap.size + 1 + 1) 111 (rd.map vu8).toArray (0, 0) _ rfl (k2.row _) Tryz.underlying111 rfl (sector_size _ HX.out) _ rfl) rfl ?_
 have ho2 := Out.trans (F := fun i => (D.has i ∨ i = w.heap.size + 1 + 1 + 1) ∨ i = w.heap.size + 1 + 1) (G := fun i => i = w.heap.size + 1 + 1) (⟨ho.os, ho.tape, ho.output, ho.size, fun i hi hn => ho.block i hi (fun hd => hn (.inl hd))⟩ : Out _ W w1) (out_row (rd.map vu8).toArray rfl) (fun _ _ => .inr)
 refine ⟨rfl, ha.out (F := fun i => i = w.heap.size + 1 + 1) (out_row _ rfl) (fun i hi e => n2 (e ▸ hi)), ⟨?_, rfl, fun i hi => .inl hi⟩⟩
 have hb := HBW.out
 have hs := HWS.out
 exact ⟨ho2.os.trans hb.os, ho2.tape.trans hb.tape, ho2.output.trans hb.output, Nat.le_trans hb.size ho2.size, fun i hi hn => (ho2.block i (by omega) (fun hd => by rcases hd with (hd | hd) | hd <;> first | exact hn hd | omega)).trans (hb.block i hi)⟩
end Go.Proofs.YtdpniceapmikpaaGreat
namespace Go.Proofs.YtdpniceapmikpaaGreat
open Go.RowKit Go.Shelf

attribute [local go_sem] Oper.semAt_some

/-- the blocks of S are as they were -/
structure KeepsB (S : Nat → Prop) (W W' : World) : Prop where
 size : W.heap.size ≤ W'.heap.size
 block : ∀ i, S i → i < W.heap.size → W'.heap[i]? = W.heap[i]?
theorem KeepsB.refl (S : Nat → Prop) (W : World) : KeepsB S W W := ⟨Nat.le_refl _, fun _ _ _ => rfl⟩
theorem KeepsB.trans {S : Nat → Prop} {A B C : World} (h : KeepsB S A B) (k : KeepsB S B C) : KeepsB S A C := ⟨Nat.le_trans h.size k.size, fun i hi hl => (k.block i hi (by have := h.size; omega)).trans (h.block i hi hl)⟩
theorem keepsB_t {S : Nat → Prop} {A B C : World} (h : KeepsB S A B) (k : KeepsB S B C) : KeepsB S A C := h.trans k
theorem keepsB_b {S : Nat → Prop} {w : World} (hS : ∀ i, S i → i < w.heap.size) (W : World) (l : Nat) (o o' : Obj) (hl : w.heap.size ≤ l) (_ : W.heap[l]? = some o) (_ : o.isCells = false) (_ : o.isWalk = false) : KeepsB S W (W.putObj l o') :=
 ⟨by simp, fun i hi _ => World.putObj_heap_other (by have := hS i hi; omega)⟩
theorem KeepsB.alloc (S : Nat → Prop) (W : World) (o : Obj) : KeepsB S W (W.alloc o) := ⟨by simp, fun i _ hl => Below.heap_alloc W o i hl⟩
theorem KeepsB.of {S : Nat → Prop} {B : Nat} {W W' : World} (h : Below B W W') (hS : ∀ i, S i → i < B) : KeepsB S W W' := ⟨h.size, fun i hi _ => h.block i (hS i hi)⟩
theorem KeepsB.cell {S : Nat → Prop} {W W' : World} (h : KeepsB S W W') {g i : Nat} (hg : S g) (hl : g < W.heap.size) : W'.cell? ⟨g, i, none⟩ = W.cell? ⟨g, i, none⟩ := World.cell?_of_block (a := ⟨g, i, none⟩) (h.block g hg hl)

theorem wpIn_store_is {F : Fence} {n : Nat} {P : Program} {o : Oper} {a : Act} {K : Act → World → Prop} {Q : Exit → Act → World → Prop} (w w' : World) (ty : TypeId) (x y : Operand) (ho : o.op = .store ty x y) (p v : Value) (hx : a.eval x = p) (hy : a.eval y = v)
  (hl : (Instr.storeAt ty p v).run P w = .ok () w') (h : K (a.put o.dst undef) w') : o.wpIn F n P a w K Q := by
 unfold Oper.wpIn
 refine ⟨by simp [Oper.about, ho], ?_⟩
 rw [Oper.semAt_plain F _ _ (by rw [ho]; intro c hc'; cases hc')]
 unfold execOp
 simp only [ho, hx, hy, hl, Sem.run_bind, Sem.run_pure, Result.andThen_ok]
 exact h
theorem run_storeAt_row {P : Program} (w : World) (g : Nat) (t ty : TypeId) (old cells : Array Value) (hg : w.heap[g]? = some (.cells old t (0, 0))) (hi : (P.info? ty).map (·.size) = some cells.size) (ho : old.size = cells.size) (h1 : cells.all (·.oneCell') = true) :
  (Instr.storeAt ty (.pointer (some ⟨g, 0, none⟩)) (.agg cells)).run P w = .ok () (w.setRow g cells) := by
 simp only [Instr.storeAt, Instr.sureAddr, Sem.run_bind, Sem.run_pure, Result.andThen_ok, run_storeVar_row w g t ty old cells hg hi ho h1]

def vw (y : WaitS) : Array Value := #[.agg y.1.cells.toArray]
theorem wait_size (y : WaitS) : (Tryz.prog.info? 161).map (·.size) = some y.1.cells.toArray.size := by rw [List.size_toArray, WaitD.len _ y.2]; exact size_wait

set_option maxRecDepth 100000 in
set_option maxHeartbeats 2000000 in
theorem all1_in (n : Nat) (hn : 1 ≤ n) (l Bs : Nat) (S : Nat → Prop) (D : DiskP) (x : DiskD) (ws : List WaitS) (hws : x.waits = ws.map (·.1)) (J Jx : List WaitS → World → Prop)
  (hA : ∀ pre W o, J pre W → J pre (W.alloc o))
  (hY : ∀ pre y W, J pre W → pre.length < ws.length → YieldAt Fence.wide (n - 1) Tryz.prog l (vw y) W fun e W' =>
   (e = .returned (.bool true) ∧ J (pre ++ [y]) W' ∧ KeepsB S W W') ∨ (e = .returned (.bool false) ∧ Jx (pre ++ [y]) W'))
  (W : World) (hBs : W.cell? ⟨Bs, 0, none⟩ = some (ptr D.p)) (hD : DiskAt W D x) (hx : x.ok) (hS : ∀ g, D.wv.ownBlock = some g → S g) (h0 : J [] W) :
  CallsIn Fence.wide n Tryz.prog 128 #[.func (.yield l) #[] #[], .pointer (some ⟨Bs, 0, none⟩)] W fun e W' => (∃ v, e = .returned v) ∧
   ((∃ ys, ys = ws ∧ J ys W') ∨ (∃ pre, pre <+: ws ∧ Jx pre W')) := by
 have hro : Fence.wide.round = none := rfl
 have hN := dnone_any D x W hD hx
 have c2 := hD.blk.cell_is 2 rfl
 obtain ⟨hmax, hws2, a, cap, ev, hc⟩ := hD.waitsIn hx.sound
 have el : x.waits.length = ws.length := by rw [hws, List.length_map]
 rw [el] at ev hmax
 rw [hws] at hc
 rw [ev] at c2 hS
 have HS := Lib.hid hS
 have EV := Lib.hid ev
 unfold ptr at *
 clear hD hx hws hws2 el ev hS
 refine callsIn_of_wp Tryz.func128 rfl trivial ?_ hro
 simp only [Tryz.ntmps128, List.size_toArray, List.length_cons, List.length_nil, Nat.reduceAdd, Nat.reduceSub, Array.replicate_succ, Array.replicate_zero, List.push_toArray, List.append_toArray, List.nil_append, List.cons_append]
 gi_wp2
 refine ⟨trivial, (callsIn_wide.2 hN).mono ?_⟩
 rintro e w' ⟨rfl, rfl⟩
 gi_wp2
 gi_loopw [12] (fun i wr => ∃ k : Nat, k ≤ ws.length ∧ i = .int .i64 (k : Int) ∧ J (ws.take k) wr ∧ KeepsB S W wr)
  (fun i _ => ws.length - (intOf i).toNat)
 case atStart => exact ⟨0, Nat.zero_le _, rfl, h0, KeepsB.refl _ _⟩
 case round =>
  obtain ⟨k, hk, rfl, hJs, hnx⟩ := hrel
  by_cases hlt : k < ws.length
  ·obtain ⟨g, rfl, hg, hrg⟩ := hc k (ws[k]'hlt).1 (by rw [List.getElem?_map, List.getElem?_eq_getElem hlt]; rfl)
   have hSg : S g := HS.out g rfl
   have hlt' : (k : Int) < (ws.length : Int) := by omega
   have hlen1 : (ws.take k).length < ws.length := by rw [List.length_take]; omega
   have hLT : ws.take (k + 1) = ws.take k ++ [ws[k]'hlt] := by rw [List.take_add_one, List.getElem?_eq_getElem hlt]; rfl
   generalize ws[k]'hlt = y at *
   obtain ⟨fn, tmps, assign, body, hy, hR⟩ := hY _ y _ (hA _ wr (.cells y.1.cells.toArray 161) hJs) hlen1
   have hld := run_loadAt_mid (P := Tryz.prog) wr g (k * 513) 161 y.1.cells _ (fun j u hj => (hnx.cell hSg hg).trans (hrg j u hj)) Tryz.underlying161 rfl (by rw [WaitD.len _ y.2]; exact size_wait)
   have hst := run_storeAt_row (P := Tryz.prog) _ wr.heap.size 161 161 Tryz.zeroCells161 y.1.cells.toArray (heap_alloc_new wr _) (wait_size y) (by rw [zero161, List.size_toArray, WaitD.len _ y.2]) (wait_all y.1)
   rw [World.setRow_alloc_new] at hst
   have hld2 := run_loadAt_mid (P := Tryz.prog) _ wr.heap.size 0 161 y.1.cells _ (fun j u hj => (Blk.new wr 161 y.1.cells.toArray).cell_is (0 + j) (by rw [List.getElem?_toArray, Nat.zero_add]; exact hj)) Tryz.underlying161 rfl (by rw [WaitD.len _ y.2]; exact size_wait)
   simp only [vw] at hy
   gi_wp2_with (first
    | (refine wpIn_load_is _ 161 _ rfl _ _ rfl hld ?_)
    | (refine wpListIn_plain rfl fun _ hK => wpIn_store_is _ _ 161 _ _ rfl _ _ rfl rfl hst (hK _ _ ?_))
    | (refine wpIn_load_is _ 161 _ rfl _ _ rfl hld2 ?_))
   refine hR.mono ?_
   rintro e W3 (⟨rfl, hJ3, hk3⟩ | ⟨rfl, hJx3⟩)
   ·gi_wp2
    go_roundw
    case rel => exact ⟨k + 1, by omega, by simp, by rw [hLT]; exact hJ3, (hnx.trans (KeepsB.alloc _ _ _)).trans hk3⟩
    case measure => simp [intOf]; omega
   ·gi_wp2
    refine bodyPost_ret (results_none rfl _ _ _) rfl ?_
    exact ⟨⟨_, rfl⟩, .inr ⟨_, by rw [← hLT]; exact List.take_prefix _ _, hJx3⟩⟩
  ·obtain rfl : k = ws.length := by omega
   rw [List.take_length] at hJs
   gi_wp2
   go_end0
   exact ⟨⟨_, rfl⟩, .inl ⟨_, rfl, hJs⟩⟩

set_option maxHeartbeats 1000000 in
theorem all_in (n : Nat) (g : Nat) (w : World) :
  CallsIn Fence.wide n Tryz.prog 85 #[ptr g] w fun e w' => e = .returned (.func (.func 128) #[] #[.pointer (some ⟨w.heap.size, 0, none⟩)]) ∧ w' = w.alloc (.cells #[ptr g] 37) := by
 have hro : Fence.wide.round = none := rfl
 unfold ptr
 refine callsIn_of_wp Tryz.func85 rfl trivial ?_ hro
 simp only [Tryz.ntmps85, List.size_toArray, List.length_cons, List.length_nil, Nat.reduceAdd, Nat.reduceSub, Array.replicate_succ, Array.replicate_zero, List.push_toArray, List.append_toArray, List.nil_append, List.cons_append]
 gi_wp2
 go_ret
 exact ⟨rfl, rfl⟩

theorem all_stops (n : Nat) (hn : 1 ≤ n) (Bs : Nat) (S : Nat → Prop) (D : DiskP) (x : DiskD) (ws : List WaitS) (hws : x.waits = ws.map (·.1)) (w : World) (hBs : Bs < w.heap.size) (hc : w.cell? ⟨Bs, 0, none⟩ = some (ptr D.p)) (hD : DiskAt w D x) (hx : x.ok) (hS : ∀ g, D.wv.ownBlock = some g → S g) :
  SeqStopsK Fence.wide n Tryz.prog 128 #[.pointer (some ⟨Bs, 0, none⟩)] vw (KeepsB S) (fun ys => ys = ws) (fun pre => pre <+: ws) ws.length w := fun l J Jx W hW hJ _ hY h0 =>
 all1_in n hn l Bs S D x ws hws J Jx (fun pre W' o h => hJ pre W' _ none h (World.grownBy_alloc _ _ _) (fun r e => by cases e)) hY W ((hW.cell (p := ⟨Bs, 0, none⟩) hBs).trans hc) (hD.below hW) hx hS h0
end Go.Proofs.YtdpniceapmikpaaGreat
