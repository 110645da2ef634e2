/-
  disk.Flush: what waits is written to stay.
-/
import Derived.Test.YtdpniceapmikpaaGreatWh1
import Derived.Test.YtdpniceapmikpaaGreatWh10
import Derived.Test.YtdpniceapmikpaaGreatWh11
set_option linter.unusedVariables false
set_option linter.unusedSimpArgs false
namespace Go.Proofs.YtdpniceapmikpaaGreat
open Go.RowKit Go.Shelf

attribute [local go_sem] Oper.semAt_some

theorem outG {w w' : World} {row : Option Nat} (h : w.grownBy w' row) : Out (fun i => row = some i) w w' := ⟨h.os, h.tape, h.output, h.size, fun i hi hn => h.block i hi (fun e => hn e.symm)⟩
/-- sectors behind writes that stay -/
def lastsBy (f : Int → List UInt8) (ys : List WaitD) : Int → List UInt8 := ys.foldl (fun f y m => if m = y.n then y.b else f m) f
theorem lastsBy_snoc (f : Int → List UInt8) (ys : List WaitD) (y : WaitD) : lastsBy f (ys ++ [y]) = fun m => if m = y.n then y.b else lastsBy f ys m := by
 unfold lastsBy
 rw [List.foldl_append]
 rfl
theorem lastsBy_find : ∀ (ys : List WaitD) (f : Int → List UInt8) (m : Int), lastsBy f ys m = match ys.reverse.find? (fun y => y.n == m) with | some y => y.b | none => f m
 | [], f, m => rfl
 | y :: ys, f, m => by
  have h := lastsBy_find ys (fun m => if m = y.n then y.b else f m) m
  show lastsBy (fun m => if m = y.n then y.b else f m) ys m = _
  rw [h, List.reverse_cons, List.find?_append]
  cases hf : ys.reverse.find? (fun y => y.n == m) with
  | some z => simp
  | none =>
   by_cases e : m = y.n
   ·have : (y.n == m) = true := by simpa using e.symm
    simp [List.find?_cons, this, e]
   ·have : (y.n == m) = false := by simpa using fun h => e h.symm
    simp [List.find?_cons, this, e]
theorem lastsBy_reads (x : DiskD) : lastsBy x.lasts x.waits = x.reads := by
 funext m
 rw [lastsBy_find]
 rfl
/-- a disk, what waits there written to stay -/
def DiskD.flushed (x : DiskD) : DiskD := { x with lasts := x.reads, waits := [] }
theorem diskWaits_nil {w : World} {D : DiskP} {x : DiskD} (h : DiskAt w D x) : DiskAt (w.setCell ⟨D.p, 2, none⟩ (.slice none 0 0)) { D with wv := .slice none 0 0 } { x with waits := [] } ∧ DStep D { D with wv := .slice none 0 0 } w (w.setCell ⟨D.p, 2, none⟩ (.slice none 0 0)) := by
 obtain ⟨n1, n2, n3⟩ := h.ne
 have ho : Out (fun i => i = D.p) w (w.setCell ⟨D.p, 2, none⟩ (.slice none 0 0)) := out_set rfl
 refine ⟨⟨h.blk.set_ 2 _, ?_, World.ownsRow_nil _ _ _ _, ?_, h.apart⟩, ⟨out_set (.inl rfl), rfl, ?_⟩⟩
 ·obtain ⟨l, hm, hl⟩ := h.lasts
  exact ⟨l, ho.map hm n1, hl⟩
 ·rcases h.fails with hn | ⟨r, k, e, h1, h2⟩
  ·exact .inl hn
  ·exact .inr ⟨r, k, e, ho.map h1 (n3 r e), h2⟩
 ·rintro i (hi | hi | hi | hi)
  ·exact .inl (.inl hi)
  ·exact .inl (.inr (.inl hi))
  ·cases hi
  ·exact .inl (.inr (.inr (.inr hi)))
set_option maxRecDepth 100000 in
set_option maxHeartbeats 4000000 in
theorem flush1_in (n : Nat) (hn : 3 ≤ n) (Bs : Nat) (D : DiskP) (x : DiskD) (w : World) (h : DiskAt w D x) (hx : x.ok) (hB : Blk w Bs 37 #[ptr D.p]) :
  CallsIn Fence.wide n Tryz.prog 84 #[.pointer (some ⟨Bs, 0, none⟩)] w fun e w' => e = .returned (.tuple #[]) ∧ DiskAt w' { D with wv := .slice none 0 0 } x.flushed ∧ DStep D { D with wv := .slice none 0 0 } w w' := by
 have h1 : 1 ≤ n := by omega
 have hro : Fence.wide.round = none := rfl
 have hlt := h.has_lt
 obtain ⟨ws, ews⟩ := waitS_of x.waits hx.2.2.2.1
 obtain ⟨W1, eW1⟩ : ∃ W, W = w.alloc (.cells #[ptr D.p] 37) := ⟨_, rfl⟩
 have hb1 : Below w.heap.size w W1 := by rw [eW1]; exact (Below.refl _ w).alloc (Nat.le_refl _) _
 have k1 : Blk W1 w.heap.size 37 #[ptr D.p] := by rw [eW1]; exact Blk.new w _ _
 have hs1 : W1.heap.size = w.heap.size + 1 := by rw [eW1]; simp
 have hD1 := h.below hb1
 have hB1 := hB.below hb1 hB.lt
 have HS := Lib.hid (all_stops (n - 1) (by omega) w.heap.size (fun i => D.wv.ownBlock = some i) D x ws ews W1 (by omega) (k1.cell_is 0 rfl) hD1 hx (fun g hg => hg))
 have hDn : ∀ i, D.wv.ownBlock = some i → i < W1.heap.size := fun i hi => by have := hlt i (.inr (.inr (.inl hi))); omega
 have HW := Lib.hid ews
 have HD1 := Lib.hid hD1
 have HB1 := Lib.hid hB1
 have HS1 := Lib.hid (show DStep D D w W1 from ⟨⟨hb1.os, hb1.tape, hb1.output, hb1.size, fun i hi _ => hb1.block i hi⟩, rfl, fun i hi => .inl hi⟩)
 have hlB := hB.lt
 have cB := hB.cell_is 0 rfl
 clear h hx hB hb1 k1 hD1 hB1 ews
 unfold ptr at *
 refine callsIn_of_wp_marks Tryz.func84 rfl trivial ?_ hro
 simp only [Tryz.ntmps84, List.size_toArray, List.length_cons, List.length_nil, Nat.reduceAdd, Nat.reduceSub, Array.replicate_succ, Array.replicate_zero, List.push_toArray, List.append_toArray, List.nil_append, List.cons_append]
 refine wpIn_wide.2 ?_
 go_wp2_with fail
 refine (callsIn_wide.1 (all_in 5 D.p _)).mono ?_; rintro e w2 ⟨rfl, rfl⟩
 unfold ptr
 rw [← eW1]
 clear eW1
 go_wp2_with fail
 refine (wpIn_wide (n := n)).1 ?_
 refine wpIn_rangeFunc_ownH hro h1 (gf := 128) (lb := #[.pointer (some ⟨w.heap.size, 0, none⟩)]) rfl trivial (enters_of Tryz.func128 (by kernel_rfl) rfl)
  HS.out keepsB_t (keepsB_b (fun i hi => hDn i hi)) (Below.refl _ _) (fun _ => rfl)
  (fun pre W => DiskAt W D { x with lasts := lastsBy x.lasts (pre.map (·.1)) } ∧ DStep D D w W ∧ Blk W Bs 37 #[.pointer (some ⟨D.p, 0, none⟩)] ∧ W1.heap.size ≤ W.heap.size)
  (fun c pre W => False)
  (fun s A B row hs hg hr => ⟨hs.1.out (outG hg) (fun i hi e => by have := (hr i e).1; have := hlt i hi; omega), ⟨hs.2.1.out.trans (outG hg) (fun i hi e => by have := (hr i e).1; omega), rfl, fun i hi => .inl hi⟩, (outG hg).blk hs.2.2.1 (fun e => by have := (hr Bs e).1; omega), by have := hg.size; omega⟩)
  (fun _ _ _ _ _ hs _ _ => hs)
  ⟨HD1.out, HS1.out, HB1.out, Nat.le_refl _⟩
  (fun y a' W => ∃ g, a' = { tmps := #[.pointer (some ⟨Bs, 0, none⟩), .pointer (some ⟨g, 0, none⟩), .pointer (some ⟨D.p, 0, none⟩), .func (.func 128) #[] #[.pointer (some ⟨w.heap.size, 0, none⟩)], .agg y.1.cells.toArray, undef, undef, undef, undef, undef, undef, undef, undef, undef, undef, undef], defers := [] } ∧ W1.heap.size ≤ g ∧ Blk W g 161 y.1.cells.toArray)
  (fun y a' => (fun s A B row hs hg hr => by obtain ⟨g, e, hgg, hb⟩ := hs; exact ⟨g, e, hgg, hb.own hg (fun r e => (hr r e).2)⟩)) ?assign ?body ?done ?stop
 case stop =>
  rintro Dd c pre W _ _ h _
  exact h.elim
 case assign =>
  intro l pre y W K hI hK
  have hzip : (#[4].zip (vw y)).foldl (fun t (p : Nat × Value) => t.setIfInBounds p.1 p.2) #[.pointer (some ⟨Bs, 0, none⟩), undef, .pointer (some ⟨D.p, 0, none⟩), .func (.func 128) #[] #[.pointer (some ⟨w.heap.size, 0, none⟩)], undef, undef, undef, undef, undef, undef, undef, undef, undef, undef, undef, undef] = #[.pointer (some ⟨Bs, 0, none⟩), undef, .pointer (some ⟨D.p, 0, none⟩), .func (.func 128) #[] #[.pointer (some ⟨w.heap.size, 0, none⟩)], .agg y.1.cells.toArray, undef, undef, undef, undef, undef, undef, undef, undef, undef, undef, undef] := by kernel_rfl
  dsimp only
  rw [hzip]
  clear hzip
  have HI := Lib.hid hI
  clear hI
  gi_wp2_with (refine wpListIn_store_row rfl rfl 161 _ _ rfl W.heap.size y.1.cells.toArray rfl rfl 161 Tryz.zeroCells161 (heap_alloc_new W _) (wait_size y) (by rw [zero161, List.size_toArray, WaitD.len _ y.2]) (wait_all y.1) ?_; rw [World.setRow_alloc_new])
  have hba : Below W.heap.size W (W.alloc (.cells y.1.cells.toArray 161)) := (Below.refl _ W).alloc (Nat.le_refl _) _
  exact hK _ _ ((KeepsOthers.alloc W _).from _) (KeepsB.alloc _ _ _) ⟨HI.out.1.below hba, HI.out.2.1.below hba, HI.out.2.2.1.alloc _, by have := HI.out.2.2.2; simp; omega⟩ ⟨_, rfl, HI.out.2.2.2, Blk.new W _ _⟩
 case body =>
  rintro l pre y a' W hl hr ⟨hdk, hst, hbk, hsz⟩ ⟨g, rfl, hg, hG⟩ hlen
  obtain ⟨W3, hr3, ht3, hd3, hs3⟩ := diskLasts_set hdk.drew y.1.n y.1.b
  have HSS := Lib.hid (show W.drew.cell? ⟨Bs, 0, none⟩ = some (.pointer (some ⟨D.p, 0, none⟩)) ∧ W.drew.cell? ⟨D.p, 1, none⟩ = some (.map (some D.lm)) ∧ W.drew.cell? ⟨g, 0, none⟩ = some (.int .i64 y.1.n) ∧ W.drew.rangeAt g 1 (y.1.b.map vu8) from
   ⟨hbk.drew.cell_is 0 rfl, hdk.drew.blk.cell_is 1 rfl, hG.drew.cell_is 0 rfl, fun j v hv => hG.drew.cell_is (1 + j) (by rw [List.getElem?_toArray, Nat.add_comm]; exact hv)⟩)
  have HR3 := Lib.hid hr3
  have HD3 := Lib.hid hd3
  have hm := hdk.lasts
  obtain ⟨lm, hm, _⟩ := hm
  have hlm : D.lm < w.heap.size := hlt _ (.inr (.inl rfl))
  have hnB : Bs ≠ D.lm := fun e => ne_map hm hbk e.symm
  have hB3 : Blk W3 Bs 37 #[.pointer (some ⟨D.p, 0, none⟩)] := (ht3.block Bs hnB).trans hbk
  have HB3 := Lib.hid hB3
  have HNW := Lib.hid (fun k (hk : D.wv.ownBlock = some k) => ne_own_map hdk.waits hm k hk)
  have HT3 := Lib.hid ht3
  have HST := Lib.hid ((hst.below ((Below.refl _ W).drew)).trans hs3)
  have HS3 := Lib.hid (show W3.cell? ⟨Bs, 0, none⟩ = some (.pointer (some ⟨D.p, 0, none⟩)) ∧ W3.cell? ⟨D.p, 1, none⟩ = some (.map (some D.lm)) ∧ W3.cell? ⟨g, 0, none⟩ = some (.int .i64 y.1.n) ∧ W3.rangeAt g 1 (y.1.b.map vu8) from by
   have hG3 : Blk W3 g 161 y.1.cells.toArray := (ht3.block g (by omega)).trans hG
   exact ⟨hB3.cell_is 0 rfl, hd3.blk.cell_is 1 rfl, hG3.cell_is 0 rfl, fun j v hv => hG3.cell_is (1 + j) (by rw [List.getElem?_toArray, Nat.add_comm]; exact hv)⟩)
  clear hr3 ht3 hd3 hs3 hdk hst hbk hG hB3 hm
  gi_wp2
  refine region_round_held (S := (fun w' => w'.cell? ⟨Bs, 0, none⟩ = some (.pointer (some ⟨D.p, 0, none⟩)) ∧ w'.cell? ⟨D.p, 1, none⟩ = some (.map (some D.lm)) ∧ w'.cell? ⟨g, 0, none⟩ = some (.int .i64 y.1.n) ∧ w'.rangeAt g 1 (y.1.b.map vu8))) (by kernel_rfl) (by kernel_rfl) (by rintro ⟨_, _, h⟩; exact h) (by first | exact HSS.out | ((try dsimp only); exact HSS.out)) (fun hHeld => ?_)
  refine tk 0 ?_
  refine tk 1 ?_
  refine tk 2 ?_
  refine tk 3 ?_
  refine tk 4 ?_
  refine tk 5 ?_
  refine tk 6 ?_
  refine ty 7 rfl (yieldsIf_load_mid (by rfl) 111 _ rfl g 1 rfl (y.1.b.map vu8) _ (fun w' h => h.2.2.2) Tryz.underlying111 rfl (by rw [List.length_map, y.2]; exact size_sector)) ?_
  refine rd 8 fun K hK => ?_
  rw [if_pos (by rfl)]
  refine wp_mapUpdate_is _ W3 148 _ _ _ rfl _ _ _ rfl rfl rfl HR3.out ?_
  refine hK.out _ _ (by first | exact HS3.out | ((try dsimp only); exact HS3.out)) (fun hHeld => ?_)
  clear hK K
  try simp only [Act.put, pz0, pz1, pz2, pz3, pz4, pz5]
  refine wpAnyH_done (by kernel_rfl) ?_ _
  try simp only [Act.put, pz0, pz1, pz2, pz3, pz4, pz5]
  have hd := HD3.out
  rw [← lastsBy_snoc] at hd
  exact ⟨⟨by have := HT3.out.size; show W.heap.size ≤ W3.heap.size; rw [this]; exact Nat.le_refl _, fun k o hk ho hc => (HT3.out.block k (by omega)).trans ho⟩, ⟨by have := HT3.out.size; show W.heap.size ≤ W3.heap.size; rw [this]; exact Nat.le_refl _, fun k hk hl => HT3.out.block k (HNW.out k hk)⟩, by rw [List.map_append]; exact hd, HST.out, HB3.out, by have := HT3.out.size; show _ ≤ W3.heap.size; rw [this]; exact hsz⟩
 case done =>
  rintro Dd ys W hDd rfl ⟨hdk, hst, hbk, hsz⟩ hK
  rw [← HW.out, lastsBy_reads] at hdk
  have hn := diskWaits_nil hdk
  have hlp : D.p < w.heap.size := hlt _ (.inl rfl)
  have c0 := hbk.cell_is 0 rfl
  have c2 := hdk.blk.cell_is 2 rfl
  have f2 := hdk.blk.frozen 2
  have HN := Lib.hid (And.intro hn.1 (hst.trans hn.2))
  have hK2 : (W.setCell ⟨D.p, 2, none⟩ (.slice none 0 0)).heap[Dd]? = some (.deferred (some [])) := (Below.heap_setCell W _ _ _ (by show Dd ≠ D.p; omega)).trans hK
  have HK := Lib.hid hK2
  clear hdk hst hbk hn hK hK2
  go_wp2_with fail
  refine ⟨by simp, .inl ⟨_, _, rfl, run_takeDeferred HK.out, ?_⟩⟩
  have ho : Out (fun i => i = Dd) (W.setCell ⟨D.p, 2, none⟩ (.slice none 0 0)) ((W.setCell ⟨D.p, 2, none⟩ (.slice none 0 0)).putObj Dd (.deferred none)) := ⟨rfl, rfl, rfl, by simp, fun k hk hn => World.putObj_heap_other hn⟩
  refine ⟨_, results_none rfl _ _ _, rfl, HN.out.1.out ho (fun i hi e => ?_), ⟨HN.out.2.out.trans ho (fun i hi e => by omega), rfl, HN.out.2.new_⟩⟩
  have hnew := HN.out.2.new_ i hi
  rcases hi with hi | hi | hi | hi
  ·have := hlt i (.inl hi); omega
  ·have := hlt i (.inr (.inl hi)); omega
  ·cases hi
  ·have := hlt i (.inr (.inr (.inr hi))); omega
end Go.Proofs.YtdpniceapmikpaaGreat
