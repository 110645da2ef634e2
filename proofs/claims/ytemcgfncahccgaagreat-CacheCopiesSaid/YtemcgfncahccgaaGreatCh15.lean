/-
  slices.AppendSeq, Collect, Sorted of an iterator over numbers.
  slices.Sorted of an iterator over numbers; slices.Values.
  cache's without: a list without a thing (slices.Clone, slices.DeleteFunc).
  Maps with integer keys from which entries may be deleted: known whole; look-up, store, delete.
-/
import Derived.Deep.Onto
import Derived.Sort.OwnSortedInts
import Derived.Test.YtemcgfncahccgaaGreatCh8
import Derived.Test.YtemcgfncahccgaaGreatCh9
import Derived.Test.YtemcgfncahccgaaGreatCh10
import Derived.Test.YtemcgfncahccgaaGreatCh14
set_option linter.unusedVariables false
set_option linter.unusedSimpArgs false
namespace Go.Proofs.YtemcgfncahccgaaGreat
open Go.RowKit Go.Shelf

attribute [local go_sem] Oper.semAt_some

def vi (y : Int) : Array Value := #[.int .i64 y]
theorem ints_snoc' (l : List Int) (x : Int) : (l ++ [x]).map (Value.int .i64) = l.map (Value.int .i64) ++ [.int .i64 x] := by simp
set_option maxRecDepth 100000 in
set_option maxHeartbeats 4000000 in
theorem appendSeq_in (n : Nat) (hn : 3 ≤ n) (gf : FuncId) (lb : Array Value) (ys : List Int) (w : World) (eg : ∀ args w, (callFunc gf args).run Tryz.prog w = .ok (.enter gf args) w) (hl : ys.length ≤ 1000000)
  (hS : SeqStopsK Fence.wide (n - 1) Tryz.prog gf lb vi (KeepsB (fun i => i < w.heap.size)) (fun l => l = ys) (fun pre => pre <+: ys) ys.length (w.alloc (.cells #[.slice none 0 0] 23))) :
  CallsIn Fence.wide n Tryz.prog 95 #[.slice none 0 0, .func (.func gf) #[] lb] w fun e w' => ∃ v, e = .returned v ∧ w'.ownsRow w.heap.size 3 1 v ys.length (ys.map (Value.int .i64)) ∧ Below w.heap.size w w' := by
 have h1 : 1 ≤ n := by omega
 have hro : Fence.wide.round = none := rfl
 have hb0 : Below w.heap.size w (w.alloc (.cells #[.slice none 0 0] 23)) := (Below.refl _ w).alloc (Nat.le_refl _) _
 have HS := Lib.hid hS
 clear hS
 refine callsIn_of_wp_marks Tryz.func95 rfl trivial ?_ hro
 simp only [Tryz.ntmps95, List.size_toArray, List.length_cons, List.length_nil, Nat.reduceAdd, Nat.reduceSub, Array.replicate_succ, Array.replicate_zero, List.push_toArray, List.append_toArray, List.nil_append, List.cons_append]
 refine wpIn_wide.2 ?_
 go_wp2_with fail
 refine (wpIn_wide (n := n)).1 ?_
 refine wpIn_rangeFunc_ownH hro h1 (gf := gf) (lb := lb) rfl trivial eg
  HS.out keepsB_t (keepsB_b (fun i hi => by simp; omega)) (Below.refl _ _) (fun _ => rfl)
  (fun pre W => (∃ v, Blk W w.heap.size 23 #[v] ∧ W.ownsRow (w.heap.size + 1) 3 1 v pre.length (pre.map (Value.int .i64))) ∧ Below w.heap.size (w.alloc (.cells #[.slice none 0 0] 23)) W)
  (fun c pre W => False)
  (OwnFrom.and (fun s A B row hs hg hr => by obtain ⟨v, hb, ho⟩ := hs; exact ⟨v, hb.own hg (fun r e => (hr r e).2), ownsRow_own ho hg (fun r e => (hr r e).2)⟩) (ownFrom_below (by simp) (by simp)))
  (fun _ _ _ _ _ hs _ _ => hs)
  ⟨⟨_, Blk.new w _ _, World.ownsRow_nil _ _ _ _⟩, Below.refl _ _⟩
  (fun y a' W => a' = { tmps := #[.slice none 0 0, .func (.func gf) #[] lb, .pointer (some ⟨w.heap.size, 0, none⟩), undef, .slice none 0 0, .int .i64 y, .func (.func gf) #[] lb, .int .i64 y, undef, undef, undef, undef, undef], defers := [] })
  (fun y a' => (fun s A B row hs hg hr => hs)) ?assign ?body ?done ?stop
 case assign =>
  intro l pre y W K hI hK
  have hzip : (#[7].zip (vi y)).foldl (fun t (p : Nat × Value) => t.setIfInBounds p.1 p.2) #[.slice none 0 0, .func (.func gf) #[] lb, .pointer (some ⟨w.heap.size, 0, none⟩), undef, .slice none 0 0, undef, .func (.func gf) #[] lb, undef, undef, undef, undef, undef, undef] = #[.slice none 0 0, .func (.func gf) #[] lb, .pointer (some ⟨w.heap.size, 0, none⟩), undef, .slice none 0 0, undef, .func (.func gf) #[] lb, .int .i64 y, undef, undef, undef, undef, undef] := by kernel_rfl
  dsimp only
  rw [hzip]
  clear hzip
  gi_wp2
  exact hK _ _ ((KeepsOthers.refl W).from _) (KeepsB.refl _ _) hI rfl
 case body =>
  rintro l pre y a' W hl2 hr ⟨⟨v, hv, ho⟩, hB⟩ rfl hlen
  obtain ⟨i0, hi0, hz0, hz1, hz2⟩ := info_parts info_i64
  have cV := hv.cell_is 0 rfl
  have hsz := hB.size
  rw [World.size_alloc] at hsz
  have hO := Lib.hid (ownsRow_own ho (World.grownBy_alloc W (.cells #[.int .i64 y] 3) none) (fun r e => by cases e))
  have hV := Lib.hid hv
  have hHB := Lib.hid hB
  have hne : ∀ i, v.ownBlock = some i → i ≠ w.heap.size := ne_own ho hv (by decide)
  have hlt2 := hv.lt
  clear ho hv hB
  gi_wp2_with (refine wpListIn_append_own _ rfl _ _ _ rfl (w.heap.size + 1) 3 i0 _ 1 8 Tryz.underlying23 hi0 hz0 hz1 hz2 rfl (by omega) v pre.length _ rfl hO.out ⟨W.heap.size, 0, none⟩ 1 1 [.int .i64 y] rfl rfl (World.news_of_block (cs := #[.int .i64 y]) (t := 3) (fr := (0, 0)) (heap_alloc_new W _)) (by simp [Value.oneCell']) (by unfold maxLen; omega) (by omega) (by simp; omega) ?_; intro v2 w2 hO2 hg2 hn2; obtain ⟨g3, cap3, rfl, hg3, hlt3⟩ := hO2.form (by omega); have hV2 : Blk w2 w.heap.size 23 #[v] := (hg2.block _ (by simp; omega) (fun e => hne _ e.symm rfl)).trans (hV.out.alloc _); have cV2 := hV2.cell_is 0 rfl; have fV2 := hV2.frozen 0)
  have hE : ∀ i, (Value.slice (some ⟨g3, 0, none⟩) (pre.length + 1) cap3).ownBlock = some i → i ≠ w.heap.size := ne_own hO2 hV2 (by decide)
  refine ⟨((KeepsOthers.alloc W (.cells #[.int .i64 y] 3)).trans ((keepsOthers_grown hg2 (ownsRow_cells hO.out)).trans (KeepsOthers.setCell w2 _ _))).from _, ?_, ⟨_, hV2.set_ 0 _, ?_⟩, ?_⟩
  ·refine (KeepsB.alloc _ W (.cells #[.int .i64 y] 3)).trans (KeepsB.trans (B := w2) ⟨hg2.size, fun i hi hl => hg2.block i hl (fun e => ?_)⟩ ⟨by simp, fun i hi hl => Below.heap_setCell w2 _ _ _ (Nat.ne_of_lt hi)⟩)
   have := (hO.out.lt i e.symm).1
   omega
  ·have e1 : (pre ++ [y]).length = pre.length + 1 := by simp
   rw [e1, ints_snoc']
   exact ownsRow_out (F := fun i => i = w.heap.size) (out_set rfl) hO2 (fun i hi => hE i hi)
  ·exact ((hHB.out.alloc (by omega) _).grown hg2 (by simp; omega) (fun r hr => by have := (hO.out.lt r hr).1; omega)).setCell (p := ⟨w.heap.size, 0, none⟩) (Nat.le_refl _) _
 case done =>
  rintro Dd ys2 W hD rfl ⟨⟨v, hv, ho⟩, hB⟩ hK
  have cV := hv.cell_is 0 rfl
  obtain ⟨a, cap, rfl⟩ := slice_form ho
  have HO := Lib.hid ho
  clear ho
  go_wp2_with fail
  refine ⟨by simp, .inl ⟨_, _, rfl, run_takeDeferred hK, ?_⟩⟩
  have hout : Out (fun i => i = Dd) W (W.putObj Dd (.deferred none)) := ⟨rfl, rfl, rfl, by simp, fun j _ hn => World.putObj_heap_other (by first | exact hn | exact fun e => hn e.symm)⟩
  exact ⟨_, results_tmp rfl _ _ _, ⟨_, rfl, World.ownsRow.mono (ownsRow_out hout HO.out (fun g hg e => by
   subst e
   obtain ⟨o, ho, hc⟩ := ownsRow_cells HO.out g hg
   rw [hK] at ho
   cases ho
   cases hc)) (by omega), (hb0.trans (hB.mono (by simp))).trans (belowK_b (w := w) (Nat.le_refl _) W Dd _ _ (by simp at hD; omega) hK rfl rfl)⟩⟩
 case stop =>
  rintro Dd c pre W _ _ h _
  exact h.elim
set_option maxHeartbeats 1000000 in
/-- slices.Collect -/
theorem collect_in (n : Nat) (hn : 4 ≤ n) (gf : FuncId) (lb : Array Value) (ys : List Int) (w : World) (eg : ∀ args w, (callFunc gf args).run Tryz.prog w = .ok (.enter gf args) w) (hl : ys.length ≤ 1000000)
  (hS : SeqStopsK Fence.wide (n - 2) Tryz.prog gf lb vi (KeepsB (fun i => i < w.heap.size)) (fun l => l = ys) (fun pre => pre <+: ys) ys.length (w.alloc (.cells #[.slice none 0 0] 23))) :
  CallsIn Fence.wide n Tryz.prog 75 #[.func (.func gf) #[] lb] w fun e w' => ∃ v, e = .returned v ∧ w'.ownsRow w.heap.size 3 1 v ys.length (ys.map (Value.int .i64)) ∧ Below w.heap.size w w' := by
 have hro : Fence.wide.round = none := rfl
 have HA := Lib.hid (appendSeq_in (n - 1) (by omega) gf lb ys w eg hl (by rw [show n - 1 - 1 = n - 2 by omega]; exact hS))
 clear hS eg
 refine callsIn_of_wp Tryz.func75 rfl trivial ?_ hro
 simp only [Tryz.ntmps75, List.size_toArray, List.length_cons, List.length_nil, Nat.reduceAdd, Nat.reduceSub, Array.replicate_succ, Array.replicate_zero, List.push_toArray, List.append_toArray, List.nil_append, List.cons_append]
 gi_wp2
 refine ⟨trivial, fun _ => by omega, HA.out.mono ?_⟩
 rintro e w' ⟨v, rfl, hO, hb⟩
 obtain ⟨a, cap, rfl⟩ := slice_form hO
 have HO := Lib.hid hO
 clear hO
 gi_wp2
 go_ret
 exact ⟨_, rfl, HO.out, hb⟩
end Go.Proofs.YtemcgfncahccgaaGreat
namespace Go.Proofs.YtemcgfncahccgaaGreat
open Go.RowKit Go.Shelf

attribute [local go_sem] Oper.semAt_some

def sortI (l : List Int) : List Int := l.mergeSort fun x y => decide (x ≤ y)
theorem sortI_len (l : List Int) : (sortI l).length = l.length := List.length_mergeSort l
theorem sortI_nil : sortI [] = [] := by simp [sortI]

/-- slices.Sort of a slice of the caller's own -/
theorem sort_own (w : World) (B : Nat) (v : Value) (ys : List Int) (hl : ys.length ≤ 1000000) (h : w.ownsRow B 3 1 v ys.length (ys.map (Value.int .i64))) :
  Calls Tryz.prog 76 #[v] w fun e w' => e = .returned (.tuple #[]) ∧ w'.ownsRow B 3 1 v ys.length ((sortI ys).map (Value.int .i64)) ∧ Below B w w' := by
 rcases h.2 with ⟨rfl, h0⟩ | ⟨g, cap, cur, rfl, hB, hg, h1, h2, h3, h4⟩
 ·have hn : ys = [] := List.eq_nil_of_length_eq_zero h0
  subst hn
  refine (Tryz.slices_Sort_int_none none 0 w).mono ?_
  rintro e w' ⟨rfl, rfl⟩
  exact ⟨rfl, by rw [sortI_nil]; exact h, Below.refl _ _⟩
 ·refine (Tryz.slices_Sort_int g 0 cap ys w (Go.holds_of_blockI hg (by simpa using h4)) (Array.getElem?_eq_some_iff.1 hg).1 (by omega)).mono ?_
  rintro e w' ⟨rfl, n, os, rfl⟩
  refine ⟨rfl, Go.ownsRow_sortedI (ts := sortI ys) (sortI_len ys) hB hg h1 h2 h3, ?_⟩
  exact (Below.refl B w).grown (Go.grownBy_sortedI _) (by have := (Array.getElem?_eq_some_iff.1 hg).1; omega) (fun r hr => by cases hr; exact hB)

set_option maxHeartbeats 1000000 in
/-- slices.Sorted -/
theorem sorted_in (n : Nat) (hn : 5 ≤ n) (gf : FuncId) (lb : Array Value) (ys : List Int) (w : World) (eg : ∀ args w, (callFunc gf args).run Tryz.prog w = .ok (.enter gf args) w) (hl : ys.length ≤ 1000000)
  (hS : SeqStopsK Fence.wide (n - 3) Tryz.prog gf lb vi (KeepsB (fun i => i < w.heap.size)) (fun l => l = ys) (fun pre => pre <+: ys) ys.length (w.alloc (.cells #[.slice none 0 0] 23))) :
  CallsIn Fence.wide n Tryz.prog 44 #[.func (.func gf) #[] lb] w fun e w' => ∃ v, e = .returned v ∧ w'.ownsRow w.heap.size 3 1 v ys.length ((sortI ys).map (Value.int .i64)) ∧ Below w.heap.size w w' := by
 have hro : Fence.wide.round = none := rfl
 have HA := Lib.hid (collect_in (n - 1) (by omega) gf lb ys w eg hl (by rw [show n - 1 - 2 = n - 3 by omega]; exact hS))
 clear hS eg
 refine callsIn_of_wp Tryz.func44 rfl trivial ?_ hro
 simp only [Tryz.ntmps44, List.size_toArray, List.length_cons, List.length_nil, Nat.reduceAdd, Nat.reduceSub, Array.replicate_succ, Array.replicate_zero, List.push_toArray, List.append_toArray, List.nil_append, List.cons_append]
 gi_wp2
 refine ⟨trivial, fun _ => by omega, HA.out.mono ?_⟩
 rintro e w' ⟨v, rfl, hO, hb⟩
 obtain ⟨a, cap, rfl⟩ := slice_form hO
 have HS := Lib.hid (sort_own w' w.heap.size _ ys hl hO)
 have HB := Lib.hid hb
 clear hO hb
 gi_wp2
 refine ⟨trivial, fun _ => by omega, (callsIn_wide.2 HS.out).mono ?_⟩
 rintro e w'' ⟨rfl, hO, hb⟩
 have HO := Lib.hid hO
 have HB2 := Lib.hid hb
 clear hO hb
 gi_wp2
 go_ret
 exact ⟨_, rfl, HO.out, HB.out.trans HB2.out⟩

set_option maxRecDepth 100000 in
set_option maxHeartbeats 2000000 in
theorem vals1_in (n : Nat) (hn : 1 ≤ n) (l Bs B : Nat) (S : Nat → Prop) (v : Value) (ys : List Int) (hm : ys.length ≤ 1000000) (J Jx : List Int → World → Prop)
  (hY : ∀ pre y W, J pre W → pre.length < ys.length → YieldAt Fence.wide (n - 1) Tryz.prog l (vi y) W fun e W' =>
   (e = .returned (.bool true) ∧ J (pre ++ [y]) W' ∧ KeepsB S W W') ∨ (e = .returned (.bool false) ∧ Jx (pre ++ [y]) W'))
  (W : World) (hBs : W.cell? ⟨Bs, 0, none⟩ = some v) (hD : IntsIn W B v ys) (hB : B ≤ W.heap.size) (hS : ∀ g, g < B → S g) (h0 : J [] W) :
  CallsIn Fence.wide n Tryz.prog 80 #[.func (.yield l) #[] #[], .pointer (some ⟨Bs, 0, none⟩)] W fun e W' => (∃ v, e = .returned v) ∧
   ((∃ zs, zs = ys ∧ J zs W') ∨ (∃ pre, pre <+: ys ∧ Jx pre W')) := by
 have hro : Fence.wide.round = none := rfl
 obtain ⟨hmax, a, cap, rfl, hcap, hc⟩ := hD
 have HC := Lib.hid hc
 clear hc
 refine callsIn_of_wp Tryz.func80 rfl trivial ?_ hro
 simp only [Tryz.ntmps80, List.size_toArray, List.length_cons, List.length_nil, Nat.reduceAdd, Nat.reduceSub, Array.replicate_succ, Array.replicate_zero, List.push_toArray, List.append_toArray, List.nil_append, List.cons_append]
 gi_wp2
 gi_loopw [7] (fun i wr => ∃ k : Nat, k ≤ ys.length ∧ i = .int .i64 (k : Int) ∧ J (ys.take k) wr ∧ KeepsB S W wr)
  (fun i _ => ys.length - (intOf i).toNat)
 case atStart => exact ⟨0, Nat.zero_le _, rfl, h0, KeepsB.refl _ _⟩
 case round =>
  obtain ⟨k, hk, rfl, hJs, hnx⟩ := hrel
  by_cases hlt : k < ys.length
  ·obtain ⟨g, off, rfl, hg, hrg⟩ := HC.out k (ys[k]'hlt) (by rw [List.getElem?_eq_getElem hlt])
   have hlt' : (k : Int) < (ys.length : Int) := by omega
   have hlen1 : (ys.take k).length < ys.length := by rw [List.length_take]; omega
   have hLT : ys.take (k + 1) = ys.take k ++ [ys[k]'hlt] := by rw [List.take_add_one, List.getElem?_eq_getElem hlt]; rfl
   have hcell := (hnx.cell (i := off + k) (hS g hg) (by omega)).trans hrg
   generalize ys[k]'hlt = y at *
   obtain ⟨fn, tmps, assign, body, hy, hR⟩ := hY _ y _ hJs hlen1
   simp only [vi] at hy
   gi_wp2
   refine hR.mono ?_
   rintro e W3 (⟨rfl, hJ3, hk3⟩ | ⟨rfl, hJx3⟩)
   ·gi_wp2
    go_roundw
    case rel => exact ⟨k + 1, by omega, by simp, by rw [hLT]; exact hJ3, hnx.trans hk3⟩
    case measure => simp [intOf]; omega
   ·gi_wp2
    refine bodyPost_ret (results_none rfl _ _ _) rfl ?_
    exact ⟨⟨_, rfl⟩, .inr ⟨_, by rw [← hLT]; exact List.take_prefix _ _, hJx3⟩⟩
  ·obtain rfl : k = ys.length := by omega
   rw [List.take_length] at hJs
   gi_wp2
   go_end0
   exact ⟨⟨_, rfl⟩, .inl ⟨_, rfl, hJs⟩⟩

set_option maxHeartbeats 1000000 in
theorem vals_in (n : Nat) (a : Option Addr) (m c : Nat) (w : World) :
  CallsIn Fence.wide n Tryz.prog 52 #[.slice a m c] w fun e w' => e = .returned (.func (.func 80) #[] #[.pointer (some ⟨w.heap.size, 0, none⟩)]) ∧ w' = w.alloc (.cells #[.slice a m c] 23) := by
 have hro : Fence.wide.round = none := rfl
 refine callsIn_of_wp Tryz.func52 rfl trivial ?_ hro
 simp only [Tryz.ntmps52, List.size_toArray, List.length_cons, List.length_nil, Nat.reduceAdd, Nat.reduceSub, Array.replicate_succ, Array.replicate_zero, List.push_toArray, List.append_toArray, List.nil_append, List.cons_append]
 gi_wp2
 go_ret
 exact ⟨rfl, rfl⟩

theorem vals_stops (n : Nat) (hn : 1 ≤ n) (Bs B : Nat) (S : Nat → Prop) (v : Value) (ys : List Int) (hm : ys.length ≤ 1000000) (w : World) (hBs : Bs < w.heap.size) (hc : w.cell? ⟨Bs, 0, none⟩ = some v) (hD : IntsIn w B v ys) (hB : B ≤ w.heap.size) (hS : ∀ g, g < B → S g) :
  SeqStopsK Fence.wide n Tryz.prog 80 #[.pointer (some ⟨Bs, 0, none⟩)] vi (KeepsB S) (fun zs => zs = ys) (fun pre => pre <+: ys) ys.length w := fun l J Jx W hW hJ _ hY h0 =>
 vals1_in n hn l Bs B S v ys hm J Jx hY W ((hW.cell (p := ⟨Bs, 0, none⟩) hBs).trans hc) (hD.below hW hB) (by have := hW.size; omega) hS h0
end Go.Proofs.YtemcgfncahccgaaGreat
namespace Go.Proofs.YtemcgfncahccgaaGreat
open Go.RowKit Go.Shelf Go.Sort

/-- a clone of numbers -/
theorem clone_ints (w : World) (B : Nat) (v : Value) (l : List Int) (hl : l.length ≤ 1000000) (h : IntsIn w B v l) :
  Calls Tryz.prog 40 #[v] w fun e w' => ∃ v', e = .returned v' ∧ w'.ownsRow w.heap.size 3 1 v' l.length (l.map (Value.int .i64)) ∧ Below w.heap.size w w' := by
 obtain ⟨h1, a, cap, rfl, h2, h3⟩ := h
 cases l with
 | nil =>
  cases a with
  | none =>
   refine (Tryz.slices_Clone_int_nil 0 cap w).mono ?_
   rintro e w' ⟨rfl, rfl⟩
   exact ⟨_, rfl, World.ownsRow_nil _ _ _ _, Below.refl _ _⟩
  | some a =>
   refine (Tryz.slices_Clone_int_zero a cap w).mono ?_
   rintro e w' ⟨v', rfl, ho, _, hb⟩
   exact ⟨_, rfl, ho, hb⟩
 | cons x l =>
  obtain ⟨g, off, rfl, _, _⟩ := h3 0 x rfl
  refine (Tryz.slices_Clone_int g off (x :: l).length cap (x :: l) w (Nat.le_refl _) (by omega) (fun j hj => ?_)).mono ?_
  ·obtain ⟨g', off', e, _, hc⟩ := h3 j _ (List.getElem?_eq_getElem hj)
   cases e
   rw [hc, List.getD_eq_getElem?_getD, List.getElem?_eq_getElem hj]
   rfl
  ·rintro e w' ⟨v', rfl, ho, _, hb⟩
   rw [List.take_length] at ho
   exact ⟨_, rfl, ho, hb⟩
theorem ownsRow_ints {w : World} {B e : Nat} {v : Value} {l : List Int} (h : w.ownsRow B e 1 v l.length (l.map (Value.int .i64))) (hl : l.length ≤ 1000000) : IntsIn w w.heap.size v l := by
 refine ⟨by unfold maxLen; omega, ?_⟩
 rcases h.2 with ⟨e, h0⟩ | ⟨g, cap, cur, e, hB, hg, h1, h2, h3, h4⟩
 ·have hn : l = [] := List.eq_nil_of_length_eq_zero h0
  subst hn
  exact ⟨none, 0, e, by simp, fun j c hc => by simp at hc⟩
 ·refine ⟨_, cap, e, h1, fun j c hc => ⟨g, 0, rfl, (Array.getElem?_eq_some_iff.1 hg).1, ?_⟩⟩
  have h5 : (cur.toList.take (l.length * 1))[j]? = (l.map (Value.int .i64))[j]? := by rw [h4]
  have hj : j < l.length := (List.getElem?_eq_some_iff.1 hc).1
  rw [List.getElem?_take_of_lt (by omega), List.getElem?_map, hc, Array.getElem?_toList] at h5
  simp only [World.cell?, hg, Nat.zero_add]
  simpa using h5
/-- an own row, cut -/
theorem ownsRow_cut {w : World} {B e g cap n k : Nat} {xs : List Value} (h : w.ownsRow B e 1 (.slice (some ⟨g, 0, none⟩) n cap) n xs) (hk : k ≤ n) : w.ownsRow B e 1 (.slice (some ⟨g, 0, none⟩) k cap) k (xs.take k) := by
 rcases h.2 with ⟨e, _⟩ | ⟨g', cap', cur, e, hB, hg, h1, h2, h3, h4⟩
 ·cases e
 ·cases e
  refine ⟨by rw [List.length_take, h.1]; omega, .inr ⟨_, _, cur, rfl, hB, hg, by omega, h2, h3, ?_⟩⟩
  rw [← h4, List.take_take]
  congr 1
  omega

theorem zero_int (w : World) : (zeroValue 3).run Tryz.prog w = .ok (Value.int .i64 0) w := by
 rw [Tryz.zeroValue3]

set_option maxHeartbeats 1000000 in
theorem del_none (c : Nat) (g : Nat) (lb : Array Value) (w : World) :
  Calls Tryz.prog 50 #[.slice none 0 c, .func (.func g) #[] lb] w fun e w' => e = .returned (.slice none 0 c) ∧ w' = w := by
 have HF := Lib.hid (Tryz.slices_IndexFunc_empty (α := Int) none c (.func (.func g) #[] lb) w)
 go_enter Tryz.func50, Tryz.ntmps50
 go_wp2_with fail
 refine HF.out.mono ?_; rintro e w1 ⟨rfl, rfl⟩
 go_wp2_with fail
 go_ret
 exact ⟨rfl, rfl⟩

/-- slices.DeleteFunc of a slice of the caller's own, by a function that reads nothing of that slice -/
theorem del_own (p : Int → Bool) (g : Nat) (lb : Array Value) (eg : ∀ args w, (callFunc g args).run Tryz.prog w = .ok (.enter g args) w) (w : World) (B : Nat) (v : Value) (ys : List Int) (hl : ys.length ≤ 1000000) (hown : w.ownsRow B 3 1 v ys.length (ys.map (Value.int .i64)))
  (hP : ∀ (W : World) (x : Int), (∀ i, i < w.heap.size → some i ≠ v.ownBlock → W.heap[i]? = w.heap[i]?) → FnGives Tryz.prog g lb #[.int .i64 x] (.bool (p x)) W) :
  Calls Tryz.prog 50 #[v, .func (.func g) #[] lb] w fun e w' => ∃ v', e = .returned v' ∧ w'.ownsRow B 3 1 v' (ys.filter fun x => !p x).length ((ys.filter fun x => !p x).map (Value.int .i64)) ∧ Below B w w' := by
 rcases hown.2 with ⟨rfl, h0⟩ | ⟨b, cap, cur, rfl, hB, hg, h1, h2, h3, h4⟩
 ·have hn : ys = [] := List.eq_nil_of_length_eq_zero h0
  subst hn
  refine (del_none 0 g lb w).mono ?_
  rintro e w' ⟨rfl, rfl⟩
  exact ⟨_, rfl, World.ownsRow_nil _ _ _ _, Below.refl _ _⟩
 ·have hlt := (Array.getElem?_eq_some_iff.1 hg).1
  refine (Tryz.slices_DeleteFunc (α := Int) (Value.int .i64) (fun _ => rfl) p g lb eg 0 zero_int b 0 cap ys.toArray w (fun W x hb => hP W x fun i hi _ => hb.block i hi) (fun n os dk x _ => hP _ x fun i hi hne => ?_) (Go.holds_of_blockI hg (by simpa using h4)) (by simp; omega) (by simpa using h1)).mono ?_
  ·unfold sortWorld
   rw [heap_grow_old _ _ (by simpa using hi)]
   have : b ≠ i := fun e => hne (by rw [e]; rfl)
   simp [putRow, mapBlock, Sort.ahead, Array.getElem?_modify, this]
  ·rintro e w' ⟨rfl, q, rfl⟩
   refine ⟨_, rfl, ?_, ?_⟩
   ·have hle : (ys.filter fun x => !p x).length ≤ ys.length := List.length_filter_le _ _
    have hS := Go.ownsRow_sortedI (n := q) (os := #[]) (ts := (ys.filter fun x => !p x) ++ List.replicate (ys.length - (ys.filter fun x => !p x).length) 0) (ss := ys) (by simp; omega) hB hg h1 h2 h3
    have hC := ownsRow_cut hS hle
    rw [grow_empty, List.map_append, List.take_left' (by simp)] at hC
    exact hC
   ·have := (Below.refl B w).grown (Go.grownBy_sortedI (w := w) (g := b) (n := q) (os := #[]) ((ys.filter fun x => !p x) ++ List.replicate (ys.length - (ys.filter fun x => !p x).length) 0).toArray) (by omega) (fun r hr => by cases hr; exact hB)
    rw [grow_empty] at this
    simpa using this

set_option maxHeartbeats 1000000 in
theorem without1_gives (W : World) (Bx : Nat) (x y : Int) (hc : W.cell? ⟨Bx, 0, none⟩ = some (.int .i64 x)) : FnGives Tryz.prog 94 #[.pointer (some ⟨Bx, 0, none⟩)] #[.int .i64 y] (.bool (x == y)) W := by
 unfold FnGives
 simp only [List.append_toArray, List.cons_append, List.nil_append]
 go_enter Tryz.func94, Tryz.ntmps94
 go_wp2_with fail
 go_ret
 exact ⟨rfl, 0, rfl⟩

def woL (l : List Int) (x : Int) : List Int := l.filter fun y => !(x == y)
set_option maxHeartbeats 2000000 in
theorem without_any (v : Value) (l : List Int) (x : Int) (w : World) (hl : l.length ≤ 1000000) (h : IntsIn w w.heap.size v l) :
  Calls Tryz.prog 74 #[v, .int .i64 x] w fun e w' => ∃ v', e = .returned v' ∧ w'.ownsRow w.heap.size 3 1 v' (woL l x).length ((woL l x).map (Value.int .i64)) ∧ Below w.heap.size w w' := by
 have hb1 : Below w.heap.size w (w.alloc (.cells #[.int .i64 x] 3)) := (Below.refl _ w).alloc (Nat.le_refl _) _
 have HC := Lib.hid (clone_ints (w.alloc (.cells #[.int .i64 x] 3)) _ v l hl ((h.below hb1 (Nat.le_refl _)).mono hb1.size))
 obtain ⟨_, a, cap, rfl, _, _⟩ := h
 have HB1 := Lib.hid hb1
 clear hb1
 go_enter Tryz.func74, Tryz.ntmps74
 go_wp2_with fail
 refine HC.out.mono ?_; rintro e w1 ⟨v1, rfl, ho, hb⟩
 have hsz := hb.size
 rw [World.size_alloc] at hsz
 have cx : w1.heap[w.heap.size]? = some (.cells #[.int .i64 x] 3 (0, 0)) := (hb.block _ (by simp)).trans (heap_alloc_new w _)
 have hD := del_own (fun y => x == y) 94 #[.pointer (some ⟨w.heap.size, 0, none⟩)] (enters_of Tryz.func94 rfl rfl) w1 _ v1 l hl ho (fun W y hW => without1_gives W w.heap.size x y (by
  have e1 := hW w.heap.size (by omega) (fun e => by have := (ho.lt _ e.symm).1; simp at this; omega)
  simp only [World.cell?, e1, cx]; rfl))
 have HD := Lib.hid hD
 obtain ⟨a1, cap1, rfl⟩ := slice_form ho
 have HB := Lib.hid hb
 clear hD ho hb hsz cx
 go_wp2_with fail
 refine HD.out.mono ?_; rintro e w2 ⟨v2, rfl, ho, hb⟩
 obtain ⟨a2, cap2, rfl⟩ := slice_form ho
 have HO := Lib.hid ho
 have HB2 := Lib.hid hb
 clear ho hb
 go_wp2_with fail
 go_ret
 have hs : w.heap.size ≤ (w.alloc (.cells #[.int .i64 x] 3)).heap.size := by simp
 exact ⟨_, rfl, HO.out.mono hs, (HB1.out.trans (HB.out.mono hs)).trans (HB2.out.mono hs)⟩
end Go.Proofs.YtemcgfncahccgaaGreat
namespace Go.Proofs.YtemcgfncahccgaaGreat
open Go.RowKit

abbrev EntG := Int × Value × Nat
def entG (kd : IntKind) (l : List EntG) : Array MapEntry := (l.map fun x => ⟨.int kd x.1, x.2.1, x.2.2⟩).toArray
def lookG (l : List EntG) (n : Int) : Option Value := (l.find? fun x => n == x.1).map (·.2.1)
/-- block r is a map with these entries: no key twice -/
structure MapG (w : World) (r : Nat) (kd : IntKind) (l : List EntG) (c : Nat) : Prop where
 block : w.heap[r]? = some (.map (entG kd l) c)
 once : (l.map (·.1)).Nodup
 born : ∀ x ∈ l, x.2.2 < c
 bonce : (l.map (·.2.2)).Nodup

section
variable {w w' : World} {r c : Nat} {kd : IntKind} {l : List EntG}
theorem MapG.lt (h : MapG w r kd l c) : r < w.heap.size := by
 rcases Nat.lt_or_ge r w.heap.size with hlt | hge
 ·exact hlt
 ·have := h.block; rw [Array.getElem?_eq_none hge] at this; cases this
theorem MapG.new (w : World) (kd : IntKind) : MapG (w.alloc (.map #[] 0)) w.heap.size kd [] 0 := ⟨heap_alloc_new w _, List.nodup_nil, fun x hx => (by cases hx), List.nodup_nil⟩
theorem MapG.same (h : MapG w r kd l c) (hb : w'.heap[r]? = w.heap[r]?) : MapG w' r kd l c := ⟨hb.trans h.block, h.once, h.born, h.bonce⟩

theorem findNow_entG (kd : IntKind) (n : Int) : ∀ (l : List EntG) (i : Nat),
  Instr.findNow (.int kd) (.int kd n) (l.map fun x => (⟨.int kd x.1, x.2.1, x.2.2⟩ : MapEntry)) i =
   some ((l.zipIdx i).find? (fun x => n == x.1.1) |>.map fun x => (x.2, x.1.2.1))
 | [], i => rfl
 | x :: l, i => by
  simp only [List.zipIdx_cons, List.map_cons, Instr.findNow, Instr.sameNow, if_true, List.find?_cons]
  cases h : (n == x.1)
  ·simp only [findNow_entG kd n l (i + 1)]
  ·simp
theorem find_zipG (n : Int) : ∀ (l : List EntG) (i : Nat), ((l.zipIdx i).find? (fun x => n == x.1.1)).map (fun x => x.1.2.1) = lookG l n
 | [], _ => rfl
 | x :: l, i => by
  simp only [List.zipIdx_cons, List.find?_cons, lookG]
  cases h : (n == x.1)
  ·simpa [lookG] using find_zipG n l (i + 1)
  ·simp
/-- a key that is there: its place parts the list -/
theorem find_partG (n : Int) : ∀ (l : List EntG) (i : Nat) (x : EntG × Nat), (l.zipIdx i).find? (fun x => n == x.1.1) = some x → ∃ a b, l = a ++ x.1 :: b ∧ x.2 = i + a.length ∧ x.1.1 = n ∧ ∀ y ∈ a, y.1 ≠ n
 | [], _, _, h => by cases h
 | y :: l, i, x, h => by
  simp only [List.zipIdx_cons, List.find?_cons] at h
  cases hh : (n == y.1)
  ·rw [hh] at h
   obtain ⟨a, b, e1, e2, e3, e4⟩ := find_partG n l (i + 1) x h
   refine ⟨y :: a, b, by rw [e1]; rfl, by rw [e2, List.length_cons]; omega, e3, fun z hz => ?_⟩
   rcases List.mem_cons.1 hz with rfl | hz
   ·intro e; rw [e] at hh; simp at hh
   ·exact e4 z hz
  ·rw [hh] at h
   cases h
   exact ⟨[], l, rfl, rfl, (beq_iff_eq.1 hh).symm, fun z hz => by cases hz⟩
theorem look_append (a b : List EntG) (m : Int) : lookG (a ++ b) m = (lookG a m).or (lookG b m) := by
 unfold lookG
 rw [List.find?_append]
 cases a.find? (fun x => m == x.1) <;> simp
theorem look_cons (x : EntG) (b : List EntG) (m : Int) : lookG (x :: b) m = if m = x.1 then some x.2.1 else lookG b m := by
 unfold lookG
 simp only [List.find?_cons]
 by_cases h : m = x.1
 ·simp [h]
 ·have : (m == x.1) = false := by simpa using h
  simp [this, h]
theorem look_away {l : List EntG} {n : Int} (h : ∀ y ∈ l, y.1 ≠ n) : lookG l n = none := by
 unfold lookG
 rw [List.find?_eq_none.2 (fun y hy => by simpa using fun e => h y hy e.symm)]
 rfl
theorem look_none {l : List EntG} {n : Int} (h : lookG l n = none) : ∀ y ∈ l, y.1 ≠ n := by
 unfold lookG at h
 rw [Option.map_eq_none_iff, List.find?_eq_none] at h
 intro y hy e
 exact h y hy (by simp [e])

variable {P : Program} {t k e : TypeId}
theorem run_findG (w : World) (hk : P.underlying k = some (.int kd)) (l : List EntG) (n : Int) :
  (Instr.findKey k (.int kd n) (entG kd l).toList).run P w = .ok (((l.zipIdx 0).find? (fun x => n == x.1.1)).map fun x => (x.2, x.1.2.1)) w := by
 unfold Instr.findKey entG
 simp only [Sem.run_bind, run_underlying hk, Result.andThen, findNow_entG kd n l 0]
 rfl
theorem run_checkG (w : World) (b : Bool) (n : Nat) (hk : P.underlying k = some (.int kd)) (v : Value) : (Instr.checkKey b (n + 1) k v).run P w = .ok () w := run_checkKey_int w b n hk v

theorem run_look_yes (w : World) (ht : P.underlying t = some (.map k e)) (hk : P.underlying k = some (.int kd)) (hm : MapG w r kd l c) (n : Int) (v : Value) (hn : lookG l n = some v) (ok : Bool) :
  (Instr.lookup t (.map (some r)) (.int kd n) ok).run P w = .ok (if ok then .tuple #[v, .bool true] else v) w := by
 have hf := find_zipG n l 0
 rw [hn] at hf
 obtain ⟨x, hx, hv⟩ := Option.map_eq_some_iff.1 hf
 unfold Instr.lookup
 simp only [Sem.run_bind, run_underlying ht, Result.andThen, MapKept.run_getObj_map hm.block, run_checkG w _ 9999 hk, run_findG w hk, hx, Option.map_some, Sem.run_pure, hv]
theorem run_look_no (w : World) (ht : P.underlying t = some (.map k e)) (hk : P.underlying k = some (.int kd)) (hm : MapG w r kd l c) (n : Int) (z : Value) (hz : (zeroValue e).run P w = .ok z w) (hn : lookG l n = none) (ok : Bool) :
  (Instr.lookup t (.map (some r)) (.int kd n) ok).run P w = .ok (if ok then .tuple #[z, .bool false] else z) w := by
 have hf : (((l.zipIdx 0).find? (fun x => n == x.1.1)).map fun x => (x.2, x.1.2.1)) = none := by
  have := find_zipG n l 0
  rw [hn] at this
  simpa using this
 unfold Instr.lookup
 simp only [Sem.run_bind, run_underlying ht, Result.andThen, MapKept.run_getObj_map hm.block, run_checkG w _ 9999 hk, run_findG w hk, hf, Sem.run_pure, hz]

/-- a store -/
theorem run_storeG (w : World) (ht : P.underlying t = some (.map k e)) (hk : P.underlying k = some (.int kd)) (hm : MapG w r kd l c) (n : Int) (v : Value) :
  ∃ w' l' c', (Instr.mapUpdate t (.map (some r)) (.int kd n) v).run P w = .ok () w' ∧ MapG w' r kd l' c' ∧ (∀ m, lookG l' m = if m = n then some v else lookG l m) ∧ l'.length ≤ l.length + 1 ∧ Turn r w w' := by
 cases hx : (l.zipIdx 0).find? (fun x => n == x.1.1) with
 | none =>
  have hn : lookG l n = none := by have := find_zipG n l 0; rw [hx] at this; exact this.symm
  refine ⟨{ w with heap := w.heap.setIfInBounds r (.map ((entG kd l).push ⟨.int kd n, v, c⟩) (c + 1)) }, l ++ [(n, v, c)], c + 1, ?_, ⟨?_, ?_, ?_, ?_⟩, fun m => ?_, by simp, ⟨rfl, rfl, rfl, by simp, fun i hi => by simp [Array.getElem?_setIfInBounds_ne (fun e => hi e.symm)]⟩⟩
  ·unfold Instr.mapUpdate
   simp only [Sem.run_bind, run_underlying ht, Result.andThen, MapKept.run_getObj_map hm.block, run_checkG w false 9999 hk, run_findG w hk, hx, Option.map_none]
   exact MapKept.run_setObj_map _ hm.block
  ·simp [hm.lt, entG]
  ·rw [List.map_append, List.nodup_append]
   refine ⟨hm.once, by simp, fun a ha b hb => ?_⟩
   obtain ⟨y, hy, rfl⟩ := List.mem_map.1 ha
   simp at hb
   rw [hb]
   exact look_none hn y hy
  ·intro x hx'
   rcases List.mem_append.1 hx' with h | h
   ·have := hm.born x h; omega
   ·simp at h; rw [h]; exact Nat.lt_succ_self c
  ·rw [List.map_append, List.nodup_append]
   refine ⟨hm.bonce, by simp, fun a ha b hb => ?_⟩
   obtain ⟨y, hy, rfl⟩ := List.mem_map.1 ha
   have := hm.born y hy
   simp at hb
   omega
  ·rw [look_append, look_cons]
   by_cases hmn : m = n
   ·subst hmn; rw [hn]; simp
   ·simp [hmn, lookG]
 | some x =>
  obtain ⟨a, b, e1, e2, e3, e4⟩ := find_partG n l 0 x hx
  obtain ⟨⟨xk, xv, xb⟩, xi⟩ := x
  simp only at e1 e2 e3
  subst e3
  have hkey : (((entG kd l)[xi]?).map (·.key)).getD (.int kd xk) = .int kd xk := by rw [e1, e2]; simp [entG]
  refine ⟨{ w with heap := w.heap.setIfInBounds r (.map ((entG kd l).modify xi fun e => { e with key := .int kd xk, val := v }) c) }, a ++ (xk, v, xb) :: b, c, ?_, ⟨?_, ?_, ?_, ?_⟩, fun m => ?_, by rw [e1]; simp, ⟨rfl, rfl, rfl, by simp, fun i hi => by simp [Array.getElem?_setIfInBounds_ne (fun e => hi e.symm)]⟩⟩
  ·unfold Instr.mapUpdate
   simp only [Sem.run_bind, run_underlying ht, Result.andThen, MapKept.run_getObj_map hm.block, run_checkG w false 9999 hk, run_findG w hk, hx, Option.map_some, hkey, run_sameInt]
   exact MapKept.run_setObj_map _ hm.block
  ·have e5 : (entG kd l).modify xi (fun e => { e with key := .int kd xk, val := v }) = entG kd (a ++ (xk, v, xb) :: b) := by
    apply Array.ext_getElem?
    intro j
    rw [Array.getElem?_modify, e1, e2]
    unfold entG
    simp only [List.getElem?_toArray, List.getElem?_map, Nat.zero_add]
    by_cases hj : a.length = j
    ·subst hj; simp
    ·rw [if_neg hj]
     rcases Nat.lt_or_ge j a.length with h | h
     ·rw [List.getElem?_append_left h, List.getElem?_append_left h]
     ·rw [List.getElem?_append_right h, List.getElem?_append_right h]
      obtain ⟨q, hq⟩ : ∃ q, j - a.length = q + 1 := ⟨j - a.length - 1, by omega⟩
      rw [hq, List.getElem?_cons_succ, List.getElem?_cons_succ]
   rw [e5]
   simp [hm.lt]
  ·have := hm.once
   rw [e1] at this
   simpa using this
  ·intro x hx'
   rcases List.mem_append.1 hx' with h | h
   ·exact hm.born x (by rw [e1]; exact List.mem_append_left _ h)
   ·rcases List.mem_cons.1 h with rfl | h
    ·exact hm.born (xk, xv, xb) (by rw [e1]; simp)
    ·exact hm.born x (by rw [e1]; exact List.mem_append_right _ (List.mem_cons_of_mem _ h))
  ·have := hm.bonce
   rw [e1] at this
   simpa using this
  ·rw [look_append, look_cons, e1, look_append, look_cons]
   by_cases hmn : m = xk
   ·subst hmn; rw [look_away e4]; simp
   ·simp [hmn]

/-- delete -/
theorem run_dropG (w : World) (ht : P.underlying t = some (.map k e)) (hk : P.underlying k = some (.int kd)) (hm : MapG w r kd l c) (n : Int) (ty : TypeId) :
  ∃ w' l', (Builtin.delete_ #[t, k] ty #[.map (some r), .int kd n]).run P w = .ok (.tuple #[]) w' ∧ MapG w' r kd l' c ∧ (∀ m, lookG l' m = if m = n then none else lookG l m) ∧ l'.length ≤ l.length ∧ Turn r w w' := by
 cases hx : (l.zipIdx 0).find? (fun x => n == x.1.1) with
 | none =>
  have hn : lookG l n = none := by have := find_zipG n l 0; rw [hx] at this; exact this.symm
  refine ⟨{ w with heap := w.heap.setIfInBounds r (.map (entG kd l) c) }, l, ?_, ⟨by simp [hm.lt], hm.once, hm.born, hm.bonce⟩, fun m => ?_, Nat.le_refl _, ⟨rfl, rfl, rfl, by simp, fun i hi => by simp [Array.getElem?_setIfInBounds_ne (fun e => hi e.symm)]⟩⟩
  ·have hs := MapKept.run_setObj_map (P := P) (.map (entG kd l) c) hm.block
   simp [Builtin.delete_, Sem.run_bind, run_underlying ht, Result.andThen, MapKept.run_getObj_map hm.block, run_checkG w _ 9999 hk, run_findG w hk, hx, hs]
  ·by_cases hmn : m = n
   ·subst hmn; rw [if_pos rfl, hn]
   ·rw [if_neg hmn]
 | some x =>
  obtain ⟨a, b, e1, e2, e3, e4⟩ := find_partG n l 0 x hx
  obtain ⟨⟨xk, xv, xb⟩, xi⟩ := x
  simp only at e1 e2 e3
  subst e3
  have hon := hm.once
  rw [e1, List.map_append, List.map_cons, List.nodup_append, List.nodup_cons] at hon
  refine ⟨{ w with heap := w.heap.setIfInBounds r (.map ((entG kd l).eraseIdxIfInBounds xi) c) }, a ++ b, ?_, ⟨?_, ?_, ?_, ?_⟩, fun m => ?_, by rw [e1]; simp, ⟨rfl, rfl, rfl, by simp, fun i hi => by simp [Array.getElem?_setIfInBounds_ne (fun e => hi e.symm)]⟩⟩
  ·have hs := MapKept.run_setObj_map (P := P) (.map ((entG kd l).eraseIdxIfInBounds xi) c) hm.block
   simp [Builtin.delete_, Sem.run_bind, run_underlying ht, Result.andThen, MapKept.run_getObj_map hm.block, run_checkG w _ 9999 hk, run_findG w hk, hx, hs]
  ·have e5 : (entG kd l).eraseIdxIfInBounds xi = entG kd (a ++ b) := by
    rw [e1, e2]
    unfold entG
    simp [List.eraseIdx_append_of_length_le]
   rw [e5]
   simp [hm.lt]
  ·rw [List.map_append, List.nodup_append]
   exact ⟨hon.1, hon.2.1.2, fun p hp q hq => hon.2.2 p hp q (List.mem_cons_of_mem _ hq)⟩
  ·intro x hx'
   rcases List.mem_append.1 hx' with h | h
   ·exact hm.born x (by rw [e1]; exact List.mem_append_left _ h)
   ·exact hm.born x (by rw [e1]; exact List.mem_append_right _ (List.mem_cons_of_mem _ h))
  ·have := hm.bonce
   rw [e1, List.map_append, List.map_cons, List.nodup_append, List.nodup_cons] at this
   rw [List.map_append, List.nodup_append]
   exact ⟨this.1, this.2.1.2, fun p hp q hq => this.2.2 p hp q (List.mem_cons_of_mem _ hq)⟩
  ·have hb : ∀ y ∈ b, y.1 ≠ xk := fun y hy e => hon.2.1.1 (List.mem_map.2 ⟨y, hy, e⟩)
   rw [look_append, e1, look_append, look_cons]
   by_cases hmn : m = xk
   ·subst hmn; rw [look_away e4, look_away hb]; simp
   ·simp [hmn]
end
end Go.Proofs.YtemcgfncahccgaaGreat
