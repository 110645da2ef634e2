/-
  Waits: as many as wait.
  Maps with integer keys that are known whole: a store, of a new key or of one that is there; for all worlds.
  Spoil: bits of a byte are turned. (Written by gen_lspoil.py.)
-/
import Derived.Test.YtdpniceapmikpaaGreatWh1
import Derived.Test.YtdpniceapmikpaaGreatWh3
import Derived.Test.YtdpniceapmikpaaGreatWh9
set_option linter.unusedVariables false
set_option linter.unusedSimpArgs false
namespace Go.Proofs.YtdpniceapmikpaaGreat
open Go.RowKit Go.Shelf

attribute [local go_sem] Oper.semAt_some

theorem ownsRow_own {W W' : World} {row : Option Nat} {B k : Nat} {e : TypeId} {v : Value} {n : Nat} {xs : List Value} (h : W.ownsRow B e k v n xs) (hg : W.grownBy W' row) (hr : ∀ r, row = some r → ∃ o : Obj, W.heap[r]? = some o ∧ o.isCells = false) : W'.ownsRow B e k v n xs := by
 obtain ⟨hl, ⟨rfl, h0⟩ | ⟨g, cap, cur, rfl, hB, hgg, hrest⟩⟩ := h
 ·exact ⟨hl, .inl ⟨rfl, h0⟩⟩
 ·refine ⟨hl, .inr ⟨g, cap, cur, rfl, hB, (hg.block g (lt_of_block hgg) (fun e => ?_)).trans hgg, hrest⟩⟩
  obtain ⟨o, ho, hc⟩ := hr g e.symm
  rw [hgg] at ho
  cases ho
  cases hc
theorem keepsOthers_grown {W W' : World} {row : Option Nat} (h : W.grownBy W' row) (hr : ∀ r, row = some r → ∃ o : Obj, W.heap[r]? = some o ∧ o.isCells = true) : KeepsOthers W W' :=
 ⟨h.size, fun k o hk hc => (h.block k (Array.getElem?_eq_some_iff.1 hk).1 (fun e => by obtain ⟨o', ho, hc'⟩ := hr k e.symm; rw [hk] at ho; cases ho; rw [hc] at hc'; cases hc')).trans hk⟩
theorem ownsRow_cells {w : World} {B k : Nat} {e : TypeId} {v : Value} {n : Nat} {xs : List Value} (h : w.ownsRow B e k v n xs) (r : Nat) (hr : v.ownBlock = some r) : ∃ o : Obj, w.heap[r]? = some o ∧ o.isCells = true := by
 rcases h.2 with ⟨rfl, _⟩ | ⟨g, cap, cur, rfl, _, h3, _⟩
 ·cases hr
 ·obtain rfl : g = r := by simpa [Value.ownBlock] using hr
  exact ⟨_, h3, rfl⟩
theorem info_i64 : (Tryz.prog.info? 3).map (fun i => (i.zero, i.size, i.bytes)) = some (some (.int .i64 0), 1, 8) := by kernel_rfl

set_option maxRecDepth 100000 in
set_option maxHeartbeats 4000000 in
theorem waits_in (n : Nat) (hn : 3 ≤ n) (D : DiskP) (x : DiskD) (w : World) (h : DiskAt w D x) (hx : x.ok) :
  CallsIn Fence.wide n Tryz.prog 38 #[ptr D.p] w fun e w' => (∃ a cap, e = .returned (.slice a x.waits.length cap)) ∧ Below w.heap.size w w' := by
 have h1 : 1 ≤ n := by omega
 have hro : Fence.wide.round = none := rfl
 have hlt := h.has_lt
 obtain ⟨ws, ews⟩ := waitS_of x.waits hx.2.2.2.1
 have hb0 : Below w.heap.size w ((w.alloc (.cells #[.slice none 0 0] 24)).alloc (.cells #[ptr D.p] 37)) := ((Below.refl _ w).alloc (Nat.le_refl _) _).alloc (by simp) _
 have hS := all_stops (n - 1) (by omega) (w.heap.size + 1) (fun i => i < w.heap.size) D x ws ews ((w.alloc (.cells #[.slice none 0 0] 24)).alloc (.cells #[ptr D.p] 37)) (by simp) ((Blk.new2 w _ _ _).cell_is 0 rfl) (h.below hb0) hx (fun g hg => hlt g (.inr (.inr (.inl hg))))
 have HS := Lib.hid hS
 have el : x.waits.length = ws.length := by rw [ews, List.length_map]
 have hmax : ws.length ≤ 1000000 := by rw [← el]; exact hx.2.2.2.2.2.2
 rw [el]
 clear hS h hx ews el hlt
 unfold ptr at *
 refine callsIn_of_wp_marks Tryz.func38 rfl trivial ?_ hro
 simp only [Tryz.ntmps38, List.size_toArray, List.length_cons, List.length_nil, Nat.reduceAdd, Nat.reduceSub, Array.replicate_succ, Array.replicate_zero, List.push_toArray, List.append_toArray, List.nil_append, List.cons_append]
 refine wpIn_wide.2 ?_
 go_wp2_with fail
 refine (callsIn_wide.1 (all_in 5 D.p _)).mono ?_; rintro e w2 ⟨rfl, rfl⟩
 go_wp2_with fail
 refine (wpIn_wide (n := n)).1 ?_
 refine wpIn_rangeFunc_ownH hro h1 (gf := 128) (lb := #[.pointer (some ⟨w.heap.size + 1, 0, none⟩)]) rfl trivial (enters_of Tryz.func128 (by kernel_rfl) rfl)
  HS.out keepsB_t (keepsB_b (fun i hi => by simp; omega)) (Below.refl _ _) (fun _ => rfl)
  (fun pre W => (∃ v, Blk W w.heap.size 24 #[v] ∧ W.ownsRow (w.heap.size + 2) 3 1 v pre.length (pre.map fun y => .int .i64 y.1.n)) ∧ Below w.heap.size ((w.alloc (.cells #[.slice none 0 0] 24)).alloc (.cells #[.pointer (some ⟨D.p, 0, none⟩)] 37)) W)
  (fun c pre W => False)
  (OwnFrom.and (fun s A B row hs hg hr => by obtain ⟨v, hb, ho⟩ := hs; exact ⟨v, hb.own hg (fun r e => (hr r e).2), ownsRow_own ho hg (fun r e => (hr r e).2)⟩) (ownFrom_below (by simp; omega) (by simp; omega)))
  (fun _ _ _ _ _ hs _ _ => hs)
  ⟨⟨_, (Blk.new w _ _).alloc _, World.ownsRow_nil _ _ _ _⟩, Below.refl _ _⟩
  (fun y a' W => ∃ g, a' = { tmps := #[.pointer (some ⟨D.p, 0, none⟩), undef, .slice none 0 0, .pointer (some ⟨w.heap.size, 0, none⟩), .pointer (some ⟨g, 0, none⟩), .pointer (some ⟨D.p, 0, none⟩), .func (.func 128) #[] #[.pointer (some ⟨w.heap.size + 1, 0, none⟩)], .agg y.1.cells.toArray, undef, undef, undef, undef, undef, undef], defers := [] } ∧ w.heap.size + 2 ≤ g ∧ Blk W g 161 y.1.cells.toArray)
  (fun y a' => (fun s A B row hs hg hr => by obtain ⟨g, e, hgg, hb⟩ := hs; exact ⟨g, e, hgg, hb.own hg (fun r e => (hr r e).2)⟩)) ?assign ?body ?done ?stop
 case assign =>
  intro l pre y W K hI hK
  have hzip : (#[7].zip (vw y)).foldl (fun t (p : Nat × Value) => t.setIfInBounds p.1 p.2) #[.pointer (some ⟨D.p, 0, none⟩), undef, .slice none 0 0, .pointer (some ⟨w.heap.size, 0, none⟩), undef, .pointer (some ⟨D.p, 0, none⟩), .func (.func 128) #[] #[.pointer (some ⟨w.heap.size + 1, 0, none⟩)], undef, undef, undef, undef, undef, undef, undef] = #[.pointer (some ⟨D.p, 0, none⟩), undef, .slice none 0 0, .pointer (some ⟨w.heap.size, 0, none⟩), undef, .pointer (some ⟨D.p, 0, none⟩), .func (.func 128) #[] #[.pointer (some ⟨w.heap.size + 1, 0, none⟩)], .agg y.1.cells.toArray, undef, undef, undef, undef, undef, undef] := by kernel_rfl
  dsimp only
  rw [hzip]
  clear hzip
  gi_wp2_with (refine wpListIn_store_row rfl rfl 161 _ _ rfl W.heap.size y.1.cells.toArray rfl rfl 161 Tryz.zeroCells161 (heap_alloc_new W _) (wait_size y) (by rw [zero161, List.size_toArray, WaitD.len _ y.2]) (wait_all y.1) ?_; rw [World.setRow_alloc_new])
  have hsz := hI.2.size
  rw [World.size_alloc, World.size_alloc] at hsz
  obtain ⟨v, hv, ho⟩ := hI.1
  exact hK _ _ ((KeepsOthers.alloc W _).from _) (KeepsB.alloc _ _ _) ⟨⟨v, hv.alloc _, ownsRow_own ho (World.grownBy_alloc _ _ none) (fun r e => by cases e)⟩, hI.2.alloc (by omega) _⟩ ⟨_, rfl, by omega, Blk.new W _ _⟩
 case body =>
  rintro l pre y a' W hl hr ⟨⟨v, hv, ho⟩, hB⟩ ⟨g, rfl, hg, hG⟩ hlen
  obtain ⟨i0, hi0, hz0, hz1, hz2⟩ := info_parts info_i64
  have cG : W.cell? ⟨g, 0, none⟩ = some (.int .i64 y.1.n) := hG.cell_is 0 rfl
  have cV := hv.cell_is 0 rfl
  have hsz := hB.size
  rw [World.size_alloc, World.size_alloc] at hsz
  have hO := Lib.hid (ownsRow_own ho (World.grownBy_alloc W (.cells #[.int .i64 y.1.n] 3) none) (fun r e => by cases e))
  have hV := Lib.hid hv
  have hHB := Lib.hid hB
  have hHG := Lib.hid hG
  have hne : ∀ i, v.ownBlock = some i → i ≠ w.heap.size := ne_own ho hv (by decide)
  have hlt2 := hv.lt
  clear ho hv hB hG
  obtain ⟨q, hq⟩ : ∃ q, y.1.n = q := ⟨_, rfl⟩
  rw [hq] at cG hO
  have HQ := Lib.hid hq
  clear hq
  gi_wp2_with (refine wpListIn_append_own _ rfl _ _ _ rfl (w.heap.size + 2) 3 i0 _ 1 8 Tryz.underlying24 hi0 hz0 hz1 hz2 rfl (by omega) v pre.length _ rfl hO.out ⟨W.heap.size, 0, none⟩ 1 1 [.int .i64 q] rfl rfl (World.news_of_block (cs := #[.int .i64 q]) (t := 3) (fr := (0, 0)) (heap_alloc_new W _)) (by simp [Value.oneCell']) (by unfold maxLen; omega) (by omega) (by simp; omega) ?_; intro v2 w2 hO2 hg2 hn2; obtain ⟨g3, cap3, rfl, hg3, hlt3⟩ := hO2.form (by omega); have hV2 : Blk w2 w.heap.size 24 #[v] := (hg2.block _ (by simp; omega) (fun e => hne _ e.symm rfl)).trans (hV.out.alloc _); have cV2 := hV2.cell_is 0 rfl; have fV2 := hV2.frozen 0)
  have hE : ∀ i, (Value.slice (some ⟨g3, 0, none⟩) (pre.length + 1) cap3).ownBlock = some i → i ≠ w.heap.size := ne_own hO2 hV2 (by decide)
  refine ⟨((KeepsOthers.alloc W (.cells #[.int .i64 q] 3)).trans ((keepsOthers_grown hg2 (ownsRow_cells hO.out)).trans (KeepsOthers.setCell w2 _ _))).from _, ?_, ⟨_, hV2.set_ 0 _, ?_⟩, ?_⟩
  ·refine (KeepsB.alloc _ W (.cells #[.int .i64 q] 3)).trans (KeepsB.trans (B := w2) ⟨hg2.size, fun i hi hl => hg2.block i hl (fun e => ?_)⟩ ⟨by simp, fun i hi hl => Below.heap_setCell w2 _ _ _ (Nat.ne_of_lt hi)⟩)
   have := (hO.out.lt i e.symm).1
   omega
  ·have e1 : (pre ++ [y]).length = pre.length + 1 := by simp
   have e2 : (pre ++ [y]).map (fun y : WaitS => Value.int .i64 y.1.n) = pre.map (fun y : WaitS => Value.int .i64 y.1.n) ++ [.int .i64 q] := by rw [List.map_append, ← HQ.out]; rfl
   rw [e1, e2]
   exact ownsRow_out (F := fun i => i = w.heap.size) (out_set rfl) hO2 (fun i hi => hE i hi)
  ·exact ((hHB.out.alloc (by omega) _).grown hg2 (by simp; omega) (fun r hr => by have := (hO.out.lt r hr).1; omega)).setCell (p := ⟨w.heap.size, 0, none⟩) (Nat.le_refl _) _
 case done =>
  rintro Dd ys W hD rfl ⟨⟨v, hv, ho⟩, hB⟩ hK
  have cV := hv.cell_is 0 rfl
  have hv2 : ∃ a cap, v = .slice a ys.length cap := by
   rcases ho.2 with ⟨rfl, h0⟩ | ⟨g, cap, cur, rfl, _⟩
   ·exact ⟨none, 0, by rw [h0]⟩
   ·exact ⟨_, _, rfl⟩
  obtain ⟨a, cap, rfl⟩ := hv2
  go_wp2_with fail
  refine ⟨by simp, .inl ⟨_, _, rfl, run_takeDeferred hK, ?_⟩⟩
  exact ⟨_, results_tmp rfl _ _ _, ⟨_, _, rfl⟩, (hb0.trans hB).trans (belowK_b (w := w) (Nat.le_refl _) W Dd _ _ (by simp at hD; omega) hK rfl rfl)⟩
 case stop =>
  rintro Dd c pre W _ _ h _
  exact h.elim
theorem waits_any (D : DiskP) (x : DiskD) (w : World) (h : DiskAt w D x) (hx : x.ok) : Calls Tryz.prog 38 #[ptr D.p] w fun e w' => (∃ a cap, e = .returned (.slice a x.waits.length cap)) ∧ Below w.heap.size w w' :=
 callsIn_wide.1 (waits_in 5 (by omega) D x w h hx)
end Go.Proofs.YtdpniceapmikpaaGreat
namespace Go.Proofs.YtdpniceapmikpaaGreat
open Go.RowKit

/-- the first entry of n has v -/
def setOld : List (Int × Value) → Int → Value → List (Int × Value)
 | [], _, _ => []
 | x :: l, n, v => if n == x.1 then (x.1, v) :: l else x :: setOld l n v
theorem setOld_len (l : List (Int × Value)) (n : Int) (v : Value) : (setOld l n v).length = l.length := by
 induction l with
 | nil => rfl
 | cons x l ih => unfold setOld; split <;> simp [ih]
theorem setOld_modify (n : Int) (v : Value) : ∀ (l : List (Int × Value)) (i : Nat) (x : (Int × Value) × Nat), (l.zipIdx i).find? (fun x => n == x.1.1) = some x → i ≤ x.2 ∧ l[x.2 - i]? = some x.1 ∧ x.1.1 = n ∧ setOld l n v = l.modify (x.2 - i) (fun y => (y.1, v))
 | [], _, _, h => by cases h
 | y :: l, i, x, h => by
  simp only [List.zipIdx_cons, List.find?_cons] at h
  cases hh : (n == y.1)
  ·rw [hh] at h
   obtain ⟨h1, h2, h3, h4⟩ := setOld_modify n v l (i + 1) x h
   have e : x.2 - i = (x.2 - (i + 1)) + 1 := by omega
   refine ⟨by omega, by rw [e]; exact h2, h3, ?_⟩
   unfold setOld
   rw [hh, e, h4]
   simp
  ·rw [hh] at h
   cases h
   refine ⟨Nat.le_refl _, by simp, by simpa using (beq_iff_eq.1 hh).symm, ?_⟩
   unfold setOld
   rw [hh]
   simp
theorem look_setOld (l : List (Int × Value)) (n : Int) (v : Value) (m : Int) : lookOf (setOld l n v) m = if m = n ∧ (lookOf l n).isSome = true then some v else lookOf l m := by
 induction l with
 | nil => simp [setOld, lookOf]
 | cons x l ih =>
  unfold setOld
  cases hh : (n == x.1)
  ·have hn : n ≠ x.1 := by simpa using hh
   simp only [Bool.false_eq_true, if_false]
   unfold lookOf at ih ⊢
   simp only [List.find?_cons, hh]
   cases hm : (m == x.1)
   ·exact ih
   ·have : m ≠ n := by rw [beq_iff_eq.1 hm]; exact Ne.symm hn
    simp [this]
  ·obtain rfl : n = x.1 := by simpa using hh
   simp only [if_true]
   unfold lookOf
   simp only [List.find?_cons, beq_self_eq_true]
   by_cases hm : m = x.1
   ·subst hm; simp
   ·have : (m == x.1) = false := by simpa using hm
    simp [this, hm]
theorem look_push (l : List (Int × Value)) (n : Int) (v : Value) (hn : lookOf l n = none) (m : Int) : lookOf (l ++ [(n, v)]) m = if m = n then some v else lookOf l m := by
 induction l with
 | nil =>
  by_cases h : m = n
  ·subst h; simp [lookOf]
  ·have : (m == n) = false := by simpa using h
   simp [lookOf, this, h]
 | cons x l ih =>
  unfold lookOf at hn ih ⊢
  simp only [List.find?_cons, List.cons_append] at hn ⊢
  cases h1 : (n == x.1)
  ·rw [h1] at hn
   cases h2 : (m == x.1)
   ·exact ih hn
   ·have : m ≠ n := by rw [beq_iff_eq.1 h2]; intro e; rw [e] at h1; simp at h1
    simp [this]
  ·rw [h1] at hn
   cases hn
theorem entriesOf_at (kd : IntKind) (l : List (Int × Value)) (k : Nat) : (entriesOf kd l)[k]? = l[k]?.map fun x => ⟨.int kd x.1, x.2, k⟩ := by
 unfold entriesOf
 rw [List.getElem?_toArray, List.getElem?_map, List.getElem?_zipIdx]
 cases l[k]? <;> simp

section
variable {P : Program} {t k e : TypeId} {kd : IntKind}
theorem run_sameInt {P : Program} (w : World) (kd : IntKind) (n : Int) : (Instr.keyThatStays (.int kd n) (.int kd n)).run P w = .ok (.int kd n) w := by
 unfold Instr.keyThatStays
 simp [Instr.sameBits]
theorem run_insert_old (w : World) (ht : P.underlying t = some (.map k e)) (hk : P.underlying k = some (.int kd)) (r : Nat) (l : List (Int × Value)) (hm : MapAt w r kd l) (n : Int) (hn : (lookOf l n).isSome = true) (v : Value) :
  ∃ w', (Instr.mapUpdate t (.map (some r)) (.int kd n) v).run P w = .ok () w' ∧ MapAt w' r kd (setOld l n v) ∧ Turn r w w' := by
 have hf := find_zipIdx n l 0
 obtain ⟨u, hu⟩ := Option.isSome_iff_exists.1 hn
 rw [hu] at hf
 obtain ⟨x, hx, hv⟩ := Option.map_eq_some_iff.1 hf
 obtain ⟨_, h2, h3, h4⟩ := setOld_modify n v l 0 x hx
 rw [Nat.sub_zero] at h2 h4
 have hkey : (((entriesOf kd l)[x.2]?).map (·.key)).getD (.int kd n) = .int kd n := by rw [entriesOf_at, h2]; simp [h3]
 refine ⟨{ w with heap := w.heap.setIfInBounds r (.map ((entriesOf kd l).modify x.2 fun e => { e with key := .int kd n, val := v }) l.length) }, ?_, ?_, ?_⟩
 ·unfold Instr.mapUpdate
  simp only [Sem.run_bind, run_underlying ht, Result.andThen, MapKept.run_getObj_map hm, run_checkKey_int w false 9999 hk, run_findKey w hk, hx, Option.map_some, hkey, run_sameInt]
  exact MapKept.run_setObj_map _ hm
 ·unfold MapAt
  have e1 : entriesOf kd (setOld l n v) = (entriesOf kd l).modify x.2 fun e => { e with key := .int kd n, val := v } := by
   apply Array.ext_getElem?
   intro j
   rw [entriesOf_at, Array.getElem?_modify, entriesOf_at, h4, List.getElem?_modify]
   by_cases hj : x.2 = j
   ·subst hj
    simp [h2, h3]
   ·simp [hj]
  rw [e1, setOld_len]
  simp [hm.lt]
 ·exact ⟨rfl, rfl, rfl, by simp, fun i hi => by simp [Array.getElem?_setIfInBounds_ne (fun e => hi e.symm)]⟩
theorem setOld_keys (l : List (Int × Value)) (n : Int) (v : Value) : (setOld l n v).map (·.1) = l.map (·.1) := by
 induction l with
 | nil => rfl
 | cons x l ih => unfold setOld; split <;> simp [ih]
theorem look_keys {l : List (Int × Value)} {n : Int} (h : lookOf l n = none) : n ∉ l.map (·.1) := by
 intro hm
 obtain ⟨x, hx, rfl⟩ := List.mem_map.1 hm
 unfold lookOf at h
 rw [Option.map_eq_none_iff, List.find?_eq_none] at h
 exact h x hx (by simp)
/-- a store keeps the keys apart -/
theorem run_insertN (w : World) (ht : P.underlying t = some (.map k e)) (hk : P.underlying k = some (.int kd)) (r : Nat) (l : List (Int × Value)) (hm : MapAt w r kd l) (hnd : (l.map (·.1)).Nodup) (n : Int) (v : Value) :
  ∃ w' l', (Instr.mapUpdate t (.map (some r)) (.int kd n) v).run P w = .ok () w' ∧ MapAt w' r kd l' ∧ (l'.map (·.1)).Nodup ∧ (∀ m, lookOf l' m = if m = n then some v else lookOf l m) ∧ Turn r w w' := by
 cases h : lookOf l n with
 | none =>
  obtain ⟨w', h1, h2, h3⟩ := run_insert_new (P := P) w ht hk r l hm n h v
  refine ⟨w', _, h1, h2, ?_, look_push l n v h, h3⟩
  rw [List.map_append, List.nodup_append]
  refine ⟨hnd, by simp, fun a ha b hb => ?_⟩
  simp only [List.map_cons, List.map_nil, List.mem_singleton] at hb
  rintro rfl
  exact look_keys h (by rw [← hb]; exact ha)
 | some u =>
  obtain ⟨w', h1, h2, h3⟩ := run_insert_old (P := P) w ht hk r l hm n (by rw [h]; rfl) v
  exact ⟨w', _, h1, h2, by rw [setOld_keys]; exact hnd, fun m => by rw [look_setOld, h]; simp, h3⟩
end
end Go.Proofs.YtdpniceapmikpaaGreat
namespace Go.Proofs.YtdpniceapmikpaaGreat
open Go.RowKit

theorem ofInt_u8 (n : Nat) : BitVec.ofInt 8 (n : Int) = BitVec.ofNat 8 n := by rw [BitVec.ofInt_natCast]
theorem xor_u8 (x y : UInt8) : bits .xor .u8 (x.toNat : Int) (y.toNat : Int) = ((x ^^^ y).toNat : Int) := by
 show IntKind.u8.wrap ((BitVec.ofInt 8 (x.toNat : Int) ^^^ BitVec.ofInt 8 (y.toNat : Int)).toNat : Int) = _
 rw [ofInt_u8, ofInt_u8, IntKind.wrap_u8', UInt8.toNat_xor, BitVec.toNat_xor, BitVec.toNat_ofNat, BitVec.toNat_ofNat, Nat.mod_eq_of_lt (UInt8.toNat_lt x), Nat.mod_eq_of_lt (UInt8.toNat_lt y)]
 have h := UInt8.toNat_lt (x ^^^ y)
 rw [UInt8.toNat_xor] at h
 omega
/-- bits of a byte are turned -/
def flipL (b : List UInt8) (o : Nat) (c : UInt8) : List UInt8 := b.set o (b.getD o 0 ^^^ c)
theorem flipL_len (b : List UInt8) (o : Nat) (c : UInt8) : (flipL b o c).length = b.length := by simp [flipL]
def flipW (n : Int) (o : Nat) (c : UInt8) (y : WaitD) : WaitD := if y.n = n then ⟨y.n, flipL y.b o c⟩ else y
def DiskD.spoilK (x : DiskD) (n : Int) (o : Nat) (c : UInt8) (k : Nat) : DiskD := { x with lasts := fun m => if m = n then flipL (x.lasts n) o c else x.lasts m, waits := (x.waits.take k).map (flipW n o c) ++ x.waits.drop k }
def DiskD.spoil (x : DiskD) (n : Int) (o : Nat) (c : UInt8) : DiskD := { x with lasts := fun m => if m = n then flipL (x.lasts n) o c else x.lasts m, waits := x.waits.map (flipW n o c) }
theorem flip_at (b : List UInt8) (o : Nat) (c : UInt8) (ho : o < b.length) : b[o]? = some (b.getD o 0) := by
 rw [List.getElem?_eq_getElem ho, List.getD_eq_getElem?_getD, List.getElem?_eq_getElem ho]; rfl
theorem flip_cells (b : List UInt8) (o : Nat) (c : UInt8) : ((flipL b o c).map vu8) = (b.map vu8).set o (vu8 (b.getD o 0 ^^^ c)) := by simp [flipL, List.map_set]
theorem waitCells_append (A B : List WaitD) : waitCells (A ++ B) = waitCells A ++ waitCells B := by simp [waitCells]
theorem waitCells_len : ∀ (A : List WaitD), (∀ y ∈ A, y.b.length = 512) → (waitCells A).length = A.length * 513
 | [], _ => rfl
 | y :: A, h => by
  have := waitCells_len A (fun z hz => h z (List.mem_cons_of_mem _ hz))
  have h2 := WaitD.len y (h y List.mem_cons_self)
  show (y.cells ++ waitCells A).length = (A.length + 1) * 513
  rw [List.length_append, this, h2]
  omega
theorem waitCells_set (A R : List WaitD) (hA : ∀ y ∈ A, y.b.length = 512) (y y' : WaitD) (j : Nat) (u : Value) (hj : j < y.cells.length) (e : y'.cells = y.cells.set j u) : (waitCells (A ++ y :: R)).set (A.length * 513 + j) u = waitCells (A ++ y' :: R) := by
 rw [waitCells_append, waitCells_append, ← waitCells_len A hA]
 rw [List.set_append_right _ _ (by omega), show (waitCells A).length + j - (waitCells A).length = j by omega]
 congr 1
 show (y.cells ++ waitCells R).set j u = y'.cells ++ waitCells R
 rw [List.set_append_left _ _ hj, e]
theorem ownsRow_set {w : World} {B k : Nat} {e : TypeId} {n g cap : Nat} {xs : List Value} (h : w.ownsRow B e k (.slice (some ⟨g, 0, none⟩) n cap) n xs) (j : Nat) (u : Value) (hj : j < xs.length) : (w.setCell ⟨g, j, none⟩ u).ownsRow B e k (.slice (some ⟨g, 0, none⟩) n cap) n (xs.set j u) := by
 rcases h.2 with ⟨h0, _⟩ | ⟨g', cap', cur, h0, hB, hg, h1, h2, h3, h4⟩
 ·cases h0
 ·cases h0
  refine ⟨by rw [List.length_set]; exact h.1, .inr ⟨g, cap, cur.setIfInBounds j u, rfl, hB, ?_, h1, h2, by simpa using h3, ?_⟩⟩
  ·have := Blk.set_ (w := w) (g := g) (t := e) (cs := cur) hg j u
   exact this
  ·rw [← h4]
   apply List.ext_getElem?
   intro i
   rw [List.getElem?_take, List.getElem?_set, List.getElem?_take]
   have hlen : (List.take (n * k) cur.toList).length = xs.length := by rw [h4]
   rw [hlen]
   have hc : cur.toList.length = cap * k := by simpa using h3
   have hxs := h.1
   by_cases hi : i < n * k
   ·simp only [hi, if_true]
    rw [Array.getElem?_toList, Array.getElem?_setIfInBounds]
    by_cases he : j = i
    ·subst he
     have hjc : j < cur.size := by
      have : (List.take (n * k) cur.toList).length ≤ cur.toList.length := by rw [List.length_take]; exact Nat.min_le_right _ _
      rw [hlen] at this
      simp at this
      omega
     simp [hj, hjc]
    ·simp [he]
   ·have : j ≠ i := by omega
    simp [hi, this]
theorem diskWaits_set {w : World} {D : DiskP} {x : DiskD} (h : DiskAt w D x) {g cap : Nat} (ev : D.wv = .slice (some ⟨g, 0, none⟩) x.waits.length cap) (j : Nat) (u : Value) (ws : List WaitD) (hl : ws.length = x.waits.length) (hj : j < (waitCells x.waits).length) (hs : (waitCells x.waits).set j u = waitCells ws) :
  DiskAt (w.setCell ⟨g, j, none⟩ u) D { x with waits := ws } ∧ DStep D D w (w.setCell ⟨g, j, none⟩ u) := by
 have ho : D.wv.ownBlock = some g := by rw [ev]; rfl
 obtain ⟨n1, n2, n3⟩ := h.ne
 refine ⟨⟨h.blk.far (p := ⟨g, j, none⟩) (fun e => n2 g ho e.symm) u, ?_, ?_, ?_, h.apart⟩, ⟨out_set (.inr (.inr (.inl ho))), rfl, fun i hi => .inl hi⟩⟩
 ·obtain ⟨l, hm, hl⟩ := h.lasts
  exact ⟨l, (Below.heap_setCell w _ _ _ (fun e => ne_own_map h.waits hm g ho e.symm)).trans hm, hl⟩
 ·show World.ownsRow _ 0 _ 513 D.wv ws.length (waitCells ws)
  have hw := h.waits
  rw [ev] at hw ⊢
  rw [hl, ← hs]
  exact ownsRow_set hw j u hj
 ·rcases h.fails with hn | ⟨r, k, e, h1, h2⟩
  ·exact .inl hn
  ·exact .inr ⟨r, k, e, (Below.heap_setCell w _ _ _ (fun e => ne_own_map h.waits h1 g ho e.symm)).trans h1, h2⟩
theorem diskLasts_set {w : World} {D : DiskP} {x : DiskD} (h : DiskAt w D x) (n : Int) (b : List UInt8) :
  ∃ w', (Instr.mapUpdate 148 (.map (some D.lm)) (.int .i64 n) (sectorV b)).run Tryz.prog w = .ok () w' ∧ Turn D.lm w w' ∧ DiskAt w' D { x with lasts := fun m => if m = n then b else x.lasts m } ∧ DStep D D w w' := by
 obtain ⟨l, hm, hl⟩ := h.lasts
 obtain ⟨w', l', h1, h2, hnd, h3, h4⟩ := run_insertN (P := Tryz.prog) w Tryz.underlying148 Tryz.underlying3 D.lm l hm hl.1 n (sectorV b)
 obtain ⟨n1, n2, n3⟩ := h.ne
 have ho : Out (fun i => i = D.lm) w w' := ⟨h4.os, h4.tape, h4.output, Nat.le_of_eq h4.size.symm, fun i _ hi => h4.block i hi⟩
 refine ⟨w', h1, h4, ⟨ho.blk h.blk (fun e => n1 e.symm), ⟨l', h2, hnd, fun m => ?_⟩, ownsRow_out ho h.waits (fun i hi => ne_own_map h.waits hm i hi), ?_, h.apart⟩, ⟨⟨ho.os, ho.tape, ho.output, ho.size, fun i hi hn => ho.block i hi (fun e => hn (.inr (.inl e)))⟩, rfl, fun i hi => .inl hi⟩⟩
 ·rw [h3 m]
  by_cases e : m = n
  ·simp only [if_pos e]; exact .inl ⟨_, rfl, rfl⟩
  ·simp only [if_neg e]; exact hl.2 m
 ·rcases h.fails with hn | ⟨r, k, e, h1, h2⟩
  ·exact .inl hn
  ·refine .inr ⟨r, k, e, ?_, h2⟩
   by_cases hr : r = D.lm
   ·exact absurd (by rw [e, hr]) h.apart
   ·exact (h4.block r hr).trans h1
theorem wp_mapUpdate_is {P : Program} {o : Oper} {a : Act} {K : Act → World → Prop} {Q : Exit → Act → World → Prop} (w w' : World) (t : TypeId) (m k v : Operand) (ho : o.op = .mapUpdate t m k v) (mv kv vv : Value) (hm : a.eval m = mv) (hk : a.eval k = kv) (hv : a.eval v = vv)
  (hr : (Instr.mapUpdate t mv kv vv).run P w = .ok () w') (h : K (a.put o.dst undef) w') : o.wp P a w K Q := by
 unfold Oper.wp execOp
 simp only [ho, hm, hk, hv, hr, Sem.run_bind, Sem.run_pure, Result.andThen_ok]
 exact h
theorem flip_val (b : List UInt8) (o : Nat) (c : UInt8) (ho : o < b.length) : ((b.map vu8).set o (.int .u8 (bits .xor .u8 ((b[o]'ho).toNat : Int) (c.toNat : Int)))).toArray = ((flipL b o c).map vu8).toArray := by
 rw [flip_cells, xor_u8]
 have e : b.getD o 0 = b[o]'ho := by rw [List.getD_eq_getElem?_getD, List.getElem?_eq_getElem ho]; rfl
 rw [e]
theorem spoilK_at (x : DiskD) (n : Int) (o : Nat) (c : UInt8) (k : Nat) (hk : k < x.waits.length) : (x.spoilK n o c k).waits = (x.waits.take k).map (flipW n o c) ++ (x.waits[k]'hk) :: x.waits.drop (k + 1) := by
 show (x.waits.take k).map (flipW n o c) ++ x.waits.drop k = _
 rw [List.drop_eq_getElem_cons hk]
theorem spoilK_next (x : DiskD) (n : Int) (o : Nat) (c : UInt8) (k : Nat) (hk : k < x.waits.length) : (x.spoilK n o c (k + 1)).waits = (x.waits.take k).map (flipW n o c) ++ flipW n o c (x.waits[k]'hk) :: x.waits.drop (k + 1) := by
 show (x.waits.take (k + 1)).map (flipW n o c) ++ x.waits.drop (k + 1) = _
 have e : x.waits.take (k + 1) = x.waits.take k ++ [x.waits[k]'hk] := by rw [List.take_add_one, List.getElem?_eq_getElem hk]; rfl
 rw [e, List.map_append, List.append_assoc]
 rfl
theorem ownsRow_frozen {w : World} {B k : Nat} {e : TypeId} {n g cap : Nat} {xs : List Value} (h : w.ownsRow B e k (.slice (some ⟨g, 0, none⟩) n cap) n xs) (j : Nat) : w.frozen? ⟨g, j, none⟩ = false := by
 rcases h.2 with ⟨h0, _⟩ | ⟨g', cap', cur, h0, hB, hg, _⟩
 ·cases h0
 ·cases h0
  exact Blk.frozen (t := e) (cs := cur) hg j
theorem spoilK_len (x : DiskD) (n : Int) (o : Nat) (c : UInt8) (k : Nat) : (x.spoilK n o c k).waits.length = x.waits.length := by
 simp [DiskD.spoilK]; omega
theorem flipW_len (n : Int) (o : Nat) (c : UInt8) (y : WaitD) (hy : y.b.length = 512) : (flipW n o c y).b.length = 512 := by
 unfold flipW; split
 ·rw [flipL_len]; exact hy
 ·exact hy
theorem spoilK_sound (x : DiskD) (hx : x.sound) (n : Int) (o : Nat) (c : UInt8) (k : Nat) : (x.spoilK n o c k).sound := by
 refine ⟨fun m => ?_, fun y hy => ?_, by rw [spoilK_len]; exact hx.2.2⟩
 ·show (if m = n then flipL (x.lasts n) o c else x.lasts m).length = 512
  split
  ·rw [flipL_len]; exact hx.1 n
  ·exact hx.1 m
 ·have hy' : y ∈ (x.waits.take k).map (flipW n o c) ++ x.waits.drop k := hy
  rcases List.mem_append.1 hy' with h | h
  ·obtain ⟨z, hz, rfl⟩ := List.mem_map.1 h
   exact flipW_len n o c z (hx.2.1 z (List.mem_of_mem_take hz))
  ·exact hx.2.1 y (List.mem_of_mem_drop h)
theorem spoilK_all (x : DiskD) (n : Int) (o : Nat) (c : UInt8) : x.spoilK n o c x.waits.length = x.spoil n o c := by
 unfold DiskD.spoilK DiskD.spoil
 rw [List.take_length, List.drop_length, List.append_nil]
theorem spoilK_eq (x : DiskD) (n : Int) (o : Nat) (c : UInt8) (k k' : Nat) (h : (x.spoilK n o c k).waits = (x.spoilK n o c k').waits) : x.spoilK n o c k = x.spoilK n o c k' := by
 have e : (x.waits.take k).map (flipW n o c) ++ x.waits.drop k = (x.waits.take k').map (flipW n o c) ++ x.waits.drop k' := h
 unfold DiskD.spoilK
 rw [e]

set_option maxRecDepth 100000 in
set_option maxHeartbeats 4000000 in
theorem dspoil_any (D : DiskP) (x : DiskD) (n : Int) (o : Nat) (c : UInt8) (w : World) (h : DiskAt w D x) (hx : x.ok) (hn : 0 ≤ n ∧ n < x.size) (ho : o < 512) :
  Calls Tryz.prog 37 #[ptr D.p, .int .i64 n, .int .i64 o, .int .u8 (c.toNat : Int)] w fun e w' => e = .returned (.int .i64 0) ∧ DiskAt w' D (x.spoil n o c) ∧ DStep D D w w' := by
 have HR := Lib.hid (dright_yes D x n o w h hx hn (by omega))
 have c1 := h.blk.cell_is 1 rfl
 have k1 := look_lasts h n
 have hl := hx.2.2.1 n
 have HL := Lib.hid hl
 have hlt := h.blk.lt
 have hoi : (o : Int) < 512 := by omega
 have HH := Lib.hid h
 obtain ⟨hmax, hws, a, cap, ev, hcc⟩ := h.waitsIn hx.sound
 clear hcc
 unfold ptr sectorV at *
 go_enter Tryz.func37, Tryz.ntmps37
 go_wp2_with fail
 refine HR.out.mono ?_; rintro e w1 ⟨rfl, rfl⟩
 go_upto_region 4 with fail
 have hK := Blk.new w 111 Tryz.zeroCells111
 go_wp2_with (first
  | (refine wpList_store_row rfl 111 _ _ rfl w.heap.size ((x.lasts n).map vu8).toArray rfl rfl 111 _ hK (sector_size _ HL.out) (by rw [zero111]; exact sector_eq _ _ List.length_replicate HL.out) (sector_all _) ?_; rw [World.setRow_alloc_new])
  | fail)
 rw [flip_val (x.lasts n) o c (by omega)]
 obtain ⟨W, eW⟩ : ∃ W, W = w.alloc (.cells ((flipL (x.lasts n) o c).map vu8).toArray 111) := ⟨_, rfl⟩
 have hbW : Below w.heap.size w W := by rw [eW]; exact (Below.refl _ w).alloc (Nat.le_refl _) _
 have hG2 : Blk W w.heap.size 111 ((flipL (x.lasts n) o c).map vu8).toArray := by rw [eW]; exact Blk.new _ _ _
 rw [← eW]
 clear eW hK
 have hHW := (HH.out.below hbW).drew
 have c1b := hHW.blk.cell_is 1 rfl
 have hszF : (Tryz.prog.info? 111).map (·.size) = some ((flipL (x.lasts n) o c).map vu8).length := by rw [List.length_map, flipL_len, HL.out]; exact size_sector
 obtain ⟨W2, hrun, hT, hD2, hS2⟩ := diskLasts_set hHW n (flipL (x.lasts n) o c)
 have hS3 : DStep D D w W2 := hS2.first hbW.drew HH.out.has_lt
 have HD2 := Lib.hid hD2
 have HS3 := Lib.hid hS3
 have HHW := Lib.hid hHW
 have hlm : D.lm ≠ w.heap.size := fun e => by have := HH.out.has_lt D.lm (.inr (.inl rfl)); omega
 clear hHW hD2 hS2 hS3 h
 refine wp_region_held_drew (S := (fun w' => w'.cell? ⟨D.p, 1, none⟩ = some (.map (some D.lm)) ∧ Blk w' w.heap.size 111 ((flipL (x.lasts n) o c).map vu8).toArray)) (by kernel_rfl) (by (try dsimp only); (exact ⟨c1b, hG2.drew⟩)) (fun hHeld => ?_)
 refine tk 0 ?_
 refine tk 1 ?_
 refine tk 2 ?_
 refine tk 3 ?_
 refine tk 4 ?_
 refine ty 5 rfl (yieldsIf_load_mid (by rfl) 111 _ rfl w.heap.size 0 rfl ((flipL (x.lasts n) o c).map vu8) _ (fun w' h j v hj => h.2.cell_is (0 + j) (by rw [List.getElem?_toArray, Nat.zero_add]; exact hj)) Tryz.underlying111 rfl hszF) ?_
 refine rd 6 fun K hK => ?_
 rw [if_pos (by rfl)]
 refine wp_mapUpdate_is _ W2 148 _ _ _ rfl _ _ _ rfl rfl rfl hrun ?_
 refine hK.out _ _ ⟨HD2.out.blk.cell_is 1 rfl, (hT.block _ hlm.symm).trans hG2⟩ (fun hHeld => ?_)
 clear hK K
 refine wpAnyH_done (by kernel_rfl) ?_ _
 have c2 := HD2.out.blk.cell_is 2 rfl
 rw [ev] at c2
 try simp only [Act.put, pz0, pz1, pz2, pz3, pz4, pz5]
 go_wp2_with fail
 go_loopw [42] (fun i wr => ∃ k : Nat, k ≤ x.waits.length ∧ i = .int .i64 (k : Int) ∧ DiskAt wr D (x.spoilK n o c k) ∧ DStep D D w wr) (fun i _ => x.waits.length - (intOf i).toNat)
 case atStart => exact ⟨0, Nat.zero_le _, rfl, HD2.out, HS3.out⟩
 case round =>
  obtain ⟨k, hk, rfl, hD, hS⟩ := hrel
  by_cases hlt : k < x.waits.length
  ·obtain ⟨hm2, hws2, a2, cap2, ev2, hc2⟩ := hD.waitsIn (spoilK_sound x hx.sound n o c k)
   rw [spoilK_len, ev] at ev2
   cases ev2
   obtain ⟨g, rfl, hg, hrg⟩ := hc2 k (x.waits[k]'hlt) (by rw [spoilK_at x n o c k hlt, List.getElem?_append_right (by simp; omega)]; simp [Nat.min_eq_left (Nat.le_of_lt hlt)])
   have hy := hx.2.2.2.1 _ (List.getElem_mem hlt)
   have hAt := spoilK_at x n o c k hlt
   have hNx := spoilK_next x n o c k hlt
   have c2w : wr.cell? ⟨D.p, 2, none⟩ = some (.slice (some ⟨g, 0, none⟩) x.waits.length cap) := (hD.blk.cell_is 2 rfl).trans (by rw [ev]; rfl)
   have cn : wr.cell? ⟨g, k * 513, none⟩ = some (.int .i64 (x.waits[k]'hlt).n) := hrg 0 _ rfl
   have cb : wr.cell? ⟨g, k * 513 + 1 + o, none⟩ = some (vu8 ((x.waits[k]'hlt).b.getD o 0)) := by
    have := hrg (1 + o) (vu8 ((x.waits[k]'hlt).b.getD o 0)) (by rw [Nat.add_comm]; show ((x.waits[k]'hlt).b.map vu8)[o]? = _; rw [List.getElem?_map, flip_at _ o c (by omega)]; rfl)
    rw [← Nat.add_assoc] at this
    exact this
   have hlt' : (k : Int) < (x.waits.length : Int) := by omega
   generalize x.waits[k]'hlt = y at *
   have HA := Lib.hid hAt
   have HN := Lib.hid hNx
   have HD := Lib.hid hD
   have HS4 := Lib.hid hS
   clear hAt hNx hD hS hc2 hrg hws2
   obtain ⟨t, ht⟩ : ∃ t : Int, y.n = t := ⟨_, rfl⟩
   rw [ht] at cn
   have HTn := Lib.hid ht
   clear ht
   cases hh : (t == n)
   ·go_wp2_with fail
    go_roundw
    case rel =>
     refine ⟨k + 1, by omega, by simp, ?_, HS4.out⟩
     have e : x.spoilK n o c (k + 1) = x.spoilK n o c k := by
      have h1 : (x.spoilK n o c (k + 1)).waits = (x.spoilK n o c k).waits := by
       rw [HN.out, HA.out]
       unfold flipW
       rw [HTn.out, if_neg (by simpa using hh)]
      exact spoilK_eq x n o c _ _ h1
     rw [e]
     exact HD.out
    case measure => simp [intOf]; omega
   ·have f2w := ownsRow_frozen (by have := HD.out.waits; rw [ev, spoilK_len] at this; exact this) (k * 513 + 1 + o)
    have htn : t = n := by simpa using hh
    subst htn
    have hbo : o < y.b.length := by omega
    have eD : y.b.getD o 0 = y.b[o]'hbo := by rw [List.getD_eq_getElem?_getD, List.getElem?_eq_getElem hbo]; rfl
    have hcells : (flipW t o c y).cells = y.cells.set (1 + o) (.int .u8 (bits .xor .u8 ((y.b[o]'hbo).toNat : Int) (c.toNat : Int))) := by
     unfold flipW
     rw [if_pos HTn.out]
     show (Value.int .i64 y.n :: (flipL y.b o c).map vu8) = (Value.int .i64 y.n :: y.b.map vu8).set (1 + o) _
     rw [flip_cells, Nat.add_comm, List.set_cons_succ, eD, xor_u8]
    have hAl : ((x.waits.take k).map (flipW t o c)).length = k := by simp; omega
    have HQ := Lib.hid (diskWaits_set HD.out (by rw [ev, spoilK_len]) (k * 513 + 1 + o) (.int .u8 (bits .xor .u8 ((y.b[o]'hbo).toNat : Int) (c.toNat : Int))) (x.spoilK t o c (k + 1)).waits (by rw [spoilK_len, spoilK_len])
     (by rw [waitCells_len _ (spoilK_sound x hx.sound t o c k).2.1, spoilK_len]; omega)
     (by rw [HA.out, HN.out, ← waitCells_set _ _ (fun z hz => by obtain ⟨z', hz', rfl⟩ := List.mem_map.1 hz; exact flipW_len t o c z' (hx.2.2.2.1 z' (List.mem_of_mem_take hz'))) y _ (1 + o) _ (by rw [WaitD.len y hy]; omega) hcells, hAl, Nat.add_assoc]))
    have HNE := Lib.hid (show g ≠ D.p from HD.out.ne.2.1 g (by rw [ev]; rfl))
    clear eD hcells hAl
    go_wp2_with fail
    have c2 := c2w
    refine wp_region_held_drew (S := (fun w' => w'.cell? ⟨D.p, 2, none⟩ = some (Value.slice (some ⟨g, 0, none⟩) x.waits.length cap))) (by kernel_rfl) (by (try dsimp only); (exact c2)) (fun hHeld => ?_)
    refine tk 0 ?_
    refine tk 1 ?_
    refine tk 2 ?_
    refine tk 3 ?_
    refine tk 4 ?_
    refine tk 5 ?_
    refine tk 6 ?_
    refine tk 7 ?_
    refine tk 8 ?_
    refine tk 10 ?_
    refine tk 12 ?_
    refine tk 13 ?_
    refine rd 9 fun K hK => ?_
    go_simp
    refine hK.out _ _ hHeld (fun hHeld => ?_)
    clear hK K
    try simp only [Act.put, pz0, pz1, pz2, pz3, pz4, pz5]
    refine tk 11 ?_
    refine tk 14 ?_
    refine rd 15 fun K hK => ?_
    go_simp
    refine hK.out _ _ ((World.cell?_setCell_far _ ⟨g, k * 513 + 1 + o, none⟩ ⟨D.p, 2, none⟩ _ (HNE.out)).trans c2w) (fun hHeld => ?_)
    clear hK K
    refine wpAnyH_done (by kernel_rfl) ?_ _
    try simp only [Act.put, pz0, pz1, pz2, pz3, pz4, pz5]
    go_wp2_with fail
    obtain ⟨q1, q2⟩ := HQ.out
    go_roundw
    case rel => exact ⟨k + 1, by omega, by simp, q1.drew, (HS4.out.trans q2).below (Below.refl _ _).drew⟩
    case measure => simp [intOf]; omega
  ·obtain rfl : k = x.waits.length := by omega
   rw [spoilK_all] at hD
   go_wp2_with fail
   go_ret
   exact ⟨rfl, hD, hS⟩
end Go.Proofs.YtdpniceapmikpaaGreat
