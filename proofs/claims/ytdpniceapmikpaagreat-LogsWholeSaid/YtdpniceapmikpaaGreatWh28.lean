/-
  Ranges over maps with integer keys, whatever the order.
-/
import Derived.Maps.RangeWalk
import Derived.Test.YtdpniceapmikpaaGreatWh7
import Derived.Test.YtdpniceapmikpaaGreatWh27
set_option linter.unusedVariables false
set_option linter.unusedSimpArgs false
namespace Go.Proofs.YtdpniceapmikpaaGreat
open Go.RowKit Go.ChangeMaps Go.MapKept

/-- a map with these entries, in whatever order they were laid in -/
def MapK (w : World) (m : Option Nat) (kd : IntKind) (L : List (Int × Value)) : Prop := (m = none ∧ L = []) ∨ ∃ (b : Nat) (es : Array MapEntry) (clock : Nat), m = some b ∧ w.heap[b]? = some (.map es clock) ∧
 es.toList.map (fun x => (x.key, x.val)) = L.map (fun p => (Value.int kd p.1, p.2)) ∧ (es.toList.map (·.born)).Nodup ∧ ∀ x ∈ es.toList, x.born < clock
theorem MapG.k {w : World} {r c : Nat} {kd : IntKind} {l : List EntG} (h : MapG w r kd l c) : MapK w (some r) kd (l.map fun x => (x.1, x.2.1)) := by
 refine .inr ⟨r, _, _, rfl, h.block, ?_, ?_, ?_⟩
 ·simp [entG, Function.comp_def]
 ·have := h.bonce
  simpa [entG, Function.comp_def] using this
 ·intro x hx
  simp only [entG, List.mem_map] at hx
  obtain ⟨y, hy, rfl⟩ := hx
  exact h.born y hy
theorem MapAt.k {w : World} {r : Nat} {kd : IntKind} {l : List (Int × Value)} (h : MapAt w r kd l) : MapK w (some r) kd l := by
 have e1 : (l.zipIdx.map fun x => (x.1.1, x.1.2)) = l := by
  have : (l.zipIdx.map fun x => (x.1.1, x.1.2)) = l.zipIdx.map (·.1) := List.map_congr_left fun x _ => rfl
  rw [this, List.zipIdx_map_fst]
 refine .inr ⟨r, _, _, rfl, h, ?_, ?_, ?_⟩
 ·have e3 : l.map (fun p => (Value.int kd p.1, p.2)) = (l.zipIdx.map fun x => (x.1.1, x.1.2)).map (fun p => (Value.int kd p.1, p.2)) := by rw [e1]
  rw [e3, List.map_map]
  simp [entriesOf, Function.comp_def]
 ·have e2 : (entriesOf kd l).toList.map (·.born) = List.range' 0 l.length := by
   rw [← List.zipIdx_map_snd 0 l]
   simp [entriesOf, Function.comp_def]
  rw [e2]
  exact List.nodup_range'
 ·intro x hx
  simp only [entriesOf, List.mem_map] at hx
  obtain ⟨y, hy, rfl⟩ := hx
  have := List.snd_lt_of_mem_zipIdx hy
  simpa using this
/-- a range under way: the keys that have come out are among outs, n entries are to come -/
def RangeK (w : World) (r : Nat) (m : Option Nat) (kd : IntKind) (L : List (Int × Value)) (outs : List Int) (n : Nat) : Prop :=
 (m = none ∧ L = [] ∧ n = 0 ∧ w.heap[r]? = some (.mapIter none 0 #[] 0)) ∨
 ∃ (b : Nat) (es : Array MapEntry) (clock since c0 : Nat) (seen : Array Nat), m = some b ∧ w.heap[b]? = some (.map es clock) ∧ w.heap[r]? = some (.mapIter (some b) since seen c0) ∧
  es.toList.map (fun x => (x.key, x.val)) = L.map (fun p => (Value.int kd p.1, p.2)) ∧ (es.toList.map (·.born)).Nodup ∧ (∀ x ∈ es.toList, x.born < since) ∧ since ≤ c0 ∧ since ≤ clock ∧
  (∀ x ∈ es.toList, seen.contains x.born = true → ∃ q ∈ outs, x.key = .int kd q) ∧ (leftOf es seen).size = n
/-- how many are to come, read off the world -/
def leftK (w : World) (r : Nat) : Nat :=
 match w.heap[r]? with
 | some (.mapIter (some b) _ seen _) => (match w.heap[b]? with | some (.map es _) => (leftOf es seen).size | _ => 0)
 | _ => 0
section
variable {w w' : World} {r : Nat} {m : Option Nat} {kd : IntKind} {L : List (Int × Value)} {outs : List Int} {n : Nat}
theorem RangeK.left (h : RangeK w r m kd L outs n) : leftK w r = n := by
 rcases h with ⟨_, _, rfl, hr⟩ | ⟨b, es, clock, since, c0, seen, _, hb, hr, _, _, _, _, _, _, hn⟩
 ·simp only [leftK, hr]
 ·simp only [leftK, hr, hb]; exact hn
theorem RangeK.lt (h : RangeK w r m kd L outs n) : r < w.heap.size := by
 rcases h with ⟨_, _, _, hr⟩ | ⟨b, es, clock, since, c0, seen, _, hb, hr, _⟩
 ·exact (Array.getElem?_eq_some_iff.1 hr).1
 ·exact (Array.getElem?_eq_some_iff.1 hr).1
theorem RangeK.out (h : RangeK w r m kd L outs n) {F : Nat → Prop} (ho : Out F w w') (hF : ¬ F r) (hm : ∀ b, m = some b → ¬ F b) : RangeK w' r m kd L outs n := by
 have hl := h.lt
 rcases h with ⟨h1, h2, h3, hr⟩ | ⟨b, es, clock, since, c0, seen, e, hb, hr, rest⟩
 ·exact .inl ⟨h1, h2, h3, (ho.block r hl hF).trans hr⟩
 ·exact .inr ⟨b, es, clock, since, c0, seen, e, (ho.block b (Array.getElem?_eq_some_iff.1 hb).1 (hm b e)).trans hb, (ho.block r hl hF).trans hr, rest⟩
variable {P : Program} {t k e : TypeId}
theorem range_start (hm : MapK w m kd L) (ht : P.underlying t = some (.map k e)) :
  ∃ w' n, (Instr.range t (.map m)).run P w = .ok (.pointer (some ⟨w.heap.size, 0, none⟩)) w' ∧ RangeK w' w.heap.size m kd L [] n ∧ Below w.heap.size w w' ∧ w'.heap.size = w.heap.size + 1 := by
 rcases hm with ⟨rfl, rfl⟩ | ⟨b, es, clock, rfl, hb, h1, h2, h3⟩
 ·exact ⟨_, 0, run_range_nilMap w t k e ht, .inl ⟨rfl, rfl, rfl, heap_alloc_new w _⟩, (Below.refl _ w).alloc (Nat.le_refl _) _, by simp⟩
 ·refine ⟨_, _, run_range_map w t k e b es clock ht hb, .inr ⟨b, es, clock, clock, clock, #[], rfl, (Below.heap_alloc w _ b (Array.getElem?_eq_some_iff.1 hb).1).trans hb, heap_alloc_new w _, h1, h2, h3, Nat.le_refl _, Nat.le_refl _, fun x _ h => by simp at h, rfl⟩, (Below.refl _ w).alloc (Nat.le_refl _) _, by simp⟩
theorem range_step (h : RangeK w r m kd L outs n) (ty : TypeId) :
  ((∀ p ∈ L, p.1 ∈ outs) ∧ (Instr.next (.pointer (some ⟨r, 0, none⟩)) false ty).run P w = .ok (.tuple #[.bool false]) w) ∨
  ∃ p w' n', p ∈ L ∧ (Instr.next (.pointer (some ⟨r, 0, none⟩)) false ty).run P w = .ok (.tuple #[.bool true, .int kd p.1, p.2]) w' ∧ RangeK w' r m kd L (p.1 :: outs) n' ∧ n' < n ∧ Out (fun i => i = r) w w' ∧ w'.heap.size = w.heap.size ∧
   (Instr.entry (.pointer (some ⟨r, 0, none⟩))).run P w' = .ok (.tuple #[.int kd p.1, p.2]) w' := by
 rcases h with ⟨rfl, rfl, rfl, hr⟩ | ⟨b, es, clock, since, c0, seen, rfl, hb, hr, hL, hnd, hold, hsc, hsk, hs, rfl⟩
 ·refine .inl ⟨fun p hp => (by cases hp), ?_⟩
  simp only [Instr.next, getObj, Sem.run_bind, Sem.run, hr, Result.andThen]
  rfl
 ·rcases run_next_at (P := P) w ty r b since c0 seen es clock hr hb hold hsc with ⟨h0, hrun⟩ | ⟨x, hx, w1, hal, hrun⟩
  ·refine .inl ⟨fun p hp => ?_, hrun⟩
   have hpm : (Value.int kd p.1, p.2) ∈ es.toList.map (fun x => (x.key, x.val)) := by rw [hL]; exact List.mem_map.2 ⟨p, hp, rfl⟩
   obtain ⟨y, hy, ey⟩ := List.mem_map.1 hpm
   injection ey with e1 e2
   obtain ⟨q, hq, e3⟩ := hs y hy (all_seen es seen h0 y hy)
   rw [e1] at e3
   injection e3 with _ e4
   rw [e4]; exact hq
  ·obtain ⟨hem, hes⟩ := mem_left hx
   have hxm : (x.key, x.val) ∈ L.map (fun p => (Value.int kd p.1, p.2)) := by rw [← hL]; exact List.mem_map.2 ⟨x, hem, rfl⟩
   obtain ⟨p, hp, ep⟩ := List.mem_map.1 hxm
   injection ep with e1 e2
   have hne : r ≠ b := by
    intro e
    rw [e, hb] at hr
    cases hr
   have hr1 : w1.heap[r]? = some (.mapIter (some b) since seen c0) := by rcases hal with rfl | rfl <;> exact hr
   have hb1 : w1.heap[b]? = some (.map es clock) := by rcases hal with rfl | rfl <;> exact hb
   have hset := heap_set (o' := .mapIter (some b) since (seen.push x.born) clock) hr1
   have hb' : (setBlock w1 r (.mapIter (some b) since (seen.push x.born) clock)).heap[b]? = some (.map es clock) := (hset.2 b (fun e1 => hne e1.symm)).trans hb1
   refine .inr ⟨p, _, _, hp, by rw [e1, e2]; exact hrun, .inr ⟨b, es, clock, since, clock, seen.push x.born, rfl, hb', hset.1, hL, hnd, hold, hsk, hsk, fun y hy hc => ?_, rfl⟩, left_shrinks es seen x hx, ?_, ?_, by rw [e1, e2]; exact run_entry_at _ r b since seen es clock x hset.1 hb' hem hnd⟩
   ·rw [contains_push] at hc
    by_cases hb2 : y.born = x.born
    ·rw [born_inj hnd hy hem hb2, ← e1]
     exact ⟨p.1, List.mem_cons_self, rfl⟩
    ·have : seen.contains y.born = true := by simpa [hb2] using hc
     obtain ⟨q, hq, e⟩ := hs y hy this
     exact ⟨q, List.mem_cons_of_mem _ hq, e⟩
   ·rcases hal with rfl | rfl
    ·exact ⟨rfl, rfl, rfl, by simp [setBlock], fun i _ hi => hset.2 i hi⟩
    ·exact (outB (Below.refl _ _).drew : Out (fun i => i = r) w w.drew).trans ⟨rfl, rfl, rfl, by simp [setBlock], fun i _ hi => hset.2 i hi⟩ (fun _ _ h => h)
   ·rcases hal with rfl | rfl <;> simp [setBlock]
variable {ops : Array Oper} {rest : List Oper} {o : Oper} {a : Act} {Q : Exit → Act → World → Prop}
theorem wpList_rangeK (hg : o.guard = none) (x : Operand) (hop : o.op = Op.range t x) (ht : P.underlying t = some (.map k e)) (hx : a.eval x = .map m) (hm : MapK w m kd L)
  (hK : ∀ w' n, RangeK w' w.heap.size m kd L [] n → Below w.heap.size w w' → w'.heap.size = w.heap.size + 1 → wpList P ops Q rest (a.put o.dst (.pointer (some ⟨w.heap.size, 0, none⟩))) w') : wpList P ops Q (o :: rest) a w := by
 refine wpList_plain hg fun K' hK' => ?_
 obtain ⟨w', n, hrun, r1, r2, r3⟩ := range_start (P := P) hm ht
 unfold Oper.wp
 simp [execOp, hop, hx, hrun, Result.andThen]
 exact hK' _ _ (hK w' n r1 r2 r3)
theorem wpList_nextK (hg : o.guard = none) (it : Operand) (hop : o.op = Op.next it false) (hit : a.eval it = .pointer (some ⟨r, 0, none⟩)) (h : RangeK w r m kd L outs n)
  (hDone : (∀ p ∈ L, p.1 ∈ outs) → wpList P ops Q rest (a.put o.dst (.tuple #[.bool false])) w)
  (hMore : ∀ p w' n', p ∈ L → RangeK w' r m kd L (p.1 :: outs) n' → n' < n → Out (fun i => i = r) w w' → w'.heap.size = w.heap.size → (Instr.entry (.pointer (some ⟨r, 0, none⟩))).run P w' = .ok (.tuple #[.int kd p.1, p.2]) w' →
   wpList P ops Q rest (a.put o.dst (.tuple #[.bool true, .int kd p.1, p.2])) w') : wpList P ops Q (o :: rest) a w := by
 refine wpList_plain hg fun K' hK' => ?_
 unfold Oper.wp
 rcases range_step (P := P) h o.type with ⟨h0, hrun⟩ | ⟨p, w', n', hp, hrun, h1, h2, h3, h4, h5⟩
 ·simp [execOp, hop, hit, hrun, Result.andThen]
  exact hK' _ _ (hDone h0)
 ·simp [execOp, hop, hit, hrun, Result.andThen]
  exact hK' _ _ (hMore p w' n' hp h1 h2 h3 h4 h5)
end
end Go.Proofs.YtdpniceapmikpaaGreat
