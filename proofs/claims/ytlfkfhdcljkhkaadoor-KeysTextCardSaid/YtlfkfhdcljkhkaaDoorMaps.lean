/-
  Words for maps with integer keys that are known whole: stores of new keys, look-ups; for all worlds.
-/
import Derived.Test.YtlfkfhdcljkhkaaDoorMem
namespace Go.Proofs.YtlfkfhdcljkhkaaDoor
open Go.RowKit

/-- only block r has turned, and nothing is new -/
structure Turn (r : Nat) (w w' : World) : Prop where
  os : w'.os = w.os
  tape : w'.tape = w.tape
  output : w'.output = w.output
  size : w'.heap.size = w.heap.size
  block : ∀ i, i ≠ r → w'.heap[i]? = w.heap[i]?

theorem Turn.below {r B : Nat} {a w w' : World} (h : Turn r w w') (hb : Below B a w) (hr : B ≤ r) : Below B a w' :=
  hb.trans ⟨h.os, h.tape, h.output, by rw [h.size]; exact Nat.le_refl _, fun i hi => h.block i (by omega)⟩
theorem Turn.blk {r : Nat} {w w' : World} (h : Turn r w w') {g : Nat} {t : TypeId} {cs : Array Value} (hb : Blk w g t cs) (hg : g ≠ r) : Blk w' g t cs := (h.block g hg).trans hb
theorem Blk.ne_ {w : World} {g g' : Nat} {t t' : TypeId} {cs cs' : Array Value} (h : Blk w g t cs) (h' : Blk w g' t' cs') (hne : t ≠ t') : g ≠ g' := by
  rintro rfl
  unfold Blk at h h'
  rw [h] at h'
  injection h' with h'
  injection h' with _ ht
  exact hne ht

/-- the entries of a map whose keys were stored in this order, none twice -/
def entriesOf (kd : IntKind) (l : List (Int × Value)) : Array MapEntry := (l.zipIdx.map fun x => ⟨.int kd x.1.1, x.1.2, x.2⟩).toArray
def MapAt (w : World) (r : Nat) (kd : IntKind) (l : List (Int × Value)) : Prop := w.heap[r]? = some (.map (entriesOf kd l) l.length)

theorem MapAt.lt {w : World} {r : Nat} {kd : IntKind} {l : List (Int × Value)} (h : MapAt w r kd l) : r < w.heap.size := by
  rcases Nat.lt_or_ge r w.heap.size with hlt | hge
  · exact hlt
  · unfold MapAt at h; rw [Array.getElem?_eq_none hge] at h; cases h
theorem MapAt.new (w : World) (kd : IntKind) : MapAt (w.alloc (.map #[] 0)) w.heap.size kd [] := heap_alloc_new w _
theorem MapAt.alloc {w : World} {r : Nat} {kd : IntKind} {l : List (Int × Value)} (h : MapAt w r kd l) (o : Obj) : MapAt (w.alloc o) r kd l := (Below.heap_alloc w o r h.lt).trans h
theorem MapAt.drew {w : World} {r : Nat} {kd : IntKind} {l : List (Int × Value)} (h : MapAt w r kd l) : MapAt w.drew r kd l := h
theorem MapAt.below {w w' : World} {r B : Nat} {kd : IntKind} {l : List (Int × Value)} (h : MapAt w r kd l) (hb : Below B w w') (hr : r < B) : MapAt w' r kd l := (hb.block r hr).trans h

theorem entriesOf_push (kd : IntKind) (l : List (Int × Value)) (n : Int) (v : Value) : entriesOf kd (l ++ [(n, v)]) = (entriesOf kd l).push ⟨.int kd n, v, l.length⟩ := by
  unfold entriesOf
  rw [List.zipIdx_append, List.map_append]
  simp

theorem findNow_entries (kd : IntKind) (n : Int) : ∀ (l : List (Int × Value)) (i j : Nat),
    Instr.findNow (.int kd) (.int kd n) ((l.zipIdx j).map fun x => (⟨.int kd x.1.1, x.1.2, x.2⟩ : MapEntry)) i =
      some ((l.zipIdx i).find? (fun x => n == x.1.1) |>.map fun x => (x.2, x.1.2))
  | [], i, j => rfl
  | x :: l, i, j => by
    simp only [List.zipIdx_cons, List.map_cons, Instr.findNow, Instr.sameNow, if_true, List.find?_cons]
    cases h : (n == x.1)
    · simp only [findNow_entries kd n l (i + 1) (j + 1)]
    · simp

/-- what a look-up finds -/
def lookOf (l : List (Int × Value)) (n : Int) : Option Value := (l.find? fun x => n == x.1).map (·.2)

theorem find_zipIdx (n : Int) : ∀ (l : List (Int × Value)) (i : Nat), ((l.zipIdx i).find? (fun x => n == x.1.1)).map (fun x => x.1.2) = lookOf l n
  | [], _ => rfl
  | x :: l, i => by
    simp only [List.zipIdx_cons, List.find?_cons, lookOf]
    cases h : (n == x.1)
    · simpa [lookOf] using find_zipIdx n l (i + 1)
    · simp

section
variable {P : Program} {t k e : TypeId} {kd : IntKind}

theorem run_findKey (w : World) (hk : P.underlying k = some (.int kd)) (l : List (Int × Value)) (n : Int) :
    (Instr.findKey k (.int kd n) (entriesOf kd l).toList).run P w = .ok (((l.zipIdx 0).find? (fun x => n == x.1.1)).map fun x => (x.2, x.1.2)) w := by
  unfold Instr.findKey entriesOf
  simp only [Sem.run_bind, run_underlying hk, Result.andThen, findNow_entries kd n l 0 0]
  rfl

theorem run_checkKey_int (w : World) (b : Bool) (n : Nat) (hk : P.underlying k = some (.int kd)) (v : Value) : (Instr.checkKey b (n + 1) k v).run P w = .ok () w := by
  unfold Instr.checkKey
  simp only [Sem.run_bind, run_underlying hk, Result.andThen]
  cases v <;> rfl

theorem run_insert_new (w : World) (ht : P.underlying t = some (.map k e)) (hk : P.underlying k = some (.int kd)) (r : Nat) (l : List (Int × Value)) (hm : MapAt w r kd l) (n : Int) (hn : lookOf l n = none) (v : Value) :
    ∃ w', (Instr.mapUpdate t (.map (some r)) (.int kd n) v).run P w = .ok () w' ∧ MapAt w' r kd (l ++ [(n, v)]) ∧ Turn r w w' := by
  have hf : (((l.zipIdx 0).find? (fun x => n == x.1.1)).map fun x => (x.2, x.1.2)) = none := by
    have := find_zipIdx n l 0
    rw [hn] at this
    simpa using this
  refine ⟨{ w with heap := w.heap.setIfInBounds r (.map ((entriesOf kd l).push ⟨.int kd n, v, l.length⟩) (l.length + 1)) }, ?_, ?_, ?_⟩
  · unfold Instr.mapUpdate
    simp only [Sem.run_bind, run_underlying ht, Result.andThen, MapKept.run_getObj_map hm, run_checkKey_int w false 9999 hk, run_findKey w hk, hf]
    exact MapKept.run_setObj_map _ hm
  · unfold MapAt
    rw [entriesOf_push]
    simp [hm.lt]
  · exact ⟨rfl, rfl, rfl, by simp, fun i hi => by simp [Array.getElem?_setIfInBounds_ne (fun e => hi e.symm)]⟩

theorem run_lookup_ok (w : World) (ht : P.underlying t = some (.map k e)) (hk : P.underlying k = some (.int kd)) (r : Nat) (l : List (Int × Value)) (hm : MapAt w r kd l) (n : Int) (v : Value) (hn : lookOf l n = some v) (ok : Bool) :
    (Instr.lookup t (.map (some r)) (.int kd n) ok).run P w = .ok (if ok then .tuple #[v, .bool true] else v) w := by
  have hf := find_zipIdx n l 0
  rw [hn] at hf
  obtain ⟨x, hx, hv⟩ := Option.map_eq_some_iff.1 hf
  unfold Instr.lookup
  simp only [Sem.run_bind, run_underlying ht, Result.andThen, MapKept.run_getObj_map hm, run_checkKey_int w _ 9999 hk, run_findKey w hk, hx, Option.map_some, Sem.run_pure, hv]

theorem run_lookup_none (w : World) (ht : P.underlying t = some (.map k e)) (hk : P.underlying k = some (.int kd)) (r : Nat) (l : List (Int × Value)) (hm : MapAt w r kd l) (n : Int) (z : Value) (hz : (zeroValue e).run P w = .ok z w) (hn : lookOf l n = none) (ok : Bool) :
    (Instr.lookup t (.map (some r)) (.int kd n) ok).run P w = .ok (if ok then .tuple #[z, .bool false] else z) w := by
  have hf : (((l.zipIdx 0).find? (fun x => n == x.1.1)).map fun x => (x.2, x.1.2)) = none := by
    have := find_zipIdx n l 0
    rw [hn] at this
    simpa using this
  unfold Instr.lookup
  simp only [Sem.run_bind, run_underlying ht, Result.andThen, MapKept.run_getObj_map hm, run_checkKey_int w _ 9999 hk, run_findKey w hk, hf, Sem.run_pure, hz]

theorem wpList_insert_new (w : World) {ops : Array Oper} {rest : List Oper} {o : Oper} {a : Act} {Q : Exit → Act → World → Prop}
    (hg : o.guard = none) (m x y : Operand) (hop : o.op = Op.insert t m x y)
    (ht : P.underlying t = some (.map k e)) (hk : P.underlying k = some (.int kd)) (r : Nat) (l : List (Int × Value)) (hma : a.eval m = .map (some r)) (hm : MapAt w r kd l) (n : Int) (hx : a.eval x = .int kd n) (hn : lookOf l n = none) (v : Value) (hv : a.eval y = v)
    (hK : ∀ w', MapAt w' r kd (l ++ [(n, v)]) → Turn r w w' → wpList P ops Q rest (a.put o.dst undef) w') :
    wpList P ops Q (o :: rest) a w := by
  refine wpList_plain hg fun K' hK' => ?_
  obtain ⟨w', hrun, r1, r2⟩ := run_insert_new (P := P) w ht hk r l hm n hn v
  unfold Oper.wp
  simp [execOp, hop, hma, hx, hv, hrun, Result.andThen]
  exact hK' _ _ (hK w' r1 r2)
end
end Go.Proofs.YtlfkfhdcljkhkaaDoor
