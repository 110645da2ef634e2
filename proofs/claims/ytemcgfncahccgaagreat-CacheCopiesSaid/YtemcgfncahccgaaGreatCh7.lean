/-
  step, of a sector that there is: the world behind it; where it fails.
  The closure that Write hands to step: a sector that waits. (Written by gen_ldisk4.py.)
  A step that goes well; Write.
  slices.Backward over the writes that wait.
-/
import Derived.Deep.RegionHeld3
import Derived.Deep.AppendLies
import Derived.Great.BuildSlice
import Derived.Test.YtemcgfncahccgaaGreatCh4
import Derived.Test.YtemcgfncahccgaaGreatCh5
import Derived.Test.YtemcgfncahccgaaGreatCh6
set_option linter.unusedVariables false
set_option linter.unusedSimpArgs false
namespace Go.Proofs.YtemcgfncahccgaaGreat
open Go.RowKit

theorem ne_own {w : World} {k B : Nat} {e t : TypeId} {v : Value} {n g : Nat} {xs : List Value} {cs : Array Value} (h : w.ownsRow B e k v n xs) (hg : Blk w g t cs) (het : e ≠ t) (i : Nat) (hi : v.ownBlock = some i) : i ≠ g := by
 rintro rfl
 rcases h.2 with ⟨rfl, _⟩ | ⟨g', cap, cur, rfl, h2, h3, h4⟩
 ·cases hi
 ·obtain rfl : g' = i := by simpa [Value.ownBlock] using hi
  unfold Blk at hg
  rw [hg] at h3
  injection h3 with h3
  injection h3 with _ h3
  exact het h3.symm
theorem ne_map {w : World} {g r : Nat} {t : TypeId} {cs : Array Value} {kd : IntKind} {l : List (Int × Value)} (h : MapAt w r kd l) (hg : Blk w g t cs) : r ≠ g := by
 rintro rfl
 unfold MapAt at h
 unfold Blk at hg
 rw [h] at hg
 injection hg with hg
 cases hg
/-- the block of the disk alone is another one than the rest -/
theorem DiskAt.ne {w : World} {D : DiskP} {x : DiskD} (h : DiskAt w D x) : D.lm ≠ D.p ∧ (∀ i, D.wv.ownBlock = some i → i ≠ D.p) ∧ ∀ i, D.fv = some i → i ≠ D.p := by
 refine ⟨?_, ne_own h.waits h.blk (by decide), fun i hi => ?_⟩
 ·obtain ⟨l, hm, _⟩ := h.lasts
  exact ne_map hm h.blk
 ·rcases h.fails with ⟨e, _⟩ | ⟨r, k, e, h1, _⟩
  ·rw [e] at hi; cases hi
  ·rw [e] at hi; cases hi; exact ne_map h1 h.blk
theorem DiskAt.steps_ {w : World} {D : DiskP} {x : DiskD} (h : DiskAt w D x) (s : Int) : DiskAt (w.setCell ⟨D.p, 3, none⟩ (.int .i64 s)) D { x with steps := s } := by
 obtain ⟨n1, n2, n3⟩ := h.ne
 refine ⟨h.blk.set_ 3 _, ?_, ?_, ?_, h.apart⟩
 ·obtain ⟨l, hm, hl⟩ := h.lasts
  exact ⟨l, (Below.heap_setCell w _ _ _ n1).trans hm, hl⟩
 ·rcases h.waits.2 with hn | ⟨g, cap, cur, e, h2, h3, h4⟩
  ·exact ⟨h.waits.1, .inl hn⟩
  ·exact ⟨h.waits.1, .inr ⟨g, cap, cur, e, h2, (Below.heap_setCell w _ _ _ (n2 g (by rw [e]; rfl))).trans h3, h4⟩⟩
 ·rcases h.fails with hn | ⟨r, k, e, h1, h2⟩
  ·exact .inl hn
  ·exact .inr ⟨r, k, e, (Below.heap_setCell w _ _ _ (n3 r e)).trans h1, h2⟩

/-- what a step of a disk may turn -/
structure DStep (D D' : DiskP) (w w' : World) : Prop where
 out : Out D.has w w'
 same : D'.p = D.p
 new_ : ∀ i, D'.has i → D.has i ∨ w.heap.size ≤ i
theorem DStep.refl (D : DiskP) (w : World) : DStep D D w w := ⟨Out.refl _ _, rfl, fun _ h => .inl h⟩
theorem DStep.trans {D D1 D2 : DiskP} {w w1 w2 : World} (h : DStep D D1 w w1) (k : DStep D1 D2 w1 w2) : DStep D D2 w w2 :=
 ⟨h.out.trans k.out (fun i hi hd => (h.new_ i hd).resolve_right (by omega)), k.same.trans h.same, fun i hi => (k.new_ i hi).elim (h.new_ i) (fun hs => .inr (by have := h.out.size; omega))⟩
theorem DStep.below {D D' : DiskP} {w w1 w2 : World} (h : DStep D D' w w1) (hb : Below w1.heap.size w1 w2) : DStep D D' w w2 := ⟨h.out.trans (G := fun _ => False) (outB hb) (fun _ _ => False.elim), h.same, h.new_⟩
theorem DStep.far {D D' : DiskP} {w w1 : World} (h : DStep D D' w w1) {g : Nat} (hg : g < w.heap.size) (hn : ¬ D.has g) : ¬ D'.has g := fun hd => (h.new_ g hd).elim hn (by omega)
theorem DStep.first {D D' : DiskP} {w0 w w1 : World} (h : DStep D D' w w1) (hb : Below w0.heap.size w0 w) (hD : ∀ i, D.has i → i < w0.heap.size) : DStep D D' w0 w1 :=
 ⟨(outB hb : Out D.has w0 w).trans h.out (fun _ _ => id), h.same, fun i hi => (h.new_ i hi).imp id (fun hs => by have := hb.size; omega)⟩
theorem out_set {w : World} {F : Nat → Prop} {g i : Nat} {v : Value} (hg : F g) : Out F w (w.setCell ⟨g, i, none⟩ v) :=
 ⟨rfl, rfl, rfl, by simp, fun j _ hn => Below.heap_setCell w _ _ _ (fun e => hn (by rw [show j = g from e]; exact hg))⟩

theorem disk_step_at {w : World} {D : DiskP} {x : DiskD} (h : DiskAt w D x) (o : Obj) : DiskAt (((w.setCell ⟨D.p, 3, none⟩ (.int .i64 (x.steps + 1))).alloc o).drew) D x.stepped ∧ DStep D D w (((w.setCell ⟨D.p, 3, none⟩ (.int .i64 (x.steps + 1))).alloc o).drew) := by
 have h1 := h.steps_ (x.steps + 1)
 have hb : Below (w.setCell ⟨D.p, 3, none⟩ (.int .i64 (x.steps + 1))).heap.size (w.setCell ⟨D.p, 3, none⟩ (.int .i64 (x.steps + 1))) (((w.setCell ⟨D.p, 3, none⟩ (.int .i64 (x.steps + 1))).alloc o).drew) := ((Below.refl _ _).alloc (Nat.le_refl _) o).drew
 refine ⟨h1.below hb, ?_, rfl, fun _ h => .inl h⟩
 exact Out.trans (G := D.has) (out_set (.inl rfl)) (outB hb) (fun _ _ => id)

set_option maxRecDepth 100000 in
set_option maxHeartbeats 4000000 in
theorem dstep_fails (D : DiskP) (x : DiskD) (n : Int) (f : Value) (w : World) (h : DiskAt w D x) (hx : x.ok) (hn : 0 ≤ n ∧ n < x.size) (hf : x.steps ∈ x.fails) : Calls Tryz.prog 98 #[ptr D.p, .int .i64 n, f] w fun e w' =>
  e = .returned (.int .i64 120) ∧ DiskAt w' D x.stepped ∧ DStep D D w w' := by
 have HR := Lib.hid (dright_yes D x n 0 w h hx hn (by omega))
 have c4 := h.blk.cell_is 4 rfl
 have c3 := h.blk.cell_is 3 rfl
 have f3 := h.blk.frozen 3
 have hlt := h.blk.lt
 have k1 := look_fails h.drew x.steps
 have k2 := look_fails (h.below ((Below.refl _ _).alloc (Nat.le_refl _) (.cells #[] 131))).drew x.steps
 have k3 := look_fails (h.drew.below ((Below.refl _ _).alloc (Nat.le_refl _) (.cells #[] 131))) x.steps
 rw [decide_eq_true hf] at k1 k2 k3
 have HF := Lib.hid (fun o => disk_step_at h o)
 have hs : x.steps ≤ 1000000000000 := hx.2.2.2.2.2.1
 have hs0 : 0 ≤ x.steps := hx.2.2.2.2.1
 unfold ptr at *
 clear h hx hf
 generalize x.steps = s at *
 go_enter Tryz.func98, Tryz.ntmps98
 go_wp2_with fail
 refine HR.out.mono ?_; rintro e w1 ⟨rfl, rfl⟩
 go_upto_region 4 with fail
 go_region
 all_goals go_wp2_with fail
 all_goals go_ret
 all_goals exact ⟨rfl, HF.out _⟩
end Go.Proofs.YtemcgfncahccgaaGreat
namespace Go.Proofs.YtemcgfncahccgaaGreat
open Go.RowKit

theorem info_wait : ∃ i z, Tryz.prog.info? 130 = some i ∧ i.zero = some z ∧ i.size = 513 ∧ i.bytes = 520 ∧ z.cells.size = 513 := by
 have h : (Tryz.prog.info? 130).map (fun i => (i.zero.map (·.cells.size), i.size, i.bytes)) = some (some 513, 513, 520) := by kernel_rfl
 obtain ⟨i, hi, he⟩ := Option.map_eq_some_iff.1 h
 injection he with h1 h2
 injection h2 with h2 h3
 obtain ⟨z, hz, h4⟩ := Option.map_eq_some_iff.1 h1
 exact ⟨i, z, hi, hz, h2, h3, h4⟩
theorem size_sector : (Tryz.prog.info? 84).map (·.size) = some 512 := by kernel_rfl
theorem sector_one (b : List UInt8) (v : Value) (hv : v ∈ b.map vu8) : v.oneCell' = true := by
 obtain ⟨c, _, rfl⟩ := List.mem_map.1 hv
 rfl
theorem fold_part (off : Nat) (l : List Value) (cs : Array Value) (h : off + l.length ≤ cs.size) : (l.zipIdx 0).foldl (fun cs (x : Value × Nat) => cs.setIfInBounds (off + x.2) x.1) cs = (cs.toList.take off ++ l ++ cs.toList.drop (off + l.length)).toArray := by
 obtain ⟨h1, h2⟩ := Great.foldl_set off l 0 cs
 apply Array.ext_getElem?
 intro k
 rw [h2 k]
 refine Eq.trans ?_ List.getElem?_toArray.symm
 have ht : (cs.toList.take off).length = off := by simp; omega
 by_cases c1 : k < off
 ·rw [if_neg (by omega), List.append_assoc, List.getElem?_append_left (by omega), List.getElem?_take, if_pos c1]; simp
 ·by_cases c2 : k < off + l.length
  ·rw [if_pos (by omega), List.append_assoc, List.getElem?_append_right (by omega), ht, List.getElem?_append_left (by omega)]; simp
  ·rw [if_neg (by omega), List.getElem?_append_right (by simp; omega), List.getElem?_drop]
   simp only [List.length_append, ht, Array.getElem?_toList]
   congr 1
   omega
theorem fill_part {place : Nat → Option (Nat × Nat)} {cells : Array Value} {i off size : Nat} {v : Value} {rest : List (Nat × Value)} (hp : place i = some (off, size)) (hs : v.cells.size = size) (hle : off + size ≤ cells.size) :
  Instr.fill place cells ((i, v) :: rest) = Instr.fill place (cells.toList.take off ++ v.cells.toList ++ cells.toList.drop (off + size)).toArray rest := by
 rw [Instr.fill, hp]
 have h : (decide (v.cells.size ≠ size) || decide (off + v.cells.size > cells.size)) = false := by simp; omega
 simp only [h, Bool.false_eq_true, if_false]
 have e := fold_part off v.cells.toList cells (by simpa [hs] using hle)
 rw [show v.cells.toList.length = size by simpa using hs] at e
 rw [← e]
 congr 1
 rw [← Array.foldl_toList, Array.toList_zipIdx]
theorem fill_nil (place : Nat → Option (Nat × Nat)) (cells : Array Value) : Instr.fill place cells [] = some cells := rfl
theorem yieldsIf_build {P : Program} {ops : Array Oper} {S : World → Prop} {op : Oper} {a : Act} (hw : Region.wanted op (yielded ops a.tmps) = true) (t : TypeId) (parts : Array (Nat × Operand)) (ho : op.op = .build t parts) (cells : Array Value)
  (hf : P.built t (parts.toList.map fun x => (x.1, a.eval x.2)) = some cells) : YieldsIf P ops S op (.agg cells) a :=
 .inl ⟨hw, fun w _ => by
  unfold execOp
  have hf' : P.built t (parts.map fun (i, x) => (i, a.eval x)).toList = some cells := by rw [Array.toList_map]; exact hf
  simp only [ho, Sem.run_bind, run_build w t _ _ hf', Sem.run_pure, Result.andThen_ok]⟩
theorem wp_buildSliceL {P : Program} {o : Oper} {a : Act} {w : World} {K : Act → World → Prop} {Q : Exit → Act → World → Prop} (t e : TypeId) (len : Nat) (parts : Array (Nat × Operand)) (ho : o.op = .buildSlice t len parts)
  (cells : Array Value) (ie : TypeInfo) (z : Value)
  (hu : P.underlying t = some (.slice e)) (hie : P.info? e = some ie) (hz : ie.zero = some z) (hsmall : ¬ len * ie.size > 2 ^ 24) (hpos : ¬ len * ie.size = 0)
  (hf : Instr.fill (fun i => some (i * ie.size, ie.size)) ((Array.range (len * ie.size)).map (z.cells[· % z.cells.size]!)) (parts.toList.map fun x => (x.1, a.eval x.2)) = some cells)
  (h : K (a.put o.dst (.slice (some ⟨w.heap.size, 0, none⟩) len len)) (w.alloc (.cells cells e))) : o.wp P a w K Q :=
 wp_buildSlice t e len parts ho cells ie z hu hie hz hsmall hpos (by rw [Array.toList_map]; exact hf) h
theorem WaitD.len (x : WaitD) (h : x.b.length = 512) : x.cells.length = 513 := by simp [WaitD.cells, h]
theorem wait_one (x : WaitD) (v : Value) (hv : v ∈ x.cells) : v.oneCell' = true := by
 rcases List.mem_cons.1 hv with rfl | hv
 ·rfl
 ·exact sector_one _ v hv
def DiskD.put (x : DiskD) (n : Int) (b : List UInt8) : DiskD := { x with waits := x.waits ++ [⟨n, b⟩] }
theorem ne_own_map {w : World} {k B e : Nat} {v : Value} {n r : Nat} {xs : List Value} {kd : IntKind} {l : List (Int × Value)} (h : w.ownsRow B e k v n xs) (hm : MapAt w r kd l) (i : Nat) (hi : v.ownBlock = some i) : i ≠ r := by
 rintro rfl
 rcases h.2 with ⟨rfl, _⟩ | ⟨g', cap, cur, rfl, h2, h3, h4⟩
 ·cases hi
 ·obtain rfl : g' = i := by simpa [Value.ownBlock] using hi
  unfold MapAt at hm
  rw [hm] at h3
  injection h3 with h3
  cases h3
end Go.Proofs.YtemcgfncahccgaaGreat
namespace Go.Proofs.YtemcgfncahccgaaGreat
open Go.RowKit

theorem callFunc_is {P : Program} {k : Nat} {fn : Func} (hf : P.funcs[k]? = some fn) (hname : (fn.name == "runtime.NumGoroutine") = false) (hb : fn.body.isNone = false) (args : Array Value) (w : World) : (callFunc k args).run P w = .ok (.enter k args) w := by
 have h1 : fn.name ≠ "runtime.NumGoroutine" := by simpa using hname
 have h2 : fn.body ≠ none := by intro h; rw [h] at hb; cases hb
 simp [callFunc, hf, h1, h2, Sem.run]
set_option maxRecDepth 100000 in
set_option maxHeartbeats 4000000 in
theorem dstep_do (k : Nat) (hk : ∀ args w, (callFunc k args).run Tryz.prog w = .ok (.enter k args) w) (p0 p1 p2 : Value) (R : World → Prop) (D : DiskP) (x : DiskD) (n : Int) (w : World) (h : DiskAt w D x) (hx : x.ok) (hn : 0 ≤ n ∧ n < x.size) (hf : ¬ x.steps ∈ x.fails)
  (hdo : ∀ w', DiskAt w' D x.stepped → DStep D D w w' → Calls Tryz.prog k #[p0, p1, p2] w' fun e w'' => e = .returned (.tuple #[]) ∧ R w'') :
  Calls Tryz.prog 98 #[ptr D.p, .int .i64 n, .func (.func k) #[] #[p0, p1, p2]] w fun e w' => e = .returned (.int .i64 0) ∧ R w' := by
 have HR := Lib.hid (dright_yes D x n 0 w h hx hn (by omega))
 have c4 := h.blk.cell_is 4 rfl
 have c3 := h.blk.cell_is 3 rfl
 have f3 := h.blk.frozen 3
 have hlt := h.blk.lt
 have k1 := look_fails h.drew x.steps
 have k2 := look_fails (h.below ((Below.refl _ _).alloc (Nat.le_refl _) (.cells #[] 131))).drew x.steps
 have k3 := look_fails (h.drew.below ((Below.refl _ _).alloc (Nat.le_refl _) (.cells #[] 131))) x.steps
 rw [decide_eq_false hf] at k1 k2 k3
 have HF := Lib.hid (fun o => disk_step_at h o)
 have HD := Lib.hid hdo
 have hs : x.steps ≤ 1000000000000 := hx.2.2.2.2.2.1
 have hs0 : 0 ≤ x.steps := hx.2.2.2.2.1
 unfold ptr at *
 clear h hx hf hdo
 generalize x.steps = s at *
 go_enter Tryz.func98, Tryz.ntmps98
 go_wp2_with fail
 refine HR.out.mono ?_; rintro e w1 ⟨rfl, rfl⟩
 go_upto_region 4 with fail
 go_region
 all_goals
  go_wp2_with fail
  refine (HD.out _ (HF.out _).1 (HF.out _).2).mono ?_
  rintro e w2 ⟨rfl, hR⟩
  go_wp2_with fail
  go_ret
  exact ⟨rfl, hR⟩

/-- what a step answers -/
def DiskD.err (x : DiskD) (n : Int) : Int := if n < 0 ∨ x.size ≤ n then 4 else if x.steps ∈ x.fails then 120 else 0
def DiskD.write (x : DiskD) (n : Int) (b : List UInt8) : DiskD := if n < 0 ∨ x.size ≤ n then x else if x.steps ∈ x.fails then x.stepped else x.stepped.put n b
theorem has_new {w w' : World} {D : DiskP} {x : DiskD} (h : DiskAt w D x) {i : Nat} (hi : w.heap.size ≤ i) : ¬ D.has i := fun hd => by have := h.has_lt i hd; omega

end Go.Proofs.YtemcgfncahccgaaGreat
namespace Go.Proofs.YtemcgfncahccgaaGreat
open Go.RowKit Go.Shelf

attribute [local go_sem] Oper.semAt_some

def WaitsIn (w : World) (B : Nat) (v : Value) (ws : List WaitD) : Prop := ws.length ≤ 1000000 ∧ (∀ y ∈ ws, y.b.length = 512) ∧ ∃ a cap, v = .slice a ws.length cap ∧ ∀ i y, ws[i]? = some y → ∃ g, a = some ⟨g, 0, none⟩ ∧ g < B ∧ w.rangeAt g (i * 513) y.cells
theorem WaitsIn.below {w w' : World} {B B' : Nat} {v : Value} {ws : List WaitD} (h : WaitsIn w B v ws) (hb : Below B' w w') (hB : B ≤ B') : WaitsIn w' B v ws := by
 obtain ⟨h0, h1, a, cap, e, h2⟩ := h
 refine ⟨h0, h1, a, cap, e, fun i y hi => ?_⟩
 obtain ⟨g, e2, hg, hr⟩ := h2 i y hi
 exact ⟨g, e2, hg, fun j u hj => (hb.cell (p := ⟨g, i * 513 + j, none⟩) (by show g < B'; omega)).trans (hr j u hj)⟩
theorem WaitsIn.more {w : World} {B B' : Nat} {v : Value} {ws : List WaitD} (h : WaitsIn w B v ws) (hB : B ≤ B') : WaitsIn w B' v ws := by
 obtain ⟨h0, h1, a, cap, e, h2⟩ := h
 refine ⟨h0, h1, a, cap, e, fun i y hi => ?_⟩
 obtain ⟨g, e2, hg, hr⟩ := h2 i y hi
 exact ⟨g, e2, by omega, hr⟩
theorem waitCells_at : ∀ (ws : List WaitD), (∀ y ∈ ws, y.b.length = 512) → ∀ (i : Nat) (y : WaitD), ws[i]? = some y → ∀ j u, y.cells[j]? = some u → (waitCells ws)[i * 513 + j]? = some u
 | [], _, i, y, h, _, _, _ => by cases h
 | z :: ws, hws, 0, y, h, j, u, hj => by
  obtain rfl : z = y := by simpa using h
  show (z.cells ++ waitCells ws)[0 * 513 + j]? = some u
  rw [Nat.zero_mul, Nat.zero_add, List.getElem?_append_left (List.getElem?_eq_some_iff.1 hj).1]
  exact hj
 | z :: ws, hws, i + 1, y, h, j, u, hj => by
  have hz := WaitD.len z (hws z List.mem_cons_self)
  show (z.cells ++ waitCells ws)[(i + 1) * 513 + j]? = some u
  rw [List.getElem?_append_right (by omega), hz, show (i + 1) * 513 + j - 513 = i * 513 + j by omega]
  exact waitCells_at ws (fun y hy => hws y (List.mem_cons_of_mem _ hy)) i y (by simpa using h) j u hj
/-- the lengths are right -/
def DiskD.sound (x : DiskD) : Prop := (∀ n, (x.lasts n).length = 512) ∧ (∀ y ∈ x.waits, y.b.length = 512) ∧ x.waits.length ≤ 1000000
theorem DiskD.ok.sound {x : DiskD} (hx : x.ok) : x.sound := ⟨hx.2.2.1, hx.2.2.2.1, hx.2.2.2.2.2.2⟩
theorem DiskAt.waitsIn {w : World} {D : DiskP} {x : DiskD} (h : DiskAt w D x) (hx : x.sound) : WaitsIn w w.heap.size D.wv x.waits := by
 refine ⟨hx.2.2, hx.2.1, ?_⟩
 rcases h.waits.2 with ⟨e, h0⟩ | ⟨g, cap, cur, e, _, hg, h1, h2, h3, h4⟩
 ·have : x.waits = [] := List.eq_nil_of_length_eq_zero h0
  rw [this]
  exact ⟨none, 0, e, fun i y hi => by cases hi⟩
 ·refine ⟨some ⟨g, 0, none⟩, cap, e, fun i y hi => ⟨g, rfl, lt_of_block hg, fun j u hj => ?_⟩⟩
  have hc := waitCells_at x.waits hx.2.1 i y hi j u hj
  rw [cell_of_row w g _ cur _ _ hg, ← Array.getElem?_toList]
  rw [← h4, List.getElem?_take] at hc
  split at hc
  ·exact hc
  ·cases hc

theorem size_wait : (Tryz.prog.info? 130).map (·.size) = some 513 := by kernel_rfl
theorem wpIn_load_is {F : Fence} {n : Nat} {P : Program} {o : Oper} {a : Act} {K : Act → World → Prop} {Q : Exit → Act → World → Prop} (w : World) (ty : TypeId) (x : Operand) (ho : o.op = .load ty x) (p v : Value) (hx : a.eval x = p)
  (hl : (Instr.loadAt ty p).run P w = .ok v w) (h : K (a.put o.dst v) w) : o.wpIn F n P a w K Q := by
 unfold Oper.wpIn
 refine ⟨by simp [Oper.about, ho], ?_⟩
 rw [Oper.semAt_plain F _ _ (by rw [ho]; intro c hc'; cases hc')]
 unfold execOp
 simp only [ho, hx, hl, Sem.run_bind, Sem.run_pure, Result.andThen_ok]
 exact h
/-- a write that waits, whose sector is one -/
abbrev WaitS := { y : WaitD // y.b.length = 512 }
theorem waitS_of : ∀ (ws : List WaitD), (∀ y ∈ ws, y.b.length = 512) → ∃ l : List WaitS, ws = l.map (·.1)
 | [], _ => ⟨[], rfl⟩
 | y :: ws, h => by
  obtain ⟨l, e⟩ := waitS_of ws (fun z hz => h z (List.mem_cons_of_mem _ hz))
  exact ⟨⟨y, h y List.mem_cons_self⟩ :: l, congrArg (y :: ·) e⟩
def backL (ws : List WaitS) : List (WaitS × Nat) := ws.zipIdx.reverse
def vb (x : WaitS × Nat) : Array Value := #[.int .i64 x.2, .agg x.1.1.cells.toArray]
theorem backL_len (ws : List WaitS) : (backL ws).length = ws.length := by simp [backL]
theorem backL_at (ws : List WaitS) (k : Nat) (hk : k < ws.length) : (backL ws)[ws.length - (k + 1)]? = some (ws[k]'hk, k) := by
 unfold backL
 rw [List.getElem?_reverse (by simp; omega)]
 simp only [List.length_zipIdx]
 rw [show ws.length - 1 - (ws.length - (k + 1)) = k by omega, List.getElem?_zipIdx]
 simp [hk]
theorem backL_take (ws : List WaitS) (k : Nat) (hk : k < ws.length) : (backL ws).take (ws.length - k) = (backL ws).take (ws.length - (k + 1)) ++ [(ws[k]'hk, k)] := by
 rw [show ws.length - k = ws.length - (k + 1) + 1 by omega, List.take_add_one, backL_at ws k hk]
 rfl

set_option maxRecDepth 100000 in
set_option maxHeartbeats 2000000 in
theorem back1_in (F : Fence) (n : Nat) (h7 : F.fn 141) (hro : F.round = none) (hn : 1 ≤ n) (l Bs n₀ : Nat) (v : Value) (ws : List WaitS) (J Jx : List (WaitS × Nat) → World → Prop)
  (hY : ∀ pre x W, J pre W → pre.length < ws.length → YieldAt F (n - 1) Tryz.prog l (vb x) W fun e W' =>
   (e = .returned (.bool true) ∧ J (pre ++ [x]) W' ∧ Below n₀ W W') ∨ (e = .returned (.bool false) ∧ Jx (pre ++ [x]) W'))
  (W : World) (hBs : W.cell? ⟨Bs, 0, none⟩ = some v) (hBn : Bs < n₀) (hv : WaitsIn W n₀ v (ws.map (·.1))) (h0 : J [] W) :
  CallsIn F n Tryz.prog 141 #[.func (.yield l) #[] #[], .pointer (some ⟨Bs, 0, none⟩)] W fun e W' => (∃ v, e = .returned v) ∧
   ((∃ ys, ys = backL ws ∧ J ys W') ∨ (∃ pre, pre <+: backL ws ∧ Jx pre W')) := by
 obtain ⟨hmax, hws, a, cap, ev, hc⟩ := hv
 rw [List.length_map] at hmax ev
 subst ev
 refine callsIn_of_wp Tryz.func141 rfl h7 ?_ hro
 simp only [Tryz.ntmps141, List.size_toArray, List.length_cons, List.length_nil, Nat.reduceAdd, Nat.reduceSub, Array.replicate_succ, Array.replicate_zero, List.push_toArray, List.append_toArray, List.nil_append, List.cons_append]
 have hsub : IntKind.i64.wrap ((ws.length : Int) - 1) = (ws.length : Int) - 1 := by rw [IntKind.wrap_i64]; omega
 gi_wp2
 gi_loopw [3] (fun i wr => ∃ k : Nat, k ≤ ws.length ∧ i = .int .i64 ((k : Int) - 1) ∧ J ((backL ws).take (ws.length - k)) wr ∧ Below n₀ W wr)
  (fun i _ => ((intOf i) + 1).toNat)
 case atStart => exact ⟨ws.length, Nat.le_refl _, rfl, by rw [Nat.sub_self]; exact h0, Below.refl _ _⟩
 case round =>
  obtain ⟨k, hk, rfl, hJs, hnx⟩ := hrel
  have hBs' := (hnx.cell (p := ⟨Bs, 0, none⟩) hBn).trans hBs
  cases k with
  | zero =>
   rw [show ws.length - 0 = (backL ws).length by rw [backL_len]; rfl, List.take_length] at hJs
   have hneg : ¬ (0 : Int) ≤ ((0 : Nat) : Int) - 1 := by omega
   gi_wp2
   go_end0
   exact ⟨⟨_, rfl⟩, .inl hJs⟩
  | succ k =>
   have hlt : k < ws.length := by omega
   obtain ⟨g, rfl, hg, hrg⟩ := hc k (ws[k]'hlt).1 (by rw [List.getElem?_map, List.getElem?_eq_getElem hlt]; rfl)
   have e1 : (((k + 1 : Nat) : Int) - 1) = (k : Int) := by omega
   rw [e1]
   have hpos : (0 : Int) ≤ (k : Int) := by omega
   have hlt' : (k : Int) < (ws.length : Int) := by omega
   have hsub2 : IntKind.i64.wrap ((k : Int) - 1) = (k : Int) - 1 := by rw [IntKind.wrap_i64]; omega
   have hlen1 : ((backL ws).take (ws.length - (k + 1))).length < ws.length := by rw [List.length_take, backL_len]; omega
   obtain ⟨fn, tmps, assign, body, hy, hR⟩ := hY _ (ws[k]'hlt, k) wr hJs hlen1
   have hld := run_loadAt_mid (P := Tryz.prog) wr g (k * 513) 130 (ws[k]'hlt).1.cells _ (fun j u hj => (hnx.cell (p := ⟨g, k * 513 + j, none⟩) hg).trans (hrg j u hj)) Tryz.underlying130 rfl (by rw [WaitD.len _ (ws[k]'hlt).2]; exact size_wait)
   have hLT := backL_take ws k hlt
   generalize ws[k]'hlt = y at *
   simp only [vb] at hy
   gi_wp2_with (refine wpIn_load_is _ 130 _ rfl _ _ rfl hld ?_)
   refine hR.mono ?_
   rintro e W3 (⟨rfl, hJ3, hk3⟩ | ⟨rfl, hJx3⟩)
   ·gi_wp2
    go_roundw
    case rel => exact ⟨k, by omega, rfl, by rw [hLT]; exact hJ3, hnx.trans hk3⟩
    case measure => simp [intOf]
   ·gi_wp2
    refine bodyPost_ret (results_none rfl _ _ _) rfl ?_
    exact ⟨⟨_, rfl⟩, (.inr ⟨_, by rw [← hLT]; exact List.take_prefix _ _, hJx3⟩)⟩

set_option maxHeartbeats 1000000 in
theorem back_in (F : Fence) (n : Nat) (h5 : F.fn 128) (hro : F.round = none) (a : Option Addr) (len cap : Nat) (w : World) :
  CallsIn F n Tryz.prog 128 #[.slice a len cap] w fun e w' => e = .returned (.func (.func 141) #[] #[.pointer (some ⟨w.heap.size, 0, none⟩)]) ∧ w' = w.alloc (.cells #[.slice a len cap] 113) := by
 refine callsIn_of_wp Tryz.func128 rfl h5 ?_ hro
 simp only [Tryz.ntmps128, List.size_toArray, List.length_cons, List.length_nil, Nat.reduceAdd, Nat.reduceSub, Array.replicate_succ, Array.replicate_zero, List.push_toArray, List.append_toArray, List.nil_append, List.cons_append]
 gi_wp2
 go_ret
 exact ⟨rfl, rfl⟩

theorem back_stops (F : Fence) (n : Nat) (h7 : F.fn 141) (hro : F.round = none) (hn : 1 ≤ n) (Bs n₀ : Nat) (v : Value) (ws : List WaitS) (w : World) (hBs : Bs < w.heap.size) (hBn : Bs < n₀) (hn₀ : n₀ ≤ w.heap.size)
  (hc : w.cell? ⟨Bs, 0, none⟩ = some v) (hv : WaitsIn w n₀ v (ws.map (·.1))) :
  SeqStopsK F n Tryz.prog 141 #[.pointer (some ⟨Bs, 0, none⟩)] vb (Below n₀) (fun ys => ys = backL ws) (fun pre => pre <+: backL ws) ws.length w := fun l J Jx W hW _ _ hY h0 =>
 back1_in F n h7 hro hn l Bs n₀ v ws J Jx hY W ((hW.cell (p := ⟨Bs, 0, none⟩) hBs).trans hc) hBn (hv.below hW hn₀) h0
end Go.Proofs.YtemcgfncahccgaaGreat
