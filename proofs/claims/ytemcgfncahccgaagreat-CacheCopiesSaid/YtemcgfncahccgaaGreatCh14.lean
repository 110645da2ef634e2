/-
  The two functions named given, deferred: what they do where the frame returns, and where it panics.
  What codec.Get reads out of a sector's bytes; objects that are set part by part.
  What is at hand of a cache, as data; rows of structs that are read, and grow.
-/
import Derived.Defers
import Derived.Recover
import Derived.Maps.AppendAt
import Derived.Test.YtemcgfncahccgaaGreatCh10
import Derived.Test.YtemcgfncahccgaaGreatCh11
import Derived.Test.YtemcgfncahccgaaGreatCh13
set_option linter.unusedVariables false
set_option linter.unusedSimpArgs false
namespace Go.Proofs.YtemcgfncahccgaaGreat
open Go.RowKit

theorem cgiven_idle (p : Addr) (w : World) :
  CallsD Tryz.prog 103 #[.pointer (some p)] .returning w fun e u' w' => e = .returned (.tuple #[]) ∧ u' = .returning ∧ w' = w := by
 refine callsD_of_wpS Tryz.func103 rfl fun c₀ cs hu => ?_
 apply wpS_seq
 apply wpS_region
 simp [wpOpsS, go_sem, recoverD, hu, Tryz.ntmps103, Exit.thenS]
 refine wpS_of_wp ?_
 go_wp2_with fail
 cases c₀
 simp_all [bodyPostS, results, Tryz.results103]
set_option maxRecDepth 100000 in
set_option maxHeartbeats 2000000 in
theorem cgiven_panicking (g : Nat) (t : TypeId) (x : Int) (w : World) (hb : Blk w g t #[.int .i64 x]) :
  CallsD Tryz.prog 103 #[ptr g] (.panicking cfailC) w fun e u' w' => e = .returned (.tuple #[]) ∧ u' = .panicking [{ v := .iface 212 (.agg #[]), recovered := true }] ∧ w' = (w.setCell ⟨g, 0, none⟩ (.int .i64 151)).alloc (.cells #[] 212) := by
 have hb2 := hb.alloc (.cells #[] 212)
 have hc := hb2.cell_is 0 rfl
 have hz := hb2.frozen 0
 have hlt := hb.lt
 unfold ptr
 clear hb hb2
 refine callsD_of_wpS Tryz.func103 rfl fun c₀ cs hu => ?_
 unfold cfailC at hu
 have hta : (Instr.typeAssert (.iface 212 (.agg #[])) 20 212 true).run Tryz.prog w = .ok (.tuple #[.agg #[], .bool true]) w := by kernel_rfl
 apply wpS_seq
 apply wpS_region
 simp [wpOpsS, go_sem, recoverD, hu, Tryz.ntmps103, Exit.thenS]
 rw [show (Array.replicate 12 undef : Array Value) = #[undef, undef, undef, undef, undef, undef, undef, undef, undef, undef, undef, undef] from rfl]
 simp only [List.setIfInBounds_toArray, List.set_cons_zero, List.set_cons_succ, List.append_toArray, List.cons_append, List.nil_append]
 refine wpS_of_wp ?_
 go_wp2_with fail
 cases c₀
 simp_all [bodyPostS, results, Tryz.results103]
def objZ : ObjD := ⟨0, 0, 0, slotsZ, bytesZ⟩
theorem objZ_ok : objZ.ok := ⟨rfl, rfl⟩
theorem zeroObj : Tryz.zeroCells47 = objZ.cells.toArray := by kernel_rfl
theorem objZ_info : (Tryz.prog.info? 47).map (·.size) = some Tryz.zeroCells47.size := by kernel_rfl
theorem objZ_one : Tryz.zeroCells47.all (·.oneCell') = true := by kernel_rfl
set_option maxRecDepth 100000 in
set_option maxHeartbeats 1000000 in
/-- Get's own deferred closure, where there is an error: the object is nought -/
theorem cundo_yes (g5 g4 : Nat) (t t4 : TypeId) (c : Int) (hc0 : c ≠ 0) (o : ObjD) (ho : o.ok) (u : FrameMode) (w : World) (h5 : Blk w g5 t #[.int .i64 c]) (h4 : Blk w g4 t4 o.cells.toArray) :
  CallsD Tryz.prog 102 #[ptr g5, ptr g4] u w fun e u' w' => u' = u ∧ (e = .returned (.tuple #[]) ∧ w' = w.setRow g4 objZ.cells.toArray) := by
 have hc := h5.cell_is 0 rfl
 have hn : (c != 0) = true := by simpa using hc0
 have hsz : o.cells.toArray.size = Tryz.zeroCells47.size := by rw [zeroObj, List.size_toArray, List.size_toArray, ObjD.len ho]; rfl
 rw [← zeroObj]
 unfold ptr
 go_enter_d Tryz.func102, Tryz.ntmps102
 go_wp2_with (refine wpList_store_row rfl 47 _ _ rfl g4 Tryz.zeroCells47 rfl rfl t4 _ h4 objZ_info hsz objZ_one ?_)
 exact bodyPost_end (v := .tuple #[]) (by simp [results, Tryz.results102, go_sem]) rfl ⟨rfl, rfl⟩
theorem cundo_no (g5 g4 : Nat) (t : TypeId) (u : FrameMode) (w : World) (h5 : Blk w g5 t #[.int .i64 0]) :
  CallsD Tryz.prog 102 #[ptr g5, ptr g4] u w fun e u' w' => u' = u ∧ (e = .returned (.tuple #[]) ∧ w' = w) := by
 have hc := h5.cell_is 0 rfl
 unfold ptr
 go_enter_d Tryz.func102, Tryz.ntmps102
 go_wp2_with fail
 exact bodyPost_end (v := .tuple #[]) (by simp [results, Tryz.results102, go_sem]) rfl ⟨rfl, rfl⟩
end Go.Proofs.YtemcgfncahccgaaGreat
namespace Go.Proofs.YtemcgfncahccgaaGreat
open Go.RowKit

def okK (x : KeyD) : Bool := ofB x.k x.o x.c x.a x.r x.v
/-- the object of 508 bytes -/
def objOf (l : List UInt8) : ObjD := ⟨leN ((l.drop 0).take 4), leN ((l.drop 4).take 4), leN ((l.drop 8).take 4), (List.range 16).map fun i => keyOf (l.drop (12 + 20 * i)), (l.drop 332).take 64⟩
def slotsTo (l : List UInt8) (j : Nat) : List KeyD := (List.range 16).map fun i => if i < j then keyOf (l.drop (12 + 20 * i)) else keyZ
def objTo (l : List UInt8) (j : Nat) : ObjD := ⟨leN ((l.drop 0).take 4), leN ((l.drop 4).take 4), leN ((l.drop 8).take 4), slotsTo l j, bytesZ⟩
def codeB (l : List UInt8) (n : Int) : Bool := ((List.range 16).all fun i => okK (keyOf (l.drop (12 + 20 * i)))) && ((l.drop 396).all (· == 0) && objB (objOf l) n)
def getE (b : List UInt8) (n : Int) : Int := if n < 1 ∨ 64 < n then 2 else if sealedB b then if codeB (b.take 508) n then 0 else 151 else 150
def getO (b : List UInt8) (n : Int) : ObjD := if getE b n = 0 then objOf (b.take 508) else objZ
theorem slotsTo_len (l : List UInt8) (j : Nat) : (slotsTo l j).length = 16 := by simp [slotsTo]
theorem slotsTo_zero (l : List UInt8) : slotsTo l 0 = slotsZ := by
 unfold slotsTo slotsZ
 simp only [Nat.not_lt_zero, if_false]
 exact List.map_const' ..
theorem slotsTo_set (l : List UInt8) (j : Nat) : (slotsTo l j).set j (keyOf (l.drop (12 + 20 * j))) = slotsTo l (j + 1) := by
 apply List.ext_getElem
 ·simp [slotsTo]
 ·intro i h1 h2
  rw [List.getElem_set]
  simp only [slotsTo, List.getElem_map, List.getElem_range]
  by_cases h : j = i
  ·subst h; simp
  ·rw [if_neg h]
   by_cases h3 : i < j
   ·rw [if_pos h3, if_pos (by omega)]
   ·rw [if_neg h3, if_neg (by omega)]
theorem slotsTo_all (l : List UInt8) : slotsTo l 16 = (objOf l).slots := by
 unfold slotsTo objOf
 apply List.ext_getElem
 ·simp
 ·intro i h1 h2
  simp only [List.getElem_map, List.getElem_range]
  simp at h1
  rw [if_pos h1]
theorem objOf_ok (l : List UInt8) (h : l.length = 508) : (objOf l).ok := ⟨by simp [objOf], by simp [objOf, h]⟩
theorem objTo_ok (l : List UInt8) (j : Nat) : (objTo l j).ok := ⟨slotsTo_len l j, rfl⟩
theorem obj_set0 (o : ObjD) (x : Int) : o.cells.toArray.setIfInBounds 0 (.int .i64 x) = ({ o with kd := x } : ObjD).cells.toArray := by simp [ObjD.cells]
theorem obj_set1 (o : ObjD) (x : Int) : o.cells.toArray.setIfInBounds 1 (.int .i64 x) = ({ o with ct := x } : ObjD).cells.toArray := by simp [ObjD.cells]
theorem obj_set2 (o : ObjD) (x : Int) : o.cells.toArray.setIfInBounds 2 (.int .i64 x) = ({ o with cl := x } : ObjD).cells.toArray := by simp [ObjD.cells]
theorem slotCells_app (a b : List KeyD) : slotCells (a ++ b) = slotCells a ++ slotCells b := by simp [slotCells]
theorem obj_slot_set (o : ObjD) (j : Nat) (x : KeyD) (hj : j < o.slots.length) :
  o.cells.take (3 + j * 6) ++ x.cells ++ o.cells.drop (3 + j * 6 + x.cells.length) = ({ o with slots := o.slots.set j x } : ObjD).cells := by
 obtain ⟨kd, ct, cl, slots, bytes⟩ := o
 simp only at hj ⊢
 have hs : slots = slots.take j ++ slots[j] :: slots.drop (j + 1) := by rw [← List.drop_eq_getElem_cons hj, List.take_append_drop]
 have hl : (slots.take j).length = j := by rw [List.length_take]; omega
 generalize slots[j] = y at hs
 generalize slots.take j = A at hs hl
 generalize slots.drop (j + 1) = C at hs
 subst hs hl
 have hset : (A ++ y :: C).set A.length x = A ++ x :: C := by simp
 rw [hset]
 unfold ObjD.cells
 simp only
 have e1 : ∀ z : KeyD, slotCells (A ++ z :: C) = slotCells A ++ (z.cells ++ slotCells C) := fun z => by rw [slotCells_app]; rfl
 rw [e1, e1]
 have hA : (slotCells A).length = A.length * 6 := by rw [slotCells_len]; omega
 have hT : ([Value.int IntKind.i64 kd, .int .i64 ct, .int .i64 cl] ++ slotCells A).length = 3 + A.length * 6 := by simp [hA]; omega
 generalize hTT : [Value.int IntKind.i64 kd, .int .i64 ct, .int .i64 cl] = T at *
 have hy : y.cells.length = x.cells.length := rfl
 rw [show T ++ (slotCells A ++ (y.cells ++ slotCells C) ++ bytes.map vu8) = (T ++ slotCells A) ++ (y.cells ++ (slotCells C ++ bytes.map vu8)) by simp]
 rw [List.take_left' hT, List.drop_append, List.drop_eq_nil_of_le (by rw [hT]; omega), hT, Nat.add_sub_cancel_left, ← hy, List.drop_left]
 simp
theorem obj_bytes_set (o : ObjD) (ho : o.ok) (l : List UInt8) (hl : l.length = 64) :
  o.cells.take 99 ++ l.map vu8 ++ o.cells.drop (99 + (l.map vu8).length) = ({ o with bytes := l } : ObjD).cells := by
 have h0 := ObjD.len ho
 rw [List.length_map, hl, List.drop_eq_nil_of_le (by rw [h0]; omega), List.append_nil]
 unfold ObjD.cells
 have h1 : ([Value.int IntKind.i64 o.kd, .int .i64 o.ct, .int .i64 o.cl] ++ slotCells o.slots).length = 99 := by rw [List.length_append, slotCells_len, ho.1]; rfl
 rw [← List.append_assoc, List.take_left' h1, List.append_assoc]
theorem setCells_blk (g : Nat) (t : TypeId) : ∀ (vs : List Value) (o : Nat) (w : World) (cs : Array Value), Blk w g t cs → o + vs.length ≤ cs.size →
  Blk (w.setCells g o vs) g t (cs.toList.take o ++ vs ++ cs.toList.drop (o + vs.length)).toArray
 | [], o, w, cs, h, _ => by
  have e : (cs.toList.take o ++ [] ++ cs.toList.drop (o + 0)).toArray = cs := by simp
  simp only [List.length_nil]
  rw [e]
  exact h
 | v :: r, o, w, cs, h, hs => by
  simp only [List.length_cons] at hs
  have ih := setCells_blk g t r (o + 1) (w.setCell ⟨g, o, none⟩ v) _ (h.set_ o v) (by simp; omega)
  have e : ((cs.setIfInBounds o v).toList.take (o + 1) ++ r ++ (cs.setIfInBounds o v).toList.drop (o + 1 + r.length)) = cs.toList.take o ++ (v :: r) ++ cs.toList.drop (o + (v :: r).length) := by
   rw [Array.toList_setIfInBounds]
   generalize hc : cs.toList = l
   have hl : o < l.length := by rw [← hc]; simp; omega
   rw [List.take_set, List.drop_set_of_lt (by omega)]
   have h1 : (l.take (o + 1)).set o v = l.take o ++ [v] := by
    have h2 : (l.take o).length = o := by rw [List.length_take]; omega
    rw [List.take_add_one, List.getElem?_eq_getElem hl, List.set_append_right _ _ (by omega), h2, Nat.sub_self]
    rfl
   rw [h1]
   simp only [List.length_cons, List.append_assoc, List.cons_append, List.nil_append]
   rw [show o + 1 + r.length = o + (r.length + 1) by omega]
  rw [← e]
  exact ih
theorem obj_next {w : World} {g : Nat} {t : TypeId} {l : List UInt8} {j : Nat} (hj : j < 16) {X : Array Value} (eX : X = (keyOf (l.drop (12 + 20 * j))).cells.toArray) (h : Blk w g t (objTo l j).cells.toArray) :
  Blk (w.setCells g (3 + j * 6) X.toList) g t (objTo l (j + 1)).cells.toArray := by
 have h6 : X.toList.length = 6 := by rw [eX]; rfl
 have h1 := setCells_blk g t X.toList (3 + j * 6) w _ h (by rw [List.size_toArray, ObjD.len (objTo_ok l j), h6]; omega)
 have e1 : X.toList = (keyOf (l.drop (12 + 20 * j))).cells := by rw [eX]
 rw [e1] at h1 ⊢
 rw [List.toList_toArray, obj_slot_set (objTo l j) j (keyOf (l.drop (12 + 20 * j))) (by show j < (slotsTo l j).length; rw [slotsTo_len]; exact hj)] at h1
 have e2 : ({ objTo l j with slots := (objTo l j).slots.set j (keyOf (l.drop (12 + 20 * j))) } : ObjD) = objTo l (j + 1) := by
  unfold objTo
  simp only
  rw [slotsTo_set]
 rw [e2] at h1
 exact h1
theorem obj_whole (l : List UInt8) (h : l.length = 508) : (objTo l 16).cells.take 99 ++ ((l.drop 332).take 64).map vu8 ++ (objTo l 16).cells.drop (99 + (((l.drop 332).take 64).map vu8).length) = (objOf l).cells := by
 rw [obj_bytes_set _ (objTo_ok l 16) _ (by simp [h])]
 unfold objTo
 simp only
 rw [slotsTo_all]
 rfl
theorem copy_page {W : World} {g : Nat} {l : List UInt8} (hl : l.length = 508) (hb : Blk W g 47 (objTo l 16).cells.toArray) {B cap : Nat} {a : Option Addr} (hv : BytesIn W B (.slice a 64 cap) ((l.drop 332).take 64)) (ty : TypeId) :
  ∃ w', (Builtin.copy_ #[29, 29] ty #[.slice (some ⟨g, 99, none⟩) 64 64, .slice a 64 cap]).run Tryz.prog W = .ok (goInt 64) w' ∧ Blk w' g 47 (objOf l).cells.toArray ∧ Out (fun i => i = g) W w' := by
 obtain ⟨_, a', cap2, e, hcap, hc⟩ := hv
 injection e with e1 e2 e3
 subst e1
 have h64 : ((l.drop 332).take 64).length = 64 := by simp [hl]
 obtain ⟨c0, hc0⟩ : ∃ c, ((l.drop 332).take 64)[0]? = some c := ⟨_, List.getElem?_eq_getElem (by rw [h64]; decide)⟩
 obtain ⟨g0, off, rfl, _, _⟩ := hc 0 c0 hc0
 have hsrc : ∀ j u, (((l.drop 332).take 64).map vu8)[j]? = some u → W.cell? ((⟨g0, off, none⟩ : Addr).add j) = some u := by
  intro j u hj
  rw [List.getElem?_map] at hj
  obtain ⟨c, hcj, rfl⟩ := Option.map_eq_some_iff.1 hj
  obtain ⟨g', off', h, _, hcell⟩ := hc j c hcj
  injection h with h
  injection h with h1 h2
  subst h1 h2
  rw [add_at]
  exact hcell
 have hr := run_copy_row (P := Tryz.prog) W 29 29 ty 5 g 99 64 64 ⟨g0, off, none⟩ 64 cap (objTo l 16).cells.toArray 47 (((l.drop 332).take 64).map vu8) Tryz.underlying29 (by kernel_rfl) hb (by rw [List.length_map, h64]; rfl) hsrc (by rw [List.length_map, h64, List.size_toArray, ObjD.len (objTo_ok l 16)]; decide) (sector_one _)
 rw [List.toList_toArray, obj_whole l hl, List.length_map, h64] at hr
 exact ⟨_, hr, hb.row _, out_row _ rfl⟩
theorem obj_one (o : ObjD) (v : Value) (hv : v ∈ o.cells) : v.oneCell' = true := by
 unfold ObjD.cells at hv
 rcases List.mem_append.1 hv with h | h
 ·simp only [List.mem_cons, List.not_mem_nil, or_false] at h
  rcases h with rfl | rfl | rfl <;> rfl
 ·rcases List.mem_append.1 h with h | h
  ·obtain ⟨x, _, hx⟩ := List.mem_flatMap.1 h
   simp only [KeyD.cells, List.mem_cons, List.not_mem_nil, or_false] at hx
   rcases hx with rfl | rfl | rfl | rfl | rfl | rfl <;> rfl
  ·exact sector_one _ v h
theorem out_setCells {F : Nat → Prop} (g : Nat) (hg : F g) : ∀ (vs : List Value) (o : Nat) (w : World), Out F w (w.setCells g o vs)
 | [], _, w => Out.refl _ _
 | v :: r, o, w => (out_set hg).trans (out_setCells g hg r (o + 1) _) (fun _ _ h => h)
theorem there_blk {w : World} {g : Nat} {t : TypeId} {cs : Array Value} (h : Blk w g t cs) (o n : Nat) (hn : o + n ≤ cs.size) : w.there g o n := fun j hj => by
 refine ⟨?_, h.frozen _⟩
 rw [h.cell, Array.getElem?_eq_getElem (by omega)]
 rfl
theorem results_row_cell {P : Program} {fn : Func} {p q : Tmp} {ty te : TypeId} (h : fn.results = #[.cell p ty, .cell q te]) (tmps : Array Value) (w : World) (g : Nat) (t : TypeId) (cs : Array Value) (fr : Nat × Nat) (d : TypeDesc)
  (hp : tmps.getD p undef = .pointer (some ⟨g, 0, none⟩)) (hg : w.heap[g]? = some (.cells cs t fr))
  (hu : P.underlying ty = some d) (hd : (match d with | .struct _ | .array _ _ => true | _ => false) = true) (hi : (P.info? ty).map (·.size) = some cs.size) (a : Addr) (v : Value) (hq : tmps.getD q undef = .pointer (some a)) (hv : (loadVar te a).run P w = .ok v w) :
  (results fn tmps).run P w = .ok (.tuple #[.agg cs, v]) w := by
 have hp' : tmps[p]?.getD undef = .pointer (some ⟨g, 0, none⟩) := by simpa using hp
 have hq' : tmps[q]?.getD undef = .pointer (some a) := by simpa using hq
 simp [results, h, hp', hq', asAddr, run_loadVar_row w g t ty cs fr d hg hu hd hi, hv]
theorem load_errno (w : World) (g : Nat) (t : TypeId) (x : Int) (h : Blk w g t #[.int .i64 x]) : (loadVar 36 ⟨g, 0, none⟩).run Tryz.prog w = .ok (.int .i64 x) w := by
 have c := h.cell_is 0 rfl
 simp [loadVar, c, go_sem]
theorem Blk.row_far {w : World} {g g' : Nat} {t : TypeId} {cs : Array Value} (h : Blk w g t cs) (cs' : Array Value) (hg : g ≠ g') : Blk (w.setRow g' cs') g t cs := (setRow_other w g' g cs' hg).trans h
/-- where Get stands while it reads -/
structure GetInv (w : World) (G B : Nat) (W : World) (v : Value) (rest : List UInt8) (o : ObjD) : Prop where
 obj : Blk W (w.heap.size + 1) 47 o.cells.toArray
 err : Blk W (w.heap.size + 2) 36 #[.int .i64 0]
 box : Blk W G 181 #[v]
 bytes : BytesIn W B v rest
 below : Below w.heap.size w W
 big : w.heap.size + 3 ≤ B
 bg : B ≤ G
 lo : ∀ g, blockOf v = some g → w.heap.size + 3 ≤ g
section
variable {w W W' : World} {G B : Nat} {v v' : Value} {rest rest' : List UInt8} {o o' : ObjD}
theorem GetInv.take (h : GetInv w G B W v rest o) (ho : Out (fun i => i = G) W W') (hb : Blk W' G 181 #[v']) (hv : BytesIn W' B v' rest') (hq : blockOf v' = blockOf v) : GetInv w G B W' v' rest' o := by
 have h1 := h.big
 have h2 := h.bg
 exact ⟨ho.blk h.obj (by omega), ho.blk h.err (by omega), hb, hv, h.below.trans (ho.below (by have := h.below.size; omega) (fun i hi e => by omega)), h1, h2, fun g hg => h.lo g (hq ▸ hg)⟩
theorem GetInv.set_ (h : GetInv w G B W v rest o) (ho : Out (fun i => i = w.heap.size + 1) W W') (hb : Blk W' (w.heap.size + 1) 47 o'.cells.toArray) : GetInv w G B W' v rest o' := by
 have h1 := h.big
 have h2 := h.bg
 have h3 := h.box.lt
 exact ⟨hb, ho.blk h.err (by omega), ho.blk h.box (by omega), h.bytes.out ho (by omega) (fun g hg e => by have := h.lo g hg; omega), h.below.trans (ho.below (by have := h.below.size; omega) (fun i hi e => by omega)), h1, h2, h.lo⟩
theorem GetInv.number {l : List UInt8} (i : Nat) (h : GetInv w G B W v (l.drop i) o) (k : Nat) (hk : k ≤ 8) (hi : i + k ≤ l.length) :
  Calls Tryz.prog 104 #[.pointer (some ⟨G, 0, none⟩), .int .i64 (k : Int)] W fun e W' => e = .returned (.int .u64 (leN ((l.drop i).take k) : Nat)) ∧ ∃ v', GetInv w G B W' v' (l.drop (i + k)) o := by
 refine (rnumber_any G B v (l.drop i) k hk (by rw [List.length_drop]; omega) W h.box h.bytes h.bg).mono ?_
 rintro e W' ⟨rfl, ⟨v', hb, hv, hq⟩, ho⟩
 refine ⟨rfl, v', ?_⟩
 rw [List.drop_drop] at hv
 exact h.take ho hb hv hq
theorem GetInv.far (h : GetInv w G B W v rest o) (hb : Below W.heap.size W W') : GetInv w G B W' v rest o := by
 have h2 := h.bg
 have h3 := h.box.lt
 exact ⟨h.obj.below hb h.obj.lt, h.err.below hb h.err.lt, h.box.below hb h3, h.bytes.below hb (by omega), h.below.trans (hb.mono h.below.size), h.big, h2, h.lo⟩
end
end Go.Proofs.YtemcgfncahccgaaGreat
namespace Go.Proofs.YtemcgfncahccgaaGreat
open Go.RowKit

/-- an object at hand -/
structure ItemD where
 oid : Int
 o : ObjD
 ch : Bool
def ItemD.cells (x : ItemD) : List Value := .int .i64 x.oid :: (x.o.cells ++ [.bool x.ch])
def itemCells (l : List ItemD) : List Value := l.flatMap ItemD.cells
theorem ItemD.len (x : ItemD) (h : x.o.ok) : x.cells.length = 165 := by
 show (x.o.cells ++ [Value.bool x.ch]).length + 1 = 165
 rw [List.length_append, ObjD.len h]
 rfl
theorem ItemD.cell0 (x : ItemD) : x.cells[0]? = some (.int .i64 x.oid) := rfl
theorem ItemD.cellO (x : ItemD) (h : x.o.ok) (j : Nat) (v : Value) (hj : x.o.cells[j]? = some v) : x.cells[1 + j]? = some v := by
 show (Value.int .i64 x.oid :: (x.o.cells ++ [Value.bool x.ch]))[1 + j]? = some v
 rw [Nat.add_comm, List.getElem?_cons_succ, List.getElem?_append_left (List.getElem?_eq_some_iff.1 hj).1]
 exact hj
theorem ItemD.cell164 (x : ItemD) (h : x.o.ok) : x.cells[164]? = some (.bool x.ch) := by
 show (Value.int .i64 x.oid :: (x.o.cells ++ [Value.bool x.ch]))[163 + 1]? = _
 rw [List.getElem?_cons_succ, List.getElem?_append_right (by rw [ObjD.len h]; exact Nat.le_refl _), ObjD.len h]
 rfl
theorem item_one (x : ItemD) : ∀ v ∈ x.cells, v.oneCell' = true := by
 intro v hv
 rcases List.mem_cons.1 hv with rfl | hv
 ·rfl
 ·rcases List.mem_append.1 hv with hv | hv
  ·exact obj_one _ v hv
  ·rw [List.mem_singleton.1 hv]; rfl
theorem itemCells_at : ∀ (l : List ItemD), (∀ x ∈ l, x.o.ok) → ∀ (i : Nat) (y : ItemD), l[i]? = some y → ∀ j u, y.cells[j]? = some u → (itemCells l)[i * 165 + j]? = some u
 | [], _, i, y, h, _, _, _ => by cases h
 | z :: l, hl, 0, y, h, j, u, hj => by
  obtain rfl : z = y := by simpa using h
  show (z.cells ++ itemCells l)[0 * 165 + j]? = some u
  rw [Nat.zero_mul, Nat.zero_add, List.getElem?_append_left (List.getElem?_eq_some_iff.1 hj).1]
  exact hj
 | z :: l, hl, i + 1, y, h, j, u, hj => by
  have hz := ItemD.len z (hl z List.mem_cons_self)
  show (z.cells ++ itemCells l)[(i + 1) * 165 + j]? = some u
  rw [List.getElem?_append_right (by omega), hz, show (i + 1) * 165 + j - 165 = i * 165 + j by omega]
  exact itemCells_at l (fun y hy => hl y (List.mem_cons_of_mem _ hy)) i y (by simpa using h) j u hj
theorem itemCells_snoc (l : List ItemD) (x : ItemD) : itemCells (l ++ [x]) = itemCells l ++ x.cells := by simp [itemCells]
/-- what is at hand, as a slice that is read -/
def HandIn (w : World) (B : Nat) (v : Value) (h : List ItemD) : Prop :=
 h.length ≤ 1000000 ∧ (∀ x ∈ h, x.o.ok) ∧ ∃ a cap, v = .slice a h.length cap ∧ ∀ i x, h[i]? = some x → ∃ g, a = some ⟨g, 0, none⟩ ∧ g < B ∧ w.rangeAt g (i * 165) x.cells
section
variable {w w' : World} {B B' : Nat} {v : Value} {h : List ItemD}
theorem HandIn.below (hh : HandIn w B v h) (hb : Below B' w w') (hB : B ≤ B') : HandIn w' B v h := by
 obtain ⟨h0, h1, a, cap, e, h2⟩ := hh
 refine ⟨h0, h1, a, cap, e, fun i y hi => ?_⟩
 obtain ⟨g, e2, hg, hr⟩ := h2 i y hi
 exact ⟨g, e2, hg, fun j u hj => (hb.cell (p := ⟨g, i * 165 + j, none⟩) (by show g < B'; omega)).trans (hr j u hj)⟩
theorem HandIn.mono (hh : HandIn w B v h) (hB : B ≤ B') : HandIn w B' v h := by
 obtain ⟨h0, h1, a, cap, e, h2⟩ := hh
 refine ⟨h0, h1, a, cap, e, fun i y hi => ?_⟩
 obtain ⟨g, e2, hg, hr⟩ := h2 i y hi
 exact ⟨g, e2, by omega, hr⟩
theorem HandIn.nil (w : World) (B : Nat) : HandIn w B (.slice none 0 0) [] := ⟨by simp, by simp, none, 0, rfl, fun i x hx => by simp at hx⟩
theorem HandIn.drew (hh : HandIn w B v h) : HandIn w.drew B v h := hh
theorem HandIn.up (hh : HandIn w w.heap.size v h) (hb : Below w.heap.size w w') : HandIn w' w'.heap.size v h := (hh.below hb (Nat.le_refl _)).mono hb.size
/-- the item at a place -/
theorem HandIn.at_ {a : Option Addr} {n cap : Nat} (hh : HandIn w B (.slice a n cap) h) {i : Nat} {x : ItemD} (hx : h[i]? = some x) :
  ∃ g, a = some ⟨g, 0, none⟩ ∧ g < B ∧ w.rangeAt g (i * 165) x.cells ∧ w.cell? ⟨g, i * 165, none⟩ = some (.int .i64 x.oid) ∧ w.cell? ⟨g, i * 165 + 164, none⟩ = some (.bool x.ch) := by
 obtain ⟨_, h1, a', cap', e, h2⟩ := hh
 injection e with e1 _ _
 subst e1
 obtain ⟨g, e2, hg, hr⟩ := h2 i x hx
 exact ⟨g, e2, hg, hr, hr 0 _ x.cell0, hr 164 _ (x.cell164 (h1 x (List.mem_of_getElem? hx)))⟩
theorem HandIn.own {e : Nat} (ho : w.ownsRow B e 165 v h.length (itemCells h)) (hok : ∀ x ∈ h, x.o.ok) (hl : h.length ≤ 1000000) : HandIn w w.heap.size v h := by
 refine ⟨hl, hok, ?_⟩
 rcases ho.2 with ⟨e, h0⟩ | ⟨g, cap, cur, e, _, hg, h1, h2, h3, h4⟩
 ·have : h = [] := List.eq_nil_of_length_eq_zero h0
  rw [this]
  exact ⟨none, 0, e, fun i y hi => by cases hi⟩
 ·refine ⟨some ⟨g, 0, none⟩, cap, e, fun i y hi => ⟨g, rfl, lt_of_block hg, fun j u hj => ?_⟩⟩
  have hc := itemCells_at h hok i y hi j u hj
  rw [cell_of_row w g _ cur _ _ hg, ← Array.getElem?_toList]
  rw [← h4, List.getElem?_take] at hc
  split at hc
  ·exact hc
  ·cases hc
end
/-- what is asked of the types of a slice of structs -/
structure RowG (t e : TypeId) (k b : Nat) (i : TypeInfo) (z : Value) : Prop where
 ht : Tryz.prog.underlying t = some (.slice e)
 hi : Tryz.prog.info? e = some i
 hz : i.zero = some z
 h1 : i.size = k
 h2 : i.bytes = b
 h3 : z.cells.size = k
theorem rowG_item : ∃ i z, RowG 59 149 165 872 i z := by
 have h : (Tryz.prog.info? 149).map (fun i => (i.zero.map (·.cells.size), i.size, i.bytes)) = some (some 165, 165, 872) := by kernel_rfl
 obtain ⟨i, hi, he⟩ := Option.map_eq_some_iff.1 h
 injection he with h1 h2
 injection h2 with h2 h3
 obtain ⟨z, hz, h4⟩ := Option.map_eq_some_iff.1 h1
 exact ⟨i, z, ⟨Tryz.underlying59, hi, hz, h2, h3, h4⟩⟩
/-- one item is put behind: it lies in a block of its own -/
theorem run_append_one {t e : TypeId} {k b : Nat} {i0 : TypeInfo} {z0 : Value} (T : RowG t e k b i0 z0) (hk : 0 < k) (hb8 : b ≤ 4096) (w : World) {base n : Nat} {v : Value} {xs : List Value} (hown : w.ownsRow base e k v n xs) (ty : TypeId) (g cap : Nat) (ys : List Value) (hy : ys.length = k) (hy1 : ∀ u ∈ ys, u.oneCell' = true)
  (hu : w.rangeAt g 0 ys) (hn : n ≤ 1000000) (hbase : base ≤ w.heap.size) :
  ∃ v' w', (Builtin.append_ #[t, t] ty #[v, .slice (some ⟨g, 0, none⟩) 1 cap]).run Tryz.prog w = .ok v' w' ∧ w'.ownsRow base e k v' (n + 1) (xs ++ ys) ∧ w.grownBy w' v.ownBlock := by
 have hm : (n + 1) * b ≤ 1000001 * 4096 := Nat.mul_le_mul (by omega) hb8
 obtain ⟨v', w', hrun, h2, h3, _, _⟩ := run_append_own_at (P := Tryz.prog) w base t ty e i0 z0 k b T.ht T.hi T.hz T.h1 T.h2 T.h3 hk v n xs hown ⟨g, 0, none⟩ 1 cap ys (by omega) (fun j u hj => by rw [add_at, Nat.zero_add]; have := hu j u hj; rwa [Nat.zero_add] at this) hy1 (by unfold maxLen; omega) (by omega) hbase
 exact ⟨v', w', hrun, h2, h3⟩
theorem wp_append_one {t e : TypeId} {k b : Nat} {i0 : TypeInfo} {z0 : Value} (T : RowG t e k b i0 z0) (hk : 0 < k) (hb8 : b ≤ 4096) (w : World) {o : Oper} {a : Act} {K : Act → World → Prop} {Q : Exit → Act → World → Prop} (s x : Operand)
  (ho : o.op = .call { callee := .builtin .append, args := #[s, x], argTypes := #[t, t] })
  (base n : Nat) (v : Value) (xs : List Value) (hs : a.eval s = v) (hown : w.ownsRow base e k v n xs) (g cap : Nat) (ys : List Value) (hx : a.eval x = .slice (some ⟨g, 0, none⟩) 1 cap) (hy : ys.length = k) (hy1 : ∀ u ∈ ys, u.oneCell' = true)
  (hu : w.rangeAt g 0 ys) (hn : n ≤ 1000000) (hbase : base ≤ w.heap.size)
  (h : ∀ v' w', w'.ownsRow base e k v' (n + 1) (xs ++ ys) → w.grownBy w' v.ownBlock → K (a.put o.dst v') w') : o.wp Tryz.prog a w K Q := by
 obtain ⟨v', w', hrun, h2, h3⟩ := run_append_one T hk hb8 w hown o.type g cap ys hy hy1 hu hn hbase
 unfold Oper.wp execOp
 simp only [ho, resolve, invoke, builtin, Sem.run_bind, Sem.run_pure, Result.andThen_ok, List.map_toArray, List.map_cons, List.map_nil, hs, hx, hrun]
 exact h v' w' h2 h3
theorem wpList_append_one {t e : TypeId} {k b : Nat} {i0 : TypeInfo} {z0 : Value} (T : RowG t e k b i0 z0) (hk : 0 < k) (hb8 : b ≤ 4096) (w : World) {ops : Array Oper} {rest : List Oper} {o : Oper} {a : Act} {Q : Exit → Act → World → Prop} (hw : Region.wanted o (yielded ops a.tmps) = true) (s x : Operand)
  (ho : o.op = .call { callee := .builtin .append, args := #[s, x], argTypes := #[t, t] })
  (base n : Nat) (v : Value) (xs : List Value) (hs : a.eval s = v) (hown : w.ownsRow base e k v n xs) (g cap : Nat) (ys : List Value) (hx : a.eval x = .slice (some ⟨g, 0, none⟩) 1 cap) (hy : ys.length = k) (hy1 : ∀ u ∈ ys, u.oneCell' = true)
  (hu : w.rangeAt g 0 ys) (hn : n ≤ 1000000) (hbase : base ≤ w.heap.size)
  (h : ∀ v' w', w'.ownsRow base e k v' (n + 1) (xs ++ ys) → w.grownBy w' v.ownBlock → wpList Tryz.prog ops Q rest (a.put o.dst v') w') : wpList Tryz.prog ops Q (o :: rest) a w :=
 wpList_step fun K hK => by
  simp only [hw, if_true]
  exact wp_append_one T hk hb8 w s x ho base n v xs hs hown g cap ys hx hy hy1 hu hn hbase fun v' w' h1 h2 => hK _ _ (h v' w' h1 h2)
theorem rowG_int : ∃ i z, RowG 23 3 1 8 i z := by
 have h : (Tryz.prog.info? 3).map (fun i => (i.zero.map (·.cells.size), i.size, i.bytes)) = some (some 1, 1, 8) := by kernel_rfl
 obtain ⟨i, hi, he⟩ := Option.map_eq_some_iff.1 h
 injection he with h1 h2
 injection h2 with h2 h3
 obtain ⟨z, hz, h4⟩ := Option.map_eq_some_iff.1 h1
 exact ⟨i, z, ⟨Tryz.underlying23, hi, hz, h2, h3, h4⟩⟩
theorem row_one {k : Nat} (c : Array Value) (hc : c.size = k) (i : TypeInfo) (z : Value) (h1 : i.size = k) (h3 : z.cells.size = k) :
  Instr.fill (fun j => some (j * i.size, i.size)) ((Array.range (1 * i.size)).map (z.cells[· % z.cells.size]!)) [(0, .agg c)] = some c := by
 rw [h1, fill_part (off := 0) (size := k) (by simp) (by simpa [Value.cells] using hc) (by simp)]
 rw [Instr.fill, List.drop_eq_nil_of_le (by simp), List.take_zero, List.nil_append, List.append_nil]
 rfl
theorem wp_build1 {t e : TypeId} {k b : Nat} {i0 : TypeInfo} {z0 : Value} (T : RowG t e k b i0 z0) (hk : 0 < k) (hk2 : k ≤ 4096) {w : World} {o : Oper} {a : Act} {K : Act → World → Prop} {Q : Exit → Act → World → Prop} (x : Operand)
  (ho : o.op = .buildSlice t 1 #[(0, x)]) (c : Array Value) (hc : c.size = k) (hx : a.eval x = .agg c)
  (h : K (a.put o.dst (.slice (some ⟨w.heap.size, 0, none⟩) 1 1)) (w.alloc (.cells c e))) : o.wp Tryz.prog a w K Q :=
 wp_buildSliceL t e 1 _ ho c i0 z0 T.ht T.hi T.hz (by rw [T.h1]; omega) (by rw [T.h1]; omega) (by simp only [List.map_cons, List.map_nil, hx]; exact row_one c hc i0 z0 T.h1 T.h3) h
/-- a slice of one struct is built -/
theorem wpList_build1 {t e : TypeId} {k b : Nat} {i0 : TypeInfo} {z0 : Value} (T : RowG t e k b i0 z0) (hk : 0 < k) (hk2 : k ≤ 4096) {w : World} {ops : Array Oper} {rest : List Oper} {o : Oper} {a : Act} {Q : Exit → Act → World → Prop} (hw : Region.wanted o (yielded ops a.tmps) = true) (x : Operand)
  (ho : o.op = .buildSlice t 1 #[(0, x)]) (c : Array Value) (hc : c.size = k) (hx : a.eval x = .agg c)
  (h : wpList Tryz.prog ops Q rest (a.put o.dst (.slice (some ⟨w.heap.size, 0, none⟩) 1 1)) (w.alloc (.cells c e))) : wpList Tryz.prog ops Q (o :: rest) a w :=
 wpList_step fun K hK => by
  simp only [hw, if_true]
  exact wp_buildSliceL t e 1 _ ho c i0 z0 T.ht T.hi T.hz (by rw [T.h1]; omega) (by rw [T.h1]; omega) (by simp only [List.map_cons, List.map_nil, hx]; exact row_one c hc i0 z0 T.h1 T.h3) (hK _ _ h)
theorem wpList_buildL {P : Program} {ops : Array Oper} {rest : List Oper} {o : Oper} {a : Act} {w : World} {Q : Exit → Act → World → Prop} (hw : Region.wanted o (yielded ops a.tmps) = true) (t : TypeId) (parts : Array (Nat × Operand)) (ho : o.op = .build t parts)
  (cells : Array Value) (hf : P.built t (parts.toList.map fun x => (x.1, a.eval x.2)) = some cells)
  (h : wpList P ops Q rest (a.put o.dst (.agg cells)) w) : wpList P ops Q (o :: rest) a w :=
 wpList_step fun K hK => by
  simp only [hw, if_true]
  unfold Oper.wp execOp
  have hf' : P.built t (parts.map fun (i, x) => (i, a.eval x)).toList = some cells := by rw [Array.toList_map]; exact hf
  simp only [ho, Sem.run_bind, run_build w t _ _ hf', Sem.run_pure, Result.andThen_ok]
  exact hK _ _ h
/-- the fields of the reference's cache -/
structure CacheD where
 disk : DiskD
 room : Int
 places : List Int
 hand : List ItemD
def findN (h : List ItemD) (oid : Int) : Option Nat := h.findIdx? (fun x => x.oid == oid)
def findI (h : List ItemD) (oid : Int) : Int := match findN h oid with | some i => i | none => -1
def itemOf (h : List ItemD) (oid : Int) : Option ItemD := h.find? (fun x => x.oid == oid)
def dropI (h : List ItemD) (oid : Int) : List ItemD := h.filter (fun x => x.oid != oid)
def cleanB (h : List ItemD) (oid : Int) : Bool := match itemOf h oid with | some x => !x.ch | none => false
def handB (all : Bool) (h : List ItemD) (oid : Int) : Bool := match itemOf h oid with | some x => all || x.ch | none => false
def risingL (n : Nat) (p : Int → Bool) : List Int := ((List.range n).filter fun (k : Nat) => p k).map fun (k : Nat) => (k : Int)
def withD (room : Int) (n : Nat) (h : List ItemD) (x : ItemD) : List ItemD :=
 let h1 := dropI h x.oid ++ [x]
 if room < ((risingL n (cleanB h1)).length : Int) then match h1.find? (fun y => !y.ch) with | some y => dropI h1 y.oid | none => h1 else h1
theorem findI_no {h : List ItemD} {oid : Int} (hn : ∀ x ∈ h, x.oid ≠ oid) : findI h oid = -1 ∧ itemOf h oid = none := by
 have e : findN h oid = none := by
  unfold findN
  rw [List.findIdx?_eq_none_iff]
  intro x hx
  simpa using hn x hx
 refine ⟨by unfold findI; rw [e], ?_⟩
 unfold itemOf
 rw [List.find?_eq_none]
 intro x hx
 simpa using hn x hx
theorem findI_yes {h : List ItemD} {oid : Int} {i : Nat} {x : ItemD} (hx : h[i]? = some x) (hxo : x.oid = oid) (hn : ∀ y ∈ h.take i, y.oid ≠ oid) : findI h oid = i ∧ itemOf h oid = some x := by
 obtain ⟨hi, e⟩ := List.getElem?_eq_some_iff.1 hx
 have hsplit : h = h.take i ++ x :: h.drop (i + 1) := by rw [← e, ← List.drop_eq_getElem_cons hi, List.take_append_drop]
 have ht : (h.take i).length = i := by rw [List.length_take]; omega
 constructor
 ·have e2 : findN h oid = some i := by
   unfold findN
   rw [List.findIdx?_eq_some_iff_getElem]
   refine ⟨hi, by rw [e]; simpa using hxo, fun j hj => ?_⟩
   have : h[j] ∈ h.take i := List.mem_take_iff_getElem.2 ⟨j, by omega, rfl⟩
   simpa using hn _ this
  unfold findI
  rw [e2]
 ·unfold itemOf
  rw [hsplit, List.find?_append, List.find?_eq_none.2 (fun y hy => by simpa using hn y hy)]
  simp [hxo]
end Go.Proofs.YtemcgfncahccgaaGreat
