/-
  The two functions named given, deferred: what they do where the frame returns, and where it panics.
  What codec.Get reads out of a sector's bytes; objects that are set part by part.
  slices.ContainsFunc of bytes, as the shelf has it, and what logs.says asks of it. (The first part is the shelf's laying at another instance.)
  A drawn region whose condition hangs on what has come up already: a load may be taken first though an operation that waits for it writes its cell. (The kit's laws of OrdersHeld, with S by the listing.)
-/
import Derived.Defers
import Derived.Recover
import Derived.Shelf.SlicesE.IndexFunc
import Derived.Deep.RegionHeld
import Derived.Test.YtdpniceapmikpaaGreatWh13
import Derived.Test.YtdpniceapmikpaaGreatWh15
import Derived.Test.YtdpniceapmikpaaGreatWh16
set_option linter.unusedVariables false
set_option linter.unusedSimpArgs false
namespace Go.Proofs.YtdpniceapmikpaaGreat
open Go.RowKit

set_option maxRecDepth 100000 in
set_option maxHeartbeats 2000000 in
theorem given_panicking (g : Nat) (t : TypeId) (c x : Int) (w : World) (hb : Blk w g t #[.int .i64 x]) :
  CallsD Tryz.prog 68 #[ptr g] (.panicking (failC c)) w fun e u' w' => e = .returned (.tuple #[]) ∧ u' = .panicking [{ v := .iface 211 (.agg #[.int .i64 c]), recovered := true }] ∧ w' = (w.setCell ⟨g, 0, none⟩ (.int .i64 c)).alloc (.cells #[.int .i64 c] 211) := by
 have hb2 := hb.alloc (.cells #[.int .i64 c] 211)
 have hc := hb2.cell_is 0 rfl
 have hz := hb2.frozen 0
 have hlt := hb.lt
 unfold ptr
 clear hb hb2
 refine callsD_of_wpS Tryz.func68 rfl fun c₀ cs hu => ?_
 unfold failC at hu
 have hta : (Instr.typeAssert (.iface 211 (.agg #[.int .i64 c])) 20 211 true).run Tryz.prog w = .ok (.tuple #[.agg #[.int .i64 c], .bool true]) w := by kernel_rfl
 apply wpS_seq
 apply wpS_region
 simp [wpOpsS, go_sem, recoverD, hu, Tryz.ntmps68, Exit.thenS]
 rw [show (Array.replicate 14 undef : Array Value) = #[undef, undef, undef, undef, undef, undef, undef, undef, undef, undef, undef, undef, undef, undef] from rfl]
 simp only [List.setIfInBounds_toArray, List.set_cons_zero, List.set_cons_succ, List.append_toArray, List.cons_append, List.nil_append]
 refine wpS_of_wp ?_
 go_wp2_with fail
 cases c₀
 simp_all [bodyPostS, results, Tryz.results68]
theorem cgiven_idle (p : Addr) (w : World) :
  CallsD Tryz.prog 120 #[.pointer (some p)] .returning w fun e u' w' => e = .returned (.tuple #[]) ∧ u' = .returning ∧ w' = w := by
 refine callsD_of_wpS Tryz.func120 rfl fun c₀ cs hu => ?_
 apply wpS_seq
 apply wpS_region
 simp [wpOpsS, go_sem, recoverD, hu, Tryz.ntmps120, Exit.thenS]
 refine wpS_of_wp ?_
 go_wp2_with fail
 cases c₀
 simp_all [bodyPostS, results, Tryz.results120]
set_option maxRecDepth 100000 in
set_option maxHeartbeats 2000000 in
theorem cgiven_panicking (g : Nat) (t : TypeId) (x : Int) (w : World) (hb : Blk w g t #[.int .i64 x]) :
  CallsD Tryz.prog 120 #[ptr g] (.panicking cfailC) w fun e u' w' => e = .returned (.tuple #[]) ∧ u' = .panicking [{ v := .iface 260 (.agg #[]), recovered := true }] ∧ w' = (w.setCell ⟨g, 0, none⟩ (.int .i64 151)).alloc (.cells #[] 260) := by
 have hb2 := hb.alloc (.cells #[] 260)
 have hc := hb2.cell_is 0 rfl
 have hz := hb2.frozen 0
 have hlt := hb.lt
 unfold ptr
 clear hb hb2
 refine callsD_of_wpS Tryz.func120 rfl fun c₀ cs hu => ?_
 unfold cfailC at hu
 have hta : (Instr.typeAssert (.iface 260 (.agg #[])) 20 260 true).run Tryz.prog w = .ok (.tuple #[.agg #[], .bool true]) w := by kernel_rfl
 apply wpS_seq
 apply wpS_region
 simp [wpOpsS, go_sem, recoverD, hu, Tryz.ntmps120, Exit.thenS]
 rw [show (Array.replicate 12 undef : Array Value) = #[undef, undef, undef, undef, undef, undef, undef, undef, undef, undef, undef, undef] from rfl]
 simp only [List.setIfInBounds_toArray, List.set_cons_zero, List.set_cons_succ, List.append_toArray, List.cons_append, List.nil_append]
 refine wpS_of_wp ?_
 go_wp2_with fail
 cases c₀
 simp_all [bodyPostS, results, Tryz.results120]
def objZ : ObjD := ⟨0, 0, 0, slotsZ, bytesZ⟩
theorem objZ_ok : objZ.ok := ⟨rfl, rfl⟩
theorem zeroObj : Tryz.zeroCells62 = objZ.cells.toArray := by kernel_rfl
theorem objZ_info : (Tryz.prog.info? 62).map (·.size) = some Tryz.zeroCells62.size := by kernel_rfl
theorem objZ_one : Tryz.zeroCells62.all (·.oneCell') = true := by kernel_rfl
set_option maxRecDepth 100000 in
set_option maxHeartbeats 1000000 in
/-- Get's own deferred closure, where there is an error: the object is nought -/
theorem cundo_yes (g5 g4 : Nat) (t t4 : TypeId) (c : Int) (hc0 : c ≠ 0) (o : ObjD) (ho : o.ok) (u : FrameMode) (w : World) (h5 : Blk w g5 t #[.int .i64 c]) (h4 : Blk w g4 t4 o.cells.toArray) :
  CallsD Tryz.prog 119 #[ptr g5, ptr g4] u w fun e u' w' => u' = u ∧ (e = .returned (.tuple #[]) ∧ w' = w.setRow g4 objZ.cells.toArray) := by
 have hc := h5.cell_is 0 rfl
 have hn : (c != 0) = true := by simpa using hc0
 have hsz : o.cells.toArray.size = Tryz.zeroCells62.size := by rw [zeroObj, List.size_toArray, List.size_toArray, ObjD.len ho]; rfl
 rw [← zeroObj]
 unfold ptr
 go_enter_d Tryz.func119, Tryz.ntmps119
 go_wp2_with (refine wpList_store_row rfl 62 _ _ rfl g4 Tryz.zeroCells62 rfl rfl t4 _ h4 objZ_info hsz objZ_one ?_)
 exact bodyPost_end (v := .tuple #[]) (by simp [results, Tryz.results119, go_sem]) rfl ⟨rfl, rfl⟩
theorem cundo_no (g5 g4 : Nat) (t : TypeId) (u : FrameMode) (w : World) (h5 : Blk w g5 t #[.int .i64 0]) :
  CallsD Tryz.prog 119 #[ptr g5, ptr g4] u w fun e u' w' => u' = u ∧ (e = .returned (.tuple #[]) ∧ w' = w) := by
 have hc := h5.cell_is 0 rfl
 unfold ptr
 go_enter_d Tryz.func119, Tryz.ntmps119
 go_wp2_with fail
 exact bodyPost_end (v := .tuple #[]) (by simp [results, Tryz.results119, go_sem]) rfl ⟨rfl, rfl⟩
end Go.Proofs.YtdpniceapmikpaaGreat
namespace Go.Proofs.YtdpniceapmikpaaGreat
open Go.RowKit

def okK (x : KeyD) : Bool := ofB x.k x.o x.c x.a x.r x.v
/-- the object of 508 bytes -/
def objOf (l : List UInt8) : ObjD := ⟨leN ((l.drop 0).take 4), leN ((l.drop 4).take 4), leN ((l.drop 8).take 4), (List.range 16).map fun i => keyOf (l.drop (12 + 20 * i)), (l.drop 332).take 64⟩
def slotsTo (l : List UInt8) (j : Nat) : List KeyD := (List.range 16).map fun i => if i < j then keyOf (l.drop (12 + 20 * i)) else keyZ
def objTo (l : List UInt8) (j : Nat) : ObjD := ⟨leN ((l.drop 0).take 4), leN ((l.drop 4).take 4), leN ((l.drop 8).take 4), slotsTo l j, bytesZ⟩
def codeB (l : List UInt8) (n : Int) : Bool := ((List.range 16).all fun i => okK (keyOf (l.drop (12 + 20 * i)))) && ((l.drop 396).all (· == 0) && objB (objOf l) n)
def getE (b : List UInt8) (n : Int) : Int := if n < 1 ∨ 64 < n then 2 else if sealedB b then if codeB (b.take 508) n then 0 else 151 else 150
def getO (b : List UInt8) (n : Int) : ObjD := if getE b n = 0 then objOf (b.take 508) else objZ
theorem slotsTo_len (l : List UInt8) (j : Nat) : (slotsTo l j).length = 16 := by simp [slotsTo]
theorem slotsTo_zero (l : List UInt8) : slotsTo l 0 = slotsZ := by
 unfold slotsTo slotsZ
 simp only [Nat.not_lt_zero, if_false]
 exact List.map_const' ..
theorem slotsTo_set (l : List UInt8) (j : Nat) : (slotsTo l j).set j (keyOf (l.drop (12 + 20 * j))) = slotsTo l (j + 1) := by
 apply List.ext_getElem
 ·simp [slotsTo]
 ·intro i h1 h2
  rw [List.getElem_set]
  simp only [slotsTo, List.getElem_map, List.getElem_range]
  by_cases h : j = i
  ·subst h; simp
  ·rw [if_neg h]
   by_cases h3 : i < j
   ·rw [if_pos h3, if_pos (by omega)]
   ·rw [if_neg h3, if_neg (by omega)]
theorem slotsTo_all (l : List UInt8) : slotsTo l 16 = (objOf l).slots := by
 unfold slotsTo objOf
 apply List.ext_getElem
 ·simp
 ·intro i h1 h2
  simp only [List.getElem_map, List.getElem_range]
  simp at h1
  rw [if_pos h1]
theorem objOf_ok (l : List UInt8) (h : l.length = 508) : (objOf l).ok := ⟨by simp [objOf], by simp [objOf, h]⟩
theorem objTo_ok (l : List UInt8) (j : Nat) : (objTo l j).ok := ⟨slotsTo_len l j, rfl⟩
theorem obj_set0 (o : ObjD) (x : Int) : o.cells.toArray.setIfInBounds 0 (.int .i64 x) = ({ o with kd := x } : ObjD).cells.toArray := by simp [ObjD.cells]
theorem obj_set1 (o : ObjD) (x : Int) : o.cells.toArray.setIfInBounds 1 (.int .i64 x) = ({ o with ct := x } : ObjD).cells.toArray := by simp [ObjD.cells]
theorem obj_set2 (o : ObjD) (x : Int) : o.cells.toArray.setIfInBounds 2 (.int .i64 x) = ({ o with cl := x } : ObjD).cells.toArray := by simp [ObjD.cells]
theorem slotCells_app (a b : List KeyD) : slotCells (a ++ b) = slotCells a ++ slotCells b := by simp [slotCells]
theorem obj_slot_set (o : ObjD) (j : Nat) (x : KeyD) (hj : j < o.slots.length) :
  o.cells.take (3 + j * 6) ++ x.cells ++ o.cells.drop (3 + j * 6 + x.cells.length) = ({ o with slots := o.slots.set j x } : ObjD).cells := by
 obtain ⟨kd, ct, cl, slots, bytes⟩ := o
 simp only at hj ⊢
 have hs : slots = slots.take j ++ slots[j] :: slots.drop (j + 1) := by rw [← List.drop_eq_getElem_cons hj, List.take_append_drop]
 have hl : (slots.take j).length = j := by rw [List.length_take]; omega
 generalize slots[j] = y at hs
 generalize slots.take j = A at hs hl
 generalize slots.drop (j + 1) = C at hs
 subst hs hl
 have hset : (A ++ y :: C).set A.length x = A ++ x :: C := by simp
 rw [hset]
 unfold ObjD.cells
 simp only
 have e1 : ∀ z : KeyD, slotCells (A ++ z :: C) = slotCells A ++ (z.cells ++ slotCells C) := fun z => by rw [slotCells_app]; rfl
 rw [e1, e1]
 have hA : (slotCells A).length = A.length * 6 := by rw [slotCells_len]; omega
 have hT : ([Value.int IntKind.i64 kd, .int .i64 ct, .int .i64 cl] ++ slotCells A).length = 3 + A.length * 6 := by simp [hA]; omega
 generalize hTT : [Value.int IntKind.i64 kd, .int .i64 ct, .int .i64 cl] = T at *
 have hy : y.cells.length = x.cells.length := rfl
 rw [show T ++ (slotCells A ++ (y.cells ++ slotCells C) ++ bytes.map vu8) = (T ++ slotCells A) ++ (y.cells ++ (slotCells C ++ bytes.map vu8)) by simp]
 rw [List.take_left' hT, List.drop_append, List.drop_eq_nil_of_le (by rw [hT]; omega), hT, Nat.add_sub_cancel_left, ← hy, List.drop_left]
 simp
theorem obj_bytes_set (o : ObjD) (ho : o.ok) (l : List UInt8) (hl : l.length = 64) :
  o.cells.take 99 ++ l.map vu8 ++ o.cells.drop (99 + (l.map vu8).length) = ({ o with bytes := l } : ObjD).cells := by
 have h0 := ObjD.len ho
 rw [List.length_map, hl, List.drop_eq_nil_of_le (by rw [h0]; omega), List.append_nil]
 unfold ObjD.cells
 have h1 : ([Value.int IntKind.i64 o.kd, .int .i64 o.ct, .int .i64 o.cl] ++ slotCells o.slots).length = 99 := by rw [List.length_append, slotCells_len, ho.1]; rfl
 rw [← List.append_assoc, List.take_left' h1, List.append_assoc]
theorem setCells_blk (g : Nat) (t : TypeId) : ∀ (vs : List Value) (o : Nat) (w : World) (cs : Array Value), Blk w g t cs → o + vs.length ≤ cs.size →
  Blk (w.setCells g o vs) g t (cs.toList.take o ++ vs ++ cs.toList.drop (o + vs.length)).toArray
 | [], o, w, cs, h, _ => by
  have e : (cs.toList.take o ++ [] ++ cs.toList.drop (o + 0)).toArray = cs := by simp
  simp only [List.length_nil]
  rw [e]
  exact h
 | v :: r, o, w, cs, h, hs => by
  simp only [List.length_cons] at hs
  have ih := setCells_blk g t r (o + 1) (w.setCell ⟨g, o, none⟩ v) _ (h.set_ o v) (by simp; omega)
  have e : ((cs.setIfInBounds o v).toList.take (o + 1) ++ r ++ (cs.setIfInBounds o v).toList.drop (o + 1 + r.length)) = cs.toList.take o ++ (v :: r) ++ cs.toList.drop (o + (v :: r).length) := by
   rw [Array.toList_setIfInBounds]
   generalize hc : cs.toList = l
   have hl : o < l.length := by rw [← hc]; simp; omega
   rw [List.take_set, List.drop_set_of_lt (by omega)]
   have h1 : (l.take (o + 1)).set o v = l.take o ++ [v] := by
    have h2 : (l.take o).length = o := by rw [List.length_take]; omega
    rw [List.take_add_one, List.getElem?_eq_getElem hl, List.set_append_right _ _ (by omega), h2, Nat.sub_self]
    rfl
   rw [h1]
   simp only [List.length_cons, List.append_assoc, List.cons_append, List.nil_append]
   rw [show o + 1 + r.length = o + (r.length + 1) by omega]
  rw [← e]
  exact ih
theorem obj_next {w : World} {g : Nat} {t : TypeId} {l : List UInt8} {j : Nat} (hj : j < 16) {X : Array Value} (eX : X = (keyOf (l.drop (12 + 20 * j))).cells.toArray) (h : Blk w g t (objTo l j).cells.toArray) :
  Blk (w.setCells g (3 + j * 6) X.toList) g t (objTo l (j + 1)).cells.toArray := by
 have h6 : X.toList.length = 6 := by rw [eX]; rfl
 have h1 := setCells_blk g t X.toList (3 + j * 6) w _ h (by rw [List.size_toArray, ObjD.len (objTo_ok l j), h6]; omega)
 have e1 : X.toList = (keyOf (l.drop (12 + 20 * j))).cells := by rw [eX]
 rw [e1] at h1 ⊢
 rw [List.toList_toArray, obj_slot_set (objTo l j) j (keyOf (l.drop (12 + 20 * j))) (by show j < (slotsTo l j).length; rw [slotsTo_len]; exact hj)] at h1
 have e2 : ({ objTo l j with slots := (objTo l j).slots.set j (keyOf (l.drop (12 + 20 * j))) } : ObjD) = objTo l (j + 1) := by
  unfold objTo
  simp only
  rw [slotsTo_set]
 rw [e2] at h1
 exact h1
theorem obj_whole (l : List UInt8) (h : l.length = 508) : (objTo l 16).cells.take 99 ++ ((l.drop 332).take 64).map vu8 ++ (objTo l 16).cells.drop (99 + (((l.drop 332).take 64).map vu8).length) = (objOf l).cells := by
 rw [obj_bytes_set _ (objTo_ok l 16) _ (by simp [h])]
 unfold objTo
 simp only
 rw [slotsTo_all]
 rfl
theorem copy_page {W : World} {g : Nat} {l : List UInt8} (hl : l.length = 508) (hb : Blk W g 62 (objTo l 16).cells.toArray) {B cap : Nat} {a : Option Addr} (hv : BytesIn W B (.slice a 64 cap) ((l.drop 332).take 64)) (ty : TypeId) :
  ∃ w', (Builtin.copy_ #[26, 26] ty #[.slice (some ⟨g, 99, none⟩) 64 64, .slice a 64 cap]).run Tryz.prog W = .ok (goInt 64) w' ∧ Blk w' g 62 (objOf l).cells.toArray ∧ Out (fun i => i = g) W w' := by
 obtain ⟨_, a', cap2, e, hcap, hc⟩ := hv
 injection e with e1 e2 e3
 subst e1
 have h64 : ((l.drop 332).take 64).length = 64 := by simp [hl]
 obtain ⟨c0, hc0⟩ : ∃ c, ((l.drop 332).take 64)[0]? = some c := ⟨_, List.getElem?_eq_getElem (by rw [h64]; decide)⟩
 obtain ⟨g0, off, rfl, _, _⟩ := hc 0 c0 hc0
 have hsrc : ∀ j u, (((l.drop 332).take 64).map vu8)[j]? = some u → W.cell? ((⟨g0, off, none⟩ : Addr).add j) = some u := by
  intro j u hj
  rw [List.getElem?_map] at hj
  obtain ⟨c, hcj, rfl⟩ := Option.map_eq_some_iff.1 hj
  obtain ⟨g', off', h, _, hcell⟩ := hc j c hcj
  injection h with h
  injection h with h1 h2
  subst h1 h2
  rw [add_at]
  exact hcell
 have hr := run_copy_row (P := Tryz.prog) W 26 26 ty 5 g 99 64 64 ⟨g0, off, none⟩ 64 cap (objTo l 16).cells.toArray 62 (((l.drop 332).take 64).map vu8) Tryz.underlying26 (by kernel_rfl) hb (by rw [List.length_map, h64]; rfl) hsrc (by rw [List.length_map, h64, List.size_toArray, ObjD.len (objTo_ok l 16)]; decide) (sector_one _)
 rw [List.toList_toArray, obj_whole l hl, List.length_map, h64] at hr
 exact ⟨_, hr, hb.row _, out_row _ rfl⟩
theorem obj_one (o : ObjD) (v : Value) (hv : v ∈ o.cells) : v.oneCell' = true := by
 unfold ObjD.cells at hv
 rcases List.mem_append.1 hv with h | h
 ·simp only [List.mem_cons, List.not_mem_nil, or_false] at h
  rcases h with rfl | rfl | rfl <;> rfl
 ·rcases List.mem_append.1 h with h | h
  ·obtain ⟨x, _, hx⟩ := List.mem_flatMap.1 h
   simp only [KeyD.cells, List.mem_cons, List.not_mem_nil, or_false] at hx
   rcases hx with rfl | rfl | rfl | rfl | rfl | rfl <;> rfl
  ·exact sector_one _ v h
theorem out_setCells {F : Nat → Prop} (g : Nat) (hg : F g) : ∀ (vs : List Value) (o : Nat) (w : World), Out F w (w.setCells g o vs)
 | [], _, w => Out.refl _ _
 | v :: r, o, w => (out_set hg).trans (out_setCells g hg r (o + 1) _) (fun _ _ h => h)
theorem there_blk {w : World} {g : Nat} {t : TypeId} {cs : Array Value} (h : Blk w g t cs) (o n : Nat) (hn : o + n ≤ cs.size) : w.there g o n := fun j hj => by
 refine ⟨?_, h.frozen _⟩
 rw [h.cell, Array.getElem?_eq_getElem (by omega)]
 rfl
theorem results_row_cell {P : Program} {fn : Func} {p q : Tmp} {ty te : TypeId} (h : fn.results = #[.cell p ty, .cell q te]) (tmps : Array Value) (w : World) (g : Nat) (t : TypeId) (cs : Array Value) (fr : Nat × Nat) (d : TypeDesc)
  (hp : tmps.getD p undef = .pointer (some ⟨g, 0, none⟩)) (hg : w.heap[g]? = some (.cells cs t fr))
  (hu : P.underlying ty = some d) (hd : (match d with | .struct _ | .array _ _ => true | _ => false) = true) (hi : (P.info? ty).map (·.size) = some cs.size) (a : Addr) (v : Value) (hq : tmps.getD q undef = .pointer (some a)) (hv : (loadVar te a).run P w = .ok v w) :
  (results fn tmps).run P w = .ok (.tuple #[.agg cs, v]) w := by
 have hp' : tmps[p]?.getD undef = .pointer (some ⟨g, 0, none⟩) := by simpa using hp
 have hq' : tmps[q]?.getD undef = .pointer (some a) := by simpa using hq
 simp [results, h, hp', hq', asAddr, run_loadVar_row w g t ty cs fr d hg hu hd hi, hv]
theorem load_errno (w : World) (g : Nat) (t : TypeId) (x : Int) (h : Blk w g t #[.int .i64 x]) : (loadVar 32 ⟨g, 0, none⟩).run Tryz.prog w = .ok (.int .i64 x) w := by
 have c := h.cell_is 0 rfl
 simp [loadVar, c, go_sem]
theorem Blk.row_far {w : World} {g g' : Nat} {t : TypeId} {cs : Array Value} (h : Blk w g t cs) (cs' : Array Value) (hg : g ≠ g') : Blk (w.setRow g' cs') g t cs := (setRow_other w g' g cs' hg).trans h
/-- where Get stands while it reads -/
structure GetInv (w : World) (G B : Nat) (W : World) (v : Value) (rest : List UInt8) (o : ObjD) : Prop where
 obj : Blk W (w.heap.size + 1) 62 o.cells.toArray
 err : Blk W (w.heap.size + 2) 32 #[.int .i64 0]
 box : Blk W G 217 #[v]
 bytes : BytesIn W B v rest
 below : Below w.heap.size w W
 big : w.heap.size + 3 ≤ B
 bg : B ≤ G
 lo : ∀ g, blockOf v = some g → w.heap.size + 3 ≤ g
section
variable {w W W' : World} {G B : Nat} {v v' : Value} {rest rest' : List UInt8} {o o' : ObjD}
theorem GetInv.take (h : GetInv w G B W v rest o) (ho : Out (fun i => i = G) W W') (hb : Blk W' G 217 #[v']) (hv : BytesIn W' B v' rest') (hq : blockOf v' = blockOf v) : GetInv w G B W' v' rest' o := by
 have h1 := h.big
 have h2 := h.bg
 exact ⟨ho.blk h.obj (by omega), ho.blk h.err (by omega), hb, hv, h.below.trans (ho.below (by have := h.below.size; omega) (fun i hi e => by omega)), h1, h2, fun g hg => h.lo g (hq ▸ hg)⟩
theorem GetInv.set_ (h : GetInv w G B W v rest o) (ho : Out (fun i => i = w.heap.size + 1) W W') (hb : Blk W' (w.heap.size + 1) 62 o'.cells.toArray) : GetInv w G B W' v rest o' := by
 have h1 := h.big
 have h2 := h.bg
 have h3 := h.box.lt
 exact ⟨hb, ho.blk h.err (by omega), ho.blk h.box (by omega), h.bytes.out ho (by omega) (fun g hg e => by have := h.lo g hg; omega), h.below.trans (ho.below (by have := h.below.size; omega) (fun i hi e => by omega)), h1, h2, h.lo⟩
theorem GetInv.number {l : List UInt8} (i : Nat) (h : GetInv w G B W v (l.drop i) o) (k : Nat) (hk : k ≤ 8) (hi : i + k ≤ l.length) :
  Calls Tryz.prog 121 #[.pointer (some ⟨G, 0, none⟩), .int .i64 (k : Int)] W fun e W' => e = .returned (.int .u64 (leN ((l.drop i).take k) : Nat)) ∧ ∃ v', GetInv w G B W' v' (l.drop (i + k)) o := by
 refine (rnumber_any G B v (l.drop i) k hk (by rw [List.length_drop]; omega) W h.box h.bytes h.bg).mono ?_
 rintro e W' ⟨rfl, ⟨v', hb, hv, hq⟩, ho⟩
 refine ⟨rfl, v', ?_⟩
 rw [List.drop_drop] at hv
 exact h.take ho hb hv hq
theorem GetInv.far (h : GetInv w G B W v rest o) (hb : Below W.heap.size W W') : GetInv w G B W' v rest o := by
 have h2 := h.bg
 have h3 := h.box.lt
 exact ⟨h.obj.below hb h.obj.lt, h.err.below hb h.err.lt, h.box.below hb h3, h.bytes.below hb (by omega), h.below.trans (hb.mono h.below.size), h.big, h2, h.lo⟩
end
end Go.Proofs.YtdpniceapmikpaaGreat
namespace Go.Proofs
open Go.Shelf
def Tryz.laysSlH6_f146_ren : Go.Shelf.Ren := ⟨fun | 6 => 146 | n => n, fun | 22 => 26 | 23 => 5 | 25 => 215 | 3 => 3 | 0 => 0 | 4 => 4 | n => n, fun | n => n⟩
theorem Tryz.laysSlH6_f146 : Go.Proofs.SlLaysH.n6 Tryz.prog Tryz.laysSlH6_f146_ren := {
 mixed := by kernel_rfl
 f6 := ⟨Tryz.f146.name, by decide, Tryz.func146.trans (congrArg some (by kernel_rfl))⟩
 t0 := Tryz.underlying0
 a0 := Tryz.isAgg0
 z0 := Tryz.sizeOf0
 v0 := Tryz.zeroValue0
 t3 := Tryz.underlying3
 a3 := Tryz.isAgg3
 z3 := Tryz.sizeOf3
 v3 := Tryz.zeroValue3
 t4 := Tryz.underlying4
 a4 := Tryz.isAgg4
 z4 := Tryz.sizeOf4
 v4 := Tryz.zeroValue4
 t22 := Tryz.underlying26
 a22 := Tryz.isAgg26
 z22 := Tryz.sizeOf26
 v22 := Tryz.zeroValue26
 a23 := Tryz.isAgg5
 z23 := Tryz.sizeOf5
 t25 := Tryz.underlying215
 a25 := Tryz.isAgg215
 z25 := Tryz.sizeOf215
 v25 := Tryz.zeroValue215 }
open Go.RowKit Go.Lib in
/-- slices.IndexFunc: "IndexFunc returns the first index i satisfying f(s[i]), or -1 if none do." (LAID AT THE INSTANCE 'slices.IndexFunc[[]byte,byte]': no walk: one application.) -/
theorem Tryz.slices_IndexFuncB {α : Type} [Inhabited α] (enc : α → Value) (p : α → Bool) (g : Nat) (lb : Array Value) (eg : ∀ args w, (callFunc g args).run Tryz.prog w = .ok (.enter g args) w) (b off n c : Nat) (zs : List α) (w : World) (hp : PredAt Tryz.prog g lb enc p w) (hz : n ≤ zs.length) (hbig : n ≤ 9223372036854775807) (hc : ∀ j, j < zs.length → w.cell? ⟨b, off + j, none⟩ = some (enc zs[j]!)) :
  Calls Tryz.prog 146 #[.slice (some ⟨b, off, none⟩) n c, .func (.func g) #[] lb] w fun e w' => e = .returned (.int .i64 (Lib.idxBy (fun _ y => p y) (zs.take n) default)) ∧ ∃ q, w' = w.drewN q := AnyE.slices_IndexFunc Tryz.laysSlH6_f146 enc p g lb eg b off n c zs w hp hz hbig hc
open Go.RowKit Go.Lib in
/-- The same at a slice of length 0, a nil one too: the predicate is not called: nothing is asked of it. (LAID AT THE INSTANCE 'slices.IndexFunc[[]byte,byte]': no walk: one application.) -/
theorem Tryz.slices_IndexFuncB_empty {α : Type} [Inhabited α] (a : Option Addr) (c : Nat) (fv : Value) (w : World) :
  Calls Tryz.prog 146 #[.slice a 0 c, fv] w fun e w' => e = .returned (.int .i64 (-1)) ∧ w' = w := AnyE.slices_IndexFunc_empty Tryz.laysSlH6_f146 a c fv w
def Tryz.laysSlH8_f116_ren : Go.Shelf.Ren := ⟨fun | 8 => 116 | 6 => 146 | n => n, fun | 22 => 26 | 23 => 5 | 25 => 215 | 4 => 4 | 3 => 3 | 0 => 0 | n => n, fun | n => n⟩
theorem Tryz.laysSlH8_f116 : Go.Proofs.SlLaysH.n8 Tryz.prog Tryz.laysSlH8_f116_ren := {
 mixed := by kernel_rfl
 f6 := ⟨Tryz.f146.name, by decide, Tryz.func146.trans (congrArg some (by kernel_rfl))⟩
 f8 := ⟨Tryz.f116.name, by decide, Tryz.func116.trans (congrArg some (by kernel_rfl))⟩
 t0 := Tryz.underlying0
 a0 := Tryz.isAgg0
 z0 := Tryz.sizeOf0
 v0 := Tryz.zeroValue0
 t3 := Tryz.underlying3
 a3 := Tryz.isAgg3
 z3 := Tryz.sizeOf3
 v3 := Tryz.zeroValue3
 t4 := Tryz.underlying4
 a4 := Tryz.isAgg4
 z4 := Tryz.sizeOf4
 v4 := Tryz.zeroValue4
 t22 := Tryz.underlying26
 a22 := Tryz.isAgg26
 z22 := Tryz.sizeOf26
 v22 := Tryz.zeroValue26
 a23 := Tryz.isAgg5
 z23 := Tryz.sizeOf5
 t25 := Tryz.underlying215
 a25 := Tryz.isAgg215
 z25 := Tryz.sizeOf215
 v25 := Tryz.zeroValue215 }
open Go.RowKit Go.Lib in
/-- slices.ContainsFunc: "ContainsFunc reports whether at least one element e of s satisfies f(e).": ITS CALLEE slices.IndexFunc IS MET BY ITS OWN CONTRACT. (LAID AT THE INSTANCE 'slices.ContainsFunc[[]byte,byte]': no walk: one application.) -/
theorem Tryz.slices_ContainsFuncB {α : Type} [Inhabited α] (enc : α → Value) (p : α → Bool) (g : Nat) (lb : Array Value) (eg : ∀ args w, (callFunc g args).run Tryz.prog w = .ok (.enter g args) w) (b off n c : Nat) (zs : List α) (w : World) (hp : PredAt Tryz.prog g lb enc p w) (hz : n ≤ zs.length) (hbig : n ≤ 9223372036854775807) (hc : ∀ j, j < zs.length → w.cell? ⟨b, off + j, none⟩ = some (enc zs[j]!)) :
  Calls Tryz.prog 116 #[.slice (some ⟨b, off, none⟩) n c, .func (.func g) #[] lb] w fun e w' => e = .returned (.bool ((zs.take n).any p)) ∧ ∃ q, w' = w.drewN q := AnyE.slices_ContainsFunc Tryz.laysSlH8_f116 enc p g lb eg b off n c zs w hp hz hbig hc
open Go.RowKit Go.Lib in
/-- The same at a slice of length 0, a nil one too. (LAID AT THE INSTANCE 'slices.ContainsFunc[[]byte,byte]': no walk: one application.) -/
theorem Tryz.slices_ContainsFuncB_empty {α : Type} [Inhabited α] (a : Option Addr) (c : Nat) (fv : Value) (w : World) :
  Calls Tryz.prog 116 #[.slice a 0 c, fv] w fun e w' => e = .returned (.bool false) ∧ w' = w := AnyE.slices_ContainsFunc_empty Tryz.laysSlH8_f116 a c fv w
end Go.Proofs
namespace Go.Proofs.YtdpniceapmikpaaGreat
open Go.RowKit Go.Shelf Go.Lib
theorem drewN_below (w : World) (q : Nat) : Below w.heap.size w (w.drewN q) := below_drewN' (Below.refl _ w) q
theorem nought_any (c : UInt8) (w : World) : Calls Tryz.prog 117 #[vu8 c] w fun e w' => e = .returned (.bool (c != 0)) ∧ w' = w := by
 have hc : (((c.toNat : Int) != 0) = (c != 0)) := by
  have h : ((c.toNat : Int) = 0) ↔ c = 0 := by
   constructor
   ·intro h; exact UInt8.toNat_inj.1 (by simpa using h)
   ·rintro rfl; rfl
  by_cases hz : c = 0
  ·subst hz; rfl
  ·rw [bne_iff_ne.2 hz |> fun h => h, bne_iff_ne.2 (fun e => hz (h.1 e))]
 go_enter Tryz.func117, Tryz.ntmps117
 go_wp2_with fail
 go_ret
 exact ⟨by rw [← hc]; rfl, rfl⟩
theorem contains_any (B : Nat) (v : Value) (l : List UInt8) (w : World) (hv : BytesIn w B v l) (hn : l.length ≤ 1000000) :
  Calls Tryz.prog 116 #[v, .func (.func 117) #[] #[]] w fun e w' => e = .returned (.bool (l.any (· != 0))) ∧ Below w.heap.size w w' := by
 obtain ⟨h1, a, cap, rfl, h3, h4⟩ := hv
 cases l with
 | nil =>
  refine (Tryz.slices_ContainsFuncB_empty (α := UInt8) a cap _ w).mono ?_
  rintro e w' ⟨rfl, rfl⟩
  exact ⟨rfl, Below.refl _ _⟩
 | cons x l =>
  obtain ⟨g, off, rfl, _, _⟩ := h4 0 x rfl
  refine (Tryz.slices_ContainsFuncB (α := UInt8) vu8 (· != 0) 117 #[] (enters_of Tryz.func117 (by kernel_rfl) rfl) g off (x :: l).length cap (x :: l) w (fun W y hb => (nought_any y W).mono ?_) (Nat.le_refl _) (by omega) (fun j hj => ?_)).mono ?_
  ·rintro e w' ⟨rfl, rfl⟩
   exact ⟨rfl, 0, rfl⟩
  ·have hj2 : (x :: l)[j]? = some (x :: l)[j]! := by rw [List.getElem!_eq_getElem?_getD, List.getElem?_eq_getElem hj]; rfl
   obtain ⟨g', off', e, _, hc⟩ := h4 j _ hj2
   cases e
   exact hc
  ·rintro e w' ⟨rfl, q, rfl⟩
   exact ⟨by rw [List.take_length], drewN_below w q⟩
end Go.Proofs.YtdpniceapmikpaaGreat
namespace Go

section
variable {P : Program} {ops : Array Oper} {Q : Exit → Act → World → Prop} {md : Region.Mode} {S : Array Bool → World → Prop}

def wpAnyL (P : Program) (md : Region.Mode) (ops : Array Oper) (Q : Exit → Act → World → Prop) (S : Array Bool → World → Prop) : Nat → Array Bool → Act → World → Prop
 | 0, listed, a, w => Region.ready md ops listed = [] ∧ Q .normal a w
 | fuel + 1, listed, a, w =>
  (Region.ready md ops listed = [] → Q .normal a w) ∧
  ∀ i ∈ Region.ready md ops listed, wpOp P ops Q i (fun a' w' => S (listed.setIfInBounds i true) w' ∧ wpAnyL P md ops Q S fuel (listed.setIfInBounds i true) a' w') a w

theorem wpAny_of_L : ∀ (fuel : Nat) (listed : Array Bool) (a : Act) (w : World), wpAnyL P md ops Q S fuel listed a w → wpAny P md ops Q fuel listed a w
 | 0, _, _, _, h => h
 | fuel + 1, _, _, _, h => ⟨h.1, fun i hi => wpOp_mono (fun a' w' h' => wpAny_of_L fuel _ a' w' h'.2) (h.2 i hi)⟩

/-- each of ks waits for i, or for another one of ks -/
def Region.waits (md : Region.Mode) (ops : Array Oper) (i : Nat) (ks : List Nat) : Bool :=
 ks.all fun k => k != i && ((ops[k]?).map fun o => o.after.any fun e => Region.binds md e && (e.on == i || ks.contains e.on)).getD false
def Unlisted (ks : List Nat) (l : Array Bool) : Prop := ∀ k ∈ ks, l.getD k true = false
theorem unlisted_false {l : Array Bool} {k : Nat} (h : l.getD k true = false) : l.getD k false = false := by
 rcases Nat.lt_or_ge k l.size with h' | h'
 ·simp [h'] at h ⊢; exact h
 ·simp [Array.getElem?_eq_none h'] at h
theorem Unlisted.step {ks : List Nat} {l : Array Bool} {i j : Nat} (hw : Region.waits md ops i ks = true) (hu : Unlisted ks l) (hi : l.getD i true = false) (hj : j ∈ Region.ready md ops l) (hne : j ≠ i) : Unlisted ks (l.setIfInBounds j true) := by
 intro k hk
 by_cases hjk : j = k
 ·subst hjk
  have h1 := List.all_eq_true.1 hw j hk
  obtain ⟨_, o, ho, hall⟩ := mem_ready.1 hj
  rw [ho] at h1
  simp only [Bool.and_eq_true, Option.map_some, Option.getD_some, Array.any_eq_true, Bool.or_eq_true, beq_iff_eq, List.contains_iff_mem] at h1
  obtain ⟨_, n, hn, hb, hon⟩ := h1
  have h2 := hall _ (Array.getElem_mem hn) hb
  rcases hon with he | he
  ·rw [he, unlisted_false hi] at h2; cases h2
  ·rw [unlisted_false (hu _ he)] at h2; cases h2
 ·rw [getD_set_ne true hjk]; exact hu k hk

theorem wpAnyL_first {i : Nat} {oi : Oper} {v : Value} {ks : List Nat} (hi : ops[i]? = some oi) (hsel : ∀ (j : Nat) (o : Oper) cs b, ops[j]? = some o → o.op ≠ .select cs b)
  (hQ : ∀ c a w, Q (.panic c) (a.put oi.dst v) w → Q (.panic c) a w) (hks : Region.waits md ops i ks = true) (hSi : ∀ l w, S (l.setIfInBounds i true) w ↔ S l w) :
  ∀ (fuel : Nat) (listed : Array Bool) (a : Act) (w : World),
   (∀ j oj, ops[j]? = some oj → j ≠ i → listed.getD j true = false → (∀ e ∈ oj.after, Region.binds md e = true → e.on ≠ i) → oi.apart ops oj = true) →
   i ∈ Region.ready md ops listed → Unlisted ks listed → YieldsIf P ops (fun w => ∃ l, Unlisted ks l ∧ S l w) oi v a → S listed w →
   wpAnyL P md ops Q S fuel (listed.setIfInBounds i true) (a.put oi.dst v) w → wpAnyL P md ops Q S (fuel + 1) listed a w := by
 intro fuel
 induction fuel with
 | zero =>
  intro listed a w _ hr hu hy hS H
  refine ⟨fun h => (by rw [h] at hr; cases hr), fun j hj => ?_⟩
  by_cases hji : j = i
  ·subst hji
   exact hy.wpOp hi ⟨listed, hu, hS⟩ ⟨(hSi _ _).2 hS, H⟩
  ·have := ready_mono hj hji
   rw [H.1] at this
   cases this
 | succ fuel ih =>
  intro listed a w hfree hr hu hy hS H
  refine ⟨fun h => (by rw [h] at hr; cases hr), fun j hj => ?_⟩
  by_cases hji : j = i
  ·subst hji
   exact hy.wpOp hi ⟨listed, hu, hS⟩ ⟨(hSi _ _).2 hS, H⟩
  ·have h1 := H.2 j (ready_mono hj hji)
   have hu' := hu.step hks (mem_ready.1 hr).1 hj hji
   obtain ⟨hjun, oj, hoj, hall⟩ := mem_ready.1 hj
   have hnot : ∀ e ∈ oj.after, Region.binds md e = true → e.on ≠ i := fun e he hb heq => by
    have h1 := hall e he hb
    rw [heq, unlisted_false (mem_ready.1 hr).1] at h1
    cases h1
   have h2 := wpOp_putIf hoj (hfree j oj hoj hji hjun hnot) (fun cs b => hsel i oi cs b hi) (fun cs b => hsel j oj cs b hoj) hQ hy h1
   have hfree' : ∀ k ok, ops[k]? = some ok → k ≠ i → (listed.setIfInBounds j true).getD k true = false →
     (∀ e ∈ ok.after, Region.binds md e = true → e.on ≠ i) → oi.apart ops ok = true := fun k ok hk hki hun hno => by
    refine hfree k ok hk hki ?_ hno
    by_cases hjk : j = k
    ·subst hjk; exact hjun
    ·rw [getD_set_ne true hjk] at hun; exact hun
   refine wpOp_mono (fun a' w' h3 => ?_) h2
   have hS3 : S (listed.setIfInBounds j true) w' := (hSi _ _).1 (by rw [Array.setIfInBounds_comm _ _ hji]; exact h3.2.1)
   refine ⟨hS3, ih (listed.setIfInBounds j true) a' w' hfree' (ready_mono hr (Ne.symm hji)) hu' h3.1 hS3 ?_⟩
   rw [Array.setIfInBounds_comm _ _ hji]
   exact h3.2.2

/-- Take number i first; ks: those that may change what it reads, and wait for it. -/
theorem wpAnyL_take {i : Nat} {oi : Oper} {v : Value} {fuel : Nat} {listed : Array Bool} {a : Act} {w : World} (ks : List Nat) (hi : ops[i]? = some oi)
  (hs : Region.noSelect ops = true) (hf : Region.free md ops listed i = true) (hr : (Region.ready md ops listed).contains i = true)
  (hks : Region.waits md ops i ks = true) (hu : ks.all (fun k => !listed.getD k true) = true) (hSi : ∀ l w, S (l.setIfInBounds i true) w ↔ S l w)
  (hQ : ∀ c a w, Q (.panic c) (a.put oi.dst v) w → Q (.panic c) a w) (hy : YieldsIf P ops (fun w => ∃ l, Unlisted ks l ∧ S l w) oi v a) (hS : S listed w)
  (h : wpAnyL P md ops Q S fuel (listed.setIfInBounds i true) (a.put oi.dst v) w) : wpAnyL P md ops Q S (fuel + 1) listed a w :=
 wpAnyL_first hi (Region.noSelect_spec hs) hQ hks hSi fuel listed a w (Region.free_spec hi hf) (by simpa using hr) (fun k hk => by simpa using List.all_eq_true.1 hu k hk) hy hS h

theorem wpAnyL_all {rs : List Nat} {fuel : Nat} {listed : Array Bool} {a : Act} {w : World} (hr : Region.ready md ops listed = rs) (hne : rs ≠ [])
  (h : ∀ i ∈ rs, wpOp P ops Q i (fun a' w' => S (listed.setIfInBounds i true) w' ∧ wpAnyL P md ops Q S fuel (listed.setIfInBounds i true) a' w') a w) : wpAnyL P md ops Q S (fuel + 1) listed a w :=
 ⟨fun h0 => absurd (hr ▸ h0) hne, hr ▸ h⟩

theorem wpAnyL_done {listed : Array Bool} {a : Act} {w : World} (hr : Region.ready md ops listed = []) (h : Q .normal a w) :
  ∀ fuel, wpAnyL P md ops Q S fuel listed a w
 | 0 => ⟨hr, h⟩
 | _ + 1 => ⟨fun _ => h, by rw [hr]; simp⟩

def AllReadyL (P : Program) (md : Region.Mode) (ops : Array Oper) (Q : Exit → Act → World → Prop) (S : Array Bool → World → Prop) (fuel : Nat) (listed : Array Bool) (a : Act) (w : World) (rs : List Nat) : Prop :=
 ∀ i ∈ rs, wpOp P ops Q i (fun a' w' => S (listed.setIfInBounds i true) w' ∧ wpAnyL P md ops Q S fuel (listed.setIfInBounds i true) a' w') a w
theorem AllReadyL.nil {fuel : Nat} {listed : Array Bool} {a : Act} {w : World} : AllReadyL P md ops Q S fuel listed a w [] := fun _ h => by cases h
theorem AllReadyL.cons {fuel : Nat} {listed : Array Bool} {a : Act} {w : World} {i : Nat} {o : Oper} {rs : List Nat} (ho : ops[i]? = some o)
  (h : ∀ K' : Act → World → Prop, Shut (∀ a w, S (listed.setIfInBounds i true) w → (S (listed.setIfInBounds i true) w → wpAnyL P md ops Q S fuel (listed.setIfInBounds i true) a w) → K' a w) → if Region.wanted o (yielded ops a.tmps) = true then Oper.wp P o a w K' Q else K' (a.put o.dst undef) w)
  (hs : AllReadyL P md ops Q S fuel listed a w rs) : AllReadyL P md ops Q S fuel listed a w (i :: rs) := fun j hj => by
 rcases List.mem_cons.1 hj with rfl | hj
 ·exact wpOp_step ho (fun K' hK => h K' (fun a w hS hW => hK a w ⟨hS, hW hS⟩))
 ·exact hs j hj
theorem wpAnyL_ready {rs : List Nat} {fuel : Nat} {listed : Array Bool} {a : Act} {w : World} (hr : Region.ready md ops listed = rs) (hne : rs ≠ [])
  (h : AllReadyL P md ops Q S fuel listed a w rs) : wpAnyL P md ops Q S (fuel + 1) listed a w := wpAnyL_all hr hne h
theorem wp_region_heldL_drew {id : Nat} {a : Act} {w : World} (hm : P.follows .mixedOrders = true) (hS : S (Array.replicate ops.size false) w.drew)
  (h : S (Array.replicate ops.size false) w.drew → wpAnyL P .any ops Q S ops.size (Array.replicate ops.size false) a w.drew) : (Code.region id ops true).wp P Q a w :=
 wp_region_any hm (wpAny_of_L _ _ _ _ (h hS))
end
end Go
