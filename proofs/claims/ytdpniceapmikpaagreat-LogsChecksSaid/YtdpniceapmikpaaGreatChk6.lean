/-
  slices.Backward over the writes that wait.
  reads: what is read of a sector.
  Read.
  all: the iterator over the writes that wait.
  Waits: as many as wait.
  Maps with integer keys that are known whole: a store, of a new key or of one that is there; for all worlds.
-/
import Derived.Test.YtdpniceapmikpaaGreatChk2
import Derived.Test.YtdpniceapmikpaaGreatChk3
import Derived.Test.YtdpniceapmikpaaGreatChk5
set_option linter.unusedVariables false
set_option linter.unusedSimpArgs false
namespace Go.Proofs.YtdpniceapmikpaaGreat
open Go.RowKit Go.Shelf

attribute [local go_sem] Oper.semAt_some

def WaitsIn (w : World) (B : Nat) (v : Value) (ws : List WaitD) : Prop := ws.length ≤ 1000000 ∧ (∀ y ∈ ws, y.b.length = 512) ∧ ∃ a cap, v = .slice a ws.length cap ∧ ∀ i y, ws[i]? = some y → ∃ g, a = some ⟨g, 0, none⟩ ∧ g < B ∧ w.rangeAt g (i * 513) y.cells
theorem WaitsIn.below {w w' : World} {B B' : Nat} {v : Value} {ws : List WaitD} (h : WaitsIn w B v ws) (hb : Below B' w w') (hB : B ≤ B') : WaitsIn w' B v ws := by
  obtain ⟨h0, h1, a, cap, e, h2⟩ := h
  refine ⟨h0, h1, a, cap, e, fun i y hi => ?_⟩
  obtain ⟨g, e2, hg, hr⟩ := h2 i y hi
  exact ⟨g, e2, hg, fun j u hj => (hb.cell (p := ⟨g, i * 513 + j, none⟩) (by show g < B'; omega)).trans (hr j u hj)⟩
theorem WaitsIn.more {w : World} {B B' : Nat} {v : Value} {ws : List WaitD} (h : WaitsIn w B v ws) (hB : B ≤ B') : WaitsIn w B' v ws := by
  obtain ⟨h0, h1, a, cap, e, h2⟩ := h
  refine ⟨h0, h1, a, cap, e, fun i y hi => ?_⟩
  obtain ⟨g, e2, hg, hr⟩ := h2 i y hi
  exact ⟨g, e2, by omega, hr⟩
theorem waitCells_at : ∀ (ws : List WaitD), (∀ y ∈ ws, y.b.length = 512) → ∀ (i : Nat) (y : WaitD), ws[i]? = some y → ∀ j u, y.cells[j]? = some u → (waitCells ws)[i * 513 + j]? = some u
  | [], _, i, y, h, _, _, _ => by cases h
  | z :: ws, hws, 0, y, h, j, u, hj => by
    obtain rfl : z = y := by simpa using h
    show (z.cells ++ waitCells ws)[0 * 513 + j]? = some u
    rw [Nat.zero_mul, Nat.zero_add, List.getElem?_append_left (List.getElem?_eq_some_iff.1 hj).1]
    exact hj
  | z :: ws, hws, i + 1, y, h, j, u, hj => by
    have hz := WaitD.len z (hws z List.mem_cons_self)
    show (z.cells ++ waitCells ws)[(i + 1) * 513 + j]? = some u
    rw [List.getElem?_append_right (by omega), hz, show (i + 1) * 513 + j - 513 = i * 513 + j by omega]
    exact waitCells_at ws (fun y hy => hws y (List.mem_cons_of_mem _ hy)) i y (by simpa using h) j u hj
/-- the lengths are right -/
def DiskD.sound (x : DiskD) : Prop := (∀ n, (x.lasts n).length = 512) ∧ (∀ y ∈ x.waits, y.b.length = 512) ∧ x.waits.length ≤ 1000000
theorem DiskD.ok.sound {x : DiskD} (hx : x.ok) : x.sound := ⟨hx.2.2.1, hx.2.2.2.1, hx.2.2.2.2.2.2⟩
theorem DiskAt.waitsIn {w : World} {D : DiskP} {x : DiskD} (h : DiskAt w D x) (hx : x.sound) : WaitsIn w w.heap.size D.wv x.waits := by
  refine ⟨hx.2.2, hx.2.1, ?_⟩
  rcases h.waits.2 with ⟨e, h0⟩ | ⟨g, cap, cur, e, _, hg, h1, h2, h3, h4⟩
  · have : x.waits = [] := List.eq_nil_of_length_eq_zero h0
    rw [this]
    exact ⟨none, 0, e, fun i y hi => by cases hi⟩
  · refine ⟨some ⟨g, 0, none⟩, cap, e, fun i y hi => ⟨g, rfl, lt_of_block hg, fun j u hj => ?_⟩⟩
    have hc := waitCells_at x.waits hx.2.1 i y hi j u hj
    rw [cell_of_row w g _ cur _ _ hg, ← Array.getElem?_toList]
    rw [← h4, List.getElem?_take] at hc
    split at hc
    · exact hc
    · cases hc

theorem size_wait : (Tryz.prog.info? 161).map (·.size) = some 513 := by kernel_rfl
theorem wpIn_load_is {F : Fence} {n : Nat} {P : Program} {o : Oper} {a : Act} {K : Act → World → Prop} {Q : Exit → Act → World → Prop} (w : World) (ty : TypeId) (x : Operand) (ho : o.op = .load ty x) (p v : Value) (hx : a.eval x = p)
    (hl : (Instr.loadAt ty p).run P w = .ok v w) (h : K (a.put o.dst v) w) : o.wpIn F n P a w K Q := by
  unfold Oper.wpIn
  refine ⟨by simp [Oper.about, ho], ?_⟩
  rw [Oper.semAt_plain F _ _ (by rw [ho]; intro c hc'; cases hc')]
  unfold execOp
  simp only [ho, hx, hl, Sem.run_bind, Sem.run_pure, Result.andThen_ok]
  exact h
/-- a write that waits, whose sector is one -/
abbrev WaitS := { y : WaitD // y.b.length = 512 }
theorem waitS_of : ∀ (ws : List WaitD), (∀ y ∈ ws, y.b.length = 512) → ∃ l : List WaitS, ws = l.map (·.1)
  | [], _ => ⟨[], rfl⟩
  | y :: ws, h => by
    obtain ⟨l, e⟩ := waitS_of ws (fun z hz => h z (List.mem_cons_of_mem _ hz))
    exact ⟨⟨y, h y List.mem_cons_self⟩ :: l, congrArg (y :: ·) e⟩
def backL (ws : List WaitS) : List (WaitS × Nat) := ws.zipIdx.reverse
def vb (x : WaitS × Nat) : Array Value := #[.int .i64 x.2, .agg x.1.1.cells.toArray]
theorem backL_len (ws : List WaitS) : (backL ws).length = ws.length := by simp [backL]
theorem backL_at (ws : List WaitS) (k : Nat) (hk : k < ws.length) : (backL ws)[ws.length - (k + 1)]? = some (ws[k]'hk, k) := by
  unfold backL
  rw [List.getElem?_reverse (by simp; omega)]
  simp only [List.length_zipIdx]
  rw [show ws.length - 1 - (ws.length - (k + 1)) = k by omega, List.getElem?_zipIdx]
  simp [hk]
theorem backL_take (ws : List WaitS) (k : Nat) (hk : k < ws.length) : (backL ws).take (ws.length - k) = (backL ws).take (ws.length - (k + 1)) ++ [(ws[k]'hk, k)] := by
  rw [show ws.length - k = ws.length - (k + 1) + 1 by omega, List.take_add_one, backL_at ws k hk]
  rfl

set_option maxRecDepth 100000 in
set_option maxHeartbeats 2000000 in
theorem back1_in (F : Fence) (n : Nat) (h7 : F.fn 148) (hro : F.round = none) (hn : 1 ≤ n) (l Bs n₀ : Nat) (v : Value) (ws : List WaitS) (J Jx : List (WaitS × Nat) → World → Prop)
    (hY : ∀ pre x W, J pre W → pre.length < ws.length → YieldAt F (n - 1) Tryz.prog l (vb x) W fun e W' =>
      (e = .returned (.bool true) ∧ J (pre ++ [x]) W' ∧ Below n₀ W W') ∨ (e = .returned (.bool false) ∧ Jx (pre ++ [x]) W'))
    (W : World) (hBs : W.cell? ⟨Bs, 0, none⟩ = some v) (hBn : Bs < n₀) (hv : WaitsIn W n₀ v (ws.map (·.1))) (h0 : J [] W) :
    CallsIn F n Tryz.prog 148 #[.func (.yield l) #[] #[], .pointer (some ⟨Bs, 0, none⟩)] W fun e W' => (∃ v, e = .returned v) ∧
      ((∃ ys, ys = backL ws ∧ J ys W') ∨ (∃ pre, pre <+: backL ws ∧ Jx pre W')) := by
  obtain ⟨hmax, hws, a, cap, ev, hc⟩ := hv
  rw [List.length_map] at hmax ev
  subst ev
  refine callsIn_of_wp Tryz.func148 rfl h7 ?_ hro
  simp only [Tryz.ntmps148, List.size_toArray, List.length_cons, List.length_nil, Nat.reduceAdd, Nat.reduceSub, Array.replicate_succ, Array.replicate_zero, List.push_toArray, List.append_toArray, List.nil_append, List.cons_append]
  have hsub : IntKind.i64.wrap ((ws.length : Int) - 1) = (ws.length : Int) - 1 := by rw [IntKind.wrap_i64]; omega
  gi_wp2
  gi_loopw [3] (fun i wr => ∃ k : Nat, k ≤ ws.length ∧ i = .int .i64 ((k : Int) - 1) ∧ J ((backL ws).take (ws.length - k)) wr ∧ Below n₀ W wr)
    (fun i _ => ((intOf i) + 1).toNat)
  case atStart => exact ⟨ws.length, Nat.le_refl _, rfl, by rw [Nat.sub_self]; exact h0, Below.refl _ _⟩
  case round =>
    obtain ⟨k, hk, rfl, hJs, hnx⟩ := hrel
    have hBs' := (hnx.cell (p := ⟨Bs, 0, none⟩) hBn).trans hBs
    cases k with
    | zero =>
      rw [show ws.length - 0 = (backL ws).length by rw [backL_len]; rfl, List.take_length] at hJs
      have hneg : ¬ (0 : Int) ≤ ((0 : Nat) : Int) - 1 := by omega
      gi_wp2
      go_end0
      exact ⟨⟨_, rfl⟩, .inl hJs⟩
    | succ k =>
      have hlt : k < ws.length := by omega
      obtain ⟨g, rfl, hg, hrg⟩ := hc k (ws[k]'hlt).1 (by rw [List.getElem?_map, List.getElem?_eq_getElem hlt]; rfl)
      have e1 : (((k + 1 : Nat) : Int) - 1) = (k : Int) := by omega
      rw [e1]
      have hpos : (0 : Int) ≤ (k : Int) := by omega
      have hlt' : (k : Int) < (ws.length : Int) := by omega
      have hsub2 : IntKind.i64.wrap ((k : Int) - 1) = (k : Int) - 1 := by rw [IntKind.wrap_i64]; omega
      have hlen1 : ((backL ws).take (ws.length - (k + 1))).length < ws.length := by rw [List.length_take, backL_len]; omega
      obtain ⟨fn, tmps, assign, body, hy, hR⟩ := hY _ (ws[k]'hlt, k) wr hJs hlen1
      have hld := run_loadAt_mid (P := Tryz.prog) wr g (k * 513) 161 (ws[k]'hlt).1.cells _ (fun j u hj => (hnx.cell (p := ⟨g, k * 513 + j, none⟩) hg).trans (hrg j u hj)) Tryz.underlying161 rfl (by rw [WaitD.len _ (ws[k]'hlt).2]; exact size_wait)
      have hLT := backL_take ws k hlt
      generalize ws[k]'hlt = y at *
      simp only [vb] at hy
      gi_wp2_with (refine wpIn_load_is _ 161 _ rfl _ _ rfl hld ?_)
      refine hR.mono ?_
      rintro e W3 (⟨rfl, hJ3, hk3⟩ | ⟨rfl, hJx3⟩)
      · gi_wp2
        go_roundw
        case rel => exact ⟨k, by omega, rfl, by rw [hLT]; exact hJ3, hnx.trans hk3⟩
        case measure => simp [intOf]
      · gi_wp2
        refine bodyPost_ret (results_none rfl _ _ _) rfl ?_
        exact ⟨⟨_, rfl⟩, (.inr ⟨_, by rw [← hLT]; exact List.take_prefix _ _, hJx3⟩)⟩

set_option maxHeartbeats 1000000 in
theorem back_in (F : Fence) (n : Nat) (h5 : F.fn 126) (hro : F.round = none) (a : Option Addr) (len cap : Nat) (w : World) :
    CallsIn F n Tryz.prog 126 #[.slice a len cap] w fun e w' => e = .returned (.func (.func 148) #[] #[.pointer (some ⟨w.heap.size, 0, none⟩)]) ∧ w' = w.alloc (.cells #[.slice a len cap] 149) := by
  refine callsIn_of_wp Tryz.func126 rfl h5 ?_ hro
  simp only [Tryz.ntmps126, List.size_toArray, List.length_cons, List.length_nil, Nat.reduceAdd, Nat.reduceSub, Array.replicate_succ, Array.replicate_zero, List.push_toArray, List.append_toArray, List.nil_append, List.cons_append]
  gi_wp2
  go_ret
  exact ⟨rfl, rfl⟩

theorem back_stops (F : Fence) (n : Nat) (h7 : F.fn 148) (hro : F.round = none) (hn : 1 ≤ n) (Bs n₀ : Nat) (v : Value) (ws : List WaitS) (w : World) (hBs : Bs < w.heap.size) (hBn : Bs < n₀) (hn₀ : n₀ ≤ w.heap.size)
    (hc : w.cell? ⟨Bs, 0, none⟩ = some v) (hv : WaitsIn w n₀ v (ws.map (·.1))) :
    SeqStopsK F n Tryz.prog 148 #[.pointer (some ⟨Bs, 0, none⟩)] vb (Below n₀) (fun ys => ys = backL ws) (fun pre => pre <+: backL ws) ws.length w := fun l J Jx W hW _ _ hY h0 =>
  back1_in F n h7 hro hn l Bs n₀ v ws J Jx hY W ((hW.cell (p := ⟨Bs, 0, none⟩) hBs).trans hc) hBn (hv.below hW hn₀) h0
end Go.Proofs.YtdpniceapmikpaaGreat
namespace Go.Proofs.YtdpniceapmikpaaGreat
open Go.RowKit Go.Shelf

attribute [local go_sem] Oper.semAt_some

/-- what is read of a sector -/
def DiskD.reads (x : DiskD) (n : Int) : List UInt8 :=
  match x.waits.reverse.find? (fun y => y.n == n) with
  | some y => y.b
  | none => x.lasts n
theorem DiskD.reads_len (x : DiskD) (hx : x.sound) (n : Int) : (x.reads n).length = 512 := by
  unfold DiskD.reads
  cases h : x.waits.reverse.find? (fun y => y.n == n) with
  | some y => exact hx.2.1 y (by simpa using List.mem_of_find?_eq_some h)
  | none => exact hx.1 n
theorem backL_fst (ws : List WaitS) : (backL ws).map (·.1.1) = (ws.map (·.1)).reverse := by
  unfold backL
  rw [List.map_reverse]
  congr 1
  rw [show (fun x : WaitS × Nat => x.1.1) = Subtype.val ∘ Prod.fst from rfl, ← List.map_map]
  simp
theorem find_all (l : List (WaitS × Nat)) (q : Int) (h : ∀ y ∈ l, y.1.1.n ≠ q) : (l.map (·.1.1)).find? (fun y => y.n == q) = none := by
  rw [List.find?_eq_none]
  intro y hy
  obtain ⟨z, hz, rfl⟩ := List.mem_map.1 hy
  simpa using h z hz
theorem find_back (ws : List WaitS) (q : Int) (pre : List (WaitS × Nat)) (y : WaitS × Nat) (hp : pre ++ [y] <+: backL ws) (h : ∀ z ∈ pre, z.1.1.n ≠ q) (hy : y.1.1.n = q) : (ws.map (·.1)).reverse.find? (fun y => y.n == q) = some y.1.1 := by
  obtain ⟨r, e⟩ := hp
  rw [← backL_fst, ← e, List.map_append, List.map_append, List.append_assoc, List.find?_append, find_all pre q h]
  simp [hy]
theorem find_none (ws : List WaitS) (q : Int) (h : ∀ z ∈ backL ws, z.1.1.n ≠ q) : (ws.map (·.1)).reverse.find? (fun y => y.n == q) = none := by
  rw [← backL_fst]
  exact find_all _ q h
theorem look_lasts {w : World} {D : DiskP} {x : DiskD} (h : DiskAt w D x) (n : Int) : (Instr.lookup 148 (.map (some D.lm)) (.int .i64 n) false).run Tryz.prog w = .ok (sectorV (x.lasts n)) w := by
  have hz : (zeroValue 111).run Tryz.prog w = .ok (sectorV sector0) w := by kernel_rfl
  obtain ⟨l, hm, hl⟩ := h.lasts
  rcases hl n with ⟨v, h1, rfl⟩ | ⟨h1, h2⟩
  · exact run_lookup_ok w Tryz.underlying148 Tryz.underlying3 D.lm l hm n _ h1 false
  · rw [h2]
    exact run_lookup_none w Tryz.underlying148 Tryz.underlying3 D.lm l hm n _ hz h1 false
theorem yieldsIf_is {P : Program} {ops : Array Oper} {S : World → Prop} {op : Oper} {a : Act} (hw : Region.wanted op (yielded ops a.tmps) = true) (t : TypeId) (m k : Operand) (ho : op.op = .lookup t m k false) (mv kv v : Value) (hm : a.eval m = mv) (hk : a.eval k = kv)
    (hS : ∀ w, S w → (Instr.lookup t mv kv false).run P w = .ok v w) : YieldsIf P ops S op v a :=
  .inl ⟨hw, fun w hw' => by
    unfold execOp
    simp only [ho, hm, hk, Sem.run_bind, hS w hw', Sem.run_pure, Result.andThen_ok]⟩
theorem wait_all (x : WaitD) : x.cells.toArray.all (·.oneCell') = true := by
  rw [List.all_toArray, List.all_eq_true]
  exact wait_one x
theorem wpListIn_store_row {l n : Nat} {P : Program} {ops : Array Oper} {rest : List Oper} {o : Oper} {a : Act} {w : World} {Q : Exit → Act → World → Prop} (hgd : o.guard = none) (hd : noDefer o = true) (ty : TypeId) (x y : Operand) (ho : o.op = .store ty x y)
    (g : Nat) (cells : Array Value) (hx : a.eval x = .pointer (some ⟨g, 0, none⟩)) (hy : a.eval y = .agg cells)
    (t : TypeId) (old : Array Value) (hg : w.heap[g]? = some (.cells old t (0, 0))) (hi : (P.info? ty).map (·.size) = some cells.size)
    (hold : old.size = cells.size) (h1 : cells.all (·.oneCell') = true)
    (h : wpListIn (Fence.wide.inRound l) n P ops Q rest (a.put o.dst undef) (w.setRow g cells)) : wpListIn (Fence.wide.inRound l) n P ops Q (o :: rest) a w :=
  wpListIn_plain hgd fun _ hK => op_round hd (wp_store_row ty x y ho g cells hx hy t old hg hi hold h1 (hK _ _ h))
theorem keepsFrom_row {B g : Nat} {W : World} {t : TypeId} {cs : Array Value} (h : Blk W g t cs) (cs' : Array Value) : KeepsFrom B W (W.setRow g cs') := by
  refine ⟨by simp, fun k o _ hk hc => ?_⟩
  by_cases e : k = g
  · subst e
    unfold Blk at h
    rw [h] at hk
    cases hk
    cases hc
  · exact (setRow_other W g k cs' e).trans hk
theorem zero161 : Tryz.zeroCells161.size = 513 := by kernel_rfl
theorem zero111 : Tryz.zeroCells111 = (sector0.map vu8).toArray := by kernel_rfl

set_option maxRecDepth 100000 in
set_option maxHeartbeats 4000000 in
theorem reads_in (n : Nat) (hn : 3 ≤ n) (D : DiskP) (x : DiskD) (q : Int) (w : World) (h : DiskAt w D x) (hx : x.sound) :
    CallsIn Fence.wide n Tryz.prog 75 #[ptr D.p, .int .i64 q] w fun e w' => e = .returned (sectorV (x.reads q)) ∧ Below w.heap.size w w' := by
  have h1 : 1 ≤ n := by omega
  have hro : Fence.wide.round = none := rfl
  have c2 := h.blk.cell_is 2 rfl
  have hlt := h.blk.lt
  obtain ⟨hmax, hws, a, cap, ev, hcc⟩ := h.waitsIn hx
  obtain ⟨ws, ews⟩ := waitS_of x.waits hws
  have hV : WaitsIn w w.heap.size D.wv (ws.map (·.1)) := by rw [← ews]; exact h.waitsIn hx
  have el : x.waits.length = ws.length := by rw [ews, List.length_map]
  rw [el] at ev
  rw [ev] at c2 hV
  have EW := Lib.hid ews
  have hmax2 : ws.length ≤ 1000000 := by omega
  have HV := Lib.hid hV
  have HH := Lib.hid h
  unfold ptr at *
  clear h hV hcc ews el hmax hws
  refine callsIn_of_wp_marks Tryz.func75 rfl trivial ?_ hro
  simp only [Tryz.ntmps75, List.size_toArray, List.length_cons, List.length_nil, Nat.reduceAdd, Nat.reduceSub, Array.replicate_succ, Array.replicate_zero, List.push_toArray, List.append_toArray, List.nil_append, List.cons_append]
  refine wpIn_wide.2 ?_
  go_wp2_with fail
  refine (callsIn_wide.1 (back_in Fence.wide 5 trivial rfl _ _ _ _)).mono ?_; rintro e w2 ⟨rfl, rfl⟩
  go_wp2_with fail
  obtain ⟨W0, eW0⟩ : ∃ W0, W0 = ((w.alloc (Obj.cells #[Value.int IntKind.i64 q] 3)).alloc (Obj.cells Tryz.zeroCells111 111)).alloc (Obj.cells #[Value.slice a ws.length cap] 149) := ⟨_, rfl⟩
  rw [← eW0]
  have hb0 : Below w.heap.size w W0 := by rw [eW0]; exact (((Below.refl _ w).alloc (Nat.le_refl _) _).alloc (by simp) _).alloc (by simp; omega) _
  have hK0 : Blk W0 w.heap.size 3 #[.int .i64 q] := by rw [eW0]; exact ((Blk.new w _ _).alloc _).alloc _
  have hK1 : Blk W0 (w.heap.size + 1) 111 (sector0.map vu8).toArray := by rw [eW0, ← zero111]; exact (Blk.new2 w _ _ _).alloc _
  have hK2 : W0.cell? ⟨w.heap.size + 1 + 1, 0, none⟩ = some (.slice a ws.length cap) := by rw [eW0]; exact (Blk.new' (by simp)).cell_is 0 rfl
  have hs0 : W0.heap.size = w.heap.size + 3 := by rw [eW0]; simp
  clear eW0
  have HV0 := HV.out.below hb0 (Nat.le_refl _)
  refine (wpIn_wide (n := n)).1 ?_
  refine wpIn_rangeFunc_ownH hro h1 (gf := 148) (lb := #[.pointer (some ⟨w.heap.size + 1 + 1, 0, none⟩)]) rfl trivial (enters_of Tryz.func148 (by kernel_rfl) rfl)
    (back_stops Fence.wide (n - 1) trivial rfl (by omega) (w.heap.size + 1 + 1) (w.heap.size + 3) (.slice a ws.length cap) ws _ (by omega) (by omega) (by omega) hK2 (HV0.more (by omega))) belowK_t (belowK_b (by omega)) (Below.refl _ _) (fun _ => rfl)
    (fun pre W => ((∀ y ∈ pre, y.1.1.n ≠ q) ∧ Blk W w.heap.size 3 #[.int .i64 q] ∧ Blk W (w.heap.size + 1) 111 (sector0.map vu8).toArray) ∧ Below w.heap.size W0 W)
    (fun c pre W => (c = .ret ∧ (∃ pre0 y, pre = pre0 ++ [y] ∧ (∀ y ∈ pre0, y.1.1.n ≠ q) ∧ y.1.1.n = q ∧ Blk W (w.heap.size + 1) 111 (y.1.1.b.map vu8).toArray)) ∧ Below w.heap.size W0 W)
    (OwnFrom.and (fun s A B row hs hg hr => ⟨hs.1, hs.2.1.own hg (fun r e => (hr r e).2), hs.2.2.own hg (fun r e => (hr r e).2)⟩) (ownFrom_below (by omega) (by omega)))
    (fun c => OwnFrom.and (fun s A B row hs hg hr => ⟨hs.1, by obtain ⟨p0, y, e, h1, h2, h3⟩ := hs.2; exact ⟨p0, y, e, h1, h2, h3.own hg (fun r e => (hr r e).2)⟩⟩) (ownFrom_below (by omega) (by omega)))
    ⟨⟨by simp, hK0, hK1⟩, Below.refl _ _⟩
    (fun y a' W => ∃ g, a' = { tmps := #[.pointer (some ⟨D.p, 0, none⟩), .int .i64 q, undef, .pointer (some ⟨w.heap.size, 0, none⟩), .pointer (some ⟨w.heap.size + 1, 0, none⟩), undef, .pointer (some ⟨g, 0, none⟩), .pointer (some ⟨D.p, 0, none⟩), .pointer (some ⟨D.p, 0, none⟩), .pointer (some ⟨D.p, 2, none⟩), .slice a ws.length cap,
          .func (.func 148) #[] #[.pointer (some ⟨w.heap.size + 1 + 1, 0, none⟩)], .int .i64 y.2, .agg y.1.1.cells.toArray, undef, undef, undef, undef, undef, undef, undef, undef, undef, undef, undef, undef], defers := [] } ∧ w.heap.size + 3 ≤ g ∧ Blk W g 161 y.1.1.cells.toArray)
    (fun y a' => (fun s A B row hs hg hr => by obtain ⟨g, e, hgg, hb⟩ := hs; exact ⟨g, e, hgg, hb.own hg (fun r e => (hr r e).2)⟩)) ?assign ?body ?done ?stop
  case assign =>
    intro l pre y W K hI hK
    have hzip : (#[12, 13].zip (vb y)).foldl (fun t (p : Nat × Value) => t.setIfInBounds p.1 p.2) #[.pointer (some ⟨D.p, 0, none⟩), .int .i64 q, undef, .pointer (some ⟨w.heap.size, 0, none⟩), .pointer (some ⟨w.heap.size + 1, 0, none⟩), undef, undef, .pointer (some ⟨D.p, 0, none⟩), .pointer (some ⟨D.p, 0, none⟩), .pointer (some ⟨D.p, 2, none⟩), .slice a ws.length cap,
          .func (.func 148) #[] #[.pointer (some ⟨w.heap.size + 1 + 1, 0, none⟩)], undef, undef, undef, undef, undef, undef, undef, undef, undef, undef, undef, undef, undef, undef] = #[.pointer (some ⟨D.p, 0, none⟩), .int .i64 q, undef, .pointer (some ⟨w.heap.size, 0, none⟩), .pointer (some ⟨w.heap.size + 1, 0, none⟩), undef, undef, .pointer (some ⟨D.p, 0, none⟩), .pointer (some ⟨D.p, 0, none⟩), .pointer (some ⟨D.p, 2, none⟩), .slice a ws.length cap,
          .func (.func 148) #[] #[.pointer (some ⟨w.heap.size + 1 + 1, 0, none⟩)], .int .i64 y.2, .agg y.1.1.cells.toArray, undef, undef, undef, undef, undef, undef, undef, undef, undef, undef, undef, undef] := by kernel_rfl
    dsimp only
    rw [hzip]
    clear hzip
    gi_wp2_with (refine wpListIn_store_row rfl rfl 161 _ _ rfl W.heap.size y.1.1.cells.toArray rfl rfl 161 Tryz.zeroCells161 (heap_alloc_new W _) (by rw [List.size_toArray, WaitD.len _ y.1.2]; exact size_wait) (by rw [zero161, List.size_toArray, WaitD.len _ y.1.2]) (wait_all y.1.1) ?_; rw [World.setRow_alloc_new])
    have hsz := hI.2.size
    exact hK _ _ ((KeepsOthers.alloc W _).from _) ((Below.refl _ W).alloc (by omega) _) ⟨⟨hI.1.1, hI.1.2.1.alloc _, hI.1.2.2.alloc _⟩, hI.2.alloc (by omega) _⟩ ⟨_, rfl, by omega, Blk.new W _ _⟩
  case body =>
    rintro l pre y a' W hl hr ⟨⟨hI, hQ, hT⟩, hB⟩ ⟨g, rfl, hg, hG⟩ hlen
    have cG : W.cell? ⟨g, 0, none⟩ = some (.int .i64 y.1.1.n) := hG.cell_is 0 rfl
    have cQ := hQ.cell_is 0 rfl
    obtain ⟨t, ht⟩ : ∃ t : Int, y.1.1.n = t := ⟨_, rfl⟩
    rw [ht] at cG
    have HT := Lib.hid ht
    clear ht
    cases hh : (t == q)
    · have hne : t ≠ q := by simpa using hh
      gi_wp2
      refine ⟨KeepsFrom.refl _ _, Below.refl _ _, ⟨fun z hz => ?_, hQ, hT⟩, hB⟩
      rcases List.mem_append.1 hz with hz | hz
      · exact hI z hz
      · rw [List.mem_singleton.1 hz, HT.out]; exact hne
    · have he : t = q := by simpa using hh
      have hlb := y.1.2
      have hone : (y.1.1.b.map vu8).toArray.all (·.oneCell') = true := by
        rw [List.all_toArray, List.all_eq_true]
        exact sector_one _
      have hsz : (Tryz.prog.info? 111).map (·.size) = some (y.1.1.b.map vu8).length := by rw [List.length_map, hlb]; exact size_sector
      have hld := run_loadAt_mid (P := Tryz.prog) W g 1 111 (y.1.1.b.map vu8) _ (fun j u hj => hG.cell_is (1 + j) (by rw [List.getElem?_toArray, Nat.add_comm]; exact hj)) Tryz.underlying111 rfl hsz
      have HL := Lib.hid hlb
      clear hlb
      gi_wp2_with (first
        | (refine wpIn_load_is _ 111 _ rfl _ _ rfl hld ?_)
        | (refine wpListIn_store_row rfl rfl 111 _ _ rfl (w.heap.size + 1) (y.1.1.b.map vu8).toArray rfl rfl 111 (sector0.map vu8).toArray hT (by rw [List.size_toArray]; exact hsz) (by rw [List.size_toArray, List.size_toArray, List.length_map, List.length_map, HL.out]; exact List.length_replicate) hone ?_))
      refine ⟨keepsFrom_row hT _, ⟨rfl, pre, y, rfl, hI, by rw [HT.out]; exact he, hT.row _⟩, below_row hB _ (by omega)⟩
  case done =>
    rintro Dd ys W hD rfl ⟨⟨hI, hQ, hT⟩, hB⟩ hK
    have hH := HH.out.below (hb0.trans hB)
    have c1 := hH.blk.cell_is 1 rfl
    have cQ := hQ.cell_is 0 rfl
    have hR : sectorV (x.reads q) = sectorV (x.lasts q) := by
      unfold DiskD.reads
      rw [EW.out, find_none ws q hI]
    have hlen : (x.lasts q).length = 512 := hx.1 q
    have hone : ((x.lasts q).map vu8).toArray.all (·.oneCell') = true := by
      rw [List.all_toArray, List.all_eq_true]
      exact sector_one _
    have hsz : (Tryz.prog.info? 111).map (·.size) = some ((x.lasts q).map vu8).toArray.size := by rw [List.size_toArray, List.length_map, hlen]; exact size_sector
    have HL := Lib.hid hH
    have HS := Lib.hid hsz
    have HE := Lib.hid hlen
    have HR := Lib.hid hR
    have HF := Lib.hid (And.intro ((World.cell?_of_block (a := ⟨D.p, 1, none⟩) (setRow_other W.drew (w.heap.size + 1) D.p ((x.lasts q).map vu8).toArray (by omega))).trans c1) (And.intro ((World.cell?_of_block (a := ⟨w.heap.size, 0, none⟩) (setRow_other W.drew (w.heap.size + 1) w.heap.size ((x.lasts q).map vu8).toArray (by omega))).trans cQ) (HH.out.below (below_row (hb0.trans hB).drew ((x.lasts q).map vu8).toArray (by omega : w.heap.size ≤ w.heap.size + 1)))))
    have HB := Lib.hid (below_row (hb0.trans hB).drew ((x.lasts q).map vu8).toArray (by omega : w.heap.size ≤ w.heap.size + 1))
    have HT2 := Lib.hid (hT.drew.row ((x.lasts q).map vu8).toArray)
    clear hH hsz hlen hR
    go_upto_region 5 with fail
    refine wp_region_noPanic ?_
    refine wp_region_held_drew (S := (fun w' => w'.cell? ⟨D.p, 1, none⟩ = some (.map (some D.lm)) ∧ w'.cell? ⟨w.heap.size, 0, none⟩ = some (.int .i64 q) ∧ DiskAt w' D x)) (by kernel_rfl) (by (try dsimp only); (exact ⟨c1, cQ, HL.out.drew⟩)) (fun hHeld => ?_)
    refine wpAnyH_take (i := 0) (v := ?v0) rfl (by kernel_rfl) (by kernel_rfl) (by kernel_rfl) (fun _ _ _ h => h) (Or.inl ⟨by rfl, ?hy0⟩) (by assumption) ?_
    case hy0 => (intro w hSw; (try dsimp only at hSw); go_simp; try with_reducible rfl)
    try simp only [Act.put, List.getElem_toArray, List.getElem_cons_succ, List.getElem_cons_zero, List.setIfInBounds_toArray, List.set_cons_zero, List.set_cons_succ]
    refine wpAnyH_take (i := 1) (v := ?v1) rfl (by kernel_rfl) (by kernel_rfl) (by kernel_rfl) (fun _ _ _ h => h) (Or.inl ⟨by rfl, ?hy1⟩) (by assumption) ?_
    case hy1 => (intro w hSw; (try dsimp only at hSw); go_simp; try with_reducible rfl)
    try simp only [Act.put, List.getElem_toArray, List.getElem_cons_succ, List.getElem_cons_zero, List.setIfInBounds_toArray, List.set_cons_zero, List.set_cons_succ]
    refine wpAnyH_take (i := 2) (v := ?v2) rfl (by kernel_rfl) (by kernel_rfl) (by kernel_rfl) (fun _ _ _ h => h) (Or.inl ⟨by rfl, ?hy2⟩) (by assumption) ?_
    case hy2 => (intro w hSw; (try dsimp only at hSw); go_simp; try with_reducible rfl)
    try simp only [Act.put, List.getElem_toArray, List.getElem_cons_succ, List.getElem_cons_zero, List.setIfInBounds_toArray, List.set_cons_zero, List.set_cons_succ]
    refine wpAnyH_take (i := 3) (v := ?v3) rfl (by kernel_rfl) (by kernel_rfl) (by kernel_rfl) (fun _ _ _ h => h) (Or.inl ⟨by rfl, ?hy3⟩) (by assumption) ?_
    case hy3 => (intro w hSw; (try dsimp only at hSw); go_simp; try with_reducible rfl)
    try simp only [Act.put, List.getElem_toArray, List.getElem_cons_succ, List.getElem_cons_zero, List.setIfInBounds_toArray, List.set_cons_zero, List.set_cons_succ]
    refine wpAnyH_take (i := 4) (v := ?v4) rfl (by kernel_rfl) (by kernel_rfl) (by kernel_rfl) (fun _ _ _ h => h) (Or.inl ⟨by rfl, ?hy4⟩) (by assumption) ?_
    case hy4 => (intro w hSw; (try dsimp only at hSw); go_simp; try with_reducible rfl)
    try simp only [Act.put, List.getElem_toArray, List.getElem_cons_succ, List.getElem_cons_zero, List.setIfInBounds_toArray, List.set_cons_zero, List.set_cons_succ]
    refine wpAnyH_take (i := 5) rfl (by kernel_rfl) (by kernel_rfl) (by kernel_rfl) (fun _ _ _ h => h) (yieldsIf_is (by rfl) 148 _ _ rfl (.map (some D.lm)) (.int .i64 q) _ rfl rfl (fun w' h => look_lasts h.2.2 q)) (by assumption) ?_
    try simp only [Act.put, List.getElem_toArray, List.getElem_cons_succ, List.getElem_cons_zero, List.setIfInBounds_toArray, List.set_cons_zero, List.set_cons_succ]
    refine wpAnyH_ready (rs := [6]) (by kernel_rfl) (by simp) ?_
    refine AllReadyH.cons rfl (fun K hK2 => ?_) AllReadyH.nil
    rw [if_pos (by rfl)]
    refine wp_store_row 111 _ _ rfl (w.heap.size + 1) ((x.lasts q).map vu8).toArray rfl rfl 111 (sector0.map vu8).toArray hT HS.out (by rw [List.size_toArray, List.size_toArray, List.length_map, List.length_map, HE.out]; exact List.length_replicate) hone ?_
    refine hK2.out _ _ HF.out (fun hHeld => ?_)
    clear hK2 K
    refine wpAnyH_done (by kernel_rfl) ?_ _
    refine NoPanic.normal ?_
    go_wp2_with fail
    rw [HR.out]
    refine ⟨by simp, .inl ⟨_, _, rfl, run_takeDeferred ((setRow_other W.drew (w.heap.size + 1) Dd _ (by omega)).trans hK), ?_⟩⟩
    exact ⟨_, results_cell_row Tryz.results75 _ _ (w.heap.size + 1) 111 ((x.lasts q).map vu8).toArray (0, 0) _ rfl ((World.putObj_heap_other (by omega)).trans HT2.out) Tryz.underlying111 rfl (by rw [List.size_toArray, List.length_map, HE.out]; exact size_sector), rfl,
      (HB.out).trans (belowK_b (w := w) (Nat.le_refl _) _ Dd _ _ (by omega) ((setRow_other W.drew (w.heap.size + 1) Dd _ (by omega)).trans hK) rfl rfl)⟩
  case stop =>
    rintro Dd c pre W hDd hSp ⟨⟨rfl, pre0, y, rfl, hI, hy, hT⟩, hB⟩ hK
    have hR : sectorV (x.reads q) = sectorV y.1.1.b := by
      unfold DiskD.reads
      rw [EW.out, find_back ws q pre0 y hSp hI hy]
    have HR := Lib.hid hR
    clear hR
    refine wpIn_wide.2 ?_
    go_wp2_with fail
    rw [HR.out]
    refine ⟨by simp, .inl ⟨_, _, rfl, run_takeDeferred hK, ?_⟩⟩
    exact ⟨_, results_cell_row Tryz.results75 _ _ (w.heap.size + 1) 111 (y.1.1.b.map vu8).toArray (0, 0) _ rfl ((World.putObj_heap_other (by omega)).trans hT) Tryz.underlying111 rfl (by rw [List.size_toArray, List.length_map, y.1.2]; exact size_sector), rfl,
      (hb0.trans hB).trans (belowK_b (w := w) (Nat.le_refl _) _ Dd _ _ (by omega) hK rfl rfl)⟩

theorem reads_any (D : DiskP) (x : DiskD) (q : Int) (w : World) (h : DiskAt w D x) (hx : x.sound) :
    Calls Tryz.prog 75 #[ptr D.p, .int .i64 q] w fun e w' => e = .returned (sectorV (x.reads q)) ∧ Below w.heap.size w w' :=
  callsIn_wide.1 (reads_in 5 (by omega) D x q w h hx)
end Go.Proofs.YtdpniceapmikpaaGreat
namespace Go.Proofs.YtdpniceapmikpaaGreat
open Go.RowKit

def DiskD.after (x : DiskD) (n : Int) : DiskD := if n < 0 ∨ x.size ≤ n then x else x.stepped
def DiskD.read (x : DiskD) (n : Int) : List UInt8 := if x.err n = 0 then x.reads n else sector0
theorem sector_all (b : List UInt8) : (b.map vu8).toArray.all (·.oneCell') = true := by
  rw [List.all_toArray, List.all_eq_true]
  exact sector_one b
theorem sector_size (b : List UInt8) (hb : b.length = 512) : (Tryz.prog.info? 111).map (·.size) = some (b.map vu8).toArray.size := by rw [List.size_toArray, List.length_map, hb]; exact size_sector
theorem sector_eq (b c : List UInt8) (hb : b.length = 512) (hc : c.length = 512) : (b.map vu8).toArray.size = (c.map vu8).toArray.size := by rw [List.size_toArray, List.size_toArray, List.length_map, List.length_map, hb, hc]
theorem out_row {w : World} {F : Nat → Prop} {g : Nat} (cs : Array Value) (hg : F g) : Out F w (w.setRow g cs) :=
  ⟨rfl, rfl, rfl, by simp, fun j _ hn => setRow_other w g j cs (fun e => hn (by rw [e]; exact hg))⟩

set_option maxRecDepth 100000 in
set_option maxHeartbeats 4000000 in
theorem dget_any (D : DiskP) (x : DiskD) (gd gn go : Nat) (q : Int) (b0 : List UInt8) (hb0 : b0.length = 512) (w : World) (h : DiskAt w D x) (hx : x.sound)
    (cd : w.cell? ⟨gd, 0, none⟩ = some (ptr D.p)) (cn : w.cell? ⟨gn, 0, none⟩ = some (.int .i64 q)) (bo : Blk w go 111 (b0.map vu8).toArray) :
    Calls Tryz.prog 147 #[.pointer (some ⟨gd, 0, none⟩), .pointer (some ⟨gn, 0, none⟩), .pointer (some ⟨go, 0, none⟩)] w fun e w' =>
    e = .returned (.tuple #[]) ∧ Blk w' go 111 ((x.reads q).map vu8).toArray ∧ Out (fun i => i = go) w w' := by
  have HR := Lib.hid (reads_any D x q w h hx)
  have hl := x.reads_len hx q
  have hone := sector_all (x.reads q)
  have hsz := sector_size _ hl
  have hse := sector_eq _ _ hb0 hl
  have HB := Lib.hid bo
  unfold ptr sectorV at *
  clear h hx bo
  generalize x.reads q = b at *
  go_enter Tryz.func147, Tryz.ntmps147
  go_wp2_with fail
  refine HR.out.mono ?_; rintro e w1 ⟨rfl, hb⟩
  have hB1 := HB.out.below hb HB.out.lt
  go_wp2_with (refine wpList_store_row rfl 111 _ _ rfl go (b.map vu8).toArray rfl rfl 111 _ hB1 hsz hse hone ?_)
  exact bodyPost_end (v := .tuple #[]) (by simp [results, Tryz.results147, go_sem]) rfl ⟨rfl, hB1.row _, Out.trans (F := fun i => i = go) (G := fun i => i = go) (outB hb) (out_row _ rfl) (fun _ _ h => h)⟩

set_option maxRecDepth 100000 in
set_option maxHeartbeats 4000000 in
theorem dread_any (D : DiskP) (x : DiskD) (n : Int) (w : World) (h : DiskAt w D x) (hx : x.ok) :
    Calls Tryz.prog 118 #[ptr D.p, .int .i64 n] w fun e w' => e = .returned (.tuple #[sectorV (x.read n), .int .i64 (x.err n)]) ∧ DiskAt w' D (x.after n) ∧ DStep D D w w' := by
  obtain ⟨W, eW⟩ : ∃ W, W = (((w.alloc (Obj.cells #[Value.pointer (some { block := D.p, off := 0 })] 37)).alloc (Obj.cells #[Value.int IntKind.i64 n] 3)).alloc (Obj.cells Tryz.zeroCells111 111)).alloc (Obj.cells Tryz.zeroCells111 111) := ⟨_, rfl⟩
  have hbW : Below w.heap.size w W := by rw [eW]; exact ((((Below.refl _ w).alloc (Nat.le_refl _) _).alloc (by simp) _).alloc (by simp; omega) _).alloc (by simp; omega) _
  have hWs : W.heap.size = w.heap.size + 4 := by rw [eW]; simp
  have n3 : ¬ D.has (w.heap.size + 1 + 1 + 1) := has_new h (by omega) (w' := w)
  have n2 : ¬ D.has (w.heap.size + 1 + 1) := has_new h (by omega) (w' := w)
  have b2 : Blk W (w.heap.size + 1 + 1) 111 (sector0.map vu8).toArray := by rw [eW, ← zero111]; exact (Blk.new' (by simp)).alloc _
  have b3 : Blk W (w.heap.size + 1 + 1 + 1) 111 (sector0.map vu8).toArray := by rw [eW, ← zero111]; exact Blk.new' (by simp)
  have hl0 : sector0.length = 512 := List.length_replicate
  have HC : Calls Tryz.prog 83 #[.pointer (some { block := D.p, off := 0 }), .int .i64 n, .func (.func 147) #[] #[.pointer (some ⟨w.heap.size, 0, none⟩), .pointer (some ⟨w.heap.size + 1, 0, none⟩), .pointer (some ⟨w.heap.size + 1 + 1 + 1, 0, none⟩)]] W
      fun e w' => e = .returned (.int .i64 (x.err n)) ∧ DiskAt w' D (x.after n) ∧ Out (fun i => D.has i ∨ i = w.heap.size + 1 + 1 + 1) W w' ∧ Blk w' (w.heap.size + 1 + 1 + 1) 111 ((x.read n).map vu8).toArray := by
    have hW := h.below hbW
    unfold DiskD.read DiskD.after
    by_cases h1 : n < 0 ∨ x.size ≤ n
    · have he : x.err n = 4 := by unfold DiskD.err; rw [if_pos h1]
      rw [he, if_pos h1, if_neg (by omega)]
      refine (dstep_range D x n _ W hW hx h1).mono ?_
      rintro e w1 ⟨rfl, rfl⟩
      exact ⟨rfl, hW, Out.refl _ _, b3⟩
    · have h2 : 0 ≤ n ∧ n < x.size := by omega
      by_cases h3 : x.steps ∈ x.fails
      · have he : x.err n = 120 := by unfold DiskD.err; rw [if_neg h1, if_pos h3]
        rw [he, if_neg h1, if_neg (by omega)]
        refine (dstep_fails D x n _ W hW hx h2 h3).mono ?_
        rintro e w1 ⟨rfl, ha, hs⟩
        exact ⟨rfl, ha, ⟨hs.out.os, hs.out.tape, hs.out.output, hs.out.size, fun i hi hn => hs.out.block i hi (fun hd => hn (.inl hd))⟩, hs.out.blk b3 n3⟩
      · have he : x.err n = 0 := by unfold DiskD.err; rw [if_neg h1, if_neg h3]
        rw [he, if_neg h1, if_pos rfl]
        have n0 : ¬ D.has w.heap.size := has_new h (Nat.le_refl _) (w' := w)
        have n1 : ¬ D.has (w.heap.size + 1) := has_new h (by omega) (w' := w)
        have b0 : Blk W w.heap.size 37 #[.pointer (some ⟨D.p, 0, none⟩)] := by rw [eW]; exact (((Blk.new w _ _).alloc _).alloc _).alloc _
        have b1 : Blk W (w.heap.size + 1) 3 #[.int .i64 n] := by rw [eW]; exact ((Blk.new2 w _ _ _).alloc _).alloc _
        clear eW
        refine dstep_do _ (callFunc_is Tryz.func147 rfl rfl) _ _ _ (fun w' => DiskAt w' D x.stepped ∧ Out (fun i => D.has i ∨ i = w.heap.size + 1 + 1 + 1) W w' ∧ Blk w' (w.heap.size + 1 + 1 + 1) 111 ((x.reads n).map vu8).toArray) D x n W hW hx h2 h3 ?_
        intro w1 ha hs
        refine (dget_any D x.stepped _ _ _ n sector0 hl0 w1 ha hx.sound ((hs.out.blk b0 n0).cell_is 0 rfl) ((hs.out.blk b1 n1).cell_is 0 rfl) (hs.out.blk b3 n3)).mono ?_
        rintro e w2 ⟨rfl, hb2, ho2⟩
        exact ⟨rfl, ha.out ho2 (fun i hi e => n3 (e ▸ hi)), ⟨ho2.os.trans hs.out.os, ho2.tape.trans hs.out.tape, ho2.output.trans hs.out.output, Nat.le_trans hs.out.size ho2.size,
          fun i hi hn => (ho2.block i (by have := hs.out.size; omega) (fun e => hn (.inr e))).trans (hs.out.block i hi (fun e => hn (.inl e)))⟩, hb2⟩
  have HH := Lib.hid HC
  have HX := Lib.hid (show (x.read n).length = 512 by unfold DiskD.read; split; exact x.reads_len hx.sound n; exact hl0)
  have HHAS := Lib.hid (h.has_lt)
  have HBW := Lib.hid hbW
  have HB2 := Lib.hid b2
  have HWS := Lib.hid hWs
  clear HC hbW h b2 b3 hWs
  generalize hE : x.err n = er at *
  generalize hRd : x.read n = rd at *
  generalize x.after n = xa at *
  clear hE hRd
  have HW2 := HB2
  unfold ptr sectorV at *
  go_enter Tryz.func118, Tryz.ntmps118
  go_wp2_with fail
  rw [← eW]
  refine HH.out.mono ?_
  rintro e w1 ⟨rfl, ha, ho, hb⟩
  have k2 := ho.blk HB2.out (fun hd => hd.elim n2 (by omega))
  go_wp2_with (first
    | (refine wpList_load_row rfl 111 _ rfl (w.heap.size + 1 + 1 + 1) rfl 111 (rd.map vu8).toArray (0, 0) _ hb Tryz.underlying111 rfl (sector_size _ HX.out) ?_)
    | (refine wpList_store_row rfl 111 _ _ rfl (w.heap.size + 1 + 1) (rd.map vu8).toArray rfl rfl 111 _ k2 (sector_size _ HX.out) (sector_eq _ _ hl0 HX.out) (sector_all _) ?_))
  refine bodyPost_ret (results_row_tmp Tryz.results118 _ _ (w.heap.size + 1 + 1) 111 (rd.map vu8).toArray (0, 0) _ rfl (k2.row _) Tryz.underlying111 rfl (sector_size _ HX.out) _ rfl) rfl ?_
  have ho2 := Out.trans (F := fun i => (D.has i ∨ i = w.heap.size + 1 + 1 + 1) ∨ i = w.heap.size + 1 + 1) (G := fun i => i = w.heap.size + 1 + 1) (⟨ho.os, ho.tape, ho.output, ho.size, fun i hi hn => ho.block i hi (fun hd => hn (.inl hd))⟩ : Out _ W w1) (out_row (rd.map vu8).toArray rfl) (fun _ _ => .inr)
  refine ⟨rfl, ha.out (F := fun i => i = w.heap.size + 1 + 1) (out_row _ rfl) (fun i hi e => n2 (e ▸ hi)), ⟨?_, rfl, fun i hi => .inl hi⟩⟩
  have hb := HBW.out
  have hs := HWS.out
  exact ⟨ho2.os.trans hb.os, ho2.tape.trans hb.tape, ho2.output.trans hb.output, Nat.le_trans hb.size ho2.size, fun i hi hn => (ho2.block i (by omega) (fun hd => by rcases hd with (hd | hd) | hd <;> first | exact hn hd | omega)).trans (hb.block i hi)⟩
end Go.Proofs.YtdpniceapmikpaaGreat
namespace Go.Proofs.YtdpniceapmikpaaGreat
open Go.RowKit Go.Shelf

attribute [local go_sem] Oper.semAt_some

/-- the blocks of S are as they were -/
structure KeepsB (S : Nat → Prop) (W W' : World) : Prop where
  size : W.heap.size ≤ W'.heap.size
  block : ∀ i, S i → i < W.heap.size → W'.heap[i]? = W.heap[i]?
theorem KeepsB.refl (S : Nat → Prop) (W : World) : KeepsB S W W := ⟨Nat.le_refl _, fun _ _ _ => rfl⟩
theorem KeepsB.trans {S : Nat → Prop} {A B C : World} (h : KeepsB S A B) (k : KeepsB S B C) : KeepsB S A C := ⟨Nat.le_trans h.size k.size, fun i hi hl => (k.block i hi (by have := h.size; omega)).trans (h.block i hi hl)⟩
theorem keepsB_t {S : Nat → Prop} {A B C : World} (h : KeepsB S A B) (k : KeepsB S B C) : KeepsB S A C := h.trans k
theorem keepsB_b {S : Nat → Prop} {w : World} (hS : ∀ i, S i → i < w.heap.size) (W : World) (l : Nat) (o o' : Obj) (hl : w.heap.size ≤ l) (_ : W.heap[l]? = some o) (_ : o.isCells = false) (_ : o.isWalk = false) : KeepsB S W (W.putObj l o') :=
  ⟨by simp, fun i hi _ => World.putObj_heap_other (by have := hS i hi; omega)⟩
theorem KeepsB.alloc (S : Nat → Prop) (W : World) (o : Obj) : KeepsB S W (W.alloc o) := ⟨by simp, fun i _ hl => Below.heap_alloc W o i hl⟩
theorem KeepsB.of {S : Nat → Prop} {B : Nat} {W W' : World} (h : Below B W W') (hS : ∀ i, S i → i < B) : KeepsB S W W' := ⟨h.size, fun i hi _ => h.block i (hS i hi)⟩
theorem KeepsB.cell {S : Nat → Prop} {W W' : World} (h : KeepsB S W W') {g i : Nat} (hg : S g) (hl : g < W.heap.size) : W'.cell? ⟨g, i, none⟩ = W.cell? ⟨g, i, none⟩ := World.cell?_of_block (a := ⟨g, i, none⟩) (h.block g hg hl)

theorem wpIn_store_is {F : Fence} {n : Nat} {P : Program} {o : Oper} {a : Act} {K : Act → World → Prop} {Q : Exit → Act → World → Prop} (w w' : World) (ty : TypeId) (x y : Operand) (ho : o.op = .store ty x y) (p v : Value) (hx : a.eval x = p) (hy : a.eval y = v)
    (hl : (Instr.storeAt ty p v).run P w = .ok () w') (h : K (a.put o.dst undef) w') : o.wpIn F n P a w K Q := by
  unfold Oper.wpIn
  refine ⟨by simp [Oper.about, ho], ?_⟩
  rw [Oper.semAt_plain F _ _ (by rw [ho]; intro c hc'; cases hc')]
  unfold execOp
  simp only [ho, hx, hy, hl, Sem.run_bind, Sem.run_pure, Result.andThen_ok]
  exact h
theorem run_storeAt_row {P : Program} (w : World) (g : Nat) (t ty : TypeId) (old cells : Array Value) (hg : w.heap[g]? = some (.cells old t (0, 0))) (hi : (P.info? ty).map (·.size) = some cells.size) (ho : old.size = cells.size) (h1 : cells.all (·.oneCell') = true) :
    (Instr.storeAt ty (.pointer (some ⟨g, 0, none⟩)) (.agg cells)).run P w = .ok () (w.setRow g cells) := by
  simp only [Instr.storeAt, Instr.sureAddr, Sem.run_bind, Sem.run_pure, Result.andThen_ok, run_storeVar_row w g t ty old cells hg hi ho h1]

def vw (y : WaitS) : Array Value := #[.agg y.1.cells.toArray]
theorem wait_size (y : WaitS) : (Tryz.prog.info? 161).map (·.size) = some y.1.cells.toArray.size := by rw [List.size_toArray, WaitD.len _ y.2]; exact size_wait

set_option maxRecDepth 100000 in
set_option maxHeartbeats 2000000 in
theorem all1_in (n : Nat) (hn : 1 ≤ n) (l Bs : Nat) (S : Nat → Prop) (D : DiskP) (x : DiskD) (ws : List WaitS) (hws : x.waits = ws.map (·.1)) (J Jx : List WaitS → World → Prop)
    (hA : ∀ pre W o, J pre W → J pre (W.alloc o))
    (hY : ∀ pre y W, J pre W → pre.length < ws.length → YieldAt Fence.wide (n - 1) Tryz.prog l (vw y) W fun e W' =>
      (e = .returned (.bool true) ∧ J (pre ++ [y]) W' ∧ KeepsB S W W') ∨ (e = .returned (.bool false) ∧ Jx (pre ++ [y]) W'))
    (W : World) (hBs : W.cell? ⟨Bs, 0, none⟩ = some (ptr D.p)) (hD : DiskAt W D x) (hx : x.ok) (hS : ∀ g, D.wv.ownBlock = some g → S g) (h0 : J [] W) :
    CallsIn Fence.wide n Tryz.prog 128 #[.func (.yield l) #[] #[], .pointer (some ⟨Bs, 0, none⟩)] W fun e W' => (∃ v, e = .returned v) ∧
      ((∃ ys, ys = ws ∧ J ys W') ∨ (∃ pre, pre <+: ws ∧ Jx pre W')) := by
  have hro : Fence.wide.round = none := rfl
  have hN := dnone_any D x W hD hx
  have c2 := hD.blk.cell_is 2 rfl
  obtain ⟨hmax, hws2, a, cap, ev, hc⟩ := hD.waitsIn hx.sound
  have el : x.waits.length = ws.length := by rw [hws, List.length_map]
  rw [el] at ev hmax
  rw [hws] at hc
  rw [ev] at c2 hS
  have HS := Lib.hid hS
  have EV := Lib.hid ev
  unfold ptr at *
  clear hD hx hws hws2 el ev hS
  refine callsIn_of_wp Tryz.func128 rfl trivial ?_ hro
  simp only [Tryz.ntmps128, List.size_toArray, List.length_cons, List.length_nil, Nat.reduceAdd, Nat.reduceSub, Array.replicate_succ, Array.replicate_zero, List.push_toArray, List.append_toArray, List.nil_append, List.cons_append]
  gi_wp2
  refine ⟨trivial, (callsIn_wide.2 hN).mono ?_⟩
  rintro e w' ⟨rfl, rfl⟩
  gi_wp2
  gi_loopw [12] (fun i wr => ∃ k : Nat, k ≤ ws.length ∧ i = .int .i64 (k : Int) ∧ J (ws.take k) wr ∧ KeepsB S W wr)
    (fun i _ => ws.length - (intOf i).toNat)
  case atStart => exact ⟨0, Nat.zero_le _, rfl, h0, KeepsB.refl _ _⟩
  case round =>
    obtain ⟨k, hk, rfl, hJs, hnx⟩ := hrel
    by_cases hlt : k < ws.length
    · obtain ⟨g, rfl, hg, hrg⟩ := hc k (ws[k]'hlt).1 (by rw [List.getElem?_map, List.getElem?_eq_getElem hlt]; rfl)
      have hSg : S g := HS.out g rfl
      have hlt' : (k : Int) < (ws.length : Int) := by omega
      have hlen1 : (ws.take k).length < ws.length := by rw [List.length_take]; omega
      have hLT : ws.take (k + 1) = ws.take k ++ [ws[k]'hlt] := by rw [List.take_add_one, List.getElem?_eq_getElem hlt]; rfl
      generalize ws[k]'hlt = y at *
      obtain ⟨fn, tmps, assign, body, hy, hR⟩ := hY _ y _ (hA _ wr (.cells y.1.cells.toArray 161) hJs) hlen1
      have hld := run_loadAt_mid (P := Tryz.prog) wr g (k * 513) 161 y.1.cells _ (fun j u hj => (hnx.cell hSg hg).trans (hrg j u hj)) Tryz.underlying161 rfl (by rw [WaitD.len _ y.2]; exact size_wait)
      have hst := run_storeAt_row (P := Tryz.prog) _ wr.heap.size 161 161 Tryz.zeroCells161 y.1.cells.toArray (heap_alloc_new wr _) (wait_size y) (by rw [zero161, List.size_toArray, WaitD.len _ y.2]) (wait_all y.1)
      rw [World.setRow_alloc_new] at hst
      have hld2 := run_loadAt_mid (P := Tryz.prog) _ wr.heap.size 0 161 y.1.cells _ (fun j u hj => (Blk.new wr 161 y.1.cells.toArray).cell_is (0 + j) (by rw [List.getElem?_toArray, Nat.zero_add]; exact hj)) Tryz.underlying161 rfl (by rw [WaitD.len _ y.2]; exact size_wait)
      simp only [vw] at hy
      gi_wp2_with (first
        | (refine wpIn_load_is _ 161 _ rfl _ _ rfl hld ?_)
        | (refine wpListIn_plain rfl fun _ hK => wpIn_store_is _ _ 161 _ _ rfl _ _ rfl rfl hst (hK _ _ ?_))
        | (refine wpIn_load_is _ 161 _ rfl _ _ rfl hld2 ?_))
      refine hR.mono ?_
      rintro e W3 (⟨rfl, hJ3, hk3⟩ | ⟨rfl, hJx3⟩)
      · gi_wp2
        go_roundw
        case rel => exact ⟨k + 1, by omega, by simp, by rw [hLT]; exact hJ3, (hnx.trans (KeepsB.alloc _ _ _)).trans hk3⟩
        case measure => simp [intOf]; omega
      · gi_wp2
        refine bodyPost_ret (results_none rfl _ _ _) rfl ?_
        exact ⟨⟨_, rfl⟩, .inr ⟨_, by rw [← hLT]; exact List.take_prefix _ _, hJx3⟩⟩
    · obtain rfl : k = ws.length := by omega
      rw [List.take_length] at hJs
      gi_wp2
      go_end0
      exact ⟨⟨_, rfl⟩, .inl ⟨_, rfl, hJs⟩⟩

set_option maxHeartbeats 1000000 in
theorem all_in (n : Nat) (g : Nat) (w : World) :
    CallsIn Fence.wide n Tryz.prog 85 #[ptr g] w fun e w' => e = .returned (.func (.func 128) #[] #[.pointer (some ⟨w.heap.size, 0, none⟩)]) ∧ w' = w.alloc (.cells #[ptr g] 37) := by
  have hro : Fence.wide.round = none := rfl
  unfold ptr
  refine callsIn_of_wp Tryz.func85 rfl trivial ?_ hro
  simp only [Tryz.ntmps85, List.size_toArray, List.length_cons, List.length_nil, Nat.reduceAdd, Nat.reduceSub, Array.replicate_succ, Array.replicate_zero, List.push_toArray, List.append_toArray, List.nil_append, List.cons_append]
  gi_wp2
  go_ret
  exact ⟨rfl, rfl⟩

theorem all_stops (n : Nat) (hn : 1 ≤ n) (Bs : Nat) (S : Nat → Prop) (D : DiskP) (x : DiskD) (ws : List WaitS) (hws : x.waits = ws.map (·.1)) (w : World) (hBs : Bs < w.heap.size) (hc : w.cell? ⟨Bs, 0, none⟩ = some (ptr D.p)) (hD : DiskAt w D x) (hx : x.ok) (hS : ∀ g, D.wv.ownBlock = some g → S g) :
    SeqStopsK Fence.wide n Tryz.prog 128 #[.pointer (some ⟨Bs, 0, none⟩)] vw (KeepsB S) (fun ys => ys = ws) (fun pre => pre <+: ws) ws.length w := fun l J Jx W hW hJ _ hY h0 =>
  all1_in n hn l Bs S D x ws hws J Jx (fun pre W' o h => hJ pre W' _ none h (World.grownBy_alloc _ _ _) (fun r e => by cases e)) hY W ((hW.cell (p := ⟨Bs, 0, none⟩) hBs).trans hc) (hD.below hW) hx hS h0
end Go.Proofs.YtdpniceapmikpaaGreat
namespace Go.Proofs.YtdpniceapmikpaaGreat
open Go.RowKit Go.Shelf

attribute [local go_sem] Oper.semAt_some

theorem ownsRow_own {W W' : World} {row : Option Nat} {B k : Nat} {e : TypeId} {v : Value} {n : Nat} {xs : List Value} (h : W.ownsRow B e k v n xs) (hg : W.grownBy W' row) (hr : ∀ r, row = some r → ∃ o : Obj, W.heap[r]? = some o ∧ o.isCells = false) : W'.ownsRow B e k v n xs := by
  obtain ⟨hl, ⟨rfl, h0⟩ | ⟨g, cap, cur, rfl, hB, hgg, hrest⟩⟩ := h
  · exact ⟨hl, .inl ⟨rfl, h0⟩⟩
  · refine ⟨hl, .inr ⟨g, cap, cur, rfl, hB, (hg.block g (lt_of_block hgg) (fun e => ?_)).trans hgg, hrest⟩⟩
    obtain ⟨o, ho, hc⟩ := hr g e.symm
    rw [hgg] at ho
    cases ho
    cases hc
theorem keepsOthers_grown {W W' : World} {row : Option Nat} (h : W.grownBy W' row) (hr : ∀ r, row = some r → ∃ o : Obj, W.heap[r]? = some o ∧ o.isCells = true) : KeepsOthers W W' :=
  ⟨h.size, fun k o hk hc => (h.block k (Array.getElem?_eq_some_iff.1 hk).1 (fun e => by obtain ⟨o', ho, hc'⟩ := hr k e.symm; rw [hk] at ho; cases ho; rw [hc] at hc'; cases hc')).trans hk⟩
theorem ownsRow_cells {w : World} {B k : Nat} {e : TypeId} {v : Value} {n : Nat} {xs : List Value} (h : w.ownsRow B e k v n xs) (r : Nat) (hr : v.ownBlock = some r) : ∃ o : Obj, w.heap[r]? = some o ∧ o.isCells = true := by
  rcases h.2 with ⟨rfl, _⟩ | ⟨g, cap, cur, rfl, _, h3, _⟩
  · cases hr
  · obtain rfl : g = r := by simpa [Value.ownBlock] using hr
    exact ⟨_, h3, rfl⟩
theorem info_i64 : (Tryz.prog.info? 3).map (fun i => (i.zero, i.size, i.bytes)) = some (some (.int .i64 0), 1, 8) := by kernel_rfl

set_option maxRecDepth 100000 in
set_option maxHeartbeats 4000000 in
theorem waits_in (n : Nat) (hn : 3 ≤ n) (D : DiskP) (x : DiskD) (w : World) (h : DiskAt w D x) (hx : x.ok) :
    CallsIn Fence.wide n Tryz.prog 38 #[ptr D.p] w fun e w' => (∃ a cap, e = .returned (.slice a x.waits.length cap)) ∧ Below w.heap.size w w' := by
  have h1 : 1 ≤ n := by omega
  have hro : Fence.wide.round = none := rfl
  have hlt := h.has_lt
  obtain ⟨ws, ews⟩ := waitS_of x.waits hx.2.2.2.1
  have hb0 : Below w.heap.size w ((w.alloc (.cells #[.slice none 0 0] 24)).alloc (.cells #[ptr D.p] 37)) := ((Below.refl _ w).alloc (Nat.le_refl _) _).alloc (by simp) _
  have hS := all_stops (n - 1) (by omega) (w.heap.size + 1) (fun i => i < w.heap.size) D x ws ews ((w.alloc (.cells #[.slice none 0 0] 24)).alloc (.cells #[ptr D.p] 37)) (by simp) ((Blk.new2 w _ _ _).cell_is 0 rfl) (h.below hb0) hx (fun g hg => hlt g (.inr (.inr (.inl hg))))
  have HS := Lib.hid hS
  have el : x.waits.length = ws.length := by rw [ews, List.length_map]
  have hmax : ws.length ≤ 1000000 := by rw [← el]; exact hx.2.2.2.2.2.2
  rw [el]
  clear hS h hx ews el hlt
  unfold ptr at *
  refine callsIn_of_wp_marks Tryz.func38 rfl trivial ?_ hro
  simp only [Tryz.ntmps38, List.size_toArray, List.length_cons, List.length_nil, Nat.reduceAdd, Nat.reduceSub, Array.replicate_succ, Array.replicate_zero, List.push_toArray, List.append_toArray, List.nil_append, List.cons_append]
  refine wpIn_wide.2 ?_
  go_wp2_with fail
  refine (callsIn_wide.1 (all_in 5 D.p _)).mono ?_; rintro e w2 ⟨rfl, rfl⟩
  go_wp2_with fail
  refine (wpIn_wide (n := n)).1 ?_
  refine wpIn_rangeFunc_ownH hro h1 (gf := 128) (lb := #[.pointer (some ⟨w.heap.size + 1, 0, none⟩)]) rfl trivial (enters_of Tryz.func128 (by kernel_rfl) rfl)
    HS.out keepsB_t (keepsB_b (fun i hi => by simp; omega)) (Below.refl _ _) (fun _ => rfl)
    (fun pre W => (∃ v, Blk W w.heap.size 24 #[v] ∧ W.ownsRow (w.heap.size + 2) 3 1 v pre.length (pre.map fun y => .int .i64 y.1.n)) ∧ Below w.heap.size ((w.alloc (.cells #[.slice none 0 0] 24)).alloc (.cells #[.pointer (some ⟨D.p, 0, none⟩)] 37)) W)
    (fun c pre W => False)
    (OwnFrom.and (fun s A B row hs hg hr => by obtain ⟨v, hb, ho⟩ := hs; exact ⟨v, hb.own hg (fun r e => (hr r e).2), ownsRow_own ho hg (fun r e => (hr r e).2)⟩) (ownFrom_below (by simp; omega) (by simp; omega)))
    (fun _ _ _ _ _ hs _ _ => hs)
    ⟨⟨_, (Blk.new w _ _).alloc _, World.ownsRow_nil _ _ _ _⟩, Below.refl _ _⟩
    (fun y a' W => ∃ g, a' = { tmps := #[.pointer (some ⟨D.p, 0, none⟩), undef, .slice none 0 0, .pointer (some ⟨w.heap.size, 0, none⟩), .pointer (some ⟨g, 0, none⟩), .pointer (some ⟨D.p, 0, none⟩), .func (.func 128) #[] #[.pointer (some ⟨w.heap.size + 1, 0, none⟩)], .agg y.1.cells.toArray, undef, undef, undef, undef, undef, undef], defers := [] } ∧ w.heap.size + 2 ≤ g ∧ Blk W g 161 y.1.cells.toArray)
    (fun y a' => (fun s A B row hs hg hr => by obtain ⟨g, e, hgg, hb⟩ := hs; exact ⟨g, e, hgg, hb.own hg (fun r e => (hr r e).2)⟩)) ?assign ?body ?done ?stop
  case assign =>
    intro l pre y W K hI hK
    have hzip : (#[7].zip (vw y)).foldl (fun t (p : Nat × Value) => t.setIfInBounds p.1 p.2) #[.pointer (some ⟨D.p, 0, none⟩), undef, .slice none 0 0, .pointer (some ⟨w.heap.size, 0, none⟩), undef, .pointer (some ⟨D.p, 0, none⟩), .func (.func 128) #[] #[.pointer (some ⟨w.heap.size + 1, 0, none⟩)], undef, undef, undef, undef, undef, undef, undef] = #[.pointer (some ⟨D.p, 0, none⟩), undef, .slice none 0 0, .pointer (some ⟨w.heap.size, 0, none⟩), undef, .pointer (some ⟨D.p, 0, none⟩), .func (.func 128) #[] #[.pointer (some ⟨w.heap.size + 1, 0, none⟩)], .agg y.1.cells.toArray, undef, undef, undef, undef, undef, undef] := by kernel_rfl
    dsimp only
    rw [hzip]
    clear hzip
    gi_wp2_with (refine wpListIn_store_row rfl rfl 161 _ _ rfl W.heap.size y.1.cells.toArray rfl rfl 161 Tryz.zeroCells161 (heap_alloc_new W _) (wait_size y) (by rw [zero161, List.size_toArray, WaitD.len _ y.2]) (wait_all y.1) ?_; rw [World.setRow_alloc_new])
    have hsz := hI.2.size
    rw [World.size_alloc, World.size_alloc] at hsz
    obtain ⟨v, hv, ho⟩ := hI.1
    exact hK _ _ ((KeepsOthers.alloc W _).from _) (KeepsB.alloc _ _ _) ⟨⟨v, hv.alloc _, ownsRow_own ho (World.grownBy_alloc _ _ none) (fun r e => by cases e)⟩, hI.2.alloc (by omega) _⟩ ⟨_, rfl, by omega, Blk.new W _ _⟩
  case body =>
    rintro l pre y a' W hl hr ⟨⟨v, hv, ho⟩, hB⟩ ⟨g, rfl, hg, hG⟩ hlen
    obtain ⟨i0, hi0, hz0, hz1, hz2⟩ := info_parts info_i64
    have cG : W.cell? ⟨g, 0, none⟩ = some (.int .i64 y.1.n) := hG.cell_is 0 rfl
    have cV := hv.cell_is 0 rfl
    have hsz := hB.size
    rw [World.size_alloc, World.size_alloc] at hsz
    have hO := Lib.hid (ownsRow_own ho (World.grownBy_alloc W (.cells #[.int .i64 y.1.n] 3) none) (fun r e => by cases e))
    have hV := Lib.hid hv
    have hHB := Lib.hid hB
    have hHG := Lib.hid hG
    have hne : ∀ i, v.ownBlock = some i → i ≠ w.heap.size := ne_own ho hv (by decide)
    have hlt2 := hv.lt
    clear ho hv hB hG
    obtain ⟨q, hq⟩ : ∃ q, y.1.n = q := ⟨_, rfl⟩
    rw [hq] at cG hO
    have HQ := Lib.hid hq
    clear hq
    gi_wp2_with (refine wpListIn_append_own _ rfl _ _ _ rfl (w.heap.size + 2) 3 i0 _ 1 8 Tryz.underlying24 hi0 hz0 hz1 hz2 rfl (by omega) v pre.length _ rfl hO.out ⟨W.heap.size, 0, none⟩ 1 1 [.int .i64 q] rfl rfl (World.news_of_block (cs := #[.int .i64 q]) (t := 3) (fr := (0, 0)) (heap_alloc_new W _)) (by simp [Value.oneCell']) (by unfold maxLen; omega) (by omega) (by simp; omega) ?_; intro v2 w2 hO2 hg2 hn2; obtain ⟨g3, cap3, rfl, hg3, hlt3⟩ := hO2.form (by omega); have hV2 : Blk w2 w.heap.size 24 #[v] := (hg2.block _ (by simp; omega) (fun e => hne _ e.symm rfl)).trans (hV.out.alloc _); have cV2 := hV2.cell_is 0 rfl; have fV2 := hV2.frozen 0)
    have hE : ∀ i, (Value.slice (some ⟨g3, 0, none⟩) (pre.length + 1) cap3).ownBlock = some i → i ≠ w.heap.size := ne_own hO2 hV2 (by decide)
    refine ⟨((KeepsOthers.alloc W (.cells #[.int .i64 q] 3)).trans ((keepsOthers_grown hg2 (ownsRow_cells hO.out)).trans (KeepsOthers.setCell w2 _ _))).from _, ?_, ⟨_, hV2.set_ 0 _, ?_⟩, ?_⟩
    · refine (KeepsB.alloc _ W (.cells #[.int .i64 q] 3)).trans (KeepsB.trans (B := w2) ⟨hg2.size, fun i hi hl => hg2.block i hl (fun e => ?_)⟩ ⟨by simp, fun i hi hl => Below.heap_setCell w2 _ _ _ (Nat.ne_of_lt hi)⟩)
      have := (hO.out.lt i e.symm).1
      omega
    · have e1 : (pre ++ [y]).length = pre.length + 1 := by simp
      have e2 : (pre ++ [y]).map (fun y : WaitS => Value.int .i64 y.1.n) = pre.map (fun y : WaitS => Value.int .i64 y.1.n) ++ [.int .i64 q] := by rw [List.map_append, ← HQ.out]; rfl
      rw [e1, e2]
      exact ownsRow_out (F := fun i => i = w.heap.size) (out_set rfl) hO2 (fun i hi => hE i hi)
    · exact ((hHB.out.alloc (by omega) _).grown hg2 (by simp; omega) (fun r hr => by have := (hO.out.lt r hr).1; omega)).setCell (p := ⟨w.heap.size, 0, none⟩) (Nat.le_refl _) _
  case done =>
    rintro Dd ys W hD rfl ⟨⟨v, hv, ho⟩, hB⟩ hK
    have cV := hv.cell_is 0 rfl
    have hv2 : ∃ a cap, v = .slice a ys.length cap := by
      rcases ho.2 with ⟨rfl, h0⟩ | ⟨g, cap, cur, rfl, _⟩
      · exact ⟨none, 0, by rw [h0]⟩
      · exact ⟨_, _, rfl⟩
    obtain ⟨a, cap, rfl⟩ := hv2
    go_wp2_with fail
    refine ⟨by simp, .inl ⟨_, _, rfl, run_takeDeferred hK, ?_⟩⟩
    exact ⟨_, results_tmp rfl _ _ _, ⟨_, _, rfl⟩, (hb0.trans hB).trans (belowK_b (w := w) (Nat.le_refl _) W Dd _ _ (by simp at hD; omega) hK rfl rfl)⟩
  case stop =>
    rintro Dd c pre W _ _ h _
    exact h.elim
theorem waits_any (D : DiskP) (x : DiskD) (w : World) (h : DiskAt w D x) (hx : x.ok) : Calls Tryz.prog 38 #[ptr D.p] w fun e w' => (∃ a cap, e = .returned (.slice a x.waits.length cap)) ∧ Below w.heap.size w w' :=
  callsIn_wide.1 (waits_in 5 (by omega) D x w h hx)
end Go.Proofs.YtdpniceapmikpaaGreat
namespace Go.Proofs.YtdpniceapmikpaaGreat
open Go.RowKit

/-- the first entry of n has v -/
def setOld : List (Int × Value) → Int → Value → List (Int × Value)
  | [], _, _ => []
  | x :: l, n, v => if n == x.1 then (x.1, v) :: l else x :: setOld l n v
theorem setOld_len (l : List (Int × Value)) (n : Int) (v : Value) : (setOld l n v).length = l.length := by
  induction l with
  | nil => rfl
  | cons x l ih => unfold setOld; split <;> simp [ih]
theorem setOld_modify (n : Int) (v : Value) : ∀ (l : List (Int × Value)) (i : Nat) (x : (Int × Value) × Nat), (l.zipIdx i).find? (fun x => n == x.1.1) = some x → i ≤ x.2 ∧ l[x.2 - i]? = some x.1 ∧ x.1.1 = n ∧ setOld l n v = l.modify (x.2 - i) (fun y => (y.1, v))
  | [], _, _, h => by cases h
  | y :: l, i, x, h => by
    simp only [List.zipIdx_cons, List.find?_cons] at h
    cases hh : (n == y.1)
    · rw [hh] at h
      obtain ⟨h1, h2, h3, h4⟩ := setOld_modify n v l (i + 1) x h
      have e : x.2 - i = (x.2 - (i + 1)) + 1 := by omega
      refine ⟨by omega, by rw [e]; exact h2, h3, ?_⟩
      unfold setOld
      rw [hh, e, h4]
      simp
    · rw [hh] at h
      cases h
      refine ⟨Nat.le_refl _, by simp, by simpa using (beq_iff_eq.1 hh).symm, ?_⟩
      unfold setOld
      rw [hh]
      simp
theorem look_setOld (l : List (Int × Value)) (n : Int) (v : Value) (m : Int) : lookOf (setOld l n v) m = if m = n ∧ (lookOf l n).isSome = true then some v else lookOf l m := by
  induction l with
  | nil => simp [setOld, lookOf]
  | cons x l ih =>
    unfold setOld
    cases hh : (n == x.1)
    · have hn : n ≠ x.1 := by simpa using hh
      simp only [Bool.false_eq_true, if_false]
      unfold lookOf at ih ⊢
      simp only [List.find?_cons, hh]
      cases hm : (m == x.1)
      · exact ih
      · have : m ≠ n := by rw [beq_iff_eq.1 hm]; exact Ne.symm hn
        simp [this]
    · obtain rfl : n = x.1 := by simpa using hh
      simp only [if_true]
      unfold lookOf
      simp only [List.find?_cons, beq_self_eq_true]
      by_cases hm : m = x.1
      · subst hm; simp
      · have : (m == x.1) = false := by simpa using hm
        simp [this, hm]
theorem look_push (l : List (Int × Value)) (n : Int) (v : Value) (hn : lookOf l n = none) (m : Int) : lookOf (l ++ [(n, v)]) m = if m = n then some v else lookOf l m := by
  induction l with
  | nil =>
    by_cases h : m = n
    · subst h; simp [lookOf]
    · have : (m == n) = false := by simpa using h
      simp [lookOf, this, h]
  | cons x l ih =>
    unfold lookOf at hn ih ⊢
    simp only [List.find?_cons, List.cons_append] at hn ⊢
    cases h1 : (n == x.1)
    · rw [h1] at hn
      cases h2 : (m == x.1)
      · exact ih hn
      · have : m ≠ n := by rw [beq_iff_eq.1 h2]; intro e; rw [e] at h1; simp at h1
        simp [this]
    · rw [h1] at hn
      cases hn
theorem entriesOf_at (kd : IntKind) (l : List (Int × Value)) (k : Nat) : (entriesOf kd l)[k]? = l[k]?.map fun x => ⟨.int kd x.1, x.2, k⟩ := by
  unfold entriesOf
  rw [List.getElem?_toArray, List.getElem?_map, List.getElem?_zipIdx]
  cases l[k]? <;> simp

section
variable {P : Program} {t k e : TypeId} {kd : IntKind}
theorem run_sameInt {P : Program} (w : World) (kd : IntKind) (n : Int) : (Instr.keyThatStays (.int kd n) (.int kd n)).run P w = .ok (.int kd n) w := by
  unfold Instr.keyThatStays
  simp [Instr.sameBits]
theorem run_insert_old (w : World) (ht : P.underlying t = some (.map k e)) (hk : P.underlying k = some (.int kd)) (r : Nat) (l : List (Int × Value)) (hm : MapAt w r kd l) (n : Int) (hn : (lookOf l n).isSome = true) (v : Value) :
    ∃ w', (Instr.mapUpdate t (.map (some r)) (.int kd n) v).run P w = .ok () w' ∧ MapAt w' r kd (setOld l n v) ∧ Turn r w w' := by
  have hf := find_zipIdx n l 0
  obtain ⟨u, hu⟩ := Option.isSome_iff_exists.1 hn
  rw [hu] at hf
  obtain ⟨x, hx, hv⟩ := Option.map_eq_some_iff.1 hf
  obtain ⟨_, h2, h3, h4⟩ := setOld_modify n v l 0 x hx
  rw [Nat.sub_zero] at h2 h4
  have hkey : (((entriesOf kd l)[x.2]?).map (·.key)).getD (.int kd n) = .int kd n := by rw [entriesOf_at, h2]; simp [h3]
  refine ⟨{ w with heap := w.heap.setIfInBounds r (.map ((entriesOf kd l).modify x.2 fun e => { e with key := .int kd n, val := v }) l.length) }, ?_, ?_, ?_⟩
  · unfold Instr.mapUpdate
    simp only [Sem.run_bind, run_underlying ht, Result.andThen, MapKept.run_getObj_map hm, run_checkKey_int w false 9999 hk, run_findKey w hk, hx, Option.map_some, hkey, run_sameInt]
    exact MapKept.run_setObj_map _ hm
  · unfold MapAt
    have e1 : entriesOf kd (setOld l n v) = (entriesOf kd l).modify x.2 fun e => { e with key := .int kd n, val := v } := by
      apply Array.ext_getElem?
      intro j
      rw [entriesOf_at, Array.getElem?_modify, entriesOf_at, h4, List.getElem?_modify]
      by_cases hj : x.2 = j
      · subst hj
        simp [h2, h3]
      · simp [hj]
    rw [e1, setOld_len]
    simp [hm.lt]
  · exact ⟨rfl, rfl, rfl, by simp, fun i hi => by simp [Array.getElem?_setIfInBounds_ne (fun e => hi e.symm)]⟩
/-- a store, whether the key is new or not -/
theorem run_insert (w : World) (ht : P.underlying t = some (.map k e)) (hk : P.underlying k = some (.int kd)) (r : Nat) (l : List (Int × Value)) (hm : MapAt w r kd l) (n : Int) (v : Value) :
    ∃ w' l', (Instr.mapUpdate t (.map (some r)) (.int kd n) v).run P w = .ok () w' ∧ MapAt w' r kd l' ∧ (∀ m, lookOf l' m = if m = n then some v else lookOf l m) ∧ Turn r w w' := by
  cases h : lookOf l n with
  | none =>
    obtain ⟨w', h1, h2, h3⟩ := run_insert_new (P := P) w ht hk r l hm n h v
    exact ⟨w', _, h1, h2, look_push l n v h, h3⟩
  | some u =>
    obtain ⟨w', h1, h2, h3⟩ := run_insert_old (P := P) w ht hk r l hm n (by rw [h]; rfl) v
    exact ⟨w', _, h1, h2, fun m => by rw [look_setOld, h]; simp, h3⟩
end
end Go.Proofs.YtdpniceapmikpaaGreat
