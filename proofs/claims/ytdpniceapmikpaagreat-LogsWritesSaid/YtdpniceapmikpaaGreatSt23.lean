/-
  One step of logs.Write; where logs.Write stands.
  A store of a function's value into a variable.
  The first number behind the magic, whose bytes are a constant's: the list moves to a row of its own.
  The law of a range over an iterator, where the variables of a round are boxed.
  logs.parts of a state that changes while the loop runs: the numbers alone are known. (Turned from LParts.)
  given, deferred, where the frame returns: within the wide fence.
-/
import Derived.ArgAppend
import Derived.RecoverIn
import Derived.Test.YtdpniceapmikpaaGreatSt18
import Derived.Test.YtdpniceapmikpaaGreatSt20
import Derived.Test.YtdpniceapmikpaaGreatSt22
set_option linter.unusedVariables false
set_option linter.unusedSimpArgs false
namespace Go.Proofs.YtdpniceapmikpaaGreat
open Go.RowKit

set_option maxRecDepth 100000 in
set_option maxHeartbeats 4000000 in
theorem wstep_any (D : DiskP) (x : DiskD) (db : Nat) (u : Value) (y : WaitS) (w : World) (h : DiskAt w D x) (hx : x.ok) (hd : Blk w db 37 #[ptr D.p]) (hu : StepAt w db u y) :
  ∃ gn gb, u = .func (.func 53) #[] #[.pointer (some ⟨db, 0, none⟩), .pointer (some ⟨gn, 0, none⟩), .pointer (some ⟨gb, 0, none⟩)] ∧
  Calls Tryz.prog 53 #[.pointer (some ⟨db, 0, none⟩), .pointer (some ⟨gn, 0, none⟩), .pointer (some ⟨gb, 0, none⟩)] w fun e w' => e = .returned (.int .i64 (x.err y.1.n)) ∧ ∃ D', DiskAt w' D' (x.write y.1.n y.1.b) ∧ DStep D D' w w' := by
 obtain ⟨gn, gb, e, h1, h2⟩ := hu
 refine ⟨gn, gb, e, ?_⟩
 have HW := Lib.hid (dwrite_any D x y.1.n y.1.b w h hx y.2)
 have c0 := hd.cell_is 0 rfl
 have c1 := h1.cell_is 0 rfl
 have H2 := Lib.hid h2
 have hsz := sector_size y.1.b y.2
 unfold ptr sectorV at *
 clear h hx hd h1 h2 e
 go_enter Tryz.func53, Tryz.ntmps53
 go_wp2_with (refine wpList_load_row rfl 111 _ rfl gb rfl 111 (y.1.b.map vu8).toArray (0, 0) _ H2.out Tryz.underlying111 rfl hsz ?_)
 refine HW.out.mono ?_
 rintro e w1 ⟨rfl, hR⟩
 go_wp2_with fail
 go_ret
 exact ⟨rfl, hR⟩

/-- where logs.Write stands while it notes its steps: the boxes m .. m+3 of its arguments; those of its steps, of lay, of the head; the bytes of the head -/
structure WInv (sb lb hb : Nat) (w W : World) (dp : Nat) (N area : Int) (fv : Array Value) (v hv : Value) (vals : List Value) (ys : List WaitS) (l : List UInt8) : Prop where
 bd : Blk W w.heap.size 37 #[ptr dp]
 bp : Blk W (w.heap.size + 1) 23 #[.int .i64 N]
 ba : Blk W (w.heap.size + 2) 3 #[.int .i64 area]
 bf : Blk W (w.heap.size + 3) 28 fv
 bs : Blk W sb 115 #[v]
 os : W.ownsRow (w.heap.size + 4) 84 1 v vals.length vals
 bl : Blk W lb 117 #[.func (.func 52) #[] #[.pointer (some ⟨sb, 0, none⟩), .pointer (some ⟨w.heap.size, 0, none⟩)]]
 bh : Blk W hb 122 #[hv]
 oh : W.ownsRow (w.heap.size + 4) 5 1 hv l.length (l.map vu8)
 st : StepsAt W w.heap.size vals ys
 below : Below w.heap.size w W
 s4 : w.heap.size + 4 ≤ sb
 h4 : w.heap.size + 4 ≤ hb
variable {sb lb hb : Nat} {w W W' : World} {dp : Nat} {N area : Int} {fv : Array Value} {v v' hv hv' : Value} {vals : List Value} {ys : List WaitS} {l l' : List UInt8}
theorem WInv.sz (h : WInv sb lb hb w W dp N area fv v hv vals ys l) : w.heap.size + 4 ≤ W.heap.size := by have := h.bf.lt; omega
theorem WInv.far (h : WInv sb lb hb w W dp N area fv v hv vals ys l) (hb' : Below W.heap.size W W') : WInv sb lb hb w W' dp N area fv v hv vals ys l :=
 have k : ∀ {g : Nat} {t : TypeId} {cs : Array Value}, Blk W g t cs → Blk W' g t cs := fun hg => hg.below hb' hg.lt
 ⟨k h.bd, k h.bp, k h.ba, k h.bf, k h.bs, ownsRow_out (F := fun _ => False) (outB hb') h.os (fun _ _ => id), k h.bl, k h.bh, ownsRow_out (F := fun _ => False) (outB hb') h.oh (fun _ _ => id), h.st.keep (fun _ _ _ _ => k), h.below.trans (hb'.mono h.below.size), h.s4, h.h4⟩
theorem own_ne {B k k' : Nat} {e e' : TypeId} {a b : Value} {n n' : Nat} {xs xs' : List Value} (h : W.ownsRow B e k a n xs) (h' : W.ownsRow B e' k' b n' xs') (hne : e ≠ e') (i : Nat) (hi : b.ownBlock = some i) : ¬ a.ownBlock = some i := by
 intro ha
 rcases h'.2 with ⟨rfl, _⟩ | ⟨g, cap, cur, rfl, _, h3, _⟩
 ·cases hi
 ·obtain rfl : g = i := by simpa [Value.ownBlock] using hi
  exact ne_own h (show Blk W g e' cur from h3) hne g ha rfl
/-- the head has grown -/
theorem WInv.head (h : WInv sb lb hb w W dp N area fv v hv vals ys l) (hs : RowStep hb hv hv' W W') (hbx : Blk W' hb 122 #[hv']) (ho : W'.ownsRow (w.heap.size + 4) 5 1 hv' l'.length (l'.map vu8)) : WInv sb lb hb w W' dp N area fv v hv' vals ys l' := by
 have k : ∀ {g : Nat} {t : TypeId} {cs : Array Value}, Blk W g t cs → t ≠ 122 → t ≠ 5 → Blk W' g t cs := fun hg h1 h2 => hs.blk' h.oh hg (Blk.ne_ hg h.bh h1) h2
 refine ⟨k h.bd (by decide) (by decide), k h.bp (by decide) (by decide), k h.ba (by decide) (by decide), k h.bf (by decide) (by decide), k h.bs (by decide) (by decide), ownsRow_out hs.out h.os (fun g hg hd => ?_), k h.bl (by decide) (by decide), hbx, ho,
  h.st.keep (fun g t cs ht hg => k hg (by rcases ht with rfl | rfl <;> decide) (by rcases ht with rfl | rfl <;> decide)), ?_, h.s4, h.h4⟩
 ·rcases hd with rfl | hd
  ·exact ne_own h.os h.bh (by decide) g hg rfl
  ·exact own_ne h.oh h.os (by decide) g hg hd
 ·exact h.below.trans (hs.out.below h.below.size (fun i hi hd => hd.elim (fun e => by have := h.h4; omega) (fun e => by have := (h.oh.lt i e).1; omega)))
/-- a step more is noted -/
theorem WInv.lay (h : WInv sb lb hb w W dp N area fv v hv vals ys l) {u : Value} {y : WaitS} (hs : RowStep sb v v' W W') (hbx : Blk W' sb 115 #[v']) (ho : W'.ownsRow (w.heap.size + 4) 84 1 v' (vals ++ [u]).length (vals ++ [u])) (hu : StepAt W' w.heap.size u y) : WInv sb lb hb w W' dp N area fv v' hv (vals ++ [u]) (ys ++ [y]) l := by
 have k : ∀ {g : Nat} {t : TypeId} {cs : Array Value}, Blk W g t cs → t ≠ 115 → t ≠ 84 → Blk W' g t cs := fun hg h1 h2 => hs.blk' h.os hg (Blk.ne_ hg h.bs h1) h2
 refine ⟨k h.bd (by decide) (by decide), k h.bp (by decide) (by decide), k h.ba (by decide) (by decide), k h.bf (by decide) (by decide), hbx, ho, k h.bl (by decide) (by decide), k h.bh (by decide) (by decide), ownsRow_out hs.out h.oh (fun g hg hd => ?_),
  (h.st.keep (fun g t cs ht hg => k hg (by rcases ht with rfl | rfl <;> decide) (by rcases ht with rfl | rfl <;> decide))).snoc hu, ?_, h.s4, h.h4⟩
 ·rcases hd with rfl | hd
  ·exact ne_own h.oh h.bs (by decide) g hg rfl
  ·exact own_ne h.os h.oh (by decide) g hg hd
 ·exact h.below.trans (hs.out.below h.below.size (fun i hi hd => hd.elim (fun e => by have := h.s4; omega) (fun e => by have := (h.os.lt i e).1; omega)))
end Go.Proofs.YtdpniceapmikpaaGreat
namespace Go.Proofs.YtdpniceapmikpaaGreat
open Go.RowKit

theorem run_store_one {P : Program} (w : World) (g : Nat) (t ty : TypeId) (old v : Value) (hg : Blk w g t #[old]) (hi : (P.info? ty).map (·.size) = some 1) (hv : v.cells = #[v]) (h1 : v.oneCell' = true) :
  (Instr.storeAt ty (.pointer (some ⟨g, 0, none⟩)) v).run P w = .ok () (w.setCell ⟨g, 0, none⟩ v) := by
 have hc := hg.cell_is 0 rfl
 have hf := hg.frozen 0
 obtain ⟨i, hi', hn⟩ := Option.map_eq_some_iff.1 hi
 have hs : (storeCells ⟨g, 0, none⟩ [v]).run P w = .ok () (w.setCell ⟨g, 0, none⟩ v) := by
  have := run_store P w ⟨g, 0, none⟩ v .plain h1
  rw [hc] at this
  simp only [hf] at this
  simp [storeCells, Addr.add, this]
 simp [Instr.storeAt, Instr.sureAddr, storeVar, hv, run_sizeOf w hi', Program.cellsOf, hi', hn, hs, Result.andThen]
theorem wpList_store_one {P : Program} {ops : Array Oper} {rest : List Oper} {o : Oper} {a : Act} {w : World} {Q : Exit → Act → World → Prop} (hgd : o.guard = none) (ty : TypeId) (x y : Operand) (ho : o.op = .store ty x y)
  (g : Nat) (t : TypeId) (old v : Value) (hx : a.eval x = .pointer (some ⟨g, 0, none⟩)) (hy : a.eval y = v) (hg : Blk w g t #[old]) (hi : (P.info? ty).map (·.size) = some 1) (hv : v.cells = #[v]) (h1 : v.oneCell' = true)
  (h : wpList P ops Q rest (a.put o.dst undef) (w.setCell ⟨g, 0, none⟩ v)) : wpList P ops Q (o :: rest) a w :=
 wpList_plain hgd fun _ hK => by
  unfold Oper.wp execOp
  simp only [ho, hx, hy, run_store_one w g t ty old v hg hi hv h1, Sem.run_bind, Sem.run_pure, Result.andThen_ok]
  exact hK _ _ h
theorem set_new (w : World) (t : TypeId) (old v : Value) : (w.alloc (.cells #[old] t)).setCell ⟨w.heap.size, 0, none⟩ v = w.alloc (.cells #[v] t) := by
 rw [setCell_eq_setRow _ w.heap.size 0 #[old] t (0, 0) v (heap_alloc_new w _), World.setRow_alloc_new]
 rfl
end Go.Proofs.YtdpniceapmikpaaGreat
namespace Go.Proofs.YtdpniceapmikpaaGreat
open Go.RowKit

theorem wpList_append_grows (w : World) {ops : Array Oper} {rest : List Oper} {o : Oper} {a : Act} {Q : Exit → Act → World → Prop} (hgd : o.guard = none) (s x : Operand)
  (ho : o.op = .call { callee := .builtin .append, args := #[s, x], argTypes := #[26, 26] })
  (b : Addr) (n cap : Nat) (olds : List UInt8) (hs : a.eval s = .slice (some b) n cap) (hlo : olds.length = n) (holds : ∀ j u, (olds.map vu8)[j]? = some u → w.cell? (b.add j) = some u)
  (A : Addr) (m c : Nat) (l : List UInt8) (hx : a.eval x = .slice (some A) m c) (hm : l.length = m) (hnews : ∀ j u, (l.map vu8)[j]? = some u → w.cell? (A.add j) = some u) (hg : cap < n + m) (hbytes : n + m ≤ 1000000)
  (h : ∀ v' w', w'.ownsRow w.heap.size 5 1 v' (n + m) (olds.map vu8 ++ l.map vu8) → w.grownBy w' none → wpList Tryz.prog ops Q rest (a.put o.dst v') w') : wpList Tryz.prog ops Q (o :: rest) a w := by
 obtain ⟨i0, hi0, hz0, hz1, hz2⟩ := info_parts info_u8
 refine wpList_plain hgd fun _ hK => ?_
 obtain ⟨v', w', hrun, h2, h3⟩ := run_append_arg_grows (P := Tryz.prog) w 26 o.type 5 i0 (.int .u8 0) 1 1 Tryz.underlying26 hi0 hz0 hz1 hz2 rfl (by omega) b n cap (olds.map vu8) (by simp [hlo]) holds A m c (l.map vu8) (by simp [hm]) hnews hg (by unfold maxLen; omega) (by omega)
 unfold Oper.wp execOp
 simp only [ho, resolve, invoke, builtin, Sem.run_bind, Sem.run_pure, Result.andThen_ok, List.map_toArray, List.map_cons, List.map_nil, hs, hx, hrun]
 exact hK _ _ (h v' w' h2 h3)

set_option maxRecDepth 100000 in
set_option maxHeartbeats 1000000 in
theorem lnumber_first (g r n : Nat) (t : TypeId) (mg : List UInt8) (hmg : mg.length = 4) (w : World) (hn : (n : Int) ≤ 9223372036854775807) (hc : Blk w g t #[.slice (some ⟨r, 0, none⟩) 4 4]) (ht : t ≠ 5) (hr : r < w.heap.size)
  (hm : ∀ j u, (mg.map vu8)[j]? = some u → w.cell? ⟨r, j, none⟩ = some u) :
  Calls Tryz.prog 55 #[ptr g, .int .i64 n, .int .i64 8] w fun e w' => e = .returned (.tuple #[]) ∧ ∃ v', Blk w' g t #[v'] ∧ w'.ownsRow w.heap.size 5 1 v' (mg ++ leB n 8).length ((mg ++ leB n 8).map vu8) ∧ RowStep g (.slice (some ⟨r, 0, none⟩) 4 4) v' w w' := by
 have HP := Lib.hid (put_yes n 8 w (.inr (.inr rfl)) (fun h => absurd h (by decide)) hn)
 have HC := Lib.hid hc
 have hke : (leB n 8).length = 8 := leB_len n 8
 unfold ptr
 clear hc hn
 go_enter Tryz.func55, Tryz.ntmps55
 go_wp2_with fail
 refine HP.out.mono ?_; rintro e w1 ⟨v1, rfl, hv1, hb⟩
 obtain ⟨g1, cap1, e1, hg1, hl1⟩ := World.ownsRow.form hv1 (by omega)
 subst e1
 have hu := BytesIn.own hv1
 have HCC := Lib.hid (HC.out.below hb HC.out.lt)
 have c1 := HCC.out.cell_is 0 rfl
 have hlt := HCC.out.lt
 have hsz := hb.size
 have hnews : ∀ j u, ((leB n 8).map vu8)[j]? = some u → w1.cell? ((⟨g1, 0, none⟩ : Addr).add j) = some u := by
  intro j u hj
  rw [List.getElem?_map] at hj
  obtain ⟨c, hcj, rfl⟩ := Option.map_eq_some_iff.1 hj
  obtain ⟨g2, off, h, _, hcell⟩ := hu.at_ hcj
  cases h
  rw [add_at]
  exact hcell
 have holds : ∀ j u, (mg.map vu8)[j]? = some u → w1.cell? ((⟨r, 0, none⟩ : Addr).add j) = some u := by
  intro j u hj
  rw [add_at, Nat.zero_add]
  exact (hb.cell (p := ⟨r, j, none⟩) hr).trans (hm j u hj)
 clear hu hm
 have HBB := Lib.hid hb
 have HKE := Lib.hid hke
 clear hv1 hke hb
 go_wp2_with (at_builtin; refine wpList_append_grows w1 rfl _ _ rfl ⟨r, 0, none⟩ 4 4 mg rfl hmg holds ⟨g1, 0, none⟩ 8 cap1 (leB n 8) rfl HKE.out hnews (by omega) (by omega) ?_; intro v2 w2 hO2 hg2; obtain ⟨g2, cap2, rfl, hg2b, hg2l⟩ := World.ownsRow.form hO2 (by omega); have cc : Blk w2 g t #[.slice (some ⟨r, 0, none⟩) 4 4] := (hg2.block g hlt (fun e => by cases e)).trans HCC.out; have c2 := cc.cell_is 0 rfl; have f2 := cc.frozen 0)
 have hO3 := ownsRow_out (F := fun i => i = g) (out_set (v := .slice (some ⟨g2, 0, none⟩) (4 + 8) cap2) (i := 0) rfl) hO2 (ne_own hO2 cc (Ne.symm ht))
 have hb := HBB.out
 have hk2 := cc.set_ 0 (.slice (some ⟨g2, 0, none⟩) (4 + 8) cap2)
 refine bodyPost_end (v := .tuple #[]) (by simp [results, Tryz.results55, go_sem]) rfl ⟨rfl, _, hk2, ?_, ⟨⟨hg2.os.trans hb.os, hg2.tape.trans hb.tape, hg2.output.trans hb.output, by have := hg2.size; have := hb.size; simp; omega, fun i hi hn => ?_⟩, fun i hi => ?_⟩⟩
 ·rw [List.length_append, hmg, HKE.out, List.map_append]
  obtain ⟨q1, q2⟩ := hO3
  exact ⟨q1, q2.imp id (by rintro ⟨a, b, c, d, e, f⟩; exact ⟨a, b, c, d, by omega, f⟩)⟩
 ·exact (Below.heap_setCell w2 _ _ _ (fun e => hn (.inl e))).trans ((hg2.block i (by omega) (fun e => by cases e)).trans (hb.block i hi))
 ·have : g2 = i := by simpa [Value.ownBlock] using hi
  subst this
  exact .inr (by omega)
end Go.Proofs.YtdpniceapmikpaaGreat
namespace Go.Proofs.YtdpniceapmikpaaGreat
open Go.RowKit Go.Shelf

theorem rangeB {α : Type} {P : Program} {c n : Nat} {g : Operand} {ps : Array Tmp} {assign body : Code} {Q : Exit → Act → World → Prop} {a : Act} {w : World} {gf : Nat} {lb : Array Value} (upd : α → Nat → Array Value → Array Value) (PX : α → Nat → World → Prop)
  (hg : a.eval g = .func (.func gf) #[] lb) (hgf : ∀ args w, (callFunc gf args).run P w = .ok (.enter gf args) w)
  {encs : α → Array Value} {Kp : World → World → Prop} {S Sp : List α → Prop} {N : Nat} (hseq : SeqO c (n - 1) P gf lb encs Kp S Sp N w)
  (hKt : ∀ {A B C : World}, Kp A B → Kp B C → Kp A C) (hKb : ∀ (W : World) (o o' : Obj), W.heap[w.heap.size + 1]? = some o → o.isCells = false → Kp W (W.putObj (w.heap.size + 1) o')) (hps : ∀ x, (encs x).size = ps.size)
  (I : List α → World → Prop) (Ix : Code → List α → World → Prop) (hI : OwnC 2 c w.heap.size I) (hIx : ∀ j, OwnC 2 c w.heap.size (Ix j)) (h0 : I [] w) (hPX : ∀ x g, OwnFrom w.heap.size (fun (_ : Unit) W => PX x g W))
  (hassign : ∀ (l : Nat) (pre : List α) (x : α) (W : World) (K : Act → World → Prop), I pre W → w.heap.size + 2 + c ≤ W.heap.size → (∀ q W', KeepsFrom w.heap.size W W' → Kp W W' → I pre W' → PX x q W' → K { tmps := upd x q a.tmps, defers := [] } W') →
   assign.wpIn (Fence.wide.inRound l) (n - 1 - 1) P (Exit.then K (fun _ _ _ => False)) { tmps := (ps.zip (encs x)).foldl (fun t (p, v) => t.setIfInBounds p v) a.tmps, defers := [] } W)
  (hbody : ∀ (l : Nat) (pre : List α) (x : α) (q : Nat) (W : World), I pre W → PX x q W → pre.length < N → w.heap.size + 2 + c ≤ W.heap.size → body.wpIn (Fence.wide.inRound l) (n - 1 - 1) P (ownPostG w.heap.size Kp I Ix (pre ++ [x]) W) { tmps := upd x q a.tmps, defers := [] } W)
  (hdone : ∀ (D : Nat) (xs : List α) (W : World), w.heap.size ≤ D → S xs → I xs W → W.heap[D]? = some (.deferred (some [])) → Q .normal { a with defers := { target := .collected D, args := #[] } :: a.defers } W)
  (hstop : ∀ (D : Nat) (c : Code) (pre : List α) (W : World), w.heap.size ≤ D → Sp pre → Ix c pre W → W.heap[D]? = some (.deferred (some [])) → c.wpIn Fence.wide n P Q { a with defers := { target := .collected D, args := #[] } :: a.defers } W) :
  (Code.rangeFunc g ps assign body).wpIn Fence.wide n P Q a w :=
 rangeO hg hgf hseq hKt hKb hps I Ix hI hIx h0 (fun x a' W => ∃ q, a' = { tmps := upd x q a.tmps, defers := [] } ∧ PX x q W)
  (fun x a' s A B row hs hg' hr => by obtain ⟨q, e, h⟩ := hs; exact ⟨q, e, hPX x q s A B row h hg' hr⟩)
  (fun l pre x W K h1 h2 hK => hassign l pre x W K h1 h2 (fun q W' k1 k2 k3 k4 => hK _ W' k1 k2 k3 ⟨q, rfl, k4⟩))
  (fun l pre x a' W h1 h2 h3 h4 => by obtain ⟨q, rfl, h⟩ := h2; exact hbody l pre x q W h1 h h3 h4) hdone hstop
theorem zip2 (p q : Nat) (u v : Value) (t : Array Value) : (#[p, q].zip #[u, v]).foldl (fun t (x : Nat × Value) => t.setIfInBounds x.1 x.2) t = (t.setIfInBounds p u).setIfInBounds q v := by kernel_rfl

/-- a step's boxes lie outside of R -/
def FarV (R : Nat → Prop) (u : Value) : Prop := ∀ (k : Nat) (d : Value) (gn gb : Nat), u = .func (.func k) #[] #[d, .pointer (some ⟨gn, 0, none⟩), .pointer (some ⟨gb, 0, none⟩)] → ¬ R gn ∧ ¬ R gb
/-- logs.Write's standing, none of whose blocks is one of R -/
structure WFar (R : Nat → Prop) (v hv : Value) (vals : List Value) : Prop where
 own : ∀ i, v.ownBlock = some i → ¬ R i
 head : ∀ i, hv.ownBlock = some i → ¬ R i
 vals : ∀ u ∈ vals, FarV R u
theorem WInv.farV {R : Nat → Prop} {sb lb hb : Nat} {w W : World} {dp : Nat} {N area : Int} {fv : Array Value} {v hv : Value} {vals : List Value} {ys : List WaitS} {l : List UInt8} (h : WInv sb lb hb w W dp N area fv v hv vals ys l) (hR : ∀ r, R r → W.heap.size ≤ r) : WFar R v hv vals := by
 refine ⟨fun i hi hr => ?_, fun i hi hr => ?_, fun u hu k d gn gb e => ?_⟩
 ·have := hR i hr; have := ownBlock_lt h.os hi; omega
 ·have := hR i hr; have := ownBlock_lt h.oh hi; omega
 ·obtain ⟨j, hj⟩ := List.getElem?_of_mem hu
  have hjl : j < ys.length := by rw [← h.st.1]; exact (List.getElem?_eq_some_iff.1 hj).1
  obtain ⟨gn', gb', e', h1, h2⟩ := h.st.2 j u _ hj (List.getElem?_eq_getElem hjl)
  rw [e] at e'
  have l1 := h1.lt
  have l2 := h2.lt
  simp at e'
  obtain ⟨_, _, rfl, rfl⟩ := e'
  exact ⟨fun hr => by have := hR _ hr; omega, fun hr => by have := hR _ hr; omega⟩
theorem WInv.abide {R : Nat → Prop} {sb lb hb : Nat} {w W W' : World} {dp : Nat} {N area : Int} {fv : Array Value} {v hv : Value} {vals : List Value} {ys : List WaitS} {l : List UInt8} (h : WInv sb lb hb w W dp N area fv v hv vals ys l) (hf : WFar R v hv vals) {row : Option Nat}
  (hg : W.grownBy W' row) (hr : ∀ r, row = some r → w.heap.size ≤ r ∧ (R r ∨ ∃ o : Obj, W.heap[r]? = some o ∧ o.isCells = false)) (hR : ¬ R w.heap.size ∧ ¬ R (w.heap.size + 1) ∧ ¬ R (w.heap.size + 2) ∧ ¬ R (w.heap.size + 3) ∧ ¬ R sb ∧ ¬ R lb ∧ ¬ R hb) :
  WInv sb lb hb w W' dp N area fv v hv vals ys l := by
 have same : ∀ g, ¬ R g → (∃ o, W.heap[g]? = some o ∧ o.isCells = true) → W'.heap[g]? = W.heap[g]? := fun g hn ⟨o, ho, hc⟩ => hg.block g (Array.getElem?_eq_some_iff.1 ho).1 (fun e => by
  rcases (hr g e.symm).2 with hh | ⟨o', ho', hc'⟩
  ·exact hn hh
  ·rw [ho] at ho'; cases ho'; rw [hc] at hc'; cases hc')
 have k : ∀ {g : Nat} {t : TypeId} {cs : Array Value}, Blk W g t cs → ¬ R g → Blk W' g t cs := fun hb hn => (same _ hn ⟨_, hb, rfl⟩).trans hb
 have kr : ∀ {B e n : Nat} {u : Value} {xs : List Value}, W.ownsRow B e 1 u n xs → (∀ i, u.ownBlock = some i → ¬ R i) → W'.ownsRow B e 1 u n xs := by
  intro B e n u xs ho hn
  obtain ⟨hl, ⟨rfl, h0⟩ | ⟨g, cap, cur, rfl, hB, hgg, hrest⟩⟩ := ho
  ·exact ⟨hl, .inl ⟨rfl, h0⟩⟩
  ·exact ⟨hl, .inr ⟨g, cap, cur, rfl, hB, (same g (hn g rfl) ⟨_, hgg, rfl⟩).trans hgg, hrest⟩⟩
 obtain ⟨r0, r1, r2, r3, rs, rl, rh⟩ := hR
 refine ⟨k h.bd r0, k h.bp r1, k h.ba r2, k h.bf r3, k h.bs rs, kr h.os hf.own, k h.bl rl, k h.bh rh, kr h.oh hf.head, ⟨h.st.1, fun j u y hu hy => ?_⟩, ?_, h.s4, h.h4⟩
 ·obtain ⟨gn, gb, e, h1, h2⟩ := h.st.2 j u y hu hy
  obtain ⟨n1, n2⟩ := hf.vals u (List.mem_of_getElem? hu) _ _ gn gb e
  exact ⟨gn, gb, e, k h1 n1, k h2 n2⟩
 ·exact h.below.grown hg h.below.size (fun r e => (hr r e).1)
theorem RowStep.keepsT {sb B B0 C n : Nat} {W W' : World} {v v' : Value} {xs : List Value} (hs : RowStep sb v v' W W') (hc : Blk W sb 115 #[v]) (ho : W.ownsRow B 84 1 v n xs) (h1 : B0 ≤ sb) (h2 : B0 ≤ B) : KeepsT (fun _ t => t = 115 ∨ t = 84) B0 C W W' := by
 have hl := hc.lt
 refine ⟨hs.out.os, hs.out.tape, hs.out.output, hs.out.size, fun i hi => hs.out.block i (by omega) (fun hd => hd.elim (fun e => by omega) (fun e => by have := (ho.lt i e).1; omega)), fun k o _ hk hk2 => ?_, fun i cs t fr ht hi => ?_⟩
 ·refine (hs.out.block k (Array.getElem?_eq_some_iff.1 hk).1 (fun hd => ?_)).trans hk
  rcases hd with rfl | e
  ·unfold Blk at hc
   rw [hk] at hc
   cases hc
   cases hk2
  ·obtain ⟨o', ho', hc'⟩ := ownsRow_cells ho k e
   rw [hk] at ho'
   cases ho'
   rw [hk2] at hc'
   cases hc'
 ·refine (hs.out.block i (lt_of_block hi) (fun hd => ?_)).trans hi
  rcases hd with rfl | e
  ·unfold Blk at hc
   rw [hi] at hc
   cases hc
   exact ht (.inl rfl)
  ·rcases ho.2 with ⟨rfl, _⟩ | ⟨g, cap, cur, rfl, _, h3, _⟩
   ·cases e
   ·obtain rfl : g = i := by simpa [Value.ownBlock] using e
    rw [hi] at h3
    cases h3
    exact ht (.inr rfl)
theorem ownsRow_at {W : World} {B n c : Nat} {e : TypeId} {a : Option Addr} {xs : List Value} (h : W.ownsRow B e 1 (.slice a n c) n xs) {k : Nat} {u : Value} (hk : xs[k]? = some u) : ∃ g, a = some ⟨g, 0, none⟩ ∧ B ≤ g ∧ W.cell? ⟨g, k, none⟩ = some u := by
 rcases h.2 with ⟨h0, h1⟩ | ⟨g, cap, cur, h0, hB, hg, h1, h2, h3, h4⟩
 ·have := h.1
  rw [h1] at this
  have : xs = [] := List.eq_nil_of_length_eq_zero (by omega)
  rw [this] at hk
  cases hk
 ·cases h0
  refine ⟨g, rfl, hB, ?_⟩
  rw [cell_of_row W g k cur e (0, 0) hg, ← Array.getElem?_toList]
  rw [← h4, List.getElem?_take] at hk
  split at hk
  ·exact hk
  ·cases hk
/-- a disk behind writes none of which fails -/
def writesW (x : DiskD) (ys : List WaitS) : DiskD := ys.foldl (fun x y => x.write y.1.n y.1.b) x
theorem writesW_snoc (x : DiskD) (ys : List WaitS) (y : WaitS) : writesW x (ys ++ [y]) = (writesW x ys).write y.1.n y.1.b := by simp [writesW]
theorem DiskAt.free {w : World} {D : DiskP} {x : DiskD} (h : DiskAt w D x) {g : Nat} {t : TypeId} {cs : Array Value} (hb : Blk w g t cs) (h1 : t ≠ 152) (h2 : t ≠ 161) : ¬ D.has g := by
 rintro (e | e | hd | hd)
 ·exact Blk.ne_ hb h.blk h1 e
 ·obtain ⟨l, hm, _⟩ := h.lasts
  exact ne_map hm hb e.symm
 ·exact ne_own h.waits hb (Ne.symm h2) g hd rfl
 ·rcases h.fails with ⟨e, _⟩ | ⟨r, k, e, h3, _⟩
  ·rw [e] at hd; cases hd
  ·rw [e] at hd; cases hd; exact ne_map h3 hb rfl
theorem KeepsT.from {T : Nat → TypeId → Prop} {B C : Nat} {W W' : World} (h : KeepsT T B C W W') : KeepsFrom C W W' := ⟨h.size, fun k o hk ho hc => h.others k o hk ho hc⟩
end Go.Proofs.YtdpniceapmikpaaGreat
namespace Go.Proofs.YtdpniceapmikpaaGreat
open Go.RowKit Go.Shelf

attribute [local go_sem] Oper.semAt_some

def vp2 {N : Nat} (x : Fin N × SecS) : Array Value := #[.int .i64 (x.1.val : Int), .agg (x.2.1.map vu8).toArray]
/-- block g holds m bytes -/
def PageAt (g m : Nat) (W : World) : Prop := ∃ st : List UInt8, st.length = m ∧ Blk W g 5 (st.map vu8).toArray
theorem PageAt.below {g m B : Nat} {W W' : World} (h : PageAt g m W) (hb : Below B W W') (hg : g < B) : PageAt g m W' := by
 obtain ⟨st, h1, h2⟩ := h
 exact ⟨st, h1, h2.below hb hg⟩
theorem PageAt.own {g m : Nat} {W W' : World} {row : Option Nat} (h : PageAt g m W) (hg : W.grownBy W' row) (hr : ∀ r, row = some r → g < r) : PageAt g m W' := by
 obtain ⟨st, h1, h2⟩ := h
 exact ⟨st, h1, (hg.block g h2.lt (fun e => by have := hr g e.symm; omega)).trans h2⟩
theorem PageAt.set_ {g m k : Nat} {W : World} (h : PageAt g m W) (hk : g ≠ k) (v : Value) : PageAt g m (W.setCell ⟨k, 0, none⟩ v) := by
 obtain ⟨st, h1, h2⟩ := h
 exact ⟨st, h1, h2.far hk v⟩
/-- what a round of such a loop keeps -/
structure KeepsU (T : Nat → TypeId → Prop) (C g m : Nat) (W W' : World) : Prop where
 k : KeepsT T 0 C W W'
 p : PageAt g m W → PageAt g m W'
set_option maxRecDepth 100000 in
set_option maxHeartbeats 4000000 in
theorem parts2_in (n : Nat) (hn : 3 ≤ n) (l Bs C : Nat) (T : Nat → TypeId → Prop) (gs : Nat) (st : List UInt8) (J Jx : List (Fin (chunksN st.length) × SecS) → World → Prop) (W : World)
  (hJ : OwnC 0 2 W.heap.size J) (hJx : OwnC 0 2 W.heap.size Jx) (hT : ∀ i, W.heap.size ≤ i → (¬ T i 26 ∧ ¬ T i 3 ∧ ¬ T i 199))
  (hY : ∀ pre x X, J pre X → pre.length < chunksN st.length → W.heap.size + 2 ≤ X.heap.size → YieldAt Fence.wide (n - 1) Tryz.prog l (vp2 x) X fun e W' =>
   (e = .returned (.bool true) ∧ J (pre ++ [x]) W' ∧ KeepsU T C gs st.length X W') ∨ (e = .returned (.bool false) ∧ Jx (pre ++ [x]) W' ∧ KeepsFrom C X W'))
  (hBs : W.cell? ⟨Bs, 0, none⟩ = some (.slice (some ⟨gs, 0, none⟩) st.length st.length)) (hv : PageAt gs st.length W) (hst : st.length ≤ 1000000) (hgs : gs < W.heap.size) (hC : C ≤ W.heap.size) (h0 : J [] W) :
  CallsIn Fence.wide n Tryz.prog 107 #[.func (.yield l) #[] #[], .pointer (some ⟨Bs, 0, none⟩)] W fun e W' => (∃ v, e = .returned v) ∧
   ((∃ ys, ys.map (·.1.val) = List.range (chunksN st.length) ∧ J ys W') ∨ (∃ pre, True ∧ Jx pre W')) := by
 have h1 : 1 ≤ n := by omega
 have hro : Fence.wide.round = none := rfl
 refine callsIn_of_wp_marks Tryz.func107 rfl trivial ?_ hro
 simp only [Tryz.ntmps107, List.size_toArray, List.length_cons, List.length_nil, Nat.reduceAdd, Nat.reduceSub, Array.replicate_succ, Array.replicate_zero, List.push_toArray, List.append_toArray, List.nil_append, List.cons_append]
 refine wpIn_wide.2 ?_
 have hlt := World.block_lt_of_cell? W _ hBs
 go_wp2_with fail
 refine (callsIn_wide.1 (chunk_in 5 _ _ _ _)).mono ?_; rintro e w2 ⟨rfl, rfl⟩
 go_wp2_with fail
 refine (wpIn_wide (n := n)).1 ?_
 obtain ⟨V, eV⟩ : ∃ V, V = (((W.alloc (.cells #[.func (.yield l) #[] #[]] 199)).alloc (.cells #[.int .i64 0] 3)).alloc (.cells #[.slice (some ⟨gs, 0, none⟩) st.length st.length] 26)).alloc (.cells #[.int .i64 512] 3) := ⟨_, rfl⟩
 rw [← eV]
 have hbV : Below W.heap.size W V := by rw [eV]; exact ((((Below.refl _ W).alloc (Nat.le_refl _) _).alloc (by simp) _).alloc (by simp; omega) _).alloc (by simp; omega) _
 have k0 : Blk V W.heap.size 199 #[.func (.yield l) #[] #[]] := by rw [eV]; exact (((Blk.new W _ _).alloc _).alloc _).alloc _
 have k1 : Blk V (W.heap.size + 1) 3 #[.int .i64 0] := by rw [eV]; exact ((Blk.new2 W _ _ _).alloc _).alloc _
 have k2 : Blk V (W.heap.size + 1 + 1) 26 #[.slice (some ⟨gs, 0, none⟩) st.length st.length] := by rw [eV]; exact (Blk.new' (by simp)).alloc _
 have k3 : Blk V (W.heap.size + 1 + 1 + 1) 3 #[.int .i64 512] := by rw [eV]; exact Blk.new' (by simp)
 have hVs : V.heap.size = W.heap.size + 4 := by rw [eV]; simp
 have hJ0 : J [] V := by rw [eV]; exact hJ.from.alloc _ (hJ.from.alloc _ (hJ.from.alloc _ (hJ.from.alloc _ h0)))
 clear eV
 have hT2 := (hT (W.heap.size + 1 + 1) (by omega)).1
 have hT3 := (hT (W.heap.size + 1 + 1 + 1) (by omega)).2.1
 have hTy := (hT W.heap.size (Nat.le_refl _)).2.2
 have hvV : PageAt gs st.length V := hv.below hbV hgs
 have hc : st.length ≤ maxLen := by unfold maxLen; omega
 refine rangeO (gf := 142) (lb := #[.pointer (some ⟨W.heap.size + 1 + 1, 0, none⟩), .pointer (some ⟨W.heap.size + 1 + 1 + 1, 0, none⟩)]) rfl (enters_of Tryz.func142 (by kernel_rfl) rfl)
  (seqO_of_K (chunk_stops (n - 1) (by omega) (W.heap.size + 1 + 1) (W.heap.size + 1 + 1 + 1) 0 (V.heap.size + 2) (fun i t => T i t ∨ i = W.heap.size + 1) (fun h => h.elim hT2 (by omega)) (fun h => h.elim hT3 (by omega)) (some ⟨gs, 0, none⟩) st.length st V k2 k3 hst (Nat.le_refl _) hc) (fun _ _ h => h.size)) keepsT_t (keepsT_b (by omega) (by omega)) (fun _ => rfl)
  (fun pre X => ((∃ ys : List (Fin (chunksN st.length) × SecS), ys.map (·.1.val) = List.range pre.length ∧ J ys X) ∧ PageAt gs st.length X) ∧ (Blk X W.heap.size 199 #[.func (.yield l) #[] #[]] ∧ Blk X (W.heap.size + 1) 3 #[.int .i64 (pre.length : Int)] ∧ KeepsT (fun i t => T i t ∨ i = W.heap.size + 1) 0 (V.heap.size + 2) V X))
  (fun c pre X => c = .ret ∧ ∃ ys, Jx ys X)
  (OwnFrom.zero (fun s A A' row hs hg hr => ⟨⟨by obtain ⟨ys, h1, h2⟩ := hs.1.1; exact ⟨ys, h1, hJ.from _ A A' row h2 hg (fun r e => ⟨by have := (hr r e).1; omega, (hr r e).2⟩)⟩, hs.1.2.own hg (fun r e => by have := (hr r e).1; omega)⟩, hs.2.1.own hg (fun r e => (hr r e).2), hs.2.2.1.own hg (fun r e => (hr r e).2), keepsT_own hs.2.2.2 hg (fun r e => ⟨⟨by have := (hr r e).1; omega, (hr r e).1⟩, (hr r e).2⟩) (by omega)⟩))
  (fun c => OwnFrom.zero (fun s A A' row hs hg hr => ⟨hs.1, by obtain ⟨ys, h2⟩ := hs.2; exact ⟨ys, hJx.from _ A A' row h2 hg (fun r e => ⟨by have := (hr r e).1; omega, (hr r e).2⟩)⟩⟩))
  ⟨⟨⟨[], rfl, hJ0⟩, hvV⟩, k0, k1, KeepsT.refl _ _ _ _⟩
  (fun x a' X => a' = { tmps := #[.func (.yield l) #[] #[], .pointer (some ⟨Bs, 0, none⟩), .pointer (some ⟨W.heap.size, 0, none⟩), .pointer (some ⟨W.heap.size + 1, 0, none⟩), chunkV (some ⟨gs, 0, none⟩) st.length x.val, undef, .slice (some ⟨gs, 0, none⟩) st.length st.length, .func (.func 142) #[] #[.pointer (some ⟨W.heap.size + 1 + 1, 0, none⟩), .pointer (some ⟨W.heap.size + 1 + 1 + 1, 0, none⟩)], chunkV (some ⟨gs, 0, none⟩) st.length x.val, undef, undef, undef, undef, undef, undef, undef, undef, undef, undef], defers := [] })
  (fun x a' s A A' row hs hg hr => hs) ?assign ?body ?done ?stop
 case assign =>
  intro l2 pre x X K hI hX2 hK
  gi_wp2
  exact hK _ _ (KeepsFrom.refl _ _) (KeepsT.refl _ _ _ _) hI rfl
 case body =>
  rintro l2 pre x a' X ⟨⟨⟨ys, hys, hJX⟩, hpg⟩, hy0, hi0, hkt⟩ rfl hlen hXs
  have hyl : ys.length = pre.length := by have := congrArg List.length hys; simpa using this
  have hp : pre.length ≤ 2000000 := by
   have h1 : pre.length < chunksN st.length := hlen
   have h2 : chunksN st.length ≤ 2000000 := by unfold chunksN; omega
   omega
  obtain ⟨st', hst', hbk'⟩ := hpg
  have hch := chunk_bytes (a := some ⟨gs, 0, none⟩) (cap := st'.length) (by have h := blk_bytes hbk' st'.length (Nat.le_refl _) (by unfold maxLen; omega); rwa [List.take_length] at h) x.val (by rw [hst']; exact x.isLt)
  rw [hst'] at hch
  have hb1 := (Below.refl X.heap.size X).alloc (Nat.le_refl _) (.cells Tryz.zeroCells111 111)
  have kz : Blk (X.alloc (.cells Tryz.zeroCells111 111)) X.heap.size 111 (sector0.map vu8).toArray := by rw [← zero111]; exact Blk.new X _ _
  obtain ⟨X2, hr2, hk2, ho2⟩ := run_copy_lay _ X.heap.size 111 sector0 kz X.heap.size _ _ _ 512 (chunkL st' x.val) (hch.below hb1 (Nat.le_refl _)) (by rw [sector0_len]; exact chunkL_len st' x.val) 3
  rw [sector0_len] at hr2
  have hb2 : Below X.heap.size X X2 := hb1.trans (ho2.below hb1.size (fun i hi e => by omega))
  have hpg2 : PageAt gs st.length X2 := PageAt.below ⟨st', hst', hbk'⟩ hb2 hbk'.lt
  have hJ2 : J ys X2 := hJ _ X X2 none hJX ⟨hb2.os, hb2.tape, hb2.output, hb2.size, fun i hi _ => hb2.block i hi⟩ (fun r e => by cases e)
  have hy2 := (hy0.below hb2 hy0.lt).cell_is 0 rfl
  have hi2 := (hi0.below hb2 hi0.lt).cell_is 0 rfl
  have hld := run_loadAt_mid (P := Tryz.prog) X2 X.heap.size 0 111 ((layL sector0 (chunkL st' x.val)).map vu8) _ (fun j v hv => hk2.cell_is (0 + j) (by rw [List.getElem?_toArray, Nat.zero_add]; exact hv)) Tryz.underlying111 rfl (by rw [List.length_map, secOf_len]; exact size_sector)
  obtain ⟨fn, tm, as_, bd, hy, hR⟩ := hY _ (⟨pre.length, hlen⟩, secOf st' x.val) X2 hJ2 (by rw [hyl]; exact hlen) (by have := hb2.size; omega)
  simp only [vp2, secOf] at hy
  have HKT := Lib.hid hkt
  have HB2 := Lib.hid hb2
  have HY0 := Lib.hid hy0
  have HI0 := Lib.hid hi0
  have HPG2 := Lib.hid hpg2
  have HYS := Lib.hid (And.intro hys hyl)
  have KT := Lib.hid (fun (W3 : World) (hk3 : KeepsT T 0 C X2 W3) (v : Value) => (KeepsT.of (T := fun i t => T i t ∨ i = W.heap.size + 1) (B := 0) (C := V.heap.size + 2) hb2 (by omega)).trans ((hk3.weak2 (C' := V.heap.size + 2) (fun i t h => .inl h) (by omega)).trans (keepsT_set (B := 0) (C := V.heap.size + 2) (g := W.heap.size + 1) (by omega) (by omega) (fun t => .inr rfl) W3 v)))
  clear hkt hb1 hb2 hch kz ho2 hJ2 hJX hY hy0 hi0 hpg2 hbk' hys hyl
  gi_wp2_with (first
   | (refine wpListIn_plain rfl fun _ hK => op_round rfl (Lib.wp_copy_run _ (.tmp 9) (.tmp 10) 26 26 rfl _ _ rfl rfl hr2 (hK _ _ ?_)))
   | (refine wpIn_load_is _ 111 _ rfl _ _ rfl hld ?_))
  refine ⟨fun h => (by cases h), (round_any hR).mono ?_⟩
  rintro e W3 (⟨rfl, hJ3, hk3, hp3⟩ | ⟨rfl, hJx3, hkf3⟩)
  ·have hti := (hT (W.heap.size + 1) (by omega)).2.1
   have hi3 := hk3.blk (HI0.out.below HB2.out HI0.out.lt) hti
   have ci3 := hi3.cell_is 0 rfl
   have fi3 := hi3.frozen 0
   have hpl : IntKind.i64.wrap ((pre.length : Int) + 1) = (pre.length : Int) + 1 := by rw [IntKind.wrap_i64]; omega
   gi_wp2
   refine ⟨⟨by have h1 := HB2.out.size; have h2 := hk3.size; simp; omega, fun k o hk ho hc => ?_⟩, ?_, ⟨?_, ?_, ?_, ?_⟩⟩
   ·have h1 := hk3.others k o (by omega) ((HB2.out.block k (Array.getElem?_eq_some_iff.1 ho).1).trans ho) hc
    exact (Below.heap_setCell W3 _ _ _ (by show k ≠ W.heap.size + 1; omega)).trans h1
   ·exact KT.out W3 hk3 _
   ·refine ⟨⟨_, ?_, hJ _ W3 _ (some (W.heap.size + 1)) hJ3 (grownBy_setCell' W3 (W.heap.size + 1) _) (fun r e => by cases e; exact ⟨by omega, .inl ⟨by omega, by omega⟩⟩)⟩, (hp3 HPG2.out).set_ (by omega) _⟩
    rw [List.map_append, HYS.out.1, List.length_append, List.length_singleton, List.range_succ]
    rfl
   ·exact (hk3.blk (HY0.out.below HB2.out HY0.out.lt) hTy).far (p := ⟨W.heap.size + 1, 0, none⟩) (by simp) _
   ·have h := hi3.set_ 0 (.int .i64 ((pre.length : Int) + 1))
    have e : ((pre ++ [x]).length : Int) = (pre.length : Int) + 1 := by simp
    rw [e]
    exact h
   ·exact HKT.out.trans (KT.out W3 hk3 _)
  ·gi_wp2
   exact ⟨⟨by have h1 := HB2.out.size; have h2 := hkf3.size; omega, fun k o hk ho hc => hkf3.same k o (by omega) ((HB2.out.block k (Array.getElem?_eq_some_iff.1 ho).1).trans ho) hc⟩, rfl, _, hJx3⟩
 case done =>
  rintro Dd xs X hDd rfl ⟨⟨⟨ys, hys, hJX⟩, _⟩, _, _, _⟩ hK
  rw [List.length_finRange] at hys
  go_wp2_with fail
  refine ⟨by simp, .inl ⟨_, _, rfl, run_takeDeferred hK, ?_⟩⟩
  exact ⟨_, results_none rfl _ _ _, ⟨_, rfl⟩, .inl ⟨_, hys, hJ.from.putObj _ hJX (by omega) hK rfl⟩⟩
 case stop =>
  rintro Dd c pre X hDd hSp ⟨rfl, zs, hJX⟩ hK
  refine wpIn_wide.2 ?_
  go_wp2_with fail
  refine ⟨by simp, .inl ⟨_, _, rfl, run_takeDeferred hK, ?_⟩⟩
  exact ⟨_, results_none rfl _ _ _, ⟨_, rfl⟩, .inr ⟨_, trivial, hJx.from.putObj _ hJX (by omega) hK rfl⟩⟩

theorem parts2_seq (n : Nat) (hn : 3 ≤ n) (Bs : Nat) (T : Nat → TypeId → Prop) (gs : Nat) (st : List UInt8) (w : World) (hT : ∀ i, w.heap.size ≤ i → (¬ T i 26 ∧ ¬ T i 3 ∧ ¬ T i 199))
  (hBs : Blk w Bs 26 #[.slice (some ⟨gs, 0, none⟩) st.length st.length]) (hv : PageAt gs st.length w) (hst : st.length ≤ 1000000) (hgs : gs < w.heap.size) :
  SeqO 2 n Tryz.prog 107 #[.pointer (some ⟨Bs, 0, none⟩)] (vp2 (N := chunksN st.length)) (KeepsU T (w.heap.size + 2) gs st.length) (fun ys => ys.map (·.1.val) = List.range (chunksN st.length)) (fun _ => True) (chunksN st.length) w :=
 fun l J Jx W hW hWs hJ hJx hY h0 => parts2_in n hn l Bs (w.heap.size + 2) T gs st J Jx W hJ hJx (fun i hi => hT i (by omega)) hY ((hBs.below hW hBs.lt).cell_is 0 rfl) (hv.below hW hgs) hst (by have := hW.size; omega) hWs h0
end Go.Proofs.YtdpniceapmikpaaGreat
namespace Go.Proofs.YtdpniceapmikpaaGreat
open Go.RowKit
attribute [local go_sem] Oper.semAt_some

theorem given_idle_in (n : Nat) (p : Addr) (w : World) :
  CallsDIn Fence.wide n Tryz.prog 68 #[.pointer (some p)] .returning w fun e u' w' => e = .returned (.tuple #[]) ∧ u' = .returning ∧ w' = w := by
 refine callsDIn_of_wpSIn Tryz.func68 rfl trivial (fun c₀ cs hu => ?_)
 apply wpSIn_seq
 apply wpSIn_region
 simp [wpOpsSIn, go_sem, recoverD, hu, Tryz.ntmps68, Exit.thenS]
 refine wpSIn_of_wpIn rfl (wpIn_wide.2 ?_)
 go_wp2_with fail
 cases c₀
 simp_all [bodyPostS, results, Tryz.results68]
end Go.Proofs.YtdpniceapmikpaaGreat
