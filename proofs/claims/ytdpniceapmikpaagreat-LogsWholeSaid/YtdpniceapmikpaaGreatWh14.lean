/-
  slices.Chunk of bytes, by 512.
  A range over an iterator that has loops over iterators of its own: the law, for all loops of a function outside a round, at the wide fence.
-/
import Derived.Test.YtdpniceapmikpaaGreatWh1
import Derived.Test.YtdpniceapmikpaaGreatWh13
set_option linter.unusedVariables false
set_option linter.unusedSimpArgs false
namespace Go.Proofs.YtdpniceapmikpaaGreat
open Go.RowKit Go.Shelf

attribute [local go_sem] Oper.semAt_some

/-- blocks below B, those from C on that hold no cells, and those whose cells are not of the types T, are as they were -/
structure KeepsT (T : Nat → TypeId → Prop) (B C : Nat) (W W' : World) : Prop where
 os : W'.os = W.os
 tape : W'.tape = W.tape
 output : W'.output = W.output
 size : W.heap.size ≤ W'.heap.size
 low : ∀ i, i < B → W'.heap[i]? = W.heap[i]?
 others : ∀ (k : Nat) (o : Obj), C ≤ k → W.heap[k]? = some o → o.isCells = false → W'.heap[k]? = some o
 typed : ∀ (i : Nat) (cs : Array Value) (t : TypeId) (fr : Nat × Nat), ¬ T i t → W.heap[i]? = some (.cells cs t fr) → W'.heap[i]? = some (.cells cs t fr)
theorem KeepsT.refl (T : Nat → TypeId → Prop) (B C : Nat) (W : World) : KeepsT T B C W W := ⟨rfl, rfl, rfl, Nat.le_refl _, fun _ _ => rfl, fun _ _ _ h _ => h, fun _ _ _ _ _ h => h⟩
theorem KeepsT.trans {T : Nat → TypeId → Prop} {B C : Nat} {X Y Z : World} (h : KeepsT T B C X Y) (k : KeepsT T B C Y Z) : KeepsT T B C X Z :=
 ⟨k.os.trans h.os, k.tape.trans h.tape, k.output.trans h.output, Nat.le_trans h.size k.size, fun i hi => (k.low i hi).trans (h.low i hi), fun i o hi ho hc => k.others i o hi (h.others i o hi ho hc) hc, fun i cs t fr ht hi => k.typed i cs t fr ht (h.typed i cs t fr ht hi)⟩
theorem keepsT_t {T : Nat → TypeId → Prop} {B C : Nat} {X Y Z : World} (h : KeepsT T B C X Y) (k : KeepsT T B C Y Z) : KeepsT T B C X Z := h.trans k
theorem keepsT_b {T : Nat → TypeId → Prop} {B C l : Nat} (hB : B ≤ l) (hC : l < C) (W : World) (o o' : Obj) (h : W.heap[l]? = some o) (hc : o.isCells = false) : KeepsT T B C W (W.putObj l o') :=
 ⟨rfl, rfl, rfl, by simp, fun i hi => World.putObj_heap_other (by omega), fun i x hi hx _ => (World.putObj_heap_other (by omega)).trans hx, fun i cs t fr _ hi => (World.putObj_heap_other (fun e => by rw [e, h] at hi; cases hi; cases hc)).trans hi⟩
theorem KeepsT.of {T : Nat → TypeId → Prop} {B C : Nat} {W W' : World} (h : Below W.heap.size W W') (hB : B ≤ W.heap.size) : KeepsT T B C W W' :=
 ⟨h.os, h.tape, h.output, h.size, fun i hi => h.block i (by omega), fun i o _ ho _ => (h.block i (Array.getElem?_eq_some_iff.1 ho).1).trans ho, fun i cs t fr _ hi => (h.block i (lt_of_block hi)).trans hi⟩
theorem KeepsT.drew' (T : Nat → TypeId → Prop) (B C : Nat) (W : World) : KeepsT T B C W W.drew := ⟨rfl, rfl, rfl, Nat.le_refl _, fun _ _ => rfl, fun _ _ _ h _ => h, fun _ _ _ _ _ h => h⟩
theorem KeepsT.blk {T : Nat → TypeId → Prop} {B C : Nat} {W W' : World} (h : KeepsT T B C W W') {g : Nat} {t : TypeId} {cs : Array Value} (hb : Blk W g t cs) (ht : ¬ T g t) : Blk W' g t cs := h.typed g cs t _ ht hb
theorem KeepsT.bytes {T : Nat → TypeId → Prop} {B C : Nat} {W W' : World} (h : KeepsT T B C W W') {v : Value} {l : List UInt8} (hb : BytesIn W B v l) : BytesIn W' B v l := by
 obtain ⟨h1, a, cap, h2, h3, h4⟩ := hb
 refine ⟨h1, a, cap, h2, h3, fun j c hc => ?_⟩
 obtain ⟨g, off, e, hg, hr⟩ := h4 j c hc
 exact ⟨g, off, e, hg, (World.cell?_of_block (a := ⟨g, off + j, none⟩) (h.low g hg)).trans hr⟩

/-- how many sectors bytes take -/
def chunksN (n : Nat) : Nat := (n + 511) / 512
def chunkL (l : List UInt8) (k : Nat) : List UInt8 := (l.drop (512 * k)).take 512
def chunkV (a : Option Addr) (n k : Nat) : Value := .slice (a.map (·.add (512 * k))) (min 512 (n - 512 * k)) (min 512 (n - 512 * k))
theorem chunk_bytes {W : World} {B : Nat} {a : Option Addr} {cap : Nat} {l : List UInt8} (h : BytesIn W B (.slice a l.length cap) l) (k : Nat) (hk : k < chunksN l.length) : BytesIn W B (chunkV a l.length k) (chunkL l k) := by
 unfold chunksN at hk
 obtain ⟨h1, a', cap', e, h3, h4⟩ := h
 injection e with ea el ec
 subst ea
 have hl : (chunkL l k).length = min 512 (l.length - 512 * k) := by unfold chunkL; rw [List.length_take, List.length_drop]
 refine ⟨by rw [hl]; omega, _, _, by rw [hl]; rfl, by rw [hl]; exact Nat.le_refl _, fun j c hj => ?_⟩
 have hj2 : l[512 * k + j]? = some c := by
  unfold chunkL at hj
  rw [List.getElem?_take] at hj
  split at hj
  ·rw [List.getElem?_drop] at hj; exact hj
  ·cases hj
 obtain ⟨g, off, rfl, hg, hcell⟩ := h4 (512 * k + j) c hj2
 refine ⟨g, off + 512 * k, by rw [Option.map_some, add_at], hg, ?_⟩
 rw [Nat.add_assoc]
 exact hcell

set_option maxRecDepth 100000 in
set_option maxHeartbeats 2000000 in
theorem chunk1_in (n : Nat) (hn : 1 ≤ n) (l Bs Bn B C : Nat) (T : Nat → TypeId → Prop) (hT1 : ¬ T Bs 26) (hT2 : ¬ T Bn 3) (a : Option Addr) (cap : Nat) (st : List UInt8) (J Jx : List (Fin (chunksN st.length)) → World → Prop)
  (hA : ∀ pre W, J pre W → J pre W.drew)
  (hY : ∀ pre x W, J pre W → pre.length < chunksN st.length → YieldAt Fence.wide (n - 1) Tryz.prog l #[chunkV a st.length x.val] W fun e W' =>
   (e = .returned (.bool true) ∧ J (pre ++ [x]) W' ∧ KeepsT T B C W W') ∨ (e = .returned (.bool false) ∧ Jx (pre ++ [x]) W'))
  (W : World) (hBs : Blk W Bs 26 #[.slice a st.length cap]) (hBn : Blk W Bn 3 #[.int .i64 512]) (hst : st.length ≤ 1000000) (hcap : st.length ≤ cap) (hc : cap ≤ maxLen) (h0 : J [] W) :
  CallsIn Fence.wide n Tryz.prog 142 #[.func (.yield l) #[] #[], .pointer (some ⟨Bs, 0, none⟩), .pointer (some ⟨Bn, 0, none⟩)] W fun e W' => (∃ v, e = .returned v) ∧
   ((∃ ys, ys = List.finRange (chunksN st.length) ∧ J ys W') ∨ (∃ pre, pre <+: List.finRange (chunksN st.length) ∧ Jx pre W')) := by
 have hro : Fence.wide.round = none := rfl
 refine callsIn_of_wp Tryz.func142 rfl trivial ?_ hro
 simp only [Tryz.ntmps142, List.size_toArray, List.length_cons, List.length_nil, Nat.reduceAdd, Nat.reduceSub, Array.replicate_succ, Array.replicate_zero, List.push_toArray, List.append_toArray, List.nil_append, List.cons_append]
 gi_wp2
 gi_loopw [4] (fun i wr => ∃ k : Nat, k ≤ chunksN st.length ∧ i = .int .i64 ((512 * k : Nat) : Int) ∧ J ((List.finRange (chunksN st.length)).take k) wr ∧ KeepsT T B C W wr)
  (fun i _ => 512 * chunksN st.length - (intOf i).toNat)
 case atStart => exact ⟨0, Nat.zero_le _, rfl, h0, KeepsT.refl _ _ _ _⟩
 case round =>
  obtain ⟨k, hk, rfl, hJs, hnx⟩ := hrel
  have hBs' := (hnx.blk hBs hT1).cell_is 0 rfl
  have hBn' := (hnx.blk hBn hT2).cell_is 0 rfl
  by_cases hlt : k < chunksN st.length
  ·have hlt2 : 512 * k < st.length := by unfold chunksN at hlt; omega
   have i1 : ((512 * k : Nat) : Int) < (st.length : Int) := by omega
   have i2 : (0 : Int) ≤ ((512 * k : Nat) : Int) := by omega
   have i3 : ((512 * k : Nat) : Int) ≤ (st.length : Int) := by omega
   generalize hq : 512 * k = q at *
   gi_wp2
   refine wpIn_wide.2 ?_
   refine wp_region_held_drew (S := (fun w' => w'.cell? ⟨Bs, 0, none⟩ = some (.slice a st.length cap) ∧ w'.cell? ⟨Bn, 0, none⟩ = some (.int .i64 512))) (by kernel_rfl) (by (try dsimp only); (exact ⟨hBs', hBn'⟩)) (fun hHeld => ?_)
   refine tk 0 ?_
   refine tk 1 ?_
   refine tk 2 ?_
   refine tk 3 ?_
   refine tk 4 ?_
   refine tk 5 ?_
   refine tk 6 ?_
   refine wpAnyH_done (by kernel_rfl) ?_ _
   have eE : (min 512 ((st.length - q : Nat) : Int)) = ((min 512 (st.length - q) : Nat) : Int) := by omega
   rw [eE]
   obtain ⟨E, hE⟩ : ∃ E, E = min 512 (st.length - q) := ⟨_, rfl⟩
   rw [← hE]
   have j1 : 0 < E := by omega
   have j2 : (q : Int) + (E : Int) ≤ (cap : Int) := by omega
   have j3 : IntKind.i64.wrap ((q : Int) + (E : Int)) = ((q + E : Nat) : Int) := by unfold maxLen at hc; rw [IntKind.wrap_i64]; omega
   have j4 : ((q + E : Nat) : Int) ≤ (cap : Int) := by omega
   have j5 : (q : Int) ≤ ((q + E : Nat) : Int) := by omega
   have j6 : (0 : Int) ≤ ((q + E : Nat) : Int) := by omega
   have j7 : ¬ q + E = q := by omega
   have j8 : q + E - q = E := by omega
   have hlen1 : ((List.finRange (chunksN st.length)).take k).length < chunksN st.length := by rw [List.length_take, List.length_finRange]; omega
   have hJd := hA _ _ hJs
   have hLT : (List.finRange (chunksN st.length)).take (k + 1) = (List.finRange (chunksN st.length)).take k ++ [⟨k, hlt⟩] := by
    rw [List.take_add_one, List.getElem?_eq_getElem (by rw [List.length_finRange]; exact hlt)]
    simp
   obtain ⟨fn, tmps, assign, body, hy, hR⟩ := hY _ ⟨k, hlt⟩ _ hJd hlen1
   simp only [chunkV, hq] at hy
   rw [← hE] at hy
   have HE := Lib.hid hE
   have HQ := Lib.hid hq
   have HLT := Lib.hid hLT
   clear hE hq hLT eE hY hBs' hBn'
   have hBs' := ((hnx.blk hBs hT1).drew).cell_is 0 rfl
   have hBn' := ((hnx.blk hBn hT2).drew).cell_is 0 rfl
   gi_wp2
   refine hR.mono ?_
   rintro e W3 (⟨rfl, hJ3, hk3⟩ | ⟨rfl, hJx3⟩)
   ·have hkk : KeepsT T B C W W3 := (hnx.trans (KeepsT.drew' T B C wr)).trans hk3
    have hBn3 := (hkk.blk hBn hT2).cell_is 0 rfl
    have hq2 : IntKind.i64.wrap ((q : Int) + 512) = (q : Int) + 512 := by unfold maxLen at hc; rw [IntKind.wrap_i64]; omega
    gi_wp2
    go_roundw
    case rel => exact ⟨k + 1, by omega, by have := HQ.out; congr 1; omega, by rw [HLT.out]; exact hJ3, hkk⟩
    case measure => have := HQ.out; simp [intOf]; omega
   ·gi_wp2
    refine bodyPost_ret (results_none rfl _ _ _) rfl ?_
    exact ⟨⟨_, rfl⟩, .inr ⟨_, by rw [← HLT.out]; exact List.take_prefix _ _, hJx3⟩⟩
  ·obtain rfl : k = chunksN st.length := by omega
   have i1 : ¬ ((512 * chunksN st.length : Nat) : Int) < (st.length : Int) := by unfold chunksN; omega
   gi_wp2
   go_end0
   rw [List.take_of_length_le (by rw [List.length_finRange]; exact Nat.le_refl _)] at hJs
   exact ⟨⟨_, rfl⟩, .inl hJs⟩

theorem chunk_in (n : Nat) (a : Option Addr) (len cap : Nat) (w : World) :
  CallsIn Fence.wide n Tryz.prog 108 #[.slice a len cap, .int .i64 512] w fun e w' => e = .returned (.func (.func 142) #[] #[.pointer (some ⟨w.heap.size, 0, none⟩), .pointer (some ⟨w.heap.size + 1, 0, none⟩)]) ∧ w' = (w.alloc (.cells #[.slice a len cap] 26)).alloc (.cells #[.int .i64 512] 3) := by
 have hro : Fence.wide.round = none := rfl
 refine callsIn_of_wp Tryz.func108 rfl trivial ?_ hro
 simp only [Tryz.ntmps108, List.size_toArray, List.length_cons, List.length_nil, Nat.reduceAdd, Nat.reduceSub, Array.replicate_succ, Array.replicate_zero, List.push_toArray, List.append_toArray, List.nil_append, List.cons_append]
 gi_wp2
 go_ret
 exact ⟨rfl, rfl⟩

theorem chunk_stops (n : Nat) (hn : 1 ≤ n) (Bs Bn B C : Nat) (T : Nat → TypeId → Prop) (hT1 : ¬ T Bs 26) (hT2 : ¬ T Bn 3) (a : Option Addr) (cap : Nat) (st : List UInt8) (w : World)
  (hBs : Blk w Bs 26 #[.slice a st.length cap]) (hBn : Blk w Bn 3 #[.int .i64 512]) (hst : st.length ≤ 1000000) (hcap : st.length ≤ cap) (hc : cap ≤ maxLen) :
  SeqStopsK Fence.wide n Tryz.prog 142 #[.pointer (some ⟨Bs, 0, none⟩), .pointer (some ⟨Bn, 0, none⟩)] (fun x : Fin (chunksN st.length) => #[chunkV a st.length x.val]) (KeepsT T B C) (fun ys => ys = List.finRange (chunksN st.length)) (fun pre => pre <+: List.finRange (chunksN st.length)) (chunksN st.length) w :=
 fun l J Jx W hW hJ _ hY h0 => chunk1_in n hn l Bs Bn B C T hT1 hT2 a cap st J Jx (fun pre W' h => hJ pre W' _ none h ⟨rfl, rfl, rfl, Nat.le_refl _, fun _ _ _ => rfl⟩ (fun r e => by cases e)) hY W (hBs.below hW hBs.lt) (hBn.below hW hBn.lt) hst hcap hc h0
end Go.Proofs.YtdpniceapmikpaaGreat
namespace Go.Proofs.YtdpniceapmikpaaGreat
open Go.RowKit Go.Shelf

/-- an invariant that abides what an iterator does to blocks from B on: to c of them from the d-th on, and to those that hold no cells -/
def OwnC {β : Type} (d c B : Nat) (J : β → World → Prop) : Prop :=
 ∀ s W W' row, J s W → W.grownBy W' row → (∀ r, row = some r → B ≤ r ∧ ((B + d ≤ r ∧ r < B + d + c) ∨ ∃ o : Obj, W.heap[r]? = some o ∧ o.isCells = false)) → J s W'
theorem OwnFrom.zero {β : Type} {d B : Nat} {J : β → World → Prop} (h : OwnFrom B J) : OwnC d 0 B J := fun s W W' row hs hg hr => h s W W' row hs hg (fun r e => ⟨(hr r e).1, (hr r e).2.resolve_left (by omega)⟩)
theorem OwnC.from {β : Type} {d c B : Nat} {J : β → World → Prop} (h : OwnC d c B J) : OwnFrom B J := fun s W W' row hs hg hr => h s W W' row hs hg (fun r e => ⟨(hr r e).1, .inr (hr r e).2⟩)
/-- an iterator's word, where the caller's invariant abides whatever it does to blocks of its own that hold no cells -/
def SeqO {α : Type} (c n : Nat) (P : Program) (g : Nat) (lb : Array Value) (encs : α → Array Value) (Kp : World → World → Prop) (S Sp : List α → Prop) (N : Nat) (w : World) : Prop :=
 ∀ (l : Nat) (J Jx : List α → World → Prop) (W : World), Below w.heap.size w W → w.heap.size + 2 ≤ W.heap.size → OwnC 0 c W.heap.size J → OwnC 0 c W.heap.size Jx →
  (∀ pre x W1, J pre W1 → pre.length < N → W.heap.size + c ≤ W1.heap.size → YieldAt Fence.wide (n - 1) P l (encs x) W1 fun e W' =>
   (e = .returned (.bool true) ∧ J (pre ++ [x]) W' ∧ Kp W1 W') ∨ (e = .returned (.bool false) ∧ Jx (pre ++ [x]) W' ∧ KeepsFrom (w.heap.size + 2) W1 W')) →
  J [] W → CallsIn Fence.wide n P g (#[.func (.yield l) #[] #[]] ++ lb) W fun e W' => (∃ v, e = .returned v) ∧ ((∃ xs, S xs ∧ J xs W') ∨ (∃ pre, Sp pre ∧ Jx pre W'))

/-- the two blocks that a loop keeps its books in -/
structure Books (K : Nat) (r : Loop) (W : World) : Prop where
 loop : W.heap[K + 1]? = some (.loop r)
 shut : W.heap[K]? = some (.deferred (some []))
theorem Books.lt {K : Nat} {r : Loop} {W : World} (h : Books K r W) : K + 1 < W.heap.size := (Array.getElem?_eq_some_iff.1 h.loop).1
theorem Books.keeps {K : Nat} {r : Loop} {W W' : World} (h : Books K r W) (k : KeepsFrom K W W') : Books K r W' := ⟨k.same _ _ (by omega) h.loop rfl, k.same _ _ (Nat.le_refl _) h.shut rfl⟩
theorem Books.put {K : Nat} {r : Loop} {W : World} (h : Books K r W) (r' : Loop) : Books K r' (W.putObj (K + 1) (.loop r')) := ⟨World.putObj_heap_same h.lt, (World.putObj_heap_other (by omega)).trans h.shut⟩
theorem Books.own {K : Nat} {r : Loop} {W W' : World} {row : Option Nat} (h : Books K r W) (hg : W.grownBy W' row) (hr : ∀ q, row = some q → K + 2 ≤ q) : Books K r W' :=
 ⟨(hg.block _ h.lt (fun e => by have := hr _ e.symm; omega)).trans h.loop, (hg.block _ (Nat.lt_of_succ_lt h.lt) (fun e => by have := hr _ e.symm; omega)).trans h.shut⟩

theorem rangeO {α : Type} {P : Program} {c n : Nat} {g : Operand} {ps : Array Tmp} {assign body : Code} {Q : Exit → Act → World → Prop} {a : Act} {w : World} {gf : Nat} {lb : Array Value}
  (hg : a.eval g = .func (.func gf) #[] lb) (hgf : ∀ args w, (callFunc gf args).run P w = .ok (.enter gf args) w)
  {encs : α → Array Value} {Kp : World → World → Prop} {S Sp : List α → Prop} {N : Nat} (hseq : SeqO c (n - 1) P gf lb encs Kp S Sp N w)
  (hKt : ∀ {A B C : World}, Kp A B → Kp B C → Kp A C) (hKb : ∀ (W : World) (o o' : Obj), W.heap[w.heap.size + 1]? = some o → o.isCells = false → Kp W (W.putObj (w.heap.size + 1) o')) (hps : ∀ x, (encs x).size = ps.size)
  (I : List α → World → Prop) (Ix : Code → List α → World → Prop) (hI : OwnC 2 c w.heap.size I) (hIx : ∀ j, OwnC 2 c w.heap.size (Ix j)) (h0 : I [] w) (Ax : α → Act → World → Prop) (hAx : ∀ x a', OwnFrom w.heap.size (fun (_ : Unit) W => Ax x a' W))
  (hassign : ∀ (l : Nat) (pre : List α) (x : α) (W : World) (K : Act → World → Prop), I pre W → w.heap.size + 2 + c ≤ W.heap.size → (∀ a' W', KeepsFrom w.heap.size W W' → Kp W W' → I pre W' → Ax x a' W' → K a' W') →
   assign.wpIn (Fence.wide.inRound l) (n - 1 - 1) P (Exit.then K (fun _ _ _ => False)) { tmps := (ps.zip (encs x)).foldl (fun t (p, v) => t.setIfInBounds p v) a.tmps, defers := [] } W)
  (hbody : ∀ (l : Nat) (pre : List α) (x : α) (a' : Act) (W : World), I pre W → Ax x a' W → pre.length < N → w.heap.size + 2 + c ≤ W.heap.size → body.wpIn (Fence.wide.inRound l) (n - 1 - 1) P (ownPostG w.heap.size Kp I Ix (pre ++ [x]) W) a' W)
  (hdone : ∀ (D : Nat) (xs : List α) (W : World), w.heap.size ≤ D → S xs → I xs W → W.heap[D]? = some (.deferred (some [])) → Q .normal { a with defers := { target := .collected D, args := #[] } :: a.defers } W)
  (hstop : ∀ (D : Nat) (c : Code) (pre : List α) (W : World), w.heap.size ≤ D → Sp pre → Ix c pre W → W.heap[D]? = some (.deferred (some [])) → c.wpIn Fence.wide n P Q { a with defers := { target := .collected D, args := #[] } :: a.defers } W) :
  (Code.rangeFunc g ps assign body).wpIn Fence.wide n P Q a w := by
 refine wpIn_rangeFunc fun fn hfn => ?_
 -- the loop's record, by its state and its jump
 obtain ⟨r, hr⟩ : ∃ r : LoopState → Option Code → Loop, r = fun s j => { state := s, pending := j, fn, tmps := a.tmps, params := ps, assign, body, defers := w.heap.size } := ⟨_, rfl⟩
 obtain ⟨W1, e1⟩ : ∃ W1, W1 = (w.alloc (.deferred (some []))).alloc (.loop (r .ready none)) := ⟨_, rfl⟩
 have hs1 : W1.heap.size = w.heap.size + 2 := by rw [e1]; simp
 have hB1 : Books w.heap.size (r .ready none) W1 := by
  rw [e1]
  exact ⟨by have := World.alloc_heap_new (w.alloc (.deferred (some []))) (.loop (r .ready none)); rwa [World.size_alloc] at this, (Below.heap_alloc _ _ _ (by simp)).trans (World.alloc_heap_new w _)⟩
 have hI1 : I [] W1 := by rw [e1]; exact hI.from.alloc _ (hI.from.alloc _ h0)
 have hb1 : Below w.heap.size w W1 := by rw [e1]; exact ((Below.refl _ w).alloc (Nat.le_refl _) _).alloc (by simp) _
 refine ⟨w.heap.size + 1, [{ target := .collected w.heap.size, args := #[] }], W1, { target := .fn (.func gf) lb, args := #[.func (.yield (w.heap.size + 1)) #[] #[]] }, W1, gf, #[.func (.yield (w.heap.size + 1)) #[] #[]] ++ lb, W1,
  by rw [e1, hr]; exact run_enterLoop_outer _ _ _ _ _, by simp only [resolve, hg]; simp [go_sem], fun f' _ => trivial, by simp [invoke, go_sem, hgf], (fun h => by cases h), ?_⟩
 have hput : ∀ (pre : List α) (W : World) (q q' : Loop), Books w.heap.size q W → I pre W → I pre (W.putObj (w.heap.size + 1) (.loop q')) := fun pre W q q' hb hi => hI.from.putObj _ hi (by omega) hb.loop rfl
 have hKput : ∀ (W : World) (q q' : Loop), Books w.heap.size q W → Kp W (W.putObj (w.heap.size + 1) (.loop q')) := fun W q q' hb => hKb _ _ _ hb.loop rfl
 refine (hseq (w.heap.size + 1) (fun pre W => I pre W ∧ Books w.heap.size (r .ready none) W) (fun pre W => ∃ j, Ix j pre W ∧ Books w.heap.size (r .done (some j)) W) W1 hb1 (by omega)
  (fun s A B row hs hg' hrow => ⟨hI s A B row hs.1 hg' (fun q e => ⟨by have := (hrow q e).1; omega, (hrow q e).2.imp (fun h => by omega) id⟩), hs.2.own hg' (fun q e => by have := (hrow q e).1; omega)⟩)
  (fun s A B row hs hg' hrow => by
   obtain ⟨j, hc, hbk⟩ := hs
   exact ⟨j, hIx j s A B row hc hg' (fun q e => ⟨by have := (hrow q e).1; omega, (hrow q e).2.imp (fun h => by omega) id⟩), hbk.own hg' (fun q e => by have := (hrow q e).1; omega)⟩)
  ?_ ⟨hI1, hB1⟩).mono ?_
 ·rintro pre x W ⟨hi, hbk⟩ hlen hW
  have hW2 : w.heap.size + 2 + c ≤ W.heap.size := by omega
  have hy := run_yield (P := P) (args := encs x) hbk.loop (by rw [hr]; exact hps x)
  rw [hr] at hy
  refine ⟨fn, _, assign, body, hy, roundIn_of_wpIn hfn (hassign _ pre x W _ hi hW2 fun a' V hkV hpV hiV hxV => ?_)⟩
  have hbV := hbk.keeps hkV
  refine ⟨_, run_beginRound hbV.loop (by rw [hr]), ?_⟩
  have hb2 := hbV.put { r .ready none with state := .busy }
  have hi2 := hput pre V _ { r .ready none with state := .busy } hbV hiV
  have hx2 := (hAx x a').putObj (s := ()) (.loop { r .ready none with state := .busy }) hxV (by omega) hbV.loop rfl
  have hp2 := hKput V _ { r .ready none with state := .busy } hbV
  refine wpIn_mono (hbody _ pre x a' _ hi2 hx2 hlen (by have := hkV.size; simp; omega)) ?_
  -- how a round ends
  have fin : ∀ (j : Option Code) (X : World), KeepsFrom w.heap.size (V.putObj (w.heap.size + 1) (.loop { r .ready none with state := .busy })) X →
    (Instr.endRound (w.heap.size + 1) j).run P X = .ok (.bool j.isNone) (X.putObj (w.heap.size + 1) (.loop (r (if j.isNone then .ready else .done) j))) ∧ Books w.heap.size { r .ready none with state := .busy } X := fun j X hX => by
   have hbX := hb2.keeps hX
   have := run_endRound (P := P) j hbX.loop
   rw [hr] at this ⊢
   exact ⟨this, by rw [hr] at hbX; exact hbX⟩
  have hfar : ∀ {q : Loop} (X : World), KeepsFrom w.heap.size (V.putObj (w.heap.size + 1) (.loop { r .ready none with state := .busy })) X → w.heap.size + 1 < X.heap.size → KeepsFrom (w.heap.size + 2) W (X.putObj (w.heap.size + 1) (.loop q)) := fun X hX _ =>
   ⟨by have h1 := hkV.size; have h2 := hX.size; rw [World.putObj_size] at h2 ⊢; omega, fun k o hk ho hc => (World.putObj_heap_other (by omega)).trans (hX.same k o (by omega) ((World.putObj_heap_other (by omega)).trans (hkV.same k o (by omega) ho hc)) hc)⟩
  rintro e a3 X hp
  cases e with
  | normal =>
   obtain ⟨hk3, hkp3, hi3⟩ := hp
   obtain ⟨hrun, hbX⟩ := fin none X hk3
   exact ⟨_, _, hrun, .inl ⟨rfl, ⟨hput _ _ _ _ hbX hi3, hbX.put _⟩, hKt hpV (hKt (hKt hp2 hkp3) (hKput _ _ _ hbX))⟩⟩
  | ret =>
   obtain ⟨hrun, hbX⟩ := fin (some .ret) X hp.1
   exact ⟨_, _, hrun, .inr ⟨rfl, ⟨.ret, (hIx _).from.putObj _ hp.2 (by omega) hbX.loop rfl, hbX.put _⟩, hfar X hp.1 hbX.lt⟩⟩
  | exit id =>
   obtain ⟨hrun, hbX⟩ := fin (some (.exit id)) X hp.1
   exact ⟨_, _, hrun, .inr ⟨rfl, ⟨.exit id, (hIx _).from.putObj _ hp.2 (by omega) hbX.loop rfl, hbX.put _⟩, hfar X hp.1 hbX.lt⟩⟩
  | goto t =>
   obtain ⟨hrun, hbX⟩ := fin (some (.goto t)) X hp.1
   exact ⟨_, _, hrun, .inr ⟨rfl, ⟨.goto t, (hIx _).from.putObj _ hp.2 (by omega) hbX.loop rfl, hbX.put _⟩, hfar X hp.1 hbX.lt⟩⟩
  | panic ch => exact hp.elim
  | outgrown => exact hp.elim
 ·rintro e W2 ⟨⟨v, rfl⟩, (⟨xs, hS, hi, hbk⟩ | ⟨pre, hSp, j, hi, hbk⟩)⟩
  ·have h := run_endLoop (P := P) hbk.loop (by rw [hr]; simp)
   rw [show (r .ready none).pending = none by rw [hr]] at h
   exact ⟨none, _, h, hdone _ xs _ (Nat.le_refl _) hS (hput _ _ _ _ hbk hi) (hbk.put _).shut⟩
  ·have h := run_endLoop (P := P) hbk.loop (by rw [hr]; simp)
   rw [show (r .done (some j)).pending = some j by rw [hr]] at h
   exact ⟨some j, _, h, hstop _ j pre _ (Nat.le_refl _) hSp ((hIx j).from.putObj _ hi (by omega) hbk.loop rfl) (hbk.put _).shut⟩
end Go.Proofs.YtdpniceapmikpaaGreat
