/-
  logs.parts: the sectors of a state.
  must, read, take: what logs.Read is made of.
  logs.take.
  codec's reader: take, number; blank.
-/
import Derived.Test.YtdpniceapmikpaaGreatWh14
set_option linter.unusedVariables false
set_option linter.unusedSimpArgs false
namespace Go.Proofs.YtdpniceapmikpaaGreat
open Go.RowKit Go.Shelf

attribute [local go_sem] Oper.semAt_some

/-- a number of a part -/
abbrev IdxS := { k : Nat // k < 4294967296 }
def mkIdx (k : Nat) : IdxS := if h : k < 4294967296 then ⟨k, h⟩ else ⟨0, by decide⟩
theorem mkIdx_val (k : Nat) (h : k < 4294967296) : (mkIdx k).1 = k := by unfold mkIdx; rw [dif_pos h]
abbrev SecS := { b : List UInt8 // b.length = 512 }
def vp (x : IdxS × SecS) : Array Value := #[.int .i64 x.1.1, .agg (x.2.1.map vu8).toArray]
theorem chunkL_len (st : List UInt8) (k : Nat) : (chunkL st k).length ≤ 512 := by unfold chunkL; rw [List.length_take]; omega
theorem sector0_len : sector0.length = 512 := List.length_replicate
theorem secOf_len (st : List UInt8) (k : Nat) : (layL sector0 (chunkL st k)).length = 512 := by rw [layL_len _ _ (by rw [sector0_len]; exact chunkL_len st k), sector0_len]
def secOf (st : List UInt8) (k : Nat) : SecS := ⟨layL sector0 (chunkL st k), secOf_len st k⟩
def partsOf (st : List UInt8) (l : List (Fin (chunksN st.length))) : List (IdxS × SecS) := l.zipIdx.map fun x => (mkIdx x.2, secOf st x.1.val)
def partL (st : List UInt8) : List (IdxS × SecS) := (List.range (chunksN st.length)).map fun k => (mkIdx k, secOf st k)
theorem partsOf_snoc (st : List UInt8) (l : List (Fin (chunksN st.length))) (x : Fin (chunksN st.length)) : partsOf st (l ++ [x]) = partsOf st l ++ [(mkIdx l.length, secOf st x.val)] := by simp [partsOf, List.zipIdx_append]
theorem partsOf_len (st : List UInt8) (l : List (Fin (chunksN st.length))) : (partsOf st l).length = l.length := by simp [partsOf]
theorem partsOf_all (st : List UInt8) : partsOf st (List.finRange (chunksN st.length)) = partL st := by
 unfold partsOf partL
 apply List.ext_getElem?
 intro i
 rw [List.getElem?_map, List.getElem?_zipIdx, List.getElem?_map]
 by_cases h : i < chunksN st.length
 ·rw [List.getElem?_eq_getElem (by rw [List.length_finRange]; exact h), List.getElem?_eq_getElem (by rw [List.length_range]; exact h)]
  simp
 ·rw [List.getElem?_eq_none (by rw [List.length_finRange]; omega), List.getElem?_eq_none (by rw [List.length_range]; omega)]
  rfl
theorem partsOf_pre (st : List UInt8) (l : List (Fin (chunksN st.length))) (h : l <+: List.finRange (chunksN st.length)) : partsOf st l <+: partL st := by
 obtain ⟨r, e⟩ := h
 rw [← partsOf_all, ← e]
 unfold partsOf
 rw [List.zipIdx_append, List.map_append]
 exact List.prefix_append _ _
theorem seqO_of_K {α : Type} {n : Nat} {P : Program} {g : Nat} {lb : Array Value} {encs : α → Array Value} {Kp : World → World → Prop} {S Sp : List α → Prop} {N : Nat} {w : World} (h : SeqStopsK Fence.wide n P g lb encs Kp S Sp N w) (hK : ∀ A B, Kp A B → A.heap.size ≤ B.heap.size) : SeqO 0 n P g lb encs Kp S Sp N w :=
 fun l J Jx W hW _ hJ hJx hY h0 => (h l (fun pre X => J pre X ∧ W.heap.size ≤ X.heap.size) Jx W hW
  (fun s A B row hs hg hr => ⟨hJ s A B row hs.1 hg (fun r e => ⟨(hr r e).1, .inr (by obtain ⟨o, ho, hw⟩ := (hr r e).2; exact ⟨o, ho, Obj.not_cells_of_walk hw⟩)⟩), Nat.le_trans hs.2 hg.size⟩)
  (fun s A B row hs hg hr => hJx s A B row hs hg (fun r e => ⟨(hr r e).1, .inr (by obtain ⟨o, ho, hw⟩ := (hr r e).2; exact ⟨o, ho, Obj.not_cells_of_walk hw⟩)⟩))
  (fun pre x X hX hl => by
   obtain ⟨fn, tm, asg, bd, hy, hR⟩ := hY pre x X hX.1 hl hX.2
   refine ⟨fn, tm, asg, bd, hy, hR.mono ?_⟩
   rintro e V (⟨he, hv, hk⟩ | ⟨he, hv⟩)
   ·exact .inl ⟨he, ⟨hv, Nat.le_trans hX.2 (hK _ _ hk)⟩, hk⟩
   ·exact .inr ⟨he, hv.1⟩)
  ⟨h0, Nat.le_refl _⟩).mono (by
   rintro e V ⟨hv, (⟨xs, hx, hj⟩ | hx)⟩
   ·exact ⟨hv, .inl ⟨xs, hx, hj.1⟩⟩
   ·exact ⟨hv, .inr hx⟩)
theorem round_any {n m l l2 : Nat} {P : Program} {f : FuncId} {tm : Array Value} {asg bd : Code} {w : World} {R : Ending → World → Prop} (h : RoundIn Fence.wide n P l f tm asg bd w R) : RoundIn (Fence.wide.inRound l2) m P l f tm asg bd w R := ⟨h.1, fun c cs _ => h.2 c cs (fun d hd => by cases hd)⟩
theorem KeepsT.weak2 {T T' : Nat → TypeId → Prop} {B C C' : Nat} {W W' : World} (h : KeepsT T B C W W') (hT : ∀ i t, T i t → T' i t) (hC : C ≤ C') : KeepsT T' B C' W W' := ⟨h.os, h.tape, h.output, h.size, h.low, fun k o hk => h.others k o (by omega), fun i cs t fr ht => h.typed i cs t fr (fun e => ht (hT i t e))⟩
theorem keepsT_set {T : Nat → TypeId → Prop} {B C g : Nat} (hB : B ≤ g) (hC : g < C) (hT : ∀ t, T g t) (W : World) (v : Value) : KeepsT T B C W (W.setCell ⟨g, 0, none⟩ v) :=
 ⟨rfl, rfl, rfl, by simp, fun i hi => Below.heap_setCell W _ _ _ (by show i ≠ g; omega), fun k o hk ho _ => (Below.heap_setCell W _ _ _ (by show k ≠ g; omega)).trans ho, fun i cs t fr ht hi => (Below.heap_setCell W _ _ _ (fun e => ht (by rw [show i = g from e]; exact hT t))).trans hi⟩
theorem keepsT_own {T : Nat → TypeId → Prop} {B C : Nat} {V W W' : World} {row : Option Nat} (h : KeepsT T B C V W) (hg : W.grownBy W' row) (hr : ∀ r, row = some r → (B ≤ r ∧ V.heap.size ≤ r) ∧ ∃ o : Obj, W.heap[r]? = some o ∧ o.isCells = false) (hB : B ≤ V.heap.size := by omega) : KeepsT T B C V W' :=
 ⟨hg.os.trans h.os, hg.tape.trans h.tape, hg.output.trans h.output, Nat.le_trans h.size hg.size, fun i hi => (hg.block i (by have := h.size; omega) (fun e => by have := (hr i e.symm).1; omega)).trans (h.low i hi), fun i o hi ho hc => (hg.block i (Array.getElem?_eq_some_iff.1 (h.others i o hi ho hc)).1 (fun e => by have := (hr i e.symm).1; have := (Array.getElem?_eq_some_iff.1 ho).1; omega)).trans (h.others i o hi ho hc),
  fun i cs t fr ht hi => by
   have h1 := h.typed i cs t fr ht hi
   refine (hg.block i (lt_of_block h1) (fun e => ?_)).trans h1
   obtain ⟨o, ho, hc⟩ := (hr i e.symm).2
   rw [h1] at ho
   cases ho
   cases hc⟩
set_option maxRecDepth 100000 in
set_option maxHeartbeats 4000000 in
theorem parts1_in (n : Nat) (hn : 3 ≤ n) (l Bs B C : Nat) (T : Nat → TypeId → Prop) (a : Option Addr) (cap : Nat) (st : List UInt8) (J Jx : List (IdxS × SecS) → World → Prop) (W : World)
  (hJ : OwnC 0 2 W.heap.size J) (hJx : OwnC 0 2 W.heap.size Jx) (hT : ∀ i, W.heap.size ≤ i → (¬ T i 26 ∧ ¬ T i 3 ∧ ¬ T i 199))
  (hY : ∀ pre x X, J pre X → pre.length < chunksN st.length → W.heap.size + 2 ≤ X.heap.size → YieldAt Fence.wide (n - 1) Tryz.prog l (vp x) X fun e W' =>
   (e = .returned (.bool true) ∧ J (pre ++ [x]) W' ∧ KeepsT T B C X W') ∨ (e = .returned (.bool false) ∧ Jx (pre ++ [x]) W' ∧ KeepsFrom C X W'))
  (hBs : W.cell? ⟨Bs, 0, none⟩ = some (.slice a st.length cap)) (hv : BytesIn W B (.slice a st.length cap) st) (hst : st.length ≤ 1000000) (hcap : st.length ≤ cap) (hc : cap ≤ maxLen) (hB : B ≤ W.heap.size) (hC : C ≤ W.heap.size) (h0 : J [] W) :
  CallsIn Fence.wide n Tryz.prog 107 #[.func (.yield l) #[] #[], .pointer (some ⟨Bs, 0, none⟩)] W fun e W' => (∃ v, e = .returned v) ∧
   ((∃ ys, ys = partL st ∧ J ys W') ∨ (∃ pre, pre <+: partL st ∧ Jx pre W')) := by
 have h1 : 1 ≤ n := by omega
 have hro : Fence.wide.round = none := rfl
 refine callsIn_of_wp_marks Tryz.func107 rfl trivial ?_ hro
 simp only [Tryz.ntmps107, List.size_toArray, List.length_cons, List.length_nil, Nat.reduceAdd, Nat.reduceSub, Array.replicate_succ, Array.replicate_zero, List.push_toArray, List.append_toArray, List.nil_append, List.cons_append]
 refine wpIn_wide.2 ?_
 have hlt := World.block_lt_of_cell? W _ hBs
 go_wp2_with fail
 refine (callsIn_wide.1 (chunk_in 5 _ _ _ _)).mono ?_; rintro e w2 ⟨rfl, rfl⟩
 go_wp2_with fail
 refine (wpIn_wide (n := n)).1 ?_
 obtain ⟨V, eV⟩ : ∃ V, V = (((W.alloc (.cells #[.func (.yield l) #[] #[]] 199)).alloc (.cells #[.int .i64 0] 3)).alloc (.cells #[.slice a st.length cap] 26)).alloc (.cells #[.int .i64 512] 3) := ⟨_, rfl⟩
 rw [← eV]
 have hbV : Below W.heap.size W V := by rw [eV]; exact ((((Below.refl _ W).alloc (Nat.le_refl _) _).alloc (by simp) _).alloc (by simp; omega) _).alloc (by simp; omega) _
 have k0 : Blk V W.heap.size 199 #[.func (.yield l) #[] #[]] := by rw [eV]; exact (((Blk.new W _ _).alloc _).alloc _).alloc _
 have k1 : Blk V (W.heap.size + 1) 3 #[.int .i64 0] := by rw [eV]; exact ((Blk.new2 W _ _ _).alloc _).alloc _
 have k2 : Blk V (W.heap.size + 1 + 1) 26 #[.slice a st.length cap] := by rw [eV]; exact (Blk.new' (by simp)).alloc _
 have k3 : Blk V (W.heap.size + 1 + 1 + 1) 3 #[.int .i64 512] := by rw [eV]; exact Blk.new' (by simp)
 have hVs : V.heap.size = W.heap.size + 4 := by rw [eV]; simp
 have hJ0 : J [] V := by rw [eV]; exact hJ.from.alloc _ (hJ.from.alloc _ (hJ.from.alloc _ (hJ.from.alloc _ h0)))
 clear eV
 have hT2 := (hT (W.heap.size + 1 + 1) (by omega)).1
 have hT3 := (hT (W.heap.size + 1 + 1 + 1) (by omega)).2.1
 have hTy := (hT W.heap.size (Nat.le_refl _)).2.2
 have hvV : BytesIn V B (.slice a st.length cap) st := hv.below hbV hB
 refine rangeO (gf := 142) (lb := #[.pointer (some ⟨W.heap.size + 1 + 1, 0, none⟩), .pointer (some ⟨W.heap.size + 1 + 1 + 1, 0, none⟩)]) rfl (enters_of Tryz.func142 (by kernel_rfl) rfl)
  (seqO_of_K (chunk_stops (n - 1) (by omega) (W.heap.size + 1 + 1) (W.heap.size + 1 + 1 + 1) B (V.heap.size + 2) (fun i t => T i t ∨ i = W.heap.size + 1) (fun h => h.elim hT2 (by omega)) (fun h => h.elim hT3 (by omega)) a cap st V k2 k3 hst hcap hc) (fun _ _ h => h.size)) keepsT_t (keepsT_b (by omega) (by omega)) (fun _ => rfl)
  (fun pre X => J (partsOf st pre) X ∧ (Blk X W.heap.size 199 #[.func (.yield l) #[] #[]] ∧ Blk X (W.heap.size + 1) 3 #[.int .i64 (pre.length : Int)] ∧ KeepsT (fun i t => T i t ∨ i = W.heap.size + 1) B (V.heap.size + 2) V X))
  (fun c pre X => c = .ret ∧ Jx (partsOf st pre) X)
  (OwnFrom.zero (fun s A A' row hs hg hr => ⟨hJ.from _ A A' row hs.1 hg (fun r e => ⟨by have := (hr r e).1; omega, (hr r e).2⟩), hs.2.1.own hg (fun r e => (hr r e).2), hs.2.2.1.own hg (fun r e => (hr r e).2), keepsT_own hs.2.2.2 hg (fun r e => ⟨⟨by have := (hr r e).1; omega, (hr r e).1⟩, (hr r e).2⟩) (by omega)⟩))
  (fun c => OwnFrom.zero (fun s A A' row hs hg hr => ⟨hs.1, hJx.from _ A A' row hs.2 hg (fun r e => ⟨by have := (hr r e).1; omega, (hr r e).2⟩)⟩))
  ⟨hJ0, k0, k1, KeepsT.refl _ _ _ _⟩
  (fun x a' X => a' = { tmps := #[.func (.yield l) #[] #[], .pointer (some ⟨Bs, 0, none⟩), .pointer (some ⟨W.heap.size, 0, none⟩), .pointer (some ⟨W.heap.size + 1, 0, none⟩), chunkV a st.length x.val, undef, .slice a st.length cap, .func (.func 142) #[] #[.pointer (some ⟨W.heap.size + 1 + 1, 0, none⟩), .pointer (some ⟨W.heap.size + 1 + 1 + 1, 0, none⟩)], chunkV a st.length x.val, undef, undef, undef, undef, undef, undef, undef, undef, undef, undef], defers := [] })
  (fun x a' s A A' row hs hg hr => hs) ?assign ?body ?done ?stop
 case assign =>
  intro l2 pre x X K hI hX2 hK
  gi_wp2
  exact hK _ _ (KeepsFrom.refl _ _) (KeepsT.refl _ _ _ _) hI rfl
 case body =>
  rintro l2 pre x a' X ⟨hJX, hy0, hi0, hkt⟩ rfl hlen hXs
  have hp : pre.length ≤ 2000000 := by
   have h1 : pre.length < chunksN st.length := hlen
   have h2 : chunksN st.length ≤ 2000000 := by unfold chunksN; omega
   omega
  have hch := chunk_bytes (hkt.bytes hvV) x.val x.isLt
  have hb1 := (Below.refl X.heap.size X).alloc (Nat.le_refl _) (.cells Tryz.zeroCells111 111)
  have kz : Blk (X.alloc (.cells Tryz.zeroCells111 111)) X.heap.size 111 (sector0.map vu8).toArray := by rw [← zero111]; exact Blk.new X _ _
  obtain ⟨X2, hr2, hk2, ho2⟩ := run_copy_lay _ X.heap.size 111 sector0 kz B _ _ _ 512 (chunkL st x.val) (hch.below hb1 (by have := hkt.size; omega)) (by rw [sector0_len]; exact chunkL_len st x.val) 3
  rw [sector0_len] at hr2
  have hb2 : Below X.heap.size X X2 := hb1.trans (ho2.below hb1.size (fun i hi e => by omega))
  have hJ2 : J (partsOf st pre) X2 := hJ _ X X2 none hJX ⟨hb2.os, hb2.tape, hb2.output, hb2.size, fun i hi _ => hb2.block i hi⟩ (fun r e => by cases e)
  have hy2 := (hy0.below hb2 hy0.lt).cell_is 0 rfl
  have hi2 := (hi0.below hb2 hi0.lt).cell_is 0 rfl
  have hld := run_loadAt_mid (P := Tryz.prog) X2 X.heap.size 0 111 ((layL sector0 (chunkL st x.val)).map vu8) _ (fun j v hv => hk2.cell_is (0 + j) (by rw [List.getElem?_toArray, Nat.zero_add]; exact hv)) Tryz.underlying111 rfl (by rw [List.length_map, secOf_len]; exact size_sector)
  obtain ⟨fn, tm, as_, bd, hy, hR⟩ := hY _ (mkIdx pre.length, secOf st x.val) X2 hJ2 (by rw [partsOf_len]; exact hlen) (by have := hb2.size; omega)
  simp only [vp, secOf] at hy
  rw [mkIdx_val pre.length (by omega)] at hy
  have HKT := Lib.hid hkt
  have HB2 := Lib.hid hb2
  have HY0 := Lib.hid hy0
  have HI0 := Lib.hid hi0
  have KT := Lib.hid (fun (W3 : World) (hk3 : KeepsT T B C X2 W3) (v : Value) => (KeepsT.of (T := fun i t => T i t ∨ i = W.heap.size + 1) (C := V.heap.size + 2) hb2 (by have := hkt.size; omega)).trans ((hk3.weak2 (C' := V.heap.size + 2) (fun i t h => .inl h) (by omega)).trans (keepsT_set (B := B) (C := V.heap.size + 2) (g := W.heap.size + 1) (by omega) (by omega) (fun t => .inr rfl) W3 v)))
  clear hkt hb1 hb2 hch kz ho2 hJ2 hJX hY hy0 hi0
  gi_wp2_with (first
   | (refine wpListIn_plain rfl fun _ hK => op_round rfl (Lib.wp_copy_run _ (.tmp 9) (.tmp 10) 26 26 rfl _ _ rfl rfl hr2 (hK _ _ ?_)))
   | (refine wpIn_load_is _ 111 _ rfl _ _ rfl hld ?_))
  refine ⟨fun h => (by cases h), (round_any hR).mono ?_⟩
  rintro e W3 (⟨rfl, hJ3, hk3⟩ | ⟨rfl, hJx3, hkf3⟩)
  ·have hti := (hT (W.heap.size + 1) (by omega)).2.1
   have hi3 := hk3.blk (HI0.out.below HB2.out HI0.out.lt) hti
   have ci3 := hi3.cell_is 0 rfl
   have fi3 := hi3.frozen 0
   have hpl : IntKind.i64.wrap ((pre.length : Int) + 1) = (pre.length : Int) + 1 := by rw [IntKind.wrap_i64]; omega
   gi_wp2
   refine ⟨⟨by have h1 := HB2.out.size; have h2 := hk3.size; simp; omega, fun k o hk ho hc => ?_⟩, ?_, ⟨?_, ?_, ?_, ?_⟩⟩
   ·have h1 := hk3.others k o (by omega) ((HB2.out.block k (Array.getElem?_eq_some_iff.1 ho).1).trans ho) hc
    exact (Below.heap_setCell W3 _ _ _ (by show k ≠ W.heap.size + 1; omega)).trans h1
   ·exact KT.out W3 hk3 _
   ·rw [partsOf_snoc]
    exact hJ _ W3 _ (some (W.heap.size + 1)) hJ3 (grownBy_setCell' W3 (W.heap.size + 1) _) (fun r e => by cases e; exact ⟨by omega, .inl ⟨by omega, by omega⟩⟩)
   ·exact (hk3.blk (HY0.out.below HB2.out HY0.out.lt) hTy).far (p := ⟨W.heap.size + 1, 0, none⟩) (by simp) _
   ·have h := hi3.set_ 0 (.int .i64 ((pre.length : Int) + 1))
    have e : ((pre ++ [x]).length : Int) = (pre.length : Int) + 1 := by simp
    rw [e]
    exact h
   ·exact HKT.out.trans (KT.out W3 hk3 _)
  ·gi_wp2
   refine ⟨⟨by have h1 := HB2.out.size; have h2 := hkf3.size; omega, fun k o hk ho hc => hkf3.same k o (by omega) ((HB2.out.block k (Array.getElem?_eq_some_iff.1 ho).1).trans ho) hc⟩, rfl, ?_⟩
   rw [partsOf_snoc]
   exact hJx3
 case done =>
  rintro Dd ys X hDd rfl ⟨hJX, _, _, _⟩ hK
  rw [partsOf_all] at hJX
  go_wp2_with fail
  refine ⟨by simp, .inl ⟨_, _, rfl, run_takeDeferred hK, ?_⟩⟩
  exact ⟨_, results_none rfl _ _ _, ⟨_, rfl⟩, .inl ⟨_, rfl, hJ.from.putObj _ hJX (by omega) hK rfl⟩⟩
 case stop =>
  rintro Dd c pre X hDd hSp ⟨rfl, hJX⟩ hK
  refine wpIn_wide.2 ?_
  go_wp2_with fail
  refine ⟨by simp, .inl ⟨_, _, rfl, run_takeDeferred hK, ?_⟩⟩
  exact ⟨_, results_none rfl _ _ _, ⟨_, rfl⟩, .inr ⟨_, partsOf_pre st pre hSp, hJx.from.putObj _ hJX (by omega) hK rfl⟩⟩

theorem parts_in (n : Nat) (a : Option Addr) (len cap : Nat) (w : World) :
  CallsIn Fence.wide n Tryz.prog 59 #[.slice a len cap] w fun e w' => e = .returned (.func (.func 107) #[] #[.pointer (some ⟨w.heap.size, 0, none⟩)]) ∧ w' = w.alloc (.cells #[.slice a len cap] 26) := by
 have hro : Fence.wide.round = none := rfl
 refine callsIn_of_wp Tryz.func59 rfl trivial ?_ hro
 simp only [Tryz.ntmps59, List.size_toArray, List.length_cons, List.length_nil, Nat.reduceAdd, Nat.reduceSub, Array.replicate_succ, Array.replicate_zero, List.push_toArray, List.append_toArray, List.nil_append, List.cons_append]
 gi_wp2
 go_ret
 exact ⟨rfl, rfl⟩

theorem parts_seq (n : Nat) (hn : 3 ≤ n) (Bs B : Nat) (T : Nat → TypeId → Prop) (a : Option Addr) (cap : Nat) (st : List UInt8) (w : World) (hT : ∀ i, w.heap.size ≤ i → (¬ T i 26 ∧ ¬ T i 3 ∧ ¬ T i 199))
  (hBs : Blk w Bs 26 #[.slice a st.length cap]) (hv : BytesIn w B (.slice a st.length cap) st) (hst : st.length ≤ 1000000) (hcap : st.length ≤ cap) (hc : cap ≤ maxLen) (hB : B ≤ w.heap.size) :
  SeqO 2 n Tryz.prog 107 #[.pointer (some ⟨Bs, 0, none⟩)] vp (KeepsT T B (w.heap.size + 2)) (fun ys => ys = partL st) (fun pre => pre <+: partL st) (chunksN st.length) w :=
 fun l J Jx W hW hWs hJ hJx hY h0 => parts1_in n hn l Bs B (w.heap.size + 2) T a cap st J Jx W hJ hJx (fun i hi => hT i (by omega)) hY ((hBs.below hW hBs.lt).cell_is 0 rfl) (hv.below hW hB) hst hcap hc (by omega) hWs h0
end Go.Proofs.YtdpniceapmikpaaGreat
namespace Go.Proofs.YtdpniceapmikpaaGreat
open Go.RowKit

/-- the panic that logs.must gives up with -/
def failC (c : Int) : List PanicEntry := [{ v := .iface 211 (.agg #[.int .i64 c]), recovered := false }]
theorem must_yes (c : Int) (w : World) : Calls Tryz.prog 72 #[.bool true, .int .i64 c] w fun e w' => e = .returned (.tuple #[]) ∧ w = w' := by
 go_enter Tryz.func72, Tryz.ntmps72
 go_wp2_with fail
 exact bodyPost_end (v := .tuple #[]) (by simp [results, Tryz.results72, go_sem]) rfl ⟨rfl, rfl⟩
theorem must_no (c : Int) (w : World) : Calls Tryz.prog 72 #[.bool false, .int .i64 c] w fun e w' => e = .panicked (failC c) ∧ w = w' := by
 go_enter Tryz.func72, Tryz.ntmps72
 go_wp2_with fail
 exact ⟨rfl, rfl, rfl⟩
/-- the panic that codec.must gives up with -/
def cfailC : List PanicEntry := [{ v := .iface 260 (.agg #[]), recovered := false }]
theorem cmust_yes (w : World) : Calls Tryz.prog 124 #[.bool true] w fun e w' => e = .returned (.tuple #[]) ∧ w = w' := by
 go_enter Tryz.func124, Tryz.ntmps124
 go_wp2_with fail
 exact bodyPost_end (v := .tuple #[]) (by simp [results, Tryz.results124, go_sem]) rfl ⟨rfl, rfl⟩
theorem cmust_no (w : World) : Calls Tryz.prog 124 #[.bool false] w fun e w' => e = .panicked cfailC ∧ w = w' := by
 go_enter Tryz.func124, Tryz.ntmps124
 go_wp2_with fail
 exact ⟨rfl, rfl, rfl⟩
set_option maxRecDepth 100000 in
set_option maxHeartbeats 4000000 in
theorem lread_yes (D : DiskP) (x : DiskD) (n : Int) (w : World) (h : DiskAt w D x) (hx : x.ok) (he : x.err n = 0) :
  Calls Tryz.prog 70 #[ptr D.p, .int .i64 n] w fun e w' => e = .returned (sectorV (x.reads n)) ∧ DiskAt w' D x.stepped ∧ DStep D D w w' := by
 have hw1 : Below w.heap.size w (w.alloc (.cells Tryz.zeroCells111 111)) := (Below.refl _ w).alloc (Nat.le_refl _) _
 have HR := Lib.hid (dread_any D x n _ (h.below hw1) hx)
 have hrd : x.read n = x.reads n := by unfold DiskD.read; rw [if_pos he]
 have haf : x.after n = x.stepped := by
  unfold DiskD.after
  unfold DiskD.err at he
  split at he
  ·exact absurd he (by decide)
  ·rename_i hh; rw [if_neg hh]
 rw [hrd, he, haf] at HR
 have HHAS := Lib.hid h.has_lt
 have hnD : ¬ D.has w.heap.size := fun hd => by have := h.has_lt _ hd; omega
 have hlb := x.reads_len hx.sound n
 obtain ⟨b, eb⟩ : ∃ b, b = x.reads n := ⟨_, rfl⟩
 rw [← eb] at HR hlb ⊢
 have HLB := Lib.hid hlb
 unfold ptr sectorV at *
 clear h hx he hrd haf eb hlb
 go_enter Tryz.func70, Tryz.ntmps70
 go_wp2_with fail
 refine HR.out.mono ?_; rintro e w1 ⟨rfl, hd1, hs1⟩
 have k0 : Blk w1 w.heap.size 111 (sector0.map vu8).toArray := hs1.out.blk (by rw [← zero111]; exact Blk.new w _ _) hnD
 have HD1 := Lib.hid hd1
 have HS1 := Lib.hid hs1
 have HK0 := Lib.hid k0
 clear hd1 hs1 k0
 go_wp2_with (refine wpList_store_row rfl 111 _ _ rfl w1.heap.size (b.map vu8).toArray rfl rfl 111 _ (heap_alloc_new w1 _) (sector_size _ HLB.out) (by rw [zero111]; exact sector_eq _ _ sector0_len HLB.out) (sector_all _) ?_; rw [World.setRow_alloc_new])
 refine (must_yes 0 _).mono ?_; rintro e w2 ⟨rfl, rfl⟩
 have k2 : Blk (w1.alloc (.cells (b.map vu8).toArray 111)) w.heap.size 111 (sector0.map vu8).toArray := HK0.out.alloc _
 go_wp2_with (first
  | (refine wpList_load_row rfl 111 _ rfl w1.heap.size rfl 111 (b.map vu8).toArray (0, 0) _ (heap_alloc_new w1 _) Tryz.underlying111 rfl (sector_size _ HLB.out) ?_)
  | (refine wpList_store_row rfl 111 _ _ rfl w.heap.size (b.map vu8).toArray rfl rfl 111 _ k2 (sector_size _ HLB.out) (sector_eq _ _ sector0_len HLB.out) (sector_all _) ?_))
 refine bodyPost_ret (results_cell_row Tryz.results70 _ _ w.heap.size 111 _ (0, 0) _ rfl (k2.row _) Tryz.underlying111 rfl (sector_size _ HLB.out)) rfl ?_
 have hb1 : Below w1.heap.size w1 (w1.alloc (.cells (b.map vu8).toArray 111)) := (Below.refl _ w1).alloc (Nat.le_refl _) _
 have h2 := HD1.out.below hb1
 refine ⟨rfl, h2.out (F := fun i => i = w.heap.size) (out_row _ rfl) (fun i hi e => hnD (by rw [← e]; exact hi)), ⟨?_, rfl, fun i hi => .inl hi⟩⟩
 have hf := (HS1.out.below hb1).first (w0 := w) hw1 HHAS.out
 exact ⟨hf.out.os, hf.out.tape, hf.out.output, by have := hf.out.size; simp at this ⊢; omega, fun i hi hn => (setRow_other _ w.heap.size i _ (by omega)).trans (hf.out.block i hi hn)⟩
set_option maxRecDepth 100000 in
set_option maxHeartbeats 4000000 in
theorem lread_no (D : DiskP) (x : DiskD) (n : Int) (w : World) (h : DiskAt w D x) (hx : x.ok) (he : x.err n ≠ 0) :
  Calls Tryz.prog 70 #[ptr D.p, .int .i64 n] w fun e w' => e = .panicked (failC (x.err n)) ∧ DiskAt w' D (x.after n) ∧ DStep D D w w' := by
 have hw1 : Below w.heap.size w (w.alloc (.cells Tryz.zeroCells111 111)) := (Below.refl _ w).alloc (Nat.le_refl _) _
 have HR := Lib.hid (dread_any D x n _ (h.below hw1) hx)
 have HHAS := Lib.hid h.has_lt
 have hlb : (x.read n).length = 512 := by unfold DiskD.read; rw [if_neg he]; exact sector0_len
 obtain ⟨b, eb⟩ : ∃ b, b = x.read n := ⟨_, rfl⟩
 rw [← eb] at HR hlb
 obtain ⟨c, ec⟩ : ∃ c, c = x.err n := ⟨_, rfl⟩
 rw [← ec] at HR he ⊢
 have HLB := Lib.hid hlb
 have hc : (c == 0) = false := by simpa using he
 unfold ptr sectorV at *
 clear h hx eb hlb ec
 go_enter Tryz.func70, Tryz.ntmps70
 go_wp2_with fail
 refine HR.out.mono ?_; rintro e w1 ⟨rfl, hd1, hs1⟩
 have HD1 := Lib.hid hd1
 have HS1 := Lib.hid hs1
 clear hd1 hs1
 go_wp2_with (refine wpList_store_row rfl 111 _ _ rfl w1.heap.size (b.map vu8).toArray rfl rfl 111 _ (heap_alloc_new w1 _) (sector_size _ HLB.out) (by rw [zero111]; exact sector_eq _ _ sector0_len HLB.out) (sector_all _) ?_; rw [World.setRow_alloc_new])
 refine (must_no c _).mono ?_; rintro e w2 ⟨rfl, rfl⟩
 go_wp2_with fail
 have hb1 : Below w1.heap.size w1 (w1.alloc (.cells (b.map vu8).toArray 111)) := (Below.refl _ w1).alloc (Nat.le_refl _) _
 exact ⟨rfl, rfl, HD1.out.below hb1, (HS1.out.below hb1).first hw1 HHAS.out⟩
end Go.Proofs.YtdpniceapmikpaaGreat
namespace Go.Proofs.YtdpniceapmikpaaGreat
open Go.RowKit

set_option maxRecDepth 100000 in
set_option maxHeartbeats 1000000 in
theorem take_yes (pb B : Nat) (v : Value) (l : List UInt8) (k : Nat) (hk : k ≤ 8) (hkl : k ≤ l.length) (w : World) (hb : Blk w pb 26 #[v]) (hv : BytesIn w B v l) (hB : B ≤ pb) (hg : getB (l.take k) = true) :
  Calls Tryz.prog 115 #[.pointer (some ⟨pb, 0, none⟩), .int .i64 (k : Int)] w fun e w' => e = .returned (.int .i64 (leN (l.take k) : Int)) ∧ (∃ v', Blk w' pb 26 #[v'] ∧ BytesIn w' B v' (l.drop k)) ∧ Out (fun i => i = pb) w w' := by
 obtain ⟨hl0, a, cap, rfl, hlc, hcs⟩ := hv
 have hv : BytesIn w B (.slice a l.length cap) l := ⟨hl0, a, cap, rfl, hlc, hcs⟩
 have hcell := hb.cell_is 0 rfl
 have hlt := hb.lt
 have hmax : cap ≤ maxLen ∨ True := .inr trivial
 have hu := hv.upto k hkl hlc
 have hf := hv.from_ k hkl hlc
 have HG := Lib.hid (get_any _ _ w (hu.mono (by omega)))
 rw [hg] at HG
 have HF := Lib.hid hf
 have HB := Lib.hid hb
 have i1 : (0 : Int) ≤ (k : Int) := by omega
 have i2 : (k : Int) ≤ (cap : Int) := by omega
 have i3 : (k : Int) ≤ (l.length : Int) := by omega
 clear hu hf hg hcs hv
 go_enter Tryz.func115, Tryz.ntmps115
 go_wp2_with fail
 refine HG.out.mono ?_; rintro e w1 ⟨rfl, hb1⟩
 have hcell1 := (HB.out.below hb1 hlt).cell_is 0 rfl
 have hfr1 := (HB.out.below hb1 hlt).frozen 0
 have HF1 := Lib.hid (HF.out.below hb1 (by omega : B ≤ w.heap.size))
 have HB1 := Lib.hid (HB.out.below hb1 hlt)
 have HO := Lib.hid (outB hb1 : Out (fun i => i = pb) w w1)
 clear hb1 hcell
 go_wp2_with fail
 refine (must_yes 170 _).mono ?_; rintro e w2 ⟨rfl, rfl⟩
 have fin : ∀ u, BytesIn w1 B u (l.drop k) → Blk (w1.setCell ⟨pb, 0, none⟩ u) pb 26 #[u] ∧ BytesIn (w1.setCell ⟨pb, 0, none⟩ u) B u (l.drop k) ∧ Out (fun i => i = pb) w (w1.setCell ⟨pb, 0, none⟩ u) := fun u hF =>
  ⟨HB1.out.set_ 0 _, hF.below ((out_set (F := fun i => i = pb) rfl).below (Nat.le_of_lt HB1.out.lt) (fun i hi e => by omega)) hB, HO.out.trans (G := fun i => i = pb) (out_set rfl) (fun _ _ h => h)⟩
 have FIN := Lib.hid fin
 clear fin
 by_cases hck : cap = k
 ·have hF := HF1.out
  rw [if_pos hck] at hF
  go_wp2_with fail
  go_ret
  obtain ⟨f1, f2, f3⟩ := FIN.out _ hF
  rw [show cap - k = 0 by omega] at f1 f2 f3
  exact ⟨rfl, ⟨_, f1, f2⟩, f3⟩
 ·have hF := HF1.out
  rw [if_neg hck] at hF
  have FF := Lib.hid hF
  clear hF
  go_wp2_with fail
  go_ret
  obtain ⟨f1, f2, f3⟩ := FIN.out _ FF.out
  exact ⟨rfl, ⟨_, f1, f2⟩, f3⟩
set_option maxRecDepth 100000 in
set_option maxHeartbeats 1000000 in
theorem take_no (pb B : Nat) (v : Value) (l : List UInt8) (k : Nat) (hk : k ≤ 8) (hkl : k ≤ l.length) (w : World) (hb : Blk w pb 26 #[v]) (hv : BytesIn w B v l) (hB : B ≤ pb) (hg : getB (l.take k) = false) :
  Calls Tryz.prog 115 #[.pointer (some ⟨pb, 0, none⟩), .int .i64 (k : Int)] w fun e w' => e = .panicked (failC 170) ∧ Below w.heap.size w w' := by
 obtain ⟨hl0, a, cap, rfl, hlc, hcs⟩ := hv
 have hv : BytesIn w B (.slice a l.length cap) l := ⟨hl0, a, cap, rfl, hlc, hcs⟩
 have hcell := hb.cell_is 0 rfl
 have hlt := hb.lt
 have hu := hv.upto k hkl hlc
 have HG := Lib.hid (get_any _ _ w (hu.mono (by omega)))
 rw [hg] at HG
 have i1 : (0 : Int) ≤ (k : Int) := by omega
 have i2 : (k : Int) ≤ (cap : Int) := by omega
 have i3 : (k : Int) ≤ (l.length : Int) := by omega
 clear hu hg hcs hv
 go_enter Tryz.func115, Tryz.ntmps115
 go_wp2_with fail
 refine HG.out.mono ?_; rintro e w1 ⟨rfl, hb1⟩
 have HO := Lib.hid hb1
 clear hb1 hcell
 go_wp2_with fail
 refine (must_no 170 _).mono ?_; rintro e w2 ⟨rfl, rfl⟩
 go_wp2_with fail
 exact ⟨rfl, rfl, HO.out⟩
end Go.Proofs.YtdpniceapmikpaaGreat
namespace Go.Proofs.YtdpniceapmikpaaGreat
open Go.RowKit

/-- the block that a slice lies in -/
def blockOf : Value → Option Nat
 | .slice (some a) _ _ => some a.block
 | _ => none
theorem blockOf_add (a : Option Addr) (i n m c d : Nat) : blockOf (.slice (a.map (·.add i)) n c) = blockOf (.slice a m d) := by
 cases a with
 | none => rfl
 | some a =>
  show some (a.add i).block = some a.block
  unfold Addr.add
  split <;> rfl
theorem BytesIn.out {F : Nat → Prop} {W W' : World} {B : Nat} {v : Value} {l : List UInt8} (h : BytesIn W B v l) (ho : Out F W W') (hB : B ≤ W.heap.size) (hF : ∀ g, blockOf v = some g → ¬ F g) : BytesIn W' B v l := by
 obtain ⟨h1, a, cap, rfl, h3, h4⟩ := h
 refine ⟨h1, a, cap, rfl, h3, fun j c hc => ?_⟩
 obtain ⟨g, off, rfl, hg, hr⟩ := h4 j c hc
 exact ⟨g, off, rfl, hg, (World.cell?_of_block (a := ⟨g, off + j, none⟩) (ho.block g (by omega) (hF g rfl))).trans hr⟩
set_option maxRecDepth 100000 in
set_option maxHeartbeats 1000000 in
theorem rtake_yes (pb B : Nat) (v : Value) (l : List UInt8) (k : Nat) (hkl : k ≤ l.length) (w : World) (hb : Blk w pb 217 #[v]) (hv : BytesIn w B v l) (hB : B ≤ pb) :
  Calls Tryz.prog 123 #[ptr pb, .int .i64 (k : Int)] w fun e w' => ∃ a cap, e = .returned (.slice a k cap) ∧ BytesIn w' B (.slice a k cap) (l.take k) ∧ (∃ v', Blk w' pb 217 #[v'] ∧ BytesIn w' B v' (l.drop k) ∧ blockOf v' = blockOf v) ∧ Out (fun i => i = pb) w w' := by
 obtain ⟨hl0, a, cap, rfl, hlc, hcs⟩ := hv
 have hv : BytesIn w B (.slice a l.length cap) l := ⟨hl0, a, cap, rfl, hlc, hcs⟩
 have hcell := hb.cell_is 0 rfl
 have hfr := hb.frozen 0
 have hlt := hb.lt
 have HU := Lib.hid (hv.upto k hkl hlc)
 have hf := hv.from_ k hkl hlc
 have HB := Lib.hid hb
 have i1 : (0 : Int) ≤ (k : Int) := by omega
 have i2 : (k : Int) ≤ (cap : Int) := by omega
 have i3 : (k : Int) ≤ (l.length : Int) := by omega
 unfold ptr
 clear hcs hv
 have fin : ∀ u, BytesIn w B u (l.drop k) → Blk (w.setCell ⟨pb, 0, none⟩ u) pb 217 #[u] ∧ BytesIn (w.setCell ⟨pb, 0, none⟩ u) B u (l.drop k) ∧ BytesIn (w.setCell ⟨pb, 0, none⟩ u) B (.slice a k cap) (l.take k) ∧ Out (fun i => i = pb) w (w.setCell ⟨pb, 0, none⟩ u) := fun u hF =>
  have hh : Below B w (w.setCell ⟨pb, 0, none⟩ u) := (out_set (F := fun i => i = pb) rfl).below (by omega) (fun i hi e => by omega)
  ⟨HB.out.set_ 0 _, hF.below hh (Nat.le_refl _), HU.out.below hh (Nat.le_refl _), out_set rfl⟩
 have FIN := Lib.hid fin
 clear fin hb
 go_enter Tryz.func123, Tryz.ntmps123
 go_wp2_with fail
 refine (cmust_yes _).mono ?_; rintro e w2 ⟨rfl, rfl⟩
 by_cases hck : cap = k
 ·rw [if_pos hck] at hf
  have FF := Lib.hid hf
  clear hf
  go_wp2_with fail
  go_ret
  obtain ⟨f1, f2, f3, f4⟩ := FIN.out _ FF.out
  rw [show cap - k = 0 by omega] at f1 f2 f3 f4
  exact ⟨a, k, rfl, by rw [hck] at f3; exact f3, ⟨_, f1, f2, by cases a <;> rfl⟩, f4⟩
 ·rw [if_neg hck] at hf
  have FF := Lib.hid hf
  clear hf
  go_wp2_with fail
  go_ret
  obtain ⟨f1, f2, f3, f4⟩ := FIN.out _ FF.out
  exact ⟨_, _, rfl, f3, ⟨_, f1, f2, blockOf_add _ _ _ _ _ _⟩, f4⟩
set_option maxRecDepth 100000 in
set_option maxHeartbeats 1000000 in
theorem rnumber_any (pb B : Nat) (v : Value) (l : List UInt8) (k : Nat) (hk : k ≤ 8) (hkl : k ≤ l.length) (w : World) (hb : Blk w pb 217 #[v]) (hv : BytesIn w B v l) (hB : B ≤ pb) :
  Calls Tryz.prog 121 #[ptr pb, .int .i64 (k : Int)] w fun e w' => e = .returned (.int .u64 (leN (l.take k) : Nat)) ∧ (∃ v', Blk w' pb 217 #[v'] ∧ BytesIn w' B v' (l.drop k) ∧ blockOf v' = blockOf v) ∧ Out (fun i => i = pb) w w' := by
 have HT := Lib.hid (rtake_yes pb B v l k hkl w hb hv hB)
 have hlk : (l.take k).length = k := by rw [List.length_take]; omega
 obtain ⟨bs, ebs⟩ : ∃ bs, bs = l.take k := ⟨_, rfl⟩
 rw [← ebs] at HT hlk ⊢
 have HLK := Lib.hid hlk
 have hlk1 : bs.length ≤ k := Nat.le_of_eq hlk
 have hlk2 : k ≤ bs.length := Nat.le_of_eq hlk.symm
 unfold ptr at *
 clear hb hv ebs hlk
 go_enter Tryz.func121, Tryz.ntmps121
 go_wp2_with fail
 refine HT.out.mono ?_; rintro e w1 ⟨a, cap, rfl, hv1, hr1, ho1⟩
 obtain ⟨h1, a', cap', he, hcap, h2⟩ := hv1
 injection he with e1 e2 e3
 subst e1 e3
 clear e2
 have HR := Lib.hid (And.intro hr1 ho1)
 clear hr1 ho1
 go_wp2_with fail
 go_loopw [12, 5] (fun i n wr => ∃ j : Nat, j ≤ k ∧ i = .int .i64 j ∧ n = .int .u64 ((leN (bs.take j) : Nat) : Int) ∧ wr = w1) (fun i _ _ => k - (intOf i).toNat)
 case atStart => exact ⟨0, by omega, rfl, rfl, rfl⟩
 case round =>
  obtain ⟨j, hj, rfl, rfl, rfl⟩ := hrel
  by_cases hlt : j < k
  ·have hbj : bs[j]? = some (bs[j]'(by omega)) := List.getElem?_eq_getElem (by omega)
   obtain ⟨g, off, rfl, hg, hcx⟩ := h2 j _ hbj
   have hT := Lib.hid (leN_take bs j _ hbj)
   have hN := leN_lt (bs.take j)
   rw [List.length_take, Nat.min_eq_left (by omega)] at hN
   generalize bs[j]'(by omega : j < bs.length) = c at *
   generalize leN (bs.take j) = N at *
   have hc256 := u8_lt c
   have hst := step64 N c.toNat j (by omega) hN hc256
   go_wp2_with fail
   exact ⟨⟨j + 1, by omega, by go_num, by rw [hT.out]; push_cast; rfl, trivial⟩, by simp [intOf]; omega⟩
  ·obtain rfl : j = k := by omega
   rw [List.take_of_length_le hlk1]
   go_wp2_with fail
   go_ret
   exact ⟨rfl, HR.out.1, HR.out.2⟩
set_option maxRecDepth 100000 in
set_option maxHeartbeats 1000000 in
theorem blank_any (B : Nat) (v : Value) (l : List UInt8) (w : World) (hv : BytesIn w B v l) :
  Calls Tryz.prog 125 #[v] w fun e w' => e = .returned (.bool (l.all (· == 0))) ∧ w = w' := by
 obtain ⟨h1, a, cap, rfl, hcap, h2⟩ := hv
 unfold maxLen at h1
 obtain ⟨q, eq⟩ : ∃ q, q = l.all (· == 0) := ⟨_, rfl⟩
 rw [← eq]
 have HQ := Lib.hid eq
 clear eq
 go_enter Tryz.func125, Tryz.ntmps125
 go_wp2_with fail
 go_loopw [8] (fun i wr => ∃ j : Nat, j ≤ l.length ∧ i = .int .i64 j ∧ (l.take j).all (· == 0) = true ∧ wr = w) (fun i _ => l.length - (intOf i).toNat)
 case atStart => exact ⟨0, by omega, rfl, by simp, rfl⟩
 case round =>
  obtain ⟨j, hj, rfl, hall, rfl⟩ := hrel
  by_cases hlt : j < l.length
  ·have hbj : l[j]? = some (l[j]'hlt) := List.getElem?_eq_getElem hlt
   obtain ⟨g, off, rfl, hg, hcx⟩ := h2 j _ hbj
   by_cases hz : l[j]'hlt = 0
   ·have hnext : (l.take (j + 1)).all (· == 0) = true := by
     rw [List.take_add_one, hbj, List.all_append, hall, hz]; rfl
    have hz0 : (((l[j]'hlt).toNat : Int) != 0) = false := by rw [hz]; rfl
    have HX := Lib.hid (And.intro hnext hz0)
    clear hall hnext hbj hz
    generalize l[j]'hlt = c at *
    have hz0 := HX.out.2
    go_wp2_with fail
    exact ⟨⟨j + 1, by omega, by go_num, HX.out.1, trivial⟩, by simp [intOf]; omega⟩
   ·have hz0 : (((l[j]'hlt).toNat : Int) != 0) = true := by
     rw [bne_iff_ne]
     intro e
     exact hz (UInt8.toNat_inj.1 (by simpa using e))
    have hq : q = false := by
     rw [HQ.out, List.all_eq_false]
     exact ⟨_, List.getElem_mem hlt, by simpa using hz⟩
    clear hbj hz hall
    generalize l[j]'hlt = c at *
    subst hq
    go_wp2_with fail
    go_ret
    exact ⟨rfl, rfl⟩
  ·obtain rfl : j = l.length := by omega
   rw [List.take_length] at hall
   have hq : q = true := by rw [HQ.out, hall]
   subst hq
   go_wp2_with fail
   go_ret
   exact ⟨rfl, rfl⟩
end Go.Proofs.YtdpniceapmikpaaGreat
