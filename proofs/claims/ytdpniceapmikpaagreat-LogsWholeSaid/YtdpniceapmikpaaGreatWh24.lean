/-
  logs.parts of a state that changes while the loop runs, where a round may panic. (Written by gen_lpartsp.py.)
  A drawn region of a function that defers, and which may panic: what is deferred, and the cells of the results, stay as they are.
  What logs.Read tells of any disk: the plain part, and how a reading that is given up ends.
-/
import Derived.Test.YtdpniceapmikpaaGreatWh3
import Derived.Test.YtdpniceapmikpaaGreatWh21
import Derived.Test.YtdpniceapmikpaaGreatWh22
import Derived.Test.YtdpniceapmikpaaGreatWh23
set_option linter.unusedVariables false
set_option linter.unusedSimpArgs false
namespace Go.Proofs.YtdpniceapmikpaaGreat
open Go.RowKit Go.Shelf

attribute [local go_sem] Oper.semAt_some

def PartsPost (st : List UInt8) (J Jx : List (Fin (chunksN st.length) × SecS) → World → Prop) (Jp : List PanicEntry → List (Fin (chunksN st.length) × SecS) → World → Prop) (e : Ending) (W' : World) : Prop :=
 ((∃ v, e = .returned v) ∧ ((∃ ys, ys.map (·.1.val) = List.range (chunksN st.length) ∧ J ys W') ∨ (∃ pre, True ∧ Jx pre W'))) ∨ ∃ ch pre, e = .panicked ch ∧ Jp ch pre W'
set_option maxRecDepth 100000 in
set_option maxHeartbeats 4000000 in
theorem parts2p_in (n : Nat) (hn : 3 ≤ n) (l Bs C : Nat) (T : Nat → TypeId → Prop) (gs : Nat) (st : List UInt8) (J Jx : List (Fin (chunksN st.length) × SecS) → World → Prop) (Jp : List PanicEntry → List (Fin (chunksN st.length) × SecS) → World → Prop) (W : World)
  (hJ : OwnC 0 2 W.heap.size J) (hJx : OwnC 0 2 W.heap.size Jx) (hJp : ∀ ch, OwnC 0 2 W.heap.size (Jp ch)) (hT : ∀ i, W.heap.size ≤ i → (¬ T i 26 ∧ ¬ T i 3 ∧ ¬ T i 199))
  (hY : ∀ pre x X, J pre X → x.1.val = pre.length → pre.length < chunksN st.length → W.heap.size + 2 ≤ X.heap.size → YieldAt Fence.wide (n - 1) Tryz.prog l (vp2 x) X fun e W' =>
   (e = .returned (.bool true) ∧ J (pre ++ [x]) W' ∧ KeepsU T C gs st.length X W') ∨ (e = .returned (.bool false) ∧ Jx (pre ++ [x]) W' ∧ KeepsFrom C X W') ∨ ∃ ch, e = .panicked ch ∧ Jp ch (pre ++ [x]) W' ∧ KeepsFrom C X W')
  (hBs : W.cell? ⟨Bs, 0, none⟩ = some (.slice (some ⟨gs, 0, none⟩) st.length st.length)) (hv : PageAt gs st.length W) (hst : st.length ≤ 1000000) (hgs : gs < W.heap.size) (hC : C ≤ W.heap.size) (h0 : J [] W) :
  CallsIn Fence.wide n Tryz.prog 107 #[.func (.yield l) #[] #[], .pointer (some ⟨Bs, 0, none⟩)] W fun e W' => PartsPost st J Jx Jp e W' := by
 have h1 : 1 ≤ n := by omega
 have hro : Fence.wide.round = none := rfl
 refine callsIn_of_wpAt Tryz.func107 rfl trivial ?_ hro
 simp only [Tryz.ntmps107, List.size_toArray, List.length_cons, List.length_nil, Nat.reduceAdd, Nat.reduceSub, Array.replicate_succ, Array.replicate_zero, List.push_toArray, List.append_toArray, List.nil_append, List.cons_append]
 have hlt := World.block_lt_of_cell? W _ hBs
 refine wpAt_seq (wpAt_in (wpIn_wide.2 ?_))
 go_wp2_with fail
 refine wpAt_seq (wpAt_in (wpIn_wide.2 ?_))
 go_wp2_with fail
 refine wpAt_seq (wpAt_in (wpIn_wide.2 ?_))
 go_wp2_with fail
 refine (callsIn_wide.1 (chunk_in 5 _ _ _ _)).mono ?_; rintro e w2 ⟨rfl, rfl⟩
 go_wp2_with fail
 refine wpAt_block ?_
 obtain ⟨V, eV⟩ : ∃ V, V = (((W.alloc (.cells #[.func (.yield l) #[] #[]] 199)).alloc (.cells #[.int .i64 0] 3)).alloc (.cells #[.slice (some ⟨gs, 0, none⟩) st.length st.length] 26)).alloc (.cells #[.int .i64 512] 3) := ⟨_, rfl⟩
 rw [← eV]
 have hbV : Below W.heap.size W V := by rw [eV]; exact ((((Below.refl _ W).alloc (Nat.le_refl _) _).alloc (by simp) _).alloc (by simp; omega) _).alloc (by simp; omega) _
 have k0 : Blk V W.heap.size 199 #[.func (.yield l) #[] #[]] := by rw [eV]; exact (((Blk.new W _ _).alloc _).alloc _).alloc _
 have k1 : Blk V (W.heap.size + 1) 3 #[.int .i64 0] := by rw [eV]; exact ((Blk.new2 W _ _ _).alloc _).alloc _
 have k2 : Blk V (W.heap.size + 1 + 1) 26 #[.slice (some ⟨gs, 0, none⟩) st.length st.length] := by rw [eV]; exact (Blk.new' (by simp)).alloc _
 have k3 : Blk V (W.heap.size + 1 + 1 + 1) 3 #[.int .i64 512] := by rw [eV]; exact Blk.new' (by simp)
 have hVs : V.heap.size = W.heap.size + 4 := by rw [eV]; simp
 have hJ0 : J [] V := by rw [eV]; exact hJ.from.alloc _ (hJ.from.alloc _ (hJ.from.alloc _ (hJ.from.alloc _ h0)))
 clear eV
 have hT2 := (hT (W.heap.size + 1 + 1) (by omega)).1
 have hT3 := (hT (W.heap.size + 1 + 1 + 1) (by omega)).2.1
 have hTy := (hT W.heap.size (Nat.le_refl _)).2.2
 have hvV : PageAt gs st.length V := hv.below hbV hgs
 have hc : st.length ≤ maxLen := by unfold maxLen; omega
 refine rangeP (gf := 142) (lb := #[.pointer (some ⟨W.heap.size + 1 + 1, 0, none⟩), .pointer (some ⟨W.heap.size + 1 + 1 + 1, 0, none⟩)]) ⟨_, Tryz.func107⟩ rfl (enters_of Tryz.func142 (by kernel_rfl) rfl)
  (chunkP_seq (n - 1) (by omega) (W.heap.size + 1 + 1) (W.heap.size + 1 + 1 + 1) 0 (V.heap.size + 2) (fun i t => T i t ∨ i = W.heap.size + 1) (fun h => h.elim hT2 (by omega)) (fun h => h.elim hT3 (by omega)) (some ⟨gs, 0, none⟩) st.length st V k2 k3 hst (Nat.le_refl _) hc) keepsT_t (keepsT_b (by omega) (by omega)) (fun _ => rfl)
  (fun pre X => ((∃ ys : List (Fin (chunksN st.length) × SecS), ys.map (·.1.val) = List.range pre.length ∧ J ys X) ∧ PageAt gs st.length X) ∧ (Blk X W.heap.size 199 #[.func (.yield l) #[] #[]] ∧ Blk X (W.heap.size + 1) 3 #[.int .i64 (pre.length : Int)] ∧ KeepsT (fun i t => T i t ∨ i = W.heap.size + 1) 0 (V.heap.size + 2) V X))
  (fun c pre X => c = .ret ∧ ∃ ys, Jx ys X) (fun ch pre X => ∃ ys, Jp ch ys X)
  (OwnFrom.zero (fun s A A' row hs hg hr => ⟨⟨by obtain ⟨ys, h1, h2⟩ := hs.1.1; exact ⟨ys, h1, hJ.from _ A A' row h2 hg (fun r e => ⟨by have := (hr r e).1; omega, (hr r e).2⟩)⟩, hs.1.2.own hg (fun r e => by have := (hr r e).1; omega)⟩, hs.2.1.own hg (fun r e => (hr r e).2), hs.2.2.1.own hg (fun r e => (hr r e).2), keepsT_own hs.2.2.2 hg (fun r e => ⟨⟨by have := (hr r e).1; omega, (hr r e).1⟩, (hr r e).2⟩) (by omega)⟩))
  (fun c => OwnFrom.zero (fun s A A' row hs hg hr => ⟨hs.1, by obtain ⟨ys, h2⟩ := hs.2; exact ⟨ys, hJx.from _ A A' row h2 hg (fun r e => ⟨by have := (hr r e).1; omega, (hr r e).2⟩)⟩⟩))
  (fun ch => OwnFrom.zero (fun s A A' row hs hg hr => by obtain ⟨ys, h2⟩ := hs; exact ⟨ys, (hJp ch).from _ A A' row h2 hg (fun r e => ⟨by have := (hr r e).1; omega, (hr r e).2⟩)⟩))
  ⟨⟨⟨[], rfl, hJ0⟩, hvV⟩, k0, k1, KeepsT.refl _ _ _ _⟩
  (fun x a' X => a' = { tmps := #[.func (.yield l) #[] #[], .pointer (some ⟨Bs, 0, none⟩), .pointer (some ⟨W.heap.size, 0, none⟩), .pointer (some ⟨W.heap.size + 1, 0, none⟩), chunkV (some ⟨gs, 0, none⟩) st.length x.val, undef, .slice (some ⟨gs, 0, none⟩) st.length st.length, .func (.func 142) #[] #[.pointer (some ⟨W.heap.size + 1 + 1, 0, none⟩), .pointer (some ⟨W.heap.size + 1 + 1 + 1, 0, none⟩)], chunkV (some ⟨gs, 0, none⟩) st.length x.val, undef, undef, undef, undef, undef, undef, undef, undef, undef, undef], defers := [] })
  (fun x a' s A A' row hs hg hr => hs) ?assign ?body ?done ?pan ?stop
 case assign =>
  intro l2 pre x X K hI hX2 hK
  gi_wp2
  exact hK _ _ (KeepsFrom.refl _ _) (KeepsT.refl _ _ _ _) hI rfl
 case body =>
  rintro l2 pre x a' X ⟨⟨⟨ys, hys, hJX⟩, hpg⟩, hy0, hi0, hkt⟩ rfl _ hlen hXs
  have hyl : ys.length = pre.length := by have := congrArg List.length hys; simpa using this
  have hp : pre.length ≤ 2000000 := by
   have h1 : pre.length < chunksN st.length := hlen
   have h2 : chunksN st.length ≤ 2000000 := by unfold chunksN; omega
   omega
  obtain ⟨st', hst', hbk'⟩ := hpg
  have hch := chunk_bytes (a := some ⟨gs, 0, none⟩) (cap := st'.length) (by have h := blk_bytes hbk' st'.length (Nat.le_refl _) (by unfold maxLen; omega); rwa [List.take_length] at h) x.val (by rw [hst']; exact x.isLt)
  rw [hst'] at hch
  have hb1 := (Below.refl X.heap.size X).alloc (Nat.le_refl _) (.cells Tryz.zeroCells111 111)
  have kz : Blk (X.alloc (.cells Tryz.zeroCells111 111)) X.heap.size 111 (sector0.map vu8).toArray := by rw [← zero111]; exact Blk.new X _ _
  obtain ⟨X2, hr2, hk2, ho2⟩ := run_copy_lay _ X.heap.size 111 sector0 kz X.heap.size _ _ _ 512 (chunkL st' x.val) (hch.below hb1 (Nat.le_refl _)) (by rw [sector0_len]; exact chunkL_len st' x.val) 3
  rw [sector0_len] at hr2
  have hb2 : Below X.heap.size X X2 := hb1.trans (ho2.below hb1.size (fun i hi e => by omega))
  have hpg2 : PageAt gs st.length X2 := PageAt.below ⟨st', hst', hbk'⟩ hb2 hbk'.lt
  have hJ2 : J ys X2 := hJ _ X X2 none hJX ⟨hb2.os, hb2.tape, hb2.output, hb2.size, fun i hi _ => hb2.block i hi⟩ (fun r e => by cases e)
  have hy2 := (hy0.below hb2 hy0.lt).cell_is 0 rfl
  have hi2 := (hi0.below hb2 hi0.lt).cell_is 0 rfl
  have hld := run_loadAt_mid (P := Tryz.prog) X2 X.heap.size 0 111 ((layL sector0 (chunkL st' x.val)).map vu8) _ (fun j v hv => hk2.cell_is (0 + j) (by rw [List.getElem?_toArray, Nat.zero_add]; exact hv)) Tryz.underlying111 rfl (by rw [List.length_map, secOf_len]; exact size_sector)
  obtain ⟨fn, tm, as_, bd, hy, hR⟩ := hY _ (⟨pre.length, hlen⟩, secOf st' x.val) X2 hJ2 (by rw [hyl]) (by rw [hyl]; exact hlen) (by have := hb2.size; omega)
  simp only [vp2, secOf] at hy
  have HKT := Lib.hid hkt
  have HB2 := Lib.hid hb2
  have HY0 := Lib.hid hy0
  have HI0 := Lib.hid hi0
  have HPG2 := Lib.hid hpg2
  have HYS := Lib.hid (And.intro hys hyl)
  have KT := Lib.hid (fun (W3 : World) (hk3 : KeepsT T 0 C X2 W3) (v : Value) => (KeepsT.of (T := fun i t => T i t ∨ i = W.heap.size + 1) (B := 0) (C := V.heap.size + 2) hb2 (by omega)).trans ((hk3.weak2 (C' := V.heap.size + 2) (fun i t h => .inl h) (by omega)).trans (keepsT_set (B := 0) (C := V.heap.size + 2) (g := W.heap.size + 1) (by omega) (by omega) (fun t => .inr rfl) W3 v)))
  clear hkt hb1 hb2 hch kz ho2 hJ2 hJX hY hy0 hi0 hpg2 hbk' hys hyl
  gi_wp2_with (first
   | (refine wpListIn_plain rfl fun _ hK => op_round rfl (Lib.wp_copy_run _ (.tmp 9) (.tmp 10) 26 26 rfl _ _ rfl rfl hr2 (hK _ _ ?_)))
   | (refine wpIn_load_is _ 111 _ rfl _ _ rfl hld ?_))
  refine ⟨fun h => (by cases h), (round_any hR).mono ?_⟩
  rintro e W3 (⟨rfl, hJ3, hk3, hp3⟩ | ⟨rfl, hJx3, hkf3⟩ | ⟨ch, rfl, hJp3, hkf3⟩)
  ·have hti := (hT (W.heap.size + 1) (by omega)).2.1
   have hi3 := hk3.blk (HI0.out.below HB2.out HI0.out.lt) hti
   have ci3 := hi3.cell_is 0 rfl
   have fi3 := hi3.frozen 0
   have hpl : IntKind.i64.wrap ((pre.length : Int) + 1) = (pre.length : Int) + 1 := by rw [IntKind.wrap_i64]; omega
   gi_wp2
   refine ⟨⟨by have h1 := HB2.out.size; have h2 := hk3.size; simp; omega, fun k o hk ho hc => ?_⟩, ?_, ⟨?_, ?_, ?_, ?_⟩⟩
   ·have h1 := hk3.others k o (by omega) ((HB2.out.block k (Array.getElem?_eq_some_iff.1 ho).1).trans ho) hc
    exact (Below.heap_setCell W3 _ _ _ (by show k ≠ W.heap.size + 1; omega)).trans h1
   ·exact KT.out W3 hk3 _
   ·refine ⟨⟨_, ?_, hJ _ W3 _ (some (W.heap.size + 1)) hJ3 (grownBy_setCell' W3 (W.heap.size + 1) _) (fun r e => by cases e; exact ⟨by omega, .inl ⟨by omega, by omega⟩⟩)⟩, (hp3 HPG2.out).set_ (by omega) _⟩
    rw [List.map_append, HYS.out.1, List.length_append, List.length_singleton, List.range_succ]
    rfl
   ·exact (hk3.blk (HY0.out.below HB2.out HY0.out.lt) hTy).far (p := ⟨W.heap.size + 1, 0, none⟩) (by simp) _
   ·have h := hi3.set_ 0 (.int .i64 ((pre.length : Int) + 1))
    have e : ((pre ++ [x]).length : Int) = (pre.length : Int) + 1 := by simp
    rw [e]
    exact h
   ·exact HKT.out.trans (KT.out W3 hk3 _)
  ·gi_wp2
   exact ⟨⟨by have h1 := HB2.out.size; have h2 := hkf3.size; omega, fun k o hk ho hc => hkf3.same k o (by omega) ((HB2.out.block k (Array.getElem?_eq_some_iff.1 ho).1).trans ho) hc⟩, rfl, _, hJx3⟩
  ·gi_wp2
   exact ⟨rfl, ⟨by have h1 := HB2.out.size; have h2 := hkf3.size; omega, fun k o hk ho hc => hkf3.same k o (by omega) ((HB2.out.block k (Array.getElem?_eq_some_iff.1 ho).1).trans ho) hc⟩, _, hJp3⟩
 case done =>
  rintro Dd xs X hDd rfl ⟨⟨⟨ys, hys, hJX⟩, _⟩, _, _, _⟩ hK
  rw [List.length_finRange] at hys
  go_wp2_with fail
  refine ⟨by simp, .inl ⟨_, _, rfl, run_takeDeferred hK, ?_⟩⟩
  exact ⟨_, results_none rfl _ _ _, .inl ⟨⟨_, rfl⟩, .inl ⟨_, hys, hJ.from.putObj _ hJX (by omega) hK rfl⟩⟩⟩
 case pan =>
  rintro Dd ch pre X hDd hSp ⟨zs, hJX⟩ hK
  refine ⟨by simp, .inl ⟨_, _, rfl, run_takeDeferred hK, ?_⟩⟩
  exact .inr ⟨ch, _, rfl, (hJp ch).from.putObj _ hJX (by omega) hK rfl⟩
 case stop =>
  rintro Dd c pre X hDd hSp ⟨rfl, zs, hJX⟩ hK
  refine wpIn_wide.2 ?_
  go_wp2_with fail
  refine ⟨by simp, .inl ⟨_, _, rfl, run_takeDeferred hK, ?_⟩⟩
  exact ⟨_, results_none rfl _ _ _, .inl ⟨⟨_, rfl⟩, .inr ⟨_, trivial, hJx.from.putObj _ hJX (by omega) hK rfl⟩⟩⟩

theorem parts2p_seq (n : Nat) (hn : 3 ≤ n) (Bs : Nat) (T : Nat → TypeId → Prop) (gs : Nat) (st : List UInt8) (w : World) (hT : ∀ i, w.heap.size ≤ i → (¬ T i 26 ∧ ¬ T i 3 ∧ ¬ T i 199))
  (hBs : Blk w Bs 26 #[.slice (some ⟨gs, 0, none⟩) st.length st.length]) (hv : PageAt gs st.length w) (hst : st.length ≤ 1000000) (hgs : gs < w.heap.size) :
  SeqP 2 n Tryz.prog 107 #[.pointer (some ⟨Bs, 0, none⟩)] (vp2 (N := chunksN st.length)) (KeepsU T (w.heap.size + 2) gs st.length) (fun ys => ys.map (·.1.val) = List.range (chunksN st.length)) (fun _ => True) (fun pre x => x.1.val = pre.length) (chunksN st.length) w :=
 fun l J Jx Jp W hW hWs hJ hJx hJp hY h0 => (parts2p_in n hn l Bs (w.heap.size + 2) T gs st J Jx Jp W hJ hJx hJp (fun i hi => hT i (by omega)) hY ((hBs.below hW hBs.lt).cell_is 0 rfl) (hv.below hW hgs) hst (by have := hW.size; omega) hWs h0).mono fun e X h => by
  rcases h with h | ⟨ch, pre, h1, h2⟩
  ·exact .inl h
  ·exact .inr ⟨ch, pre, h1, trivial, h2⟩
end Go.Proofs.YtdpniceapmikpaaGreat
namespace Go.Proofs.YtdpniceapmikpaaGreat
open Go.RowKit

/-- what a region is walked with: at a panic, what is deferred and where the results lie is known, and J of the world -/
def PostK (t1 t2 : Tmp) (u1 u2 : Value) (ds : List Deferred) (I : Act → World → Prop) (J : List PanicEntry → World → Prop) : Exit → Act → World → Prop
 | .normal, a, w => I a w
 | .panic ch, a, w => (a.defers = ds ∧ a.tmps.getD t1 undef = u1 ∧ a.tmps.getD t2 undef = u2) ∧ J ch w
 | _, _, _ => False
theorem put_getD (t : Tmp) (d : Option Tmp) (a : Act) (v : Value) (h : (d == some t) = false) : (a.put d v).tmps.getD t undef = a.tmps.getD t undef := by
 cases d with
 | none => rfl
 | some k =>
  have hk : k ≠ t := fun e => by rw [e] at h; simp at h
  show (a.tmps.setIfInBounds k v).getD t undef = _
  simp [Array.getElem?_setIfInBounds, hk]
theorem keepsK {t1 t2 : Tmp} {u1 u2 : Value} {ds : List Deferred} {I : Act → World → Prop} {J : List PanicEntry → World → Prop} {d : Option Tmp} {v : Value} (h1 : (d == some t1) = false) (h2 : (d == some t2) = false) :
  ∀ c a w, PostK t1 t2 u1 u2 ds I J (.panic c) (a.put d v) w → PostK t1 t2 u1 u2 ds I J (.panic c) a w := fun c a w h =>
 ⟨⟨by have := h.1.1; cases d <;> exact this, (put_getD t1 d a v h1).symm.trans h.1.2.1, (put_getD t2 d a v h2).symm.trans h.1.2.2⟩, h.2⟩
/-- a region's ways through come together; at a panic the frame is as it was -/
theorem wp_mergeK {P : Program} {c : Code} {Q : Exit → Act → World → Prop} {a : Act} {w : World} (t1 t2 : Tmp) (u1 u2 : Value) (ds : List Deferred) {ι : Type} (A : ι → Act) (I : ι → World → Prop) (J : List PanicEntry → World → Prop)
  (h : c.wp P (PostK t1 t2 u1 u2 ds (fun a' w' => ∃ i, a' = A i ∧ I i w') J) a w) (hk : ∀ i w', I i w' → Q .normal (A i) w')
  (hp : ∀ ch a' w', a'.defers = ds → a'.tmps.getD t1 undef = u1 → a'.tmps.getD t2 undef = u2 → J ch w' → Q (.panic ch) a' w') : c.wp P Q a w :=
 Code.wp_mono (fun e a' w' h => by
  cases e with
  | normal => obtain ⟨i, rfl, hi⟩ := h; exact hk i w' hi
  | panic ch => exact hp ch a' w' h.1.1 h.1.2.1 h.1.2.2 h.2
  | _ => exact h.elim) h
end Go.Proofs.YtdpniceapmikpaaGreat
namespace Go.Proofs.YtdpniceapmikpaaGreat
open Go.RowKit
attribute [local go_sem] Oper.semAt_some

/-- rounds one by one till one has an error: how many are begun, and the error -/
def goE (e : Nat → Int) : Nat → Nat × Int
 | 0 => (0, 0)
 | n + 1 => if (goE e n).2 = 0 then (n + 1, e n) else goE e n
theorem goE_ok {e : Nat → Int} : ∀ n, (∀ i, i < n → e i = 0) → goE e n = (n, 0)
 | 0, _ => rfl
 | n + 1, h => by
  show (if (goE e n).2 = 0 then (n + 1, e n) else goE e n) = _
  rw [goE_ok n (fun i hi => h i (by omega)), if_pos rfl, h n (by omega)]
theorem goE_bad {e : Nat → Int} {j : Nat} (hok : ∀ i, i < j → e i = 0) (hb : e j ≠ 0) : ∀ n, j < n → goE e n = (j + 1, e j)
 | 0, h => absurd h (by omega)
 | n + 1, h => by
  show (if (goE e n).2 = 0 then (n + 1, e n) else goE e n) = _
  rcases Nat.lt_or_ge j n with h1 | h1
  ·rw [goE_bad hok hb n h1, if_neg hb]
  ·obtain rfl : j = n := by omega
   rw [goE_ok j hok, if_pos rfl]
/-- an object's sector that has its sum, read at step k -/
def objGo (x : DiskD) (N area : Int) (i : Nat) : Prop := getE (objS x N area i) N = 0 ∧ (crcW ((objS x N area i).take 508)).toNat = numAt (headS x N area) (22 + 6 * i) 4
instance (x : DiskD) (N area : Int) (i : Nat) : Decidable (objGo x N area i) := by unfold objGo; exact inferInstance
def objE (x : DiskD) (N area : Int) (k i : Nat) : Int := if (x.plus k).err (sectorN N 4 area i).1 = 0 then (if objGo x N area i then 0 else 170) else (x.plus k).err (sectorN N 4 area i).1
def partE (x : DiskD) (N area : Int) (nb k i : Nat) : Int := if (x.plus k).err (sectorN N 3 area i).1 = 0 then (if ((partS x N area i).drop (nb - 512 * i)).all (· == 0) = true then 0 else 170) else (x.plus k).err (sectorN N 3 area i).1
def objsR (x : DiskD) (N area : Int) (n : Nat) : Nat × Int := goE (fun i => objE x N area (1 + i) i) n
def partsR (x : DiskD) (N area : Int) (n nb : Nat) : Nat × Int := goE (fun i => partE x N area nb (1 + (n + i)) i) (chunksN nb)
/-- how many steps logs.Read takes of a disk, and its answer -/
def readR (x : DiskD) (N area : Int) : Nat × Int :=
 if x.err (sectorN N 2 area 0).1 = 0 then
  if headB N (headS x N area) = true then
   if (objsR x N area (numAt (headS x N area) 12 2)).2 = 0 then
    if (partsR x N area (numAt (headS x N area) 12 2) (numAt (headS x N area) 14 2)).2 = 0 then
     (1 + (numAt (headS x N area) 12 2 + (partsR x N area (numAt (headS x N area) 12 2) (numAt (headS x N area) 14 2)).1), if (crcW (stateOf x N area (numAt (headS x N area) 14 2))).toNat = numAt (headS x N area) 16 4 then 0 else 170)
    else (1 + (numAt (headS x N area) 12 2 + (partsR x N area (numAt (headS x N area) 12 2) (numAt (headS x N area) 14 2)).1), (partsR x N area (numAt (headS x N area) 12 2) (numAt (headS x N area) 14 2)).2)
   else (1 + (objsR x N area (numAt (headS x N area) 12 2)).1, (objsR x N area (numAt (headS x N area) 12 2)).2)
  else (1, 170)
 else (1, x.err (sectorN N 2 area 0).1)
section
variable {x : DiskD} {N area : Int}
theorem readR_err (h : x.err (sectorN N 2 area 0).1 ≠ 0) : readR x N area = (1, x.err (sectorN N 2 area 0).1) := by
 unfold readR
 rw [if_neg h]
theorem readR_none (h : x.err (sectorN N 2 area 0).1 = 0) (hh : headB N (headS x N area) = false) : readR x N area = (1, 170) := by
 unfold readR
 rw [if_pos h, hh, if_neg (by decide)]
theorem readR_obj (h : x.err (sectorN N 2 area 0).1 = 0) (hh : headB N (headS x N area) = true) {j : Nat} {c : Int} (hj : j < numAt (headS x N area) 12 2) (hok : ∀ i, i < j → objE x N area (1 + i) i = 0) (hc : objE x N area (1 + j) j = c) (h0 : c ≠ 0) :
  readR x N area = (1 + (j + 1), c) := by
 have e : objsR x N area (numAt (headS x N area) 12 2) = (j + 1, c) := by
  unfold objsR
  rw [goE_bad (e := fun i => objE x N area (1 + i) i) hok (by show objE x N area (1 + j) j ≠ 0; rw [hc]; exact h0) _ hj]
  show (j + 1, objE x N area (1 + j) j) = _
  rw [hc]
 unfold readR
 rw [if_pos h, if_pos hh, e, if_neg h0]
theorem objsR_ok {n : Nat} (hok : ∀ i, i < n → objE x N area (1 + i) i = 0) : objsR x N area n = (n, 0) := goE_ok (e := fun i => objE x N area (1 + i) i) n hok
theorem readR_part (h : x.err (sectorN N 2 area 0).1 = 0) (hh : headB N (headS x N area) = true) {n nb i : Nat} {c : Int} (hn : n = numAt (headS x N area) 12 2) (hnb : nb = numAt (headS x N area) 14 2) (hok : ∀ i, i < n → objE x N area (1 + i) i = 0)
  (hi : i < chunksN nb) (hp : ∀ k, k < i → partE x N area nb (1 + (n + k)) k = 0) (hc : partE x N area nb (1 + (n + i)) i = c) (h0 : c ≠ 0) :
  readR x N area = (1 + (n + i) + 1, c) := by
 have e : partsR x N area n nb = (i + 1, c) := by
  unfold partsR
  rw [goE_bad (e := fun i => partE x N area nb (1 + (n + i)) i) hp (by show partE x N area nb (1 + (n + i)) i ≠ 0; rw [hc]; exact h0) _ hi]
  show (i + 1, partE x N area nb (1 + (n + i)) i) = _
  rw [hc]
 unfold readR
 rw [if_pos h, if_pos hh, ← hn, ← hnb, objsR_ok hok, if_pos rfl, e, if_neg h0]
 rfl
theorem readR_end (h : x.err (sectorN N 2 area 0).1 = 0) (hh : headB N (headS x N area) = true) {n nb : Nat} (hn : n = numAt (headS x N area) 12 2) (hnb : nb = numAt (headS x N area) 14 2) (hok : ∀ i, i < n → objE x N area (1 + i) i = 0)
  (hp : ∀ k, k < chunksN nb → partE x N area nb (1 + (n + k)) k = 0) :
  readR x N area = (1 + (n + chunksN nb), if (crcW (stateOf x N area nb)).toNat = numAt (headS x N area) 16 4 then 0 else 170) := by
 have e : partsR x N area n nb = (chunksN nb, 0) := goE_ok (e := fun i => partE x N area nb (1 + (n + i)) i) _ hp
 unfold readR
 rw [if_pos h, if_pos hh, ← hn, ← hnb, objsR_ok hok, if_pos rfl, e, if_pos rfl]
theorem objE_err {k i : Nat} (h : (x.plus k).err (sectorN N 4 area i).1 ≠ 0) : objE x N area k i = (x.plus k).err (sectorN N 4 area i).1 := by unfold objE; rw [if_neg h]
theorem objE_yes {k i : Nat} (h : (x.plus k).err (sectorN N 4 area i).1 = 0) (h2 : objGo x N area i) : objE x N area k i = 0 := by unfold objE; rw [if_pos h, if_pos h2]
theorem objE_no {k i : Nat} (h : (x.plus k).err (sectorN N 4 area i).1 = 0) (h2 : ¬ objGo x N area i) : objE x N area k i = 170 := by unfold objE; rw [if_pos h, if_neg h2]
theorem partE_err {nb k i : Nat} (h : (x.plus k).err (sectorN N 3 area i).1 ≠ 0) : partE x N area nb k i = (x.plus k).err (sectorN N 3 area i).1 := by unfold partE; rw [if_neg h]
theorem partE_is {nb k i : Nat} (h : (x.plus k).err (sectorN N 3 area i).1 = 0) {b : Bool} (hb : ((partS x N area i).drop (nb - 512 * i)).all (· == 0) = b) : partE x N area nb k i = if b = true then 0 else 170 := by unfold partE; rw [if_pos h, hb]
theorem plus_ok (hx : x.ok) (hs : x.steps ≤ 900000000000) (k : Nat) (hk : k ≤ 1000) : (x.plus k).ok := by
 obtain ⟨h1, h2, h3, h4, h5, h6, h7⟩ := hx
 exact ⟨h1, h2, h3, h4, by show 0 ≤ x.steps + (k : Int); omega, by show x.steps + (k : Int) ≤ _; omega, h7⟩
theorem ask_facts (h : askB N x.size area = true) : 1 ≤ N ∧ N ≤ 64 ∧ 20 + 3 * N ≤ x.size ∧ (area = 0 ∨ area = 1) := by
 unfold askB rightB at h
 simp only [Bool.and_eq_true, decide_eq_true_eq] at h
 obtain ⟨⟨⟨⟨h1, h2⟩, h3⟩, h4⟩, h5⟩ := h
 exact ⟨h1, h2, h3, by omega⟩
/-- an area's places are on the disk -/
theorem place_there (h : askB N x.size area = true) (k t : Int) (hk : (k = 2 ∧ t = 0) ∨ (k = 3 ∧ 0 ≤ t ∧ t < 8) ∨ (k = 4 ∧ 0 ≤ t ∧ t < N)) : 0 ≤ (sectorN N k area t).1 ∧ (sectorN N k area t).1 < x.size := by
 obtain ⟨h1, h2, h3, h4⟩ := ask_facts h
 have hr : rightB N = true := by simp [rightB, h1, h2]
 unfold sectorN
 rw [hr]
 rcases h4 with rfl | rfl <;> rcases hk with ⟨rfl, rfl⟩ | ⟨rfl, h5, h6⟩ | ⟨rfl, h5, h6⟩
 all_goals
  simp [partsL, psAt, nAt, isPart]
  try first
   | omega
   | (split <;> omega)
theorem after_there {y : DiskD} {n : Int} (h : 0 ≤ n ∧ n < y.size) : y.after n = y.stepped := by
 unfold DiskD.after
 rw [if_neg (by omega)]
end
/-- what Read of a disk leaves -/
def RdPost (D : DiskP) (x : DiskD) (N area : Int) (w : World) (e : Ending) (w' : World) : Prop :=
 ∃ v y, e = .returned (.tuple #[v, .int .i64 (readR x N area).2]) ∧ (if (readR x N area).2 = 0 then FrameFrom w.heap.size w' v (frameOf x N area) else v = .agg zeroF) ∧ DiskAt w' D y ∧ y = x.plus (readR x N area).1 ∧ DStep D D w w'
set_option maxRecDepth 100000 in
set_option maxHeartbeats 2000000 in
theorem given_panicking_in (n : Nat) (g : Nat) (t : TypeId) (c x : Int) (w : World) (hb : Blk w g t #[.int .i64 x]) :
  CallsDIn Fence.wide n Tryz.prog 68 #[ptr g] (.panicking (failC c)) w fun e u' w' => e = .returned (.tuple #[]) ∧ u' = .panicking [{ v := .iface 211 (.agg #[.int .i64 c]), recovered := true }] ∧ w' = (w.setCell ⟨g, 0, none⟩ (.int .i64 c)).alloc (.cells #[.int .i64 c] 211) := by
 have hb2 := hb.alloc (.cells #[.int .i64 c] 211)
 have hc := hb2.cell_is 0 rfl
 have hz := hb2.frozen 0
 have hlt := hb.lt
 unfold ptr
 clear hb hb2
 refine callsDIn_of_wpSIn Tryz.func68 rfl trivial (fun c₀ cs hu => ?_)
 unfold failC at hu
 have hta : (Instr.typeAssert (.iface 211 (.agg #[.int .i64 c])) 20 211 true).run Tryz.prog w = .ok (.tuple #[.agg #[.int .i64 c], .bool true]) w := by kernel_rfl
 apply wpSIn_seq
 apply wpSIn_region
 simp [wpOpsSIn, go_sem, recoverD, hu, Tryz.ntmps68, Exit.thenS]
 rw [show (Array.replicate 14 undef : Array Value) = #[undef, undef, undef, undef, undef, undef, undef, undef, undef, undef, undef, undef, undef, undef] from rfl]
 simp only [List.setIfInBounds_toArray, List.set_cons_zero, List.set_cons_succ, List.append_toArray, List.cons_append, List.nil_append]
 refine wpSIn_of_wpIn rfl (wpIn_wide.2 ?_)
 go_wp2_with fail
 cases c₀
 simp_all [bodyPostS, results, Tryz.results68]
/-- a Read that is given up: the error of the chain is the answer, the results are as they were -/
def RdGone (D : DiskP) (x : DiskD) (N area : Int) (w : World) (ch : List PanicEntry) (W : World) : Prop :=
 ∃ k c, ch = failC c ∧ c ≠ 0 ∧ readR x N area = (k, c) ∧ DiskAt W D (x.plus k) ∧ DStep D D w W ∧ Blk W (w.heap.size + 3) 28 zeroF ∧ Blk W (w.heap.size + 4) 32 #[.int .i64 0]
theorem RdGone.out {D : DiskP} {x : DiskD} {N area : Int} {w W W' : World} {ch : List PanicEntry} (h : RdGone D x N area w ch W) (hD : ∀ i, D.has i → i < w.heap.size) {F : Nat → Prop} (ho : Out F W W') (hF : ∀ i, F i → i < W.heap.size → w.heap.size + 5 ≤ i) : RdGone D x N area w ch W' := by
 obtain ⟨k, c, h1, h2, h3, hd, hs, b3, b4⟩ := h
 have l4 := b4.lt
 have hn : ∀ i, i < w.heap.size + 5 → ¬ (F i ∧ i < W.heap.size) := fun i hi hf => by have := hF i hf.1 hf.2; omega
 have ho2 : Out (fun i => F i ∧ i < W.heap.size) W W' := ⟨ho.os, ho.tape, ho.output, ho.size, fun i hi hf => ho.block i hi (fun hf' => hf ⟨hf', hi⟩)⟩
 exact ⟨k, c, h1, h2, h3, hd.out ho2 (fun i hi hf => hn i (by have := hD i hi; omega) hf), ⟨hs.out.trans ho2 (fun i hi hg => (hn i (by omega) hg).elim), rfl, fun i hi => .inl hi⟩, ho2.blk b3 (hn _ (by omega)), ho2.blk b4 (hn _ (by omega))⟩
theorem RdInv.gone {D : DiskP} {x : DiskD} {N area : Int} {w W : World} {gs : Nat} {y : DiskD} {S : Array Value} (h : RdInv D w N area gs W y S) {k : Nat} {c : Int} (hy : y = x.plus k) (hr : readR x N area = (k, c)) (hc : c ≠ 0) : RdGone D x N area w (failC c) W := by
 subst hy
 exact ⟨k, c, rfl, hc, hr, h.disk, h.step, h.b3, h.b4⟩
/-- the end of a Read that is given up -/
theorem read_given (nf : Nat) {D : DiskP} {x : DiskD} {N area : Int} {w W : World} {ch : List PanicEntry} (h : RdGone D x N area w ch W) (hD : ∀ i, D.has i → i < w.heap.size) (tmps : Array Value)
  (t3 : tmps.getD 6 undef = .pointer (some ⟨w.heap.size + 3, 0, none⟩)) (t4 : tmps.getD 7 undef = .pointer (some ⟨w.heap.size + 4, 0, none⟩)) :
  LeavesInM Fence.wide nf Tryz.prog Tryz.f20 tmps (RdPost D x N area w) [{ target := .fn (.func 68) #[], args := #[.pointer (some ⟨w.heap.size + 4, 0, none⟩)] }] (.panicking ch) W := by
 obtain ⟨k, c, rfl, hc, hr, hd, hs, h3, h4⟩ := h
 refine ⟨by simp, .inr ⟨(fun h => by cases h), Fn.func 68, #[], 68, #[ptr (w.heap.size + 4)], rfl, by simp [go_sem, ptr], fun _ _ => trivial, ?_⟩⟩
 refine CallsDIn.mono' (given_panicking_in (nf - 1) (w.heap.size + 4) _ c 0 W h4) ?_
 rintro e u' w'' ⟨rfl, rfl, rfl⟩
 have b3 : Blk ((W.setCell ⟨w.heap.size + 4, 0, none⟩ (.int .i64 c)).alloc (.cells #[.int .i64 c] 211)) (w.heap.size + 3) 28 zeroF := (h3.far (by simp) _).alloc _
 have b4 : Blk ((W.setCell ⟨w.heap.size + 4, 0, none⟩ (.int .i64 c)).alloc (.cells #[.int .i64 c] 211)) (w.heap.size + 4) 32 #[.int .i64 c] := (h4.set_ 0 _).alloc _
 refine ⟨_, results_row_cell Tryz.results20 _ _ (w.heap.size + 3) 28 zeroF (0, 0) _ t3 b3 Tryz.underlying28 rfl (by kernel_rfl) _ _ t4 (load_errno _ (w.heap.size + 4) _ _ b4), .agg zeroF, x.plus k, by rw [hr], ?_, ?_, by rw [hr], ?_⟩
 ·rw [hr, if_neg hc]
 ·exact (hd.out (F := fun i => i = w.heap.size + 4) (out_set rfl) (fun i hi e => by have := hD i hi; omega)).below ((Below.refl _ _).alloc (Nat.le_refl _) _)
 ·exact DStep.below ⟨hs.out.trans (out_set (F := fun i => i = w.heap.size + 4) rfl) (fun i hi e => by omega), rfl, fun i hi => .inl hi⟩ ((Below.refl _ _).alloc (Nat.le_refl _) _)
theorem getO_ok {b : List UInt8} (hl : b.length = 512) (n : Int) : (getO b n).ok := by
 unfold getO
 split
 ·exact objOf_ok _ (by rw [List.length_take, hl]; rfl)
 ·exact objZ_ok
theorem zeros_beq {b : List UInt8} (hl : b.length = 512) (r : Nat) : (b.drop (min 512 r) == sector0.drop (min 512 r)) = (b.drop r).all (· == 0) := by
 rcases Nat.le_total 512 r with h | h
 ·rw [Nat.min_eq_left h, List.drop_eq_nil_of_le (Nat.le_of_eq hl), List.drop_eq_nil_of_le (Nat.le_of_eq sector0_len), List.drop_eq_nil_of_le (by omega)]
  rfl
 ·rw [Nat.min_eq_right h]
  cases hq : (b.drop r).all (· == 0)
  ·rw [beq_eq_false_iff_ne]
   intro e
   rw [e] at hq
   have h1 : (sector0.drop r).all (· == 0) = true := List.all_eq_true.2 (fun c hc => by
    have h2 := List.mem_of_mem_drop hc
    unfold sector0 at h2
    rw [List.eq_of_mem_replicate h2]
    rfl)
   rw [h1] at hq
   cases hq
  ·rw [part_zeros hl hq, beq_self_eq_true]
theorem zeros_512 {b : List UInt8} (hl : b.length = 512) : (b.drop 512 == sector0.drop 512) = true := by
 rw [List.drop_eq_nil_of_le (Nat.le_of_eq hl), List.drop_eq_nil_of_le (Nat.le_of_eq sector0_len), beq_self_eq_true]
/-- and within a round: what is shown of a panic does not hang on the frame -/
theorem wpIn_mergeP {P : Program} {F : Fence} {n : Nat} {c : Code} {Q : Exit → Act → World → Prop} {a : Act} {w : World} {ι : Type} (A : ι → Act) (I : ι → World → Prop) (J : List PanicEntry → World → Prop)
  (h : c.wpIn F n P (fun e a' w' => match e with | .normal => ∃ i, a' = A i ∧ I i w' | .panic ch => a'.defers = [] ∧ J ch w' | _ => False) a w) (hk : ∀ i w', I i w' → Q .normal (A i) w') (hp : ∀ ch a' w', a'.defers = [] → J ch w' → Q (.panic ch) a' w') : c.wpIn F n P Q a w :=
 wpIn_mono h (fun e a' w' h => by
  cases e with
  | normal => obtain ⟨i, rfl, hi⟩ := h; exact hk i w' hi
  | panic ch => exact hp ch a' w' h.1 h.2
  | _ => exact h.elim)
/-- logs.parts, where a round may panic -/
theorem parts2p_m (n : Nat) (hn : 3 ≤ n) (Bs : Nat) (T : Nat → TypeId → Prop) (gs m : Nat) (w : World) (hT : ∀ i, w.heap.size ≤ i → (¬ T i 26 ∧ ¬ T i 3 ∧ ¬ T i 199))
  (hBs : Blk w Bs 26 #[.slice (some ⟨gs, 0, none⟩) m m]) (hv : PageAt gs m w) (hst : m ≤ 1000000) (hgs : gs < w.heap.size) :
  SeqP 2 n Tryz.prog 107 #[.pointer (some ⟨Bs, 0, none⟩)] (vp2 (N := chunksN m)) (KeepsU T (w.heap.size + 2) gs m) (fun ys => ys.map (·.1.val) = List.range (chunksN m)) (fun _ => True) (fun pre x => x.1.val = pre.length) (chunksN m) w := by
 obtain ⟨st, rfl⟩ : ∃ st : List UInt8, st.length = m := ⟨List.replicate m 0, by simp⟩
 exact parts2p_seq n hn Bs T gs st w hT hBs hv hst hgs
end Go.Proofs.YtdpniceapmikpaaGreat
