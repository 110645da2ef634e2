/-
  logs.parts of a state that changes while the loop runs: the numbers alone are known. (Turned from LParts.)
  given, deferred, where the frame returns: within the wide fence.
-/
import Derived.RecoverIn
import Derived.Test.YtdpniceapmikpaaGreatWh15
import Derived.Test.YtdpniceapmikpaaGreatWh17
set_option linter.unusedVariables false
set_option linter.unusedSimpArgs false
namespace Go.Proofs.YtdpniceapmikpaaGreat
open Go.RowKit Go.Shelf

attribute [local go_sem] Oper.semAt_some

def vp2 {N : Nat} (x : Fin N × SecS) : Array Value := #[.int .i64 (x.1.val : Int), .agg (x.2.1.map vu8).toArray]
/-- block g holds m bytes -/
def PageAt (g m : Nat) (W : World) : Prop := ∃ st : List UInt8, st.length = m ∧ Blk W g 5 (st.map vu8).toArray
theorem PageAt.below {g m B : Nat} {W W' : World} (h : PageAt g m W) (hb : Below B W W') (hg : g < B) : PageAt g m W' := by
 obtain ⟨st, h1, h2⟩ := h
 exact ⟨st, h1, h2.below hb hg⟩
theorem PageAt.own {g m : Nat} {W W' : World} {row : Option Nat} (h : PageAt g m W) (hg : W.grownBy W' row) (hr : ∀ r, row = some r → g < r) : PageAt g m W' := by
 obtain ⟨st, h1, h2⟩ := h
 exact ⟨st, h1, (hg.block g h2.lt (fun e => by have := hr g e.symm; omega)).trans h2⟩
theorem PageAt.set_ {g m k : Nat} {W : World} (h : PageAt g m W) (hk : g ≠ k) (v : Value) : PageAt g m (W.setCell ⟨k, 0, none⟩ v) := by
 obtain ⟨st, h1, h2⟩ := h
 exact ⟨st, h1, h2.far hk v⟩
/-- what a round of such a loop keeps -/
structure KeepsU (T : Nat → TypeId → Prop) (C g m : Nat) (W W' : World) : Prop where
 k : KeepsT T 0 C W W'
 p : PageAt g m W → PageAt g m W'
set_option maxRecDepth 100000 in
set_option maxHeartbeats 4000000 in
theorem parts2_in (n : Nat) (hn : 3 ≤ n) (l Bs C : Nat) (T : Nat → TypeId → Prop) (gs : Nat) (st : List UInt8) (J Jx : List (Fin (chunksN st.length) × SecS) → World → Prop) (W : World)
  (hJ : OwnC 0 2 W.heap.size J) (hJx : OwnC 0 2 W.heap.size Jx) (hT : ∀ i, W.heap.size ≤ i → (¬ T i 26 ∧ ¬ T i 3 ∧ ¬ T i 199))
  (hY : ∀ pre x X, J pre X → pre.length < chunksN st.length → W.heap.size + 2 ≤ X.heap.size → YieldAt Fence.wide (n - 1) Tryz.prog l (vp2 x) X fun e W' =>
   (e = .returned (.bool true) ∧ J (pre ++ [x]) W' ∧ KeepsU T C gs st.length X W') ∨ (e = .returned (.bool false) ∧ Jx (pre ++ [x]) W' ∧ KeepsFrom C X W'))
  (hBs : W.cell? ⟨Bs, 0, none⟩ = some (.slice (some ⟨gs, 0, none⟩) st.length st.length)) (hv : PageAt gs st.length W) (hst : st.length ≤ 1000000) (hgs : gs < W.heap.size) (hC : C ≤ W.heap.size) (h0 : J [] W) :
  CallsIn Fence.wide n Tryz.prog 107 #[.func (.yield l) #[] #[], .pointer (some ⟨Bs, 0, none⟩)] W fun e W' => (∃ v, e = .returned v) ∧
   ((∃ ys, ys.map (·.1.val) = List.range (chunksN st.length) ∧ J ys W') ∨ (∃ pre, True ∧ Jx pre W')) := by
 have h1 : 1 ≤ n := by omega
 have hro : Fence.wide.round = none := rfl
 refine callsIn_of_wp_marks Tryz.func107 rfl trivial ?_ hro
 simp only [Tryz.ntmps107, List.size_toArray, List.length_cons, List.length_nil, Nat.reduceAdd, Nat.reduceSub, Array.replicate_succ, Array.replicate_zero, List.push_toArray, List.append_toArray, List.nil_append, List.cons_append]
 refine wpIn_wide.2 ?_
 have hlt := World.block_lt_of_cell? W _ hBs
 go_wp2_with fail
 refine (callsIn_wide.1 (chunk_in 5 _ _ _ _)).mono ?_; rintro e w2 ⟨rfl, rfl⟩
 go_wp2_with fail
 refine (wpIn_wide (n := n)).1 ?_
 obtain ⟨V, eV⟩ : ∃ V, V = (((W.alloc (.cells #[.func (.yield l) #[] #[]] 199)).alloc (.cells #[.int .i64 0] 3)).alloc (.cells #[.slice (some ⟨gs, 0, none⟩) st.length st.length] 26)).alloc (.cells #[.int .i64 512] 3) := ⟨_, rfl⟩
 rw [← eV]
 have hbV : Below W.heap.size W V := by rw [eV]; exact ((((Below.refl _ W).alloc (Nat.le_refl _) _).alloc (by simp) _).alloc (by simp; omega) _).alloc (by simp; omega) _
 have k0 : Blk V W.heap.size 199 #[.func (.yield l) #[] #[]] := by rw [eV]; exact (((Blk.new W _ _).alloc _).alloc _).alloc _
 have k1 : Blk V (W.heap.size + 1) 3 #[.int .i64 0] := by rw [eV]; exact ((Blk.new2 W _ _ _).alloc _).alloc _
 have k2 : Blk V (W.heap.size + 1 + 1) 26 #[.slice (some ⟨gs, 0, none⟩) st.length st.length] := by rw [eV]; exact (Blk.new' (by simp)).alloc _
 have k3 : Blk V (W.heap.size + 1 + 1 + 1) 3 #[.int .i64 512] := by rw [eV]; exact Blk.new' (by simp)
 have hVs : V.heap.size = W.heap.size + 4 := by rw [eV]; simp
 have hJ0 : J [] V := by rw [eV]; exact hJ.from.alloc _ (hJ.from.alloc _ (hJ.from.alloc _ (hJ.from.alloc _ h0)))
 clear eV
 have hT2 := (hT (W.heap.size + 1 + 1) (by omega)).1
 have hT3 := (hT (W.heap.size + 1 + 1 + 1) (by omega)).2.1
 have hTy := (hT W.heap.size (Nat.le_refl _)).2.2
 have hvV : PageAt gs st.length V := hv.below hbV hgs
 have hc : st.length ≤ maxLen := by unfold maxLen; omega
 refine rangeO (gf := 142) (lb := #[.pointer (some ⟨W.heap.size + 1 + 1, 0, none⟩), .pointer (some ⟨W.heap.size + 1 + 1 + 1, 0, none⟩)]) rfl (enters_of Tryz.func142 (by kernel_rfl) rfl)
  (seqO_of_K (chunk_stops (n - 1) (by omega) (W.heap.size + 1 + 1) (W.heap.size + 1 + 1 + 1) 0 (V.heap.size + 2) (fun i t => T i t ∨ i = W.heap.size + 1) (fun h => h.elim hT2 (by omega)) (fun h => h.elim hT3 (by omega)) (some ⟨gs, 0, none⟩) st.length st V k2 k3 hst (Nat.le_refl _) hc) (fun _ _ h => h.size)) keepsT_t (keepsT_b (by omega) (by omega)) (fun _ => rfl)
  (fun pre X => ((∃ ys : List (Fin (chunksN st.length) × SecS), ys.map (·.1.val) = List.range pre.length ∧ J ys X) ∧ PageAt gs st.length X) ∧ (Blk X W.heap.size 199 #[.func (.yield l) #[] #[]] ∧ Blk X (W.heap.size + 1) 3 #[.int .i64 (pre.length : Int)] ∧ KeepsT (fun i t => T i t ∨ i = W.heap.size + 1) 0 (V.heap.size + 2) V X))
  (fun c pre X => c = .ret ∧ ∃ ys, Jx ys X)
  (OwnFrom.zero (fun s A A' row hs hg hr => ⟨⟨by obtain ⟨ys, h1, h2⟩ := hs.1.1; exact ⟨ys, h1, hJ.from _ A A' row h2 hg (fun r e => ⟨by have := (hr r e).1; omega, (hr r e).2⟩)⟩, hs.1.2.own hg (fun r e => by have := (hr r e).1; omega)⟩, hs.2.1.own hg (fun r e => (hr r e).2), hs.2.2.1.own hg (fun r e => (hr r e).2), keepsT_own hs.2.2.2 hg (fun r e => ⟨⟨by have := (hr r e).1; omega, (hr r e).1⟩, (hr r e).2⟩) (by omega)⟩))
  (fun c => OwnFrom.zero (fun s A A' row hs hg hr => ⟨hs.1, by obtain ⟨ys, h2⟩ := hs.2; exact ⟨ys, hJx.from _ A A' row h2 hg (fun r e => ⟨by have := (hr r e).1; omega, (hr r e).2⟩)⟩⟩))
  ⟨⟨⟨[], rfl, hJ0⟩, hvV⟩, k0, k1, KeepsT.refl _ _ _ _⟩
  (fun x a' X => a' = { tmps := #[.func (.yield l) #[] #[], .pointer (some ⟨Bs, 0, none⟩), .pointer (some ⟨W.heap.size, 0, none⟩), .pointer (some ⟨W.heap.size + 1, 0, none⟩), chunkV (some ⟨gs, 0, none⟩) st.length x.val, undef, .slice (some ⟨gs, 0, none⟩) st.length st.length, .func (.func 142) #[] #[.pointer (some ⟨W.heap.size + 1 + 1, 0, none⟩), .pointer (some ⟨W.heap.size + 1 + 1 + 1, 0, none⟩)], chunkV (some ⟨gs, 0, none⟩) st.length x.val, undef, undef, undef, undef, undef, undef, undef, undef, undef, undef], defers := [] })
  (fun x a' s A A' row hs hg hr => hs) ?assign ?body ?done ?stop
 case assign =>
  intro l2 pre x X K hI hX2 hK
  gi_wp2
  exact hK _ _ (KeepsFrom.refl _ _) (KeepsT.refl _ _ _ _) hI rfl
 case body =>
  rintro l2 pre x a' X ⟨⟨⟨ys, hys, hJX⟩, hpg⟩, hy0, hi0, hkt⟩ rfl hlen hXs
  have hyl : ys.length = pre.length := by have := congrArg List.length hys; simpa using this
  have hp : pre.length ≤ 2000000 := by
   have h1 : pre.length < chunksN st.length := hlen
   have h2 : chunksN st.length ≤ 2000000 := by unfold chunksN; omega
   omega
  obtain ⟨st', hst', hbk'⟩ := hpg
  have hch := chunk_bytes (a := some ⟨gs, 0, none⟩) (cap := st'.length) (by have h := blk_bytes hbk' st'.length (Nat.le_refl _) (by unfold maxLen; omega); rwa [List.take_length] at h) x.val (by rw [hst']; exact x.isLt)
  rw [hst'] at hch
  have hb1 := (Below.refl X.heap.size X).alloc (Nat.le_refl _) (.cells Tryz.zeroCells111 111)
  have kz : Blk (X.alloc (.cells Tryz.zeroCells111 111)) X.heap.size 111 (sector0.map vu8).toArray := by rw [← zero111]; exact Blk.new X _ _
  obtain ⟨X2, hr2, hk2, ho2⟩ := run_copy_lay _ X.heap.size 111 sector0 kz X.heap.size _ _ _ 512 (chunkL st' x.val) (hch.below hb1 (Nat.le_refl _)) (by rw [sector0_len]; exact chunkL_len st' x.val) 3
  rw [sector0_len] at hr2
  have hb2 : Below X.heap.size X X2 := hb1.trans (ho2.below hb1.size (fun i hi e => by omega))
  have hpg2 : PageAt gs st.length X2 := PageAt.below ⟨st', hst', hbk'⟩ hb2 hbk'.lt
  have hJ2 : J ys X2 := hJ _ X X2 none hJX ⟨hb2.os, hb2.tape, hb2.output, hb2.size, fun i hi _ => hb2.block i hi⟩ (fun r e => by cases e)
  have hy2 := (hy0.below hb2 hy0.lt).cell_is 0 rfl
  have hi2 := (hi0.below hb2 hi0.lt).cell_is 0 rfl
  have hld := run_loadAt_mid (P := Tryz.prog) X2 X.heap.size 0 111 ((layL sector0 (chunkL st' x.val)).map vu8) _ (fun j v hv => hk2.cell_is (0 + j) (by rw [List.getElem?_toArray, Nat.zero_add]; exact hv)) Tryz.underlying111 rfl (by rw [List.length_map, secOf_len]; exact size_sector)
  obtain ⟨fn, tm, as_, bd, hy, hR⟩ := hY _ (⟨pre.length, hlen⟩, secOf st' x.val) X2 hJ2 (by rw [hyl]; exact hlen) (by have := hb2.size; omega)
  simp only [vp2, secOf] at hy
  have HKT := Lib.hid hkt
  have HB2 := Lib.hid hb2
  have HY0 := Lib.hid hy0
  have HI0 := Lib.hid hi0
  have HPG2 := Lib.hid hpg2
  have HYS := Lib.hid (And.intro hys hyl)
  have KT := Lib.hid (fun (W3 : World) (hk3 : KeepsT T 0 C X2 W3) (v : Value) => (KeepsT.of (T := fun i t => T i t ∨ i = W.heap.size + 1) (B := 0) (C := V.heap.size + 2) hb2 (by omega)).trans ((hk3.weak2 (C' := V.heap.size + 2) (fun i t h => .inl h) (by omega)).trans (keepsT_set (B := 0) (C := V.heap.size + 2) (g := W.heap.size + 1) (by omega) (by omega) (fun t => .inr rfl) W3 v)))
  clear hkt hb1 hb2 hch kz ho2 hJ2 hJX hY hy0 hi0 hpg2 hbk' hys hyl
  gi_wp2_with (first
   | (refine wpListIn_plain rfl fun _ hK => op_round rfl (Lib.wp_copy_run _ (.tmp 9) (.tmp 10) 26 26 rfl _ _ rfl rfl hr2 (hK _ _ ?_)))
   | (refine wpIn_load_is _ 111 _ rfl _ _ rfl hld ?_))
  refine ⟨fun h => (by cases h), (round_any hR).mono ?_⟩
  rintro e W3 (⟨rfl, hJ3, hk3, hp3⟩ | ⟨rfl, hJx3, hkf3⟩)
  ·have hti := (hT (W.heap.size + 1) (by omega)).2.1
   have hi3 := hk3.blk (HI0.out.below HB2.out HI0.out.lt) hti
   have ci3 := hi3.cell_is 0 rfl
   have fi3 := hi3.frozen 0
   have hpl : IntKind.i64.wrap ((pre.length : Int) + 1) = (pre.length : Int) + 1 := by rw [IntKind.wrap_i64]; omega
   gi_wp2
   refine ⟨⟨by have h1 := HB2.out.size; have h2 := hk3.size; simp; omega, fun k o hk ho hc => ?_⟩, ?_, ⟨?_, ?_, ?_, ?_⟩⟩
   ·have h1 := hk3.others k o (by omega) ((HB2.out.block k (Array.getElem?_eq_some_iff.1 ho).1).trans ho) hc
    exact (Below.heap_setCell W3 _ _ _ (by show k ≠ W.heap.size + 1; omega)).trans h1
   ·exact KT.out W3 hk3 _
   ·refine ⟨⟨_, ?_, hJ _ W3 _ (some (W.heap.size + 1)) hJ3 (grownBy_setCell' W3 (W.heap.size + 1) _) (fun r e => by cases e; exact ⟨by omega, .inl ⟨by omega, by omega⟩⟩)⟩, (hp3 HPG2.out).set_ (by omega) _⟩
    rw [List.map_append, HYS.out.1, List.length_append, List.length_singleton, List.range_succ]
    rfl
   ·exact (hk3.blk (HY0.out.below HB2.out HY0.out.lt) hTy).far (p := ⟨W.heap.size + 1, 0, none⟩) (by simp) _
   ·have h := hi3.set_ 0 (.int .i64 ((pre.length : Int) + 1))
    have e : ((pre ++ [x]).length : Int) = (pre.length : Int) + 1 := by simp
    rw [e]
    exact h
   ·exact HKT.out.trans (KT.out W3 hk3 _)
  ·gi_wp2
   exact ⟨⟨by have h1 := HB2.out.size; have h2 := hkf3.size; omega, fun k o hk ho hc => hkf3.same k o (by omega) ((HB2.out.block k (Array.getElem?_eq_some_iff.1 ho).1).trans ho) hc⟩, rfl, _, hJx3⟩
 case done =>
  rintro Dd xs X hDd rfl ⟨⟨⟨ys, hys, hJX⟩, _⟩, _, _, _⟩ hK
  rw [List.length_finRange] at hys
  go_wp2_with fail
  refine ⟨by simp, .inl ⟨_, _, rfl, run_takeDeferred hK, ?_⟩⟩
  exact ⟨_, results_none rfl _ _ _, ⟨_, rfl⟩, .inl ⟨_, hys, hJ.from.putObj _ hJX (by omega) hK rfl⟩⟩
 case stop =>
  rintro Dd c pre X hDd hSp ⟨rfl, zs, hJX⟩ hK
  refine wpIn_wide.2 ?_
  go_wp2_with fail
  refine ⟨by simp, .inl ⟨_, _, rfl, run_takeDeferred hK, ?_⟩⟩
  exact ⟨_, results_none rfl _ _ _, ⟨_, rfl⟩, .inr ⟨_, trivial, hJx.from.putObj _ hJX (by omega) hK rfl⟩⟩

theorem parts2_seq (n : Nat) (hn : 3 ≤ n) (Bs : Nat) (T : Nat → TypeId → Prop) (gs : Nat) (st : List UInt8) (w : World) (hT : ∀ i, w.heap.size ≤ i → (¬ T i 26 ∧ ¬ T i 3 ∧ ¬ T i 199))
  (hBs : Blk w Bs 26 #[.slice (some ⟨gs, 0, none⟩) st.length st.length]) (hv : PageAt gs st.length w) (hst : st.length ≤ 1000000) (hgs : gs < w.heap.size) :
  SeqO 2 n Tryz.prog 107 #[.pointer (some ⟨Bs, 0, none⟩)] (vp2 (N := chunksN st.length)) (KeepsU T (w.heap.size + 2) gs st.length) (fun ys => ys.map (·.1.val) = List.range (chunksN st.length)) (fun _ => True) (chunksN st.length) w :=
 fun l J Jx W hW hWs hJ hJx hY h0 => parts2_in n hn l Bs (w.heap.size + 2) T gs st J Jx W hJ hJx (fun i hi => hT i (by omega)) hY ((hBs.below hW hBs.lt).cell_is 0 rfl) (hv.below hW hgs) hst (by have := hW.size; omega) hWs h0
end Go.Proofs.YtdpniceapmikpaaGreat
namespace Go.Proofs.YtdpniceapmikpaaGreat
open Go.RowKit
attribute [local go_sem] Oper.semAt_some

theorem given_idle_in (n : Nat) (p : Addr) (w : World) :
  CallsDIn Fence.wide n Tryz.prog 68 #[.pointer (some p)] .returning w fun e u' w' => e = .returned (.tuple #[]) ∧ u' = .returning ∧ w' = w := by
 refine callsDIn_of_wpSIn Tryz.func68 rfl trivial (fun c₀ cs hu => ?_)
 apply wpSIn_seq
 apply wpSIn_region
 simp [wpOpsSIn, go_sem, recoverD, hu, Tryz.ntmps68, Exit.thenS]
 refine wpSIn_of_wpIn rfl (wpIn_wide.2 ?_)
 go_wp2_with fail
 cases c₀
 simp_all [bodyPostS, results, Tryz.results68]
end Go.Proofs.YtdpniceapmikpaaGreat
