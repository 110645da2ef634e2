/-
  The reference's Disk.Fail. (Written by gen_lrfail.py.)
  The program's Disk.Fail.
  small of the statements' package; logs.Write of no disk.
  few of the statements' package.
  The law LogsWrites.
  From a walk to a law's row: a call that answers true and turns nothing that was there; for all arguments.
-/
import Derived.Test.YtdpniceapmikpaaGreatRows
import Derived.WalkKit
import Derived.ProofKit
import Derived.OpenShut
import Derived.Below
import Derived.ChangeSame
import Derived.Deep.Fields
import Derived.Test.YtdpniceapmikpaaGreatSt1
import Derived.Test.YtdpniceapmikpaaGreatSt12
import Derived.Test.YtdpniceapmikpaaGreatSt20
import Derived.Test.YtdpniceapmikpaaGreatSt21
import Derived.Test.YtdpniceapmikpaaGreatSt26
import Derived.Test.YtdpniceapmikpaaGreatSt32
import Derived.Test.YtdpniceapmikpaaGreatSt33
import Derived.Test.YtdpniceapmikpaaGreatSt9
import Derived.Test.YtdpniceapmikpaaGreatWr1
import Derived.Test.YtdpniceapmikpaaGreatWr2
import Derived.Test.YtdpniceapmikpaaGreatWr3
set_option linter.unusedVariables false
set_option linter.unusedSimpArgs false
namespace Go.Proofs.YtdpniceapmikpaaGreat
open Go.RowKit

/-- the steps that fail, counted from the disk's beginning -/
def failsL (s : Int) (l : List Int) : List Int := (l.filter fun n => decide (n ≤ 9223372036854775807 - s)).map (s + ·)
theorem failsL_snoc (s : Int) (l : List Int) (n : Int) : failsL s (l ++ [n]) = failsL s l ++ (if n ≤ 9223372036854775807 - s then [s + n] else []) := by
  unfold failsL
  rw [List.filter_append, List.map_append]
  congr 1
  by_cases h : n ≤ 9223372036854775807 - s
  · rw [if_pos h]; simp [h]
  · rw [if_neg h]; simp [h]
theorem failsL_len (s : Int) (l : List Int) : (failsL s l).length ≤ l.length := by unfold failsL; rw [List.length_map]; exact List.length_filter_le _ _
theorem take_at {α : Type} (l : List α) (j : Nat) (x : α) (h : l[j]? = some x) : l.take (j + 1) = l.take j ++ [x] := by rw [List.take_add_one, h]; rfl
set_option maxRecDepth 100000 in
set_option maxHeartbeats 4000000 in
theorem rdfail_any (s : Int) (lv wv fv v : Value) (l : List Int) (w : World) (h0 : 0 ≤ s) (h1 : s ≤ 1000000000000) (hone : (#[lv, wv, .int .i64 s, fv] : Array Value).all (·.oneCell') = true) (hone2 : lv.oneCell' = true ∧ wv.oneCell' = true) (hl : IntsIn w w.heap.size v l) (hi : ∀ n ∈ l, n ≤ 9223372036854775807) (hlen : l.length ≤ 1000) :
    Calls Tryz.prog 28 #[.agg #[lv, wv, .int .i64 s, fv], v] w fun e w' => Below w.heap.size w w' ∧
      ((l.all (fun n => decide (0 ≤ n)) = true ∧ ∃ fv', e = .returned (.tuple #[.agg #[lv, wv, .int .i64 s, fv'], .int .i64 0]) ∧ IntsIn w' w'.heap.size fv' (failsL s l) ∧ (∀ g, fv'.ownBlock = some g → w.heap.size ≤ g)) ∨
       (l.all (fun n => decide (0 ≤ n)) = false ∧ e = .returned (.tuple #[.agg #[lv, wv, .int .i64 s, fv], .int .i64 2]))) := by
  have HL := Lib.hid hl
  obtain ⟨_, a, cap, rfl, _, _⟩ := hl
  obtain ⟨i0, hi0, hz0, hz1, hz2⟩ := info_parts info_int
  obtain ⟨W, eW⟩ : ∃ W, W = (w.alloc (.cells #[lv, wv, .int .i64 s, fv] 40)).alloc (.cells zeroD 40) := ⟨_, rfl⟩
  have b0 : Below w.heap.size w W := by rw [eW]; exact ((Below.refl _ w).alloc (Nat.le_refl _) _).alloc (by simp) _
  have k0 : Blk W w.heap.size 40 #[lv, wv, .int .i64 s, fv] := by rw [eW]; exact (Blk.new w _ _).alloc _
  have k1 : Blk W (w.heap.size + 1) 40 zeroD := by rw [eW]; exact Blk.new' (by simp)
  have HI := Lib.hid hi
  have HON := Lib.hid hone
  have HO2 := Lib.hid hone2
  clear hi hone hone2
  go_enter Tryz.func28, Tryz.ntmps28
  go_upto_region 2 with fail
  rw [← eW]
  clear eW
  go_wp2_with fail
  go_loopw [6, 7] (fun u i wr => ∃ (j m : Nat) (u' : Value), u' = u ∧ j ≤ l.length ∧ m ≤ j ∧ i = .int .i64 (j : Int) ∧ Hid ((l.take j).all (fun n => decide (0 ≤ n)) = true) ∧ wr.ownsRow w.heap.size 3 1 u' m ((failsL s (l.take j)).map (Value.int .i64)) ∧ Blk wr w.heap.size 40 #[lv, wv, .int .i64 s, fv] ∧ Blk wr (w.heap.size + 1) 40 zeroD ∧ Below w.heap.size w wr) (fun _ i _ => l.length - (intOf i).toNat)
  case atStart => exact ⟨0, 0, _, rfl, Nat.zero_le _, Nat.le_refl _, rfl, Lib.hid rfl, World.ownsRow_nil _ _ _ _, k0, k1, b0⟩
  case round =>
    obtain ⟨j, m, u, rfl, hj, hm, rfl, HT, hO, hk0, hk1, hB⟩ := hrel
    have HO := Lib.hid hO
    have H0 := Lib.hid hk0
    have H1 := Lib.hid hk1
    have HB := Lib.hid hB
    have cS := hk0.cell_is 2 rfl
    clear hO hk0 hk1 hB
    by_cases hlt : j < l.length
    · have hji : (j : Int) < (l.length : Int) := by omega
      obtain ⟨n, hn⟩ : ∃ n, l[j]? = some n := ⟨_, List.getElem?_eq_getElem hlt⟩
      obtain ⟨g, off, rfl, hg, cN0⟩ := HL.out.at_ hn
      have cN := (HB.out.cell (p := ⟨g, off + j, none⟩) hg).trans cN0
      have hnm := HI.out n (List.mem_of_getElem? hn)
      have HN := Lib.hid hn
      have HTK := Lib.hid (take_at l j n hn)
      clear hn
      by_cases hneg : n < 0
      · have HNO := Lib.hid (show l.all (fun n => decide (0 ≤ n)) = false from by
          refine Bool.eq_false_iff.2 (fun h => ?_)
          have := List.all_eq_true.1 h n (List.mem_of_getElem? HN.out)
          simp at this
          omega)
        have k0 := H0.out
        have k1 := H1.out
        go_wp2_with (first
          | (refine wpList_load_row rfl 40 _ rfl w.heap.size rfl 40 #[lv, wv, .int .i64 s, fv] (0, 0) _ k0 Tryz.underlying40 rfl (size_rdisk _ _ _ _) ?_)
          | (refine wpList_store_row rfl 40 _ _ rfl (w.heap.size + 1) #[lv, wv, .int .i64 s, fv] rfl rfl 40 zeroD k1 (size_rdisk _ _ _ _) rfl HON.out ?_))
        exact bodyPost_ret (results_row_tmp2 Tryz.results28 _ _ _ _ _ (by rfl) (load_rdisk (k1.row _)) (by rfl)) rfl ⟨below_row HB.out _ (by omega), .inr ⟨HNO.out, rfl⟩⟩
      · have hn0 : 0 ≤ n := by omega
        have hsub : IntKind.i64.wrap (9223372036854775807 - s) = 9223372036854775807 - s := by rw [IntKind.wrap_i64]; omega
        have HT2 := Lib.hid (show (l.take (j + 1)).all (fun n => decide (0 ≤ n)) = true by rw [HTK.out, List.all_append, HT.out]; simp [hn0])
        go_upto_region 7 with fail
        refine wp_region_held_drew (S := (fun w' => w'.cell? ⟨g, off + j, none⟩ = some (.int .i64 n) ∧ w'.cell? ⟨w.heap.size, 2, none⟩ = some (.int .i64 s))) (by kernel_rfl) (by first | exact ⟨cN, cS⟩ | ((try dsimp only); exact ⟨cN, cS⟩)) (fun hHeld => ?_)
        refine tk 0 ?_
        refine tk 1 ?_
        refine tk 2 ?_
        refine tk 3 ?_
        refine tk 4 ?_
        refine tk 5 ?_
        refine tk 6 ?_
        refine tk 7 ?_
        refine wpAnyH_done (by kernel_rfl) ?_ _
        try simp only [Act.put, pz0, pz1, pz2, pz3, pz4, pz5]
        by_cases hle : n ≤ 9223372036854775807 - s
        · have hadd : IntKind.i64.wrap (s + n) = s + n := by rw [IntKind.wrap_i64]; omega
          have HFS := Lib.hid (show failsL s (l.take (j + 1)) = failsL s (l.take j) ++ [s + n] by rw [HTK.out, failsL_snoc, if_pos hle])
          go_upto_region 8 with fail
          refine wp_region_held_drew (S := (fun w' => w'.cell? ⟨g, off + j, none⟩ = some (.int .i64 n) ∧ w'.cell? ⟨w.heap.size, 2, none⟩ = some (.int .i64 s))) (by kernel_rfl) (by first | exact ⟨cN, cS⟩ | ((try dsimp only); exact ⟨cN, cS⟩)) (fun hHeld => ?_)
          refine tk 0 ?_
          refine tk 1 ?_
          refine tk 2 ?_
          refine tk 3 ?_
          refine tk 4 ?_
          refine tk 5 ?_
          refine tk 6 ?_
          refine tk 7 ?_
          refine rd 8 fun K hK => ?_
          try rw [if_pos (by rfl)]
          go_simp
          obtain ⟨X3, eX3⟩ : ∃ V, V = (wr.alloc (.cells #[.int .i64 (s + n)] 3)).drew.drew := ⟨_, rfl⟩
          have bl3 : Blk X3 wr.heap.size 3 #[.int .i64 (s + n)] := by rw [eX3]; exact (Blk.new wr _ _).drew.drew
          have hb3 : Below wr.heap.size wr X3 := by rw [eX3]; exact ((Below.refl _ wr).alloc (Nat.le_refl _) _).drew.drew
          try rw [← eX3]
          clear eX3
          refine hK.out _ _ (by first | exact ⟨((HB.out.trans (hb3.mono HB.out.size)).cell (p := ⟨g, off + j, none⟩) hg).trans cN0, (H0.out.below hb3 H0.out.lt).cell_is 2 rfl⟩ | ((try dsimp only); exact ⟨((HB.out.trans (hb3.mono HB.out.size)).cell (p := ⟨g, off + j, none⟩) hg).trans cN0, (H0.out.below hb3 H0.out.lt).cell_is 2 rfl⟩)) (fun hHeld => ?_)
          clear hK K
          try simp only [Act.put, pz0, pz1, pz2, pz3, pz4, pz5]
          refine rd 9 fun K hK => ?_
          try rw [if_pos (by rfl)]
          have ow3 := ownsRow_out (F := fun _ => False) (outB hb3) HO.out (fun _ _ => id)
          refine wp_append_lies _ (.tmp 28) (.tmp 36) 24 rfl w.heap.size 3 i0 _ 1 8 Tryz.underlying24 hi0 hz0 hz1 hz2 rfl (by omega) u m _ rfl ow3 ⟨wr.heap.size, 0, none⟩ 1 1 [.int .i64 (s + n)] rfl rfl (World.news_of_block (cs := #[.int .i64 (s + n)]) (t := 3) (fr := (0, 0)) bl3) (by simp [Value.oneCell']) (by omega) (by unfold maxLen; omega) (by omega) (HB.out.trans (hb3.mono HB.out.size)).size X3.heap.size rfl ?_
          intro g4 c4 X4 hO4 hg4 hat4 hlt4
          have hb4 := (HB.out.trans (hb3.mono HB.out.size)).grown hg4 (HB.out.trans (hb3.mono HB.out.size)).size (fun r hr => (ow3.lt r hr).1)
          have k03 := H0.out.below hb3 H0.out.lt
          have k13 := H1.out.below hb3 H1.out.lt
          have k04 := (hg4.block _ k03.lt (fun e => ne_own ow3 k03 (by decide) _ e.symm rfl)).trans k03
          have k14 := (hg4.block _ k13.lt (fun e => ne_own ow3 k13 (by decide) _ e.symm rfl)).trans k13
          have cN4 := (hb4.cell (p := ⟨g, off + j, none⟩) hg).trans cN0
          have cS4 := (show Blk X4 w.heap.size 40 #[lv, wv, .int .i64 s, fv] from k04).cell_is 2 rfl
          refine hK.out _ _ (by first | exact ⟨cN4, cS4⟩ | ((try dsimp only); exact ⟨cN4, cS4⟩)) (fun hHeld => ?_)
          clear hK K
          try simp only [Act.put, pz0, pz1, pz2, pz3, pz4, pz5]
          refine tk 10 ?_
          refine wpAnyH_done (by kernel_rfl) ?_ _
          try simp only [Act.put, pz0, pz1, pz2, pz3, pz4, pz5]
          go_wp2_with fail
          go_roundw
          case rel => exact ⟨j + 1, m + 1, _, rfl, by omega, by omega, by go_num, HT2, by rw [HFS.out, List.map_append]; exact hO4, k04, k14, hb4⟩
          case measure => simp [intOf]; omega
        · have HFS := Lib.hid (show failsL s (l.take (j + 1)) = failsL s (l.take j) by rw [HTK.out, failsL_snoc, if_neg hle, List.append_nil])
          go_wp2_with fail
          go_roundw
          case rel => exact ⟨j + 1, m, _, rfl, by omega, by omega, by go_num, HT2, by rw [HFS.out]; exact ownsRow_out (F := fun _ => False) (outB (Below.refl wr.heap.size wr).drew) HO.out (fun _ _ => id), H0.out.drew, H1.out.drew, HB.out.drew⟩
          case measure => simp [intOf]; omega
    · have hji : ¬ (j : Int) < (l.length : Int) := by omega
      have hje : j = l.length := by omega
      have hO := HO.out
      have hT := HT.out
      rw [hje, List.take_length] at hO hT
      have hlu : (failsL s l).length ≤ l.length := failsL_len s l
      obtain ⟨a2, cap2, rfl⟩ := slice_form hO
      have hin := ints_own hO (K := wr.heap.size) (fun g hg => (hO.lt g hg).2)
      have hown := hO.lt
      have k0 := H0.out
      have k1 := H1.out
      have z3 := k0.frozen 3
      have c3 := k0.cell_is 3 rfl
      have j0 : Blk (wr.setCell ⟨w.heap.size, 3, none⟩ (.slice a2 m cap2)) w.heap.size 40 #[lv, wv, .int .i64 s, .slice a2 m cap2] := by simpa using k0.set_ 3 (.slice a2 m cap2)
      have j1 : Blk (wr.setCell ⟨w.heap.size, 3, none⟩ (.slice a2 m cap2)) (w.heap.size + 1) 40 zeroD := (Below.heap_setCell wr _ _ _ (by show w.heap.size + 1 ≠ w.heap.size; omega)).trans k1
      have one : (#[lv, wv, .int .i64 s, .slice a2 m cap2] : Array Value).all (·.oneCell') = true := by rw [List.all_toArray]; simp only [List.all_cons, List.all_nil, HO2.out.1, HO2.out.2, Bool.true_and]; rfl
      have hbs : Below w.heap.size w (wr.setCell ⟨w.heap.size, 3, none⟩ (.slice a2 m cap2)) := HB.out.setCell (p := ⟨w.heap.size, 3, none⟩) (Nat.le_refl _) _
      have HIN := Lib.hid hin
      have HOW := Lib.hid hown
      have HTT := Lib.hid hT
      have HOO := Lib.hid hO
      clear hO hT hje hlt hin hown HT HO k1
      go_wp2_with (first
        | (refine wpList_load_row rfl 40 _ rfl w.heap.size rfl 40 #[lv, wv, .int .i64 s, .slice a2 m cap2] (0, 0) _ j0 Tryz.underlying40 rfl (size_rdisk _ _ _ _) ?_)
        | (refine wpList_store_row rfl 40 _ _ rfl (w.heap.size + 1) #[lv, wv, .int .i64 s, .slice a2 m cap2] rfl rfl 40 zeroD j1 (size_rdisk _ _ _ _) rfl one ?_))
      refine bodyPost_ret (results_row_tmp2 Tryz.results28 _ _ _ _ _ (by rfl) (load_rdisk (j1.row _)) (by rfl)) rfl ⟨below_row hbs _ (by omega), .inl ⟨by simpa using HTT.out, _, rfl, ?_, fun g hg => (HOW.out g hg).1⟩⟩
      have hox := ownsRow_out (F := fun i => i = w.heap.size ∨ i = w.heap.size + 1) (Out.trans (out_set (F := fun i => i = w.heap.size ∨ i = w.heap.size + 1) (w := wr) (g := w.heap.size) (i := 3) (v := .slice a2 m cap2) (.inl rfl)) (out_row (F := fun i => i = w.heap.size ∨ i = w.heap.size + 1) #[lv, wv, .int .i64 s, .slice a2 m cap2] (.inr rfl)) (fun _ _ h => h)) HOO.out (fun i hi h => by
        rcases h with h | h
        · exact ne_own HOO.out H0.out (by decide) i hi h
        · exact ne_own HOO.out H1.out (by decide) i hi h)
      exact ints_own hox (fun g hg => (hox.lt g hg).2)
end Go.Proofs.YtdpniceapmikpaaGreat
namespace Go.Proofs.YtdpniceapmikpaaGreat
open Go.RowKit

theorem neg_any (n : Int) (w : World) : Calls Tryz.prog 79 #[.int .i64 n] w fun e w' => e = .returned (.bool (decide (n < 0))) ∧ w = w' := by
  obtain ⟨c, hc⟩ : ∃ c, c = decide (n < 0) := ⟨_, rfl⟩
  rw [← hc]
  go_enter Tryz.func79, Tryz.ntmps79
  go_wp2_with fail
  go_ret
  exact ⟨by rw [hc]; rfl, rfl⟩
theorem containsI_any (B : Nat) (v : Value) (l : List Int) (w : World) (hv : IntsIn w B v l) (hn : l.length ≤ 1000000) :
    Calls Tryz.prog 78 #[v, .func (.func 79) #[] #[]] w fun e w' => e = .returned (.bool (l.any (fun n => decide (n < 0)))) ∧ Below w.heap.size w w' := by
  obtain ⟨h1, a, cap, rfl, h3, h4⟩ := hv
  cases l with
  | nil =>
    refine (Tryz.slices_ContainsFunc_empty (α := Int) a cap _ w).mono ?_
    rintro e w' ⟨rfl, rfl⟩
    exact ⟨rfl, Below.refl _ _⟩
  | cons x l =>
    obtain ⟨g, off, rfl, _, _⟩ := h4 0 x rfl
    refine (Tryz.slices_ContainsFunc (α := Int) (Value.int .i64) (fun n => decide (n < 0)) 79 #[] (enters_of Tryz.func79 (by kernel_rfl) rfl) g off (x :: l).length cap (x :: l) w (fun W y hb => (neg_any y W).mono ?_) (Nat.le_refl _) (by omega) (fun j hj => ?_)).mono ?_
    · rintro e w' ⟨rfl, rfl⟩
      exact ⟨rfl, 0, rfl⟩
    · have hj2 : (x :: l)[j]? = some (x :: l)[j]! := by rw [List.getElem!_eq_getElem?_getD, List.getElem?_eq_getElem hj]; rfl
      obtain ⟨g', off', e, _, hc⟩ := h4 j _ hj2
      cases e
      exact hc
    · rintro e w' ⟨rfl, q, rfl⟩
      exact ⟨by rw [List.take_length], drewN_below w q⟩
theorem lookOf_map (k : List Int) (n : Int) : lookOf (k.map fun n => (n, Value.agg #[])) n = if n ∈ k then some (.agg #[]) else none := lookOf_fails k n
theorem setOld_map (n : Int) : ∀ (k : List Int), setOld (k.map fun n => (n, Value.agg #[])) n (.agg #[]) = k.map fun n => (n, Value.agg #[])
  | [] => rfl
  | x :: k => by
    show (if n == x then (x, Value.agg #[]) :: k.map _ else (x, Value.agg #[]) :: setOld (k.map _) n (.agg #[])) = _
    rw [setOld_map n k]
    split <;> rfl
theorem set_fail (w : World) (r : Nat) (k : List Int) (hm : MapAt w r .i64 (k.map fun n => (n, Value.agg #[]))) (n : Int) :
    ∃ (w' : World) (k' : List Int), (Instr.mapUpdate 150 (.map (some r)) (.int .i64 n) (.agg #[])).run Tryz.prog w = .ok () w' ∧ MapAt w' r .i64 (k'.map fun n => (n, Value.agg #[])) ∧ (∀ m, m ∈ k' ↔ m ∈ k ∨ m = n) ∧ Turn r w w' := by
  have hl := lookOf_map k n
  by_cases h : n ∈ k
  · rw [if_pos h] at hl
    obtain ⟨w', h1, h2, h3⟩ := run_insert_old (P := Tryz.prog) (t := 150) w Tryz.underlying150 Tryz.underlying3 r _ hm n (by rw [hl]; rfl) (.agg #[])
    rw [setOld_map] at h2
    exact ⟨w', k, h1, h2, fun m => ⟨.inl, fun hm => hm.elim id (fun e => by rw [e]; exact h)⟩, h3⟩
  · rw [if_neg h] at hl
    obtain ⟨w', h1, h2, h3⟩ := run_insert_new (P := Tryz.prog) (t := 150) w Tryz.underlying150 Tryz.underlying3 r _ hm n hl (.agg #[])
    refine ⟨w', k ++ [n], h1, ?_, fun m => by simp, h3⟩
    rw [List.map_append]
    exact h2
set_option maxRecDepth 100000 in
set_option maxHeartbeats 4000000 in
theorem dfail_any (D : DiskP) (x : DiskD) (v : Value) (l : List Int) (w : World) (h : DiskAt w D x) (hx : x.ok) (hl : IntsIn w w.heap.size v l) (hfar : l ≠ [] → ∀ g, v.ownBlock = some g → ¬ D.has g) (hi : ∀ n ∈ l, n ≤ 9223372036854775807) (hlen : l.length ≤ 1000) :
    Calls Tryz.prog 27 #[ptr D.p, v] w fun e w' =>
      (l.all (fun n => decide (0 ≤ n)) = true ∧ e = .returned (.int .i64 0) ∧ ∃ D', DiskAt w' D' { x with fails := failsL x.steps l } ∧ DStep D D' w w') ∨
      (l.all (fun n => decide (0 ≤ n)) = false ∧ e = .returned (.int .i64 2) ∧ Below w.heap.size w w') := by
  have HN := Lib.hid (fun W hh => dnone_any D x W hh hx)
  have HC := Lib.hid (containsI_any w.heap.size v l w hl (by omega))
  have hany : l.any (fun n => decide (n < 0)) = !l.all (fun n => decide (0 ≤ n)) := by
    rw [List.not_all_eq_any_not]
    congr 1
    funext n
    by_cases h : n < 0
    · simp [h]
    · have : 0 ≤ n := by omega
      simp [h, this]
  rw [hany] at HC
  have HH := Lib.hid h
  have HL := Lib.hid hl
  obtain ⟨_, a, cap, rfl, _, _⟩ := hl
  have hmm := @run_makeMap Tryz.prog
  obtain ⟨s0, s1⟩ : 0 ≤ x.steps ∧ x.steps ≤ 1000000000000 := ⟨hx.2.2.2.2.1, hx.2.2.2.2.2.1⟩
  have HI := Lib.hid hi
  have HF := Lib.hid hfar
  unfold ptr at *
  clear h hx hi hfar hany
  cases hall : l.all (fun n => decide (0 ≤ n))
  · rw [hall] at HC
    go_enter Tryz.func27, Tryz.ntmps27
    go_wp2_with fail
    refine (HN.out w HH.out).mono ?_; rintro e w1 ⟨rfl, rfl⟩
    go_wp2_with fail
    refine HC.out.mono ?_; rintro e w2 ⟨rfl, hb2⟩
    go_wp2_with fail
    go_ret
    exact .inr ⟨by first | rfl | trivial, rfl, hb2⟩
  · rw [hall] at HC
    go_enter Tryz.func27, Tryz.ntmps27
    go_wp2_with fail
    refine (HN.out w HH.out).mono ?_; rintro e w1 ⟨rfl, rfl⟩
    go_wp2_with fail
    refine HC.out.mono ?_; rintro e w2 ⟨rfl, hb2⟩
    have hd2 := HH.out.below hb2
    have z4 := (hd2.blk.alloc (.map #[] 0)).frozen 4
    have c4 := (hd2.blk.alloc (.map #[] 0)).cell_is 4 rfl
    go_upto_region 6 with fail
    obtain ⟨r, er⟩ : ∃ r, r = w2.heap.size := ⟨_, rfl⟩
    obtain ⟨W, eW⟩ : ∃ W, W = (w2.alloc (.map #[] 0)).setCell ⟨D.p, 4, none⟩ (.map (some r)) := ⟨_, rfl⟩
    have hpr : D.p < r := by rw [er]; exact hd2.blk.lt
    have mb : MapAt W r .i64 (([] : List Int).map fun n => (n, Value.agg #[])) := by
      rw [eW, er]
      exact (Below.heap_setCell (w2.alloc (.map #[] 0)) _ _ _ (by show w2.heap.size ≠ D.p; omega)).trans (MapAt.new w2 .i64)
    have bb : Blk W D.p 152 #[.int .i64 x.size, .map (some D.lm), D.wv, .int .i64 x.steps, .map (some r)] := by
      rw [eW]
      simpa using (hd2.blk.alloc (.map #[] 0)).set_ 4 (.map (some r))
    have ob : Out (fun i => i = D.p) w2 W := by
      rw [eW]
      exact (outB (F := fun i => i = D.p) ((Below.refl _ w2).alloc (Nat.le_refl _) (.map #[] 0))).trans (out_set (F := fun i => i = D.p) rfl) (fun _ _ h => h)
    rw [← er, ← eW]
    have hwr : w.heap.size ≤ r := by rw [er]; exact hb2.size
    have hD2 := Lib.hid hd2
    have HB2 := Lib.hid hb2
    have HOB := Lib.hid ob
    have ER := Lib.hid er
    clear eW z4 c4 er hd2 hb2 HC hmm ob
    go_wp2_with fail
    go_loopw [18] (fun i wr => ∃ (j : Nat) (k : List Int), j ≤ l.length ∧ i = .int .i64 (j : Int) ∧ MapAt wr r .i64 (k.map fun n => (n, Value.agg #[])) ∧ Hid (∀ n, n ∈ k ↔ n ∈ failsL x.steps (l.take j)) ∧ Blk wr D.p 152 #[.int .i64 x.size, .map (some D.lm), D.wv, .int .i64 x.steps, .map (some r)] ∧ Out (fun i => i = r) W wr) (fun i _ => l.length - (intOf i).toNat)
    case atStart => exact ⟨0, [], Nat.zero_le _, rfl, mb, Lib.hid (fun n => by simp [failsL]), bb, Out.refl _ _⟩
    case round =>
      obtain ⟨j, k, hj, rfl, hm, HK, hb, ho⟩ := hrel
      by_cases hlt : j < l.length
      · have hji : (j : Int) < (l.length : Int) := by omega
        obtain ⟨n, hn⟩ : ∃ n, l[j]? = some n := ⟨_, List.getElem?_eq_getElem hlt⟩
        obtain ⟨g, off, rfl, hg, cN0⟩ := HL.out.at_ hn
        have hgp : g ≠ D.p := fun e => HF.out (fun e2 => by rw [e2] at hlt; exact absurd hlt (Nat.not_lt_zero _)) g rfl (.inl e)
        have cN : wr.cell? ⟨g, off + j, none⟩ = some (.int .i64 n) := by
          have q1 : w2.cell? ⟨g, off + j, none⟩ = some (.int .i64 n) := (HB2.out.cell (p := ⟨g, off + j, none⟩) hg).trans cN0
          have hg2 : g < w2.heap.size := World.block_lt_of_cell? _ _ q1
          have q2 : W.cell? ⟨g, off + j, none⟩ = some (.int .i64 n) := (World.cell?_of_block (a := ⟨g, off + j, none⟩) (HOB.out.block g hg2 hgp)).trans q1
          exact (World.cell?_of_block (a := ⟨g, off + j, none⟩) (ho.block g (World.block_lt_of_cell? _ _ q2) (by omega))).trans q2
        have c3 := hb.cell_is 3 rfl
        have c4 := hb.cell_is 4 rfl
        have hnm := HI.out n (List.mem_of_getElem? hn)
        have hn0 : 0 ≤ n := by
          have := List.all_eq_true.1 hall n (List.mem_of_getElem? hn)
          simpa using this
        have HTK := Lib.hid (take_at l j n hn)
        clear hn hall
        by_cases hle : n ≤ 9223372036854775807 - x.steps
        · have hadd : IntKind.i64.wrap (x.steps + n) = x.steps + n := by rw [IntKind.wrap_i64]; omega
          have hge : 0 ≤ x.steps + n := by omega
          obtain ⟨w', k', hrun, hm', hk', ht⟩ := set_fail wr r k hm (x.steps + n)
          have hb' : Blk w' D.p 152 #[.int .i64 x.size, .map (some D.lm), D.wv, .int .i64 x.steps, .map (some r)] := (ht.block D.p (by omega)).trans hb
          have ho' : Out (fun i => i = r) W w' := ho.trans (G := fun i => i = r) ⟨ht.os, ht.tape, ht.output, by rw [ht.size]; exact Nat.le_refl _, fun i _ hn => ht.block i hn⟩ (fun _ _ h => h)
          have HK' := Lib.hid (fun m => (hk' m).trans (by rw [HTK.out, failsL_snoc, if_pos hle, List.mem_append, HK.out, List.mem_singleton] : (m ∈ k ∨ m = x.steps + n) ↔ m ∈ failsL x.steps (l.take (j + 1))))
          clear hk' ho ht
          go_wp2_with (refine wpList_plain rfl (fun K hK => wp_mapUpdate_is _ w' _ _ _ _ rfl (.map (some r)) (.int .i64 (x.steps + n)) (.agg #[]) rfl rfl rfl hrun (hK _ _ ?_)))
          go_roundw
          case rel => exact ⟨j + 1, k', by omega, by go_num, hm', HK', hb', ho'⟩
          case measure => simp [intOf]; omega
        · have hadd : IntKind.i64.wrap (x.steps + n) = x.steps + n - 18446744073709551616 := by rw [IntKind.wrap_i64]; omega
          have hge : ¬ 0 ≤ x.steps + n - 18446744073709551616 := by omega
          have HK' := Lib.hid (fun m => (HK.out m).trans (by rw [HTK.out, failsL_snoc, if_neg hle, List.append_nil] : m ∈ failsL x.steps (l.take j) ↔ m ∈ failsL x.steps (l.take (j + 1))))
          go_wp2_with fail
          go_roundw
          case rel => exact ⟨j + 1, k, by omega, by go_num, hm, HK', hb, ho⟩
          case measure => simp [intOf]; omega
      · have hji : ¬ (j : Int) < (l.length : Int) := by omega
        have hje : j = l.length := by omega
        have hK := HK.out
        rw [hje, List.take_length] at hK
        have HKK := Lib.hid hK
        have HO := Lib.hid ho
        clear hK hje hlt HK ho
        go_wp2_with fail
        go_ret
        have hlm : D.lm < r := by rw [ER.out]; exact hD2.out.has_lt _ (.inr (.inl rfl))
        have hne := hD2.out.ne
        have ho1 : Out (fun i => i = D.p ∨ i = r) w2 wr := Out.trans (F := fun i => i = D.p ∨ i = r) (G := fun i => i = r) ⟨HOB.out.os, HOB.out.tape, HOB.out.output, HOB.out.size, fun i hi hn => HOB.out.block i hi (fun e => hn (.inl e))⟩ HO.out (fun _ _ h => .inr h)
        have hwv : ∀ i, D.wv.ownBlock = some i → i < r := fun i hi => by rw [ER.out]; exact hD2.out.has_lt _ (.inr (.inr (.inl hi)))
        refine ⟨rfl, ⟨D.p, D.lm, D.wv, some r⟩, ⟨hb, ?_, ?_, .inr ⟨r, k, rfl, hm, HKK.out⟩, ?_⟩, ⟨?_, rfl, ?_⟩⟩
        · obtain ⟨m, h1, h2⟩ := hD2.out.lasts
          exact ⟨m, ho1.map h1 (fun h => h.elim hne.1 (fun e => by have e2 : D.lm = r := e; omega)), h2⟩
        · exact ownsRow_out ho1 hD2.out.waits (fun i hi h => h.elim (hne.2.1 i hi) (fun e => by have := hwv i hi; omega))
        · intro e
          have : r = D.lm := by simpa using e
          omega
        · refine Out.trans (F := D.has) (G := fun i => i = D.p ∨ i = r) (outB (F := D.has) HB2.out) ho1 (fun i hi h => h.elim (fun e => .inl e) (fun e => by omega))
        · rintro i (h | h | h | h)
          · exact .inl (.inl h)
          · exact .inl (.inr (.inl h))
          · exact .inl (.inr (.inr (.inl h)))
          · exact .inr (by have : r = i := by simpa using h
                           omega)
end Go.Proofs.YtdpniceapmikpaaGreat
namespace Go.Proofs.YtdpniceapmikpaaGreat
open Go.RowKit

def smallB (s : Int) (nb nf : Nat) : Bool := decide (1 ≤ s) && (decide (s ≤ 60) && (decide ((nb : Int) ≤ 3000) && decide ((nf : Int) ≤ 20)))
theorem small_any (s : Int) (ab af : Option Addr) (nb nf cb cf : Nat) (w : World) : Calls Tryz.prog 26 #[.agg #[.int .i64 s, .slice ab nb cb, .slice af nf cf]] w fun e w' => e = .returned (.bool (smallB s nb nf)) ∧ Below w.heap.size w w' := by
 unfold smallB
 cases h1 : decide (1 ≤ s) <;> cases h2 : decide (s ≤ 60) <;> cases h3 : decide ((nb : Int) ≤ 3000) <;> cases h4 : decide ((nf : Int) ≤ 20)
 all_goals
  go_enter Tryz.func26, Tryz.ntmps26
  go_wp2_with fail
  go_ret
  exact ⟨rfl, (Below.refl _ _).alloc (Nat.le_refl _) _⟩
set_option maxRecDepth 100000 in
set_option maxHeartbeats 2000000 in
theorem lwrite_nil (N area : Int) (a b c d : Value) (w : World) :
  Calls Tryz.prog 18 #[.pointer none, .agg #[.int .i64 N], .int .i64 area, .agg #[a, b, c, d]] w fun e w' => e = .returned (.int .i64 1) ∧ Below w.heap.size w w' := by
 go_enter_defers Tryz.func18, Tryz.ntmps18
 go_wp2_with fail
 go_step3
 go_wp2_with fail
 obtain ⟨V, eV⟩ : ∃ V, V = (((w.alloc (.cells #[.pointer none] 37)).alloc (.cells #[.int .i64 N] 23)).alloc (.cells #[.int .i64 area] 3)).alloc (.cells #[a, b, c, d] 28) := ⟨_, rfl⟩
 have hV : Below w.heap.size w V := by rw [eV]; exact ((((Below.refl _ w).alloc (Nat.le_refl _) _).alloc (by simp) _).alloc (by simp; omega) _).alloc (by simp; omega) _
 rw [← eV]
 clear eV
 refine (asked_nil N area V).mono ?_; rintro e w1 ⟨rfl, hb1⟩
 have HB1 := Lib.hid (hV.trans (hb1.mono hV.size))
 go_wp2_with fail
 rw [Exit.noGoto_ret]
 exact ⟨_, results_tmp rfl _ _ _, rfl, HB1.out⟩
end Go.Proofs.YtdpniceapmikpaaGreat
namespace Go.Proofs.YtdpniceapmikpaaGreat
open Go.RowKit

def fewB (f : FrameD) : Bool := decide ((f.oids.length : Int) ≤ 70) && (decide ((f.objs.length : Int) ≤ 20) && decide ((f.state.length : Int) ≤ 5000))
theorem few_any (f : FrameD) (B : Nat) (v : Value) (w : World) (hf : FrameIn w B v f) : Calls Tryz.prog 9 #[v] w fun e w' => e = .returned (.bool (fewB f)) ∧ Below w.heap.size w w' := by
 obtain ⟨vo, vb, vs, rfl, ⟨_, a1, q1, rfl, _⟩, ⟨_, a2, q2, rfl, _⟩, ⟨_, a3, q3, rfl, _⟩⟩ := hf
 unfold fewB
 cases h1 : decide ((f.oids.length : Int) ≤ 70) <;> cases h2 : decide ((f.objs.length : Int) ≤ 20) <;> cases h3 : decide ((f.state.length : Int) ≤ 5000)
 all_goals
  go_enter Tryz.func9, Tryz.ntmps9
  go_wp2_with fail
  go_ret
  exact ⟨rfl, (Below.refl _ _).alloc (Nat.le_refl _) _⟩
end Go.Proofs.YtdpniceapmikpaaGreat
namespace Go.Proofs.YtdpniceapmikpaaGreat
open Go.RowKit

/-- the disk with the steps named that fail, if all may be -/
def failed (x : DiskD) (l : List Int) : DiskD := if l.all (fun n => decide (0 ≤ n)) = true then { x with fails := failsL x.steps l } else x
theorem dfail_uni (D : DiskP) (x : DiskD) (v : Value) (l : List Int) (w : World) (h : DiskAt w D x) (hx : x.ok) (hl : IntsIn w w.heap.size v l) (hfar : l ≠ [] → ∀ g, v.ownBlock = some g → ¬ D.has g) (hi : ∀ n ∈ l, n ≤ 9223372036854775807) (hlen : l.length ≤ 1000) :
  Calls Tryz.prog 27 #[ptr D.p, v] w fun e w' => ∃ ge D', e = .returned (.int .i64 ge) ∧ (ge = 0 ∨ ge = 2) ∧ DiskAt w' D' (failed x l) ∧ DStep D D' w w' := by
 refine (dfail_any D x v l w h hx hl hfar hi hlen).mono fun e w' h' => ?_
 rcases h' with ⟨h1, h2, D', h3, h4⟩ | ⟨h1, h2, h3⟩
 ·exact ⟨0, D', h2, .inl rfl, by unfold failed; rw [if_pos h1]; exact h3, h4⟩
 ·exact ⟨2, D, h2, .inr rfl, by unfold failed; rw [if_neg (by rw [h1]; decide)]; exact h.below h3, (DStep.refl D w).below h3⟩
theorem rdfail_uni (x : DiskD) (lv wv fv v : Value) (l : List Int) (w : World) (h : RDisk w w.heap.size lv wv fv x) (hx : x.ok) (hl : IntsIn w w.heap.size v l) (hi : ∀ n ∈ l, n ≤ 9223372036854775807) (hlen : l.length ≤ 1000) :
  Calls Tryz.prog 28 #[.agg #[lv, wv, .int .i64 x.steps, fv], v] w fun e w' => ∃ fv' er, e = .returned (.tuple #[.agg #[lv, wv, .int .i64 x.steps, fv'], .int .i64 er]) ∧ RDisk w' w'.heap.size lv wv fv' (failed x l) ∧ (∀ g, fv'.ownBlock = some g → fv.ownBlock = some g ∨ w.heap.size ≤ g) ∧ Below w.heap.size w w' := by
 obtain ⟨s0, s1⟩ : 0 ≤ x.steps ∧ x.steps ≤ 1000000000000 := ⟨hx.2.2.2.2.1, hx.2.2.2.2.2.1⟩
 have hone2 : lv.oneCell' = true ∧ wv.oneCell' = true := by
  obtain ⟨_, _, _, rfl, _⟩ := h.lasts
  obtain ⟨_, _, _, _, rfl, _⟩ := h.waits
  exact ⟨rfl, rfl⟩
 refine (rdfail_any x.steps lv wv fv v l w s0 s1 (h.one _) hone2 hl hi hlen).mono fun e w' h' => ?_
 obtain ⟨hb, ⟨h1, fv', h2, h3, h4⟩ | ⟨h1, h2⟩⟩ := h'
 ·refine ⟨fv', 0, h2, ?_, fun g hg => .inr (h4 g hg), hb⟩
  unfold failed
  rw [if_pos h1]
  have hr := (h.below hb (Nat.le_refl _)).mono hb.size
  exact ⟨hr.lasts, hr.waits, h3⟩
 ·refine ⟨fv, 2, h2, ?_, fun g hg => .inl hg, hb⟩
  unfold failed
  rw [if_neg (by rw [h1]; decide)]
  exact (h.below hb (Nat.le_refl _)).mono hb.size
theorem young_failed {x : DiskD} {l : List Int} (h : Young x 0) : Young (failed x l) 0 := by
 unfold failed
 split
 ·exact ⟨h.ok, h.steps, h.waits, h.inR⟩
 ·exact h
theorem young_of (s : Nat) (bl : List UInt8) (h1 : 1 ≤ s) (h2 : s ≤ 4096) : Young (ofDisk s (madeL s bl)) 0 := ⟨ofDisk_ok s _ (madeTo_len s bl _) h1 h2, Int.le_refl 0, Nat.le_refl 0, fun y hy => by cases hy⟩
theorem flatL_some {x : DiskD} (hx : x.ok) : flatL x ≠ [] := by
 intro e
 have h := flatL_len hx
 rw [e] at h
 have := hx.1
 simp at h
 omega
set_option maxRecDepth 100000 in
set_option maxHeartbeats 16000000 in
theorem wrs_any (s N area : Int) (vb vf fr : Value) (bl : List UInt8) (fs : List Int) (f : FrameD) (w : World) (hb : BytesIn w w.heap.size vb bl) (hf : IntsIn w w.heap.size vf fs) (hfi : ∀ n ∈ fs, n ≤ 9223372036854775807) (hfr : FrameIn w w.heap.size fr f)
  (hcap : ∀ a c, (∃ x y z, fr = .agg #[x, y, z, .slice a f.state.length c]) → c ≤ maxLen) (hed : f.ed ≤ 9223372036854775807) (hobj : ∀ o ∈ f.objs, o.ok ∧ ∀ x ∈ o.slots, I64 x.v) :
  Calls Tryz.prog 6 #[.agg #[.int .i64 s, vb, vf], .agg #[.int .i64 N], .int .i64 area, fr] w fun e w' => e = .returned (.bool true) ∧ Below w.heap.size w w' := by
 have HBY := Lib.hid hb
 have HFS := Lib.hid hf
 have HFR := Lib.hid hfr
 obtain ⟨_, ab, cb, rfl, _, _⟩ := hb
 obtain ⟨_, af, cf, rfl, _, _⟩ := hf
 obtain ⟨vo, vo2, vs, rfl, _, _, _⟩ := hfr
 obtain ⟨FV, eFV⟩ : ∃ FV, FV = (#[.int .i64 f.ed, vo, vo2, vs] : Array Value) := ⟨_, rfl⟩
 rw [← eFV] at hcap HFR ⊢
 have sFV : (Tryz.prog.info? 28).map (·.size) = some FV.size := by rw [eFV]; kernel_rfl
 have HFI := Lib.hid hfi
 have HCAP := Lib.hid hcap
 have HOBJ := Lib.hid hobj
 have HFV := Lib.hid eFV
 obtain ⟨XV, eXV⟩ : ∃ X, X = (#[.int .i64 s, .slice ab bl.length cb, .slice af fs.length cf] : Array Value) := ⟨_, rfl⟩
 have sXV : (Tryz.prog.info? 43).map (·.size) = some XV.size := by rw [eXV]; kernel_rfl
 have hsm := fun W => small_any s ab af bl.length fs.length cb cf W
 rw [← eXV] at hsm ⊢
 have HXV := Lib.hid eXV
 have HSM := Lib.hid hsm
 have HFEW := Lib.hid (fun W hh => few_any f w.heap.size (.agg FV) W hh)
 obtain ⟨W0, eW0⟩ : ∃ W, W = ((w.alloc (.cells XV 43)).alloc (.cells #[.int .i64 N] 23)).alloc (.cells FV 28) := ⟨_, rfl⟩
 have b0 : Below w.heap.size w W0 := by rw [eW0]; exact (((Below.refl _ w).alloc (Nat.le_refl _) _).alloc (by simp) _).alloc (by simp; omega) _
 have x0 : Blk W0 w.heap.size 43 XV := by rw [eW0]; exact ((Blk.new w _ _).alloc _).alloc _
 have p0 : Blk W0 (w.heap.size + 1) 23 #[.int .i64 N] := by rw [eW0]; exact (Blk.new2 w _ _ _).alloc _
 have f0 : Blk W0 (w.heap.size + 2) 28 FV := by rw [eW0]; exact Blk.new' (by simp)
 have B0 := Lib.hid b0
 have X0 := Lib.hid x0
 have P0 := Lib.hid p0
 have F0 := Lib.hid f0
 clear hfi hcap hobj eFV eXV hsm
 go_enter Tryz.func6, Tryz.ntmps6
 go_upto_region 1 with fail
 rw [← eW0]
 clear eW0 b0 p0 f0
 go_wp2_with (refine wpList_load_row rfl 43 _ rfl w.heap.size rfl 43 XV (0, 0) _ x0 Tryz.underlying43 rfl sXV ?_)
 refine (HSM.out W0).mono ?_; rintro e w1 ⟨rfl, hb1⟩
 have B1 := Lib.hid (B0.out.trans (hb1.mono B0.out.size))
 have X1 := Lib.hid (X0.out.below hb1 X0.out.lt)
 have P1 := Lib.hid (P0.out.below hb1 P0.out.lt)
 have F1 := Lib.hid (F0.out.below hb1 F0.out.lt)
 clear hb1 x0 B0 X0 P0 F0
 cases hsm : smallB s bl.length fs.length
 ·go_wp2_with fail
  refine (works_any _).mono ?_; rintro e w2 ⟨rfl, hb2⟩
  go_wp2_with fail
  go_ret
  exact ⟨rfl, B1.out.trans (hb2.mono B1.out.size)⟩
 ·have l1 := load_frame' _ _ _ F1.out sFV
  go_wp2_with (refine wpList_load_midG rfl 28 _ rfl (w.heap.size + 2) 0 rfl FV l1 ?_)
  refine (HFEW.out w1 (HFR.out.below B1.out (Nat.le_refl _))).mono ?_; rintro e w2 ⟨rfl, hb2⟩
  have hb2' : Below w1.heap.size w1 w2 := hb2
  have B2 := Lib.hid (B1.out.trans (hb2'.mono B1.out.size))
  have X2 := Lib.hid (X1.out.below hb2' X1.out.lt)
  have P2 := Lib.hid (P1.out.below hb2' P1.out.lt)
  have F2 := Lib.hid (F1.out.below hb2' F1.out.lt)
  clear hb2 hb2' l1 B1 X1 P1 F1
  cases hfw : fewB f
  ·go_wp2_with fail
   refine (works_any _).mono ?_; rintro e w3 ⟨rfl, hb3⟩
   go_wp2_with fail
   go_ret
   exact ⟨rfl, B2.out.trans (hb3.mono B2.out.size)⟩
  ·have hsz : 1 ≤ s ∧ s ≤ 60 ∧ fs.length ≤ 20 := by
    unfold smallB at hsm
    simp only [Bool.and_eq_true, decide_eq_true_eq] at hsm
    omega
   obtain ⟨h1s, h2s, hfl⟩ := hsz
   obtain ⟨sn, rfl⟩ : ∃ sn : Nat, s = sn := ⟨s.toNat, by omega⟩
   have hyo := young_of sn bl (by omega) (by omega)
   have hmk := fun W hh => made_any sn (.slice ab bl.length cb) (.slice af fs.length cf) bl W hh (by omega) (by omega)
   obtain ⟨y0, ey0⟩ : ∃ y, y = ofDisk sn (madeL sn bl) := ⟨_, rfl⟩
   have hst0 : y0.steps = 0 := by rw [ey0]; rfl
   have hwt0 : y0.waits = [] := by rw [ey0]; rfl
   have hfl0 : y0.fails = [] := by rw [ey0]; rfl
   rw [← ey0] at hyo
   simp only [← ey0] at hmk
   have hxv : (#[.int .i64 (sn : Int), .slice ab bl.length cb, .slice af fs.length cf] : Array Value) = XV := HXV.out.symm
   simp only [hxv] at hmk
   unfold ptr at hmk
   obtain ⟨x1, no, G⟩ := wrGo N area f (failed y0 fs) (young_failed hyo) hed HOBJ.out
   have HYO := Lib.hid hyo
   have HMK := Lib.hid hmk
   have RW := Lib.hid G.rw_
   have LW := Lib.hid G.w_
   have G1 := Lib.hid (And.intro G.ok1 G.in1)
   have HY := Lib.hid (And.intro hst0 (And.intro hwt0 hfl0))
   clear hyo hmk G ey0 hxv hsm hfw hst0 hwt0 hfl0
   have x2 := X2.out
   go_wp2_with (refine wpList_load_row rfl 43 _ rfl w.heap.size rfl 43 XV (0, 0) _ x2 Tryz.underlying43 rfl sXV ?_)
   refine (HMK.out w2 ((HBY.out.below B2.out (Nat.le_refl _)).mono B2.out.size)).mono ?_; rintro e w5 ⟨D, lv, B, rfl, hd5, hr5, hB1, hB2, hb5⟩
   have hlv := own_lt hr5.lasts (flatL_some HYO.out.ok)
   have HLV := Lib.hid hlv
   have HDB := Lib.hid hB2
   obtain ⟨DC, eDC⟩ : ∃ V, V = (#[lv, .slice none 0 0, .int .i64 0, .slice none 0 0] : Array Value) := ⟨_, rfl⟩
   obtain ⟨sDC, oDC⟩ := disk_fit hr5 0
   rw [← eDC] at sDC oDC ⊢
   have zDC : zeroD.size = DC.size := by rw [eDC]; rfl
   have HDC := Lib.hid eDC
   clear eDC x2
   obtain ⟨W6, eW6⟩ : ∃ W, W = w5.alloc (.cells DC 40) := ⟨_, rfl⟩
   have b6 : Below w5.heap.size w5 W6 := by rw [eW6]; exact (Below.refl _ w5).alloc (Nat.le_refl _) _
   have n6 : Blk W6 w5.heap.size 40 DC := by rw [eW6]; exact Blk.new w5 _ _
   go_upto_region 4 with (refine wpList_store_row rfl 40 _ _ rfl w5.heap.size DC rfl rfl 40 _ (heap_alloc_new w5 _) sDC zDC oDC ?_; rw [World.setRow_alloc_new])
   rw [← eW6]
   clear eW6 zDC
   have q : Below w2.heap.size w2 W6 := hb5.trans (b6.mono hb5.size)
   have B6 := Lib.hid (B2.out.trans (q.mono B2.out.size))
   have X6 := Lib.hid (X2.out.below q X2.out.lt)
   have P6 := Lib.hid (P2.out.below q P2.out.lt)
   have F6 := Lib.hid (F2.out.below q F2.out.lt)
   have N6 := Lib.hid n6
   have D6 := Lib.hid (hd5.below b6)
   have D5 := Lib.hid hd5.has_lt
   have R6 := Lib.hid (show RDisk W6 W6.heap.size lv (.slice none 0 0) (.slice none 0 0) y0 from ⟨(hr5.lasts.outO (outB (F := fun _ => False) b6) (fun _ _ => id)).here, by rw [HY.out.2.1]; exact waits_none _ _, by rw [HY.out.2.2]; exact IntsIn.nil _ _⟩)
   have hw56 : w5.heap.size < W6.heap.size := n6.lt
   have hw25 : w2.heap.size ≤ w5.heap.size := hb5.size
   have hw02 : w.heap.size + 2 < w2.heap.size := F2.out.lt
   have hfsl : fs ≠ [] → ∀ g, (Value.slice af fs.length cf).ownBlock = some g → g < w.heap.size := by
    intro hne g hg
    obtain ⟨_, a', c', e', _, h4⟩ := HFS.out
    cases fs with
    | nil => exact absurd rfl hne
    | cons n l =>
     obtain ⟨g2, off, ea, h5, _⟩ := h4 0 n rfl
     injection e' with ea' _ _
     rw [ea', ea] at hg
     have : g2 = g := by simpa [Value.ownBlock] using hg
     omega
   have hff := dfail_uni D y0 (.slice af fs.length cf) fs W6 D6.out HYO.out.ok ((HFS.out.below B6.out (Nat.le_refl _)).mono B6.out.size) (fun hne g hg hd => by have := hfsl hne g hg; have := HDB.out g hd; omega) HFI.out (by omega)
   unfold ptr at hff
   have cX : W6.cell? ⟨w.heap.size, 2, none⟩ = some (.slice af fs.length cf) := by
    have h := X6.out
    rw [HXV.out] at h
    exact h.cell_is 2 rfl
   clear hd5 hr5 hB2 hb5 b6 q hlv n6 B2 X2 P2 F2 hfsl
   go_wp2_with fail
   refine hff.mono ?_; rintro e w7 ⟨ge, D1, rfl, hge, hd7, hs7⟩
   clear hff cX
   have hn5 : ∀ i, w5.heap.size ≤ i → ¬ D.has i := fun i hi hd => by have := D5.out i hd; omega
   have hnx : ∀ i, i < w2.heap.size → ¬ D.has i := fun i hi hd => by have := HDB.out _ hd; omega
   have N7 := Lib.hid (hs7.out.blk N6.out (hn5 _ (by omega)))
   have X7 := Lib.hid (hs7.out.blk X6.out (hnx _ (by omega)))
   have P7 := Lib.hid (hs7.out.blk P6.out (hnx _ (by omega)))
   have F7 := Lib.hid (hs7.out.blk F6.out (hnx _ (by omega)))
   have R7 := Lib.hid (R6.out.outO hs7.out (fun g hg hd => by have := HDB.out _ hd; have := (HLV.out g hg).1; omega) (fun g hg => by cases hg) (fun g hg => by cases hg))
   have B7 := Lib.hid (B6.out.trans (hs7.out.below B6.out.size (fun i hi hd => hnx i (by omega) hd)))
   have D7 := Lib.hid hd7
   have S7 := Lib.hid hs7
   have hw67 : W6.heap.size ≤ w7.heap.size := hs7.out.size
   clear hd7 hs7 B6 X6 P6 F6 N6 R6
   have hrf := rdfail_uni y0 lv (.slice none 0 0) (.slice none 0 0) (.slice af fs.length cf) fs w7 (R7.out.mono hw67) HYO.out.ok ((HFS.out.below B7.out (Nat.le_refl _)).mono B7.out.size) HFI.out (by omega)
   rw [HY.out.1] at hrf
   have hDCs : (#[lv, .slice none 0 0, .int .i64 0, .slice none 0 0] : Array Value) = DC := HDC.out.symm
   rw [hDCs] at hrf
   have n7 := N7.out
   have cX : w7.cell? ⟨w.heap.size, 2, none⟩ = some (.slice af fs.length cf) := by
    have h := X7.out
    rw [HXV.out] at h
    exact h.cell_is 2 rfl
   go_wp2_with (refine wpList_load_row rfl 40 _ rfl w5.heap.size rfl 40 DC (0, 0) _ n7 Tryz.underlying40 rfl sDC ?_)
   refine hrf.mono ?_; rintro e w8 ⟨fv, er, rfl, hr8, hown8, hb8⟩
   have zfx : (failed y0 fs).steps = 0 := by unfold failed; split <;> exact HY.out.1
   have zfw : (failed y0 fs).waits = [] := by unfold failed; split <;> exact HY.out.2.1
   obtain ⟨DF, eDF⟩ : ∃ V, V = (#[lv, .slice none 0 0, .int .i64 0, fv] : Array Value) := ⟨_, rfl⟩
   have sDF : (Tryz.prog.info? 40).map (·.size) = some DF.size := by rw [eDF]; exact size_rdisk _ _ _ _
   have oDF : DF.all (·.oneCell') = true := by rw [eDF]; exact hr8.one 0
   have zDF : DC.size = DF.size := by rw [HDC.out, eDF]; rfl
   rw [← eDF]
   have HDF := Lib.hid eDF
   have ZF := Lib.hid (And.intro zfx zfw)
   clear hrf cX hDCs eDF n7 zfx zfw
   have n8 := N7.out.below hb8 N7.out.lt
   obtain ⟨W9, eW9⟩ : ∃ W, W = w8.setRow w5.heap.size DF := ⟨_, rfl⟩
   have hw78 : w7.heap.size ≤ w8.heap.size := hb8.size
   have far8 : ∀ {g : Nat} {t : TypeId} {cs : Array Value}, g ≠ w5.heap.size → Blk w8 g t cs → Blk W9 g t cs := fun {g t cs} hne hb => by rw [eW9]; exact blk_row_far hb DF hne
   have o9 : Out (fun i => i = w5.heap.size) w8 W9 := by rw [eW9]; exact out_row DF rfl
   have N9 := Lib.hid (show Blk W9 w5.heap.size 40 DF by rw [eW9]; exact n8.row DF)
   have P9 := Lib.hid (far8 (by omega) (P7.out.below hb8 P7.out.lt))
   have F9 := Lib.hid (far8 (by omega) (F7.out.below hb8 F7.out.lt))
   have B9 := Lib.hid (show Below w.heap.size w W9 by rw [eW9]; exact below_row (B7.out.trans (hb8.mono B7.out.size)) DF (by omega))
   have hD1n : ¬ D1.has w5.heap.size := fun hd => by
    rcases S7.out.new_ _ hd with h | h
    ·exact hn5 _ (Nat.le_refl _) h
    ·omega
   have D9 := Lib.hid ((D7.out.below hb8).out o9 (fun i hi e => hD1n (by rw [← e]; exact hi)))
   have R9 := Lib.hid (hr8.outO o9 (fun g hg e => by have := (HLV.out g hg).2; omega) (fun g hg => by cases hg) (fun g hg e => by
    rcases hown8 g hg with h | h
    ·cases h
    ·omega))
   have HOF := Lib.hid hown8
   have D7' := Lib.hid D7.out.has_lt
   go_upto_region 6 with (refine wpList_store_row rfl 40 _ _ rfl w5.heap.size DF rfl rfl 40 DC n8 sDF zDF oDF ?_)
   rw [← eW9]
   have hw89 : w8.heap.size ≤ W9.heap.size := o9.size
   clear eW9 n8 far8 o9 hr8 hb8 hown8 zDF oDF B7 X7 P7 F7 N7 R7 D7
   have hw10 := RW.out lv (.slice none 0 0) fv (.agg FV) W9 (R9.out.mono hw89) ((HFR.out.below B9.out (Nat.le_refl _)).mono B9.out.size)
   rw [ZF.out.1] at hw10
   have hDFs : (#[lv, .slice none 0 0, .int .i64 0, fv] : Array Value) = DF := HDF.out.symm
   rw [hDFs] at hw10
   have c1 := P9.out.cell_is 0 rfl
   have f1 := F9.out
   have n9 := N9.out
   go_wp2_with (first
    | (refine wpList_load_row rfl 40 _ rfl w5.heap.size rfl 40 DF (0, 0) _ n9 Tryz.underlying40 rfl sDF ?_)
    | (refine wpList_load_row rfl 28 _ rfl (w.heap.size + 2) rfl 28 FV (0, 0) _ f1 Tryz.underlying28 rfl sFV ?_))
   refine hw10.mono ?_; rintro e w10 ⟨wv, rfl, hr10, hb10, hwv⟩
   obtain ⟨DN, eDN⟩ : ∃ V, V = (#[lv, wv, .int .i64 x1.steps, fv] : Array Value) := ⟨_, rfl⟩
   have sDN : (Tryz.prog.info? 40).map (·.size) = some DN.size := by rw [eDN]; exact size_rdisk _ _ _ _
   have oDN : DN.all (·.oneCell') = true := by rw [eDN]; exact hr10.one _
   have zDN : zeroD.size = DN.size := by rw [eDN]; rfl
   rw [← eDN]
   have HDN := Lib.hid eDN
   clear eDN hw10 hDFs c1 f1 n9
   obtain ⟨W11, eW11⟩ : ∃ W, W = w10.alloc (.cells DN 40) := ⟨_, rfl⟩
   have b11 : Below w10.heap.size w10 W11 := by rw [eW11]; exact (Below.refl _ w10).alloc (Nat.le_refl _) _
   have n11 : Blk W11 w10.heap.size 40 DN := by rw [eW11]; exact Blk.new w10 _ _
   go_upto_region 7 with (refine wpList_store_row rfl 40 _ _ rfl w10.heap.size DN rfl rfl 40 _ (heap_alloc_new w10 _) sDN zDN oDN ?_; rw [World.setRow_alloc_new])
   rw [← eW11]
   clear eW11 oDN zDN
   have q : Below W9.heap.size W9 W11 := hb10.trans (b11.mono hb10.size)
   have P11 := Lib.hid (P9.out.below q P9.out.lt)
   have F11 := Lib.hid (F9.out.below q F9.out.lt)
   have B11 := Lib.hid (B9.out.trans (q.mono B9.out.size))
   have D11 := Lib.hid (D9.out.below q)
   have R11 := Lib.hid ((hr10.below b11 (Nat.le_refl _)).mono b11.size)
   have N11 := Lib.hid n11
   have hw910 : W9.heap.size ≤ w10.heap.size := hb10.size
   have hw1011 : w10.heap.size ≤ W11.heap.size := b11.size
   have HWV := Lib.hid hwv
   have hl11 := LW.out D1 (.agg FV) W11 D11.out ((HFR.out.below B11.out (Nat.le_refl _)).mono B11.out.size) HCAP.out
   rw [S7.out.same] at hl11
   unfold ptr at hl11
   clear hr10 hb10 b11 q hwv n11 RW LW P9 F9 B9 D9 N9
   have c1 := P11.out.cell_is 0 rfl
   have f1 := F11.out
   go_wp2_with (refine wpList_load_row rfl 28 _ rfl (w.heap.size + 2) rfl 28 FV (0, 0) _ f1 Tryz.underlying28 rfl sFV ?_)
   refine hl11.mono ?_; rintro e w12 ⟨rfl, D2, hd12, hs12⟩
   clear hl11 c1 f1
   have hD1lt : ∀ i, D1.has i → i < w7.heap.size := D7'.out
   have hnD1 : ∀ i, w7.heap.size ≤ i → ¬ D1.has i := fun i hi hd => by have := hD1lt i hd; omega
   have hnlow : ∀ i, i < w2.heap.size → ¬ D1.has i := fun i hi hd => by
    rcases S7.out.new_ i hd with h | h
    ·exact hnx i hi h
    ·omega
   have P12 := Lib.hid (hs12.out.blk P11.out (hnlow _ (by omega)))
   have F12 := Lib.hid (hs12.out.blk F11.out (hnlow _ (by omega)))
   have N12 := Lib.hid (hs12.out.blk N11.out (hnD1 _ (by omega)))
   have B12 := Lib.hid (B11.out.trans (hs12.out.below B11.out.size (fun i hi hd => hnlow i (by omega) hd)))
   have R12 : RDisk w12 W11.heap.size lv wv fv x1 := R11.out.outO hs12.out (fun g hg hd => by
    have h1 := HLV.out g hg
    rcases S7.out.new_ g hd with h | h
    ·have := HDB.out _ h; omega
    ·omega) (fun g hg hd => by
    rcases HWV.out g hg with h | h
    ·rw [h] at hg; cases hg
    ·have := hD1lt g hd; omega) (fun g hg hd => by
    rcases HOF.out g hg with h | h
    ·cases h
    ·have := hD1lt g hd; omega)
   have hst := stands_any D2 x1 lv wv fv w12 hd12 (R12.mono hs12.out.size) G1.out.1 G1.out.2
   have hDNs : (#[lv, wv, .int .i64 x1.steps, fv] : Array Value) = DN := HDN.out.symm
   rw [hDNs, hs12.same, S7.out.same] at hst
   unfold ptr at hst
   have l13 : (loadVar 40 ⟨w10.heap.size, 0, none⟩).run Tryz.prog w12 = .ok (.agg DN) w12 := run_loadVar_row w12 w10.heap.size _ _ DN (0, 0) _ N12.out Tryz.underlying40 rfl sDN
   clear hd12 hs12 R12 hDNs hnlow hnD1 hD1lt P11 F11 B11 D11 R11 N11
   have HGE := Lib.hid hge
   clear hge
   rcases HGE.out with h0 | h0
   ·subst h0
    go_wp2_with fail
    refine (num_any _ _).mono ?_; rintro e wN ⟨rfl, rfl⟩
    go_wp2_with fail
    refine (num_any _ _).mono ?_; rintro e wN ⟨rfl, rfl⟩
    go_wp2_with (refine wpList_load_midG rfl 40 _ rfl w10.heap.size 0 rfl DN l13 ?_)
    refine hst.mono ?_; rintro e w13 ⟨rfl, hb13⟩
    have HB13 := Lib.hid (B12.out.trans (hb13.mono B12.out.size))
    have c1 := (P12.out.below hb13 P12.out.lt).cell_is 0 rfl
    have l7 := load_frame' _ _ _ (F12.out.below hb13 F12.out.lt) sFV
    have hnil := lwrite_nil N area (.int .i64 f.ed) vo vo2 vs w13
    rw [← HFV.out] at hnil
    clear hb13 hst
    go_wp2_with (refine wpList_load_midG rfl 28 _ rfl (w.heap.size + 2) 0 rfl FV l7 ?_)
    refine hnil.mono ?_; rintro e w14 ⟨rfl, hb14⟩
    have HB14 := Lib.hid (HB13.out.trans (hb14.mono HB13.out.size))
    clear hb14 hnil l7 c1
    go_wp2_with fail
    refine (num_any _ _).mono ?_; rintro e wN ⟨rfl, rfl⟩
    go_wp2_with fail
    refine (works_any _).mono ?_; rintro e w15 ⟨rfl, hb15⟩
    go_wp2_with fail
    go_ret
    exact ⟨rfl, HB14.out.trans (hb15.mono HB14.out.size)⟩
   ·subst h0
    go_wp2_with fail
    refine (num_any _ _).mono ?_; rintro e wN ⟨rfl, rfl⟩
    go_wp2_with fail
    refine (num_any _ _).mono ?_; rintro e wN ⟨rfl, rfl⟩
    go_wp2_with fail
    refine (num_any _ _).mono ?_; rintro e wN ⟨rfl, rfl⟩
    go_wp2_with (refine wpList_load_midG rfl 40 _ rfl w10.heap.size 0 rfl DN l13 ?_)
    refine hst.mono ?_; rintro e w13 ⟨rfl, hb13⟩
    have HB13 := Lib.hid (B12.out.trans (hb13.mono B12.out.size))
    have c1 := (P12.out.below hb13 P12.out.lt).cell_is 0 rfl
    have l7 := load_frame' _ _ _ (F12.out.below hb13 F12.out.lt) sFV
    have hnil := lwrite_nil N area (.int .i64 f.ed) vo vo2 vs w13
    rw [← HFV.out] at hnil
    clear hb13 hst
    go_wp2_with (refine wpList_load_midG rfl 28 _ rfl (w.heap.size + 2) 0 rfl FV l7 ?_)
    refine hnil.mono ?_; rintro e w14 ⟨rfl, hb14⟩
    have HB14 := Lib.hid (HB13.out.trans (hb14.mono HB13.out.size))
    clear hb14 hnil l7 c1
    go_wp2_with fail
    refine (num_any _ _).mono ?_; rintro e wN ⟨rfl, rfl⟩
    go_wp2_with fail
    refine (works_any _).mono ?_; rintro e w15 ⟨rfl, hb15⟩
    go_wp2_with fail
    go_ret
    exact ⟨rfl, HB14.out.trans (hb15.mono HB14.out.size)⟩
end Go.Proofs.YtdpniceapmikpaaGreat
namespace Go.Proofs.YtdpniceapmikpaaGreat
open Go.ChangeShapes Go.WideShapes Go.ChangeAt Go.RowKit Go.Deep

section
variable {H : Type} {enc : TypeId × Value → H} {P : Program}

/-- arguments read as they read, behind a call that turned nothing below -/
theorem trodAll_stays (hl : laidOutB P = true) {W W' : World} (hb : Below W.heap.size W W') {sp : Nat → Bool} :
  ∀ {ts : List TypeId} {vs : List Value} {ds : List (DataW H)} {ps : List MemPlace}, (∀ t ∈ ts, P.readableRec t = true ∧ t < P.types.size) →
   DataW.TrodAll enc P W 0 (fun _ => true) true ts vs ds ps → (∀ p ∈ ps, p.block < W.heap.size) → (∀ p ∈ ps, sp p.block = true) → DataW.TrodAll enc P W' 0 sp true ts vs ds ps
 | [], vs, ds, ps, _, h, _, _ => by
  obtain ⟨rfl, rfl, rfl⟩ := trodAll_nil h
  exact trodAll_mk0
 | t :: ts, vs, ds, ps, ht, h, hlt, hsp => by
  obtain ⟨v, vs', d, ds', p, q, rfl, rfl, rfl, h1, h2⟩ := trodAll_cons h
  have hp : ∀ x ∈ p, x.block < W.heap.size := fun x hx => hlt x (List.mem_append_left _ hx)
  exact trodAll_cons_mk (WideElems.Trod_stays hl (ht t (List.mem_cons_self ..)).1 (ht t (List.mem_cons_self ..)).2 h1 (fun x hx => hb.same (hp x hx)) (fun x hx => hsp x (List.mem_append_left _ hx)))
   (trodAll_stays hl hb (fun u hu => ht u (List.mem_cons_of_mem _ hu)) h2 (fun x hx => hlt x (List.mem_append_right _ hx)) (fun x hx => hsp x (List.mem_append_right _ hx)))

theorem law_post (hl : laidOutB P = true) {f : Func} {s : ChangeSpec} {T : TypeId} (hts : ∀ t ∈ f.params.toList, P.readableRec t = true ∧ t < P.types.size) (hres : f.resultTypes = #[T]) (hT : P.underlying T = some .bool)
  (hvars : s.vars = []) {W W' : World} {args : Array Value} {ds gs : List (DataW H)} {before : List MemPlace} (hW : DataW.Whole enc P f.params.toList s.vars false W args.toList ds gs before)
  (hfn : s.fn H (ds ++ gs) = { results := [.lit (.bool true)], args := ds }) (hb : Below W.heap.size W W') : s.post enc P f false true false false W args (.bool true) W' := by
 have hlt : ∀ p ∈ before, p.block < W.heap.size := fun p hp => hW.lt p hp
 have hold : ∀ p ∈ before, (fun b => decide (b < W.heap.size)) p.block = true := fun p hp => by simpa using hlt p hp
 have hW' := hW
 obtain ⟨p, q, hA, hV, rfl, hz, hn⟩ := hW
 rw [hvars] at hV
 obtain ⟨rfl, rfl⟩ := trodVars_none hV
 refine ⟨ds, [], p ++ [], [], p, [], hW', ?_, ?_, ?_, World.keptBut_mono (fun x hx => ⟨hx, ?_⟩) (hb.frame (· ∈ p ++ [])), fun h => by cases h⟩
 ·rw [hfn, hres]
  exact trodAll_mk1 (shut_bool hT _)
 ·rw [hfn]
  exact trodAll_stays hl hb hts hA (fun x hx => hlt x (List.mem_append_left _ hx)) (fun x hx => hold x (List.mem_append_left _ hx))
 ·rw [hfn, hvars]
  exact rfl
 ·simpa using hx
end

section
variable {H : Type} {enc : TypeId × Value → H} {P : Program} {w : World} {base : Nat} {spare : Nat → Bool} {held : Bool}
theorem all_nums (kd : IntKind) : ∀ (m : Nat) (l : List Value), l.length = m → (∀ j, j < m → ∃ x, l[j]? = some (Value.int kd x) ∧ (Lit.int kd x).wf = true) → ∃ ns : List Int, ns.length = m ∧ l = ns.map (Value.int kd) ∧ ∀ x ∈ ns, (Lit.int kd x).wf = true := by
 intro m
 induction m with
 | zero => intro l hl _; exact ⟨[], rfl, List.eq_nil_of_length_eq_zero hl, fun x hx => by cases hx⟩
 | succ m ih =>
  intro l hl h
  cases l with
  | nil => cases hl
  | cons a l =>
   obtain ⟨x, hx, wx⟩ := h 0 (by omega)
   obtain ⟨ns, h1, h2, h3⟩ := ih l (by simpa using hl) (fun j hj => by simpa using h (j + 1) (by omega))
   simp only [List.getElem?_cons_zero, Option.some.injEq] at hx
   exact ⟨x :: ns, by simp [h1], by rw [hx, h2]; rfl, fun y hy => by
    cases List.mem_cons.1 hy with
    | inl e => rw [e]; exact wx
    | inr e => exact h3 y e⟩

/-- the cells of a struct of whole numbers of one kind -/
theorem nums_cells {t : TypeId} {fs : Array Field} {kd : IntKind} {n : Nat} {cs : List Value} {x : DataW H × List MemPlace} (hs : P.underlying t = some (.struct fs)) (hone : oneCellFields P fs = true) (hC : P.cellsOf t = fs.size)
  (hk : ∀ (j : Nat) (f : Field), fs[j]? = some f → P.underlying f.type = some (.int kd)) (h : DataW.trod enc P w base spare held n t cs = some x) :
  ∃ l : List Int, l.length = fs.size ∧ cs = l.map (Value.int kd) ∧ ∀ x ∈ l, (Lit.int kd x).wf = true := by
 obtain ⟨xs, n, _, _, hlen, hxl, hg⟩ := DataW.trod_struct hs h
 have hl : cs.length = fs.size := by rw [hlen, hC]
 have key : ∀ j, j < fs.size → ∃ x, cs[j]? = some (Value.int kd x) ∧ (Lit.int kd x).wf = true := by
  intro j hj
  have hfj : fs[j]? = some fs[j] := Array.getElem?_eq_getElem hj
  obtain ⟨ho, hk1⟩ := hone_of hone j _ hfj
  have h1 := hg j _ hfj
  rw [ho, hk1] at h1
  have hone' : (cs.drop j).take 1 = [cs[j]'(by omega)] := by
   rw [List.drop_eq_getElem_cons (by omega)]
   rfl
  rw [hone'] at h1
  have hx : xs[j]? = some (xs[j]'(by omega)) := List.getElem?_eq_getElem (by omega)
  rw [hx] at h1
  obtain ⟨x, hx1, _, hx3⟩ := DataW.trod_int (hk j _ hfj) h1
  simp only [List.cons.injEq, and_true] at hx1
  exact ⟨x, by rw [List.getElem?_eq_getElem (by omega), hx1], hx3⟩
 exact all_nums kd fs.size cs hl key

/-- a struct of whole numbers of one kind, by value: its cells -/
theorem open_nums {r : Reach} {b0 : Nat} {t : TypeId} {fs : Array Field} {kd : IntKind} {v : Value} {d : DataW H} {p : List MemPlace} (hs : P.underlying t = some (.struct fs)) (hone : oneCellFields P fs = true) (hC : P.cellsOf t = fs.size)
  (hk : ∀ (j : Nat) (f : Field), fs[j]? = some f → P.underlying f.type = some (.int kd)) (hv : Value.okWide P w r b0 t v) (h : DataW.Trod enc P w base spare held t v d p) :
  ∃ l : List Int, l.length = fs.size ∧ v = .agg (l.map (Value.int kd)).toArray ∧ ∀ x ∈ l, (Lit.int kd x).wf = true := by
 obtain ⟨cs, rfl, hsz⟩ := okWide_struct hs hv
 obtain ⟨fuel, hf⟩ := h
 obtain ⟨l, h1, h2, h3⟩ := nums_cells hs hone hC hk hf
 refine ⟨l, h1, ?_, h3⟩
 simp only [Value.cells] at h2
 rw [← h2]

theorem i64_lt {x : Int} (h : (Lit.int .i64 x).wf = true) : -9223372036854775808 ≤ x ∧ x < 9223372036854775808 := by
 simp [Lit.wf, IntKind.min, IntKind.max, IntKind.signed, IntKind.bits] at h
 omega
end

theorem own : ownKnob Tryz.prog.godebug = none := by kernel_rfl
theorem laidOut : laidOutB Tryz.prog = true := by kernel_rfl
end Go.Proofs.YtdpniceapmikpaaGreat
