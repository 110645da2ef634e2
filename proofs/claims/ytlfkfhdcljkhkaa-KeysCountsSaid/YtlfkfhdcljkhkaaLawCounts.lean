/-
  The law KeysCounts answers true, for all slices of keys and all objects.
-/
import Derived.Test.YtlfkfhdcljkhkaaCounts
import Derived.Test.YtlfkfhdcljkhkaaLawMany
namespace Go.Proofs.Ytlfkfhdcljkhkaa
open Go.RowKit

theorem Blk.range {W : World} {g : Nat} {t : TypeId} {cs : Array Value} (h : Blk W g t cs) : W.rangeAt g 0 cs.toList := fun j v hv => by
  rw [Nat.zero_add]
  exact h.cell_is j (by simpa using hv)

theorem counts_step {w W w' : World} {b p g : Nat} {z : Key6} {t : TypeId} {cs : Array Value} (hB : Below w.heap.size w W) (hC : Blk W g t cs) (h : KeyCells W b p z) (hb : Below W.heap.size W w') :
    Below w.heap.size w w' ∧ Blk w' g t cs ∧ KeyCells w' b p z :=
  ⟨(KeyCells.step hB h hb).1, hC.below hb hC.lt, (KeyCells.step hB h hb).2⟩

set_option maxHeartbeats 1000000 in
theorem lawCounts_walk (A : Option Addr) (len cap : Nat) (ks : Nat → Key6) (cs : Array Value) (kd ct cl : Int) (w : World) (hl : len ≤ maxLen) (hK : KeysAt w A len ks) (hO : ObjOk cs kd ct cl) :
    Calls Try.prog 9 #[.slice A len cap, .agg cs] w fun e w' => e = .returned (.bool true) ∧ Below w.heap.size w w' := by
  unfold maxLen at hl
  have HK := Lib.hid hK
  have HO := Lib.hid hO
  clear hK hO
  by_cases h60 : 60 < len
  · go_enter Try.func9, Try.ntmps9
    go_wp2_with (go_at_call 14; refine (known_any _).mono ?_; rintro e w' ⟨rfl, hb⟩)
    go_ret
    exact ⟨rfl, ((Below.refl _ _).alloc (Nat.le_refl _) _).trans (hb.mono (by simp))⟩
  · go_enter Try.func9, Try.ntmps9
    go_wp2_with fail
    go_loopw [5] (fun i wr => ∃ k : Nat, k ≤ len ∧ i = .int .i64 k ∧ Below w.heap.size w wr ∧ Blk wr w.heap.size 50 cs) (fun i _ => len - (intOf i).toNat)
    case atStart => exact ⟨0, Nat.zero_le _, rfl, (Below.refl _ _).alloc (Nat.le_refl _) _, Blk.new _ _ _⟩
    case round =>
      obtain ⟨k, hk, rfl, hB, hC⟩ := hrel
      by_cases hlt : k < len
      · obtain ⟨b, off, rfl, ⟨x0, x1, x2, x3, x4, x5⟩, hs⟩ := HK.out.round hB hlt
        generalize ks k = z at *
        obtain ⟨kk, o, c, a, r, v⟩ := z
        go_upto_region 6 with fail
        have hB1 := hB.drew
        have hC1 := hC.drew
        refine wp_region_held_drew (S := (fun w' => (Below w.heap.size w w' ∧ Blk w' w.heap.size 50 cs) ∧ w'.cell? ⟨b, off + k * 6, none⟩ = some (.int .i64 kk) ∧ w'.cell? ⟨b, off + k * 6 + 1, none⟩ = some (.int .i64 o) ∧ w'.cell? ⟨b, off + k * 6 + 2, none⟩ = some (.int .i64 c) ∧ w'.cell? ⟨b, off + k * 6 + 3, none⟩ = some (.int .i64 a) ∧ w'.cell? ⟨b, off + k * 6 + 4, none⟩ = some (.int .i64 r) ∧ w'.cell? ⟨b, off + k * 6 + 5, none⟩ = some (.int .i64 v))) (by kernel_rfl) (by (try dsimp only); (refine ⟨⟨?_, ?_⟩, ?_, ?_, ?_, ?_, ?_, ?_⟩ <;> assumption)) (fun hHeld => ?_)
        refine wpAnyH_take (i := 0) (v := ?v0) rfl (by kernel_rfl) (by kernel_rfl) (by kernel_rfl) (fun _ _ _ h => h) (Or.inl ⟨by rfl, ?hy0⟩) (by assumption) ?_
        case hy0 => (intro w hSw; (try dsimp only at hSw); go_simp; try with_reducible rfl)
        try simp only [Act.put, List.getElem_toArray, List.getElem_cons_succ, List.getElem_cons_zero, List.setIfInBounds_toArray, List.set_cons_zero, List.set_cons_succ]
        refine wpAnyH_take (i := 1) (v := ?v1) rfl (by kernel_rfl) (by kernel_rfl) (by kernel_rfl) (fun _ _ _ h => h) (Or.inl ⟨by rfl, ?hy1⟩) (by assumption) ?_
        case hy1 => (intro w hSw; (try dsimp only at hSw); go_simp; try with_reducible rfl)
        try simp only [Act.put, List.getElem_toArray, List.getElem_cons_succ, List.getElem_cons_zero, List.setIfInBounds_toArray, List.set_cons_zero, List.set_cons_succ]
        refine wpAnyH_take (i := 2) (v := ?v2) rfl (by kernel_rfl) (by kernel_rfl) (by kernel_rfl) (fun _ _ _ h => h) (Or.inl ⟨by rfl, ?hy2⟩) (by assumption) ?_
        case hy2 => (intro w hSw; (try dsimp only at hSw); go_simp; try with_reducible rfl)
        try simp only [Act.put, List.getElem_toArray, List.getElem_cons_succ, List.getElem_cons_zero, List.setIfInBounds_toArray, List.set_cons_zero, List.set_cons_succ]
        refine wpAnyH_take (i := 3) (v := ?v3) rfl (by kernel_rfl) (by kernel_rfl) (by kernel_rfl) (fun _ _ _ h => h) (Or.inl ⟨by rfl, ?hy3⟩) (by assumption) ?_
        case hy3 => (intro w hSw; (try dsimp only at hSw); go_simp; try with_reducible rfl)
        try simp only [Act.put, List.getElem_toArray, List.getElem_cons_succ, List.getElem_cons_zero, List.setIfInBounds_toArray, List.set_cons_zero, List.set_cons_succ]
        refine wpAnyH_take (i := 4) rfl (by kernel_rfl) (by kernel_rfl) (by kernel_rfl) (fun _ _ _ h => h) (yieldsIf_load_mid (by rfl) 50 _ rfl _ _ rfl cs.toList _ (fun w h => h.1.2.range) Try.underlying50 rfl (by rw [Array.length_toList, HO.out.1]; kernel_rfl)) (by assumption) ?_
        try simp only [Act.put, Array.toArray_toList, List.toArray_toList, List.getElem_toArray, List.getElem_cons_succ, List.getElem_cons_zero, List.setIfInBounds_toArray, List.set_cons_zero, List.set_cons_succ]
        refine wpAnyH_take (i := 6) (v := ?v6) rfl (by kernel_rfl) (by kernel_rfl) (by kernel_rfl) (fun _ _ _ h => h) (Or.inl ⟨by rfl, ?hy6⟩) (by assumption) ?_
        case hy6 => (intro w hSw; (try dsimp only at hSw); go_simp; try with_reducible rfl)
        try simp only [Act.put, List.getElem_toArray, List.getElem_cons_succ, List.getElem_cons_zero, List.setIfInBounds_toArray, List.set_cons_zero, List.set_cons_succ]
        refine wpAnyH_take (i := 7) (v := ?v7) rfl (by kernel_rfl) (by kernel_rfl) (by kernel_rfl) (fun _ _ _ h => h) (Or.inl ⟨by rfl, ?hy7⟩) (by assumption) ?_
        case hy7 => (intro w hSw; (try dsimp only at hSw); go_simp; try with_reducible rfl)
        try simp only [Act.put, List.getElem_toArray, List.getElem_cons_succ, List.getElem_cons_zero, List.setIfInBounds_toArray, List.set_cons_zero, List.set_cons_succ]
        refine wpAnyH_take (i := 8) (v := ?v8) rfl (by kernel_rfl) (by kernel_rfl) (by kernel_rfl) (fun _ _ _ h => h) (Or.inl ⟨by rfl, ?hy8⟩) (by assumption) ?_
        case hy8 => (intro w hSw; (try dsimp only at hSw); go_simp; try with_reducible rfl)
        try simp only [Act.put, List.getElem_toArray, List.getElem_cons_succ, List.getElem_cons_zero, List.setIfInBounds_toArray, List.set_cons_zero, List.set_cons_succ]
        refine wpAnyH_take (i := 9) (v := ?v9) rfl (by kernel_rfl) (by kernel_rfl) (by kernel_rfl) (fun _ _ _ h => h) (Or.inl ⟨by rfl, ?hy9⟩) (by assumption) ?_
        case hy9 => (intro w hSw; (try dsimp only at hSw); go_simp; try with_reducible rfl)
        try simp only [Act.put, List.getElem_toArray, List.getElem_cons_succ, List.getElem_cons_zero, List.setIfInBounds_toArray, List.set_cons_zero, List.set_cons_succ]
        refine wpAnyH_take (i := 10) rfl (by kernel_rfl) (by kernel_rfl) (by kernel_rfl) (fun _ _ _ h => h) (yieldsIf_load_mid (by rfl) 50 _ rfl _ _ rfl cs.toList _ (fun w h => h.1.2.range) Try.underlying50 rfl (by rw [Array.length_toList, HO.out.1]; kernel_rfl)) (by assumption) ?_
        try simp only [Act.put, Array.toArray_toList, List.toArray_toList, List.getElem_toArray, List.getElem_cons_succ, List.getElem_cons_zero, List.setIfInBounds_toArray, List.set_cons_zero, List.set_cons_succ]
        refine wpAnyH_ready (rs := [5]) (by kernel_rfl) (by simp) ?_
        refine AllReadyH.cons rfl (fun K hK => ?_) AllReadyH.nil
        go_simp
        (refine (counts_any _ _ _ _ _ _ _ _ _ _ _ HO.out).mono ?_; rintro e w' ⟨rfl, hb⟩; obtain ⟨z0, z1, x0, x1, x2, x3, x4, x5⟩ := counts_step (w := w) (b := b) (p := off + k * 6) (z := ⟨kk, o, c, a, r, v⟩) (by assumption) (by assumption) ⟨by assumption, by assumption, by assumption, by assumption, by assumption, by assumption⟩ hb; clear hb)
        go_wp2_with fail
        refine hK.out _ _ (by (try dsimp only); (refine ⟨⟨?_, ?_⟩, ?_, ?_, ?_, ?_, ?_, ?_⟩ <;> assumption)) (fun hHeld => ?_)
        clear hK K
        try simp only [Act.put, List.getElem_toArray, List.getElem_cons_succ, List.getElem_cons_zero, List.setIfInBounds_toArray, List.set_cons_zero, List.set_cons_succ]
        refine wpAnyH_ready (rs := [11]) (by kernel_rfl) (by simp) ?_
        refine AllReadyH.cons rfl (fun K hK => ?_) AllReadyH.nil
        go_simp
        (refine (rcounts_any _ _ _ _ _ _ _ _ _ _ _ HO.out hs).mono ?_; rintro e w' ⟨rfl, hb⟩; obtain ⟨z0, z1, x0, x1, x2, x3, x4, x5⟩ := counts_step (w := w) (b := b) (p := off + k * 6) (z := ⟨kk, o, c, a, r, v⟩) (by assumption) (by assumption) ⟨by assumption, by assumption, by assumption, by assumption, by assumption, by assumption⟩ hb; clear hb)
        go_wp2_with fail
        refine hK.out _ _ (by (try dsimp only); (refine ⟨⟨?_, ?_⟩, ?_, ?_, ?_, ?_, ?_, ?_⟩ <;> assumption)) (fun hHeld => ?_)
        clear hK K
        try simp only [Act.put, List.getElem_toArray, List.getElem_cons_succ, List.getElem_cons_zero, List.setIfInBounds_toArray, List.set_cons_zero, List.set_cons_succ]
        refine wpAnyH_take (i := 12) (v := ?v12) rfl (by kernel_rfl) (by kernel_rfl) (by kernel_rfl) (fun _ _ _ h => h) (Or.inl ⟨by rfl, ?hy12⟩) (by assumption) ?_
        case hy12 => (intro w hSw; (try dsimp only at hSw); go_simp; try with_reducible rfl)
        try simp only [Act.put, List.getElem_toArray, List.getElem_cons_succ, List.getElem_cons_zero, List.setIfInBounds_toArray, List.set_cons_zero, List.set_cons_succ]
        refine wpAnyH_done (by kernel_rfl) ?_ _
        go_wp2_with fail
        exact ⟨⟨k + 1, by omega, by go_num, by assumption, by assumption⟩, by simp [intOf]; omega⟩
      · go_wp2_with (go_at_call 14; refine (known_any _).mono ?_; rintro e w' ⟨rfl, hb⟩)
        go_ret
        exact ⟨rfl, hB.trans (hb.mono hB.size)⟩

end Go.Proofs.Ytlfkfhdcljkhkaa
