/-
  The contract of codec's writer.number. (Written by gen_lwnum.py.)
  The contracts of codec.fields and writer.key. (Written by gen_lwkey.py.)
-/
import Derived.Test.YtdpniceapmikpaaGreatChk1
import Derived.Test.YtdpniceapmikpaaGreatChk8
set_option linter.unusedVariables false
set_option linter.unusedSimpArgs false
namespace Go.Proofs.YtdpniceapmikpaaGreat
open Go.RowKit
theorem shr_byte (n j : Nat) (hj : j < 8) : Op.shift .shr .u64 (n : Int) .i64 (8 * (j : Int)) = pure (.int .u64 ((n / 256 ^ j : Nat) : Int)) := by
  have h1 : (8 * (j : Int)).toNat = 8 * j := by omega
  have h2 : min (8 * j) (IntKind.u64.bits) = 8 * j := by simp [IntKind.bits]; omega
  rw [shift_shr_any _ _ _ _ (by omega), h1, h2]
  congr 2
  rw [Int.natCast_ediv, show (256 : Nat) ^ j = 2 ^ (8 * j) by rw [Nat.pow_mul]]
  simp

set_option maxRecDepth 100000 in
set_option maxHeartbeats 4000000 in
theorem wnumber_any (g B n k : Nat) (t : TypeId) (v : Value) (l : List UInt8) (w : World) (hk : k ≤ 8) (hn : n < 18446744073709551616)
    (hc : Blk w g t #[v]) (ht : t ≠ 5) (ho : w.ownsRow B 5 1 v l.length (l.map vu8)) (hl : l.length ≤ 100000) (hB : B ≤ w.heap.size) :
    Calls Tryz.prog 103 #[ptr g, .int .u64 n, .int .i64 k] w fun e w' => e = .returned (.tuple #[]) ∧ ∃ v', Blk w' g t #[v'] ∧ w'.ownsRow B 5 1 v' (l ++ leB n k).length ((l ++ leB n k).map vu8) ∧ RowStep g v v' w w' := by
  have HO := Lib.hid ho
  have HC := Lib.hid hc
  unfold ptr
  clear ho hc
  go_enter Tryz.func103, Tryz.ntmps103
  go_wp2_with fail
  go_loopw [8] (fun i wr => ∃ (j : Nat) (v' : Value), j ≤ k ∧ i = .int .i64 (j : Int) ∧ Blk wr g t #[v'] ∧ wr.ownsRow B 5 1 v' (l ++ leB n j).length ((l ++ leB n j).map vu8) ∧ RowStep g v v' w wr) (fun i _ => k - (intOf i).toNat)
  case atStart => exact ⟨0, v, Nat.zero_le _, rfl, HC.out, by simpa [leB] using HO.out, RowStep.refl _ _ _⟩
  case round =>
    obtain ⟨j, v1, hj, rfl, hC1, hO1, hS1⟩ := hrel
    by_cases hlt : j < k
    · have h8 : (j : Int) < (k : Int) := by omega
      have hw8 : IntKind.i64.wrap (8 * (j : Int)) = 8 * (j : Int) := by rw [IntKind.wrap_i64]; omega
      have hb8 := byteAt_int n j
      have HLB := Lib.hid (leB_succ n j)
      have hbyte : IntKind.u8.wrap ((n : Int) / 2 ^ (8 * (j : Int)).toNat) = ((byteAt n j).toNat : Int) := by
        rw [hb8, IntKind.wrap_u8', show (8 * (j : Int)).toNat = 8 * j by omega, Int.natCast_ediv, show (256 : Nat) ^ j = 2 ^ (8 * j) by rw [Nat.pow_mul]]
        simp
      clear hb8
      go_upto_region 3 with fail
      refine wp_region_held_drew (S := (fun _ => True)) (by kernel_rfl) (by (try dsimp only); skip) (fun hHeld => ?_)
      refine wpAnyH_take (i := 0) (v := ?v0a) rfl (by kernel_rfl) (by kernel_rfl) (by kernel_rfl) (fun _ _ _ h => h) (Or.inl ⟨by rfl, ?hy0a⟩) (by assumption) ?_
      case hy0a => (intro w hSw; (try dsimp only at hSw); go_simp; try with_reducible rfl)
      try simp only [Act.put, List.getElem_toArray, List.getElem_cons_succ, List.getElem_cons_zero, List.setIfInBounds_toArray, List.set_cons_zero, List.set_cons_succ]
      refine wpAnyH_take (i := 1) (v := ?v1a) rfl (by kernel_rfl) (by kernel_rfl) (by kernel_rfl) (fun _ _ _ h => h) (Or.inl ⟨by rfl, ?hy1a⟩) (by assumption) ?_
      case hy1a => (intro w hSw; (try dsimp only at hSw); go_simp; try with_reducible rfl)
      try simp only [Act.put, List.getElem_toArray, List.getElem_cons_succ, List.getElem_cons_zero, List.setIfInBounds_toArray, List.set_cons_zero, List.set_cons_succ]
      refine wpAnyH_take (i := 2) (v := ?v2a) rfl (by kernel_rfl) (by kernel_rfl) (by kernel_rfl) (fun _ _ _ h => h) (Or.inl ⟨by rfl, ?hy2a⟩) (by assumption) ?_
      case hy2a => (intro w hSw; (try dsimp only at hSw); go_simp; try with_reducible rfl)
      try simp only [Act.put, List.getElem_toArray, List.getElem_cons_succ, List.getElem_cons_zero, List.setIfInBounds_toArray, List.set_cons_zero, List.set_cons_succ]
      refine wpAnyH_take (i := 3) (v := ?v3a) rfl (by kernel_rfl) (by kernel_rfl) (by kernel_rfl) (fun _ _ _ h => h) (Or.inl ⟨by rfl, ?hy3a⟩) (by assumption) ?_
      case hy3a => (intro w hSw; (try dsimp only at hSw); go_simp; try with_reducible rfl)
      try simp only [Act.put, List.getElem_toArray, List.getElem_cons_succ, List.getElem_cons_zero, List.setIfInBounds_toArray, List.set_cons_zero, List.set_cons_succ]
      refine wpAnyH_take (i := 4) (v := ?v4a) rfl (by kernel_rfl) (by kernel_rfl) (by kernel_rfl) (fun _ _ _ h => h) (Or.inl ⟨by rfl, ?hy4a⟩) (by assumption) ?_
      case hy4a => (intro w hSw; (try dsimp only at hSw); go_simp; try with_reducible rfl)
      try simp only [Act.put, List.getElem_toArray, List.getElem_cons_succ, List.getElem_cons_zero, List.setIfInBounds_toArray, List.set_cons_zero, List.set_cons_succ]
      refine wpAnyH_take (i := 6) (v := ?v6a) rfl (by kernel_rfl) (by kernel_rfl) (by kernel_rfl) (fun _ _ _ h => h) (Or.inl ⟨by rfl, ?hy6a⟩) (by assumption) ?_
      case hy6a => (intro w hSw; (try dsimp only at hSw); go_simp; try with_reducible rfl)
      try simp only [Act.put, List.getElem_toArray, List.getElem_cons_succ, List.getElem_cons_zero, List.setIfInBounds_toArray, List.set_cons_zero, List.set_cons_succ]
      refine wpAnyH_take (i := 7) (v := ?v7a) rfl (by kernel_rfl) (by kernel_rfl) (by kernel_rfl) (fun _ _ _ h => h) (Or.inl ⟨by rfl, ?hy7a⟩) (by assumption) ?_
      case hy7a => (intro w hSw; (try dsimp only at hSw); go_simp; try with_reducible rfl)
      try simp only [Act.put, List.getElem_toArray, List.getElem_cons_succ, List.getElem_cons_zero, List.setIfInBounds_toArray, List.set_cons_zero, List.set_cons_succ]
      refine wpAnyH_take (i := 8) (v := ?v8a) rfl (by kernel_rfl) (by kernel_rfl) (by kernel_rfl) (fun _ _ _ h => h) (Or.inl ⟨by rfl, ?hy8a⟩) (by assumption) ?_
      case hy8a => (intro w hSw; (try dsimp only at hSw); go_simp; try with_reducible rfl)
      try simp only [Act.put, List.getElem_toArray, List.getElem_cons_succ, List.getElem_cons_zero, List.setIfInBounds_toArray, List.set_cons_zero, List.set_cons_succ]
      refine wpAnyH_take (i := 9) (v := ?v9a) rfl (by kernel_rfl) (by kernel_rfl) (by kernel_rfl) (fun _ _ _ h => h) (Or.inl ⟨by rfl, ?hy9a⟩) (by assumption) ?_
      case hy9a => (intro w hSw; (try dsimp only at hSw); go_simp; try with_reducible rfl)
      try simp only [Act.put, List.getElem_toArray, List.getElem_cons_succ, List.getElem_cons_zero, List.setIfInBounds_toArray, List.set_cons_zero, List.set_cons_succ]
      refine wpAnyH_take (i := 10) (v := ?v10a) rfl (by kernel_rfl) (by kernel_rfl) (by kernel_rfl) (fun _ _ _ h => h) (Or.inl ⟨by rfl, ?hy10a⟩) (by assumption) ?_
      case hy10a => (intro w hSw; (try dsimp only at hSw); go_simp; try with_reducible rfl)
      try simp only [Act.put, List.getElem_toArray, List.getElem_cons_succ, List.getElem_cons_zero, List.setIfInBounds_toArray, List.set_cons_zero, List.set_cons_succ]
      have c1 := hC1.cell_is 0 rfl
      have hlt1 := hC1.lt
      have hne : ∀ i, v1.ownBlock = some i → i ≠ g := ne_own hO1 hC1 (Ne.symm ht)
      obtain ⟨i0, hi0, hz0, hz1, hz2⟩ := info_parts info_u8
      have hlen : (l ++ leB n j).length ≤ 200000 := by rw [List.length_append, leB_len]; omega
      obtain ⟨N, hN⟩ : ∃ N, (l ++ leB n j).length = N := ⟨_, rfl⟩
      rw [hN] at hO1 hlen
      have HNN := Lib.hid hN
      clear hN
      have hsz : B ≤ wr.heap.size := by have := hS1.out.size; omega
      have hbW : Below wr.heap.size wr (wr.drew.alloc (.cells #[vu8 (byteAt n j)] 5)) := ((Below.refl _ wr).drew.alloc (Nat.le_refl _) _)
      have HW := Lib.hid (ownsRow_out (F := fun _ => False) (outB hbW) hO1 (fun _ _ => id))
      have HC1 := Lib.hid hC1
      have HS1 := Lib.hid hS1
      have HBW := Lib.hid hbW
      have c1a := (World.cell?_alloc_lt wr (.cells #[vu8 (byteAt n j)] 5) ⟨g, 0, none⟩ hlt1).trans c1
      clear hO1 hC1 hS1 hbW
      refine wpAnyH_ready (rs := [5, 11]) (by kernel_rfl) (by simp) ?_
      refine AllReadyH.cons rfl (fun K hK => ?_) (AllReadyH.cons rfl (fun K hK => ?_) AllReadyH.nil)
      · go_simp
        refine hK.out _ _ trivial (fun hHeld => ?_)
        clear hK K
        try simp only [Act.put, List.getElem_toArray, List.getElem_cons_succ, List.getElem_cons_zero, List.setIfInBounds_toArray, List.set_cons_zero, List.set_cons_succ]
        refine wpAnyH_ready (rs := [11]) (by kernel_rfl) (by simp) ?_
        refine AllReadyH.cons rfl (fun K hK => ?_) AllReadyH.nil
        go_simp
        refine hK.out _ _ trivial (fun hHeld => ?_)
        clear hK K
        try simp only [Act.put, List.getElem_toArray, List.getElem_cons_succ, List.getElem_cons_zero, List.setIfInBounds_toArray, List.set_cons_zero, List.set_cons_succ]
        refine wpAnyH_ready (rs := [12]) (by kernel_rfl) (by simp) ?_
        refine AllReadyH.cons rfl (fun K hK => ?_) AllReadyH.nil
        rw [if_pos (by rfl)]
        refine wp_append_lies _ (.tmp 16) (.tmp 22) 26 rfl B 5 i0 _ 1 1 Tryz.underlying26 hi0 hz0 hz1 hz2 rfl (by omega) v1 N _ rfl HW.out ⟨wr.drew.heap.size, 0, none⟩ 1 1 [vu8 (byteAt n j)] rfl rfl (World.news_of_block (cs := #[vu8 (byteAt n j)]) (t := 5) (fr := (0, 0)) (heap_alloc_new wr.drew _)) (by simp [Value.oneCell'])
          (by omega) (by unfold maxLen; omega) (by omega) (by simp; omega) (wr.heap.size + 1) (size_alloc _ _) ?_
        intro g3 cap3 w2 hO2 hg2 hat2 hlt2
        obtain ⟨q1, q2⟩ := grown_row HBW.out hg2 HC1.out (fun e => hne g e rfl) (v' := .slice (some ⟨g3, 0, none⟩) (N + 1) cap3) (fun i hi => by
          have hi2 : g3 = i := by simpa [Value.ownBlock] using hi
          subst hi2
          exact hat2.imp id (fun e => e.trans (size_alloc _ _).symm))
        have cc : Blk w2 g t #[v1] := (hg2.block g (Nat.lt_of_lt_of_le hlt1 HBW.out.size) (fun e => hne g e.symm rfl)).trans ((HBW.out.block g hlt1).trans HC1.out)
        have c2 := cc.cell_is 0 rfl
        have f2 := cc.frozen 0
        have hO3 := Lib.hid (ownsRow_out (F := fun i => i = g) (out_set (v := .slice (some ⟨g3, 0, none⟩) (N + 1) cap3) (i := 0) rfl) hO2 (ne_own hO2 cc (Ne.symm ht)))
        refine hK.out _ _ trivial (fun hHeld => ?_)
        clear hK K
        try simp only [Act.put, List.getElem_toArray, List.getElem_cons_succ, List.getElem_cons_zero, List.setIfInBounds_toArray, List.set_cons_zero, List.set_cons_succ]
        refine wpAnyH_take (i := 13) (v := ?v13q) rfl (by kernel_rfl) (by kernel_rfl) (by kernel_rfl) (fun _ _ _ h => h) (Or.inl ⟨by rfl, ?hy13q⟩) (by assumption) ?_
        case hy13q => (intro w hSw; (try dsimp only at hSw); go_simp; try with_reducible rfl)
        try simp only [Act.put, List.getElem_toArray, List.getElem_cons_succ, List.getElem_cons_zero, List.setIfInBounds_toArray, List.set_cons_zero, List.set_cons_succ]
        refine wpAnyH_take (i := 14) (v := ?v14q) rfl (by kernel_rfl) (by kernel_rfl) (by kernel_rfl) (fun _ _ _ h => h) (Or.inl ⟨by rfl, ?hy14q⟩) (by assumption) ?_
        case hy14q => (intro w hSw; (try dsimp only at hSw); go_simp; try with_reducible rfl)
        try simp only [Act.put, List.getElem_toArray, List.getElem_cons_succ, List.getElem_cons_zero, List.setIfInBounds_toArray, List.set_cons_zero, List.set_cons_succ]
        refine wpAnyH_take (i := 15) (v := ?v15q) rfl (by kernel_rfl) (by kernel_rfl) (by kernel_rfl) (fun _ _ _ h => h) (Or.inl ⟨by rfl, ?hy15q⟩) (by assumption) ?_
        case hy15q => (intro w hSw; (try dsimp only at hSw); go_simp; try with_reducible rfl)
        try simp only [Act.put, List.getElem_toArray, List.getElem_cons_succ, List.getElem_cons_zero, List.setIfInBounds_toArray, List.set_cons_zero, List.set_cons_succ]
        refine wpAnyH_ready (rs := [16]) (by kernel_rfl) (by simp) ?_
        refine AllReadyH.cons rfl (fun K hK => ?_) AllReadyH.nil
        go_simp
        refine hK.out _ _ trivial (fun hHeld => ?_)
        clear hK K
        refine wpAnyH_done (by kernel_rfl) ?_ _
        try simp only [Act.put, List.getElem_toArray, List.getElem_cons_succ, List.getElem_cons_zero, List.setIfInBounds_toArray, List.set_cons_zero, List.set_cons_succ]
        go_wp2_with fail
        go_roundw
        case rel =>
          refine ⟨j + 1, _, by omega, by simp, q1, ?_, HS1.out.trans q2⟩
          have h := hO3.out
          rw [HLB.out, ← List.append_assoc, List.length_append (bs := [byteAt n j]), HNN.out, List.map_append (l₂ := [byteAt n j])]
          exact h
        case measure => simp [intOf]; omega
      · go_simp
        refine hK.out _ _ trivial (fun hHeld => ?_)
        clear hK K
        try simp only [Act.put, List.getElem_toArray, List.getElem_cons_succ, List.getElem_cons_zero, List.setIfInBounds_toArray, List.set_cons_zero, List.set_cons_succ]
        refine wpAnyH_ready (rs := [5]) (by kernel_rfl) (by simp) ?_
        refine AllReadyH.cons rfl (fun K hK => ?_) AllReadyH.nil
        go_simp
        refine hK.out _ _ trivial (fun hHeld => ?_)
        clear hK K
        try simp only [Act.put, List.getElem_toArray, List.getElem_cons_succ, List.getElem_cons_zero, List.setIfInBounds_toArray, List.set_cons_zero, List.set_cons_succ]
        refine wpAnyH_ready (rs := [12]) (by kernel_rfl) (by simp) ?_
        refine AllReadyH.cons rfl (fun K hK => ?_) AllReadyH.nil
        rw [if_pos (by rfl)]
        refine wp_append_lies _ (.tmp 16) (.tmp 22) 26 rfl B 5 i0 _ 1 1 Tryz.underlying26 hi0 hz0 hz1 hz2 rfl (by omega) v1 N _ rfl HW.out ⟨wr.drew.heap.size, 0, none⟩ 1 1 [vu8 (byteAt n j)] rfl rfl (World.news_of_block (cs := #[vu8 (byteAt n j)]) (t := 5) (fr := (0, 0)) (heap_alloc_new wr.drew _)) (by simp [Value.oneCell'])
          (by omega) (by unfold maxLen; omega) (by omega) (by simp; omega) (wr.heap.size + 1) (size_alloc _ _) ?_
        intro g3 cap3 w2 hO2 hg2 hat2 hlt2
        obtain ⟨q1, q2⟩ := grown_row HBW.out hg2 HC1.out (fun e => hne g e rfl) (v' := .slice (some ⟨g3, 0, none⟩) (N + 1) cap3) (fun i hi => by
          have hi2 : g3 = i := by simpa [Value.ownBlock] using hi
          subst hi2
          exact hat2.imp id (fun e => e.trans (size_alloc _ _).symm))
        have cc : Blk w2 g t #[v1] := (hg2.block g (Nat.lt_of_lt_of_le hlt1 HBW.out.size) (fun e => hne g e.symm rfl)).trans ((HBW.out.block g hlt1).trans HC1.out)
        have c2 := cc.cell_is 0 rfl
        have f2 := cc.frozen 0
        have hO3 := Lib.hid (ownsRow_out (F := fun i => i = g) (out_set (v := .slice (some ⟨g3, 0, none⟩) (N + 1) cap3) (i := 0) rfl) hO2 (ne_own hO2 cc (Ne.symm ht)))
        refine hK.out _ _ trivial (fun hHeld => ?_)
        clear hK K
        try simp only [Act.put, List.getElem_toArray, List.getElem_cons_succ, List.getElem_cons_zero, List.setIfInBounds_toArray, List.set_cons_zero, List.set_cons_succ]
        refine wpAnyH_take (i := 13) (v := ?v13r) rfl (by kernel_rfl) (by kernel_rfl) (by kernel_rfl) (fun _ _ _ h => h) (Or.inl ⟨by rfl, ?hy13r⟩) (by assumption) ?_
        case hy13r => (intro w hSw; (try dsimp only at hSw); go_simp; try with_reducible rfl)
        try simp only [Act.put, List.getElem_toArray, List.getElem_cons_succ, List.getElem_cons_zero, List.setIfInBounds_toArray, List.set_cons_zero, List.set_cons_succ]
        refine wpAnyH_take (i := 14) (v := ?v14r) rfl (by kernel_rfl) (by kernel_rfl) (by kernel_rfl) (fun _ _ _ h => h) (Or.inl ⟨by rfl, ?hy14r⟩) (by assumption) ?_
        case hy14r => (intro w hSw; (try dsimp only at hSw); go_simp; try with_reducible rfl)
        try simp only [Act.put, List.getElem_toArray, List.getElem_cons_succ, List.getElem_cons_zero, List.setIfInBounds_toArray, List.set_cons_zero, List.set_cons_succ]
        refine wpAnyH_take (i := 15) (v := ?v15r) rfl (by kernel_rfl) (by kernel_rfl) (by kernel_rfl) (fun _ _ _ h => h) (Or.inl ⟨by rfl, ?hy15r⟩) (by assumption) ?_
        case hy15r => (intro w hSw; (try dsimp only at hSw); go_simp; try with_reducible rfl)
        try simp only [Act.put, List.getElem_toArray, List.getElem_cons_succ, List.getElem_cons_zero, List.setIfInBounds_toArray, List.set_cons_zero, List.set_cons_succ]
        refine wpAnyH_ready (rs := [16]) (by kernel_rfl) (by simp) ?_
        refine AllReadyH.cons rfl (fun K hK => ?_) AllReadyH.nil
        go_simp
        refine hK.out _ _ trivial (fun hHeld => ?_)
        clear hK K
        refine wpAnyH_done (by kernel_rfl) ?_ _
        try simp only [Act.put, List.getElem_toArray, List.getElem_cons_succ, List.getElem_cons_zero, List.setIfInBounds_toArray, List.set_cons_zero, List.set_cons_succ]
        go_wp2_with fail
        go_roundw
        case rel =>
          refine ⟨j + 1, _, by omega, by simp, q1, ?_, HS1.out.trans q2⟩
          have h := hO3.out
          rw [HLB.out, ← List.append_assoc, List.length_append (bs := [byteAt n j]), HNN.out, List.map_append (l₂ := [byteAt n j])]
          exact h
        case measure => simp [intOf]; omega
    · obtain rfl : j = k := by omega
      go_wp2_with fail
      exact bodyPost_end (v := .tuple #[]) (by simp [results, Tryz.results103, go_sem]) rfl ⟨rfl, v1, hC1, hO1, hS1⟩
end Go.Proofs.YtdpniceapmikpaaGreat
namespace Go.Proofs.YtdpniceapmikpaaGreat
open Go.RowKit

/-- an int64 as an uint64 -/
def u64 (n : Int) : Nat := (n % 18446744073709551616).toNat
theorem u64_int (n : Int) : ((u64 n : Nat) : Int) = n % 18446744073709551616 := by unfold u64; omega
theorem u64_lt (n : Int) : u64 n < 18446744073709551616 := by unfold u64; omega
def keyPre (x : KeyD) (j : Nat) : List UInt8 := (if 0 < j then leB (u64 x.k) 1 else []) ++ ((if 1 < j then leB (u64 x.r) 1 else []) ++ ((if 2 < j then leB (u64 x.o) 2 else []) ++ ((if 3 < j then leB (u64 x.c) 4 else []) ++ ((if 4 < j then leB (u64 x.a) 4 else []) ++ (if 5 < j then leB (u64 x.v) 8 else [])))))
def keyB (x : KeyD) : List UInt8 := keyPre x 6
theorem keyB_len (x : KeyD) : (keyB x).length = 20 := by simp [keyB, keyPre, leB_len]
def fieldsV : Array Value := #[.int .i64 1, .func (.func 153) #[] #[], .func (.func 154) #[] #[], .int .i64 1, .func (.func 155) #[] #[], .func (.func 156) #[] #[], .int .i64 2, .func (.func 157) #[] #[], .func (.func 158) #[] #[], .int .i64 4, .func (.func 159) #[] #[], .func (.func 160) #[] #[], .int .i64 4, .func (.func 161) #[] #[], .func (.func 162) #[] #[], .int .i64 8, .func (.func 163) #[] #[], .func (.func 164) #[] #[]]
set_option maxRecDepth 100000 in
theorem fields_any (w : World) : Calls Tryz.prog 140 #[] w fun e w' => e = .returned (.agg fieldsV) ∧ Below w.heap.size w w' := by
  have hi : (Tryz.prog.info? 252).map (·.size) = some fieldsV.size := by kernel_rfl
  have h1 : fieldsV.all (·.oneCell') = true := by kernel_rfl
  go_enter Tryz.func140, Tryz.ntmps140
  go_wp2_with (refine wpList_store_row rfl 252 _ _ rfl w.heap.size fieldsV rfl rfl 252 _ (heap_alloc_new w _) hi rfl h1 ?_; rw [World.setRow_alloc_new])
  exact bodyPost_ret (v := .agg fieldsV) (results_cell_row Tryz.results140 _ _ w.heap.size 252 fieldsV (0, 0) _ rfl (heap_alloc_last _ _) Tryz.underlying252 rfl (by kernel_rfl)) rfl ⟨rfl, (Below.refl _ w).alloc (Nat.le_refl _) _⟩
theorem index_0 (w : World) : (Instr.index 252 (.agg fieldsV) (.int .i64 0)).run Tryz.prog w = .ok (.agg #[.int .i64 1, .func (.func 153) #[] #[], .func (.func 154) #[] #[]]) w := by kernel_rfl
theorem index_1 (w : World) : (Instr.index 252 (.agg fieldsV) (.int .i64 1)).run Tryz.prog w = .ok (.agg #[.int .i64 1, .func (.func 155) #[] #[], .func (.func 156) #[] #[]]) w := by kernel_rfl
theorem index_2 (w : World) : (Instr.index 252 (.agg fieldsV) (.int .i64 2)).run Tryz.prog w = .ok (.agg #[.int .i64 2, .func (.func 157) #[] #[], .func (.func 158) #[] #[]]) w := by kernel_rfl
theorem index_3 (w : World) : (Instr.index 252 (.agg fieldsV) (.int .i64 3)).run Tryz.prog w = .ok (.agg #[.int .i64 4, .func (.func 159) #[] #[], .func (.func 160) #[] #[]]) w := by kernel_rfl
theorem index_4 (w : World) : (Instr.index 252 (.agg fieldsV) (.int .i64 4)).run Tryz.prog w = .ok (.agg #[.int .i64 4, .func (.func 161) #[] #[], .func (.func 162) #[] #[]]) w := by kernel_rfl
theorem index_5 (w : World) : (Instr.index 252 (.agg fieldsV) (.int .i64 5)).run Tryz.prog w = .ok (.agg #[.int .i64 8, .func (.func 163) #[] #[], .func (.func 164) #[] #[]]) w := by kernel_rfl
theorem is_k (x : KeyD) (g : Nat) (t : TypeId) (w : World) (h : Blk w g t x.cells.toArray) : Calls Tryz.prog 153 #[ptr g] w fun e w' => e = .returned (.int .u64 (u64 x.k)) ∧ w = w' := by
  have c : w.cell? ⟨g, 0, none⟩ = some (.int .i64 x.k) := h.cell_is 0 rfl
  have hw : IntKind.u64.wrap x.k = (u64 x.k : Int) := by rw [IntKind.wrap_u64, u64_int]
  unfold ptr
  clear h
  go_enter Tryz.func153, Tryz.ntmps153
  go_wp2_with fail
  go_ret
  exact ⟨rfl, rfl⟩
theorem is_r (x : KeyD) (g : Nat) (t : TypeId) (w : World) (h : Blk w g t x.cells.toArray) : Calls Tryz.prog 155 #[ptr g] w fun e w' => e = .returned (.int .u64 (u64 x.r)) ∧ w = w' := by
  have c : w.cell? ⟨g, 4, none⟩ = some (.int .i64 x.r) := h.cell_is 4 rfl
  have hw : IntKind.u64.wrap x.r = (u64 x.r : Int) := by rw [IntKind.wrap_u64, u64_int]
  unfold ptr
  clear h
  go_enter Tryz.func155, Tryz.ntmps155
  go_wp2_with fail
  go_ret
  exact ⟨rfl, rfl⟩
theorem is_o (x : KeyD) (g : Nat) (t : TypeId) (w : World) (h : Blk w g t x.cells.toArray) : Calls Tryz.prog 157 #[ptr g] w fun e w' => e = .returned (.int .u64 (u64 x.o)) ∧ w = w' := by
  have c : w.cell? ⟨g, 1, none⟩ = some (.int .i64 x.o) := h.cell_is 1 rfl
  have hw : IntKind.u64.wrap x.o = (u64 x.o : Int) := by rw [IntKind.wrap_u64, u64_int]
  unfold ptr
  clear h
  go_enter Tryz.func157, Tryz.ntmps157
  go_wp2_with fail
  go_ret
  exact ⟨rfl, rfl⟩
theorem is_c (x : KeyD) (g : Nat) (t : TypeId) (w : World) (h : Blk w g t x.cells.toArray) : Calls Tryz.prog 159 #[ptr g] w fun e w' => e = .returned (.int .u64 (u64 x.c)) ∧ w = w' := by
  have c : w.cell? ⟨g, 2, none⟩ = some (.int .i64 x.c) := h.cell_is 2 rfl
  have hw : IntKind.u64.wrap x.c = (u64 x.c : Int) := by rw [IntKind.wrap_u64, u64_int]
  unfold ptr
  clear h
  go_enter Tryz.func159, Tryz.ntmps159
  go_wp2_with fail
  go_ret
  exact ⟨rfl, rfl⟩
theorem is_a (x : KeyD) (g : Nat) (t : TypeId) (w : World) (h : Blk w g t x.cells.toArray) : Calls Tryz.prog 161 #[ptr g] w fun e w' => e = .returned (.int .u64 (u64 x.a)) ∧ w = w' := by
  have c : w.cell? ⟨g, 3, none⟩ = some (.int .i64 x.a) := h.cell_is 3 rfl
  have hw : IntKind.u64.wrap x.a = (u64 x.a : Int) := by rw [IntKind.wrap_u64, u64_int]
  unfold ptr
  clear h
  go_enter Tryz.func161, Tryz.ntmps161
  go_wp2_with fail
  go_ret
  exact ⟨rfl, rfl⟩
theorem is_v (x : KeyD) (g : Nat) (t : TypeId) (w : World) (h : Blk w g t x.cells.toArray) : Calls Tryz.prog 163 #[ptr g] w fun e w' => e = .returned (.int .u64 (u64 x.v)) ∧ w = w' := by
  have c : w.cell? ⟨g, 5, none⟩ = some (.int .i64 x.v) := h.cell_is 5 rfl
  have hw : IntKind.u64.wrap x.v = (u64 x.v : Int) := by rw [IntKind.wrap_u64, u64_int]
  unfold ptr
  clear h
  go_enter Tryz.func163, Tryz.ntmps163
  go_wp2_with fail
  go_ret
  exact ⟨rfl, rfl⟩
theorem info_field : (Tryz.prog.info? 251).map (·.size) = some 3 := by kernel_rfl
set_option maxRecDepth 100000 in
set_option maxHeartbeats 4000000 in
theorem wkey_any (g B : Nat) (x : KeyD) (t : TypeId) (v : Value) (l : List UInt8) (w : World) (hc : Blk w g t #[v]) (ht : t ≠ 5) (ht2 : t ≠ 251) (ho : w.ownsRow B 5 1 v l.length (l.map vu8)) (hl : l.length ≤ 50000) (hB : B ≤ w.heap.size) :
    Calls Tryz.prog 104 #[ptr g, .agg x.cells.toArray] w fun e w' => e = .returned (.tuple #[]) ∧ ∃ v', Blk w' g t #[v'] ∧ w'.ownsRow B 5 1 v' (l ++ keyB x).length ((l ++ keyB x).map vu8) ∧ RowStep g v v' w w' := by
  have HO := Lib.hid ho
  have HC := Lib.hid hc
  have hlt := hc.lt
  have hne : g ≠ w.heap.size := Nat.ne_of_lt hlt
  unfold ptr
  clear ho hc
  obtain ⟨X, eX⟩ : ∃ X, X = x.cells.toArray := ⟨_, rfl⟩
  rw [← eX]
  have HEX := Lib.hid eX
  clear eX
  go_enter Tryz.func104, Tryz.ntmps104
  go_wp2_with fail
  refine (fields_any _).mono ?_; rintro e w1 ⟨rfl, hb⟩
  have hb1 : Below w.heap.size w w1 := ((Below.refl _ w).alloc (Nat.le_refl _) _).trans (hb.mono (by simp))
  have hK : Blk w1 w.heap.size 58 X := (Blk.new w _ _).below hb (by simp)
  go_wp2_with fail
  go_loopw [7] (fun i wr => ∃ (j : Nat) (v' : Value), j ≤ 6 ∧ i = .int .i64 (j : Int) ∧ Blk wr g t #[v'] ∧ wr.ownsRow B 5 1 v' (l ++ keyPre x j).length ((l ++ keyPre x j).map vu8) ∧ RowStep g v v' w wr ∧ Blk wr w.heap.size 58 X) (fun i _ => 6 - (intOf i).toNat)
  case atStart => exact ⟨0, v, Nat.zero_le _, rfl, HC.out.below hb1 hlt, by simpa [keyPre] using ownsRow_out (F := fun _ => False) (outB hb1) HO.out (fun _ _ => id), (RowStep.refl _ _ _).last hb1, hK⟩
  case round =>
    obtain ⟨j, v1, hj, rfl, hC1, hO1, hS1, hK1⟩ := hrel
    by_cases hlt6 : j < 6
    · have hcs : j = 0 ∨ j = 1 ∨ j = 2 ∨ j = 3 ∨ j = 4 ∨ j = 5 := by omega
      rcases hcs with rfl | rfl | rfl | rfl | rfl | rfl
      · have hix := index_0
        have h1 : (#[.int .i64 1, .func (.func 153) #[] #[], .func (.func 154) #[] #[]] : Array Value).all (·.oneCell') = true := by kernel_rfl
        go_upto_region 4 with (refine wpList_store_row rfl 251 _ _ rfl wr.heap.size #[.int .i64 1, .func (.func 153) #[] #[], .func (.func 154) #[] #[]] rfl rfl 251 _ (heap_alloc_new wr _) info_field rfl h1 ?_; rw [World.setRow_alloc_new])
        have hltw := hC1.lt
        have HFW := Lib.hid (Blk.new wr 251 #[.int .i64 1, .func (.func 153) #[] #[], .func (.func 154) #[] #[]])
        have HCW := Lib.hid (hC1.alloc (.cells #[.int .i64 1, .func (.func 153) #[] #[], .func (.func 154) #[] #[]] 251))
        have HKW := Lib.hid (hK1.alloc (.cells #[.int .i64 1, .func (.func 153) #[] #[], .func (.func 154) #[] #[]] 251))
        have HOW := Lib.hid (ownsRow_out (F := fun _ => False) (outB ((Below.refl _ wr).alloc (Nat.le_refl _) (.cells #[.int .i64 1, .func (.func 153) #[] #[], .func (.func 154) #[] #[]] 251)).drew) hO1 (fun _ _ => id))
        have HBW := Lib.hid ((Below.refl _ wr).alloc (Nat.le_refl _) (.cells #[.int .i64 1, .func (.func 153) #[] #[], .func (.func 154) #[] #[]] 251)).drew
        have HSS := Lib.hid (And.intro (HFW.out.drew.cell_is 0 rfl) (HFW.out.drew.cell_is 1 rfl))
        have HLE := Lib.hid (show (l ++ keyPre x 0).length ≤ 100000 by simp [keyPre, leB_len]; omega)
        have HSZ := Lib.hid (show B ≤ (wr.alloc (.cells #[.int .i64 1, .func (.func 153) #[] #[], .func (.func 154) #[] #[]] 251)).drew.heap.size by have := hS1.out.size; have := HBW.out.size; omega)
        have HS1 := Lib.hid hS1
        have HPJ := Lib.hid (show l ++ keyPre x 1 = (l ++ keyPre x 0) ++ leB (u64 x.k) 1 by simp [keyPre])
        clear hC1 hO1 hS1 hK1 h1
        try simp only [Act.put, List.getElem_toArray, List.getElem_cons_succ, List.getElem_cons_zero, List.setIfInBounds_toArray, List.set_cons_zero, List.set_cons_succ]
        refine wp_region_held_drew (S := (fun w' => w'.cell? ⟨wr.heap.size, 0, none⟩ = some (.int .i64 1) ∧ w'.cell? ⟨wr.heap.size, 1, none⟩ = some (.func (.func 153) #[] #[]))) (by kernel_rfl) (by (try dsimp only); (first | exact HSS.out | exact ⟨hFF.cell_is 0 rfl, hFF.cell_is 1 rfl⟩)) (fun hHeld => ?_)
        refine wpAnyH_take (i := 0) (v := ?v0k0) rfl (by kernel_rfl) (by kernel_rfl) (by kernel_rfl) (fun _ _ _ h => h) (Or.inl ⟨by rfl, ?hy0k0⟩) (by assumption) ?_
        case hy0k0 => (intro w hSw; (try dsimp only at hSw); go_simp; try with_reducible rfl)
        try simp only [Act.put, List.getElem_toArray, List.getElem_cons_succ, List.getElem_cons_zero, List.setIfInBounds_toArray, List.set_cons_zero, List.set_cons_succ]
        refine wpAnyH_take (i := 1) (v := ?v1k0) rfl (by kernel_rfl) (by kernel_rfl) (by kernel_rfl) (fun _ _ _ h => h) (Or.inl ⟨by rfl, ?hy1k0⟩) (by assumption) ?_
        case hy1k0 => (intro w hSw; (try dsimp only at hSw); go_simp; try with_reducible rfl)
        try simp only [Act.put, List.getElem_toArray, List.getElem_cons_succ, List.getElem_cons_zero, List.setIfInBounds_toArray, List.set_cons_zero, List.set_cons_succ]
        refine wpAnyH_take (i := 2) (v := ?v2k0) rfl (by kernel_rfl) (by kernel_rfl) (by kernel_rfl) (fun _ _ _ h => h) (Or.inl ⟨by rfl, ?hy2k0⟩) (by assumption) ?_
        case hy2k0 => (intro w hSw; (try dsimp only at hSw); go_simp; try with_reducible rfl)
        try simp only [Act.put, List.getElem_toArray, List.getElem_cons_succ, List.getElem_cons_zero, List.setIfInBounds_toArray, List.set_cons_zero, List.set_cons_succ]
        refine wpAnyH_take (i := 4) (v := ?v4k0) rfl (by kernel_rfl) (by kernel_rfl) (by kernel_rfl) (fun _ _ _ h => h) (Or.inl ⟨by rfl, ?hy4k0⟩) (by assumption) ?_
        case hy4k0 => (intro w hSw; (try dsimp only at hSw); go_simp; try with_reducible rfl)
        try simp only [Act.put, List.getElem_toArray, List.getElem_cons_succ, List.getElem_cons_zero, List.setIfInBounds_toArray, List.set_cons_zero, List.set_cons_succ]
        refine wpAnyH_take (i := 5) (v := ?v5k0) rfl (by kernel_rfl) (by kernel_rfl) (by kernel_rfl) (fun _ _ _ h => h) (Or.inl ⟨by rfl, ?hy5k0⟩) (by assumption) ?_
        case hy5k0 => (intro w hSw; (try dsimp only at hSw); go_simp; try with_reducible rfl)
        try simp only [Act.put, List.getElem_toArray, List.getElem_cons_succ, List.getElem_cons_zero, List.setIfInBounds_toArray, List.set_cons_zero, List.set_cons_succ]
        refine wpAnyH_ready (rs := [3]) (by kernel_rfl) (by simp) ?_
        refine AllReadyH.cons rfl (fun K hK => ?_) AllReadyH.nil
        go_simp
        (refine (is_k x w.heap.size _ _ (by rw [← HEX.out]; exact HKW.out.drew)).mono ?_; rintro e w' ⟨rfl, rfl⟩)
        go_wp2_with fail
        refine hK.out _ _ (by (try dsimp only); (first | exact HSS.out | exact ⟨hFF.cell_is 0 rfl, hFF.cell_is 1 rfl⟩)) (fun hHeld => ?_)
        clear hK K
        try simp only [Act.put, List.getElem_toArray, List.getElem_cons_succ, List.getElem_cons_zero, List.setIfInBounds_toArray, List.set_cons_zero, List.set_cons_succ]
        refine wpAnyH_ready (rs := [6]) (by kernel_rfl) (by simp) ?_
        refine AllReadyH.cons rfl (fun K hK => ?_) AllReadyH.nil
        go_simp
        (refine (wnumber_any g B (u64 x.k) 1 t v1 (l ++ keyPre x 0) _ (by omega) (u64_lt _) HCW.out.drew ht HOW.out HLE.out HSZ.out).mono ?_; rintro e w2 ⟨rfl, v2, hC2, hO2, hS2⟩; have hFF := hS2.blk HCW.out.drew HOW.out HFW.out.drew (Nat.ne_of_gt hltw) (by decide))
        go_wp2_with fail
        refine hK.out _ _ (by (try dsimp only); (first | exact HSS.out | exact ⟨hFF.cell_is 0 rfl, hFF.cell_is 1 rfl⟩)) (fun hHeld => ?_)
        clear hK K
        try simp only [Act.put, List.getElem_toArray, List.getElem_cons_succ, List.getElem_cons_zero, List.setIfInBounds_toArray, List.set_cons_zero, List.set_cons_succ]
        refine wpAnyH_done (by kernel_rfl) ?_ _
        try simp only [Act.put, List.getElem_toArray, List.getElem_cons_succ, List.getElem_cons_zero, List.setIfInBounds_toArray, List.set_cons_zero, List.set_cons_succ]
        go_wp2_with fail
        go_roundw
        case rel => exact ⟨1, v2, by omega, rfl, hC2, by rw [HPJ.out]; exact hO2, HS1.out.trans (hS2.first HBW.out), hS2.blk HCW.out.drew HOW.out HKW.out.drew (by omega) (by decide)⟩
        case measure => simp [intOf]
      · have hix := index_1
        have h1 : (#[.int .i64 1, .func (.func 155) #[] #[], .func (.func 156) #[] #[]] : Array Value).all (·.oneCell') = true := by kernel_rfl
        go_upto_region 4 with (refine wpList_store_row rfl 251 _ _ rfl wr.heap.size #[.int .i64 1, .func (.func 155) #[] #[], .func (.func 156) #[] #[]] rfl rfl 251 _ (heap_alloc_new wr _) info_field rfl h1 ?_; rw [World.setRow_alloc_new])
        have hltw := hC1.lt
        have HFW := Lib.hid (Blk.new wr 251 #[.int .i64 1, .func (.func 155) #[] #[], .func (.func 156) #[] #[]])
        have HCW := Lib.hid (hC1.alloc (.cells #[.int .i64 1, .func (.func 155) #[] #[], .func (.func 156) #[] #[]] 251))
        have HKW := Lib.hid (hK1.alloc (.cells #[.int .i64 1, .func (.func 155) #[] #[], .func (.func 156) #[] #[]] 251))
        have HOW := Lib.hid (ownsRow_out (F := fun _ => False) (outB ((Below.refl _ wr).alloc (Nat.le_refl _) (.cells #[.int .i64 1, .func (.func 155) #[] #[], .func (.func 156) #[] #[]] 251)).drew) hO1 (fun _ _ => id))
        have HBW := Lib.hid ((Below.refl _ wr).alloc (Nat.le_refl _) (.cells #[.int .i64 1, .func (.func 155) #[] #[], .func (.func 156) #[] #[]] 251)).drew
        have HSS := Lib.hid (And.intro (HFW.out.drew.cell_is 0 rfl) (HFW.out.drew.cell_is 1 rfl))
        have HLE := Lib.hid (show (l ++ keyPre x 1).length ≤ 100000 by simp [keyPre, leB_len]; omega)
        have HSZ := Lib.hid (show B ≤ (wr.alloc (.cells #[.int .i64 1, .func (.func 155) #[] #[], .func (.func 156) #[] #[]] 251)).drew.heap.size by have := hS1.out.size; have := HBW.out.size; omega)
        have HS1 := Lib.hid hS1
        have HPJ := Lib.hid (show l ++ keyPre x 2 = (l ++ keyPre x 1) ++ leB (u64 x.r) 1 by simp [keyPre])
        clear hC1 hO1 hS1 hK1 h1
        try simp only [Act.put, List.getElem_toArray, List.getElem_cons_succ, List.getElem_cons_zero, List.setIfInBounds_toArray, List.set_cons_zero, List.set_cons_succ]
        refine wp_region_held_drew (S := (fun w' => w'.cell? ⟨wr.heap.size, 0, none⟩ = some (.int .i64 1) ∧ w'.cell? ⟨wr.heap.size, 1, none⟩ = some (.func (.func 155) #[] #[]))) (by kernel_rfl) (by (try dsimp only); (first | exact HSS.out | exact ⟨hFF.cell_is 0 rfl, hFF.cell_is 1 rfl⟩)) (fun hHeld => ?_)
        refine wpAnyH_take (i := 0) (v := ?v0k1) rfl (by kernel_rfl) (by kernel_rfl) (by kernel_rfl) (fun _ _ _ h => h) (Or.inl ⟨by rfl, ?hy0k1⟩) (by assumption) ?_
        case hy0k1 => (intro w hSw; (try dsimp only at hSw); go_simp; try with_reducible rfl)
        try simp only [Act.put, List.getElem_toArray, List.getElem_cons_succ, List.getElem_cons_zero, List.setIfInBounds_toArray, List.set_cons_zero, List.set_cons_succ]
        refine wpAnyH_take (i := 1) (v := ?v1k1) rfl (by kernel_rfl) (by kernel_rfl) (by kernel_rfl) (fun _ _ _ h => h) (Or.inl ⟨by rfl, ?hy1k1⟩) (by assumption) ?_
        case hy1k1 => (intro w hSw; (try dsimp only at hSw); go_simp; try with_reducible rfl)
        try simp only [Act.put, List.getElem_toArray, List.getElem_cons_succ, List.getElem_cons_zero, List.setIfInBounds_toArray, List.set_cons_zero, List.set_cons_succ]
        refine wpAnyH_take (i := 2) (v := ?v2k1) rfl (by kernel_rfl) (by kernel_rfl) (by kernel_rfl) (fun _ _ _ h => h) (Or.inl ⟨by rfl, ?hy2k1⟩) (by assumption) ?_
        case hy2k1 => (intro w hSw; (try dsimp only at hSw); go_simp; try with_reducible rfl)
        try simp only [Act.put, List.getElem_toArray, List.getElem_cons_succ, List.getElem_cons_zero, List.setIfInBounds_toArray, List.set_cons_zero, List.set_cons_succ]
        refine wpAnyH_take (i := 4) (v := ?v4k1) rfl (by kernel_rfl) (by kernel_rfl) (by kernel_rfl) (fun _ _ _ h => h) (Or.inl ⟨by rfl, ?hy4k1⟩) (by assumption) ?_
        case hy4k1 => (intro w hSw; (try dsimp only at hSw); go_simp; try with_reducible rfl)
        try simp only [Act.put, List.getElem_toArray, List.getElem_cons_succ, List.getElem_cons_zero, List.setIfInBounds_toArray, List.set_cons_zero, List.set_cons_succ]
        refine wpAnyH_take (i := 5) (v := ?v5k1) rfl (by kernel_rfl) (by kernel_rfl) (by kernel_rfl) (fun _ _ _ h => h) (Or.inl ⟨by rfl, ?hy5k1⟩) (by assumption) ?_
        case hy5k1 => (intro w hSw; (try dsimp only at hSw); go_simp; try with_reducible rfl)
        try simp only [Act.put, List.getElem_toArray, List.getElem_cons_succ, List.getElem_cons_zero, List.setIfInBounds_toArray, List.set_cons_zero, List.set_cons_succ]
        refine wpAnyH_ready (rs := [3]) (by kernel_rfl) (by simp) ?_
        refine AllReadyH.cons rfl (fun K hK => ?_) AllReadyH.nil
        go_simp
        (refine (is_r x w.heap.size _ _ (by rw [← HEX.out]; exact HKW.out.drew)).mono ?_; rintro e w' ⟨rfl, rfl⟩)
        go_wp2_with fail
        refine hK.out _ _ (by (try dsimp only); (first | exact HSS.out | exact ⟨hFF.cell_is 0 rfl, hFF.cell_is 1 rfl⟩)) (fun hHeld => ?_)
        clear hK K
        try simp only [Act.put, List.getElem_toArray, List.getElem_cons_succ, List.getElem_cons_zero, List.setIfInBounds_toArray, List.set_cons_zero, List.set_cons_succ]
        refine wpAnyH_ready (rs := [6]) (by kernel_rfl) (by simp) ?_
        refine AllReadyH.cons rfl (fun K hK => ?_) AllReadyH.nil
        go_simp
        (refine (wnumber_any g B (u64 x.r) 1 t v1 (l ++ keyPre x 1) _ (by omega) (u64_lt _) HCW.out.drew ht HOW.out HLE.out HSZ.out).mono ?_; rintro e w2 ⟨rfl, v2, hC2, hO2, hS2⟩; have hFF := hS2.blk HCW.out.drew HOW.out HFW.out.drew (Nat.ne_of_gt hltw) (by decide))
        go_wp2_with fail
        refine hK.out _ _ (by (try dsimp only); (first | exact HSS.out | exact ⟨hFF.cell_is 0 rfl, hFF.cell_is 1 rfl⟩)) (fun hHeld => ?_)
        clear hK K
        try simp only [Act.put, List.getElem_toArray, List.getElem_cons_succ, List.getElem_cons_zero, List.setIfInBounds_toArray, List.set_cons_zero, List.set_cons_succ]
        refine wpAnyH_done (by kernel_rfl) ?_ _
        try simp only [Act.put, List.getElem_toArray, List.getElem_cons_succ, List.getElem_cons_zero, List.setIfInBounds_toArray, List.set_cons_zero, List.set_cons_succ]
        go_wp2_with fail
        go_roundw
        case rel => exact ⟨2, v2, by omega, rfl, hC2, by rw [HPJ.out]; exact hO2, HS1.out.trans (hS2.first HBW.out), hS2.blk HCW.out.drew HOW.out HKW.out.drew (by omega) (by decide)⟩
        case measure => simp [intOf]
      · have hix := index_2
        have h1 : (#[.int .i64 2, .func (.func 157) #[] #[], .func (.func 158) #[] #[]] : Array Value).all (·.oneCell') = true := by kernel_rfl
        go_upto_region 4 with (refine wpList_store_row rfl 251 _ _ rfl wr.heap.size #[.int .i64 2, .func (.func 157) #[] #[], .func (.func 158) #[] #[]] rfl rfl 251 _ (heap_alloc_new wr _) info_field rfl h1 ?_; rw [World.setRow_alloc_new])
        have hltw := hC1.lt
        have HFW := Lib.hid (Blk.new wr 251 #[.int .i64 2, .func (.func 157) #[] #[], .func (.func 158) #[] #[]])
        have HCW := Lib.hid (hC1.alloc (.cells #[.int .i64 2, .func (.func 157) #[] #[], .func (.func 158) #[] #[]] 251))
        have HKW := Lib.hid (hK1.alloc (.cells #[.int .i64 2, .func (.func 157) #[] #[], .func (.func 158) #[] #[]] 251))
        have HOW := Lib.hid (ownsRow_out (F := fun _ => False) (outB ((Below.refl _ wr).alloc (Nat.le_refl _) (.cells #[.int .i64 2, .func (.func 157) #[] #[], .func (.func 158) #[] #[]] 251)).drew) hO1 (fun _ _ => id))
        have HBW := Lib.hid ((Below.refl _ wr).alloc (Nat.le_refl _) (.cells #[.int .i64 2, .func (.func 157) #[] #[], .func (.func 158) #[] #[]] 251)).drew
        have HSS := Lib.hid (And.intro (HFW.out.drew.cell_is 0 rfl) (HFW.out.drew.cell_is 1 rfl))
        have HLE := Lib.hid (show (l ++ keyPre x 2).length ≤ 100000 by simp [keyPre, leB_len]; omega)
        have HSZ := Lib.hid (show B ≤ (wr.alloc (.cells #[.int .i64 2, .func (.func 157) #[] #[], .func (.func 158) #[] #[]] 251)).drew.heap.size by have := hS1.out.size; have := HBW.out.size; omega)
        have HS1 := Lib.hid hS1
        have HPJ := Lib.hid (show l ++ keyPre x 3 = (l ++ keyPre x 2) ++ leB (u64 x.o) 2 by simp [keyPre])
        clear hC1 hO1 hS1 hK1 h1
        try simp only [Act.put, List.getElem_toArray, List.getElem_cons_succ, List.getElem_cons_zero, List.setIfInBounds_toArray, List.set_cons_zero, List.set_cons_succ]
        refine wp_region_held_drew (S := (fun w' => w'.cell? ⟨wr.heap.size, 0, none⟩ = some (.int .i64 2) ∧ w'.cell? ⟨wr.heap.size, 1, none⟩ = some (.func (.func 157) #[] #[]))) (by kernel_rfl) (by (try dsimp only); (first | exact HSS.out | exact ⟨hFF.cell_is 0 rfl, hFF.cell_is 1 rfl⟩)) (fun hHeld => ?_)
        refine wpAnyH_take (i := 0) (v := ?v0k2) rfl (by kernel_rfl) (by kernel_rfl) (by kernel_rfl) (fun _ _ _ h => h) (Or.inl ⟨by rfl, ?hy0k2⟩) (by assumption) ?_
        case hy0k2 => (intro w hSw; (try dsimp only at hSw); go_simp; try with_reducible rfl)
        try simp only [Act.put, List.getElem_toArray, List.getElem_cons_succ, List.getElem_cons_zero, List.setIfInBounds_toArray, List.set_cons_zero, List.set_cons_succ]
        refine wpAnyH_take (i := 1) (v := ?v1k2) rfl (by kernel_rfl) (by kernel_rfl) (by kernel_rfl) (fun _ _ _ h => h) (Or.inl ⟨by rfl, ?hy1k2⟩) (by assumption) ?_
        case hy1k2 => (intro w hSw; (try dsimp only at hSw); go_simp; try with_reducible rfl)
        try simp only [Act.put, List.getElem_toArray, List.getElem_cons_succ, List.getElem_cons_zero, List.setIfInBounds_toArray, List.set_cons_zero, List.set_cons_succ]
        refine wpAnyH_take (i := 2) (v := ?v2k2) rfl (by kernel_rfl) (by kernel_rfl) (by kernel_rfl) (fun _ _ _ h => h) (Or.inl ⟨by rfl, ?hy2k2⟩) (by assumption) ?_
        case hy2k2 => (intro w hSw; (try dsimp only at hSw); go_simp; try with_reducible rfl)
        try simp only [Act.put, List.getElem_toArray, List.getElem_cons_succ, List.getElem_cons_zero, List.setIfInBounds_toArray, List.set_cons_zero, List.set_cons_succ]
        refine wpAnyH_take (i := 4) (v := ?v4k2) rfl (by kernel_rfl) (by kernel_rfl) (by kernel_rfl) (fun _ _ _ h => h) (Or.inl ⟨by rfl, ?hy4k2⟩) (by assumption) ?_
        case hy4k2 => (intro w hSw; (try dsimp only at hSw); go_simp; try with_reducible rfl)
        try simp only [Act.put, List.getElem_toArray, List.getElem_cons_succ, List.getElem_cons_zero, List.setIfInBounds_toArray, List.set_cons_zero, List.set_cons_succ]
        refine wpAnyH_take (i := 5) (v := ?v5k2) rfl (by kernel_rfl) (by kernel_rfl) (by kernel_rfl) (fun _ _ _ h => h) (Or.inl ⟨by rfl, ?hy5k2⟩) (by assumption) ?_
        case hy5k2 => (intro w hSw; (try dsimp only at hSw); go_simp; try with_reducible rfl)
        try simp only [Act.put, List.getElem_toArray, List.getElem_cons_succ, List.getElem_cons_zero, List.setIfInBounds_toArray, List.set_cons_zero, List.set_cons_succ]
        refine wpAnyH_ready (rs := [3]) (by kernel_rfl) (by simp) ?_
        refine AllReadyH.cons rfl (fun K hK => ?_) AllReadyH.nil
        go_simp
        (refine (is_o x w.heap.size _ _ (by rw [← HEX.out]; exact HKW.out.drew)).mono ?_; rintro e w' ⟨rfl, rfl⟩)
        go_wp2_with fail
        refine hK.out _ _ (by (try dsimp only); (first | exact HSS.out | exact ⟨hFF.cell_is 0 rfl, hFF.cell_is 1 rfl⟩)) (fun hHeld => ?_)
        clear hK K
        try simp only [Act.put, List.getElem_toArray, List.getElem_cons_succ, List.getElem_cons_zero, List.setIfInBounds_toArray, List.set_cons_zero, List.set_cons_succ]
        refine wpAnyH_ready (rs := [6]) (by kernel_rfl) (by simp) ?_
        refine AllReadyH.cons rfl (fun K hK => ?_) AllReadyH.nil
        go_simp
        (refine (wnumber_any g B (u64 x.o) 2 t v1 (l ++ keyPre x 2) _ (by omega) (u64_lt _) HCW.out.drew ht HOW.out HLE.out HSZ.out).mono ?_; rintro e w2 ⟨rfl, v2, hC2, hO2, hS2⟩; have hFF := hS2.blk HCW.out.drew HOW.out HFW.out.drew (Nat.ne_of_gt hltw) (by decide))
        go_wp2_with fail
        refine hK.out _ _ (by (try dsimp only); (first | exact HSS.out | exact ⟨hFF.cell_is 0 rfl, hFF.cell_is 1 rfl⟩)) (fun hHeld => ?_)
        clear hK K
        try simp only [Act.put, List.getElem_toArray, List.getElem_cons_succ, List.getElem_cons_zero, List.setIfInBounds_toArray, List.set_cons_zero, List.set_cons_succ]
        refine wpAnyH_done (by kernel_rfl) ?_ _
        try simp only [Act.put, List.getElem_toArray, List.getElem_cons_succ, List.getElem_cons_zero, List.setIfInBounds_toArray, List.set_cons_zero, List.set_cons_succ]
        go_wp2_with fail
        go_roundw
        case rel => exact ⟨3, v2, by omega, rfl, hC2, by rw [HPJ.out]; exact hO2, HS1.out.trans (hS2.first HBW.out), hS2.blk HCW.out.drew HOW.out HKW.out.drew (by omega) (by decide)⟩
        case measure => simp [intOf]
      · have hix := index_3
        have h1 : (#[.int .i64 4, .func (.func 159) #[] #[], .func (.func 160) #[] #[]] : Array Value).all (·.oneCell') = true := by kernel_rfl
        go_upto_region 4 with (refine wpList_store_row rfl 251 _ _ rfl wr.heap.size #[.int .i64 4, .func (.func 159) #[] #[], .func (.func 160) #[] #[]] rfl rfl 251 _ (heap_alloc_new wr _) info_field rfl h1 ?_; rw [World.setRow_alloc_new])
        have hltw := hC1.lt
        have HFW := Lib.hid (Blk.new wr 251 #[.int .i64 4, .func (.func 159) #[] #[], .func (.func 160) #[] #[]])
        have HCW := Lib.hid (hC1.alloc (.cells #[.int .i64 4, .func (.func 159) #[] #[], .func (.func 160) #[] #[]] 251))
        have HKW := Lib.hid (hK1.alloc (.cells #[.int .i64 4, .func (.func 159) #[] #[], .func (.func 160) #[] #[]] 251))
        have HOW := Lib.hid (ownsRow_out (F := fun _ => False) (outB ((Below.refl _ wr).alloc (Nat.le_refl _) (.cells #[.int .i64 4, .func (.func 159) #[] #[], .func (.func 160) #[] #[]] 251)).drew) hO1 (fun _ _ => id))
        have HBW := Lib.hid ((Below.refl _ wr).alloc (Nat.le_refl _) (.cells #[.int .i64 4, .func (.func 159) #[] #[], .func (.func 160) #[] #[]] 251)).drew
        have HSS := Lib.hid (And.intro (HFW.out.drew.cell_is 0 rfl) (HFW.out.drew.cell_is 1 rfl))
        have HLE := Lib.hid (show (l ++ keyPre x 3).length ≤ 100000 by simp [keyPre, leB_len]; omega)
        have HSZ := Lib.hid (show B ≤ (wr.alloc (.cells #[.int .i64 4, .func (.func 159) #[] #[], .func (.func 160) #[] #[]] 251)).drew.heap.size by have := hS1.out.size; have := HBW.out.size; omega)
        have HS1 := Lib.hid hS1
        have HPJ := Lib.hid (show l ++ keyPre x 4 = (l ++ keyPre x 3) ++ leB (u64 x.c) 4 by simp [keyPre])
        clear hC1 hO1 hS1 hK1 h1
        try simp only [Act.put, List.getElem_toArray, List.getElem_cons_succ, List.getElem_cons_zero, List.setIfInBounds_toArray, List.set_cons_zero, List.set_cons_succ]
        refine wp_region_held_drew (S := (fun w' => w'.cell? ⟨wr.heap.size, 0, none⟩ = some (.int .i64 4) ∧ w'.cell? ⟨wr.heap.size, 1, none⟩ = some (.func (.func 159) #[] #[]))) (by kernel_rfl) (by (try dsimp only); (first | exact HSS.out | exact ⟨hFF.cell_is 0 rfl, hFF.cell_is 1 rfl⟩)) (fun hHeld => ?_)
        refine wpAnyH_take (i := 0) (v := ?v0k3) rfl (by kernel_rfl) (by kernel_rfl) (by kernel_rfl) (fun _ _ _ h => h) (Or.inl ⟨by rfl, ?hy0k3⟩) (by assumption) ?_
        case hy0k3 => (intro w hSw; (try dsimp only at hSw); go_simp; try with_reducible rfl)
        try simp only [Act.put, List.getElem_toArray, List.getElem_cons_succ, List.getElem_cons_zero, List.setIfInBounds_toArray, List.set_cons_zero, List.set_cons_succ]
        refine wpAnyH_take (i := 1) (v := ?v1k3) rfl (by kernel_rfl) (by kernel_rfl) (by kernel_rfl) (fun _ _ _ h => h) (Or.inl ⟨by rfl, ?hy1k3⟩) (by assumption) ?_
        case hy1k3 => (intro w hSw; (try dsimp only at hSw); go_simp; try with_reducible rfl)
        try simp only [Act.put, List.getElem_toArray, List.getElem_cons_succ, List.getElem_cons_zero, List.setIfInBounds_toArray, List.set_cons_zero, List.set_cons_succ]
        refine wpAnyH_take (i := 2) (v := ?v2k3) rfl (by kernel_rfl) (by kernel_rfl) (by kernel_rfl) (fun _ _ _ h => h) (Or.inl ⟨by rfl, ?hy2k3⟩) (by assumption) ?_
        case hy2k3 => (intro w hSw; (try dsimp only at hSw); go_simp; try with_reducible rfl)
        try simp only [Act.put, List.getElem_toArray, List.getElem_cons_succ, List.getElem_cons_zero, List.setIfInBounds_toArray, List.set_cons_zero, List.set_cons_succ]
        refine wpAnyH_take (i := 4) (v := ?v4k3) rfl (by kernel_rfl) (by kernel_rfl) (by kernel_rfl) (fun _ _ _ h => h) (Or.inl ⟨by rfl, ?hy4k3⟩) (by assumption) ?_
        case hy4k3 => (intro w hSw; (try dsimp only at hSw); go_simp; try with_reducible rfl)
        try simp only [Act.put, List.getElem_toArray, List.getElem_cons_succ, List.getElem_cons_zero, List.setIfInBounds_toArray, List.set_cons_zero, List.set_cons_succ]
        refine wpAnyH_take (i := 5) (v := ?v5k3) rfl (by kernel_rfl) (by kernel_rfl) (by kernel_rfl) (fun _ _ _ h => h) (Or.inl ⟨by rfl, ?hy5k3⟩) (by assumption) ?_
        case hy5k3 => (intro w hSw; (try dsimp only at hSw); go_simp; try with_reducible rfl)
        try simp only [Act.put, List.getElem_toArray, List.getElem_cons_succ, List.getElem_cons_zero, List.setIfInBounds_toArray, List.set_cons_zero, List.set_cons_succ]
        refine wpAnyH_ready (rs := [3]) (by kernel_rfl) (by simp) ?_
        refine AllReadyH.cons rfl (fun K hK => ?_) AllReadyH.nil
        go_simp
        (refine (is_c x w.heap.size _ _ (by rw [← HEX.out]; exact HKW.out.drew)).mono ?_; rintro e w' ⟨rfl, rfl⟩)
        go_wp2_with fail
        refine hK.out _ _ (by (try dsimp only); (first | exact HSS.out | exact ⟨hFF.cell_is 0 rfl, hFF.cell_is 1 rfl⟩)) (fun hHeld => ?_)
        clear hK K
        try simp only [Act.put, List.getElem_toArray, List.getElem_cons_succ, List.getElem_cons_zero, List.setIfInBounds_toArray, List.set_cons_zero, List.set_cons_succ]
        refine wpAnyH_ready (rs := [6]) (by kernel_rfl) (by simp) ?_
        refine AllReadyH.cons rfl (fun K hK => ?_) AllReadyH.nil
        go_simp
        (refine (wnumber_any g B (u64 x.c) 4 t v1 (l ++ keyPre x 3) _ (by omega) (u64_lt _) HCW.out.drew ht HOW.out HLE.out HSZ.out).mono ?_; rintro e w2 ⟨rfl, v2, hC2, hO2, hS2⟩; have hFF := hS2.blk HCW.out.drew HOW.out HFW.out.drew (Nat.ne_of_gt hltw) (by decide))
        go_wp2_with fail
        refine hK.out _ _ (by (try dsimp only); (first | exact HSS.out | exact ⟨hFF.cell_is 0 rfl, hFF.cell_is 1 rfl⟩)) (fun hHeld => ?_)
        clear hK K
        try simp only [Act.put, List.getElem_toArray, List.getElem_cons_succ, List.getElem_cons_zero, List.setIfInBounds_toArray, List.set_cons_zero, List.set_cons_succ]
        refine wpAnyH_done (by kernel_rfl) ?_ _
        try simp only [Act.put, List.getElem_toArray, List.getElem_cons_succ, List.getElem_cons_zero, List.setIfInBounds_toArray, List.set_cons_zero, List.set_cons_succ]
        go_wp2_with fail
        go_roundw
        case rel => exact ⟨4, v2, by omega, rfl, hC2, by rw [HPJ.out]; exact hO2, HS1.out.trans (hS2.first HBW.out), hS2.blk HCW.out.drew HOW.out HKW.out.drew (by omega) (by decide)⟩
        case measure => simp [intOf]
      · have hix := index_4
        have h1 : (#[.int .i64 4, .func (.func 161) #[] #[], .func (.func 162) #[] #[]] : Array Value).all (·.oneCell') = true := by kernel_rfl
        go_upto_region 4 with (refine wpList_store_row rfl 251 _ _ rfl wr.heap.size #[.int .i64 4, .func (.func 161) #[] #[], .func (.func 162) #[] #[]] rfl rfl 251 _ (heap_alloc_new wr _) info_field rfl h1 ?_; rw [World.setRow_alloc_new])
        have hltw := hC1.lt
        have HFW := Lib.hid (Blk.new wr 251 #[.int .i64 4, .func (.func 161) #[] #[], .func (.func 162) #[] #[]])
        have HCW := Lib.hid (hC1.alloc (.cells #[.int .i64 4, .func (.func 161) #[] #[], .func (.func 162) #[] #[]] 251))
        have HKW := Lib.hid (hK1.alloc (.cells #[.int .i64 4, .func (.func 161) #[] #[], .func (.func 162) #[] #[]] 251))
        have HOW := Lib.hid (ownsRow_out (F := fun _ => False) (outB ((Below.refl _ wr).alloc (Nat.le_refl _) (.cells #[.int .i64 4, .func (.func 161) #[] #[], .func (.func 162) #[] #[]] 251)).drew) hO1 (fun _ _ => id))
        have HBW := Lib.hid ((Below.refl _ wr).alloc (Nat.le_refl _) (.cells #[.int .i64 4, .func (.func 161) #[] #[], .func (.func 162) #[] #[]] 251)).drew
        have HSS := Lib.hid (And.intro (HFW.out.drew.cell_is 0 rfl) (HFW.out.drew.cell_is 1 rfl))
        have HLE := Lib.hid (show (l ++ keyPre x 4).length ≤ 100000 by simp [keyPre, leB_len]; omega)
        have HSZ := Lib.hid (show B ≤ (wr.alloc (.cells #[.int .i64 4, .func (.func 161) #[] #[], .func (.func 162) #[] #[]] 251)).drew.heap.size by have := hS1.out.size; have := HBW.out.size; omega)
        have HS1 := Lib.hid hS1
        have HPJ := Lib.hid (show l ++ keyPre x 5 = (l ++ keyPre x 4) ++ leB (u64 x.a) 4 by simp [keyPre])
        clear hC1 hO1 hS1 hK1 h1
        try simp only [Act.put, List.getElem_toArray, List.getElem_cons_succ, List.getElem_cons_zero, List.setIfInBounds_toArray, List.set_cons_zero, List.set_cons_succ]
        refine wp_region_held_drew (S := (fun w' => w'.cell? ⟨wr.heap.size, 0, none⟩ = some (.int .i64 4) ∧ w'.cell? ⟨wr.heap.size, 1, none⟩ = some (.func (.func 161) #[] #[]))) (by kernel_rfl) (by (try dsimp only); (first | exact HSS.out | exact ⟨hFF.cell_is 0 rfl, hFF.cell_is 1 rfl⟩)) (fun hHeld => ?_)
        refine wpAnyH_take (i := 0) (v := ?v0k4) rfl (by kernel_rfl) (by kernel_rfl) (by kernel_rfl) (fun _ _ _ h => h) (Or.inl ⟨by rfl, ?hy0k4⟩) (by assumption) ?_
        case hy0k4 => (intro w hSw; (try dsimp only at hSw); go_simp; try with_reducible rfl)
        try simp only [Act.put, List.getElem_toArray, List.getElem_cons_succ, List.getElem_cons_zero, List.setIfInBounds_toArray, List.set_cons_zero, List.set_cons_succ]
        refine wpAnyH_take (i := 1) (v := ?v1k4) rfl (by kernel_rfl) (by kernel_rfl) (by kernel_rfl) (fun _ _ _ h => h) (Or.inl ⟨by rfl, ?hy1k4⟩) (by assumption) ?_
        case hy1k4 => (intro w hSw; (try dsimp only at hSw); go_simp; try with_reducible rfl)
        try simp only [Act.put, List.getElem_toArray, List.getElem_cons_succ, List.getElem_cons_zero, List.setIfInBounds_toArray, List.set_cons_zero, List.set_cons_succ]
        refine wpAnyH_take (i := 2) (v := ?v2k4) rfl (by kernel_rfl) (by kernel_rfl) (by kernel_rfl) (fun _ _ _ h => h) (Or.inl ⟨by rfl, ?hy2k4⟩) (by assumption) ?_
        case hy2k4 => (intro w hSw; (try dsimp only at hSw); go_simp; try with_reducible rfl)
        try simp only [Act.put, List.getElem_toArray, List.getElem_cons_succ, List.getElem_cons_zero, List.setIfInBounds_toArray, List.set_cons_zero, List.set_cons_succ]
        refine wpAnyH_take (i := 4) (v := ?v4k4) rfl (by kernel_rfl) (by kernel_rfl) (by kernel_rfl) (fun _ _ _ h => h) (Or.inl ⟨by rfl, ?hy4k4⟩) (by assumption) ?_
        case hy4k4 => (intro w hSw; (try dsimp only at hSw); go_simp; try with_reducible rfl)
        try simp only [Act.put, List.getElem_toArray, List.getElem_cons_succ, List.getElem_cons_zero, List.setIfInBounds_toArray, List.set_cons_zero, List.set_cons_succ]
        refine wpAnyH_take (i := 5) (v := ?v5k4) rfl (by kernel_rfl) (by kernel_rfl) (by kernel_rfl) (fun _ _ _ h => h) (Or.inl ⟨by rfl, ?hy5k4⟩) (by assumption) ?_
        case hy5k4 => (intro w hSw; (try dsimp only at hSw); go_simp; try with_reducible rfl)
        try simp only [Act.put, List.getElem_toArray, List.getElem_cons_succ, List.getElem_cons_zero, List.setIfInBounds_toArray, List.set_cons_zero, List.set_cons_succ]
        refine wpAnyH_ready (rs := [3]) (by kernel_rfl) (by simp) ?_
        refine AllReadyH.cons rfl (fun K hK => ?_) AllReadyH.nil
        go_simp
        (refine (is_a x w.heap.size _ _ (by rw [← HEX.out]; exact HKW.out.drew)).mono ?_; rintro e w' ⟨rfl, rfl⟩)
        go_wp2_with fail
        refine hK.out _ _ (by (try dsimp only); (first | exact HSS.out | exact ⟨hFF.cell_is 0 rfl, hFF.cell_is 1 rfl⟩)) (fun hHeld => ?_)
        clear hK K
        try simp only [Act.put, List.getElem_toArray, List.getElem_cons_succ, List.getElem_cons_zero, List.setIfInBounds_toArray, List.set_cons_zero, List.set_cons_succ]
        refine wpAnyH_ready (rs := [6]) (by kernel_rfl) (by simp) ?_
        refine AllReadyH.cons rfl (fun K hK => ?_) AllReadyH.nil
        go_simp
        (refine (wnumber_any g B (u64 x.a) 4 t v1 (l ++ keyPre x 4) _ (by omega) (u64_lt _) HCW.out.drew ht HOW.out HLE.out HSZ.out).mono ?_; rintro e w2 ⟨rfl, v2, hC2, hO2, hS2⟩; have hFF := hS2.blk HCW.out.drew HOW.out HFW.out.drew (Nat.ne_of_gt hltw) (by decide))
        go_wp2_with fail
        refine hK.out _ _ (by (try dsimp only); (first | exact HSS.out | exact ⟨hFF.cell_is 0 rfl, hFF.cell_is 1 rfl⟩)) (fun hHeld => ?_)
        clear hK K
        try simp only [Act.put, List.getElem_toArray, List.getElem_cons_succ, List.getElem_cons_zero, List.setIfInBounds_toArray, List.set_cons_zero, List.set_cons_succ]
        refine wpAnyH_done (by kernel_rfl) ?_ _
        try simp only [Act.put, List.getElem_toArray, List.getElem_cons_succ, List.getElem_cons_zero, List.setIfInBounds_toArray, List.set_cons_zero, List.set_cons_succ]
        go_wp2_with fail
        go_roundw
        case rel => exact ⟨5, v2, by omega, rfl, hC2, by rw [HPJ.out]; exact hO2, HS1.out.trans (hS2.first HBW.out), hS2.blk HCW.out.drew HOW.out HKW.out.drew (by omega) (by decide)⟩
        case measure => simp [intOf]
      · have hix := index_5
        have h1 : (#[.int .i64 8, .func (.func 163) #[] #[], .func (.func 164) #[] #[]] : Array Value).all (·.oneCell') = true := by kernel_rfl
        go_upto_region 4 with (refine wpList_store_row rfl 251 _ _ rfl wr.heap.size #[.int .i64 8, .func (.func 163) #[] #[], .func (.func 164) #[] #[]] rfl rfl 251 _ (heap_alloc_new wr _) info_field rfl h1 ?_; rw [World.setRow_alloc_new])
        have hltw := hC1.lt
        have HFW := Lib.hid (Blk.new wr 251 #[.int .i64 8, .func (.func 163) #[] #[], .func (.func 164) #[] #[]])
        have HCW := Lib.hid (hC1.alloc (.cells #[.int .i64 8, .func (.func 163) #[] #[], .func (.func 164) #[] #[]] 251))
        have HKW := Lib.hid (hK1.alloc (.cells #[.int .i64 8, .func (.func 163) #[] #[], .func (.func 164) #[] #[]] 251))
        have HOW := Lib.hid (ownsRow_out (F := fun _ => False) (outB ((Below.refl _ wr).alloc (Nat.le_refl _) (.cells #[.int .i64 8, .func (.func 163) #[] #[], .func (.func 164) #[] #[]] 251)).drew) hO1 (fun _ _ => id))
        have HBW := Lib.hid ((Below.refl _ wr).alloc (Nat.le_refl _) (.cells #[.int .i64 8, .func (.func 163) #[] #[], .func (.func 164) #[] #[]] 251)).drew
        have HSS := Lib.hid (And.intro (HFW.out.drew.cell_is 0 rfl) (HFW.out.drew.cell_is 1 rfl))
        have HLE := Lib.hid (show (l ++ keyPre x 5).length ≤ 100000 by simp [keyPre, leB_len]; omega)
        have HSZ := Lib.hid (show B ≤ (wr.alloc (.cells #[.int .i64 8, .func (.func 163) #[] #[], .func (.func 164) #[] #[]] 251)).drew.heap.size by have := hS1.out.size; have := HBW.out.size; omega)
        have HS1 := Lib.hid hS1
        have HPJ := Lib.hid (show l ++ keyPre x 6 = (l ++ keyPre x 5) ++ leB (u64 x.v) 8 by simp [keyPre])
        clear hC1 hO1 hS1 hK1 h1
        try simp only [Act.put, List.getElem_toArray, List.getElem_cons_succ, List.getElem_cons_zero, List.setIfInBounds_toArray, List.set_cons_zero, List.set_cons_succ]
        refine wp_region_held_drew (S := (fun w' => w'.cell? ⟨wr.heap.size, 0, none⟩ = some (.int .i64 8) ∧ w'.cell? ⟨wr.heap.size, 1, none⟩ = some (.func (.func 163) #[] #[]))) (by kernel_rfl) (by (try dsimp only); (first | exact HSS.out | exact ⟨hFF.cell_is 0 rfl, hFF.cell_is 1 rfl⟩)) (fun hHeld => ?_)
        refine wpAnyH_take (i := 0) (v := ?v0k5) rfl (by kernel_rfl) (by kernel_rfl) (by kernel_rfl) (fun _ _ _ h => h) (Or.inl ⟨by rfl, ?hy0k5⟩) (by assumption) ?_
        case hy0k5 => (intro w hSw; (try dsimp only at hSw); go_simp; try with_reducible rfl)
        try simp only [Act.put, List.getElem_toArray, List.getElem_cons_succ, List.getElem_cons_zero, List.setIfInBounds_toArray, List.set_cons_zero, List.set_cons_succ]
        refine wpAnyH_take (i := 1) (v := ?v1k5) rfl (by kernel_rfl) (by kernel_rfl) (by kernel_rfl) (fun _ _ _ h => h) (Or.inl ⟨by rfl, ?hy1k5⟩) (by assumption) ?_
        case hy1k5 => (intro w hSw; (try dsimp only at hSw); go_simp; try with_reducible rfl)
        try simp only [Act.put, List.getElem_toArray, List.getElem_cons_succ, List.getElem_cons_zero, List.setIfInBounds_toArray, List.set_cons_zero, List.set_cons_succ]
        refine wpAnyH_take (i := 2) (v := ?v2k5) rfl (by kernel_rfl) (by kernel_rfl) (by kernel_rfl) (fun _ _ _ h => h) (Or.inl ⟨by rfl, ?hy2k5⟩) (by assumption) ?_
        case hy2k5 => (intro w hSw; (try dsimp only at hSw); go_simp; try with_reducible rfl)
        try simp only [Act.put, List.getElem_toArray, List.getElem_cons_succ, List.getElem_cons_zero, List.setIfInBounds_toArray, List.set_cons_zero, List.set_cons_succ]
        refine wpAnyH_take (i := 4) (v := ?v4k5) rfl (by kernel_rfl) (by kernel_rfl) (by kernel_rfl) (fun _ _ _ h => h) (Or.inl ⟨by rfl, ?hy4k5⟩) (by assumption) ?_
        case hy4k5 => (intro w hSw; (try dsimp only at hSw); go_simp; try with_reducible rfl)
        try simp only [Act.put, List.getElem_toArray, List.getElem_cons_succ, List.getElem_cons_zero, List.setIfInBounds_toArray, List.set_cons_zero, List.set_cons_succ]
        refine wpAnyH_take (i := 5) (v := ?v5k5) rfl (by kernel_rfl) (by kernel_rfl) (by kernel_rfl) (fun _ _ _ h => h) (Or.inl ⟨by rfl, ?hy5k5⟩) (by assumption) ?_
        case hy5k5 => (intro w hSw; (try dsimp only at hSw); go_simp; try with_reducible rfl)
        try simp only [Act.put, List.getElem_toArray, List.getElem_cons_succ, List.getElem_cons_zero, List.setIfInBounds_toArray, List.set_cons_zero, List.set_cons_succ]
        refine wpAnyH_ready (rs := [3]) (by kernel_rfl) (by simp) ?_
        refine AllReadyH.cons rfl (fun K hK => ?_) AllReadyH.nil
        go_simp
        (refine (is_v x w.heap.size _ _ (by rw [← HEX.out]; exact HKW.out.drew)).mono ?_; rintro e w' ⟨rfl, rfl⟩)
        go_wp2_with fail
        refine hK.out _ _ (by (try dsimp only); (first | exact HSS.out | exact ⟨hFF.cell_is 0 rfl, hFF.cell_is 1 rfl⟩)) (fun hHeld => ?_)
        clear hK K
        try simp only [Act.put, List.getElem_toArray, List.getElem_cons_succ, List.getElem_cons_zero, List.setIfInBounds_toArray, List.set_cons_zero, List.set_cons_succ]
        refine wpAnyH_ready (rs := [6]) (by kernel_rfl) (by simp) ?_
        refine AllReadyH.cons rfl (fun K hK => ?_) AllReadyH.nil
        go_simp
        (refine (wnumber_any g B (u64 x.v) 8 t v1 (l ++ keyPre x 5) _ (by omega) (u64_lt _) HCW.out.drew ht HOW.out HLE.out HSZ.out).mono ?_; rintro e w2 ⟨rfl, v2, hC2, hO2, hS2⟩; have hFF := hS2.blk HCW.out.drew HOW.out HFW.out.drew (Nat.ne_of_gt hltw) (by decide))
        go_wp2_with fail
        refine hK.out _ _ (by (try dsimp only); (first | exact HSS.out | exact ⟨hFF.cell_is 0 rfl, hFF.cell_is 1 rfl⟩)) (fun hHeld => ?_)
        clear hK K
        try simp only [Act.put, List.getElem_toArray, List.getElem_cons_succ, List.getElem_cons_zero, List.setIfInBounds_toArray, List.set_cons_zero, List.set_cons_succ]
        refine wpAnyH_done (by kernel_rfl) ?_ _
        try simp only [Act.put, List.getElem_toArray, List.getElem_cons_succ, List.getElem_cons_zero, List.setIfInBounds_toArray, List.set_cons_zero, List.set_cons_succ]
        go_wp2_with fail
        go_roundw
        case rel => exact ⟨6, v2, by omega, rfl, hC2, by rw [HPJ.out]; exact hO2, HS1.out.trans (hS2.first HBW.out), hS2.blk HCW.out.drew HOW.out HKW.out.drew (by omega) (by decide)⟩
        case measure => simp [intOf]
    · obtain rfl : j = 6 := by omega
      go_wp2_with fail
      exact bodyPost_end (v := .tuple #[]) (by simp [results, Tryz.results104, go_sem]) rfl ⟨rfl, v1, hC1, hO1, hS1⟩
end Go.Proofs.YtdpniceapmikpaaGreat
