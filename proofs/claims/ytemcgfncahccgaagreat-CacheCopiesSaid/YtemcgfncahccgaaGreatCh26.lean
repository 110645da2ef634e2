/-
  An object that its bytes bring back: plain laws.
  The reference's codec: low.
  The reference codec's PutKey, of a key that may be. (Written by gen_lr5b.py.)
  Small functions of the reference's logs: fits, at, low, number, parts, part.
  The reference's part and Sealed.
  Rows of writes: append, in a slice of the call's own.
  The reference's disk: Write. (Written by gen_lrd5.py.)
  disk.Of: a disk of bytes. (Written by gen_lof.py.)
  The frame of works(), and the disk that it is laid on: plain facts.
  The contracts of some and num of the statements' package.
  The law's Disk.made: a disk and the reference's, of some bytes again and again. (Written by gen_lmade.py.)
-/
import Derived.Deep.RegionHeld3
import Derived.Test.YtemcgfncahccgaaGreatCh1
import Derived.Test.YtemcgfncahccgaaGreatCh5
import Derived.Test.YtemcgfncahccgaaGreatCh6
import Derived.Test.YtemcgfncahccgaaGreatCh9
import Derived.Test.YtemcgfncahccgaaGreatCh10
import Derived.Test.YtemcgfncahccgaaGreatCh11
import Derived.Test.YtemcgfncahccgaaGreatCh24
import Derived.Test.YtemcgfncahccgaaGreatCh25
set_option linter.unusedVariables false
set_option linter.unusedSimpArgs false
namespace Go.Proofs.YtemcgfncahccgaaGreat
open Go.RowKit

/-- a key whose numbers fit their bytes -/
structure KeyFits (x : KeyD) : Prop where
 k : 0 ≤ x.k ∧ x.k < 256
 r : 0 ≤ x.r ∧ x.r < 256
 o : 0 ≤ x.o ∧ x.o < 65536
 c : 0 ≤ x.c ∧ x.c < 4294967296
 a : 0 ≤ x.a ∧ x.a < 4294967296
 v : I64 x.v
theorem u64_small {n : Int} (h0 : 0 ≤ n) (h1 : n < 18446744073709551616) : (u64 n : Int) = n := by unfold u64; omega
theorem keyB_eq (x : KeyD) : keyB x = leB (u64 x.k) 1 ++ (leB (u64 x.r) 1 ++ (leB (u64 x.o) 2 ++ (leB (u64 x.c) 4 ++ (leB (u64 x.a) 4 ++ leB (u64 x.v) 8)))) := rfl
theorem wrap_u64 {v : Int} (h : I64 v) : IntKind.i64.wrap ((u64 v : Nat) : Int) = v := by
 rw [IntKind.wrap_i64]
 unfold I64 at h
 unfold u64
 omega
theorem within_le {has : Bool} {n m : Int} (h : withinB has n m = true) (hm : 0 ≤ m) : 0 ≤ n ∧ n ≤ m := by
 unfold withinB at h
 cases has
 ·simp at h; omega
 ·simp at h; omega
theorem fits_of {x : KeyD} (h : ofB x.k x.o x.c x.a x.r x.v = true) (hr : x.r < 9223372036854775808) (hv : I64 x.v) : KeyFits x := by
 unfold ofB at h
 simp only [Bool.and_eq_true, decide_eq_true_eq, beq_iff_eq] at h
 obtain ⟨⟨⟨⟨⟨⟨⟨h1, h2⟩, h3⟩, h4⟩, h5⟩, h6⟩, h7⟩, h8⟩ := h
 have b1 := within_le h3 (by omega)
 have b2 := within_le h4 (by omega)
 have b3 := within_le h5 (by omega)
 have b4 := (andNot_most x.k x.r h6 hr).1 h7
 have b5 : mostOf x.k ≤ 7 := by unfold mostOf; split <;> (try split) <;> omega
 exact ⟨by omega, by omega, by omega, by omega, by omega, hv⟩
theorem objB_facts {o : ObjD} {N : Int} (h : objB o N = true) : (0 ≤ o.kd ∧ o.kd ≤ 3) ∧ (0 ≤ o.ct ∧ o.ct ≤ 4294967295) ∧ (0 ≤ o.cl ∧ o.cl ≤ 4294967295) ∧ 1 ≤ N ∧ N ≤ 64 ∧ ∀ x ∈ o.slots, ofB x.k x.o x.c x.a x.r x.v = true := by
 unfold objB preB at h
 simp only [Bool.and_eq_true, decide_eq_true_eq] at h
 obtain ⟨⟨⟨⟨⟨⟨n1, n2⟩, c1⟩, c2⟩, l1⟩, l2⟩, h⟩ := h
 have hz : slots0 o = true → ∀ x ∈ o.slots, ofB x.k x.o x.c x.a x.r x.v = true := by
  intro hs x hx
  unfold slots0 at hs
  rw [(keysEq_iff _ _).1 hs] at hx
  have : x = keyZ := by unfold slotsZ at hx; exact (List.mem_replicate.1 hx).2
  subst this
  show ofB 0 0 0 0 0 0 = true
  decide +kernel
 refine ⟨?_, ⟨c1, c2⟩, ⟨l1, l2⟩, n1, n2, ?_⟩
 ·by_cases k0 : o.kd = 0
  ·omega
  ·rw [if_neg k0] at h
   by_cases k3 : o.kd = 3
   ·omega
   ·rw [if_neg k3] at h
    by_cases k2 : o.kd = 2
    ·omega
    ·rw [if_neg k2] at h
     by_cases k1 : o.kd = 1
     ·omega
     ·rw [if_neg k1] at h; cases h
 ·by_cases k0 : o.kd = 0
  ·rw [if_pos k0] at h
   unfold bareB at h
   simp only [Bool.and_eq_true] at h
   exact hz h.1
  ·rw [if_neg k0] at h
   by_cases k3 : o.kd = 3
   ·rw [if_pos k3] at h
    unfold bareB at h
    simp only [Bool.and_eq_true] at h
    exact hz h.1
   ·rw [if_neg k3] at h
    by_cases k2 : o.kd = 2
    ·rw [if_pos k2] at h
     unfold bareB at h
     simp only [Bool.and_eq_true] at h
     exact hz h.1
    ·rw [if_neg k2] at h
     by_cases k1 : o.kd = 1
     ·rw [if_pos k1] at h
      intro x hx
      have := List.all_eq_true.1 h x hx
      unfold slotB at this
      simp only [Bool.and_eq_true] at this
      exact this.1
     ·rw [if_neg k1] at h; cases h
end Go.Proofs.YtemcgfncahccgaaGreat
namespace Go.Proofs.YtemcgfncahccgaaGreat
open Go.RowKit

set_option maxRecDepth 100000 in
set_option maxHeartbeats 1000000 in
theorem rlow5_any (n k : Nat) (w : World) (hk8 : k ≤ 8) (hn : n < 18446744073709551616) : Calls Tryz.prog 66 #[.int .u64 n, .int .i64 k] w fun e w' =>
  ∃ v, e = .returned v ∧ w'.ownsRow w.heap.size 5 1 v k ((leB n k).map vu8) ∧ Below w.heap.size w w' := by
 obtain ⟨i0, hi0, hz0, hz1, hz2⟩ := info_parts info_u8
 have HI := Lib.hid (And.intro hi0 (And.intro hz0 (And.intro hz1 hz2)))
 clear hi0 hz0 hz1 hz2
 go_enter Tryz.func66, Tryz.ntmps66
 go_wp2_with fail
 go_loopw [0, 5, 6] (fun m o i wr => ∃ j : Nat, j ≤ k ∧ i = .int .i64 j ∧ m = .int .u64 ((n / 256 ^ j : Nat) : Int) ∧ wr.ownsRow w.heap.size 5 1 o j ((leB n j).map vu8) ∧ Below w.heap.size w wr) (fun _ _ i _ => k - (intOf i).toNat)
 case atStart => exact ⟨0, by omega, rfl, by simp, World.ownsRow_nil _ _ _ _, Below.refl _ _⟩
 case round =>
  obtain ⟨j, hj, rfl, rfl, hO, hB⟩ := hrel
  by_cases hlt : j < k
  ·have hb8 := byteAt_int n j
   have hdl : n / 256 ^ j ≤ n := Nat.div_le_self _ _
   have hdq : n / 256 ^ (j + 1) = n / 256 ^ j / 256 := by rw [Nat.pow_succ, ← Nat.div_div_eq_div_mul]
   have hls := Lib.hid (leB_succ n j)
   generalize n / 256 ^ j = q at *
   have hdq2 := Lib.hid hdq
   have hb82 := Lib.hid hb8
   clear hdq hb8
   have HO := Lib.hid hO
   clear hO
   have hsz := hB.size
   have hbyte : ((q : Int) % 256) = ((byteAt n j).toNat : Int) := hb82.out.symm
   go_wp2_with (at_builtin; refine wpList_append_lies _ rfl _ _ _ rfl w.heap.size 5 i0 _ 1 1 Tryz.underlying29 HI.out.1 HI.out.2.1 HI.out.2.2.1 HI.out.2.2.2 rfl (by omega) _ j _ rfl (HO.out.alloc _) ⟨wr.heap.size, 0, none⟩ 1 1 [vu8 (byteAt n j)] rfl rfl (World.news_of_block (cs := #[vu8 (byteAt n j)]) (t := 5) (fr := (0, 0)) (heap_alloc_new wr _)) (by simp [Value.oneCell']) (by omega) (by unfold maxLen; omega) (by omega) (by simp; omega) (wr.heap.size + 1) (by simp) ?_; intro g cap w3 hO3 hg3 hat3 hlt3)
   refine ⟨⟨j + 1, by omega, by go_num, ?_, ?_, ?_⟩, by simp [intOf]; omega⟩
   ·rw [hdq2.out]; congr 1
   ·rw [hls.out]; simpa using hO3
   ·exact (hB.alloc hsz _).grown hg3 (by simp; omega) (fun r hr => (HO.out.lt r hr).1)
  ·obtain rfl : j = k := by omega
   go_wp2_with fail
   go_ret
   exact ⟨_, rfl, hO, hB⟩
theorem runsigned_any (v : Int) (hv : I64 v) (w : World) : Calls Tryz.prog 90 #[.int .i64 v] w fun e w' => e = .returned (.int .u64 ((u64 v : Nat) : Int)) ∧ w = w' := by
 unfold I64 at hv
 obtain ⟨h1, h2⟩ := hv
 by_cases hneg : v < 0
 ·have e : ((u64 v : Nat) : Int) = 18446744073709551616 + v := by unfold u64; omega
  rw [e]
  go_enter Tryz.func90, Tryz.ntmps90
  go_wp2_with fail
  go_ret
  refine ⟨?_, rfl⟩
  congr 2
  first | omega | (go_num; done) | (simp [IntKind.wrap]; omega)
 ·have e : ((u64 v : Nat) : Int) = v := by unfold u64; omega
  rw [e]
  go_enter Tryz.func90, Tryz.ntmps90
  go_wp2_with fail
  go_ret
  refine ⟨?_, rfl⟩
  try (congr 2)
  try first | omega | (go_num; done) | (simp [IntKind.wrap]; omega)
end Go.Proofs.YtemcgfncahccgaaGreat
namespace Go.Proofs.YtemcgfncahccgaaGreat
open Go.RowKit

set_option maxRecDepth 100000 in
set_option maxHeartbeats 2000000 in
theorem rputkey_yes (x : KeyD) (w : World) (hx : ofB x.k x.o x.c x.a x.r x.v = true) (hr : x.r < 9223372036854775808) (hv : I64 x.v) :
  Calls Tryz.prog 67 #[.agg x.cells.toArray] w fun e w' => ∃ u, e = .returned (.tuple #[u, .int .i64 0]) ∧ w'.ownsRow w.heap.size 5 1 u 20 ((keyB x).map vu8) ∧ Below w.heap.size w w' := by
 have hfit := fits_of hx hr hv
 rw [keyB_eq]
 obtain ⟨k, o, c, a, r, v⟩ := x
 obtain ⟨fk, fr, fo, fc, fa, _⟩ := hfit
 simp only at hx hr hv fk fr fo fc fa
 have HCK := Lib.hid (fun W => rcheck_any k o c a r v W hr)
 rw [hx] at HCK
 obtain ⟨K, uK⟩ : ∃ K : Nat, K = u64 k := ⟨_, rfl⟩
 obtain ⟨R, uR⟩ : ∃ K : Nat, K = u64 r := ⟨_, rfl⟩
 obtain ⟨O, uO⟩ : ∃ K : Nat, K = u64 o := ⟨_, rfl⟩
 obtain ⟨C, uC⟩ : ∃ K : Nat, K = u64 c := ⟨_, rfl⟩
 obtain ⟨A, uA⟩ : ∃ K : Nat, K = u64 a := ⟨_, rfl⟩
 obtain ⟨V, uV⟩ : ∃ K : Nat, K = u64 v := ⟨_, rfl⟩
 have sK := u64_small fk.1 (by omega)
 have sR := u64_small fr.1 (by omega)
 have sO := u64_small fo.1 (by omega)
 have sC := u64_small fc.1 (by omega)
 have sA := u64_small fa.1 (by omega)
 have hV : V < 18446744073709551616 := by rw [uV]; unfold u64; omega
 simp only
 rw [← uK, ← uR, ← uO, ← uC, ← uA, ← uV]
 rw [← uK] at sK
 rw [← uR] at sR
 rw [← uO] at sO
 rw [← uC] at sC
 rw [← uA] at sA
 subst sO sC sA
 have eK : leB K 1 = [byteAt K 0] := rfl
 have eR : leB R 1 = [byteAt R 0] := rfl
 have bK : ((byteAt K 0).toNat : Int) = k := by have := byteAt_int K 0; simp at this; omega
 have bR : ((byteAt R 0).toNat : Int) = r := by have := byteAt_int R 0; simp at this; omega
 have k0 : Blk (w.alloc (.cells #[.int .i64 k, .int .i64 (O : Int), .int .i64 (C : Int), .int .i64 (A : Int), .int .i64 r, .int .i64 v] 43)) w.heap.size 43 #[.int .i64 k, .int .i64 (O : Int), .int .i64 (C : Int), .int .i64 (A : Int), .int .i64 r, .int .i64 v] := Blk.new w _ _
 have hw0 : Below w.heap.size w (w.alloc (.cells #[.int .i64 k, .int .i64 (O : Int), .int .i64 (C : Int), .int .i64 (A : Int), .int .i64 r, .int .i64 v] 43)) := (Below.refl _ w).alloc (Nat.le_refl _) _
 have HS := Lib.hid (And.intro eK (And.intro eR (And.intro bK bR)))
 have HUV := Lib.hid uV
 clear uK uR uO uC uA hx uV
 have ec : (⟨k, (O : Int), (C : Int), (A : Int), r, v⟩ : KeyD).cells.toArray = #[.int .i64 k, .int .i64 (O : Int), .int .i64 (C : Int), .int .i64 (A : Int), .int .i64 r, .int .i64 v] := rfl
 rw [ec]
 clear ec
 go_enter Tryz.func67, Tryz.ntmps67
 go_upto_region 1 with fail
 obtain ⟨W, eW⟩ : ∃ W, W = w.alloc (.cells #[.int .i64 k, .int .i64 (O : Int), .int .i64 (C : Int), .int .i64 (A : Int), .int .i64 r, .int .i64 v] 43) := ⟨_, rfl⟩
 rw [← eW] at k0 hw0 ⊢
 clear eW
 go_wp2_with (refine wpList_load_row rfl 43 _ rfl w.heap.size rfl 43 #[.int .i64 k, .int .i64 (O : Int), .int .i64 (C : Int), .int .i64 (A : Int), .int .i64 r, .int .i64 v] (0, 0) _ k0 Tryz.underlying43 rfl (by show _ = some 6; kernel_rfl) ?_)
 refine (HCK.out W).mono ?_; rintro e w1 ⟨rfl, hb1⟩
 have b01 := k0.below hb1 k0.lt
 have hw1 := hw0.trans (hb1.mono hw0.size)
 have q0 := b01.cell_is 0 rfl
 have q4 := b01.cell_is 4 rfl
 have hX2 : Below w.heap.size w (w1.alloc (.cells #[.int .u8 k, .int .u8 r] 5)) := hw1.alloc hw1.size _
 have b02 := b01.alloc (.cells #[.int .u8 k, .int .u8 r] 5)
 have r2 : (w1.alloc (.cells #[.int .u8 k, .int .u8 r] 5)).ownsRow w.heap.size 5 1 (.slice (some ⟨w1.heap.size, 0, none⟩) 2 2) 2 ((leB K 1 ++ leB R 1).map vu8) := by
  rw [HS.out.1, HS.out.2.1]
  refine own_bytes (g := w1.heap.size) (e := 5) (l := [byteAt K 0] ++ [byteAt R 0]) (cs := #[.int .u8 k, .int .u8 r]) (Blk.new w1 _ _) hw1.size ?_ rfl (by unfold maxLen; omega)
  show [Value.int .u8 k, Value.int .u8 r] = [vu8 (byteAt K 0), vu8 (byteAt R 0)]
  unfold vu8
  rw [HS.out.2.2.1, HS.out.2.2.2]
 unfold errB
 simp only [if_true]
 go_upto_region 4 with fail
 obtain ⟨X3, eX3⟩ : ∃ X, X = w1.alloc (.cells #[.int .u8 k, .int .u8 r] 5) := ⟨_, rfl⟩
 rw [← eX3] at hX2 b02 r2 ⊢
 clear eX3 q0 q4 b01 hw1 hb1 k0 hw0
 have hb3 := hX2
 have r3 := r2
 have b03 : Blk X3 w.heap.size 43 #[.int .i64 k, .int .i64 (O : Int), .int .i64 (C : Int), .int .i64 (A : Int), .int .i64 r, .int .i64 v] := b02
 clear hX2 r2 b02
 have q4 := b03.cell_is 1 rfl
 go_wp2_with fail
 refine (rlow5_any O 2 X3 (by omega) (by omega)).mono ?_; rintro e L4 ⟨l4, rfl, hlo4, hlb4⟩
 obtain ⟨g4, cap4, e4, _, _⟩ := World.ownsRow.form hlo4 (by omega)
 subst e4
 have hu4 := BytesIn.own hlo4
 have hke4 := leB_len (O) 2
 have kk04 := (b03 : Blk _ _ _ _).below hlb4 (b03 : Blk _ _ _ _).lt
 have hbL4 := hb3.trans (hlb4.mono hb3.size)
 have ho4 := ownsRow_out (F := fun _ => False) (outB hlb4) r3 (fun _ _ => id)
 go_upto_region 5 with (at_builtin; refine wpList_append_bytes _ rfl (.tmp 15) (.tmp 19) rfl w.heap.size L4.heap.size 2 (.slice (some ⟨w1.heap.size, 0, none⟩) 2 2) _ rfl ho4 (some ⟨g4, 0, none⟩) 2 cap4 (leB (O) 2) rfl hke4 hu4 (by omega) hbL4.size ?_; intro hv4 X4 hO4 hg4)
 have hb4 := hbL4.grown hg4 hbL4.size (fun r hr => (ho4.lt r hr).1)
 have r4 : X4.ownsRow w.heap.size 5 1 hv4 (2 + 2) ((leB K 1 ++ leB R 1 ++ leB (O) 2).map vu8) := by rw [List.map_append]; exact hO4
 have b04 : Blk X4 w.heap.size 43 #[.int .i64 k, .int .i64 (O : Int), .int .i64 (C : Int), .int .i64 (A : Int), .int .i64 r, .int .i64 v] := (hg4.block _ kk04.lt (fun e => ne_own ho4 kk04 (by decide) _ e.symm rfl)).trans kk04
 clear q4 kk04 hbL4 hO4 hg4 hlo4 hlb4 hu4 hke4 ho4 hb3 r3 b03
 have q5 := b04.cell_is 2 rfl
 go_wp2_with fail
 refine (rlow5_any C 4 X4 (by omega) (by omega)).mono ?_; rintro e L5 ⟨l5, rfl, hlo5, hlb5⟩
 obtain ⟨g5, cap5, e5, _, _⟩ := World.ownsRow.form hlo5 (by omega)
 subst e5
 have hu5 := BytesIn.own hlo5
 have hke5 := leB_len (C) 4
 have kk05 := (b04 : Blk _ _ _ _).below hlb5 (b04 : Blk _ _ _ _).lt
 have hbL5 := hb4.trans (hlb5.mono hb4.size)
 have ho5 := ownsRow_out (F := fun _ => False) (outB hlb5) r4 (fun _ _ => id)
 go_upto_region 6 with (at_builtin; refine wpList_append_bytes _ rfl (.tmp 21) (.tmp 25) rfl w.heap.size L5.heap.size (2 + 2) hv4 _ rfl ho5 (some ⟨g5, 0, none⟩) 4 cap5 (leB (C) 4) rfl hke5 hu5 (by omega) hbL5.size ?_; intro hv5 X5 hO5 hg5)
 have hb5 := hbL5.grown hg5 hbL5.size (fun r hr => (ho5.lt r hr).1)
 have r5 : X5.ownsRow w.heap.size 5 1 hv5 ((2 + 2) + 4) ((leB K 1 ++ leB R 1 ++ leB (O) 2 ++ leB (C) 4).map vu8) := by rw [List.map_append]; exact hO5
 have b05 : Blk X5 w.heap.size 43 #[.int .i64 k, .int .i64 (O : Int), .int .i64 (C : Int), .int .i64 (A : Int), .int .i64 r, .int .i64 v] := (hg5.block _ kk05.lt (fun e => ne_own ho5 kk05 (by decide) _ e.symm rfl)).trans kk05
 clear q5 kk05 hbL5 hO5 hg5 hlo5 hlb5 hu5 hke5 ho5 hb4 r4 b04
 have q6 := b05.cell_is 3 rfl
 go_wp2_with fail
 refine (rlow5_any A 4 X5 (by omega) (by omega)).mono ?_; rintro e L6 ⟨l6, rfl, hlo6, hlb6⟩
 obtain ⟨g6, cap6, e6, _, _⟩ := World.ownsRow.form hlo6 (by omega)
 subst e6
 have hu6 := BytesIn.own hlo6
 have hke6 := leB_len (A) 4
 have kk06 := (b05 : Blk _ _ _ _).below hlb6 (b05 : Blk _ _ _ _).lt
 have hbL6 := hb5.trans (hlb6.mono hb5.size)
 have ho6 := ownsRow_out (F := fun _ => False) (outB hlb6) r5 (fun _ _ => id)
 go_upto_region 7 with (at_builtin; refine wpList_append_bytes _ rfl (.tmp 27) (.tmp 31) rfl w.heap.size L6.heap.size (2 + 2 + 4) hv5 _ rfl ho6 (some ⟨g6, 0, none⟩) 4 cap6 (leB (A) 4) rfl hke6 hu6 (by omega) hbL6.size ?_; intro hv6 X6 hO6 hg6)
 have hb6 := hbL6.grown hg6 hbL6.size (fun r hr => (ho6.lt r hr).1)
 have r6 : X6.ownsRow w.heap.size 5 1 hv6 ((2 + 2 + 4) + 4) ((leB K 1 ++ leB R 1 ++ leB (O) 2 ++ leB (C) 4 ++ leB (A) 4).map vu8) := by rw [List.map_append]; exact hO6
 have b06 : Blk X6 w.heap.size 43 #[.int .i64 k, .int .i64 (O : Int), .int .i64 (C : Int), .int .i64 (A : Int), .int .i64 r, .int .i64 v] := (hg6.block _ kk06.lt (fun e => ne_own ho6 kk06 (by decide) _ e.symm rfl)).trans kk06
 clear q6 kk06 hbL6 hO6 hg6 hlo6 hlb6 hu6 hke6 ho6 hb5 r5 b05
 have q7 := b06.cell_is 5 rfl
 go_wp2_with fail
 refine (runsigned_any v hv X6).mono ?_; rintro e c6 ⟨rfl, hwc⟩
 subst hwc
 rw [← HUV.out]
 go_wp2_with fail
 refine (rlow5_any V 8 X6 (by omega) (by omega)).mono ?_; rintro e L7 ⟨l7, rfl, hlo7, hlb7⟩
 obtain ⟨g7, cap7, e7, _, _⟩ := World.ownsRow.form hlo7 (by omega)
 subst e7
 have hu7 := BytesIn.own hlo7
 have hke7 := leB_len (V) 8
 have kk07 := (b06 : Blk _ _ _ _).below hlb7 (b06 : Blk _ _ _ _).lt
 have hbL7 := hb6.trans (hlb7.mono hb6.size)
 have ho7 := ownsRow_out (F := fun _ => False) (outB hlb7) r6 (fun _ _ => id)
 go_wp2_with (at_builtin; refine wpList_append_bytes _ rfl (.tmp 33) (.tmp 37) rfl w.heap.size L7.heap.size (2 + 2 + 4 + 4) hv6 _ rfl ho7 (some ⟨g7, 0, none⟩) 8 cap7 (leB (V) 8) rfl hke7 hu7 (by omega) hbL7.size ?_; intro hv7 X7 hO7 hg7)
 have hb7 := hbL7.grown hg7 hbL7.size (fun r hr => (ho7.lt r hr).1)
 have r7 : X7.ownsRow w.heap.size 5 1 hv7 ((2 + 2 + 4 + 4) + 8) ((leB K 1 ++ leB R 1 ++ leB (O) 2 ++ leB (C) 4 ++ leB (A) 4 ++ leB (V) 8).map vu8) := by rw [List.map_append]; exact hO7
 have b07 : Blk X7 w.heap.size 43 #[.int .i64 k, .int .i64 (O : Int), .int .i64 (C : Int), .int .i64 (A : Int), .int .i64 r, .int .i64 v] := (hg7.block _ kk07.lt (fun e => ne_own ho7 kk07 (by decide) _ e.symm rfl)).trans kk07
 clear q7 kk07 hbL7 hO7 hg7 hlo7 hlb7 hu7 hke7 ho7 hb6 r6 b06

 go_ret2
 exact ⟨_, rfl, by simpa [List.append_assoc] using r7, hb7⟩
end Go.Proofs.YtemcgfncahccgaaGreat
namespace Go.Proofs.YtemcgfncahccgaaGreat
open Go.RowKit

end Go.Proofs.YtemcgfncahccgaaGreat
namespace Go.Proofs.YtemcgfncahccgaaGreat
open Go.RowKit

end Go.Proofs.YtemcgfncahccgaaGreat
namespace Go.Proofs.YtemcgfncahccgaaGreat
open Go.RowKit

theorem rwaits_len : ∀ (ws : List WaitD), (∀ y ∈ ws, y.b.length = 512) → (waitCells ws).length = ws.length * 513
 | [], _ => rfl
 | y :: ws, h => by
  show (y.cells ++ waitCells ws).length = _
  rw [List.length_append, WaitD.len y (h y List.mem_cons_self), rwaits_len ws (fun z hz => h z (List.mem_cons_of_mem _ hz)), List.length_cons, Nat.add_mul]
  omega
theorem waitCells_split : ∀ (ws : List WaitD), (∀ y ∈ ws, y.b.length = 512) → ∀ (j : Nat) (u : Value), (waitCells ws)[j]? = some u → ∃ i y k, ws[i]? = some y ∧ j = i * 513 + k ∧ y.cells[k]? = some u
 | [], _, j, u, hj => by cases hj
 | y :: ws, h, j, u, hj => by
  have hl := WaitD.len y (h y List.mem_cons_self)
  have hj' : (y.cells ++ waitCells ws)[j]? = some u := hj
  by_cases hlt : j < 513
  ·rw [List.getElem?_append_left (by omega)] at hj'
   exact ⟨0, y, j, rfl, by omega, hj'⟩
  ·rw [List.getElem?_append_right (by omega), hl] at hj'
   obtain ⟨i, z, k, h1, h2, h3⟩ := waitCells_split ws (fun z hz => h z (List.mem_cons_of_mem _ hz)) (j - 513) u hj'
   exact ⟨i + 1, z, k, by simpa using h1, by omega, h3⟩
theorem waitCells_one (ws : List WaitD) (u : Value) (hu : u ∈ waitCells ws) : u.oneCell' = true := by
 unfold waitCells at hu
 obtain ⟨y, _, hy⟩ := List.mem_flatMap.1 hu
 exact wait_one y u hy
/-- what is asked of the types of a slice of writes -/
structure RowT (t e : TypeId) (i : TypeInfo) (z : Value) : Prop where
 ht : Tryz.prog.underlying t = some (.slice e)
 hi : Tryz.prog.info? e = some i
 hz : i.zero = some z
 h1 : i.size = 513
 h2 : i.bytes = 520
 h3 : z.cells.size = 513
theorem run_append_waits {t e : TypeId} {i0 : TypeInfo} {z0 : Value} (T : RowT t e i0 z0) (w : World) {base B n : Nat} {v : Value} {xs : List Value} (hown : w.ownsRow base e 513 v n xs) (ty : TypeId) (a : Option Addr) (cap : Nat) (l : List WaitD)
  (hu : WaitsIn w B (.slice a l.length cap) l) (hn : n ≤ 1000000) (hbase : base ≤ w.heap.size) :
  ∃ v' w', (Builtin.append_ #[t, t] ty #[v, .slice a l.length cap]).run Tryz.prog w = .ok v' w' ∧ w'.ownsRow base e 513 v' (n + l.length) (xs ++ waitCells l) ∧ w.grownBy w' v.ownBlock := by
 obtain ⟨hm, hws, a', cap', ea, hc⟩ := hu
 injection ea with e1 e2 e3
 subst e1
 have hlen := rwaits_len l hws
 cases a with
 | none =>
  have hl : l = [] := by
   cases l with
   | nil => rfl
   | cons c l =>
    obtain ⟨g, h, _⟩ := hc 0 c rfl
    cases h
  subst hl
  refine ⟨v, w, ?_, by simpa [waitCells] using hown, World.grownBy.refl w _⟩
  rcases hown.2 with ⟨rfl, rfl⟩ | ⟨g, cap2, cur, rfl, _, _, hnc, _⟩
  ·simp [Builtin.append_, run_underlying T.ht, sizeOf, typeInfo, T.hi, Builtin.lenOf, Builtin.firstCells]
  ·simp [Builtin.append_, run_underlying T.ht, sizeOf, typeInfo, T.hi, Builtin.lenOf, Builtin.firstCells, hnc, storeCells]
 | some ad =>
  have hnews : ∀ j u, (waitCells l)[j]? = some u → w.cell? (ad.add j) = some u := by
   intro j u hj
   obtain ⟨i, y, k, h1, rfl, h3⟩ := waitCells_split l hws j u hj
   obtain ⟨g, h, _, hr⟩ := hc i y h1
   obtain rfl := Option.some.inj h
   have := hr k u h3
   rw [add_at, Nat.zero_add]
   exact this
  obtain ⟨v', w', hrun, h2, h3, _, _⟩ := run_append_own_at (P := Tryz.prog) w base t ty e i0 z0 513 520 T.ht T.hi T.hz T.h1 T.h2 T.h3 (by omega) v n xs hown ad l.length cap (waitCells l) hlen hnews (waitCells_one l) (by unfold maxLen; omega) (by omega) hbase
  exact ⟨v', w', hrun, h2, h3⟩
theorem wp_append_waits {t e : TypeId} {i0 : TypeInfo} {z0 : Value} (T : RowT t e i0 z0) (w : World) {o : Oper} {a : Act} {K : Act → World → Prop} {Q : Exit → Act → World → Prop} (s x : Operand)
  (ho : o.op = .call { callee := .builtin .append, args := #[s, x], argTypes := #[t, t] })
  (base B n : Nat) (v : Value) (xs : List Value) (hs : a.eval s = v) (hown : w.ownsRow base e 513 v n xs) (A : Option Addr) (m cap : Nat) (l : List WaitD) (hx : a.eval x = .slice A m cap) (hm : l.length = m)
  (hu : WaitsIn w B (.slice A m cap) l) (hn : n ≤ 1000000) (hbase : base ≤ w.heap.size)
  (h : ∀ v' w', w'.ownsRow base e 513 v' (n + m) (xs ++ waitCells l) → w.grownBy w' v.ownBlock → K (a.put o.dst v') w') : o.wp Tryz.prog a w K Q := by
 subst hm
 obtain ⟨v', w', hrun, h2, h3⟩ := run_append_waits T w hown o.type A cap l hu hn hbase
 unfold Oper.wp execOp
 simp only [ho, resolve, invoke, builtin, Sem.run_bind, Sem.run_pure, Result.andThen_ok, List.map_toArray, List.map_cons, List.map_nil, hs, hx, hrun]
 exact h v' w' h2 h3
theorem rowT_rwait : ∃ i z, RowT 30 157 i z := by
 have h : (Tryz.prog.info? 157).map (fun i => (i.zero.map (·.cells.size), i.size, i.bytes)) = some (some 513, 513, 520) := by kernel_rfl
 obtain ⟨i, hi, he⟩ := Option.map_eq_some_iff.1 h
 injection he with h1 h2
 injection h2 with h2 h3
 obtain ⟨z, hz, h4⟩ := Option.map_eq_some_iff.1 h1
 exact ⟨i, z, ⟨Tryz.underlying30, hi, hz, h2, h3, h4⟩⟩
end Go.Proofs.YtemcgfncahccgaaGreat
namespace Go.Proofs.YtemcgfncahccgaaGreat
open Go.RowKit

theorem results_row_tmp2 {P : Program} {fn : Func} {p r : Tmp} {ty : TypeId} (h : fn.results = #[.cell p ty, .tmp r]) (tmps : Array Value) (w : World) (b v : Value) (g : Nat)
  (hp : tmps.getD p undef = .pointer (some ⟨g, 0, none⟩)) (hb : (loadVar ty ⟨g, 0, none⟩).run P w = .ok b w) (hr : tmps.getD r undef = v) :
  (results fn tmps).run P w = .ok (.tuple #[b, v]) w := by
 have hp' : tmps[p]?.getD undef = .pointer (some ⟨g, 0, none⟩) := by simpa using hp
 have hr' : tmps[r]?.getD undef = v := by simpa using hr
 simp [results, h, hp', hr', asAddr, hb]
end Go.Proofs.YtemcgfncahccgaaGreat
namespace Go.Proofs.YtemcgfncahccgaaGreat
open Go.RowKit

/-- the disk of some sectors, of which the first k have the bytes -/
def ofK (s : Nat) (l : List UInt8) (k : Nat) : DiskD := ⟨s, fun n => if 0 ≤ n ∧ n < (k : Int) then (l.drop (512 * n.toNat)).take 512 else sector0, [], 0, []⟩
def ofDisk (s : Nat) (l : List UInt8) : DiskD := ofK s l s
theorem ofK_zero (s : Nat) (l : List UInt8) : ofK s l 0 = newDisk s := by
 unfold ofK newDisk
 congr 1
 funext n
 rw [if_neg (by omega)]
theorem ofK_next (s : Nat) (l : List UInt8) (k : Nat) (b : List UInt8) (hb : b = (l.drop (512 * k)).take 512) : ({ ofK s l k with lasts := fun m => if m = (k : Int) then b else (ofK s l k).lasts m } : DiskD) = ofK s l (k + 1) := by
 refine congrArg (fun f => (⟨s, f, [], 0, []⟩ : DiskD)) ?_
 funext n
 show (if n = (k : Int) then b else if 0 ≤ n ∧ n < (k : Int) then (l.drop (512 * n.toNat)).take 512 else sector0) = if 0 ≤ n ∧ n < ((k + 1 : Nat) : Int) then (l.drop (512 * n.toNat)).take 512 else sector0
 by_cases h : n = k
 ·subst h
  rw [if_pos rfl, if_pos (by omega), hb, Int.toNat_natCast]
 ·rw [if_neg h]
  by_cases h2 : 0 ≤ n ∧ n < (k : Int)
  ·rw [if_pos h2, if_pos (by omega)]
  ·rw [if_neg h2, if_neg (by omega)]
theorem outB' {F : Nat → Prop} {B : Nat} {w w' : World} (h : Below B w w') (hF : ∀ i, B ≤ i → F i) : Out F w w' := ⟨h.os, h.tape, h.output, h.size, fun i hi hn => h.block i (by
 rcases Nat.lt_or_ge i B with h1 | h1
 ·exact h1
 ·exact absurd (hF i h1) hn)⟩
theorem bytes_range {W : World} {B : Nat} {g off n c : Nat} {l : List UInt8} (h : BytesIn W B (.slice (some ⟨g, off, none⟩) n c) l) (i m : Nat) : W.rangeAt g (off + i) (((l.drop i).take m).map vu8) := by
 intro j u hj
 rw [List.getElem?_map] at hj
 obtain ⟨c, hc, rfl⟩ := Option.map_eq_some_iff.1 hj
 rw [List.getElem?_take] at hc
 split at hc
 ·rw [List.getElem?_drop] at hc
  obtain ⟨g', off', e, _, hr⟩ := h.at_ hc
  cases e
  rw [show off + i + j = off + (i + j) by omega]
  exact hr
 ·cases hc
theorem array_at (a : Option Addr) (w : World) : (Instr.arrayAt 84 (.slice a 512 512)).run Tryz.prog w = .ok (.pointer a) w := by
 simp [Instr.arrayAt, run_underlying Tryz.underlying84]
set_option maxRecDepth 100000 in
set_option maxHeartbeats 4000000 in
theorem dof_any (v : Value) (l : List UInt8) (s : Nat) (w : World) (hv : BytesIn w w.heap.size v l) (hl : l.length = 512 * s) (h1 : 1 ≤ s) (h2 : s ≤ 4096) :
  Calls Tryz.prog 34 #[v] w fun e w' => ∃ D, e = .returned (.tuple #[ptr D.p, .int .i64 0]) ∧ DiskAt w' D (ofDisk s l) ∧ (∀ i, D.has i → w.heap.size ≤ i) ∧ Below w.heap.size w w' := by
 have HN := Lib.hid (dnew_yes s w (by omega) (by omega))
 have HV := Lib.hid hv
 obtain ⟨hm, a, cap, rfl, hcap, hc⟩ := hv
 obtain ⟨g, off, rfl, hg0, _⟩ := hc 0 (l[0]'(by omega)) (List.getElem?_eq_getElem (by omega))
 have HRNG := Lib.hid (fun k (_ : k < s) => bytes_range HV.out (512 * k) 512)
 have hq : (l.length : Int) / 512 = s := by omega
 have hq2 : (l.length : Int) % 512 = 0 := by omega
 have hmx : l.length ≤ 2097152 := by omega
 have hcap2 : (l.length : Int) ≤ (cap : Int) := by omega
 unfold ptr at *
 clear hc
 go_enter Tryz.func34, Tryz.ntmps34
 go_wp2_with fail
 refine HN.out.mono ?_; rintro e w1 ⟨rfl, hD, hB1⟩
 have hps : (newAt w.heap.size).p = w.heap.size + 1 := rfl
 rw [hps]
 have c0 : w1.cell? ⟨w.heap.size + 1, 0, none⟩ = some (.int .i64 (s : Int)) := hD.blk.cell_is 0 rfl
 have HD1 := Lib.hid hD
 clear hD hps
 go_wp2_with fail
 go_loopw [27] (fun i wr => ∃ k : Nat, k ≤ s ∧ i = .int .i64 (k : Int) ∧ DiskAt wr (newAt w.heap.size) (ofK s l k) ∧ Below w.heap.size w wr) (fun i _ => s - (intOf i).toNat)
 case atStart => exact ⟨0, by omega, rfl, by rw [ofK_zero]; exact HD1.out, hB1⟩
 case round =>
  obtain ⟨k, hk, rfl, hDk, hB⟩ := hrel
  by_cases hlt : k < s
  ·have p1 := hDk.blk.cell_is 1 rfl
   have p2 := range_below (HRNG.out k hlt) hB hg0
   obtain ⟨b, eb⟩ : ∃ b, b = (l.drop (512 * k)).take 512 := ⟨_, rfl⟩
   have hbl : b.length = 512 := by rw [eb, List.length_take, List.length_drop]; omega
   rw [← eb] at p2
   have hsz : (Tryz.prog.info? 84).map (·.size) = some (b.map vu8).length := by simpa using sector_size b hbl
   have z1 : IntKind.i64.wrap ((k : Int) * 512 + 512) = (k : Int) * 512 + 512 := by rw [IntKind.wrap_i64]; omega
   have z2 : 0 ≤ (k : Int) * 512 + 512 ∧ (k : Int) * 512 + 512 ≤ (cap : Int) := by omega
   have z3 : max ((k : Int) * 512 + 512) 0 = (k : Int) * 512 + 512 := by omega
   have z4 : 0 ≤ (k : Int) * 512 + 512 ∧ (k : Int) * 512 + 512 ≤ (k : Int) * 512 + 512 := by omega
   have z5 : 0 ≤ (k : Int) * 512 ∧ (k : Int) * 512 ≤ (k : Int) * 512 + 512 := by omega
   have z6 : ((k : Int) * 512 + 512).toNat = k * 512 + 512 := by omega
   have z7 : ((k : Int) * 512).toNat = k * 512 := by omega
   have z8 : ¬ (k * 512 + 512 = k * 512) := by omega
   have z9 : k * 512 + 512 - k * 512 = 512 := by omega
   have z10 : off + k * 512 = off + 512 * k := by omega
   have hli : (k : Int) < (s : Int) := by omega
   go_upto_region 8 with fail
   refine wp_region_held_drew (S := (fun w' => w'.cell? ⟨w.heap.size + 1, 1, none⟩ = some (.map (some w.heap.size)) ∧ w'.rangeAt g (off + 512 * k) (b.map vu8))) (by kernel_rfl) (by first | exact ⟨p1, p2⟩ | ((try dsimp only); exact ⟨p1, p2⟩)) (fun hHeld => ?_)
   refine tk 0 ?_
   refine tk 4 ?_
   refine tk 5 ?_
   refine tk 6 ?_
   refine tk 7 ?_
   refine tk 9 ?_
   refine tk 1 ?_
   refine tk 8 ?_
   refine tk 10 ?_
   refine tk 2 ?_
   refine wpAnyH_take (i := 11) (v := .slice (some ⟨g, off + 512 * k, none⟩) 512 512) rfl (by kernel_rfl) (by kernel_rfl) (by kernel_rfl) (fun _ _ _ h => h) (Or.inl ⟨by rfl, ?hysl⟩) (by assumption) ?_
   case hysl =>
    intro w hSw
    try dsimp only at hSw
    go_simp
    try simp only [z1, z2, z3, z4, z5, z6, z7, z8, z9, z10, if_true, if_false, and_self, Result.andThen_ok]
   try simp only [Act.put, pz0, pz1, pz2, pz3, pz4, pz5]
   refine tk 3 ?_
   refine wpAnyH_take (i := 12) (v := .pointer (some ⟨g, off + 512 * k, none⟩)) rfl (by kernel_rfl) (by kernel_rfl) (by kernel_rfl) (fun _ _ _ h => h) (Or.inl ⟨by rfl, ?hyar⟩) (by assumption) ?_
   case hyar =>
    intro w hSw
    try dsimp only at hSw
    go_simp
    rw [array_at]
    rfl
   try simp only [Act.put, pz0, pz1, pz2, pz3, pz4, pz5]
   refine ty 13 rfl (yieldsIf_load_mid (by rfl) 84 _ rfl g (off + 512 * k) rfl (b.map vu8) _ (fun w' h => h.2) Tryz.underlying84 rfl hsz) ?_
   refine rd 14 fun K hK => ?_
   obtain ⟨w2, hrun, hturn, hD2, hS2⟩ := diskLasts_set (D := newAt w.heap.size) (x := ofK s l k) hDk.drew (k : Int) b
   refine wp_mapUpdate_is wr.drew w2 _ _ _ _ rfl (.map (some w.heap.size)) (.int .i64 (k : Int)) (sectorV b) rfl rfl rfl hrun ?_
   have hB2 : Below w.heap.size w w2 := by
    have ho := Out.trans (F := fun i => w.heap.size ≤ i) (outB' hB.drew (fun _ h => h)) hS2.out (fun i hi h => by rcases h with h | h | h | h <;> first | (cases h; done) | (unfold newAt at h; simp at h; omega))
    exact ho.below (Nat.le_refl _) (fun i hi h => by omega)
   have eD : ({ ofK s l k with lasts := fun m => if m = (k : Int) then b else (ofK s l k).lasts m } : DiskD) = ofK s l (k + 1) := ofK_next s l k b eb
   rw [eD] at hD2
   have q1 := hD2.blk.cell_is 1 rfl
   have q2 := range_below (HRNG.out k hlt) hB2 hg0
   refine hK.out _ _ (by first | exact ⟨q1, by rw [eb]; exact q2⟩ | ((try dsimp only); exact ⟨q1, by rw [eb]; exact q2⟩)) (fun hHeld => ?_)
   clear hK K
   try simp only [Act.put, pz0, pz1, pz2, pz3, pz4, pz5]
   refine wpAnyH_done (by kernel_rfl) ?_ _
   try simp only [Act.put, pz0, pz1, pz2, pz3, pz4, pz5]
   go_wp2_with fail
   go_roundw
   case rel => exact ⟨k + 1, by omega, by go_num, hD2, hB2⟩
   case measure => simp [intOf]; omega
  ·have hnl : ¬ ((k : Int) < (s : Int)) := by omega
   have hks : k = s := by omega
   have HKS := Lib.hid hks
   clear hks hlt
   go_wp2_with fail
   all_goals
    have hks := HKS.out
    subst hks
    refine bodyPost_ret (results_tmp2 Tryz.results34 _ _ _) rfl ⟨newAt w.heap.size, rfl, hDk, fun i hi => by rcases hi with h | h | h | h <;> (try cases h) <;> (unfold newAt; simp; done), hB⟩
end Go.Proofs.YtemcgfncahccgaaGreat
namespace Go.Proofs.YtemcgfncahccgaaGreat
open Go.RowKit

end Go.Proofs.YtemcgfncahccgaaGreat
namespace Go.Proofs.YtemcgfncahccgaaGreat
open Go.RowKit

end Go.Proofs.YtemcgfncahccgaaGreat
namespace Go.Proofs.YtemcgfncahccgaaGreat
open Go.RowKit

theorem flatMap_congr' {α β : Type} {l : List α} {f g : α → List β} (h : ∀ x ∈ l, f x = g x) : l.flatMap f = l.flatMap g := by
 induction l with
 | nil => rfl
 | cons x l ih => rw [List.flatMap_cons, List.flatMap_cons, h x (by simp), ih (fun y hy => h y (by simp [hy]))]
theorem flat_cut : ∀ (s : Nat) (l : List UInt8), l.length = 512 * s → ((List.range s).flatMap fun n => (l.drop (512 * n)).take 512) = l := by
 intro s l hl
 apply List.ext_getElem?
 intro p
 by_cases hp : p < 512 * s
 ·have hf : ∀ n, n < s → ((l.drop (512 * n)).take 512).length = 512 := fun n hn => by rw [List.length_take, List.length_drop]; omega
  have e : ((List.range s).flatMap fun n => (l.drop (512 * n)).take 512) = (List.range s).flatMap fun n => if n < s then (l.drop (512 * n)).take 512 else sector0 := by
   apply flatMap_congr'
   intro n hn
   rw [if_pos (List.mem_range.1 hn)]
  have hg : ∀ n, (if n < s then (l.drop (512 * n)).take 512 else sector0).length = 512 := fun n => by
   split
   ·rename_i h; exact hf n h
   ·exact List.length_replicate
  rw [e]
  have r := flat_at (fun n => if n < s then (l.drop (512 * n)).take 512 else sector0) hg s (p / 512) (p % 512) (by omega) (by omega)
  rw [show 512 * (p / 512) + p % 512 = p by omega] at r
  rw [r, if_pos (by omega), List.getElem?_take, if_pos (by omega), List.getElem?_drop, show 512 * (p / 512) + p % 512 = p by omega]
 ·have e : ((List.range s).flatMap fun n => (l.drop (512 * n)).take 512) = (List.range s).flatMap fun n => if n < s then (l.drop (512 * n)).take 512 else sector0 := by
   apply flatMap_congr'
   intro n hn
   rw [if_pos (List.mem_range.1 hn)]
  have hg : ∀ n, (if n < s then (l.drop (512 * n)).take 512 else sector0).length = 512 := fun n => by
   split
   ·rename_i h; rw [List.length_take, List.length_drop]; omega
   ·exact List.length_replicate
  rw [e, List.getElem?_eq_none (by rw [flat_len _ hg]; omega), List.getElem?_eq_none (by omega)]
theorem flatL_of (s : Nat) (l : List UInt8) (hl : l.length = 512 * s) : flatL (ofDisk s l) = l := by
 have e : flatL (ofDisk s l) = (List.range s).flatMap fun n => (l.drop (512 * n)).take 512 := by
  unfold flatL ofDisk ofK
  simp only [Int.toNat_natCast]
  apply flatMap_congr'
  intro n hn
  have := List.mem_range.1 hn
  rw [if_pos (by omega)]
 rw [e]
 exact flat_cut s l hl
theorem ofDisk_ok (s : Nat) (l : List UInt8) (hl : l.length = 512 * s) (h1 : 1 ≤ s) (h2 : s ≤ 4096) : (ofDisk s l).ok := by
 refine ⟨by show (1 : Int) ≤ (s : Int); omega, by show (s : Int) ≤ 4096; omega, fun n => ?_, fun y hy => (by cases hy), by show (0 : Int) ≤ 0; omega, by show (0 : Int) ≤ 1000000000000; omega, by show 0 ≤ 1000000; omega⟩
 show (if 0 ≤ n ∧ n < (s : Int) then (l.drop (512 * n.toNat)).take 512 else sector0).length = 512
 split
 ·rw [List.length_take, List.length_drop]; omega
 ·exact List.length_replicate
theorem BytesIn.outO {W W' : World} {F : Nat → Prop} {B : Nat} {v : Value} {l : List UInt8} (h : BytesIn W B v l) (ho : Out F W W') (hF : ∀ g, v.ownBlock = some g → ¬ F g) : BytesIn W' B v l := by
 obtain ⟨h1, a, cap, rfl, h3, h4⟩ := h
 refine ⟨h1, a, cap, rfl, h3, fun j c hc => ?_⟩
 obtain ⟨g, off, rfl, hg, hr⟩ := h4 j c hc
 exact ⟨g, off, rfl, hg, (World.cell?_of_block (a := ⟨g, off + j, none⟩) (ho.block g (World.block_lt_of_cell? W _ hr) (hF g rfl))).trans hr⟩
theorem IntsIn.outO {W W' : World} {F : Nat → Prop} {B : Nat} {v : Value} {l : List Int} (h : IntsIn W B v l) (ho : Out F W W') (hF : ∀ g, v.ownBlock = some g → ¬ F g) : IntsIn W' B v l := by
 obtain ⟨h1, a, cap, rfl, h3, h4⟩ := h
 refine ⟨h1, a, cap, rfl, h3, fun j c hc => ?_⟩
 obtain ⟨g, off, rfl, hg, hr⟩ := h4 j c hc
 exact ⟨g, off, rfl, hg, (World.cell?_of_block (a := ⟨g, off + j, none⟩) (ho.block g (World.block_lt_of_cell? W _ hr) (hF g rfl))).trans hr⟩
theorem WaitsIn.outO {W W' : World} {F : Nat → Prop} {B : Nat} {v : Value} {l : List WaitD} (h : WaitsIn W B v l) (ho : Out F W W') (hF : ∀ g, v.ownBlock = some g → ¬ F g) : WaitsIn W' B v l := by
 obtain ⟨h0, h1, a, cap, rfl, h2⟩ := h
 refine ⟨h0, h1, a, cap, rfl, fun i y hi => ?_⟩
 obtain ⟨g, rfl, hg, hr⟩ := h2 i y hi
 exact ⟨g, rfl, hg, fun j u hj => (World.cell?_of_block (a := ⟨g, i * 513 + j, none⟩) (ho.block g (World.block_lt_of_cell? W _ (hr j u hj)) (hF g rfl))).trans (hr j u hj)⟩
theorem RDisk.outO {W W' : World} {F : Nat → Prop} {B : Nat} {lv wv fv : Value} {x : DiskD} (h : RDisk W B lv wv fv x) (ho : Out F W W') (h1 : ∀ g, lv.ownBlock = some g → ¬ F g) (h2 : ∀ g, wv.ownBlock = some g → ¬ F g) (h3 : ∀ g, fv.ownBlock = some g → ¬ F g) : RDisk W' B lv wv fv x :=
 ⟨h.lasts.outO ho h1, h.waits.outO ho h2, h.fails.outO ho h3⟩
end Go.Proofs.YtemcgfncahccgaaGreat
