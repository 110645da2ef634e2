/-
  The reference's codec: low.
  The reference codec's PutKey, of a key that may be. (Written by gen_lr5b.py.)
  The reference codec's Put, of an object that may be.
-/
import Derived.Test.YtdpniceapmikpaaGreatSt13
import Derived.Test.YtdpniceapmikpaaGreatSt26
import Derived.Test.YtdpniceapmikpaaGreatSt3
import Derived.Test.YtdpniceapmikpaaGreatSt33
import Derived.Test.YtdpniceapmikpaaGreatSt39
import Derived.Test.YtdpniceapmikpaaGreatSt6
import Derived.Test.YtdpniceapmikpaaGreatWr1
set_option linter.unusedVariables false
set_option linter.unusedSimpArgs false
namespace Go.Proofs.YtdpniceapmikpaaGreat
open Go.RowKit

set_option maxRecDepth 100000 in
set_option maxHeartbeats 1000000 in
theorem rlow5_any (n k : Nat) (w : World) (hk8 : k ≤ 8) (hn : n < 18446744073709551616) : Calls Tryz.prog 133 #[.int .u64 n, .int .i64 k] w fun e w' =>
  ∃ v, e = .returned v ∧ w'.ownsRow w.heap.size 5 1 v k ((leB n k).map vu8) ∧ Below w.heap.size w w' := by
 obtain ⟨i0, hi0, hz0, hz1, hz2⟩ := info_parts info_u8
 have HI := Lib.hid (And.intro hi0 (And.intro hz0 (And.intro hz1 hz2)))
 clear hi0 hz0 hz1 hz2
 go_enter Tryz.func133, Tryz.ntmps133
 go_wp2_with fail
 go_loopw [0, 5, 6] (fun m o i wr => ∃ j : Nat, j ≤ k ∧ i = .int .i64 j ∧ m = .int .u64 ((n / 256 ^ j : Nat) : Int) ∧ wr.ownsRow w.heap.size 5 1 o j ((leB n j).map vu8) ∧ Below w.heap.size w wr) (fun _ _ i _ => k - (intOf i).toNat)
 case atStart => exact ⟨0, by omega, rfl, by simp, World.ownsRow_nil _ _ _ _, Below.refl _ _⟩
 case round =>
  obtain ⟨j, hj, rfl, rfl, hO, hB⟩ := hrel
  by_cases hlt : j < k
  ·have hb8 := byteAt_int n j
   have hdl : n / 256 ^ j ≤ n := Nat.div_le_self _ _
   have hdq : n / 256 ^ (j + 1) = n / 256 ^ j / 256 := by rw [Nat.pow_succ, ← Nat.div_div_eq_div_mul]
   have hls := Lib.hid (leB_succ n j)
   generalize n / 256 ^ j = q at *
   have hdq2 := Lib.hid hdq
   have hb82 := Lib.hid hb8
   clear hdq hb8
   have HO := Lib.hid hO
   clear hO
   have hsz := hB.size
   have hbyte : ((q : Int) % 256) = ((byteAt n j).toNat : Int) := hb82.out.symm
   go_wp2_with (at_builtin; refine wpList_append_lies _ rfl _ _ _ rfl w.heap.size 5 i0 _ 1 1 Tryz.underlying26 HI.out.1 HI.out.2.1 HI.out.2.2.1 HI.out.2.2.2 rfl (by omega) _ j _ rfl (HO.out.alloc _) ⟨wr.heap.size, 0, none⟩ 1 1 [vu8 (byteAt n j)] rfl rfl (World.news_of_block (cs := #[vu8 (byteAt n j)]) (t := 5) (fr := (0, 0)) (heap_alloc_new wr _)) (by simp [Value.oneCell']) (by omega) (by unfold maxLen; omega) (by omega) (by simp; omega) (wr.heap.size + 1) (by simp) ?_; intro g cap w3 hO3 hg3 hat3 hlt3)
   refine ⟨⟨j + 1, by omega, by go_num, ?_, ?_, ?_⟩, by simp [intOf]; omega⟩
   ·rw [hdq2.out]; congr 1
   ·rw [hls.out]; simpa using hO3
   ·exact (hB.alloc hsz _).grown hg3 (by simp; omega) (fun r hr => (HO.out.lt r hr).1)
  ·obtain rfl : j = k := by omega
   go_wp2_with fail
   go_ret
   exact ⟨_, rfl, hO, hB⟩
theorem runsigned_any (v : Int) (hv : I64 v) (w : World) : Calls Tryz.prog 151 #[.int .i64 v] w fun e w' => e = .returned (.int .u64 ((u64 v : Nat) : Int)) ∧ w = w' := by
 unfold I64 at hv
 obtain ⟨h1, h2⟩ := hv
 by_cases hneg : v < 0
 ·have e : ((u64 v : Nat) : Int) = 18446744073709551616 + v := by unfold u64; omega
  rw [e]
  go_enter Tryz.func151, Tryz.ntmps151
  go_wp2_with fail
  go_ret
  refine ⟨?_, rfl⟩
  congr 2
  first | omega | (go_num; done) | (simp [IntKind.wrap]; omega)
 ·have e : ((u64 v : Nat) : Int) = v := by unfold u64; omega
  rw [e]
  go_enter Tryz.func151, Tryz.ntmps151
  go_wp2_with fail
  go_ret
  refine ⟨?_, rfl⟩
  try (congr 2)
  try first | omega | (go_num; done) | (simp [IntKind.wrap]; omega)
end Go.Proofs.YtdpniceapmikpaaGreat
namespace Go.Proofs.YtdpniceapmikpaaGreat
open Go.RowKit

set_option maxRecDepth 100000 in
set_option maxHeartbeats 2000000 in
theorem rputkey_yes (x : KeyD) (w : World) (hx : ofB x.k x.o x.c x.a x.r x.v = true) (hr : x.r < 9223372036854775808) (hv : I64 x.v) :
  Calls Tryz.prog 134 #[.agg x.cells.toArray] w fun e w' => ∃ u, e = .returned (.tuple #[u, .int .i64 0]) ∧ w'.ownsRow w.heap.size 5 1 u 20 ((keyB x).map vu8) ∧ Below w.heap.size w w' := by
 have hfit := fits_of hx hr hv
 rw [keyB_eq]
 obtain ⟨k, o, c, a, r, v⟩ := x
 obtain ⟨fk, fr, fo, fc, fa, _⟩ := hfit
 simp only at hx hr hv fk fr fo fc fa
 have HCK := Lib.hid (fun W => rcheck_any k o c a r v W hr)
 rw [hx] at HCK
 obtain ⟨K, uK⟩ : ∃ K : Nat, K = u64 k := ⟨_, rfl⟩
 obtain ⟨R, uR⟩ : ∃ K : Nat, K = u64 r := ⟨_, rfl⟩
 obtain ⟨O, uO⟩ : ∃ K : Nat, K = u64 o := ⟨_, rfl⟩
 obtain ⟨C, uC⟩ : ∃ K : Nat, K = u64 c := ⟨_, rfl⟩
 obtain ⟨A, uA⟩ : ∃ K : Nat, K = u64 a := ⟨_, rfl⟩
 obtain ⟨V, uV⟩ : ∃ K : Nat, K = u64 v := ⟨_, rfl⟩
 have sK := u64_small fk.1 (by omega)
 have sR := u64_small fr.1 (by omega)
 have sO := u64_small fo.1 (by omega)
 have sC := u64_small fc.1 (by omega)
 have sA := u64_small fa.1 (by omega)
 have hV : V < 18446744073709551616 := by rw [uV]; unfold u64; omega
 simp only
 rw [← uK, ← uR, ← uO, ← uC, ← uA, ← uV]
 rw [← uK] at sK
 rw [← uR] at sR
 rw [← uO] at sO
 rw [← uC] at sC
 rw [← uA] at sA
 subst sO sC sA
 have eK : leB K 1 = [byteAt K 0] := rfl
 have eR : leB R 1 = [byteAt R 0] := rfl
 have bK : ((byteAt K 0).toNat : Int) = k := by have := byteAt_int K 0; simp at this; omega
 have bR : ((byteAt R 0).toNat : Int) = r := by have := byteAt_int R 0; simp at this; omega
 have k0 : Blk (w.alloc (.cells #[.int .i64 k, .int .i64 (O : Int), .int .i64 (C : Int), .int .i64 (A : Int), .int .i64 r, .int .i64 v] 58)) w.heap.size 58 #[.int .i64 k, .int .i64 (O : Int), .int .i64 (C : Int), .int .i64 (A : Int), .int .i64 r, .int .i64 v] := Blk.new w _ _
 have hw0 : Below w.heap.size w (w.alloc (.cells #[.int .i64 k, .int .i64 (O : Int), .int .i64 (C : Int), .int .i64 (A : Int), .int .i64 r, .int .i64 v] 58)) := (Below.refl _ w).alloc (Nat.le_refl _) _
 have HS := Lib.hid (And.intro eK (And.intro eR (And.intro bK bR)))
 have HUV := Lib.hid uV
 clear uK uR uO uC uA hx uV
 have ec : (⟨k, (O : Int), (C : Int), (A : Int), r, v⟩ : KeyD).cells.toArray = #[.int .i64 k, .int .i64 (O : Int), .int .i64 (C : Int), .int .i64 (A : Int), .int .i64 r, .int .i64 v] := rfl
 rw [ec]
 clear ec
 go_enter Tryz.func134, Tryz.ntmps134
 go_upto_region 1 with fail
 obtain ⟨W, eW⟩ : ∃ W, W = w.alloc (.cells #[.int .i64 k, .int .i64 (O : Int), .int .i64 (C : Int), .int .i64 (A : Int), .int .i64 r, .int .i64 v] 58) := ⟨_, rfl⟩
 rw [← eW] at k0 hw0 ⊢
 clear eW
 go_wp2_with (refine wpList_load_row rfl 58 _ rfl w.heap.size rfl 58 #[.int .i64 k, .int .i64 (O : Int), .int .i64 (C : Int), .int .i64 (A : Int), .int .i64 r, .int .i64 v] (0, 0) _ k0 Tryz.underlying58 rfl (by show _ = some 6; kernel_rfl) ?_)
 refine (HCK.out W).mono ?_; rintro e w1 ⟨rfl, hb1⟩
 have b01 := k0.below hb1 k0.lt
 have hw1 := hw0.trans (hb1.mono hw0.size)
 have q0 := b01.cell_is 0 rfl
 have q4 := b01.cell_is 4 rfl
 have hX2 : Below w.heap.size w (w1.alloc (.cells #[.int .u8 k, .int .u8 r] 5)) := hw1.alloc hw1.size _
 have b02 := b01.alloc (.cells #[.int .u8 k, .int .u8 r] 5)
 have r2 : (w1.alloc (.cells #[.int .u8 k, .int .u8 r] 5)).ownsRow w.heap.size 5 1 (.slice (some ⟨w1.heap.size, 0, none⟩) 2 2) 2 ((leB K 1 ++ leB R 1).map vu8) := by
  rw [HS.out.1, HS.out.2.1]
  refine own_bytes (g := w1.heap.size) (e := 5) (l := [byteAt K 0] ++ [byteAt R 0]) (cs := #[.int .u8 k, .int .u8 r]) (Blk.new w1 _ _) hw1.size ?_ rfl (by unfold maxLen; omega)
  show [Value.int .u8 k, Value.int .u8 r] = [vu8 (byteAt K 0), vu8 (byteAt R 0)]
  unfold vu8
  rw [HS.out.2.2.1, HS.out.2.2.2]
 unfold errB
 simp only [if_true]
 go_upto_region 4 with fail
 obtain ⟨X3, eX3⟩ : ∃ X, X = w1.alloc (.cells #[.int .u8 k, .int .u8 r] 5) := ⟨_, rfl⟩
 rw [← eX3] at hX2 b02 r2 ⊢
 clear eX3 q0 q4 b01 hw1 hb1 k0 hw0
 have hb3 := hX2
 have r3 := r2
 have b03 : Blk X3 w.heap.size 58 #[.int .i64 k, .int .i64 (O : Int), .int .i64 (C : Int), .int .i64 (A : Int), .int .i64 r, .int .i64 v] := b02
 clear hX2 r2 b02
 have q4 := b03.cell_is 1 rfl
 go_wp2_with fail
 refine (rlow5_any O 2 X3 (by omega) (by omega)).mono ?_; rintro e L4 ⟨l4, rfl, hlo4, hlb4⟩
 obtain ⟨g4, cap4, e4, _, _⟩ := World.ownsRow.form hlo4 (by omega)
 subst e4
 have hu4 := BytesIn.own hlo4
 have hke4 := leB_len (O) 2
 have kk04 := (b03 : Blk _ _ _ _).below hlb4 (b03 : Blk _ _ _ _).lt
 have hbL4 := hb3.trans (hlb4.mono hb3.size)
 have ho4 := ownsRow_out (F := fun _ => False) (outB hlb4) r3 (fun _ _ => id)
 go_upto_region 5 with (at_builtin; refine wpList_append_bytes _ rfl (.tmp 15) (.tmp 19) rfl w.heap.size L4.heap.size 2 (.slice (some ⟨w1.heap.size, 0, none⟩) 2 2) _ rfl ho4 (some ⟨g4, 0, none⟩) 2 cap4 (leB (O) 2) rfl hke4 hu4 (by omega) hbL4.size ?_; intro hv4 X4 hO4 hg4)
 have hb4 := hbL4.grown hg4 hbL4.size (fun r hr => (ho4.lt r hr).1)
 have r4 : X4.ownsRow w.heap.size 5 1 hv4 (2 + 2) ((leB K 1 ++ leB R 1 ++ leB (O) 2).map vu8) := by rw [List.map_append]; exact hO4
 have b04 : Blk X4 w.heap.size 58 #[.int .i64 k, .int .i64 (O : Int), .int .i64 (C : Int), .int .i64 (A : Int), .int .i64 r, .int .i64 v] := (hg4.block _ kk04.lt (fun e => ne_own ho4 kk04 (by decide) _ e.symm rfl)).trans kk04
 clear q4 kk04 hbL4 hO4 hg4 hlo4 hlb4 hu4 hke4 ho4 hb3 r3 b03
 have q5 := b04.cell_is 2 rfl
 go_wp2_with fail
 refine (rlow5_any C 4 X4 (by omega) (by omega)).mono ?_; rintro e L5 ⟨l5, rfl, hlo5, hlb5⟩
 obtain ⟨g5, cap5, e5, _, _⟩ := World.ownsRow.form hlo5 (by omega)
 subst e5
 have hu5 := BytesIn.own hlo5
 have hke5 := leB_len (C) 4
 have kk05 := (b04 : Blk _ _ _ _).below hlb5 (b04 : Blk _ _ _ _).lt
 have hbL5 := hb4.trans (hlb5.mono hb4.size)
 have ho5 := ownsRow_out (F := fun _ => False) (outB hlb5) r4 (fun _ _ => id)
 go_upto_region 6 with (at_builtin; refine wpList_append_bytes _ rfl (.tmp 21) (.tmp 25) rfl w.heap.size L5.heap.size (2 + 2) hv4 _ rfl ho5 (some ⟨g5, 0, none⟩) 4 cap5 (leB (C) 4) rfl hke5 hu5 (by omega) hbL5.size ?_; intro hv5 X5 hO5 hg5)
 have hb5 := hbL5.grown hg5 hbL5.size (fun r hr => (ho5.lt r hr).1)
 have r5 : X5.ownsRow w.heap.size 5 1 hv5 ((2 + 2) + 4) ((leB K 1 ++ leB R 1 ++ leB (O) 2 ++ leB (C) 4).map vu8) := by rw [List.map_append]; exact hO5
 have b05 : Blk X5 w.heap.size 58 #[.int .i64 k, .int .i64 (O : Int), .int .i64 (C : Int), .int .i64 (A : Int), .int .i64 r, .int .i64 v] := (hg5.block _ kk05.lt (fun e => ne_own ho5 kk05 (by decide) _ e.symm rfl)).trans kk05
 clear q5 kk05 hbL5 hO5 hg5 hlo5 hlb5 hu5 hke5 ho5 hb4 r4 b04
 have q6 := b05.cell_is 3 rfl
 go_wp2_with fail
 refine (rlow5_any A 4 X5 (by omega) (by omega)).mono ?_; rintro e L6 ⟨l6, rfl, hlo6, hlb6⟩
 obtain ⟨g6, cap6, e6, _, _⟩ := World.ownsRow.form hlo6 (by omega)
 subst e6
 have hu6 := BytesIn.own hlo6
 have hke6 := leB_len (A) 4
 have kk06 := (b05 : Blk _ _ _ _).below hlb6 (b05 : Blk _ _ _ _).lt
 have hbL6 := hb5.trans (hlb6.mono hb5.size)
 have ho6 := ownsRow_out (F := fun _ => False) (outB hlb6) r5 (fun _ _ => id)
 go_upto_region 7 with (at_builtin; refine wpList_append_bytes _ rfl (.tmp 27) (.tmp 31) rfl w.heap.size L6.heap.size (2 + 2 + 4) hv5 _ rfl ho6 (some ⟨g6, 0, none⟩) 4 cap6 (leB (A) 4) rfl hke6 hu6 (by omega) hbL6.size ?_; intro hv6 X6 hO6 hg6)
 have hb6 := hbL6.grown hg6 hbL6.size (fun r hr => (ho6.lt r hr).1)
 have r6 : X6.ownsRow w.heap.size 5 1 hv6 ((2 + 2 + 4) + 4) ((leB K 1 ++ leB R 1 ++ leB (O) 2 ++ leB (C) 4 ++ leB (A) 4).map vu8) := by rw [List.map_append]; exact hO6
 have b06 : Blk X6 w.heap.size 58 #[.int .i64 k, .int .i64 (O : Int), .int .i64 (C : Int), .int .i64 (A : Int), .int .i64 r, .int .i64 v] := (hg6.block _ kk06.lt (fun e => ne_own ho6 kk06 (by decide) _ e.symm rfl)).trans kk06
 clear q6 kk06 hbL6 hO6 hg6 hlo6 hlb6 hu6 hke6 ho6 hb5 r5 b05
 have q7 := b06.cell_is 5 rfl
 go_wp2_with fail
 refine (runsigned_any v hv X6).mono ?_; rintro e c6 ⟨rfl, hwc⟩
 subst hwc
 rw [← HUV.out]
 go_wp2_with fail
 refine (rlow5_any V 8 X6 (by omega) (by omega)).mono ?_; rintro e L7 ⟨l7, rfl, hlo7, hlb7⟩
 obtain ⟨g7, cap7, e7, _, _⟩ := World.ownsRow.form hlo7 (by omega)
 subst e7
 have hu7 := BytesIn.own hlo7
 have hke7 := leB_len (V) 8
 have kk07 := (b06 : Blk _ _ _ _).below hlb7 (b06 : Blk _ _ _ _).lt
 have hbL7 := hb6.trans (hlb7.mono hb6.size)
 have ho7 := ownsRow_out (F := fun _ => False) (outB hlb7) r6 (fun _ _ => id)
 go_wp2_with (at_builtin; refine wpList_append_bytes _ rfl (.tmp 33) (.tmp 37) rfl w.heap.size L7.heap.size (2 + 2 + 4 + 4) hv6 _ rfl ho7 (some ⟨g7, 0, none⟩) 8 cap7 (leB (V) 8) rfl hke7 hu7 (by omega) hbL7.size ?_; intro hv7 X7 hO7 hg7)
 have hb7 := hbL7.grown hg7 hbL7.size (fun r hr => (ho7.lt r hr).1)
 have r7 : X7.ownsRow w.heap.size 5 1 hv7 ((2 + 2 + 4 + 4) + 8) ((leB K 1 ++ leB R 1 ++ leB (O) 2 ++ leB (C) 4 ++ leB (A) 4 ++ leB (V) 8).map vu8) := by rw [List.map_append]; exact hO7
 have b07 : Blk X7 w.heap.size 58 #[.int .i64 k, .int .i64 (O : Int), .int .i64 (C : Int), .int .i64 (A : Int), .int .i64 r, .int .i64 v] := (hg7.block _ kk07.lt (fun e => ne_own ho7 kk07 (by decide) _ e.symm rfl)).trans kk07
 clear q7 kk07 hbL7 hO7 hg7 hlo7 hlb7 hu7 hke7 ho7 hb6 r6 b06

 go_ret2
 exact ⟨_, rfl, by simpa [List.append_assoc] using r7, hb7⟩
end Go.Proofs.YtdpniceapmikpaaGreat
namespace Go.Proofs.YtdpniceapmikpaaGreat
open Go.RowKit

theorem leB_kind (K : Nat) (h : K ≤ 3) : (leB K 4).map vu8 = [.int .u8 (K : Int), .int .u8 0, .int .u8 0, .int .u8 0] := by
 have e : leB K 4 = [byteAt K 0, byteAt K 1, byteAt K 2, byteAt K 3] := rfl
 have b0 := byteAt_int K 0
 have b1 := byteAt_int K 1
 have b2 := byteAt_int K 2
 have b3 := byteAt_int K 3
 rw [e]
 show [Value.int .u8 _, Value.int .u8 _, Value.int .u8 _, Value.int .u8 _] = _
 rw [b0, b1, b2, b3]
 have h0 : ((K / 256 ^ 0 : Nat) : Int) % 256 = (K : Int) := by simp; omega
 have h1 : ((K / 256 ^ 1 : Nat) : Int) % 256 = 0 := by rw [Nat.div_eq_of_lt (by omega)]; rfl
 have h2 : ((K / 256 ^ 2 : Nat) : Int) % 256 = 0 := by rw [Nat.div_eq_of_lt (by omega)]; rfl
 have h3 : ((K / 256 ^ 3 : Nat) : Int) % 256 = 0 := by rw [Nat.div_eq_of_lt (by omega)]; rfl
 rw [h0, h1, h2, h3]
set_option maxRecDepth 100000 in
set_option maxHeartbeats 4000000 in
theorem rput5_yes (o : ObjD) (ho : o.ok) (hr : rightsOk o) (hv : ∀ x ∈ o.slots, I64 x.v) (n : Int) (w : World) (hy : objB o n = true) :
  Calls Tryz.prog 96 #[.agg o.cells.toArray, .int .i64 n] w fun e w' => e = .returned (.tuple #[sectorV (sectorL (objL o)), .int .i64 0]) ∧ Below w.heap.size w w' := by
 obtain ⟨⟨k1, k2⟩, ⟨c1, c2⟩, ⟨l1, l2⟩, n1, n2, hs⟩ := objB_facts hy
 have hck := fun W => rocheck_any o ho hr n W
 rw [hy] at hck
 have HCK := Lib.hid hck
 have hl0 : sector0.length = 512 := List.length_replicate
 have hlen := objL_len o ho
 have hbl := sectorL_len (objL o) (by omega)
 obtain ⟨cs, hc⟩ : ∃ cs, cs = o.cells.toArray := ⟨_, rfl⟩
 have HLK := Lib.hid (fun W (hb : Blk W w.heap.size 62 cs) j x hx => load_key ho hb hc j x hx)
 have HLB := Lib.hid (fun W (hb : Blk W w.heap.size 62 cs) j x hx => load_byte ho hb hc j x hx)
 have HRG := Lib.hid (fun W (hb : Blk W w.heap.size 62 cs) => obj_range hb hc)
 have scs : (Tryz.prog.info? 62).map (·.size) = some cs.size := by rw [hc, List.size_toArray, ObjD.len ho]; kernel_rfl
 rw [← hc] at HCK ⊢
 have HKEY := Lib.hid (fun (W : World) (j : Nat) (x : KeyD) (hx : o.slots[j]? = some x) => rputkey_yes x W (hs x (List.mem_of_getElem? hx)) (hr x (List.mem_of_getElem? hx)) (hv x (List.mem_of_getElem? hx)))
 obtain ⟨kd, ct, cl, slots, bytes⟩ := o
 have hks : slots.length = 16 := ho.1
 have hbs : bytes.length = 64 := ho.2
 simp only at k1 k2 c1 c2 l1 l2 HLK HLB HKEY
 obtain ⟨K, rfl⟩ : ∃ K : Nat, kd = K := ⟨kd.toNat, by omega⟩
 obtain ⟨C, rfl⟩ : ∃ K : Nat, ct = K := ⟨ct.toNat, by omega⟩
 obtain ⟨L, rfl⟩ : ∃ K : Nat, cl = K := ⟨cl.toNat, by omega⟩
 have uK : u64 (K : Int) = K := by unfold u64; omega
 have uC : u64 (C : Int) = C := by unfold u64; omega
 have uL : u64 (L : Int) = L := by unfold u64; omega
 obtain ⟨pre, epre⟩ : ∃ pre, pre = leB K 4 ++ leB C 4 ++ leB L 4 := ⟨_, rfl⟩
 have hpre : pre.length = 12 := by rw [epre]; simp [leB_len]
 have eobj : objL ⟨K, C, L, slots, bytes⟩ = pre ++ slots.flatMap keyB ++ bytes := by unfold objL; rw [uK, uC, uL, epre]
 obtain ⟨ol, eol⟩ : ∃ ol, ol = objL ⟨K, C, L, slots, bytes⟩ := ⟨_, rfl⟩
 rw [← eol] at hbl hlen eobj ⊢
 have HPRE := Lib.hid epre
 have HOBJ := Lib.hid eobj
 obtain ⟨W, eW⟩ : ∃ W, W = ((w.alloc (.cells cs 62)).alloc (.cells Tryz.zeroCells111 111)).alloc (.cells Tryz.zeroCells111 111) := ⟨_, rfl⟩
 have hb0 : Below w.heap.size w W := by rw [eW]; exact (((Below.refl _ w).alloc (Nat.le_refl _) _).alloc (by simp) _).alloc (by simp; omega) _
 have z0 : Blk W w.heap.size 62 cs := by rw [eW]; exact ((Blk.new w _ _).alloc _).alloc _
 have z1 : Blk W (w.heap.size + 1) 111 (sector0.map vu8).toArray := by rw [eW, ← zero111]; exact (Blk.new2 w _ _ _).alloc _
 have z2 : Blk W (w.heap.size + 2) 111 (sector0.map vu8).toArray := by rw [eW, ← zero111]; exact Blk.new' (by simp)
 clear hy hs hr hv ho hck hc eobj epre eol uK uC uL
 unfold sectorV
 go_enter Tryz.func96, Tryz.ntmps96
 go_upto_region 2 with fail
 rw [← eW]
 clear eW
 have zz1 := Lib.hid z1
 have zz2 := Lib.hid z2
 have zb := Lib.hid hb0
 go_wp2_with (refine wpList_load_row rfl 62 _ rfl w.heap.size rfl 62 cs (0, 0) _ z0 Tryz.underlying62 rfl scs ?_)
 refine (HCK.out W).mono ?_; rintro e w1 ⟨rfl, hb1⟩
 have b0 := z0.below hb1 z0.lt
 have b1 := Lib.hid (zz1.out.below hb1 zz1.out.lt)
 have b2 := Lib.hid (zz2.out.below hb1 zz2.out.lt)
 have hB1 := Lib.hid (zb.out.trans (hb1.mono zb.out.size))
 have g0 : w1.cell? ⟨w.heap.size, 0, none⟩ = some (.int .i64 (K : Int)) := (HRG.out w1 b0 0).trans rfl
 clear z0 zz1 zz2 zb hb1 hb0 z1 z2
 unfold errB
 simp only [if_true]
 have hX2 : Below w.heap.size w (w1.alloc (.cells #[.int .u8 (K : Int), .int .u8 0, .int .u8 0, .int .u8 0] 5)) := hB1.out.alloc hB1.out.size _
 have r2 : (w1.alloc (.cells #[.int .u8 (K : Int), .int .u8 0, .int .u8 0, .int .u8 0] 5)).ownsRow w.heap.size 5 1 (.slice (some ⟨w1.heap.size, 0, none⟩) 4 4) 4 ((leB K 4).map vu8) := by
  refine own_bytes (g := w1.heap.size) (e := 5) (l := leB K 4) (cs := #[.int .u8 (K : Int), .int .u8 0, .int .u8 0, .int .u8 0]) (Blk.new w1 _ _) hB1.out.size ?_ (leB_len K 4) (by unfold maxLen; omega)
  rw [leB_kind K (by omega)]
 go_upto_region 5 with fail
 obtain ⟨X2, eX2⟩ : ∃ X, X = w1.alloc (.cells #[.int .u8 (K : Int), .int .u8 0, .int .u8 0, .int .u8 0] 5) := ⟨_, rfl⟩
 have b02 : Blk X2 w.heap.size 62 cs := by rw [eX2]; exact b0.alloc _
 have b12 : Blk X2 (w.heap.size + 1) 111 (sector0.map vu8).toArray := by rw [eX2]; exact b1.out.alloc _
 have b22 : Blk X2 (w.heap.size + 2) 111 (sector0.map vu8).toArray := by rw [eX2]; exact b2.out.alloc _
 rw [← eX2] at hX2 r2 ⊢
 have q1 : X2.cell? ⟨w.heap.size, 1, none⟩ = some (.int .i64 (C : Int)) := (HRG.out X2 b02 1).trans rfl
 have H1 := Lib.hid b12
 have H2 := Lib.hid b22
 clear eX2 g0 b0 b1 b2 hB1 b12 b22
 go_wp2_with fail
 refine (rlow5_any C 4 X2 (by omega) (by omega)).mono ?_; rintro e L4 ⟨l4, rfl, hlo4, hlb4⟩
 obtain ⟨g4, cap4, e4, _, _⟩ := World.ownsRow.form hlo4 (by omega)
 subst e4
 have hu4 := BytesIn.own hlo4
 have hke4 := leB_len C 4
 have kk0 := b02.below hlb4 b02.lt
 have kk1 := H1.out.below hlb4 H1.out.lt
 have kk2 := H2.out.below hlb4 H2.out.lt
 have hbL4 := hX2.trans (hlb4.mono hX2.size)
 have ho4 := ownsRow_out (F := fun _ => False) (outB hlb4) r2 (fun _ _ => id)
 go_upto_region 6 with (at_builtin; refine wpList_append_bytes _ rfl (.tmp 23) (.tmp 27) rfl w.heap.size L4.heap.size 4 (.slice (some ⟨w1.heap.size, 0, none⟩) 4 4) _ rfl ho4 (some ⟨g4, 0, none⟩) 4 cap4 (leB C 4) rfl hke4 hu4 (by omega) hbL4.size ?_; intro hv4 X4 hO4 hg4)
 have hb4 := hbL4.grown hg4 hbL4.size (fun r hr => (ho4.lt r hr).1)
 have r4 : X4.ownsRow w.heap.size 5 1 hv4 (4 + 4) ((leB K 4 ++ leB C 4).map vu8) := by rw [List.map_append]; exact hO4
 have b04 := (hg4.block _ kk0.lt (fun e => ne_own ho4 kk0 (by decide) _ e.symm rfl)).trans kk0
 have J1 := Lib.hid ((hg4.block _ kk1.lt (fun e => ne_own ho4 kk1 (by decide) _ e.symm rfl)).trans kk1)
 have J2 := Lib.hid ((hg4.block _ kk2.lt (fun e => ne_own ho4 kk2 (by decide) _ e.symm rfl)).trans kk2)
 have q2 : X4.cell? ⟨w.heap.size, 2, none⟩ = some (.int .i64 (L : Int)) := (HRG.out X4 b04 2).trans rfl
 clear q1 kk0 kk1 kk2 hbL4 hO4 hg4 hlo4 hlb4 hu4 hke4 ho4 hX2 r2 b02 H1 H2
 go_wp2_with fail
 refine (rlow5_any L 4 X4 (by omega) (by omega)).mono ?_; rintro e L5 ⟨l5, rfl, hlo5, hlb5⟩
 obtain ⟨g5, cap5, e5, _, _⟩ := World.ownsRow.form hlo5 (by omega)
 subst e5
 have hu5 := BytesIn.own hlo5
 have hke5 := leB_len L 4
 have kk0 := (show Blk X4 w.heap.size 62 cs from b04).below hlb5 (show Blk X4 w.heap.size 62 cs from b04).lt
 have kk1 := (show Blk X4 (w.heap.size + 1) 111 (sector0.map vu8).toArray from J1.out).below hlb5 (show Blk X4 (w.heap.size + 1) 111 (sector0.map vu8).toArray from J1.out).lt
 have kk2 := (show Blk X4 (w.heap.size + 2) 111 (sector0.map vu8).toArray from J2.out).below hlb5 (show Blk X4 (w.heap.size + 2) 111 (sector0.map vu8).toArray from J2.out).lt
 have hbL5 := hb4.trans (hlb5.mono hb4.size)
 have ho5 := ownsRow_out (F := fun _ => False) (outB hlb5) r4 (fun _ _ => id)
 go_upto_region 7 with (at_builtin; refine wpList_append_bytes _ rfl (.tmp 29) (.tmp 33) rfl w.heap.size L5.heap.size (4 + 4) hv4 _ rfl ho5 (some ⟨g5, 0, none⟩) 4 cap5 (leB L 4) rfl hke5 hu5 (by omega) hbL5.size ?_; intro hv5 X5 hO5 hg5)
 have hb5 := Lib.hid (hbL5.grown hg5 hbL5.size (fun r hr => (ho5.lt r hr).1))
 have r5 := Lib.hid (show X5.ownsRow w.heap.size 5 1 hv5 12 (pre.map vu8) by rw [HPRE.out, List.map_append]; exact hO5)
 have P0 := Lib.hid (show Blk X5 w.heap.size 62 cs from (hg5.block _ kk0.lt (fun e => ne_own ho5 kk0 (by decide) _ e.symm rfl)).trans kk0)
 have P1 := Lib.hid (show Blk X5 (w.heap.size + 1) 111 (sector0.map vu8).toArray from (hg5.block _ kk1.lt (fun e => ne_own ho5 kk1 (by decide) _ e.symm rfl)).trans kk1)
 have P2 := Lib.hid (show Blk X5 (w.heap.size + 2) 111 (sector0.map vu8).toArray from (hg5.block _ kk2.lt (fun e => ne_own ho5 kk2 (by decide) _ e.symm rfl)).trans kk2)
 clear q2 kk0 kk1 kk2 hbL5 hO5 hg5 hlo5 hlb5 hu5 hke5 ho5 hb4 r4 b04 J1 J2
 go_wp2_with fail
 go_loopw [7, 8] (fun u i wr => ∃ (j : Nat) (u' : Value), u' = u ∧ j ≤ 16 ∧ i = .int .i64 (j : Int) ∧ wr.ownsRow w.heap.size 5 1 u' (12 + 20 * j) ((pre ++ (slots.take j).flatMap keyB).map vu8) ∧ Blk wr w.heap.size 62 cs ∧ Blk wr (w.heap.size + 1) 111 (sector0.map vu8).toArray ∧ Blk wr (w.heap.size + 2) 111 (sector0.map vu8).toArray ∧ Below w.heap.size w wr) (fun _ i _ => 16 - (intOf i).toNat)
 case atStart => exact ⟨0, _, rfl, by omega, rfl, by simpa using r5.out, P0.out, P1.out, P2.out, hb5.out⟩
 case round =>
  obtain ⟨j, u, rfl, hj, rfl, hO, hb0, hb1, hb2, hBw⟩ := hrel
  have HO := Lib.hid hO
  have H0 := Lib.hid hb0
  have H1 := Lib.hid hb1
  have H2 := Lib.hid hb2
  have HB := Lib.hid hBw
  clear hO hb0 hb1 hb2 hBw
  by_cases hlt : j < 16
  ·have hji : (j : Int) < 16 := by omega
   obtain ⟨x, hx⟩ : ∃ x, slots[j]? = some x := ⟨_, List.getElem?_eq_getElem (by omega)⟩
   have HX := Lib.hid hx
   clear hx
   go_wp2_with (refine wpList_load_midG rfl 58 _ rfl w.heap.size (3 + j * 6) rfl _ (HLK.out _ H0.out j x HX.out) ?_)
   refine (HKEY.out wr j x HX.out).mono ?_; rintro e w2 ⟨u2, rfl, hO2, hbw2⟩
   obtain ⟨a2, cap2, rfl⟩ := slice_form hO2
   have hU2 := BytesIn.own hO2
   have m0 := H0.out.below hbw2 H0.out.lt
   have m1 := H1.out.below hbw2 H1.out.lt
   have m2 := H2.out.below hbw2 H2.out.lt
   have mO := ownsRow_out (F := fun _ => False) (outB hbw2) HO.out (fun _ _ => id)
   have mB := HB.out.trans (hbw2.mono HB.out.size)
   have hk20 := keyB_len x
   go_wp2_with (at_builtin; refine wpList_append_bytes _ rfl (.tmp 47) (.tmp 48) rfl w.heap.size w2.heap.size (12 + 20 * j) u _ rfl mO a2 20 cap2 (keyB x) rfl hk20 hU2 (by omega) mB.size ?_; intro u4 w4 hO4 hg4)
   go_roundw
   case rel =>
    refine ⟨j + 1, _, rfl, by omega, by go_num, ?_, (hg4.block _ m0.lt (fun e => ne_own mO m0 (by decide) _ e.symm rfl)).trans m0, (hg4.block _ m1.lt (fun e => ne_own mO m1 (by decide) _ e.symm rfl)).trans m1, (hg4.block _ m2.lt (fun e => ne_own mO m2 (by decide) _ e.symm rfl)).trans m2, mB.grown hg4 mB.size (fun r hr => (mO.lt r hr).1)⟩
    have hjl : j < slots.length := by omega
    have ex : slots[j] = x := Option.some.inj ((List.getElem?_eq_getElem hjl).symm.trans HX.out)
    rw [keys_take slots j hjl, ex, ← List.append_assoc, List.map_append, show 12 + 20 * (j + 1) = 12 + 20 * j + 20 by omega]
    exact hO4
   case measure => simp [intOf]; omega
  ·have hji : ¬ (j : Int) < 16 := by omega
   have hj16 : j = 16 := by omega
   have hO := HO.out
   rw [hj16, show slots.take 16 = slots from List.take_of_length_le (by omega)] at hO
   have H332 := Lib.hid hO
   clear hO hlt HO hj16
   go_wp2_with fail
   go_loopw [7, 11] (fun u i wr => ∃ (j : Nat) (u' : Value), u' = u ∧ j ≤ 64 ∧ i = .int .i64 (j : Int) ∧ wr.ownsRow w.heap.size 5 1 u' (332 + j) ((pre ++ slots.flatMap keyB ++ bytes.take j).map vu8) ∧ Blk wr w.heap.size 62 cs ∧ Blk wr (w.heap.size + 1) 111 (sector0.map vu8).toArray ∧ Blk wr (w.heap.size + 2) 111 (sector0.map vu8).toArray ∧ Below w.heap.size w wr) (fun _ i _ => 64 - (intOf i).toNat)
   case atStart => exact ⟨0, _, rfl, by omega, rfl, by simpa using H332.out, H0.out, H1.out, H2.out, HB.out⟩
   case round =>
    obtain ⟨j, u, rfl, hj, rfl, hO, hb0, hb1, hb2, hBw⟩ := hrel
    have HO := Lib.hid hO
    have H0 := Lib.hid hb0
    have H1 := Lib.hid hb1
    have H2 := Lib.hid hb2
    have HB := Lib.hid hBw
    clear hO hb0 hb1 hb2 hBw
    by_cases hlt : j < 64
    ·have hji : (j : Int) < 64 := by omega
     obtain ⟨c, hc⟩ : ∃ c, bytes[j]? = some c := ⟨_, List.getElem?_eq_getElem (by omega)⟩
     have HC := Lib.hid hc
     have cj := HLB.out wr H0.out j c hc
     have nU : BytesIn (wr.alloc (.cells #[vu8 c] 5)) (wr.alloc (.cells #[vu8 c] 5)).heap.size (.slice (some ⟨wr.heap.size, 0, none⟩) 1 1) [c] := BytesIn.own (own_bytes (B := 0) (g := wr.heap.size) (e := 5) (l := [c]) (cs := #[vu8 c]) (Blk.new wr _ _) (Nat.zero_le _) rfl rfl (by unfold maxLen; omega))
     have mO := HO.out.alloc (.cells #[vu8 c] 5)
     have m0 := H0.out.alloc (.cells #[vu8 c] 5)
     have m1 := H1.out.alloc (.cells #[vu8 c] 5)
     have m2 := H2.out.alloc (.cells #[vu8 c] 5)
     have mB := HB.out.alloc HB.out.size (.cells #[vu8 c] 5)
     clear hc
     go_wp2_with (at_builtin; refine wpList_append_bytes _ rfl (.tmp 54) (.tmp 59) rfl w.heap.size (wr.alloc (.cells #[vu8 c] 5)).heap.size (332 + j) u _ rfl mO (some ⟨wr.heap.size, 0, none⟩) 1 1 [c] rfl rfl nU (by omega) mB.size ?_; intro u4 w4 hO4 hg4)
     go_roundw
     case rel =>
      refine ⟨j + 1, _, rfl, by omega, by go_num, ?_, (hg4.block _ m0.lt (fun e => ne_own mO m0 (by decide) _ e.symm rfl)).trans m0, (hg4.block _ m1.lt (fun e => ne_own mO m1 (by decide) _ e.symm rfl)).trans m1, (hg4.block _ m2.lt (fun e => ne_own mO m2 (by decide) _ e.symm rfl)).trans m2, mB.grown hg4 mB.size (fun r hr => (mO.lt r hr).1)⟩
      have hjl : j < bytes.length := by omega
      have ex : bytes[j] = c := Option.some.inj ((List.getElem?_eq_getElem hjl).symm.trans HC.out)
      rw [List.take_succ_eq_append_getElem hjl, ex, ← List.append_assoc, List.map_append, show 332 + (j + 1) = 332 + j + 1 by omega]
      exact hO4
     case measure => simp [intOf]; omega
    ·have hji : ¬ (j : Int) < 64 := by omega
     have hj64 : j = 64 := by omega
     have hO := HO.out
     rw [hj64, show bytes.take 64 = bytes from List.take_of_length_le (by omega), ← HOBJ.out] at hO
     have H396 := Lib.hid hO
     clear hO hlt HO hj64 HLB HKEY HLK HCK HPRE
     go_wp2_with fail
     go_loopw [7] (fun u wr => ∃ (j : Nat) (u' : Value), u' = u ∧ 396 + j ≤ 508 ∧ wr.ownsRow w.heap.size 5 1 u' (396 + j) ((ol ++ List.replicate j 0).map vu8) ∧ Blk wr (w.heap.size + 1) 111 (sector0.map vu8).toArray ∧ Blk wr (w.heap.size + 2) 111 (sector0.map vu8).toArray ∧ Below w.heap.size w wr) (fun u _ => 508 - (match u with | .slice _ n _ => n | _ => 0))
     case atStart => exact ⟨0, _, rfl, by omega, by simpa using H396.out, H1.out, H2.out, HB.out⟩
     case round =>
      obtain ⟨j, u, rfl, hj, hO, hb1, hb2, hBw⟩ := hrel
      obtain ⟨a, cap, rfl⟩ := slice_form hO
      have HO := Lib.hid hO
      have H1 := Lib.hid hb1
      have H2 := Lib.hid hb2
      have HB := Lib.hid hBw
      clear hO hb1 hb2 hBw
      by_cases hlt : 396 + j < 508
      ·have hji : (396 : Int) + (j : Int) < 508 := by omega
       have nU : BytesIn (wr.alloc (.cells #[vu8 0] 5)) (wr.alloc (.cells #[vu8 0] 5)).heap.size (.slice (some ⟨wr.heap.size, 0, none⟩) 1 1) [0] := BytesIn.own (own_bytes (B := 0) (g := wr.heap.size) (e := 5) (l := [0]) (cs := #[vu8 0]) (Blk.new wr _ _) (Nat.zero_le _) rfl rfl (by unfold maxLen; omega))
       have mO := HO.out.alloc (.cells #[vu8 0] 5)
       have m1 := H1.out.alloc (.cells #[vu8 0] 5)
       have m2 := H2.out.alloc (.cells #[vu8 0] 5)
       have mB := HB.out.alloc HB.out.size (.cells #[vu8 0] 5)
       go_wp2_with (at_builtin; refine wpList_append_bytes _ rfl (.tmp 64) (.tmp 65) rfl w.heap.size (wr.alloc (.cells #[vu8 0] 5)).heap.size (396 + j) _ _ rfl mO (some ⟨wr.heap.size, 0, none⟩) 1 1 [0] rfl rfl nU (by omega) mB.size ?_; intro u4 w4 hO4 hg4)
       obtain ⟨a4, cap4, rfl⟩ := slice_form hO4
       go_roundw
       case rel =>
        refine ⟨j + 1, _, rfl, by omega, ?_, (hg4.block _ m1.lt (fun e => ne_own mO m1 (by decide) _ e.symm rfl)).trans m1, (hg4.block _ m2.lt (fun e => ne_own mO m2 (by decide) _ e.symm rfl)).trans m2, mB.grown hg4 mB.size (fun r hr => (mO.lt r hr).1)⟩
        rw [show ol ++ List.replicate (j + 1) (0 : UInt8) = (ol ++ List.replicate j 0) ++ [0] by rw [List.append_assoc, List.replicate_succ'], List.map_append]
        exact hO4
       case measure => simp; omega
      ·have hji : ¬ (396 : Int) + (j : Int) < 508 := by omega
       have hje : 396 + j = 508 := by omega
       have hO := HO.out
       have hpad : ol ++ List.replicate j (0 : UInt8) = padL ol := by unfold padL; rw [show j = 508 - ol.length by omega]
       rw [hpad] at hO
       have HU := BytesIn.own hO
       have hlp := padL_len ol (by omega)
       have eS : sealOf (padL ol) = sectorL ol := rfl
       obtain ⟨p, ep⟩ : ∃ p, p = padL ol := ⟨_, rfl⟩
       rw [← ep] at HU hlp eS
       have HSE := Lib.hid (rseal_any _ p wr HU (by omega))
       have HES := Lib.hid eS
       clear hO HU hpad ep eS HO hje
       go_wp2_with fail
       refine HSE.out.mono ?_; rintro e w4 ⟨u2, rfl, hO4, hb4⟩
       obtain ⟨a2, cap2, rfl⟩ := slice_form hO4
       rw [HES.out, hlp] at hO4
       rw [hlp]
       have hU4 := BytesIn.own hO4
       have hown := hO4.lt
       have h1 := H1.out.below hb4 H1.out.lt
       have h2 := H2.out.below hb4 H2.out.lt
       have hBw := HB.out.trans (hb4.mono HB.out.size)
       have hw2 : w.heap.size + 2 < wr.heap.size := H2.out.lt
       obtain ⟨b, eb⟩ : ∃ b, b = sectorL ol := ⟨_, rfl⟩
       rw [← eb] at hbl hU4
       have hbe : b.length = sector0.length := by rw [hl0, hbl]
       have HL := Lib.hid hU4
       have EB := Lib.hid eb
       have HOWN := Lib.hid hown
       have M1 := Lib.hid h1
       have M2 := Lib.hid h2
       have MB := Lib.hid hBw
       clear hO4 hU4 hown h1 h2 hBw hb4 eb HSE H1 H2 HB HES
       go_wp2_with fail
       go_loopw [13] (fun i wr2 => ∃ k : Nat, k ≤ 512 ∧ i = .int .i64 (k : Int) ∧ Blk wr2 (w.heap.size + 2) 111 ((secTo b sector0 k).map vu8).toArray ∧ Blk wr2 (w.heap.size + 1) 111 (sector0.map vu8).toArray ∧ Out (fun i => i = w.heap.size + 2) w4 wr2) (fun i _ => 512 - (intOf i).toNat)
       case atStart => exact ⟨0, by omega, rfl, by rw [secTo_zero]; exact M2.out, M1.out, Out.refl _ _⟩
       case round =>
        obtain ⟨k, hk, rfl, hO, hR, hOut⟩ := hrel
        by_cases hkl : k < 512
        ·have hki : (k : Int) < 512 := by omega
         obtain ⟨c, hc⟩ : ∃ c, b[k]? = some c := ⟨_, List.getElem?_eq_getElem (by omega)⟩
         have hU := HL.out.outO hOut (fun g hg e => by have := (HOWN.out g hg).1; omega)
         obtain ⟨g, off, rfl, hg, hcell⟩ := hU.at_ hc
         obtain ⟨u, hu⟩ := secTo_at hbe (j := k) (by omega)
         have cO := hO.cell_is k hu
         have fO := hO.frozen k
         have HO := Lib.hid (hO.set_ k (vu8 c))
         rw [secTo_set hbe hc] at HO
         have HR := Lib.hid (hR.far (p := ⟨w.heap.size + 2, k, none⟩) (by show w.heap.size + 1 ≠ w.heap.size + 2; omega) (vu8 c))
         have HOut := Lib.hid (hOut.trans (out_set (F := fun i => i = w.heap.size + 2) (w := wr) (g := w.heap.size + 2) (i := k) (v := vu8 c) rfl) (fun _ _ h => h))
         clear hO hR hOut hU
         go_wp2_with fail
         exact ⟨⟨k + 1, by omega, by go_num, HO.out, HR.out, HOut.out⟩, by simp [intOf]; omega⟩
        ·have hki : ¬ (k : Int) < 512 := by omega
         obtain rfl : k = 512 := by omega
         rw [secTo_all hbl hl0] at hO
         have hone := sector_all b
         have hsz := sector_size _ hbl
         have hse := sector_eq _ _ hl0 hbl
         have hfin : Below w.heap.size w wr := (Out.trans (F := fun i => w.heap.size ≤ i) (outB' MB.out (fun _ h => h)) hOut (fun i _ h => by omega)).below (Nat.le_refl _) (fun i hi h => by omega)
         have hfin2 := below_row hfin (b.map vu8).toArray (g := w.heap.size + 1) (by omega)
         clear hOut
         go_wp2_with (first
          | (refine wpList_load_row rfl 111 _ rfl (w.heap.size + 2) rfl 111 (b.map vu8).toArray (0, 0) _ hO Tryz.underlying111 rfl hsz ?_)
          | (refine wpList_store_row rfl 111 _ _ rfl (w.heap.size + 1) (b.map vu8).toArray rfl rfl 111 _ hR hsz hse hone ?_))
         exact bodyPost_ret (results_row_tmp2 Tryz.results96 _ _ _ _ _ (by rfl) (load_sector hbl (hR.row _)) (by rfl)) rfl ⟨by rw [← EB.out]; rfl, hfin2⟩
end Go.Proofs.YtdpniceapmikpaaGreat
