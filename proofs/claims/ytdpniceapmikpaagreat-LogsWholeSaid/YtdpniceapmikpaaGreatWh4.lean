/-
  The contracts of sums.wide and of the closure of sums.Put.
  The contract of sums.Put, for all numbers.
  The contract of sums.Get, for all bytes.
  The contracts of the reference's Crc and Wide, for all bytes.
  The contracts of the reference's Put and Get, for all numbers and bytes.
  Reslicing a slice of bytes that is read.
-/
import Derived.Deep.OwnRows
import Derived.Deep.AppendLies
import Derived.Test.YtdpniceapmikpaaGreatWh3
set_option linter.unusedVariables false
set_option linter.unusedSimpArgs false
namespace Go.Proofs.YtdpniceapmikpaaGreat
open Go.RowKit

def wideB (k : Int) : Bool := (k == 2) || (k == 4) || (k == 8)
def wideL : List (Int × Value) := [(2, .bool true), (4, .bool true), (8, .bool true)]
theorem wideL_yes (k : Int) (h : k = 2 ∨ k = 4 ∨ k = 8) : lookOf wideL k = some (.bool true) := by
 rcases h with rfl | rfl | rfl <;> rfl
theorem wideL_no (k : Int) (h : ¬ (k = 2 ∨ k = 4 ∨ k = 8)) : lookOf wideL k = none := by
 have h2 : (k == 2) = false := by simp; omega
 have h4 : (k == 4) = false := by simp; omega
 have h8 : (k == 8) = false := by simp; omega
 simp [lookOf, wideL, h2, h4, h8]

set_option maxHeartbeats 400000 in
theorem wide_any (k : Int) (w : World) : Calls Tryz.prog 136 #[.int .i64 k] w fun e w' => e = .returned (.bool (wideB k)) ∧ Below w.heap.size w w' := by
 have hmm := @run_makeMap Tryz.prog
 have m0 := MapAt.new w .i64
 have hb : Below w.heap.size w (w.alloc (.map #[] 0)) := (Below.refl _ _).alloc (Nat.le_refl _) _
 by_cases hk : k = 2 ∨ k = 4 ∨ k = 8
 ·have e : wideB k = true := by rcases hk with rfl | rfl | rfl <;> rfl
  have hlk := wideL_yes k hk
  rw [e]
  go_enter Tryz.func136, Tryz.ntmps136
  go_wp2_with (first
   | (refine wpList_insert_new _ rfl _ _ _ rfl Tryz.underlying267 Tryz.underlying3 w.heap.size [] rfl m0 2 rfl rfl (.bool true) rfl ?_; intro wa ma ta)
   | (refine wpList_insert_new _ rfl _ _ _ rfl Tryz.underlying267 Tryz.underlying3 w.heap.size [(2, .bool true)] rfl ma 4 rfl rfl (.bool true) rfl ?_; intro wb mb tb)
   | (refine wpList_insert_new _ rfl _ _ _ rfl Tryz.underlying267 Tryz.underlying3 w.heap.size [(2, .bool true), (4, .bool true)] rfl mb 8 rfl rfl (.bool true) rfl ?_; intro wc mc tc; have hl : (Instr.lookup 267 (.map (some w.heap.size)) (.int .i64 k) false).run Tryz.prog wc = .ok (.bool true) wc := run_lookup_ok wc Tryz.underlying267 Tryz.underlying3 w.heap.size _ mc k _ hlk false))
  go_ret
  exact ⟨rfl, tc.below (tb.below (ta.below hb (Nat.le_refl _)) (Nat.le_refl _)) (Nat.le_refl _)⟩
 ·have e : wideB k = false := by simp [wideB]; omega
  have hlk := wideL_no k hk
  rw [e]
  go_enter Tryz.func136, Tryz.ntmps136
  go_wp2_with (first
   | (refine wpList_insert_new _ rfl _ _ _ rfl Tryz.underlying267 Tryz.underlying3 w.heap.size [] rfl m0 2 rfl rfl (.bool true) rfl ?_; intro wa ma ta)
   | (refine wpList_insert_new _ rfl _ _ _ rfl Tryz.underlying267 Tryz.underlying3 w.heap.size [(2, .bool true)] rfl ma 4 rfl rfl (.bool true) rfl ?_; intro wb mb tb)
   | (refine wpList_insert_new _ rfl _ _ _ rfl Tryz.underlying267 Tryz.underlying3 w.heap.size [(2, .bool true), (4, .bool true)] rfl mb 8 rfl rfl (.bool true) rfl ?_; intro wc mc tc; have hl : (Instr.lookup 267 (.map (some w.heap.size)) (.int .i64 k) false).run Tryz.prog wc = .ok (.bool false) wc := run_lookup_none wc Tryz.underlying267 Tryz.underlying3 w.heap.size _ mc k _ (Tryz.zeroValue4 _) hlk false))
  go_ret
  exact ⟨rfl, tc.below (tb.below (ta.below hb (Nat.le_refl _)) (Nat.le_refl _)) (Nat.le_refl _)⟩

theorem next_any (m : Int) (N : Nat) (w : World) (hN : Blk w N 2 #[.int .i64 m]) (h0 : 0 ≤ m) (h1 : m ≤ 9223372036854775807) :
  Calls Tryz.prog 137 #[.pointer (some ⟨N, 0, none⟩)] w fun e w' => e = .returned (.int .u8 (m % 256)) ∧ w' = w.setCell ⟨N, 0, none⟩ (.int .i64 (m / 256)) := by
 have c := hN.cell_is 0 rfl
 have f := hN.frozen 0
 go_enter Tryz.func137, Tryz.ntmps137
 go_wp2
 go_ret
 exact ⟨rfl, rfl⟩

end Go.Proofs.YtdpniceapmikpaaGreat
namespace Go.Proofs.YtdpniceapmikpaaGreat
open Go.RowKit

/-- the i-th byte of a number, the lowest ahead -/
def byteAt (n i : Nat) : UInt8 := UInt8.ofNat (n / 256 ^ i % 256)
def leB (n k : Nat) : List UInt8 := (List.range k).map (byteAt n)
theorem leB_len (n k : Nat) : (leB n k).length = k := by simp [leB]
def putV (n k j : Nat) : Array Value := (Array.range k).map fun i => vu8 (if i < j then byteAt n i else 0)
theorem putV_size (n k j : Nat) : (putV n k j).size = k := by simp [putV]
theorem putV_at (n k j i : Nat) (h : i < k) : (putV n k j)[i]? = some (vu8 (if i < j then byteAt n i else 0)) := by simp [putV, h]
theorem putV_set (n k j : Nat) (h : j < k) : (putV n k j).setIfInBounds j (vu8 (byteAt n j)) = putV n k (j + 1) := by
 apply Array.ext_getElem?
 intro i
 rw [Array.getElem?_setIfInBounds]
 by_cases hi : i < k
 ·rw [putV_at _ _ _ _ hi, putV_at _ _ _ _ hi]
  by_cases hik : j = i
  ·subst hik; simp [putV_size, hi]
  ·rw [if_neg hik]
   by_cases h1 : i < j
   ·rw [if_pos h1, if_pos (by omega)]
   ·rw [if_neg h1, if_neg (by omega)]
 ·rw [Array.getElem?_eq_none (by rw [putV_size]; omega), Array.getElem?_eq_none (by rw [putV_size]; omega), if_neg (by omega)]
theorem putV_made (n k : Nat) : madeCells #[.int .u8 0] k = putV n k 0 := by
 apply Array.ext_getElem?
 intro i
 by_cases hi : i < k
 ·rw [putV_at _ _ _ _ hi, if_neg (by omega)]
  simp [madeCells, hi, Nat.mod_one]
  try rfl
 ·rw [Array.getElem?_eq_none (by simp [madeCells]; omega), Array.getElem?_eq_none (by rw [putV_size]; omega)]
theorem info_u8 : (Tryz.prog.info? 5).map (fun i => (i.zero, i.size, i.bytes)) = some (some (.int .u8 0), 1, 1) := by kernel_rfl
theorem own_bytes {W : World} {B g n : Nat} {e : TypeId} {l : List UInt8} {cs : Array Value} (h : Blk W g e cs) (hB : B ≤ g) (hcs : cs.toList = l.map vu8) (hn : l.length = n) (hm : n ≤ maxLen) : W.ownsRow B e 1 (.slice (some ⟨g, 0, none⟩) n n) n (l.map vu8) := by
 have hs : cs.size = n := by
  have := congrArg List.length hcs
  simpa [hn] using this
 refine ⟨by simp [hn], .inr ⟨g, n, cs, rfl, hB, h, Nat.le_refl _, hm, by omega, ?_⟩⟩
 rw [← hcs, List.take_of_length_le (by simp; omega)]
theorem putV_all (n k : Nat) : (putV n k k).toList = (leB n k).map vu8 := by
 apply List.ext_getElem?
 intro i
 rw [Array.getElem?_toList]
 by_cases hi : i < k
 ·rw [putV_at _ _ _ _ hi, if_pos hi]; simp [leB, hi]
 ·rw [Array.getElem?_eq_none (by rw [putV_size]; omega), List.getElem?_eq_none (by simp [leB]; omega)]
theorem byteAt_int (n i : Nat) : ((byteAt n i).toNat : Int) = ((n / 256 ^ i : Nat) : Int) % 256 := by
 unfold byteAt
 rw [UInt8.toNat_ofNat']
 omega
set_option maxRecDepth 100000 in
set_option maxHeartbeats 1000000 in
theorem put_2 (n : Nat) (w : World) (h : 2 < 8 → n / 2 ^ (8 * 2) = 0) (hn : (n : Int) ≤ 9223372036854775807) : Calls Tryz.prog 101 #[.int .i64 n, .int .i64 2] w fun e w' =>
  ∃ v, e = .returned (.tuple #[v, .int .i64 0]) ∧ w'.ownsRow w.heap.size 5 1 v 2 ((leB n 2).map vu8) ∧ Below w.heap.size w w' := by
 go_enter Tryz.func101, Tryz.ntmps101
 go_wp2_with fail
 refine (wide_any _ _).mono ?_; rintro e w1 ⟨rfl, hb⟩
 have K1 : Blk w1 w.heap.size 2 #[.int .i64 n] := (Blk.new w _ _).below hb (by simp)
 have hbb : Below w.heap.size w w1 := ((Below.refl _ _).alloc (Nat.le_refl _) _).trans (hb.mono (by simp))
 have c := K1.cell_is 0 rfl
 have hne : ¬ (n : Int) < 0 := by omega
 have hz := hbb.size
 clear hb
 try (have hq : (n : Int) / 65536 = 0 := by have := h (by omega); simp at this; omega)
 try (have hq : (n : Int) / 4294967296 = 0 := by have := h (by omega); simp at this; omega)
 clear h
 simp only [show wideB 2 = true from rfl, show wideB 4 = true from rfl, show wideB 8 = true from rfl]
 obtain ⟨i0, hi0, hz0, hz1, hz2⟩ := info_parts info_u8
 go_wp2_with (refine wpList_make_row _ rfl _ _ _ rfl 5 i0 _ Tryz.underlying26 hi0 hz0 hz1 rfl .i64 .i64 2 rfl rfl (by omega) (by omega) ?_)
 rw [putV_made n 2]
 have hG0 : Blk (w1.alloc (.cells (putV n 2 0) 5)) w1.heap.size 5 (putV n 2 0) := Blk.new w1 _ _
 have hN0 := K1.alloc (.cells (putV n 2 0) 5)
 have hB0 := hbb.alloc hz (.cells (putV n 2 0) 5)
 have hzl := K1.lt
 clear c hi0 hz0 hz1 hz2 K1 hbb
 generalize w1.alloc _ = W0 at *
 generalize w1.heap.size = G at *
 go_loopw [32] (fun i wr => ∃ j : Nat, j ≤ 2 ∧ i = .int .i64 j ∧ Blk wr w.heap.size 2 #[.int .i64 ((n / 256 ^ j : Nat) : Int)] ∧ Blk wr G 5 (putV n 2 j) ∧ Below w.heap.size w wr) (fun i _ => 2 - (intOf i).toNat)
 case atStart => exact ⟨0, by omega, rfl, by simpa using hN0, hG0, hB0⟩
 case round =>
  obtain ⟨j, hj, rfl, hN, hG, hB⟩ := hrel
  by_cases hlt : j < 2
  ·have hb8 := byteAt_int n j
   have hdl : n / 256 ^ j ≤ n := Nat.div_le_self _ _
   have hdq : n / 256 ^ (j + 1) = n / 256 ^ j / 256 := by rw [Nat.pow_succ, ← Nat.div_div_eq_div_mul]
   have hps := putV_set n 2 j hlt
   have hpa := putV_at n 2 j j hlt
   generalize n / 256 ^ j = q at *
   have hps2 := Lib.hid hps
   have hdq2 := Lib.hid hdq
   clear hps hdq
   go_wp2_with fail
   refine (next_any _ _ _ hN (by omega) (by omega)).mono ?_; rintro e w2 ⟨rfl, rfl⟩
   have hG1 := hG.far (p := ⟨w.heap.size, 0, none⟩) (by simp; omega) (.int .i64 ((q : Int) / 256))
   have hN1 := hN.set_ 0 (.int .i64 ((q : Int) / 256))
   have hB1 := hB.setCell (p := ⟨w.heap.size, 0, none⟩) (by simp) (.int .i64 ((q : Int) / 256))
   clear hG hN hB
   generalize wr.setCell _ _ = W2 at *
   have cG := hG1.cell_is j hpa
   have fG := hG1.frozen j
   have HG := Lib.hid (hG1.set_ j (vu8 (byteAt n j)))
   have HN := Lib.hid (hN1.far (p := ⟨G, j, none⟩) (by simp; omega) (vu8 (byteAt n j)))
   have HB := Lib.hid (hB1.setCell (p := ⟨G, j, none⟩) (by simp; omega) (vu8 (byteAt n j)))
   clear hG1 hN1 hB1 hpa
   rw [← hb8]
   clear hb8
   go_wp2_with fail
   refine ⟨⟨j + 1, by omega, by go_num, ?_, ?_, HB.out⟩, by simp [intOf]; omega⟩
   ·have h := HN.out
    have e1 : ((q : Int) / 256) = ((n / 256 ^ (j + 1) : Nat) : Int) := by rw [hdq2.out]; omega
    rw [e1] at h
    exact h
   ·have h := HG.out
    rw [hps2.out] at h
    exact h
  ·have hje : j = 2 := by omega
   subst hje
   go_wp2_with fail
   go_ret2
   exact ⟨_, rfl, own_bytes hG (by omega) (putV_all n _) (leB_len n _) (by simp [maxLen]), hB⟩

set_option maxRecDepth 100000 in
set_option maxHeartbeats 1000000 in
theorem put_4 (n : Nat) (w : World) (h : 4 < 8 → n / 2 ^ (8 * 4) = 0) (hn : (n : Int) ≤ 9223372036854775807) : Calls Tryz.prog 101 #[.int .i64 n, .int .i64 4] w fun e w' =>
  ∃ v, e = .returned (.tuple #[v, .int .i64 0]) ∧ w'.ownsRow w.heap.size 5 1 v 4 ((leB n 4).map vu8) ∧ Below w.heap.size w w' := by
 go_enter Tryz.func101, Tryz.ntmps101
 go_wp2_with fail
 refine (wide_any _ _).mono ?_; rintro e w1 ⟨rfl, hb⟩
 have K1 : Blk w1 w.heap.size 2 #[.int .i64 n] := (Blk.new w _ _).below hb (by simp)
 have hbb : Below w.heap.size w w1 := ((Below.refl _ _).alloc (Nat.le_refl _) _).trans (hb.mono (by simp))
 have c := K1.cell_is 0 rfl
 have hne : ¬ (n : Int) < 0 := by omega
 have hz := hbb.size
 clear hb
 try (have hq : (n : Int) / 65536 = 0 := by have := h (by omega); simp at this; omega)
 try (have hq : (n : Int) / 4294967296 = 0 := by have := h (by omega); simp at this; omega)
 clear h
 simp only [show wideB 2 = true from rfl, show wideB 4 = true from rfl, show wideB 8 = true from rfl]
 obtain ⟨i0, hi0, hz0, hz1, hz2⟩ := info_parts info_u8
 go_wp2_with (refine wpList_make_row _ rfl _ _ _ rfl 5 i0 _ Tryz.underlying26 hi0 hz0 hz1 rfl .i64 .i64 4 rfl rfl (by omega) (by omega) ?_)
 rw [putV_made n 4]
 have hG0 : Blk (w1.alloc (.cells (putV n 4 0) 5)) w1.heap.size 5 (putV n 4 0) := Blk.new w1 _ _
 have hN0 := K1.alloc (.cells (putV n 4 0) 5)
 have hB0 := hbb.alloc hz (.cells (putV n 4 0) 5)
 have hzl := K1.lt
 clear c hi0 hz0 hz1 hz2 K1 hbb
 generalize w1.alloc _ = W0 at *
 generalize w1.heap.size = G at *
 go_loopw [32] (fun i wr => ∃ j : Nat, j ≤ 4 ∧ i = .int .i64 j ∧ Blk wr w.heap.size 2 #[.int .i64 ((n / 256 ^ j : Nat) : Int)] ∧ Blk wr G 5 (putV n 4 j) ∧ Below w.heap.size w wr) (fun i _ => 4 - (intOf i).toNat)
 case atStart => exact ⟨0, by omega, rfl, by simpa using hN0, hG0, hB0⟩
 case round =>
  obtain ⟨j, hj, rfl, hN, hG, hB⟩ := hrel
  by_cases hlt : j < 4
  ·have hb8 := byteAt_int n j
   have hdl : n / 256 ^ j ≤ n := Nat.div_le_self _ _
   have hdq : n / 256 ^ (j + 1) = n / 256 ^ j / 256 := by rw [Nat.pow_succ, ← Nat.div_div_eq_div_mul]
   have hps := putV_set n 4 j hlt
   have hpa := putV_at n 4 j j hlt
   generalize n / 256 ^ j = q at *
   have hps2 := Lib.hid hps
   have hdq2 := Lib.hid hdq
   clear hps hdq
   go_wp2_with fail
   refine (next_any _ _ _ hN (by omega) (by omega)).mono ?_; rintro e w2 ⟨rfl, rfl⟩
   have hG1 := hG.far (p := ⟨w.heap.size, 0, none⟩) (by simp; omega) (.int .i64 ((q : Int) / 256))
   have hN1 := hN.set_ 0 (.int .i64 ((q : Int) / 256))
   have hB1 := hB.setCell (p := ⟨w.heap.size, 0, none⟩) (by simp) (.int .i64 ((q : Int) / 256))
   clear hG hN hB
   generalize wr.setCell _ _ = W2 at *
   have cG := hG1.cell_is j hpa
   have fG := hG1.frozen j
   have HG := Lib.hid (hG1.set_ j (vu8 (byteAt n j)))
   have HN := Lib.hid (hN1.far (p := ⟨G, j, none⟩) (by simp; omega) (vu8 (byteAt n j)))
   have HB := Lib.hid (hB1.setCell (p := ⟨G, j, none⟩) (by simp; omega) (vu8 (byteAt n j)))
   clear hG1 hN1 hB1 hpa
   rw [← hb8]
   clear hb8
   go_wp2_with fail
   refine ⟨⟨j + 1, by omega, by go_num, ?_, ?_, HB.out⟩, by simp [intOf]; omega⟩
   ·have h := HN.out
    have e1 : ((q : Int) / 256) = ((n / 256 ^ (j + 1) : Nat) : Int) := by rw [hdq2.out]; omega
    rw [e1] at h
    exact h
   ·have h := HG.out
    rw [hps2.out] at h
    exact h
  ·have hje : j = 4 := by omega
   subst hje
   go_wp2_with fail
   go_ret2
   exact ⟨_, rfl, own_bytes hG (by omega) (putV_all n _) (leB_len n _) (by simp [maxLen]), hB⟩

set_option maxRecDepth 100000 in
set_option maxHeartbeats 1000000 in
theorem put_8 (n : Nat) (w : World) (h : 8 < 8 → n / 2 ^ (8 * 8) = 0) (hn : (n : Int) ≤ 9223372036854775807) : Calls Tryz.prog 101 #[.int .i64 n, .int .i64 8] w fun e w' =>
  ∃ v, e = .returned (.tuple #[v, .int .i64 0]) ∧ w'.ownsRow w.heap.size 5 1 v 8 ((leB n 8).map vu8) ∧ Below w.heap.size w w' := by
 go_enter Tryz.func101, Tryz.ntmps101
 go_wp2_with fail
 refine (wide_any _ _).mono ?_; rintro e w1 ⟨rfl, hb⟩
 have K1 : Blk w1 w.heap.size 2 #[.int .i64 n] := (Blk.new w _ _).below hb (by simp)
 have hbb : Below w.heap.size w w1 := ((Below.refl _ _).alloc (Nat.le_refl _) _).trans (hb.mono (by simp))
 have c := K1.cell_is 0 rfl
 have hne : ¬ (n : Int) < 0 := by omega
 have hz := hbb.size
 clear hb
 try (have hq : (n : Int) / 65536 = 0 := by have := h (by omega); simp at this; omega)
 try (have hq : (n : Int) / 4294967296 = 0 := by have := h (by omega); simp at this; omega)
 clear h
 simp only [show wideB 2 = true from rfl, show wideB 4 = true from rfl, show wideB 8 = true from rfl]
 obtain ⟨i0, hi0, hz0, hz1, hz2⟩ := info_parts info_u8
 go_wp2_with (refine wpList_make_row _ rfl _ _ _ rfl 5 i0 _ Tryz.underlying26 hi0 hz0 hz1 rfl .i64 .i64 8 rfl rfl (by omega) (by omega) ?_)
 rw [putV_made n 8]
 have hG0 : Blk (w1.alloc (.cells (putV n 8 0) 5)) w1.heap.size 5 (putV n 8 0) := Blk.new w1 _ _
 have hN0 := K1.alloc (.cells (putV n 8 0) 5)
 have hB0 := hbb.alloc hz (.cells (putV n 8 0) 5)
 have hzl := K1.lt
 clear c hi0 hz0 hz1 hz2 K1 hbb
 generalize w1.alloc _ = W0 at *
 generalize w1.heap.size = G at *
 go_loopw [32] (fun i wr => ∃ j : Nat, j ≤ 8 ∧ i = .int .i64 j ∧ Blk wr w.heap.size 2 #[.int .i64 ((n / 256 ^ j : Nat) : Int)] ∧ Blk wr G 5 (putV n 8 j) ∧ Below w.heap.size w wr) (fun i _ => 8 - (intOf i).toNat)
 case atStart => exact ⟨0, by omega, rfl, by simpa using hN0, hG0, hB0⟩
 case round =>
  obtain ⟨j, hj, rfl, hN, hG, hB⟩ := hrel
  by_cases hlt : j < 8
  ·have hb8 := byteAt_int n j
   have hdl : n / 256 ^ j ≤ n := Nat.div_le_self _ _
   have hdq : n / 256 ^ (j + 1) = n / 256 ^ j / 256 := by rw [Nat.pow_succ, ← Nat.div_div_eq_div_mul]
   have hps := putV_set n 8 j hlt
   have hpa := putV_at n 8 j j hlt
   generalize n / 256 ^ j = q at *
   have hps2 := Lib.hid hps
   have hdq2 := Lib.hid hdq
   clear hps hdq
   go_wp2_with fail
   refine (next_any _ _ _ hN (by omega) (by omega)).mono ?_; rintro e w2 ⟨rfl, rfl⟩
   have hG1 := hG.far (p := ⟨w.heap.size, 0, none⟩) (by simp; omega) (.int .i64 ((q : Int) / 256))
   have hN1 := hN.set_ 0 (.int .i64 ((q : Int) / 256))
   have hB1 := hB.setCell (p := ⟨w.heap.size, 0, none⟩) (by simp) (.int .i64 ((q : Int) / 256))
   clear hG hN hB
   generalize wr.setCell _ _ = W2 at *
   have cG := hG1.cell_is j hpa
   have fG := hG1.frozen j
   have HG := Lib.hid (hG1.set_ j (vu8 (byteAt n j)))
   have HN := Lib.hid (hN1.far (p := ⟨G, j, none⟩) (by simp; omega) (vu8 (byteAt n j)))
   have HB := Lib.hid (hB1.setCell (p := ⟨G, j, none⟩) (by simp; omega) (vu8 (byteAt n j)))
   clear hG1 hN1 hB1 hpa
   rw [← hb8]
   clear hb8
   go_wp2_with fail
   refine ⟨⟨j + 1, by omega, by go_num, ?_, ?_, HB.out⟩, by simp [intOf]; omega⟩
   ·have h := HN.out
    have e1 : ((q : Int) / 256) = ((n / 256 ^ (j + 1) : Nat) : Int) := by rw [hdq2.out]; omega
    rw [e1] at h
    exact h
   ·have h := HG.out
    rw [hps2.out] at h
    exact h
  ·have hje : j = 8 := by omega
   subst hje
   go_wp2_with fail
   go_ret2
   exact ⟨_, rfl, own_bytes hG (by omega) (putV_all n _) (leB_len n _) (by simp [maxLen]), hB⟩

theorem put_yes (n k : Nat) (w : World) (hk : k = 2 ∨ k = 4 ∨ k = 8) (h : k < 8 → n / 2 ^ (8 * k) = 0) (hn : (n : Int) ≤ 9223372036854775807) : Calls Tryz.prog 101 #[.int .i64 n, .int .i64 k] w fun e w' =>
  ∃ v, e = .returned (.tuple #[v, .int .i64 0]) ∧ w'.ownsRow w.heap.size 5 1 v k ((leB n k).map vu8) ∧ Below w.heap.size w w' := by
 rcases hk with rfl | rfl | rfl
 ·exact put_2 n w h hn
 ·exact put_4 n w h hn
 ·exact put_8 n w h hn

end Go.Proofs.YtdpniceapmikpaaGreat
namespace Go.Proofs.YtdpniceapmikpaaGreat
open Go.RowKit

/-- the number of bytes, the lowest ahead -/
def leN : List UInt8 → Nat
 | [] => 0
 | c :: l => c.toNat + 256 * leN l
theorem leN_snoc (l : List UInt8) (c : UInt8) : leN (l ++ [c]) = leN l + c.toNat * 256 ^ l.length := by
 induction l with
 | nil => simp [leN]
 | cons d l ih =>
  simp only [List.cons_append, leN, ih, List.length_cons, Nat.pow_succ, Nat.mul_add]
  rw [Nat.mul_comm (256 ^ l.length) 256, Nat.mul_left_comm]
  omega
theorem leN_lt (l : List UInt8) : leN l < 256 ^ l.length := by
 induction l with
 | nil => simp [leN]
 | cons c l ih =>
  simp only [leN, List.length_cons, Nat.pow_succ]
  have := u8_lt c
  omega
theorem leN_take (l : List UInt8) (i : Nat) (c : UInt8) (h : l[i]? = some c) : leN (l.take (i + 1)) = leN (l.take i) + c.toNat * 256 ^ i := by
 rw [List.take_add_one, h]
 have hl : i < l.length := by
  rcases Nat.lt_or_ge i l.length with hh | hh
  ·exact hh
  ·rw [List.getElem?_eq_none hh] at h; cases h
 have := leN_snoc (l.take i) c
 rw [List.length_take, Nat.min_eq_left (by omega)] at this
 exact this
theorem or_shift (N i c : Nat) (hN : N < 2 ^ i) : N ||| (c * 2 ^ i) = N + c * 2 ^ i := by
 rw [Nat.mul_comm c, Nat.or_comm, ← Nat.two_pow_add_eq_or_of_lt hN]
 omega
theorem or_u64 (a b : Nat) (ha : a < 18446744073709551616) (hb : b < 18446744073709551616) : bits .or .u64 (a : Int) (b : Int) = ((a ||| b : Nat) : Int) := by
 have hx : a ||| b < 2 ^ 64 := Nat.or_lt_two_pow (by omega) (by omega)
 show IntKind.u64.wrap ((BitVec.ofInt 64 (a : Int) ||| BitVec.ofInt 64 (b : Int)).toNat : Int) = _
 rw [BitVec.toNat_or, BitVec.ofInt_natCast, BitVec.toNat_ofNat, BitVec.ofInt_natCast, BitVec.toNat_ofNat, Nat.mod_eq_of_lt (by omega), Nat.mod_eq_of_lt (by omega), IntKind.wrap_u64]
 omega
theorem pow256 (j : Nat) : 256 ^ j = 2 ^ (8 * j) := by rw [show (256 : Nat) = 2 ^ 8 from rfl, ← Nat.pow_mul]
theorem step64 (N c j : Nat) (hj : j < 8) (hN : N < 256 ^ j) (hc : c < 256) : bits .or .u64 (N : Int) (IntKind.u64.wrap ((c : Int) * 2 ^ (8 * j))) = ((N + c * 256 ^ j : Nat) : Int) := by
 rw [pow256] at hN ⊢
 have hp : c * 2 ^ (8 * j) < 18446744073709551616 := by
  have h1 : c * 2 ^ (8 * j) < 256 * 2 ^ (8 * j) := Nat.mul_lt_mul_of_pos_right hc (Nat.two_pow_pos _)
  have h2 : 256 * 2 ^ (8 * j) = 2 ^ (8 + 8 * j) := by rw [Nat.pow_add]
  have h3 : 2 ^ (8 + 8 * j) ≤ 2 ^ 64 := Nat.pow_le_pow_right (by omega) (by omega)
  omega
 have hp2 : (2 : Nat) ^ (8 * j) ≤ 2 ^ 64 := Nat.pow_le_pow_right (by omega) (by omega)
 have e : IntKind.u64.wrap ((c : Int) * 2 ^ (8 * j)) = ((c * 2 ^ (8 * j) : Nat) : Int) := by
  rw [IntKind.wrap_u64]
  have e2 : (c : Int) * 2 ^ (8 * j) = ((c * 2 ^ (8 * j) : Nat) : Int) := by push_cast; rfl
  rw [e2]
  omega
 rw [e, or_u64 _ _ (by omega) hp, or_shift _ _ _ hN]

/-- whether bytes are a number -/
def getB (l : List UInt8) : Bool := wideB l.length && decide (leN l < 9223372036854775808)

theorem get_narrow (v : Value) (bs : List UInt8) (w : World) (hv : BytesIn w w.heap.size v bs) (h : wideB bs.length = false) :
  Calls Tryz.prog 145 #[v] w fun e w' => e = .returned (.tuple #[.int .i64 0, .int .i64 2]) ∧ Below w.heap.size w w' := by
 obtain ⟨h1, a, cap, rfl, h2⟩ := hv
 go_enter Tryz.func145, Tryz.ntmps145
 go_wp2_with fail
 refine (wide_any _ _).mono ?_; rintro e w1 ⟨rfl, hb⟩
 rw [h]
 go_wp2_with fail
 go_ret2
 exact ⟨rfl, hb⟩

set_option maxRecDepth 100000 in
set_option maxHeartbeats 1000000 in
theorem get_yes (v : Value) (bs : List UInt8) (w : World) (hv : BytesIn w w.heap.size v bs) (h : wideB bs.length = true) (hs : leN bs < 9223372036854775808) :
  Calls Tryz.prog 145 #[v] w fun e w' => e = .returned (.tuple #[.int .i64 (leN bs), .int .i64 0]) ∧ Below w.heap.size w w' := by
 obtain ⟨h1, a, cap, rfl, hcap, h2⟩ := hv
 have HS := Lib.hid hs
 clear hs
 have h8 : bs.length ≤ 8 := by simp [wideB] at h; omega
 go_enter Tryz.func145, Tryz.ntmps145
 go_wp2_with fail
 refine (wide_any _ _).mono ?_; rintro e w1 ⟨rfl, hb⟩
 rw [h]
 go_wp2_with fail
 go_loopw [13, 4] (fun i n wr => ∃ j : Nat, j ≤ bs.length ∧ i = .int .i64 j ∧ n = .int .u64 ((leN (bs.take j) : Nat) : Int) ∧ wr = w1) (fun i _ _ => bs.length - (intOf i).toNat)
 case atStart => exact ⟨0, by omega, rfl, rfl, rfl⟩
 case round =>
  obtain ⟨j, hj, rfl, rfl, rfl⟩ := hrel
  by_cases hlt : j < bs.length
  ·have hbj : bs[j]? = some (bs[j]'hlt) := List.getElem?_eq_getElem hlt
   obtain ⟨g, off, rfl, hg, hcell⟩ := h2 j _ hbj
   have hcx : wr.cell? ⟨g, off + j, none⟩ = some (vu8 (bs[j]'hlt)) := (hb.cell (p := ⟨g, off + j, none⟩) hg).trans hcell
   have hT := Lib.hid (leN_take bs j _ hbj)
   have hN := leN_lt (bs.take j)
   rw [List.length_take, Nat.min_eq_left (by omega)] at hN
   generalize bs[j]'hlt = c at *
   generalize leN (bs.take j) = N at *
   have hc256 := u8_lt c
   have hst := step64 N c.toNat j (by omega) hN hc256
   go_wp2_with fail
   exact ⟨⟨j + 1, by omega, by go_num, by rw [hT.out]; push_cast; rfl, trivial⟩, by simp [intOf]; omega⟩
  ·obtain rfl : j = bs.length := by omega
   rw [List.take_length]
   have hs := HS.out
   generalize hNN : leN bs = N at *
   have HN := Lib.hid hNN
   clear hNN
   have hq : (N : Int) / 9223372036854775808 = 0 := by omega
   go_wp2_with fail
   go_ret2
   exact ⟨by rw [HN.out]; rfl, hb⟩

set_option maxRecDepth 100000 in
set_option maxHeartbeats 1000000 in
theorem get_big (v : Value) (bs : List UInt8) (w : World) (hv : BytesIn w w.heap.size v bs) (h : wideB bs.length = true) (hs : 9223372036854775808 ≤ leN bs) :
  Calls Tryz.prog 145 #[v] w fun e w' => e = .returned (.tuple #[.int .i64 0, .int .i64 2]) ∧ Below w.heap.size w w' := by
 obtain ⟨h1, a, cap, rfl, hcap, h2⟩ := hv
 have HS := Lib.hid hs
 clear hs
 have h8 : bs.length ≤ 8 := by simp [wideB] at h; omega
 go_enter Tryz.func145, Tryz.ntmps145
 go_wp2_with fail
 refine (wide_any _ _).mono ?_; rintro e w1 ⟨rfl, hb⟩
 rw [h]
 go_wp2_with fail
 go_loopw [13, 4] (fun i n wr => ∃ j : Nat, j ≤ bs.length ∧ i = .int .i64 j ∧ n = .int .u64 ((leN (bs.take j) : Nat) : Int) ∧ wr = w1) (fun i _ _ => bs.length - (intOf i).toNat)
 case atStart => exact ⟨0, by omega, rfl, rfl, rfl⟩
 case round =>
  obtain ⟨j, hj, rfl, rfl, rfl⟩ := hrel
  by_cases hlt : j < bs.length
  ·have hbj : bs[j]? = some (bs[j]'hlt) := List.getElem?_eq_getElem hlt
   obtain ⟨g, off, rfl, hg, hcell⟩ := h2 j _ hbj
   have hcx : wr.cell? ⟨g, off + j, none⟩ = some (vu8 (bs[j]'hlt)) := (hb.cell (p := ⟨g, off + j, none⟩) hg).trans hcell
   have hT := Lib.hid (leN_take bs j _ hbj)
   have hN := leN_lt (bs.take j)
   rw [List.length_take, Nat.min_eq_left (by omega)] at hN
   generalize bs[j]'hlt = c at *
   generalize leN (bs.take j) = N at *
   have hc256 := u8_lt c
   have hst := step64 N c.toNat j (by omega) hN hc256
   go_wp2_with fail
   exact ⟨⟨j + 1, by omega, by go_num, by rw [hT.out]; push_cast; rfl, trivial⟩, by simp [intOf]; omega⟩
  ·obtain rfl : j = bs.length := by omega
   rw [List.take_length]
   have hlt2 : leN bs < 18446744073709551616 := Nat.lt_of_lt_of_le (leN_lt bs) (Nat.le_trans (Nat.pow_le_pow_right (by omega) h8) (by decide))
   have hs := HS.out
   generalize hNN : leN bs = N at *
   have HN := Lib.hid hNN
   clear hNN
   have hq : (N : Int) / 9223372036854775808 = 1 := by omega
   go_wp2_with fail
   go_ret2
   exact ⟨rfl, hb⟩

theorem get_any (v : Value) (bs : List UInt8) (w : World) (hv : BytesIn w w.heap.size v bs) :
  Calls Tryz.prog 145 #[v] w fun e w' => e = .returned (.tuple #[.int .i64 (if getB bs then (leN bs : Int) else 0), .int .i64 (if getB bs then 0 else 2)]) ∧ Below w.heap.size w w' := by
 unfold getB
 cases hw : wideB bs.length
 ·exact get_narrow v bs w hv hw
 ·by_cases hs : leN bs < 9223372036854775808
  ·rw [decide_eq_true hs]; exact get_yes v bs w hv hw hs
  ·rw [decide_eq_false hs]; exact get_big v bs w hv hw (by omega)

end Go.Proofs.YtdpniceapmikpaaGreat
namespace Go.Proofs.YtdpniceapmikpaaGreat
open Go.RowKit

end Go.Proofs.YtdpniceapmikpaaGreat
namespace Go.Proofs.YtdpniceapmikpaaGreat
open Go.RowKit

theorem leB_succ (n j : Nat) : leB n (j + 1) = leB n j ++ [byteAt n j] := by simp [leB, List.range_succ]

end Go.Proofs.YtdpniceapmikpaaGreat
namespace Go.Proofs.YtdpniceapmikpaaGreat
open Go.RowKit

theorem add_at (g off n : Nat) : (⟨g, off, none⟩ : Addr).add n = ⟨g, off + n, none⟩ := Go.WideShapes.add_plain g off n
/-- b[i:j], the value as the walk leaves it -/
theorem BytesIn.cut {W : World} {B : Nat} {a : Option Addr} {cap : Nat} {l : List UInt8} (h : BytesIn W B (.slice a l.length cap) l) (i j : Nat) (hij : i ≤ j) (hj : j ≤ l.length) (hc : l.length ≤ cap) :
  BytesIn W B (.slice (if cap = i then a else a.map (·.add i)) (j - i) (cap - i)) ((l.drop i).take (j - i)) := by
 obtain ⟨h1, a', cap', e, h3, h4⟩ := h
 injection e with ea el ec
 subst ea
 have hl : ((l.drop i).take (j - i)).length = j - i := by rw [List.length_take, List.length_drop]; omega
 refine ⟨by rw [hl]; omega, _, _, by rw [hl], by rw [hl]; omega, fun k c hk => ?_⟩
 have hkl : k < j - i := by
  rcases Nat.lt_or_ge k (j - i) with hh | hh
  ·exact hh
  ·rw [List.getElem?_eq_none (by rw [hl]; exact hh)] at hk; cases hk
 have hk2 : l[i + k]? = some c := by
  rw [List.getElem?_take, if_pos hkl, List.getElem?_drop] at hk
  exact hk
 obtain ⟨g, off, rfl, hg, hcell⟩ := h4 (i + k) c hk2
 have hne : ¬ cap = i := by omega
 rw [if_neg hne]
 refine ⟨g, off + i, by rw [Option.map_some, add_at], hg, ?_⟩
 rw [Nat.add_assoc]
 exact hcell
/-- b[i:] -/
theorem BytesIn.from_ {W : World} {B : Nat} {a : Option Addr} {cap : Nat} {l : List UInt8} (h : BytesIn W B (.slice a l.length cap) l) (i : Nat) (hi : i ≤ l.length) (hc : l.length ≤ cap) :
  BytesIn W B (.slice (if cap = i then a else a.map (·.add i)) (l.length - i) (cap - i)) (l.drop i) := by
 have := h.cut i l.length hi (Nat.le_refl _) hc
 rwa [List.take_of_length_le (by simp)] at this
/-- b[:j] -/
theorem BytesIn.upto {W : World} {B : Nat} {a : Option Addr} {cap : Nat} {l : List UInt8} (h : BytesIn W B (.slice a l.length cap) l) (j : Nat) (hj : j ≤ l.length) (hc : l.length ≤ cap) :
  BytesIn W B (.slice a j cap) (l.take j) := by
 obtain ⟨h1, a', cap', e, h3, h4⟩ := h
 injection e with ea el ec
 subst ea
 have hl : (l.take j).length = j := by rw [List.length_take]; omega
 refine ⟨by rw [hl]; omega, _, _, by rw [hl], by rw [hl]; omega, fun k c hk => h4 k c ?_⟩
 rw [List.getElem?_take] at hk
 split at hk
 ·exact hk
 ·cases hk

end Go.Proofs.YtdpniceapmikpaaGreat
