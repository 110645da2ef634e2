/-
  The contracts of sums.wide and of the closure of sums.Put.
  The contract of sums.Put, for all numbers.
  The contract of sums.Get, for all bytes.
  The contracts of the reference's Crc and Wide, for all bytes.
  The contracts of the reference's Put and Get, for all numbers and bytes.
  Reslicing a slice of bytes that is read.
  The shelf's contracts at this dump, in plain words.
  append of bytes that are read to a slice of the call's own, empty or not, nil or not.
  The contracts of slices.Concat and sums.joined, for slices of bytes.
-/
import Derived.Deep.OwnRows
import Derived.Deep.AppendLies
import Derived.Shelf.Spec.SlicesGrow
import Derived.Ground.Names8Prog
import Derived.Test.YtemcgfncahccgaaGreatProg
import Derived.Maps.AppendAt
import Derived.Test.YtemcgfncahccgaaGreatCh4
set_option linter.unusedVariables false
set_option linter.unusedSimpArgs false
namespace Go.Proofs.YtemcgfncahccgaaGreat
open Go.RowKit

def wideB (k : Int) : Bool := (k == 2) || (k == 4) || (k == 8)
def wideL : List (Int × Value) := [(2, .bool true), (4, .bool true), (8, .bool true)]
theorem wideL_yes (k : Int) (h : k = 2 ∨ k = 4 ∨ k = 8) : lookOf wideL k = some (.bool true) := by
 rcases h with rfl | rfl | rfl <;> rfl
theorem wideL_no (k : Int) (h : ¬ (k = 2 ∨ k = 4 ∨ k = 8)) : lookOf wideL k = none := by
 have h2 : (k == 2) = false := by simp; omega
 have h4 : (k == 4) = false := by simp; omega
 have h8 : (k == 8) = false := by simp; omega
 simp [lookOf, wideL, h2, h4, h8]

set_option maxHeartbeats 400000 in
theorem wide_any (k : Int) (w : World) : Calls Tryz.prog 142 #[.int .i64 k] w fun e w' => e = .returned (.bool (wideB k)) ∧ Below w.heap.size w w' := by
 have hmm := @run_makeMap Tryz.prog
 have m0 := MapAt.new w .i64
 have hb : Below w.heap.size w (w.alloc (.map #[] 0)) := (Below.refl _ _).alloc (Nat.le_refl _) _
 by_cases hk : k = 2 ∨ k = 4 ∨ k = 8
 ·have e : wideB k = true := by rcases hk with rfl | rfl | rfl <;> rfl
  have hlk := wideL_yes k hk
  rw [e]
  go_enter Tryz.func142, Tryz.ntmps142
  go_wp2_with (first
   | (refine wpList_insert_new _ rfl _ _ _ rfl Tryz.underlying234 Tryz.underlying3 w.heap.size [] rfl m0 2 rfl rfl (.bool true) rfl ?_; intro wa ma ta)
   | (refine wpList_insert_new _ rfl _ _ _ rfl Tryz.underlying234 Tryz.underlying3 w.heap.size [(2, .bool true)] rfl ma 4 rfl rfl (.bool true) rfl ?_; intro wb mb tb)
   | (refine wpList_insert_new _ rfl _ _ _ rfl Tryz.underlying234 Tryz.underlying3 w.heap.size [(2, .bool true), (4, .bool true)] rfl mb 8 rfl rfl (.bool true) rfl ?_; intro wc mc tc; have hl : (Instr.lookup 234 (.map (some w.heap.size)) (.int .i64 k) false).run Tryz.prog wc = .ok (.bool true) wc := run_lookup_ok wc Tryz.underlying234 Tryz.underlying3 w.heap.size _ mc k _ hlk false))
  go_ret
  exact ⟨rfl, tc.below (tb.below (ta.below hb (Nat.le_refl _)) (Nat.le_refl _)) (Nat.le_refl _)⟩
 ·have e : wideB k = false := by simp [wideB]; omega
  have hlk := wideL_no k hk
  rw [e]
  go_enter Tryz.func142, Tryz.ntmps142
  go_wp2_with (first
   | (refine wpList_insert_new _ rfl _ _ _ rfl Tryz.underlying234 Tryz.underlying3 w.heap.size [] rfl m0 2 rfl rfl (.bool true) rfl ?_; intro wa ma ta)
   | (refine wpList_insert_new _ rfl _ _ _ rfl Tryz.underlying234 Tryz.underlying3 w.heap.size [(2, .bool true)] rfl ma 4 rfl rfl (.bool true) rfl ?_; intro wb mb tb)
   | (refine wpList_insert_new _ rfl _ _ _ rfl Tryz.underlying234 Tryz.underlying3 w.heap.size [(2, .bool true), (4, .bool true)] rfl mb 8 rfl rfl (.bool true) rfl ?_; intro wc mc tc; have hl : (Instr.lookup 234 (.map (some w.heap.size)) (.int .i64 k) false).run Tryz.prog wc = .ok (.bool false) wc := run_lookup_none wc Tryz.underlying234 Tryz.underlying3 w.heap.size _ mc k _ (Tryz.zeroValue4 _) hlk false))
  go_ret
  exact ⟨rfl, tc.below (tb.below (ta.below hb (Nat.le_refl _)) (Nat.le_refl _)) (Nat.le_refl _)⟩

end Go.Proofs.YtemcgfncahccgaaGreat
namespace Go.Proofs.YtemcgfncahccgaaGreat
open Go.RowKit

/-- the i-th byte of a number, the lowest ahead -/
def byteAt (n i : Nat) : UInt8 := UInt8.ofNat (n / 256 ^ i % 256)
def leB (n k : Nat) : List UInt8 := (List.range k).map (byteAt n)
theorem leB_len (n k : Nat) : (leB n k).length = k := by simp [leB]
theorem info_u8 : (Tryz.prog.info? 5).map (fun i => (i.zero, i.size, i.bytes)) = some (some (.int .u8 0), 1, 1) := by kernel_rfl
theorem own_bytes {W : World} {B g n : Nat} {e : TypeId} {l : List UInt8} {cs : Array Value} (h : Blk W g e cs) (hB : B ≤ g) (hcs : cs.toList = l.map vu8) (hn : l.length = n) (hm : n ≤ maxLen) : W.ownsRow B e 1 (.slice (some ⟨g, 0, none⟩) n n) n (l.map vu8) := by
 have hs : cs.size = n := by
  have := congrArg List.length hcs
  simpa [hn] using this
 refine ⟨by simp [hn], .inr ⟨g, n, cs, rfl, hB, h, Nat.le_refl _, hm, by omega, ?_⟩⟩
 rw [← hcs, List.take_of_length_le (by simp; omega)]
theorem byteAt_int (n i : Nat) : ((byteAt n i).toNat : Int) = ((n / 256 ^ i : Nat) : Int) % 256 := by
 unfold byteAt
 rw [UInt8.toNat_ofNat']
 omega
end Go.Proofs.YtemcgfncahccgaaGreat
namespace Go.Proofs.YtemcgfncahccgaaGreat
open Go.RowKit

/-- the number of bytes, the lowest ahead -/
def leN : List UInt8 → Nat
 | [] => 0
 | c :: l => c.toNat + 256 * leN l
theorem leN_snoc (l : List UInt8) (c : UInt8) : leN (l ++ [c]) = leN l + c.toNat * 256 ^ l.length := by
 induction l with
 | nil => simp [leN]
 | cons d l ih =>
  simp only [List.cons_append, leN, ih, List.length_cons, Nat.pow_succ, Nat.mul_add]
  rw [Nat.mul_comm (256 ^ l.length) 256, Nat.mul_left_comm]
  omega
theorem leN_lt (l : List UInt8) : leN l < 256 ^ l.length := by
 induction l with
 | nil => simp [leN]
 | cons c l ih =>
  simp only [leN, List.length_cons, Nat.pow_succ]
  have := u8_lt c
  omega
theorem leN_take (l : List UInt8) (i : Nat) (c : UInt8) (h : l[i]? = some c) : leN (l.take (i + 1)) = leN (l.take i) + c.toNat * 256 ^ i := by
 rw [List.take_add_one, h]
 have hl : i < l.length := by
  rcases Nat.lt_or_ge i l.length with hh | hh
  ·exact hh
  ·rw [List.getElem?_eq_none hh] at h; cases h
 have := leN_snoc (l.take i) c
 rw [List.length_take, Nat.min_eq_left (by omega)] at this
 exact this
theorem or_shift (N i c : Nat) (hN : N < 2 ^ i) : N ||| (c * 2 ^ i) = N + c * 2 ^ i := by
 rw [Nat.mul_comm c, Nat.or_comm, ← Nat.two_pow_add_eq_or_of_lt hN]
 omega
theorem or_u64 (a b : Nat) (ha : a < 18446744073709551616) (hb : b < 18446744073709551616) : bits .or .u64 (a : Int) (b : Int) = ((a ||| b : Nat) : Int) := by
 have hx : a ||| b < 2 ^ 64 := Nat.or_lt_two_pow (by omega) (by omega)
 show IntKind.u64.wrap ((BitVec.ofInt 64 (a : Int) ||| BitVec.ofInt 64 (b : Int)).toNat : Int) = _
 rw [BitVec.toNat_or, BitVec.ofInt_natCast, BitVec.toNat_ofNat, BitVec.ofInt_natCast, BitVec.toNat_ofNat, Nat.mod_eq_of_lt (by omega), Nat.mod_eq_of_lt (by omega), IntKind.wrap_u64]
 omega
theorem pow256 (j : Nat) : 256 ^ j = 2 ^ (8 * j) := by rw [show (256 : Nat) = 2 ^ 8 from rfl, ← Nat.pow_mul]
theorem step64 (N c j : Nat) (hj : j < 8) (hN : N < 256 ^ j) (hc : c < 256) : bits .or .u64 (N : Int) (IntKind.u64.wrap ((c : Int) * 2 ^ (8 * j))) = ((N + c * 256 ^ j : Nat) : Int) := by
 rw [pow256] at hN ⊢
 have hp : c * 2 ^ (8 * j) < 18446744073709551616 := by
  have h1 : c * 2 ^ (8 * j) < 256 * 2 ^ (8 * j) := Nat.mul_lt_mul_of_pos_right hc (Nat.two_pow_pos _)
  have h2 : 256 * 2 ^ (8 * j) = 2 ^ (8 + 8 * j) := by rw [Nat.pow_add]
  have h3 : 2 ^ (8 + 8 * j) ≤ 2 ^ 64 := Nat.pow_le_pow_right (by omega) (by omega)
  omega
 have hp2 : (2 : Nat) ^ (8 * j) ≤ 2 ^ 64 := Nat.pow_le_pow_right (by omega) (by omega)
 have e : IntKind.u64.wrap ((c : Int) * 2 ^ (8 * j)) = ((c * 2 ^ (8 * j) : Nat) : Int) := by
  rw [IntKind.wrap_u64]
  have e2 : (c : Int) * 2 ^ (8 * j) = ((c * 2 ^ (8 * j) : Nat) : Int) := by push_cast; rfl
  rw [e2]
  omega
 rw [e, or_u64 _ _ (by omega) hp, or_shift _ _ _ hN]

/-- whether bytes are a number -/
def getB (l : List UInt8) : Bool := wideB l.length && decide (leN l < 9223372036854775808)

theorem get_narrow (v : Value) (bs : List UInt8) (w : World) (hv : BytesIn w w.heap.size v bs) (h : wideB bs.length = false) :
  Calls Tryz.prog 129 #[v] w fun e w' => e = .returned (.tuple #[.int .i64 0, .int .i64 2]) ∧ Below w.heap.size w w' := by
 obtain ⟨h1, a, cap, rfl, h2⟩ := hv
 go_enter Tryz.func129, Tryz.ntmps129
 go_wp2_with fail
 refine (wide_any _ _).mono ?_; rintro e w1 ⟨rfl, hb⟩
 rw [h]
 go_wp2_with fail
 go_ret2
 exact ⟨rfl, hb⟩

set_option maxRecDepth 100000 in
set_option maxHeartbeats 1000000 in
theorem get_yes (v : Value) (bs : List UInt8) (w : World) (hv : BytesIn w w.heap.size v bs) (h : wideB bs.length = true) (hs : leN bs < 9223372036854775808) :
  Calls Tryz.prog 129 #[v] w fun e w' => e = .returned (.tuple #[.int .i64 (leN bs), .int .i64 0]) ∧ Below w.heap.size w w' := by
 obtain ⟨h1, a, cap, rfl, hcap, h2⟩ := hv
 have HS := Lib.hid hs
 clear hs
 have h8 : bs.length ≤ 8 := by simp [wideB] at h; omega
 go_enter Tryz.func129, Tryz.ntmps129
 go_wp2_with fail
 refine (wide_any _ _).mono ?_; rintro e w1 ⟨rfl, hb⟩
 rw [h]
 go_wp2_with fail
 go_loopw [13, 4] (fun i n wr => ∃ j : Nat, j ≤ bs.length ∧ i = .int .i64 j ∧ n = .int .u64 ((leN (bs.take j) : Nat) : Int) ∧ wr = w1) (fun i _ _ => bs.length - (intOf i).toNat)
 case atStart => exact ⟨0, by omega, rfl, rfl, rfl⟩
 case round =>
  obtain ⟨j, hj, rfl, rfl, rfl⟩ := hrel
  by_cases hlt : j < bs.length
  ·have hbj : bs[j]? = some (bs[j]'hlt) := List.getElem?_eq_getElem hlt
   obtain ⟨g, off, rfl, hg, hcell⟩ := h2 j _ hbj
   have hcx : wr.cell? ⟨g, off + j, none⟩ = some (vu8 (bs[j]'hlt)) := (hb.cell (p := ⟨g, off + j, none⟩) hg).trans hcell
   have hT := Lib.hid (leN_take bs j _ hbj)
   have hN := leN_lt (bs.take j)
   rw [List.length_take, Nat.min_eq_left (by omega)] at hN
   generalize bs[j]'hlt = c at *
   generalize leN (bs.take j) = N at *
   have hc256 := u8_lt c
   have hst := step64 N c.toNat j (by omega) hN hc256
   go_wp2_with fail
   exact ⟨⟨j + 1, by omega, by go_num, by rw [hT.out]; push_cast; rfl, trivial⟩, by simp [intOf]; omega⟩
  ·obtain rfl : j = bs.length := by omega
   rw [List.take_length]
   have hs := HS.out
   generalize hNN : leN bs = N at *
   have HN := Lib.hid hNN
   clear hNN
   have hq : (N : Int) / 9223372036854775808 = 0 := by omega
   go_wp2_with fail
   go_ret2
   exact ⟨by rw [HN.out]; rfl, hb⟩

set_option maxRecDepth 100000 in
set_option maxHeartbeats 1000000 in
theorem get_big (v : Value) (bs : List UInt8) (w : World) (hv : BytesIn w w.heap.size v bs) (h : wideB bs.length = true) (hs : 9223372036854775808 ≤ leN bs) :
  Calls Tryz.prog 129 #[v] w fun e w' => e = .returned (.tuple #[.int .i64 0, .int .i64 2]) ∧ Below w.heap.size w w' := by
 obtain ⟨h1, a, cap, rfl, hcap, h2⟩ := hv
 have HS := Lib.hid hs
 clear hs
 have h8 : bs.length ≤ 8 := by simp [wideB] at h; omega
 go_enter Tryz.func129, Tryz.ntmps129
 go_wp2_with fail
 refine (wide_any _ _).mono ?_; rintro e w1 ⟨rfl, hb⟩
 rw [h]
 go_wp2_with fail
 go_loopw [13, 4] (fun i n wr => ∃ j : Nat, j ≤ bs.length ∧ i = .int .i64 j ∧ n = .int .u64 ((leN (bs.take j) : Nat) : Int) ∧ wr = w1) (fun i _ _ => bs.length - (intOf i).toNat)
 case atStart => exact ⟨0, by omega, rfl, rfl, rfl⟩
 case round =>
  obtain ⟨j, hj, rfl, rfl, rfl⟩ := hrel
  by_cases hlt : j < bs.length
  ·have hbj : bs[j]? = some (bs[j]'hlt) := List.getElem?_eq_getElem hlt
   obtain ⟨g, off, rfl, hg, hcell⟩ := h2 j _ hbj
   have hcx : wr.cell? ⟨g, off + j, none⟩ = some (vu8 (bs[j]'hlt)) := (hb.cell (p := ⟨g, off + j, none⟩) hg).trans hcell
   have hT := Lib.hid (leN_take bs j _ hbj)
   have hN := leN_lt (bs.take j)
   rw [List.length_take, Nat.min_eq_left (by omega)] at hN
   generalize bs[j]'hlt = c at *
   generalize leN (bs.take j) = N at *
   have hc256 := u8_lt c
   have hst := step64 N c.toNat j (by omega) hN hc256
   go_wp2_with fail
   exact ⟨⟨j + 1, by omega, by go_num, by rw [hT.out]; push_cast; rfl, trivial⟩, by simp [intOf]; omega⟩
  ·obtain rfl : j = bs.length := by omega
   rw [List.take_length]
   have hlt2 : leN bs < 18446744073709551616 := Nat.lt_of_lt_of_le (leN_lt bs) (Nat.le_trans (Nat.pow_le_pow_right (by omega) h8) (by decide))
   have hs := HS.out
   generalize hNN : leN bs = N at *
   have HN := Lib.hid hNN
   clear hNN
   have hq : (N : Int) / 9223372036854775808 = 1 := by omega
   go_wp2_with fail
   go_ret2
   exact ⟨rfl, hb⟩

theorem get_any (v : Value) (bs : List UInt8) (w : World) (hv : BytesIn w w.heap.size v bs) :
  Calls Tryz.prog 129 #[v] w fun e w' => e = .returned (.tuple #[.int .i64 (if getB bs then (leN bs : Int) else 0), .int .i64 (if getB bs then 0 else 2)]) ∧ Below w.heap.size w w' := by
 unfold getB
 cases hw : wideB bs.length
 ·exact get_narrow v bs w hv hw
 ·by_cases hs : leN bs < 9223372036854775808
  ·rw [decide_eq_true hs]; exact get_yes v bs w hv hw hs
  ·rw [decide_eq_false hs]; exact get_big v bs w hv hw (by omega)

end Go.Proofs.YtemcgfncahccgaaGreat
namespace Go.Proofs.YtemcgfncahccgaaGreat
open Go.RowKit

theorem rwide_any (k : Int) (w : World) : Calls Tryz.prog 114 #[.int .i64 k] w fun e w' => e = .returned (.bool (wideB k)) ∧ w = w' := by
 by_cases h2 : k = 2
 ·subst h2
  go_enter Tryz.func114, Tryz.ntmps114
  go_wp2
  go_ret
  exact ⟨rfl, rfl⟩
 ·by_cases h4 : k = 4
  ·subst h4
   go_enter Tryz.func114, Tryz.ntmps114
   go_wp2
   go_ret
   exact ⟨rfl, rfl⟩
  ·have e : wideB k = (k == 8) := by simp [wideB, h2, h4]
   have b2 : (k == 2) = false := by simpa using h2
   have b4 : (k == 4) = false := by simpa using h4
   rw [e]
   go_enter Tryz.func114, Tryz.ntmps114
   go_wp2
   all_goals go_ret
   all_goals exact ⟨rfl, rfl⟩

theorem bit_odd (X : BitVec 32) (h : (X.toNat : Int) % 2 = 1) : bits .xor .u32 ((X.toNat : Int) / (2 : Int)) 3988292384 = ((crcBit X).toNat : Int) := by
 have e2 : (X.toNat : Int) / (2 : Int) = ((X >>> 1).toNat : Int) := shr_u32 X 1
 have hb : X.getLsbD 0 = true := by
  rw [BitVec.getLsbD, Nat.testBit_zero]
  simp; omega
 rw [e2]
 unfold crcBit
 rw [hb]
 exact xor_u32 _ 0xedb88320#32
theorem bit_even (X : BitVec 32) (h : ¬ (X.toNat : Int) % 2 = 1) : (X.toNat : Int) / (2 : Int) = ((crcBit X).toNat : Int) := by
 have e2 : (X.toNat : Int) / (2 : Int) = ((X >>> 1).toNat : Int) := shr_u32 X 1
 have hb : X.getLsbD 0 = false := by
  rw [BitVec.getLsbD, Nat.testBit_zero]
  simp; omega
 rw [e2]
 unfold crcBit
 rw [hb]
 simp
theorem crcOn_take (n : BitVec 32) (l : List UInt8) (j : Nat) (c : UInt8) (h : l[j]? = some c) : crcOn n (l.take (j + 1)) = crcByte (crcOn n (l.take j)) c := by
 rw [List.take_add_one, h]
 simp [crcOn]

set_option maxRecDepth 100000 in
set_option maxHeartbeats 1000000 in
theorem rcrc_any (v : Value) (bs : List UInt8) (w : World) (hv : BytesIn w w.heap.size v bs) :
  Calls Tryz.prog 92 #[v] w fun e w' => e = .returned (vu32 (crcW bs)) ∧ w = w' := by
 obtain ⟨h1, a, cap, rfl, hcap, h2⟩ := hv
 unfold maxLen at h1
 go_enter Tryz.func92, Tryz.ntmps92
 go_wp2_with fail
 go_loopw [3, 4] (fun n i wr => ∃ j : Nat, j ≤ bs.length ∧ i = .int .i64 j ∧ n = vu32 (crcOn (~~~ 0#32) (bs.take j)) ∧ wr = w) (fun _ i _ => bs.length - (intOf i).toNat)
 case atStart => exact ⟨0, by omega, rfl, rfl, rfl⟩
 case round =>
  obtain ⟨j, hj, rfl, rfl, rfl⟩ := hrel
  by_cases hlt : j < bs.length
  ·have hbj : bs[j]? = some (bs[j]'hlt) := List.getElem?_eq_getElem hlt
   obtain ⟨g, off, rfl, hg, hcell⟩ := h2 j _ hbj
   have hT := Lib.hid (crcOn_take (~~~ 0#32) bs j _ hbj)
   generalize bs[j]'hlt = c at *
   generalize crcOn (~~~ 0#32) (bs.take j) = N at *
   have hc256 := u8_lt c
   obtain ⟨Y, hY⟩ : ∃ Y, Y = N ^^^ BitVec.ofNat 32 c.toNat := ⟨_, rfl⟩
   have e1 : bits .xor .u32 (N.toNat : Int) (c.toNat : Int) = (Y.toNat : Int) := by
    have ex : ((BitVec.ofNat 32 c.toNat).toNat : Int) = (c.toNat : Int) := by rw [BitVec.toNat_ofNat]; omega
    rw [hY, ← ex]; exact xor_u32 N _
   have HY := Lib.hid hY
   clear hY
   go_wp2_with fail
   go_loop [3, 5] (fun n k => ∃ q : Nat, q ≤ 8 ∧ k = .int .i64 q ∧ n = vu32 (crcBits q Y)) (fun _ k => 8 - (intOf k).toNat)
   case atStart => exact ⟨0, by omega, rfl, rfl⟩
   case round =>
    obtain ⟨q, hq, rfl, rfl⟩ := hrel
    have hS := Lib.hid (crcBits_succ q Y)
    by_cases hq8 : q < 8
    ·generalize crcBits q Y = X at *
     by_cases hodd : (X.toNat : Int) % 2 = 1
     ·have hv := bit_odd X hodd
      go_wp2_with fail
      exact ⟨⟨q + 1, by omega, by go_num, by rw [hS.out]⟩, by simp [intOf]; omega⟩
     ·have hv := bit_even X hodd
      go_wp2_with fail
      exact ⟨⟨q + 1, by omega, by go_num, by rw [hS.out]⟩, by simp [intOf]; omega⟩
    ·obtain rfl : q = 8 := by omega
     have hT2 : crcOn (~~~ 0#32) (bs.take (j + 1)) = crcBits 8 Y := by rw [hT.out, HY.out]; rfl
     have HT2 := Lib.hid hT2
     clear hT2
     generalize crcBits 8 Y = Z at *
     go_wp2_with fail
     exact ⟨⟨j + 1, by omega, by go_num, by rw [HT2.out], trivial⟩, by simp [intOf]; omega⟩
  ·obtain rfl : j = bs.length := by omega
   rw [List.take_length]
   have hW := Lib.hid (show crcW bs = ~~~ (crcOn (~~~ 0#32) bs) from rfl)
   generalize crcOn (~~~ 0#32) bs = N at *
   have hn : (4294967295 : Int) - (N.toNat : Int) = ((~~~ N).toNat : Int) := by
    rw [BitVec.toNat_not]; have := N.isLt; omega
   go_wp2_with fail
   go_ret
   exact ⟨by rw [hW.out]; simp [vu32], rfl⟩

end Go.Proofs.YtemcgfncahccgaaGreat
namespace Go.Proofs.YtemcgfncahccgaaGreat
open Go.RowKit

theorem leB_succ (n j : Nat) : leB n (j + 1) = leB n j ++ [byteAt n j] := by simp [leB, List.range_succ]

set_option maxRecDepth 100000 in
set_option maxHeartbeats 1000000 in
theorem rput_yes (n k : Nat) (w : World) (hk : wideB k = true) (hn : (n : Int) ≤ 9223372036854775807) : Calls Tryz.prog 91 #[.int .i64 n, .int .i64 k] w fun e w' =>
  ∃ v, e = .returned (.tuple #[v, .bool (n / 256 ^ k == 0)]) ∧ w'.ownsRow w.heap.size 5 1 v k ((leB n k).map vu8) ∧ Below w.heap.size w w' := by
 have hk8 : k ≤ 8 := by simp [wideB] at hk; omega
 obtain ⟨i0, hi0, hz0, hz1, hz2⟩ := info_parts info_u8
 have HI := Lib.hid (And.intro hi0 (And.intro hz0 (And.intro hz1 hz2)))
 clear hi0 hz0 hz1 hz2
 have hne : ¬ (n : Int) < 0 := by omega
 go_enter Tryz.func91, Tryz.ntmps91
 go_wp2_with fail
 refine (rwide_any k _).mono ?_; rintro e w1 ⟨rfl, rfl⟩
 rw [hk]
 go_wp2_with fail
 go_loopw [0, 6, 7] (fun m o i wr => ∃ j : Nat, j ≤ k ∧ i = .int .i64 j ∧ m = .int .i64 ((n / 256 ^ j : Nat) : Int) ∧ wr.ownsRow w.heap.size 5 1 o j ((leB n j).map vu8) ∧ Below w.heap.size w wr) (fun _ _ i _ => k - (intOf i).toNat)
 case atStart => exact ⟨0, by omega, rfl, by simp, World.ownsRow_nil _ _ _ _, Below.refl _ _⟩
 case round =>
  obtain ⟨j, hj, rfl, rfl, hO, hB⟩ := hrel
  by_cases hlt : j < k
  ·have hb8 := byteAt_int n j
   have hdl : n / 256 ^ j ≤ n := Nat.div_le_self _ _
   have hdq : n / 256 ^ (j + 1) = n / 256 ^ j / 256 := by rw [Nat.pow_succ, ← Nat.div_div_eq_div_mul]
   have hls := Lib.hid (leB_succ n j)
   have hll := leB_len n j
   generalize n / 256 ^ j = q at *
   have hdq2 := Lib.hid hdq
   have hb82 := Lib.hid hb8
   clear hdq hb8
   have HO := Lib.hid hO
   clear hO
   have hsz := hB.size
   have hbyte : ((q : Int) % 256) = ((byteAt n j).toNat : Int) := hb82.out.symm
   go_wp2_with (at_builtin; refine wpList_append_lies _ rfl _ _ _ rfl w.heap.size 5 i0 _ 1 1 Tryz.underlying29 HI.out.1 HI.out.2.1 HI.out.2.2.1 HI.out.2.2.2 rfl (by omega) _ j _ rfl (HO.out.alloc _) ⟨wr.heap.size, 0, none⟩ 1 1 [vu8 (byteAt n j)] rfl rfl (World.news_of_block (cs := #[vu8 (byteAt n j)]) (t := 5) (fr := (0, 0)) (heap_alloc_new wr _)) (by simp [Value.oneCell']) (by omega) (by unfold maxLen; omega) (by omega) (by simp; omega) (wr.heap.size + 1) (by simp) ?_; intro g cap w3 hO3 hg3 hat3 hlt3)
   refine ⟨⟨j + 1, by omega, by go_num, ?_, ?_, ?_⟩, by simp [intOf]; omega⟩
   ·rw [hdq2.out]; congr 1
   ·rw [hls.out]; simpa using hO3
   ·exact (hB.alloc hsz _).grown hg3 (by simp; omega) (fun r hr => (HO.out.lt r hr).1)
  ·obtain rfl : j = k := by omega
   generalize hqe : n / 256 ^ j = q at *
   have HQ := Lib.hid hqe
   clear hqe
   have hq : ((q : Int) == 0) = (q == 0) := by
    cases h : (q == 0)
    ·simp at h ⊢; omega
    ·simp at h ⊢; omega
   go_wp2_with fail
   go_ret2
   exact ⟨_, by rw [HQ.out]; rfl, hO, hB⟩

theorem leN_drop (l : List UInt8) (j : Nat) (c : UInt8) (h : l[j]? = some c) : leN (l.drop j) = c.toNat + 256 * leN (l.drop (j + 1)) := by
 have hl : j < l.length := by
  rcases Nat.lt_or_ge j l.length with hh | hh
  ·exact hh
  ·rw [List.getElem?_eq_none hh] at h; cases h
 rw [List.drop_eq_getElem_cons hl]
 rw [List.getElem?_eq_getElem hl] at h
 rw [Option.some.inj h]
 rfl
end Go.Proofs.YtemcgfncahccgaaGreat
namespace Go.Proofs.YtemcgfncahccgaaGreat
open Go.RowKit

theorem add_at (g off n : Nat) : (⟨g, off, none⟩ : Addr).add n = ⟨g, off + n, none⟩ := Go.WideShapes.add_plain g off n
/-- b[i:j], the value as the walk leaves it -/
theorem BytesIn.cut {W : World} {B : Nat} {a : Option Addr} {cap : Nat} {l : List UInt8} (h : BytesIn W B (.slice a l.length cap) l) (i j : Nat) (hij : i ≤ j) (hj : j ≤ l.length) (hc : l.length ≤ cap) :
  BytesIn W B (.slice (if cap = i then a else a.map (·.add i)) (j - i) (cap - i)) ((l.drop i).take (j - i)) := by
 obtain ⟨h1, a', cap', e, h3, h4⟩ := h
 injection e with ea el ec
 subst ea
 have hl : ((l.drop i).take (j - i)).length = j - i := by rw [List.length_take, List.length_drop]; omega
 refine ⟨by rw [hl]; omega, _, _, by rw [hl], by rw [hl]; omega, fun k c hk => ?_⟩
 have hkl : k < j - i := by
  rcases Nat.lt_or_ge k (j - i) with hh | hh
  ·exact hh
  ·rw [List.getElem?_eq_none (by rw [hl]; exact hh)] at hk; cases hk
 have hk2 : l[i + k]? = some c := by
  rw [List.getElem?_take, if_pos hkl, List.getElem?_drop] at hk
  exact hk
 obtain ⟨g, off, rfl, hg, hcell⟩ := h4 (i + k) c hk2
 have hne : ¬ cap = i := by omega
 rw [if_neg hne]
 refine ⟨g, off + i, by rw [Option.map_some, add_at], hg, ?_⟩
 rw [Nat.add_assoc]
 exact hcell
/-- b[i:] -/
theorem BytesIn.from_ {W : World} {B : Nat} {a : Option Addr} {cap : Nat} {l : List UInt8} (h : BytesIn W B (.slice a l.length cap) l) (i : Nat) (hi : i ≤ l.length) (hc : l.length ≤ cap) :
  BytesIn W B (.slice (if cap = i then a else a.map (·.add i)) (l.length - i) (cap - i)) (l.drop i) := by
 have := h.cut i l.length hi (Nat.le_refl _) hc
 rwa [List.take_of_length_le (by simp)] at this
/-- b[:j] -/
theorem BytesIn.upto {W : World} {B : Nat} {a : Option Addr} {cap : Nat} {l : List UInt8} (h : BytesIn W B (.slice a l.length cap) l) (j : Nat) (hj : j ≤ l.length) (hc : l.length ≤ cap) :
  BytesIn W B (.slice a j cap) (l.take j) := by
 obtain ⟨h1, a', cap', e, h3, h4⟩ := h
 injection e with ea el ec
 subst ea
 have hl : (l.take j).length = j := by rw [List.length_take]; omega
 refine ⟨by rw [hl]; omega, _, _, by rw [hl], by rw [hl]; omega, fun k c hk => h4 k c ?_⟩
 rw [List.getElem?_take] at hk
 split at hk
 ·exact hk
 ·cases hk

end Go.Proofs.YtemcgfncahccgaaGreat
namespace Go.Proofs
open Go.Shelf
def Tryz.lays84_f160_ren : Go.Shelf.Ren := ⟨fun | 4 => 160 | n => n, fun | 22 => 29 | 25 => 5 | 3 => 3 | 4 => 4 | 9 => 9 | 20 => 20 | 0 => 0 | n => n, fun | n => n⟩
theorem Tryz.lays84_f160 : Go.Proofs.Lays8.n4 Tryz.prog Tryz.lays84_f160_ren := {
 mixed := by kernel_rfl
 f4 := ⟨Tryz.f160.name, by decide, Tryz.func160.trans (congrArg some (by kernel_rfl))⟩
 t0 := Tryz.underlying0
 a0 := Tryz.isAgg0
 z0 := Tryz.sizeOf0
 v0 := Tryz.zeroValue0
 t3 := Tryz.underlying3
 a3 := Tryz.isAgg3
 z3 := Tryz.sizeOf3
 v3 := Tryz.zeroValue3
 t4 := Tryz.underlying4
 a4 := Tryz.isAgg4
 z4 := Tryz.sizeOf4
 v4 := Tryz.zeroValue4
 t9 := Tryz.underlying9
 a9 := Tryz.isAgg9
 z9 := Tryz.sizeOf9
 v9 := Tryz.zeroValue9
 t20 := Tryz.underlying20
 a20 := Tryz.isAgg20
 z20 := Tryz.sizeOf20
 v20 := Tryz.zeroValue20
 t22 := Tryz.underlying29
 a22 := Tryz.isAgg29
 z22 := Tryz.sizeOf29
 v22 := Tryz.zeroValue29 }
open Go.RowKit Go.Lib in
/-- slices.Grow: NO ROOM. -/
theorem Tryz.slices_Grow_grow (i0 : TypeInfo) (z : Value) (hi0 : Tryz.prog.info? 5 = some i0) (hz0 : i0.zero = some z) (hs0 : 0 < i0.size) (base : Option Addr) (l c n : Nat) (cs : List Value) (w : World) (hlc : l ≤ c) (hroom : c < l + n) (hbig : (l + n) * i0.bytes ≤ 140737488355328) (h63 : l + n ≤ 4611686018427387904) (hcl : cs.length = c * i0.size) (hnil : base = none → c = 0) (hcs : ∀ a, base = some a → ∀ j v, cs[j]? = some v → w.cell? (a.add j) = some v) :
  Calls Tryz.prog 160 #[.slice base l c, .int .i64 n] w fun e w' => e = .returned (.slice (some ⟨w.heap.size, 0, none⟩) l (grownCap w (l + n) c 5)) ∧ w' = w.drew.alloc (.cells (cs.toArray ++ Builtin.zeroCells z.cells (l + n - c) ++ Builtin.zeroCells z.cells (grownCap w (l + n) c 5 - (l + n))) 5) := Any8.slices_Grow_grow Tryz.lays84_f160 i0 z hi0 hz0 hs0 base l c n cs w hlc hroom hbig h63 hcl hnil hcs
open Go.RowKit Go.Lib in
/-- slices.Grow: THERE IS ROOM. -/
theorem Tryz.slices_Grow_room (base : Option Addr) (l c n : Nat) (w : World) (hlc : l ≤ c) (hc63 : c ≤ 9223372036854775807) (hn63 : n ≤ 9223372036854775807) (hroom : l + n ≤ c) :
  Calls Tryz.prog 160 #[.slice base l c, .int .i64 n] w fun e w' => e = .returned (.slice base l c) ∧ w' = w := Any8.slices_Grow_room Tryz.lays84_f160 base l c n w hlc hc63 hn63 hroom
end Go.Proofs
namespace Go.Proofs.YtemcgfncahccgaaGreat
open Go.RowKit

theorem run_append_empty (w : World) {base n : Nat} {v : Value} {xs : List Value} (hown : w.ownsRow base 5 1 v n xs) (ty : TypeId) (c : Nat) :
  (Builtin.append_ #[29, 29] ty #[v, .slice none 0 c]).run Tryz.prog w = .ok v w := by
 obtain ⟨i0, hi0, hz0, hz1, hz2⟩ := info_parts info_u8
 rcases hown.2 with ⟨rfl, rfl⟩ | ⟨g, cap, cur, rfl, _, _, hnc, _⟩
 ·simp [Builtin.append_, run_underlying Tryz.underlying29, sizeOf, typeInfo, hi0, Builtin.lenOf, Builtin.firstCells]
 ·simp [Builtin.append_, run_underlying Tryz.underlying29, sizeOf, typeInfo, hi0, Builtin.lenOf, Builtin.firstCells, hnc, storeCells]

theorem run_append_bytes (w : World) {base B n : Nat} {v : Value} {xs : List Value} (hown : w.ownsRow base 5 1 v n xs) (ty : TypeId) (a : Option Addr) (cap : Nat) (l : List UInt8)
  (hu : BytesIn w B (.slice a l.length cap) l) (hbytes : n + l.length ≤ 140737488355328) (hbase : base ≤ w.heap.size) :
  ∃ v' w', (Builtin.append_ #[29, 29] ty #[v, .slice a l.length cap]).run Tryz.prog w = .ok v' w' ∧ w'.ownsRow base 5 1 v' (n + l.length) (xs ++ l.map vu8) ∧ w.grownBy w' v.ownBlock := by
 obtain ⟨i0, hi0, hz0, hz1, hz2⟩ := info_parts info_u8
 obtain ⟨hm, a', cap', e, hcap, hc⟩ := hu
 injection e with e1 e2 e3
 subst e1
 cases a with
 | none =>
  have hl : l = [] := by
   cases l with
   | nil => rfl
   | cons c l =>
    obtain ⟨g, off, h, _⟩ := hc 0 c rfl
    cases h
  subst hl
  exact ⟨v, w, run_append_empty w hown ty cap, by simpa using hown, World.grownBy.refl w _⟩
 | some ad =>
  have hnews : ∀ j u, (l.map vu8)[j]? = some u → w.cell? (ad.add j) = some u := by
   intro j u hj
   rw [List.getElem?_map] at hj
   obtain ⟨c, hcj, rfl⟩ := Option.map_eq_some_iff.1 hj
   obtain ⟨g, off, h, _, hcell⟩ := hc j c hcj
   obtain rfl := Option.some.inj h
   rw [add_at]
   exact hcell
  obtain ⟨v', w', hrun, h2, h3, _, _⟩ := run_append_own_at (P := Tryz.prog) w base 29 ty 5 i0 (.int .u8 0) 1 1 Tryz.underlying29 hi0 hz0 hz1 hz2 rfl (by omega) v n xs hown ad l.length cap (l.map vu8) (by simp) hnews
   (by intro u hu; obtain ⟨c, _, rfl⟩ := List.mem_map.1 hu; rfl) (by unfold maxLen; omega) (by omega) hbase
  exact ⟨v', w', hrun, h2, h3⟩

theorem wpList_append_bytes (w : World) {ops : Array Oper} {rest : List Oper} {o : Oper} {a : Act} {Q : Exit → Act → World → Prop} (hgd : o.guard = none) (s x : Operand)
  (ho : o.op = .call { callee := .builtin .append, args := #[s, x], argTypes := #[29, 29] })
  (base B n : Nat) (v : Value) (xs : List Value) (hs : a.eval s = v) (hown : w.ownsRow base 5 1 v n xs) (A : Option Addr) (m cap : Nat) (l : List UInt8) (hx : a.eval x = .slice A m cap) (hm : l.length = m)
  (hu : BytesIn w B (.slice A m cap) l) (hbytes : n + m ≤ 140737488355328) (hbase : base ≤ w.heap.size)
  (h : ∀ v' w', w'.ownsRow base 5 1 v' (n + m) (xs ++ l.map vu8) → w.grownBy w' v.ownBlock → wpList Tryz.prog ops Q rest (a.put o.dst v') w') : wpList Tryz.prog ops Q (o :: rest) a w := by
 subst hm
 refine wpList_plain hgd fun _ hK => ?_
 obtain ⟨v', w', hrun, h2, h3⟩ := run_append_bytes w hown o.type A cap l hu hbytes hbase
 unfold Oper.wp execOp
 simp only [ho, resolve, invoke, builtin, Sem.run_bind, Sem.run_pure, Result.andThen_ok, List.map_toArray, List.map_cons, List.map_nil, hs, hx, hrun]
 exact hK _ _ (h v' w' h2 h3)

end Go.Proofs.YtemcgfncahccgaaGreat
namespace Go.Proofs.YtemcgfncahccgaaGreat
open Go.RowKit

/-- a slice of slices of bytes that is read -/
def SlicesIn (W : World) (B : Nat) (v : Value) (ls : List (List UInt8)) : Prop :=
 ∃ g off cap, v = .slice (some ⟨g, off, none⟩) ls.length cap ∧ g < B ∧ ∀ i l, ls[i]? = some l → ∃ a c, W.cell? ⟨g, off + i, none⟩ = some (.slice a l.length c) ∧ BytesIn W B (.slice a l.length c) l
theorem lenAll_take (ls : List (List UInt8)) (i : Nat) (l : List UInt8) (h : ls[i]? = some l) : (ls.take (i + 1)).flatten = (ls.take i).flatten ++ l := by
 rw [List.take_add_one, h]
 simp
theorem lenAll_le (ls : List (List UInt8)) (i : Nat) : (ls.take i).flatten.length ≤ ls.flatten.length := by
 have h : ls.flatten = (ls.take i).flatten ++ (ls.drop i).flatten := by rw [← List.flatten_append, List.take_append_drop]
 rw [h, List.length_append]
 omega

theorem grow_nil (n : Nat) (w : World) (hn : n ≤ 140737488355328) : Calls Tryz.prog 160 #[.slice none 0 0, .int .i64 n] w fun e w' =>
  ∃ v, e = .returned v ∧ w'.ownsRow w.heap.size 5 1 v 0 [] ∧ Below w.heap.size w w' := by
 obtain ⟨i0, hi0, hz0, hz1, hz2⟩ := info_parts info_u8
 by_cases h0 : n = 0
 ·subst h0
  refine (Tryz.slices_Grow_room none 0 0 0 w (by omega) (by omega) (by omega) (by omega)).mono ?_
  rintro e w' ⟨rfl, rfl⟩
  exact ⟨_, rfl, World.ownsRow_nil _ _ _ _, Below.refl _ _⟩
 ·refine (Tryz.slices_Grow_grow i0 _ hi0 hz0 (by omega) none 0 0 n [] w (by omega) (by omega) (by rw [hz2]; omega) (by omega) (by simp) (fun _ => rfl) (fun a h => by cases h)).mono ?_
  rintro e w' ⟨rfl, rfl⟩
  have hg := grownCap_ge w (0 + n) 0 5
  have hg2 := grownCap_le_maxLen w (0 + n) 0 5 (by unfold maxLen; omega)
  refine ⟨_, rfl, ?_, (Below.refl _ _).drew.alloc (Nat.le_refl _) _⟩
  refine ⟨rfl, .inr ⟨w.heap.size, grownCap w (0 + n) 0 5, _, rfl, Nat.le_refl _, heap_alloc_new w.drew _, by omega, hg2, ?_, by simp⟩⟩
  simp only [Nat.zero_add] at hg ⊢
  simp [size_zeroCells, Value.cells]
  omega

set_option maxRecDepth 100000 in
set_option maxHeartbeats 2000000 in
theorem concat_any (v : Value) (ls : List (List UInt8)) (w : World) (hv : SlicesIn w w.heap.size v ls) (ht : ls.flatten.length ≤ 1073741824) (hn : ls.length ≤ 1073741824) :
  Calls Tryz.prog 144 #[v] w fun e w' => ∃ u, e = .returned u ∧ w'.ownsRow w.heap.size 5 1 u ls.flatten.length (ls.flatten.map vu8) ∧ Below w.heap.size w w' := by
 obtain ⟨g, off, cap, rfl, hg, hc⟩ := hv
 go_enter Tryz.func144, Tryz.ntmps144
 go_wp2_with fail
 go_loopw [3, 11] (fun s i wr => ∃ j : Nat, j ≤ ls.length ∧ i = .int .i64 j ∧ s = .int .i64 (((ls.take j).flatten.length : Nat) : Int) ∧ w = wr) (fun _ i _ => ls.length - (intOf i).toNat)
 case atStart => exact ⟨0, by omega, rfl, rfl, rfl⟩
 case round =>
  obtain ⟨j, hj, rfl, rfl, rfl⟩ := hrel
  by_cases hlt : j < ls.length
  ·obtain ⟨a, c, hcell, hb⟩ := hc j _ (List.getElem?_eq_getElem hlt)
   have hT := lenAll_take ls j _ (List.getElem?_eq_getElem hlt)
   have hle := lenAll_le ls (j + 1)
   rw [hT, List.length_append] at hle
   have HT := Lib.hid (show (ls.take (j + 1)).flatten.length = (ls.take j).flatten.length + (ls[j]'hlt).length by rw [hT, List.length_append])
   clear hT hc
   generalize ls[j]'hlt = l at *
   generalize (ls.take j).flatten.length = N at *
   go_wp2_with fail
   refine ⟨⟨j + 1, by omega, by go_num, ?_, trivial⟩, by simp [intOf] <;> omega⟩
   rw [HT.out]; congr 1
  ·obtain rfl : j = ls.length := by omega
   rw [List.take_length]
   obtain ⟨T, hT⟩ : ∃ T, T = ls.flatten.length := ⟨_, rfl⟩
   rw [← hT] at ht ⊢
   have HT := Lib.hid hT
   clear hT
   go_wp2_with fail
   refine (grow_nil T w (by omega)).mono ?_; rintro e w1 ⟨u0, rfl, hO, hB⟩
   have HO := Lib.hid hO
   clear hO
   have hc1 : ∀ i l, ls[i]? = some l → ∃ a c, w1.cell? ⟨g, off + i, none⟩ = some (.slice a l.length c) ∧ BytesIn w1 w.heap.size (.slice a l.length c) l := by
    intro i l h
    obtain ⟨a, c, h1, h2⟩ := hc i l h
    exact ⟨a, c, (hB.cell (p := ⟨g, off + i, none⟩) hg).trans h1, h2.below hB (Nat.le_refl _)⟩
   have HC0 := Lib.hid hc
   have HC := Lib.hid hc1
   clear hc hc1
   go_wp2_with fail
   go_loopw [6, 27] (fun u i wx => ∃ j : Nat, j ≤ ls.length ∧ i = .int .i64 j ∧ wx.ownsRow w.heap.size 5 1 u (ls.take j).flatten.length ((ls.take j).flatten.map vu8) ∧ Below w.heap.size w wx) (fun _ i _ => ls.length - (intOf i).toNat)
   case atStart => exact ⟨0, by omega, rfl, by simpa using HO.out, hB⟩
   case round =>
    clear hB HO HC
    obtain ⟨j, hj, rfl, hO, hB⟩ := hrel
    by_cases hlt : j < ls.length
    ·obtain ⟨a, c, hcell0, hb0⟩ := HC0.out j _ (List.getElem?_eq_getElem hlt)
     have hcell := (hB.cell (p := ⟨g, off + j, none⟩) hg).trans hcell0
     have hb := hb0.below hB (Nat.le_refl _)
     have hT := lenAll_take ls j _ (List.getElem?_eq_getElem hlt)
     have hle := lenAll_le ls (j + 1)
     rw [hT, List.length_append] at hle
     have HTL := Lib.hid (show (ls.take (j + 1)).flatten.length = (ls.take j).flatten.length + (ls[j]'hlt).length by rw [hT, List.length_append])
     have HTM := Lib.hid (show (ls.take (j + 1)).flatten.map vu8 = (ls.take j).flatten.map vu8 ++ (ls[j]'hlt).map vu8 by rw [hT, List.map_append])
     rw [← HT.out] at hle
     have hsz := hB.size
     have HO := Lib.hid hO
     clear hT hcell0 hb0 hO
     generalize ls[j]'hlt = l at *
     generalize (ls.take j).flatten.length = N at *
     have hbl := Lib.hid hb
     clear hb
     go_wp2_with (at_builtin; refine wpList_append_bytes _ rfl _ _ rfl w.heap.size w.heap.size N _ _ rfl HO.out a l.length c l rfl rfl hbl.out (by omega) hsz ?_; intro u2 w3 hO3 hg3)
     refine ⟨⟨j + 1, by omega, by go_num, ?_, ?_⟩, by simp [intOf] <;> omega⟩
     ·rw [HTL.out, HTM.out]; exact hO3
     ·exact hB.grown hg3 hsz (fun r hr => (HO.out.lt r hr).1)
    ·obtain rfl : j = ls.length := by omega
     rw [List.take_length] at hO
     go_wp2_with fail
     go_ret
     exact ⟨_, rfl, hO, hB⟩

/-- sums.joined of one slice, of two -/
theorem joined_any (v : Value) (ls : List (List UInt8)) (w : World) (hv : SlicesIn w w.heap.size v ls) (ht : ls.flatten.length ≤ 1073741824) (hn : ls.length ≤ 1073741824) :
  Calls Tryz.prog 131 #[v] w fun e w' => ∃ u, e = .returned u ∧ w'.ownsRow w.heap.size 5 1 u ls.flatten.length (ls.flatten.map vu8) ∧ Below w.heap.size w w' := by
 have hv2 := hv
 obtain ⟨g, off, cap, rfl, hg, hc⟩ := hv
 have HV := Lib.hid hv2
 clear hv2 hc
 go_enter Tryz.func131, Tryz.ntmps131
 go_wp2_with fail
 refine (concat_any _ ls w HV.out ht hn).mono ?_; rintro e w1 ⟨u, rfl, hO, hB⟩
 have HO := Lib.hid hO
 clear hO
 go_wp2_with fail
 go_ret
 exact ⟨_, rfl, HO.out, hB⟩

end Go.Proofs.YtemcgfncahccgaaGreat
