/-
  The contracts of the reference's Put and Get, for all numbers and bytes.
  Reslicing a slice of bytes that is read.
  DERIVED: THE SHELF's CONTRACTS AT THIS DUMP, IN PLAIN WORDS (tools/lay-plain.mjs out of 'TryzShelf.lean', which tools/lay-shelf.mjs wrote): THE SAME DECLARATIONS UNDER THE SAME NAMES: 'import', 'namespace', 'open', 'def', 'theorem' AND NOTHING ELSE: no command of the shelf's: FOR A HAND-IN. Each laying: the table of numbers ('.._ren') and one theorem, a field a fact of the dump's own or the kernel's comparison; each contract: ONE APPLICATION.
  append of bytes that are read to a slice of the call's own, empty or not, nil or not.
-/
import Derived.Deep.AppendLies
import Derived.Ground.SlgnProg
import Derived.Shelf.SlicesE.Equal
import Derived.Shelf.Spec.SlicesGrow
import Derived.Ground.Names8Prog
import Derived.Ground.SlgfProg
import Derived.Shelf.SlicesE.IndexFunc
import Derived.Shelf.Bytes.SlEqualAll
import Derived.Shelf.Bytes.Small
import Derived.Test.YtdpniceapmikpaaGreatProg
import Derived.Maps.AppendAt
import Derived.Test.YtdpniceapmikpaaGreatSt5
set_option linter.unusedVariables false
set_option linter.unusedSimpArgs false
namespace Go.Proofs.YtdpniceapmikpaaGreat
open Go.RowKit

theorem leB_succ (n j : Nat) : leB n (j + 1) = leB n j ++ [byteAt n j] := by simp [leB, List.range_succ]

set_option maxRecDepth 100000 in
set_option maxHeartbeats 1000000 in
theorem rput_yes (n k : Nat) (w : World) (hk : wideB k = true) (hn : (n : Int) ≤ 9223372036854775807) : Calls Tryz.prog 132 #[.int .i64 n, .int .i64 k] w fun e w' =>
  ∃ v, e = .returned (.tuple #[v, .bool (n / 256 ^ k == 0)]) ∧ w'.ownsRow w.heap.size 5 1 v k ((leB n k).map vu8) ∧ Below w.heap.size w w' := by
 have hk8 : k ≤ 8 := by simp [wideB] at hk; omega
 obtain ⟨i0, hi0, hz0, hz1, hz2⟩ := info_parts info_u8
 have HI := Lib.hid (And.intro hi0 (And.intro hz0 (And.intro hz1 hz2)))
 clear hi0 hz0 hz1 hz2
 have hne : ¬ (n : Int) < 0 := by omega
 go_enter Tryz.func132, Tryz.ntmps132
 go_wp2_with fail
 refine (rwide_any k _).mono ?_; rintro e w1 ⟨rfl, rfl⟩
 rw [hk]
 go_wp2_with fail
 go_loopw [0, 6, 7] (fun m o i wr => ∃ j : Nat, j ≤ k ∧ i = .int .i64 j ∧ m = .int .i64 ((n / 256 ^ j : Nat) : Int) ∧ wr.ownsRow w.heap.size 5 1 o j ((leB n j).map vu8) ∧ Below w.heap.size w wr) (fun _ _ i _ => k - (intOf i).toNat)
 case atStart => exact ⟨0, by omega, rfl, by simp, World.ownsRow_nil _ _ _ _, Below.refl _ _⟩
 case round =>
  obtain ⟨j, hj, rfl, rfl, hO, hB⟩ := hrel
  by_cases hlt : j < k
  ·have hb8 := byteAt_int n j
   have hdl : n / 256 ^ j ≤ n := Nat.div_le_self _ _
   have hdq : n / 256 ^ (j + 1) = n / 256 ^ j / 256 := by rw [Nat.pow_succ, ← Nat.div_div_eq_div_mul]
   have hls := Lib.hid (leB_succ n j)
   have hll := leB_len n j
   generalize n / 256 ^ j = q at *
   have hdq2 := Lib.hid hdq
   have hb82 := Lib.hid hb8
   clear hdq hb8
   have HO := Lib.hid hO
   clear hO
   have hsz := hB.size
   have hbyte : ((q : Int) % 256) = ((byteAt n j).toNat : Int) := hb82.out.symm
   go_wp2_with (at_builtin; refine wpList_append_lies _ rfl _ _ _ rfl w.heap.size 5 i0 _ 1 1 Tryz.underlying26 HI.out.1 HI.out.2.1 HI.out.2.2.1 HI.out.2.2.2 rfl (by omega) _ j _ rfl (HO.out.alloc _) ⟨wr.heap.size, 0, none⟩ 1 1 [vu8 (byteAt n j)] rfl rfl (World.news_of_block (cs := #[vu8 (byteAt n j)]) (t := 5) (fr := (0, 0)) (heap_alloc_new wr _)) (by simp [Value.oneCell']) (by omega) (by unfold maxLen; omega) (by omega) (by simp; omega) (wr.heap.size + 1) (by simp) ?_; intro g cap w3 hO3 hg3 hat3 hlt3)
   refine ⟨⟨j + 1, by omega, by go_num, ?_, ?_, ?_⟩, by simp [intOf]; omega⟩
   ·rw [hdq2.out]; congr 1
   ·rw [hls.out]; simpa using hO3
   ·exact (hB.alloc hsz _).grown hg3 (by simp; omega) (fun r hr => (HO.out.lt r hr).1)
  ·obtain rfl : j = k := by omega
   generalize hqe : n / 256 ^ j = q at *
   have HQ := Lib.hid hqe
   clear hqe
   have hq : ((q : Int) == 0) = (q == 0) := by
    cases h : (q == 0)
    ·simp at h ⊢; omega
    ·simp at h ⊢; omega
   go_wp2_with fail
   go_ret2
   exact ⟨_, by rw [HQ.out]; rfl, hO, hB⟩

theorem rget_narrow (v : Value) (bs : List UInt8) (w : World) (hv : BytesIn w w.heap.size v bs) (h : wideB bs.length = false) :
  Calls Tryz.prog 113 #[v] w fun e w' => e = .returned (.tuple #[.int .i64 0, .bool false]) ∧ w = w' := by
 obtain ⟨h1, a, cap, rfl, h2⟩ := hv
 go_enter Tryz.func113, Tryz.ntmps113
 go_wp2_with fail
 refine (rwide_any _ _).mono ?_; rintro e w1 ⟨rfl, rfl⟩
 rw [h]
 go_wp2_with fail
 go_ret2
 exact ⟨rfl, rfl⟩

theorem leN_append (l r : List UInt8) : leN (l ++ r) = leN l + 256 ^ l.length * leN r := by
 induction l with
 | nil => simp [leN]
 | cons c l ih =>
  simp only [List.cons_append, leN, ih, List.length_cons, Nat.pow_succ]
  rw [Nat.mul_add, Nat.mul_comm (256 ^ l.length) 256, Nat.mul_assoc]
  omega
theorem leN_drop (l : List UInt8) (j : Nat) (c : UInt8) (h : l[j]? = some c) : leN (l.drop j) = c.toNat + 256 * leN (l.drop (j + 1)) := by
 have hl : j < l.length := by
  rcases Nat.lt_or_ge j l.length with hh | hh
  ·exact hh
  ·rw [List.getElem?_eq_none hh] at h; cases h
 rw [List.drop_eq_getElem_cons hl]
 rw [List.getElem?_eq_getElem hl] at h
 rw [Option.some.inj h]
 rfl
/-- of eight bytes: whether the last one is too great -/
theorem top_bit (l : List UInt8) (c : UInt8) (hl : l.length = 8) (h : l[7]? = some c) : (127 < c.toNat) ↔ 9223372036854775808 ≤ leN l := by
 have e : l = l.take 7 ++ l.drop 7 := (List.take_append_drop 7 l).symm
 have hd : leN (l.drop 7) = c.toNat := by
  have h8 : l.drop (7 + 1) = [] := List.drop_of_length_le (by omega)
  rw [leN_drop l 7 c h, h8]
  simp [leN]
 have hle : leN l = leN (l.take 7) + 256 ^ 7 * c.toNat := by
  have h0 : leN l = leN (l.take 7 ++ l.drop 7) := by rw [← e]
  rw [h0, leN_append, hd, List.length_take, hl]
  rfl
 have ht := leN_lt (l.take 7)
 rw [List.length_take, hl] at ht
 have ht2 : leN (l.take 7) < 72057594037927936 := ht
 have hp : (256 : Nat) ^ 7 = 72057594037927936 := by decide
 rw [hp] at hle
 omega

set_option maxRecDepth 100000 in
set_option maxHeartbeats 1000000 in
theorem rget_8 (v : Value) (bs : List UInt8) (w : World) (hv : BytesIn w w.heap.size v bs) (h : wideB bs.length = true) (hs : leN bs < 9223372036854775808) (hl : bs.length = 8) :
  Calls Tryz.prog 113 #[v] w fun e w' => e = .returned (.tuple #[.int .i64 (leN bs), .bool true]) ∧ w = w' := by
 obtain ⟨h1, a, cap, rfl, hcap, h2⟩ := hv
 have h8 : bs.length ≤ 8 := by simp [wideB] at h; omega
 have hpos : 0 < bs.length := by simp [wideB] at h; omega
 have hb7 : bs[7]? = some (bs[7]'(by omega)) := List.getElem?_eq_getElem (by omega)
 obtain ⟨g, off, rfl, hg7, hc7⟩ := h2 7 _ hb7
 have h127 : ¬ (127 : Int) < ((bs[7]'(by omega)).toNat : Int) := by have := top_bit bs _ hl hb7; omega
 generalize bs[7]'(by omega) = c7 at *
 have h7 : (7 : Int) < (bs.length : Int) := by omega
 have hbe : ((bs.length : Int) == 8) = true := by simp; omega
 clear hb7 hl
 have HS := Lib.hid hs
 clear hs
 go_enter Tryz.func113, Tryz.ntmps113
 go_wp2_with fail
 refine (rwide_any _ _).mono ?_; rintro e w1 ⟨rfl, rfl⟩
 rw [h]
 go_wp2_with fail
 go_loop [4, 5] (fun n i => ∃ j : Nat, j ≤ bs.length ∧ i = .int .i64 ((j : Int) - 1) ∧ n = .int .i64 ((leN (bs.drop j) : Nat) : Int)) (fun _ i => (intOf i + 1).toNat)
 case atStart => exact ⟨bs.length, Nat.le_refl _, rfl, by simp [leN]⟩
 case round =>
  obtain ⟨j, hj, rfl, rfl⟩ := hrel
  by_cases hlt : 0 < j
  ·obtain ⟨q, rfl⟩ : ∃ q, j = q + 1 := ⟨j - 1, by omega⟩
   have hbj : bs[q]? = some (bs[q]'(by omega)) := List.getElem?_eq_getElem (by omega)
   obtain ⟨g2, off2, e2, hg, hcell⟩ := h2 q _ hbj
   obtain ⟨rfl, rfl⟩ : g = g2 ∧ off = off2 := by simpa using e2
   have hT := leN_drop bs q _ hbj
   have hle : leN (bs.drop q) < 9223372036854775808 := by
    have e0 : bs = bs.take q ++ bs.drop q := (List.take_append_drop q bs).symm
    have h0 : leN bs = leN (bs.take q) + 256 ^ (bs.take q).length * leN (bs.drop q) := by
     conv => lhs; rw [e0]
     exact leN_append _ _
    have hp : 1 ≤ 256 ^ (bs.take q).length := Nat.pos_of_ne_zero (by simp)
    have := Nat.mul_le_mul_right (leN (bs.drop q)) hp
    have := HS.out
    omega
   generalize bs[q]'(by omega) = c at *
   generalize leN (bs.drop (q + 1)) = N at *
   have hc256 := u8_lt c
   have HT := Lib.hid hT
   have hNb : (N : Int) * 256 + (c.toNat : Int) < 9223372036854775808 := by omega
   clear hT hle
   have ej : ((q + 1 : Nat) : Int) - 1 = (q : Int) := by omega
   rw [ej]
   go_wp2_with fail
   exact ⟨⟨q, by omega, rfl, by rw [HT.out]; congr 1; omega⟩, by simp [intOf] <;> omega⟩
  ·obtain rfl : j = 0 := by omega
   rw [List.drop_zero]
   go_wp2_with fail
   go_ret2
   exact ⟨rfl, rfl⟩

set_option maxRecDepth 100000 in
set_option maxHeartbeats 1000000 in
theorem rget_4 (v : Value) (bs : List UInt8) (w : World) (hv : BytesIn w w.heap.size v bs) (h : wideB bs.length = true) (hs : leN bs < 9223372036854775808) (hl : bs.length ≠ 8) :
  Calls Tryz.prog 113 #[v] w fun e w' => e = .returned (.tuple #[.int .i64 (leN bs), .bool true]) ∧ w = w' := by
 obtain ⟨h1, a, cap, rfl, hcap, h2⟩ := hv
 have h8 : bs.length ≤ 8 := by simp [wideB] at h; omega
 have hpos : 0 < bs.length := by simp [wideB] at h; omega
 have hbe : ((bs.length : Int) == 8) = false := by simp; omega
 clear hl
 have HS := Lib.hid hs
 clear hs
 go_enter Tryz.func113, Tryz.ntmps113
 go_wp2_with fail
 refine (rwide_any _ _).mono ?_; rintro e w1 ⟨rfl, rfl⟩
 rw [h]
 go_wp2_with fail
 go_loop [4, 5] (fun n i => ∃ j : Nat, j ≤ bs.length ∧ i = .int .i64 ((j : Int) - 1) ∧ n = .int .i64 ((leN (bs.drop j) : Nat) : Int)) (fun _ i => (intOf i + 1).toNat)
 case atStart => exact ⟨bs.length, Nat.le_refl _, rfl, by simp [leN]⟩
 case round =>
  obtain ⟨j, hj, rfl, rfl⟩ := hrel
  by_cases hlt : 0 < j
  ·obtain ⟨q, rfl⟩ : ∃ q, j = q + 1 := ⟨j - 1, by omega⟩
   have hbj : bs[q]? = some (bs[q]'(by omega)) := List.getElem?_eq_getElem (by omega)
   obtain ⟨g2, off2, e2, hg, hcell⟩ := h2 q _ hbj
   subst e2
   have hT := leN_drop bs q _ hbj
   have hle : leN (bs.drop q) < 9223372036854775808 := by
    have e0 : bs = bs.take q ++ bs.drop q := (List.take_append_drop q bs).symm
    have h0 : leN bs = leN (bs.take q) + 256 ^ (bs.take q).length * leN (bs.drop q) := by
     conv => lhs; rw [e0]
     exact leN_append _ _
    have hp : 1 ≤ 256 ^ (bs.take q).length := Nat.pos_of_ne_zero (by simp)
    have := Nat.mul_le_mul_right (leN (bs.drop q)) hp
    have := HS.out
    omega
   generalize bs[q]'(by omega) = c at *
   generalize leN (bs.drop (q + 1)) = N at *
   have hc256 := u8_lt c
   have HT := Lib.hid hT
   have hNb : (N : Int) * 256 + (c.toNat : Int) < 9223372036854775808 := by omega
   clear hT hle
   have ej : ((q + 1 : Nat) : Int) - 1 = (q : Int) := by omega
   rw [ej]
   go_wp2_with fail
   exact ⟨⟨q, by omega, rfl, by rw [HT.out]; congr 1; omega⟩, by simp [intOf] <;> omega⟩
  ·obtain rfl : j = 0 := by omega
   rw [List.drop_zero]
   go_wp2_with fail
   go_ret2
   exact ⟨rfl, rfl⟩

theorem rget_big (v : Value) (bs : List UInt8) (w : World) (hv : BytesIn w w.heap.size v bs) (hl : bs.length = 8) (hs : 9223372036854775808 ≤ leN bs) :
  Calls Tryz.prog 113 #[v] w fun e w' => e = .returned (.tuple #[.int .i64 0, .bool false]) ∧ w = w' := by
 obtain ⟨h1, a, cap, rfl, hcap, h2⟩ := hv
 have hb7 : bs[7]? = some (bs[7]'(by omega)) := List.getElem?_eq_getElem (by omega)
 obtain ⟨g, off, rfl, hg7, hc7⟩ := h2 7 _ hb7
 have h127 : (127 : Int) < ((bs[7]'(by omega)).toNat : Int) := by have := top_bit bs _ hl hb7; omega
 generalize bs[7]'(by omega) = c7 at *
 have h7 : (7 : Int) < (bs.length : Int) := by omega
 have hbe : ((bs.length : Int) == 8) = true := by simp; omega
 have hw : wideB bs.length = true := by rw [hl]; rfl
 clear hb7 hl
 go_enter Tryz.func113, Tryz.ntmps113
 go_wp2_with fail
 refine (rwide_any _ _).mono ?_; rintro e w1 ⟨rfl, rfl⟩
 rw [hw]
 go_wp2_with fail
 go_ret2
 exact ⟨rfl, rfl⟩

theorem rget_any (v : Value) (bs : List UInt8) (w : World) (hv : BytesIn w w.heap.size v bs) :
  Calls Tryz.prog 113 #[v] w fun e w' => e = .returned (.tuple #[.int .i64 (if getB bs then (leN bs : Int) else 0), .bool (getB bs)]) ∧ w = w' := by
 unfold getB
 cases hw : wideB bs.length
 ·exact rget_narrow v bs w hv hw
 ·by_cases hs : leN bs < 9223372036854775808
  ·rw [decide_eq_true hs]
   by_cases hl : bs.length = 8
   ·exact rget_8 v bs w hv hw hs hl
   ·exact rget_4 v bs w hv hw hs hl
  ·rw [decide_eq_false hs]
   have hl : bs.length = 8 := by
    have h1 := leN_lt bs
    have h2 : bs.length = 2 ∨ bs.length = 4 ∨ bs.length = 8 := by simp [wideB] at hw; omega
    rcases h2 with h2 | h2 | h2
    ·rw [h2] at h1; have : (256 : Nat) ^ 2 = 65536 := by decide
     omega
    ·rw [h2] at h1; have : (256 : Nat) ^ 4 = 4294967296 := by decide
     omega
    ·exact h2
   exact rget_big v bs w hv hl (by omega)

end Go.Proofs.YtdpniceapmikpaaGreat
namespace Go.Proofs.YtdpniceapmikpaaGreat
open Go.RowKit

theorem add_at (g off n : Nat) : (⟨g, off, none⟩ : Addr).add n = ⟨g, off + n, none⟩ := Go.WideShapes.add_plain g off n
/-- b[i:j], the value as the walk leaves it -/
theorem BytesIn.cut {W : World} {B : Nat} {a : Option Addr} {cap : Nat} {l : List UInt8} (h : BytesIn W B (.slice a l.length cap) l) (i j : Nat) (hij : i ≤ j) (hj : j ≤ l.length) (hc : l.length ≤ cap) :
  BytesIn W B (.slice (if cap = i then a else a.map (·.add i)) (j - i) (cap - i)) ((l.drop i).take (j - i)) := by
 obtain ⟨h1, a', cap', e, h3, h4⟩ := h
 injection e with ea el ec
 subst ea
 have hl : ((l.drop i).take (j - i)).length = j - i := by rw [List.length_take, List.length_drop]; omega
 refine ⟨by rw [hl]; omega, _, _, by rw [hl], by rw [hl]; omega, fun k c hk => ?_⟩
 have hkl : k < j - i := by
  rcases Nat.lt_or_ge k (j - i) with hh | hh
  ·exact hh
  ·rw [List.getElem?_eq_none (by rw [hl]; exact hh)] at hk; cases hk
 have hk2 : l[i + k]? = some c := by
  rw [List.getElem?_take, if_pos hkl, List.getElem?_drop] at hk
  exact hk
 obtain ⟨g, off, rfl, hg, hcell⟩ := h4 (i + k) c hk2
 have hne : ¬ cap = i := by omega
 rw [if_neg hne]
 refine ⟨g, off + i, by rw [Option.map_some, add_at], hg, ?_⟩
 rw [Nat.add_assoc]
 exact hcell
/-- b[i:] -/
theorem BytesIn.from_ {W : World} {B : Nat} {a : Option Addr} {cap : Nat} {l : List UInt8} (h : BytesIn W B (.slice a l.length cap) l) (i : Nat) (hi : i ≤ l.length) (hc : l.length ≤ cap) :
  BytesIn W B (.slice (if cap = i then a else a.map (·.add i)) (l.length - i) (cap - i)) (l.drop i) := by
 have := h.cut i l.length hi (Nat.le_refl _) hc
 rwa [List.take_of_length_le (by simp)] at this
/-- b[:j] -/
theorem BytesIn.upto {W : World} {B : Nat} {a : Option Addr} {cap : Nat} {l : List UInt8} (h : BytesIn W B (.slice a l.length cap) l) (j : Nat) (hj : j ≤ l.length) (hc : l.length ≤ cap) :
  BytesIn W B (.slice a j cap) (l.take j) := by
 obtain ⟨h1, a', cap', e, h3, h4⟩ := h
 injection e with ea el ec
 subst ea
 have hl : (l.take j).length = j := by rw [List.length_take]; omega
 refine ⟨by rw [hl]; omega, _, _, by rw [hl], by rw [hl]; omega, fun k c hk => h4 k c ?_⟩
 rw [List.getElem?_take] at hk
 split at hk
 ·exact hk
 ·cases hk

end Go.Proofs.YtdpniceapmikpaaGreat
namespace Go.Proofs
open Go.Shelf
def Tryz.laysSlE33_f43_ren : Go.Shelf.Ren := ⟨fun | 33 => 43 | n => n, fun | 22 => 24 | 23 => 3 | 4 => 4 | 3 => 3 | 0 => 0 | n => n, fun | n => n⟩
theorem Tryz.laysSlE33_f43 : Go.Proofs.SlLaysE.n33 Tryz.prog Tryz.laysSlE33_f43_ren := {
 mixed := by kernel_rfl
 f33 := ⟨Tryz.f43.name, by decide, Tryz.func43.trans (congrArg some (by kernel_rfl))⟩
 t0 := Tryz.underlying0
 a0 := Tryz.isAgg0
 z0 := Tryz.sizeOf0
 v0 := Tryz.zeroValue0
 t3 := Tryz.underlying3
 a3 := Tryz.isAgg3
 z3 := Tryz.sizeOf3
 v3 := Tryz.zeroValue3
 t4 := Tryz.underlying4
 a4 := Tryz.isAgg4
 z4 := Tryz.sizeOf4
 v4 := Tryz.zeroValue4
 t22 := Tryz.underlying24
 a22 := Tryz.isAgg24
 z22 := Tryz.sizeOf24
 v22 := Tryz.zeroValue24
 a23 := Tryz.isAgg3
 z23 := Tryz.sizeOf3 }
open Go.RowKit Go.Lib in
/-- slices.Equal: "Equal reports whether two slices are equal: the same length and all elements equal. .. Empty and nil slices are considered equal. Floating point NaNs are not considered equal.": IT RETURNS 'Lib.allEq eq (the one's elements) (the other's)'; the world is as it was but for the count of draws. (LAID AT THE INSTANCE 'slices.Equal[[]int,int]': no walk: one application.) -/
theorem Tryz.slices_Equal {α : Type} [Inhabited α] (enc : α → Value) (eq : α → α → Bool) (hne : NeqAt Tryz.prog 3 enc eq) (b1 o1 n c b2 o2 m d : Nat) (xs ys : List α) (w : World) (hx : n ≤ xs.length) (hy : m ≤ ys.length) (hbig : n ≤ 9223372036854775807) (hbig2 : m ≤ 9223372036854775807) (hc1 : ∀ j, j < xs.length → w.cell? ⟨b1, o1 + j, none⟩ = some (enc xs[j]!)) (hc2 : ∀ j, j < ys.length → w.cell? ⟨b2, o2 + j, none⟩ = some (enc ys[j]!)) :
  Calls Tryz.prog 43 #[.slice (some ⟨b1, o1, none⟩) n c, .slice (some ⟨b2, o2, none⟩) m d] w fun e w' => e = .returned (.bool (Lib.allEq eq (xs.take n) (ys.take m))) ∧ ∃ q, w' = w.drewN q := AnyE.slices_Equal Tryz.laysSlE33_f43 enc eq hne b1 o1 n c b2 o2 m d xs ys w hx hy hbig hbig2 hc1 hc2
def Tryz.laysSlH6_f127_ren : Go.Shelf.Ren := ⟨fun | 6 => 127 | n => n, fun | 22 => 24 | 23 => 3 | 25 => 156 | 3 => 3 | 0 => 0 | 4 => 4 | n => n, fun | n => n⟩
theorem Tryz.laysSlH6_f127 : Go.Proofs.SlLaysH.n6 Tryz.prog Tryz.laysSlH6_f127_ren := {
 mixed := by kernel_rfl
 f6 := ⟨Tryz.f127.name, by decide, Tryz.func127.trans (congrArg some (by kernel_rfl))⟩
 t0 := Tryz.underlying0
 a0 := Tryz.isAgg0
 z0 := Tryz.sizeOf0
 v0 := Tryz.zeroValue0
 t3 := Tryz.underlying3
 a3 := Tryz.isAgg3
 z3 := Tryz.sizeOf3
 v3 := Tryz.zeroValue3
 t4 := Tryz.underlying4
 a4 := Tryz.isAgg4
 z4 := Tryz.sizeOf4
 v4 := Tryz.zeroValue4
 t22 := Tryz.underlying24
 a22 := Tryz.isAgg24
 z22 := Tryz.sizeOf24
 v22 := Tryz.zeroValue24
 a23 := Tryz.isAgg3
 z23 := Tryz.sizeOf3
 t25 := Tryz.underlying156
 a25 := Tryz.isAgg156
 z25 := Tryz.sizeOf156
 v25 := Tryz.zeroValue156 }
open Go.RowKit Go.Lib in
/-- slices.IndexFunc: "IndexFunc returns the first index i satisfying f(s[i]), or -1 if none do." (LAID AT THE INSTANCE 'slices.IndexFunc[[]int,int]': no walk: one application.) -/
theorem Tryz.slices_IndexFunc {α : Type} [Inhabited α] (enc : α → Value) (p : α → Bool) (g : Nat) (lb : Array Value) (eg : ∀ args w, (callFunc g args).run Tryz.prog w = .ok (.enter g args) w) (b off n c : Nat) (zs : List α) (w : World) (hp : PredAt Tryz.prog g lb enc p w) (hz : n ≤ zs.length) (hbig : n ≤ 9223372036854775807) (hc : ∀ j, j < zs.length → w.cell? ⟨b, off + j, none⟩ = some (enc zs[j]!)) :
  Calls Tryz.prog 127 #[.slice (some ⟨b, off, none⟩) n c, .func (.func g) #[] lb] w fun e w' => e = .returned (.int .i64 (Lib.idxBy (fun _ y => p y) (zs.take n) default)) ∧ ∃ q, w' = w.drewN q := AnyE.slices_IndexFunc Tryz.laysSlH6_f127 enc p g lb eg b off n c zs w hp hz hbig hc
open Go.RowKit Go.Lib in
/-- The same at a slice of length 0, a nil one too: the predicate is not called: nothing is asked of it. (LAID AT THE INSTANCE 'slices.IndexFunc[[]int,int]': no walk: one application.) -/
theorem Tryz.slices_IndexFunc_empty {α : Type} [Inhabited α] (a : Option Addr) (c : Nat) (fv : Value) (w : World) :
  Calls Tryz.prog 127 #[.slice a 0 c, fv] w fun e w' => e = .returned (.int .i64 (-1)) ∧ w' = w := AnyE.slices_IndexFunc_empty Tryz.laysSlH6_f127 a c fv w
def Tryz.laysSlH8_f78_ren : Go.Shelf.Ren := ⟨fun | 8 => 78 | 6 => 127 | n => n, fun | 22 => 24 | 23 => 3 | 25 => 156 | 4 => 4 | 3 => 3 | 0 => 0 | n => n, fun | n => n⟩
theorem Tryz.laysSlH8_f78 : Go.Proofs.SlLaysH.n8 Tryz.prog Tryz.laysSlH8_f78_ren := {
 mixed := by kernel_rfl
 f6 := ⟨Tryz.f127.name, by decide, Tryz.func127.trans (congrArg some (by kernel_rfl))⟩
 f8 := ⟨Tryz.f78.name, by decide, Tryz.func78.trans (congrArg some (by kernel_rfl))⟩
 t0 := Tryz.underlying0
 a0 := Tryz.isAgg0
 z0 := Tryz.sizeOf0
 v0 := Tryz.zeroValue0
 t3 := Tryz.underlying3
 a3 := Tryz.isAgg3
 z3 := Tryz.sizeOf3
 v3 := Tryz.zeroValue3
 t4 := Tryz.underlying4
 a4 := Tryz.isAgg4
 z4 := Tryz.sizeOf4
 v4 := Tryz.zeroValue4
 t22 := Tryz.underlying24
 a22 := Tryz.isAgg24
 z22 := Tryz.sizeOf24
 v22 := Tryz.zeroValue24
 a23 := Tryz.isAgg3
 z23 := Tryz.sizeOf3
 t25 := Tryz.underlying156
 a25 := Tryz.isAgg156
 z25 := Tryz.sizeOf156
 v25 := Tryz.zeroValue156 }
open Go.RowKit Go.Lib in
/-- slices.ContainsFunc: "ContainsFunc reports whether at least one element e of s satisfies f(e).": ITS CALLEE slices.IndexFunc IS MET BY ITS OWN CONTRACT. (LAID AT THE INSTANCE 'slices.ContainsFunc[[]int,int]': no walk: one application.) -/
theorem Tryz.slices_ContainsFunc {α : Type} [Inhabited α] (enc : α → Value) (p : α → Bool) (g : Nat) (lb : Array Value) (eg : ∀ args w, (callFunc g args).run Tryz.prog w = .ok (.enter g args) w) (b off n c : Nat) (zs : List α) (w : World) (hp : PredAt Tryz.prog g lb enc p w) (hz : n ≤ zs.length) (hbig : n ≤ 9223372036854775807) (hc : ∀ j, j < zs.length → w.cell? ⟨b, off + j, none⟩ = some (enc zs[j]!)) :
  Calls Tryz.prog 78 #[.slice (some ⟨b, off, none⟩) n c, .func (.func g) #[] lb] w fun e w' => e = .returned (.bool ((zs.take n).any p)) ∧ ∃ q, w' = w.drewN q := AnyE.slices_ContainsFunc Tryz.laysSlH8_f78 enc p g lb eg b off n c zs w hp hz hbig hc
open Go.RowKit Go.Lib in
/-- The same at a slice of length 0, a nil one too. (LAID AT THE INSTANCE 'slices.ContainsFunc[[]int,int]': no walk: one application.) -/
theorem Tryz.slices_ContainsFunc_empty {α : Type} [Inhabited α] (a : Option Addr) (c : Nat) (fv : Value) (w : World) :
  Calls Tryz.prog 78 #[.slice a 0 c, fv] w fun e w' => e = .returned (.bool false) ∧ w' = w := AnyE.slices_ContainsFunc_empty Tryz.laysSlH8_f78 a c fv w
def Tryz.laysnb115_ren : Go.Shelf.Ren := ⟨fun | 115 => 45 | n => n, fun | 37 => 26 | 4 => 4 | 9 => 9 | 5 => 5 | n => n, fun | n => n⟩
theorem Tryz.laysnb115 : Go.Proofs.Lays.nb115 Tryz.prog Tryz.laysnb115_ren := {
 mixed := by kernel_rfl
 f115 := Tryz.func45.trans (congrArg some (by kernel_rfl))
 t4 := Tryz.underlying4
 a4 := Tryz.isAgg4
 z4 := Tryz.sizeOf4
 v4 := Tryz.zeroValue4
 t9 := Tryz.underlying9
 a9 := Tryz.isAgg9
 z9 := Tryz.sizeOf9
 v9 := Tryz.zeroValue9
 t37 := Tryz.underlying26
 a37 := Tryz.isAgg26
 z37 := Tryz.sizeOf26
 v37 := Tryz.zeroValue26
 t5 := Tryz.underlying5
 a5 := Tryz.isAgg5
 z5 := Tryz.sizeOf5
 v5 := Tryz.zeroValue5 }
/-- bytes.Equal: WHOLE. (LAID: no walk: one application.) -/
theorem Tryz.bytes_Equal_all (p1 p2 : Option Addr) (n c m d : Nat) (xs ys : List Int) (w : World) (hx : xs.length = n) (hy : ys.length = m) (h1 : Lib.BytesIn w p1 n xs) (h2 : Lib.BytesIn w p2 m ys) :
  Calls Tryz.prog 45 #[.slice p1 n c, .slice p2 m d] w fun e w' => e = .returned (.bool (Lib.bytesOf xs == Lib.bytesOf ys)) ∧ w' = w := Any.bytes_Equal_all Tryz.laysnb115 p1 p2 n c m d xs ys w hx hy h1 h2
def Tryz.lays115_ren : Go.Shelf.Ren := ⟨fun | 115 => 45 | n => n, fun | 37 => 26 | 4 => 4 | 9 => 9 | 5 => 5 | n => n, fun | n => n⟩
theorem Tryz.lays115 : Go.Proofs.Lays.n115 Tryz.prog Tryz.lays115_ren := {
 mixed := by kernel_rfl
 f115 := Tryz.func45.trans (congrArg some (by kernel_rfl))
 t4 := Tryz.underlying4
 a4 := Tryz.isAgg4
 z4 := Tryz.sizeOf4
 v4 := Tryz.zeroValue4
 t9 := Tryz.underlying9
 a9 := Tryz.isAgg9
 z9 := Tryz.sizeOf9
 v9 := Tryz.zeroValue9
 t37 := Tryz.underlying26
 a37 := Tryz.isAgg26
 z37 := Tryz.sizeOf26
 v37 := Tryz.zeroValue26 }
/-- bytes.Equal: "Equal reports whether a and b are the same length and contain the same bytes. A nil argument is equivalent to an empty slice.": IT RETURNS 'the bytes of the one == the bytes of the other'; the world is as it was. THE TWO ARGUMENTS COME AS WHATEVER VALUES, each with the one fact that the walk wants of it: what 'string(..)' of it gives: for a slice whose cells you know: 'run_convert_bytes_arg' (Derived/Laws/BytesArg.lean) hands that fact; for a nil one: 'run_convert_bytes_nil' (with xs := []). (LAID: no walk: one application.) -/
theorem Tryz.bytes_Equal (v1 v2 : Value) (xs ys : List Int) (w : World) (h1 : (convert 26 9 v1).run Tryz.prog w = .ok (.string (strOfNums xs)) w) (h2 : (convert 26 9 v2).run Tryz.prog w = .ok (.string (strOfNums ys)) w) :
  Calls Tryz.prog 45 #[v1, v2] w fun e w' => e = .returned (.bool (Lib.bytesOf xs == Lib.bytesOf ys)) ∧ w' = w := Any.bytes_Equal Tryz.lays115 v1 v2 xs ys w h1 h2
def Tryz.lays84_f166_ren : Go.Shelf.Ren := ⟨fun | 4 => 166 | n => n, fun | 22 => 26 | 25 => 5 | 3 => 3 | 4 => 4 | 9 => 9 | 20 => 20 | 0 => 0 | n => n, fun | n => n⟩
theorem Tryz.lays84_f166 : Go.Proofs.Lays8.n4 Tryz.prog Tryz.lays84_f166_ren := {
 mixed := by kernel_rfl
 f4 := ⟨Tryz.f166.name, by decide, Tryz.func166.trans (congrArg some (by kernel_rfl))⟩
 t0 := Tryz.underlying0
 a0 := Tryz.isAgg0
 z0 := Tryz.sizeOf0
 v0 := Tryz.zeroValue0
 t3 := Tryz.underlying3
 a3 := Tryz.isAgg3
 z3 := Tryz.sizeOf3
 v3 := Tryz.zeroValue3
 t4 := Tryz.underlying4
 a4 := Tryz.isAgg4
 z4 := Tryz.sizeOf4
 v4 := Tryz.zeroValue4
 t9 := Tryz.underlying9
 a9 := Tryz.isAgg9
 z9 := Tryz.sizeOf9
 v9 := Tryz.zeroValue9
 t20 := Tryz.underlying20
 a20 := Tryz.isAgg20
 z20 := Tryz.sizeOf20
 v20 := Tryz.zeroValue20
 t22 := Tryz.underlying26
 a22 := Tryz.isAgg26
 z22 := Tryz.sizeOf26
 v22 := Tryz.zeroValue26 }
open Go.RowKit Go.Lib in
/-- slices.Grow: NO ROOM. -/
theorem Tryz.slices_Grow_grow (i0 : TypeInfo) (z : Value) (hi0 : Tryz.prog.info? 5 = some i0) (hz0 : i0.zero = some z) (hs0 : 0 < i0.size) (base : Option Addr) (l c n : Nat) (cs : List Value) (w : World) (hlc : l ≤ c) (hroom : c < l + n) (hbig : (l + n) * i0.bytes ≤ 140737488355328) (h63 : l + n ≤ 4611686018427387904) (hcl : cs.length = c * i0.size) (hnil : base = none → c = 0) (hcs : ∀ a, base = some a → ∀ j v, cs[j]? = some v → w.cell? (a.add j) = some v) :
  Calls Tryz.prog 166 #[.slice base l c, .int .i64 n] w fun e w' => e = .returned (.slice (some ⟨w.heap.size, 0, none⟩) l (grownCap w (l + n) c 5)) ∧ w' = w.drew.alloc (.cells (cs.toArray ++ Builtin.zeroCells z.cells (l + n - c) ++ Builtin.zeroCells z.cells (grownCap w (l + n) c 5 - (l + n))) 5) := Any8.slices_Grow_grow Tryz.lays84_f166 i0 z hi0 hz0 hs0 base l c n cs w hlc hroom hbig h63 hcl hnil hcs
open Go.RowKit Go.Lib in
/-- slices.Grow: THERE IS ROOM. -/
theorem Tryz.slices_Grow_room (base : Option Addr) (l c n : Nat) (w : World) (hlc : l ≤ c) (hc63 : c ≤ 9223372036854775807) (hn63 : n ≤ 9223372036854775807) (hroom : l + n ≤ c) :
  Calls Tryz.prog 166 #[.slice base l c, .int .i64 n] w fun e w' => e = .returned (.slice base l c) ∧ w' = w := Any8.slices_Grow_room Tryz.lays84_f166 base l c n w hlc hc63 hn63 hroom
end Go.Proofs
namespace Go.Proofs.YtdpniceapmikpaaGreat
open Go.RowKit

theorem run_append_empty (w : World) {base n : Nat} {v : Value} {xs : List Value} (hown : w.ownsRow base 5 1 v n xs) (ty : TypeId) (c : Nat) :
  (Builtin.append_ #[26, 26] ty #[v, .slice none 0 c]).run Tryz.prog w = .ok v w := by
 obtain ⟨i0, hi0, hz0, hz1, hz2⟩ := info_parts info_u8
 rcases hown.2 with ⟨rfl, rfl⟩ | ⟨g, cap, cur, rfl, _, _, hnc, _⟩
 ·simp [Builtin.append_, run_underlying Tryz.underlying26, sizeOf, typeInfo, hi0, Builtin.lenOf, Builtin.firstCells]
 ·simp [Builtin.append_, run_underlying Tryz.underlying26, sizeOf, typeInfo, hi0, Builtin.lenOf, Builtin.firstCells, hnc, storeCells]

theorem run_append_bytes (w : World) {base B n : Nat} {v : Value} {xs : List Value} (hown : w.ownsRow base 5 1 v n xs) (ty : TypeId) (a : Option Addr) (cap : Nat) (l : List UInt8)
  (hu : BytesIn w B (.slice a l.length cap) l) (hbytes : n + l.length ≤ 140737488355328) (hbase : base ≤ w.heap.size) :
  ∃ v' w', (Builtin.append_ #[26, 26] ty #[v, .slice a l.length cap]).run Tryz.prog w = .ok v' w' ∧ w'.ownsRow base 5 1 v' (n + l.length) (xs ++ l.map vu8) ∧ w.grownBy w' v.ownBlock := by
 obtain ⟨i0, hi0, hz0, hz1, hz2⟩ := info_parts info_u8
 obtain ⟨hm, a', cap', e, hcap, hc⟩ := hu
 injection e with e1 e2 e3
 subst e1
 cases a with
 | none =>
  have hl : l = [] := by
   cases l with
   | nil => rfl
   | cons c l =>
    obtain ⟨g, off, h, _⟩ := hc 0 c rfl
    cases h
  subst hl
  exact ⟨v, w, run_append_empty w hown ty cap, by simpa using hown, World.grownBy.refl w _⟩
 | some ad =>
  have hnews : ∀ j u, (l.map vu8)[j]? = some u → w.cell? (ad.add j) = some u := by
   intro j u hj
   rw [List.getElem?_map] at hj
   obtain ⟨c, hcj, rfl⟩ := Option.map_eq_some_iff.1 hj
   obtain ⟨g, off, h, _, hcell⟩ := hc j c hcj
   obtain rfl := Option.some.inj h
   rw [add_at]
   exact hcell
  obtain ⟨v', w', hrun, h2, h3, _, _⟩ := run_append_own_at (P := Tryz.prog) w base 26 ty 5 i0 (.int .u8 0) 1 1 Tryz.underlying26 hi0 hz0 hz1 hz2 rfl (by omega) v n xs hown ad l.length cap (l.map vu8) (by simp) hnews
   (by intro u hu; obtain ⟨c, _, rfl⟩ := List.mem_map.1 hu; rfl) (by unfold maxLen; omega) (by omega) hbase
  exact ⟨v', w', hrun, h2, h3⟩

theorem wpList_append_bytes (w : World) {ops : Array Oper} {rest : List Oper} {o : Oper} {a : Act} {Q : Exit → Act → World → Prop} (hgd : o.guard = none) (s x : Operand)
  (ho : o.op = .call { callee := .builtin .append, args := #[s, x], argTypes := #[26, 26] })
  (base B n : Nat) (v : Value) (xs : List Value) (hs : a.eval s = v) (hown : w.ownsRow base 5 1 v n xs) (A : Option Addr) (m cap : Nat) (l : List UInt8) (hx : a.eval x = .slice A m cap) (hm : l.length = m)
  (hu : BytesIn w B (.slice A m cap) l) (hbytes : n + m ≤ 140737488355328) (hbase : base ≤ w.heap.size)
  (h : ∀ v' w', w'.ownsRow base 5 1 v' (n + m) (xs ++ l.map vu8) → w.grownBy w' v.ownBlock → wpList Tryz.prog ops Q rest (a.put o.dst v') w') : wpList Tryz.prog ops Q (o :: rest) a w := by
 subst hm
 refine wpList_plain hgd fun _ hK => ?_
 obtain ⟨v', w', hrun, h2, h3⟩ := run_append_bytes w hown o.type A cap l hu hbytes hbase
 unfold Oper.wp execOp
 simp only [ho, resolve, invoke, builtin, Sem.run_bind, Sem.run_pure, Result.andThen_ok, List.map_toArray, List.map_cons, List.map_nil, hs, hx, hrun]
 exact hK _ _ (h v' w' h2 h3)

end Go.Proofs.YtdpniceapmikpaaGreat
