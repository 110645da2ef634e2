/-
  Up to 32 bits in a row that are turned are seen by the sum: plain laws.
  A burst of at most 32 bits in a sector that an area's frame wants makes the area none; anything elsewhere leaves it as it was: the plain law.
-/
import Derived.Test.YtdpniceapmikpaaGreatWh5
import Derived.Test.YtdpniceapmikpaaGreatWh24
set_option linter.unusedVariables false
set_option linter.unusedSimpArgs false
namespace Go.Proofs.YtdpniceapmikpaaGreat
open Go.RowKit

def bit32 (b : Bool) : BitVec 32 := if b then 1#32 else 0#32
/-- the sum's state, bits one by one -/
def crcRun (s : BitVec 32) (l : List Bool) : BitVec 32 := l.foldl (fun s b => crcBit (s ^^^ bit32 b)) s
def bitsOf (l : List UInt8) : List Bool := l.flatMap fun c => (List.range 8).map fun i => c.toNat.testBit i
def xorL (a b : List Bool) : List Bool := List.zipWith xor a b
theorem bit32_xor (a b : Bool) : bit32 (xor a b) = bit32 a ^^^ bit32 b := by cases a <;> cases b <;> decide
theorem crcRun_xor : ∀ (l m : List Bool) (s t : BitVec 32), l.length = m.length → crcRun (s ^^^ t) (xorL l m) = crcRun s l ^^^ crcRun t m
 | [], [], s, t, _ => rfl
 | [], b :: m, s, t, h => by simp at h
 | a :: l, [], s, t, h => by simp at h
 | a :: l, b :: m, s, t, h => by
  show crcRun (crcBit (s ^^^ t ^^^ bit32 (xor a b))) (xorL l m) = crcRun (crcBit (s ^^^ bit32 a)) l ^^^ crcRun (crcBit (t ^^^ bit32 b)) m
  rw [bit32_xor, show s ^^^ t ^^^ (bit32 a ^^^ bit32 b) = (s ^^^ bit32 a) ^^^ (t ^^^ bit32 b) by ac_rfl, crcBit_xor]
  exact crcRun_xor l m _ _ (by simpa using h)
theorem crcRun_nought (s : BitVec 32) (k : Nat) : crcRun s (List.replicate k false) = crcBits k s := by
 induction k generalizing s with
 | zero => rfl
 | succ k ih =>
  show crcRun (crcBit (s ^^^ bit32 false)) (List.replicate k false) = crcBits k (crcBit s)
  rw [ih, show bit32 false = 0#32 from rfl, BitVec.xor_zero]
theorem crcBits_zero (k : Nat) : crcBits k 0#32 = 0#32 := by
 induction k with
 | zero => rfl
 | succ k ih => rw [crcBits, show crcBit 0#32 = 0#32 by decide]; exact ih
theorem crcRun_split (s : BitVec 32) (l : List Bool) : crcRun s l = crcBits l.length s ^^^ crcRun 0#32 l := by
 have h := crcRun_xor (List.replicate l.length false) l s 0#32 (by simp)
 rw [BitVec.xor_zero, crcRun_nought] at h
 rw [← h]
 congr 1
 unfold xorL
 apply List.ext_getElem?
 intro i
 rw [List.getElem?_zipWith]
 rcases Nat.lt_or_ge i l.length with hi | hi
 ·rw [List.getElem?_replicate, if_pos hi, List.getElem?_eq_getElem hi]; simp
 ·rw [List.getElem?_eq_none hi, List.getElem?_replicate, if_neg (by omega)]
theorem crcRun_append (s : BitVec 32) (l m : List Bool) : crcRun s (l ++ m) = crcRun (crcRun s l) m := by unfold crcRun; rw [List.foldl_append]
/-- the sum of bytes is that of their bits -/
theorem crcByte_bits (s : BitVec 32) (c : UInt8) : crcByte s c = crcRun s ((List.range 8).map fun i => c.toNat.testBit i) := by
 rw [crcRun_split]
 unfold crcByte
 rw [crcBits_xor]
 simp only [List.length_map, List.length_range]
 congr 1
 have : ∀ n : Fin 256, crcBits 8 (BitVec.ofNat 32 n.val) = crcRun 0#32 ((List.range 8).map fun i => n.val.testBit i) := by decide +kernel
 exact this ⟨c.toNat, c.toNat_lt⟩
theorem crcOn_bits (l : List UInt8) (s : BitVec 32) : crcOn s l = crcRun s (bitsOf l) := by
 induction l generalizing s with
 | nil => rfl
 | cons c l ih =>
  show crcOn (crcByte s c) l = crcRun s (((List.range 8).map fun i => c.toNat.testBit i) ++ bitsOf l)
  rw [crcRun_append, ih, crcByte_bits]
theorem crcBit_inj (x : BitVec 32) (h : crcBit x = 0#32) : x = 0#32 := by
 have h0 : x.getLsbD 0 = false := by
  have h31 : (crcBit x).getLsbD 31 = false := by rw [h]; simp
  unfold crcBit at h31
  rw [BitVec.getLsbD_xor, BitVec.getLsbD_ushiftRight, BitVec.getLsbD_of_ge x (1 + 31) (by omega), Bool.false_xor] at h31
  cases hx : x.getLsbD 0
  ·rfl
  ·rw [hx] at h31
   exact absurd h31 (by decide)
 rw [crcBit_even x h0] at h
 apply BitVec.eq_of_getLsbD_eq
 intro i hi
 cases i with
 | zero => rw [h0]; simp
 | succ i =>
  have := congrArg (fun y => BitVec.getLsbD y i) h
  simp only [BitVec.getLsbD_ushiftRight] at this
  rw [Nat.add_comm] at this
  rw [this]; simp
theorem crcBits_inj (k : Nat) (x : BitVec 32) (h : crcBits k x = 0#32) : x = 0#32 := by
 induction k generalizing x with
 | zero => exact h
 | succ k ih => exact crcBit_inj x (ih _ h)
theorem crcBits_one {k : Nat} {x y : BitVec 32} (h : crcBits k x = crcBits k y) : x = y := by
 have : crcBits k (x ^^^ y) = 0#32 := by rw [crcBits_xor, h, BitVec.xor_self]
 have := crcBits_inj k _ this
 have e : x ^^^ y ^^^ y = 0#32 ^^^ y := by rw [this]
 rw [BitVec.xor_assoc, BitVec.xor_self, BitVec.xor_zero, BitVec.zero_xor] at e
 exact e
/-- bits as a number -/
def vecOf : List Bool → BitVec 32
 | [] => 0#32
 | b :: l => bit32 b ^^^ (vecOf l <<< 1)
theorem vecOf_bit : ∀ (l : List Bool) (i : Nat), i < 32 → (vecOf l).getLsbD i = l.getD i false
 | [], i, hi => by simp [vecOf]
 | b :: l, 0, hi => by
  show (bit32 b ^^^ (vecOf l <<< 1)).getLsbD 0 = b
  rw [BitVec.getLsbD_xor, BitVec.getLsbD_shiftLeft]
  cases b <;> simp [bit32]
 | b :: l, i + 1, hi => by
  show (bit32 b ^^^ (vecOf l <<< 1)).getLsbD (i + 1) = l.getD i false
  rw [BitVec.getLsbD_xor, BitVec.getLsbD_shiftLeft, ← vecOf_bit l i (by omega)]
  have hb : (bit32 b).getLsbD (i + 1) = false := by
   cases b
   ·simp [bit32]
   ·simp [bit32, BitVec.getLsbD_one]
  rw [hb]
  simp [hi]
theorem crcRun_vec : ∀ (l : List Bool), l.length ≤ 32 → crcRun 0#32 l = crcBits l.length (vecOf l)
 | [], _ => rfl
 | b :: l, h => by
  have hl : l.length ≤ 31 := by simpa using h
  show crcRun (crcBit (0#32 ^^^ bit32 b)) l = crcBits l.length (crcBit (bit32 b ^^^ (vecOf l <<< 1)))
  rw [BitVec.zero_xor, crcRun_split, crcRun_vec l (by omega), crcBit_xor, crcBits_xor]
  congr 2
  have he : crcBit (vecOf l <<< 1) = vecOf l := by
   rw [crcBit_even _ (by simp)]
   apply BitVec.eq_of_getLsbD_eq
   intro i hi
   rw [BitVec.getLsbD_ushiftRight, BitVec.getLsbD_shiftLeft]
   by_cases h31 : i < 31
   ·simp [show 1 + i < 32 by omega, show 1 + i - 1 = i by omega]
   ·obtain rfl : i = 31 := by omega
    rw [vecOf_bit l 31 hi, List.getD_eq_getElem?_getD, List.getElem?_eq_none (by omega)]
    rfl
  exact he.symm
theorem vecOf_zero {l : List Bool} (hl : l.length ≤ 32) (h : vecOf l = 0#32) : ∀ b ∈ l, b = false := by
 intro b hb
 obtain ⟨i, hi⟩ := List.mem_iff_getElem?.1 hb
 have h1 := (List.getElem?_eq_some_iff.1 hi).1
 have := vecOf_bit l i (by omega)
 rw [h, List.getD_eq_getElem?_getD, hi] at this
 simpa using this.symm
/-- a row of at most 32 turned bits turns the state -/
theorem burst_run (s : BitVec 32) (l m : List Bool) (hlen : l.length = m.length) (a c : Nat) (B : List Bool) (hB : B.length ≤ 32) (hx : xorL l m = List.replicate a false ++ B ++ List.replicate c false) (ht : true ∈ B) : crcRun s l ≠ crcRun s m := by
 intro e
 have h := crcRun_xor l m s s hlen
 rw [e, BitVec.xor_self, BitVec.xor_self, hx, crcRun_append, crcRun_append, crcRun_nought, crcRun_nought, crcBits_zero] at h
 have h2 := crcBits_inj c _ h
 rw [crcRun_vec B hB] at h2
 have := vecOf_zero hB (crcBits_inj _ _ h2) true ht
 cases this
/-- bytes that differ in a row of at most 32 bits -/
def Burst (l m : List UInt8) : Prop := l.length = m.length ∧ l ≠ m ∧ ∃ p : Nat, ∀ i : Nat, (i < p ∨ p + 32 ≤ i) → (bitsOf l)[i]? = (bitsOf m)[i]?
theorem bitsOf_len (l : List UInt8) : (bitsOf l).length = 8 * l.length := by
 induction l with
 | nil => rfl
 | cons c l ih =>
  show (((List.range 8).map fun i => c.toNat.testBit i) ++ bitsOf l).length = _
  rw [List.length_append, ih, List.length_map, List.length_range, List.length_cons]
  omega
theorem bits_inj (a b : UInt8) (h : ∀ i, i < 8 → a.toNat.testBit i = b.toNat.testBit i) : a = b := by
 apply UInt8.toNat_inj.1
 apply Nat.eq_of_testBit_eq
 intro i
 by_cases hi : i < 8
 ·exact h i hi
 ·rw [Nat.testBit_lt_two_pow (Nat.lt_of_lt_of_le a.toNat_lt (Nat.pow_le_pow_right (by omega) (by omega : 8 ≤ i))), Nat.testBit_lt_two_pow (Nat.lt_of_lt_of_le b.toNat_lt (Nat.pow_le_pow_right (by omega) (by omega : 8 ≤ i)))]
theorem bitsOf_inj : ∀ (l m : List UInt8), bitsOf l = bitsOf m → l = m
 | [], [], _ => rfl
 | [], c :: m, h => by have := congrArg List.length h; rw [bitsOf_len, bitsOf_len] at this; simp at this
 | c :: l, [], h => by have := congrArg List.length h; rw [bitsOf_len, bitsOf_len] at this; simp at this
 | c :: l, d :: m, h => by
  have h' : ((List.range 8).map fun i => c.toNat.testBit i) ++ bitsOf l = ((List.range 8).map fun i => d.toNat.testBit i) ++ bitsOf m := h
  obtain ⟨h1, h2⟩ := List.append_inj h' (by simp)
  rw [bitsOf_inj l m h2, bits_inj c d (fun i hi => by
   have := congrArg (fun z => z[i]?) h1
   simp only [List.getElem?_map, List.getElem?_range hi, Option.map_some] at this
   exact Option.some.inj this)]
theorem xorL_get (l m : List Bool) (h : l.length = m.length) (i : Nat) : (xorL l m).getD i false = xor (l.getD i false) (m.getD i false) := by
 unfold xorL
 rw [List.getD_eq_getElem?_getD, List.getD_eq_getElem?_getD, List.getD_eq_getElem?_getD, List.getElem?_zipWith]
 rcases Nat.lt_or_ge i l.length with hi | hi
 ·rw [List.getElem?_eq_getElem hi, List.getElem?_eq_getElem (by omega)]; rfl
 ·rw [List.getElem?_eq_none hi, List.getElem?_eq_none (by omega)]; rfl
theorem all_false {l : List Bool} (h : ∀ i, l.getD i false = false) : l = List.replicate l.length false := by
 apply List.ext_getElem?
 intro i
 rcases Nat.lt_or_ge i l.length with hi | hi
 ·have := h i
  rw [List.getD_eq_getElem?_getD, List.getElem?_eq_getElem hi] at this
  rw [List.getElem?_eq_getElem hi, List.getElem?_replicate, if_pos hi]
  exact congrArg some this
 ·rw [List.getElem?_eq_none hi, List.getElem?_replicate, if_neg (by omega)]
theorem burst_crc {l m : List UInt8} (h : Burst l m) (s : BitVec 32) : crcOn s l ≠ crcOn s m := by
 obtain ⟨hlen, hne, p, hp⟩ := h
 rw [crcOn_bits, crcOn_bits]
 have hb : (bitsOf l).length = (bitsOf m).length := by rw [bitsOf_len, bitsOf_len, hlen]
 obtain ⟨x, ex⟩ : ∃ x, x = xorL (bitsOf l) (bitsOf m) := ⟨_, rfl⟩
 have hxl : x.length = (bitsOf l).length := by rw [ex]; unfold xorL; rw [List.length_zipWith, hb, Nat.min_self]
 have hx0 : ∀ i, (i < p ∨ p + 32 ≤ i) → x.getD i false = false := fun i hi => by
  rw [ex, xorL_get _ _ hb, List.getD_eq_getElem?_getD, List.getD_eq_getElem?_getD, hp i hi]
  simp
 have e1 : x.take p = List.replicate (x.take p).length false := all_false fun i => by
  rw [List.getD_eq_getElem?_getD, List.getElem?_take]
  split
  ·next hi => have := hx0 i (.inl hi); rw [List.getD_eq_getElem?_getD] at this; exact this
  ·rfl
 have e3 : x.drop (p + 32) = List.replicate (x.drop (p + 32)).length false := all_false fun i => by
  rw [List.getD_eq_getElem?_getD, List.getElem?_drop]
  have := hx0 (p + 32 + i) (.inr (by omega)); rw [List.getD_eq_getElem?_getD] at this; exact this
 have esplit : x = x.take p ++ (x.drop p).take 32 ++ x.drop (p + 32) := by
  rw [List.append_assoc, ← List.drop_drop, List.take_append_drop, List.take_append_drop]
 refine burst_run s _ _ hb (x.take p).length (x.drop (p + 32)).length ((x.drop p).take 32) (by rw [List.length_take]; omega) (by rw [← ex, ← e1, ← e3]; exact esplit) ?_
 cases hc : ((x.drop p).take 32).contains true with
 | true => simpa using hc
 | false =>
  exfalso
  have hnt : ∀ b ∈ (x.drop p).take 32, b = false := fun b hb2 => by
   cases b with
   | false => rfl
   | true =>
    have : ((x.drop p).take 32).contains true = true := by simpa using hb2
    rw [hc] at this
    cases this
  apply hne
  apply bitsOf_inj
  apply List.ext_getElem?
  intro i
  by_cases hi : i < p ∨ p + 32 ≤ i
  ·exact hp i hi
  ·rcases Nat.lt_or_ge i (bitsOf l).length with hil | hil
   ·have hg : x.getD i false = false := by
     apply hnt
     rw [List.getD_eq_getElem?_getD, List.getElem?_eq_getElem (by omega)]
     refine List.mem_iff_getElem?.2 ⟨i - p, ?_⟩
     rw [List.getElem?_take, if_pos (by omega), List.getElem?_drop, show p + (i - p) = i by omega, List.getElem?_eq_getElem (by omega)]
     rfl
    rw [ex, xorL_get _ _ hb, List.getD_eq_getElem?_getD, List.getD_eq_getElem?_getD, List.getElem?_eq_getElem hil, List.getElem?_eq_getElem (by omega)] at hg
    rw [List.getElem?_eq_getElem hil, List.getElem?_eq_getElem (by omega)]
    simp only [Option.getD_some] at hg
    congr 1
    cases h1 : (bitsOf l)[i] <;> cases h2 : (bitsOf m)[i] <;> rw [h1, h2] at hg <;> simp at hg <;> rfl
   ·rw [List.getElem?_eq_none hil, List.getElem?_eq_none (by omega)]
theorem bitsOf_get : ∀ (l : List UInt8) (i : Nat), (bitsOf l).getD i false = (leN l).testBit i
 | [], i => by simp [bitsOf, leN]
 | c :: l, i => by
  have e : bitsOf (c :: l) = ((List.range 8).map fun i => c.toNat.testBit i) ++ bitsOf l := rfl
  have e2 : leN (c :: l) = 2 ^ 8 * leN l + c.toNat := by show c.toNat + 256 * leN l = _; omega
  rw [e, e2, Nat.testBit_two_pow_mul_add _ (show c.toNat < 2 ^ 8 from c.toNat_lt), List.getD_eq_getElem?_getD]
  by_cases hi : i < 8
  ·rw [if_pos hi, List.getElem?_append_left (by simpa using hi), List.getElem?_map, List.getElem?_range hi]; rfl
  ·rw [if_neg hi, List.getElem?_append_right (by simpa using hi), ← bitsOf_get l (i - 8), List.getD_eq_getElem?_getD]
   simp
theorem vec_bytes (l : List UInt8) : vecOf (bitsOf l) = BitVec.ofNat 32 (leN l) := by
 apply BitVec.eq_of_getLsbD_eq
 intro i hi
 rw [vecOf_bit _ i hi, bitsOf_get, BitVec.getLsbD_ofNat]
 simp [hi]
/-- a sealed row of bytes, by the state behind all of it -/
theorem sealed_state (l : List UInt8) (h : 4 ≤ l.length) : sealedB l = true ↔ crcOn (~~~ 0#32) l = crcBits 32 (~~~ 0#32) := by
 obtain ⟨A, eA⟩ : ∃ A, A = l.take (l.length - 4) := ⟨_, rfl⟩
 obtain ⟨S, eS⟩ : ∃ S, S = l.drop (l.length - 4) := ⟨_, rfl⟩
 have hS : S.length = 4 := by rw [eS, List.length_drop]; omega
 have hl : l = A ++ S := by rw [eA, eS, List.take_append_drop]
 have hb32 : (bitsOf S).length = 32 := by rw [bitsOf_len, hS]
 have hlt : leN S < 2 ^ 32 := by have := leN_lt S; rw [hS] at this; exact Nat.lt_of_lt_of_le this (by decide)
 have e : crcOn (~~~ 0#32) l = crcBits 32 (crcOn (~~~ 0#32) A ^^^ BitVec.ofNat 32 (leN S)) := by
  have : crcOn (~~~ 0#32) l = crcOn (crcOn (~~~ 0#32) A) S := by rw [hl]; unfold crcOn; rw [List.foldl_append]
  rw [this, crcOn_bits _ (crcOn _ A), crcRun_split, crcRun_vec _ (by omega), hb32, vec_bytes, ← crcBits_xor]
 unfold sealedB
 rw [decide_eq_true h, Bool.true_and, beq_iff_eq, ← eA, ← eS, e]
 unfold crcW
 generalize crcOn (~~~ 0#32) A = T
 constructor
 ·intro h1
  congr 1
  rw [h1, BitVec.ofNat_toNat, BitVec.setWidth_eq]
  apply BitVec.eq_of_getLsbD_eq
  intro i hi
  rw [BitVec.getLsbD_xor, BitVec.getLsbD_not, BitVec.getLsbD_not, BitVec.getLsbD_zero]
  simp [hi]
 ·intro h1
  have h2 := crcBits_one h1
  have h3 : BitVec.ofNat 32 (leN S) = ~~~ T := by
   have h4 : T ^^^ (T ^^^ BitVec.ofNat 32 (leN S)) = T ^^^ ~~~ 0#32 := by rw [h2]
   rw [← BitVec.xor_assoc, BitVec.xor_self, BitVec.zero_xor] at h4
   rw [h4]
   apply BitVec.eq_of_getLsbD_eq
   intro i hi
   rw [BitVec.getLsbD_xor, BitVec.getLsbD_not, BitVec.getLsbD_not, BitVec.getLsbD_zero]
   simp [hi]
  rw [← h3, BitVec.toNat_ofNat, Nat.mod_eq_of_lt hlt]
theorem burst_sealed {l m : List UInt8} (h : Burst l m) (h4 : 4 ≤ l.length) (hs : sealedB l = true) : sealedB m = false := by
 cases hm : sealedB m with
 | false => rfl
 | true =>
  exfalso
  rw [sealed_state l h4] at hs
  rw [sealed_state m (by rw [← h.1]; exact h4)] at hm
  exact burst_crc h _ (hs.trans hm.symm)
theorem burst_crcW {l m : List UInt8} (h : Burst l m) : crcW l ≠ crcW m := by
 unfold crcW
 intro e
 apply burst_crc h (~~~ 0#32)
 have := congrArg (fun z : BitVec 32 => ~~~ z) e
 simpa using this
end Go.Proofs.YtdpniceapmikpaaGreat
namespace Go.Proofs.YtdpniceapmikpaaGreat
open Go.RowKit

theorem bitsOf_at : ∀ (l : List UInt8) (i : Nat), (bitsOf l)[i]? = (l[i / 8]?).map (fun c => c.toNat.testBit (i % 8))
 | [], i => by simp [bitsOf]
 | c :: l, i => by
  have e : bitsOf (c :: l) = ((List.range 8).map fun k => c.toNat.testBit k) ++ bitsOf l := by simp [bitsOf]
  rw [e]
  rcases Nat.lt_or_ge i 8 with h | h
  ·rw [List.getElem?_append_left (by simp; exact h), List.getElem?_map, List.getElem?_range h, Nat.div_eq_of_lt h, Nat.mod_eq_of_lt h]
   rfl
  ·rw [List.getElem?_append_right (by simp; exact h), bitsOf_at l]
   have h1 : i / 8 = (i - 8) / 8 + 1 := by omega
   have h2 : (i - 8) % 8 = i % 8 := by omega
   simp only [List.length_map, List.length_range]
   rw [h1, List.getElem?_cons_succ, h2]
/-- all that is asked of two disks that read alike but in one sector -/
structure Near (x x' : DiskD) (N area : Int) : Prop where
 go : ReadGo x N area
 size : x'.size = x.size
 e2 : x'.err (sectorN N 2 area 0).1 = 0
 e4 : ∀ i k : Nat, i < numAt (headS x N area) 12 2 → k ≤ 80 → (x'.plus k).err (sectorN N 4 area i).1 = 0
 e3 : ∀ i k : Nat, i < chunksN (numAt (headS x N area) 14 2) → k ≤ 80 → (x'.plus k).err (sectorN N 3 area i).1 = 0
section
variable {x x' : DiskD} {N area : Int}
theorem Near.bounds (h : Near x x' N area) : numAt (headS x N area) 12 2 ≤ 64 ∧ numAt (headS x N area) 14 2 ≤ 4096 ∧ chunksN (numAt (headS x N area) 14 2) ≤ 8 ∧ sealedB (headS x N area) = true := by
 have h1 := h.go.head
 have h2 := (ask_facts h.go.ask).2.1
 unfold headB at h1
 simp only [Bool.and_eq_true, decide_eq_true_eq] at h1
 refine ⟨by have := h1.2.2.2.1; omega, h1.2.2.2.2.1, by have := h1.2.2.2.2.1; unfold chunksN; omega, h1.1⟩
theorem Near.objGo (h : Near x x' N area) {i : Nat} (hi : i < numAt (headS x N area) 12 2) (hh : headS x' N area = headS x N area) (ho : objS x' N area i = objS x N area i) : objE x' N area (1 + i) i = 0 := by
 have hb := h.bounds
 refine objE_yes (h.e4 i (1 + i) hi (by omega)) ?_
 have h1 := h.go.objs i hi
 unfold Go.Proofs.YtdpniceapmikpaaGreat.objGo
 rw [hh, ho]
 exact h1
/-- the head is turned -/
theorem near_head (h : Near x x' N area) (hb : Burst (headS x N area) (headS x' N area)) : readR x' N area = (1, 170) := by
 refine readR_none h.e2 ?_
 unfold headB
 rw [burst_sealed hb (by have := x.reads_len (by have := (h.go.okk 0 (by omega)).sound; exact this) (sectorN N 2 area 0).1; unfold headS; omega) h.bounds.2.2.2]
 rfl
/-- an object's sector is turned -/
theorem near_obj (h : Near x x' N area) (hh : headS x' N area = headS x N area) {j : Nat} (hj : j < numAt (headS x N area) 12 2) (ho : ∀ i, i < j → objS x' N area i = objS x N area i) (hb : Burst (objS x N area j) (objS x' N area j)) : readR x' N area = (1 + (j + 1), 170) := by
 have hn := ask_facts h.go.ask
 have hl : (objS x N area j).length = 512 := x.reads_len (by have := (h.go.okk 0 (by omega)).sound; exact this) _
 have hs : sealedB (objS x N area j) = true := by
  have h1 := (h.go.objs j hj).1
  cases hs : sealedB (objS x N area j) with
  | true => rfl
  | false =>
   unfold getE at h1
   rw [if_neg (by omega), hs, if_neg (by decide)] at h1
   exact absurd h1 (by decide)
 have hs' := burst_sealed hb (by omega) hs
 refine readR_obj h.e2 (by rw [hh]; exact h.go.head) (by rw [hh]; exact hj) (fun i hi => h.objGo (by omega) hh (ho i hi)) (objE_no (h.e4 j (1 + j) hj (by have := h.bounds.1; omega)) (fun hgo => ?_)) (by decide)
 have h1 := hgo.1
 unfold getE at h1
 rw [if_neg (by omega), hs', if_neg (by decide)] at h1
 exact absurd h1 (by decide)
theorem byte_part (y : DiskD) (N area : Int) (p : Nat) : byteOf y N area p = (partS y N area (p / 512))[p % 512]?.getD 0 := rfl
theorem state_at (y : DiskD) (N area : Int) (nb p : Nat) : (stateOf y N area nb)[p]? = if p < nb then some (byteOf y N area p) else none := by
 unfold stateOf
 rw [List.getElem?_map]
 by_cases h : p < nb
 ·rw [List.getElem?_range h, if_pos h]; rfl
 ·rw [List.getElem?_eq_none (by simp; omega), if_neg h]; rfl
/-- a part of the state is turned -/
theorem state_burst {j nb : Nat} (hl : (partS x N area j).length = 512) (hp : ∀ i, i ≠ j → i < chunksN nb → partS x' N area i = partS x N area i) (hz : ((partS x N area j).drop (nb - 512 * j)).all (· == 0) = true) (hz' : ((partS x' N area j).drop (nb - 512 * j)).all (· == 0) = true)
  (hj : 512 * j < nb) (hb : Burst (partS x N area j) (partS x' N area j)) : Burst (stateOf x N area nb) (stateOf x' N area nb) := by
 obtain ⟨hlen, hne, P, hP⟩ := hb
 refine ⟨by simp [stateOf], fun e => hne ?_, 8 * (512 * j) + P, fun i hi => ?_⟩
 ·apply List.ext_getElem?
  intro q
  rcases Nat.lt_or_ge q 512 with hq | hq
  ·rcases Nat.lt_or_ge (512 * j + q) nb with hn | hn
   ·have h1 := congrArg (fun l : List UInt8 => l[512 * j + q]?) e
    simp only [state_at, if_pos hn, byte_part] at h1
    have h2 : (512 * j + q) / 512 = j := by omega
    have h3 : (512 * j + q) % 512 = q := by omega
    rw [h2, h3, List.getElem?_eq_getElem (show q < (partS x N area j).length by omega), List.getElem?_eq_getElem (show q < (partS x' N area j).length by omega)] at h1
    rw [List.getElem?_eq_getElem (show q < (partS x N area j).length by omega), List.getElem?_eq_getElem (show q < (partS x' N area j).length by omega)]
    simpa using h1
   ·have hzq : ∀ l : List UInt8, l.length = 512 → (l.drop (nb - 512 * j)).all (· == 0) = true → l[q]? = some 0 := fun l hl hz => by
     have h1 : (l.drop (nb - 512 * j))[q - (nb - 512 * j)]? = l[q]? := by rw [List.getElem?_drop]; congr 1; omega
     have h2 : l[q]? = some (l[q]'(by omega)) := List.getElem?_eq_getElem (by omega)
     have h3 := List.all_eq_true.1 hz _ (List.mem_of_getElem? (h1.trans h2))
     rw [h2]
     simpa using h3
    rw [hzq _ hl hz, hzq _ (by omega) hz']
  ·rw [List.getElem?_eq_none (by omega), List.getElem?_eq_none (by omega)]
 ·rw [bitsOf_at, bitsOf_at, state_at, state_at]
  by_cases hn : i / 8 < nb
  ·rw [if_pos hn, if_pos hn, byte_part, byte_part]
   by_cases hij : i / 8 / 512 = j
   ·have h1 := hP (i - 8 * (512 * j)) (by omega)
    rw [bitsOf_at, bitsOf_at] at h1
    have h2 : (i - 8 * (512 * j)) / 8 = i / 8 % 512 := by omega
    have h3 : (i - 8 * (512 * j)) % 8 = i % 8 := by omega
    have h4 : i / 8 % 512 < 512 := Nat.mod_lt _ (by decide)
    rw [h2, h3, List.getElem?_eq_getElem (show i / 8 % 512 < (partS x N area j).length by omega), List.getElem?_eq_getElem (show i / 8 % 512 < (partS x' N area j).length by omega)] at h1
    rw [hij, List.getElem?_eq_getElem (show i / 8 % 512 < (partS x N area j).length by omega), List.getElem?_eq_getElem (show i / 8 % 512 < (partS x' N area j).length by omega)]
    simpa using h1
   ·rw [hp _ hij (by unfold chunksN; omega)]
  ·rw [if_neg hn, if_neg hn]
theorem near_part (h : Near x x' N area) (hh : headS x' N area = headS x N area) {j : Nat} (hj : j < chunksN (numAt (headS x N area) 14 2)) (ho : ∀ i, i < numAt (headS x N area) 12 2 → objS x' N area i = objS x N area i)
  (hp : ∀ i, i ≠ j → i < chunksN (numAt (headS x N area) 14 2) → partS x' N area i = partS x N area i) (hb : Burst (partS x N area j) (partS x' N area j)) : (readR x' N area).2 = 170 := by
 obtain ⟨b1, b2, b3, b4⟩ := h.bounds
 obtain ⟨n, en⟩ : ∃ n, n = numAt (headS x N area) 12 2 := ⟨_, rfl⟩
 obtain ⟨nb, enb⟩ : ∃ n, n = numAt (headS x N area) 14 2 := ⟨_, rfl⟩
 have hok : ∀ i, i < n → objE x' N area (1 + i) i = 0 := fun i hi => h.objGo (by omega) hh (ho i (by omega))
 have hz : ∀ i, i < chunksN nb → ((partS x N area i).drop (nb - 512 * i)).all (· == 0) = true := fun i hi => by rw [enb]; exact h.go.parts i (by rw [← enb]; exact hi)
 have hpe : ∀ i, i ≠ j → i < chunksN nb → partE x' N area nb (1 + (n + i)) i = 0 := fun i hij hi => by
  rw [partE_is (h.e3 i (1 + (n + i)) (by rw [← enb]; exact hi) (by rw [← enb] at b3; omega)) (b := true) (by rw [hp i hij (by rw [← enb]; exact hi)]; exact hz i hi), if_pos rfl]
 rw [← enb] at hj b3
 cases hq : ((partS x' N area j).drop (nb - 512 * j)).all (· == 0) with
 | false =>
  have h1 : partE x' N area nb (1 + (n + j)) j = 170 := by rw [partE_is (h.e3 j (1 + (n + j)) (by rw [← enb]; exact hj) (by omega)) hq, if_neg (by decide)]
  rw [readR_part h.e2 (by rw [hh]; exact h.go.head) (by rw [hh]; exact en) (by rw [hh]; exact enb) hok hj (fun k hk => hpe k (by omega) (by omega)) h1 (by decide)]
 | true =>
  have h1 : ∀ k, k < chunksN nb → partE x' N area nb (1 + (n + k)) k = 0 := fun k hk => by
   by_cases hkj : k = j
   ·rw [hkj, partE_is (h.e3 j (1 + (n + j)) (by rw [← enb]; exact hj) (by omega)) hq, if_pos rfl]
   ·exact hpe k hkj hk
  have hl : (partS x N area j).length = 512 := x.reads_len (by have := (h.go.okk 0 (by omega)).sound; exact this) _
  have hbs := state_burst (nb := nb) hl (fun i hij hi => hp i hij (by rw [← enb]; exact hi)) (hz j hj) hq (by unfold chunksN at hj; omega) hb
  rw [readR_end h.e2 (by rw [hh]; exact h.go.head) (by rw [hh]; exact en) (by rw [hh]; exact enb) hok h1, if_neg]
  intro e
  have h2 := h.go.sum
  unfold frameOf at h2
  simp only at h2
  rw [hh, ← h2, ← enb] at e
  exact burst_crcW hbs (BitVec.eq_of_toNat_eq e).symm
/-- what the frame wants is as it was -/
theorem near_same (h : Near x x' N area) (hh : headS x' N area = headS x N area) (ho : ∀ i, i < numAt (headS x N area) 12 2 → objS x' N area i = objS x N area i)
  (hp : ∀ i, i < chunksN (numAt (headS x N area) 14 2) → partS x' N area i = partS x N area i) : (readR x' N area).2 = 0 ∧ frameOf x' N area = frameOf x N area := by
 obtain ⟨b1, b2, b3, b4⟩ := h.bounds
 have hst : stateOf x' N area (numAt (headS x N area) 14 2) = stateOf x N area (numAt (headS x N area) 14 2) := by
  unfold stateOf
  refine List.map_congr_left fun p hpm => ?_
  have h1 : p < numAt (headS x N area) 14 2 := List.mem_range.1 hpm
  rw [byte_part, byte_part, hp _ (by unfold chunksN; omega)]
 constructor
 ·rw [readR_end h.e2 (by rw [hh]; exact h.go.head) (n := numAt (headS x N area) 12 2) (nb := numAt (headS x N area) 14 2) (by rw [hh]) (by rw [hh]) (fun i hi => h.objGo hi hh (ho i hi)) (fun i hi => by
   rw [partE_is (h.e3 i _ hi (by omega)) (b := true) (by rw [hp i hi]; exact h.go.parts i hi), if_pos rfl]), if_pos]
  rw [hh, hst]
  exact h.go.sum
 ·unfold frameOf
  rw [hh, hst]
  congr 1
  exact List.map_congr_left fun i hi => by rw [ho i (List.mem_range.1 hi)]
end
end Go.Proofs.YtdpniceapmikpaaGreat
