/-
  Words for memory: a block that is known whole, and what the walk asks of it; for all worlds.
  A sum by half bytes is the sum bit by bit, for all bytes; plain laws, no program in sight.
  Operations on uint32, uint64 and bytes as operations on BitVec; plain laws on the model's bits.
  Words for slices of bytes that are read.
  Keys and objects as data; when two of them are the same, as the program compares them.
  keys.kinds answers the fixed table of the eleven kinds of keys; without conditions.
  keys.of answers the row of a key's kind, and whether the key may be; for all keys.
  The contracts of keys.of, Check, Names, Wants, for all keys.
  The contracts of the reference's names and Check, for all keys.
  The contract of the reference's Check, for all keys.
  Plain laws on bits of int64 and on whether a key may be; no program in sight.
  The contracts of the reference's with, Names, Wants, for all keys that are int64s.
  The contract of objects.bare.
-/
import Derived.Test.YtdpniceapmikpaaGreatRows
import Derived.WalkKit
import Derived.WalkSpells
import Derived.WalkLawsBesides
import Derived.Deep.RegionWith
import Derived.Deep.WholeRow
import Derived.Deep.DeepCutAuto
import Derived.Deep.Draws
import Derived.Laws.OwnMore
import Derived.Laws.Rows
import Derived.Lib.Hide
import Derived.Deep.Light
import Derived.Laws.BitsAllLaws
import Derived.Laws.BitsLemmas
import Derived.ChangeKeysEq
import Derived.Stop.BytesEq
import Derived.Deep.MidRow
set_option linter.unusedVariables false
set_option linter.unusedSimpArgs false
namespace Go.Proofs.YtdpniceapmikpaaGreat
open Go.RowKit

/-- block g is just these cells, none of them frozen -/
def Blk (w : World) (g : Nat) (t : TypeId) (cs : Array Value) : Prop := w.heap[g]? = some (.cells cs t (0, 0))

section
variable {w w' : World} {g : Nat} {t : TypeId} {cs : Array Value}
theorem Blk.lt (h : Blk w g t cs) : g < w.heap.size := by
  rcases Nat.lt_or_ge g w.heap.size with hlt | hge
  · exact hlt
  · unfold Blk at h; rw [Array.getElem?_eq_none hge] at h; cases h
theorem Blk.cell (h : Blk w g t cs) (i : Nat) : w.cell? ⟨g, i, none⟩ = cs[i]? := cell_of_row w g i cs t (0, 0) h
theorem Blk.cell_is (h : Blk w g t cs) (i : Nat) {v : Value} (hv : cs[i]? = some v) : w.cell? ⟨g, i, none⟩ = some v := (h.cell i).trans hv
theorem Blk.frozen (h : Blk w g t cs) (i : Nat) : w.frozen? ⟨g, i, none⟩ = false := by
  unfold Blk at h
  simp [World.frozen?, h]
theorem Blk.new (w : World) (t : TypeId) (cs : Array Value) : Blk (w.alloc (.cells cs t)) w.heap.size t cs := heap_alloc_new w _
theorem Blk.drew (h : Blk w g t cs) : Blk w.drew g t cs := h
theorem Blk.drewN (h : Blk w g t cs) (n : Nat) : Blk (w.drewN n) g t cs := h
theorem Blk.alloc (h : Blk w g t cs) (o : Obj) : Blk (w.alloc o) g t cs := (Below.heap_alloc w o g h.lt).trans h
theorem Blk.set_ (h : Blk w g t cs) (i : Nat) (u : Value) : Blk (w.setCell ⟨g, i, none⟩ u) g t (cs.setIfInBounds i u) := by
  unfold Blk at h ⊢
  simp [World.setCell, Array.getElem?_modify, h]
theorem Blk.far (h : Blk w g t cs) {p : Addr} (hp : g ≠ p.block) (u : Value) : Blk (w.setCell p u) g t cs := (Below.heap_setCell w p u g hp).trans h
theorem Blk.below {B : Nat} (h : Blk w g t cs) (hb : Below B w w') (hg : g < B) : Blk w' g t cs := (hb.block g hg).trans h
theorem Blk.row (h : Blk w g t cs) (cs' : Array Value) : Blk (w.setRow g cs') g t cs' := setRow_heap w g cs _ t _ h
end
theorem Blk.new2 (w : World) (o : Obj) (t : TypeId) (cs : Array Value) : Blk ((w.alloc o).alloc (.cells cs t)) (w.heap.size + 1) t cs := heap_alloc2_new w _ _
theorem size_alloc (w : World) (o : Obj) : (w.alloc o).heap.size = w.heap.size + 1 := by simp
theorem Blk.new' {w : World} {t : TypeId} {cs : Array Value} {n : Nat} (h : n = w.heap.size) : Blk (w.alloc (.cells cs t)) n t cs := by subst h; exact Blk.new w t cs
theorem below_row {B : Nat} {w w' : World} (h : Below B w w') {g : Nat} (cs : Array Value) (hg : B ≤ g) : Below B w (w'.setRow g cs) :=
  ⟨h.os, h.tape, h.output, by simpa using h.size, fun i hi => (setRow_other w' g i cs (by omega)).trans (h.block i hi)⟩
theorem results_row_tmp {P : Program} {fn : Func} {p u : Tmp} {ty : TypeId} (h : fn.results = #[.cell p ty, .tmp u]) (tmps : Array Value) (w : World) (g : Nat) (t : TypeId) (cs : Array Value) (fr : Nat × Nat) (d : TypeDesc)
    (hp : tmps.getD p undef = .pointer (some ⟨g, 0, none⟩)) (hg : w.heap[g]? = some (.cells cs t fr))
    (hu : P.underlying ty = some d) (hd : (match d with | .struct _ | .array _ _ => true | _ => false) = true) (hi : (P.info? ty).map (·.size) = some cs.size) (v : Value) (hv : tmps.getD u undef = v) :
    (results fn tmps).run P w = .ok (.tuple #[.agg cs, v]) w := by
  have hp' : tmps[p]?.getD undef = .pointer (some ⟨g, 0, none⟩) := by simpa using hp
  have hv' : tmps[u]?.getD undef = v := by simpa using hv
  simp [results, h, hp', hv', asAddr, run_loadVar_row w g t ty cs fr d hg hu hd hi]
end Go.Proofs.YtdpniceapmikpaaGreat
namespace Go.Proofs.YtdpniceapmikpaaGreat

/-- one bit -/
def crcBit (n : BitVec 32) : BitVec 32 := (n >>> 1) ^^^ (if n.getLsbD 0 then 0xedb88320#32 else 0#32)
def crcBits : Nat → BitVec 32 → BitVec 32
  | 0, n => n
  | k + 1, n => crcBits k (crcBit n)
theorem crcBits_succ (k : Nat) (n : BitVec 32) : crcBits (k + 1) n = crcBit (crcBits k n) := by
  induction k generalizing n with
  | zero => rfl
  | succ k ih => exact ih (crcBit n)
theorem crcBits_add (j k : Nat) (n : BitVec 32) : crcBits (j + k) n = crcBits k (crcBits j n) := by
  induction j generalizing n with
  | zero => simp [crcBits]
  | succ j ih => rw [Nat.succ_add]; exact ih (crcBit n)
theorem crcBit_xor (a b : BitVec 32) : crcBit (a ^^^ b) = crcBit a ^^^ crcBit b := by
  unfold crcBit
  rw [BitVec.getLsbD_xor, BitVec.ushiftRight_xor_distrib]
  cases a.getLsbD 0 <;> cases b.getLsbD 0 <;> simp
  · ac_rfl
  · ac_rfl
  · rw [show ∀ x y p : BitVec 32, x ^^^ p ^^^ (y ^^^ p) = x ^^^ y ^^^ (p ^^^ p) from fun x y p => by ac_rfl, BitVec.xor_self, BitVec.xor_zero]
theorem crcBits_xor (k : Nat) (a b : BitVec 32) : crcBits k (a ^^^ b) = crcBits k a ^^^ crcBits k b := by
  induction k generalizing a b with
  | zero => rfl
  | succ k ih => simp only [crcBits]; rw [crcBit_xor, ih]

theorem crcBit_even (n : BitVec 32) (h : n.getLsbD 0 = false) : crcBit n = n >>> 1 := by
  unfold crcBit
  rw [h]
  simp
theorem crcBits_even (k : Nat) (n : BitVec 32) (h : ∀ i, i < k → n.getLsbD i = false) : crcBits k n = n >>> k := by
  induction k generalizing n with
  | zero => simp [crcBits]
  | succ k ih =>
    rw [crcBits, crcBit_even n (h 0 (by omega)), ih (n >>> 1) (fun i hi => by
      rw [BitVec.getLsbD_ushiftRight]
      have := h (1 + i) (by omega)
      exact this)]
    rw [BitVec.shiftRight_add n 1 k |>.symm, Nat.add_comm]
theorem crc_split (n : BitVec 32) : (n &&& 15#32) ^^^ (n &&& ~~~(15#32)) = n := by
  apply BitVec.eq_of_getLsbD_eq
  intro i hi
  simp only [BitVec.getLsbD_xor, BitVec.getLsbD_and, BitVec.getLsbD_not, hi, decide_true, Bool.true_and]
  cases n.getLsbD i <;> cases (15#32).getLsbD i <;> rfl
/-- four bits by a table of the sums of half bytes -/
theorem crc_half (n : BitVec 32) : crcBits 4 n = (n >>> 4) ^^^ crcBits 4 (n &&& 15#32) := by
  have h1 : crcBits 4 (n &&& ~~~(15#32)) = n >>> 4 := by
    rw [crcBits_even 4 _ (fun i hi => by
      rw [BitVec.getLsbD_and, BitVec.getLsbD_not]
      have : (15#32).getLsbD i = true := by
        match i, hi with
        | 0, _ => rfl
        | 1, _ => rfl
        | 2, _ => rfl
        | 3, _ => rfl
      rw [this]; simp)]
    apply BitVec.eq_of_getLsbD_eq
    intro i hi
    rw [BitVec.getLsbD_ushiftRight, BitVec.getLsbD_ushiftRight, BitVec.getLsbD_and, BitVec.getLsbD_not]
    by_cases h : 4 + i < 32
    · have : (15#32).getLsbD (4 + i) = false := by
        rw [BitVec.getLsbD_ofNat]
        rw [Nat.testBit_lt_two_pow (Nat.lt_of_lt_of_le (by decide : 15 < 2 ^ 4) (Nat.pow_le_pow_right (by omega) (by omega)))]
        simp
      rw [this]; simp [h]
    · rw [BitVec.getLsbD_of_ge n _ (by omega)]; simp
  have h2 := crcBits_xor 4 (n &&& 15#32) (n &&& ~~~(15#32))
  rw [crc_split, h1] at h2
  rw [h2, BitVec.xor_comm]

/-- the sum of bytes, bit by bit, going on -/
def crcByte (n : BitVec 32) (c : UInt8) : BitVec 32 := crcBits 8 (n ^^^ BitVec.ofNat 32 c.toNat)
def crcOn (n : BitVec 32) (l : List UInt8) : BitVec 32 := l.foldl crcByte n
def crcOf (l : List UInt8) : Nat := (~~~ (crcOn (~~~ 0#32) l)).toNat
/-- a byte by its two halves -/
theorem crcByte_halves (n : BitVec 32) (c : Nat) (h : c < 256) :
    crcBits 8 (n ^^^ BitVec.ofNat 32 c) = crcBits 4 (crcBits 4 (n ^^^ BitVec.ofNat 32 (c % 16)) ^^^ BitVec.ofNat 32 (c / 16)) := by
  have e : BitVec.ofNat 32 c = BitVec.ofNat 32 (c % 16) ^^^ (BitVec.ofNat 32 (c / 16) <<< 4) := by
    have : ∀ c : Fin 256, BitVec.ofNat 32 c.val = BitVec.ofNat 32 (c.val % 16) ^^^ (BitVec.ofNat 32 (c.val / 16) <<< 4) := by decide +kernel
    exact this ⟨c, h⟩
  have e2 : crcBits 4 (BitVec.ofNat 32 (c / 16) <<< 4) = BitVec.ofNat 32 (c / 16) := by
    have : ∀ c : Fin 16, crcBits 4 (BitVec.ofNat 32 c.val <<< 4) = BitVec.ofNat 32 c.val := by decide +kernel
    exact this ⟨c / 16, by omega⟩
  rw [show (8 : Nat) = 4 + 4 from rfl, crcBits_add, e, ← BitVec.xor_assoc, crcBits_xor 4 _ (BitVec.ofNat 32 (c / 16) <<< 4), e2]

end Go.Proofs.YtdpniceapmikpaaGreat
namespace Go.Proofs.YtdpniceapmikpaaGreat
open Go.RowKit

/-- a number that an int64 holds -/
def I64 (n : Int) : Prop := -9223372036854775808 ≤ n ∧ n ≤ 9223372036854775807
/-- a uint32 -/
abbrev vu32 (x : BitVec 32) : Value := .int .u32 (x.toNat : Int)
theorem wrap_u32 (x : BitVec 32) : IntKind.u32.wrap (x.toNat : Int) = (x.toNat : Int) := by
  have := x.isLt
  rw [IntKind.wrap_u32]; omega
theorem ofInt_u32 (x : BitVec 32) : BitVec.ofInt 32 (x.toNat : Int) = x := by rw [BitVec.ofInt_natCast, BitVec.ofNat_toNat]; simp
theorem xor_u32 (x y : BitVec 32) : bits .xor .u32 (x.toNat : Int) (y.toNat : Int) = ((x ^^^ y).toNat : Int) := by
  show IntKind.u32.wrap ((BitVec.ofInt 32 (x.toNat : Int) ^^^ BitVec.ofInt 32 (y.toNat : Int)).toNat : Int) = _
  rw [ofInt_u32, ofInt_u32]; exact wrap_u32 _
theorem and_u32 (x y : BitVec 32) : bits .and .u32 (x.toNat : Int) (y.toNat : Int) = ((x &&& y).toNat : Int) := by
  show IntKind.u32.wrap ((BitVec.ofInt 32 (x.toNat : Int) &&& BitVec.ofInt 32 (y.toNat : Int)).toNat : Int) = _
  rw [ofInt_u32, ofInt_u32]; exact wrap_u32 _
theorem shr_u32 (x : BitVec 32) (k : Nat) : (x.toNat : Int) / ((2 ^ k : Nat) : Int) = ((x >>> k).toNat : Int) := by
  rw [BitVec.toNat_ushiftRight, Nat.shiftRight_eq_div_pow]; rfl

theorem not_u32 (x : BitVec 32) : bits .xor .u32 IntKind.u32.max (x.toNat : Int) = ((~~~ x).toNat : Int) := by
  have e : (IntKind.u32.max : Int) = ((BitVec.allOnes 32).toNat : Int) := by decide
  rw [e, xor_u32, BitVec.allOnes_xor]

theorem and15_lt (x : BitVec 32) : (x &&& 15#32).toNat < 16 := by
  rw [BitVec.toNat_and]
  exact Nat.lt_of_le_of_lt Nat.and_le_right (by decide)

/-- the program's one bit -/
theorem bit_step (X : BitVec 32) : bits .xor .u32 ((X.toNat : Int) / (2 : Int)) (bits .and .u32 3988292384 (-bits .and .u32 (X.toNat : Int) 1 % 4294967296)) = ((crcBit X).toNat : Int) := by
  have e1 : bits .and .u32 (X.toNat : Int) 1 = ((X &&& 1#32).toNat : Int) := and_u32 X 1#32
  have e2 : (X.toNat : Int) / (2 : Int) = ((X >>> 1).toNat : Int) := shr_u32 X 1
  rw [e1, e2]
  unfold crcBit
  have hb : X &&& 1#32 = if X.getLsbD 0 then 1#32 else 0#32 := by
    apply BitVec.eq_of_getLsbD_eq
    intro i hi
    rw [BitVec.getLsbD_and]
    by_cases h0 : i = 0
    · subst h0; cases X.getLsbD 0 <;> rfl
    · have h1 : (1#32).getLsbD i = false := by
        rw [BitVec.getLsbD_one]; simp [h0]
      rw [h1, Bool.and_false]
      cases X.getLsbD 0
      · simp
      · simp [h1]
  rw [hb]
  cases X.getLsbD 0
  · have e3 : bits .and .u32 3988292384 0 = (0#32).toNat := and_u32 0xedb88320#32 0#32
    simp only [Bool.false_eq_true, if_false]
    rw [show (-((0#32 : BitVec 32).toNat : Int) % 4294967296) = 0 from by decide, e3]
    exact xor_u32 _ _
  · have e3 : bits .and .u32 3988292384 4294967295 = ((0xedb88320#32).toNat : Int) := and_u32 0xedb88320#32 0xffffffff#32
    simp only [if_true]
    rw [show (-((1#32 : BitVec 32).toNat : Int) % 4294967296) = 4294967295 from by decide, e3]
    exact xor_u32 _ _

end Go.Proofs.YtdpniceapmikpaaGreat
namespace Go.Proofs.YtdpniceapmikpaaGreat
open Go.RowKit

/-- a byte -/
abbrev vu8 (c : UInt8) : Value := .int .u8 (c.toNat : Int)
/-- v is a slice that reads as the bytes l, from blocks below B -/
def BytesIn (W : World) (B : Nat) (v : Value) (l : List UInt8) : Prop :=
  l.length ≤ maxLen ∧ ∃ a cap, v = .slice a l.length cap ∧ l.length ≤ cap ∧ ∀ j (c : UInt8), l[j]? = some c → ∃ g off, a = some ⟨g, off, none⟩ ∧ g < B ∧ W.cell? ⟨g, off + j, none⟩ = some (vu8 c)
theorem BytesIn.below {W W' : World} {B C : Nat} {v : Value} {l : List UInt8} (h : BytesIn W B v l) (hb : Below C W W') (hC : B ≤ C) : BytesIn W' B v l := by
  obtain ⟨h1, a, cap, h2, h3, h4⟩ := h
  refine ⟨h1, a, cap, h2, h3, fun j c hc => ?_⟩
  obtain ⟨g, off, e, hg, hr⟩ := h4 j c hc
  exact ⟨g, off, e, hg, (hb.cell (p := ⟨g, off + j, none⟩) (show g < C by omega)).trans hr⟩
theorem BytesIn.mono {W : World} {B C : Nat} {v : Value} {l : List UInt8} (h : BytesIn W B v l) (hC : B ≤ C) : BytesIn W C v l := by
  obtain ⟨h1, a, cap, h2, h3, h4⟩ := h
  refine ⟨h1, a, cap, h2, h3, fun j c hc => ?_⟩
  obtain ⟨g, off, e, hg, hr⟩ := h4 j c hc
  exact ⟨g, off, e, by omega, hr⟩
theorem BytesIn.nil (W : World) (B : Nat) : BytesIn W B (.slice none 0 0) [] := ⟨by simp, none, 0, rfl, by simp, fun j c hc => by simp at hc⟩
/-- an owned row of bytes -/
theorem BytesIn.own {W : World} {B n : Nat} {v : Value} {e : TypeId} {l : List UInt8} (h : W.ownsRow B e 1 v n (l.map vu8)) : BytesIn W W.heap.size v l := by
  have hn : l.length = n := by have := h.1; simpa using this
  subst hn
  obtain ⟨hl, h2⟩ := h
  rcases h2 with ⟨rfl, h0⟩ | ⟨g, cap, cur, rfl, hB, hg, hc, hm, hs, ht⟩
  · have : l = [] := List.eq_nil_of_length_eq_zero h0
    subst this
    exact BytesIn.nil W _
  · refine ⟨by omega, _, cap, rfl, hc, fun j c hj => ⟨g, 0, rfl, lt_of_block hg, ?_⟩⟩
    rw [cell_of_row W g (0 + j) cur e (0, 0) hg]
    have h1 : (cur.toList.take (l.length * 1))[j]? = some (vu8 c) := by rw [ht]; simp [hj]
    have hjl : j < l.length := by
      rcases Nat.lt_or_ge j l.length with h | h
      · exact h
      · rw [List.getElem?_eq_none h] at hj; cases hj
    rw [List.getElem?_take, if_pos (by omega)] at h1
    simpa using h1
theorem u8_lt (c : UInt8) : c.toNat < 256 := UInt8.toNat_lt c

end Go.Proofs.YtdpniceapmikpaaGreat
namespace Go.Proofs.YtdpniceapmikpaaGreat
open Go.RowKit

/-- a key -/
structure KeyD where
  k : Int
  o : Int
  c : Int
  a : Int
  r : Int
  v : Int
theorem KeyD.ext {x y : KeyD} (h1 : x.k = y.k) (h2 : x.o = y.o) (h3 : x.c = y.c) (h4 : x.a = y.a) (h5 : x.r = y.r) (h6 : x.v = y.v) : x = y := by
  cases x; cases y; simp_all
def KeyD.cells (x : KeyD) : List Value := [.int .i64 x.k, .int .i64 x.o, .int .i64 x.c, .int .i64 x.a, .int .i64 x.r, .int .i64 x.v]
theorem KeyD.cells_len (x : KeyD) : x.cells.length = 6 := rfl
def keyEq (x y : KeyD) : Bool := (x.k == y.k) && ((x.o == y.o) && ((x.c == y.c) && ((x.a == y.a) && ((x.r == y.r) && ((x.v == y.v) && true)))))
theorem keyEq_iff (x y : KeyD) : keyEq x y = true ↔ x = y := by
  unfold keyEq
  simp only [Bool.and_eq_true, beq_iff_eq, Bool.and_true]
  constructor
  · rintro ⟨h1, h2, h3, h4, h5, h6⟩; exact KeyD.ext h1 h2 h3 h4 h5 h6
  · rintro rfl; simp
def keyZ : KeyD := ⟨0, 0, 0, 0, 0, 0⟩
def slotCells (l : List KeyD) : List Value := l.flatMap KeyD.cells
theorem slotCells_len (l : List KeyD) : (slotCells l).length = 6 * l.length := by
  induction l with
  | nil => rfl
  | cons x l ih =>
    have : slotCells (x :: l) = x.cells ++ slotCells l := rfl
    rw [this, List.length_append, ih, KeyD.cells_len, List.length_cons]; omega
theorem slotCells_at : ∀ (l : List KeyD) (j : Nat) (x : KeyD), l[j]? = some x → ∀ i, i < 6 → (slotCells l)[j * 6 + i]? = x.cells[i]? := by
  intro l
  induction l with
  | nil => intro j x h; simp at h
  | cons y l ih =>
    intro j x h i hi
    have e : slotCells (y :: l) = y.cells ++ slotCells l := rfl
    rw [e]
    cases j with
    | zero =>
      obtain rfl : y = x := by simpa using h
      rw [Nat.zero_mul, Nat.zero_add, List.getElem?_append_left (by rw [KeyD.cells_len]; exact hi)]
    | succ j =>
      have h' : l[j]? = some x := by simpa using h
      rw [List.getElem?_append_right (by rw [KeyD.cells_len]; omega)]
      have e2 : (j + 1) * 6 + i - y.cells.length = j * 6 + i := by rw [KeyD.cells_len]; omega
      rw [e2]
      exact ih j x h' i hi
theorem slotCells_cut (l : List KeyD) (j : Nat) (x : KeyD) (h : l[j]? = some x) : ((slotCells l).drop (j * 6)).take 6 = x.cells := by
  apply List.ext_getElem?
  intro i
  by_cases hi : i < 6
  · rw [List.getElem?_take_of_lt hi, List.getElem?_drop, slotCells_at l j x h i hi]
  · rw [List.getElem?_eq_none (by simp; omega), List.getElem?_eq_none (by rw [KeyD.cells_len]; omega)]

theorem fields_step {P : Program} (w : World) (d : Nat) (f : Field) (fs : List Field) (xs ys : Array Value) {q : IntKind} (hn : f.name ≠ "_") (hp : P.plainKey f.type = true) (hu : P.underlying f.type = some (.int q)) {a b : Int}
    (hx : xs[f.offset]? = some (.int q a)) (hy : ys[f.offset]? = some (.int q b)) {r : Bool} (h : (Op.eqFields (d + 1) xs ys fs).run P w = .ok r w) : (Op.eqFields (d + 1) xs ys (f :: fs)).run P w = .ok ((a == b) && r) w := by
  rw [Op.eqFields, if_pos hn]
  simp only [Sem.run_bind, run_part_plain w hp hx, run_part_plain w hp hy, Result.andThen_ok, run_equalIn_int w d f.type q q a b hu]
  cases hh : (a == b)
  · simp
  · simpa using h
theorem fields_agg {P : Program} (w : World) (d : Nat) (f : Field) (fs : List Field) (xs ys : Array Value) (hn : f.name ≠ "_") {a b : Value} (hx : (part f.type xs f.offset).run P w = .ok a w) (hy : (part f.type ys f.offset).run P w = .ok b w) {q : Bool}
    (he : (Op.equalIn d f.type a b).run P w = .ok q w) {r : Bool} (h : (Op.eqFields d xs ys fs).run P w = .ok r w) : (Op.eqFields d xs ys (f :: fs)).run P w = .ok (q && r) w := by
  rw [Op.eqFields, if_pos hn]
  simp only [Sem.run_bind, hx, hy, Result.andThen_ok, he]
  cases q
  · simp
  · simpa using h
theorem fields_nil {P : Program} (w : World) (d : Nat) (xs ys : Array Value) : (Op.eqFields d xs ys []).run P w = .ok true w := by simp [Op.eqFields]
set_option maxRecDepth 100000 in
theorem key_equalIn (d : Nat) (x y : KeyD) (w : World) : (Op.equalIn (d + 2) 58 (.agg x.cells.toArray) (.agg y.cells.toArray)).run Tryz.prog w = .ok (keyEq x y) w := by
  rw [run_equalIn_struct w (d + 1) _ _ _ (by kernel_rfl) (by kernel_rfl)]
  simp only [Program.fieldsOf, Tryz.underlying58]
  exact fields_step w d _ _ _ _ (by decide) (by kernel_rfl) Tryz.underlying55 rfl rfl
    (fields_step w d _ _ _ _ (by decide) (by kernel_rfl) Tryz.underlying3 rfl rfl
    (fields_step w d _ _ _ _ (by decide) (by kernel_rfl) Tryz.underlying2 rfl rfl
    (fields_step w d _ _ _ _ (by decide) (by kernel_rfl) Tryz.underlying2 rfl rfl
    (fields_step w d _ _ _ _ (by decide) (by kernel_rfl) Tryz.underlying56 rfl rfl
    (fields_step w d _ _ _ _ (by decide) (by kernel_rfl) Tryz.underlying2 rfl rfl (fields_nil _ _ _ _))))))

/-- a part of a list of keys, and of an object -/
theorem part_agg {P : Program} (w : World) {t : TypeId} {d : TypeDesc} (hu : P.underlying t = some d) (hd : (match d with | .struct _ | .array _ _ => true | _ => false) = true) {n : Nat} (hi : (P.info? t).map (·.size) = some n) (xs : Array Value) (off : Nat) :
    (part t xs off).run P w = .ok (.agg (xs.extract off (off + n))) w := by
  obtain ⟨i, hi', hn⟩ := Option.map_eq_some_iff.1 hi
  cases d <;> simp at hd <;> simp [part, isAgg, run_underlying hu, run_sizeOf w hi', Program.cellsOf, hi', hn]
theorem info_key : (Tryz.prog.info? 58).map (·.size) = some 6 := by kernel_rfl
theorem info_slots : (Tryz.prog.info? 59).map (·.size) = some 96 := by kernel_rfl
theorem info_page : (Tryz.prog.info? 60).map (·.size) = some 64 := by kernel_rfl
theorem cellsOf_key : Tryz.prog.cellsOf 58 = 6 := by kernel_rfl
theorem slots_part (l : List KeyD) (j : Nat) (x : KeyD) (h : l[j]? = some x) (w : World) : (part 58 (slotCells l).toArray (j * 6)).run Tryz.prog w = .ok (.agg x.cells.toArray) w := by
  rw [part_agg w Tryz.underlying58 rfl info_key]
  congr 2
  apply Array.toList_inj.1
  rw [Array.toList_extract]
  simpa [List.extract] using slotCells_cut l j x h
def keysEq : List KeyD → List KeyD → Bool
  | [], [] => true
  | x :: l, y :: m => keyEq x y && keysEq l m
  | _, _ => false
theorem keysEq_iff : ∀ (l m : List KeyD), keysEq l m = true ↔ l = m
  | [], [] => by simp [keysEq]
  | x :: l, y :: m => by simp [keysEq, keyEq_iff, keysEq_iff l m]
  | [], _ :: _ => by simp [keysEq]
  | _ :: _, [] => by simp [keysEq]
theorem items_keys (d : Nat) (w : World) (l m : List KeyD) : ∀ (n j : Nat), (∀ i, j ≤ i → i < j + n → i < l.length ∧ i < m.length) →
    (Op.eqItems (d + 2) 58 6 (slotCells l).toArray (slotCells m).toArray (List.range' j n)).run Tryz.prog w = .ok (keysEq ((l.drop j).take n) ((m.drop j).take n)) w
  | 0, j, _ => by simp [Op.eqItems, keysEq]
  | n + 1, j, h => by
    obtain ⟨h1, h2⟩ := h j (by omega) (by omega)
    have ih := items_keys d w l m n (j + 1) (fun i hi hi2 => h i (by omega) (by omega))
    rw [List.range'_succ, Op.eqItems]
    simp only [Sem.run_bind, slots_part l j _ (List.getElem?_eq_getElem h1) w, slots_part m j _ (List.getElem?_eq_getElem h2) w, Result.andThen_ok, key_equalIn d _ _ w]
    rw [List.drop_eq_getElem_cons h1, List.drop_eq_getElem_cons h2, List.take_succ_cons, List.take_succ_cons, keysEq]
    cases hh : keyEq l[j] m[j]
    · simp
    · simpa using ih
theorem slots_equalIn (d : Nat) (l m : List KeyD) (hl : l.length = 16) (hm : m.length = 16) (w : World) : (Op.equalIn (d + 3) 59 (.agg (slotCells l).toArray) (.agg (slotCells m).toArray)).run Tryz.prog w = .ok (keysEq l m) w := by
  obtain ⟨i, hi, _⟩ := Option.map_eq_some_iff.1 info_key
  rw [run_equalIn_array w (d + 2) _ _ Tryz.underlying59 hi, cellsOf_key, List.range_eq_range']
  have := items_keys d w l m 16 0 (fun i _ hi => by omega)
  rw [this, List.drop_zero, List.drop_zero, List.take_of_length_le (by omega), List.take_of_length_le (by omega)]

/-- an object -/
structure ObjD where
  kd : Int
  ct : Int
  cl : Int
  slots : List KeyD
  bytes : List UInt8
def ObjD.ok (o : ObjD) : Prop := o.slots.length = 16 ∧ o.bytes.length = 64
def ObjD.cells (o : ObjD) : List Value := [.int .i64 o.kd, .int .i64 o.ct, .int .i64 o.cl] ++ (slotCells o.slots ++ o.bytes.map vu8)
theorem ObjD.len {o : ObjD} (h : o.ok) : o.cells.length = 163 := by
  unfold ObjD.cells
  rw [List.length_append, List.length_append, slotCells_len, List.length_map, h.1, h.2]; rfl
def objEq (x y : ObjD) : Bool := (x.kd == y.kd) && ((x.ct == y.ct) && ((x.cl == y.cl) && (keysEq x.slots y.slots && ((x.bytes == y.bytes) && true))))
theorem objEq_iff (x y : ObjD) : objEq x y = true ↔ x = y := by
  cases x; cases y
  unfold objEq
  simp only [Bool.and_eq_true, beq_iff_eq, keysEq_iff, Bool.and_true, ObjD.mk.injEq]
theorem obj_slots {o : ObjD} (h : o.ok) : o.cells.toArray.extract 3 (3 + 96) = (slotCells o.slots).toArray := by
  apply Array.toList_inj.1
  rw [Array.toList_extract]
  simp only [List.extract]
  unfold ObjD.cells
  rw [List.drop_append_of_le_length (by simp)]
  rw [show List.drop 3 ([Value.int .i64 o.kd, Value.int .i64 o.ct, Value.int .i64 o.cl]) = [] by rfl, List.nil_append, List.take_append_of_le_length (by rw [slotCells_len, h.1]; omega), List.take_of_length_le (by rw [slotCells_len, h.1]; omega)]
theorem obj_bytes {o : ObjD} (h : o.ok) : o.cells.toArray.extract 99 (99 + 64) = (o.bytes.map vu8).toArray := by
  apply Array.toList_inj.1
  rw [Array.toList_extract]
  simp only [List.extract]
  unfold ObjD.cells
  rw [← List.append_assoc, List.drop_append, List.drop_eq_nil_of_le (by rw [List.length_append, slotCells_len, h.1]; simp), List.nil_append, List.length_append, slotCells_len, h.1]
  rw [show 99 - (List.length [Value.int .i64 o.kd, Value.int .i64 o.ct, Value.int .i64 o.cl] + 6 * 16) = 0 by rfl, List.drop_zero, List.take_of_length_le (by rw [List.length_map, h.2]; omega)]
theorem bytes_equalIn (d : Nat) (l m : List UInt8) (hl : l.length = 64) (hm : m.length = 64) (w : World) : (Op.equalIn (d + 2) 60 (.agg (l.map vu8).toArray) (.agg (m.map vu8).toArray)).run Tryz.prog w = .ok (l == m) w :=
  run_equalIn_bytes w d _ _ 64 Tryz.underlying60 Tryz.underlying5 (fun w => by kernel_rfl) l m hl hm
set_option maxRecDepth 100000 in
theorem obj_equalIn (d : Nat) (x y : ObjD) (hx : x.ok) (hy : y.ok) (w : World) : (Op.equalIn (d + 4) 62 (.agg x.cells.toArray) (.agg y.cells.toArray)).run Tryz.prog w = .ok (objEq x y) w := by
  rw [run_equalIn_struct w (d + 3) _ _ _ (by kernel_rfl) (by kernel_rfl)]
  simp only [Program.fieldsOf, Tryz.underlying62]
  exact fields_step w (d + 2) _ _ _ _ (by decide) (by kernel_rfl) Tryz.underlying54 rfl rfl
    (fields_step w (d + 2) _ _ _ _ (by decide) (by kernel_rfl) Tryz.underlying2 rfl rfl
    (fields_step w (d + 2) _ _ _ _ (by decide) (by kernel_rfl) Tryz.underlying2 rfl rfl
    (fields_agg w (d + 3) _ _ _ _ (by decide) ((part_agg w Tryz.underlying59 rfl info_slots _ _).trans (by rw [obj_slots hx])) ((part_agg w Tryz.underlying59 rfl info_slots _ _).trans (by rw [obj_slots hy])) (slots_equalIn d _ _ hx.1 hy.1 w)
    (fields_agg w (d + 3) _ _ _ _ (by decide) ((part_agg w Tryz.underlying60 rfl info_page _ _).trans (by rw [obj_bytes hx])) ((part_agg w Tryz.underlying60 rfl info_page _ _).trans (by rw [obj_bytes hy])) (bytes_equalIn (d + 1) _ _ hx.2 hy.2 w) (fields_nil _ _ _ _)))))
end Go.Proofs.YtdpniceapmikpaaGreat
namespace Go.Proofs.YtdpniceapmikpaaGreat
open Go.RowKit

def str (l : List UInt8) : Value := .string ⟨l.toArray⟩
def kindRow (nm : List UInt8) (oid rights call value : Bool) (most wants : Int) : List Value :=
  [str nm, .bool oid, .bool rights, .bool call, .bool value, .int .i64 most, .int .i64 wants]
def kindCells : Array Value := (
  kindRow [118, 111, 105, 100] false false false false 0 0 ++
  kindRow [110, 117, 109, 98, 101, 114] false false false true 0 0 ++
  kindRow [110, 111, 100, 101] true true false false 7 1 ++
  kindRow [112, 97, 103, 101] true true false false 1 2 ++
  kindRow [98, 97, 110, 107] true false false false 0 1 ++
  kindRow [112, 114, 111, 99] true false false false 0 1 ++
  kindRow [115, 116, 97, 114, 116] true false false true 0 1 ++
  kindRow [114, 101, 115, 117, 109, 101] true false true false 0 1 ++
  kindRow [100, 105, 115, 99, 114, 105, 109] false false false false 0 0 ++
  kindRow [99, 108, 111, 99, 107] false false false false 0 0 ++
  kindRow [99, 104, 101, 99, 107] false false false false 0 0).toArray
def zeroRow : List Value := kindRow [] false false false false 0 0
def zero72 : Array Value := (zeroRow ++ zeroRow ++ zeroRow ++ zeroRow ++ zeroRow ++ zeroRow ++ zeroRow ++ zeroRow ++ zeroRow ++ zeroRow ++ zeroRow).toArray
theorem zeroV72 (w : World) : (zeroValue 263).run Tryz.prog w = .ok (.agg zero72) w := by kernel_rfl
theorem zero72_size : zero72.size = 77 := by kernel_rfl
theorem zero72_ne : ¬ zero72 = #[] := by intro h; have := zero72_size; rw [h] at this; cases this
theorem wpList_build_is {P : Program} {ops : Array Oper} {rest : List Oper} {o : Oper} {a : Act} {w : World} {Q : Exit → Act → World → Prop} (hg : o.guard = none) (t : TypeId) (parts : Array (Nat × Operand)) (ho : o.op = .build t parts)
    (cells : Array Value) (hf : P.built t (parts.map fun (i, x) => (i, a.eval x)).toList = some cells)
    (h : wpList P ops Q rest (a.put o.dst (.agg cells)) w) : wpList P ops Q (o :: rest) a w :=
  wpList_build hg t parts ho (by rw [hf]; rfl) (by rw [hf]; exact h)
theorem kind_info : (Tryz.prog.info? 263).map (·.size) = some kindCells.size := by kernel_rfl
theorem kind_size : zero72.size = kindCells.size := by kernel_rfl
theorem kind_one : kindCells.all (·.oneCell') = true := by kernel_rfl

set_option maxHeartbeats 400000 in
theorem kinds_any (w : World) :
    Calls Tryz.prog 149 #[] w fun e w' => e = .returned (.agg kindCells) ∧ w.alloc (.cells kindCells 263) = w' := by
  have hz := zeroV72
  have hn := zero72_ne
  go_enter Tryz.func149, Tryz.ntmps149
  go_wp2_with (first
    | (refine wpList_build_is rfl 263 _ rfl kindCells (by kernel_rfl) ?_)
    | (refine wpList_store_row rfl 263 _ _ rfl w.heap.size kindCells rfl rfl 263 zero72 (heap_alloc_last _ _) kind_info kind_size kind_one ?_; rw [World.setRow_alloc_new]))
  exact bodyPost_ret (v := .agg kindCells) (results_cell_row Tryz.results149 _ _ w.heap.size 263 kindCells (0, 0) _ rfl (heap_alloc_last _ _) Tryz.underlying263 rfl kind_info) rfl ⟨rfl, rfl⟩

end Go.Proofs.YtdpniceapmikpaaGreat
namespace Go.Proofs.YtdpniceapmikpaaGreat
open Go.RowKit

def withinB (has : Bool) (n most : Int) : Bool := (has && decide (0 ≤ n) && decide (n ≤ most)) || (!has && (n == 0))

set_option maxHeartbeats 400000 in
theorem within_any (has : Bool) (n most : Int) (w : World) :
    Calls Tryz.prog 150 #[.bool has, .int .i64 n, .int .i64 most] w fun e w' => e = .returned (.bool (withinB has n most)) ∧ w = w' := by
  cases has
  · go_enter Tryz.func150, Tryz.ntmps150
    go_wp2
    go_ret
    exact ⟨by simp [withinB], rfl⟩
  · by_cases h0 : 0 ≤ n
    · go_enter Tryz.func150, Tryz.ntmps150
      go_wp2
      all_goals go_ret
      all_goals exact ⟨by simp [withinB, *], rfl⟩
    · have h1 : n < 0 := by omega
      have h2 : ¬ (0 ≤ n ∧ n ≤ most) := by omega
      go_enter Tryz.func150, Tryz.ntmps150
      go_wp2
      all_goals go_ret
      all_goals exact ⟨by simp [withinB]; omega, rfl⟩

def nameOf (k : Int) : ByteArray := ⟨(if k = 0 then [118, 111, 105, 100] else if k = 1 then [110, 117, 109, 98, 101, 114] else if k = 2 then [110, 111, 100, 101] else if k = 3 then [112, 97, 103, 101] else if k = 4 then [98, 97, 110, 107]
  else if k = 5 then [112, 114, 111, 99] else if k = 6 then [115, 116, 97, 114, 116] else if k = 7 then [114, 101, 115, 117, 109, 101] else if k = 8 then [100, 105, 115, 99, 114, 105, 109] else if k = 9 then [99, 108, 111, 99, 107]
  else if k = 10 then [99, 104, 101, 99, 107] else [] : List UInt8).toArray⟩
def oidB (k : Int) : Bool := decide (2 ≤ k) && decide (k ≤ 7)
def rightsB (k : Int) : Bool := (k == 2) || (k == 3)
def callB (k : Int) : Bool := k == 7
def valueB (k : Int) : Bool := (k == 1) || (k == 6)
def mostOf (k : Int) : Int := if k = 2 then 7 else if k = 3 then 1 else 0
def wantsOf (k : Int) : Int := if k = 3 then 2 else if oidB k then 1 else 0
def kindV (k : Int) : Array Value := #[.string (nameOf k), .bool (oidB k), .bool (rightsB k), .bool (callB k), .bool (valueB k), .int .i64 (mostOf k), .int .i64 (wantsOf k)]
set_option maxRecDepth 100000 in
theorem row_at (k : Int) (h0 : 0 ≤ k) (h1 : k ≤ 10) (w : World) : (Instr.index 263 (.agg kindCells) (.int .i64 k)).run Tryz.prog w = .ok (.agg (kindV k)) w := by
  have h : k = 0 ∨ k = 1 ∨ k = 2 ∨ k = 3 ∨ k = 4 ∨ k = 5 ∨ k = 6 ∨ k = 7 ∨ k = 8 ∨ k = 9 ∨ k = 10 := by omega
  rcases h with rfl | rfl | rfl | rfl | rfl | rfl | rfl | rfl | rfl | rfl | rfl
  all_goals exact (by kernel_rfl : Sem.run _ _ _ = Result.ok _ _)

def ofB (k o c a r v : Int) : Bool := decide (0 ≤ k) && decide (k ≤ 10) && withinB (oidB k) o 63 && withinB (oidB k) c 4294967295 && withinB (callB k) a 4294967295 && decide (0 ≤ r) && (bits .andNot .i64 r (mostOf k) == 0) && (valueB k || (v == 0))

theorem ofB_in (k o c a r v : Int) (h0 : 0 ≤ k) (h1 : k ≤ 10) : ofB k o c a r v = (withinB (oidB k) o 63 && withinB (oidB k) c 4294967295 && withinB (callB k) a 4294967295 && decide (0 ≤ r) && (bits .andNot .i64 r (mostOf k) == 0) && (valueB k || (v == 0))) := by
  unfold ofB
  rw [decide_eq_true h0, decide_eq_true h1]
  simp only [Bool.true_and]
theorem kindV_one (k : Int) : (kindV k).all (·.oneCell') = true := by unfold kindV; simp [Value.oneCell']
abbrev keyV (k o c a r v : Int) : Array Value := #[.int .i64 k, .int .i64 o, .int .i64 c, .int .i64 a, .int .i64 r, .int .i64 v]
theorem info_kind : (Tryz.prog.info? 231).map (·.size) = some 7 := by kernel_rfl

set_option maxHeartbeats 800000 in
theorem of_in (k o c a r v : Int) (w : World) (h0 : 0 ≤ k) (h1 : k ≤ 10) :
    Calls Tryz.prog 130 #[.agg #[.int .i64 k, .int .i64 o, .int .i64 c, .int .i64 a, .int .i64 r, .int .i64 v]] w fun e w' =>
      e = .returned (.tuple #[.agg (kindV k), .bool (ofB k o c a r v)]) ∧ Below w.heap.size w w' := by
  have hx := row_at k h0 h1
  unfold kindV at hx
  go_enter Tryz.func130, Tryz.ntmps130
  go_upto_region 3 with fail
  go_cut [4] (fun s4 wx => ∃ g : Nat, s4 = .pointer (some ⟨g, 0, none⟩) ∧ Blk wx w.heap.size 58 (keyV k o c a r v) ∧ (∃ cs, cs.size = 7 ∧ Blk wx (w.heap.size + 1) 231 cs) ∧ Blk wx g 231 (kindV k) ∧ Below w.heap.size w wx)
  case first =>
    go_region_with (go_at_call 149; refine (kinds_any _).mono ?_; rintro e w' ⟨rfl, rfl⟩)
    all_goals go_wp2_with fail
    all_goals go_meet
    all_goals refine ⟨_, rfl, (((Blk.new _ _ _).alloc _).alloc _).alloc _, ⟨_, ?_, ((Blk.new' ?_).alloc _).alloc _⟩, ?_, ?_⟩
    all_goals first
      | exact (((((Below.refl _ _).alloc (Nat.le_refl _) _).alloc (by simp) _).alloc (by simp; omega) _).alloc (by simp; omega) _).drew
      | exact (Blk.new' (by simp)).drew
      | exact ((Blk.new' (by simp)).alloc _).drew
      | rfl
      | (simp; done)
  case rest =>
    obtain ⟨g, rfl, hk, ⟨cs, hcs, hr⟩, hrow, hb⟩ := hcut
    have k1 := hk.cell_is 1 rfl
    have k2 := hk.cell_is 2 rfl
    have k3 := hk.cell_is 3 rfl
    have k4 := hk.cell_is 4 rfl
    have k5 := hk.cell_is 5 rfl
    have r1 : wc.cell? ⟨g, 1, none⟩ = some (.bool (oidB k)) := hrow.cell_is 1 rfl
    have r3 : wc.cell? ⟨g, 3, none⟩ = some (.bool (callB k)) := hrow.cell_is 3 rfl
    have r4 : wc.cell? ⟨g, 4, none⟩ = some (.bool (valueB k)) := hrow.cell_is 4 rfl
    have r5 : wc.cell? ⟨g, 5, none⟩ = some (.int .i64 (mostOf k)) := hrow.cell_is 5 rfl
    have HF := Lib.hid (ofB_in k o c a r v h0 h1)
    go_upto_region 5 with fail
    go_cut [6] (fun s6 wx => s6 = .bool (ofB k o c a r v) ∧ wx = wc)
    case first =>
      go_wp2_with (go_at_call 150; refine (within_any _ _ _ _).mono ?_; rintro e w' ⟨rfl, rfl⟩)
      all_goals go_meet
      all_goals refine ⟨?_, rfl⟩
      all_goals rw [HF.out]
      all_goals (go_light; first | (simp [*]; done) | (rw [decide_eq_false (by omega : ¬ 0 ≤ r)]; simp))
    case rest =>
      obtain ⟨rfl, rfl⟩ := hcut
      clear HF
      go_wp2_with (first
        | (refine wpList_load_row rfl 231 _ rfl g rfl 231 (kindV k) (0, 0) _ hrow Tryz.underlying231 rfl info_kind ?_)
        | (refine wpList_store_row rfl 231 _ _ rfl (w.heap.size + 1) (kindV k) rfl rfl 231 cs hr info_kind hcs (kindV_one k) ?_))
      exact bodyPost_ret (results_row_tmp Tryz.results130 _ _ (w.heap.size + 1) 231 (kindV k) (0, 0) _ rfl (hr.row _) Tryz.underlying231 rfl info_kind _ rfl) rfl ⟨rfl, below_row hb _ (by omega)⟩

end Go.Proofs.YtdpniceapmikpaaGreat
namespace Go.Proofs.YtdpniceapmikpaaGreat
open Go.RowKit

theorem bcell {W w1 : World} (hb : Below W.heap.size W w1) : (∀ b o, b < W.heap.size → w1.cell? ⟨b, o, none⟩ = W.cell? ⟨b, o, none⟩) ∧ (∀ b o, b < W.heap.size → w1.frozen? ⟨b, o, none⟩ = W.frozen? ⟨b, o, none⟩) :=
  ⟨fun b o h => hb.cell (p := ⟨b, o, none⟩) h, fun b o h => hb.frozen (p := ⟨b, o, none⟩) h⟩

theorem Blk.key {w : World} {g : Nat} {t : TypeId} {k o c a r v : Int} (h : Blk w g t (keyV k o c a r v)) :
    w.cell? ⟨g, 0, none⟩ = some (.int .i64 k) ∧ w.cell? ⟨g, 1, none⟩ = some (.int .i64 o) ∧ w.cell? ⟨g, 2, none⟩ = some (.int .i64 c) ∧ w.cell? ⟨g, 3, none⟩ = some (.int .i64 a) ∧ w.cell? ⟨g, 4, none⟩ = some (.int .i64 r) ∧ w.cell? ⟨g, 5, none⟩ = some (.int .i64 v) :=
  ⟨h.cell_is 0 rfl, h.cell_is 1 rfl, h.cell_is 2 rfl, h.cell_is 3 rfl, h.cell_is 4 rfl, h.cell_is 5 rfl⟩
theorem Blk.kind {w : World} {g : Nat} {t : TypeId} {k : Int} (h : Blk w g t (kindV k)) :
    w.cell? ⟨g, 0, none⟩ = some (.string (nameOf k)) ∧ w.cell? ⟨g, 1, none⟩ = some (.bool (oidB k)) ∧ w.cell? ⟨g, 2, none⟩ = some (.bool (rightsB k)) ∧ w.cell? ⟨g, 3, none⟩ = some (.bool (callB k)) ∧ w.cell? ⟨g, 4, none⟩ = some (.bool (valueB k)) ∧ w.cell? ⟨g, 5, none⟩ = some (.int .i64 (mostOf k)) ∧ w.cell? ⟨g, 6, none⟩ = some (.int .i64 (wantsOf k)) :=
  ⟨h.cell_is 0 rfl, h.cell_is 1 rfl, h.cell_is 2 rfl, h.cell_is 3 rfl, h.cell_is 4 rfl, h.cell_is 5 rfl, h.cell_is 6 rfl⟩

theorem kindV_out (k : Int) (h : k < 0 ∨ 10 < k) : kindV k = #[.string ⟨#[]⟩, .bool false, .bool false, .bool false, .bool false, .int .i64 0, .int .i64 0] := by
  have e : k ≠ 0 ∧ k ≠ 1 ∧ k ≠ 2 ∧ k ≠ 3 ∧ k ≠ 4 ∧ k ≠ 5 ∧ k ≠ 6 ∧ k ≠ 7 ∧ k ≠ 8 ∧ k ≠ 9 ∧ k ≠ 10 := by omega
  obtain ⟨e0, e1, e2, e3, e4, e5, e6, e7, e8, e9, e10⟩ := e
  have ho : ¬ (2 ≤ k ∧ k ≤ 7) := by omega
  have ho' : oidB k = false := by unfold oidB; rw [Bool.and_eq_false_iff]; simp; omega
  simp [kindV, nameOf, rightsB, callB, valueB, mostOf, wantsOf, *]
theorem ofB_out (k o c a r v : Int) (h : k < 0 ∨ 10 < k) : ofB k o c a r v = false := by
  unfold ofB
  rcases h with h | h
  · rw [decide_eq_false (by omega : ¬ 0 ≤ k)]; rfl
  · rw [decide_eq_false (by omega : ¬ k ≤ 10), Bool.and_false]; rfl

set_option maxHeartbeats 400000 in
theorem of_out (k o c a r v : Int) (w : World) (h : k < 0 ∨ 10 < k) :
    Calls Tryz.prog 130 #[.agg #[.int .i64 k, .int .i64 o, .int .i64 c, .int .i64 a, .int .i64 r, .int .i64 v]] w fun e w' =>
      e = .returned (.tuple #[.agg (kindV k), .bool (ofB k o c a r v)]) ∧ Below w.heap.size w w' := by
  rw [kindV_out k h, ofB_out k o c a r v h]
  rcases h with h | h
  · go_enter Tryz.func130, Tryz.ntmps130
    go_wp2
    exact bodyPost_ret (v := .tuple #[.agg #[.string ⟨#[]⟩, .bool false, .bool false, .bool false, .bool false, .int .i64 0, .int .i64 0], .bool false]) (by simp [results, Tryz.results130, go_sem]) rfl ⟨rfl, ((Below.refl _ _).alloc (Nat.le_refl _) _).alloc (by simp) _⟩
  · have h' : ¬ k < 0 := by omega
    go_enter Tryz.func130, Tryz.ntmps130
    go_wp2
    exact bodyPost_ret (v := .tuple #[.agg #[.string ⟨#[]⟩, .bool false, .bool false, .bool false, .bool false, .int .i64 0, .int .i64 0], .bool false]) (by simp [results, Tryz.results130, go_sem]) rfl ⟨rfl, ((Below.refl _ _).alloc (Nat.le_refl _) _).alloc (by simp) _⟩

theorem of_any (k o c a r v : Int) (w : World) :
    Calls Tryz.prog 130 #[.agg #[.int .i64 k, .int .i64 o, .int .i64 c, .int .i64 a, .int .i64 r, .int .i64 v]] w fun e w' =>
      e = .returned (.tuple #[.agg #[.string (nameOf k), .bool (oidB k), .bool (rightsB k), .bool (callB k), .bool (valueB k), .int .i64 (mostOf k), .int .i64 (wantsOf k)], .bool (ofB k o c a r v)]) ∧ Below w.heap.size w w' := by
  by_cases h : 0 ≤ k ∧ k ≤ 10
  · exact of_in k o c a r v w h.1 h.2
  · exact of_out k o c a r v w (by omega)

def errB (b : Bool) : Int := if b then 0 else 2

set_option maxHeartbeats 400000 in
theorem check_any (k o c a r v : Int) (w : World) :
    Calls Tryz.prog 92 #[.agg #[.int .i64 k, .int .i64 o, .int .i64 c, .int .i64 a, .int .i64 r, .int .i64 v]] w fun e w' =>
      e = .returned (.int .i64 (errB (ofB k o c a r v))) ∧ Below w.heap.size w w' := by
  cases hB : ofB k o c a r v
  all_goals
    go_enter Tryz.func92, Tryz.ntmps92
    go_wp2_with (go_at_call 130; refine (of_any _ _ _ _ _ _ _).mono ?_; rintro e w1 ⟨rfl, hb⟩)
    go_ret
    exact ⟨rfl, (((Below.refl _ _).alloc (Nat.le_refl _) _).trans (hb.mono (by simp))).alloc (by have := hb.size; simp at this; omega) _⟩

def namesB (k o c a r v : Int) : Bool := ofB k o c a r v && oidB k

set_option maxHeartbeats 400000 in
theorem names_any (k o c a r v : Int) (w : World) :
    Calls Tryz.prog 91 #[.agg #[.int .i64 k, .int .i64 o, .int .i64 c, .int .i64 a, .int .i64 r, .int .i64 v]] w fun e w' =>
      e = .returned (.tuple #[.int .i64 (if namesB k o c a r v then o else 0), .bool (namesB k o c a r v)]) ∧ Below w.heap.size w w' := by
  unfold namesB
  cases hB : ofB k o c a r v <;> cases hO : oidB k
  all_goals
    go_enter Tryz.func91, Tryz.ntmps91
    go_wp2_with (go_at_call 130; refine (of_any _ _ _ _ _ _ _).mono ?_; rintro e w1 ⟨rfl, hb⟩; obtain ⟨hc, hf⟩ := bcell hb; have hz : w.heap.size < w1.heap.size := (by have := hb.size; simp at this; omega))
    go_ret2
    exact ⟨rfl, (((Below.refl _ _).alloc (Nat.le_refl _) _).trans (hb.mono (by simp))).alloc (by have := hb.size; simp at this; omega) _⟩

end Go.Proofs.YtdpniceapmikpaaGreat
namespace Go.Proofs.YtdpniceapmikpaaGreat
open Go.RowKit

theorem results_tmp4 {fn : Func} {t u v x : Tmp} (h : fn.results = #[.tmp t, .tmp u, .tmp v, .tmp x]) (tmps : Array Value) (P : Program) (w : World) :
    (results fn tmps).run P w = .ok (.tuple #[tmps.getD t undef, tmps.getD u undef, tmps.getD v undef, tmps.getD x undef]) w := by simp [results, h]

set_option maxHeartbeats 400000 in
theorem names4_any (k : Int) (w : World) :
    Calls Tryz.prog 131 #[.int .i64 k] w fun e w' =>
      e = .returned (.tuple #[.bool (oidB k), .bool (rightsB k), .bool (callB k), .bool (valueB k)]) ∧ w = w' := by
  go_enter Tryz.func131, Tryz.ntmps131
  go_wp2
  all_goals refine bodyPost_ret (results_tmp4 rfl _ _ _) rfl ?_
  all_goals refine ⟨?_, rfl⟩
  all_goals go_light
  all_goals (simp [oidB, rightsB, callB, valueB, *] <;> omega)

end Go.Proofs.YtdpniceapmikpaaGreat
namespace Go.Proofs.YtdpniceapmikpaaGreat
open Go.RowKit

def most0 (k : Int) : Int := if rightsB k then 7 else 0
def t1B (k r v : Int) : Bool := decide (k < 0) || decide (10 < k) || decide (r < 0) || decide (mostOf k < r) || (!valueB k && !(v == 0))
def t2B (k o c : Int) : Bool := (oidB k && (decide (o < 0) || decide (64 ≤ o) || decide (c < 0) || decide (4294967295 < c))) || (!oidB k && (!(o == 0) || !(c == 0)))
def t3B (k a : Int) : Bool := (callB k && (decide (a < 0) || decide (4294967295 < a))) || (!callB k && !(a == 0))

set_option maxRecDepth 100000 in
set_option maxHeartbeats 1000000 in
theorem rcheck_raw0 (k o c a r v : Int) (w : World) (ho : o ≠ 0) :
    Calls Tryz.prog 93 #[.agg #[.int .i64 k, .int .i64 o, .int .i64 c, .int .i64 a, .int .i64 r, .int .i64 v]] w fun e w' =>
      e = .returned (.int .i64 (if t1B k r v then 2 else if t2B k o c then 2 else if t3B k a then 2 else 0)) ∧ Below w.heap.size w w' := by
  go_enter Tryz.func93, Tryz.ntmps93
  go_wp2_with fail
  refine (names4_any _ _).mono ?_; rintro e w1 ⟨rfl, rfl⟩
  go_upto_if 18 with fail
  go_cut [4, 5, 6, 7, 8] (fun s4 s5 s6 s7 s8 wx => s4 = .bool (oidB k) ∧ s5 = .bool (rightsB k) ∧ s6 = .bool (callB k) ∧ s7 = .bool (valueB k) ∧ s8 = .int .i64 (most0 k) ∧ wx = w.alloc (.cells (keyV k o c a r v) 58))
  case first =>
    cases hR : rightsB k
    all_goals
      go_wp2_with fail
      go_meet
      refine ⟨?_, ?_, ?_, ?_, ?_, rfl⟩
      all_goals go_light
      all_goals simp [most0, *]
  case rest =>
    obtain ⟨rfl, rfl, rfl, rfl, rfl, rfl⟩ := hcut
    go_upto_if 20 with fail
    go_cut [4, 5, 6, 7, 8] (fun s4 s5 s6 s7 s8 wx => s4 = .bool (oidB k) ∧ s5 = .bool (rightsB k) ∧ s6 = .bool (callB k) ∧ s7 = .bool (valueB k) ∧ s8 = .int .i64 (mostOf k) ∧ wx = w.alloc (.cells (keyV k o c a r v) 58))
    case first =>
      cases h3 : (k == 3)
      all_goals
        go_wp2_with fail
        go_meet
        refine ⟨rfl, rfl, rfl, rfl, ?_, rfl⟩
        go_light
        cases h2 : (k == 2)
        all_goals simp at h3 h2
        all_goals first | omega | simp [mostOf, most0, rightsB, h2, h3]
    case rest =>
      obtain ⟨rfl, rfl, rfl, rfl, rfl, rfl⟩ := hcut
      go_upto_region 8 with fail
      go_cut [4, 5, 6, 7, 46] (fun s4 s5 s6 s7 s wx => s4 = .bool (oidB k) ∧ s5 = .bool (rightsB k) ∧ s6 = .bool (callB k) ∧ s7 = .bool (valueB k) ∧ s = .bool (t1B k r v) ∧ wx = w.alloc (.cells (keyV k o c a r v) 58))
      case first =>
        cases hV : valueB k
        all_goals go_wp2_with fail
        all_goals go_meet
        all_goals refine ⟨?_, ?_, ?_, ?_, ?_, rfl⟩
        all_goals go_light
        all_goals simp [t1B, bne, *]
      case rest =>
        obtain ⟨rfl, rfl, rfl, rfl, rfl, rfl⟩ := hcut
        cases h1 : t1B k r v
        · go_upto_region 10 with fail
          go_cut [4, 5, 6, 7, 81] (fun s4 s5 s6 s7 s wx => s4 = .bool (oidB k) ∧ s5 = .bool (rightsB k) ∧ s6 = .bool (callB k) ∧ s7 = .bool (valueB k) ∧ s = .bool (t2B k o c) ∧ wx = w.alloc (.cells (keyV k o c a r v) 58))
          case first =>
            cases hO : oidB k
            all_goals go_wp2_with fail
            all_goals go_meet
            all_goals refine ⟨?_, ?_, ?_, ?_, ?_, rfl⟩
            all_goals go_light
            all_goals simp [t2B, *]
          case rest =>
            obtain ⟨rfl, rfl, rfl, rfl, rfl, rfl⟩ := hcut
            cases h2 : t2B k o c
            · go_upto_region 12 with fail
              go_cut [4, 5, 6, 7, 101] (fun s4 s5 s6 s7 s wx => s4 = .bool (oidB k) ∧ s5 = .bool (rightsB k) ∧ s6 = .bool (callB k) ∧ s7 = .bool (valueB k) ∧ s = .bool (t3B k a) ∧ wx = w.alloc (.cells (keyV k o c a r v) 58))
              case first =>
                cases hC : callB k
                all_goals go_wp2_with fail
                all_goals go_meet
                all_goals refine ⟨?_, ?_, ?_, ?_, ?_, rfl⟩
                all_goals go_light
                all_goals simp [t3B, bne, *]
              case rest =>
                obtain ⟨rfl, rfl, rfl, rfl, rfl, rfl⟩ := hcut
                cases h3 : t3B k a
                all_goals go_wp2_with fail
                all_goals go_ret
                all_goals exact ⟨rfl, (Below.refl _ _).alloc (Nat.le_refl _) _⟩
            · go_wp2_with fail
              all_goals go_ret
              all_goals exact ⟨rfl, (Below.refl _ _).alloc (Nat.le_refl _) _⟩
        · go_wp2_with fail
          go_ret
          exact ⟨rfl, (Below.refl _ _).alloc (Nat.le_refl _) _⟩

set_option maxRecDepth 100000 in
set_option maxHeartbeats 1000000 in
theorem rcheck_raw1 (k c a r v : Int) (w : World) :
    Calls Tryz.prog 93 #[.agg #[.int .i64 k, .int .i64 0, .int .i64 c, .int .i64 a, .int .i64 r, .int .i64 v]] w fun e w' =>
      e = .returned (.int .i64 (if t1B k r v then 2 else if t2B k 0 c then 2 else if t3B k a then 2 else 0)) ∧ Below w.heap.size w w' := by
  go_enter Tryz.func93, Tryz.ntmps93
  go_wp2_with fail
  refine (names4_any _ _).mono ?_; rintro e w1 ⟨rfl, rfl⟩
  go_upto_if 18 with fail
  go_cut [4, 5, 6, 7, 8] (fun s4 s5 s6 s7 s8 wx => s4 = .bool (oidB k) ∧ s5 = .bool (rightsB k) ∧ s6 = .bool (callB k) ∧ s7 = .bool (valueB k) ∧ s8 = .int .i64 (most0 k) ∧ wx = w.alloc (.cells (keyV k 0 c a r v) 58))
  case first =>
    cases hR : rightsB k
    all_goals
      go_wp2_with fail
      go_meet
      refine ⟨?_, ?_, ?_, ?_, ?_, rfl⟩
      all_goals go_light
      all_goals simp [most0, *]
  case rest =>
    obtain ⟨rfl, rfl, rfl, rfl, rfl, rfl⟩ := hcut
    go_upto_if 20 with fail
    go_cut [4, 5, 6, 7, 8] (fun s4 s5 s6 s7 s8 wx => s4 = .bool (oidB k) ∧ s5 = .bool (rightsB k) ∧ s6 = .bool (callB k) ∧ s7 = .bool (valueB k) ∧ s8 = .int .i64 (mostOf k) ∧ wx = w.alloc (.cells (keyV k 0 c a r v) 58))
    case first =>
      cases h3 : (k == 3)
      all_goals
        go_wp2_with fail
        go_meet
        refine ⟨rfl, rfl, rfl, rfl, ?_, rfl⟩
        go_light
        cases h2 : (k == 2)
        all_goals simp at h3 h2
        all_goals first | omega | simp [mostOf, most0, rightsB, h2, h3]
    case rest =>
      obtain ⟨rfl, rfl, rfl, rfl, rfl, rfl⟩ := hcut
      go_upto_region 8 with fail
      go_cut [4, 5, 6, 7, 46] (fun s4 s5 s6 s7 s wx => s4 = .bool (oidB k) ∧ s5 = .bool (rightsB k) ∧ s6 = .bool (callB k) ∧ s7 = .bool (valueB k) ∧ s = .bool (t1B k r v) ∧ wx = w.alloc (.cells (keyV k 0 c a r v) 58))
      case first =>
        cases hV : valueB k
        all_goals go_wp2_with fail
        all_goals go_meet
        all_goals refine ⟨?_, ?_, ?_, ?_, ?_, rfl⟩
        all_goals go_light
        all_goals simp [t1B, bne, *]
      case rest =>
        obtain ⟨rfl, rfl, rfl, rfl, rfl, rfl⟩ := hcut
        cases h1 : t1B k r v
        · go_upto_region 10 with fail
          go_cut [4, 5, 6, 7, 81] (fun s4 s5 s6 s7 s wx => s4 = .bool (oidB k) ∧ s5 = .bool (rightsB k) ∧ s6 = .bool (callB k) ∧ s7 = .bool (valueB k) ∧ s = .bool (t2B k 0 c) ∧ wx = w.alloc (.cells (keyV k 0 c a r v) 58))
          case first =>
            cases hO : oidB k
            all_goals go_wp2_with fail
            all_goals go_meet
            all_goals refine ⟨?_, ?_, ?_, ?_, ?_, rfl⟩
            all_goals go_light
            all_goals simp [t2B, bne, *]
          case rest =>
            obtain ⟨rfl, rfl, rfl, rfl, rfl, rfl⟩ := hcut
            cases h2 : t2B k 0 c
            · go_upto_region 12 with fail
              go_cut [4, 5, 6, 7, 101] (fun s4 s5 s6 s7 s wx => s4 = .bool (oidB k) ∧ s5 = .bool (rightsB k) ∧ s6 = .bool (callB k) ∧ s7 = .bool (valueB k) ∧ s = .bool (t3B k a) ∧ wx = w.alloc (.cells (keyV k 0 c a r v) 58))
              case first =>
                cases hC : callB k
                all_goals go_wp2_with fail
                all_goals go_meet
                all_goals refine ⟨?_, ?_, ?_, ?_, ?_, rfl⟩
                all_goals go_light
                all_goals simp [t3B, bne, *]
              case rest =>
                obtain ⟨rfl, rfl, rfl, rfl, rfl, rfl⟩ := hcut
                cases h3 : t3B k a
                all_goals go_wp2_with fail
                all_goals go_ret
                all_goals exact ⟨rfl, (Below.refl _ _).alloc (Nat.le_refl _) _⟩
            · go_wp2_with fail
              all_goals go_ret
              all_goals exact ⟨rfl, (Below.refl _ _).alloc (Nat.le_refl _) _⟩
        · go_wp2_with fail
          go_ret
          exact ⟨rfl, (Below.refl _ _).alloc (Nat.le_refl _) _⟩

theorem rcheck_raw (k o c a r v : Int) (w : World) :
    Calls Tryz.prog 93 #[.agg #[.int .i64 k, .int .i64 o, .int .i64 c, .int .i64 a, .int .i64 r, .int .i64 v]] w fun e w' =>
      e = .returned (.int .i64 (if t1B k r v then 2 else if t2B k o c then 2 else if t3B k a then 2 else 0)) ∧ Below w.heap.size w w' := by
  by_cases ho : o = 0
  · subst ho; exact rcheck_raw1 k c a r v w
  · exact rcheck_raw0 k o c a r v w ho

end Go.Proofs.YtdpniceapmikpaaGreat
namespace Go.Proofs.YtdpniceapmikpaaGreat
open Go.RowKit

theorem ofInt_i64 (a : Nat) (ha : a < 9223372036854775808) : (BitVec.ofInt 64 (a : Int)).toNat = a := by
  rw [BitVec.ofInt_natCast, BitVec.toNat_ofNat]; exact Nat.mod_eq_of_lt (by omega)
theorem wrap_small (n : Nat) (h : n < 9223372036854775808) : IntKind.i64.wrap (n : Int) = (n : Int) := by
  rw [IntKind.wrap_i64]; omega
theorem and_nat (a b : Nat) (ha : a < 9223372036854775808) (hb : b < 9223372036854775808) : bits .and .i64 (a : Int) (b : Int) = ((a &&& b : Nat) : Int) := by
  have hx : a &&& b < 2 ^ 63 := Nat.and_lt_two_pow _ (by omega)
  show IntKind.i64.wrap ((BitVec.ofInt 64 (a : Int) &&& BitVec.ofInt 64 (b : Int)).toNat : Int) = _
  rw [BitVec.toNat_and, ofInt_i64 a ha, ofInt_i64 b hb]
  exact wrap_small _ (by omega)
theorem or_nat (a b : Nat) (ha : a < 9223372036854775808) (hb : b < 9223372036854775808) : bits .or .i64 (a : Int) (b : Int) = ((a ||| b : Nat) : Int) := by
  have hx : a ||| b < 2 ^ 63 := Nat.or_lt_two_pow (by omega) (by omega)
  show IntKind.i64.wrap ((BitVec.ofInt 64 (a : Int) ||| BitVec.ofInt 64 (b : Int)).toNat : Int) = _
  rw [BitVec.toNat_or, ofInt_i64 a ha, ofInt_i64 b hb]
  exact wrap_small _ (by omega)
theorem andNot_nat (a b : Nat) (ha : a < 9223372036854775808) (hb : b < 9223372036854775808) : bits .andNot .i64 (a : Int) (b : Int) = ((a &&& (2 ^ 64 - (b + 1)) : Nat) : Int) := by
  have hx : a &&& (2 ^ 64 - (b + 1)) ≤ a := Nat.and_le_left
  show IntKind.i64.wrap ((BitVec.ofInt 64 (a : Int) &&& ~~~BitVec.ofInt 64 (b : Int)).toNat : Int) = _
  rw [BitVec.toNat_and, BitVec.toNat_not, ofInt_i64 a ha, ofInt_i64 b hb]
  have e : 2 ^ 64 - 1 - b = 2 ^ 64 - (b + 1) := by omega
  rw [e]
  exact wrap_small _ (by omega)
theorem and_not_zero (a b : Nat) (ha : a < 2 ^ 64) (hb : b < 2 ^ 64) : a &&& (2 ^ 64 - (b + 1)) = 0 ↔ a &&& b = a := by
  constructor
  · intro h
    apply Nat.eq_of_testBit_eq
    intro i
    have h1 : (a &&& (2 ^ 64 - (b + 1))).testBit i = false := by rw [h]; simp
    rw [Nat.testBit_and, Nat.testBit_two_pow_sub_succ hb] at h1
    rw [Nat.testBit_and]
    cases h2 : a.testBit i
    · rfl
    · rw [h2] at h1
      have hi : i < 64 := by
        rcases Nat.lt_or_ge i 64 with h3 | h3
        · exact h3
        · rw [Nat.testBit_lt_two_pow (Nat.lt_of_lt_of_le ha (Nat.pow_le_pow_right (by omega) h3))] at h2; cases h2
      simpa [hi] using h1
  · intro h
    apply Nat.eq_of_testBit_eq
    intro i
    rw [Nat.testBit_and, Nat.testBit_two_pow_sub_succ hb, Nat.zero_testBit]
    have h1 : (a &&& b).testBit i = a.testBit i := by rw [h]
    rw [Nat.testBit_and] at h1
    cases h2 : a.testBit i
    · rfl
    · rw [h2] at h1
      simp at h1
      simp [h1]
theorem andNot_sub (a b : Int) (ha : 0 ≤ a) (ha1 : a < 9223372036854775808) (hb : 0 ≤ b) (hb1 : b < 9223372036854775808) : (bits .andNot .i64 a b = 0) ↔ a.toNat &&& b.toNat = a.toNat := by
  obtain ⟨A, rfl⟩ := Int.eq_ofNat_of_zero_le ha
  obtain ⟨B, rfl⟩ := Int.eq_ofNat_of_zero_le hb
  rw [andNot_nat A B (by omega) (by omega)]
  simp only [Int.toNat_natCast]
  rw [← and_not_zero A B (by omega) (by omega)]
  omega
theorem andNot_7 (a : Int) (ha : 0 ≤ a) (ha1 : a < 9223372036854775808) : (bits .andNot .i64 a 7 = 0) ↔ a ≤ 7 := by
  rw [andNot_sub a 7 ha ha1 (by omega) (by omega)]
  have e : a.toNat &&& (7 : Int).toNat = a.toNat % 8 := Nat.and_two_pow_sub_one_eq_mod a.toNat 3
  rw [e]; omega
theorem andNot_1 (a : Int) (ha : 0 ≤ a) (ha1 : a < 9223372036854775808) : (bits .andNot .i64 a 1 = 0) ↔ a ≤ 1 := by
  rw [andNot_sub a 1 ha ha1 (by omega) (by omega)]
  have e : a.toNat &&& (1 : Int).toNat = a.toNat % 2 := Nat.and_two_pow_sub_one_eq_mod a.toNat 1
  rw [e]; omega
theorem andNot_0 (a : Int) (ha : 0 ≤ a) (ha1 : a < 9223372036854775808) : (bits .andNot .i64 a 0 = 0) ↔ a ≤ 0 := by
  rw [andNot_sub a 0 ha ha1 (by omega) (by omega)]
  have e : a.toNat &&& (0 : Int).toNat = 0 := Nat.and_zero _
  rw [e]; omega
theorem andNot_most (k r : Int) (ha : 0 ≤ r) (ha1 : r < 9223372036854775808) : (bits .andNot .i64 r (mostOf k) = 0) ↔ r ≤ mostOf k := by
  unfold mostOf
  split
  · exact andNot_7 r ha ha1
  · split
    · exact andNot_1 r ha ha1
    · exact andNot_0 r ha ha1

/-- what the reference tells of a key is what the program tells -/
theorem check_same (k o c a r v : Int) (hr : r < 9223372036854775808) :
    (if t1B k r v then (2 : Int) else if t2B k o c then 2 else if t3B k a then 2 else 0) = errB (ofB k o c a r v) := by
  have key : ofB k o c a r v = (!t1B k r v && !t2B k o c && !t3B k a) := by
    by_cases h0 : 0 ≤ r
    · have hm : (bits .andNot .i64 r (mostOf k) == 0) = decide (r ≤ mostOf k) := by
        rw [Bool.eq_iff_iff]; simpa using andNot_most k r h0 hr
      unfold ofB t1B t2B t3B withinB
      rw [hm]
      generalize mostOf k = m
      cases oidB k <;> cases callB k <;> cases valueB k <;> (rw [Bool.eq_iff_iff]; simp; omega)
    · unfold ofB t1B
      rw [decide_eq_false h0, decide_eq_true (by omega : r < 0)]
      simp
  rw [key]
  cases t1B k r v <;> cases t2B k o c <;> cases t3B k a <;> rfl

theorem rcheck_any (k o c a r v : Int) (w : World) (hr : r < 9223372036854775808) :
    Calls Tryz.prog 93 #[.agg #[.int .i64 k, .int .i64 o, .int .i64 c, .int .i64 a, .int .i64 r, .int .i64 v]] w fun e w' =>
      e = .returned (.int .i64 (errB (ofB k o c a r v))) ∧ Below w.heap.size w w' := by
  rw [← check_same k o c a r v hr]
  exact rcheck_raw k o c a r v w

end Go.Proofs.YtdpniceapmikpaaGreat
namespace Go.Proofs.YtdpniceapmikpaaGreat
open Go.RowKit

theorem rights_bd {k o c a r v : Int} (h : ofB k o c a r v = true) (hr : r < 9223372036854775808) : 0 ≤ r ∧ r ≤ mostOf k := by
  unfold ofB at h
  simp only [Bool.and_eq_true, decide_eq_true_eq, beq_iff_eq] at h
  obtain ⟨⟨⟨_, h1⟩, h2⟩, _⟩ := h
  exact ⟨h1, (andNot_most k r h1 hr).1 h2⟩

theorem names_nonneg {k o c a r v : Int} (h : namesB k o c a r v = true) : 0 ≤ o := by
  unfold namesB ofB withinB at h
  rw [Bool.and_eq_true] at h
  obtain ⟨h1, h2⟩ := h
  rw [h2] at h1
  simp at h1
  omega

set_option maxHeartbeats 400000 in
theorem rnames_any (k o c a r v : Int) (w : World) (hr : r < 9223372036854775808) :
    Calls Tryz.prog 94 #[.agg #[.int .i64 k, .int .i64 o, .int .i64 c, .int .i64 a, .int .i64 r, .int .i64 v]] w fun e w' =>
      e = .returned (.int .i64 (if namesB k o c a r v then o else -1)) ∧ Below w.heap.size w w' := by
  have hc := fun W => rcheck_any k o c a r v W hr
  unfold namesB
  have HC := Lib.hid hc
  clear hc hr
  cases hB : ofB k o c a r v <;> cases hO : oidB k
  all_goals
    go_enter Tryz.func94, Tryz.ntmps94
    go_wp2_with fail
    refine (names4_any _ _).mono ?_; rintro e w1 ⟨rfl, rfl⟩
    go_wp2_with fail
    refine (HC.out _).mono ?_; rintro e w1 ⟨rfl, hb⟩
    have K1 : Blk w1 w.heap.size 58 (keyV k o c a r v) := (Blk.new w _ _).below hb (by simp)
    have k1 := K1.cell_is 1 rfl
    have hbb : Below w.heap.size w w1 := ((Below.refl _ _).alloc (Nat.le_refl _) _).trans (hb.mono (by simp))
    clear hb K1
    rw [hB]
    have he : errB true = 0 := rfl
    have he2 : errB false = 2 := rfl
    go_wp2_with fail
    go_ret
    exact ⟨rfl, hbb⟩

end Go.Proofs.YtdpniceapmikpaaGreat
namespace Go.Proofs.YtdpniceapmikpaaGreat
open Go.RowKit

def slotsZ : List KeyD := List.replicate 16 keyZ
def bytesZ : List UInt8 := List.replicate 64 0
def slots0 (o : ObjD) : Bool := keysEq o.slots slotsZ
def bytes0 (o : ObjD) : Bool := o.bytes == bytesZ
def bareB (o : ObjD) (b : Bool) : Bool := slots0 o && ((b || bytes0 o) && (o.cl == 0))
theorem zeroV_slots (w : World) : (zeroValue 59).run Tryz.prog w = .ok (.agg (slotCells slotsZ).toArray) w := by kernel_rfl
theorem zeroV_page (w : World) : (zeroValue 60).run Tryz.prog w = .ok (.agg (bytesZ.map vu8).toArray) w := by kernel_rfl
theorem obj_range {W : World} {g : Nat} {o : ObjD} {cs : Array Value} (hb : Blk W g 62 cs) (hc : cs = o.cells.toArray) : ∀ i, W.cell? ⟨g, i, none⟩ = o.cells[i]? := by
  intro i
  rw [hb.cell i, hc]; simp
theorem load_slots {W : World} {g : Nat} {o : ObjD} {cs : Array Value} (ho : o.ok) (hb : Blk W g 62 cs) (hc : cs = o.cells.toArray) :
    (loadVar 59 ⟨g, 3, none⟩).run Tryz.prog W = .ok (.agg (slotCells o.slots).toArray) W := by
  refine run_loadVar_mid W g 3 _ (slotCells o.slots) _ ?_ Tryz.underlying59 rfl (by rw [slotCells_len, ho.1]; exact info_slots)
  intro j v hv
  rw [obj_range hb hc (3 + j)]
  have hj : j < 96 := by
    rcases Nat.lt_or_ge j 96 with h | h
    · exact h
    · rw [List.getElem?_eq_none (by rw [slotCells_len, ho.1]; omega)] at hv; cases hv
  unfold ObjD.cells
  rw [List.getElem?_append_right (by simp), List.getElem?_append_left (by rw [slotCells_len, ho.1]; simp; omega)]
  simpa [Nat.add_comm 3 j] using hv
theorem load_page {W : World} {g : Nat} {o : ObjD} {cs : Array Value} (ho : o.ok) (hb : Blk W g 62 cs) (hc : cs = o.cells.toArray) :
    (loadVar 60 ⟨g, 99, none⟩).run Tryz.prog W = .ok (.agg (o.bytes.map vu8).toArray) W := by
  refine run_loadVar_mid W g 99 _ (o.bytes.map vu8) _ ?_ Tryz.underlying60 rfl (by rw [List.length_map, ho.2]; exact info_page)
  intro j v hv
  rw [obj_range hb hc (99 + j)]
  unfold ObjD.cells
  rw [← List.append_assoc, List.getElem?_append_right (by rw [List.length_append, slotCells_len, ho.1]; simp)]
  rw [List.length_append, slotCells_len, ho.1]
  simpa [Nat.add_comm 99 j] using hv

set_option maxHeartbeats 1000000 in
section
variable {P : Program} {ops : Array Oper} {rest : List Oper} {o : Oper} {a : Act} {w : World} {Q : Exit → Act → World → Prop}
theorem wpList_load_midG (hw : Region.wanted o (yielded ops a.tmps) = true) (ty : TypeId) (x : Operand) (ho : o.op = .load ty x)
    (b off : Nat) (hx : a.eval x = .pointer (some ⟨b, off, none⟩)) (cs : Array Value) (hr : (loadVar ty ⟨b, off, none⟩).run P w = .ok (.agg cs) w)
    (h : wpList P ops Q rest (a.put o.dst (.agg cs)) w) : wpList P ops Q (o :: rest) a w :=
  wpList_step fun K hK => by
    simp only [hw, if_true]
    unfold Oper.wp execOp
    simp only [ho, hx, Instr.loadAt, Instr.sureAddr, Sem.run_bind, Sem.run_pure, Result.andThen_ok, hr]
    exact hK _ _ h
theorem wpList_build_isG (hw : Region.wanted o (yielded ops a.tmps) = true) (t : TypeId) (parts : Array (Nat × Operand)) (ho : o.op = .build t parts)
    (cells : Array Value) (hf : P.built t (parts.map fun (i, x) => (i, a.eval x)).toList = some cells)
    (h : wpList P ops Q rest (a.put o.dst (.agg cells)) w) : wpList P ops Q (o :: rest) a w :=
  wpList_step fun K hK => by
    simp only [hw, if_true]
    exact wp_build t parts ho (by rw [hf]; rfl) (by rw [hf]; exact hK _ _ h)
theorem wpList_eql_agg (hw : Region.wanted o (yielded ops a.tmps) = true) (t t' : TypeId) (x y : Operand) (ho : o.op = .binOp .eql t x y t') (xs ys : Array Value) (hx : a.eval x = .agg xs) (hy : a.eval y = .agg ys)
    (hm : P.eqGuardType P.depth t = false) (b : Bool) (he : (Op.equalIn 10000 t (.agg xs) (.agg ys)).run P w = .ok b w)
    (h : wpList P ops Q rest (a.put o.dst (.bool b)) w) : wpList P ops Q (o :: rest) a w :=
  wpList_step fun K hK => by
    simp only [hw, if_true]
    unfold Oper.wp execOp
    simp only [ho, hx, hy, Sem.run_bind, run_eqGuard_agg _ _ _ _ _ _ _ hm, run_eql_struct, he, Sem.run_pure, Result.andThen_ok]
    exact hK _ _ h
end

set_option maxRecDepth 100000 in
set_option maxHeartbeats 1000000 in
theorem bare_any (o : ObjD) (ho : o.ok) (b : Bool) (w : World) : Calls Tryz.prog 90 #[.agg o.cells.toArray, .bool b] w fun e w' => e = .returned (.bool (bareB o b)) ∧ Below w.heap.size w w' := by
  obtain ⟨cs, hc⟩ : ∃ cs, cs = o.cells.toArray := ⟨_, rfl⟩
  rw [← hc]
  have K := Blk.new w 62 cs
  have c2 : (w.alloc (.cells cs 62)).cell? ⟨w.heap.size, 2, none⟩ = some (.int .i64 o.cl) := (obj_range K hc 2).trans rfl
  have l1 := Lib.hid (load_slots ho K hc)
  have l2 := Lib.hid (load_page ho K hc)
  have zc1 : Tryz.zeroCells59 = (slotCells slotsZ).toArray := by kernel_rfl
  have e1 : (Op.equalIn 10000 59 (.agg (slotCells o.slots).toArray) (.agg Tryz.zeroCells59)).run Tryz.prog (w.alloc (.cells cs 62)) = .ok (slots0 o) (w.alloc (.cells cs 62)) := by
    rw [zc1]; exact slots_equalIn 9997 _ _ ho.1 rfl _
  have E2 := Lib.hid (bytes_equalIn 9998 o.bytes bytesZ ho.2 rfl (w.alloc (.cells cs 62)))
  unfold bareB
  clear K hc ho zc1
  generalize slots0 o = b1 at *
  have hb2 : (o.bytes == bytesZ) = bytes0 o := rfl
  rw [hb2] at E2
  clear hb2
  generalize bytes0 o = b2 at *
  generalize (slotCells o.slots).toArray = S at *
  generalize (o.bytes.map vu8).toArray = B at *
  cases b1 <;> cases b <;> cases b2
  all_goals
    go_enter Tryz.func90, Tryz.ntmps90
    go_wp2_with (first
      | (refine wpList_load_midG rfl 59 _ rfl w.heap.size 3 rfl S l1.out ?_)
      | (refine wpList_load_midG rfl 60 _ rfl w.heap.size 99 rfl B l2.out ?_)
      | (refine wpList_eql_agg rfl 60 _ _ _ rfl B (bytesZ.map vu8).toArray rfl (by kernel_rfl) (by kernel_rfl) _ E2.out ?_))
    go_ret
    exact ⟨rfl, (Below.refl _ _).alloc (Nat.le_refl _) _⟩
end Go.Proofs.YtdpniceapmikpaaGreat
