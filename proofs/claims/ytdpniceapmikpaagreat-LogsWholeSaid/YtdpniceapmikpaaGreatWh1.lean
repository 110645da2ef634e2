/-
  Words for memory: a block that is known whole, and what the walk asks of it; for all worlds.
  The moves of a drawn region in few words.
  A sum by half bytes is the sum bit by bit, for all bytes; plain laws, no program in sight.
  Operations on uint32, uint64 and bytes as operations on BitVec; plain laws on the model's bits.
  Words for slices of bytes that are read.
  Keys and objects as data; when two of them are the same, as the program compares them.
  keys.kinds answers the fixed table of the eleven kinds of keys; without conditions.
-/
import Derived.Test.YtdpniceapmikpaaGreatRows
import Derived.WalkKit
import Derived.WalkSpells
import Derived.WalkLawsBesides
import Derived.Deep.RegionWith
import Derived.Deep.WholeRow
import Derived.Deep.DeepCutAuto
import Derived.Deep.Draws
import Derived.Laws.OwnMore
import Derived.Laws.Rows
import Derived.Lib.Hide
import Derived.Deep.Light
import Derived.Deep.RegionHeld3
import Derived.Laws.BitsAllLaws
import Derived.Laws.BitsLemmas
import Derived.ChangeKeysEq
import Derived.Stop.BytesEq
set_option linter.unusedVariables false
set_option linter.unusedSimpArgs false
namespace Go.Proofs.YtdpniceapmikpaaGreat
open Go.RowKit

/-- block g is just these cells, none of them frozen -/
def Blk (w : World) (g : Nat) (t : TypeId) (cs : Array Value) : Prop := w.heap[g]? = some (.cells cs t (0, 0))

section
variable {w w' : World} {g : Nat} {t : TypeId} {cs : Array Value}
theorem Blk.lt (h : Blk w g t cs) : g < w.heap.size := by
 rcases Nat.lt_or_ge g w.heap.size with hlt | hge
 ·exact hlt
 ·unfold Blk at h; rw [Array.getElem?_eq_none hge] at h; cases h
theorem Blk.cell (h : Blk w g t cs) (i : Nat) : w.cell? ⟨g, i, none⟩ = cs[i]? := cell_of_row w g i cs t (0, 0) h
theorem Blk.cell_is (h : Blk w g t cs) (i : Nat) {v : Value} (hv : cs[i]? = some v) : w.cell? ⟨g, i, none⟩ = some v := (h.cell i).trans hv
theorem Blk.frozen (h : Blk w g t cs) (i : Nat) : w.frozen? ⟨g, i, none⟩ = false := by
 unfold Blk at h
 simp [World.frozen?, h]
theorem Blk.new (w : World) (t : TypeId) (cs : Array Value) : Blk (w.alloc (.cells cs t)) w.heap.size t cs := heap_alloc_new w _
theorem Blk.drew (h : Blk w g t cs) : Blk w.drew g t cs := h
theorem Blk.drewN (h : Blk w g t cs) (n : Nat) : Blk (w.drewN n) g t cs := h
theorem Blk.alloc (h : Blk w g t cs) (o : Obj) : Blk (w.alloc o) g t cs := (Below.heap_alloc w o g h.lt).trans h
theorem Blk.set_ (h : Blk w g t cs) (i : Nat) (u : Value) : Blk (w.setCell ⟨g, i, none⟩ u) g t (cs.setIfInBounds i u) := by
 unfold Blk at h ⊢
 simp [World.setCell, Array.getElem?_modify, h]
theorem Blk.far (h : Blk w g t cs) {p : Addr} (hp : g ≠ p.block) (u : Value) : Blk (w.setCell p u) g t cs := (Below.heap_setCell w p u g hp).trans h
theorem Blk.below {B : Nat} (h : Blk w g t cs) (hb : Below B w w') (hg : g < B) : Blk w' g t cs := (hb.block g hg).trans h
theorem Blk.row (h : Blk w g t cs) (cs' : Array Value) : Blk (w.setRow g cs') g t cs' := setRow_heap w g cs _ t _ h
end
theorem Blk.new2 (w : World) (o : Obj) (t : TypeId) (cs : Array Value) : Blk ((w.alloc o).alloc (.cells cs t)) (w.heap.size + 1) t cs := heap_alloc2_new w _ _
theorem size_alloc (w : World) (o : Obj) : (w.alloc o).heap.size = w.heap.size + 1 := by simp
theorem Blk.new' {w : World} {t : TypeId} {cs : Array Value} {n : Nat} (h : n = w.heap.size) : Blk (w.alloc (.cells cs t)) n t cs := by subst h; exact Blk.new w t cs
theorem below_row {B : Nat} {w w' : World} (h : Below B w w') {g : Nat} (cs : Array Value) (hg : B ≤ g) : Below B w (w'.setRow g cs) :=
 ⟨h.os, h.tape, h.output, by simpa using h.size, fun i hi => (setRow_other w' g i cs (by omega)).trans (h.block i hi)⟩
theorem results_row_tmp {P : Program} {fn : Func} {p u : Tmp} {ty : TypeId} (h : fn.results = #[.cell p ty, .tmp u]) (tmps : Array Value) (w : World) (g : Nat) (t : TypeId) (cs : Array Value) (fr : Nat × Nat) (d : TypeDesc)
  (hp : tmps.getD p undef = .pointer (some ⟨g, 0, none⟩)) (hg : w.heap[g]? = some (.cells cs t fr))
  (hu : P.underlying ty = some d) (hd : (match d with | .struct _ | .array _ _ => true | _ => false) = true) (hi : (P.info? ty).map (·.size) = some cs.size) (v : Value) (hv : tmps.getD u undef = v) :
  (results fn tmps).run P w = .ok (.tuple #[.agg cs, v]) w := by
 have hp' : tmps[p]?.getD undef = .pointer (some ⟨g, 0, none⟩) := by simpa using hp
 have hv' : tmps[u]?.getD undef = v := by simpa using hv
 simp [results, h, hp', hv', asAddr, run_loadVar_row w g t ty cs fr d hg hu hd hi]
end Go.Proofs.YtdpniceapmikpaaGreat
namespace Go.Proofs.YtdpniceapmikpaaGreat
open Go.RowKit

theorem pz0 {α : Type} {l : List α} {i : Nat} (h : i < l.toArray.size) : l.toArray[i] = l[i]'(by simpa using h) := rfl
theorem pz1 {α : Type} (a : α) (r : List α) (i : Nat) (h : i + 1 < (a :: r).length) : (a :: r)[i + 1] = r[i]'(by simpa using h) := rfl
theorem pz2 {α : Type} (a : α) (r : List α) (h : 0 < (a :: r).length) : (a :: r)[0] = a := rfl
theorem pz3 {α : Type} (l : List α) (i : Nat) (a : α) : l.toArray.setIfInBounds i a = (l.set i a).toArray := List.setIfInBounds_toArray l i a
theorem pz4 {α : Type} (a b : α) (l : List α) : (a :: l).set 0 b = b :: l := rfl
theorem pz5 {α : Type} (a : α) (l : List α) (n : Nat) (b : α) : (a :: l).set (n + 1) b = a :: l.set n b := rfl
section
variable {P : Program} {ops : Array Oper} {Q : Exit → Act → World → Prop} {md : Region.Mode} {S : World → Prop} {fuel : Nat} {listed : Array Bool} {a b : Act} {w : World} {oi : Oper} {v : Value}
/-- number i is taken first, its value is known -/
theorem ty (i : Nat) (hi : ops[i]? = some oi) (hy : YieldsIf P ops S oi v a) (h : wpAnyH P md ops Q S fuel (listed.setIfInBounds i true) b w) (hs : Region.noSelect ops = true := by kernel_rfl) (hf : Region.free md ops listed i = true := by kernel_rfl)
  (hr : (Region.ready md ops listed).contains i = true := by kernel_rfl) (hQ : ∀ c a w, Q (.panic c) (a.put oi.dst v) w → Q (.panic c) a w := by exact fun _ _ _ h => h) (hS : S w := by assumption) (hb : a.put oi.dst v = b := by (simp only [Act.put, Array.toArray_toList, pz0, pz1, pz2, pz3, pz4, pz5]; rfl)) : wpAnyH P md ops Q S (fuel + 1) listed a w := by
 subst hb
 exact wpAnyH_take hi hs hf hr hQ hy hS h
/-- .. its value is what the walk finds -/
theorem tk (i : Nat) (h : wpAnyH P md ops Q S fuel (listed.setIfInBounds i true) b w) (hi : ops[i]? = some oi := by rfl) (hs : Region.noSelect ops = true := by kernel_rfl) (hf : Region.free md ops listed i = true := by kernel_rfl)
  (hr : (Region.ready md ops listed).contains i = true := by kernel_rfl) (hQ : ∀ c a w, Q (.panic c) (a.put oi.dst v) w → Q (.panic c) a w := by exact fun _ _ _ h => h) (hw : Region.wanted oi (yielded ops a.tmps) = true := by rfl) (hS : S w := by assumption)
  (hy : ∀ w, S w → (execOp a.eval oi).run P w = .ok (.value v) w := by (intro w hSw; (try dsimp only at hSw); go_simp; try with_reducible rfl)) (hb : a.put oi.dst v = b := by (simp only [Act.put, pz0, pz1, pz2, pz3, pz4, pz5]; rfl)) : wpAnyH P md ops Q S (fuel + 1) listed a w := by
 subst hb
 exact wpAnyH_take hi hs hf hr hQ (Or.inl ⟨hw, hy⟩) hS h
/-- .. it is not wanted -/
theorem tu (i : Nat) (h : wpAnyH P md ops Q S fuel (listed.setIfInBounds i true) b w) (hi : ops[i]? = some oi := by rfl) (hs : Region.noSelect ops = true := by kernel_rfl) (hf : Region.free md ops listed i = true := by kernel_rfl)
  (hr : (Region.ready md ops listed).contains i = true := by kernel_rfl) (hQ : ∀ c a w, Q (.panic c) (a.put oi.dst undef) w → Q (.panic c) a w := by exact fun _ _ _ h => h) (hw : Region.wanted oi (yielded ops a.tmps) = false := by rfl) (hS : S w := by assumption)
  (hb : a.put oi.dst undef = b := by (simp only [Act.put, pz0, pz1, pz2, pz3, pz4, pz5]; rfl)) : wpAnyH P md ops Q S (fuel + 1) listed a w := by
 subst hb
 exact wpAnyH_take hi hs hf hr hQ (Or.inr ⟨hw, rfl⟩) hS h
/-- number i alone comes up -/
theorem rd (i : Nat) (h : ∀ K' : Act → World → Prop, Shut (∀ a w, S w → (S w → wpAnyH P md ops Q S fuel (listed.setIfInBounds i true) a w) → K' a w) → if Region.wanted oi (yielded ops a.tmps) = true then Oper.wp P oi a w K' Q else K' (a.put oi.dst undef) w)
  (ho : ops[i]? = some oi := by rfl) (hr : Region.ready md ops listed = [i] := by kernel_rfl) : wpAnyH P md ops Q S (fuel + 1) listed a w := wpAnyH_ready hr (by simp) (AllReadyH.cons ho h AllReadyH.nil)
end
end Go.Proofs.YtdpniceapmikpaaGreat
namespace Go.Proofs.YtdpniceapmikpaaGreat

/-- one bit -/
def crcBit (n : BitVec 32) : BitVec 32 := (n >>> 1) ^^^ (if n.getLsbD 0 then 0xedb88320#32 else 0#32)
def crcBits : Nat → BitVec 32 → BitVec 32
 | 0, n => n
 | k + 1, n => crcBits k (crcBit n)
theorem crcBits_succ (k : Nat) (n : BitVec 32) : crcBits (k + 1) n = crcBit (crcBits k n) := by
 induction k generalizing n with
 | zero => rfl
 | succ k ih => exact ih (crcBit n)
theorem crcBits_add (j k : Nat) (n : BitVec 32) : crcBits (j + k) n = crcBits k (crcBits j n) := by
 induction j generalizing n with
 | zero => simp [crcBits]
 | succ j ih => rw [Nat.succ_add]; exact ih (crcBit n)
theorem crcBit_xor (a b : BitVec 32) : crcBit (a ^^^ b) = crcBit a ^^^ crcBit b := by
 unfold crcBit
 rw [BitVec.getLsbD_xor, BitVec.ushiftRight_xor_distrib]
 cases a.getLsbD 0 <;> cases b.getLsbD 0 <;> simp
 ·ac_rfl
 ·ac_rfl
 ·rw [show ∀ x y p : BitVec 32, x ^^^ p ^^^ (y ^^^ p) = x ^^^ y ^^^ (p ^^^ p) from fun x y p => by ac_rfl, BitVec.xor_self, BitVec.xor_zero]
theorem crcBits_xor (k : Nat) (a b : BitVec 32) : crcBits k (a ^^^ b) = crcBits k a ^^^ crcBits k b := by
 induction k generalizing a b with
 | zero => rfl
 | succ k ih => simp only [crcBits]; rw [crcBit_xor, ih]

theorem crcBit_even (n : BitVec 32) (h : n.getLsbD 0 = false) : crcBit n = n >>> 1 := by
 unfold crcBit
 rw [h]
 simp
theorem crcBits_even (k : Nat) (n : BitVec 32) (h : ∀ i, i < k → n.getLsbD i = false) : crcBits k n = n >>> k := by
 induction k generalizing n with
 | zero => simp [crcBits]
 | succ k ih =>
  rw [crcBits, crcBit_even n (h 0 (by omega)), ih (n >>> 1) (fun i hi => by
   rw [BitVec.getLsbD_ushiftRight]
   have := h (1 + i) (by omega)
   exact this)]
  rw [BitVec.shiftRight_add n 1 k |>.symm, Nat.add_comm]
theorem crc_split (n : BitVec 32) : (n &&& 15#32) ^^^ (n &&& ~~~(15#32)) = n := by
 apply BitVec.eq_of_getLsbD_eq
 intro i hi
 simp only [BitVec.getLsbD_xor, BitVec.getLsbD_and, BitVec.getLsbD_not, hi, decide_true, Bool.true_and]
 cases n.getLsbD i <;> cases (15#32).getLsbD i <;> rfl
/-- four bits by a table of the sums of half bytes -/
theorem crc_half (n : BitVec 32) : crcBits 4 n = (n >>> 4) ^^^ crcBits 4 (n &&& 15#32) := by
 have h1 : crcBits 4 (n &&& ~~~(15#32)) = n >>> 4 := by
  rw [crcBits_even 4 _ (fun i hi => by
   rw [BitVec.getLsbD_and, BitVec.getLsbD_not]
   have : (15#32).getLsbD i = true := by
    match i, hi with
    | 0, _ => rfl
    | 1, _ => rfl
    | 2, _ => rfl
    | 3, _ => rfl
   rw [this]; simp)]
  apply BitVec.eq_of_getLsbD_eq
  intro i hi
  rw [BitVec.getLsbD_ushiftRight, BitVec.getLsbD_ushiftRight, BitVec.getLsbD_and, BitVec.getLsbD_not]
  by_cases h : 4 + i < 32
  ·have : (15#32).getLsbD (4 + i) = false := by
    rw [BitVec.getLsbD_ofNat]
    rw [Nat.testBit_lt_two_pow (Nat.lt_of_lt_of_le (by decide : 15 < 2 ^ 4) (Nat.pow_le_pow_right (by omega) (by omega)))]
    simp
   rw [this]; simp [h]
  ·rw [BitVec.getLsbD_of_ge n _ (by omega)]; simp
 have h2 := crcBits_xor 4 (n &&& 15#32) (n &&& ~~~(15#32))
 rw [crc_split, h1] at h2
 rw [h2, BitVec.xor_comm]

/-- the sum of bytes, bit by bit, going on -/
def crcByte (n : BitVec 32) (c : UInt8) : BitVec 32 := crcBits 8 (n ^^^ BitVec.ofNat 32 c.toNat)
def crcOn (n : BitVec 32) (l : List UInt8) : BitVec 32 := l.foldl crcByte n
/-- a byte by its two halves -/
theorem crcByte_halves (n : BitVec 32) (c : Nat) (h : c < 256) :
  crcBits 8 (n ^^^ BitVec.ofNat 32 c) = crcBits 4 (crcBits 4 (n ^^^ BitVec.ofNat 32 (c % 16)) ^^^ BitVec.ofNat 32 (c / 16)) := by
 have e : BitVec.ofNat 32 c = BitVec.ofNat 32 (c % 16) ^^^ (BitVec.ofNat 32 (c / 16) <<< 4) := by
  have : ∀ c : Fin 256, BitVec.ofNat 32 c.val = BitVec.ofNat 32 (c.val % 16) ^^^ (BitVec.ofNat 32 (c.val / 16) <<< 4) := by decide +kernel
  exact this ⟨c, h⟩
 have e2 : crcBits 4 (BitVec.ofNat 32 (c / 16) <<< 4) = BitVec.ofNat 32 (c / 16) := by
  have : ∀ c : Fin 16, crcBits 4 (BitVec.ofNat 32 c.val <<< 4) = BitVec.ofNat 32 c.val := by decide +kernel
  exact this ⟨c / 16, by omega⟩
 rw [show (8 : Nat) = 4 + 4 from rfl, crcBits_add, e, ← BitVec.xor_assoc, crcBits_xor 4 _ (BitVec.ofNat 32 (c / 16) <<< 4), e2]

end Go.Proofs.YtdpniceapmikpaaGreat
namespace Go.Proofs.YtdpniceapmikpaaGreat
open Go.RowKit

/-- a number that an int64 holds -/
def I64 (n : Int) : Prop := -9223372036854775808 ≤ n ∧ n ≤ 9223372036854775807
/-- a uint32 -/
abbrev vu32 (x : BitVec 32) : Value := .int .u32 (x.toNat : Int)
theorem wrap_u32 (x : BitVec 32) : IntKind.u32.wrap (x.toNat : Int) = (x.toNat : Int) := by
 have := x.isLt
 rw [IntKind.wrap_u32]; omega
theorem ofInt_u32 (x : BitVec 32) : BitVec.ofInt 32 (x.toNat : Int) = x := by rw [BitVec.ofInt_natCast, BitVec.ofNat_toNat]; simp
theorem xor_u32 (x y : BitVec 32) : bits .xor .u32 (x.toNat : Int) (y.toNat : Int) = ((x ^^^ y).toNat : Int) := by
 show IntKind.u32.wrap ((BitVec.ofInt 32 (x.toNat : Int) ^^^ BitVec.ofInt 32 (y.toNat : Int)).toNat : Int) = _
 rw [ofInt_u32, ofInt_u32]; exact wrap_u32 _
theorem and_u32 (x y : BitVec 32) : bits .and .u32 (x.toNat : Int) (y.toNat : Int) = ((x &&& y).toNat : Int) := by
 show IntKind.u32.wrap ((BitVec.ofInt 32 (x.toNat : Int) &&& BitVec.ofInt 32 (y.toNat : Int)).toNat : Int) = _
 rw [ofInt_u32, ofInt_u32]; exact wrap_u32 _
theorem shr_u32 (x : BitVec 32) (k : Nat) : (x.toNat : Int) / ((2 ^ k : Nat) : Int) = ((x >>> k).toNat : Int) := by
 rw [BitVec.toNat_ushiftRight, Nat.shiftRight_eq_div_pow]; rfl

theorem not_u32 (x : BitVec 32) : bits .xor .u32 IntKind.u32.max (x.toNat : Int) = ((~~~ x).toNat : Int) := by
 have e : (IntKind.u32.max : Int) = ((BitVec.allOnes 32).toNat : Int) := by decide
 rw [e, xor_u32, BitVec.allOnes_xor]

theorem and15_lt (x : BitVec 32) : (x &&& 15#32).toNat < 16 := by
 rw [BitVec.toNat_and]
 exact Nat.lt_of_le_of_lt Nat.and_le_right (by decide)

/-- the program's one bit -/
theorem bit_step (X : BitVec 32) : bits .xor .u32 ((X.toNat : Int) / (2 : Int)) (bits .and .u32 3988292384 (-bits .and .u32 (X.toNat : Int) 1 % 4294967296)) = ((crcBit X).toNat : Int) := by
 have e1 : bits .and .u32 (X.toNat : Int) 1 = ((X &&& 1#32).toNat : Int) := and_u32 X 1#32
 have e2 : (X.toNat : Int) / (2 : Int) = ((X >>> 1).toNat : Int) := shr_u32 X 1
 rw [e1, e2]
 unfold crcBit
 have hb : X &&& 1#32 = if X.getLsbD 0 then 1#32 else 0#32 := by
  apply BitVec.eq_of_getLsbD_eq
  intro i hi
  rw [BitVec.getLsbD_and]
  by_cases h0 : i = 0
  ·subst h0; cases X.getLsbD 0 <;> rfl
  ·have h1 : (1#32).getLsbD i = false := by
    rw [BitVec.getLsbD_one]; simp [h0]
   rw [h1, Bool.and_false]
   cases X.getLsbD 0
   ·simp
   ·simp [h1]
 rw [hb]
 cases X.getLsbD 0
 ·have e3 : bits .and .u32 3988292384 0 = (0#32).toNat := and_u32 0xedb88320#32 0#32
  simp only [Bool.false_eq_true, if_false]
  rw [show (-((0#32 : BitVec 32).toNat : Int) % 4294967296) = 0 from by decide, e3]
  exact xor_u32 _ _
 ·have e3 : bits .and .u32 3988292384 4294967295 = ((0xedb88320#32).toNat : Int) := and_u32 0xedb88320#32 0xffffffff#32
  simp only [if_true]
  rw [show (-((1#32 : BitVec 32).toNat : Int) % 4294967296) = 4294967295 from by decide, e3]
  exact xor_u32 _ _

end Go.Proofs.YtdpniceapmikpaaGreat
namespace Go.Proofs.YtdpniceapmikpaaGreat
open Go.RowKit

/-- a byte -/
abbrev vu8 (c : UInt8) : Value := .int .u8 (c.toNat : Int)
/-- v is a slice that reads as the bytes l, from blocks below B -/
def BytesIn (W : World) (B : Nat) (v : Value) (l : List UInt8) : Prop :=
 l.length ≤ maxLen ∧ ∃ a cap, v = .slice a l.length cap ∧ l.length ≤ cap ∧ ∀ j (c : UInt8), l[j]? = some c → ∃ g off, a = some ⟨g, off, none⟩ ∧ g < B ∧ W.cell? ⟨g, off + j, none⟩ = some (vu8 c)
theorem BytesIn.below {W W' : World} {B C : Nat} {v : Value} {l : List UInt8} (h : BytesIn W B v l) (hb : Below C W W') (hC : B ≤ C) : BytesIn W' B v l := by
 obtain ⟨h1, a, cap, h2, h3, h4⟩ := h
 refine ⟨h1, a, cap, h2, h3, fun j c hc => ?_⟩
 obtain ⟨g, off, e, hg, hr⟩ := h4 j c hc
 exact ⟨g, off, e, hg, (hb.cell (p := ⟨g, off + j, none⟩) (show g < C by omega)).trans hr⟩
theorem BytesIn.mono {W : World} {B C : Nat} {v : Value} {l : List UInt8} (h : BytesIn W B v l) (hC : B ≤ C) : BytesIn W C v l := by
 obtain ⟨h1, a, cap, h2, h3, h4⟩ := h
 refine ⟨h1, a, cap, h2, h3, fun j c hc => ?_⟩
 obtain ⟨g, off, e, hg, hr⟩ := h4 j c hc
 exact ⟨g, off, e, by omega, hr⟩
theorem BytesIn.nil (W : World) (B : Nat) : BytesIn W B (.slice none 0 0) [] := ⟨by simp, none, 0, rfl, by simp, fun j c hc => by simp at hc⟩
/-- an owned row of bytes -/
theorem BytesIn.own {W : World} {B n : Nat} {v : Value} {e : TypeId} {l : List UInt8} (h : W.ownsRow B e 1 v n (l.map vu8)) : BytesIn W W.heap.size v l := by
 have hn : l.length = n := by have := h.1; simpa using this
 subst hn
 obtain ⟨hl, h2⟩ := h
 rcases h2 with ⟨rfl, h0⟩ | ⟨g, cap, cur, rfl, hB, hg, hc, hm, hs, ht⟩
 ·have : l = [] := List.eq_nil_of_length_eq_zero h0
  subst this
  exact BytesIn.nil W _
 ·refine ⟨by omega, _, cap, rfl, hc, fun j c hj => ⟨g, 0, rfl, lt_of_block hg, ?_⟩⟩
  rw [cell_of_row W g (0 + j) cur e (0, 0) hg]
  have h1 : (cur.toList.take (l.length * 1))[j]? = some (vu8 c) := by rw [ht]; simp [hj]
  have hjl : j < l.length := by
   rcases Nat.lt_or_ge j l.length with h | h
   ·exact h
   ·rw [List.getElem?_eq_none h] at hj; cases hj
  rw [List.getElem?_take, if_pos (by omega)] at h1
  simpa using h1
theorem u8_lt (c : UInt8) : c.toNat < 256 := UInt8.toNat_lt c

end Go.Proofs.YtdpniceapmikpaaGreat
namespace Go.Proofs.YtdpniceapmikpaaGreat
open Go.RowKit

/-- a key -/
structure KeyD where
 k : Int
 o : Int
 c : Int
 a : Int
 r : Int
 v : Int
theorem KeyD.ext {x y : KeyD} (h1 : x.k = y.k) (h2 : x.o = y.o) (h3 : x.c = y.c) (h4 : x.a = y.a) (h5 : x.r = y.r) (h6 : x.v = y.v) : x = y := by
 cases x; cases y; simp_all
def KeyD.cells (x : KeyD) : List Value := [.int .i64 x.k, .int .i64 x.o, .int .i64 x.c, .int .i64 x.a, .int .i64 x.r, .int .i64 x.v]
theorem KeyD.cells_len (x : KeyD) : x.cells.length = 6 := rfl
def keyEq (x y : KeyD) : Bool := (x.k == y.k) && ((x.o == y.o) && ((x.c == y.c) && ((x.a == y.a) && ((x.r == y.r) && ((x.v == y.v) && true)))))
theorem keyEq_iff (x y : KeyD) : keyEq x y = true ↔ x = y := by
 unfold keyEq
 simp only [Bool.and_eq_true, beq_iff_eq, Bool.and_true]
 constructor
 ·rintro ⟨h1, h2, h3, h4, h5, h6⟩; exact KeyD.ext h1 h2 h3 h4 h5 h6
 ·rintro rfl; simp
def keyZ : KeyD := ⟨0, 0, 0, 0, 0, 0⟩
def slotCells (l : List KeyD) : List Value := l.flatMap KeyD.cells
theorem slotCells_len (l : List KeyD) : (slotCells l).length = 6 * l.length := by
 induction l with
 | nil => rfl
 | cons x l ih =>
  have : slotCells (x :: l) = x.cells ++ slotCells l := rfl
  rw [this, List.length_append, ih, KeyD.cells_len, List.length_cons]; omega
theorem slotCells_at : ∀ (l : List KeyD) (j : Nat) (x : KeyD), l[j]? = some x → ∀ i, i < 6 → (slotCells l)[j * 6 + i]? = x.cells[i]? := by
 intro l
 induction l with
 | nil => intro j x h; simp at h
 | cons y l ih =>
  intro j x h i hi
  have e : slotCells (y :: l) = y.cells ++ slotCells l := rfl
  rw [e]
  cases j with
  | zero =>
   obtain rfl : y = x := by simpa using h
   rw [Nat.zero_mul, Nat.zero_add, List.getElem?_append_left (by rw [KeyD.cells_len]; exact hi)]
  | succ j =>
   have h' : l[j]? = some x := by simpa using h
   rw [List.getElem?_append_right (by rw [KeyD.cells_len]; omega)]
   have e2 : (j + 1) * 6 + i - y.cells.length = j * 6 + i := by rw [KeyD.cells_len]; omega
   rw [e2]
   exact ih j x h' i hi
theorem slotCells_cut (l : List KeyD) (j : Nat) (x : KeyD) (h : l[j]? = some x) : ((slotCells l).drop (j * 6)).take 6 = x.cells := by
 apply List.ext_getElem?
 intro i
 by_cases hi : i < 6
 ·rw [List.getElem?_take_of_lt hi, List.getElem?_drop, slotCells_at l j x h i hi]
 ·rw [List.getElem?_eq_none (by simp; omega), List.getElem?_eq_none (by rw [KeyD.cells_len]; omega)]

theorem fields_step {P : Program} (w : World) (d : Nat) (f : Field) (fs : List Field) (xs ys : Array Value) {q : IntKind} (hn : f.name ≠ "_") (hp : P.plainKey f.type = true) (hu : P.underlying f.type = some (.int q)) {a b : Int}
  (hx : xs[f.offset]? = some (.int q a)) (hy : ys[f.offset]? = some (.int q b)) {r : Bool} (h : (Op.eqFields (d + 1) xs ys fs).run P w = .ok r w) : (Op.eqFields (d + 1) xs ys (f :: fs)).run P w = .ok ((a == b) && r) w := by
 rw [Op.eqFields, if_pos hn]
 simp only [Sem.run_bind, run_part_plain w hp hx, run_part_plain w hp hy, Result.andThen_ok, run_equalIn_int w d f.type q q a b hu]
 cases hh : (a == b)
 ·simp
 ·simpa using h
theorem fields_agg {P : Program} (w : World) (d : Nat) (f : Field) (fs : List Field) (xs ys : Array Value) (hn : f.name ≠ "_") {a b : Value} (hx : (part f.type xs f.offset).run P w = .ok a w) (hy : (part f.type ys f.offset).run P w = .ok b w) {q : Bool}
  (he : (Op.equalIn d f.type a b).run P w = .ok q w) {r : Bool} (h : (Op.eqFields d xs ys fs).run P w = .ok r w) : (Op.eqFields d xs ys (f :: fs)).run P w = .ok (q && r) w := by
 rw [Op.eqFields, if_pos hn]
 simp only [Sem.run_bind, hx, hy, Result.andThen_ok, he]
 cases q
 ·simp
 ·simpa using h
theorem fields_nil {P : Program} (w : World) (d : Nat) (xs ys : Array Value) : (Op.eqFields d xs ys []).run P w = .ok true w := by simp [Op.eqFields]
set_option maxRecDepth 100000 in
theorem key_equalIn (d : Nat) (x y : KeyD) (w : World) : (Op.equalIn (d + 2) 58 (.agg x.cells.toArray) (.agg y.cells.toArray)).run Tryz.prog w = .ok (keyEq x y) w := by
 rw [run_equalIn_struct w (d + 1) _ _ _ (by kernel_rfl) (by kernel_rfl)]
 simp only [Program.fieldsOf, Tryz.underlying58]
 exact fields_step w d _ _ _ _ (by decide) (by kernel_rfl) Tryz.underlying55 rfl rfl
  (fields_step w d _ _ _ _ (by decide) (by kernel_rfl) Tryz.underlying3 rfl rfl
  (fields_step w d _ _ _ _ (by decide) (by kernel_rfl) Tryz.underlying2 rfl rfl
  (fields_step w d _ _ _ _ (by decide) (by kernel_rfl) Tryz.underlying2 rfl rfl
  (fields_step w d _ _ _ _ (by decide) (by kernel_rfl) Tryz.underlying56 rfl rfl
  (fields_step w d _ _ _ _ (by decide) (by kernel_rfl) Tryz.underlying2 rfl rfl (fields_nil _ _ _ _))))))

/-- a part of a list of keys, and of an object -/
theorem part_agg {P : Program} (w : World) {t : TypeId} {d : TypeDesc} (hu : P.underlying t = some d) (hd : (match d with | .struct _ | .array _ _ => true | _ => false) = true) {n : Nat} (hi : (P.info? t).map (·.size) = some n) (xs : Array Value) (off : Nat) :
  (part t xs off).run P w = .ok (.agg (xs.extract off (off + n))) w := by
 obtain ⟨i, hi', hn⟩ := Option.map_eq_some_iff.1 hi
 cases d <;> simp at hd <;> simp [part, isAgg, run_underlying hu, run_sizeOf w hi', Program.cellsOf, hi', hn]
theorem info_key : (Tryz.prog.info? 58).map (·.size) = some 6 := by kernel_rfl
theorem info_slots : (Tryz.prog.info? 59).map (·.size) = some 96 := by kernel_rfl
theorem info_page : (Tryz.prog.info? 60).map (·.size) = some 64 := by kernel_rfl
theorem cellsOf_key : Tryz.prog.cellsOf 58 = 6 := by kernel_rfl
theorem slots_part (l : List KeyD) (j : Nat) (x : KeyD) (h : l[j]? = some x) (w : World) : (part 58 (slotCells l).toArray (j * 6)).run Tryz.prog w = .ok (.agg x.cells.toArray) w := by
 rw [part_agg w Tryz.underlying58 rfl info_key]
 congr 2
 apply Array.toList_inj.1
 rw [Array.toList_extract]
 simpa [List.extract] using slotCells_cut l j x h
def keysEq : List KeyD → List KeyD → Bool
 | [], [] => true
 | x :: l, y :: m => keyEq x y && keysEq l m
 | _, _ => false
theorem keysEq_iff : ∀ (l m : List KeyD), keysEq l m = true ↔ l = m
 | [], [] => by simp [keysEq]
 | x :: l, y :: m => by simp [keysEq, keyEq_iff, keysEq_iff l m]
 | [], _ :: _ => by simp [keysEq]
 | _ :: _, [] => by simp [keysEq]
theorem items_keys (d : Nat) (w : World) (l m : List KeyD) : ∀ (n j : Nat), (∀ i, j ≤ i → i < j + n → i < l.length ∧ i < m.length) →
  (Op.eqItems (d + 2) 58 6 (slotCells l).toArray (slotCells m).toArray (List.range' j n)).run Tryz.prog w = .ok (keysEq ((l.drop j).take n) ((m.drop j).take n)) w
 | 0, j, _ => by simp [Op.eqItems, keysEq]
 | n + 1, j, h => by
  obtain ⟨h1, h2⟩ := h j (by omega) (by omega)
  have ih := items_keys d w l m n (j + 1) (fun i hi hi2 => h i (by omega) (by omega))
  rw [List.range'_succ, Op.eqItems]
  simp only [Sem.run_bind, slots_part l j _ (List.getElem?_eq_getElem h1) w, slots_part m j _ (List.getElem?_eq_getElem h2) w, Result.andThen_ok, key_equalIn d _ _ w]
  rw [List.drop_eq_getElem_cons h1, List.drop_eq_getElem_cons h2, List.take_succ_cons, List.take_succ_cons, keysEq]
  cases hh : keyEq l[j] m[j]
  ·simp
  ·simpa using ih
theorem slots_equalIn (d : Nat) (l m : List KeyD) (hl : l.length = 16) (hm : m.length = 16) (w : World) : (Op.equalIn (d + 3) 59 (.agg (slotCells l).toArray) (.agg (slotCells m).toArray)).run Tryz.prog w = .ok (keysEq l m) w := by
 obtain ⟨i, hi, _⟩ := Option.map_eq_some_iff.1 info_key
 rw [run_equalIn_array w (d + 2) _ _ Tryz.underlying59 hi, cellsOf_key, List.range_eq_range']
 have := items_keys d w l m 16 0 (fun i _ hi => by omega)
 rw [this, List.drop_zero, List.drop_zero, List.take_of_length_le (by omega), List.take_of_length_le (by omega)]

/-- an object -/
structure ObjD where
 kd : Int
 ct : Int
 cl : Int
 slots : List KeyD
 bytes : List UInt8
def ObjD.ok (o : ObjD) : Prop := o.slots.length = 16 ∧ o.bytes.length = 64
def ObjD.cells (o : ObjD) : List Value := [.int .i64 o.kd, .int .i64 o.ct, .int .i64 o.cl] ++ (slotCells o.slots ++ o.bytes.map vu8)
theorem ObjD.len {o : ObjD} (h : o.ok) : o.cells.length = 163 := by
 unfold ObjD.cells
 rw [List.length_append, List.length_append, slotCells_len, List.length_map, h.1, h.2]; rfl
def objEq (x y : ObjD) : Bool := (x.kd == y.kd) && ((x.ct == y.ct) && ((x.cl == y.cl) && (keysEq x.slots y.slots && ((x.bytes == y.bytes) && true))))
theorem objEq_iff (x y : ObjD) : objEq x y = true ↔ x = y := by
 cases x; cases y
 unfold objEq
 simp only [Bool.and_eq_true, beq_iff_eq, keysEq_iff, Bool.and_true, ObjD.mk.injEq]
theorem obj_slots {o : ObjD} (h : o.ok) : o.cells.toArray.extract 3 (3 + 96) = (slotCells o.slots).toArray := by
 apply Array.toList_inj.1
 rw [Array.toList_extract]
 simp only [List.extract]
 unfold ObjD.cells
 rw [List.drop_append_of_le_length (by simp)]
 rw [show List.drop 3 ([Value.int .i64 o.kd, Value.int .i64 o.ct, Value.int .i64 o.cl]) = [] by rfl, List.nil_append, List.take_append_of_le_length (by rw [slotCells_len, h.1]; omega), List.take_of_length_le (by rw [slotCells_len, h.1]; omega)]
theorem obj_bytes {o : ObjD} (h : o.ok) : o.cells.toArray.extract 99 (99 + 64) = (o.bytes.map vu8).toArray := by
 apply Array.toList_inj.1
 rw [Array.toList_extract]
 simp only [List.extract]
 unfold ObjD.cells
 rw [← List.append_assoc, List.drop_append, List.drop_eq_nil_of_le (by rw [List.length_append, slotCells_len, h.1]; simp), List.nil_append, List.length_append, slotCells_len, h.1]
 rw [show 99 - (List.length [Value.int .i64 o.kd, Value.int .i64 o.ct, Value.int .i64 o.cl] + 6 * 16) = 0 by rfl, List.drop_zero, List.take_of_length_le (by rw [List.length_map, h.2]; omega)]
theorem bytes_equalIn (d : Nat) (l m : List UInt8) (hl : l.length = 64) (hm : m.length = 64) (w : World) : (Op.equalIn (d + 2) 60 (.agg (l.map vu8).toArray) (.agg (m.map vu8).toArray)).run Tryz.prog w = .ok (l == m) w :=
 run_equalIn_bytes w d _ _ 64 Tryz.underlying60 Tryz.underlying5 (fun w => by kernel_rfl) l m hl hm
set_option maxRecDepth 100000 in
theorem obj_equalIn (d : Nat) (x y : ObjD) (hx : x.ok) (hy : y.ok) (w : World) : (Op.equalIn (d + 4) 62 (.agg x.cells.toArray) (.agg y.cells.toArray)).run Tryz.prog w = .ok (objEq x y) w := by
 rw [run_equalIn_struct w (d + 3) _ _ _ (by kernel_rfl) (by kernel_rfl)]
 simp only [Program.fieldsOf, Tryz.underlying62]
 exact fields_step w (d + 2) _ _ _ _ (by decide) (by kernel_rfl) Tryz.underlying54 rfl rfl
  (fields_step w (d + 2) _ _ _ _ (by decide) (by kernel_rfl) Tryz.underlying2 rfl rfl
  (fields_step w (d + 2) _ _ _ _ (by decide) (by kernel_rfl) Tryz.underlying2 rfl rfl
  (fields_agg w (d + 3) _ _ _ _ (by decide) ((part_agg w Tryz.underlying59 rfl info_slots _ _).trans (by rw [obj_slots hx])) ((part_agg w Tryz.underlying59 rfl info_slots _ _).trans (by rw [obj_slots hy])) (slots_equalIn d _ _ hx.1 hy.1 w)
  (fields_agg w (d + 3) _ _ _ _ (by decide) ((part_agg w Tryz.underlying60 rfl info_page _ _).trans (by rw [obj_bytes hx])) ((part_agg w Tryz.underlying60 rfl info_page _ _).trans (by rw [obj_bytes hy])) (bytes_equalIn (d + 1) _ _ hx.2 hy.2 w) (fields_nil _ _ _ _)))))
end Go.Proofs.YtdpniceapmikpaaGreat
namespace Go.Proofs.YtdpniceapmikpaaGreat
open Go.RowKit

def str (l : List UInt8) : Value := .string ⟨l.toArray⟩
def kindRow (nm : List UInt8) (oid rights call value : Bool) (most wants : Int) : List Value :=
 [str nm, .bool oid, .bool rights, .bool call, .bool value, .int .i64 most, .int .i64 wants]
def kindCells : Array Value := (
 kindRow [118, 111, 105, 100] false false false false 0 0 ++
 kindRow [110, 117, 109, 98, 101, 114] false false false true 0 0 ++
 kindRow [110, 111, 100, 101] true true false false 7 1 ++
 kindRow [112, 97, 103, 101] true true false false 1 2 ++
 kindRow [98, 97, 110, 107] true false false false 0 1 ++
 kindRow [112, 114, 111, 99] true false false false 0 1 ++
 kindRow [115, 116, 97, 114, 116] true false false true 0 1 ++
 kindRow [114, 101, 115, 117, 109, 101] true false true false 0 1 ++
 kindRow [100, 105, 115, 99, 114, 105, 109] false false false false 0 0 ++
 kindRow [99, 108, 111, 99, 107] false false false false 0 0 ++
 kindRow [99, 104, 101, 99, 107] false false false false 0 0).toArray
def zeroRow : List Value := kindRow [] false false false false 0 0
def zero72 : Array Value := (zeroRow ++ zeroRow ++ zeroRow ++ zeroRow ++ zeroRow ++ zeroRow ++ zeroRow ++ zeroRow ++ zeroRow ++ zeroRow ++ zeroRow).toArray
theorem zeroV72 (w : World) : (zeroValue 263).run Tryz.prog w = .ok (.agg zero72) w := by kernel_rfl
theorem zero72_size : zero72.size = 77 := by kernel_rfl
theorem zero72_ne : ¬ zero72 = #[] := by intro h; have := zero72_size; rw [h] at this; cases this
theorem wpList_build_is {P : Program} {ops : Array Oper} {rest : List Oper} {o : Oper} {a : Act} {w : World} {Q : Exit → Act → World → Prop} (hg : o.guard = none) (t : TypeId) (parts : Array (Nat × Operand)) (ho : o.op = .build t parts)
  (cells : Array Value) (hf : P.built t (parts.map fun (i, x) => (i, a.eval x)).toList = some cells)
  (h : wpList P ops Q rest (a.put o.dst (.agg cells)) w) : wpList P ops Q (o :: rest) a w :=
 wpList_build hg t parts ho (by rw [hf]; rfl) (by rw [hf]; exact h)
theorem kind_info : (Tryz.prog.info? 263).map (·.size) = some kindCells.size := by kernel_rfl
theorem kind_size : zero72.size = kindCells.size := by kernel_rfl
theorem kind_one : kindCells.all (·.oneCell') = true := by kernel_rfl

set_option maxHeartbeats 400000 in
theorem kinds_any (w : World) :
  Calls Tryz.prog 149 #[] w fun e w' => e = .returned (.agg kindCells) ∧ w.alloc (.cells kindCells 263) = w' := by
 have hz := zeroV72
 have hn := zero72_ne
 go_enter Tryz.func149, Tryz.ntmps149
 go_wp2_with (first
  | (refine wpList_build_is rfl 263 _ rfl kindCells (by kernel_rfl) ?_)
  | (refine wpList_store_row rfl 263 _ _ rfl w.heap.size kindCells rfl rfl 263 zero72 (heap_alloc_last _ _) kind_info kind_size kind_one ?_; rw [World.setRow_alloc_new]))
 exact bodyPost_ret (v := .agg kindCells) (results_cell_row Tryz.results149 _ _ w.heap.size 263 kindCells (0, 0) _ rfl (heap_alloc_last _ _) Tryz.underlying263 rfl kind_info) rfl ⟨rfl, rfl⟩

end Go.Proofs.YtdpniceapmikpaaGreat
