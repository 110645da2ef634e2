/-
  keys.of answers the row of a key's kind, and whether the key may be; for all keys.
  The contracts of keys.of, Check, Names, Wants, for all keys.
  The contracts of the reference's names and Check, for all keys.
  The contract of the reference's Check, for all keys.
  Plain laws on bits of int64 and on whether a key may be; no program in sight.
  The contracts of the reference's with, Names, Wants, for all keys that are int64s.
  The contract of objects.bare.
  The contract of objects.Check.
  The contract of objects.Check, of nodes, and of all objects.
  The contract of the reference's Check (objects).
  The two Checks of objects are the same.
-/
import Derived.Laws.BitsAllLaws
import Derived.Laws.BitsLemmas
import Derived.Deep.MidRow
import Derived.Test.YtdpniceapmikpaaGreatWh1
set_option linter.unusedVariables false
set_option linter.unusedSimpArgs false
namespace Go.Proofs.YtdpniceapmikpaaGreat
open Go.RowKit

def withinB (has : Bool) (n most : Int) : Bool := (has && decide (0 ≤ n) && decide (n ≤ most)) || (!has && (n == 0))

set_option maxHeartbeats 400000 in
theorem within_any (has : Bool) (n most : Int) (w : World) :
  Calls Tryz.prog 150 #[.bool has, .int .i64 n, .int .i64 most] w fun e w' => e = .returned (.bool (withinB has n most)) ∧ w = w' := by
 cases has
 ·go_enter Tryz.func150, Tryz.ntmps150
  go_wp2
  go_ret
  exact ⟨by simp [withinB], rfl⟩
 ·by_cases h0 : 0 ≤ n
  ·go_enter Tryz.func150, Tryz.ntmps150
   go_wp2
   all_goals go_ret
   all_goals exact ⟨by simp [withinB, *], rfl⟩
  ·have h1 : n < 0 := by omega
   have h2 : ¬ (0 ≤ n ∧ n ≤ most) := by omega
   go_enter Tryz.func150, Tryz.ntmps150
   go_wp2
   all_goals go_ret
   all_goals exact ⟨by simp [withinB]; omega, rfl⟩

def nameOf (k : Int) : ByteArray := ⟨(if k = 0 then [118, 111, 105, 100] else if k = 1 then [110, 117, 109, 98, 101, 114] else if k = 2 then [110, 111, 100, 101] else if k = 3 then [112, 97, 103, 101] else if k = 4 then [98, 97, 110, 107]
 else if k = 5 then [112, 114, 111, 99] else if k = 6 then [115, 116, 97, 114, 116] else if k = 7 then [114, 101, 115, 117, 109, 101] else if k = 8 then [100, 105, 115, 99, 114, 105, 109] else if k = 9 then [99, 108, 111, 99, 107]
 else if k = 10 then [99, 104, 101, 99, 107] else [] : List UInt8).toArray⟩
def oidB (k : Int) : Bool := decide (2 ≤ k) && decide (k ≤ 7)
def rightsB (k : Int) : Bool := (k == 2) || (k == 3)
def callB (k : Int) : Bool := k == 7
def valueB (k : Int) : Bool := (k == 1) || (k == 6)
def mostOf (k : Int) : Int := if k = 2 then 7 else if k = 3 then 1 else 0
def wantsOf (k : Int) : Int := if k = 3 then 2 else if oidB k then 1 else 0
def kindV (k : Int) : Array Value := #[.string (nameOf k), .bool (oidB k), .bool (rightsB k), .bool (callB k), .bool (valueB k), .int .i64 (mostOf k), .int .i64 (wantsOf k)]
set_option maxRecDepth 100000 in
theorem row_at (k : Int) (h0 : 0 ≤ k) (h1 : k ≤ 10) (w : World) : (Instr.index 263 (.agg kindCells) (.int .i64 k)).run Tryz.prog w = .ok (.agg (kindV k)) w := by
 have h : k = 0 ∨ k = 1 ∨ k = 2 ∨ k = 3 ∨ k = 4 ∨ k = 5 ∨ k = 6 ∨ k = 7 ∨ k = 8 ∨ k = 9 ∨ k = 10 := by omega
 rcases h with rfl | rfl | rfl | rfl | rfl | rfl | rfl | rfl | rfl | rfl | rfl
 all_goals exact (by kernel_rfl : Sem.run _ _ _ = Result.ok _ _)

def ofB (k o c a r v : Int) : Bool := decide (0 ≤ k) && decide (k ≤ 10) && withinB (oidB k) o 63 && withinB (oidB k) c 4294967295 && withinB (callB k) a 4294967295 && decide (0 ≤ r) && (bits .andNot .i64 r (mostOf k) == 0) && (valueB k || (v == 0))

theorem ofB_in (k o c a r v : Int) (h0 : 0 ≤ k) (h1 : k ≤ 10) : ofB k o c a r v = (withinB (oidB k) o 63 && withinB (oidB k) c 4294967295 && withinB (callB k) a 4294967295 && decide (0 ≤ r) && (bits .andNot .i64 r (mostOf k) == 0) && (valueB k || (v == 0))) := by
 unfold ofB
 rw [decide_eq_true h0, decide_eq_true h1]
 simp only [Bool.true_and]
theorem kindV_one (k : Int) : (kindV k).all (·.oneCell') = true := by unfold kindV; simp [Value.oneCell']
abbrev keyV (k o c a r v : Int) : Array Value := #[.int .i64 k, .int .i64 o, .int .i64 c, .int .i64 a, .int .i64 r, .int .i64 v]
theorem info_kind : (Tryz.prog.info? 231).map (·.size) = some 7 := by kernel_rfl

set_option maxHeartbeats 800000 in
theorem of_in (k o c a r v : Int) (w : World) (h0 : 0 ≤ k) (h1 : k ≤ 10) :
  Calls Tryz.prog 130 #[.agg #[.int .i64 k, .int .i64 o, .int .i64 c, .int .i64 a, .int .i64 r, .int .i64 v]] w fun e w' =>
   e = .returned (.tuple #[.agg (kindV k), .bool (ofB k o c a r v)]) ∧ Below w.heap.size w w' := by
 have hx := row_at k h0 h1
 unfold kindV at hx
 go_enter Tryz.func130, Tryz.ntmps130
 go_upto_region 3 with fail
 go_cut [4] (fun s4 wx => ∃ g : Nat, s4 = .pointer (some ⟨g, 0, none⟩) ∧ Blk wx w.heap.size 58 (keyV k o c a r v) ∧ (∃ cs, cs.size = 7 ∧ Blk wx (w.heap.size + 1) 231 cs) ∧ Blk wx g 231 (kindV k) ∧ Below w.heap.size w wx)
 case first =>
  go_region_with (go_at_call 149; refine (kinds_any _).mono ?_; rintro e w' ⟨rfl, rfl⟩)
  all_goals go_wp2_with fail
  all_goals go_meet
  all_goals refine ⟨_, rfl, (((Blk.new _ _ _).alloc _).alloc _).alloc _, ⟨_, ?_, ((Blk.new' ?_).alloc _).alloc _⟩, ?_, ?_⟩
  all_goals first
   | exact (((((Below.refl _ _).alloc (Nat.le_refl _) _).alloc (by simp) _).alloc (by simp; omega) _).alloc (by simp; omega) _).drew
   | exact (Blk.new' (by simp)).drew
   | exact ((Blk.new' (by simp)).alloc _).drew
   | rfl
   | (simp; done)
 case rest =>
  obtain ⟨g, rfl, hk, ⟨cs, hcs, hr⟩, hrow, hb⟩ := hcut
  have k1 := hk.cell_is 1 rfl
  have k2 := hk.cell_is 2 rfl
  have k3 := hk.cell_is 3 rfl
  have k4 := hk.cell_is 4 rfl
  have k5 := hk.cell_is 5 rfl
  have r1 : wc.cell? ⟨g, 1, none⟩ = some (.bool (oidB k)) := hrow.cell_is 1 rfl
  have r3 : wc.cell? ⟨g, 3, none⟩ = some (.bool (callB k)) := hrow.cell_is 3 rfl
  have r4 : wc.cell? ⟨g, 4, none⟩ = some (.bool (valueB k)) := hrow.cell_is 4 rfl
  have r5 : wc.cell? ⟨g, 5, none⟩ = some (.int .i64 (mostOf k)) := hrow.cell_is 5 rfl
  have HF := Lib.hid (ofB_in k o c a r v h0 h1)
  go_upto_region 5 with fail
  go_cut [6] (fun s6 wx => s6 = .bool (ofB k o c a r v) ∧ wx = wc)
  case first =>
   go_wp2_with (go_at_call 150; refine (within_any _ _ _ _).mono ?_; rintro e w' ⟨rfl, rfl⟩)
   all_goals go_meet
   all_goals refine ⟨?_, rfl⟩
   all_goals rw [HF.out]
   all_goals (go_light; first | (simp [*]; done) | (rw [decide_eq_false (by omega : ¬ 0 ≤ r)]; simp))
  case rest =>
   obtain ⟨rfl, rfl⟩ := hcut
   clear HF
   go_wp2_with (first
    | (refine wpList_load_row rfl 231 _ rfl g rfl 231 (kindV k) (0, 0) _ hrow Tryz.underlying231 rfl info_kind ?_)
    | (refine wpList_store_row rfl 231 _ _ rfl (w.heap.size + 1) (kindV k) rfl rfl 231 cs hr info_kind hcs (kindV_one k) ?_))
   exact bodyPost_ret (results_row_tmp Tryz.results130 _ _ (w.heap.size + 1) 231 (kindV k) (0, 0) _ rfl (hr.row _) Tryz.underlying231 rfl info_kind _ rfl) rfl ⟨rfl, below_row hb _ (by omega)⟩

end Go.Proofs.YtdpniceapmikpaaGreat
namespace Go.Proofs.YtdpniceapmikpaaGreat
open Go.RowKit

theorem bcell {W w1 : World} (hb : Below W.heap.size W w1) : (∀ b o, b < W.heap.size → w1.cell? ⟨b, o, none⟩ = W.cell? ⟨b, o, none⟩) ∧ (∀ b o, b < W.heap.size → w1.frozen? ⟨b, o, none⟩ = W.frozen? ⟨b, o, none⟩) :=
 ⟨fun b o h => hb.cell (p := ⟨b, o, none⟩) h, fun b o h => hb.frozen (p := ⟨b, o, none⟩) h⟩

theorem Blk.key {w : World} {g : Nat} {t : TypeId} {k o c a r v : Int} (h : Blk w g t (keyV k o c a r v)) :
  w.cell? ⟨g, 0, none⟩ = some (.int .i64 k) ∧ w.cell? ⟨g, 1, none⟩ = some (.int .i64 o) ∧ w.cell? ⟨g, 2, none⟩ = some (.int .i64 c) ∧ w.cell? ⟨g, 3, none⟩ = some (.int .i64 a) ∧ w.cell? ⟨g, 4, none⟩ = some (.int .i64 r) ∧ w.cell? ⟨g, 5, none⟩ = some (.int .i64 v) :=
 ⟨h.cell_is 0 rfl, h.cell_is 1 rfl, h.cell_is 2 rfl, h.cell_is 3 rfl, h.cell_is 4 rfl, h.cell_is 5 rfl⟩
theorem Blk.kind {w : World} {g : Nat} {t : TypeId} {k : Int} (h : Blk w g t (kindV k)) :
  w.cell? ⟨g, 0, none⟩ = some (.string (nameOf k)) ∧ w.cell? ⟨g, 1, none⟩ = some (.bool (oidB k)) ∧ w.cell? ⟨g, 2, none⟩ = some (.bool (rightsB k)) ∧ w.cell? ⟨g, 3, none⟩ = some (.bool (callB k)) ∧ w.cell? ⟨g, 4, none⟩ = some (.bool (valueB k)) ∧ w.cell? ⟨g, 5, none⟩ = some (.int .i64 (mostOf k)) ∧ w.cell? ⟨g, 6, none⟩ = some (.int .i64 (wantsOf k)) :=
 ⟨h.cell_is 0 rfl, h.cell_is 1 rfl, h.cell_is 2 rfl, h.cell_is 3 rfl, h.cell_is 4 rfl, h.cell_is 5 rfl, h.cell_is 6 rfl⟩

theorem kindV_out (k : Int) (h : k < 0 ∨ 10 < k) : kindV k = #[.string ⟨#[]⟩, .bool false, .bool false, .bool false, .bool false, .int .i64 0, .int .i64 0] := by
 have e : k ≠ 0 ∧ k ≠ 1 ∧ k ≠ 2 ∧ k ≠ 3 ∧ k ≠ 4 ∧ k ≠ 5 ∧ k ≠ 6 ∧ k ≠ 7 ∧ k ≠ 8 ∧ k ≠ 9 ∧ k ≠ 10 := by omega
 obtain ⟨e0, e1, e2, e3, e4, e5, e6, e7, e8, e9, e10⟩ := e
 have ho : ¬ (2 ≤ k ∧ k ≤ 7) := by omega
 have ho' : oidB k = false := by unfold oidB; rw [Bool.and_eq_false_iff]; simp; omega
 simp [kindV, nameOf, rightsB, callB, valueB, mostOf, wantsOf, *]
theorem ofB_out (k o c a r v : Int) (h : k < 0 ∨ 10 < k) : ofB k o c a r v = false := by
 unfold ofB
 rcases h with h | h
 ·rw [decide_eq_false (by omega : ¬ 0 ≤ k)]; rfl
 ·rw [decide_eq_false (by omega : ¬ k ≤ 10), Bool.and_false]; rfl

set_option maxHeartbeats 400000 in
theorem of_out (k o c a r v : Int) (w : World) (h : k < 0 ∨ 10 < k) :
  Calls Tryz.prog 130 #[.agg #[.int .i64 k, .int .i64 o, .int .i64 c, .int .i64 a, .int .i64 r, .int .i64 v]] w fun e w' =>
   e = .returned (.tuple #[.agg (kindV k), .bool (ofB k o c a r v)]) ∧ Below w.heap.size w w' := by
 rw [kindV_out k h, ofB_out k o c a r v h]
 rcases h with h | h
 ·go_enter Tryz.func130, Tryz.ntmps130
  go_wp2
  exact bodyPost_ret (v := .tuple #[.agg #[.string ⟨#[]⟩, .bool false, .bool false, .bool false, .bool false, .int .i64 0, .int .i64 0], .bool false]) (by simp [results, Tryz.results130, go_sem]) rfl ⟨rfl, ((Below.refl _ _).alloc (Nat.le_refl _) _).alloc (by simp) _⟩
 ·have h' : ¬ k < 0 := by omega
  go_enter Tryz.func130, Tryz.ntmps130
  go_wp2
  exact bodyPost_ret (v := .tuple #[.agg #[.string ⟨#[]⟩, .bool false, .bool false, .bool false, .bool false, .int .i64 0, .int .i64 0], .bool false]) (by simp [results, Tryz.results130, go_sem]) rfl ⟨rfl, ((Below.refl _ _).alloc (Nat.le_refl _) _).alloc (by simp) _⟩

theorem of_any (k o c a r v : Int) (w : World) :
  Calls Tryz.prog 130 #[.agg #[.int .i64 k, .int .i64 o, .int .i64 c, .int .i64 a, .int .i64 r, .int .i64 v]] w fun e w' =>
   e = .returned (.tuple #[.agg #[.string (nameOf k), .bool (oidB k), .bool (rightsB k), .bool (callB k), .bool (valueB k), .int .i64 (mostOf k), .int .i64 (wantsOf k)], .bool (ofB k o c a r v)]) ∧ Below w.heap.size w w' := by
 by_cases h : 0 ≤ k ∧ k ≤ 10
 ·exact of_in k o c a r v w h.1 h.2
 ·exact of_out k o c a r v w (by omega)

def errB (b : Bool) : Int := if b then 0 else 2

set_option maxHeartbeats 400000 in
theorem check_any (k o c a r v : Int) (w : World) :
  Calls Tryz.prog 92 #[.agg #[.int .i64 k, .int .i64 o, .int .i64 c, .int .i64 a, .int .i64 r, .int .i64 v]] w fun e w' =>
   e = .returned (.int .i64 (errB (ofB k o c a r v))) ∧ Below w.heap.size w w' := by
 cases hB : ofB k o c a r v
 all_goals
  go_enter Tryz.func92, Tryz.ntmps92
  go_wp2_with (go_at_call 130; refine (of_any _ _ _ _ _ _ _).mono ?_; rintro e w1 ⟨rfl, hb⟩)
  go_ret
  exact ⟨rfl, (((Below.refl _ _).alloc (Nat.le_refl _) _).trans (hb.mono (by simp))).alloc (by have := hb.size; simp at this; omega) _⟩

def namesB (k o c a r v : Int) : Bool := ofB k o c a r v && oidB k

set_option maxHeartbeats 400000 in
theorem names_any (k o c a r v : Int) (w : World) :
  Calls Tryz.prog 91 #[.agg #[.int .i64 k, .int .i64 o, .int .i64 c, .int .i64 a, .int .i64 r, .int .i64 v]] w fun e w' =>
   e = .returned (.tuple #[.int .i64 (if namesB k o c a r v then o else 0), .bool (namesB k o c a r v)]) ∧ Below w.heap.size w w' := by
 unfold namesB
 cases hB : ofB k o c a r v <;> cases hO : oidB k
 all_goals
  go_enter Tryz.func91, Tryz.ntmps91
  go_wp2_with (go_at_call 130; refine (of_any _ _ _ _ _ _ _).mono ?_; rintro e w1 ⟨rfl, hb⟩; obtain ⟨hc, hf⟩ := bcell hb; have hz : w.heap.size < w1.heap.size := (by have := hb.size; simp at this; omega))
  go_ret2
  exact ⟨rfl, (((Below.refl _ _).alloc (Nat.le_refl _) _).trans (hb.mono (by simp))).alloc (by have := hb.size; simp at this; omega) _⟩

end Go.Proofs.YtdpniceapmikpaaGreat
namespace Go.Proofs.YtdpniceapmikpaaGreat
open Go.RowKit

end Go.Proofs.YtdpniceapmikpaaGreat
namespace Go.Proofs.YtdpniceapmikpaaGreat
open Go.RowKit

end Go.Proofs.YtdpniceapmikpaaGreat
namespace Go.Proofs.YtdpniceapmikpaaGreat
open Go.RowKit

theorem ofInt_i64 (a : Nat) (ha : a < 9223372036854775808) : (BitVec.ofInt 64 (a : Int)).toNat = a := by
 rw [BitVec.ofInt_natCast, BitVec.toNat_ofNat]; exact Nat.mod_eq_of_lt (by omega)
theorem wrap_small (n : Nat) (h : n < 9223372036854775808) : IntKind.i64.wrap (n : Int) = (n : Int) := by
 rw [IntKind.wrap_i64]; omega
theorem andNot_nat (a b : Nat) (ha : a < 9223372036854775808) (hb : b < 9223372036854775808) : bits .andNot .i64 (a : Int) (b : Int) = ((a &&& (2 ^ 64 - (b + 1)) : Nat) : Int) := by
 have hx : a &&& (2 ^ 64 - (b + 1)) ≤ a := Nat.and_le_left
 show IntKind.i64.wrap ((BitVec.ofInt 64 (a : Int) &&& ~~~BitVec.ofInt 64 (b : Int)).toNat : Int) = _
 rw [BitVec.toNat_and, BitVec.toNat_not, ofInt_i64 a ha, ofInt_i64 b hb]
 have e : 2 ^ 64 - 1 - b = 2 ^ 64 - (b + 1) := by omega
 rw [e]
 exact wrap_small _ (by omega)
theorem and_not_zero (a b : Nat) (ha : a < 2 ^ 64) (hb : b < 2 ^ 64) : a &&& (2 ^ 64 - (b + 1)) = 0 ↔ a &&& b = a := by
 constructor
 ·intro h
  apply Nat.eq_of_testBit_eq
  intro i
  have h1 : (a &&& (2 ^ 64 - (b + 1))).testBit i = false := by rw [h]; simp
  rw [Nat.testBit_and, Nat.testBit_two_pow_sub_succ hb] at h1
  rw [Nat.testBit_and]
  cases h2 : a.testBit i
  ·rfl
  ·rw [h2] at h1
   have hi : i < 64 := by
    rcases Nat.lt_or_ge i 64 with h3 | h3
    ·exact h3
    ·rw [Nat.testBit_lt_two_pow (Nat.lt_of_lt_of_le ha (Nat.pow_le_pow_right (by omega) h3))] at h2; cases h2
   simpa [hi] using h1
 ·intro h
  apply Nat.eq_of_testBit_eq
  intro i
  rw [Nat.testBit_and, Nat.testBit_two_pow_sub_succ hb, Nat.zero_testBit]
  have h1 : (a &&& b).testBit i = a.testBit i := by rw [h]
  rw [Nat.testBit_and] at h1
  cases h2 : a.testBit i
  ·rfl
  ·rw [h2] at h1
   simp at h1
   simp [h1]
theorem andNot_sub (a b : Int) (ha : 0 ≤ a) (ha1 : a < 9223372036854775808) (hb : 0 ≤ b) (hb1 : b < 9223372036854775808) : (bits .andNot .i64 a b = 0) ↔ a.toNat &&& b.toNat = a.toNat := by
 obtain ⟨A, rfl⟩ := Int.eq_ofNat_of_zero_le ha
 obtain ⟨B, rfl⟩ := Int.eq_ofNat_of_zero_le hb
 rw [andNot_nat A B (by omega) (by omega)]
 simp only [Int.toNat_natCast]
 rw [← and_not_zero A B (by omega) (by omega)]
 omega
theorem andNot_7 (a : Int) (ha : 0 ≤ a) (ha1 : a < 9223372036854775808) : (bits .andNot .i64 a 7 = 0) ↔ a ≤ 7 := by
 rw [andNot_sub a 7 ha ha1 (by omega) (by omega)]
 have e : a.toNat &&& (7 : Int).toNat = a.toNat % 8 := Nat.and_two_pow_sub_one_eq_mod a.toNat 3
 rw [e]; omega
theorem andNot_1 (a : Int) (ha : 0 ≤ a) (ha1 : a < 9223372036854775808) : (bits .andNot .i64 a 1 = 0) ↔ a ≤ 1 := by
 rw [andNot_sub a 1 ha ha1 (by omega) (by omega)]
 have e : a.toNat &&& (1 : Int).toNat = a.toNat % 2 := Nat.and_two_pow_sub_one_eq_mod a.toNat 1
 rw [e]; omega
theorem andNot_0 (a : Int) (ha : 0 ≤ a) (ha1 : a < 9223372036854775808) : (bits .andNot .i64 a 0 = 0) ↔ a ≤ 0 := by
 rw [andNot_sub a 0 ha ha1 (by omega) (by omega)]
 have e : a.toNat &&& (0 : Int).toNat = 0 := Nat.and_zero _
 rw [e]; omega
theorem andNot_most (k r : Int) (ha : 0 ≤ r) (ha1 : r < 9223372036854775808) : (bits .andNot .i64 r (mostOf k) = 0) ↔ r ≤ mostOf k := by
 unfold mostOf
 split
 ·exact andNot_7 r ha ha1
 ·split
  ·exact andNot_1 r ha ha1
  ·exact andNot_0 r ha ha1

end Go.Proofs.YtdpniceapmikpaaGreat
namespace Go.Proofs.YtdpniceapmikpaaGreat
open Go.RowKit

end Go.Proofs.YtdpniceapmikpaaGreat
namespace Go.Proofs.YtdpniceapmikpaaGreat
open Go.RowKit

def slotsZ : List KeyD := List.replicate 16 keyZ
def bytesZ : List UInt8 := List.replicate 64 0
def slots0 (o : ObjD) : Bool := keysEq o.slots slotsZ
def bytes0 (o : ObjD) : Bool := o.bytes == bytesZ
def bareB (o : ObjD) (b : Bool) : Bool := slots0 o && ((b || bytes0 o) && (o.cl == 0))
theorem obj_range {W : World} {g : Nat} {o : ObjD} {cs : Array Value} (hb : Blk W g 62 cs) (hc : cs = o.cells.toArray) : ∀ i, W.cell? ⟨g, i, none⟩ = o.cells[i]? := by
 intro i
 rw [hb.cell i, hc]; simp
theorem load_slots {W : World} {g : Nat} {o : ObjD} {cs : Array Value} (ho : o.ok) (hb : Blk W g 62 cs) (hc : cs = o.cells.toArray) :
  (loadVar 59 ⟨g, 3, none⟩).run Tryz.prog W = .ok (.agg (slotCells o.slots).toArray) W := by
 refine run_loadVar_mid W g 3 _ (slotCells o.slots) _ ?_ Tryz.underlying59 rfl (by rw [slotCells_len, ho.1]; exact info_slots)
 intro j v hv
 rw [obj_range hb hc (3 + j)]
 have hj : j < 96 := by
  rcases Nat.lt_or_ge j 96 with h | h
  ·exact h
  ·rw [List.getElem?_eq_none (by rw [slotCells_len, ho.1]; omega)] at hv; cases hv
 unfold ObjD.cells
 rw [List.getElem?_append_right (by simp), List.getElem?_append_left (by rw [slotCells_len, ho.1]; simp; omega)]
 simpa [Nat.add_comm 3 j] using hv
theorem load_page {W : World} {g : Nat} {o : ObjD} {cs : Array Value} (ho : o.ok) (hb : Blk W g 62 cs) (hc : cs = o.cells.toArray) :
  (loadVar 60 ⟨g, 99, none⟩).run Tryz.prog W = .ok (.agg (o.bytes.map vu8).toArray) W := by
 refine run_loadVar_mid W g 99 _ (o.bytes.map vu8) _ ?_ Tryz.underlying60 rfl (by rw [List.length_map, ho.2]; exact info_page)
 intro j v hv
 rw [obj_range hb hc (99 + j)]
 unfold ObjD.cells
 rw [← List.append_assoc, List.getElem?_append_right (by rw [List.length_append, slotCells_len, ho.1]; simp)]
 rw [List.length_append, slotCells_len, ho.1]
 simpa [Nat.add_comm 99 j] using hv

set_option maxHeartbeats 1000000 in
section
variable {P : Program} {ops : Array Oper} {rest : List Oper} {o : Oper} {a : Act} {w : World} {Q : Exit → Act → World → Prop}
theorem wpList_load_midG (hw : Region.wanted o (yielded ops a.tmps) = true) (ty : TypeId) (x : Operand) (ho : o.op = .load ty x)
  (b off : Nat) (hx : a.eval x = .pointer (some ⟨b, off, none⟩)) (cs : Array Value) (hr : (loadVar ty ⟨b, off, none⟩).run P w = .ok (.agg cs) w)
  (h : wpList P ops Q rest (a.put o.dst (.agg cs)) w) : wpList P ops Q (o :: rest) a w :=
 wpList_step fun K hK => by
  simp only [hw, if_true]
  unfold Oper.wp execOp
  simp only [ho, hx, Instr.loadAt, Instr.sureAddr, Sem.run_bind, Sem.run_pure, Result.andThen_ok, hr]
  exact hK _ _ h
theorem wpList_build_isG (hw : Region.wanted o (yielded ops a.tmps) = true) (t : TypeId) (parts : Array (Nat × Operand)) (ho : o.op = .build t parts)
  (cells : Array Value) (hf : P.built t (parts.map fun (i, x) => (i, a.eval x)).toList = some cells)
  (h : wpList P ops Q rest (a.put o.dst (.agg cells)) w) : wpList P ops Q (o :: rest) a w :=
 wpList_step fun K hK => by
  simp only [hw, if_true]
  exact wp_build t parts ho (by rw [hf]; rfl) (by rw [hf]; exact hK _ _ h)
theorem wpList_eql_agg (hw : Region.wanted o (yielded ops a.tmps) = true) (t t' : TypeId) (x y : Operand) (ho : o.op = .binOp .eql t x y t') (xs ys : Array Value) (hx : a.eval x = .agg xs) (hy : a.eval y = .agg ys)
  (hm : P.eqGuardType P.depth t = false) (b : Bool) (he : (Op.equalIn 10000 t (.agg xs) (.agg ys)).run P w = .ok b w)
  (h : wpList P ops Q rest (a.put o.dst (.bool b)) w) : wpList P ops Q (o :: rest) a w :=
 wpList_step fun K hK => by
  simp only [hw, if_true]
  unfold Oper.wp execOp
  simp only [ho, hx, hy, Sem.run_bind, run_eqGuard_agg _ _ _ _ _ _ _ hm, run_eql_struct, he, Sem.run_pure, Result.andThen_ok]
  exact hK _ _ h
end

set_option maxRecDepth 100000 in
set_option maxHeartbeats 1000000 in
theorem bare_any (o : ObjD) (ho : o.ok) (b : Bool) (w : World) : Calls Tryz.prog 90 #[.agg o.cells.toArray, .bool b] w fun e w' => e = .returned (.bool (bareB o b)) ∧ Below w.heap.size w w' := by
 obtain ⟨cs, hc⟩ : ∃ cs, cs = o.cells.toArray := ⟨_, rfl⟩
 rw [← hc]
 have K := Blk.new w 62 cs
 have c2 : (w.alloc (.cells cs 62)).cell? ⟨w.heap.size, 2, none⟩ = some (.int .i64 o.cl) := (obj_range K hc 2).trans rfl
 have l1 := Lib.hid (load_slots ho K hc)
 have l2 := Lib.hid (load_page ho K hc)
 have zc1 : Tryz.zeroCells59 = (slotCells slotsZ).toArray := by kernel_rfl
 have e1 : (Op.equalIn 10000 59 (.agg (slotCells o.slots).toArray) (.agg Tryz.zeroCells59)).run Tryz.prog (w.alloc (.cells cs 62)) = .ok (slots0 o) (w.alloc (.cells cs 62)) := by
  rw [zc1]; exact slots_equalIn 9997 _ _ ho.1 rfl _
 have E2 := Lib.hid (bytes_equalIn 9998 o.bytes bytesZ ho.2 rfl (w.alloc (.cells cs 62)))
 unfold bareB
 clear K hc ho zc1
 generalize slots0 o = b1 at *
 have hb2 : (o.bytes == bytesZ) = bytes0 o := rfl
 rw [hb2] at E2
 clear hb2
 generalize bytes0 o = b2 at *
 generalize (slotCells o.slots).toArray = S at *
 generalize (o.bytes.map vu8).toArray = B at *
 cases b1 <;> cases b <;> cases b2
 all_goals
  go_enter Tryz.func90, Tryz.ntmps90
  go_wp2_with (first
   | (refine wpList_load_midG rfl 59 _ rfl w.heap.size 3 rfl S l1.out ?_)
   | (refine wpList_load_midG rfl 60 _ rfl w.heap.size 99 rfl B l2.out ?_)
   | (refine wpList_eql_agg rfl 60 _ _ _ rfl B (bytesZ.map vu8).toArray rfl (by kernel_rfl) (by kernel_rfl) _ E2.out ?_))
  go_ret
  exact ⟨rfl, (Below.refl _ _).alloc (Nat.le_refl _) _⟩
end Go.Proofs.YtdpniceapmikpaaGreat
namespace Go.Proofs.YtdpniceapmikpaaGreat
open Go.RowKit

theorem slots_index (l : List KeyD) (hl : l.length = 16) (j : Nat) (x : KeyD) (h : l[j]? = some x) (w : World) :
  (Instr.index 59 (.agg (slotCells l).toArray) (.int .i64 (j : Int))).run Tryz.prog w = .ok (.agg #[.int .i64 x.k, .int .i64 x.o, .int .i64 x.c, .int .i64 x.a, .int .i64 x.r, .int .i64 x.v]) w := by
 have hj : j < 16 := by
  rcases Nat.lt_or_ge j 16 with hh | hh
  ·exact hh
  ·rw [List.getElem?_eq_none (by omega)] at h; cases h
 have hn : (0 : Int) ≤ j ∧ (j : Int) < 16 := by omega
 obtain ⟨i, hi, hs⟩ := Option.map_eq_some_iff.1 info_key
 have hp := slots_part l j x h w
 have hcs := cellsOf_key
 simp [Instr.index, run_underlying Tryz.underlying59, asIntOf, run_sizeOf w hi, hcs, hp, hj]
 rfl

def preB (n ct cl : Int) : Bool := decide (1 ≤ n) && decide (n ≤ 64) && decide (0 ≤ ct) && decide (ct ≤ 4294967295) && decide (0 ≤ cl) && decide (cl ≤ 4294967295)
def slotB (n : Int) (x : KeyD) : Bool := ofB x.k x.o x.c x.a x.r x.v && (!namesB x.k x.o x.c x.a x.r x.v || decide (x.o < n))
def objB (o : ObjD) (n : Int) : Bool := preB n o.ct o.cl && (if o.kd = 0 then bareB o false else if o.kd = 3 then bareB o false else if o.kd = 2 then bareB o true else if o.kd = 1 then o.slots.all (slotB n) else false)

set_option maxRecDepth 100000 in
set_option maxHeartbeats 1000000 in
theorem ocheck_pre (o : ObjD) (n : Int) (w : World) (h : preB n o.ct o.cl = false) : Calls Tryz.prog 40 #[.agg o.cells.toArray, .int .i64 n] w fun e w' => e = .returned (.int .i64 2) ∧ Below w.heap.size w w' := by
 obtain ⟨cs, hc⟩ : ∃ cs, cs = o.cells.toArray := ⟨_, rfl⟩
 rw [← hc]
 have K := Blk.new w 62 cs
 have c1 : (w.alloc (.cells cs 62)).cell? ⟨w.heap.size, 1, none⟩ = some (.int .i64 o.ct) := (obj_range K hc 1).trans rfl
 have c2 : (w.alloc (.cells cs 62)).cell? ⟨w.heap.size, 2, none⟩ = some (.int .i64 o.cl) := (obj_range K hc 2).trans rfl
 clear K hc
 generalize o.ct = ct at *
 generalize o.cl = cl at *
 have hs : n < 1 ∨ (¬ n < 1 ∧ 64 < n) ∨ (¬ n < 1 ∧ ¬ 64 < n ∧ ct < 0) ∨ (¬ n < 1 ∧ ¬ 64 < n ∧ ¬ ct < 0 ∧ 4294967295 < ct) ∨ (¬ n < 1 ∧ ¬ 64 < n ∧ ¬ ct < 0 ∧ ¬ 4294967295 < ct ∧ cl < 0) ∨ (¬ n < 1 ∧ ¬ 64 < n ∧ ¬ ct < 0 ∧ ¬ 4294967295 < ct ∧ ¬ cl < 0 ∧ 4294967295 < cl) := by
  simp [preB] at h
  omega
 clear h
 rcases hs with h1 | ⟨h1, h2⟩ | ⟨h1, h2, h3⟩ | ⟨h1, h2, h3, h4⟩ | ⟨h1, h2, h3, h4, h5⟩ | ⟨h1, h2, h3, h4, h5, h6⟩
 all_goals
  go_enter Tryz.func40, Tryz.ntmps40
  go_wp2_with fail
  go_ret
  exact ⟨rfl, (Below.refl _ _).alloc (Nat.le_refl _) _⟩

theorem pre_not {n ct cl : Int} (h : preB n ct cl = true) : ¬ n < 1 ∧ ¬ 64 < n ∧ ¬ ct < 0 ∧ ¬ 4294967295 < ct ∧ ¬ cl < 0 ∧ ¬ 4294967295 < cl := by
 simp [preB] at h
 omega

set_option maxRecDepth 100000 in
set_option maxHeartbeats 1000000 in
theorem ocheck_bare (o : ObjD) (ho : o.ok) (n : Int) (b : Bool) (w : World) (h : preB n o.ct o.cl = true) (hk : (b = false ∧ (o.kd = 0 ∨ o.kd = 3)) ∨ (b = true ∧ o.kd = 2)) : Calls Tryz.prog 40 #[.agg o.cells.toArray, .int .i64 n] w fun e w' => e = .returned (.int .i64 (errB (bareB o b))) ∧ Below w.heap.size w w' := by
 have HB := Lib.hid (fun W => bare_any o ho b W)
 obtain ⟨cs, hc⟩ : ∃ cs, cs = o.cells.toArray := ⟨_, rfl⟩
 rw [← hc] at HB ⊢
 have K := Blk.new w 62 cs
 have h163 : cs.size = 163 := by rw [hc]; simpa using ObjD.len ho
 have c0 : (w.alloc (.cells cs 62)).cell? ⟨w.heap.size, 0, none⟩ = some (.int .i64 o.kd) := (obj_range K hc 0).trans rfl
 have c1 : (w.alloc (.cells cs 62)).cell? ⟨w.heap.size, 1, none⟩ = some (.int .i64 o.ct) := (obj_range K hc 1).trans rfl
 have c2 : (w.alloc (.cells cs 62)).cell? ⟨w.heap.size, 2, none⟩ = some (.int .i64 o.cl) := (obj_range K hc 2).trans rfl
 have hr : (loadVar 62 ⟨w.heap.size, 0, none⟩).run Tryz.prog (w.alloc (.cells cs 62)) = .ok (.agg cs) (w.alloc (.cells cs 62)) :=
  run_loadVar_row _ _ _ _ cs _ _ K Tryz.underlying62 rfl (by rw [h163]; kernel_rfl)
 have HR := Lib.hid hr
 clear K hc h163 hr
 generalize bareB o b = q at *
 generalize o.ct = ct at *
 generalize o.cl = cl at *
 generalize o.kd = kd at *
 clear ho
 obtain ⟨h1, h2, h3, h4, h5, h6⟩ := pre_not h
 clear h
 have he : errB true = 0 := rfl
 have he2 : errB false = 2 := rfl
 rcases hk with ⟨rfl, rfl | rfl⟩ | ⟨rfl, rfl⟩
 all_goals
  go_enter Tryz.func40, Tryz.ntmps40
  go_wp2_with (refine wpList_load_midG rfl 62 _ rfl w.heap.size 0 rfl cs HR.out ?_)
  refine (HB.out _).mono ?_; rintro e w1 ⟨rfl, hb⟩
  have hbb := ((Below.refl w.heap.size w).alloc (Nat.le_refl _) (.cells cs 62)).trans (hb.mono (by simp))
  cases q
  all_goals
   go_wp2_with fail
   go_ret
   exact ⟨rfl, hbb⟩

set_option maxRecDepth 100000 in
set_option maxHeartbeats 1000000 in
theorem ocheck_else (o : ObjD) (n : Int) (w : World) (h : preB n o.ct o.cl = true) (k0 : o.kd ≠ 0) (k1 : o.kd ≠ 1) (k2 : o.kd ≠ 2) (k3 : o.kd ≠ 3) : Calls Tryz.prog 40 #[.agg o.cells.toArray, .int .i64 n] w fun e w' => e = .returned (.int .i64 2) ∧ Below w.heap.size w w' := by
 obtain ⟨cs, hc⟩ : ∃ cs, cs = o.cells.toArray := ⟨_, rfl⟩
 rw [← hc]
 have K := Blk.new w 62 cs
 have c0 : (w.alloc (.cells cs 62)).cell? ⟨w.heap.size, 0, none⟩ = some (.int .i64 o.kd) := (obj_range K hc 0).trans rfl
 have c1 : (w.alloc (.cells cs 62)).cell? ⟨w.heap.size, 1, none⟩ = some (.int .i64 o.ct) := (obj_range K hc 1).trans rfl
 have c2 : (w.alloc (.cells cs 62)).cell? ⟨w.heap.size, 2, none⟩ = some (.int .i64 o.cl) := (obj_range K hc 2).trans rfl
 clear K hc
 generalize o.ct = ct at *
 generalize o.cl = cl at *
 generalize o.kd = kd at *
 obtain ⟨h1, h2, h3, h4, h5, h6⟩ := pre_not h
 clear h
 go_enter Tryz.func40, Tryz.ntmps40
 go_wp2_with fail
 go_ret
 exact ⟨rfl, (Below.refl _ _).alloc (Nat.le_refl _) _⟩
end Go.Proofs.YtdpniceapmikpaaGreat
namespace Go.Proofs.YtdpniceapmikpaaGreat
open Go.RowKit

theorem all_take (l : List KeyD) (p : KeyD → Bool) (j : Nat) (x : KeyD) (h : l[j]? = some x) : (l.take (j + 1)).all p = ((l.take j).all p && p x) := by
 rw [List.take_add_one, h]
 simp
theorem slotB_no {n : Int} {x : KeyD} (h : ofB x.k x.o x.c x.a x.r x.v = false) : slotB n x = false := by unfold slotB; rw [h]; rfl
theorem slotB_free {n : Int} {x : KeyD} (h : ofB x.k x.o x.c x.a x.r x.v = true) (h2 : namesB x.k x.o x.c x.a x.r x.v = false) : slotB n x = true := by unfold slotB; rw [h, h2]; rfl
theorem slotB_named {n : Int} {x : KeyD} (h : ofB x.k x.o x.c x.a x.r x.v = true) (h2 : namesB x.k x.o x.c x.a x.r x.v = true) : slotB n x = decide (x.o < n) := by unfold slotB; rw [h, h2]; simp

set_option maxRecDepth 100000 in
set_option maxHeartbeats 4000000 in
theorem ocheck_node (o : ObjD) (ho : o.ok) (n : Int) (w : World) (h : preB n o.ct o.cl = true) (hk : o.kd = 1) : Calls Tryz.prog 40 #[.agg o.cells.toArray, .int .i64 n] w fun e w' => e = .returned (.int .i64 (errB (o.slots.all (slotB n)))) ∧ Below w.heap.size w w' := by
 obtain ⟨cs, hc⟩ : ∃ cs, cs = o.cells.toArray := ⟨_, rfl⟩
 rw [← hc]
 have K := Blk.new w 62 cs
 have c0 : (w.alloc (.cells cs 62)).cell? ⟨w.heap.size, 0, none⟩ = some (.int .i64 1) := (obj_range K hc 0).trans (by rw [← hk]; rfl)
 have c1 : (w.alloc (.cells cs 62)).cell? ⟨w.heap.size, 1, none⟩ = some (.int .i64 o.ct) := (obj_range K hc 1).trans rfl
 have c2 : (w.alloc (.cells cs 62)).cell? ⟨w.heap.size, 2, none⟩ = some (.int .i64 o.cl) := (obj_range K hc 2).trans rfl
 have l1 := Lib.hid (load_slots ho K hc)
 have hl : o.slots.length = 16 := ho.1
 have HX := Lib.hid (fun j x hx W => slots_index o.slots hl j x hx W)
 clear K hc ho hk
 generalize o.ct = ct at *
 generalize o.cl = cl at *
 generalize o.slots = l at *
 generalize (slotCells l).toArray = S at *
 obtain ⟨h1, h2, h3, h4, h5, h6⟩ := pre_not h
 clear h
 have HL := Lib.hid hl
 obtain ⟨q, hq⟩ : ∃ q, q = l.all (slotB n) := ⟨_, rfl⟩
 rw [← hq]
 have HQ := Lib.hid hq
 clear hq
 go_enter Tryz.func40, Tryz.ntmps40
 go_wp2_with (refine wpList_load_midG rfl 59 _ rfl w.heap.size 3 rfl S l1.out ?_)
 have hB0 := (Below.refl w.heap.size w).alloc (Nat.le_refl _) (.cells cs 62)
 clear c0 c1 c2 l1
 go_loopw [5, 52] (fun f i wr => ∃ j : Nat, j ≤ 16 ∧ i = .int .i64 j ∧ f = .bool ((l.take j).all (slotB n)) ∧ Below w.heap.size w wr) (fun _ i _ => 16 - (intOf i).toNat)
 case atStart => exact ⟨0, by omega, rfl, rfl, hB0⟩
 case round =>
  clear hB0
  obtain ⟨j, hj, rfl, rfl, hB⟩ := hrel
  have he : errB true = 0 := rfl
  have he2 : errB false = 2 := rfl
  by_cases hlt : j < 16
  ·obtain ⟨x, hx⟩ : ∃ x, l[j]? = some x := ⟨_, List.getElem?_eq_getElem (by omega)⟩
   have hidx := HX.out j x hx wr
   have hT := all_take l (slotB n) j x hx
   have HF0 := Lib.hid (@slotB_no n x)
   have HF1 := Lib.hid (@slotB_free n x)
   have HF2 := Lib.hid (@slotB_named n x)
   obtain ⟨f0, hf0⟩ : ∃ f0, f0 = (l.take j).all (slotB n) := ⟨_, rfl⟩
   rw [← hf0] at hT ⊢
   have HT := Lib.hid hT
   clear hT hf0 hx
   obtain ⟨kk, ko, kc, ka, kr, kv⟩ := x
   simp only at hidx HF0 HF1 HF2
   have hz := hB.size
   go_wp2_with fail
   have K1 : Blk (wr.alloc (.cells #[.int .i64 kk, .int .i64 ko, .int .i64 kc, .int .i64 ka, .int .i64 kr, .int .i64 kv] 58)) wr.heap.size 58 (keyV kk ko kc ka kr kv) := Blk.new wr _ _
   refine (names_any kk ko kc ka kr kv _).mono ?_; rintro e w1 ⟨rfl, hb⟩
   have K2 := K1.below hb (by simp)
   have hB2 := (hB.alloc hz (.cells #[.int .i64 kk, .int .i64 ko, .int .i64 kc, .int .i64 ka, .int .i64 kr, .int .i64 kv] 58)).trans (hb.mono (by simp; omega))
   obtain ⟨x0, x1, x2, x3, x4, x5⟩ := K2.key
   clear hidx K1 K2 hb hB
   cases f0
   ·have hT2 : (l.take (j + 1)).all (slotB n) = false := HT.out
    have HT2 := Lib.hid hT2
    clear hT2
    cases hN : namesB kk ko kc ka kr kv
    all_goals
     go_wp2_with fail
     exact ⟨⟨j + 1, by omega, by go_num, by rw [HT2.out], hB2⟩, by simp [intOf] <;> omega⟩
   ·cases hB : ofB kk ko kc ka kr kv
    ·have hT2 : (l.take (j + 1)).all (slotB n) = false := HT.out.trans (by rw [HF0.out hB]; rfl)
     have HT2 := Lib.hid hT2
     clear hT2
     cases hN : namesB kk ko kc ka kr kv
     all_goals
      go_wp2_with fail
      refine (check_any kk ko kc ka kr kv _).mono ?_; rintro e w2 ⟨rfl, hb⟩
      have hB3 := hB2.trans (hb.mono hB2.size)
      rw [hB]
      go_wp2_with fail
      exact ⟨⟨j + 1, by omega, by go_num, by rw [HT2.out], hB3⟩, by simp [intOf] <;> omega⟩
    ·cases hN : namesB kk ko kc ka kr kv
     ·have hT2 : (l.take (j + 1)).all (slotB n) = true := HT.out.trans (by rw [HF1.out hB hN]; rfl)
      have HT2 := Lib.hid hT2
      clear hT2
      go_wp2_with fail
      refine (check_any kk ko kc ka kr kv _).mono ?_; rintro e w2 ⟨rfl, hb⟩
      have hB3 := hB2.trans (hb.mono hB2.size)
      rw [hB]
      go_wp2_with fail
      exact ⟨⟨j + 1, by omega, by go_num, by rw [HT2.out], hB3⟩, by simp [intOf] <;> omega⟩
     ·have hT2 : (l.take (j + 1)).all (slotB n) = decide (ko < n) := HT.out.trans (by rw [HF2.out hB hN]; rfl)
      have HT2 := Lib.hid hT2
      clear hT2
      go_wp2_with fail
      refine (check_any kk ko kc ka kr kv _).mono ?_; rintro e w2 ⟨rfl, hb⟩
      have hB3 := hB2.trans (hb.mono hB2.size)
      rw [hB]
      go_wp2_with fail
      exact ⟨⟨j + 1, by omega, by go_num, by rw [HT2.out], hB3⟩, by simp [intOf] <;> omega⟩
  ·obtain rfl : j = 16 := by omega
   have hT : (l.take 16).all (slotB n) = q := by rw [List.take_of_length_le (by rw [HL.out]; omega), HQ.out]
   rw [hT]
   clear hT
   cases q
   all_goals
    go_wp2_with fail
    go_ret
    exact ⟨rfl, hB⟩

/-- objects.Check -/
theorem ocheck_any (o : ObjD) (ho : o.ok) (n : Int) (w : World) : Calls Tryz.prog 40 #[.agg o.cells.toArray, .int .i64 n] w fun e w' => e = .returned (.int .i64 (errB (objB o n))) ∧ Below w.heap.size w w' := by
 unfold objB
 cases h : preB n o.ct o.cl
 ·exact ocheck_pre o n w h
 ·rw [Bool.true_and]
  by_cases k0 : o.kd = 0
  ·rw [if_pos k0]; exact ocheck_bare o ho n false w h (.inl ⟨rfl, .inl k0⟩)
  by_cases k3 : o.kd = 3
  ·rw [if_neg k0, if_pos k3]; exact ocheck_bare o ho n false w h (.inl ⟨rfl, .inr k3⟩)
  by_cases k2 : o.kd = 2
  ·rw [if_neg k0, if_neg k3, if_pos k2]; exact ocheck_bare o ho n true w h (.inr ⟨rfl, k2⟩)
  by_cases k1 : o.kd = 1
  ·rw [if_neg k0, if_neg k3, if_neg k2, if_pos k1]; exact ocheck_node o ho n w h k1
  rw [if_neg k0, if_neg k3, if_neg k2, if_neg k1]; exact ocheck_else o n w h k0 k1 k2 k3
end Go.Proofs.YtdpniceapmikpaaGreat
namespace Go.Proofs.YtdpniceapmikpaaGreat
open Go.RowKit

section
variable {P : Program} {ops : Array Oper} {rest : List Oper} {o : Oper} {a : Act} {w : World} {Q : Exit → Act → World → Prop}
end

def rightsOk (o : ObjD) : Prop := ∀ x ∈ o.slots, x.r < 9223372036854775808
end Go.Proofs.YtdpniceapmikpaaGreat
namespace Go.Proofs.YtdpniceapmikpaaGreat
open Go.RowKit

end Go.Proofs.YtdpniceapmikpaaGreat
