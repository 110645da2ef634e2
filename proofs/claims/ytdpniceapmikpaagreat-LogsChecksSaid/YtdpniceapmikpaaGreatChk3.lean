/-
  Words for maps with integer keys that are known whole: stores of new keys, look-ups; for all worlds.
  The contracts of sums.wide and of the closure of sums.Put.
  The contract of sums.Put, for all numbers.
  The contract of sums.Get, for all bytes.
  The contracts of the reference's Crc and Wide, for all bytes.
  The contracts of the reference's Put and Get, for all numbers and bytes.
  Reslicing a slice of bytes that is read.
  DERIVED: THE SHELF's CONTRACTS AT THIS DUMP, IN PLAIN WORDS (tools/lay-plain.mjs out of 'TryzShelf.lean', which tools/lay-shelf.mjs wrote): THE SAME DECLARATIONS UNDER THE SAME NAMES: 'import', 'namespace', 'open', 'def', 'theorem' AND NOTHING ELSE: no command of the shelf's: FOR A HAND-IN. Each laying: the table of numbers ('.._ren') and one theorem, a field a fact of the dump's own or the kernel's comparison; each contract: ONE APPLICATION.
-/
import Derived.Deep.OwnRows
import Derived.Deep.AppendLies
import Derived.Ground.SlgnProg
import Derived.Shelf.SlicesE.Equal
import Derived.Shelf.Spec.SlicesGrow
import Derived.Ground.Names8Prog
import Derived.Ground.SlgfProg
import Derived.Shelf.SlicesE.IndexFunc
import Derived.Shelf.Bytes.SlEqualAll
import Derived.Shelf.Bytes.Small
import Derived.Test.YtdpniceapmikpaaGreatProg
import Derived.Test.YtdpniceapmikpaaGreatChk1
import Derived.Test.YtdpniceapmikpaaGreatChk2
set_option linter.unusedVariables false
set_option linter.unusedSimpArgs false
namespace Go.Proofs.YtdpniceapmikpaaGreat
open Go.RowKit

/-- only block r has turned, and nothing is new -/
structure Turn (r : Nat) (w w' : World) : Prop where
  os : w'.os = w.os
  tape : w'.tape = w.tape
  output : w'.output = w.output
  size : w'.heap.size = w.heap.size
  block : ∀ i, i ≠ r → w'.heap[i]? = w.heap[i]?

theorem Turn.below {r B : Nat} {a w w' : World} (h : Turn r w w') (hb : Below B a w) (hr : B ≤ r) : Below B a w' :=
  hb.trans ⟨h.os, h.tape, h.output, by rw [h.size]; exact Nat.le_refl _, fun i hi => h.block i (by omega)⟩
theorem Turn.blk {r : Nat} {w w' : World} (h : Turn r w w') {g : Nat} {t : TypeId} {cs : Array Value} (hb : Blk w g t cs) (hg : g ≠ r) : Blk w' g t cs := (h.block g hg).trans hb
theorem Blk.ne_ {w : World} {g g' : Nat} {t t' : TypeId} {cs cs' : Array Value} (h : Blk w g t cs) (h' : Blk w g' t' cs') (hne : t ≠ t') : g ≠ g' := by
  rintro rfl
  unfold Blk at h h'
  rw [h] at h'
  injection h' with h'
  injection h' with _ ht
  exact hne ht

/-- the entries of a map whose keys were stored in this order, none twice -/
def entriesOf (kd : IntKind) (l : List (Int × Value)) : Array MapEntry := (l.zipIdx.map fun x => ⟨.int kd x.1.1, x.1.2, x.2⟩).toArray
def MapAt (w : World) (r : Nat) (kd : IntKind) (l : List (Int × Value)) : Prop := w.heap[r]? = some (.map (entriesOf kd l) l.length)

theorem MapAt.lt {w : World} {r : Nat} {kd : IntKind} {l : List (Int × Value)} (h : MapAt w r kd l) : r < w.heap.size := by
  rcases Nat.lt_or_ge r w.heap.size with hlt | hge
  · exact hlt
  · unfold MapAt at h; rw [Array.getElem?_eq_none hge] at h; cases h
theorem MapAt.new (w : World) (kd : IntKind) : MapAt (w.alloc (.map #[] 0)) w.heap.size kd [] := heap_alloc_new w _
theorem MapAt.alloc {w : World} {r : Nat} {kd : IntKind} {l : List (Int × Value)} (h : MapAt w r kd l) (o : Obj) : MapAt (w.alloc o) r kd l := (Below.heap_alloc w o r h.lt).trans h
theorem MapAt.drew {w : World} {r : Nat} {kd : IntKind} {l : List (Int × Value)} (h : MapAt w r kd l) : MapAt w.drew r kd l := h
theorem MapAt.below {w w' : World} {r B : Nat} {kd : IntKind} {l : List (Int × Value)} (h : MapAt w r kd l) (hb : Below B w w') (hr : r < B) : MapAt w' r kd l := (hb.block r hr).trans h

theorem entriesOf_push (kd : IntKind) (l : List (Int × Value)) (n : Int) (v : Value) : entriesOf kd (l ++ [(n, v)]) = (entriesOf kd l).push ⟨.int kd n, v, l.length⟩ := by
  unfold entriesOf
  rw [List.zipIdx_append, List.map_append]
  simp

theorem findNow_entries (kd : IntKind) (n : Int) : ∀ (l : List (Int × Value)) (i j : Nat),
    Instr.findNow (.int kd) (.int kd n) ((l.zipIdx j).map fun x => (⟨.int kd x.1.1, x.1.2, x.2⟩ : MapEntry)) i =
      some ((l.zipIdx i).find? (fun x => n == x.1.1) |>.map fun x => (x.2, x.1.2))
  | [], i, j => rfl
  | x :: l, i, j => by
    simp only [List.zipIdx_cons, List.map_cons, Instr.findNow, Instr.sameNow, if_true, List.find?_cons]
    cases h : (n == x.1)
    · simp only [findNow_entries kd n l (i + 1) (j + 1)]
    · simp

/-- what a look-up finds -/
def lookOf (l : List (Int × Value)) (n : Int) : Option Value := (l.find? fun x => n == x.1).map (·.2)

theorem find_zipIdx (n : Int) : ∀ (l : List (Int × Value)) (i : Nat), ((l.zipIdx i).find? (fun x => n == x.1.1)).map (fun x => x.1.2) = lookOf l n
  | [], _ => rfl
  | x :: l, i => by
    simp only [List.zipIdx_cons, List.find?_cons, lookOf]
    cases h : (n == x.1)
    · simpa [lookOf] using find_zipIdx n l (i + 1)
    · simp

section
variable {P : Program} {t k e : TypeId} {kd : IntKind}

theorem run_findKey (w : World) (hk : P.underlying k = some (.int kd)) (l : List (Int × Value)) (n : Int) :
    (Instr.findKey k (.int kd n) (entriesOf kd l).toList).run P w = .ok (((l.zipIdx 0).find? (fun x => n == x.1.1)).map fun x => (x.2, x.1.2)) w := by
  unfold Instr.findKey entriesOf
  simp only [Sem.run_bind, run_underlying hk, Result.andThen, findNow_entries kd n l 0 0]
  rfl

theorem run_checkKey_int (w : World) (b : Bool) (n : Nat) (hk : P.underlying k = some (.int kd)) (v : Value) : (Instr.checkKey b (n + 1) k v).run P w = .ok () w := by
  unfold Instr.checkKey
  simp only [Sem.run_bind, run_underlying hk, Result.andThen]
  cases v <;> rfl

theorem run_insert_new (w : World) (ht : P.underlying t = some (.map k e)) (hk : P.underlying k = some (.int kd)) (r : Nat) (l : List (Int × Value)) (hm : MapAt w r kd l) (n : Int) (hn : lookOf l n = none) (v : Value) :
    ∃ w', (Instr.mapUpdate t (.map (some r)) (.int kd n) v).run P w = .ok () w' ∧ MapAt w' r kd (l ++ [(n, v)]) ∧ Turn r w w' := by
  have hf : (((l.zipIdx 0).find? (fun x => n == x.1.1)).map fun x => (x.2, x.1.2)) = none := by
    have := find_zipIdx n l 0
    rw [hn] at this
    simpa using this
  refine ⟨{ w with heap := w.heap.setIfInBounds r (.map ((entriesOf kd l).push ⟨.int kd n, v, l.length⟩) (l.length + 1)) }, ?_, ?_, ?_⟩
  · unfold Instr.mapUpdate
    simp only [Sem.run_bind, run_underlying ht, Result.andThen, MapKept.run_getObj_map hm, run_checkKey_int w false 9999 hk, run_findKey w hk, hf]
    exact MapKept.run_setObj_map _ hm
  · unfold MapAt
    rw [entriesOf_push]
    simp [hm.lt]
  · exact ⟨rfl, rfl, rfl, by simp, fun i hi => by simp [Array.getElem?_setIfInBounds_ne (fun e => hi e.symm)]⟩

theorem run_lookup_ok (w : World) (ht : P.underlying t = some (.map k e)) (hk : P.underlying k = some (.int kd)) (r : Nat) (l : List (Int × Value)) (hm : MapAt w r kd l) (n : Int) (v : Value) (hn : lookOf l n = some v) (ok : Bool) :
    (Instr.lookup t (.map (some r)) (.int kd n) ok).run P w = .ok (if ok then .tuple #[v, .bool true] else v) w := by
  have hf := find_zipIdx n l 0
  rw [hn] at hf
  obtain ⟨x, hx, hv⟩ := Option.map_eq_some_iff.1 hf
  unfold Instr.lookup
  simp only [Sem.run_bind, run_underlying ht, Result.andThen, MapKept.run_getObj_map hm, run_checkKey_int w _ 9999 hk, run_findKey w hk, hx, Option.map_some, Sem.run_pure, hv]

theorem run_lookup_none (w : World) (ht : P.underlying t = some (.map k e)) (hk : P.underlying k = some (.int kd)) (r : Nat) (l : List (Int × Value)) (hm : MapAt w r kd l) (n : Int) (z : Value) (hz : (zeroValue e).run P w = .ok z w) (hn : lookOf l n = none) (ok : Bool) :
    (Instr.lookup t (.map (some r)) (.int kd n) ok).run P w = .ok (if ok then .tuple #[z, .bool false] else z) w := by
  have hf : (((l.zipIdx 0).find? (fun x => n == x.1.1)).map fun x => (x.2, x.1.2)) = none := by
    have := find_zipIdx n l 0
    rw [hn] at this
    simpa using this
  unfold Instr.lookup
  simp only [Sem.run_bind, run_underlying ht, Result.andThen, MapKept.run_getObj_map hm, run_checkKey_int w _ 9999 hk, run_findKey w hk, hf, Sem.run_pure, hz]

theorem wpList_insert_new (w : World) {ops : Array Oper} {rest : List Oper} {o : Oper} {a : Act} {Q : Exit → Act → World → Prop}
    (hg : o.guard = none) (m x y : Operand) (hop : o.op = Op.insert t m x y)
    (ht : P.underlying t = some (.map k e)) (hk : P.underlying k = some (.int kd)) (r : Nat) (l : List (Int × Value)) (hma : a.eval m = .map (some r)) (hm : MapAt w r kd l) (n : Int) (hx : a.eval x = .int kd n) (hn : lookOf l n = none) (v : Value) (hv : a.eval y = v)
    (hK : ∀ w', MapAt w' r kd (l ++ [(n, v)]) → Turn r w w' → wpList P ops Q rest (a.put o.dst undef) w') :
    wpList P ops Q (o :: rest) a w := by
  refine wpList_plain hg fun K' hK' => ?_
  obtain ⟨w', hrun, r1, r2⟩ := run_insert_new (P := P) w ht hk r l hm n hn v
  unfold Oper.wp
  simp [execOp, hop, hma, hx, hv, hrun, Result.andThen]
  exact hK' _ _ (hK w' r1 r2)
end
end Go.Proofs.YtdpniceapmikpaaGreat
namespace Go.Proofs.YtdpniceapmikpaaGreat
open Go.RowKit

def wideB (k : Int) : Bool := (k == 2) || (k == 4) || (k == 8)
def wideL : List (Int × Value) := [(2, .bool true), (4, .bool true), (8, .bool true)]
theorem wideL_yes (k : Int) (h : k = 2 ∨ k = 4 ∨ k = 8) : lookOf wideL k = some (.bool true) := by
  rcases h with rfl | rfl | rfl <;> rfl
theorem wideL_no (k : Int) (h : ¬ (k = 2 ∨ k = 4 ∨ k = 8)) : lookOf wideL k = none := by
  have h2 : (k == 2) = false := by simp; omega
  have h4 : (k == 4) = false := by simp; omega
  have h8 : (k == 8) = false := by simp; omega
  simp [lookOf, wideL, h2, h4, h8]

set_option maxHeartbeats 400000 in
theorem wide_any (k : Int) (w : World) : Calls Tryz.prog 136 #[.int .i64 k] w fun e w' => e = .returned (.bool (wideB k)) ∧ Below w.heap.size w w' := by
  have hmm := @run_makeMap Tryz.prog
  have m0 := MapAt.new w .i64
  have hb : Below w.heap.size w (w.alloc (.map #[] 0)) := (Below.refl _ _).alloc (Nat.le_refl _) _
  by_cases hk : k = 2 ∨ k = 4 ∨ k = 8
  · have e : wideB k = true := by rcases hk with rfl | rfl | rfl <;> rfl
    have hlk := wideL_yes k hk
    rw [e]
    go_enter Tryz.func136, Tryz.ntmps136
    go_wp2_with (first
      | (refine wpList_insert_new _ rfl _ _ _ rfl Tryz.underlying267 Tryz.underlying3 w.heap.size [] rfl m0 2 rfl rfl (.bool true) rfl ?_; intro wa ma ta)
      | (refine wpList_insert_new _ rfl _ _ _ rfl Tryz.underlying267 Tryz.underlying3 w.heap.size [(2, .bool true)] rfl ma 4 rfl rfl (.bool true) rfl ?_; intro wb mb tb)
      | (refine wpList_insert_new _ rfl _ _ _ rfl Tryz.underlying267 Tryz.underlying3 w.heap.size [(2, .bool true), (4, .bool true)] rfl mb 8 rfl rfl (.bool true) rfl ?_; intro wc mc tc; have hl : (Instr.lookup 267 (.map (some w.heap.size)) (.int .i64 k) false).run Tryz.prog wc = .ok (.bool true) wc := run_lookup_ok wc Tryz.underlying267 Tryz.underlying3 w.heap.size _ mc k _ hlk false))
    go_ret
    exact ⟨rfl, tc.below (tb.below (ta.below hb (Nat.le_refl _)) (Nat.le_refl _)) (Nat.le_refl _)⟩
  · have e : wideB k = false := by simp [wideB]; omega
    have hlk := wideL_no k hk
    rw [e]
    go_enter Tryz.func136, Tryz.ntmps136
    go_wp2_with (first
      | (refine wpList_insert_new _ rfl _ _ _ rfl Tryz.underlying267 Tryz.underlying3 w.heap.size [] rfl m0 2 rfl rfl (.bool true) rfl ?_; intro wa ma ta)
      | (refine wpList_insert_new _ rfl _ _ _ rfl Tryz.underlying267 Tryz.underlying3 w.heap.size [(2, .bool true)] rfl ma 4 rfl rfl (.bool true) rfl ?_; intro wb mb tb)
      | (refine wpList_insert_new _ rfl _ _ _ rfl Tryz.underlying267 Tryz.underlying3 w.heap.size [(2, .bool true), (4, .bool true)] rfl mb 8 rfl rfl (.bool true) rfl ?_; intro wc mc tc; have hl : (Instr.lookup 267 (.map (some w.heap.size)) (.int .i64 k) false).run Tryz.prog wc = .ok (.bool false) wc := run_lookup_none wc Tryz.underlying267 Tryz.underlying3 w.heap.size _ mc k _ (Tryz.zeroValue4 _) hlk false))
    go_ret
    exact ⟨rfl, tc.below (tb.below (ta.below hb (Nat.le_refl _)) (Nat.le_refl _)) (Nat.le_refl _)⟩

theorem next_any (m : Int) (N : Nat) (w : World) (hN : Blk w N 2 #[.int .i64 m]) (h0 : 0 ≤ m) (h1 : m ≤ 9223372036854775807) :
    Calls Tryz.prog 137 #[.pointer (some ⟨N, 0, none⟩)] w fun e w' => e = .returned (.int .u8 (m % 256)) ∧ w' = w.setCell ⟨N, 0, none⟩ (.int .i64 (m / 256)) := by
  have c := hN.cell_is 0 rfl
  have f := hN.frozen 0
  go_enter Tryz.func137, Tryz.ntmps137
  go_wp2
  go_ret
  exact ⟨rfl, rfl⟩

end Go.Proofs.YtdpniceapmikpaaGreat
namespace Go.Proofs.YtdpniceapmikpaaGreat
open Go.RowKit

/-- the i-th byte of a number, the lowest ahead -/
def byteAt (n i : Nat) : UInt8 := UInt8.ofNat (n / 256 ^ i % 256)
def leB (n k : Nat) : List UInt8 := (List.range k).map (byteAt n)
theorem leB_len (n k : Nat) : (leB n k).length = k := by simp [leB]
def putV (n k j : Nat) : Array Value := (Array.range k).map fun i => vu8 (if i < j then byteAt n i else 0)
theorem putV_size (n k j : Nat) : (putV n k j).size = k := by simp [putV]
theorem putV_at (n k j i : Nat) (h : i < k) : (putV n k j)[i]? = some (vu8 (if i < j then byteAt n i else 0)) := by simp [putV, h]
theorem putV_set (n k j : Nat) (h : j < k) : (putV n k j).setIfInBounds j (vu8 (byteAt n j)) = putV n k (j + 1) := by
  apply Array.ext_getElem?
  intro i
  rw [Array.getElem?_setIfInBounds]
  by_cases hi : i < k
  · rw [putV_at _ _ _ _ hi, putV_at _ _ _ _ hi]
    by_cases hik : j = i
    · subst hik; simp [putV_size, hi]
    · rw [if_neg hik]
      by_cases h1 : i < j
      · rw [if_pos h1, if_pos (by omega)]
      · rw [if_neg h1, if_neg (by omega)]
  · rw [Array.getElem?_eq_none (by rw [putV_size]; omega), Array.getElem?_eq_none (by rw [putV_size]; omega), if_neg (by omega)]
theorem putV_made (n k : Nat) : madeCells #[.int .u8 0] k = putV n k 0 := by
  apply Array.ext_getElem?
  intro i
  by_cases hi : i < k
  · rw [putV_at _ _ _ _ hi, if_neg (by omega)]
    simp [madeCells, hi, Nat.mod_one]
    try rfl
  · rw [Array.getElem?_eq_none (by simp [madeCells]; omega), Array.getElem?_eq_none (by rw [putV_size]; omega)]
theorem info_u8 : (Tryz.prog.info? 5).map (fun i => (i.zero, i.size, i.bytes)) = some (some (.int .u8 0), 1, 1) := by kernel_rfl
theorem own_bytes {W : World} {B g n : Nat} {e : TypeId} {l : List UInt8} {cs : Array Value} (h : Blk W g e cs) (hB : B ≤ g) (hcs : cs.toList = l.map vu8) (hn : l.length = n) (hm : n ≤ maxLen) : W.ownsRow B e 1 (.slice (some ⟨g, 0, none⟩) n n) n (l.map vu8) := by
  have hs : cs.size = n := by
    have := congrArg List.length hcs
    simpa [hn] using this
  refine ⟨by simp [hn], .inr ⟨g, n, cs, rfl, hB, h, Nat.le_refl _, hm, by omega, ?_⟩⟩
  rw [← hcs, List.take_of_length_le (by simp; omega)]
theorem putV_all (n k : Nat) : (putV n k k).toList = (leB n k).map vu8 := by
  apply List.ext_getElem?
  intro i
  rw [Array.getElem?_toList]
  by_cases hi : i < k
  · rw [putV_at _ _ _ _ hi, if_pos hi]; simp [leB, hi]
  · rw [Array.getElem?_eq_none (by rw [putV_size]; omega), List.getElem?_eq_none (by simp [leB]; omega)]
theorem byteAt_int (n i : Nat) : ((byteAt n i).toNat : Int) = ((n / 256 ^ i : Nat) : Int) % 256 := by
  unfold byteAt
  rw [UInt8.toNat_ofNat']
  omega
def putB (n : Nat) (k : Int) : Bool := wideB k && (decide (8 ≤ k) || (n / 2 ^ (8 * k.toNat) == 0))

theorem put_neg (n k : Int) (w : World) (h : n < 0) : Calls Tryz.prog 101 #[.int .i64 n, .int .i64 k] w fun e w' =>
    e = .returned (.tuple #[.slice none 0 0, .int .i64 2]) ∧ Below w.heap.size w w' := by
  go_enter Tryz.func101, Tryz.ntmps101
  go_wp2_with fail
  refine (wide_any k _).mono ?_; rintro e w1 ⟨rfl, hb⟩
  have K1 : Blk w1 w.heap.size 2 #[.int .i64 n] := (Blk.new w _ _).below hb (by simp)
  have hbb : Below w.heap.size w w1 := ((Below.refl _ _).alloc (Nat.le_refl _) _).trans (hb.mono (by simp))
  have c := K1.cell_is 0 rfl
  clear hb
  cases hW : wideB k
  all_goals
    go_wp2_with fail
    go_ret2
    exact ⟨rfl, hbb⟩

theorem put_narrow (n : Nat) (k : Int) (w : World) (h : wideB k = false) : Calls Tryz.prog 101 #[.int .i64 n, .int .i64 k] w fun e w' =>
    e = .returned (.tuple #[.slice none 0 0, .int .i64 2]) ∧ Below w.heap.size w w' := by
  go_enter Tryz.func101, Tryz.ntmps101
  go_wp2_with fail
  refine (wide_any k _).mono ?_; rintro e w1 ⟨rfl, hb⟩
  have hbb : Below w.heap.size w w1 := ((Below.refl _ _).alloc (Nat.le_refl _) _).trans (hb.mono (by simp))
  clear hb
  rw [h]
  go_wp2_with fail
  go_ret2
  exact ⟨rfl, hbb⟩

theorem put_big (n : Nat) (k : Int) (w : World) (hk : k = 2 ∨ k = 4) (h : n / 2 ^ (8 * k.toNat) ≠ 0) (hn : (n : Int) ≤ 9223372036854775807) : Calls Tryz.prog 101 #[.int .i64 n, .int .i64 k] w fun e w' =>
    e = .returned (.tuple #[.slice none 0 0, .int .i64 2]) ∧ Below w.heap.size w w' := by
  rcases hk with rfl | rfl
  all_goals
    simp at h
    go_enter Tryz.func101, Tryz.ntmps101
    go_wp2_with fail
    refine (wide_any _ _).mono ?_; rintro e w1 ⟨rfl, hb⟩
    have K1 : Blk w1 w.heap.size 2 #[.int .i64 n] := (Blk.new w _ _).below hb (by simp)
    have hbb : Below w.heap.size w w1 := ((Below.refl _ _).alloc (Nat.le_refl _) _).trans (hb.mono (by simp))
    have c := K1.cell_is 0 rfl
    have hne : ¬ (n : Int) < 0 := by omega
    clear hb
    simp only [show wideB 2 = true from rfl, show wideB 4 = true from rfl]
    go_wp2_with fail
    go_ret2
    exact ⟨rfl, hbb⟩

set_option maxRecDepth 100000 in
set_option maxHeartbeats 1000000 in
theorem put_2 (n : Nat) (w : World) (h : 2 < 8 → n / 2 ^ (8 * 2) = 0) (hn : (n : Int) ≤ 9223372036854775807) : Calls Tryz.prog 101 #[.int .i64 n, .int .i64 2] w fun e w' =>
    ∃ v, e = .returned (.tuple #[v, .int .i64 0]) ∧ w'.ownsRow w.heap.size 5 1 v 2 ((leB n 2).map vu8) ∧ Below w.heap.size w w' := by
  go_enter Tryz.func101, Tryz.ntmps101
  go_wp2_with fail
  refine (wide_any _ _).mono ?_; rintro e w1 ⟨rfl, hb⟩
  have K1 : Blk w1 w.heap.size 2 #[.int .i64 n] := (Blk.new w _ _).below hb (by simp)
  have hbb : Below w.heap.size w w1 := ((Below.refl _ _).alloc (Nat.le_refl _) _).trans (hb.mono (by simp))
  have c := K1.cell_is 0 rfl
  have hne : ¬ (n : Int) < 0 := by omega
  have hz := hbb.size
  clear hb
  try (have hq : (n : Int) / 65536 = 0 := by have := h (by omega); simp at this; omega)
  try (have hq : (n : Int) / 4294967296 = 0 := by have := h (by omega); simp at this; omega)
  clear h
  simp only [show wideB 2 = true from rfl, show wideB 4 = true from rfl, show wideB 8 = true from rfl]
  obtain ⟨i0, hi0, hz0, hz1, hz2⟩ := info_parts info_u8
  go_wp2_with (refine wpList_make_row _ rfl _ _ _ rfl 5 i0 _ Tryz.underlying26 hi0 hz0 hz1 rfl .i64 .i64 2 rfl rfl (by omega) (by omega) ?_)
  rw [putV_made n 2]
  have hG0 : Blk (w1.alloc (.cells (putV n 2 0) 5)) w1.heap.size 5 (putV n 2 0) := Blk.new w1 _ _
  have hN0 := K1.alloc (.cells (putV n 2 0) 5)
  have hB0 := hbb.alloc hz (.cells (putV n 2 0) 5)
  have hzl := K1.lt
  clear c hi0 hz0 hz1 hz2 K1 hbb
  generalize w1.alloc _ = W0 at *
  generalize w1.heap.size = G at *
  go_loopw [32] (fun i wr => ∃ j : Nat, j ≤ 2 ∧ i = .int .i64 j ∧ Blk wr w.heap.size 2 #[.int .i64 ((n / 256 ^ j : Nat) : Int)] ∧ Blk wr G 5 (putV n 2 j) ∧ Below w.heap.size w wr) (fun i _ => 2 - (intOf i).toNat)
  case atStart => exact ⟨0, by omega, rfl, by simpa using hN0, hG0, hB0⟩
  case round =>
    obtain ⟨j, hj, rfl, hN, hG, hB⟩ := hrel
    by_cases hlt : j < 2
    · have hb8 := byteAt_int n j
      have hdl : n / 256 ^ j ≤ n := Nat.div_le_self _ _
      have hdq : n / 256 ^ (j + 1) = n / 256 ^ j / 256 := by rw [Nat.pow_succ, ← Nat.div_div_eq_div_mul]
      have hps := putV_set n 2 j hlt
      have hpa := putV_at n 2 j j hlt
      generalize n / 256 ^ j = q at *
      have hps2 := Lib.hid hps
      have hdq2 := Lib.hid hdq
      clear hps hdq
      go_wp2_with fail
      refine (next_any _ _ _ hN (by omega) (by omega)).mono ?_; rintro e w2 ⟨rfl, rfl⟩
      have hG1 := hG.far (p := ⟨w.heap.size, 0, none⟩) (by simp; omega) (.int .i64 ((q : Int) / 256))
      have hN1 := hN.set_ 0 (.int .i64 ((q : Int) / 256))
      have hB1 := hB.setCell (p := ⟨w.heap.size, 0, none⟩) (by simp) (.int .i64 ((q : Int) / 256))
      clear hG hN hB
      generalize wr.setCell _ _ = W2 at *
      have cG := hG1.cell_is j hpa
      have fG := hG1.frozen j
      have HG := Lib.hid (hG1.set_ j (vu8 (byteAt n j)))
      have HN := Lib.hid (hN1.far (p := ⟨G, j, none⟩) (by simp; omega) (vu8 (byteAt n j)))
      have HB := Lib.hid (hB1.setCell (p := ⟨G, j, none⟩) (by simp; omega) (vu8 (byteAt n j)))
      clear hG1 hN1 hB1 hpa
      rw [← hb8]
      clear hb8
      go_wp2_with fail
      refine ⟨⟨j + 1, by omega, by go_num, ?_, ?_, HB.out⟩, by simp [intOf]; omega⟩
      · have h := HN.out
        have e1 : ((q : Int) / 256) = ((n / 256 ^ (j + 1) : Nat) : Int) := by rw [hdq2.out]; omega
        rw [e1] at h
        exact h
      · have h := HG.out
        rw [hps2.out] at h
        exact h
    · have hje : j = 2 := by omega
      subst hje
      go_wp2_with fail
      go_ret2
      exact ⟨_, rfl, own_bytes hG (by omega) (putV_all n _) (leB_len n _) (by simp [maxLen]), hB⟩

set_option maxRecDepth 100000 in
set_option maxHeartbeats 1000000 in
theorem put_4 (n : Nat) (w : World) (h : 4 < 8 → n / 2 ^ (8 * 4) = 0) (hn : (n : Int) ≤ 9223372036854775807) : Calls Tryz.prog 101 #[.int .i64 n, .int .i64 4] w fun e w' =>
    ∃ v, e = .returned (.tuple #[v, .int .i64 0]) ∧ w'.ownsRow w.heap.size 5 1 v 4 ((leB n 4).map vu8) ∧ Below w.heap.size w w' := by
  go_enter Tryz.func101, Tryz.ntmps101
  go_wp2_with fail
  refine (wide_any _ _).mono ?_; rintro e w1 ⟨rfl, hb⟩
  have K1 : Blk w1 w.heap.size 2 #[.int .i64 n] := (Blk.new w _ _).below hb (by simp)
  have hbb : Below w.heap.size w w1 := ((Below.refl _ _).alloc (Nat.le_refl _) _).trans (hb.mono (by simp))
  have c := K1.cell_is 0 rfl
  have hne : ¬ (n : Int) < 0 := by omega
  have hz := hbb.size
  clear hb
  try (have hq : (n : Int) / 65536 = 0 := by have := h (by omega); simp at this; omega)
  try (have hq : (n : Int) / 4294967296 = 0 := by have := h (by omega); simp at this; omega)
  clear h
  simp only [show wideB 2 = true from rfl, show wideB 4 = true from rfl, show wideB 8 = true from rfl]
  obtain ⟨i0, hi0, hz0, hz1, hz2⟩ := info_parts info_u8
  go_wp2_with (refine wpList_make_row _ rfl _ _ _ rfl 5 i0 _ Tryz.underlying26 hi0 hz0 hz1 rfl .i64 .i64 4 rfl rfl (by omega) (by omega) ?_)
  rw [putV_made n 4]
  have hG0 : Blk (w1.alloc (.cells (putV n 4 0) 5)) w1.heap.size 5 (putV n 4 0) := Blk.new w1 _ _
  have hN0 := K1.alloc (.cells (putV n 4 0) 5)
  have hB0 := hbb.alloc hz (.cells (putV n 4 0) 5)
  have hzl := K1.lt
  clear c hi0 hz0 hz1 hz2 K1 hbb
  generalize w1.alloc _ = W0 at *
  generalize w1.heap.size = G at *
  go_loopw [32] (fun i wr => ∃ j : Nat, j ≤ 4 ∧ i = .int .i64 j ∧ Blk wr w.heap.size 2 #[.int .i64 ((n / 256 ^ j : Nat) : Int)] ∧ Blk wr G 5 (putV n 4 j) ∧ Below w.heap.size w wr) (fun i _ => 4 - (intOf i).toNat)
  case atStart => exact ⟨0, by omega, rfl, by simpa using hN0, hG0, hB0⟩
  case round =>
    obtain ⟨j, hj, rfl, hN, hG, hB⟩ := hrel
    by_cases hlt : j < 4
    · have hb8 := byteAt_int n j
      have hdl : n / 256 ^ j ≤ n := Nat.div_le_self _ _
      have hdq : n / 256 ^ (j + 1) = n / 256 ^ j / 256 := by rw [Nat.pow_succ, ← Nat.div_div_eq_div_mul]
      have hps := putV_set n 4 j hlt
      have hpa := putV_at n 4 j j hlt
      generalize n / 256 ^ j = q at *
      have hps2 := Lib.hid hps
      have hdq2 := Lib.hid hdq
      clear hps hdq
      go_wp2_with fail
      refine (next_any _ _ _ hN (by omega) (by omega)).mono ?_; rintro e w2 ⟨rfl, rfl⟩
      have hG1 := hG.far (p := ⟨w.heap.size, 0, none⟩) (by simp; omega) (.int .i64 ((q : Int) / 256))
      have hN1 := hN.set_ 0 (.int .i64 ((q : Int) / 256))
      have hB1 := hB.setCell (p := ⟨w.heap.size, 0, none⟩) (by simp) (.int .i64 ((q : Int) / 256))
      clear hG hN hB
      generalize wr.setCell _ _ = W2 at *
      have cG := hG1.cell_is j hpa
      have fG := hG1.frozen j
      have HG := Lib.hid (hG1.set_ j (vu8 (byteAt n j)))
      have HN := Lib.hid (hN1.far (p := ⟨G, j, none⟩) (by simp; omega) (vu8 (byteAt n j)))
      have HB := Lib.hid (hB1.setCell (p := ⟨G, j, none⟩) (by simp; omega) (vu8 (byteAt n j)))
      clear hG1 hN1 hB1 hpa
      rw [← hb8]
      clear hb8
      go_wp2_with fail
      refine ⟨⟨j + 1, by omega, by go_num, ?_, ?_, HB.out⟩, by simp [intOf]; omega⟩
      · have h := HN.out
        have e1 : ((q : Int) / 256) = ((n / 256 ^ (j + 1) : Nat) : Int) := by rw [hdq2.out]; omega
        rw [e1] at h
        exact h
      · have h := HG.out
        rw [hps2.out] at h
        exact h
    · have hje : j = 4 := by omega
      subst hje
      go_wp2_with fail
      go_ret2
      exact ⟨_, rfl, own_bytes hG (by omega) (putV_all n _) (leB_len n _) (by simp [maxLen]), hB⟩

set_option maxRecDepth 100000 in
set_option maxHeartbeats 1000000 in
theorem put_8 (n : Nat) (w : World) (h : 8 < 8 → n / 2 ^ (8 * 8) = 0) (hn : (n : Int) ≤ 9223372036854775807) : Calls Tryz.prog 101 #[.int .i64 n, .int .i64 8] w fun e w' =>
    ∃ v, e = .returned (.tuple #[v, .int .i64 0]) ∧ w'.ownsRow w.heap.size 5 1 v 8 ((leB n 8).map vu8) ∧ Below w.heap.size w w' := by
  go_enter Tryz.func101, Tryz.ntmps101
  go_wp2_with fail
  refine (wide_any _ _).mono ?_; rintro e w1 ⟨rfl, hb⟩
  have K1 : Blk w1 w.heap.size 2 #[.int .i64 n] := (Blk.new w _ _).below hb (by simp)
  have hbb : Below w.heap.size w w1 := ((Below.refl _ _).alloc (Nat.le_refl _) _).trans (hb.mono (by simp))
  have c := K1.cell_is 0 rfl
  have hne : ¬ (n : Int) < 0 := by omega
  have hz := hbb.size
  clear hb
  try (have hq : (n : Int) / 65536 = 0 := by have := h (by omega); simp at this; omega)
  try (have hq : (n : Int) / 4294967296 = 0 := by have := h (by omega); simp at this; omega)
  clear h
  simp only [show wideB 2 = true from rfl, show wideB 4 = true from rfl, show wideB 8 = true from rfl]
  obtain ⟨i0, hi0, hz0, hz1, hz2⟩ := info_parts info_u8
  go_wp2_with (refine wpList_make_row _ rfl _ _ _ rfl 5 i0 _ Tryz.underlying26 hi0 hz0 hz1 rfl .i64 .i64 8 rfl rfl (by omega) (by omega) ?_)
  rw [putV_made n 8]
  have hG0 : Blk (w1.alloc (.cells (putV n 8 0) 5)) w1.heap.size 5 (putV n 8 0) := Blk.new w1 _ _
  have hN0 := K1.alloc (.cells (putV n 8 0) 5)
  have hB0 := hbb.alloc hz (.cells (putV n 8 0) 5)
  have hzl := K1.lt
  clear c hi0 hz0 hz1 hz2 K1 hbb
  generalize w1.alloc _ = W0 at *
  generalize w1.heap.size = G at *
  go_loopw [32] (fun i wr => ∃ j : Nat, j ≤ 8 ∧ i = .int .i64 j ∧ Blk wr w.heap.size 2 #[.int .i64 ((n / 256 ^ j : Nat) : Int)] ∧ Blk wr G 5 (putV n 8 j) ∧ Below w.heap.size w wr) (fun i _ => 8 - (intOf i).toNat)
  case atStart => exact ⟨0, by omega, rfl, by simpa using hN0, hG0, hB0⟩
  case round =>
    obtain ⟨j, hj, rfl, hN, hG, hB⟩ := hrel
    by_cases hlt : j < 8
    · have hb8 := byteAt_int n j
      have hdl : n / 256 ^ j ≤ n := Nat.div_le_self _ _
      have hdq : n / 256 ^ (j + 1) = n / 256 ^ j / 256 := by rw [Nat.pow_succ, ← Nat.div_div_eq_div_mul]
      have hps := putV_set n 8 j hlt
      have hpa := putV_at n 8 j j hlt
      generalize n / 256 ^ j = q at *
      have hps2 := Lib.hid hps
      have hdq2 := Lib.hid hdq
      clear hps hdq
      go_wp2_with fail
      refine (next_any _ _ _ hN (by omega) (by omega)).mono ?_; rintro e w2 ⟨rfl, rfl⟩
      have hG1 := hG.far (p := ⟨w.heap.size, 0, none⟩) (by simp; omega) (.int .i64 ((q : Int) / 256))
      have hN1 := hN.set_ 0 (.int .i64 ((q : Int) / 256))
      have hB1 := hB.setCell (p := ⟨w.heap.size, 0, none⟩) (by simp) (.int .i64 ((q : Int) / 256))
      clear hG hN hB
      generalize wr.setCell _ _ = W2 at *
      have cG := hG1.cell_is j hpa
      have fG := hG1.frozen j
      have HG := Lib.hid (hG1.set_ j (vu8 (byteAt n j)))
      have HN := Lib.hid (hN1.far (p := ⟨G, j, none⟩) (by simp; omega) (vu8 (byteAt n j)))
      have HB := Lib.hid (hB1.setCell (p := ⟨G, j, none⟩) (by simp; omega) (vu8 (byteAt n j)))
      clear hG1 hN1 hB1 hpa
      rw [← hb8]
      clear hb8
      go_wp2_with fail
      refine ⟨⟨j + 1, by omega, by go_num, ?_, ?_, HB.out⟩, by simp [intOf]; omega⟩
      · have h := HN.out
        have e1 : ((q : Int) / 256) = ((n / 256 ^ (j + 1) : Nat) : Int) := by rw [hdq2.out]; omega
        rw [e1] at h
        exact h
      · have h := HG.out
        rw [hps2.out] at h
        exact h
    · have hje : j = 8 := by omega
      subst hje
      go_wp2_with fail
      go_ret2
      exact ⟨_, rfl, own_bytes hG (by omega) (putV_all n _) (leB_len n _) (by simp [maxLen]), hB⟩

theorem put_yes (n k : Nat) (w : World) (hk : k = 2 ∨ k = 4 ∨ k = 8) (h : k < 8 → n / 2 ^ (8 * k) = 0) (hn : (n : Int) ≤ 9223372036854775807) : Calls Tryz.prog 101 #[.int .i64 n, .int .i64 k] w fun e w' =>
    ∃ v, e = .returned (.tuple #[v, .int .i64 0]) ∧ w'.ownsRow w.heap.size 5 1 v k ((leB n k).map vu8) ∧ Below w.heap.size w w' := by
  rcases hk with rfl | rfl | rfl
  · exact put_2 n w h hn
  · exact put_4 n w h hn
  · exact put_8 n w h hn

end Go.Proofs.YtdpniceapmikpaaGreat
namespace Go.Proofs.YtdpniceapmikpaaGreat
open Go.RowKit

/-- the number of bytes, the lowest ahead -/
def leN : List UInt8 → Nat
  | [] => 0
  | c :: l => c.toNat + 256 * leN l
theorem leN_snoc (l : List UInt8) (c : UInt8) : leN (l ++ [c]) = leN l + c.toNat * 256 ^ l.length := by
  induction l with
  | nil => simp [leN]
  | cons d l ih =>
    simp only [List.cons_append, leN, ih, List.length_cons, Nat.pow_succ, Nat.mul_add]
    rw [Nat.mul_comm (256 ^ l.length) 256, Nat.mul_left_comm]
    omega
theorem leN_lt (l : List UInt8) : leN l < 256 ^ l.length := by
  induction l with
  | nil => simp [leN]
  | cons c l ih =>
    simp only [leN, List.length_cons, Nat.pow_succ]
    have := u8_lt c
    omega
theorem leN_take (l : List UInt8) (i : Nat) (c : UInt8) (h : l[i]? = some c) : leN (l.take (i + 1)) = leN (l.take i) + c.toNat * 256 ^ i := by
  rw [List.take_add_one, h]
  have hl : i < l.length := by
    rcases Nat.lt_or_ge i l.length with hh | hh
    · exact hh
    · rw [List.getElem?_eq_none hh] at h; cases h
  have := leN_snoc (l.take i) c
  rw [List.length_take, Nat.min_eq_left (by omega)] at this
  exact this
theorem or_shift (N i c : Nat) (hN : N < 2 ^ i) : N ||| (c * 2 ^ i) = N + c * 2 ^ i := by
  rw [Nat.mul_comm c, Nat.or_comm, ← Nat.two_pow_add_eq_or_of_lt hN]
  omega
theorem or_u64 (a b : Nat) (ha : a < 18446744073709551616) (hb : b < 18446744073709551616) : bits .or .u64 (a : Int) (b : Int) = ((a ||| b : Nat) : Int) := by
  have hx : a ||| b < 2 ^ 64 := Nat.or_lt_two_pow (by omega) (by omega)
  show IntKind.u64.wrap ((BitVec.ofInt 64 (a : Int) ||| BitVec.ofInt 64 (b : Int)).toNat : Int) = _
  rw [BitVec.toNat_or, BitVec.ofInt_natCast, BitVec.toNat_ofNat, BitVec.ofInt_natCast, BitVec.toNat_ofNat, Nat.mod_eq_of_lt (by omega), Nat.mod_eq_of_lt (by omega), IntKind.wrap_u64]
  omega
theorem pow256 (j : Nat) : 256 ^ j = 2 ^ (8 * j) := by rw [show (256 : Nat) = 2 ^ 8 from rfl, ← Nat.pow_mul]
theorem step64 (N c j : Nat) (hj : j < 8) (hN : N < 256 ^ j) (hc : c < 256) : bits .or .u64 (N : Int) (IntKind.u64.wrap ((c : Int) * 2 ^ (8 * j))) = ((N + c * 256 ^ j : Nat) : Int) := by
  rw [pow256] at hN ⊢
  have hp : c * 2 ^ (8 * j) < 18446744073709551616 := by
    have h1 : c * 2 ^ (8 * j) < 256 * 2 ^ (8 * j) := Nat.mul_lt_mul_of_pos_right hc (Nat.two_pow_pos _)
    have h2 : 256 * 2 ^ (8 * j) = 2 ^ (8 + 8 * j) := by rw [Nat.pow_add]
    have h3 : 2 ^ (8 + 8 * j) ≤ 2 ^ 64 := Nat.pow_le_pow_right (by omega) (by omega)
    omega
  have hp2 : (2 : Nat) ^ (8 * j) ≤ 2 ^ 64 := Nat.pow_le_pow_right (by omega) (by omega)
  have e : IntKind.u64.wrap ((c : Int) * 2 ^ (8 * j)) = ((c * 2 ^ (8 * j) : Nat) : Int) := by
    rw [IntKind.wrap_u64]
    have e2 : (c : Int) * 2 ^ (8 * j) = ((c * 2 ^ (8 * j) : Nat) : Int) := by push_cast; rfl
    rw [e2]
    omega
  rw [e, or_u64 _ _ (by omega) hp, or_shift _ _ _ hN]

/-- whether bytes are a number -/
def getB (l : List UInt8) : Bool := wideB l.length && decide (leN l < 9223372036854775808)

theorem get_narrow (v : Value) (bs : List UInt8) (w : World) (hv : BytesIn w w.heap.size v bs) (h : wideB bs.length = false) :
    Calls Tryz.prog 145 #[v] w fun e w' => e = .returned (.tuple #[.int .i64 0, .int .i64 2]) ∧ Below w.heap.size w w' := by
  obtain ⟨h1, a, cap, rfl, h2⟩ := hv
  go_enter Tryz.func145, Tryz.ntmps145
  go_wp2_with fail
  refine (wide_any _ _).mono ?_; rintro e w1 ⟨rfl, hb⟩
  rw [h]
  go_wp2_with fail
  go_ret2
  exact ⟨rfl, hb⟩

set_option maxRecDepth 100000 in
set_option maxHeartbeats 1000000 in
theorem get_yes (v : Value) (bs : List UInt8) (w : World) (hv : BytesIn w w.heap.size v bs) (h : wideB bs.length = true) (hs : leN bs < 9223372036854775808) :
    Calls Tryz.prog 145 #[v] w fun e w' => e = .returned (.tuple #[.int .i64 (leN bs), .int .i64 0]) ∧ Below w.heap.size w w' := by
  obtain ⟨h1, a, cap, rfl, hcap, h2⟩ := hv
  have HS := Lib.hid hs
  clear hs
  have h8 : bs.length ≤ 8 := by simp [wideB] at h; omega
  go_enter Tryz.func145, Tryz.ntmps145
  go_wp2_with fail
  refine (wide_any _ _).mono ?_; rintro e w1 ⟨rfl, hb⟩
  rw [h]
  go_wp2_with fail
  go_loopw [13, 4] (fun i n wr => ∃ j : Nat, j ≤ bs.length ∧ i = .int .i64 j ∧ n = .int .u64 ((leN (bs.take j) : Nat) : Int) ∧ wr = w1) (fun i _ _ => bs.length - (intOf i).toNat)
  case atStart => exact ⟨0, by omega, rfl, rfl, rfl⟩
  case round =>
    obtain ⟨j, hj, rfl, rfl, rfl⟩ := hrel
    by_cases hlt : j < bs.length
    · have hbj : bs[j]? = some (bs[j]'hlt) := List.getElem?_eq_getElem hlt
      obtain ⟨g, off, rfl, hg, hcell⟩ := h2 j _ hbj
      have hcx : wr.cell? ⟨g, off + j, none⟩ = some (vu8 (bs[j]'hlt)) := (hb.cell (p := ⟨g, off + j, none⟩) hg).trans hcell
      have hT := Lib.hid (leN_take bs j _ hbj)
      have hN := leN_lt (bs.take j)
      rw [List.length_take, Nat.min_eq_left (by omega)] at hN
      generalize bs[j]'hlt = c at *
      generalize leN (bs.take j) = N at *
      have hc256 := u8_lt c
      have hst := step64 N c.toNat j (by omega) hN hc256
      go_wp2_with fail
      exact ⟨⟨j + 1, by omega, by go_num, by rw [hT.out]; push_cast; rfl, trivial⟩, by simp [intOf]; omega⟩
    · obtain rfl : j = bs.length := by omega
      rw [List.take_length]
      have hs := HS.out
      generalize hNN : leN bs = N at *
      have HN := Lib.hid hNN
      clear hNN
      have hq : (N : Int) / 9223372036854775808 = 0 := by omega
      go_wp2_with fail
      go_ret2
      exact ⟨by rw [HN.out]; rfl, hb⟩

set_option maxRecDepth 100000 in
set_option maxHeartbeats 1000000 in
theorem get_big (v : Value) (bs : List UInt8) (w : World) (hv : BytesIn w w.heap.size v bs) (h : wideB bs.length = true) (hs : 9223372036854775808 ≤ leN bs) :
    Calls Tryz.prog 145 #[v] w fun e w' => e = .returned (.tuple #[.int .i64 0, .int .i64 2]) ∧ Below w.heap.size w w' := by
  obtain ⟨h1, a, cap, rfl, hcap, h2⟩ := hv
  have HS := Lib.hid hs
  clear hs
  have h8 : bs.length ≤ 8 := by simp [wideB] at h; omega
  go_enter Tryz.func145, Tryz.ntmps145
  go_wp2_with fail
  refine (wide_any _ _).mono ?_; rintro e w1 ⟨rfl, hb⟩
  rw [h]
  go_wp2_with fail
  go_loopw [13, 4] (fun i n wr => ∃ j : Nat, j ≤ bs.length ∧ i = .int .i64 j ∧ n = .int .u64 ((leN (bs.take j) : Nat) : Int) ∧ wr = w1) (fun i _ _ => bs.length - (intOf i).toNat)
  case atStart => exact ⟨0, by omega, rfl, rfl, rfl⟩
  case round =>
    obtain ⟨j, hj, rfl, rfl, rfl⟩ := hrel
    by_cases hlt : j < bs.length
    · have hbj : bs[j]? = some (bs[j]'hlt) := List.getElem?_eq_getElem hlt
      obtain ⟨g, off, rfl, hg, hcell⟩ := h2 j _ hbj
      have hcx : wr.cell? ⟨g, off + j, none⟩ = some (vu8 (bs[j]'hlt)) := (hb.cell (p := ⟨g, off + j, none⟩) hg).trans hcell
      have hT := Lib.hid (leN_take bs j _ hbj)
      have hN := leN_lt (bs.take j)
      rw [List.length_take, Nat.min_eq_left (by omega)] at hN
      generalize bs[j]'hlt = c at *
      generalize leN (bs.take j) = N at *
      have hc256 := u8_lt c
      have hst := step64 N c.toNat j (by omega) hN hc256
      go_wp2_with fail
      exact ⟨⟨j + 1, by omega, by go_num, by rw [hT.out]; push_cast; rfl, trivial⟩, by simp [intOf]; omega⟩
    · obtain rfl : j = bs.length := by omega
      rw [List.take_length]
      have hlt2 : leN bs < 18446744073709551616 := Nat.lt_of_lt_of_le (leN_lt bs) (Nat.le_trans (Nat.pow_le_pow_right (by omega) h8) (by decide))
      have hs := HS.out
      generalize hNN : leN bs = N at *
      have HN := Lib.hid hNN
      clear hNN
      have hq : (N : Int) / 9223372036854775808 = 1 := by omega
      go_wp2_with fail
      go_ret2
      exact ⟨rfl, hb⟩

theorem get_any (v : Value) (bs : List UInt8) (w : World) (hv : BytesIn w w.heap.size v bs) :
    Calls Tryz.prog 145 #[v] w fun e w' => e = .returned (.tuple #[.int .i64 (if getB bs then (leN bs : Int) else 0), .int .i64 (if getB bs then 0 else 2)]) ∧ Below w.heap.size w w' := by
  unfold getB
  cases hw : wideB bs.length
  · exact get_narrow v bs w hv hw
  · by_cases hs : leN bs < 9223372036854775808
    · rw [decide_eq_true hs]; exact get_yes v bs w hv hw hs
    · rw [decide_eq_false hs]; exact get_big v bs w hv hw (by omega)

end Go.Proofs.YtdpniceapmikpaaGreat
namespace Go.Proofs.YtdpniceapmikpaaGreat
open Go.RowKit

theorem rwide_any (k : Int) (w : World) : Calls Tryz.prog 144 #[.int .i64 k] w fun e w' => e = .returned (.bool (wideB k)) ∧ w = w' := by
  by_cases h2 : k = 2
  · subst h2
    go_enter Tryz.func144, Tryz.ntmps144
    go_wp2
    go_ret
    exact ⟨rfl, rfl⟩
  · by_cases h4 : k = 4
    · subst h4
      go_enter Tryz.func144, Tryz.ntmps144
      go_wp2
      go_ret
      exact ⟨rfl, rfl⟩
    · have e : wideB k = (k == 8) := by simp [wideB, h2, h4]
      have b2 : (k == 2) = false := by simpa using h2
      have b4 : (k == 4) = false := by simpa using h4
      rw [e]
      go_enter Tryz.func144, Tryz.ntmps144
      go_wp2
      all_goals go_ret
      all_goals exact ⟨rfl, rfl⟩

theorem bit_odd (X : BitVec 32) (h : (X.toNat : Int) % 2 = 1) : bits .xor .u32 ((X.toNat : Int) / (2 : Int)) 3988292384 = ((crcBit X).toNat : Int) := by
  have e2 : (X.toNat : Int) / (2 : Int) = ((X >>> 1).toNat : Int) := shr_u32 X 1
  have hb : X.getLsbD 0 = true := by
    rw [BitVec.getLsbD, Nat.testBit_zero]
    simp; omega
  rw [e2]
  unfold crcBit
  rw [hb]
  exact xor_u32 _ 0xedb88320#32
theorem bit_even (X : BitVec 32) (h : ¬ (X.toNat : Int) % 2 = 1) : (X.toNat : Int) / (2 : Int) = ((crcBit X).toNat : Int) := by
  have e2 : (X.toNat : Int) / (2 : Int) = ((X >>> 1).toNat : Int) := shr_u32 X 1
  have hb : X.getLsbD 0 = false := by
    rw [BitVec.getLsbD, Nat.testBit_zero]
    simp; omega
  rw [e2]
  unfold crcBit
  rw [hb]
  simp
theorem crcOn_take (n : BitVec 32) (l : List UInt8) (j : Nat) (c : UInt8) (h : l[j]? = some c) : crcOn n (l.take (j + 1)) = crcByte (crcOn n (l.take j)) c := by
  rw [List.take_add_one, h]
  simp [crcOn]

set_option maxRecDepth 100000 in
set_option maxHeartbeats 1000000 in
theorem rcrc_any (v : Value) (bs : List UInt8) (w : World) (hv : BytesIn w w.heap.size v bs) :
    Calls Tryz.prog 65 #[v] w fun e w' => e = .returned (vu32 (crcW bs)) ∧ w = w' := by
  obtain ⟨h1, a, cap, rfl, hcap, h2⟩ := hv
  unfold maxLen at h1
  go_enter Tryz.func65, Tryz.ntmps65
  go_wp2_with fail
  go_loopw [3, 4] (fun n i wr => ∃ j : Nat, j ≤ bs.length ∧ i = .int .i64 j ∧ n = vu32 (crcOn (~~~ 0#32) (bs.take j)) ∧ wr = w) (fun _ i _ => bs.length - (intOf i).toNat)
  case atStart => exact ⟨0, by omega, rfl, rfl, rfl⟩
  case round =>
    obtain ⟨j, hj, rfl, rfl, rfl⟩ := hrel
    by_cases hlt : j < bs.length
    · have hbj : bs[j]? = some (bs[j]'hlt) := List.getElem?_eq_getElem hlt
      obtain ⟨g, off, rfl, hg, hcell⟩ := h2 j _ hbj
      have hT := Lib.hid (crcOn_take (~~~ 0#32) bs j _ hbj)
      generalize bs[j]'hlt = c at *
      generalize crcOn (~~~ 0#32) (bs.take j) = N at *
      have hc256 := u8_lt c
      obtain ⟨Y, hY⟩ : ∃ Y, Y = N ^^^ BitVec.ofNat 32 c.toNat := ⟨_, rfl⟩
      have e1 : bits .xor .u32 (N.toNat : Int) (c.toNat : Int) = (Y.toNat : Int) := by
        have ex : ((BitVec.ofNat 32 c.toNat).toNat : Int) = (c.toNat : Int) := by rw [BitVec.toNat_ofNat]; omega
        rw [hY, ← ex]; exact xor_u32 N _
      have HY := Lib.hid hY
      clear hY
      go_wp2_with fail
      go_loop [3, 5] (fun n k => ∃ q : Nat, q ≤ 8 ∧ k = .int .i64 q ∧ n = vu32 (crcBits q Y)) (fun _ k => 8 - (intOf k).toNat)
      case atStart => exact ⟨0, by omega, rfl, rfl⟩
      case round =>
        obtain ⟨q, hq, rfl, rfl⟩ := hrel
        have hS := Lib.hid (crcBits_succ q Y)
        by_cases hq8 : q < 8
        · generalize crcBits q Y = X at *
          by_cases hodd : (X.toNat : Int) % 2 = 1
          · have hv := bit_odd X hodd
            go_wp2_with fail
            exact ⟨⟨q + 1, by omega, by go_num, by rw [hS.out]⟩, by simp [intOf]; omega⟩
          · have hv := bit_even X hodd
            go_wp2_with fail
            exact ⟨⟨q + 1, by omega, by go_num, by rw [hS.out]⟩, by simp [intOf]; omega⟩
        · obtain rfl : q = 8 := by omega
          have hT2 : crcOn (~~~ 0#32) (bs.take (j + 1)) = crcBits 8 Y := by rw [hT.out, HY.out]; rfl
          have HT2 := Lib.hid hT2
          clear hT2
          generalize crcBits 8 Y = Z at *
          go_wp2_with fail
          exact ⟨⟨j + 1, by omega, by go_num, by rw [HT2.out], trivial⟩, by simp [intOf]; omega⟩
    · obtain rfl : j = bs.length := by omega
      rw [List.take_length]
      have hW := Lib.hid (show crcW bs = ~~~ (crcOn (~~~ 0#32) bs) from rfl)
      generalize crcOn (~~~ 0#32) bs = N at *
      have hn : (4294967295 : Int) - (N.toNat : Int) = ((~~~ N).toNat : Int) := by
        rw [BitVec.toNat_not]; have := N.isLt; omega
      go_wp2_with fail
      go_ret
      exact ⟨by rw [hW.out]; simp [vu32], rfl⟩

end Go.Proofs.YtdpniceapmikpaaGreat
namespace Go.Proofs.YtdpniceapmikpaaGreat
open Go.RowKit

theorem rput_no (n : Int) (k : Int) (w : World) (h : wideB k = false ∨ n < 0) : Calls Tryz.prog 132 #[.int .i64 n, .int .i64 k] w fun e w' =>
    e = .returned (.tuple #[.slice none 0 0, .bool false]) ∧ w = w' := by
  cases hW : wideB k
  · go_enter Tryz.func132, Tryz.ntmps132
    go_wp2_with fail
    refine (rwide_any k _).mono ?_; rintro e w1 ⟨rfl, rfl⟩
    rw [hW]
    go_wp2_with fail
    go_ret2
    exact ⟨rfl, rfl⟩
  · have hn : n < 0 := by
      rcases h with h | h
      · rw [hW] at h; cases h
      · exact h
    clear h
    go_enter Tryz.func132, Tryz.ntmps132
    go_wp2_with fail
    refine (rwide_any k _).mono ?_; rintro e w1 ⟨rfl, rfl⟩
    rw [hW]
    go_wp2_with fail
    go_ret2
    exact ⟨rfl, rfl⟩

theorem leB_succ (n j : Nat) : leB n (j + 1) = leB n j ++ [byteAt n j] := by simp [leB, List.range_succ]

set_option maxRecDepth 100000 in
set_option maxHeartbeats 1000000 in
theorem rput_yes (n k : Nat) (w : World) (hk : wideB k = true) (hn : (n : Int) ≤ 9223372036854775807) : Calls Tryz.prog 132 #[.int .i64 n, .int .i64 k] w fun e w' =>
    ∃ v, e = .returned (.tuple #[v, .bool (n / 256 ^ k == 0)]) ∧ w'.ownsRow w.heap.size 5 1 v k ((leB n k).map vu8) ∧ Below w.heap.size w w' := by
  have hk8 : k ≤ 8 := by simp [wideB] at hk; omega
  obtain ⟨i0, hi0, hz0, hz1, hz2⟩ := info_parts info_u8
  have HI := Lib.hid (And.intro hi0 (And.intro hz0 (And.intro hz1 hz2)))
  clear hi0 hz0 hz1 hz2
  have hne : ¬ (n : Int) < 0 := by omega
  go_enter Tryz.func132, Tryz.ntmps132
  go_wp2_with fail
  refine (rwide_any k _).mono ?_; rintro e w1 ⟨rfl, rfl⟩
  rw [hk]
  go_wp2_with fail
  go_loopw [0, 6, 7] (fun m o i wr => ∃ j : Nat, j ≤ k ∧ i = .int .i64 j ∧ m = .int .i64 ((n / 256 ^ j : Nat) : Int) ∧ wr.ownsRow w.heap.size 5 1 o j ((leB n j).map vu8) ∧ Below w.heap.size w wr) (fun _ _ i _ => k - (intOf i).toNat)
  case atStart => exact ⟨0, by omega, rfl, by simp, World.ownsRow_nil _ _ _ _, Below.refl _ _⟩
  case round =>
    obtain ⟨j, hj, rfl, rfl, hO, hB⟩ := hrel
    by_cases hlt : j < k
    · have hb8 := byteAt_int n j
      have hdl : n / 256 ^ j ≤ n := Nat.div_le_self _ _
      have hdq : n / 256 ^ (j + 1) = n / 256 ^ j / 256 := by rw [Nat.pow_succ, ← Nat.div_div_eq_div_mul]
      have hls := Lib.hid (leB_succ n j)
      have hll := leB_len n j
      generalize n / 256 ^ j = q at *
      have hdq2 := Lib.hid hdq
      have hb82 := Lib.hid hb8
      clear hdq hb8
      have HO := Lib.hid hO
      clear hO
      have hsz := hB.size
      have hbyte : ((q : Int) % 256) = ((byteAt n j).toNat : Int) := hb82.out.symm
      go_wp2_with (at_builtin; refine wpList_append_lies _ rfl _ _ _ rfl w.heap.size 5 i0 _ 1 1 Tryz.underlying26 HI.out.1 HI.out.2.1 HI.out.2.2.1 HI.out.2.2.2 rfl (by omega) _ j _ rfl (HO.out.alloc _) ⟨wr.heap.size, 0, none⟩ 1 1 [vu8 (byteAt n j)] rfl rfl (World.news_of_block (cs := #[vu8 (byteAt n j)]) (t := 5) (fr := (0, 0)) (heap_alloc_new wr _)) (by simp [Value.oneCell']) (by omega) (by unfold maxLen; omega) (by omega) (by simp; omega) (wr.heap.size + 1) (by simp) ?_; intro g cap w3 hO3 hg3 hat3 hlt3)
      refine ⟨⟨j + 1, by omega, by go_num, ?_, ?_, ?_⟩, by simp [intOf]; omega⟩
      · rw [hdq2.out]; congr 1
      · rw [hls.out]; simpa using hO3
      · exact (hB.alloc hsz _).grown hg3 (by simp; omega) (fun r hr => (HO.out.lt r hr).1)
    · obtain rfl : j = k := by omega
      generalize hqe : n / 256 ^ j = q at *
      have HQ := Lib.hid hqe
      clear hqe
      have hq : ((q : Int) == 0) = (q == 0) := by
        cases h : (q == 0)
        · simp at h ⊢; omega
        · simp at h ⊢; omega
      go_wp2_with fail
      go_ret2
      exact ⟨_, by rw [HQ.out]; rfl, hO, hB⟩

theorem rget_narrow (v : Value) (bs : List UInt8) (w : World) (hv : BytesIn w w.heap.size v bs) (h : wideB bs.length = false) :
    Calls Tryz.prog 113 #[v] w fun e w' => e = .returned (.tuple #[.int .i64 0, .bool false]) ∧ w = w' := by
  obtain ⟨h1, a, cap, rfl, h2⟩ := hv
  go_enter Tryz.func113, Tryz.ntmps113
  go_wp2_with fail
  refine (rwide_any _ _).mono ?_; rintro e w1 ⟨rfl, rfl⟩
  rw [h]
  go_wp2_with fail
  go_ret2
  exact ⟨rfl, rfl⟩

theorem leN_append (l r : List UInt8) : leN (l ++ r) = leN l + 256 ^ l.length * leN r := by
  induction l with
  | nil => simp [leN]
  | cons c l ih =>
    simp only [List.cons_append, leN, ih, List.length_cons, Nat.pow_succ]
    rw [Nat.mul_add, Nat.mul_comm (256 ^ l.length) 256, Nat.mul_assoc]
    omega
theorem leN_drop (l : List UInt8) (j : Nat) (c : UInt8) (h : l[j]? = some c) : leN (l.drop j) = c.toNat + 256 * leN (l.drop (j + 1)) := by
  have hl : j < l.length := by
    rcases Nat.lt_or_ge j l.length with hh | hh
    · exact hh
    · rw [List.getElem?_eq_none hh] at h; cases h
  rw [List.drop_eq_getElem_cons hl]
  rw [List.getElem?_eq_getElem hl] at h
  rw [Option.some.inj h]
  rfl
/-- of eight bytes: whether the last one is too great -/
theorem top_bit (l : List UInt8) (c : UInt8) (hl : l.length = 8) (h : l[7]? = some c) : (127 < c.toNat) ↔ 9223372036854775808 ≤ leN l := by
  have e : l = l.take 7 ++ l.drop 7 := (List.take_append_drop 7 l).symm
  have hd : leN (l.drop 7) = c.toNat := by
    have h8 : l.drop (7 + 1) = [] := List.drop_of_length_le (by omega)
    rw [leN_drop l 7 c h, h8]
    simp [leN]
  have hle : leN l = leN (l.take 7) + 256 ^ 7 * c.toNat := by
    have h0 : leN l = leN (l.take 7 ++ l.drop 7) := by rw [← e]
    rw [h0, leN_append, hd, List.length_take, hl]
    rfl
  have ht := leN_lt (l.take 7)
  rw [List.length_take, hl] at ht
  have ht2 : leN (l.take 7) < 72057594037927936 := ht
  have hp : (256 : Nat) ^ 7 = 72057594037927936 := by decide
  rw [hp] at hle
  omega

set_option maxRecDepth 100000 in
set_option maxHeartbeats 1000000 in
theorem rget_8 (v : Value) (bs : List UInt8) (w : World) (hv : BytesIn w w.heap.size v bs) (h : wideB bs.length = true) (hs : leN bs < 9223372036854775808) (hl : bs.length = 8) :
    Calls Tryz.prog 113 #[v] w fun e w' => e = .returned (.tuple #[.int .i64 (leN bs), .bool true]) ∧ w = w' := by
  obtain ⟨h1, a, cap, rfl, hcap, h2⟩ := hv
  have h8 : bs.length ≤ 8 := by simp [wideB] at h; omega
  have hpos : 0 < bs.length := by simp [wideB] at h; omega
  have hb7 : bs[7]? = some (bs[7]'(by omega)) := List.getElem?_eq_getElem (by omega)
  obtain ⟨g, off, rfl, hg7, hc7⟩ := h2 7 _ hb7
  have h127 : ¬ (127 : Int) < ((bs[7]'(by omega)).toNat : Int) := by have := top_bit bs _ hl hb7; omega
  generalize bs[7]'(by omega) = c7 at *
  have h7 : (7 : Int) < (bs.length : Int) := by omega
  have hbe : ((bs.length : Int) == 8) = true := by simp; omega
  clear hb7 hl
  have HS := Lib.hid hs
  clear hs
  go_enter Tryz.func113, Tryz.ntmps113
  go_wp2_with fail
  refine (rwide_any _ _).mono ?_; rintro e w1 ⟨rfl, rfl⟩
  rw [h]
  go_wp2_with fail
  go_loop [4, 5] (fun n i => ∃ j : Nat, j ≤ bs.length ∧ i = .int .i64 ((j : Int) - 1) ∧ n = .int .i64 ((leN (bs.drop j) : Nat) : Int)) (fun _ i => (intOf i + 1).toNat)
  case atStart => exact ⟨bs.length, Nat.le_refl _, rfl, by simp [leN]⟩
  case round =>
    obtain ⟨j, hj, rfl, rfl⟩ := hrel
    by_cases hlt : 0 < j
    · obtain ⟨q, rfl⟩ : ∃ q, j = q + 1 := ⟨j - 1, by omega⟩
      have hbj : bs[q]? = some (bs[q]'(by omega)) := List.getElem?_eq_getElem (by omega)
      obtain ⟨g2, off2, e2, hg, hcell⟩ := h2 q _ hbj
      obtain ⟨rfl, rfl⟩ : g = g2 ∧ off = off2 := by simpa using e2
      have hT := leN_drop bs q _ hbj
      have hle : leN (bs.drop q) < 9223372036854775808 := by
        have e0 : bs = bs.take q ++ bs.drop q := (List.take_append_drop q bs).symm
        have h0 : leN bs = leN (bs.take q) + 256 ^ (bs.take q).length * leN (bs.drop q) := by
          conv => lhs; rw [e0]
          exact leN_append _ _
        have hp : 1 ≤ 256 ^ (bs.take q).length := Nat.pos_of_ne_zero (by simp)
        have := Nat.mul_le_mul_right (leN (bs.drop q)) hp
        have := HS.out
        omega
      generalize bs[q]'(by omega) = c at *
      generalize leN (bs.drop (q + 1)) = N at *
      have hc256 := u8_lt c
      have HT := Lib.hid hT
      have hNb : (N : Int) * 256 + (c.toNat : Int) < 9223372036854775808 := by omega
      clear hT hle
      have ej : ((q + 1 : Nat) : Int) - 1 = (q : Int) := by omega
      rw [ej]
      go_wp2_with fail
      exact ⟨⟨q, by omega, rfl, by rw [HT.out]; congr 1; omega⟩, by simp [intOf] <;> omega⟩
    · obtain rfl : j = 0 := by omega
      rw [List.drop_zero]
      go_wp2_with fail
      go_ret2
      exact ⟨rfl, rfl⟩

set_option maxRecDepth 100000 in
set_option maxHeartbeats 1000000 in
theorem rget_4 (v : Value) (bs : List UInt8) (w : World) (hv : BytesIn w w.heap.size v bs) (h : wideB bs.length = true) (hs : leN bs < 9223372036854775808) (hl : bs.length ≠ 8) :
    Calls Tryz.prog 113 #[v] w fun e w' => e = .returned (.tuple #[.int .i64 (leN bs), .bool true]) ∧ w = w' := by
  obtain ⟨h1, a, cap, rfl, hcap, h2⟩ := hv
  have h8 : bs.length ≤ 8 := by simp [wideB] at h; omega
  have hpos : 0 < bs.length := by simp [wideB] at h; omega
  have hbe : ((bs.length : Int) == 8) = false := by simp; omega
  clear hl
  have HS := Lib.hid hs
  clear hs
  go_enter Tryz.func113, Tryz.ntmps113
  go_wp2_with fail
  refine (rwide_any _ _).mono ?_; rintro e w1 ⟨rfl, rfl⟩
  rw [h]
  go_wp2_with fail
  go_loop [4, 5] (fun n i => ∃ j : Nat, j ≤ bs.length ∧ i = .int .i64 ((j : Int) - 1) ∧ n = .int .i64 ((leN (bs.drop j) : Nat) : Int)) (fun _ i => (intOf i + 1).toNat)
  case atStart => exact ⟨bs.length, Nat.le_refl _, rfl, by simp [leN]⟩
  case round =>
    obtain ⟨j, hj, rfl, rfl⟩ := hrel
    by_cases hlt : 0 < j
    · obtain ⟨q, rfl⟩ : ∃ q, j = q + 1 := ⟨j - 1, by omega⟩
      have hbj : bs[q]? = some (bs[q]'(by omega)) := List.getElem?_eq_getElem (by omega)
      obtain ⟨g2, off2, e2, hg, hcell⟩ := h2 q _ hbj
      subst e2
      have hT := leN_drop bs q _ hbj
      have hle : leN (bs.drop q) < 9223372036854775808 := by
        have e0 : bs = bs.take q ++ bs.drop q := (List.take_append_drop q bs).symm
        have h0 : leN bs = leN (bs.take q) + 256 ^ (bs.take q).length * leN (bs.drop q) := by
          conv => lhs; rw [e0]
          exact leN_append _ _
        have hp : 1 ≤ 256 ^ (bs.take q).length := Nat.pos_of_ne_zero (by simp)
        have := Nat.mul_le_mul_right (leN (bs.drop q)) hp
        have := HS.out
        omega
      generalize bs[q]'(by omega) = c at *
      generalize leN (bs.drop (q + 1)) = N at *
      have hc256 := u8_lt c
      have HT := Lib.hid hT
      have hNb : (N : Int) * 256 + (c.toNat : Int) < 9223372036854775808 := by omega
      clear hT hle
      have ej : ((q + 1 : Nat) : Int) - 1 = (q : Int) := by omega
      rw [ej]
      go_wp2_with fail
      exact ⟨⟨q, by omega, rfl, by rw [HT.out]; congr 1; omega⟩, by simp [intOf] <;> omega⟩
    · obtain rfl : j = 0 := by omega
      rw [List.drop_zero]
      go_wp2_with fail
      go_ret2
      exact ⟨rfl, rfl⟩

theorem rget_big (v : Value) (bs : List UInt8) (w : World) (hv : BytesIn w w.heap.size v bs) (hl : bs.length = 8) (hs : 9223372036854775808 ≤ leN bs) :
    Calls Tryz.prog 113 #[v] w fun e w' => e = .returned (.tuple #[.int .i64 0, .bool false]) ∧ w = w' := by
  obtain ⟨h1, a, cap, rfl, hcap, h2⟩ := hv
  have hb7 : bs[7]? = some (bs[7]'(by omega)) := List.getElem?_eq_getElem (by omega)
  obtain ⟨g, off, rfl, hg7, hc7⟩ := h2 7 _ hb7
  have h127 : (127 : Int) < ((bs[7]'(by omega)).toNat : Int) := by have := top_bit bs _ hl hb7; omega
  generalize bs[7]'(by omega) = c7 at *
  have h7 : (7 : Int) < (bs.length : Int) := by omega
  have hbe : ((bs.length : Int) == 8) = true := by simp; omega
  have hw : wideB bs.length = true := by rw [hl]; rfl
  clear hb7 hl
  go_enter Tryz.func113, Tryz.ntmps113
  go_wp2_with fail
  refine (rwide_any _ _).mono ?_; rintro e w1 ⟨rfl, rfl⟩
  rw [hw]
  go_wp2_with fail
  go_ret2
  exact ⟨rfl, rfl⟩

theorem rget_any (v : Value) (bs : List UInt8) (w : World) (hv : BytesIn w w.heap.size v bs) :
    Calls Tryz.prog 113 #[v] w fun e w' => e = .returned (.tuple #[.int .i64 (if getB bs then (leN bs : Int) else 0), .bool (getB bs)]) ∧ w = w' := by
  unfold getB
  cases hw : wideB bs.length
  · exact rget_narrow v bs w hv hw
  · by_cases hs : leN bs < 9223372036854775808
    · rw [decide_eq_true hs]
      by_cases hl : bs.length = 8
      · exact rget_8 v bs w hv hw hs hl
      · exact rget_4 v bs w hv hw hs hl
    · rw [decide_eq_false hs]
      have hl : bs.length = 8 := by
        have h1 := leN_lt bs
        have h2 : bs.length = 2 ∨ bs.length = 4 ∨ bs.length = 8 := by simp [wideB] at hw; omega
        rcases h2 with h2 | h2 | h2
        · rw [h2] at h1; have : (256 : Nat) ^ 2 = 65536 := by decide
          omega
        · rw [h2] at h1; have : (256 : Nat) ^ 4 = 4294967296 := by decide
          omega
        · exact h2
      exact rget_big v bs w hv hl (by omega)

end Go.Proofs.YtdpniceapmikpaaGreat
namespace Go.Proofs.YtdpniceapmikpaaGreat
open Go.RowKit

theorem add_at (g off n : Nat) : (⟨g, off, none⟩ : Addr).add n = ⟨g, off + n, none⟩ := Go.WideShapes.add_plain g off n
/-- b[i:j], the value as the walk leaves it -/
theorem BytesIn.cut {W : World} {B : Nat} {a : Option Addr} {cap : Nat} {l : List UInt8} (h : BytesIn W B (.slice a l.length cap) l) (i j : Nat) (hij : i ≤ j) (hj : j ≤ l.length) (hc : l.length ≤ cap) :
    BytesIn W B (.slice (if cap = i then a else a.map (·.add i)) (j - i) (cap - i)) ((l.drop i).take (j - i)) := by
  obtain ⟨h1, a', cap', e, h3, h4⟩ := h
  injection e with ea el ec
  subst ea
  have hl : ((l.drop i).take (j - i)).length = j - i := by rw [List.length_take, List.length_drop]; omega
  refine ⟨by rw [hl]; omega, _, _, by rw [hl], by rw [hl]; omega, fun k c hk => ?_⟩
  have hkl : k < j - i := by
    rcases Nat.lt_or_ge k (j - i) with hh | hh
    · exact hh
    · rw [List.getElem?_eq_none (by rw [hl]; exact hh)] at hk; cases hk
  have hk2 : l[i + k]? = some c := by
    rw [List.getElem?_take, if_pos hkl, List.getElem?_drop] at hk
    exact hk
  obtain ⟨g, off, rfl, hg, hcell⟩ := h4 (i + k) c hk2
  have hne : ¬ cap = i := by omega
  rw [if_neg hne]
  refine ⟨g, off + i, by rw [Option.map_some, add_at], hg, ?_⟩
  rw [Nat.add_assoc]
  exact hcell
/-- b[i:] -/
theorem BytesIn.from_ {W : World} {B : Nat} {a : Option Addr} {cap : Nat} {l : List UInt8} (h : BytesIn W B (.slice a l.length cap) l) (i : Nat) (hi : i ≤ l.length) (hc : l.length ≤ cap) :
    BytesIn W B (.slice (if cap = i then a else a.map (·.add i)) (l.length - i) (cap - i)) (l.drop i) := by
  have := h.cut i l.length hi (Nat.le_refl _) hc
  rwa [List.take_of_length_le (by simp)] at this
/-- b[:j] -/
theorem BytesIn.upto {W : World} {B : Nat} {a : Option Addr} {cap : Nat} {l : List UInt8} (h : BytesIn W B (.slice a l.length cap) l) (j : Nat) (hj : j ≤ l.length) (hc : l.length ≤ cap) :
    BytesIn W B (.slice a j cap) (l.take j) := by
  obtain ⟨h1, a', cap', e, h3, h4⟩ := h
  injection e with ea el ec
  subst ea
  have hl : (l.take j).length = j := by rw [List.length_take]; omega
  refine ⟨by rw [hl]; omega, _, _, by rw [hl], by rw [hl]; omega, fun k c hk => h4 k c ?_⟩
  rw [List.getElem?_take] at hk
  split at hk
  · exact hk
  · cases hk

end Go.Proofs.YtdpniceapmikpaaGreat
namespace Go.Proofs
open Go.Shelf
def Tryz.laysSlE33_f43_ren : Go.Shelf.Ren := ⟨fun | 33 => 43 | n => n, fun | 22 => 24 | 23 => 3 | 4 => 4 | 3 => 3 | 0 => 0 | n => n, fun | n => n⟩
theorem Tryz.laysSlE33_f43 : Go.Proofs.SlLaysE.n33 Tryz.prog Tryz.laysSlE33_f43_ren := {
  mixed := by kernel_rfl
  f33 := ⟨Tryz.f43.name, by decide, Tryz.func43.trans (congrArg some (by kernel_rfl))⟩
  t0 := Tryz.underlying0
  a0 := Tryz.isAgg0
  z0 := Tryz.sizeOf0
  v0 := Tryz.zeroValue0
  t3 := Tryz.underlying3
  a3 := Tryz.isAgg3
  z3 := Tryz.sizeOf3
  v3 := Tryz.zeroValue3
  t4 := Tryz.underlying4
  a4 := Tryz.isAgg4
  z4 := Tryz.sizeOf4
  v4 := Tryz.zeroValue4
  t22 := Tryz.underlying24
  a22 := Tryz.isAgg24
  z22 := Tryz.sizeOf24
  v22 := Tryz.zeroValue24
  a23 := Tryz.isAgg3
  z23 := Tryz.sizeOf3 }
open Go.RowKit Go.Lib in
/-- slices.Equal: "Equal reports whether two slices are equal: the same length and all elements equal. .. Empty and nil slices are considered equal. Floating point NaNs are not considered equal.": IT RETURNS 'Lib.allEq eq (the one's elements) (the other's)'; the world is as it was but for the count of draws. (LAID AT THE INSTANCE 'slices.Equal[[]int,int]': no walk: one application.) -/
theorem Tryz.slices_Equal {α : Type} [Inhabited α] (enc : α → Value) (eq : α → α → Bool) (hne : NeqAt Tryz.prog 3 enc eq) (b1 o1 n c b2 o2 m d : Nat) (xs ys : List α) (w : World) (hx : n ≤ xs.length) (hy : m ≤ ys.length) (hbig : n ≤ 9223372036854775807) (hbig2 : m ≤ 9223372036854775807) (hc1 : ∀ j, j < xs.length → w.cell? ⟨b1, o1 + j, none⟩ = some (enc xs[j]!)) (hc2 : ∀ j, j < ys.length → w.cell? ⟨b2, o2 + j, none⟩ = some (enc ys[j]!)) :
    Calls Tryz.prog 43 #[.slice (some ⟨b1, o1, none⟩) n c, .slice (some ⟨b2, o2, none⟩) m d] w fun e w' => e = .returned (.bool (Lib.allEq eq (xs.take n) (ys.take m))) ∧ ∃ q, w' = w.drewN q := AnyE.slices_Equal Tryz.laysSlE33_f43 enc eq hne b1 o1 n c b2 o2 m d xs ys w hx hy hbig hbig2 hc1 hc2
def Tryz.laysSlH6_f127_ren : Go.Shelf.Ren := ⟨fun | 6 => 127 | n => n, fun | 22 => 24 | 23 => 3 | 25 => 156 | 3 => 3 | 0 => 0 | 4 => 4 | n => n, fun | n => n⟩
theorem Tryz.laysSlH6_f127 : Go.Proofs.SlLaysH.n6 Tryz.prog Tryz.laysSlH6_f127_ren := {
  mixed := by kernel_rfl
  f6 := ⟨Tryz.f127.name, by decide, Tryz.func127.trans (congrArg some (by kernel_rfl))⟩
  t0 := Tryz.underlying0
  a0 := Tryz.isAgg0
  z0 := Tryz.sizeOf0
  v0 := Tryz.zeroValue0
  t3 := Tryz.underlying3
  a3 := Tryz.isAgg3
  z3 := Tryz.sizeOf3
  v3 := Tryz.zeroValue3
  t4 := Tryz.underlying4
  a4 := Tryz.isAgg4
  z4 := Tryz.sizeOf4
  v4 := Tryz.zeroValue4
  t22 := Tryz.underlying24
  a22 := Tryz.isAgg24
  z22 := Tryz.sizeOf24
  v22 := Tryz.zeroValue24
  a23 := Tryz.isAgg3
  z23 := Tryz.sizeOf3
  t25 := Tryz.underlying156
  a25 := Tryz.isAgg156
  z25 := Tryz.sizeOf156
  v25 := Tryz.zeroValue156 }
open Go.RowKit Go.Lib in
/-- slices.IndexFunc: "IndexFunc returns the first index i satisfying f(s[i]), or -1 if none do." (LAID AT THE INSTANCE 'slices.IndexFunc[[]int,int]': no walk: one application.) -/
theorem Tryz.slices_IndexFunc {α : Type} [Inhabited α] (enc : α → Value) (p : α → Bool) (g : Nat) (lb : Array Value) (eg : ∀ args w, (callFunc g args).run Tryz.prog w = .ok (.enter g args) w) (b off n c : Nat) (zs : List α) (w : World) (hp : PredAt Tryz.prog g lb enc p w) (hz : n ≤ zs.length) (hbig : n ≤ 9223372036854775807) (hc : ∀ j, j < zs.length → w.cell? ⟨b, off + j, none⟩ = some (enc zs[j]!)) :
    Calls Tryz.prog 127 #[.slice (some ⟨b, off, none⟩) n c, .func (.func g) #[] lb] w fun e w' => e = .returned (.int .i64 (Lib.idxBy (fun _ y => p y) (zs.take n) default)) ∧ ∃ q, w' = w.drewN q := AnyE.slices_IndexFunc Tryz.laysSlH6_f127 enc p g lb eg b off n c zs w hp hz hbig hc
open Go.RowKit Go.Lib in
/-- The same at a slice of length 0, a nil one too: the predicate is not called: nothing is asked of it. (LAID AT THE INSTANCE 'slices.IndexFunc[[]int,int]': no walk: one application.) -/
theorem Tryz.slices_IndexFunc_empty {α : Type} [Inhabited α] (a : Option Addr) (c : Nat) (fv : Value) (w : World) :
    Calls Tryz.prog 127 #[.slice a 0 c, fv] w fun e w' => e = .returned (.int .i64 (-1)) ∧ w' = w := AnyE.slices_IndexFunc_empty Tryz.laysSlH6_f127 a c fv w
def Tryz.laysSlH8_f78_ren : Go.Shelf.Ren := ⟨fun | 8 => 78 | 6 => 127 | n => n, fun | 22 => 24 | 23 => 3 | 25 => 156 | 4 => 4 | 3 => 3 | 0 => 0 | n => n, fun | n => n⟩
theorem Tryz.laysSlH8_f78 : Go.Proofs.SlLaysH.n8 Tryz.prog Tryz.laysSlH8_f78_ren := {
  mixed := by kernel_rfl
  f6 := ⟨Tryz.f127.name, by decide, Tryz.func127.trans (congrArg some (by kernel_rfl))⟩
  f8 := ⟨Tryz.f78.name, by decide, Tryz.func78.trans (congrArg some (by kernel_rfl))⟩
  t0 := Tryz.underlying0
  a0 := Tryz.isAgg0
  z0 := Tryz.sizeOf0
  v0 := Tryz.zeroValue0
  t3 := Tryz.underlying3
  a3 := Tryz.isAgg3
  z3 := Tryz.sizeOf3
  v3 := Tryz.zeroValue3
  t4 := Tryz.underlying4
  a4 := Tryz.isAgg4
  z4 := Tryz.sizeOf4
  v4 := Tryz.zeroValue4
  t22 := Tryz.underlying24
  a22 := Tryz.isAgg24
  z22 := Tryz.sizeOf24
  v22 := Tryz.zeroValue24
  a23 := Tryz.isAgg3
  z23 := Tryz.sizeOf3
  t25 := Tryz.underlying156
  a25 := Tryz.isAgg156
  z25 := Tryz.sizeOf156
  v25 := Tryz.zeroValue156 }
open Go.RowKit Go.Lib in
/-- slices.ContainsFunc: "ContainsFunc reports whether at least one element e of s satisfies f(e).": ITS CALLEE slices.IndexFunc IS MET BY ITS OWN CONTRACT. (LAID AT THE INSTANCE 'slices.ContainsFunc[[]int,int]': no walk: one application.) -/
theorem Tryz.slices_ContainsFunc {α : Type} [Inhabited α] (enc : α → Value) (p : α → Bool) (g : Nat) (lb : Array Value) (eg : ∀ args w, (callFunc g args).run Tryz.prog w = .ok (.enter g args) w) (b off n c : Nat) (zs : List α) (w : World) (hp : PredAt Tryz.prog g lb enc p w) (hz : n ≤ zs.length) (hbig : n ≤ 9223372036854775807) (hc : ∀ j, j < zs.length → w.cell? ⟨b, off + j, none⟩ = some (enc zs[j]!)) :
    Calls Tryz.prog 78 #[.slice (some ⟨b, off, none⟩) n c, .func (.func g) #[] lb] w fun e w' => e = .returned (.bool ((zs.take n).any p)) ∧ ∃ q, w' = w.drewN q := AnyE.slices_ContainsFunc Tryz.laysSlH8_f78 enc p g lb eg b off n c zs w hp hz hbig hc
open Go.RowKit Go.Lib in
/-- The same at a slice of length 0, a nil one too. (LAID AT THE INSTANCE 'slices.ContainsFunc[[]int,int]': no walk: one application.) -/
theorem Tryz.slices_ContainsFunc_empty {α : Type} [Inhabited α] (a : Option Addr) (c : Nat) (fv : Value) (w : World) :
    Calls Tryz.prog 78 #[.slice a 0 c, fv] w fun e w' => e = .returned (.bool false) ∧ w' = w := AnyE.slices_ContainsFunc_empty Tryz.laysSlH8_f78 a c fv w
def Tryz.laysnb115_ren : Go.Shelf.Ren := ⟨fun | 115 => 45 | n => n, fun | 37 => 26 | 4 => 4 | 9 => 9 | 5 => 5 | n => n, fun | n => n⟩
theorem Tryz.laysnb115 : Go.Proofs.Lays.nb115 Tryz.prog Tryz.laysnb115_ren := {
  mixed := by kernel_rfl
  f115 := Tryz.func45.trans (congrArg some (by kernel_rfl))
  t4 := Tryz.underlying4
  a4 := Tryz.isAgg4
  z4 := Tryz.sizeOf4
  v4 := Tryz.zeroValue4
  t9 := Tryz.underlying9
  a9 := Tryz.isAgg9
  z9 := Tryz.sizeOf9
  v9 := Tryz.zeroValue9
  t37 := Tryz.underlying26
  a37 := Tryz.isAgg26
  z37 := Tryz.sizeOf26
  v37 := Tryz.zeroValue26
  t5 := Tryz.underlying5
  a5 := Tryz.isAgg5
  z5 := Tryz.sizeOf5
  v5 := Tryz.zeroValue5 }
/-- bytes.Equal: WHOLE. (LAID: no walk: one application.) -/
theorem Tryz.bytes_Equal_all (p1 p2 : Option Addr) (n c m d : Nat) (xs ys : List Int) (w : World) (hx : xs.length = n) (hy : ys.length = m) (h1 : Lib.BytesIn w p1 n xs) (h2 : Lib.BytesIn w p2 m ys) :
    Calls Tryz.prog 45 #[.slice p1 n c, .slice p2 m d] w fun e w' => e = .returned (.bool (Lib.bytesOf xs == Lib.bytesOf ys)) ∧ w' = w := Any.bytes_Equal_all Tryz.laysnb115 p1 p2 n c m d xs ys w hx hy h1 h2
def Tryz.lays115_ren : Go.Shelf.Ren := ⟨fun | 115 => 45 | n => n, fun | 37 => 26 | 4 => 4 | 9 => 9 | 5 => 5 | n => n, fun | n => n⟩
theorem Tryz.lays115 : Go.Proofs.Lays.n115 Tryz.prog Tryz.lays115_ren := {
  mixed := by kernel_rfl
  f115 := Tryz.func45.trans (congrArg some (by kernel_rfl))
  t4 := Tryz.underlying4
  a4 := Tryz.isAgg4
  z4 := Tryz.sizeOf4
  v4 := Tryz.zeroValue4
  t9 := Tryz.underlying9
  a9 := Tryz.isAgg9
  z9 := Tryz.sizeOf9
  v9 := Tryz.zeroValue9
  t37 := Tryz.underlying26
  a37 := Tryz.isAgg26
  z37 := Tryz.sizeOf26
  v37 := Tryz.zeroValue26 }
/-- bytes.Equal: "Equal reports whether a and b are the same length and contain the same bytes. A nil argument is equivalent to an empty slice.": IT RETURNS 'the bytes of the one == the bytes of the other'; the world is as it was. THE TWO ARGUMENTS COME AS WHATEVER VALUES, each with the one fact that the walk wants of it: what 'string(..)' of it gives: for a slice whose cells you know: 'run_convert_bytes_arg' (Derived/Laws/BytesArg.lean) hands that fact; for a nil one: 'run_convert_bytes_nil' (with xs := []). (LAID: no walk: one application.) -/
theorem Tryz.bytes_Equal (v1 v2 : Value) (xs ys : List Int) (w : World) (h1 : (convert 26 9 v1).run Tryz.prog w = .ok (.string (strOfNums xs)) w) (h2 : (convert 26 9 v2).run Tryz.prog w = .ok (.string (strOfNums ys)) w) :
    Calls Tryz.prog 45 #[v1, v2] w fun e w' => e = .returned (.bool (Lib.bytesOf xs == Lib.bytesOf ys)) ∧ w' = w := Any.bytes_Equal Tryz.lays115 v1 v2 xs ys w h1 h2
def Tryz.lays84_f166_ren : Go.Shelf.Ren := ⟨fun | 4 => 166 | n => n, fun | 22 => 26 | 25 => 5 | 3 => 3 | 4 => 4 | 9 => 9 | 20 => 20 | 0 => 0 | n => n, fun | n => n⟩
theorem Tryz.lays84_f166 : Go.Proofs.Lays8.n4 Tryz.prog Tryz.lays84_f166_ren := {
  mixed := by kernel_rfl
  f4 := ⟨Tryz.f166.name, by decide, Tryz.func166.trans (congrArg some (by kernel_rfl))⟩
  t0 := Tryz.underlying0
  a0 := Tryz.isAgg0
  z0 := Tryz.sizeOf0
  v0 := Tryz.zeroValue0
  t3 := Tryz.underlying3
  a3 := Tryz.isAgg3
  z3 := Tryz.sizeOf3
  v3 := Tryz.zeroValue3
  t4 := Tryz.underlying4
  a4 := Tryz.isAgg4
  z4 := Tryz.sizeOf4
  v4 := Tryz.zeroValue4
  t9 := Tryz.underlying9
  a9 := Tryz.isAgg9
  z9 := Tryz.sizeOf9
  v9 := Tryz.zeroValue9
  t20 := Tryz.underlying20
  a20 := Tryz.isAgg20
  z20 := Tryz.sizeOf20
  v20 := Tryz.zeroValue20
  t22 := Tryz.underlying26
  a22 := Tryz.isAgg26
  z22 := Tryz.sizeOf26
  v22 := Tryz.zeroValue26 }
open Go.RowKit Go.Lib in
/-- slices.Grow: NO ROOM. -/
theorem Tryz.slices_Grow_grow (i0 : TypeInfo) (z : Value) (hi0 : Tryz.prog.info? 5 = some i0) (hz0 : i0.zero = some z) (hs0 : 0 < i0.size) (base : Option Addr) (l c n : Nat) (cs : List Value) (w : World) (hlc : l ≤ c) (hroom : c < l + n) (hbig : (l + n) * i0.bytes ≤ 140737488355328) (h63 : l + n ≤ 4611686018427387904) (hcl : cs.length = c * i0.size) (hnil : base = none → c = 0) (hcs : ∀ a, base = some a → ∀ j v, cs[j]? = some v → w.cell? (a.add j) = some v) :
    Calls Tryz.prog 166 #[.slice base l c, .int .i64 n] w fun e w' => e = .returned (.slice (some ⟨w.heap.size, 0, none⟩) l (grownCap w (l + n) c 5)) ∧ w' = w.drew.alloc (.cells (cs.toArray ++ Builtin.zeroCells z.cells (l + n - c) ++ Builtin.zeroCells z.cells (grownCap w (l + n) c 5 - (l + n))) 5) := Any8.slices_Grow_grow Tryz.lays84_f166 i0 z hi0 hz0 hs0 base l c n cs w hlc hroom hbig h63 hcl hnil hcs
open Go.RowKit Go.Lib in
/-- slices.Grow: THERE IS ROOM. -/
theorem Tryz.slices_Grow_room (base : Option Addr) (l c n : Nat) (w : World) (hlc : l ≤ c) (hc63 : c ≤ 9223372036854775807) (hn63 : n ≤ 9223372036854775807) (hroom : l + n ≤ c) :
    Calls Tryz.prog 166 #[.slice base l c, .int .i64 n] w fun e w' => e = .returned (.slice base l c) ∧ w' = w := Any8.slices_Grow_room Tryz.lays84_f166 base l c n w hlc hc63 hn63 hroom
end Go.Proofs
