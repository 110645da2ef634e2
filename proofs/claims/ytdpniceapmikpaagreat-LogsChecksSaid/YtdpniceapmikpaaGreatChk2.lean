/-
  The contract of objects.Check.
  The contract of objects.Check, of nodes, and of all objects.
  The contract of the reference's Check (objects).
  The two Checks of objects are the same.
  The sums of half bytes: sums.table.
  The iterator over half bytes: sums.halves.
  A region within a round of a range over a function, at the wide fence: walked as everywhere. For all regions without a defer.
  The contracts of sums.Update and sums.Crc, for all bytes.
-/
import Derived.RangeFuncNested
import Derived.RangeFuncBound
import Derived.RangeFuncCalls
import Derived.RangeFuncLeaves
import Derived.RangeFuncFrom
import Derived.RangeFuncBox
import Derived.Shelf.Abstract
import Derived.Shelf.RegionOpen
import Derived.WalkKit
import Derived.OwnWalkIn
import Derived.TacticsInMore
import Derived.LoopNIn
import Derived.LoopIn
import Derived.OrdersIn
import Derived.ControlIn
import Derived.Deep.RegionHeld3
import Derived.TacticsIn
import Derived.Test.YtdpniceapmikpaaGreatChk1
set_option linter.unusedVariables false
set_option linter.unusedSimpArgs false
namespace Go.Proofs.YtdpniceapmikpaaGreat
open Go.RowKit

theorem slots_index (l : List KeyD) (hl : l.length = 16) (j : Nat) (x : KeyD) (h : l[j]? = some x) (w : World) :
    (Instr.index 59 (.agg (slotCells l).toArray) (.int .i64 (j : Int))).run Tryz.prog w = .ok (.agg #[.int .i64 x.k, .int .i64 x.o, .int .i64 x.c, .int .i64 x.a, .int .i64 x.r, .int .i64 x.v]) w := by
  have hj : j < 16 := by
    rcases Nat.lt_or_ge j 16 with hh | hh
    · exact hh
    · rw [List.getElem?_eq_none (by omega)] at h; cases h
  have hn : (0 : Int) ≤ j ∧ (j : Int) < 16 := by omega
  obtain ⟨i, hi, hs⟩ := Option.map_eq_some_iff.1 info_key
  have hp := slots_part l j x h w
  have hcs := cellsOf_key
  simp [Instr.index, run_underlying Tryz.underlying59, asIntOf, run_sizeOf w hi, hcs, hp, hj]
  rfl

def preB (n ct cl : Int) : Bool := decide (1 ≤ n) && decide (n ≤ 64) && decide (0 ≤ ct) && decide (ct ≤ 4294967295) && decide (0 ≤ cl) && decide (cl ≤ 4294967295)
def slotB (n : Int) (x : KeyD) : Bool := ofB x.k x.o x.c x.a x.r x.v && (!namesB x.k x.o x.c x.a x.r x.v || decide (x.o < n))
def objB (o : ObjD) (n : Int) : Bool := preB n o.ct o.cl && (if o.kd = 0 then bareB o false else if o.kd = 3 then bareB o false else if o.kd = 2 then bareB o true else if o.kd = 1 then o.slots.all (slotB n) else false)

set_option maxRecDepth 100000 in
set_option maxHeartbeats 1000000 in
theorem ocheck_pre (o : ObjD) (n : Int) (w : World) (h : preB n o.ct o.cl = false) : Calls Tryz.prog 40 #[.agg o.cells.toArray, .int .i64 n] w fun e w' => e = .returned (.int .i64 2) ∧ Below w.heap.size w w' := by
  obtain ⟨cs, hc⟩ : ∃ cs, cs = o.cells.toArray := ⟨_, rfl⟩
  rw [← hc]
  have K := Blk.new w 62 cs
  have c1 : (w.alloc (.cells cs 62)).cell? ⟨w.heap.size, 1, none⟩ = some (.int .i64 o.ct) := (obj_range K hc 1).trans rfl
  have c2 : (w.alloc (.cells cs 62)).cell? ⟨w.heap.size, 2, none⟩ = some (.int .i64 o.cl) := (obj_range K hc 2).trans rfl
  clear K hc
  generalize o.ct = ct at *
  generalize o.cl = cl at *
  have hs : n < 1 ∨ (¬ n < 1 ∧ 64 < n) ∨ (¬ n < 1 ∧ ¬ 64 < n ∧ ct < 0) ∨ (¬ n < 1 ∧ ¬ 64 < n ∧ ¬ ct < 0 ∧ 4294967295 < ct) ∨ (¬ n < 1 ∧ ¬ 64 < n ∧ ¬ ct < 0 ∧ ¬ 4294967295 < ct ∧ cl < 0) ∨ (¬ n < 1 ∧ ¬ 64 < n ∧ ¬ ct < 0 ∧ ¬ 4294967295 < ct ∧ ¬ cl < 0 ∧ 4294967295 < cl) := by
    simp [preB] at h
    omega
  clear h
  rcases hs with h1 | ⟨h1, h2⟩ | ⟨h1, h2, h3⟩ | ⟨h1, h2, h3, h4⟩ | ⟨h1, h2, h3, h4, h5⟩ | ⟨h1, h2, h3, h4, h5, h6⟩
  all_goals
    go_enter Tryz.func40, Tryz.ntmps40
    go_wp2_with fail
    go_ret
    exact ⟨rfl, (Below.refl _ _).alloc (Nat.le_refl _) _⟩

theorem pre_not {n ct cl : Int} (h : preB n ct cl = true) : ¬ n < 1 ∧ ¬ 64 < n ∧ ¬ ct < 0 ∧ ¬ 4294967295 < ct ∧ ¬ cl < 0 ∧ ¬ 4294967295 < cl := by
  simp [preB] at h
  omega

set_option maxRecDepth 100000 in
set_option maxHeartbeats 1000000 in
theorem ocheck_bare (o : ObjD) (ho : o.ok) (n : Int) (b : Bool) (w : World) (h : preB n o.ct o.cl = true) (hk : (b = false ∧ (o.kd = 0 ∨ o.kd = 3)) ∨ (b = true ∧ o.kd = 2)) : Calls Tryz.prog 40 #[.agg o.cells.toArray, .int .i64 n] w fun e w' => e = .returned (.int .i64 (errB (bareB o b))) ∧ Below w.heap.size w w' := by
  have HB := Lib.hid (fun W => bare_any o ho b W)
  obtain ⟨cs, hc⟩ : ∃ cs, cs = o.cells.toArray := ⟨_, rfl⟩
  rw [← hc] at HB ⊢
  have K := Blk.new w 62 cs
  have h163 : cs.size = 163 := by rw [hc]; simpa using ObjD.len ho
  have c0 : (w.alloc (.cells cs 62)).cell? ⟨w.heap.size, 0, none⟩ = some (.int .i64 o.kd) := (obj_range K hc 0).trans rfl
  have c1 : (w.alloc (.cells cs 62)).cell? ⟨w.heap.size, 1, none⟩ = some (.int .i64 o.ct) := (obj_range K hc 1).trans rfl
  have c2 : (w.alloc (.cells cs 62)).cell? ⟨w.heap.size, 2, none⟩ = some (.int .i64 o.cl) := (obj_range K hc 2).trans rfl
  have hr : (loadVar 62 ⟨w.heap.size, 0, none⟩).run Tryz.prog (w.alloc (.cells cs 62)) = .ok (.agg cs) (w.alloc (.cells cs 62)) :=
    run_loadVar_row _ _ _ _ cs _ _ K Tryz.underlying62 rfl (by rw [h163]; kernel_rfl)
  have HR := Lib.hid hr
  clear K hc h163 hr
  generalize bareB o b = q at *
  generalize o.ct = ct at *
  generalize o.cl = cl at *
  generalize o.kd = kd at *
  clear ho
  obtain ⟨h1, h2, h3, h4, h5, h6⟩ := pre_not h
  clear h
  have he : errB true = 0 := rfl
  have he2 : errB false = 2 := rfl
  rcases hk with ⟨rfl, rfl | rfl⟩ | ⟨rfl, rfl⟩
  all_goals
    go_enter Tryz.func40, Tryz.ntmps40
    go_wp2_with (refine wpList_load_midG rfl 62 _ rfl w.heap.size 0 rfl cs HR.out ?_)
    refine (HB.out _).mono ?_; rintro e w1 ⟨rfl, hb⟩
    have hbb := ((Below.refl w.heap.size w).alloc (Nat.le_refl _) (.cells cs 62)).trans (hb.mono (by simp))
    cases q
    all_goals
      go_wp2_with fail
      go_ret
      exact ⟨rfl, hbb⟩

set_option maxRecDepth 100000 in
set_option maxHeartbeats 1000000 in
theorem ocheck_else (o : ObjD) (n : Int) (w : World) (h : preB n o.ct o.cl = true) (k0 : o.kd ≠ 0) (k1 : o.kd ≠ 1) (k2 : o.kd ≠ 2) (k3 : o.kd ≠ 3) : Calls Tryz.prog 40 #[.agg o.cells.toArray, .int .i64 n] w fun e w' => e = .returned (.int .i64 2) ∧ Below w.heap.size w w' := by
  obtain ⟨cs, hc⟩ : ∃ cs, cs = o.cells.toArray := ⟨_, rfl⟩
  rw [← hc]
  have K := Blk.new w 62 cs
  have c0 : (w.alloc (.cells cs 62)).cell? ⟨w.heap.size, 0, none⟩ = some (.int .i64 o.kd) := (obj_range K hc 0).trans rfl
  have c1 : (w.alloc (.cells cs 62)).cell? ⟨w.heap.size, 1, none⟩ = some (.int .i64 o.ct) := (obj_range K hc 1).trans rfl
  have c2 : (w.alloc (.cells cs 62)).cell? ⟨w.heap.size, 2, none⟩ = some (.int .i64 o.cl) := (obj_range K hc 2).trans rfl
  clear K hc
  generalize o.ct = ct at *
  generalize o.cl = cl at *
  generalize o.kd = kd at *
  obtain ⟨h1, h2, h3, h4, h5, h6⟩ := pre_not h
  clear h
  go_enter Tryz.func40, Tryz.ntmps40
  go_wp2_with fail
  go_ret
  exact ⟨rfl, (Below.refl _ _).alloc (Nat.le_refl _) _⟩
end Go.Proofs.YtdpniceapmikpaaGreat
namespace Go.Proofs.YtdpniceapmikpaaGreat
open Go.RowKit

theorem all_take (l : List KeyD) (p : KeyD → Bool) (j : Nat) (x : KeyD) (h : l[j]? = some x) : (l.take (j + 1)).all p = ((l.take j).all p && p x) := by
  rw [List.take_add_one, h]
  simp
theorem slotB_no {n : Int} {x : KeyD} (h : ofB x.k x.o x.c x.a x.r x.v = false) : slotB n x = false := by unfold slotB; rw [h]; rfl
theorem slotB_free {n : Int} {x : KeyD} (h : ofB x.k x.o x.c x.a x.r x.v = true) (h2 : namesB x.k x.o x.c x.a x.r x.v = false) : slotB n x = true := by unfold slotB; rw [h, h2]; rfl
theorem slotB_named {n : Int} {x : KeyD} (h : ofB x.k x.o x.c x.a x.r x.v = true) (h2 : namesB x.k x.o x.c x.a x.r x.v = true) : slotB n x = decide (x.o < n) := by unfold slotB; rw [h, h2]; simp

set_option maxRecDepth 100000 in
set_option maxHeartbeats 4000000 in
theorem ocheck_node (o : ObjD) (ho : o.ok) (n : Int) (w : World) (h : preB n o.ct o.cl = true) (hk : o.kd = 1) : Calls Tryz.prog 40 #[.agg o.cells.toArray, .int .i64 n] w fun e w' => e = .returned (.int .i64 (errB (o.slots.all (slotB n)))) ∧ Below w.heap.size w w' := by
  obtain ⟨cs, hc⟩ : ∃ cs, cs = o.cells.toArray := ⟨_, rfl⟩
  rw [← hc]
  have K := Blk.new w 62 cs
  have c0 : (w.alloc (.cells cs 62)).cell? ⟨w.heap.size, 0, none⟩ = some (.int .i64 1) := (obj_range K hc 0).trans (by rw [← hk]; rfl)
  have c1 : (w.alloc (.cells cs 62)).cell? ⟨w.heap.size, 1, none⟩ = some (.int .i64 o.ct) := (obj_range K hc 1).trans rfl
  have c2 : (w.alloc (.cells cs 62)).cell? ⟨w.heap.size, 2, none⟩ = some (.int .i64 o.cl) := (obj_range K hc 2).trans rfl
  have l1 := Lib.hid (load_slots ho K hc)
  have hl : o.slots.length = 16 := ho.1
  have HX := Lib.hid (fun j x hx W => slots_index o.slots hl j x hx W)
  clear K hc ho hk
  generalize o.ct = ct at *
  generalize o.cl = cl at *
  generalize o.slots = l at *
  generalize (slotCells l).toArray = S at *
  obtain ⟨h1, h2, h3, h4, h5, h6⟩ := pre_not h
  clear h
  have HL := Lib.hid hl
  obtain ⟨q, hq⟩ : ∃ q, q = l.all (slotB n) := ⟨_, rfl⟩
  rw [← hq]
  have HQ := Lib.hid hq
  clear hq
  go_enter Tryz.func40, Tryz.ntmps40
  go_wp2_with (refine wpList_load_midG rfl 59 _ rfl w.heap.size 3 rfl S l1.out ?_)
  have hB0 := (Below.refl w.heap.size w).alloc (Nat.le_refl _) (.cells cs 62)
  clear c0 c1 c2 l1
  go_loopw [5, 52] (fun f i wr => ∃ j : Nat, j ≤ 16 ∧ i = .int .i64 j ∧ f = .bool ((l.take j).all (slotB n)) ∧ Below w.heap.size w wr) (fun _ i _ => 16 - (intOf i).toNat)
  case atStart => exact ⟨0, by omega, rfl, rfl, hB0⟩
  case round =>
    clear hB0
    obtain ⟨j, hj, rfl, rfl, hB⟩ := hrel
    have he : errB true = 0 := rfl
    have he2 : errB false = 2 := rfl
    by_cases hlt : j < 16
    · obtain ⟨x, hx⟩ : ∃ x, l[j]? = some x := ⟨_, List.getElem?_eq_getElem (by omega)⟩
      have hidx := HX.out j x hx wr
      have hT := all_take l (slotB n) j x hx
      have HF0 := Lib.hid (@slotB_no n x)
      have HF1 := Lib.hid (@slotB_free n x)
      have HF2 := Lib.hid (@slotB_named n x)
      obtain ⟨f0, hf0⟩ : ∃ f0, f0 = (l.take j).all (slotB n) := ⟨_, rfl⟩
      rw [← hf0] at hT ⊢
      have HT := Lib.hid hT
      clear hT hf0 hx
      obtain ⟨kk, ko, kc, ka, kr, kv⟩ := x
      simp only at hidx HF0 HF1 HF2
      have hz := hB.size
      go_wp2_with fail
      have K1 : Blk (wr.alloc (.cells #[.int .i64 kk, .int .i64 ko, .int .i64 kc, .int .i64 ka, .int .i64 kr, .int .i64 kv] 58)) wr.heap.size 58 (keyV kk ko kc ka kr kv) := Blk.new wr _ _
      refine (names_any kk ko kc ka kr kv _).mono ?_; rintro e w1 ⟨rfl, hb⟩
      have K2 := K1.below hb (by simp)
      have hB2 := (hB.alloc hz (.cells #[.int .i64 kk, .int .i64 ko, .int .i64 kc, .int .i64 ka, .int .i64 kr, .int .i64 kv] 58)).trans (hb.mono (by simp; omega))
      obtain ⟨x0, x1, x2, x3, x4, x5⟩ := K2.key
      clear hidx K1 K2 hb hB
      cases f0
      · have hT2 : (l.take (j + 1)).all (slotB n) = false := HT.out
        have HT2 := Lib.hid hT2
        clear hT2
        cases hN : namesB kk ko kc ka kr kv
        all_goals
          go_wp2_with fail
          exact ⟨⟨j + 1, by omega, by go_num, by rw [HT2.out], hB2⟩, by simp [intOf] <;> omega⟩
      · cases hB : ofB kk ko kc ka kr kv
        · have hT2 : (l.take (j + 1)).all (slotB n) = false := HT.out.trans (by rw [HF0.out hB]; rfl)
          have HT2 := Lib.hid hT2
          clear hT2
          cases hN : namesB kk ko kc ka kr kv
          all_goals
            go_wp2_with fail
            refine (check_any kk ko kc ka kr kv _).mono ?_; rintro e w2 ⟨rfl, hb⟩
            have hB3 := hB2.trans (hb.mono hB2.size)
            rw [hB]
            go_wp2_with fail
            exact ⟨⟨j + 1, by omega, by go_num, by rw [HT2.out], hB3⟩, by simp [intOf] <;> omega⟩
        · cases hN : namesB kk ko kc ka kr kv
          · have hT2 : (l.take (j + 1)).all (slotB n) = true := HT.out.trans (by rw [HF1.out hB hN]; rfl)
            have HT2 := Lib.hid hT2
            clear hT2
            go_wp2_with fail
            refine (check_any kk ko kc ka kr kv _).mono ?_; rintro e w2 ⟨rfl, hb⟩
            have hB3 := hB2.trans (hb.mono hB2.size)
            rw [hB]
            go_wp2_with fail
            exact ⟨⟨j + 1, by omega, by go_num, by rw [HT2.out], hB3⟩, by simp [intOf] <;> omega⟩
          · have hT2 : (l.take (j + 1)).all (slotB n) = decide (ko < n) := HT.out.trans (by rw [HF2.out hB hN]; rfl)
            have HT2 := Lib.hid hT2
            clear hT2
            go_wp2_with fail
            refine (check_any kk ko kc ka kr kv _).mono ?_; rintro e w2 ⟨rfl, hb⟩
            have hB3 := hB2.trans (hb.mono hB2.size)
            rw [hB]
            go_wp2_with fail
            exact ⟨⟨j + 1, by omega, by go_num, by rw [HT2.out], hB3⟩, by simp [intOf] <;> omega⟩
    · obtain rfl : j = 16 := by omega
      have hT : (l.take 16).all (slotB n) = q := by rw [List.take_of_length_le (by rw [HL.out]; omega), HQ.out]
      rw [hT]
      clear hT
      cases q
      all_goals
        go_wp2_with fail
        go_ret
        exact ⟨rfl, hB⟩

/-- objects.Check -/
theorem ocheck_any (o : ObjD) (ho : o.ok) (n : Int) (w : World) : Calls Tryz.prog 40 #[.agg o.cells.toArray, .int .i64 n] w fun e w' => e = .returned (.int .i64 (errB (objB o n))) ∧ Below w.heap.size w w' := by
  unfold objB
  cases h : preB n o.ct o.cl
  · exact ocheck_pre o n w h
  · rw [Bool.true_and]
    by_cases k0 : o.kd = 0
    · rw [if_pos k0]; exact ocheck_bare o ho n false w h (.inl ⟨rfl, .inl k0⟩)
    by_cases k3 : o.kd = 3
    · rw [if_neg k0, if_pos k3]; exact ocheck_bare o ho n false w h (.inl ⟨rfl, .inr k3⟩)
    by_cases k2 : o.kd = 2
    · rw [if_neg k0, if_neg k3, if_pos k2]; exact ocheck_bare o ho n true w h (.inr ⟨rfl, k2⟩)
    by_cases k1 : o.kd = 1
    · rw [if_neg k0, if_neg k3, if_neg k2, if_pos k1]; exact ocheck_node o ho n w h k1
    rw [if_neg k0, if_neg k3, if_neg k2, if_neg k1]; exact ocheck_else o n w h k0 k1 k2 k3
end Go.Proofs.YtdpniceapmikpaaGreat
namespace Go.Proofs.YtdpniceapmikpaaGreat
open Go.RowKit

def rpreB (n kd ct cl : Int) : Bool := preB n ct cl && (decide (0 ≤ kd) && decide (kd ≤ 3) && ((kd == 1) || (cl == 0)))
def rslotB (n kd : Int) (x : KeyD) : Bool := slotB n x && ((kd == 1) || keyEq x keyZ)
def rbyteB (kd : Int) (c : UInt8) : Bool := (kd == 1) || ((kd == 2) || (c == 0))
def robjB (o : ObjD) (n : Int) : Bool := rpreB n o.kd o.ct o.cl && (o.slots.all (rslotB n o.kd) && o.bytes.all (rbyteB o.kd))

section
variable {P : Program} {ops : Array Oper} {rest : List Oper} {o : Oper} {a : Act} {w : World} {Q : Exit → Act → World → Prop}
theorem wpList_neq_agg (hw : Region.wanted o (yielded ops a.tmps) = true) (t t' : TypeId) (x y : Operand) (ho : o.op = .binOp .neq t x y t') (xs ys : Array Value) (hx : a.eval x = .agg xs) (hy : a.eval y = .agg ys)
    (hm : P.eqGuardType P.depth t = false) (b : Bool) (he : (Op.equalIn 10000 t (.agg xs) (.agg ys)).run P w = .ok b w)
    (h : wpList P ops Q rest (a.put o.dst (.bool (!b))) w) : wpList P ops Q (o :: rest) a w :=
  wpList_step fun K hK => by
    simp only [hw, if_true]
    unfold Oper.wp execOp
    simp only [ho, hx, hy, Sem.run_bind, run_eqGuard_agg _ _ _ _ _ _ _ hm, run_neq_struct, he, Sem.run_pure, Result.andThen_ok]
    exact hK _ _ h
end

set_option maxRecDepth 100000 in
set_option maxHeartbeats 1000000 in
theorem rocheck_pre (o : ObjD) (n : Int) (w : World) (h : rpreB n o.kd o.ct o.cl = false) : Calls Tryz.prog 42 #[.agg o.cells.toArray, .int .i64 n] w fun e w' => e = .returned (.int .i64 2) ∧ Below w.heap.size w w' := by
  obtain ⟨cs, hc⟩ : ∃ cs, cs = o.cells.toArray := ⟨_, rfl⟩
  rw [← hc]
  have K := Blk.new w 62 cs
  have c0 : (w.alloc (.cells cs 62)).cell? ⟨w.heap.size, 0, none⟩ = some (.int .i64 o.kd) := (obj_range K hc 0).trans rfl
  have c1 : (w.alloc (.cells cs 62)).cell? ⟨w.heap.size, 1, none⟩ = some (.int .i64 o.ct) := (obj_range K hc 1).trans rfl
  have c2 : (w.alloc (.cells cs 62)).cell? ⟨w.heap.size, 2, none⟩ = some (.int .i64 o.cl) := (obj_range K hc 2).trans rfl
  clear K hc
  generalize o.ct = ct at *
  generalize o.cl = cl at *
  generalize o.kd = kd at *
  have hs : n < 1 ∨ (¬ n < 1 ∧ 64 < n) ∨ (¬ n < 1 ∧ ¬ 64 < n ∧ kd < 0) ∨ (¬ n < 1 ∧ ¬ 64 < n ∧ ¬ kd < 0 ∧ 3 < kd) ∨ (¬ n < 1 ∧ ¬ 64 < n ∧ ¬ kd < 0 ∧ ¬ 3 < kd ∧ ct < 0) ∨ (¬ n < 1 ∧ ¬ 64 < n ∧ ¬ kd < 0 ∧ ¬ 3 < kd ∧ ¬ ct < 0 ∧ 4294967295 < ct) ∨ (¬ n < 1 ∧ ¬ 64 < n ∧ ¬ kd < 0 ∧ ¬ 3 < kd ∧ ¬ ct < 0 ∧ ¬ 4294967295 < ct ∧ cl < 0) ∨ (¬ n < 1 ∧ ¬ 64 < n ∧ ¬ kd < 0 ∧ ¬ 3 < kd ∧ ¬ ct < 0 ∧ ¬ 4294967295 < ct ∧ ¬ cl < 0 ∧ 4294967295 < cl) ∨ (¬ n < 1 ∧ ¬ 64 < n ∧ ¬ kd < 0 ∧ ¬ 3 < kd ∧ ¬ ct < 0 ∧ ¬ 4294967295 < ct ∧ ¬ cl < 0 ∧ ¬ 4294967295 < cl ∧ ¬ kd = 1 ∧ ¬ cl = 0) := by
    simp [rpreB, preB] at h
    omega
  clear h
  rcases hs with h1 | ⟨h1, h2⟩ | ⟨h1, h2, h3⟩ | ⟨h1, h2, h3, h4⟩ | ⟨h1, h2, h3, h4, h5⟩ | ⟨h1, h2, h3, h4, h5, h6⟩ | ⟨h1, h2, h3, h4, h5, h6, h7⟩ | ⟨h1, h2, h3, h4, h5, h6, h7, h8⟩ | ⟨h1, h2, h3, h4, h5, h6, h7, h8, h9, h10⟩
  all_goals
    try have h11 : (kd != 1) = true := by simpa using h9
    try have h12 : (cl != 0) = true := by simpa using h10
    go_enter Tryz.func42, Tryz.ntmps42
    go_wp2_with fail
    go_ret
    exact ⟨rfl, (Below.refl _ _).alloc (Nat.le_refl _) _⟩

theorem rpre_not {n kd ct cl : Int} (h : rpreB n kd ct cl = true) : ¬ n < 1 ∧ ¬ 64 < n ∧ ¬ kd < 0 ∧ ¬ 3 < kd ∧ ¬ ct < 0 ∧ ¬ 4294967295 < ct ∧ ¬ cl < 0 ∧ ¬ 4294967295 < cl ∧ (kd = 1 ∨ (¬ kd = 1 ∧ cl = 0)) := by
  simp [rpreB, preB] at h
  omega
theorem rslot_take (l : List KeyD) (p : KeyD → Bool) (j : Nat) (x : KeyD) (h : l[j]? = some x) (h1 : (l.take j).all p = true) (h2 : p x = true) : (l.take (j + 1)).all p = true := by
  rw [all_take l p j x h, h1, h2]; rfl
theorem rall_no (l : List KeyD) (p : KeyD → Bool) (j : Nat) (x : KeyD) (h : l[j]? = some x) (h2 : p x = false) : l.all p = false := by
  rw [List.all_eq_false]
  exact ⟨x, List.mem_of_getElem? h, by simp [h2]⟩
theorem byte_no (l : List UInt8) (p : UInt8 → Bool) (j : Nat) (x : UInt8) (h : l[j]? = some x) (h2 : p x = false) : l.all p = false := by
  rw [List.all_eq_false]
  exact ⟨x, List.mem_of_getElem? h, by simp [h2]⟩
theorem byte_take (l : List UInt8) (p : UInt8 → Bool) (j : Nat) (x : UInt8) (h : l[j]? = some x) (h1 : (l.take j).all p = true) (h2 : p x = true) : (l.take (j + 1)).all p = true := by
  rw [List.take_add_one, h]
  simp [h1, h2]
theorem load_key {W : World} {g : Nat} {o : ObjD} {cs : Array Value} (ho : o.ok) (hb : Blk W g 62 cs) (hc : cs = o.cells.toArray) (j : Nat) (x : KeyD) (h : o.slots[j]? = some x) :
    (loadVar 58 ⟨g, 3 + j * 6, none⟩).run Tryz.prog W = .ok (.agg #[.int .i64 x.k, .int .i64 x.o, .int .i64 x.c, .int .i64 x.a, .int .i64 x.r, .int .i64 x.v]) W := by
  have hj : j < 16 := by
    rcases Nat.lt_or_ge j 16 with hh | hh
    · exact hh
    · rw [List.getElem?_eq_none (by have := ho.1; omega)] at h; cases h
  refine run_loadVar_mid W g (3 + j * 6) _ x.cells _ ?_ Tryz.underlying58 rfl (by rw [KeyD.cells_len]; exact info_key)
  intro i v hv
  have hi : i < 6 := by
    rcases Nat.lt_or_ge i 6 with hh | hh
    · exact hh
    · rw [List.getElem?_eq_none (by rw [KeyD.cells_len]; omega)] at hv; cases hv
  rw [obj_range hb hc (3 + j * 6 + i)]
  unfold ObjD.cells
  rw [List.getElem?_append_right (by simp; omega), List.getElem?_append_left (by rw [slotCells_len, ho.1]; simp; omega)]
  have e : 3 + j * 6 + i - [Value.int .i64 o.kd, Value.int .i64 o.ct, Value.int .i64 o.cl].length = j * 6 + i := by simp; omega
  rw [e, slotCells_at _ j x h i hi]
  exact hv
theorem load_byte {W : World} {g : Nat} {o : ObjD} {cs : Array Value} (ho : o.ok) (hb : Blk W g 62 cs) (hc : cs = o.cells.toArray) (j : Nat) (c : UInt8) (h : o.bytes[j]? = some c) :
    W.cell? ⟨g, 99 + j, none⟩ = some (vu8 c) := by
  rw [obj_range hb hc (99 + j)]
  unfold ObjD.cells
  rw [← List.append_assoc, List.getElem?_append_right (by rw [List.length_append, slotCells_len, ho.1]; simp)]
  rw [List.length_append, slotCells_len, ho.1]
  have e : 99 + j - (List.length [Value.int IntKind.i64 o.kd, Value.int IntKind.i64 o.ct, Value.int IntKind.i64 o.cl] + 6 * 16) = j := by simp
  rw [e, List.getElem?_map, h]; rfl
def rightsOk (o : ObjD) : Prop := ∀ x ∈ o.slots, x.r < 9223372036854775808
theorem keyZ_cells : keyZ.cells.toArray = #[.int .i64 0, .int .i64 0, .int .i64 0, .int .i64 0, .int .i64 0, .int .i64 0] := rfl

theorem err_no {q : Bool} {l : List KeyD} {bs : List UInt8} {p : KeyD → Bool} {r : UInt8 → Bool} (hq : q = (l.all p && bs.all r)) {j : Nat} {x : KeyD} (hx : l[j]? = some x) (h : p x = false) : q = false := by
  rw [hq, rall_no l p j x hx h]; rfl
theorem err_no2 {q : Bool} {l : List KeyD} {bs : List UInt8} {p : KeyD → Bool} {r : UInt8 → Bool} (hq : q = (l.all p && bs.all r)) {j : Nat} {x : UInt8} (hx : bs[j]? = some x) (h : r x = false) : q = false := by
  rw [hq, byte_no bs r j x hx h]; simp
theorem rslot_no1 {n kd : Int} {x : KeyD} (h : ofB x.k x.o x.c x.a x.r x.v = false) : rslotB n kd x = false := by unfold rslotB; rw [slotB_no h]; rfl
theorem rslot_no2 {n kd : Int} {x : KeyD} (h : ofB x.k x.o x.c x.a x.r x.v = true) (h2 : namesB x.k x.o x.c x.a x.r x.v = true) (h3 : ¬ x.o < n) : rslotB n kd x = false := by unfold rslotB; rw [slotB_named h h2, decide_eq_false h3]; rfl
theorem rslot_no3 {n kd : Int} {x : KeyD} (hk : (kd != 1) = true) (h : keyEq x keyZ = false) : rslotB n kd x = false := by
  unfold rslotB; rw [h, (by simpa using hk : (kd == 1) = false)]; simp
theorem rslot_yes {n kd : Int} {x : KeyD} (h : ofB x.k x.o x.c x.a x.r x.v = true) (h2 : namesB x.k x.o x.c x.a x.r x.v = false ∨ (namesB x.k x.o x.c x.a x.r x.v = true ∧ x.o < n)) (h3 : (kd != 1) = false ∨ ((kd != 1) = true ∧ keyEq x keyZ = true)) : rslotB n kd x = true := by
  unfold rslotB
  have h4 : slotB n x = true := by
    rcases h2 with h2 | ⟨h2, h5⟩
    · exact slotB_free h h2
    · rw [slotB_named h h2]; exact decide_eq_true h5
  rw [h4]
  rcases h3 with h3 | ⟨_, h3⟩
  · rw [(by simpa using h3 : kd = 1)]; rfl
  · rw [h3]; simp

set_option maxRecDepth 100000 in
set_option maxHeartbeats 4000000 in
theorem rocheck_yes (o : ObjD) (ho : o.ok) (hrs : rightsOk o) (n : Int) (w : World) (h : rpreB n o.kd o.ct o.cl = true) : Calls Tryz.prog 42 #[.agg o.cells.toArray, .int .i64 n] w fun e w' =>
    e = .returned (.int .i64 (errB (o.slots.all (rslotB n o.kd) && o.bytes.all (rbyteB o.kd)))) ∧ Below w.heap.size w w' := by
  obtain ⟨cs, hc⟩ : ∃ cs, cs = o.cells.toArray := ⟨_, rfl⟩
  rw [← hc]
  have K := Blk.new w 62 cs
  have c0 : (w.alloc (.cells cs 62)).cell? ⟨w.heap.size, 0, none⟩ = some (.int .i64 o.kd) := (obj_range K hc 0).trans rfl
  have c1 : (w.alloc (.cells cs 62)).cell? ⟨w.heap.size, 1, none⟩ = some (.int .i64 o.ct) := (obj_range K hc 1).trans rfl
  have c2 : (w.alloc (.cells cs 62)).cell? ⟨w.heap.size, 2, none⟩ = some (.int .i64 o.cl) := (obj_range K hc 2).trans rfl
  have HLK := Lib.hid (fun W (hb : Blk W w.heap.size 62 cs) j x hx => load_key ho hb hc j x hx)
  have HLB := Lib.hid (fun W (hb : Blk W w.heap.size 62 cs) j x hx => load_byte ho hb hc j x hx)
  have HRS := Lib.hid hrs
  unfold rightsOk at HRS
  have hl : o.slots.length = 16 := ho.1
  have hm : o.bytes.length = 64 := ho.2
  clear hc ho hrs
  generalize o.ct = ct at *
  generalize o.cl = cl at *
  generalize o.kd = kd at *
  generalize o.slots = l at *
  generalize o.bytes = bs at *
  obtain ⟨h1, h2, h3, h4, h5, h6, h7, h8, h9⟩ := rpre_not h
  clear h
  have HL := Lib.hid hl
  have HM := Lib.hid hm
  obtain ⟨q, hq⟩ : ∃ q, q = (l.all (rslotB n kd) && bs.all (rbyteB kd)) := ⟨_, rfl⟩
  rw [← hq]
  have HQ := Lib.hid hq
  clear hq
  have hB0 := (Below.refl w.heap.size w).alloc (Nat.le_refl _) (.cells cs 62)
  have hcl : (kd != 1) = false ∨ ((kd != 1) = true ∧ (cl != 0) = false) := by
    rcases h9 with h9 | ⟨h8, h9⟩
    · left; simpa using h9
    · right; exact ⟨by simpa using h8, by simpa using h9⟩
  clear h9
  go_enter Tryz.func42, Tryz.ntmps42
  rcases hcl with hb1 | ⟨hb1, hcl⟩
  all_goals
    go_wp2_with fail
    clear c0 c1 c2
    go_loopw [6] (fun i wr => ∃ j : Nat, j ≤ 16 ∧ i = .int .i64 j ∧ Hid ((l.take j).all (rslotB n kd) = true) ∧ Blk wr w.heap.size 62 cs ∧ Below w.heap.size w wr) (fun i _ => 16 - (intOf i).toNat)
    case atStart => exact ⟨0, by omega, rfl, Lib.hid rfl, K, hB0⟩
    case round =>
      clear hB0 K
      obtain ⟨j, hj, rfl, HT, K, hB⟩ := hrel
      have he : errB true = 0 := rfl
      have he2 : errB false = 2 := rfl
      have hz := hB.size
      by_cases hlt : j < 16
      · obtain ⟨x, hx⟩ : ∃ x, l[j]? = some x := ⟨_, List.getElem?_eq_getElem (by omega)⟩
        have HRX := Lib.hid (HRS.out x (List.mem_of_getElem? hx))
        have HX := Lib.hid hx
        clear hx
        go_wp2_with (refine wpList_load_midG rfl 58 _ rfl w.heap.size (3 + j * 6) rfl _ (HLK.out _ K j x HX.out) ?_)
        refine (rcheck_any x.k x.o x.c x.a x.r x.v _ HRX.out).mono ?_; rintro e w1 ⟨rfl, hb⟩
        have K1 := K.below hb K.lt
        have hB1 := hB.trans (hb.mono hz)
        clear K hB hb
        cases hO : ofB x.k x.o x.c x.a x.r x.v
        · have HN := Lib.hid (err_no HQ.out HX.out (rslot_no1 hO))
          go_wp2_with fail
          go_ret
          exact ⟨by rw [HN.out]; rfl, hB1⟩
        · go_wp2_with (refine wpList_load_midG rfl 58 _ rfl w.heap.size (3 + j * 6) rfl _ (HLK.out _ K1 j x HX.out) ?_)
          refine (rnames_any x.k x.o x.c x.a x.r x.v _ HRX.out).mono ?_; rintro e w2 ⟨rfl, hb⟩
          have K2 := K1.below hb K1.lt
          have hz1 := hB1.size
          have hB2 := hB1.trans (hb.mono hz1)
          clear K1 hB1 hb hz1
          obtain ⟨nm, hnm⟩ : ∃ nm : Int, nm = (if namesB x.k x.o x.c x.a x.r x.v then x.o else -1) := ⟨_, rfl⟩
          rw [← hnm]
          by_cases hge : n ≤ nm
          · have hno : namesB x.k x.o x.c x.a x.r x.v = true ∧ ¬ x.o < n := by
              cases hN : namesB x.k x.o x.c x.a x.r x.v
              · rw [hN] at hnm; simp at hnm; omega
              · rw [hN] at hnm; simp at hnm; exact ⟨rfl, by omega⟩
            have HN := Lib.hid (err_no HQ.out HX.out (rslot_no2 hO hno.1 hno.2))
            have hnlt : ¬ nm < n := by omega
            clear hno hnm
            go_wp2_with fail
            go_ret
            exact ⟨by rw [HN.out]; rfl, hB2⟩
          · have hyes : namesB x.k x.o x.c x.a x.r x.v = false ∨ (namesB x.k x.o x.c x.a x.r x.v = true ∧ x.o < n) := by
              cases hN : namesB x.k x.o x.c x.a x.r x.v
              · exact .inl rfl
              · rw [hN] at hnm; simp at hnm; exact .inr ⟨rfl, by omega⟩
            have hnlt : nm < n := by omega
            have HY := Lib.hid hyes
            clear hyes hnm
            have HO := Lib.hid hO
            clear hO
            first
            | (have hbf : (kd != 1) = false := hb1
               have HS := Lib.hid (rslot_take l (rslotB n kd) j x HX.out HT.out (rslot_yes HO.out HY.out (.inl hb1)))
               clear hbf
               go_wp2_with fail
               exact ⟨⟨j + 1, by omega, by go_num, HS, K2, hB2⟩, by simp [intOf] <;> omega⟩)
            | (have hbt : (kd != 1) = true := hb1
               have E := Lib.hid (key_equalIn 9998 x keyZ w2)
               cases hk : keyEq x keyZ
               · have HN := Lib.hid (err_no HQ.out HX.out (rslot_no3 (n := n) hb1 hk))
                 rw [hk] at E
                 clear hk
                 go_wp2_with (first
                   | (refine wpList_load_midG rfl 58 _ rfl w.heap.size (3 + j * 6) rfl _ (HLK.out _ K2 j x HX.out) ?_)
                   | (refine wpList_neq_agg rfl 58 _ _ _ rfl x.cells.toArray keyZ.cells.toArray rfl rfl (by kernel_rfl) _ E.out ?_))
                 go_ret
                 exact ⟨by rw [HN.out]; rfl, hB2⟩
               · have HS := Lib.hid (rslot_take l (rslotB n kd) j x HX.out HT.out (rslot_yes HO.out HY.out (.inr ⟨hb1, hk⟩)))
                 rw [hk] at E
                 clear hk
                 go_wp2_with (first
                   | (refine wpList_load_midG rfl 58 _ rfl w.heap.size (3 + j * 6) rfl _ (HLK.out _ K2 j x HX.out) ?_)
                   | (refine wpList_neq_agg rfl 58 _ _ _ rfl x.cells.toArray keyZ.cells.toArray rfl rfl (by kernel_rfl) _ E.out ?_))
                 exact ⟨⟨j + 1, by omega, by go_num, HS, K2, hB2⟩, by simp [intOf] <;> omega⟩)
      · obtain rfl : j = 16 := by omega
        have hA : l.all (rslotB n kd) = true := by
          have := HT.out
          rwa [List.take_of_length_le (by rw [HL.out]; omega)] at this
        have HA := Lib.hid hA
        clear hA HT HLK HRS hj hlt
        go_wp2_with fail
        go_loopw [7] (fun i wx => ∃ j : Nat, j ≤ 64 ∧ i = .int .i64 j ∧ Hid ((bs.take j).all (rbyteB kd) = true) ∧ Blk wx w.heap.size 62 cs ∧ Below w.heap.size w wx) (fun i _ => 64 - (intOf i).toNat)
        case atStart => exact ⟨0, by omega, rfl, Lib.hid rfl, K, hB⟩
        case round =>
          clear K hB hz
          obtain ⟨j, hj, rfl, HT, K, hB⟩ := hrel
          by_cases hlt : j < 64
          · obtain ⟨c, hc⟩ : ∃ c, bs[j]? = some c := ⟨_, List.getElem?_eq_getElem (by omega)⟩
            have HC := Lib.hid hc
            have x0 := HLB.out _ K j c hc
            clear hc
            first
            | (have hbf : (kd != 1) = false := hb1
               have hr : rbyteB kd c = true := by unfold rbyteB; rw [(by simpa using hb1 : kd = 1)]; rfl
               have HS := Lib.hid (byte_take bs (rbyteB kd) j c HC.out HT.out hr)
               clear hbf hr
               go_wp2_with fail
               exact ⟨⟨j + 1, by omega, by go_num, HS, K, hB⟩, by simp [intOf] <;> omega⟩)
            | (have hbt : (kd != 1) = true := hb1
               cases hb2 : (kd != 2)
               · have hr : rbyteB kd c = true := by unfold rbyteB; rw [(by simpa using hb2 : kd = 2)]; rfl
                 have HS := Lib.hid (byte_take bs (rbyteB kd) j c HC.out HT.out hr)
                 clear hr
                 go_wp2_with fail
                 exact ⟨⟨j + 1, by omega, by go_num, HS, K, hB⟩, by simp [intOf] <;> omega⟩
               · by_cases hc0 : c = 0
                 · have hr : rbyteB kd c = true := by unfold rbyteB; rw [hc0]; simp
                   have HS := Lib.hid (byte_take bs (rbyteB kd) j c HC.out HT.out hr)
                   have hcn : ((c.toNat : Int) != 0) = false := by rw [hc0]; rfl
                   clear hr hc0
                   go_wp2_with fail
                   exact ⟨⟨j + 1, by omega, by go_num, HS, K, hB⟩, by simp [intOf] <;> omega⟩
                 · have hr : rbyteB kd c = false := by
                     unfold rbyteB
                     rw [(by simpa using hb1 : (kd == 1) = false), (by simpa using hb2 : (kd == 2) = false)]
                     simpa using hc0
                   have HN := Lib.hid (err_no2 HQ.out HC.out hr)
                   have hcn : ((c.toNat : Int) != 0) = true := by
                     simp
                     intro h0
                     exact hc0 (UInt8.toNat_inj.1 (by simpa using h0))
                   clear hr hc0
                   go_wp2_with fail
                   go_ret
                   exact ⟨by rw [HN.out]; rfl, hB⟩)
          · obtain rfl : j = 64 := by omega
            have hq : q = true := by
              rw [HQ.out, HA.out]
              have := HT.out
              rw [List.take_of_length_le (by rw [HM.out]; omega)] at this
              rw [this]; rfl
            have HN := Lib.hid hq
            clear hq
            go_wp2_with fail
            go_ret
            exact ⟨by rw [HN.out]; rfl, hB⟩
end Go.Proofs.YtdpniceapmikpaaGreat
namespace Go.Proofs.YtdpniceapmikpaaGreat
open Go.RowKit

theorem rocheck_raw (o : ObjD) (ho : o.ok) (hrs : rightsOk o) (n : Int) (w : World) : Calls Tryz.prog 42 #[.agg o.cells.toArray, .int .i64 n] w fun e w' => e = .returned (.int .i64 (errB (robjB o n))) ∧ Below w.heap.size w w' := by
  unfold robjB
  cases h : rpreB n o.kd o.ct o.cl
  · exact rocheck_pre o n w h
  · rw [Bool.true_and]; exact rocheck_yes o ho hrs n w h
theorem slotB_Z (n : Int) : slotB n keyZ = true := by kernel_rfl
theorem all_same {α : Type} (p : α → Bool) (z : α) (hp : ∀ x, p x = true ↔ x = z) (l : List α) : l.all p = true ↔ l = List.replicate l.length z := by
  rw [List.all_eq_true, List.eq_replicate_iff]
  simp [hp]
theorem slots_all (o : ObjD) (ho : o.ok) (n : Int) : (o.slots.all fun x => slotB n x && keyEq x keyZ) = slots0 o := by
  rw [Bool.eq_iff_iff, all_same _ keyZ, slots0, keysEq_iff, ho.1]
  · rfl
  · intro x
    constructor
    · intro h; exact (keyEq_iff x keyZ).1 (by simp at h; exact h.2)
    · rintro rfl; rw [slotB_Z]; rfl
theorem bytes_all (o : ObjD) (ho : o.ok) : (o.bytes.all fun c => c == 0) = bytes0 o := by
  rw [Bool.eq_iff_iff, all_same _ (0 : UInt8), bytes0, beq_iff_eq, ho.2]
  · rfl
  · intro x; simp
theorem check_obj (o : ObjD) (ho : o.ok) (n : Int) : robjB o n = objB o n := by
  unfold robjB objB rpreB
  cases hp : preB n o.ct o.cl
  · simp
  rw [Bool.true_and, Bool.true_and]
  by_cases k1 : o.kd = 1
  · have e1 : (o.slots.all (rslotB n o.kd)) = o.slots.all (slotB n) := by
      congr 1; funext x; unfold rslotB; rw [k1]; simp
    have e2 : o.bytes.all (rbyteB o.kd) = true := by
      rw [List.all_eq_true]; intro c _; unfold rbyteB; rw [k1]; rfl
    rw [e1, e2, k1]; simp
  · have k1b : (o.kd == 1) = false := by simpa using k1
    have e1 : (o.slots.all (rslotB n o.kd)) = slots0 o := by
      rw [← slots_all o ho n]; congr 1; funext x; unfold rslotB; rw [k1b]; simp
    rw [e1, k1b]
    by_cases k2 : o.kd = 2
    · have e2 : o.bytes.all (rbyteB o.kd) = true := by
        rw [List.all_eq_true]; intro c _; unfold rbyteB; rw [k2]; rfl
      rw [e2, k2]
      unfold bareB
      cases slots0 o <;> cases h : (o.cl == 0) <;> simp
    · have k2b : (o.kd == 2) = false := by simpa using k2
      have e2 : o.bytes.all (rbyteB o.kd) = bytes0 o := by
        rw [← bytes_all o ho]; congr 1; funext c; unfold rbyteB; rw [k1b, k2b]; simp
      rw [e2, if_neg k2, if_neg k1]
      unfold bareB
      by_cases k0 : o.kd = 0
      · rw [k0]; cases slots0 o <;> cases bytes0 o <;> cases h : (o.cl == 0) <;> simp
      · by_cases k3 : o.kd = 3
        · rw [k3]; cases slots0 o <;> cases bytes0 o <;> cases h : (o.cl == 0) <;> simp
        · rw [if_neg k0, if_neg k3]
          have : (decide (0 ≤ o.kd) && decide (o.kd ≤ 3)) = false := by
            rw [Bool.and_eq_false_iff]; simp; omega
          rw [this]; simp
/-- the reference's Check -/
theorem rocheck_any (o : ObjD) (ho : o.ok) (hrs : rightsOk o) (n : Int) (w : World) : Calls Tryz.prog 42 #[.agg o.cells.toArray, .int .i64 n] w fun e w' => e = .returned (.int .i64 (errB (objB o n))) ∧ Below w.heap.size w w' := by
  rw [← check_obj o ho n]
  exact rocheck_raw o ho hrs n w
end Go.Proofs.YtdpniceapmikpaaGreat
namespace Go.Proofs.YtdpniceapmikpaaGreat
open Go.RowKit

def tabAt (i : Nat) : BitVec 32 := crcBits 4 (BitVec.ofNat 32 i)
def tabV (k : Nat) : Array Value := (Array.range 16).map fun i => vu32 (if i < k then tabAt i else 0#32)

theorem tabV_size (k : Nat) : (tabV k).size = 16 := by simp [tabV]
theorem tabV_at (k i : Nat) (h : i < 16) : (tabV k)[i]? = some (vu32 (if i < k then tabAt i else 0#32)) := by
  simp [tabV, h]
theorem tabV_zero : tabV 0 = #[.int .u32 0, .int .u32 0, .int .u32 0, .int .u32 0, .int .u32 0, .int .u32 0, .int .u32 0, .int .u32 0, .int .u32 0, .int .u32 0, .int .u32 0, .int .u32 0, .int .u32 0, .int .u32 0, .int .u32 0, .int .u32 0] := by
  apply Array.ext_getElem?
  intro i
  by_cases hi : i < 16
  · rw [tabV_at _ _ hi, if_neg (by omega)]
    have : i = 0 ∨ i = 1 ∨ i = 2 ∨ i = 3 ∨ i = 4 ∨ i = 5 ∨ i = 6 ∨ i = 7 ∨ i = 8 ∨ i = 9 ∨ i = 10 ∨ i = 11 ∨ i = 12 ∨ i = 13 ∨ i = 14 ∨ i = 15 := by omega
    rcases this with rfl | rfl | rfl | rfl | rfl | rfl | rfl | rfl | rfl | rfl | rfl | rfl | rfl | rfl | rfl | rfl <;> rfl
  · rw [Array.getElem?_eq_none (by rw [tabV_size]; omega), Array.getElem?_eq_none (by simp; omega)]
theorem tabV_set (k : Nat) (h : k < 16) : (tabV k).setIfInBounds k (vu32 (tabAt k)) = tabV (k + 1) := by
  apply Array.ext_getElem?
  intro i
  rw [Array.getElem?_setIfInBounds]
  by_cases hi : i < 16
  · rw [tabV_at _ _ hi, tabV_at _ _ hi]
    by_cases hik : k = i
    · subst hik; simp [tabV_size, hi]
    · rw [if_neg hik]
      by_cases h1 : i < k
      · rw [if_pos h1, if_pos (by omega)]
      · rw [if_neg h1, if_neg (by omega)]
  · rw [Array.getElem?_eq_none (by rw [tabV_size]; omega), Array.getElem?_eq_none (by rw [tabV_size]; omega), if_neg (by omega)]
theorem tabV_one (k : Nat) : (tabV k).all (·.oneCell') = true := by
  rw [Array.all_eq_true]
  intro i hi
  have h := tabV_at k i (by rw [tabV_size] at hi; exact hi)
  rw [Array.getElem?_eq_getElem hi] at h
  rw [Option.some.inj h]; rfl
theorem info_tab16 : (Tryz.prog.info? 242).map (·.size) = some 16 := by kernel_rfl
theorem info_tab (k : Nat) : (Tryz.prog.info? 242).map (·.size) = some (tabV k).size := info_tab16.trans (congrArg some (tabV_size k).symm)

set_option maxHeartbeats 1000000 in
theorem table_any (w : World) : Calls Tryz.prog 138 #[] w fun e w' => e = .returned (.agg (tabV 16)) ∧ Below w.heap.size w w' := by
  go_enter Tryz.func138, Tryz.ntmps138
  go_wp2_with fail
  rw [← tabV_zero]
  go_loopw [4] (fun i wr => ∃ k : Nat, k ≤ 16 ∧ i = .int .i64 k ∧ Blk wr w.heap.size 242 (tabV 0) ∧ Blk wr (w.heap.size + 1) 242 (tabV k) ∧ Below w.heap.size w wr) (fun i _ => 16 - (intOf i).toNat)
  case atStart => exact ⟨0, by omega, rfl, (Blk.new w _ _).alloc _, Blk.new2 w _ _ _, ((Below.refl _ _).alloc (Nat.le_refl _) _).alloc (by simp) _⟩
  case round =>
    obtain ⟨k, hk, rfl, hA, hT, hB⟩ := hrel
    by_cases hlt : k < 16
    · go_wp2_with fail
      go_loop [3, 9] (fun n j => ∃ q : Nat, q ≤ 4 ∧ j = .int .i64 q ∧ n = vu32 (crcBits q (BitVec.ofNat 32 k))) (fun _ j => 4 - (intOf j).toNat)
      case atStart => 
        refine ⟨0, by omega, rfl, ?_⟩
        have e : (BitVec.ofNat 32 k).toNat = k := by rw [BitVec.toNat_ofNat]; exact Nat.mod_eq_of_lt (by omega)
        simp [crcBits, vu32]
        omega
      case round =>
        obtain ⟨q, hq, rfl, rfl⟩ := hrel
        by_cases hq4 : q < 4
        · generalize hX : crcBits q (BitVec.ofNat 32 k) = X
          go_wp2_with fail
          exact ⟨⟨q + 1, by omega, by go_num, by rw [bit_step, crcBits_succ, hX]⟩, by simp [intOf]; omega⟩
        · obtain rfl : q = 4 := by omega
          have hc := hT.cell_is k (tabV_at k k hlt)
          have hf := hT.frozen k
          have hS := Lib.hid (hT.set_ k (vu32 (tabAt k)))
          rw [tabV_set k hlt] at hS
          have hA2 := Lib.hid (hA.far (p := ⟨w.heap.size + 1, k, none⟩) (by simp) (vu32 (tabAt k)))
          have hB2 := Lib.hid (hB.setCell (p := ⟨w.heap.size + 1, k, none⟩) (by simp) (vu32 (tabAt k)))
          clear hT hA hB
          go_wp2_with fail
          exact ⟨⟨k + 1, by omega, by go_num, hA2.out, hS.out, hB2.out⟩, by simp [intOf]; omega⟩
    · obtain rfl : k = 16 := by omega
      go_wp2_with (first
        | (refine wpList_load_row rfl 242 _ rfl (w.heap.size + 1) rfl 242 (tabV 16) (0, 0) _ hT Tryz.underlying242 rfl (info_tab 16) ?_)
        | (refine wpList_store_row rfl 242 _ _ rfl w.heap.size (tabV 16) rfl rfl 242 (tabV 0) hA (info_tab 16) (by rw [tabV_size, tabV_size]) (tabV_one 16) ?_))
      exact bodyPost_ret (v := .agg (tabV 16)) (results_cell_row Tryz.results138 _ _ w.heap.size 242 (tabV 16) (0, 0) _ rfl (hA.row _) Tryz.underlying242 rfl (info_tab 16)) rfl ⟨rfl, below_row hB _ (by omega)⟩

end Go.Proofs.YtdpniceapmikpaaGreat
namespace Go.Proofs.YtdpniceapmikpaaGreat
open Go.RowKit Go.Shelf

attribute [local go_sem] Oper.semAt_some

/-- the half bytes of bytes -/
abbrev vh (x : Fin 16) : Value := .int .u32 (x.val : Int)
def lowH (c : UInt8) : Fin 16 := ⟨c.toNat % 16, by omega⟩
def highH (c : UInt8) : Fin 16 := ⟨c.toNat / 16, by have := UInt8.toNat_lt c; omega⟩
def halvesOf (c : UInt8) : List (Fin 16) := [lowH c, highH c]
def halvesL (l : List UInt8) : List (Fin 16) := l.flatMap halvesOf
theorem halvesL_take (l : List UInt8) (k : Nat) (c : UInt8) (h : l[k]? = some c) : halvesL (l.take (k + 1)) = halvesL (l.take k) ++ [lowH c] ++ [highH c] := by
  rw [List.take_add_one, h]
  simp [halvesL, halvesOf]
theorem halvesL_len (l : List UInt8) : (halvesL l).length = 2 * l.length := by
  induction l with
  | nil => rfl
  | cons c l ih => simp [halvesL, halvesOf] at ih ⊢; omega

set_option maxRecDepth 100000 in
set_option maxHeartbeats 2000000 in
theorem halves1_in (F : Fence) (n : Nat) (h7 : F.fn 152) (hro : F.round = none) (hn : 1 ≤ n) (l Bs n₀ : Nat) (v : Value) (bs : List UInt8) (J Jx : List (Fin 16) → World → Prop)
    (hY : ∀ pre x W, J pre W → pre.length < 2 * bs.length → YieldAt F (n - 1) Tryz.prog l #[vh x] W fun e W' =>
      (e = .returned (.bool true) ∧ J (pre ++ [x]) W' ∧ Below n₀ W W') ∨ (e = .returned (.bool false) ∧ Jx (pre ++ [x]) W'))
    (W : World) (hBs : W.cell? ⟨Bs, 0, none⟩ = some v) (hv : BytesIn W n₀ v bs) (h0 : J [] W) :
    CallsIn F n Tryz.prog 152 #[.func (.yield l) #[] #[], .pointer (some ⟨Bs, 0, none⟩)] W fun e W' => (∃ v, e = .returned v) ∧
      ((∃ ys, ys = halvesL bs ∧ J ys W') ∨ (∃ pre, True ∧ Jx pre W')) := by
  obtain ⟨hmax, a, cap, rfl, hcap, hc⟩ := hv
  unfold maxLen at hmax
  refine callsIn_of_wp Tryz.func152 rfl h7 ?_ hro
  simp only [Tryz.ntmps152, List.size_toArray, List.length_cons, List.length_nil, Nat.reduceAdd, Nat.reduceSub, Array.replicate_succ, Array.replicate_zero, List.push_toArray, List.append_toArray, List.nil_append, List.cons_append]
  gi_wp2
  gi_loopw [7] (fun i wr => ∃ k : Nat, k ≤ bs.length ∧ i = .int .i64 k ∧ J (halvesL (bs.take k)) wr ∧ Below n₀ W wr)
    (fun i _ => bs.length - (intOf i).toNat)
  case atStart => exact ⟨0, Nat.zero_le _, rfl, h0, Below.refl _ _⟩
  case round =>
    obtain ⟨k, hk, rfl, hJs, hnx⟩ := hrel
    by_cases hlt : k < bs.length
    · have hbk : bs[k]? = some (bs[k]'hlt) := List.getElem?_eq_getElem hlt
      obtain ⟨g, off, rfl, hg, hcell⟩ := hc k _ hbk
      have hlen1 : (halvesL (bs.take k)).length < 2 * bs.length := by rw [halvesL_len, List.length_take]; omega
      obtain ⟨fn, tmps, assign, body, hy, hR⟩ := hY _ (lowH (bs[k]'hlt)) wr hJs hlen1
      have hcx : wr.cell? ⟨g, off + k, none⟩ = some (vu8 (bs[k]'hlt)) := (hnx.cell (p := ⟨g, off + k, none⟩) hg).trans hcell
      have hHL := halvesL_take bs k _ hbk
      generalize bs[k]'hlt = c at *
      have hc256 := u8_lt c
      have e1 : ((lowH c).val : Int) = (c.toNat : Int) % 16 := by simp [lowH]
      have e2 : ((highH c).val : Int) = (c.toNat : Int) / 16 := by simp [highH]
      simp only [vh, e1] at hy
      gi_wp2
      refine hR.mono ?_
      rintro e W3 (⟨rfl, hJ3, hk3⟩ | ⟨rfl, hJx3⟩)
      · have hlen2 : (halvesL (bs.take k) ++ [lowH c]).length < 2 * bs.length := by
          rw [List.length_append, halvesL_len, List.length_take]; simp; omega
        obtain ⟨fn', tmps', assign', body', hy', hR'⟩ := hY _ (highH c) W3 hJ3 hlen2
        simp only [vh, e2] at hy'
        clear hY hy hR
        gi_wp2
        refine hR'.mono ?_
        rintro e W4 (⟨rfl, hJ4, hk4⟩ | ⟨rfl, hJx4⟩)
        · gi_wp2
          go_roundw
          case rel => exact ⟨k + 1, by omega, by simp, by rw [hHL]; exact hJ4, hnx.trans (hk3.trans hk4)⟩
          case measure => simp [intOf]; omega
        · gi_wp2
          refine bodyPost_ret (results_none rfl _ _ _) rfl ?_
          exact ⟨⟨_, rfl⟩, .inr ⟨_, trivial, hJx4⟩⟩
      · gi_wp2
        refine ⟨fun _ h => (by cases h), ?_⟩
        gi_wp2
        refine bodyPost_ret (results_none rfl _ _ _) rfl ?_
        exact ⟨⟨_, rfl⟩, .inr ⟨_, trivial, hJx3⟩⟩
    · obtain rfl : k = bs.length := by omega
      rw [List.take_length] at hJs
      gi_wp2
      go_end0
      exact ⟨⟨_, rfl⟩, .inl ⟨_, rfl, hJs⟩⟩

set_option maxHeartbeats 1000000 in
theorem halves_in (F : Fence) (n : Nat) (h5 : F.fn 139) (hro : F.round = none) (a : Option Addr) (len cap : Nat) (w : World) :
    CallsIn F n Tryz.prog 139 #[.slice a len cap] w fun e w' => e = .returned (.func (.func 152) #[] #[.pointer (some ⟨w.heap.size, 0, none⟩)]) ∧ w' = w.alloc (.cells #[.slice a len cap] 26) := by
  refine callsIn_of_wp Tryz.func139 rfl h5 ?_ hro
  simp only [Tryz.ntmps139, List.size_toArray, List.length_cons, List.length_nil, Nat.reduceAdd, Nat.reduceSub, Array.replicate_succ, Array.replicate_zero, List.push_toArray, List.append_toArray, List.nil_append, List.cons_append]
  gi_wp2
  go_ret
  exact ⟨rfl, rfl⟩

theorem halves_stops (F : Fence) (n : Nat) (h7 : F.fn 152) (hro : F.round = none) (hn : 1 ≤ n) (Bs n₀ : Nat) (v : Value) (bs : List UInt8) (w : World) (hBs : Bs < w.heap.size) (hn₀ : n₀ ≤ w.heap.size)
    (hc : w.cell? ⟨Bs, 0, none⟩ = some v) (hv : BytesIn w n₀ v bs) :
    SeqStopsK F n Tryz.prog 152 #[.pointer (some ⟨Bs, 0, none⟩)] (fun x : Fin 16 => #[vh x]) (Below n₀) (fun ys => ys = halvesL bs) (fun _ => True) (2 * bs.length) w := fun l J Jx W hW _ _ hY h0 =>
  halves1_in F n h7 hro hn l Bs n₀ v bs J Jx hY W ((hW.cell (p := ⟨Bs, 0, none⟩) hBs).trans hc) (hv.below hW hn₀) h0

end Go.Proofs.YtdpniceapmikpaaGreat
namespace Go.Proofs.YtdpniceapmikpaaGreat
open Go.RowKit

variable {P : Program} {ops : Array Oper} {Q : Exit → Act → World → Prop} {l n : Nat}

def noDefer (o : Oper) : Bool := match o.op with | .defer _ => false | _ => true
theorem noDefer_ne {o : Oper} (h : noDefer o = true) : ∀ c, o.op ≠ .defer c := by
  intro c e
  unfold noDefer at h
  rw [e] at h
  cases h
theorem upon_round {o : Oper} {a : Act} {next : Act → World → Prop} {r : Result Next} (h : o.upon P a next Q r) : o.uponIn (Fence.wide.inRound l) n P a next Q r := by
  cases r with
  | ok x w' =>
    cases x <;> simp only [Oper.upon, Oper.uponIn] at h ⊢ <;> first
      | exact h
      | exact ⟨fun e => (by cases e), CallsIn.inRound l (callsIn_wide.2 h)⟩
      | (refine ⟨fun e => (by cases e), fun c cs _ => ?_⟩
         obtain ⟨v, w2, h1, h2⟩ := h c cs
         exact ⟨v, w2, h1, stepsIn_wide.2 h2⟩)
  | halt x w' => cases x <;> simp only [Oper.upon, Oper.uponIn] at h ⊢ <;> exact h
theorem op_round {o : Oper} {a : Act} {w : World} {K : Act → World → Prop} (hd : noDefer o = true) (h : o.wp P a w K Q) : o.wpIn (Fence.wide.inRound l) n P a w K Q := by
  refine ⟨fun _ _ => trivial, ?_⟩
  rw [Oper.semAt_eq _ _ _ (noDefer_ne hd)]
  exact upon_round h
theorem any_round {md : Region.Mode} (hd : ops.all noDefer = true) (hQ : ¬ LetsOut Q) : ∀ (fuel : Nat) (listed : Array Bool) (a : Act) (w : World), wpAny P md ops Q fuel listed a w → wpAnyIn (Fence.wide.inRound l) n P md ops Q fuel listed a w := by
  intro fuel
  induction fuel with
  | zero => intro listed a w h; exact h
  | succ fuel ih =>
    intro listed a w h
    refine ⟨h.1, fun i hi => ?_⟩
    have h2 := h.2 i hi
    unfold wpOp at h2
    unfold wpOpIn
    cases ho : ops[i]? with
    | none => rw [ho] at h2; exact ih _ _ _ h2
    | some o =>
      rw [ho] at h2
      simp only at h2 ⊢
      have hdo : noDefer o = true := by
        obtain ⟨hl, e⟩ := Array.getElem?_eq_some_iff.1 ho
        have := Array.all_eq_true.1 hd i hl
        rw [e] at this
        exact this
      split
      · rename_i hw
        rw [if_pos hw] at h2
        rcases h2 with h2 | h2
        · exact Oper.wpIn_mono (fun a w => ih _ a w) (op_round hdo h2)
        · exact absurd h2.2 hQ
      · rename_i hw
        rw [if_neg hw] at h2
        exact ⟨fun _ _ => trivial, ih _ _ _ h2⟩
/-- a region that draws its order, in a round -/
theorem region_round {id : Nat} {a : Act} {w : World} (hm : P.follows .mixedOrders = true) (hd : ops.all noDefer = true) (hQ : ¬ LetsOut Q)
    (h : wpAny P .any ops Q ops.size (Array.replicate ops.size false) a w.drew) : (Code.region id ops true).wpIn (Fence.wide.inRound l) n P Q a w :=
  wpIn_region_any hm (any_round hd hQ _ _ _ _ h)
/-- .. with a word on every world within it -/
theorem region_round_held {S : World → Prop} {id : Nat} {a : Act} {w : World} (hm : P.follows .mixedOrders = true) (hd : ops.all noDefer = true) (hQ : ¬ LetsOut Q) (hS : S w.drew)
    (h : S w.drew → wpAnyH P .any ops Q S ops.size (Array.replicate ops.size false) a w.drew) : (Code.region id ops true).wpIn (Fence.wide.inRound l) n P Q a w :=
  region_round hm hd hQ (wpAny_of_held _ _ _ _ (h hS))
theorem shut_own {α : Type} {Kp : World → World → Prop} {I : List α → World → Prop} {Ix : Code → List α → World → Prop} {xs : List α} {W : World} : ¬ LetsOut (ownPostK Kp I Ix xs W) := fun ⟨_, _, h⟩ => h

end Go.Proofs.YtdpniceapmikpaaGreat
namespace Go.Proofs.YtdpniceapmikpaaGreat
open Go.RowKit Go.Shelf

attribute [local go_sem] Oper.semAt_some

/-- going on with half bytes -/
def halfOn (n : BitVec 32) (h : Fin 16) : BitVec 32 := crcBits 4 (n ^^^ BitVec.ofNat 32 h.val)
def halfs (n : BitVec 32) (l : List (Fin 16)) : BitVec 32 := l.foldl halfOn n
theorem halfs_snoc (n : BitVec 32) (l : List (Fin 16)) (h : Fin 16) : halfs n (l ++ [h]) = crcBits 4 (halfs n l ^^^ BitVec.ofNat 32 h.val) := by simp [halfs, halfOn]
theorem halfs_bytes (n : BitVec 32) (l : List UInt8) : halfs n (halvesL l) = crcOn n l := by
  induction l generalizing n with
  | nil => rfl
  | cons c l ih =>
    have e : halvesL (c :: l) = halvesOf c ++ halvesL l := by simp [halvesL]
    rw [e]
    have e2 : halfs n (halvesOf c ++ halvesL l) = halfs (halfs n (halvesOf c)) (halvesL l) := by simp [halfs]
    rw [e2, ih]
    show crcOn (crcBits 4 (crcBits 4 (n ^^^ _) ^^^ _)) l = crcOn (crcByte n c) l
    rw [crcByte, crcByte_halves n c.toNat (u8_lt c)]
    rfl

theorem half_val {X Y : BitVec 32} {x : Fin 16} {i : Nat} (hY : Y = X ^^^ BitVec.ofNat 32 x.val) (hi : i = (Y &&& 15#32).toNat) : bits .xor .u32 ((X.toNat : Int) / 16) ((tabAt i).toNat : Int) = ((crcBits 4 (X ^^^ BitVec.ofNat 32 x.val)).toNat : Int) := by
  have e : (X.toNat : Int) / (16 : Int) = ((X >>> 4).toNat : Int) := shr_u32 X 4
  have hx : X >>> 4 = Y >>> 4 := by
    rw [hY, BitVec.ushiftRight_xor_distrib]
    have : BitVec.ofNat 32 x.val >>> 4 = 0#32 := by
      have : ∀ x : Fin 16, BitVec.ofNat 32 x.val >>> 4 = 0#32 := by decide
      exact this x
    rw [this, BitVec.xor_zero]
  have ht : tabAt i = crcBits 4 (Y &&& 15#32) := by
    unfold tabAt
    rw [hi, BitVec.ofNat_toNat]
    simp
  rw [e, hx, ht, xor_u32, ← hY, crc_half Y]

/-- a block of cells stands where what is turned is none of cells -/
theorem Blk.own {W W' : World} {row : Option Nat} {g : Nat} {t : TypeId} {cs : Array Value} (h : Blk W g t cs) (hg : W.grownBy W' row) (hr : ∀ r, row = some r → ∃ o : Obj, W.heap[r]? = some o ∧ o.isCells = false) : Blk W' g t cs := by
  refine (hg.block g h.lt (fun e => ?_)).trans h
  obtain ⟨o, ho, hc⟩ := hr g e.symm
  unfold Blk at h
  rw [h] at ho
  cases ho
  cases hc

set_option maxRecDepth 100000 in
set_option maxHeartbeats 4000000 in
theorem update_in (n : Nat) (hn : 3 ≤ n) (s : BitVec 32) (a : Option Addr) (cap : Nat) (bs : List UInt8) (w : World) (hv : BytesIn w w.heap.size (.slice a bs.length cap) bs) :
    CallsIn Fence.wide n Tryz.prog 102 #[vu32 s, .slice a bs.length cap] w fun e w' => e = .returned (vu32 (~~~ (crcOn (~~~ s) bs))) ∧ Below w.heap.size w w' := by
  have h1 : 1 ≤ n := by omega
  have hro : Fence.wide.round = none := rfl
  refine callsIn_of_wp_marks Tryz.func102 rfl trivial ?_ hro
  simp only [Tryz.ntmps102, List.size_toArray, List.length_cons, List.length_nil, Nat.reduceAdd, Nat.reduceSub, Array.replicate_succ, Array.replicate_zero, List.push_toArray, List.append_toArray, List.nil_append, List.cons_append]
  refine wpIn_wide.2 ?_
  go_wp2_with fail
  refine (table_any _).mono ?_; rintro e w1 ⟨rfl, hb1⟩
  have hT0 : Blk ((w1.alloc (.cells (tabV 0) 242)).alloc (.cells #[.int .u32 0] 70)) w1.heap.size 242 (tabV 0) := (Blk.new w1 _ _).alloc _
  have hN0 : Blk (((w1.alloc (.cells (tabV 0) 242)).alloc (.cells #[.int .u32 0] 70)).setRow w1.heap.size (tabV 16)) (w1.heap.size + 1) 70 #[.int .u32 0] :=
    (setRow_other _ w1.heap.size (w1.heap.size + 1) _ (by omega)).trans (Blk.new2 w1 _ _ _)
  have hT1 := hT0.row (tabV 16)
  have hB1 : Below w.heap.size w (((w1.alloc (.cells (tabV 0) 242)).alloc (.cells #[.int .u32 0] 70)).setRow w1.heap.size (tabV 16)) := below_row ((hb1.alloc hb1.size _).alloc (by have := hb1.size; simp; omega) _) _ hb1.size
  rw [tabV_zero] at hT0 hN0 hT1 hB1
  have hNc := hN0.cell_is 0 rfl
  have hNf := hN0.frozen 0
  have hNs : ∀ x, Blk (((w1.alloc (.cells _ 242)).alloc (.cells #[.int .u32 0] 70)).setRow w1.heap.size (tabV 16) |>.setCell ⟨w1.heap.size + 1, 0, none⟩ x) (w1.heap.size + 1) 70 #[x] := fun x => hN0.set_ 0 x
  have hTs : ∀ x, Blk (((w1.alloc (.cells _ 242)).alloc (.cells #[.int .u32 0] 70)).setRow w1.heap.size (tabV 16) |>.setCell ⟨w1.heap.size + 1, 0, none⟩ x) w1.heap.size 242 (tabV 16) := fun x => hT1.far (p := ⟨w1.heap.size + 1, 0, none⟩) (by simp) x
  have hBs : ∀ x, Below w.heap.size w (((w1.alloc (.cells _ 242)).alloc (.cells #[.int .u32 0] 70)).setRow w1.heap.size (tabV 16) |>.setCell ⟨w1.heap.size + 1, 0, none⟩ x) := fun x => hB1.setCell (p := ⟨w1.heap.size + 1, 0, none⟩) (by have := hb1.size; simp; omega) x
  have HNs := Lib.hid hNs
  have HTs := Lib.hid hTs
  have HBs := Lib.hid hBs
  clear hNs hTs hBs hN0 hT1 hB1
  go_upto_region 2 with (refine wpList_store_row rfl 242 _ _ rfl w1.heap.size (tabV 16) rfl rfl 242 _ hT0 (info_tab 16) (by rw [tabV_size]; rfl) (tabV_one 16) ?_)
  have HN1 := HNs.out (.int .u32 (bits BinOp.xor IntKind.u32 IntKind.u32.max s.toNat))
  have HT1 := HTs.out (.int .u32 (bits BinOp.xor IntKind.u32 IntKind.u32.max s.toNat))
  have HB1 := HBs.out (.int .u32 (bits BinOp.xor IntKind.u32 IntKind.u32.max s.toNat))
  have es : bits BinOp.xor IntKind.u32 IntKind.u32.max s.toNat = ((~~~ s).toNat : Int) := not_u32 s
  have ei : (if IntKind.u32.signed = true then (-1 : Int) else IntKind.u32.max) = IntKind.u32.max := rfl
  rw [ei, es]
  rw [es] at HN1 HT1 HB1
  clear HNs HTs HBs hNc hNf hT0 es ei
  have hge := hb1.size
  generalize World.setCell _ _ _ = W1 at *
  generalize w1.heap.size = m at *
  obtain ⟨S, hS⟩ : ∃ S, S = ~~~ s := ⟨_, rfl⟩
  rw [← hS] at HN1 ⊢
  have HS := Lib.hid hS
  clear hS
  go_wp2_with fail
  refine (callsIn_wide.1 (halves_in Fence.wide 5 trivial rfl _ _ _ _)).mono ?_; rintro e w2 ⟨rfl, rfl⟩
  go_wp2_with fail
  have hv2 : BytesIn (W1.alloc (.cells #[.slice a bs.length cap] 26)) w.heap.size (.slice a bs.length cap) bs := hv.below (HB1.alloc HB1.size _) (Nat.le_refl _)
  have hsz := HB1.size
  have hmlt := HN1.lt
  refine (wpIn_wide (n := n)).1 ?_
  refine wpIn_rangeFunc_ownF hro h1 (gf := 152) (lb := #[.pointer (some ⟨W1.heap.size, 0, none⟩)]) rfl trivial (enters_of Tryz.func152 (by kernel_rfl) rfl)
    (halves_stops Fence.wide (n - 1) trivial rfl (by omega) W1.heap.size w.heap.size (.slice a bs.length cap) bs _ (by simp) (by simp; omega) (cell_of_one (heap_alloc_new W1 _)) hv2) belowK_t (belowK_b (by simp; omega)) (Below.refl _ _) (fun _ => rfl)
    (fun pre W => (Blk W m 242 (tabV 16) ∧ Blk W (m + 1) 70 #[vu32 (halfs S pre)]) ∧ Below w.heap.size w W)
    (fun _ _ _ => False)
    (OwnFrom.and (Own.from (fun s A B row hs hg hr => ⟨hs.1.own hg hr, hs.2.own hg hr⟩) _) (ownFrom_below (Nat.le_refl _) (by simp; omega)))
    (fun _ _ _ _ _ hs _ _ => hs)
    ⟨⟨HT1.alloc _, HN1.alloc _⟩, HB1.alloc HB1.size _⟩
    (fun x => { tmps := #[vu32 s, .slice a bs.length cap, undef, undef, .int .u32 0, .pointer (some ⟨m, 0, none⟩), .pointer (some ⟨m + 1, 0, none⟩), vh x, .agg (tabV 16), vu32 s, .int .u32 S.toNat, .slice a bs.length cap, .func (.func 152) #[] #[.pointer (some ⟨W1.heap.size, 0, none⟩)], vh x, undef, undef, undef, undef, undef, undef, undef, undef, undef, undef, undef], defers := [] }) ?assign ?body ?done ?stop
  case assign =>
    intro l x W K hK
    gi_wp2
    exact hK
  case body =>
    rintro l pre x W ⟨⟨hT, hN⟩, hB⟩ _
    have HH := Lib.hid (halfs_snoc S pre x)
    generalize hX : halfs S pre = X at *
    obtain ⟨Y, hY⟩ : ∃ Y, Y = X ^^^ BitVec.ofNat 32 x.val := ⟨_, rfl⟩
    have e1 : bits .xor .u32 (X.toNat : Int) (x.val : Int) = (Y.toNat : Int) := by
      have ex : ((BitVec.ofNat 32 x.val).toNat : Int) = (x.val : Int) := by rw [BitVec.toNat_ofNat]; omega
      rw [hY, ← ex]; exact xor_u32 X _
    obtain ⟨i, hi⟩ : ∃ i, i = (Y &&& 15#32).toNat := ⟨_, rfl⟩
    have e2 : bits .and .u32 (Y.toNat : Int) 15 = (i : Int) := by rw [hi]; exact and_u32 Y 15#32
    have h16 : i < 16 := by rw [hi]; exact and15_lt _
    have HY := Lib.hid hY
    have HI := Lib.hid hi
    clear hY hi
    have h16' : (i : Int) < 16 := by omega
    have h0' : (0 : Int) ≤ (i : Int) := by omega
    have c1 := hN.cell_is 0 rfl
    have f1 := hN.frozen 0
    have c2 := hT.cell_is i (tabV_at 16 i h16)
    rw [if_pos h16] at c2
    gi_wp2
    refine region_round_held (S := fun w' => w'.cell? ⟨m, i, none⟩ = some (vu32 (tabAt i))) (by kernel_rfl) (by kernel_rfl) (fun ⟨_, _, h⟩ => h) c2 (fun hHeld => ?_)
    refine wpAnyH_take (i := 3) (v := ?v3) rfl (by kernel_rfl) (by kernel_rfl) (by kernel_rfl) (fun _ _ _ h => h) (Or.inl ⟨by rfl, ?hy3⟩) (by assumption) ?_
    case hy3 => (intro w hSw; (try dsimp only at hSw); go_simp; try with_reducible rfl)
    try simp only [Act.put, List.getElem_toArray, List.getElem_cons_succ, List.getElem_cons_zero, List.setIfInBounds_toArray, List.set_cons_zero, List.set_cons_succ]
    refine wpAnyH_ready (rs := [0, 2]) (by kernel_rfl) (by simp) ?_
    refine AllReadyH.cons rfl (fun K hK => ?_) (AllReadyH.cons rfl (fun K hK => ?_) AllReadyH.nil)
    · go_simp
      refine hK.out _ _ (by (try dsimp only); first | assumption | (exact hHeld) | exact ((cell_drew_own _ _).trans (World.cell?_setCell_far _ _ _ _ (by simp))).trans c2) (fun hHeld => ?_)
      clear hK K
      try simp only [Act.put, List.getElem_toArray, List.getElem_cons_succ, List.getElem_cons_zero, List.setIfInBounds_toArray, List.set_cons_zero, List.set_cons_succ]
      refine wpAnyH_take (i := 1) (v := ?v1x0) rfl (by kernel_rfl) (by kernel_rfl) (by kernel_rfl) (fun _ _ _ h => h) (Or.inl ⟨by rfl, ?hy1x0⟩) (by assumption) ?_
      case hy1x0 => (intro w hSw; (try dsimp only at hSw); go_simp; try with_reducible rfl)
      try simp only [Act.put, List.getElem_toArray, List.getElem_cons_succ, List.getElem_cons_zero, List.setIfInBounds_toArray, List.set_cons_zero, List.set_cons_succ]
      refine wpAnyH_ready (rs := [2]) (by kernel_rfl) (by simp) ?_
      refine AllReadyH.cons rfl (fun K hK => ?_) AllReadyH.nil
      go_simp
      refine hK.out _ _ (by (try dsimp only); first | assumption | (exact hHeld) | exact ((cell_drew_own _ _).trans (World.cell?_setCell_far _ _ _ _ (by simp))).trans c2) (fun hHeld => ?_)
      clear hK K
      try simp only [Act.put, List.getElem_toArray, List.getElem_cons_succ, List.getElem_cons_zero, List.setIfInBounds_toArray, List.set_cons_zero, List.set_cons_succ]
      refine wpAnyH_take (i := 4) (v := ?v4x0) rfl (by kernel_rfl) (by kernel_rfl) (by kernel_rfl) (fun _ _ _ h => h) (Or.inl ⟨by rfl, ?hy4x0⟩) (by assumption) ?_
      case hy4x0 => (intro w hSw; (try dsimp only at hSw); go_simp; try with_reducible rfl)
      try simp only [Act.put, List.getElem_toArray, List.getElem_cons_succ, List.getElem_cons_zero, List.setIfInBounds_toArray, List.set_cons_zero, List.set_cons_succ]
      refine wpAnyH_take (i := 5) (v := ?v5x0) rfl (by kernel_rfl) (by kernel_rfl) (by kernel_rfl) (fun _ _ _ h => h) (Or.inl ⟨by rfl, ?hy5x0⟩) (by assumption) ?_
      case hy5x0 => (intro w hSw; (try dsimp only at hSw); go_simp; try with_reducible rfl)
      try simp only [Act.put, List.getElem_toArray, List.getElem_cons_succ, List.getElem_cons_zero, List.setIfInBounds_toArray, List.set_cons_zero, List.set_cons_succ]
      refine wpAnyH_take (i := 6) (v := ?v6x0) rfl (by kernel_rfl) (by kernel_rfl) (by kernel_rfl) (fun _ _ _ h => h) (Or.inl ⟨by rfl, ?hy6x0⟩) (by assumption) ?_
      case hy6x0 => (intro w hSw; (try dsimp only at hSw); go_simp; try with_reducible rfl)
      try simp only [Act.put, List.getElem_toArray, List.getElem_cons_succ, List.getElem_cons_zero, List.setIfInBounds_toArray, List.set_cons_zero, List.set_cons_succ]
      refine wpAnyH_take (i := 7) (v := ?v7x0) rfl (by kernel_rfl) (by kernel_rfl) (by kernel_rfl) (fun _ _ _ h => h) (Or.inl ⟨by rfl, ?hy7x0⟩) (by assumption) ?_
      case hy7x0 => (intro w hSw; (try dsimp only at hSw); go_simp; try with_reducible rfl)
      try simp only [Act.put, List.getElem_toArray, List.getElem_cons_succ, List.getElem_cons_zero, List.setIfInBounds_toArray, List.set_cons_zero, List.set_cons_succ]
      refine wpAnyH_take (i := 8) (v := ?v8x0) rfl (by kernel_rfl) (by kernel_rfl) (by kernel_rfl) (fun _ _ _ h => h) (Or.inl ⟨by rfl, ?hy8x0⟩) (by assumption) ?_
      case hy8x0 => (intro w hSw; (try dsimp only at hSw); go_simp; try with_reducible rfl)
      try simp only [Act.put, List.getElem_toArray, List.getElem_cons_succ, List.getElem_cons_zero, List.setIfInBounds_toArray, List.set_cons_zero, List.set_cons_succ]
      refine wpAnyH_ready (rs := [9]) (by kernel_rfl) (by simp) ?_
      refine AllReadyH.cons rfl (fun K hK => ?_) AllReadyH.nil
      go_simp
      refine hK.out _ _ (by (try dsimp only); first | assumption | (exact hHeld) | exact ((cell_drew_own _ _).trans (World.cell?_setCell_far _ _ _ _ (by simp))).trans c2) (fun hHeld => ?_)
      clear hK K
      try simp only [Act.put, List.getElem_toArray, List.getElem_cons_succ, List.getElem_cons_zero, List.setIfInBounds_toArray, List.set_cons_zero, List.set_cons_succ]
      refine wpAnyH_done (by kernel_rfl) ?_ _
      have hval : bits .xor .u32 ((X.toNat : Int) / 16) ((tabAt i).toNat : Int) = ((crcBits 4 (X ^^^ BitVec.ofNat 32 x.val)).toNat : Int) := half_val HY.out HI.out
      rw [hval, ← HH.out]
      exact ⟨(KeepsOthers.setCell _ _ _).trans (KeepsOthers.drew _), ((Below.refl w.heap.size W).setCell (p := ⟨m + 1, 0, none⟩) (by simp; omega) _).drew, ⟨(hT.far (p := ⟨m + 1, 0, none⟩) (by simp) _).drew, (hN.set_ 0 _).drew⟩, (hB.setCell (p := ⟨m + 1, 0, none⟩) (by simp; omega) _).drew⟩
    · go_simp
      refine hK.out _ _ (by (try dsimp only); first | assumption | (exact hHeld) | exact ((cell_drew_own _ _).trans (World.cell?_setCell_far _ _ _ _ (by simp))).trans c2) (fun hHeld => ?_)
      clear hK K
      try simp only [Act.put, List.getElem_toArray, List.getElem_cons_succ, List.getElem_cons_zero, List.setIfInBounds_toArray, List.set_cons_zero, List.set_cons_succ]
      refine wpAnyH_take (i := 4) (v := ?v4x1) rfl (by kernel_rfl) (by kernel_rfl) (by kernel_rfl) (fun _ _ _ h => h) (Or.inl ⟨by rfl, ?hy4x1⟩) (by assumption) ?_
      case hy4x1 => (intro w hSw; (try dsimp only at hSw); go_simp; try with_reducible rfl)
      try simp only [Act.put, List.getElem_toArray, List.getElem_cons_succ, List.getElem_cons_zero, List.setIfInBounds_toArray, List.set_cons_zero, List.set_cons_succ]
      refine wpAnyH_take (i := 5) (v := ?v5x1) rfl (by kernel_rfl) (by kernel_rfl) (by kernel_rfl) (fun _ _ _ h => h) (Or.inl ⟨by rfl, ?hy5x1⟩) (by assumption) ?_
      case hy5x1 => (intro w hSw; (try dsimp only at hSw); go_simp; try with_reducible rfl)
      try simp only [Act.put, List.getElem_toArray, List.getElem_cons_succ, List.getElem_cons_zero, List.setIfInBounds_toArray, List.set_cons_zero, List.set_cons_succ]
      refine wpAnyH_take (i := 6) (v := ?v6x1) rfl (by kernel_rfl) (by kernel_rfl) (by kernel_rfl) (fun _ _ _ h => h) (Or.inl ⟨by rfl, ?hy6x1⟩) (by assumption) ?_
      case hy6x1 => (intro w hSw; (try dsimp only at hSw); go_simp; try with_reducible rfl)
      try simp only [Act.put, List.getElem_toArray, List.getElem_cons_succ, List.getElem_cons_zero, List.setIfInBounds_toArray, List.set_cons_zero, List.set_cons_succ]
      refine wpAnyH_take (i := 7) (v := ?v7x1) rfl (by kernel_rfl) (by kernel_rfl) (by kernel_rfl) (fun _ _ _ h => h) (Or.inl ⟨by rfl, ?hy7x1⟩) (by assumption) ?_
      case hy7x1 => (intro w hSw; (try dsimp only at hSw); go_simp; try with_reducible rfl)
      try simp only [Act.put, List.getElem_toArray, List.getElem_cons_succ, List.getElem_cons_zero, List.setIfInBounds_toArray, List.set_cons_zero, List.set_cons_succ]
      refine wpAnyH_ready (rs := [0]) (by kernel_rfl) (by simp) ?_
      refine AllReadyH.cons rfl (fun K hK => ?_) AllReadyH.nil
      go_simp
      refine hK.out _ _ (by (try dsimp only); first | assumption | (exact hHeld) | exact ((cell_drew_own _ _).trans (World.cell?_setCell_far _ _ _ _ (by simp))).trans c2) (fun hHeld => ?_)
      clear hK K
      try simp only [Act.put, List.getElem_toArray, List.getElem_cons_succ, List.getElem_cons_zero, List.setIfInBounds_toArray, List.set_cons_zero, List.set_cons_succ]
      refine wpAnyH_take (i := 1) (v := ?v1x1) rfl (by kernel_rfl) (by kernel_rfl) (by kernel_rfl) (fun _ _ _ h => h) (Or.inl ⟨by rfl, ?hy1x1⟩) (by assumption) ?_
      case hy1x1 => (intro w hSw; (try dsimp only at hSw); go_simp; try with_reducible rfl)
      try simp only [Act.put, List.getElem_toArray, List.getElem_cons_succ, List.getElem_cons_zero, List.setIfInBounds_toArray, List.set_cons_zero, List.set_cons_succ]
      refine wpAnyH_take (i := 8) (v := ?v8x1) rfl (by kernel_rfl) (by kernel_rfl) (by kernel_rfl) (fun _ _ _ h => h) (Or.inl ⟨by rfl, ?hy8x1⟩) (by assumption) ?_
      case hy8x1 => (intro w hSw; (try dsimp only at hSw); go_simp; try with_reducible rfl)
      try simp only [Act.put, List.getElem_toArray, List.getElem_cons_succ, List.getElem_cons_zero, List.setIfInBounds_toArray, List.set_cons_zero, List.set_cons_succ]
      refine wpAnyH_ready (rs := [9]) (by kernel_rfl) (by simp) ?_
      refine AllReadyH.cons rfl (fun K hK => ?_) AllReadyH.nil
      go_simp
      refine hK.out _ _ (by (try dsimp only); first | assumption | (exact hHeld) | exact ((cell_drew_own _ _).trans (World.cell?_setCell_far _ _ _ _ (by simp))).trans c2) (fun hHeld => ?_)
      clear hK K
      try simp only [Act.put, List.getElem_toArray, List.getElem_cons_succ, List.getElem_cons_zero, List.setIfInBounds_toArray, List.set_cons_zero, List.set_cons_succ]
      refine wpAnyH_done (by kernel_rfl) ?_ _
      have hval : bits .xor .u32 ((X.toNat : Int) / 16) ((tabAt i).toNat : Int) = ((crcBits 4 (X ^^^ BitVec.ofNat 32 x.val)).toNat : Int) := half_val HY.out HI.out
      rw [hval, ← HH.out]
      exact ⟨(KeepsOthers.setCell _ _ _).trans (KeepsOthers.drew _), ((Below.refl w.heap.size W).setCell (p := ⟨m + 1, 0, none⟩) (by simp; omega) _).drew, ⟨(hT.far (p := ⟨m + 1, 0, none⟩) (by simp) _).drew, (hN.set_ 0 _).drew⟩, (hB.setCell (p := ⟨m + 1, 0, none⟩) (by simp; omega) _).drew⟩
  case done =>
    rintro D ys W hD rfl ⟨⟨hT, hN⟩, hB⟩ hK
    have c1 := hN.cell_is 0 rfl
    have hbytes := Lib.hid (halfs_bytes S bs)
    have hnot := Lib.hid (not_u32 (halfs S (halvesL bs)))
    generalize halfs S (halvesL bs) = Z at *
    go_wp2_with fail
    rw [hnot.out, hbytes.out, HS.out]
    refine ⟨by simp, .inl ⟨_, _, rfl, run_takeDeferred hK, ?_⟩⟩
    exact ⟨_, results_tmp rfl _ _ _, rfl, hB.trans (belowK_b (w := w) (Nat.le_refl _) W D _ _ (by simp at hD; omega) hK rfl rfl)⟩
  case stop =>
    rintro D c pre W _ _ h _
    exact h.elim

theorem update_any (s : BitVec 32) (v : Value) (bs : List UInt8) (w : World) (hv : BytesIn w w.heap.size v bs) :
    Calls Tryz.prog 102 #[vu32 s, v] w fun e w' => e = .returned (vu32 (~~~ (crcOn (~~~ s) bs))) ∧ Below w.heap.size w w' := by
  obtain ⟨h1, a, cap, rfl, h2⟩ := hv
  exact callsIn_wide.1 (update_in 5 (by omega) s a cap bs w ⟨h1, a, cap, rfl, h2⟩)

/-- the sum of bytes, as 32 bits -/
def crcW (bs : List UInt8) : BitVec 32 := ~~~ (crcOn (~~~ 0#32) bs)
theorem crc_any (v : Value) (bs : List UInt8) (w : World) (hv : BytesIn w w.heap.size v bs) :
    Calls Tryz.prog 56 #[v] w fun e w' => e = .returned (vu32 (crcW bs)) ∧ Below w.heap.size w w' := by
  obtain ⟨h1, a, cap, rfl, h2⟩ := hv
  go_enter Tryz.func56, Tryz.ntmps56
  go_wp2_with fail
  refine (update_any 0#32 _ bs _ ⟨h1, a, cap, rfl, h2⟩).mono ?_; rintro e w1 ⟨rfl, hb⟩
  go_wp2_with fail
  go_ret
  exact ⟨rfl, hb⟩

end Go.Proofs.YtdpniceapmikpaaGreat
