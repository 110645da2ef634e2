/-
  The contract of objects.Check.
  The contract of objects.Check, of nodes, and of all objects.
  The contract of the reference's Check (objects).
  The two Checks of objects are the same.
-/
import Derived.Test.YtemcgfncahccgaaGreatCh2
set_option linter.unusedVariables false
set_option linter.unusedSimpArgs false
namespace Go.Proofs.YtemcgfncahccgaaGreat
open Go.RowKit

theorem slots_index (l : List KeyD) (hl : l.length = 16) (j : Nat) (x : KeyD) (h : l[j]? = some x) (w : World) :
  (Instr.index 44 (.agg (slotCells l).toArray) (.int .i64 (j : Int))).run Tryz.prog w = .ok (.agg #[.int .i64 x.k, .int .i64 x.o, .int .i64 x.c, .int .i64 x.a, .int .i64 x.r, .int .i64 x.v]) w := by
 have hj : j < 16 := by
  rcases Nat.lt_or_ge j 16 with hh | hh
  ·exact hh
  ·rw [List.getElem?_eq_none (by omega)] at h; cases h
 have hn : (0 : Int) ≤ j ∧ (j : Int) < 16 := by omega
 obtain ⟨i, hi, hs⟩ := Option.map_eq_some_iff.1 info_key
 have hp := slots_part l j x h w
 have hcs := cellsOf_key
 simp [Instr.index, run_underlying Tryz.underlying44, asIntOf, run_sizeOf w hi, hcs, hp, hj]
 rfl

def preB (n ct cl : Int) : Bool := decide (1 ≤ n) && decide (n ≤ 64) && decide (0 ≤ ct) && decide (ct ≤ 4294967295) && decide (0 ≤ cl) && decide (cl ≤ 4294967295)
def slotB (n : Int) (x : KeyD) : Bool := ofB x.k x.o x.c x.a x.r x.v && (!namesB x.k x.o x.c x.a x.r x.v || decide (x.o < n))
def objB (o : ObjD) (n : Int) : Bool := preB n o.ct o.cl && (if o.kd = 0 then bareB o false else if o.kd = 3 then bareB o false else if o.kd = 2 then bareB o true else if o.kd = 1 then o.slots.all (slotB n) else false)

set_option maxRecDepth 100000 in
set_option maxHeartbeats 1000000 in
theorem ocheck_pre (o : ObjD) (n : Int) (w : World) (h : preB n o.ct o.cl = false) : Calls Tryz.prog 42 #[.agg o.cells.toArray, .int .i64 n] w fun e w' => e = .returned (.int .i64 2) ∧ Below w.heap.size w w' := by
 obtain ⟨cs, hc⟩ : ∃ cs, cs = o.cells.toArray := ⟨_, rfl⟩
 rw [← hc]
 have K := Blk.new w 47 cs
 have c1 : (w.alloc (.cells cs 47)).cell? ⟨w.heap.size, 1, none⟩ = some (.int .i64 o.ct) := (obj_range K hc 1).trans rfl
 have c2 : (w.alloc (.cells cs 47)).cell? ⟨w.heap.size, 2, none⟩ = some (.int .i64 o.cl) := (obj_range K hc 2).trans rfl
 clear K hc
 generalize o.ct = ct at *
 generalize o.cl = cl at *
 have hs : n < 1 ∨ (¬ n < 1 ∧ 64 < n) ∨ (¬ n < 1 ∧ ¬ 64 < n ∧ ct < 0) ∨ (¬ n < 1 ∧ ¬ 64 < n ∧ ¬ ct < 0 ∧ 4294967295 < ct) ∨ (¬ n < 1 ∧ ¬ 64 < n ∧ ¬ ct < 0 ∧ ¬ 4294967295 < ct ∧ cl < 0) ∨ (¬ n < 1 ∧ ¬ 64 < n ∧ ¬ ct < 0 ∧ ¬ 4294967295 < ct ∧ ¬ cl < 0 ∧ 4294967295 < cl) := by
  simp [preB] at h
  omega
 clear h
 rcases hs with h1 | ⟨h1, h2⟩ | ⟨h1, h2, h3⟩ | ⟨h1, h2, h3, h4⟩ | ⟨h1, h2, h3, h4, h5⟩ | ⟨h1, h2, h3, h4, h5, h6⟩
 all_goals
  go_enter Tryz.func42, Tryz.ntmps42
  go_wp2_with fail
  go_ret
  exact ⟨rfl, (Below.refl _ _).alloc (Nat.le_refl _) _⟩

theorem pre_not {n ct cl : Int} (h : preB n ct cl = true) : ¬ n < 1 ∧ ¬ 64 < n ∧ ¬ ct < 0 ∧ ¬ 4294967295 < ct ∧ ¬ cl < 0 ∧ ¬ 4294967295 < cl := by
 simp [preB] at h
 omega

set_option maxRecDepth 100000 in
set_option maxHeartbeats 1000000 in
theorem ocheck_bare (o : ObjD) (ho : o.ok) (n : Int) (b : Bool) (w : World) (h : preB n o.ct o.cl = true) (hk : (b = false ∧ (o.kd = 0 ∨ o.kd = 3)) ∨ (b = true ∧ o.kd = 2)) : Calls Tryz.prog 42 #[.agg o.cells.toArray, .int .i64 n] w fun e w' => e = .returned (.int .i64 (errB (bareB o b))) ∧ Below w.heap.size w w' := by
 have HB := Lib.hid (fun W => bare_any o ho b W)
 obtain ⟨cs, hc⟩ : ∃ cs, cs = o.cells.toArray := ⟨_, rfl⟩
 rw [← hc] at HB ⊢
 have K := Blk.new w 47 cs
 have h163 : cs.size = 163 := by rw [hc]; simpa using ObjD.len ho
 have c0 : (w.alloc (.cells cs 47)).cell? ⟨w.heap.size, 0, none⟩ = some (.int .i64 o.kd) := (obj_range K hc 0).trans rfl
 have c1 : (w.alloc (.cells cs 47)).cell? ⟨w.heap.size, 1, none⟩ = some (.int .i64 o.ct) := (obj_range K hc 1).trans rfl
 have c2 : (w.alloc (.cells cs 47)).cell? ⟨w.heap.size, 2, none⟩ = some (.int .i64 o.cl) := (obj_range K hc 2).trans rfl
 have hr : (loadVar 47 ⟨w.heap.size, 0, none⟩).run Tryz.prog (w.alloc (.cells cs 47)) = .ok (.agg cs) (w.alloc (.cells cs 47)) :=
  run_loadVar_row _ _ _ _ cs _ _ K Tryz.underlying47 rfl (by rw [h163]; kernel_rfl)
 have HR := Lib.hid hr
 clear K hc h163 hr
 generalize bareB o b = q at *
 generalize o.ct = ct at *
 generalize o.cl = cl at *
 generalize o.kd = kd at *
 clear ho
 obtain ⟨h1, h2, h3, h4, h5, h6⟩ := pre_not h
 clear h
 have he : errB true = 0 := rfl
 have he2 : errB false = 2 := rfl
 rcases hk with ⟨rfl, rfl | rfl⟩ | ⟨rfl, rfl⟩
 all_goals
  go_enter Tryz.func42, Tryz.ntmps42
  go_wp2_with (refine wpList_load_midG rfl 47 _ rfl w.heap.size 0 rfl cs HR.out ?_)
  refine (HB.out _).mono ?_; rintro e w1 ⟨rfl, hb⟩
  have hbb := ((Below.refl w.heap.size w).alloc (Nat.le_refl _) (.cells cs 47)).trans (hb.mono (by simp))
  cases q
  all_goals
   go_wp2_with fail
   go_ret
   exact ⟨rfl, hbb⟩

set_option maxRecDepth 100000 in
set_option maxHeartbeats 1000000 in
theorem ocheck_else (o : ObjD) (n : Int) (w : World) (h : preB n o.ct o.cl = true) (k0 : o.kd ≠ 0) (k1 : o.kd ≠ 1) (k2 : o.kd ≠ 2) (k3 : o.kd ≠ 3) : Calls Tryz.prog 42 #[.agg o.cells.toArray, .int .i64 n] w fun e w' => e = .returned (.int .i64 2) ∧ Below w.heap.size w w' := by
 obtain ⟨cs, hc⟩ : ∃ cs, cs = o.cells.toArray := ⟨_, rfl⟩
 rw [← hc]
 have K := Blk.new w 47 cs
 have c0 : (w.alloc (.cells cs 47)).cell? ⟨w.heap.size, 0, none⟩ = some (.int .i64 o.kd) := (obj_range K hc 0).trans rfl
 have c1 : (w.alloc (.cells cs 47)).cell? ⟨w.heap.size, 1, none⟩ = some (.int .i64 o.ct) := (obj_range K hc 1).trans rfl
 have c2 : (w.alloc (.cells cs 47)).cell? ⟨w.heap.size, 2, none⟩ = some (.int .i64 o.cl) := (obj_range K hc 2).trans rfl
 clear K hc
 generalize o.ct = ct at *
 generalize o.cl = cl at *
 generalize o.kd = kd at *
 obtain ⟨h1, h2, h3, h4, h5, h6⟩ := pre_not h
 clear h
 go_enter Tryz.func42, Tryz.ntmps42
 go_wp2_with fail
 go_ret
 exact ⟨rfl, (Below.refl _ _).alloc (Nat.le_refl _) _⟩
end Go.Proofs.YtemcgfncahccgaaGreat
namespace Go.Proofs.YtemcgfncahccgaaGreat
open Go.RowKit

theorem all_take (l : List KeyD) (p : KeyD → Bool) (j : Nat) (x : KeyD) (h : l[j]? = some x) : (l.take (j + 1)).all p = ((l.take j).all p && p x) := by
 rw [List.take_add_one, h]
 simp
theorem slotB_no {n : Int} {x : KeyD} (h : ofB x.k x.o x.c x.a x.r x.v = false) : slotB n x = false := by unfold slotB; rw [h]; rfl
theorem slotB_free {n : Int} {x : KeyD} (h : ofB x.k x.o x.c x.a x.r x.v = true) (h2 : namesB x.k x.o x.c x.a x.r x.v = false) : slotB n x = true := by unfold slotB; rw [h, h2]; rfl
theorem slotB_named {n : Int} {x : KeyD} (h : ofB x.k x.o x.c x.a x.r x.v = true) (h2 : namesB x.k x.o x.c x.a x.r x.v = true) : slotB n x = decide (x.o < n) := by unfold slotB; rw [h, h2]; simp

set_option maxRecDepth 100000 in
set_option maxHeartbeats 4000000 in
theorem ocheck_node (o : ObjD) (ho : o.ok) (n : Int) (w : World) (h : preB n o.ct o.cl = true) (hk : o.kd = 1) : Calls Tryz.prog 42 #[.agg o.cells.toArray, .int .i64 n] w fun e w' => e = .returned (.int .i64 (errB (o.slots.all (slotB n)))) ∧ Below w.heap.size w w' := by
 obtain ⟨cs, hc⟩ : ∃ cs, cs = o.cells.toArray := ⟨_, rfl⟩
 rw [← hc]
 have K := Blk.new w 47 cs
 have c0 : (w.alloc (.cells cs 47)).cell? ⟨w.heap.size, 0, none⟩ = some (.int .i64 1) := (obj_range K hc 0).trans (by rw [← hk]; rfl)
 have c1 : (w.alloc (.cells cs 47)).cell? ⟨w.heap.size, 1, none⟩ = some (.int .i64 o.ct) := (obj_range K hc 1).trans rfl
 have c2 : (w.alloc (.cells cs 47)).cell? ⟨w.heap.size, 2, none⟩ = some (.int .i64 o.cl) := (obj_range K hc 2).trans rfl
 have l1 := Lib.hid (load_slots ho K hc)
 have hl : o.slots.length = 16 := ho.1
 have HX := Lib.hid (fun j x hx W => slots_index o.slots hl j x hx W)
 clear K hc ho hk
 generalize o.ct = ct at *
 generalize o.cl = cl at *
 generalize o.slots = l at *
 generalize (slotCells l).toArray = S at *
 obtain ⟨h1, h2, h3, h4, h5, h6⟩ := pre_not h
 clear h
 have HL := Lib.hid hl
 obtain ⟨q, hq⟩ : ∃ q, q = l.all (slotB n) := ⟨_, rfl⟩
 rw [← hq]
 have HQ := Lib.hid hq
 clear hq
 go_enter Tryz.func42, Tryz.ntmps42
 go_wp2_with (refine wpList_load_midG rfl 44 _ rfl w.heap.size 3 rfl S l1.out ?_)
 have hB0 := (Below.refl w.heap.size w).alloc (Nat.le_refl _) (.cells cs 47)
 clear c0 c1 c2 l1
 go_loopw [5, 52] (fun f i wr => ∃ j : Nat, j ≤ 16 ∧ i = .int .i64 j ∧ f = .bool ((l.take j).all (slotB n)) ∧ Below w.heap.size w wr) (fun _ i _ => 16 - (intOf i).toNat)
 case atStart => exact ⟨0, by omega, rfl, rfl, hB0⟩
 case round =>
  clear hB0
  obtain ⟨j, hj, rfl, rfl, hB⟩ := hrel
  have he : errB true = 0 := rfl
  have he2 : errB false = 2 := rfl
  by_cases hlt : j < 16
  ·obtain ⟨x, hx⟩ : ∃ x, l[j]? = some x := ⟨_, List.getElem?_eq_getElem (by omega)⟩
   have hidx := HX.out j x hx wr
   have hT := all_take l (slotB n) j x hx
   have HF0 := Lib.hid (@slotB_no n x)
   have HF1 := Lib.hid (@slotB_free n x)
   have HF2 := Lib.hid (@slotB_named n x)
   obtain ⟨f0, hf0⟩ : ∃ f0, f0 = (l.take j).all (slotB n) := ⟨_, rfl⟩
   rw [← hf0] at hT ⊢
   have HT := Lib.hid hT
   clear hT hf0 hx
   obtain ⟨kk, ko, kc, ka, kr, kv⟩ := x
   simp only at hidx HF0 HF1 HF2
   have hz := hB.size
   go_wp2_with fail
   have K1 : Blk (wr.alloc (.cells #[.int .i64 kk, .int .i64 ko, .int .i64 kc, .int .i64 ka, .int .i64 kr, .int .i64 kv] 43)) wr.heap.size 43 (keyV kk ko kc ka kr kv) := Blk.new wr _ _
   refine (names_any kk ko kc ka kr kv _).mono ?_; rintro e w1 ⟨rfl, hb⟩
   have K2 := K1.below hb (by simp)
   have hB2 := (hB.alloc hz (.cells #[.int .i64 kk, .int .i64 ko, .int .i64 kc, .int .i64 ka, .int .i64 kr, .int .i64 kv] 43)).trans (hb.mono (by simp; omega))
   obtain ⟨x0, x1, x2, x3, x4, x5⟩ := K2.key
   clear hidx K1 K2 hb hB
   cases f0
   ·have hT2 : (l.take (j + 1)).all (slotB n) = false := HT.out
    have HT2 := Lib.hid hT2
    clear hT2
    cases hN : namesB kk ko kc ka kr kv
    all_goals
     go_wp2_with fail
     exact ⟨⟨j + 1, by omega, by go_num, by rw [HT2.out], hB2⟩, by simp [intOf] <;> omega⟩
   ·cases hB : ofB kk ko kc ka kr kv
    ·have hT2 : (l.take (j + 1)).all (slotB n) = false := HT.out.trans (by rw [HF0.out hB]; rfl)
     have HT2 := Lib.hid hT2
     clear hT2
     cases hN : namesB kk ko kc ka kr kv
     all_goals
      go_wp2_with fail
      refine (check_any kk ko kc ka kr kv _).mono ?_; rintro e w2 ⟨rfl, hb⟩
      have hB3 := hB2.trans (hb.mono hB2.size)
      rw [hB]
      go_wp2_with fail
      exact ⟨⟨j + 1, by omega, by go_num, by rw [HT2.out], hB3⟩, by simp [intOf] <;> omega⟩
    ·cases hN : namesB kk ko kc ka kr kv
     ·have hT2 : (l.take (j + 1)).all (slotB n) = true := HT.out.trans (by rw [HF1.out hB hN]; rfl)
      have HT2 := Lib.hid hT2
      clear hT2
      go_wp2_with fail
      refine (check_any kk ko kc ka kr kv _).mono ?_; rintro e w2 ⟨rfl, hb⟩
      have hB3 := hB2.trans (hb.mono hB2.size)
      rw [hB]
      go_wp2_with fail
      exact ⟨⟨j + 1, by omega, by go_num, by rw [HT2.out], hB3⟩, by simp [intOf] <;> omega⟩
     ·have hT2 : (l.take (j + 1)).all (slotB n) = decide (ko < n) := HT.out.trans (by rw [HF2.out hB hN]; rfl)
      have HT2 := Lib.hid hT2
      clear hT2
      go_wp2_with fail
      refine (check_any kk ko kc ka kr kv _).mono ?_; rintro e w2 ⟨rfl, hb⟩
      have hB3 := hB2.trans (hb.mono hB2.size)
      rw [hB]
      go_wp2_with fail
      exact ⟨⟨j + 1, by omega, by go_num, by rw [HT2.out], hB3⟩, by simp [intOf] <;> omega⟩
  ·obtain rfl : j = 16 := by omega
   have hT : (l.take 16).all (slotB n) = q := by rw [List.take_of_length_le (by rw [HL.out]; omega), HQ.out]
   rw [hT]
   clear hT
   cases q
   all_goals
    go_wp2_with fail
    go_ret
    exact ⟨rfl, hB⟩

/-- objects.Check -/
theorem ocheck_any (o : ObjD) (ho : o.ok) (n : Int) (w : World) : Calls Tryz.prog 42 #[.agg o.cells.toArray, .int .i64 n] w fun e w' => e = .returned (.int .i64 (errB (objB o n))) ∧ Below w.heap.size w w' := by
 unfold objB
 cases h : preB n o.ct o.cl
 ·exact ocheck_pre o n w h
 ·rw [Bool.true_and]
  by_cases k0 : o.kd = 0
  ·rw [if_pos k0]; exact ocheck_bare o ho n false w h (.inl ⟨rfl, .inl k0⟩)
  by_cases k3 : o.kd = 3
  ·rw [if_neg k0, if_pos k3]; exact ocheck_bare o ho n false w h (.inl ⟨rfl, .inr k3⟩)
  by_cases k2 : o.kd = 2
  ·rw [if_neg k0, if_neg k3, if_pos k2]; exact ocheck_bare o ho n true w h (.inr ⟨rfl, k2⟩)
  by_cases k1 : o.kd = 1
  ·rw [if_neg k0, if_neg k3, if_neg k2, if_pos k1]; exact ocheck_node o ho n w h k1
  rw [if_neg k0, if_neg k3, if_neg k2, if_neg k1]; exact ocheck_else o n w h k0 k1 k2 k3
end Go.Proofs.YtemcgfncahccgaaGreat
namespace Go.Proofs.YtemcgfncahccgaaGreat
open Go.RowKit

def rpreB (n kd ct cl : Int) : Bool := preB n ct cl && (decide (0 ≤ kd) && decide (kd ≤ 3) && ((kd == 1) || (cl == 0)))
def rslotB (n kd : Int) (x : KeyD) : Bool := slotB n x && ((kd == 1) || keyEq x keyZ)
def rbyteB (kd : Int) (c : UInt8) : Bool := (kd == 1) || ((kd == 2) || (c == 0))
def robjB (o : ObjD) (n : Int) : Bool := rpreB n o.kd o.ct o.cl && (o.slots.all (rslotB n o.kd) && o.bytes.all (rbyteB o.kd))

section
variable {P : Program} {ops : Array Oper} {rest : List Oper} {o : Oper} {a : Act} {w : World} {Q : Exit → Act → World → Prop}
theorem wpList_neq_agg (hw : Region.wanted o (yielded ops a.tmps) = true) (t t' : TypeId) (x y : Operand) (ho : o.op = .binOp .neq t x y t') (xs ys : Array Value) (hx : a.eval x = .agg xs) (hy : a.eval y = .agg ys)
    (hm : P.eqGuardType P.depth t = false) (b : Bool) (he : (Op.equalIn 10000 t (.agg xs) (.agg ys)).run P w = .ok b w)
    (h : wpList P ops Q rest (a.put o.dst (.bool (!b))) w) : wpList P ops Q (o :: rest) a w :=
  wpList_step fun K hK => by
    simp only [hw, if_true]
    unfold Oper.wp execOp
    simp only [ho, hx, hy, Sem.run_bind, run_eqGuard_agg _ _ _ _ _ _ _ hm, run_neq_struct, he, Sem.run_pure, Result.andThen_ok]
    exact hK _ _ h
end

set_option maxRecDepth 100000 in
set_option maxHeartbeats 1000000 in
theorem rocheck_pre (o : ObjD) (n : Int) (w : World) (h : rpreB n o.kd o.ct o.cl = false) : Calls Tryz.prog 32 #[.agg o.cells.toArray, .int .i64 n] w fun e w' => e = .returned (.int .i64 2) ∧ Below w.heap.size w w' := by
  obtain ⟨cs, hc⟩ : ∃ cs, cs = o.cells.toArray := ⟨_, rfl⟩
  rw [← hc]
  have K := Blk.new w 47 cs
  have c0 : (w.alloc (.cells cs 47)).cell? ⟨w.heap.size, 0, none⟩ = some (.int .i64 o.kd) := (obj_range K hc 0).trans rfl
  have c1 : (w.alloc (.cells cs 47)).cell? ⟨w.heap.size, 1, none⟩ = some (.int .i64 o.ct) := (obj_range K hc 1).trans rfl
  have c2 : (w.alloc (.cells cs 47)).cell? ⟨w.heap.size, 2, none⟩ = some (.int .i64 o.cl) := (obj_range K hc 2).trans rfl
  clear K hc
  generalize o.ct = ct at *
  generalize o.cl = cl at *
  generalize o.kd = kd at *
  have hs : n < 1 ∨ (¬ n < 1 ∧ 64 < n) ∨ (¬ n < 1 ∧ ¬ 64 < n ∧ kd < 0) ∨ (¬ n < 1 ∧ ¬ 64 < n ∧ ¬ kd < 0 ∧ 3 < kd) ∨ (¬ n < 1 ∧ ¬ 64 < n ∧ ¬ kd < 0 ∧ ¬ 3 < kd ∧ ct < 0) ∨ (¬ n < 1 ∧ ¬ 64 < n ∧ ¬ kd < 0 ∧ ¬ 3 < kd ∧ ¬ ct < 0 ∧ 4294967295 < ct) ∨ (¬ n < 1 ∧ ¬ 64 < n ∧ ¬ kd < 0 ∧ ¬ 3 < kd ∧ ¬ ct < 0 ∧ ¬ 4294967295 < ct ∧ cl < 0) ∨ (¬ n < 1 ∧ ¬ 64 < n ∧ ¬ kd < 0 ∧ ¬ 3 < kd ∧ ¬ ct < 0 ∧ ¬ 4294967295 < ct ∧ ¬ cl < 0 ∧ 4294967295 < cl) ∨ (¬ n < 1 ∧ ¬ 64 < n ∧ ¬ kd < 0 ∧ ¬ 3 < kd ∧ ¬ ct < 0 ∧ ¬ 4294967295 < ct ∧ ¬ cl < 0 ∧ ¬ 4294967295 < cl ∧ ¬ kd = 1 ∧ ¬ cl = 0) := by
    simp [rpreB, preB] at h
    omega
  clear h
  rcases hs with h1 | ⟨h1, h2⟩ | ⟨h1, h2, h3⟩ | ⟨h1, h2, h3, h4⟩ | ⟨h1, h2, h3, h4, h5⟩ | ⟨h1, h2, h3, h4, h5, h6⟩ | ⟨h1, h2, h3, h4, h5, h6, h7⟩ | ⟨h1, h2, h3, h4, h5, h6, h7, h8⟩ | ⟨h1, h2, h3, h4, h5, h6, h7, h8, h9, h10⟩
  all_goals
    try have h11 : (kd != 1) = true := by simpa using h9
    try have h12 : (cl != 0) = true := by simpa using h10
    go_enter Tryz.func32, Tryz.ntmps32
    go_wp2_with fail
    go_ret
    exact ⟨rfl, (Below.refl _ _).alloc (Nat.le_refl _) _⟩

theorem rpre_not {n kd ct cl : Int} (h : rpreB n kd ct cl = true) : ¬ n < 1 ∧ ¬ 64 < n ∧ ¬ kd < 0 ∧ ¬ 3 < kd ∧ ¬ ct < 0 ∧ ¬ 4294967295 < ct ∧ ¬ cl < 0 ∧ ¬ 4294967295 < cl ∧ (kd = 1 ∨ (¬ kd = 1 ∧ cl = 0)) := by
  simp [rpreB, preB] at h
  omega
theorem rslot_take (l : List KeyD) (p : KeyD → Bool) (j : Nat) (x : KeyD) (h : l[j]? = some x) (h1 : (l.take j).all p = true) (h2 : p x = true) : (l.take (j + 1)).all p = true := by
  rw [all_take l p j x h, h1, h2]; rfl
theorem rall_no (l : List KeyD) (p : KeyD → Bool) (j : Nat) (x : KeyD) (h : l[j]? = some x) (h2 : p x = false) : l.all p = false := by
  rw [List.all_eq_false]
  exact ⟨x, List.mem_of_getElem? h, by simp [h2]⟩
theorem byte_no (l : List UInt8) (p : UInt8 → Bool) (j : Nat) (x : UInt8) (h : l[j]? = some x) (h2 : p x = false) : l.all p = false := by
  rw [List.all_eq_false]
  exact ⟨x, List.mem_of_getElem? h, by simp [h2]⟩
theorem byte_take (l : List UInt8) (p : UInt8 → Bool) (j : Nat) (x : UInt8) (h : l[j]? = some x) (h1 : (l.take j).all p = true) (h2 : p x = true) : (l.take (j + 1)).all p = true := by
  rw [List.take_add_one, h]
  simp [h1, h2]
theorem load_key {W : World} {g : Nat} {o : ObjD} {cs : Array Value} (ho : o.ok) (hb : Blk W g 47 cs) (hc : cs = o.cells.toArray) (j : Nat) (x : KeyD) (h : o.slots[j]? = some x) :
    (loadVar 43 ⟨g, 3 + j * 6, none⟩).run Tryz.prog W = .ok (.agg #[.int .i64 x.k, .int .i64 x.o, .int .i64 x.c, .int .i64 x.a, .int .i64 x.r, .int .i64 x.v]) W := by
  have hj : j < 16 := by
    rcases Nat.lt_or_ge j 16 with hh | hh
    · exact hh
    · rw [List.getElem?_eq_none (by have := ho.1; omega)] at h; cases h
  refine run_loadVar_mid W g (3 + j * 6) _ x.cells _ ?_ Tryz.underlying43 rfl (by rw [KeyD.cells_len]; exact info_key)
  intro i v hv
  have hi : i < 6 := by
    rcases Nat.lt_or_ge i 6 with hh | hh
    · exact hh
    · rw [List.getElem?_eq_none (by rw [KeyD.cells_len]; omega)] at hv; cases hv
  rw [obj_range hb hc (3 + j * 6 + i)]
  unfold ObjD.cells
  rw [List.getElem?_append_right (by simp; omega), List.getElem?_append_left (by rw [slotCells_len, ho.1]; simp; omega)]
  have e : 3 + j * 6 + i - [Value.int .i64 o.kd, Value.int .i64 o.ct, Value.int .i64 o.cl].length = j * 6 + i := by simp; omega
  rw [e, slotCells_at _ j x h i hi]
  exact hv
theorem load_byte {W : World} {g : Nat} {o : ObjD} {cs : Array Value} (ho : o.ok) (hb : Blk W g 47 cs) (hc : cs = o.cells.toArray) (j : Nat) (c : UInt8) (h : o.bytes[j]? = some c) :
    W.cell? ⟨g, 99 + j, none⟩ = some (vu8 c) := by
  rw [obj_range hb hc (99 + j)]
  unfold ObjD.cells
  rw [← List.append_assoc, List.getElem?_append_right (by rw [List.length_append, slotCells_len, ho.1]; simp)]
  rw [List.length_append, slotCells_len, ho.1]
  have e : 99 + j - (List.length [Value.int IntKind.i64 o.kd, Value.int IntKind.i64 o.ct, Value.int IntKind.i64 o.cl] + 6 * 16) = j := by simp
  rw [e, List.getElem?_map, h]; rfl
def rightsOk (o : ObjD) : Prop := ∀ x ∈ o.slots, x.r < 9223372036854775808
theorem err_no {q : Bool} {l : List KeyD} {bs : List UInt8} {p : KeyD → Bool} {r : UInt8 → Bool} (hq : q = (l.all p && bs.all r)) {j : Nat} {x : KeyD} (hx : l[j]? = some x) (h : p x = false) : q = false := by
  rw [hq, rall_no l p j x hx h]; rfl
theorem err_no2 {q : Bool} {l : List KeyD} {bs : List UInt8} {p : KeyD → Bool} {r : UInt8 → Bool} (hq : q = (l.all p && bs.all r)) {j : Nat} {x : UInt8} (hx : bs[j]? = some x) (h : r x = false) : q = false := by
  rw [hq, byte_no bs r j x hx h]; simp
theorem rslot_no1 {n kd : Int} {x : KeyD} (h : ofB x.k x.o x.c x.a x.r x.v = false) : rslotB n kd x = false := by unfold rslotB; rw [slotB_no h]; rfl
theorem rslot_no2 {n kd : Int} {x : KeyD} (h : ofB x.k x.o x.c x.a x.r x.v = true) (h2 : namesB x.k x.o x.c x.a x.r x.v = true) (h3 : ¬ x.o < n) : rslotB n kd x = false := by unfold rslotB; rw [slotB_named h h2, decide_eq_false h3]; rfl
theorem rslot_no3 {n kd : Int} {x : KeyD} (hk : (kd != 1) = true) (h : keyEq x keyZ = false) : rslotB n kd x = false := by
  unfold rslotB; rw [h, (by simpa using hk : (kd == 1) = false)]; simp
theorem rslot_yes {n kd : Int} {x : KeyD} (h : ofB x.k x.o x.c x.a x.r x.v = true) (h2 : namesB x.k x.o x.c x.a x.r x.v = false ∨ (namesB x.k x.o x.c x.a x.r x.v = true ∧ x.o < n)) (h3 : (kd != 1) = false ∨ ((kd != 1) = true ∧ keyEq x keyZ = true)) : rslotB n kd x = true := by
  unfold rslotB
  have h4 : slotB n x = true := by
    rcases h2 with h2 | ⟨h2, h5⟩
    · exact slotB_free h h2
    · rw [slotB_named h h2]; exact decide_eq_true h5
  rw [h4]
  rcases h3 with h3 | ⟨_, h3⟩
  · rw [(by simpa using h3 : kd = 1)]; rfl
  · rw [h3]; simp

set_option maxRecDepth 100000 in
set_option maxHeartbeats 4000000 in
theorem rocheck_yes (o : ObjD) (ho : o.ok) (hrs : rightsOk o) (n : Int) (w : World) (h : rpreB n o.kd o.ct o.cl = true) : Calls Tryz.prog 32 #[.agg o.cells.toArray, .int .i64 n] w fun e w' =>
    e = .returned (.int .i64 (errB (o.slots.all (rslotB n o.kd) && o.bytes.all (rbyteB o.kd)))) ∧ Below w.heap.size w w' := by
  obtain ⟨cs, hc⟩ : ∃ cs, cs = o.cells.toArray := ⟨_, rfl⟩
  rw [← hc]
  have K := Blk.new w 47 cs
  have c0 : (w.alloc (.cells cs 47)).cell? ⟨w.heap.size, 0, none⟩ = some (.int .i64 o.kd) := (obj_range K hc 0).trans rfl
  have c1 : (w.alloc (.cells cs 47)).cell? ⟨w.heap.size, 1, none⟩ = some (.int .i64 o.ct) := (obj_range K hc 1).trans rfl
  have c2 : (w.alloc (.cells cs 47)).cell? ⟨w.heap.size, 2, none⟩ = some (.int .i64 o.cl) := (obj_range K hc 2).trans rfl
  have HLK := Lib.hid (fun W (hb : Blk W w.heap.size 47 cs) j x hx => load_key ho hb hc j x hx)
  have HLB := Lib.hid (fun W (hb : Blk W w.heap.size 47 cs) j x hx => load_byte ho hb hc j x hx)
  have HRS := Lib.hid hrs
  unfold rightsOk at HRS
  have hl : o.slots.length = 16 := ho.1
  have hm : o.bytes.length = 64 := ho.2
  clear hc ho hrs
  generalize o.ct = ct at *
  generalize o.cl = cl at *
  generalize o.kd = kd at *
  generalize o.slots = l at *
  generalize o.bytes = bs at *
  obtain ⟨h1, h2, h3, h4, h5, h6, h7, h8, h9⟩ := rpre_not h
  clear h
  have HL := Lib.hid hl
  have HM := Lib.hid hm
  obtain ⟨q, hq⟩ : ∃ q, q = (l.all (rslotB n kd) && bs.all (rbyteB kd)) := ⟨_, rfl⟩
  rw [← hq]
  have HQ := Lib.hid hq
  clear hq
  have hB0 := (Below.refl w.heap.size w).alloc (Nat.le_refl _) (.cells cs 47)
  have hcl : (kd != 1) = false ∨ ((kd != 1) = true ∧ (cl != 0) = false) := by
    rcases h9 with h9 | ⟨h8, h9⟩
    · left; simpa using h9
    · right; exact ⟨by simpa using h8, by simpa using h9⟩
  clear h9
  go_enter Tryz.func32, Tryz.ntmps32
  rcases hcl with hb1 | ⟨hb1, hcl⟩
  all_goals
    go_wp2_with fail
    clear c0 c1 c2
    go_loopw [6] (fun i wr => ∃ j : Nat, j ≤ 16 ∧ i = .int .i64 j ∧ Hid ((l.take j).all (rslotB n kd) = true) ∧ Blk wr w.heap.size 47 cs ∧ Below w.heap.size w wr) (fun i _ => 16 - (intOf i).toNat)
    case atStart => exact ⟨0, by omega, rfl, Lib.hid rfl, K, hB0⟩
    case round =>
      clear hB0 K
      obtain ⟨j, hj, rfl, HT, K, hB⟩ := hrel
      have he : errB true = 0 := rfl
      have he2 : errB false = 2 := rfl
      have hz := hB.size
      by_cases hlt : j < 16
      · obtain ⟨x, hx⟩ : ∃ x, l[j]? = some x := ⟨_, List.getElem?_eq_getElem (by omega)⟩
        have HRX := Lib.hid (HRS.out x (List.mem_of_getElem? hx))
        have HX := Lib.hid hx
        clear hx
        go_wp2_with (refine wpList_load_midG rfl 43 _ rfl w.heap.size (3 + j * 6) rfl _ (HLK.out _ K j x HX.out) ?_)
        refine (rcheck_any x.k x.o x.c x.a x.r x.v _ HRX.out).mono ?_; rintro e w1 ⟨rfl, hb⟩
        have K1 := K.below hb K.lt
        have hB1 := hB.trans (hb.mono hz)
        clear K hB hb
        cases hO : ofB x.k x.o x.c x.a x.r x.v
        · have HN := Lib.hid (err_no HQ.out HX.out (rslot_no1 hO))
          go_wp2_with fail
          go_ret
          exact ⟨by rw [HN.out]; rfl, hB1⟩
        · go_wp2_with (refine wpList_load_midG rfl 43 _ rfl w.heap.size (3 + j * 6) rfl _ (HLK.out _ K1 j x HX.out) ?_)
          refine (rnames_any x.k x.o x.c x.a x.r x.v _ HRX.out).mono ?_; rintro e w2 ⟨rfl, hb⟩
          have K2 := K1.below hb K1.lt
          have hz1 := hB1.size
          have hB2 := hB1.trans (hb.mono hz1)
          clear K1 hB1 hb hz1
          obtain ⟨nm, hnm⟩ : ∃ nm : Int, nm = (if namesB x.k x.o x.c x.a x.r x.v then x.o else -1) := ⟨_, rfl⟩
          rw [← hnm]
          by_cases hge : n ≤ nm
          · have hno : namesB x.k x.o x.c x.a x.r x.v = true ∧ ¬ x.o < n := by
              cases hN : namesB x.k x.o x.c x.a x.r x.v
              · rw [hN] at hnm; simp at hnm; omega
              · rw [hN] at hnm; simp at hnm; exact ⟨rfl, by omega⟩
            have HN := Lib.hid (err_no HQ.out HX.out (rslot_no2 hO hno.1 hno.2))
            have hnlt : ¬ nm < n := by omega
            clear hno hnm
            go_wp2_with fail
            go_ret
            exact ⟨by rw [HN.out]; rfl, hB2⟩
          · have hyes : namesB x.k x.o x.c x.a x.r x.v = false ∨ (namesB x.k x.o x.c x.a x.r x.v = true ∧ x.o < n) := by
              cases hN : namesB x.k x.o x.c x.a x.r x.v
              · exact .inl rfl
              · rw [hN] at hnm; simp at hnm; exact .inr ⟨rfl, by omega⟩
            have hnlt : nm < n := by omega
            have HY := Lib.hid hyes
            clear hyes hnm
            have HO := Lib.hid hO
            clear hO
            first
            | (have hbf : (kd != 1) = false := hb1
               have HS := Lib.hid (rslot_take l (rslotB n kd) j x HX.out HT.out (rslot_yes HO.out HY.out (.inl hb1)))
               clear hbf
               go_wp2_with fail
               exact ⟨⟨j + 1, by omega, by go_num, HS, K2, hB2⟩, by simp [intOf] <;> omega⟩)
            | (have hbt : (kd != 1) = true := hb1
               have E := Lib.hid (key_equalIn 9998 x keyZ w2)
               cases hk : keyEq x keyZ
               · have HN := Lib.hid (err_no HQ.out HX.out (rslot_no3 (n := n) hb1 hk))
                 rw [hk] at E
                 clear hk
                 go_wp2_with (first
                   | (refine wpList_load_midG rfl 43 _ rfl w.heap.size (3 + j * 6) rfl _ (HLK.out _ K2 j x HX.out) ?_)
                   | (refine wpList_neq_agg rfl 43 _ _ _ rfl x.cells.toArray keyZ.cells.toArray rfl rfl (by kernel_rfl) _ E.out ?_))
                 go_ret
                 exact ⟨by rw [HN.out]; rfl, hB2⟩
               · have HS := Lib.hid (rslot_take l (rslotB n kd) j x HX.out HT.out (rslot_yes HO.out HY.out (.inr ⟨hb1, hk⟩)))
                 rw [hk] at E
                 clear hk
                 go_wp2_with (first
                   | (refine wpList_load_midG rfl 43 _ rfl w.heap.size (3 + j * 6) rfl _ (HLK.out _ K2 j x HX.out) ?_)
                   | (refine wpList_neq_agg rfl 43 _ _ _ rfl x.cells.toArray keyZ.cells.toArray rfl rfl (by kernel_rfl) _ E.out ?_))
                 exact ⟨⟨j + 1, by omega, by go_num, HS, K2, hB2⟩, by simp [intOf] <;> omega⟩)
      · obtain rfl : j = 16 := by omega
        have hA : l.all (rslotB n kd) = true := by
          have := HT.out
          rwa [List.take_of_length_le (by rw [HL.out]; omega)] at this
        have HA := Lib.hid hA
        clear hA HT HLK HRS hj hlt
        go_wp2_with fail
        go_loopw [7] (fun i wx => ∃ j : Nat, j ≤ 64 ∧ i = .int .i64 j ∧ Hid ((bs.take j).all (rbyteB kd) = true) ∧ Blk wx w.heap.size 47 cs ∧ Below w.heap.size w wx) (fun i _ => 64 - (intOf i).toNat)
        case atStart => exact ⟨0, by omega, rfl, Lib.hid rfl, K, hB⟩
        case round =>
          clear K hB hz
          obtain ⟨j, hj, rfl, HT, K, hB⟩ := hrel
          by_cases hlt : j < 64
          · obtain ⟨c, hc⟩ : ∃ c, bs[j]? = some c := ⟨_, List.getElem?_eq_getElem (by omega)⟩
            have HC := Lib.hid hc
            have x0 := HLB.out _ K j c hc
            clear hc
            first
            | (have hbf : (kd != 1) = false := hb1
               have hr : rbyteB kd c = true := by unfold rbyteB; rw [(by simpa using hb1 : kd = 1)]; rfl
               have HS := Lib.hid (byte_take bs (rbyteB kd) j c HC.out HT.out hr)
               clear hbf hr
               go_wp2_with fail
               exact ⟨⟨j + 1, by omega, by go_num, HS, K, hB⟩, by simp [intOf] <;> omega⟩)
            | (have hbt : (kd != 1) = true := hb1
               cases hb2 : (kd != 2)
               · have hr : rbyteB kd c = true := by unfold rbyteB; rw [(by simpa using hb2 : kd = 2)]; rfl
                 have HS := Lib.hid (byte_take bs (rbyteB kd) j c HC.out HT.out hr)
                 clear hr
                 go_wp2_with fail
                 exact ⟨⟨j + 1, by omega, by go_num, HS, K, hB⟩, by simp [intOf] <;> omega⟩
               · by_cases hc0 : c = 0
                 · have hr : rbyteB kd c = true := by unfold rbyteB; rw [hc0]; simp
                   have HS := Lib.hid (byte_take bs (rbyteB kd) j c HC.out HT.out hr)
                   have hcn : ((c.toNat : Int) != 0) = false := by rw [hc0]; rfl
                   clear hr hc0
                   go_wp2_with fail
                   exact ⟨⟨j + 1, by omega, by go_num, HS, K, hB⟩, by simp [intOf] <;> omega⟩
                 · have hr : rbyteB kd c = false := by
                     unfold rbyteB
                     rw [(by simpa using hb1 : (kd == 1) = false), (by simpa using hb2 : (kd == 2) = false)]
                     simpa using hc0
                   have HN := Lib.hid (err_no2 HQ.out HC.out hr)
                   have hcn : ((c.toNat : Int) != 0) = true := by
                     simp
                     intro h0
                     exact hc0 (UInt8.toNat_inj.1 (by simpa using h0))
                   clear hr hc0
                   go_wp2_with fail
                   go_ret
                   exact ⟨by rw [HN.out]; rfl, hB⟩)
          · obtain rfl : j = 64 := by omega
            have hq : q = true := by
              rw [HQ.out, HA.out]
              have := HT.out
              rw [List.take_of_length_le (by rw [HM.out]; omega)] at this
              rw [this]; rfl
            have HN := Lib.hid hq
            clear hq
            go_wp2_with fail
            go_ret
            exact ⟨by rw [HN.out]; rfl, hB⟩
end Go.Proofs.YtemcgfncahccgaaGreat
namespace Go.Proofs.YtemcgfncahccgaaGreat
open Go.RowKit

theorem rocheck_raw (o : ObjD) (ho : o.ok) (hrs : rightsOk o) (n : Int) (w : World) : Calls Tryz.prog 32 #[.agg o.cells.toArray, .int .i64 n] w fun e w' => e = .returned (.int .i64 (errB (robjB o n))) ∧ Below w.heap.size w w' := by
 unfold robjB
 cases h : rpreB n o.kd o.ct o.cl
 ·exact rocheck_pre o n w h
 ·rw [Bool.true_and]; exact rocheck_yes o ho hrs n w h
theorem slotB_Z (n : Int) : slotB n keyZ = true := by kernel_rfl
theorem all_same {α : Type} (p : α → Bool) (z : α) (hp : ∀ x, p x = true ↔ x = z) (l : List α) : l.all p = true ↔ l = List.replicate l.length z := by
 rw [List.all_eq_true, List.eq_replicate_iff]
 simp [hp]
theorem slots_all (o : ObjD) (ho : o.ok) (n : Int) : (o.slots.all fun x => slotB n x && keyEq x keyZ) = slots0 o := by
 rw [Bool.eq_iff_iff, all_same _ keyZ, slots0, keysEq_iff, ho.1]
 ·rfl
 ·intro x
  constructor
  ·intro h; exact (keyEq_iff x keyZ).1 (by simp at h; exact h.2)
  ·rintro rfl; rw [slotB_Z]; rfl
theorem bytes_all (o : ObjD) (ho : o.ok) : (o.bytes.all fun c => c == 0) = bytes0 o := by
 rw [Bool.eq_iff_iff, all_same _ (0 : UInt8), bytes0, beq_iff_eq, ho.2]
 ·rfl
 ·intro x; simp
theorem check_obj (o : ObjD) (ho : o.ok) (n : Int) : robjB o n = objB o n := by
 unfold robjB objB rpreB
 cases hp : preB n o.ct o.cl
 ·simp
 rw [Bool.true_and, Bool.true_and]
 by_cases k1 : o.kd = 1
 ·have e1 : (o.slots.all (rslotB n o.kd)) = o.slots.all (slotB n) := by
   congr 1; funext x; unfold rslotB; rw [k1]; simp
  have e2 : o.bytes.all (rbyteB o.kd) = true := by
   rw [List.all_eq_true]; intro c _; unfold rbyteB; rw [k1]; rfl
  rw [e1, e2, k1]; simp
 ·have k1b : (o.kd == 1) = false := by simpa using k1
  have e1 : (o.slots.all (rslotB n o.kd)) = slots0 o := by
   rw [← slots_all o ho n]; congr 1; funext x; unfold rslotB; rw [k1b]; simp
  rw [e1, k1b]
  by_cases k2 : o.kd = 2
  ·have e2 : o.bytes.all (rbyteB o.kd) = true := by
    rw [List.all_eq_true]; intro c _; unfold rbyteB; rw [k2]; rfl
   rw [e2, k2]
   unfold bareB
   cases slots0 o <;> cases h : (o.cl == 0) <;> simp
  ·have k2b : (o.kd == 2) = false := by simpa using k2
   have e2 : o.bytes.all (rbyteB o.kd) = bytes0 o := by
    rw [← bytes_all o ho]; congr 1; funext c; unfold rbyteB; rw [k1b, k2b]; simp
   rw [e2, if_neg k2, if_neg k1]
   unfold bareB
   by_cases k0 : o.kd = 0
   ·rw [k0]; cases slots0 o <;> cases bytes0 o <;> cases h : (o.cl == 0) <;> simp
   ·by_cases k3 : o.kd = 3
    ·rw [k3]; cases slots0 o <;> cases bytes0 o <;> cases h : (o.cl == 0) <;> simp
    ·rw [if_neg k0, if_neg k3]
     have : (decide (0 ≤ o.kd) && decide (o.kd ≤ 3)) = false := by
      rw [Bool.and_eq_false_iff]; simp; omega
     rw [this]; simp
/-- the reference's Check -/
theorem rocheck_any (o : ObjD) (ho : o.ok) (hrs : rightsOk o) (n : Int) (w : World) : Calls Tryz.prog 32 #[.agg o.cells.toArray, .int .i64 n] w fun e w' => e = .returned (.int .i64 (errB (objB o n))) ∧ Below w.heap.size w w' := by
 rw [← check_obj o ho n]
 exact rocheck_raw o ho hrs n w
end Go.Proofs.YtemcgfncahccgaaGreat
