/-
  The contract of codec.Get. (Written by gen_lcget.py.)
  slices.Equal of numbers and of objects. (Written by gen_lequal.py.)
  bytes.Equal; logs.Same.
  lay: the closure of logs.Write that notes a step; the step itself.
-/
import Derived.Deep.RegionHeld3
import Derived.Test.YtdpniceapmikpaaGreatSt1
import Derived.Test.YtdpniceapmikpaaGreatSt7
import Derived.Test.YtdpniceapmikpaaGreatSt9
import Derived.Test.YtdpniceapmikpaaGreatSt18
import Derived.Test.YtdpniceapmikpaaGreatSt20
import Derived.Test.YtdpniceapmikpaaGreatSt21
set_option linter.unusedVariables false
set_option linter.unusedSimpArgs false
namespace Go.Proofs.YtdpniceapmikpaaGreat
open Go.RowKit

theorem getO_no {b : List UInt8} {n : Int} {c : Int} (h : getE b n = c) (hc : c ≠ 0) : getO b n = objZ := by
 unfold getO
 rw [h, if_neg hc]
/-- the end of Get where there is nothing deferred -/
theorem get_none (tmps : Array Value) (w0 W : World) (c : Int) (b : List UInt8) (n : Int) (h : getE b n = c) (hc : c ≠ 0) (h1 : Blk W (w0.heap.size + 1) 62 objZ.cells.toArray) (h2 : Blk W (w0.heap.size + 2) 32 #[.int .i64 c]) (hb : Below w0.heap.size w0 W)
  (t4 : tmps.getD 4 undef = .pointer (some ⟨w0.heap.size + 1, 0, none⟩)) (t5 : tmps.getD 5 undef = .pointer (some ⟨w0.heap.size + 2, 0, none⟩)) :
  Leaves Tryz.prog Tryz.f71 tmps (fun e w' => e = .returned (.tuple #[.agg (getO b n).cells.toArray, .int .i64 (getE b n)]) ∧ Below w0.heap.size w0 w') [] .returning W := by
 refine ⟨_, results_row_cell Tryz.results71 _ _ _ _ _ _ _ t4 h1 Tryz.underlying62 rfl (by rw [← zeroObj]; exact objZ_info) _ _ t5 (load_errno _ _ _ _ h2), ?_, hb⟩
 rw [getO_no h hc, h]
set_option maxRecDepth 100000 in
set_option maxHeartbeats 4000000 in
theorem cget_arg (b : List UInt8) (hb : b.length = 512) (n : Int) (w : World) (hn : n < 1 ∨ 64 < n) :
  Calls Tryz.prog 71 #[sectorV b, .int .i64 n] w fun e w' => e = .returned (.tuple #[.agg (getO b n).cells.toArray, .int .i64 (getE b n)]) ∧ Below w.heap.size w w' := by
 have hmf : ∀ (fn : Fn) (first cap : Array Value) (w : World), (Instr.makeFunc fn first cap).run Tryz.prog w = .ok (.func fn first cap) w := fun _ _ _ _ => rfl
 obtain ⟨W0, eW0⟩ : ∃ W, W = ((w.alloc (.cells (b.map vu8).toArray 111)).alloc (.cells Tryz.zeroCells62 62)).alloc (.cells #[.int .i64 0] 32) := ⟨_, rfl⟩
 have hw0 : Below w.heap.size w W0 := by rw [eW0]; exact (((Below.refl _ w).alloc (Nat.le_refl _) _).alloc (by simp) _).alloc (by simp; omega) _
 have k0 : Blk W0 w.heap.size 111 (b.map vu8).toArray := by rw [eW0]; exact ((Blk.new w _ _).alloc _).alloc _
 have k1 : Blk W0 (w.heap.size + 1) 62 objZ.cells.toArray := by rw [eW0, ← zeroObj]; exact (Blk.new2 w _ _ _).alloc _
 have k2 : Blk W0 (w.heap.size + 2) 32 #[.int .i64 0] := by rw [eW0]; exact Blk.new' (by simp)
 have hs0 : W0.heap.size = w.heap.size + 3 := by rw [eW0]; simp
 have hzi : (Tryz.prog.info? 62).map (·.size) = some objZ.cells.toArray.size := by rw [← zeroObj]; exact objZ_info
 have hz1 : objZ.cells.toArray.all (·.oneCell') = true := by rw [← zeroObj]; exact objZ_one
 have K0 := Lib.hid k0
 have K1 := Lib.hid k1
 have K2 := Lib.hid k2
 have HW0 := Lib.hid hw0
 have HB := Lib.hid hb
 unfold sectorV
 clear k0 k1 k2 hw0 hb
 have HE := Lib.hid (show getE b n = 2 by unfold getE; rw [if_pos hn])
 have hs : n < 1 ∨ (¬ n < 1 ∧ 64 < n) := by omega
 have HO1 := K1
 clear hn
 rcases hs with h1 | ⟨h1, h2⟩
 all_goals
  go_enter_defers Tryz.func71, Tryz.ntmps71
  go_upto_region 1 with fail
  rw [← eW0]
  clear eW0
  have hRR := (K1.out.row objZ.cells.toArray)
  have c5 := (K2.out.row_far (g' := w.heap.size + 1) objZ.cells.toArray (by omega)).cell_is 0 rfl
  have f5 := (K2.out.row_far (g' := w.heap.size + 1) objZ.cells.toArray (by omega)).frozen 0
  go_wp2_with (first
  | (refine wpList_load_row rfl 62 _ rfl (w.heap.size + 1) rfl 62 objZ.cells.toArray (0, 0) _ HO1.out Tryz.underlying62 rfl hzi ?_)
  | (refine wpList_store_row rfl 62 _ _ rfl (w.heap.size + 1) objZ.cells.toArray rfl rfl 62 _ HO1.out hzi rfl hz1 ?_))
  refine get_none _ w _ 2 b n HE.out (by decide) (hRR.far (by simp) _) ((K2.out.row_far (g' := w.heap.size + 1) objZ.cells.toArray (by omega)).set_ 0 _) ?_ rfl rfl
  exact (below_row HW0.out _ (by omega)).setCell (by simp; omega) _
set_option maxRecDepth 100000 in
set_option maxHeartbeats 4000000 in
theorem cget_sum (b : List UInt8) (hb : b.length = 512) (n : Int) (w : World) (hn : ¬ (n < 1 ∨ 64 < n)) (hsl : sealedB b = false) :
  Calls Tryz.prog 71 #[sectorV b, .int .i64 n] w fun e w' => e = .returned (.tuple #[.agg (getO b n).cells.toArray, .int .i64 (getE b n)]) ∧ Below w.heap.size w w' := by
 have hmf : ∀ (fn : Fn) (first cap : Array Value) (w : World), (Instr.makeFunc fn first cap).run Tryz.prog w = .ok (.func fn first cap) w := fun _ _ _ _ => rfl
 obtain ⟨W0, eW0⟩ : ∃ W, W = ((w.alloc (.cells (b.map vu8).toArray 111)).alloc (.cells Tryz.zeroCells62 62)).alloc (.cells #[.int .i64 0] 32) := ⟨_, rfl⟩
 have hw0 : Below w.heap.size w W0 := by rw [eW0]; exact (((Below.refl _ w).alloc (Nat.le_refl _) _).alloc (by simp) _).alloc (by simp; omega) _
 have k0 : Blk W0 w.heap.size 111 (b.map vu8).toArray := by rw [eW0]; exact ((Blk.new w _ _).alloc _).alloc _
 have k1 : Blk W0 (w.heap.size + 1) 62 objZ.cells.toArray := by rw [eW0, ← zeroObj]; exact (Blk.new2 w _ _ _).alloc _
 have k2 : Blk W0 (w.heap.size + 2) 32 #[.int .i64 0] := by rw [eW0]; exact Blk.new' (by simp)
 have hs0 : W0.heap.size = w.heap.size + 3 := by rw [eW0]; simp
 have hzi : (Tryz.prog.info? 62).map (·.size) = some objZ.cells.toArray.size := by rw [← zeroObj]; exact objZ_info
 have hz1 : objZ.cells.toArray.all (·.oneCell') = true := by rw [← zeroObj]; exact objZ_one
 have K0 := Lib.hid k0
 have K1 := Lib.hid k1
 have K2 := Lib.hid k2
 have HW0 := Lib.hid hw0
 have HB := Lib.hid hb
 unfold sectorV
 clear k0 k1 k2 hw0 hb
 have HE := Lib.hid (show getE b n = 150 by unfold getE; rw [if_neg hn, hsl]; rfl)
 have h1 : ¬ n < 1 := by omega
 have h2 : ¬ 64 < n := by omega
 clear hn
 have HBL := Lib.hid (show BytesIn W0 W0.heap.size (.slice (some ⟨w.heap.size, 0, none⟩) 512 512) b by
  have := blk_bytes K0.out 512 (by rw [HB.out]; exact Nat.le_refl _) (by rw [HB.out]; decide)
  rwa [List.take_of_length_le (by rw [HB.out]; exact Nat.le_refl _), HB.out] at this)
 have HSL := Lib.hid hsl
 clear hsl
 go_enter_defers Tryz.func71, Tryz.ntmps71
 go_upto_region 1 with fail
 rw [← eW0]
 clear eW0
 go_wp2_with fail
 refine (sealed_any _ b _ HBL.out (by rw [HB.out]; decide)).mono ?_; rintro e w4 ⟨u, rfl, hu, hb4⟩
 unfold SealedAt at hu
 rw [HSL.out] at hu ⊢
 obtain rfl : u = .slice none 0 0 := hu
 have HO1 := Lib.hid (K1.out.below hb4 (by omega))
 have HO2 := Lib.hid (K2.out.below hb4 (by omega))
 have HW4 := Lib.hid (HW0.out.trans (hb4.mono (by omega)))
 have c5 := (HO2.out.row_far (g' := w.heap.size + 1) objZ.cells.toArray (by omega)).cell_is 0 rfl
 have f5 := (HO2.out.row_far (g' := w.heap.size + 1) objZ.cells.toArray (by omega)).frozen 0
 clear hb4
 go_wp2_with (first
  | (refine wpList_load_row rfl 62 _ rfl (w.heap.size + 1) rfl 62 objZ.cells.toArray (0, 0) _ HO1.out Tryz.underlying62 rfl hzi ?_)
  | (refine wpList_store_row rfl 62 _ _ rfl (w.heap.size + 1) objZ.cells.toArray rfl rfl 62 _ HO1.out hzi rfl hz1 ?_))
 refine get_none _ w _ 150 b n HE.out (by decide) ((HO1.out.row objZ.cells.toArray).far (by simp) _) ((HO2.out.row_far (g' := w.heap.size + 1) objZ.cells.toArray (by omega)).set_ 0 _) ?_ rfl rfl
 exact (below_row HW4.out _ (by omega)).setCell (by simp; omega) _
/-- the end of Get where what was read is given up -/
theorem get_given (tmps : Array Value) (w0 W : World) (b : List UInt8) (n : Int) (h : getE b n = 151) (o : ObjD) (ho : o.ok) (h1 : Blk W (w0.heap.size + 1) 62 o.cells.toArray) (h2 : Blk W (w0.heap.size + 2) 32 #[.int .i64 0]) (hb : Below w0.heap.size w0 W)
  (t4 : tmps.getD 4 undef = .pointer (some ⟨w0.heap.size + 1, 0, none⟩)) (t5 : tmps.getD 5 undef = .pointer (some ⟨w0.heap.size + 2, 0, none⟩)) :
  Leaves Tryz.prog Tryz.f71 tmps (fun e w' => e = .returned (.tuple #[.agg (getO b n).cells.toArray, .int .i64 (getE b n)]) ∧ Below w0.heap.size w0 w')
   [{ target := .fn (.func 120) #[], args := #[ptr (w0.heap.size + 2)] }, { target := .fn (.func 119) #[ptr (w0.heap.size + 2), ptr (w0.heap.size + 1)], args := #[] }] (.panicking cfailC) W := by
 refine leaves_cons (f := 120) (args := #[ptr (w0.heap.size + 2)]) (by simp) (by simp [go_sem]) ?_
 refine (cgiven_panicking (w0.heap.size + 2) _ 0 W h2).mono ?_; rintro e u' w'' ⟨rfl, rfl, rfl⟩
 refine leaves_cons (f := 119) (args := #[ptr (w0.heap.size + 2), ptr (w0.heap.size + 1)]) (by simp [settle]) (by simp [go_sem]) ?_
 have k2 : Blk ((W.setCell ⟨w0.heap.size + 2, 0, none⟩ (.int .i64 151)).alloc (.cells #[] 260)) (w0.heap.size + 2) 32 #[.int .i64 151] := (h2.set_ 0 _).alloc _
 have k1 : Blk ((W.setCell ⟨w0.heap.size + 2, 0, none⟩ (.int .i64 151)).alloc (.cells #[] 260)) (w0.heap.size + 1) 62 o.cells.toArray := (h1.far (by simp) _).alloc _
 have k3 : Below w0.heap.size w0 ((W.setCell ⟨w0.heap.size + 2, 0, none⟩ (.int .i64 151)).alloc (.cells #[] 260)) := (hb.setCell (by simp <;> omega) _).alloc (by have := hb.size; simpa using this) _
 refine (cundo_yes _ _ _ _ 151 (by decide) o ho _ _ k2 k1).mono ?_; rintro e u' w'' ⟨rfl, rfl, rfl⟩
 refine ⟨_, results_row_cell Tryz.results71 _ _ _ _ _ _ _ t4 (k1.row _) Tryz.underlying62 rfl (by rw [← zeroObj]; exact objZ_info) _ _ t5 (load_errno _ _ _ _ (k2.row_far _ (by omega))), ?_, below_row k3 _ (by omega)⟩
 rw [getO_no h (by decide), h]
/-- the end of Get where it went well -/
theorem get_well (tmps : Array Value) (w0 W : World) (b : List UInt8) (n : Int) (h : getE b n = 0) (hl : (b.take 508).length = 508) (h1 : Blk W (w0.heap.size + 1) 62 (objOf (b.take 508)).cells.toArray) (h2 : Blk W (w0.heap.size + 2) 32 #[.int .i64 0]) (hb : Below w0.heap.size w0 W)
  (t4 : tmps.getD 4 undef = .pointer (some ⟨w0.heap.size + 1, 0, none⟩)) (t5 : tmps.getD 5 undef = .pointer (some ⟨w0.heap.size + 2, 0, none⟩)) :
  Leaves Tryz.prog Tryz.f71 tmps (fun e w' => e = .returned (.tuple #[.agg (getO b n).cells.toArray, .int .i64 (getE b n)]) ∧ Below w0.heap.size w0 w')
   [{ target := .fn (.func 120) #[], args := #[ptr (w0.heap.size + 2)] }, { target := .fn (.func 119) #[ptr (w0.heap.size + 2), ptr (w0.heap.size + 1)], args := #[] }] .returning W := by
 refine leaves_cons (f := 120) (args := #[ptr (w0.heap.size + 2)]) (by simp) (by simp [go_sem]) ?_
 refine (cgiven_idle ⟨w0.heap.size + 2, 0, none⟩ W).mono ?_; rintro e u' w'' ⟨rfl, rfl, rfl⟩
 refine leaves_cons (f := 119) (args := #[ptr (w0.heap.size + 2), ptr (w0.heap.size + 1)]) (by simp [settle]) (by simp [go_sem]) ?_
 refine (cundo_no _ _ _ _ _ h2).mono ?_; rintro e u' w'' ⟨rfl, rfl, rfl⟩
 refine ⟨_, results_row_cell Tryz.results71 _ _ _ _ _ _ _ t4 h1 Tryz.underlying62 rfl (by rw [List.size_toArray, ObjD.len (objOf_ok _ hl)]; exact objZ_info) _ _ t5 (load_errno _ _ _ _ h2), ?_, hb⟩
 unfold getO
 rw [h, if_pos rfl]
set_option maxRecDepth 100000 in
set_option maxHeartbeats 4000000 in
theorem cget_code (b : List UInt8) (hb : b.length = 512) (n : Int) (w : World) (hn : ¬ (n < 1 ∨ 64 < n)) (hsl : sealedB b = true) :
  Calls Tryz.prog 71 #[sectorV b, .int .i64 n] w fun e w' => e = .returned (.tuple #[.agg (getO b n).cells.toArray, .int .i64 (getE b n)]) ∧ Below w.heap.size w w' := by
 have hmf : ∀ (fn : Fn) (first cap : Array Value) (w : World), (Instr.makeFunc fn first cap).run Tryz.prog w = .ok (.func fn first cap) w := fun _ _ _ _ => rfl
 obtain ⟨W0, eW0⟩ : ∃ W, W = ((w.alloc (.cells (b.map vu8).toArray 111)).alloc (.cells Tryz.zeroCells62 62)).alloc (.cells #[.int .i64 0] 32) := ⟨_, rfl⟩
 have hw0 : Below w.heap.size w W0 := by rw [eW0]; exact (((Below.refl _ w).alloc (Nat.le_refl _) _).alloc (by simp) _).alloc (by simp; omega) _
 have k0 : Blk W0 w.heap.size 111 (b.map vu8).toArray := by rw [eW0]; exact ((Blk.new w _ _).alloc _).alloc _
 have k1 : Blk W0 (w.heap.size + 1) 62 objZ.cells.toArray := by rw [eW0, ← zeroObj]; exact (Blk.new2 w _ _ _).alloc _
 have k2 : Blk W0 (w.heap.size + 2) 32 #[.int .i64 0] := by rw [eW0]; exact Blk.new' (by simp)
 have hs0 : W0.heap.size = w.heap.size + 3 := by rw [eW0]; simp
 have hzi : (Tryz.prog.info? 62).map (·.size) = some objZ.cells.toArray.size := by rw [← zeroObj]; exact objZ_info
 have hz1 : objZ.cells.toArray.all (·.oneCell') = true := by rw [← zeroObj]; exact objZ_one
 have K0 := Lib.hid k0
 have K1 := Lib.hid k1
 have K2 := Lib.hid k2
 have HW0 := Lib.hid hw0
 have HB := Lib.hid hb
 unfold sectorV
 clear k0 k1 k2 hw0 hb
 have HE := Lib.hid (show getE b n = if codeB (b.take 508) n then 0 else 151 by unfold getE; rw [if_neg hn, hsl]; rfl)
 have h1 : ¬ n < 1 := by omega
 have h2 : ¬ 64 < n := by omega
 clear hn
 have HBL := Lib.hid (show BytesIn W0 W0.heap.size (.slice (some ⟨w.heap.size, 0, none⟩) 512 512) b by
  have := blk_bytes K0.out 512 (by rw [HB.out]; exact Nat.le_refl _) (by rw [HB.out]; decide)
  rwa [List.take_of_length_le (by rw [HB.out]; exact Nat.le_refl _), HB.out] at this)
 have HSL := Lib.hid hsl
 clear hsl
 go_enter_defers Tryz.func71, Tryz.ntmps71
 go_upto_region 1 with fail
 rw [← eW0]
 clear eW0
 go_wp2_with fail
 refine (sealed_any _ b _ HBL.out (by rw [HB.out]; decide)).mono ?_; rintro e w4 ⟨u, rfl, hu, hb4⟩
 unfold SealedAt at hu
 rw [HSL.out] at hu ⊢
 rw [if_pos rfl, HB.out, show 512 - 4 = 508 from rfl] at hu
 have hl : (b.take 508).length = 508 := by rw [List.length_take, HB.out]; rfl
 obtain ⟨l, el⟩ : ∃ l, l = b.take 508 := ⟨_, rfl⟩
 rw [← el] at hu hl HE
 have HLE := Lib.hid el
 obtain ⟨g8, cap8, rfl, hg8, hc8⟩ := World.ownsRow.form hu (by omega)
 have I0 := Lib.hid (show GetInv w w4.heap.size w4.heap.size (w4.alloc (.cells #[.slice (some ⟨g8, 0, none⟩) 508 cap8] 217)) (.slice (some ⟨g8, 0, none⟩) 508 cap8) l objZ by
  have hba : Below w4.heap.size w4 (w4.alloc (.cells #[.slice (some ⟨g8, 0, none⟩) 508 cap8] 217)) := (Below.refl _ w4).alloc (Nat.le_refl _) _
  have hsz := hb4.size
  exact ⟨(K1.out.below hb4 (by omega)).alloc _, (K2.out.below hb4 (by omega)).alloc _, Blk.new w4 _ _, (BytesIn.own hu).below hba (Nat.le_refl _), (HW0.out.trans (hb4.mono (by omega))).trans (hba.mono (by omega)), by omega, Nat.le_refl _, fun g hg => by
   have e : g8 = g := by simpa [blockOf] using hg
   omega⟩)
 clear hb4 hu el K0 K1 K2 HBL HSL hg8 hc8 hzi hz1 HW0
 obtain ⟨W5, eW5⟩ : ∃ W, W = w4.alloc (.cells #[.slice (some ⟨g8, 0, none⟩) 508 cap8] 217) := ⟨_, rfl⟩
 obtain ⟨B, eB⟩ : ∃ g, g = w4.heap.size := ⟨_, rfl⟩
 have I1 := Lib.hid (show GetInv w w4.heap.size B W5 (.slice (some ⟨g8, 0, none⟩) 508 cap8) (l.drop 0) objZ by rw [eB, eW5]; exact I0.out)
 obtain ⟨G, eG⟩ : ∃ g, g = w4.heap.size := ⟨_, rfl⟩
 have hl4 : 4 ≤ l.length ∧ 8 ≤ l.length ∧ 12 ≤ l.length := by omega
 have HL := Lib.hid hl
 go_upto_region 9 with fail
 rw [← eW5]
 rw [← eG] at I1 ⊢
 clear eW5 eG eB I0
 go_wp2_with fail
 refine (I1.out.number 0 4 (by omega) (by omega)).mono ?_
 rintro e W6 ⟨rfl, v6, hI⟩
 obtain ⟨q6, eq6⟩ : ∃ q, q = leN ((l.drop 0).take 4) := ⟨_, rfl⟩
 have hwq6 := wrap_leN q6 4 (by rw [eq6]; exact leN_take_lt _ _) (by omega)
 have c0 := (obj_range hI.obj rfl 0).trans rfl
 have f0 := hI.obj.frozen 0
 have I2 := Lib.hid (hI.set_ (out_set rfl) (by have h := hI.obj.set_ 0 (.int .i64 (q6 : Int)); rwa [obj_set0] at h))
 have Q6 := Lib.hid eq6
 rw [← eq6]
 clear hI eq6 I1
 go_wp2_with fail
 clear c0 f0 hwq6
 refine (I2.out.number 4 4 (by omega) (by omega)).mono ?_
 rintro e W7 ⟨rfl, v7, hI⟩
 obtain ⟨q7, eq7⟩ : ∃ q, q = leN ((l.drop 4).take 4) := ⟨_, rfl⟩
 have hwq7 := wrap_leN q7 4 (by rw [eq7]; exact leN_take_lt _ _) (by omega)
 have c1 := (obj_range hI.obj rfl 1).trans rfl
 have f1 := hI.obj.frozen 1
 have I3 := Lib.hid (hI.set_ (out_set rfl) (by have h := hI.obj.set_ 1 (.int .i64 (q7 : Int)); rwa [obj_set1] at h))
 have Q7 := Lib.hid eq7
 rw [← eq7]
 clear hI eq7 I2
 go_wp2_with fail
 clear c1 f1 hwq7
 refine (I3.out.number 8 4 (by omega) (by omega)).mono ?_
 rintro e W8 ⟨rfl, v8, hI⟩
 obtain ⟨q8, eq8⟩ : ∃ q, q = leN ((l.drop 8).take 4) := ⟨_, rfl⟩
 have hwq8 := wrap_leN q8 4 (by rw [eq8]; exact leN_take_lt _ _) (by omega)
 have c2 := (obj_range hI.obj rfl 2).trans rfl
 have f2 := hI.obj.frozen 2
 have I4 := Lib.hid (hI.set_ (out_set rfl) (by have h := hI.obj.set_ 2 (.int .i64 (q8 : Int)); rwa [obj_set2] at h))
 have Q8 := Lib.hid eq8
 rw [← eq8]
 clear hI eq8 I3
 have IZ := Lib.hid (show GetInv w G B (W8.setCell ⟨w.heap.size + 1, 2, none⟩ (.int .i64 (q8 : Int))) v8 (l.drop 12) (objTo l 0) by
  have h := I4.out
  rw [Q6.out, Q7.out, Q8.out] at h
  unfold objTo
  rw [slotsTo_zero]
  rw [Q8.out]
  exact h)
 clear I4 Q6 Q7 Q8
 go_wp2_with fail
 go_loopw [38] (fun i wr => ∃ (j : Nat) (v' : Value), j ≤ 16 ∧ i = .int .i64 (j : Int) ∧ ((List.range j).all fun i => okK (keyOf (l.drop (12 + 20 * i)))) = true ∧ GetInv w G B wr v' (l.drop (12 + 20 * j)) (objTo l j)) (fun i _ => 16 - (intOf i).toNat)
 case atStart => exact ⟨0, v8, Nat.zero_le _, rfl, rfl, IZ.out⟩
 case round =>
  obtain ⟨j, v1, hj, rfl, hall, hI⟩ := hrel
  have I := Lib.hid hI
  have HALL := Lib.hid hall
  clear hI hall IZ
  by_cases hlt : j < 16
  ·have hlen : 20 ≤ (l.drop (12 + 20 * j)).length := by rw [List.length_drop, HL.out]; omega
   go_wp2_with fail
   refine (rkey_any G B v1 (l.drop (12 + 20 * j)) wr hlen I.out.box I.out.bytes I.out.bg).mono ?_
   rintro e w2 ⟨ho2, hk⟩
   cases hok : okK (keyOf (l.drop (12 + 20 * j)))
   ·unfold okK at hok
    rw [hok] at hk
    obtain rfl : e = .panicked cfailC := hk
    have HC := Lib.hid (show getE b n = 151 by
     rw [HE.out, show codeB l n = false by unfold codeB; rw [all_range_false (p := fun i => okK (keyOf (l.drop (12 + 20 * i)))) hlt (by unfold okK; exact hok), Bool.false_and]]
     rfl)
    have hb2 := ho2.below (B := w.heap.size) (by have := I.out.below.size; omega) (fun i hi e => by have := I.out.bg; have := I.out.big; omega)
    have hbg := I.out.bg
    have hbig := I.out.big
    have J1 := Lib.hid (ho2.blk I.out.obj (by omega))
    have J2 := Lib.hid (ho2.blk I.out.err (by omega))
    have J3 := Lib.hid (I.out.below.trans hb2)
    clear hok ho2 hb2
    go_wp2_with fail
    exact get_given _ w _ b n HC.out _ (objTo_ok l j) J1.out J2.out J3.out rfl rfl
   ·have HOK := Lib.hid (show ((List.range (j + 1)).all fun i => okK (keyOf (l.drop (12 + 20 * i)))) = true by rw [List.range_succ, List.all_append, HALL.out, List.all_cons, hok]; rfl)
    unfold okK at hok
    rw [hok] at hk
    obtain ⟨X, eX⟩ : ∃ X, X = (keyOf (l.drop (12 + 20 * j))).cells.toArray := ⟨_, rfl⟩
    rw [← eX] at hk
    obtain ⟨rfl, v2, hb2, hv2, hq2⟩ := hk
    have I2 := Lib.hid (show GetInv w G B w2 v2 (l.drop (12 + 20 * (j + 1))) (objTo l j) from I.out.take ho2 hb2 (by rw [List.drop_drop] at hv2; exact hv2) hq2)
    clear hok ho2 hb2 hv2 hq2 I
    have HKI := Lib.hid (show (Tryz.prog.info? 58).map (·.size) = some X.size by rw [eX]; kernel_rfl)
    have h1k : X.all (·.oneCell') = true := by rw [eX, List.all_toArray]; rfl
    have hX6 : X.size = 6 := by rw [eX]; rfl
    have h163 : (objTo l j).cells.toArray.size = 163 := by rw [List.size_toArray]; exact ObjD.len (objTo_ok l j)
    have HTH := Lib.hid (there_blk I2.out.obj (3 + j * 6) X.size (by rw [h163, hX6]; omega))
    have HEX := Lib.hid eX
    clear eX h163 hX6
    go_wp2_with (refine wpList_store_mid rfl 58 _ _ rfl (w.heap.size + 1) (3 + j * 6) X rfl rfl HTH.out HKI.out h1k ?_)
    exact ⟨⟨j + 1, v2, by omega, by go_num, HOK.out, I2.out.set_ (out_setCells (F := fun i => i = w.heap.size + 1) _ rfl _ _ _) (obj_next hlt HEX.out I2.out.obj)⟩, by simp [intOf]; omega⟩
  ·obtain rfl : j = 16 := by omega
   have I2 := Lib.hid (show GetInv w G B wr v1 (l.drop 332) (objTo l 16) from I.out)
   have HK := Lib.hid (rtake_yes G B v1 (l.drop 332) 64 (by rw [List.length_drop, HL.out]; decide) wr.drew I2.out.box.drew (I2.out.bytes.below (Below.refl wr.heap.size wr).drew (by have := I2.out.bg; have := I2.out.box.lt; omega)) I2.out.bg)
   clear I
   unfold ptr at HK
   go_upto_region 17 with fail
   refine wp_region_noPanic ?_
   refine wp_region_held_drew (S := (fun _ => True)) (by kernel_rfl) (by first | trivial | ((try dsimp only); trivial)) (fun hHeld => ?_)
   refine tk 0 ?_
   refine tk 1 ?_
   refine rd 2 fun K hK => ?_
   go_simp
   refine HK.out.mono ?_; rintro e w2 ⟨a2, cap2, rfl, hv2, ⟨v2, hb2, hw2, hq2⟩, ho2⟩
   have I2b := Lib.hid (GetInv.take (I2.out.far (Below.refl _ wr).drew) ho2 hb2 hw2 hq2)
   have HV2 := Lib.hid hv2
   clear hv2 hb2 hw2 hq2 ho2
   go_wp2_with fail
   refine hK.out _ _ (by first | trivial | ((try dsimp only); trivial)) (fun hHeld => ?_)
   clear hK K
   try simp only [Act.put, pz0, pz1, pz2, pz3, pz4, pz5]
   refine rd 3 fun K hK => ?_
   rw [if_pos (by rfl)]
   obtain ⟨w3, hr3, hb3, ho3⟩ := copy_page HL.out I2b.out.obj HV2.out 3
   refine Lib.wp_copy_run _ (.tmp 47) (.tmp 48) 26 26 rfl _ _ rfl rfl hr3 ?_
   have I3 := Lib.hid (I2b.out.set_ ho3 hb3)
   clear hr3 hb3 ho3 HV2 I2b
   refine hK.out _ _ (by first | trivial | ((try dsimp only); trivial)) (fun hHeld => ?_)
   clear hK K
   try simp only [Act.put, pz0, pz1, pz2, pz3, pz4, pz5]
   refine wpAnyH_done (by kernel_rfl) ?_ _
   try simp only [Act.put, pz0, pz1, pz2, pz3, pz4, pz5]
   refine NoPanic.normal ?_
   clear HK
   have c8 := I3.out.box.cell_is 0 rfl
   go_wp2_with fail
   refine (blank_any B v2 _ _ I3.out.bytes).mono ?_
   rintro e w4b ⟨rfl, rfl⟩
   have HCB := Lib.hid (show codeB l n = (((l.drop 332).drop 64).all (· == 0) && objB (objOf l) n) by
    unfold codeB
    rw [HALL.out, Bool.true_and, List.drop_drop])
   obtain ⟨q1, eq1⟩ : ∃ q, q = ((l.drop 332).drop 64).all (· == 0) := ⟨_, rfl⟩
   rw [← eq1] at HCB ⊢
   clear eq1 HALL
   cases q1
   ·have HC := Lib.hid (show getE b n = 151 by rw [HE.out, HCB.out, Bool.false_and]; rfl)
    go_wp2_with fail
    refine (cmust_no _).mono ?_; rintro e w5 ⟨rfl, rfl⟩
    go_wp2_with fail
    exact get_given _ w _ b n HC.out _ (objOf_ok l HL.out) I3.out.obj I3.out.err I3.out.below rfl rfl
   ·obtain ⟨X, eX⟩ : ∃ X, X = (objOf l).cells.toArray := ⟨_, rfl⟩
    have HOC := Lib.hid (fun W => ocheck_any (objOf l) (objOf_ok l HL.out) n W)
    have HX1 := Lib.hid (show Blk _ _ _ X by rw [eX]; exact I3.out.obj)
    have hxi : (Tryz.prog.info? 62).map (·.size) = some X.size := by rw [eX, List.size_toArray, ObjD.len (objOf_ok l HL.out)]; exact objZ_info
    have hx1 : X.all (·.oneCell') = true := by rw [eX, List.all_toArray]; exact List.all_eq_true.2 (fun v hv => obj_one _ v hv)
    rw [← eX] at HOC
    have HEX := Lib.hid eX
    clear eX
    have HLX := Lib.hid (show (loadVar 62 ⟨w.heap.size + 1, 0, none⟩).run Tryz.prog w3 = .ok (.agg X) w3 from run_loadVar_row _ _ _ _ _ _ _ HX1.out Tryz.underlying62 rfl hxi)
    go_wp2_with (refine wpList_load_midG rfl 62 _ rfl (w.heap.size + 1) 0 rfl X HLX.out ?_)
    refine (HOC.out _).mono ?_
    rintro e w5 ⟨rfl, hb5⟩
    have I5 := Lib.hid (I3.out.far hb5)
    have HX5 := Lib.hid (HX1.out.below hb5 HX1.out.lt)
    clear hb5
    cases hq2 : objB (objOf l) n
    ·have HC := Lib.hid (show getE b n = 151 by rw [HE.out, HCB.out, hq2, Bool.and_false]; rfl)
     clear hq2
     go_wp2_with fail
     refine (cmust_no _).mono ?_; rintro e w6 ⟨rfl, rfl⟩
     go_wp2_with fail
     exact get_given _ w _ b n HC.out _ (objOf_ok l HL.out) I5.out.obj I5.out.err I5.out.below rfl rfl
    ·have HC := Lib.hid (show getE b n = 0 by rw [HE.out, HCB.out, hq2]; rfl)
     clear hq2
     go_wp2_with fail
     refine (cmust_yes _).mono ?_; rintro e w6 ⟨rfl, rfl⟩
     have c5 := (I5.out.err.row_far (g' := w.heap.size + 1) X (by omega)).cell_is 0 rfl
     have f5 := (I5.out.err.row_far (g' := w.heap.size + 1) X (by omega)).frozen 0
     go_wp2_with (first
      | (refine wpList_load_row rfl 62 _ rfl (w.heap.size + 1) rfl 62 X (0, 0) _ HX5.out Tryz.underlying62 rfl hxi ?_)
      | (refine wpList_store_row rfl 62 _ _ rfl (w.heap.size + 1) X rfl rfl 62 _ HX5.out hxi rfl hx1 ?_))
     refine get_well _ w _ b n HC.out (by rw [← HLE.out]; exact HL.out) ?_ ((I5.out.err.row_far (g' := w.heap.size + 1) X (by omega)).set_ 0 _) ?_ rfl rfl
     ·rw [← HLE.out, ← HEX.out]
      exact (HX5.out.row X).far (by simp) _
     ·exact (below_row I5.out.below _ (by omega)).setCell (by simp <;> omega) _
/-- codec.Get -/
theorem cget_any (b : List UInt8) (hb : b.length = 512) (n : Int) (w : World) :
  Calls Tryz.prog 71 #[sectorV b, .int .i64 n] w fun e w' => e = .returned (.tuple #[.agg (getO b n).cells.toArray, .int .i64 (getE b n)]) ∧ Below w.heap.size w w' := by
 by_cases hn : n < 1 ∨ 64 < n
 ·exact cget_arg b hb n w hn
 ·cases hs : sealedB b
  ·exact cget_sum b hb n w hn hs
  ·exact cget_code b hb n w hn hs
end Go.Proofs.YtdpniceapmikpaaGreat
namespace Go.Proofs.YtdpniceapmikpaaGreat
open Go.RowKit

theorem yieldsIf_neq_agg {P : Program} {ops : Array Oper} {S : World → Prop} {op : Oper} {a : Act} (hw : Region.wanted op (yielded ops a.tmps) = true) (t t' : TypeId) (x y : Operand) (ho : op.op = .binOp .neq t x y t') (xs ys : Array Value)
  (hx : a.eval x = .agg xs) (hy : a.eval y = .agg ys) (hm : P.eqGuardType P.depth t = false) (b : Bool) (hS : ∀ w, S w → (Op.equalIn 10000 t (.agg xs) (.agg ys)).run P w = .ok b w) : YieldsIf P ops S op (.bool (!b)) a :=
 .inl ⟨hw, fun w hw' => by
  unfold execOp
  simp only [ho, hx, hy, Sem.run_bind, run_eqGuard_agg _ _ _ _ _ _ _ hm, run_neq_struct, hS w hw', Sem.run_pure, Result.andThen_ok]⟩

def intsEq (l m : List Int) : Bool := l == m
def objsEq : List ObjD → List ObjD → Bool
 | [], [] => true
 | x :: l, y :: m => objEq x y && objsEq l m
 | _, _ => false
theorem objsEq_iff : ∀ (l m : List ObjD), objsEq l m = true ↔ l = m
 | [], [] => by simp [objsEq]
 | x :: l, y :: m => by simp [objsEq, objEq_iff, objsEq_iff l m]
 | [], _ :: _ => by simp [objsEq]
 | _ :: _, [] => by simp [objsEq]
theorem ints_no {l m : List Int} {j : Nat} {x y : Int} (hx : l[j]? = some x) (hy : m[j]? = some y) (h : x ≠ y) : l ≠ m := by
 rintro rfl; rw [hx] at hy; exact h (Option.some.inj hy)
theorem objs_no {l m : List ObjD} {j : Nat} {x y : ObjD} (hx : l[j]? = some x) (hy : m[j]? = some y) (h : objEq x y = false) : objsEq l m = false := by
 cases hh : objsEq l m
 ·rfl
 ·have := (objsEq_iff l m).1 hh
  subst this
  rw [hx] at hy
  have := Option.some.inj hy
  subst this
  rw [(objEq_iff x x).2 rfl] at h; cases h

end Go.Proofs.YtdpniceapmikpaaGreat
namespace Go.Proofs.YtdpniceapmikpaaGreat
open Go.RowKit

theorem equalBytes_any (l m : List UInt8) (u v : Value) (w : World) (hu : BytesIn w w.heap.size u l) (hv : BytesIn w w.heap.size v m) : Calls Tryz.prog 45 #[u, v] w fun e w' => e = .returned (.bool (l == m)) ∧ Below w.heap.size w w' := by
 have h1 := run_str w hu
 have h2 := run_str w hv
 have e1 := bStr_list l
 have e2 := bStr_list m
 obtain ⟨_, a1, c1, rfl, _, _⟩ := id hu
 obtain ⟨_, a2, c2, rfl, _, _⟩ := id hv
 go_enter Tryz.func45, Tryz.ntmps45
 go_wp2_with fail
 go_ret
 exact ⟨by simp [*], Below.refl _ _⟩

def sameB (f g : FrameD) : Bool := (f.ed == g.ed) && (intsEq f.oids g.oids && (objsEq f.objs g.objs && (f.state == g.state)))
theorem sameB_iff (f g : FrameD) : sameB f g = true ↔ f = g := by
 cases f; cases g
 simp [sameB, intsEq, objsEq_iff]

end Go.Proofs.YtdpniceapmikpaaGreat
namespace Go.Proofs.YtdpniceapmikpaaGreat
open Go.RowKit

theorem info_func : (Tryz.prog.info? 84).map (fun i => (i.zero, i.size, i.bytes)) = some (some .nilFunc, 1, 8) := by kernel_rfl
/-- a step: to write a sector -/
def StepAt (W : World) (db : Nat) (u : Value) (y : WaitS) : Prop := ∃ gn gb, u = .func (.func 53) #[] #[.pointer (some ⟨db, 0, none⟩), .pointer (some ⟨gn, 0, none⟩), .pointer (some ⟨gb, 0, none⟩)] ∧ Blk W gn 3 #[.int .i64 y.1.n] ∧ Blk W gb 111 (y.1.b.map vu8).toArray
def StepsAt (W : World) (db : Nat) (vals : List Value) (ys : List WaitS) : Prop := vals.length = ys.length ∧ ∀ (j : Nat) (u : Value) (y : WaitS), vals[j]? = some u → ys[j]? = some y → StepAt W db u y
theorem StepAt.keep {W W' : World} {db : Nat} {u : Value} {y : WaitS} (h : StepAt W db u y) (hk : ∀ (g : Nat) (t : TypeId) (cs : Array Value), t = 3 ∨ t = 111 → Blk W g t cs → Blk W' g t cs) : StepAt W' db u y := by
 obtain ⟨gn, gb, e, h1, h2⟩ := h
 exact ⟨gn, gb, e, hk _ _ _ (.inl rfl) h1, hk _ _ _ (.inr rfl) h2⟩
theorem StepsAt.keep {W W' : World} {db : Nat} {vals : List Value} {ys : List WaitS} (h : StepsAt W db vals ys) (hk : ∀ (g : Nat) (t : TypeId) (cs : Array Value), t = 3 ∨ t = 111 → Blk W g t cs → Blk W' g t cs) : StepsAt W' db vals ys :=
 ⟨h.1, fun j u y hu hy => (h.2 j u y hu hy).keep hk⟩
theorem StepsAt.snoc {W : World} {db : Nat} {vals : List Value} {ys : List WaitS} {u : Value} {y : WaitS} (h : StepsAt W db vals ys) (hu : StepAt W db u y) : StepsAt W db (vals ++ [u]) (ys ++ [y]) := by
 refine ⟨by simp [h.1], fun j v z hv hz => ?_⟩
 rcases Nat.lt_or_ge j vals.length with hl | hl
 ·rw [List.getElem?_append_left hl] at hv
  rw [List.getElem?_append_left (by rw [← h.1]; exact hl)] at hz
  exact h.2 j v z hv hz
 ·rw [List.getElem?_append_right hl] at hv
  rw [List.getElem?_append_right (by rw [← h.1]; exact hl), ← h.1] at hz
  cases hj : j - vals.length with
  | zero => rw [hj] at hv hz; cases hv; cases hz; exact hu
  | succ k => rw [hj] at hv; cases hv
/-- a block of another kind is as it was behind an append to a row of whatever kind -/
theorem RowStep.blk' {g : Nat} {v v' : Value} {w w' : World} (h : RowStep g v v' w w') {B n k : Nat} {e : TypeId} {xs : List Value} (ho : w.ownsRow B e k v n xs) {j : Nat} {t' : TypeId} {cs : Array Value} (hb : Blk w j t' cs) (h1 : j ≠ g) (h2 : t' ≠ e) : Blk w' j t' cs :=
 h.out.blk hb (fun hd => hd.elim h1 (fun e => ne_own ho hb (Ne.symm h2) j e rfl))

set_option maxRecDepth 100000 in
set_option maxHeartbeats 4000000 in
theorem lay_at (sb db B : Nat) (v : Value) (vals : List Value) (n : Int) (y : SecS) (w : World) (hc : Blk w sb 115 #[v]) (ho : w.ownsRow B 84 1 v vals.length vals) (hl : vals.length ≤ 1000) (hB : B ≤ w.heap.size) :
  Calls Tryz.prog 52 #[.int .i64 n, .agg (y.1.map vu8).toArray, .pointer (some ⟨sb, 0, none⟩), .pointer (some ⟨db, 0, none⟩)] w fun e w' => e = .returned (.tuple #[]) ∧ ∃ v' u, Blk w' sb 115 #[v'] ∧
   w'.ownsRow B 84 1 v' (vals ++ [u]).length (vals ++ [u]) ∧ StepAt w' db u ⟨⟨n, y.1⟩, y.2⟩ ∧ RowStep sb v v' w w' ∧ u = .func (.func 53) #[] #[.pointer (some ⟨db, 0, none⟩), .pointer (some ⟨w.heap.size, 0, none⟩), .pointer (some ⟨w.heap.size + 1, 0, none⟩)] := by
 obtain ⟨i0, hi0, hz0, hz1, hz2⟩ := info_parts info_func
 have hlt := hc.lt
 have hne : ∀ i, v.ownBlock = some i → i ≠ sb := ne_own ho hc (by decide)
 obtain ⟨X, eX⟩ : ∃ X, X = (y.1.map vu8).toArray := ⟨_, rfl⟩
 rw [← eX]
 have HEX := Lib.hid eX
 obtain ⟨u, eu⟩ : ∃ u : Value, u = .func (.func 53) #[] #[.pointer (some ⟨db, 0, none⟩), .pointer (some ⟨w.heap.size, 0, none⟩), .pointer (some ⟨w.heap.size + 1, 0, none⟩)] := ⟨_, rfl⟩
 obtain ⟨W, eW⟩ : ∃ W, W = ((w.alloc (.cells #[.int .i64 n] 3)).alloc (.cells X 111)).alloc (.cells #[u] 84) := ⟨_, rfl⟩
 have hb : Below w.heap.size w W := by rw [eW]; exact (((Below.refl _ w).alloc (Nat.le_refl _) _).alloc (by simp) _).alloc (by simp; omega) _
 have k0 : Blk W w.heap.size 3 #[.int .i64 n] := by rw [eW]; exact ((Blk.new w _ _).alloc _).alloc _
 have k1 : Blk W (w.heap.size + 1) 111 X := by rw [eW]; exact (Blk.new2 w _ _ _).alloc _
 have k2 : Blk W (w.heap.size + 1 + 1) 84 #[u] := by rw [eW]; exact Blk.new' (by simp)
 have hws : W.heap.size = w.heap.size + 3 := by rw [eW]; simp
 have HO := Lib.hid (ownsRow_out (F := fun _ => False) (outB hb) ho (fun _ _ => id))
 have HC := Lib.hid hc
 have HB := Lib.hid hb
 have c1 := hc.cell_is 0 rfl
 have K0 := Lib.hid k0
 have K1 := Lib.hid k1
 have K2 := Lib.hid k2
 have huo : u.oneCell' = true := by rw [eu]; rfl
 have HEU := Lib.hid eu
 have HEW := Lib.hid eW
 clear eX ho hc k0 k1 k2 hb eu eW
 go_enter Tryz.func52, Tryz.ntmps52
 go_wp2_with (at_builtin; rw [← HEU.out]; rw [← HEW.out]; refine wpList_append_lies W rfl (.tmp 6) (.tmp 8) 115 rfl B 84 i0 _ 1 8 Tryz.underlying115 hi0 hz0 hz1 hz2 rfl (by omega) v vals.length vals rfl HO.out ⟨w.heap.size + 1 + 1, 0, none⟩ 1 1 [u] rfl rfl (World.news_of_block (cs := #[u]) (t := 84) (fr := (0, 0)) K2.out) (by simp [huo]) (by omega) (by unfold maxLen; omega) (by omega) (by omega) (w.heap.size + 3) hws ?_; intro g3 cap3 w2 hO2 hg2 hat2 hlt2; have cc : Blk w2 sb 115 #[v] := (hg2.block sb (by omega) (fun e => hne sb e.symm rfl)).trans (HC.out.below HB.out hlt); have c2 := cc.cell_is 0 rfl; have f2 := cc.frozen 0)
 obtain ⟨q1, q2⟩ := grown_row HB.out hg2 HC.out (fun e => hne sb e rfl) (v' := .slice (some ⟨g3, 0, none⟩) (vals.length + 1) cap3) (fun i hi => by
  have hi2 : g3 = i := by simpa [Value.ownBlock] using hi
  subst hi2
  exact hat2.imp id (fun e => by omega))
 have hO3 := ownsRow_out (F := fun i => i = sb) (out_set (v := .slice (some ⟨g3, 0, none⟩) (vals.length + 1) cap3) (i := 0) rfl) hO2 (ne_own hO2 cc (by decide))
 have far : ∀ (g : Nat) (t : TypeId) (cs : Array Value), Blk W g t cs → t ≠ 84 → g ≠ sb → Blk (w2.setCell ⟨sb, 0, none⟩ (.slice (some ⟨g3, 0, none⟩) (vals.length + 1) cap3)) g t cs := fun g t cs hb ht hg =>
  Blk.far (p := ⟨sb, 0, none⟩) ((hg2.block g hb.lt (fun e => ne_own HO.out hb (Ne.symm ht) g e.symm rfl)).trans hb) hg _
 exact bodyPost_end (v := .tuple #[]) (by simp [results, Tryz.results52, go_sem]) rfl ⟨rfl, _, u, q1, by rw [List.length_append]; exact hO3, ⟨_, _, HEU.out, far _ _ _ K0.out (by decide) (by omega), by rw [← HEX.out]; exact far _ _ _ K1.out (by decide) (by omega)⟩, q2, HEU.out⟩
theorem lay_any (sb db B : Nat) (v : Value) (vals : List Value) (n : Int) (y : SecS) (w : World) (hc : Blk w sb 115 #[v]) (ho : w.ownsRow B 84 1 v vals.length vals) (hl : vals.length ≤ 1000) (hB : B ≤ w.heap.size) :
  Calls Tryz.prog 52 #[.int .i64 n, .agg (y.1.map vu8).toArray, .pointer (some ⟨sb, 0, none⟩), .pointer (some ⟨db, 0, none⟩)] w fun e w' => e = .returned (.tuple #[]) ∧ ∃ v' u, Blk w' sb 115 #[v'] ∧
   w'.ownsRow B 84 1 v' (vals ++ [u]).length (vals ++ [u]) ∧ StepAt w' db u ⟨⟨n, y.1⟩, y.2⟩ ∧ RowStep sb v v' w w' := by
 refine (lay_at sb db B v vals n y w hc ho hl hB).mono ?_
 rintro e w' ⟨he, v', u, h1, h2, h3, h4, _⟩
 exact ⟨he, v', u, h1, h2, h3, h4⟩
end Go.Proofs.YtdpniceapmikpaaGreat
