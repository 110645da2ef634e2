/-
  The contract of codec.Get. (Written by gen_lcget.py.)
  slices.Equal of numbers and of objects. (Written by gen_lequal.py.)
-/
import Derived.Deep.RegionHeld3
import Derived.Test.YtdpniceapmikpaaGreatWh1
import Derived.Test.YtdpniceapmikpaaGreatWh7
import Derived.Test.YtdpniceapmikpaaGreatWh17
import Derived.Test.YtdpniceapmikpaaGreatWh18
set_option linter.unusedVariables false
set_option linter.unusedSimpArgs false
namespace Go.Proofs.YtdpniceapmikpaaGreat
open Go.RowKit

theorem getO_no {b : List UInt8} {n : Int} {c : Int} (h : getE b n = c) (hc : c ≠ 0) : getO b n = objZ := by
 unfold getO
 rw [h, if_neg hc]
/-- the end of Get where there is nothing deferred -/
theorem get_none (tmps : Array Value) (w0 W : World) (c : Int) (b : List UInt8) (n : Int) (h : getE b n = c) (hc : c ≠ 0) (h1 : Blk W (w0.heap.size + 1) 62 objZ.cells.toArray) (h2 : Blk W (w0.heap.size + 2) 32 #[.int .i64 c]) (hb : Below w0.heap.size w0 W)
  (t4 : tmps.getD 4 undef = .pointer (some ⟨w0.heap.size + 1, 0, none⟩)) (t5 : tmps.getD 5 undef = .pointer (some ⟨w0.heap.size + 2, 0, none⟩)) :
  Leaves Tryz.prog Tryz.f71 tmps (fun e w' => e = .returned (.tuple #[.agg (getO b n).cells.toArray, .int .i64 (getE b n)]) ∧ Below w0.heap.size w0 w') [] .returning W := by
 refine ⟨_, results_row_cell Tryz.results71 _ _ _ _ _ _ _ t4 h1 Tryz.underlying62 rfl (by rw [← zeroObj]; exact objZ_info) _ _ t5 (load_errno _ _ _ _ h2), ?_, hb⟩
 rw [getO_no h hc, h]
set_option maxRecDepth 100000 in
set_option maxHeartbeats 4000000 in
theorem cget_arg (b : List UInt8) (hb : b.length = 512) (n : Int) (w : World) (hn : n < 1 ∨ 64 < n) :
  Calls Tryz.prog 71 #[sectorV b, .int .i64 n] w fun e w' => e = .returned (.tuple #[.agg (getO b n).cells.toArray, .int .i64 (getE b n)]) ∧ Below w.heap.size w w' := by
 have hmf : ∀ (fn : Fn) (first cap : Array Value) (w : World), (Instr.makeFunc fn first cap).run Tryz.prog w = .ok (.func fn first cap) w := fun _ _ _ _ => rfl
 obtain ⟨W0, eW0⟩ : ∃ W, W = ((w.alloc (.cells (b.map vu8).toArray 111)).alloc (.cells Tryz.zeroCells62 62)).alloc (.cells #[.int .i64 0] 32) := ⟨_, rfl⟩
 have hw0 : Below w.heap.size w W0 := by rw [eW0]; exact (((Below.refl _ w).alloc (Nat.le_refl _) _).alloc (by simp) _).alloc (by simp; omega) _
 have k0 : Blk W0 w.heap.size 111 (b.map vu8).toArray := by rw [eW0]; exact ((Blk.new w _ _).alloc _).alloc _
 have k1 : Blk W0 (w.heap.size + 1) 62 objZ.cells.toArray := by rw [eW0, ← zeroObj]; exact (Blk.new2 w _ _ _).alloc _
 have k2 : Blk W0 (w.heap.size + 2) 32 #[.int .i64 0] := by rw [eW0]; exact Blk.new' (by simp)
 have hs0 : W0.heap.size = w.heap.size + 3 := by rw [eW0]; simp
 have hzi : (Tryz.prog.info? 62).map (·.size) = some objZ.cells.toArray.size := by rw [← zeroObj]; exact objZ_info
 have hz1 : objZ.cells.toArray.all (·.oneCell') = true := by rw [← zeroObj]; exact objZ_one
 have K0 := Lib.hid k0
 have K1 := Lib.hid k1
 have K2 := Lib.hid k2
 have HW0 := Lib.hid hw0
 have HB := Lib.hid hb
 unfold sectorV
 clear k0 k1 k2 hw0 hb
 have HE := Lib.hid (show getE b n = 2 by unfold getE; rw [if_pos hn])
 have hs : n < 1 ∨ (¬ n < 1 ∧ 64 < n) := by omega
 have HO1 := K1
 clear hn
 rcases hs with h1 | ⟨h1, h2⟩
 all_goals
  go_enter_defers Tryz.func71, Tryz.ntmps71
  go_upto_region 1 with fail
  rw [← eW0]
  clear eW0
  have hRR := (K1.out.row objZ.cells.toArray)
  have c5 := (K2.out.row_far (g' := w.heap.size + 1) objZ.cells.toArray (by omega)).cell_is 0 rfl
  have f5 := (K2.out.row_far (g' := w.heap.size + 1) objZ.cells.toArray (by omega)).frozen 0
  go_wp2_with (first
  | (refine wpList_load_row rfl 62 _ rfl (w.heap.size + 1) rfl 62 objZ.cells.toArray (0, 0) _ HO1.out Tryz.underlying62 rfl hzi ?_)
  | (refine wpList_store_row rfl 62 _ _ rfl (w.heap.size + 1) objZ.cells.toArray rfl rfl 62 _ HO1.out hzi rfl hz1 ?_))
  refine get_none _ w _ 2 b n HE.out (by decide) (hRR.far (by simp) _) ((K2.out.row_far (g' := w.heap.size + 1) objZ.cells.toArray (by omega)).set_ 0 _) ?_ rfl rfl
  exact (below_row HW0.out _ (by omega)).setCell (by simp; omega) _
set_option maxRecDepth 100000 in
set_option maxHeartbeats 4000000 in
theorem cget_sum (b : List UInt8) (hb : b.length = 512) (n : Int) (w : World) (hn : ¬ (n < 1 ∨ 64 < n)) (hsl : sealedB b = false) :
  Calls Tryz.prog 71 #[sectorV b, .int .i64 n] w fun e w' => e = .returned (.tuple #[.agg (getO b n).cells.toArray, .int .i64 (getE b n)]) ∧ Below w.heap.size w w' := by
 have hmf : ∀ (fn : Fn) (first cap : Array Value) (w : World), (Instr.makeFunc fn first cap).run Tryz.prog w = .ok (.func fn first cap) w := fun _ _ _ _ => rfl
 obtain ⟨W0, eW0⟩ : ∃ W, W = ((w.alloc (.cells (b.map vu8).toArray 111)).alloc (.cells Tryz.zeroCells62 62)).alloc (.cells #[.int .i64 0] 32) := ⟨_, rfl⟩
 have hw0 : Below w.heap.size w W0 := by rw [eW0]; exact (((Below.refl _ w).alloc (Nat.le_refl _) _).alloc (by simp) _).alloc (by simp; omega) _
 have k0 : Blk W0 w.heap.size 111 (b.map vu8).toArray := by rw [eW0]; exact ((Blk.new w _ _).alloc _).alloc _
 have k1 : Blk W0 (w.heap.size + 1) 62 objZ.cells.toArray := by rw [eW0, ← zeroObj]; exact (Blk.new2 w _ _ _).alloc _
 have k2 : Blk W0 (w.heap.size + 2) 32 #[.int .i64 0] := by rw [eW0]; exact Blk.new' (by simp)
 have hs0 : W0.heap.size = w.heap.size + 3 := by rw [eW0]; simp
 have hzi : (Tryz.prog.info? 62).map (·.size) = some objZ.cells.toArray.size := by rw [← zeroObj]; exact objZ_info
 have hz1 : objZ.cells.toArray.all (·.oneCell') = true := by rw [← zeroObj]; exact objZ_one
 have K0 := Lib.hid k0
 have K1 := Lib.hid k1
 have K2 := Lib.hid k2
 have HW0 := Lib.hid hw0
 have HB := Lib.hid hb
 unfold sectorV
 clear k0 k1 k2 hw0 hb
 have HE := Lib.hid (show getE b n = 150 by unfold getE; rw [if_neg hn, hsl]; rfl)
 have h1 : ¬ n < 1 := by omega
 have h2 : ¬ 64 < n := by omega
 clear hn
 have HBL := Lib.hid (show BytesIn W0 W0.heap.size (.slice (some ⟨w.heap.size, 0, none⟩) 512 512) b by
  have := blk_bytes K0.out 512 (by rw [HB.out]; exact Nat.le_refl _) (by rw [HB.out]; decide)
  rwa [List.take_of_length_le (by rw [HB.out]; exact Nat.le_refl _), HB.out] at this)
 have HSL := Lib.hid hsl
 clear hsl
 go_enter_defers Tryz.func71, Tryz.ntmps71
 go_upto_region 1 with fail
 rw [← eW0]
 clear eW0
 go_wp2_with fail
 refine (sealed_any _ b _ HBL.out (by rw [HB.out]; decide)).mono ?_; rintro e w4 ⟨u, rfl, hu, hb4⟩
 unfold SealedAt at hu
 rw [HSL.out] at hu ⊢
 obtain rfl : u = .slice none 0 0 := hu
 have HO1 := Lib.hid (K1.out.below hb4 (by omega))
 have HO2 := Lib.hid (K2.out.below hb4 (by omega))
 have HW4 := Lib.hid (HW0.out.trans (hb4.mono (by omega)))
 have c5 := (HO2.out.row_far (g' := w.heap.size + 1) objZ.cells.toArray (by omega)).cell_is 0 rfl
 have f5 := (HO2.out.row_far (g' := w.heap.size + 1) objZ.cells.toArray (by omega)).frozen 0
 clear hb4
 go_wp2_with (first
  | (refine wpList_load_row rfl 62 _ rfl (w.heap.size + 1) rfl 62 objZ.cells.toArray (0, 0) _ HO1.out Tryz.underlying62 rfl hzi ?_)
  | (refine wpList_store_row rfl 62 _ _ rfl (w.heap.size + 1) objZ.cells.toArray rfl rfl 62 _ HO1.out hzi rfl hz1 ?_))
 refine get_none _ w _ 150 b n HE.out (by decide) ((HO1.out.row objZ.cells.toArray).far (by simp) _) ((HO2.out.row_far (g' := w.heap.size + 1) objZ.cells.toArray (by omega)).set_ 0 _) ?_ rfl rfl
 exact (below_row HW4.out _ (by omega)).setCell (by simp; omega) _
/-- the end of Get where what was read is given up -/
theorem get_given (tmps : Array Value) (w0 W : World) (b : List UInt8) (n : Int) (h : getE b n = 151) (o : ObjD) (ho : o.ok) (h1 : Blk W (w0.heap.size + 1) 62 o.cells.toArray) (h2 : Blk W (w0.heap.size + 2) 32 #[.int .i64 0]) (hb : Below w0.heap.size w0 W)
  (t4 : tmps.getD 4 undef = .pointer (some ⟨w0.heap.size + 1, 0, none⟩)) (t5 : tmps.getD 5 undef = .pointer (some ⟨w0.heap.size + 2, 0, none⟩)) :
  Leaves Tryz.prog Tryz.f71 tmps (fun e w' => e = .returned (.tuple #[.agg (getO b n).cells.toArray, .int .i64 (getE b n)]) ∧ Below w0.heap.size w0 w')
   [{ target := .fn (.func 120) #[], args := #[ptr (w0.heap.size + 2)] }, { target := .fn (.func 119) #[ptr (w0.heap.size + 2), ptr (w0.heap.size + 1)], args := #[] }] (.panicking cfailC) W := by
 refine leaves_cons (f := 120) (args := #[ptr (w0.heap.size + 2)]) (by simp) (by simp [go_sem]) ?_
 refine (cgiven_panicking (w0.heap.size + 2) _ 0 W h2).mono ?_; rintro e u' w'' ⟨rfl, rfl, rfl⟩
 refine leaves_cons (f := 119) (args := #[ptr (w0.heap.size + 2), ptr (w0.heap.size + 1)]) (by simp [settle]) (by simp [go_sem]) ?_
 have k2 : Blk ((W.setCell ⟨w0.heap.size + 2, 0, none⟩ (.int .i64 151)).alloc (.cells #[] 260)) (w0.heap.size + 2) 32 #[.int .i64 151] := (h2.set_ 0 _).alloc _
 have k1 : Blk ((W.setCell ⟨w0.heap.size + 2, 0, none⟩ (.int .i64 151)).alloc (.cells #[] 260)) (w0.heap.size + 1) 62 o.cells.toArray := (h1.far (by simp) _).alloc _
 have k3 : Below w0.heap.size w0 ((W.setCell ⟨w0.heap.size + 2, 0, none⟩ (.int .i64 151)).alloc (.cells #[] 260)) := (hb.setCell (by simp <;> omega) _).alloc (by have := hb.size; simpa using this) _
 refine (cundo_yes _ _ _ _ 151 (by decide) o ho _ _ k2 k1).mono ?_; rintro e u' w'' ⟨rfl, rfl, rfl⟩
 refine ⟨_, results_row_cell Tryz.results71 _ _ _ _ _ _ _ t4 (k1.row _) Tryz.underlying62 rfl (by rw [← zeroObj]; exact objZ_info) _ _ t5 (load_errno _ _ _ _ (k2.row_far _ (by omega))), ?_, below_row k3 _ (by omega)⟩
 rw [getO_no h (by decide), h]
/-- the end of Get where it went well -/
theorem get_well (tmps : Array Value) (w0 W : World) (b : List UInt8) (n : Int) (h : getE b n = 0) (hl : (b.take 508).length = 508) (h1 : Blk W (w0.heap.size + 1) 62 (objOf (b.take 508)).cells.toArray) (h2 : Blk W (w0.heap.size + 2) 32 #[.int .i64 0]) (hb : Below w0.heap.size w0 W)
  (t4 : tmps.getD 4 undef = .pointer (some ⟨w0.heap.size + 1, 0, none⟩)) (t5 : tmps.getD 5 undef = .pointer (some ⟨w0.heap.size + 2, 0, none⟩)) :
  Leaves Tryz.prog Tryz.f71 tmps (fun e w' => e = .returned (.tuple #[.agg (getO b n).cells.toArray, .int .i64 (getE b n)]) ∧ Below w0.heap.size w0 w')
   [{ target := .fn (.func 120) #[], args := #[ptr (w0.heap.size + 2)] }, { target := .fn (.func 119) #[ptr (w0.heap.size + 2), ptr (w0.heap.size + 1)], args := #[] }] .returning W := by
 refine leaves_cons (f := 120) (args := #[ptr (w0.heap.size + 2)]) (by simp) (by simp [go_sem]) ?_
 refine (cgiven_idle ⟨w0.heap.size + 2, 0, none⟩ W).mono ?_; rintro e u' w'' ⟨rfl, rfl, rfl⟩
 refine leaves_cons (f := 119) (args := #[ptr (w0.heap.size + 2), ptr (w0.heap.size + 1)]) (by simp [settle]) (by simp [go_sem]) ?_
 refine (cundo_no _ _ _ _ _ h2).mono ?_; rintro e u' w'' ⟨rfl, rfl, rfl⟩
 refine ⟨_, results_row_cell Tryz.results71 _ _ _ _ _ _ _ t4 h1 Tryz.underlying62 rfl (by rw [List.size_toArray, ObjD.len (objOf_ok _ hl)]; exact objZ_info) _ _ t5 (load_errno _ _ _ _ h2), ?_, hb⟩
 unfold getO
 rw [h, if_pos rfl]
set_option maxRecDepth 100000 in
set_option maxHeartbeats 4000000 in
theorem cget_code (b : List UInt8) (hb : b.length = 512) (n : Int) (w : World) (hn : ¬ (n < 1 ∨ 64 < n)) (hsl : sealedB b = true) :
  Calls Tryz.prog 71 #[sectorV b, .int .i64 n] w fun e w' => e = .returned (.tuple #[.agg (getO b n).cells.toArray, .int .i64 (getE b n)]) ∧ Below w.heap.size w w' := by
 have hmf : ∀ (fn : Fn) (first cap : Array Value) (w : World), (Instr.makeFunc fn first cap).run Tryz.prog w = .ok (.func fn first cap) w := fun _ _ _ _ => rfl
 obtain ⟨W0, eW0⟩ : ∃ W, W = ((w.alloc (.cells (b.map vu8).toArray 111)).alloc (.cells Tryz.zeroCells62 62)).alloc (.cells #[.int .i64 0] 32) := ⟨_, rfl⟩
 have hw0 : Below w.heap.size w W0 := by rw [eW0]; exact (((Below.refl _ w).alloc (Nat.le_refl _) _).alloc (by simp) _).alloc (by simp; omega) _
 have k0 : Blk W0 w.heap.size 111 (b.map vu8).toArray := by rw [eW0]; exact ((Blk.new w _ _).alloc _).alloc _
 have k1 : Blk W0 (w.heap.size + 1) 62 objZ.cells.toArray := by rw [eW0, ← zeroObj]; exact (Blk.new2 w _ _ _).alloc _
 have k2 : Blk W0 (w.heap.size + 2) 32 #[.int .i64 0] := by rw [eW0]; exact Blk.new' (by simp)
 have hs0 : W0.heap.size = w.heap.size + 3 := by rw [eW0]; simp
 have hzi : (Tryz.prog.info? 62).map (·.size) = some objZ.cells.toArray.size := by rw [← zeroObj]; exact objZ_info
 have hz1 : objZ.cells.toArray.all (·.oneCell') = true := by rw [← zeroObj]; exact objZ_one
 have K0 := Lib.hid k0
 have K1 := Lib.hid k1
 have K2 := Lib.hid k2
 have HW0 := Lib.hid hw0
 have HB := Lib.hid hb
 unfold sectorV
 clear k0 k1 k2 hw0 hb
 have HE := Lib.hid (show getE b n = if codeB (b.take 508) n then 0 else 151 by unfold getE; rw [if_neg hn, hsl]; rfl)
 have h1 : ¬ n < 1 := by omega
 have h2 : ¬ 64 < n := by omega
 clear hn
 have HBL := Lib.hid (show BytesIn W0 W0.heap.size (.slice (some ⟨w.heap.size, 0, none⟩) 512 512) b by
  have := blk_bytes K0.out 512 (by rw [HB.out]; exact Nat.le_refl _) (by rw [HB.out]; decide)
  rwa [List.take_of_length_le (by rw [HB.out]; exact Nat.le_refl _), HB.out] at this)
 have HSL := Lib.hid hsl
 clear hsl
 go_enter_defers Tryz.func71, Tryz.ntmps71
 go_upto_region 1 with fail
 rw [← eW0]
 clear eW0
 go_wp2_with fail
 refine (sealed_any _ b _ HBL.out (by rw [HB.out]; decide)).mono ?_; rintro e w4 ⟨u, rfl, hu, hb4⟩
 unfold SealedAt at hu
 rw [HSL.out] at hu ⊢
 rw [if_pos rfl, HB.out, show 512 - 4 = 508 from rfl] at hu
 have hl : (b.take 508).length = 508 := by rw [List.length_take, HB.out]; rfl
 obtain ⟨l, el⟩ : ∃ l, l = b.take 508 := ⟨_, rfl⟩
 rw [← el] at hu hl HE
 have HLE := Lib.hid el
 obtain ⟨g8, cap8, rfl, hg8, hc8⟩ := World.ownsRow.form hu (by omega)
 have I0 := Lib.hid (show GetInv w w4.heap.size w4.heap.size (w4.alloc (.cells #[.slice (some ⟨g8, 0, none⟩) 508 cap8] 217)) (.slice (some ⟨g8, 0, none⟩) 508 cap8) l objZ by
  have hba : Below w4.heap.size w4 (w4.alloc (.cells #[.slice (some ⟨g8, 0, none⟩) 508 cap8] 217)) := (Below.refl _ w4).alloc (Nat.le_refl _) _
  have hsz := hb4.size
  exact ⟨(K1.out.below hb4 (by omega)).alloc _, (K2.out.below hb4 (by omega)).alloc _, Blk.new w4 _ _, (BytesIn.own hu).below hba (Nat.le_refl _), (HW0.out.trans (hb4.mono (by omega))).trans (hba.mono (by omega)), by omega, Nat.le_refl _, fun g hg => by
   have e : g8 = g := by simpa [blockOf] using hg
   omega⟩)
 clear hb4 hu el K0 K1 K2 HBL HSL hg8 hc8 hzi hz1 HW0
 obtain ⟨W5, eW5⟩ : ∃ W, W = w4.alloc (.cells #[.slice (some ⟨g8, 0, none⟩) 508 cap8] 217) := ⟨_, rfl⟩
 obtain ⟨B, eB⟩ : ∃ g, g = w4.heap.size := ⟨_, rfl⟩
 have I1 := Lib.hid (show GetInv w w4.heap.size B W5 (.slice (some ⟨g8, 0, none⟩) 508 cap8) (l.drop 0) objZ by rw [eB, eW5]; exact I0.out)
 obtain ⟨G, eG⟩ : ∃ g, g = w4.heap.size := ⟨_, rfl⟩
 have hl4 : 4 ≤ l.length ∧ 8 ≤ l.length ∧ 12 ≤ l.length := by omega
 have HL := Lib.hid hl
 go_upto_region 9 with fail
 rw [← eW5]
 rw [← eG] at I1 ⊢
 clear eW5 eG eB I0
 go_wp2_with fail
 refine (I1.out.number 0 4 (by omega) (by omega)).mono ?_
 rintro e W6 ⟨rfl, v6, hI⟩
 obtain ⟨q6, eq6⟩ : ∃ q, q = leN ((l.drop 0).take 4) := ⟨_, rfl⟩
 have hwq6 := wrap_leN q6 4 (by rw [eq6]; exact leN_take_lt _ _) (by omega)
 have c0 := (obj_range hI.obj rfl 0).trans rfl
 have f0 := hI.obj.frozen 0
 have I2 := Lib.hid (hI.set_ (out_set rfl) (by have h := hI.obj.set_ 0 (.int .i64 (q6 : Int)); rwa [obj_set0] at h))
 have Q6 := Lib.hid eq6
 rw [← eq6]
 clear hI eq6 I1
 go_wp2_with fail
 clear c0 f0 hwq6
 refine (I2.out.number 4 4 (by omega) (by omega)).mono ?_
 rintro e W7 ⟨rfl, v7, hI⟩
 obtain ⟨q7, eq7⟩ : ∃ q, q = leN ((l.drop 4).take 4) := ⟨_, rfl⟩
 have hwq7 := wrap_leN q7 4 (by rw [eq7]; exact leN_take_lt _ _) (by omega)
 have c1 := (obj_range hI.obj rfl 1).trans rfl
 have f1 := hI.obj.frozen 1
 have I3 := Lib.hid (hI.set_ (out_set rfl) (by have h := hI.obj.set_ 1 (.int .i64 (q7 : Int)); rwa [obj_set1] at h))
 have Q7 := Lib.hid eq7
 rw [← eq7]
 clear hI eq7 I2
 go_wp2_with fail
 clear c1 f1 hwq7
 refine (I3.out.number 8 4 (by omega) (by omega)).mono ?_
 rintro e W8 ⟨rfl, v8, hI⟩
 obtain ⟨q8, eq8⟩ : ∃ q, q = leN ((l.drop 8).take 4) := ⟨_, rfl⟩
 have hwq8 := wrap_leN q8 4 (by rw [eq8]; exact leN_take_lt _ _) (by omega)
 have c2 := (obj_range hI.obj rfl 2).trans rfl
 have f2 := hI.obj.frozen 2
 have I4 := Lib.hid (hI.set_ (out_set rfl) (by have h := hI.obj.set_ 2 (.int .i64 (q8 : Int)); rwa [obj_set2] at h))
 have Q8 := Lib.hid eq8
 rw [← eq8]
 clear hI eq8 I3
 have IZ := Lib.hid (show GetInv w G B (W8.setCell ⟨w.heap.size + 1, 2, none⟩ (.int .i64 (q8 : Int))) v8 (l.drop 12) (objTo l 0) by
  have h := I4.out
  rw [Q6.out, Q7.out, Q8.out] at h
  unfold objTo
  rw [slotsTo_zero]
  rw [Q8.out]
  exact h)
 clear I4 Q6 Q7 Q8
 go_wp2_with fail
 go_loopw [38] (fun i wr => ∃ (j : Nat) (v' : Value), j ≤ 16 ∧ i = .int .i64 (j : Int) ∧ ((List.range j).all fun i => okK (keyOf (l.drop (12 + 20 * i)))) = true ∧ GetInv w G B wr v' (l.drop (12 + 20 * j)) (objTo l j)) (fun i _ => 16 - (intOf i).toNat)
 case atStart => exact ⟨0, v8, Nat.zero_le _, rfl, rfl, IZ.out⟩
 case round =>
  obtain ⟨j, v1, hj, rfl, hall, hI⟩ := hrel
  have I := Lib.hid hI
  have HALL := Lib.hid hall
  clear hI hall IZ
  by_cases hlt : j < 16
  ·have hlen : 20 ≤ (l.drop (12 + 20 * j)).length := by rw [List.length_drop, HL.out]; omega
   go_wp2_with fail
   refine (rkey_any G B v1 (l.drop (12 + 20 * j)) wr hlen I.out.box I.out.bytes I.out.bg).mono ?_
   rintro e w2 ⟨ho2, hk⟩
   cases hok : okK (keyOf (l.drop (12 + 20 * j)))
   ·unfold okK at hok
    rw [hok] at hk
    obtain rfl : e = .panicked cfailC := hk
    have HC := Lib.hid (show getE b n = 151 by
     rw [HE.out, show codeB l n = false by unfold codeB; rw [all_range_false (p := fun i => okK (keyOf (l.drop (12 + 20 * i)))) hlt (by unfold okK; exact hok), Bool.false_and]]
     rfl)
    have hb2 := ho2.below (B := w.heap.size) (by have := I.out.below.size; omega) (fun i hi e => by have := I.out.bg; have := I.out.big; omega)
    have hbg := I.out.bg
    have hbig := I.out.big
    have J1 := Lib.hid (ho2.blk I.out.obj (by omega))
    have J2 := Lib.hid (ho2.blk I.out.err (by omega))
    have J3 := Lib.hid (I.out.below.trans hb2)
    clear hok ho2 hb2
    go_wp2_with fail
    exact get_given _ w _ b n HC.out _ (objTo_ok l j) J1.out J2.out J3.out rfl rfl
   ·have HOK := Lib.hid (show ((List.range (j + 1)).all fun i => okK (keyOf (l.drop (12 + 20 * i)))) = true by rw [List.range_succ, List.all_append, HALL.out, List.all_cons, hok]; rfl)
    unfold okK at hok
    rw [hok] at hk
    obtain ⟨X, eX⟩ : ∃ X, X = (keyOf (l.drop (12 + 20 * j))).cells.toArray := ⟨_, rfl⟩
    rw [← eX] at hk
    obtain ⟨rfl, v2, hb2, hv2, hq2⟩ := hk
    have I2 := Lib.hid (show GetInv w G B w2 v2 (l.drop (12 + 20 * (j + 1))) (objTo l j) from I.out.take ho2 hb2 (by rw [List.drop_drop] at hv2; exact hv2) hq2)
    clear hok ho2 hb2 hv2 hq2 I
    have HKI := Lib.hid (show (Tryz.prog.info? 58).map (·.size) = some X.size by rw [eX]; kernel_rfl)
    have h1k : X.all (·.oneCell') = true := by rw [eX, List.all_toArray]; rfl
    have hX6 : X.size = 6 := by rw [eX]; rfl
    have h163 : (objTo l j).cells.toArray.size = 163 := by rw [List.size_toArray]; exact ObjD.len (objTo_ok l j)
    have HTH := Lib.hid (there_blk I2.out.obj (3 + j * 6) X.size (by rw [h163, hX6]; omega))
    have HEX := Lib.hid eX
    clear eX h163 hX6
    go_wp2_with (refine wpList_store_mid rfl 58 _ _ rfl (w.heap.size + 1) (3 + j * 6) X rfl rfl HTH.out HKI.out h1k ?_)
    exact ⟨⟨j + 1, v2, by omega, by go_num, HOK.out, I2.out.set_ (out_setCells (F := fun i => i = w.heap.size + 1) _ rfl _ _ _) (obj_next hlt HEX.out I2.out.obj)⟩, by simp [intOf]; omega⟩
  ·obtain rfl : j = 16 := by omega
   have I2 := Lib.hid (show GetInv w G B wr v1 (l.drop 332) (objTo l 16) from I.out)
   have HK := Lib.hid (rtake_yes G B v1 (l.drop 332) 64 (by rw [List.length_drop, HL.out]; decide) wr.drew I2.out.box.drew (I2.out.bytes.below (Below.refl wr.heap.size wr).drew (by have := I2.out.bg; have := I2.out.box.lt; omega)) I2.out.bg)
   clear I
   unfold ptr at HK
   go_upto_region 17 with fail
   refine wp_region_noPanic ?_
   refine wp_region_held_drew (S := (fun _ => True)) (by kernel_rfl) (by first | trivial | ((try dsimp only); trivial)) (fun hHeld => ?_)
   refine tk 0 ?_
   refine tk 1 ?_
   refine rd 2 fun K hK => ?_
   go_simp
   refine HK.out.mono ?_; rintro e w2 ⟨a2, cap2, rfl, hv2, ⟨v2, hb2, hw2, hq2⟩, ho2⟩
   have I2b := Lib.hid (GetInv.take (I2.out.far (Below.refl _ wr).drew) ho2 hb2 hw2 hq2)
   have HV2 := Lib.hid hv2
   clear hv2 hb2 hw2 hq2 ho2
   go_wp2_with fail
   refine hK.out _ _ (by first | trivial | ((try dsimp only); trivial)) (fun hHeld => ?_)
   clear hK K
   try simp only [Act.put, pz0, pz1, pz2, pz3, pz4, pz5]
   refine rd 3 fun K hK => ?_
   rw [if_pos (by rfl)]
   obtain ⟨w3, hr3, hb3, ho3⟩ := copy_page HL.out I2b.out.obj HV2.out 3
   refine Lib.wp_copy_run _ (.tmp 47) (.tmp 48) 26 26 rfl _ _ rfl rfl hr3 ?_
   have I3 := Lib.hid (I2b.out.set_ ho3 hb3)
   clear hr3 hb3 ho3 HV2 I2b
   refine hK.out _ _ (by first | trivial | ((try dsimp only); trivial)) (fun hHeld => ?_)
   clear hK K
   try simp only [Act.put, pz0, pz1, pz2, pz3, pz4, pz5]
   refine wpAnyH_done (by kernel_rfl) ?_ _
   try simp only [Act.put, pz0, pz1, pz2, pz3, pz4, pz5]
   refine NoPanic.normal ?_
   clear HK
   have c8 := I3.out.box.cell_is 0 rfl
   go_wp2_with fail
   refine (blank_any B v2 _ _ I3.out.bytes).mono ?_
   rintro e w4b ⟨rfl, rfl⟩
   have HCB := Lib.hid (show codeB l n = (((l.drop 332).drop 64).all (· == 0) && objB (objOf l) n) by
    unfold codeB
    rw [HALL.out, Bool.true_and, List.drop_drop])
   obtain ⟨q1, eq1⟩ : ∃ q, q = ((l.drop 332).drop 64).all (· == 0) := ⟨_, rfl⟩
   rw [← eq1] at HCB ⊢
   clear eq1 HALL
   cases q1
   ·have HC := Lib.hid (show getE b n = 151 by rw [HE.out, HCB.out, Bool.false_and]; rfl)
    go_wp2_with fail
    refine (cmust_no _).mono ?_; rintro e w5 ⟨rfl, rfl⟩
    go_wp2_with fail
    exact get_given _ w _ b n HC.out _ (objOf_ok l HL.out) I3.out.obj I3.out.err I3.out.below rfl rfl
   ·obtain ⟨X, eX⟩ : ∃ X, X = (objOf l).cells.toArray := ⟨_, rfl⟩
    have HOC := Lib.hid (fun W => ocheck_any (objOf l) (objOf_ok l HL.out) n W)
    have HX1 := Lib.hid (show Blk _ _ _ X by rw [eX]; exact I3.out.obj)
    have hxi : (Tryz.prog.info? 62).map (·.size) = some X.size := by rw [eX, List.size_toArray, ObjD.len (objOf_ok l HL.out)]; exact objZ_info
    have hx1 : X.all (·.oneCell') = true := by rw [eX, List.all_toArray]; exact List.all_eq_true.2 (fun v hv => obj_one _ v hv)
    rw [← eX] at HOC
    have HEX := Lib.hid eX
    clear eX
    have HLX := Lib.hid (show (loadVar 62 ⟨w.heap.size + 1, 0, none⟩).run Tryz.prog w3 = .ok (.agg X) w3 from run_loadVar_row _ _ _ _ _ _ _ HX1.out Tryz.underlying62 rfl hxi)
    go_wp2_with (refine wpList_load_midG rfl 62 _ rfl (w.heap.size + 1) 0 rfl X HLX.out ?_)
    refine (HOC.out _).mono ?_
    rintro e w5 ⟨rfl, hb5⟩
    have I5 := Lib.hid (I3.out.far hb5)
    have HX5 := Lib.hid (HX1.out.below hb5 HX1.out.lt)
    clear hb5
    cases hq2 : objB (objOf l) n
    ·have HC := Lib.hid (show getE b n = 151 by rw [HE.out, HCB.out, hq2, Bool.and_false]; rfl)
     clear hq2
     go_wp2_with fail
     refine (cmust_no _).mono ?_; rintro e w6 ⟨rfl, rfl⟩
     go_wp2_with fail
     exact get_given _ w _ b n HC.out _ (objOf_ok l HL.out) I5.out.obj I5.out.err I5.out.below rfl rfl
    ·have HC := Lib.hid (show getE b n = 0 by rw [HE.out, HCB.out, hq2]; rfl)
     clear hq2
     go_wp2_with fail
     refine (cmust_yes _).mono ?_; rintro e w6 ⟨rfl, rfl⟩
     have c5 := (I5.out.err.row_far (g' := w.heap.size + 1) X (by omega)).cell_is 0 rfl
     have f5 := (I5.out.err.row_far (g' := w.heap.size + 1) X (by omega)).frozen 0
     go_wp2_with (first
      | (refine wpList_load_row rfl 62 _ rfl (w.heap.size + 1) rfl 62 X (0, 0) _ HX5.out Tryz.underlying62 rfl hxi ?_)
      | (refine wpList_store_row rfl 62 _ _ rfl (w.heap.size + 1) X rfl rfl 62 _ HX5.out hxi rfl hx1 ?_))
     refine get_well _ w _ b n HC.out (by rw [← HLE.out]; exact HL.out) ?_ ((I5.out.err.row_far (g' := w.heap.size + 1) X (by omega)).set_ 0 _) ?_ rfl rfl
     ·rw [← HLE.out, ← HEX.out]
      exact (HX5.out.row X).far (by simp) _
     ·exact (below_row I5.out.below _ (by omega)).setCell (by simp <;> omega) _
/-- codec.Get -/
theorem cget_any (b : List UInt8) (hb : b.length = 512) (n : Int) (w : World) :
  Calls Tryz.prog 71 #[sectorV b, .int .i64 n] w fun e w' => e = .returned (.tuple #[.agg (getO b n).cells.toArray, .int .i64 (getE b n)]) ∧ Below w.heap.size w w' := by
 by_cases hn : n < 1 ∨ 64 < n
 ·exact cget_arg b hb n w hn
 ·cases hs : sealedB b
  ·exact cget_sum b hb n w hn hs
  ·exact cget_code b hb n w hn hs
end Go.Proofs.YtdpniceapmikpaaGreat
namespace Go.Proofs.YtdpniceapmikpaaGreat
open Go.RowKit

theorem yieldsIf_neq_agg {P : Program} {ops : Array Oper} {S : World → Prop} {op : Oper} {a : Act} (hw : Region.wanted op (yielded ops a.tmps) = true) (t t' : TypeId) (x y : Operand) (ho : op.op = .binOp .neq t x y t') (xs ys : Array Value)
  (hx : a.eval x = .agg xs) (hy : a.eval y = .agg ys) (hm : P.eqGuardType P.depth t = false) (b : Bool) (hS : ∀ w, S w → (Op.equalIn 10000 t (.agg xs) (.agg ys)).run P w = .ok b w) : YieldsIf P ops S op (.bool (!b)) a :=
 .inl ⟨hw, fun w hw' => by
  unfold execOp
  simp only [ho, hx, hy, Sem.run_bind, run_eqGuard_agg _ _ _ _ _ _ _ hm, run_neq_struct, hS w hw', Sem.run_pure, Result.andThen_ok]⟩

def intsEq (l m : List Int) : Bool := l == m
def objsEq : List ObjD → List ObjD → Bool
 | [], [] => true
 | x :: l, y :: m => objEq x y && objsEq l m
 | _, _ => false
theorem objsEq_iff : ∀ (l m : List ObjD), objsEq l m = true ↔ l = m
 | [], [] => by simp [objsEq]
 | x :: l, y :: m => by simp [objsEq, objEq_iff, objsEq_iff l m]
 | [], _ :: _ => by simp [objsEq]
 | _ :: _, [] => by simp [objsEq]
theorem ints_no {l m : List Int} {j : Nat} {x y : Int} (hx : l[j]? = some x) (hy : m[j]? = some y) (h : x ≠ y) : l ≠ m := by
 rintro rfl; rw [hx] at hy; exact h (Option.some.inj hy)
theorem objs_len {l m : List ObjD} (h : l.length ≠ m.length) : objsEq l m = false := by
 cases hh : objsEq l m
 ·rfl
 ·exact absurd (congrArg List.length ((objsEq_iff l m).1 hh)) h
theorem objs_no {l m : List ObjD} {j : Nat} {x y : ObjD} (hx : l[j]? = some x) (hy : m[j]? = some y) (h : objEq x y = false) : objsEq l m = false := by
 cases hh : objsEq l m
 ·rfl
 ·have := (objsEq_iff l m).1 hh
  subst this
  rw [hx] at hy
  have := Option.some.inj hy
  subst this
  rw [(objEq_iff x x).2 rfl] at h; cases h

set_option maxRecDepth 100000 in
set_option maxHeartbeats 4000000 in
theorem equalInts_any (l m : List Int) (u v : Value) (w : World) (hu : IntsIn w w.heap.size u l) (hv : IntsIn w w.heap.size v m) : Calls Tryz.prog 43 #[u, v] w fun e w' => e = .returned (.bool (intsEq l m)) ∧ Below w.heap.size w w' := by
 obtain ⟨hmx, a1, c1, rfl, _, _⟩ := id hu
 have hlb : l.length ≤ 9223372036854775807 := by unfold maxLen at hmx; omega
 clear hmx
 obtain ⟨_, a2, c2, rfl, _, _⟩ := id hv
 obtain ⟨q, hq⟩ : ∃ q, q = intsEq l m := ⟨_, rfl⟩
 rw [← hq]
 have HQ := Lib.hid hq
 clear hq
 by_cases hlen : l.length = m.length
 ·have ne : ((l.length : Int) != (m.length : Int)) = false := by rw [hlen]; simp
  have HL := Lib.hid hlen
  clear hlen
  go_enter Tryz.func43, Tryz.ntmps43
  go_wp2_with fail
  go_loopw [13] (fun i wr => ∃ (j : Nat), j ≤ l.length ∧ i = .int .i64 j ∧ Hid (l.take j = m.take j) ∧ Below w.heap.size w wr) (fun i _ => l.length - (intOf i).toNat)
  case atStart => exact ⟨0, by omega, rfl, Lib.hid rfl, Below.refl _ _⟩
  case round =>
   obtain ⟨j, hj, rfl, HT, hB⟩ := hrel
   by_cases hlt : j < l.length
   ·obtain ⟨x, hx⟩ : ∃ c, l[j]? = some c := ⟨_, List.getElem?_eq_getElem hlt⟩
    have hlt2 : j < m.length := by have := HL.out; omega
    obtain ⟨y, hy⟩ : ∃ c, m[j]? = some c := ⟨_, List.getElem?_eq_getElem hlt2⟩
    obtain ⟨g1, o1, rfl, hg1, hc1⟩ := hu.at_ hx
    obtain ⟨g2, o2, rfl, hg2, hc2⟩ := hv.at_ hy
    have x0 := (hB.cell (p := ⟨g1, o1 + j, none⟩) hg1).trans hc1
    have y0 := (hB.cell (p := ⟨g2, o2 + j, none⟩) hg2).trans hc2
    have HX := Lib.hid hx
    have HY := Lib.hid hy
    clear hx hy hu hv hc1 hc2
    by_cases hxy : x = y
    ·have HS : Hid (l.take (j + 1) = m.take (j + 1)) := Lib.hid (by rw [List.take_add_one, List.take_add_one, HT.out, HX.out, HY.out, hxy])
     have f1 : (x != y) = false := by rw [hxy]; simp
     clear hxy
     go_upto_region 6 with fail
     have k1 := hB.drew
     refine wp_region_held_drew (S := (fun w' => Below w.heap.size w w' ∧ w'.cell? ⟨g1, o1 + j, none⟩ = some (.int .i64 x) ∧ w'.cell? ⟨g2, o2 + j, none⟩ = some (.int .i64 y))) (by kernel_rfl) (by (try dsimp only); (refine ⟨?_, ?_, ?_⟩ <;> assumption)) (fun hHeld => ?_)
     refine tk 0 ?_
     refine tk 1 ?_
     refine tk 2 ?_
     refine tk 3 ?_
     refine tk 4 ?_
     refine tk 5 ?_
     refine tk 6 ?_
     refine tk 7 ?_
     refine tk 8 ?_
     refine wpAnyH_done (by kernel_rfl) ?_ _
     go_wp2_with fail
     exact ⟨⟨j + 1, by omega, by go_num, HS, by assumption⟩, by simp [intOf] <;> omega⟩
    ·have hq : q = false := by
      rw [HQ.out]
      exact beq_eq_false_iff_ne.2 (ints_no HX.out HY.out hxy)
     have HN := Lib.hid hq
     have f1 : (x != y) = true := by simpa using hxy
     clear hxy hq
     go_upto_region 6 with fail
     have k1 := hB.drew
     refine wp_region_held_drew (S := (fun w' => Below w.heap.size w w' ∧ w'.cell? ⟨g1, o1 + j, none⟩ = some (.int .i64 x) ∧ w'.cell? ⟨g2, o2 + j, none⟩ = some (.int .i64 y))) (by kernel_rfl) (by (try dsimp only); (refine ⟨?_, ?_, ?_⟩ <;> assumption)) (fun hHeld => ?_)
     refine tk 0 ?_
     refine tk 1 ?_
     refine tk 2 ?_
     refine tk 3 ?_
     refine tk 4 ?_
     refine tk 5 ?_
     refine tk 6 ?_
     refine tk 7 ?_
     refine tk 8 ?_
     refine wpAnyH_done (by kernel_rfl) ?_ _
     go_wp2_with fail
     go_ret
     exact ⟨by rw [HN.out]; rfl, by assumption⟩
   ·obtain rfl : j = l.length := by omega
    have hq : q = true := by
     rw [HQ.out]
     have := HT.out
     rw [List.take_of_length_le (by omega), List.take_of_length_le (by rw [HL.out]; omega)] at this
     exact beq_iff_eq.2 this
    have HN := Lib.hid hq
    clear hq
    go_wp2_with fail
    go_ret
    exact ⟨by rw [HN.out]; rfl, hB⟩
 ·have ne : ((l.length : Int) != (m.length : Int)) = true := by simpa using (fun e => hlen (by omega))
  have hq : q = false := by
   rw [HQ.out]
   exact beq_eq_false_iff_ne.2 (fun e => hlen (by rw [e]))
  have HN := Lib.hid hq
  clear hq hlen
  go_enter Tryz.func43, Tryz.ntmps43
  go_wp2_with fail
  go_ret
  exact ⟨by rw [HN.out]; rfl, Below.refl _ _⟩

set_option maxRecDepth 100000 in
set_option maxHeartbeats 4000000 in
theorem equalObjs_any (l m : List ObjD) (u v : Value) (w : World) (hu : ObjsIn w w.heap.size u l) (hv : ObjsIn w w.heap.size v m) : Calls Tryz.prog 44 #[u, v] w fun e w' => e = .returned (.bool (objsEq l m)) ∧ Below w.heap.size w w' := by
 obtain ⟨hmx, a1, c1, rfl, _, _⟩ := id hu
 have hlb : l.length ≤ 9223372036854775807 := by unfold maxLen at hmx; omega
 clear hmx
 obtain ⟨_, a2, c2, rfl, _, _⟩ := id hv
 obtain ⟨q, hq⟩ : ∃ q, q = objsEq l m := ⟨_, rfl⟩
 rw [← hq]
 have HQ := Lib.hid hq
 clear hq
 by_cases hlen : l.length = m.length
 ·have ne : ((l.length : Int) != (m.length : Int)) = false := by rw [hlen]; simp
  have HL := Lib.hid hlen
  clear hlen
  go_enter Tryz.func44, Tryz.ntmps44
  go_wp2_with fail
  go_loopw [13] (fun i wr => ∃ (j : Nat), j ≤ l.length ∧ i = .int .i64 j ∧ Hid (l.take j = m.take j) ∧ Below w.heap.size w wr) (fun i _ => l.length - (intOf i).toNat)
  case atStart => exact ⟨0, by omega, rfl, Lib.hid rfl, Below.refl _ _⟩
  case round =>
   obtain ⟨j, hj, rfl, HT, hB⟩ := hrel
   by_cases hlt : j < l.length
   ·obtain ⟨x, hx⟩ : ∃ c, l[j]? = some c := ⟨_, List.getElem?_eq_getElem hlt⟩
    have hlt2 : j < m.length := by have := HL.out; omega
    obtain ⟨y, hy⟩ : ∃ c, m[j]? = some c := ⟨_, List.getElem?_eq_getElem hlt2⟩
    obtain ⟨hxo, _, g1, o1, rfl, hg1, hr1⟩ := hu.at_ hx
    obtain ⟨hyo, _, g2, o2, rfl, hg2, hr2⟩ := hv.at_ hy
    have HR1 := Lib.hid hr1
    have HR2 := Lib.hid hr2
    have HX := Lib.hid hx
    have HY := Lib.hid hy
    clear hx hy hu hv hr1 hr2
    cases hxy : objEq x y
    ·have hq : q = false := by
      rw [HQ.out]
      exact objs_no HX.out HY.out hxy
     have HN := Lib.hid hq
     clear hq
     go_upto_region 6 with fail
     have k1 := hB.drew
     refine wp_region_held_drew (S := (fun w' => Below w.heap.size w w')) (by kernel_rfl) (by (try dsimp only); assumption) (fun hHeld => ?_)
     refine tk 0 ?_
     refine tk 1 ?_
     refine tk 2 ?_
     refine ty 3 rfl (yieldsIf_load_mid (by rfl) 62 _ rfl _ _ rfl x.cells _ (fun w' h => range_below HR1.out h hg1) Tryz.underlying62 rfl (by rw [ObjD.len hxo]; kernel_rfl)) ?_
     try simp only [Act.put, Array.toArray_toList, List.toArray_toList, pz0, pz1, pz2, pz3, pz4, pz5]
     refine tk 4 ?_
     refine tk 5 ?_
     refine tk 6 ?_
     refine ty 7 rfl (yieldsIf_load_mid (by rfl) 62 _ rfl _ _ rfl y.cells _ (fun w' h => range_below HR2.out h hg2) Tryz.underlying62 rfl (by rw [ObjD.len hyo]; kernel_rfl)) ?_
     try simp only [Act.put, Array.toArray_toList, List.toArray_toList, pz0, pz1, pz2, pz3, pz4, pz5]
     refine ty 8 rfl (yieldsIf_neq_agg (by rfl) 62 _ _ _ rfl x.cells.toArray y.cells.toArray rfl rfl (by kernel_rfl) false (fun w' _ => (obj_equalIn 9996 x y hxo hyo w').trans (by rw [hxy]))) ?_
     refine wpAnyH_done (by kernel_rfl) ?_ _
     go_wp2_with fail
     go_ret
     exact ⟨by rw [HN.out]; rfl, by assumption⟩
    ·have HS : Hid (l.take (j + 1) = m.take (j + 1)) := Lib.hid (by rw [List.take_add_one, List.take_add_one, HT.out, HX.out, HY.out, (objEq_iff x y).1 hxy])
     go_upto_region 6 with fail
     have k1 := hB.drew
     refine wp_region_held_drew (S := (fun w' => Below w.heap.size w w')) (by kernel_rfl) (by (try dsimp only); assumption) (fun hHeld => ?_)
     refine tk 0 ?_
     refine tk 1 ?_
     refine tk 2 ?_
     refine ty 3 rfl (yieldsIf_load_mid (by rfl) 62 _ rfl _ _ rfl x.cells _ (fun w' h => range_below HR1.out h hg1) Tryz.underlying62 rfl (by rw [ObjD.len hxo]; kernel_rfl)) ?_
     try simp only [Act.put, Array.toArray_toList, List.toArray_toList, pz0, pz1, pz2, pz3, pz4, pz5]
     refine tk 4 ?_
     refine tk 5 ?_
     refine tk 6 ?_
     refine ty 7 rfl (yieldsIf_load_mid (by rfl) 62 _ rfl _ _ rfl y.cells _ (fun w' h => range_below HR2.out h hg2) Tryz.underlying62 rfl (by rw [ObjD.len hyo]; kernel_rfl)) ?_
     try simp only [Act.put, Array.toArray_toList, List.toArray_toList, pz0, pz1, pz2, pz3, pz4, pz5]
     refine ty 8 rfl (yieldsIf_neq_agg (by rfl) 62 _ _ _ rfl x.cells.toArray y.cells.toArray rfl rfl (by kernel_rfl) true (fun w' _ => (obj_equalIn 9996 x y hxo hyo w').trans (by rw [hxy]))) ?_
     refine wpAnyH_done (by kernel_rfl) ?_ _
     go_wp2_with fail
     exact ⟨⟨j + 1, by omega, by go_num, HS, by assumption⟩, by simp [intOf] <;> omega⟩
   ·obtain rfl : j = l.length := by omega
    have hq : q = true := by
     rw [HQ.out]
     have := HT.out
     rw [List.take_of_length_le (by omega), List.take_of_length_le (by rw [HL.out]; omega)] at this
     exact (objsEq_iff l m).2 this
    have HN := Lib.hid hq
    clear hq
    go_wp2_with fail
    go_ret
    exact ⟨by rw [HN.out]; rfl, hB⟩
 ·have ne : ((l.length : Int) != (m.length : Int)) = true := by simpa using (fun e => hlen (by omega))
  have hq : q = false := by
   rw [HQ.out]
   exact objs_len hlen
  have HN := Lib.hid hq
  clear hq hlen
  go_enter Tryz.func44, Tryz.ntmps44
  go_wp2_with fail
  go_ret
  exact ⟨by rw [HN.out]; rfl, Below.refl _ _⟩
end Go.Proofs.YtdpniceapmikpaaGreat
