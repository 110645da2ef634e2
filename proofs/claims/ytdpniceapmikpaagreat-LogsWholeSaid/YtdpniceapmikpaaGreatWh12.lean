/-
  The contracts of codec.fields and writer.key. (Written by gen_lwkey.py.)
-/
import Derived.Test.YtdpniceapmikpaaGreatWh1
import Derived.Test.YtdpniceapmikpaaGreatWh11
set_option linter.unusedVariables false
set_option linter.unusedSimpArgs false
namespace Go.Proofs.YtdpniceapmikpaaGreat
open Go.RowKit

/-- an int64 as an uint64 -/
def u64 (n : Int) : Nat := (n % 18446744073709551616).toNat
theorem u64_int (n : Int) : ((u64 n : Nat) : Int) = n % 18446744073709551616 := by unfold u64; omega
theorem u64_lt (n : Int) : u64 n < 18446744073709551616 := by unfold u64; omega
def keyPre (x : KeyD) (j : Nat) : List UInt8 := (if 0 < j then leB (u64 x.k) 1 else []) ++ ((if 1 < j then leB (u64 x.r) 1 else []) ++ ((if 2 < j then leB (u64 x.o) 2 else []) ++ ((if 3 < j then leB (u64 x.c) 4 else []) ++ ((if 4 < j then leB (u64 x.a) 4 else []) ++ (if 5 < j then leB (u64 x.v) 8 else [])))))
def keyB (x : KeyD) : List UInt8 := keyPre x 6
theorem keyB_len (x : KeyD) : (keyB x).length = 20 := by simp [keyB, keyPre, leB_len]
def fieldsV : Array Value := #[.int .i64 1, .func (.func 153) #[] #[], .func (.func 154) #[] #[], .int .i64 1, .func (.func 155) #[] #[], .func (.func 156) #[] #[], .int .i64 2, .func (.func 157) #[] #[], .func (.func 158) #[] #[], .int .i64 4, .func (.func 159) #[] #[], .func (.func 160) #[] #[], .int .i64 4, .func (.func 161) #[] #[], .func (.func 162) #[] #[], .int .i64 8, .func (.func 163) #[] #[], .func (.func 164) #[] #[]]
set_option maxRecDepth 100000 in
theorem fields_any (w : World) : Calls Tryz.prog 140 #[] w fun e w' => e = .returned (.agg fieldsV) ∧ Below w.heap.size w w' := by
 have hi : (Tryz.prog.info? 252).map (·.size) = some fieldsV.size := by kernel_rfl
 have h1 : fieldsV.all (·.oneCell') = true := by kernel_rfl
 go_enter Tryz.func140, Tryz.ntmps140
 go_wp2_with (refine wpList_store_row rfl 252 _ _ rfl w.heap.size fieldsV rfl rfl 252 _ (heap_alloc_new w _) hi rfl h1 ?_; rw [World.setRow_alloc_new])
 exact bodyPost_ret (v := .agg fieldsV) (results_cell_row Tryz.results140 _ _ w.heap.size 252 fieldsV (0, 0) _ rfl (heap_alloc_last _ _) Tryz.underlying252 rfl (by kernel_rfl)) rfl ⟨rfl, (Below.refl _ w).alloc (Nat.le_refl _) _⟩
theorem index_0 (w : World) : (Instr.index 252 (.agg fieldsV) (.int .i64 0)).run Tryz.prog w = .ok (.agg #[.int .i64 1, .func (.func 153) #[] #[], .func (.func 154) #[] #[]]) w := by kernel_rfl
theorem index_1 (w : World) : (Instr.index 252 (.agg fieldsV) (.int .i64 1)).run Tryz.prog w = .ok (.agg #[.int .i64 1, .func (.func 155) #[] #[], .func (.func 156) #[] #[]]) w := by kernel_rfl
theorem index_2 (w : World) : (Instr.index 252 (.agg fieldsV) (.int .i64 2)).run Tryz.prog w = .ok (.agg #[.int .i64 2, .func (.func 157) #[] #[], .func (.func 158) #[] #[]]) w := by kernel_rfl
theorem index_3 (w : World) : (Instr.index 252 (.agg fieldsV) (.int .i64 3)).run Tryz.prog w = .ok (.agg #[.int .i64 4, .func (.func 159) #[] #[], .func (.func 160) #[] #[]]) w := by kernel_rfl
theorem index_4 (w : World) : (Instr.index 252 (.agg fieldsV) (.int .i64 4)).run Tryz.prog w = .ok (.agg #[.int .i64 4, .func (.func 161) #[] #[], .func (.func 162) #[] #[]]) w := by kernel_rfl
theorem index_5 (w : World) : (Instr.index 252 (.agg fieldsV) (.int .i64 5)).run Tryz.prog w = .ok (.agg #[.int .i64 8, .func (.func 163) #[] #[], .func (.func 164) #[] #[]]) w := by kernel_rfl
theorem is_k (x : KeyD) (g : Nat) (t : TypeId) (w : World) (h : Blk w g t x.cells.toArray) : Calls Tryz.prog 153 #[ptr g] w fun e w' => e = .returned (.int .u64 (u64 x.k)) ∧ w = w' := by
 have c : w.cell? ⟨g, 0, none⟩ = some (.int .i64 x.k) := h.cell_is 0 rfl
 have hw : IntKind.u64.wrap x.k = (u64 x.k : Int) := by rw [IntKind.wrap_u64, u64_int]
 unfold ptr
 clear h
 go_enter Tryz.func153, Tryz.ntmps153
 go_wp2_with fail
 go_ret
 exact ⟨rfl, rfl⟩
theorem is_r (x : KeyD) (g : Nat) (t : TypeId) (w : World) (h : Blk w g t x.cells.toArray) : Calls Tryz.prog 155 #[ptr g] w fun e w' => e = .returned (.int .u64 (u64 x.r)) ∧ w = w' := by
 have c : w.cell? ⟨g, 4, none⟩ = some (.int .i64 x.r) := h.cell_is 4 rfl
 have hw : IntKind.u64.wrap x.r = (u64 x.r : Int) := by rw [IntKind.wrap_u64, u64_int]
 unfold ptr
 clear h
 go_enter Tryz.func155, Tryz.ntmps155
 go_wp2_with fail
 go_ret
 exact ⟨rfl, rfl⟩
theorem is_o (x : KeyD) (g : Nat) (t : TypeId) (w : World) (h : Blk w g t x.cells.toArray) : Calls Tryz.prog 157 #[ptr g] w fun e w' => e = .returned (.int .u64 (u64 x.o)) ∧ w = w' := by
 have c : w.cell? ⟨g, 1, none⟩ = some (.int .i64 x.o) := h.cell_is 1 rfl
 have hw : IntKind.u64.wrap x.o = (u64 x.o : Int) := by rw [IntKind.wrap_u64, u64_int]
 unfold ptr
 clear h
 go_enter Tryz.func157, Tryz.ntmps157
 go_wp2_with fail
 go_ret
 exact ⟨rfl, rfl⟩
theorem is_c (x : KeyD) (g : Nat) (t : TypeId) (w : World) (h : Blk w g t x.cells.toArray) : Calls Tryz.prog 159 #[ptr g] w fun e w' => e = .returned (.int .u64 (u64 x.c)) ∧ w = w' := by
 have c : w.cell? ⟨g, 2, none⟩ = some (.int .i64 x.c) := h.cell_is 2 rfl
 have hw : IntKind.u64.wrap x.c = (u64 x.c : Int) := by rw [IntKind.wrap_u64, u64_int]
 unfold ptr
 clear h
 go_enter Tryz.func159, Tryz.ntmps159
 go_wp2_with fail
 go_ret
 exact ⟨rfl, rfl⟩
theorem is_a (x : KeyD) (g : Nat) (t : TypeId) (w : World) (h : Blk w g t x.cells.toArray) : Calls Tryz.prog 161 #[ptr g] w fun e w' => e = .returned (.int .u64 (u64 x.a)) ∧ w = w' := by
 have c : w.cell? ⟨g, 3, none⟩ = some (.int .i64 x.a) := h.cell_is 3 rfl
 have hw : IntKind.u64.wrap x.a = (u64 x.a : Int) := by rw [IntKind.wrap_u64, u64_int]
 unfold ptr
 clear h
 go_enter Tryz.func161, Tryz.ntmps161
 go_wp2_with fail
 go_ret
 exact ⟨rfl, rfl⟩
theorem is_v (x : KeyD) (g : Nat) (t : TypeId) (w : World) (h : Blk w g t x.cells.toArray) : Calls Tryz.prog 163 #[ptr g] w fun e w' => e = .returned (.int .u64 (u64 x.v)) ∧ w = w' := by
 have c : w.cell? ⟨g, 5, none⟩ = some (.int .i64 x.v) := h.cell_is 5 rfl
 have hw : IntKind.u64.wrap x.v = (u64 x.v : Int) := by rw [IntKind.wrap_u64, u64_int]
 unfold ptr
 clear h
 go_enter Tryz.func163, Tryz.ntmps163
 go_wp2_with fail
 go_ret
 exact ⟨rfl, rfl⟩
theorem info_field : (Tryz.prog.info? 251).map (·.size) = some 3 := by kernel_rfl
set_option maxRecDepth 100000 in
set_option maxHeartbeats 4000000 in
theorem wkey_any (g B : Nat) (x : KeyD) (t : TypeId) (v : Value) (l : List UInt8) (w : World) (hc : Blk w g t #[v]) (ht : t ≠ 5) (ht2 : t ≠ 251) (ho : w.ownsRow B 5 1 v l.length (l.map vu8)) (hl : l.length ≤ 50000) (hB : B ≤ w.heap.size) :
  Calls Tryz.prog 104 #[ptr g, .agg x.cells.toArray] w fun e w' => e = .returned (.tuple #[]) ∧ ∃ v', Blk w' g t #[v'] ∧ w'.ownsRow B 5 1 v' (l ++ keyB x).length ((l ++ keyB x).map vu8) ∧ RowStep g v v' w w' := by
 have HO := Lib.hid ho
 have HC := Lib.hid hc
 have hlt := hc.lt
 have hne : g ≠ w.heap.size := Nat.ne_of_lt hlt
 unfold ptr
 clear ho hc
 obtain ⟨X, eX⟩ : ∃ X, X = x.cells.toArray := ⟨_, rfl⟩
 rw [← eX]
 have HEX := Lib.hid eX
 clear eX
 go_enter Tryz.func104, Tryz.ntmps104
 go_wp2_with fail
 refine (fields_any _).mono ?_; rintro e w1 ⟨rfl, hb⟩
 have hb1 : Below w.heap.size w w1 := ((Below.refl _ w).alloc (Nat.le_refl _) _).trans (hb.mono (by simp))
 have hK : Blk w1 w.heap.size 58 X := (Blk.new w _ _).below hb (by simp)
 go_wp2_with fail
 go_loopw [7] (fun i wr => ∃ (j : Nat) (v' : Value), j ≤ 6 ∧ i = .int .i64 (j : Int) ∧ Blk wr g t #[v'] ∧ wr.ownsRow B 5 1 v' (l ++ keyPre x j).length ((l ++ keyPre x j).map vu8) ∧ RowStep g v v' w wr ∧ Blk wr w.heap.size 58 X) (fun i _ => 6 - (intOf i).toNat)
 case atStart => exact ⟨0, v, Nat.zero_le _, rfl, HC.out.below hb1 hlt, by simpa [keyPre] using ownsRow_out (F := fun _ => False) (outB hb1) HO.out (fun _ _ => id), (RowStep.refl _ _ _).last hb1, hK⟩
 case round =>
  obtain ⟨j, v1, hj, rfl, hC1, hO1, hS1, hK1⟩ := hrel
  by_cases hlt6 : j < 6
  ·have hcs : j = 0 ∨ j = 1 ∨ j = 2 ∨ j = 3 ∨ j = 4 ∨ j = 5 := by omega
   rcases hcs with rfl | rfl | rfl | rfl | rfl | rfl
   ·have hix := index_0
    have h1 : (#[.int .i64 1, .func (.func 153) #[] #[], .func (.func 154) #[] #[]] : Array Value).all (·.oneCell') = true := by kernel_rfl
    go_upto_region 4 with (refine wpList_store_row rfl 251 _ _ rfl wr.heap.size #[.int .i64 1, .func (.func 153) #[] #[], .func (.func 154) #[] #[]] rfl rfl 251 _ (heap_alloc_new wr _) info_field rfl h1 ?_; rw [World.setRow_alloc_new])
    have hltw := hC1.lt
    have HFW := Lib.hid (Blk.new wr 251 #[.int .i64 1, .func (.func 153) #[] #[], .func (.func 154) #[] #[]])
    have HCW := Lib.hid (hC1.alloc (.cells #[.int .i64 1, .func (.func 153) #[] #[], .func (.func 154) #[] #[]] 251))
    have HKW := Lib.hid (hK1.alloc (.cells #[.int .i64 1, .func (.func 153) #[] #[], .func (.func 154) #[] #[]] 251))
    have HOW := Lib.hid (ownsRow_out (F := fun _ => False) (outB ((Below.refl _ wr).alloc (Nat.le_refl _) (.cells #[.int .i64 1, .func (.func 153) #[] #[], .func (.func 154) #[] #[]] 251)).drew) hO1 (fun _ _ => id))
    have HBW := Lib.hid ((Below.refl _ wr).alloc (Nat.le_refl _) (.cells #[.int .i64 1, .func (.func 153) #[] #[], .func (.func 154) #[] #[]] 251)).drew
    have HSS := Lib.hid (And.intro (HFW.out.drew.cell_is 0 rfl) (HFW.out.drew.cell_is 1 rfl))
    have HLE := Lib.hid (show (l ++ keyPre x 0).length ≤ 100000 by simp [keyPre, leB_len]; omega)
    have HSZ := Lib.hid (show B ≤ (wr.alloc (.cells #[.int .i64 1, .func (.func 153) #[] #[], .func (.func 154) #[] #[]] 251)).drew.heap.size by have := hS1.out.size; have := HBW.out.size; omega)
    have HS1 := Lib.hid hS1
    have HPJ := Lib.hid (show l ++ keyPre x 1 = (l ++ keyPre x 0) ++ leB (u64 x.k) 1 by simp [keyPre])
    clear hC1 hO1 hS1 hK1 h1
    try simp only [Act.put, pz0, pz1, pz2, pz3, pz4, pz5]
    refine wp_region_held_drew (S := (fun w' => w'.cell? ⟨wr.heap.size, 0, none⟩ = some (.int .i64 1) ∧ w'.cell? ⟨wr.heap.size, 1, none⟩ = some (.func (.func 153) #[] #[]))) (by kernel_rfl) (by (try dsimp only); (first | exact HSS.out | exact ⟨hFF.cell_is 0 rfl, hFF.cell_is 1 rfl⟩)) (fun hHeld => ?_)
    refine tk 0 ?_
    refine tk 1 ?_
    refine tk 2 ?_
    refine tk 4 ?_
    refine tk 5 ?_
    refine rd 3 fun K hK => ?_
    go_simp
    (refine (is_k x w.heap.size _ _ (by rw [← HEX.out]; exact HKW.out.drew)).mono ?_; rintro e w' ⟨rfl, rfl⟩)
    go_wp2_with fail
    refine hK.out _ _ (by (try dsimp only); (first | exact HSS.out | exact ⟨hFF.cell_is 0 rfl, hFF.cell_is 1 rfl⟩)) (fun hHeld => ?_)
    clear hK K
    try simp only [Act.put, pz0, pz1, pz2, pz3, pz4, pz5]
    refine rd 6 fun K hK => ?_
    go_simp
    (refine (wnumber_any g B (u64 x.k) 1 t v1 (l ++ keyPre x 0) _ (by omega) (u64_lt _) HCW.out.drew ht HOW.out HLE.out HSZ.out).mono ?_; rintro e w2 ⟨rfl, v2, hC2, hO2, hS2⟩; have hFF := hS2.blk HCW.out.drew HOW.out HFW.out.drew (Nat.ne_of_gt hltw) (by decide))
    go_wp2_with fail
    refine hK.out _ _ (by (try dsimp only); (first | exact HSS.out | exact ⟨hFF.cell_is 0 rfl, hFF.cell_is 1 rfl⟩)) (fun hHeld => ?_)
    clear hK K
    try simp only [Act.put, pz0, pz1, pz2, pz3, pz4, pz5]
    refine wpAnyH_done (by kernel_rfl) ?_ _
    try simp only [Act.put, pz0, pz1, pz2, pz3, pz4, pz5]
    go_wp2_with fail
    go_roundw
    case rel => exact ⟨1, v2, by omega, rfl, hC2, by rw [HPJ.out]; exact hO2, HS1.out.trans (hS2.first HBW.out), hS2.blk HCW.out.drew HOW.out HKW.out.drew (by omega) (by decide)⟩
    case measure => simp [intOf]
   ·have hix := index_1
    have h1 : (#[.int .i64 1, .func (.func 155) #[] #[], .func (.func 156) #[] #[]] : Array Value).all (·.oneCell') = true := by kernel_rfl
    go_upto_region 4 with (refine wpList_store_row rfl 251 _ _ rfl wr.heap.size #[.int .i64 1, .func (.func 155) #[] #[], .func (.func 156) #[] #[]] rfl rfl 251 _ (heap_alloc_new wr _) info_field rfl h1 ?_; rw [World.setRow_alloc_new])
    have hltw := hC1.lt
    have HFW := Lib.hid (Blk.new wr 251 #[.int .i64 1, .func (.func 155) #[] #[], .func (.func 156) #[] #[]])
    have HCW := Lib.hid (hC1.alloc (.cells #[.int .i64 1, .func (.func 155) #[] #[], .func (.func 156) #[] #[]] 251))
    have HKW := Lib.hid (hK1.alloc (.cells #[.int .i64 1, .func (.func 155) #[] #[], .func (.func 156) #[] #[]] 251))
    have HOW := Lib.hid (ownsRow_out (F := fun _ => False) (outB ((Below.refl _ wr).alloc (Nat.le_refl _) (.cells #[.int .i64 1, .func (.func 155) #[] #[], .func (.func 156) #[] #[]] 251)).drew) hO1 (fun _ _ => id))
    have HBW := Lib.hid ((Below.refl _ wr).alloc (Nat.le_refl _) (.cells #[.int .i64 1, .func (.func 155) #[] #[], .func (.func 156) #[] #[]] 251)).drew
    have HSS := Lib.hid (And.intro (HFW.out.drew.cell_is 0 rfl) (HFW.out.drew.cell_is 1 rfl))
    have HLE := Lib.hid (show (l ++ keyPre x 1).length ≤ 100000 by simp [keyPre, leB_len]; omega)
    have HSZ := Lib.hid (show B ≤ (wr.alloc (.cells #[.int .i64 1, .func (.func 155) #[] #[], .func (.func 156) #[] #[]] 251)).drew.heap.size by have := hS1.out.size; have := HBW.out.size; omega)
    have HS1 := Lib.hid hS1
    have HPJ := Lib.hid (show l ++ keyPre x 2 = (l ++ keyPre x 1) ++ leB (u64 x.r) 1 by simp [keyPre])
    clear hC1 hO1 hS1 hK1 h1
    try simp only [Act.put, pz0, pz1, pz2, pz3, pz4, pz5]
    refine wp_region_held_drew (S := (fun w' => w'.cell? ⟨wr.heap.size, 0, none⟩ = some (.int .i64 1) ∧ w'.cell? ⟨wr.heap.size, 1, none⟩ = some (.func (.func 155) #[] #[]))) (by kernel_rfl) (by (try dsimp only); (first | exact HSS.out | exact ⟨hFF.cell_is 0 rfl, hFF.cell_is 1 rfl⟩)) (fun hHeld => ?_)
    refine tk 0 ?_
    refine tk 1 ?_
    refine tk 2 ?_
    refine tk 4 ?_
    refine tk 5 ?_
    refine rd 3 fun K hK => ?_
    go_simp
    (refine (is_r x w.heap.size _ _ (by rw [← HEX.out]; exact HKW.out.drew)).mono ?_; rintro e w' ⟨rfl, rfl⟩)
    go_wp2_with fail
    refine hK.out _ _ (by (try dsimp only); (first | exact HSS.out | exact ⟨hFF.cell_is 0 rfl, hFF.cell_is 1 rfl⟩)) (fun hHeld => ?_)
    clear hK K
    try simp only [Act.put, pz0, pz1, pz2, pz3, pz4, pz5]
    refine rd 6 fun K hK => ?_
    go_simp
    (refine (wnumber_any g B (u64 x.r) 1 t v1 (l ++ keyPre x 1) _ (by omega) (u64_lt _) HCW.out.drew ht HOW.out HLE.out HSZ.out).mono ?_; rintro e w2 ⟨rfl, v2, hC2, hO2, hS2⟩; have hFF := hS2.blk HCW.out.drew HOW.out HFW.out.drew (Nat.ne_of_gt hltw) (by decide))
    go_wp2_with fail
    refine hK.out _ _ (by (try dsimp only); (first | exact HSS.out | exact ⟨hFF.cell_is 0 rfl, hFF.cell_is 1 rfl⟩)) (fun hHeld => ?_)
    clear hK K
    try simp only [Act.put, pz0, pz1, pz2, pz3, pz4, pz5]
    refine wpAnyH_done (by kernel_rfl) ?_ _
    try simp only [Act.put, pz0, pz1, pz2, pz3, pz4, pz5]
    go_wp2_with fail
    go_roundw
    case rel => exact ⟨2, v2, by omega, rfl, hC2, by rw [HPJ.out]; exact hO2, HS1.out.trans (hS2.first HBW.out), hS2.blk HCW.out.drew HOW.out HKW.out.drew (by omega) (by decide)⟩
    case measure => simp [intOf]
   ·have hix := index_2
    have h1 : (#[.int .i64 2, .func (.func 157) #[] #[], .func (.func 158) #[] #[]] : Array Value).all (·.oneCell') = true := by kernel_rfl
    go_upto_region 4 with (refine wpList_store_row rfl 251 _ _ rfl wr.heap.size #[.int .i64 2, .func (.func 157) #[] #[], .func (.func 158) #[] #[]] rfl rfl 251 _ (heap_alloc_new wr _) info_field rfl h1 ?_; rw [World.setRow_alloc_new])
    have hltw := hC1.lt
    have HFW := Lib.hid (Blk.new wr 251 #[.int .i64 2, .func (.func 157) #[] #[], .func (.func 158) #[] #[]])
    have HCW := Lib.hid (hC1.alloc (.cells #[.int .i64 2, .func (.func 157) #[] #[], .func (.func 158) #[] #[]] 251))
    have HKW := Lib.hid (hK1.alloc (.cells #[.int .i64 2, .func (.func 157) #[] #[], .func (.func 158) #[] #[]] 251))
    have HOW := Lib.hid (ownsRow_out (F := fun _ => False) (outB ((Below.refl _ wr).alloc (Nat.le_refl _) (.cells #[.int .i64 2, .func (.func 157) #[] #[], .func (.func 158) #[] #[]] 251)).drew) hO1 (fun _ _ => id))
    have HBW := Lib.hid ((Below.refl _ wr).alloc (Nat.le_refl _) (.cells #[.int .i64 2, .func (.func 157) #[] #[], .func (.func 158) #[] #[]] 251)).drew
    have HSS := Lib.hid (And.intro (HFW.out.drew.cell_is 0 rfl) (HFW.out.drew.cell_is 1 rfl))
    have HLE := Lib.hid (show (l ++ keyPre x 2).length ≤ 100000 by simp [keyPre, leB_len]; omega)
    have HSZ := Lib.hid (show B ≤ (wr.alloc (.cells #[.int .i64 2, .func (.func 157) #[] #[], .func (.func 158) #[] #[]] 251)).drew.heap.size by have := hS1.out.size; have := HBW.out.size; omega)
    have HS1 := Lib.hid hS1
    have HPJ := Lib.hid (show l ++ keyPre x 3 = (l ++ keyPre x 2) ++ leB (u64 x.o) 2 by simp [keyPre])
    clear hC1 hO1 hS1 hK1 h1
    try simp only [Act.put, pz0, pz1, pz2, pz3, pz4, pz5]
    refine wp_region_held_drew (S := (fun w' => w'.cell? ⟨wr.heap.size, 0, none⟩ = some (.int .i64 2) ∧ w'.cell? ⟨wr.heap.size, 1, none⟩ = some (.func (.func 157) #[] #[]))) (by kernel_rfl) (by (try dsimp only); (first | exact HSS.out | exact ⟨hFF.cell_is 0 rfl, hFF.cell_is 1 rfl⟩)) (fun hHeld => ?_)
    refine tk 0 ?_
    refine tk 1 ?_
    refine tk 2 ?_
    refine tk 4 ?_
    refine tk 5 ?_
    refine rd 3 fun K hK => ?_
    go_simp
    (refine (is_o x w.heap.size _ _ (by rw [← HEX.out]; exact HKW.out.drew)).mono ?_; rintro e w' ⟨rfl, rfl⟩)
    go_wp2_with fail
    refine hK.out _ _ (by (try dsimp only); (first | exact HSS.out | exact ⟨hFF.cell_is 0 rfl, hFF.cell_is 1 rfl⟩)) (fun hHeld => ?_)
    clear hK K
    try simp only [Act.put, pz0, pz1, pz2, pz3, pz4, pz5]
    refine rd 6 fun K hK => ?_
    go_simp
    (refine (wnumber_any g B (u64 x.o) 2 t v1 (l ++ keyPre x 2) _ (by omega) (u64_lt _) HCW.out.drew ht HOW.out HLE.out HSZ.out).mono ?_; rintro e w2 ⟨rfl, v2, hC2, hO2, hS2⟩; have hFF := hS2.blk HCW.out.drew HOW.out HFW.out.drew (Nat.ne_of_gt hltw) (by decide))
    go_wp2_with fail
    refine hK.out _ _ (by (try dsimp only); (first | exact HSS.out | exact ⟨hFF.cell_is 0 rfl, hFF.cell_is 1 rfl⟩)) (fun hHeld => ?_)
    clear hK K
    try simp only [Act.put, pz0, pz1, pz2, pz3, pz4, pz5]
    refine wpAnyH_done (by kernel_rfl) ?_ _
    try simp only [Act.put, pz0, pz1, pz2, pz3, pz4, pz5]
    go_wp2_with fail
    go_roundw
    case rel => exact ⟨3, v2, by omega, rfl, hC2, by rw [HPJ.out]; exact hO2, HS1.out.trans (hS2.first HBW.out), hS2.blk HCW.out.drew HOW.out HKW.out.drew (by omega) (by decide)⟩
    case measure => simp [intOf]
   ·have hix := index_3
    have h1 : (#[.int .i64 4, .func (.func 159) #[] #[], .func (.func 160) #[] #[]] : Array Value).all (·.oneCell') = true := by kernel_rfl
    go_upto_region 4 with (refine wpList_store_row rfl 251 _ _ rfl wr.heap.size #[.int .i64 4, .func (.func 159) #[] #[], .func (.func 160) #[] #[]] rfl rfl 251 _ (heap_alloc_new wr _) info_field rfl h1 ?_; rw [World.setRow_alloc_new])
    have hltw := hC1.lt
    have HFW := Lib.hid (Blk.new wr 251 #[.int .i64 4, .func (.func 159) #[] #[], .func (.func 160) #[] #[]])
    have HCW := Lib.hid (hC1.alloc (.cells #[.int .i64 4, .func (.func 159) #[] #[], .func (.func 160) #[] #[]] 251))
    have HKW := Lib.hid (hK1.alloc (.cells #[.int .i64 4, .func (.func 159) #[] #[], .func (.func 160) #[] #[]] 251))
    have HOW := Lib.hid (ownsRow_out (F := fun _ => False) (outB ((Below.refl _ wr).alloc (Nat.le_refl _) (.cells #[.int .i64 4, .func (.func 159) #[] #[], .func (.func 160) #[] #[]] 251)).drew) hO1 (fun _ _ => id))
    have HBW := Lib.hid ((Below.refl _ wr).alloc (Nat.le_refl _) (.cells #[.int .i64 4, .func (.func 159) #[] #[], .func (.func 160) #[] #[]] 251)).drew
    have HSS := Lib.hid (And.intro (HFW.out.drew.cell_is 0 rfl) (HFW.out.drew.cell_is 1 rfl))
    have HLE := Lib.hid (show (l ++ keyPre x 3).length ≤ 100000 by simp [keyPre, leB_len]; omega)
    have HSZ := Lib.hid (show B ≤ (wr.alloc (.cells #[.int .i64 4, .func (.func 159) #[] #[], .func (.func 160) #[] #[]] 251)).drew.heap.size by have := hS1.out.size; have := HBW.out.size; omega)
    have HS1 := Lib.hid hS1
    have HPJ := Lib.hid (show l ++ keyPre x 4 = (l ++ keyPre x 3) ++ leB (u64 x.c) 4 by simp [keyPre])
    clear hC1 hO1 hS1 hK1 h1
    try simp only [Act.put, pz0, pz1, pz2, pz3, pz4, pz5]
    refine wp_region_held_drew (S := (fun w' => w'.cell? ⟨wr.heap.size, 0, none⟩ = some (.int .i64 4) ∧ w'.cell? ⟨wr.heap.size, 1, none⟩ = some (.func (.func 159) #[] #[]))) (by kernel_rfl) (by (try dsimp only); (first | exact HSS.out | exact ⟨hFF.cell_is 0 rfl, hFF.cell_is 1 rfl⟩)) (fun hHeld => ?_)
    refine tk 0 ?_
    refine tk 1 ?_
    refine tk 2 ?_
    refine tk 4 ?_
    refine tk 5 ?_
    refine rd 3 fun K hK => ?_
    go_simp
    (refine (is_c x w.heap.size _ _ (by rw [← HEX.out]; exact HKW.out.drew)).mono ?_; rintro e w' ⟨rfl, rfl⟩)
    go_wp2_with fail
    refine hK.out _ _ (by (try dsimp only); (first | exact HSS.out | exact ⟨hFF.cell_is 0 rfl, hFF.cell_is 1 rfl⟩)) (fun hHeld => ?_)
    clear hK K
    try simp only [Act.put, pz0, pz1, pz2, pz3, pz4, pz5]
    refine rd 6 fun K hK => ?_
    go_simp
    (refine (wnumber_any g B (u64 x.c) 4 t v1 (l ++ keyPre x 3) _ (by omega) (u64_lt _) HCW.out.drew ht HOW.out HLE.out HSZ.out).mono ?_; rintro e w2 ⟨rfl, v2, hC2, hO2, hS2⟩; have hFF := hS2.blk HCW.out.drew HOW.out HFW.out.drew (Nat.ne_of_gt hltw) (by decide))
    go_wp2_with fail
    refine hK.out _ _ (by (try dsimp only); (first | exact HSS.out | exact ⟨hFF.cell_is 0 rfl, hFF.cell_is 1 rfl⟩)) (fun hHeld => ?_)
    clear hK K
    try simp only [Act.put, pz0, pz1, pz2, pz3, pz4, pz5]
    refine wpAnyH_done (by kernel_rfl) ?_ _
    try simp only [Act.put, pz0, pz1, pz2, pz3, pz4, pz5]
    go_wp2_with fail
    go_roundw
    case rel => exact ⟨4, v2, by omega, rfl, hC2, by rw [HPJ.out]; exact hO2, HS1.out.trans (hS2.first HBW.out), hS2.blk HCW.out.drew HOW.out HKW.out.drew (by omega) (by decide)⟩
    case measure => simp [intOf]
   ·have hix := index_4
    have h1 : (#[.int .i64 4, .func (.func 161) #[] #[], .func (.func 162) #[] #[]] : Array Value).all (·.oneCell') = true := by kernel_rfl
    go_upto_region 4 with (refine wpList_store_row rfl 251 _ _ rfl wr.heap.size #[.int .i64 4, .func (.func 161) #[] #[], .func (.func 162) #[] #[]] rfl rfl 251 _ (heap_alloc_new wr _) info_field rfl h1 ?_; rw [World.setRow_alloc_new])
    have hltw := hC1.lt
    have HFW := Lib.hid (Blk.new wr 251 #[.int .i64 4, .func (.func 161) #[] #[], .func (.func 162) #[] #[]])
    have HCW := Lib.hid (hC1.alloc (.cells #[.int .i64 4, .func (.func 161) #[] #[], .func (.func 162) #[] #[]] 251))
    have HKW := Lib.hid (hK1.alloc (.cells #[.int .i64 4, .func (.func 161) #[] #[], .func (.func 162) #[] #[]] 251))
    have HOW := Lib.hid (ownsRow_out (F := fun _ => False) (outB ((Below.refl _ wr).alloc (Nat.le_refl _) (.cells #[.int .i64 4, .func (.func 161) #[] #[], .func (.func 162) #[] #[]] 251)).drew) hO1 (fun _ _ => id))
    have HBW := Lib.hid ((Below.refl _ wr).alloc (Nat.le_refl _) (.cells #[.int .i64 4, .func (.func 161) #[] #[], .func (.func 162) #[] #[]] 251)).drew
    have HSS := Lib.hid (And.intro (HFW.out.drew.cell_is 0 rfl) (HFW.out.drew.cell_is 1 rfl))
    have HLE := Lib.hid (show (l ++ keyPre x 4).length ≤ 100000 by simp [keyPre, leB_len]; omega)
    have HSZ := Lib.hid (show B ≤ (wr.alloc (.cells #[.int .i64 4, .func (.func 161) #[] #[], .func (.func 162) #[] #[]] 251)).drew.heap.size by have := hS1.out.size; have := HBW.out.size; omega)
    have HS1 := Lib.hid hS1
    have HPJ := Lib.hid (show l ++ keyPre x 5 = (l ++ keyPre x 4) ++ leB (u64 x.a) 4 by simp [keyPre])
    clear hC1 hO1 hS1 hK1 h1
    try simp only [Act.put, pz0, pz1, pz2, pz3, pz4, pz5]
    refine wp_region_held_drew (S := (fun w' => w'.cell? ⟨wr.heap.size, 0, none⟩ = some (.int .i64 4) ∧ w'.cell? ⟨wr.heap.size, 1, none⟩ = some (.func (.func 161) #[] #[]))) (by kernel_rfl) (by (try dsimp only); (first | exact HSS.out | exact ⟨hFF.cell_is 0 rfl, hFF.cell_is 1 rfl⟩)) (fun hHeld => ?_)
    refine tk 0 ?_
    refine tk 1 ?_
    refine tk 2 ?_
    refine tk 4 ?_
    refine tk 5 ?_
    refine rd 3 fun K hK => ?_
    go_simp
    (refine (is_a x w.heap.size _ _ (by rw [← HEX.out]; exact HKW.out.drew)).mono ?_; rintro e w' ⟨rfl, rfl⟩)
    go_wp2_with fail
    refine hK.out _ _ (by (try dsimp only); (first | exact HSS.out | exact ⟨hFF.cell_is 0 rfl, hFF.cell_is 1 rfl⟩)) (fun hHeld => ?_)
    clear hK K
    try simp only [Act.put, pz0, pz1, pz2, pz3, pz4, pz5]
    refine rd 6 fun K hK => ?_
    go_simp
    (refine (wnumber_any g B (u64 x.a) 4 t v1 (l ++ keyPre x 4) _ (by omega) (u64_lt _) HCW.out.drew ht HOW.out HLE.out HSZ.out).mono ?_; rintro e w2 ⟨rfl, v2, hC2, hO2, hS2⟩; have hFF := hS2.blk HCW.out.drew HOW.out HFW.out.drew (Nat.ne_of_gt hltw) (by decide))
    go_wp2_with fail
    refine hK.out _ _ (by (try dsimp only); (first | exact HSS.out | exact ⟨hFF.cell_is 0 rfl, hFF.cell_is 1 rfl⟩)) (fun hHeld => ?_)
    clear hK K
    try simp only [Act.put, pz0, pz1, pz2, pz3, pz4, pz5]
    refine wpAnyH_done (by kernel_rfl) ?_ _
    try simp only [Act.put, pz0, pz1, pz2, pz3, pz4, pz5]
    go_wp2_with fail
    go_roundw
    case rel => exact ⟨5, v2, by omega, rfl, hC2, by rw [HPJ.out]; exact hO2, HS1.out.trans (hS2.first HBW.out), hS2.blk HCW.out.drew HOW.out HKW.out.drew (by omega) (by decide)⟩
    case measure => simp [intOf]
   ·have hix := index_5
    have h1 : (#[.int .i64 8, .func (.func 163) #[] #[], .func (.func 164) #[] #[]] : Array Value).all (·.oneCell') = true := by kernel_rfl
    go_upto_region 4 with (refine wpList_store_row rfl 251 _ _ rfl wr.heap.size #[.int .i64 8, .func (.func 163) #[] #[], .func (.func 164) #[] #[]] rfl rfl 251 _ (heap_alloc_new wr _) info_field rfl h1 ?_; rw [World.setRow_alloc_new])
    have hltw := hC1.lt
    have HFW := Lib.hid (Blk.new wr 251 #[.int .i64 8, .func (.func 163) #[] #[], .func (.func 164) #[] #[]])
    have HCW := Lib.hid (hC1.alloc (.cells #[.int .i64 8, .func (.func 163) #[] #[], .func (.func 164) #[] #[]] 251))
    have HKW := Lib.hid (hK1.alloc (.cells #[.int .i64 8, .func (.func 163) #[] #[], .func (.func 164) #[] #[]] 251))
    have HOW := Lib.hid (ownsRow_out (F := fun _ => False) (outB ((Below.refl _ wr).alloc (Nat.le_refl _) (.cells #[.int .i64 8, .func (.func 163) #[] #[], .func (.func 164) #[] #[]] 251)).drew) hO1 (fun _ _ => id))
    have HBW := Lib.hid ((Below.refl _ wr).alloc (Nat.le_refl _) (.cells #[.int .i64 8, .func (.func 163) #[] #[], .func (.func 164) #[] #[]] 251)).drew
    have HSS := Lib.hid (And.intro (HFW.out.drew.cell_is 0 rfl) (HFW.out.drew.cell_is 1 rfl))
    have HLE := Lib.hid (show (l ++ keyPre x 5).length ≤ 100000 by simp [keyPre, leB_len]; omega)
    have HSZ := Lib.hid (show B ≤ (wr.alloc (.cells #[.int .i64 8, .func (.func 163) #[] #[], .func (.func 164) #[] #[]] 251)).drew.heap.size by have := hS1.out.size; have := HBW.out.size; omega)
    have HS1 := Lib.hid hS1
    have HPJ := Lib.hid (show l ++ keyPre x 6 = (l ++ keyPre x 5) ++ leB (u64 x.v) 8 by simp [keyPre])
    clear hC1 hO1 hS1 hK1 h1
    try simp only [Act.put, pz0, pz1, pz2, pz3, pz4, pz5]
    refine wp_region_held_drew (S := (fun w' => w'.cell? ⟨wr.heap.size, 0, none⟩ = some (.int .i64 8) ∧ w'.cell? ⟨wr.heap.size, 1, none⟩ = some (.func (.func 163) #[] #[]))) (by kernel_rfl) (by (try dsimp only); (first | exact HSS.out | exact ⟨hFF.cell_is 0 rfl, hFF.cell_is 1 rfl⟩)) (fun hHeld => ?_)
    refine tk 0 ?_
    refine tk 1 ?_
    refine tk 2 ?_
    refine tk 4 ?_
    refine tk 5 ?_
    refine rd 3 fun K hK => ?_
    go_simp
    (refine (is_v x w.heap.size _ _ (by rw [← HEX.out]; exact HKW.out.drew)).mono ?_; rintro e w' ⟨rfl, rfl⟩)
    go_wp2_with fail
    refine hK.out _ _ (by (try dsimp only); (first | exact HSS.out | exact ⟨hFF.cell_is 0 rfl, hFF.cell_is 1 rfl⟩)) (fun hHeld => ?_)
    clear hK K
    try simp only [Act.put, pz0, pz1, pz2, pz3, pz4, pz5]
    refine rd 6 fun K hK => ?_
    go_simp
    (refine (wnumber_any g B (u64 x.v) 8 t v1 (l ++ keyPre x 5) _ (by omega) (u64_lt _) HCW.out.drew ht HOW.out HLE.out HSZ.out).mono ?_; rintro e w2 ⟨rfl, v2, hC2, hO2, hS2⟩; have hFF := hS2.blk HCW.out.drew HOW.out HFW.out.drew (Nat.ne_of_gt hltw) (by decide))
    go_wp2_with fail
    refine hK.out _ _ (by (try dsimp only); (first | exact HSS.out | exact ⟨hFF.cell_is 0 rfl, hFF.cell_is 1 rfl⟩)) (fun hHeld => ?_)
    clear hK K
    try simp only [Act.put, pz0, pz1, pz2, pz3, pz4, pz5]
    refine wpAnyH_done (by kernel_rfl) ?_ _
    try simp only [Act.put, pz0, pz1, pz2, pz3, pz4, pz5]
    go_wp2_with fail
    go_roundw
    case rel => exact ⟨6, v2, by omega, rfl, hC2, by rw [HPJ.out]; exact hO2, HS1.out.trans (hS2.first HBW.out), hS2.blk HCW.out.drew HOW.out HKW.out.drew (by omega) (by decide)⟩
    case measure => simp [intOf]
  ·obtain rfl : j = 6 := by omega
   go_wp2_with fail
   exact bodyPost_end (v := .tuple #[]) (by simp [results, Tryz.results104, go_sem]) rfl ⟨rfl, v1, hC1, hO1, hS1⟩
end Go.Proofs.YtdpniceapmikpaaGreat
