/-
  The contract of codec's reader.key. (Written by gen_lrkey.py.)
-/
import Derived.Test.YtdpniceapmikpaaGreatWh1
import Derived.Test.YtdpniceapmikpaaGreatWh2
import Derived.Test.YtdpniceapmikpaaGreatWh12
import Derived.Test.YtdpniceapmikpaaGreatWh15
set_option linter.unusedVariables false
set_option linter.unusedSimpArgs false
namespace Go.Proofs.YtdpniceapmikpaaGreat
open Go.RowKit

/-- the key of 20 bytes -/
def keyOf (l : List UInt8) : KeyD := ⟨leN ((l.drop 0).take 1), leN ((l.drop 2).take 2), leN ((l.drop 4).take 4), leN ((l.drop 8).take 4), leN ((l.drop 1).take 1), IntKind.i64.wrap (leN ((l.drop 12).take 8))⟩
def keyTo (x : KeyD) (j : Nat) : Array Value := #[.int .i64 (if 0 < j then x.k else 0), .int .i64 (if 2 < j then x.o else 0), .int .i64 (if 3 < j then x.c else 0), .int .i64 (if 4 < j then x.a else 0), .int .i64 (if 1 < j then x.r else 0), .int .i64 (if 5 < j then x.v else 0)]
theorem leN_take_lt (l : List UInt8) (k : Nat) : leN (l.take k) < 256 ^ k := Nat.lt_of_lt_of_le (leN_lt _) (Nat.pow_le_pow_right (by omega) (by rw [List.length_take]; omega))
theorem wrap_leN (n k : Nat) (h : n < 256 ^ k) (hk : k ≤ 4) : IntKind.i64.wrap (n : Int) = (n : Int) := by
 have h2 : 256 ^ k ≤ 256 ^ 4 := Nat.pow_le_pow_right (by omega) hk
 have h3 : (256 : Nat) ^ 4 = 4294967296 := by decide
 rw [IntKind.wrap_i64]
 omega
theorem set_k (g : Nat) (t : TypeId) (X : Array Value) (u : Value) (n : Nat) (y : Int) (hy : IntKind.i64.wrap (n : Int) = y) (w : World) (h : Blk w g t X) (hu : X[0]? = some u) : Calls Tryz.prog 154 #[ptr g, .int .u64 (n : Int)] w fun e w' => e = .returned (.tuple #[]) ∧ w' = w.setCell ⟨g, 0, none⟩ (.int .i64 y) := by
 have c : w.cell? ⟨g, 0, none⟩ = some u := h.cell_is 0 hu
 have f := h.frozen 0
 unfold ptr
 clear h hu
 go_enter Tryz.func154, Tryz.ntmps154
 go_wp2_with fail
 exact bodyPost_end (v := .tuple #[]) (by simp [results, Tryz.results154, go_sem]) rfl ⟨rfl, rfl⟩
theorem set_r (g : Nat) (t : TypeId) (X : Array Value) (u : Value) (n : Nat) (y : Int) (hy : IntKind.i64.wrap (n : Int) = y) (w : World) (h : Blk w g t X) (hu : X[4]? = some u) : Calls Tryz.prog 156 #[ptr g, .int .u64 (n : Int)] w fun e w' => e = .returned (.tuple #[]) ∧ w' = w.setCell ⟨g, 4, none⟩ (.int .i64 y) := by
 have c : w.cell? ⟨g, 4, none⟩ = some u := h.cell_is 4 hu
 have f := h.frozen 4
 unfold ptr
 clear h hu
 go_enter Tryz.func156, Tryz.ntmps156
 go_wp2_with fail
 exact bodyPost_end (v := .tuple #[]) (by simp [results, Tryz.results156, go_sem]) rfl ⟨rfl, rfl⟩
theorem set_o (g : Nat) (t : TypeId) (X : Array Value) (u : Value) (n : Nat) (y : Int) (hy : IntKind.i64.wrap (n : Int) = y) (w : World) (h : Blk w g t X) (hu : X[1]? = some u) : Calls Tryz.prog 158 #[ptr g, .int .u64 (n : Int)] w fun e w' => e = .returned (.tuple #[]) ∧ w' = w.setCell ⟨g, 1, none⟩ (.int .i64 y) := by
 have c : w.cell? ⟨g, 1, none⟩ = some u := h.cell_is 1 hu
 have f := h.frozen 1
 unfold ptr
 clear h hu
 go_enter Tryz.func158, Tryz.ntmps158
 go_wp2_with fail
 exact bodyPost_end (v := .tuple #[]) (by simp [results, Tryz.results158, go_sem]) rfl ⟨rfl, rfl⟩
theorem set_c (g : Nat) (t : TypeId) (X : Array Value) (u : Value) (n : Nat) (y : Int) (hy : IntKind.i64.wrap (n : Int) = y) (w : World) (h : Blk w g t X) (hu : X[2]? = some u) : Calls Tryz.prog 160 #[ptr g, .int .u64 (n : Int)] w fun e w' => e = .returned (.tuple #[]) ∧ w' = w.setCell ⟨g, 2, none⟩ (.int .i64 y) := by
 have c : w.cell? ⟨g, 2, none⟩ = some u := h.cell_is 2 hu
 have f := h.frozen 2
 unfold ptr
 clear h hu
 go_enter Tryz.func160, Tryz.ntmps160
 go_wp2_with fail
 exact bodyPost_end (v := .tuple #[]) (by simp [results, Tryz.results160, go_sem]) rfl ⟨rfl, rfl⟩
theorem set_a (g : Nat) (t : TypeId) (X : Array Value) (u : Value) (n : Nat) (y : Int) (hy : IntKind.i64.wrap (n : Int) = y) (w : World) (h : Blk w g t X) (hu : X[3]? = some u) : Calls Tryz.prog 162 #[ptr g, .int .u64 (n : Int)] w fun e w' => e = .returned (.tuple #[]) ∧ w' = w.setCell ⟨g, 3, none⟩ (.int .i64 y) := by
 have c : w.cell? ⟨g, 3, none⟩ = some u := h.cell_is 3 hu
 have f := h.frozen 3
 unfold ptr
 clear h hu
 go_enter Tryz.func162, Tryz.ntmps162
 go_wp2_with fail
 exact bodyPost_end (v := .tuple #[]) (by simp [results, Tryz.results162, go_sem]) rfl ⟨rfl, rfl⟩
theorem set_v (g : Nat) (t : TypeId) (X : Array Value) (u : Value) (n : Nat) (y : Int) (hy : IntKind.i64.wrap (n : Int) = y) (w : World) (h : Blk w g t X) (hu : X[5]? = some u) : Calls Tryz.prog 164 #[ptr g, .int .u64 (n : Int)] w fun e w' => e = .returned (.tuple #[]) ∧ w' = w.setCell ⟨g, 5, none⟩ (.int .i64 y) := by
 have c : w.cell? ⟨g, 5, none⟩ = some u := h.cell_is 5 hu
 have f := h.frozen 5
 unfold ptr
 clear h hu
 go_enter Tryz.func164, Tryz.ntmps164
 go_wp2_with fail
 exact bodyPost_end (v := .tuple #[]) (by simp [results, Tryz.results164, go_sem]) rfl ⟨rfl, rfl⟩
set_option maxRecDepth 100000 in
set_option maxHeartbeats 4000000 in
theorem rkey_any (g B : Nat) (v : Value) (l : List UInt8) (w : World) (hl : 20 ≤ l.length) (hc : Blk w g 217 #[v]) (hv : BytesIn w B v l) (hB : B ≤ g) :
  Calls Tryz.prog 122 #[ptr g] w fun e w' => Out (fun i => i = g) w w' ∧ if ofB (keyOf l).k (keyOf l).o (keyOf l).c (keyOf l).a (keyOf l).r (keyOf l).v = true then e = .returned (.agg (keyOf l).cells.toArray) ∧ ∃ v', Blk w' g 217 #[v'] ∧ BytesIn w' B v' (l.drop 20) ∧ blockOf v' = blockOf v else e = .panicked cfailC := by
 have HV := Lib.hid hv
 have HC := Lib.hid hc
 have hlt := hc.lt
 have hne : g ≠ w.heap.size := Nat.ne_of_lt hlt
 have hne1 : g ≠ w.heap.size + 1 := by omega
 unfold ptr
 clear hv hc
 obtain ⟨x, ex⟩ : ∃ x, x = keyOf l := ⟨_, rfl⟩
 rw [← ex]
 have hX : x.k = (leN ((l.drop 0).take 1) : Int) ∧ x.r = (leN ((l.drop 1).take 1) : Int) ∧ x.o = (leN ((l.drop 2).take 2) : Int) ∧ x.c = (leN ((l.drop 4).take 4) : Int) ∧ x.a = (leN ((l.drop 8).take 4) : Int) ∧ x.v = IntKind.i64.wrap (leN ((l.drop 12).take 8) : Int) := by rw [ex]; exact ⟨rfl, rfl, rfl, rfl, rfl, rfl⟩
 have HX := Lib.hid hX
 clear ex hX
 go_enter Tryz.func122, Tryz.ntmps122
 go_wp2_with fail
 refine (fields_any _).mono ?_; rintro e w1 ⟨rfl, hb⟩
 have hb1 : Below w.heap.size w w1 := (((Below.refl _ w).alloc (Nat.le_refl _) _).alloc (by simp) _).trans (hb.mono (by simp; omega))
 have hK0 : Blk w1 w.heap.size 58 (keyTo x 0) := ((Blk.new w _ _).alloc _).below hb (by simp; omega)
 have hK1 : Blk w1 (w.heap.size + 1) 58 (keyTo x 0) := (Blk.new2 w _ _ _).below hb (by simp)
 have hsz1 : w.heap.size + 2 ≤ w1.heap.size := by have := hb.size; simp at this; omega
 have HB1 := Lib.hid hb1
 clear hb hb1
 go_wp2_with fail
 go_loopw [7] (fun i wr => ∃ (j : Nat) (v' : Value), j ≤ 6 ∧ i = .int .i64 (j : Int) ∧ Blk wr g 217 #[v'] ∧ BytesIn wr B v' (l.drop (if j = 0 then 0 else if j = 1 then 1 else if j = 2 then 2 else if j = 3 then 4 else if j = 4 then 8 else if j = 5 then 12 else 20)) ∧ Out (fun i => i = g) w wr ∧ Blk wr w.heap.size 58 (keyTo x 0) ∧ Blk wr (w.heap.size + 1) 58 (keyTo x j) ∧ blockOf v' = blockOf v) (fun i _ => 6 - (intOf i).toNat)
 case atStart => exact ⟨0, v, Nat.zero_le _, rfl, HC.out.below HB1.out hlt, HV.out.below HB1.out (by omega), outB HB1.out, hK0, hK1, rfl⟩
 case round =>
  obtain ⟨j, v1, hj, rfl, hC1, hV1, hO1, hK1, hK2, hBL⟩ := hrel
  have HBL := Lib.hid hBL
  clear hBL
  by_cases hlt6 : j < 6
  ·have hcs : j = 0 ∨ j = 1 ∨ j = 2 ∨ j = 3 ∨ j = 4 ∨ j = 5 := by omega
   rcases hcs with rfl | rfl | rfl | rfl | rfl | rfl
   ·have hix := index_0
    have h1 : (#[.int .i64 1, .func (.func 153) #[] #[], .func (.func 154) #[] #[]] : Array Value).all (·.oneCell') = true := by kernel_rfl
    go_upto_region 5 with (refine wpList_store_row rfl 251 _ _ rfl wr.heap.size #[.int .i64 1, .func (.func 153) #[] #[], .func (.func 154) #[] #[]] rfl rfl 251 _ (heap_alloc_new wr _) info_field rfl h1 ?_; rw [World.setRow_alloc_new])
    have hltw := hC1.lt
    have hltk := hK2.lt
    have HFW := Lib.hid (Blk.new wr 251 #[.int .i64 1, .func (.func 153) #[] #[], .func (.func 154) #[] #[]])
    have hbw : Below wr.heap.size wr (wr.alloc (.cells #[.int .i64 1, .func (.func 153) #[] #[], .func (.func 154) #[] #[]] 251)) := (Below.refl _ wr).alloc (Nat.le_refl _) _
    have HCW := Lib.hid (hC1.alloc (.cells #[.int .i64 1, .func (.func 153) #[] #[], .func (.func 154) #[] #[]] 251))
    have HRW := Lib.hid (hK1.alloc (.cells #[.int .i64 1, .func (.func 153) #[] #[], .func (.func 154) #[] #[]] 251))
    have HKW := Lib.hid (hK2.alloc (.cells #[.int .i64 1, .func (.func 153) #[] #[], .func (.func 154) #[] #[]] 251))
    have HVW := Lib.hid ((show BytesIn wr B v1 (l.drop 0) from hV1).below hbw.drew (by omega))
    have HBW := Lib.hid hbw.drew
    have HSS := Lib.hid (And.intro (HFW.out.drew.cell_is 0 rfl) (HFW.out.drew.cell_is 2 rfl))
    have HO1 := Lib.hid hO1
    obtain ⟨q, eq⟩ : ∃ q, q = leN ((l.drop 0).take 1) := ⟨_, rfl⟩
    have HNU := Lib.hid (rnumber_any g B v1 (l.drop 0) 1 (by omega) (by rw [List.length_drop]; omega) _ HCW.out.drew HVW.out hB)
    rw [← eq] at HNU
    have HW := Lib.hid (show IntKind.i64.wrap (q : Int) = x.k by rw [eq, HX.out.1, wrap_leN _ _ (leN_take_lt _ _) (by omega)])
    clear eq
    unfold ptr at HNU
    clear hC1 hV1 hO1 hK1 hK2 h1 hbw hK0
    try simp only [Act.put, pz0, pz1, pz2, pz3, pz4, pz5]
    refine wp_region_held_drew (S := (fun w' => w'.cell? ⟨wr.heap.size, 0, none⟩ = some (.int .i64 1) ∧ w'.cell? ⟨wr.heap.size, 2, none⟩ = some (.func (.func 154) #[] #[]))) (by kernel_rfl) (by (try dsimp only); (first | exact HSS.out | exact ⟨HF2.out.cell_is 0 rfl, HF2.out.cell_is 2 rfl⟩ | exact ⟨(HF2.out.far (by simp; omega) _).cell_is 0 rfl, (HF2.out.far (by simp; omega) _).cell_is 2 rfl⟩)) (fun hHeld => ?_)
    refine tk 0 ?_
    refine tk 2 ?_
    refine tk 3 ?_
    refine tk 1 ?_
    refine tk 4 ?_
    refine rd 5 fun K hK => ?_
    go_simp
    (refine HNU.out.mono ?_; rintro e w2 ⟨rfl, ⟨v2, hC2, hV2, hQ2⟩, hO2⟩; have HQ2 := Lib.hid hQ2; have hFF := hO2.blk HFW.out.drew (Nat.ne_of_gt hltw); have HF2 := Lib.hid hFF; have HC2 := Lib.hid hC2; have HV2 := Lib.hid hV2; have HO2 := Lib.hid hO2; have HKK := Lib.hid (hO2.blk HKW.out.drew (by omega)); have HRR := Lib.hid (hO2.blk HRW.out.drew (by omega)); clear hFF hC2 hV2 hO2 hQ2)
    go_wp2_with fail
    refine hK.out _ _ (by (try dsimp only); (first | exact HSS.out | exact ⟨HF2.out.cell_is 0 rfl, HF2.out.cell_is 2 rfl⟩ | exact ⟨(HF2.out.far (by simp; omega) _).cell_is 0 rfl, (HF2.out.far (by simp; omega) _).cell_is 2 rfl⟩)) (fun hHeld => ?_)
    clear hK K
    try simp only [Act.put, pz0, pz1, pz2, pz3, pz4, pz5]
    refine rd 6 fun K hK => ?_
    go_simp
    (refine (set_k (w.heap.size + 1) _ _ _ _ x.k HW.out _ HKK.out rfl).mono ?_; rintro e w3 ⟨rfl, rfl⟩)
    go_wp2_with fail
    refine hK.out _ _ (by (try dsimp only); (first | exact HSS.out | exact ⟨HF2.out.cell_is 0 rfl, HF2.out.cell_is 2 rfl⟩ | exact ⟨(HF2.out.far (by simp; omega) _).cell_is 0 rfl, (HF2.out.far (by simp; omega) _).cell_is 2 rfl⟩)) (fun hHeld => ?_)
    clear hK K
    try simp only [Act.put, pz0, pz1, pz2, pz3, pz4, pz5]
    refine wpAnyH_done (by kernel_rfl) ?_ _
    try simp only [Act.put, pz0, pz1, pz2, pz3, pz4, pz5]
    go_wp2_with fail
    go_roundw
    case rel => exact ⟨1, v2, by omega, rfl, HC2.out.far (by simp; omega) _, (by have h := HV2.out.below (C := w.heap.size + 1) ((out_set (F := fun i => i = w.heap.size + 1) (i := 0) (v := .int .i64 x.k) rfl).below (by have := HKK.out.lt; omega) (fun i hi e => by omega)) (by omega); rw [List.drop_drop] at h; exact h), ((HO1.out.trans (G := fun _ => False) (outB HBW.out) (fun _ _ => False.elim)).trans HO2.out (fun _ _ h => h)).trans (G := fun i => i = w.heap.size + 1) (out_set rfl) (fun i hi e => by omega), HRR.out.far (by simp) _, HKK.out.set_ 0 _, HQ2.out.trans HBL.out⟩
    case measure => simp [intOf]
   ·have hix := index_1
    have h1 : (#[.int .i64 1, .func (.func 155) #[] #[], .func (.func 156) #[] #[]] : Array Value).all (·.oneCell') = true := by kernel_rfl
    go_upto_region 5 with (refine wpList_store_row rfl 251 _ _ rfl wr.heap.size #[.int .i64 1, .func (.func 155) #[] #[], .func (.func 156) #[] #[]] rfl rfl 251 _ (heap_alloc_new wr _) info_field rfl h1 ?_; rw [World.setRow_alloc_new])
    have hltw := hC1.lt
    have hltk := hK2.lt
    have HFW := Lib.hid (Blk.new wr 251 #[.int .i64 1, .func (.func 155) #[] #[], .func (.func 156) #[] #[]])
    have hbw : Below wr.heap.size wr (wr.alloc (.cells #[.int .i64 1, .func (.func 155) #[] #[], .func (.func 156) #[] #[]] 251)) := (Below.refl _ wr).alloc (Nat.le_refl _) _
    have HCW := Lib.hid (hC1.alloc (.cells #[.int .i64 1, .func (.func 155) #[] #[], .func (.func 156) #[] #[]] 251))
    have HRW := Lib.hid (hK1.alloc (.cells #[.int .i64 1, .func (.func 155) #[] #[], .func (.func 156) #[] #[]] 251))
    have HKW := Lib.hid (hK2.alloc (.cells #[.int .i64 1, .func (.func 155) #[] #[], .func (.func 156) #[] #[]] 251))
    have HVW := Lib.hid ((show BytesIn wr B v1 (l.drop 1) from hV1).below hbw.drew (by omega))
    have HBW := Lib.hid hbw.drew
    have HSS := Lib.hid (And.intro (HFW.out.drew.cell_is 0 rfl) (HFW.out.drew.cell_is 2 rfl))
    have HO1 := Lib.hid hO1
    obtain ⟨q, eq⟩ : ∃ q, q = leN ((l.drop 1).take 1) := ⟨_, rfl⟩
    have HNU := Lib.hid (rnumber_any g B v1 (l.drop 1) 1 (by omega) (by rw [List.length_drop]; omega) _ HCW.out.drew HVW.out hB)
    rw [← eq] at HNU
    have HW := Lib.hid (show IntKind.i64.wrap (q : Int) = x.r by rw [eq, HX.out.2.1, wrap_leN _ _ (leN_take_lt _ _) (by omega)])
    clear eq
    unfold ptr at HNU
    clear hC1 hV1 hO1 hK1 hK2 h1 hbw hK0
    try simp only [Act.put, pz0, pz1, pz2, pz3, pz4, pz5]
    refine wp_region_held_drew (S := (fun w' => w'.cell? ⟨wr.heap.size, 0, none⟩ = some (.int .i64 1) ∧ w'.cell? ⟨wr.heap.size, 2, none⟩ = some (.func (.func 156) #[] #[]))) (by kernel_rfl) (by (try dsimp only); (first | exact HSS.out | exact ⟨HF2.out.cell_is 0 rfl, HF2.out.cell_is 2 rfl⟩ | exact ⟨(HF2.out.far (by simp; omega) _).cell_is 0 rfl, (HF2.out.far (by simp; omega) _).cell_is 2 rfl⟩)) (fun hHeld => ?_)
    refine tk 0 ?_
    refine tk 2 ?_
    refine tk 3 ?_
    refine tk 1 ?_
    refine tk 4 ?_
    refine rd 5 fun K hK => ?_
    go_simp
    (refine HNU.out.mono ?_; rintro e w2 ⟨rfl, ⟨v2, hC2, hV2, hQ2⟩, hO2⟩; have HQ2 := Lib.hid hQ2; have hFF := hO2.blk HFW.out.drew (Nat.ne_of_gt hltw); have HF2 := Lib.hid hFF; have HC2 := Lib.hid hC2; have HV2 := Lib.hid hV2; have HO2 := Lib.hid hO2; have HKK := Lib.hid (hO2.blk HKW.out.drew (by omega)); have HRR := Lib.hid (hO2.blk HRW.out.drew (by omega)); clear hFF hC2 hV2 hO2 hQ2)
    go_wp2_with fail
    refine hK.out _ _ (by (try dsimp only); (first | exact HSS.out | exact ⟨HF2.out.cell_is 0 rfl, HF2.out.cell_is 2 rfl⟩ | exact ⟨(HF2.out.far (by simp; omega) _).cell_is 0 rfl, (HF2.out.far (by simp; omega) _).cell_is 2 rfl⟩)) (fun hHeld => ?_)
    clear hK K
    try simp only [Act.put, pz0, pz1, pz2, pz3, pz4, pz5]
    refine rd 6 fun K hK => ?_
    go_simp
    (refine (set_r (w.heap.size + 1) _ _ _ _ x.r HW.out _ HKK.out rfl).mono ?_; rintro e w3 ⟨rfl, rfl⟩)
    go_wp2_with fail
    refine hK.out _ _ (by (try dsimp only); (first | exact HSS.out | exact ⟨HF2.out.cell_is 0 rfl, HF2.out.cell_is 2 rfl⟩ | exact ⟨(HF2.out.far (by simp; omega) _).cell_is 0 rfl, (HF2.out.far (by simp; omega) _).cell_is 2 rfl⟩)) (fun hHeld => ?_)
    clear hK K
    try simp only [Act.put, pz0, pz1, pz2, pz3, pz4, pz5]
    refine wpAnyH_done (by kernel_rfl) ?_ _
    try simp only [Act.put, pz0, pz1, pz2, pz3, pz4, pz5]
    go_wp2_with fail
    go_roundw
    case rel => exact ⟨2, v2, by omega, rfl, HC2.out.far (by simp; omega) _, (by have h := HV2.out.below (C := w.heap.size + 1) ((out_set (F := fun i => i = w.heap.size + 1) (i := 4) (v := .int .i64 x.r) rfl).below (by have := HKK.out.lt; omega) (fun i hi e => by omega)) (by omega); rw [List.drop_drop] at h; exact h), ((HO1.out.trans (G := fun _ => False) (outB HBW.out) (fun _ _ => False.elim)).trans HO2.out (fun _ _ h => h)).trans (G := fun i => i = w.heap.size + 1) (out_set rfl) (fun i hi e => by omega), HRR.out.far (by simp) _, HKK.out.set_ 4 _, HQ2.out.trans HBL.out⟩
    case measure => simp [intOf]
   ·have hix := index_2
    have h1 : (#[.int .i64 2, .func (.func 157) #[] #[], .func (.func 158) #[] #[]] : Array Value).all (·.oneCell') = true := by kernel_rfl
    go_upto_region 5 with (refine wpList_store_row rfl 251 _ _ rfl wr.heap.size #[.int .i64 2, .func (.func 157) #[] #[], .func (.func 158) #[] #[]] rfl rfl 251 _ (heap_alloc_new wr _) info_field rfl h1 ?_; rw [World.setRow_alloc_new])
    have hltw := hC1.lt
    have hltk := hK2.lt
    have HFW := Lib.hid (Blk.new wr 251 #[.int .i64 2, .func (.func 157) #[] #[], .func (.func 158) #[] #[]])
    have hbw : Below wr.heap.size wr (wr.alloc (.cells #[.int .i64 2, .func (.func 157) #[] #[], .func (.func 158) #[] #[]] 251)) := (Below.refl _ wr).alloc (Nat.le_refl _) _
    have HCW := Lib.hid (hC1.alloc (.cells #[.int .i64 2, .func (.func 157) #[] #[], .func (.func 158) #[] #[]] 251))
    have HRW := Lib.hid (hK1.alloc (.cells #[.int .i64 2, .func (.func 157) #[] #[], .func (.func 158) #[] #[]] 251))
    have HKW := Lib.hid (hK2.alloc (.cells #[.int .i64 2, .func (.func 157) #[] #[], .func (.func 158) #[] #[]] 251))
    have HVW := Lib.hid ((show BytesIn wr B v1 (l.drop 2) from hV1).below hbw.drew (by omega))
    have HBW := Lib.hid hbw.drew
    have HSS := Lib.hid (And.intro (HFW.out.drew.cell_is 0 rfl) (HFW.out.drew.cell_is 2 rfl))
    have HO1 := Lib.hid hO1
    obtain ⟨q, eq⟩ : ∃ q, q = leN ((l.drop 2).take 2) := ⟨_, rfl⟩
    have HNU := Lib.hid (rnumber_any g B v1 (l.drop 2) 2 (by omega) (by rw [List.length_drop]; omega) _ HCW.out.drew HVW.out hB)
    rw [← eq] at HNU
    have HW := Lib.hid (show IntKind.i64.wrap (q : Int) = x.o by rw [eq, HX.out.2.2.1, wrap_leN _ _ (leN_take_lt _ _) (by omega)])
    clear eq
    unfold ptr at HNU
    clear hC1 hV1 hO1 hK1 hK2 h1 hbw hK0
    try simp only [Act.put, pz0, pz1, pz2, pz3, pz4, pz5]
    refine wp_region_held_drew (S := (fun w' => w'.cell? ⟨wr.heap.size, 0, none⟩ = some (.int .i64 2) ∧ w'.cell? ⟨wr.heap.size, 2, none⟩ = some (.func (.func 158) #[] #[]))) (by kernel_rfl) (by (try dsimp only); (first | exact HSS.out | exact ⟨HF2.out.cell_is 0 rfl, HF2.out.cell_is 2 rfl⟩ | exact ⟨(HF2.out.far (by simp; omega) _).cell_is 0 rfl, (HF2.out.far (by simp; omega) _).cell_is 2 rfl⟩)) (fun hHeld => ?_)
    refine tk 0 ?_
    refine tk 2 ?_
    refine tk 3 ?_
    refine tk 1 ?_
    refine tk 4 ?_
    refine rd 5 fun K hK => ?_
    go_simp
    (refine HNU.out.mono ?_; rintro e w2 ⟨rfl, ⟨v2, hC2, hV2, hQ2⟩, hO2⟩; have HQ2 := Lib.hid hQ2; have hFF := hO2.blk HFW.out.drew (Nat.ne_of_gt hltw); have HF2 := Lib.hid hFF; have HC2 := Lib.hid hC2; have HV2 := Lib.hid hV2; have HO2 := Lib.hid hO2; have HKK := Lib.hid (hO2.blk HKW.out.drew (by omega)); have HRR := Lib.hid (hO2.blk HRW.out.drew (by omega)); clear hFF hC2 hV2 hO2 hQ2)
    go_wp2_with fail
    refine hK.out _ _ (by (try dsimp only); (first | exact HSS.out | exact ⟨HF2.out.cell_is 0 rfl, HF2.out.cell_is 2 rfl⟩ | exact ⟨(HF2.out.far (by simp; omega) _).cell_is 0 rfl, (HF2.out.far (by simp; omega) _).cell_is 2 rfl⟩)) (fun hHeld => ?_)
    clear hK K
    try simp only [Act.put, pz0, pz1, pz2, pz3, pz4, pz5]
    refine rd 6 fun K hK => ?_
    go_simp
    (refine (set_o (w.heap.size + 1) _ _ _ _ x.o HW.out _ HKK.out rfl).mono ?_; rintro e w3 ⟨rfl, rfl⟩)
    go_wp2_with fail
    refine hK.out _ _ (by (try dsimp only); (first | exact HSS.out | exact ⟨HF2.out.cell_is 0 rfl, HF2.out.cell_is 2 rfl⟩ | exact ⟨(HF2.out.far (by simp; omega) _).cell_is 0 rfl, (HF2.out.far (by simp; omega) _).cell_is 2 rfl⟩)) (fun hHeld => ?_)
    clear hK K
    try simp only [Act.put, pz0, pz1, pz2, pz3, pz4, pz5]
    refine wpAnyH_done (by kernel_rfl) ?_ _
    try simp only [Act.put, pz0, pz1, pz2, pz3, pz4, pz5]
    go_wp2_with fail
    go_roundw
    case rel => exact ⟨3, v2, by omega, rfl, HC2.out.far (by simp; omega) _, (by have h := HV2.out.below (C := w.heap.size + 1) ((out_set (F := fun i => i = w.heap.size + 1) (i := 1) (v := .int .i64 x.o) rfl).below (by have := HKK.out.lt; omega) (fun i hi e => by omega)) (by omega); rw [List.drop_drop] at h; exact h), ((HO1.out.trans (G := fun _ => False) (outB HBW.out) (fun _ _ => False.elim)).trans HO2.out (fun _ _ h => h)).trans (G := fun i => i = w.heap.size + 1) (out_set rfl) (fun i hi e => by omega), HRR.out.far (by simp) _, HKK.out.set_ 1 _, HQ2.out.trans HBL.out⟩
    case measure => simp [intOf]
   ·have hix := index_3
    have h1 : (#[.int .i64 4, .func (.func 159) #[] #[], .func (.func 160) #[] #[]] : Array Value).all (·.oneCell') = true := by kernel_rfl
    go_upto_region 5 with (refine wpList_store_row rfl 251 _ _ rfl wr.heap.size #[.int .i64 4, .func (.func 159) #[] #[], .func (.func 160) #[] #[]] rfl rfl 251 _ (heap_alloc_new wr _) info_field rfl h1 ?_; rw [World.setRow_alloc_new])
    have hltw := hC1.lt
    have hltk := hK2.lt
    have HFW := Lib.hid (Blk.new wr 251 #[.int .i64 4, .func (.func 159) #[] #[], .func (.func 160) #[] #[]])
    have hbw : Below wr.heap.size wr (wr.alloc (.cells #[.int .i64 4, .func (.func 159) #[] #[], .func (.func 160) #[] #[]] 251)) := (Below.refl _ wr).alloc (Nat.le_refl _) _
    have HCW := Lib.hid (hC1.alloc (.cells #[.int .i64 4, .func (.func 159) #[] #[], .func (.func 160) #[] #[]] 251))
    have HRW := Lib.hid (hK1.alloc (.cells #[.int .i64 4, .func (.func 159) #[] #[], .func (.func 160) #[] #[]] 251))
    have HKW := Lib.hid (hK2.alloc (.cells #[.int .i64 4, .func (.func 159) #[] #[], .func (.func 160) #[] #[]] 251))
    have HVW := Lib.hid ((show BytesIn wr B v1 (l.drop 4) from hV1).below hbw.drew (by omega))
    have HBW := Lib.hid hbw.drew
    have HSS := Lib.hid (And.intro (HFW.out.drew.cell_is 0 rfl) (HFW.out.drew.cell_is 2 rfl))
    have HO1 := Lib.hid hO1
    obtain ⟨q, eq⟩ : ∃ q, q = leN ((l.drop 4).take 4) := ⟨_, rfl⟩
    have HNU := Lib.hid (rnumber_any g B v1 (l.drop 4) 4 (by omega) (by rw [List.length_drop]; omega) _ HCW.out.drew HVW.out hB)
    rw [← eq] at HNU
    have HW := Lib.hid (show IntKind.i64.wrap (q : Int) = x.c by rw [eq, HX.out.2.2.2.1, wrap_leN _ _ (leN_take_lt _ _) (by omega)])
    clear eq
    unfold ptr at HNU
    clear hC1 hV1 hO1 hK1 hK2 h1 hbw hK0
    try simp only [Act.put, pz0, pz1, pz2, pz3, pz4, pz5]
    refine wp_region_held_drew (S := (fun w' => w'.cell? ⟨wr.heap.size, 0, none⟩ = some (.int .i64 4) ∧ w'.cell? ⟨wr.heap.size, 2, none⟩ = some (.func (.func 160) #[] #[]))) (by kernel_rfl) (by (try dsimp only); (first | exact HSS.out | exact ⟨HF2.out.cell_is 0 rfl, HF2.out.cell_is 2 rfl⟩ | exact ⟨(HF2.out.far (by simp; omega) _).cell_is 0 rfl, (HF2.out.far (by simp; omega) _).cell_is 2 rfl⟩)) (fun hHeld => ?_)
    refine tk 0 ?_
    refine tk 2 ?_
    refine tk 3 ?_
    refine tk 1 ?_
    refine tk 4 ?_
    refine rd 5 fun K hK => ?_
    go_simp
    (refine HNU.out.mono ?_; rintro e w2 ⟨rfl, ⟨v2, hC2, hV2, hQ2⟩, hO2⟩; have HQ2 := Lib.hid hQ2; have hFF := hO2.blk HFW.out.drew (Nat.ne_of_gt hltw); have HF2 := Lib.hid hFF; have HC2 := Lib.hid hC2; have HV2 := Lib.hid hV2; have HO2 := Lib.hid hO2; have HKK := Lib.hid (hO2.blk HKW.out.drew (by omega)); have HRR := Lib.hid (hO2.blk HRW.out.drew (by omega)); clear hFF hC2 hV2 hO2 hQ2)
    go_wp2_with fail
    refine hK.out _ _ (by (try dsimp only); (first | exact HSS.out | exact ⟨HF2.out.cell_is 0 rfl, HF2.out.cell_is 2 rfl⟩ | exact ⟨(HF2.out.far (by simp; omega) _).cell_is 0 rfl, (HF2.out.far (by simp; omega) _).cell_is 2 rfl⟩)) (fun hHeld => ?_)
    clear hK K
    try simp only [Act.put, pz0, pz1, pz2, pz3, pz4, pz5]
    refine rd 6 fun K hK => ?_
    go_simp
    (refine (set_c (w.heap.size + 1) _ _ _ _ x.c HW.out _ HKK.out rfl).mono ?_; rintro e w3 ⟨rfl, rfl⟩)
    go_wp2_with fail
    refine hK.out _ _ (by (try dsimp only); (first | exact HSS.out | exact ⟨HF2.out.cell_is 0 rfl, HF2.out.cell_is 2 rfl⟩ | exact ⟨(HF2.out.far (by simp; omega) _).cell_is 0 rfl, (HF2.out.far (by simp; omega) _).cell_is 2 rfl⟩)) (fun hHeld => ?_)
    clear hK K
    try simp only [Act.put, pz0, pz1, pz2, pz3, pz4, pz5]
    refine wpAnyH_done (by kernel_rfl) ?_ _
    try simp only [Act.put, pz0, pz1, pz2, pz3, pz4, pz5]
    go_wp2_with fail
    go_roundw
    case rel => exact ⟨4, v2, by omega, rfl, HC2.out.far (by simp; omega) _, (by have h := HV2.out.below (C := w.heap.size + 1) ((out_set (F := fun i => i = w.heap.size + 1) (i := 2) (v := .int .i64 x.c) rfl).below (by have := HKK.out.lt; omega) (fun i hi e => by omega)) (by omega); rw [List.drop_drop] at h; exact h), ((HO1.out.trans (G := fun _ => False) (outB HBW.out) (fun _ _ => False.elim)).trans HO2.out (fun _ _ h => h)).trans (G := fun i => i = w.heap.size + 1) (out_set rfl) (fun i hi e => by omega), HRR.out.far (by simp) _, HKK.out.set_ 2 _, HQ2.out.trans HBL.out⟩
    case measure => simp [intOf]
   ·have hix := index_4
    have h1 : (#[.int .i64 4, .func (.func 161) #[] #[], .func (.func 162) #[] #[]] : Array Value).all (·.oneCell') = true := by kernel_rfl
    go_upto_region 5 with (refine wpList_store_row rfl 251 _ _ rfl wr.heap.size #[.int .i64 4, .func (.func 161) #[] #[], .func (.func 162) #[] #[]] rfl rfl 251 _ (heap_alloc_new wr _) info_field rfl h1 ?_; rw [World.setRow_alloc_new])
    have hltw := hC1.lt
    have hltk := hK2.lt
    have HFW := Lib.hid (Blk.new wr 251 #[.int .i64 4, .func (.func 161) #[] #[], .func (.func 162) #[] #[]])
    have hbw : Below wr.heap.size wr (wr.alloc (.cells #[.int .i64 4, .func (.func 161) #[] #[], .func (.func 162) #[] #[]] 251)) := (Below.refl _ wr).alloc (Nat.le_refl _) _
    have HCW := Lib.hid (hC1.alloc (.cells #[.int .i64 4, .func (.func 161) #[] #[], .func (.func 162) #[] #[]] 251))
    have HRW := Lib.hid (hK1.alloc (.cells #[.int .i64 4, .func (.func 161) #[] #[], .func (.func 162) #[] #[]] 251))
    have HKW := Lib.hid (hK2.alloc (.cells #[.int .i64 4, .func (.func 161) #[] #[], .func (.func 162) #[] #[]] 251))
    have HVW := Lib.hid ((show BytesIn wr B v1 (l.drop 8) from hV1).below hbw.drew (by omega))
    have HBW := Lib.hid hbw.drew
    have HSS := Lib.hid (And.intro (HFW.out.drew.cell_is 0 rfl) (HFW.out.drew.cell_is 2 rfl))
    have HO1 := Lib.hid hO1
    obtain ⟨q, eq⟩ : ∃ q, q = leN ((l.drop 8).take 4) := ⟨_, rfl⟩
    have HNU := Lib.hid (rnumber_any g B v1 (l.drop 8) 4 (by omega) (by rw [List.length_drop]; omega) _ HCW.out.drew HVW.out hB)
    rw [← eq] at HNU
    have HW := Lib.hid (show IntKind.i64.wrap (q : Int) = x.a by rw [eq, HX.out.2.2.2.2.1, wrap_leN _ _ (leN_take_lt _ _) (by omega)])
    clear eq
    unfold ptr at HNU
    clear hC1 hV1 hO1 hK1 hK2 h1 hbw hK0
    try simp only [Act.put, pz0, pz1, pz2, pz3, pz4, pz5]
    refine wp_region_held_drew (S := (fun w' => w'.cell? ⟨wr.heap.size, 0, none⟩ = some (.int .i64 4) ∧ w'.cell? ⟨wr.heap.size, 2, none⟩ = some (.func (.func 162) #[] #[]))) (by kernel_rfl) (by (try dsimp only); (first | exact HSS.out | exact ⟨HF2.out.cell_is 0 rfl, HF2.out.cell_is 2 rfl⟩ | exact ⟨(HF2.out.far (by simp; omega) _).cell_is 0 rfl, (HF2.out.far (by simp; omega) _).cell_is 2 rfl⟩)) (fun hHeld => ?_)
    refine tk 0 ?_
    refine tk 2 ?_
    refine tk 3 ?_
    refine tk 1 ?_
    refine tk 4 ?_
    refine rd 5 fun K hK => ?_
    go_simp
    (refine HNU.out.mono ?_; rintro e w2 ⟨rfl, ⟨v2, hC2, hV2, hQ2⟩, hO2⟩; have HQ2 := Lib.hid hQ2; have hFF := hO2.blk HFW.out.drew (Nat.ne_of_gt hltw); have HF2 := Lib.hid hFF; have HC2 := Lib.hid hC2; have HV2 := Lib.hid hV2; have HO2 := Lib.hid hO2; have HKK := Lib.hid (hO2.blk HKW.out.drew (by omega)); have HRR := Lib.hid (hO2.blk HRW.out.drew (by omega)); clear hFF hC2 hV2 hO2 hQ2)
    go_wp2_with fail
    refine hK.out _ _ (by (try dsimp only); (first | exact HSS.out | exact ⟨HF2.out.cell_is 0 rfl, HF2.out.cell_is 2 rfl⟩ | exact ⟨(HF2.out.far (by simp; omega) _).cell_is 0 rfl, (HF2.out.far (by simp; omega) _).cell_is 2 rfl⟩)) (fun hHeld => ?_)
    clear hK K
    try simp only [Act.put, pz0, pz1, pz2, pz3, pz4, pz5]
    refine rd 6 fun K hK => ?_
    go_simp
    (refine (set_a (w.heap.size + 1) _ _ _ _ x.a HW.out _ HKK.out rfl).mono ?_; rintro e w3 ⟨rfl, rfl⟩)
    go_wp2_with fail
    refine hK.out _ _ (by (try dsimp only); (first | exact HSS.out | exact ⟨HF2.out.cell_is 0 rfl, HF2.out.cell_is 2 rfl⟩ | exact ⟨(HF2.out.far (by simp; omega) _).cell_is 0 rfl, (HF2.out.far (by simp; omega) _).cell_is 2 rfl⟩)) (fun hHeld => ?_)
    clear hK K
    try simp only [Act.put, pz0, pz1, pz2, pz3, pz4, pz5]
    refine wpAnyH_done (by kernel_rfl) ?_ _
    try simp only [Act.put, pz0, pz1, pz2, pz3, pz4, pz5]
    go_wp2_with fail
    go_roundw
    case rel => exact ⟨5, v2, by omega, rfl, HC2.out.far (by simp; omega) _, (by have h := HV2.out.below (C := w.heap.size + 1) ((out_set (F := fun i => i = w.heap.size + 1) (i := 3) (v := .int .i64 x.a) rfl).below (by have := HKK.out.lt; omega) (fun i hi e => by omega)) (by omega); rw [List.drop_drop] at h; exact h), ((HO1.out.trans (G := fun _ => False) (outB HBW.out) (fun _ _ => False.elim)).trans HO2.out (fun _ _ h => h)).trans (G := fun i => i = w.heap.size + 1) (out_set rfl) (fun i hi e => by omega), HRR.out.far (by simp) _, HKK.out.set_ 3 _, HQ2.out.trans HBL.out⟩
    case measure => simp [intOf]
   ·have hix := index_5
    have h1 : (#[.int .i64 8, .func (.func 163) #[] #[], .func (.func 164) #[] #[]] : Array Value).all (·.oneCell') = true := by kernel_rfl
    go_upto_region 5 with (refine wpList_store_row rfl 251 _ _ rfl wr.heap.size #[.int .i64 8, .func (.func 163) #[] #[], .func (.func 164) #[] #[]] rfl rfl 251 _ (heap_alloc_new wr _) info_field rfl h1 ?_; rw [World.setRow_alloc_new])
    have hltw := hC1.lt
    have hltk := hK2.lt
    have HFW := Lib.hid (Blk.new wr 251 #[.int .i64 8, .func (.func 163) #[] #[], .func (.func 164) #[] #[]])
    have hbw : Below wr.heap.size wr (wr.alloc (.cells #[.int .i64 8, .func (.func 163) #[] #[], .func (.func 164) #[] #[]] 251)) := (Below.refl _ wr).alloc (Nat.le_refl _) _
    have HCW := Lib.hid (hC1.alloc (.cells #[.int .i64 8, .func (.func 163) #[] #[], .func (.func 164) #[] #[]] 251))
    have HRW := Lib.hid (hK1.alloc (.cells #[.int .i64 8, .func (.func 163) #[] #[], .func (.func 164) #[] #[]] 251))
    have HKW := Lib.hid (hK2.alloc (.cells #[.int .i64 8, .func (.func 163) #[] #[], .func (.func 164) #[] #[]] 251))
    have HVW := Lib.hid ((show BytesIn wr B v1 (l.drop 12) from hV1).below hbw.drew (by omega))
    have HBW := Lib.hid hbw.drew
    have HSS := Lib.hid (And.intro (HFW.out.drew.cell_is 0 rfl) (HFW.out.drew.cell_is 2 rfl))
    have HO1 := Lib.hid hO1
    obtain ⟨q, eq⟩ : ∃ q, q = leN ((l.drop 12).take 8) := ⟨_, rfl⟩
    have HNU := Lib.hid (rnumber_any g B v1 (l.drop 12) 8 (by omega) (by rw [List.length_drop]; omega) _ HCW.out.drew HVW.out hB)
    rw [← eq] at HNU
    have HW := Lib.hid (show IntKind.i64.wrap (q : Int) = x.v by rw [eq, HX.out.2.2.2.2.2])
    clear eq
    unfold ptr at HNU
    clear hC1 hV1 hO1 hK1 hK2 h1 hbw hK0
    try simp only [Act.put, pz0, pz1, pz2, pz3, pz4, pz5]
    refine wp_region_held_drew (S := (fun w' => w'.cell? ⟨wr.heap.size, 0, none⟩ = some (.int .i64 8) ∧ w'.cell? ⟨wr.heap.size, 2, none⟩ = some (.func (.func 164) #[] #[]))) (by kernel_rfl) (by (try dsimp only); (first | exact HSS.out | exact ⟨HF2.out.cell_is 0 rfl, HF2.out.cell_is 2 rfl⟩ | exact ⟨(HF2.out.far (by simp; omega) _).cell_is 0 rfl, (HF2.out.far (by simp; omega) _).cell_is 2 rfl⟩)) (fun hHeld => ?_)
    refine tk 0 ?_
    refine tk 2 ?_
    refine tk 3 ?_
    refine tk 1 ?_
    refine tk 4 ?_
    refine rd 5 fun K hK => ?_
    go_simp
    (refine HNU.out.mono ?_; rintro e w2 ⟨rfl, ⟨v2, hC2, hV2, hQ2⟩, hO2⟩; have HQ2 := Lib.hid hQ2; have hFF := hO2.blk HFW.out.drew (Nat.ne_of_gt hltw); have HF2 := Lib.hid hFF; have HC2 := Lib.hid hC2; have HV2 := Lib.hid hV2; have HO2 := Lib.hid hO2; have HKK := Lib.hid (hO2.blk HKW.out.drew (by omega)); have HRR := Lib.hid (hO2.blk HRW.out.drew (by omega)); clear hFF hC2 hV2 hO2 hQ2)
    go_wp2_with fail
    refine hK.out _ _ (by (try dsimp only); (first | exact HSS.out | exact ⟨HF2.out.cell_is 0 rfl, HF2.out.cell_is 2 rfl⟩ | exact ⟨(HF2.out.far (by simp; omega) _).cell_is 0 rfl, (HF2.out.far (by simp; omega) _).cell_is 2 rfl⟩)) (fun hHeld => ?_)
    clear hK K
    try simp only [Act.put, pz0, pz1, pz2, pz3, pz4, pz5]
    refine rd 6 fun K hK => ?_
    go_simp
    (refine (set_v (w.heap.size + 1) _ _ _ _ x.v HW.out _ HKK.out rfl).mono ?_; rintro e w3 ⟨rfl, rfl⟩)
    go_wp2_with fail
    refine hK.out _ _ (by (try dsimp only); (first | exact HSS.out | exact ⟨HF2.out.cell_is 0 rfl, HF2.out.cell_is 2 rfl⟩ | exact ⟨(HF2.out.far (by simp; omega) _).cell_is 0 rfl, (HF2.out.far (by simp; omega) _).cell_is 2 rfl⟩)) (fun hHeld => ?_)
    clear hK K
    try simp only [Act.put, pz0, pz1, pz2, pz3, pz4, pz5]
    refine wpAnyH_done (by kernel_rfl) ?_ _
    try simp only [Act.put, pz0, pz1, pz2, pz3, pz4, pz5]
    go_wp2_with fail
    go_roundw
    case rel => exact ⟨6, v2, by omega, rfl, HC2.out.far (by simp; omega) _, (by have h := HV2.out.below (C := w.heap.size + 1) ((out_set (F := fun i => i = w.heap.size + 1) (i := 5) (v := .int .i64 x.v) rfl).below (by have := HKK.out.lt; omega) (fun i hi e => by omega)) (by omega); rw [List.drop_drop] at h; exact h), ((HO1.out.trans (G := fun _ => False) (outB HBW.out) (fun _ _ => False.elim)).trans HO2.out (fun _ _ h => h)).trans (G := fun i => i = w.heap.size + 1) (out_set rfl) (fun i hi e => by omega), HRR.out.far (by simp) _, HKK.out.set_ 5 _, HQ2.out.trans HBL.out⟩
    case measure => simp [intOf]
  ·obtain rfl : j = 6 := by omega
   have hKc : Blk wr (w.heap.size + 1) 58 #[.int .i64 x.k, .int .i64 x.o, .int .i64 x.c, .int .i64 x.a, .int .i64 x.r, .int .i64 x.v] := hK2
   have HKC := Lib.hid hKc
   have HV1 := Lib.hid (show BytesIn wr B v1 (l.drop 20) from hV1)
   have HC1 := Lib.hid hC1
   have HO1 := Lib.hid hO1
   have HK1 := Lib.hid hK1
   clear hK2 hKc hV1 hC1 hO1 hK1 hK0 HX
   have hi : (Tryz.prog.info? 58).map (·.size) = some 6 := by kernel_rfl
   have h16 : (#[.int .i64 x.k, .int .i64 x.o, .int .i64 x.c, .int .i64 x.a, .int .i64 x.r, .int .i64 x.v] : Array Value).all (·.oneCell') = true := by rw [List.all_toArray]; rfl
   have hi6 : (Tryz.prog.info? 58).map (·.size) = some (#[.int .i64 x.k, .int .i64 x.o, .int .i64 x.c, .int .i64 x.a, .int .i64 x.r, .int .i64 x.v] : Array Value).size := hi
   have hltw : w.heap.size + 1 < wr.heap.size := HKC.out.lt
   go_wp2_with (refine wpList_load_row rfl 58 _ rfl (w.heap.size + 1) rfl 58 #[.int .i64 x.k, .int .i64 x.o, .int .i64 x.c, .int .i64 x.a, .int .i64 x.r, .int .i64 x.v] (0, 0) _ HKC.out Tryz.underlying58 rfl hi6 ?_)
   refine (check_any _ _ _ _ _ _ _).mono ?_; rintro e w2 ⟨rfl, hb2⟩
   have HO2 := Lib.hid (HO1.out.trans (G := fun _ => False) (outB hb2) (fun _ _ => False.elim))
   have HK3 := Lib.hid (HKC.out.below hb2 hltw)
   have HR3 := Lib.hid (HK1.out.below hb2 (by omega))
   have HC3 := Lib.hid (HC1.out.below hb2 HC1.out.lt)
   have HV3 := Lib.hid (HV1.out.below hb2 (by have := HC1.out.lt; omega))
   cases hof : ofB x.k x.o x.c x.a x.r x.v
   ·go_wp2_with fail
    refine (cmust_no _).mono ?_; rintro e w3 ⟨rfl, rfl⟩
    go_wp2_with fail
    all_goals exact ⟨rfl, HO2.out, rfl⟩
   ·go_wp2_with fail
    refine (cmust_yes _).mono ?_; rintro e w3 ⟨rfl, rfl⟩
    go_wp2_with (first
     | (refine wpList_load_row rfl 58 _ rfl (w.heap.size + 1) rfl 58 #[.int .i64 x.k, .int .i64 x.o, .int .i64 x.c, .int .i64 x.a, .int .i64 x.r, .int .i64 x.v] (0, 0) _ HK3.out Tryz.underlying58 rfl hi6 ?_)
     | (refine wpList_store_row rfl 58 _ _ rfl w.heap.size #[.int .i64 x.k, .int .i64 x.o, .int .i64 x.c, .int .i64 x.a, .int .i64 x.r, .int .i64 x.v] rfl rfl 58 _ HR3.out hi6 rfl h16 ?_))
    refine bodyPost_ret (v := .agg #[.int .i64 x.k, .int .i64 x.o, .int .i64 x.c, .int .i64 x.a, .int .i64 x.r, .int .i64 x.v]) (results_cell_row Tryz.results122 _ _ w.heap.size 58 #[.int .i64 x.k, .int .i64 x.o, .int .i64 x.c, .int .i64 x.a, .int .i64 x.r, .int .i64 x.v] (0, 0) _ rfl (HR3.out.row _) Tryz.underlying58 rfl hi6) rfl ?_
    have hn0 : ∀ i, i < w.heap.size → ¬ i = w.heap.size := fun i hi => by omega
    refine ⟨?_, ?_⟩
    ·have hf := HO2.out
     exact ⟨hf.os, hf.tape, hf.output, by have := hf.size; simpa using this, fun i hi hn => (setRow_other _ w.heap.size i _ (by omega)).trans (hf.block i hi hn)⟩
    ·refine ⟨rfl, v1, ?_, ?_, HBL.out⟩
     ·exact (setRow_other _ w.heap.size g _ (by omega)).trans HC3.out
     ·exact HV3.out.below (C := w.heap.size) ((out_row (F := fun i => i = w.heap.size) _ rfl).below (by have := HC3.out.lt; have := HO2.out.size; omega) (fun i hi e => by omega)) (by omega)
end Go.Proofs.YtdpniceapmikpaaGreat
