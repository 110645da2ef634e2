/-
  The object that the reference's Get builds, key by key, byte by byte: plain.
  The reference's codec: Get of bytes whose sum is right. (Written by gen_lr5g.py.)
-/
import Derived.Test.YtemcgfncahccgaaGreatCh1
import Derived.Test.YtemcgfncahccgaaGreatCh25
import Derived.Test.YtemcgfncahccgaaGreatCh28
set_option linter.unusedVariables false
set_option linter.unusedSimpArgs false
namespace Go.Proofs.YtemcgfncahccgaaGreat
open Go.RowKit

theorem cut_take (b : List UInt8) (m i k : Nat) (h : i + k ≤ m) : ((b.take m).drop i).take k = (b.drop i).take k := by
 rw [List.drop_take, List.take_take, Nat.min_eq_left (by omega)]
theorem keyOf_take (l : List UInt8) : keyOf (l.take 20) = keyOf l := by
 unfold keyOf
 rw [cut_take l 20 0 1 (by omega), cut_take l 20 2 2 (by omega), cut_take l 20 4 4 (by omega), cut_take l 20 8 4 (by omega), cut_take l 20 1 1 (by omega), cut_take l 20 12 8 (by omega)]
theorem keyOf_cut (b : List UInt8) (m i : Nat) (h : i + 20 ≤ m) : keyOf ((b.take m).drop i) = keyOf ((b.drop i).take 20) := by
 rw [← keyOf_take ((b.take m).drop i), cut_take b m i 20 h]
/-- the object when j keys are set -/
def objRTo (l : List UInt8) (j : Nat) : ObjD := { objTo l j with kd := leN ((l.drop 0).take 1) }
theorem objRTo_ok (l : List UInt8) (j : Nat) : (objRTo l j).ok := ⟨slotsTo_len l j, rfl⟩
theorem objRTo_zero (l : List UInt8) : objRTo l 0 = ⟨leN ((l.drop 0).take 1), leN ((l.drop 4).take 4), leN ((l.drop 8).take 4), slotsZ, bytesZ⟩ := by
 unfold objRTo objTo
 rw [slotsTo_zero]
theorem objR_next {w : World} {g : Nat} {t : TypeId} {l : List UInt8} {j : Nat} (hj : j < 16) {X : Array Value} (eX : X = (keyOf (l.drop (12 + 20 * j))).cells.toArray) (h : Blk w g t (objRTo l j).cells.toArray) :
  Blk (w.setCells g (3 + j * 6) X.toList) g t (objRTo l (j + 1)).cells.toArray := by
 have h6 : X.toList.length = 6 := by rw [eX]; rfl
 have h1 := setCells_blk g t X.toList (3 + j * 6) w _ h (by rw [List.size_toArray, ObjD.len (objRTo_ok l j), h6]; omega)
 have e1 : X.toList = (keyOf (l.drop (12 + 20 * j))).cells := by rw [eX]
 rw [e1] at h1 ⊢
 rw [List.toList_toArray, obj_slot_set (objRTo l j) j (keyOf (l.drop (12 + 20 * j))) (by show j < (slotsTo l j).length; rw [slotsTo_len]; exact hj)] at h1
 have e2 : ({ objRTo l j with slots := (objRTo l j).slots.set j (keyOf (l.drop (12 + 20 * j))) } : ObjD) = objRTo l (j + 1) := by
  unfold objRTo objTo
  simp only
  rw [slotsTo_set]
 rw [e2] at h1
 exact h1
/-- its bytes when m of them are set -/
def bytesTo (l : List UInt8) (m : Nat) : List UInt8 := (l.drop 332).take m ++ List.replicate (64 - m) 0
theorem bytesTo_len (l : List UInt8) (h : l.length = 508) (m : Nat) (hm : m ≤ 64) : (bytesTo l m).length = 64 := by
 unfold bytesTo
 rw [List.length_append, List.length_take, List.length_drop, List.length_replicate]
 omega
theorem bytesTo_set (l : List UInt8) (h : l.length = 508) (m : Nat) (hm : m < 64) (c : UInt8) (hc : l[332 + m]? = some c) : (bytesTo l m).set m c = bytesTo l (m + 1) := by
 unfold bytesTo
 have ht : ((l.drop 332).take m).length = m := by rw [List.length_take, List.length_drop]; omega
 have hd : (l.drop 332)[m]? = some c := by rw [List.getElem?_drop]; exact hc
 rw [List.set_append_right _ _ (by omega), ht, Nat.sub_self, List.take_add_one, hd, show 64 - m = (64 - (m + 1)) + 1 by omega, List.replicate_succ]
 simp
def objRB (l : List UInt8) (m : Nat) : ObjD := { objRTo l 16 with bytes := bytesTo l m }
theorem objRB_ok (l : List UInt8) (h : l.length = 508) (m : Nat) (hm : m ≤ 64) : (objRB l m).ok := ⟨slotsTo_len l 16, bytesTo_len l h m hm⟩
theorem objRB_zero (l : List UInt8) : objRB l 0 = objRTo l 16 := by
 unfold objRB
 rw [show bytesTo l 0 = bytesZ by unfold bytesTo bytesZ; simp]
 rfl
theorem objRB_all (l : List UInt8) (h : l.length = 508) : objRB l 64 = objR l := by
 unfold objRB objRTo objR
 rw [show bytesTo l 64 = (objOf l).bytes by unfold bytesTo objOf; simp]
 unfold objTo
 simp only
 rw [slotsTo_all]
 rfl
theorem objRB_set (l : List UInt8) (h : l.length = 508) (m : Nat) (hm : m < 64) (c : UInt8) (hc : l[332 + m]? = some c) : (objRB l m).cells.toArray.setIfInBounds (99 + m) (vu8 c) = (objRB l (m + 1)).cells.toArray := by
 have hp : ([Value.int .i64 (objRB l m).kd, .int .i64 (objRB l m).ct, .int .i64 (objRB l m).cl] ++ slotCells (objRB l m).slots).length = 99 := by
  rw [List.length_append, slotCells_len, show (objRB l m).slots.length = 16 from slotsTo_len l 16]
  rfl
 have e : ∀ k, (objRB l k).cells = ([Value.int .i64 (objRB l m).kd, .int .i64 (objRB l m).ct, .int .i64 (objRB l m).cl] ++ slotCells (objRB l m).slots) ++ (bytesTo l k).map vu8 := fun k => rfl
 rw [List.setIfInBounds_toArray, e m, e (m + 1), List.set_append_right _ _ (by omega), hp, Nat.add_sub_cancel_left, ← List.map_set, bytesTo_set l h m hm c hc]
theorem objR_code (l : List UInt8) (h : l.length = 508) {n : Int} (hc : codeB l n = true) : objR l = objOf l := by
 unfold codeB at hc
 rw [Bool.and_eq_true, Bool.and_eq_true] at hc
 have hkd := (objB_facts hc.2.2).1.2
 exact objR_of l h (first_lt l h (by have : ((leN ((l.drop 0).take 4) : Nat) : Int) ≤ 3 := hkd; omega))
theorem objOf_vals (l : List UInt8) : ∀ x ∈ (objOf l).slots, I64 x.v := by
 intro x hx
 unfold objOf at hx
 obtain ⟨i, _, rfl⟩ := List.mem_map.1 hx
 unfold keyOf I64
 simp only [IntKind.wrap_i64]
 omega
/-- a sector that is sealed is some bytes' if its first 508 bytes are these bytes, with noughts behind -/
theorem sector_back (b l : List UInt8) (hb : b.length = 512) (hs : sealedB b = true) (hl : l.length = 396) : sectorL l = b ↔ padL l = b.take 508 := by
 have hp : (padL l).length = 508 := padL_len l (by omega)
 unfold sectorL sealOf
 constructor
 ·intro e
  have := congrArg (List.take 508) e
  rwa [List.take_left' hp] at this
 ·intro e
  rw [e]
  unfold sealedB at hs
  rw [hb] at hs
  simp only [Bool.and_eq_true, decide_eq_true_eq, beq_iff_eq] at hs
  rw [← hs.2]
  have h4 := leB_leN (b.drop 508)
  rw [List.length_drop, hb] at h4
  rw [h4, List.take_append_drop]
theorem bytes512_equalIn (d : Nat) (l m : List UInt8) (hl : l.length = 512) (hm : m.length = 512) (w : World) : (Op.equalIn (d + 2) 84 (.agg (l.map vu8).toArray) (.agg (m.map vu8).toArray)).run Tryz.prog w = .ok (l == m) w :=
 run_equalIn_bytes w d _ _ 512 Tryz.underlying84 Tryz.underlying5 (fun w => by kernel_rfl) l m hl hm
end Go.Proofs.YtemcgfncahccgaaGreat
namespace Go.Proofs.YtemcgfncahccgaaGreat
open Go.RowKit

/-- where the reference's Get stands when j keys are set -/
def GR (w : World) (b : List UInt8) (G : Nat) (wr : World) (j : Nat) : Prop :=
 Below w.heap.size w wr ∧ Blk wr w.heap.size 84 (b.map vu8).toArray ∧ Blk wr (w.heap.size + 1) 47 objZ.cells.toArray ∧ Blk wr G 47 (objRTo (b.take 508) j).cells.toArray ∧ w.heap.size + 2 ≤ G
/-- where it stands when m bytes are set -/
def GB (w : World) (b : List UInt8) (G : Nat) (wr : World) (m : Nat) : Prop :=
 Below w.heap.size w wr ∧ Blk wr w.heap.size 84 (b.map vu8).toArray ∧ Blk wr (w.heap.size + 1) 47 objZ.cells.toArray ∧ Blk wr G 47 (objRB (b.take 508) m).cells.toArray ∧ w.heap.size + 2 ≤ G
set_option maxRecDepth 100000 in
theorem obj_built (k c l : Int) : Tryz.prog.built 47 [(0, .int .i64 k), (1, .int .i64 c), (2, .int .i64 l)] = some (ObjD.cells ⟨k, c, l, slotsZ, bytesZ⟩).toArray := by
 kernel_rfl
set_option maxRecDepth 100000 in
set_option maxHeartbeats 4000000 in
theorem rget_code (b : List UInt8) (hb : b.length = 512) (n : Int) (w : World) (hn : ¬ (n < 1 ∨ 64 < n)) (hsl : sealedB b = true) :
  Calls Tryz.prog 85 #[sectorV b, .int .i64 n] w fun e w' => e = .returned (.tuple #[.agg (getO b n).cells.toArray, .int .i64 (getE b n)]) ∧ Below w.heap.size w w' := by
 obtain ⟨W0, eW0⟩ : ∃ W, W = (w.alloc (.cells (b.map vu8).toArray 84)).alloc (.cells Tryz.zeroCells47 47) := ⟨_, rfl⟩
 have hw0 : Below w.heap.size w W0 := by rw [eW0]; exact ((Below.refl _ w).alloc (Nat.le_refl _) _).alloc (by simp) _
 have k0 : Blk W0 w.heap.size 84 (b.map vu8).toArray := by rw [eW0]; exact (Blk.new w _ _).alloc _
 have k1 : Blk W0 (w.heap.size + 1) 47 objZ.cells.toArray := by rw [eW0, ← zeroObj]; exact Blk.new2 w _ _ _
 have hzi : (Tryz.prog.info? 47).map (·.size) = some objZ.cells.toArray.size := by rw [← zeroObj]; exact objZ_info
 have hz1 : objZ.cells.toArray.all (·.oneCell') = true := by rw [← zeroObj]; exact objZ_one
 have HO1 := Lib.hid k1
 have HB0 := Lib.hid k0
 have HW0 := Lib.hid hw0
 have h1 : ¬ n < 1 := by omega
 have h2 : ¬ 64 < n := by omega
 have hs0 : W0.heap.size = w.heap.size + 2 := by rw [eW0]; simp
 have hin : ∀ X : World, Blk X w.heap.size 84 (b.map vu8).toArray → w.heap.size + 1 ≤ X.heap.size → BytesIn X X.heap.size (.slice (some ⟨w.heap.size, 0, none⟩) b.length 512) b := fun X hX hs => by
  refine ⟨by rw [hb]; unfold maxLen; omega, some ⟨w.heap.size, 0, none⟩, 512, rfl, by omega, fun j c hj => ⟨w.heap.size, 0, rfl, by omega, ?_⟩⟩
  exact hX.cell_is (0 + j) (by simp [hj])
 have HV := hin W0 k0 (by omega)
 rw [hb] at HV
 have HSL := Lib.hid (rsealed_any _ b W0 HV (by omega))
 rw [hsl] at HSL
 have HIN := Lib.hid hin
 have hp0 : b[0]? = some (b[0]'(by omega)) := List.getElem?_eq_getElem (by omega)
 have hk0 : (leN ((b.drop 0).take 1) : Int) = ((b[0]'(by omega)).toNat : Int) := by rw [leN_one b 0 (by omega)]
 generalize b[0]'(by omega) = p at *
 have HK0 := Lib.hid hk0
 have HP0 := Lib.hid hp0
 have HBL := Lib.hid hb
 unfold sectorV
 clear hn k1 hw0 hb HV k0 hin hk0 hp0
 go_enter Tryz.func85, Tryz.ntmps85
 go_upto_region 1 with fail
 rw [← eW0]
 clear eW0
 go_wp2_with fail
 refine HSL.out.mono ?_; rintro e w1 ⟨u, rfl, hb1⟩
 have k11 := HO1.out.below hb1 HO1.out.lt
 have k01 := HB0.out.below hb1 HB0.out.lt
 have hw1 := HW0.out.trans (hb1.mono HW0.out.size)
 go_wp2_with fail
 have hs1 := hb1.size
 have hl4 : ∀ i k, i + k ≤ 508 → ((b.drop i).take k).length = k := fun i k h => by rw [List.length_take, List.length_drop, HBL.out]; omega
 have hnum : ∀ (i k : Nat) (hi : 0 < i) (h8 : k ≤ 8) (hik : i + k ≤ 508) (X : World), Blk X w.heap.size 84 (b.map vu8).toArray → w.heap.size + 1 ≤ X.heap.size → Calls Tryz.prog 112 #[.slice (some ⟨w.heap.size, i, none⟩) k (512 - i)] X fun e w'' => e = .returned (.int .u64 (leN ((b.drop i).take k))) ∧ X = w'' := by
  intro i k hi h8 hik X hX hs
  have hc := (HIN.out X hX hs).cut i (i + k) (by omega) (by rw [HBL.out]; omega) (by rw [HBL.out]; omega)
  rw [if_neg (by omega), Option.map_some, add_at, Nat.add_sub_cancel_left, Nat.zero_add] at hc
  exact rnum5_any _ _ X hc (by rw [hl4 i k hik]; exact h8)
 have H4 := Lib.hid (hnum 4 4 (by omega) (by omega) (by omega))
 have H8 := Lib.hid (hnum 8 4 (by omega) (by omega) (by omega))
 have l4 := leN_lt ((b.drop 4).take 4)
 have l8 := leN_lt ((b.drop 8).take 4)
 rw [hl4 4 4 (by omega)] at l4
 rw [hl4 8 4 (by omega)] at l8
 obtain ⟨C, eC⟩ : ∃ C, C = leN ((b.drop 4).take 4) := ⟨_, rfl⟩
 obtain ⟨L, eL⟩ : ∃ C, C = leN ((b.drop 8).take 4) := ⟨_, rfl⟩
 rw [← eC] at H4 l4
 rw [← eL] at H8 l8
 have HC := Lib.hid eC
 have HL := Lib.hid eL
 have sP : IntKind.i64.wrap (p.toNat : Int) = p.toNat := by have := u8_lt p; rw [IntKind.wrap_i64]; omega
 have sC : IntKind.i64.wrap (C : Int) = C := by rw [IntKind.wrap_i64]; omega
 have sL : IntKind.i64.wrap (L : Int) = L := by rw [IntKind.wrap_i64]; omega
 obtain ⟨ob, eob⟩ : ∃ ob, ob = (ObjD.cells ⟨p.toNat, C, L, slotsZ, bytesZ⟩).toArray := ⟨_, rfl⟩
 have hok0 : (⟨p.toNat, C, L, slotsZ, bytesZ⟩ : ObjD).ok := ⟨by unfold slotsZ; exact List.length_replicate, rfl⟩
 have hoi : (Tryz.prog.info? 47).map (·.size) = some ob.size := by rw [eob, List.size_toArray, ObjD.len hok0]; kernel_rfl
 have ho1 : ob.all (·.oneCell') = true := by rw [eob]; simp only [List.all_toArray]; exact List.all_eq_true.2 fun v hv => obj_one _ v hv
 have hosz : (Tryz.zeroCells47 : Array Value).size = ob.size := by
  have e : (Tryz.zeroCells47 : Array Value).size = 163 := by kernel_rfl
  rw [e, eob, List.size_toArray, ObjD.len hok0]
 have HEOB := Lib.hid eob
 have hbt := obj_built p.toNat C L
 rw [← eob] at hbt
 have HBT := Lib.hid hbt
 have c0 := k01.cell_is 0 (v := vu8 p) (by simp [HP0.out])
 have HSd := Lib.hid (show (fun w' => Below w.heap.size w w' ∧ w.heap.size + 1 ≤ w'.heap.size ∧ Blk w' w.heap.size 84 (b.map vu8).toArray ∧ Blk w' (w.heap.size + 1) 47 objZ.cells.toArray ∧ w'.cell? ⟨w.heap.size, 0, none⟩ = some (vu8 p)) w1.drew from ⟨hw1.drew, by show _ ≤ w1.heap.size; omega, k01.drew, k11.drew, c0⟩)
 clear hnum hl4 l4 l8 eC eL eob hbt hs1
 have HSA : ∀ (X : World) (o : Obj), ((fun w' => Below w.heap.size w w' ∧ w.heap.size + 1 ≤ w'.heap.size ∧ Blk w' w.heap.size 84 (b.map vu8).toArray ∧ Blk w' (w.heap.size + 1) 47 objZ.cells.toArray ∧ w'.cell? ⟨w.heap.size, 0, none⟩ = some (vu8 p))) X → ((fun w' => Below w.heap.size w w' ∧ w.heap.size + 1 ≤ w'.heap.size ∧ Blk w' w.heap.size 84 (b.map vu8).toArray ∧ Blk w' (w.heap.size + 1) 47 objZ.cells.toArray ∧ w'.cell? ⟨w.heap.size, 0, none⟩ = some (vu8 p))) (X.alloc o) := by
  intro X o h
  have hb := (Below.refl X.heap.size X).alloc (Nat.le_refl _) o
  have hs := h.1.size
  have hlt := h.2.2.1.lt
  exact ⟨h.1.alloc hs _, by have := h.2.1; simp; omega, h.2.2.1.alloc _, h.2.2.2.1.alloc _, (hb.cell (p := ⟨w.heap.size, 0, none⟩) hlt).trans h.2.2.2.2⟩
 have HSR : ∀ (X : World) (cs : Array Value), ((fun w' => Below w.heap.size w w' ∧ w.heap.size + 1 ≤ w'.heap.size ∧ Blk w' w.heap.size 84 (b.map vu8).toArray ∧ Blk w' (w.heap.size + 1) 47 objZ.cells.toArray ∧ w'.cell? ⟨w.heap.size, 0, none⟩ = some (vu8 p))) X → ((fun w' => Below w.heap.size w w' ∧ w.heap.size + 1 ≤ w'.heap.size ∧ Blk w' w.heap.size 84 (b.map vu8).toArray ∧ Blk w' (w.heap.size + 1) 47 objZ.cells.toArray ∧ w'.cell? ⟨w.heap.size, 0, none⟩ = some (vu8 p))) (X.setRow w1.heap.size cs) := by
  intro X cs h
  have hb := below_row (Below.refl w1.heap.size X) cs (Nat.le_refl _)
  have hlt := k11.lt
  exact ⟨below_row h.1 cs (by omega), by have := h.2.1; simpa using this, h.2.2.1.row_far _ (by omega), h.2.2.2.1.row_far _ (by omega), (hb.cell (p := ⟨w.heap.size, 0, none⟩) (show w.heap.size < _ by omega)).trans h.2.2.2.2⟩
 have HNB := Lib.hid (Blk.new w1.drew 47 Tryz.zeroCells47)
 obtain ⟨F, eF⟩ : ∃ F, F = (w1.drew.alloc (.cells Tryz.zeroCells47 47)).setRow w1.heap.size ob := ⟨_, rfl⟩
 have HF := Lib.hid (show ((fun w' => Below w.heap.size w w' ∧ w.heap.size + 1 ≤ w'.heap.size ∧ Blk w' w.heap.size 84 (b.map vu8).toArray ∧ Blk w' (w.heap.size + 1) 47 objZ.cells.toArray ∧ w'.cell? ⟨w.heap.size, 0, none⟩ = some (vu8 p))) F ∧ Blk F w1.heap.size 47 ob from by rw [eF]; exact ⟨HSR _ _ (HSA _ _ HSd.out), HNB.out.row _⟩)
 have hSd := HSd.out
 refine' wp_merge (ι := Unit) (fun _ => (_ : Act)) (fun _ X => X = F) ?_ ?_
 rotate_left 1
 ·skip
  refine wp_region_held_drew (S := (fun w' => Below w.heap.size w w' ∧ w.heap.size + 1 ≤ w'.heap.size ∧ Blk w' w.heap.size 84 (b.map vu8).toArray ∧ Blk w' (w.heap.size + 1) 47 objZ.cells.toArray ∧ w'.cell? ⟨w.heap.size, 0, none⟩ = some (vu8 p))) (by kernel_rfl) (by first | exact hSd | ((try dsimp only); exact hSd)) (fun hHeld => ?_)
  refine tk 0 ?_
  refine tk 3 ?_
  refine tk 6 ?_
  refine tk 1 ?_
  refine tk 2 ?_
  refine wpAnyH_ready (rs := [4, 10]) (by kernel_rfl) (by simp) ?_
  refine (AllReadyH.cons rfl (fun K hK => ?_) (AllReadyH.cons rfl (fun K hK => ?_) AllReadyH.nil))
  ·skip
   go_simp
   refine (H4.out _ hHeld.2.2.1 (by have := hHeld.2.1; omega)).mono ?_; rintro e w' ⟨rfl, hwc⟩; subst hwc
   go_wp2_with fail
   refine hK.out _ _ (by first | exact hHeld | ((try dsimp only); exact hHeld)) (fun hHeld => ?_)
   clear hK K
   try simp only [Act.put, pz0, pz1, pz2, pz3, pz4, pz5]
   refine tk 5 ?_
   refine wpAnyH_ready (rs := [7, 10]) (by kernel_rfl) (by simp) ?_
   refine (AllReadyH.cons rfl (fun K hK => ?_) (AllReadyH.cons rfl (fun K hK => ?_) AllReadyH.nil))
   ·skip
    go_simp
    refine (H8.out _ hHeld.2.2.1 (by have := hHeld.2.1; omega)).mono ?_; rintro e w' ⟨rfl, hwc⟩; subst hwc
    go_wp2_with fail
    refine hK.out _ _ (by first | exact hHeld | ((try dsimp only); exact hHeld)) (fun hHeld => ?_)
    clear hK K
    try simp only [Act.put, pz0, pz1, pz2, pz3, pz4, pz5]
    refine tk 8 ?_
    refine ty 9 rfl (yieldsIf_build (by rfl) 47 _ rfl ob (by exact HBT.out)) ?_
    refine rd 10 fun K hK => ?_
    go_simp
    refine hK.out _ _ (by first | exact HSA _ _ hHeld | ((try dsimp only); exact HSA _ _ hHeld)) (fun hHeld => ?_)
    clear hK K
    try simp only [Act.put, pz0, pz1, pz2, pz3, pz4, pz5]
    refine rd 11 fun K hK => ?_
    refine wp_store_row 47 _ _ rfl w1.heap.size ob rfl rfl 47 _ HNB.out hoi hosz ho1 ?_
    refine hK.out _ _ (by first | exact HSR _ _ hHeld | ((try dsimp only); exact HSR _ _ hHeld)) (fun hHeld => ?_)
    clear hK K
    try simp only [Act.put, pz0, pz1, pz2, pz3, pz4, pz5]
    refine wpAnyH_done (by kernel_rfl) ?_ _
    try simp only [Act.put, pz0, pz1, pz2, pz3, pz4, pz5]
    refine ⟨(), ?_, eF.symm⟩
    first | with_reducible rfl | trivial
   ·skip
    go_simp
    refine hK.out _ _ (by first | exact HSA _ _ hHeld | ((try dsimp only); exact HSA _ _ hHeld)) (fun hHeld => ?_)
    clear hK K
    try simp only [Act.put, pz0, pz1, pz2, pz3, pz4, pz5]
    refine rd 7 fun K hK => ?_
    go_simp
    refine (H8.out _ hHeld.2.2.1 (by have := hHeld.2.1; omega)).mono ?_; rintro e w' ⟨rfl, hwc⟩; subst hwc
    go_wp2_with fail
    refine hK.out _ _ (by first | exact hHeld | ((try dsimp only); exact hHeld)) (fun hHeld => ?_)
    clear hK K
    try simp only [Act.put, pz0, pz1, pz2, pz3, pz4, pz5]
    refine tk 8 ?_
    refine ty 9 rfl (yieldsIf_build (by rfl) 47 _ rfl ob (by exact HBT.out)) ?_
    refine rd 11 fun K hK => ?_
    refine wp_store_row 47 _ _ rfl w1.heap.size ob rfl rfl 47 _ HNB.out hoi hosz ho1 ?_
    refine hK.out _ _ (by first | exact HSR _ _ hHeld | ((try dsimp only); exact HSR _ _ hHeld)) (fun hHeld => ?_)
    clear hK K
    try simp only [Act.put, pz0, pz1, pz2, pz3, pz4, pz5]
    refine wpAnyH_done (by kernel_rfl) ?_ _
    try simp only [Act.put, pz0, pz1, pz2, pz3, pz4, pz5]
    refine ⟨(), ?_, eF.symm⟩
    first | with_reducible rfl | trivial
  ·skip
   go_simp
   refine hK.out _ _ (by first | exact HSA _ _ hHeld | ((try dsimp only); exact HSA _ _ hHeld)) (fun hHeld => ?_)
   clear hK K
   try simp only [Act.put, pz0, pz1, pz2, pz3, pz4, pz5]
   refine rd 4 fun K hK => ?_
   go_simp
   refine (H4.out _ hHeld.2.2.1 (by have := hHeld.2.1; omega)).mono ?_; rintro e w' ⟨rfl, hwc⟩; subst hwc
   go_wp2_with fail
   refine hK.out _ _ (by first | exact hHeld | ((try dsimp only); exact hHeld)) (fun hHeld => ?_)
   clear hK K
   try simp only [Act.put, pz0, pz1, pz2, pz3, pz4, pz5]
   refine tk 5 ?_
   refine rd 7 fun K hK => ?_
   go_simp
   refine (H8.out _ hHeld.2.2.1 (by have := hHeld.2.1; omega)).mono ?_; rintro e w' ⟨rfl, hwc⟩; subst hwc
   go_wp2_with fail
   refine hK.out _ _ (by first | exact hHeld | ((try dsimp only); exact hHeld)) (fun hHeld => ?_)
   clear hK K
   try simp only [Act.put, pz0, pz1, pz2, pz3, pz4, pz5]
   refine tk 8 ?_
   refine ty 9 rfl (yieldsIf_build (by rfl) 47 _ rfl ob (by exact HBT.out)) ?_
   refine rd 11 fun K hK => ?_
   refine wp_store_row 47 _ _ rfl w1.heap.size ob rfl rfl 47 _ HNB.out hoi hosz ho1 ?_
   refine hK.out _ _ (by first | exact HSR _ _ hHeld | ((try dsimp only); exact HSR _ _ hHeld)) (fun hHeld => ?_)
   clear hK K
   try simp only [Act.put, pz0, pz1, pz2, pz3, pz4, pz5]
   refine wpAnyH_done (by kernel_rfl) ?_ _
   try simp only [Act.put, pz0, pz1, pz2, pz3, pz4, pz5]
   refine ⟨(), ?_, eF.symm⟩
   first | with_reducible rfl | trivial
 clear HNB HSA HSR eF H4 H8
 rintro _ X hX
 subst hX
 have hob : ob = (objRTo (b.take 508) 0).cells.toArray := by
  rw [objRTo_zero, cut_take b 508 0 1 (by omega), cut_take b 508 4 4 (by omega), cut_take b 508 8 4 (by omega), HEOB.out, HK0.out, HC.out, HL.out]
 have hg0 : GR w b w1.heap.size X 0 := ⟨HF.out.1.1, HF.out.1.2.2.1, HF.out.1.2.2.2.1, by rw [← hob]; exact HF.out.2, by have := k11.lt; omega⟩
 obtain ⟨G, eG⟩ : ∃ G, G = w1.heap.size := ⟨_, rfl⟩
 rw [← eG] at hg0
 try rw [← eG]
 have HG0 := Lib.hid hg0
 clear hob hg0 eG HF
 go_wp2_with fail
 go_loopw [9] (fun i wr => ∃ (j : Nat), j ≤ 16 ∧ i = .int .i64 (j : Int) ∧ ((List.range j).all fun i => okK (keyOf ((b.take 508).drop (12 + 20 * i)))) = true ∧ GR w b G wr j) (fun i _ => 16 - (intOf i).toNat)
 case atStart => exact ⟨0, Nat.zero_le _, rfl, rfl, HG0.out⟩
 case round =>
  obtain ⟨j, hj, rfl, hall, hI⟩ := hrel
  have I := Lib.hid hI
  have HALL := Lib.hid hall
  clear hI hall
  by_cases hlt : j < 16
  ·obtain ⟨A, eA⟩ : ∃ A : Nat, A = 12 + 20 * j := ⟨_, rfl⟩
   have e1 : (12 : Int) + 20 * (j : Int) = (A : Int) := by omega
   have e2 : (32 : Int) + 20 * (j : Int) = (A : Int) + 20 := by omega
   have a0 : (0 : Int) ≤ (A : Int) := by omega
   have a1 : A ≤ A + 20 := by omega
   have a2 : A + 20 ≤ 512 := by omega
   have a3 : (A : Int) ≤ (A : Int) + 20 := by omega
   have a4 : (A : Int) + 20 ≤ 512 := by omega
   have a6 : (A : Int) ≤ 512 := by omega
   have a7 : (A : Int) ≤ 492 := by omega
   have a5 : ¬ 512 = A := by omega
   have HA := Lib.hid eA
   clear eA
   have hbin := (HIN.out wr I.out.2.1 (by have := I.out.2.1.lt; omega)).cut A (A + 20) (by omega) (by rw [HBL.out]; omega) (by rw [HBL.out]; omega)
   rw [if_neg (by omega), Option.map_some, add_at, Nat.add_sub_cancel_left, Nat.zero_add] at hbin
   have hcall := rgetkey_any _ _ wr hbin (by rw [List.length_take, List.length_drop, HBL.out]; omega)
   rw [← keyOf_cut b 508 A (by omega)] at hcall
   obtain ⟨kx, ekx⟩ : ∃ kx, kx = keyOf ((b.take 508).drop A) := ⟨_, rfl⟩
   rw [← ekx] at hcall
   have HKX := Lib.hid ekx
   have HCALL := Lib.hid hcall
   clear hbin hcall ekx
   go_wp2_with fail
   refine HCALL.out.mono ?_
   rintro e w2 ⟨rfl, hb2⟩
   have r0 := I.out.2.1.below hb2 I.out.2.1.lt
   have r1 := I.out.2.2.1.below hb2 I.out.2.2.1.lt
   have rG := I.out.2.2.2.1.below hb2 I.out.2.2.2.1.lt
   have rB := I.out.1.trans (hb2.mono I.out.1.size)
   cases hok : okK kx
   ·have HX := Lib.hid (show getE b n = 151 by
     unfold getE
     rw [if_neg (by omega), if_pos hsl, show codeB (b.take 508) n = false by unfold codeB; rw [all_range_false (p := fun i => okK (keyOf ((b.take 508).drop (12 + 20 * i)))) hlt (by rw [← HA.out, ← HKX.out]; exact hok), Bool.false_and]]
     rfl)
    simp only [Bool.false_eq_true, if_false]
    go_wp2_with (first
     | (refine wpList_store_row rfl 43 _ _ rfl w2.heap.size keyZ.cells.toArray rfl rfl 43 _ (heap_alloc_new w2 _) (by show _ = some 6; kernel_rfl) rfl (by simp [keyZ, KeyD.cells, Value.oneCell']) ?_; rw [World.setRow_alloc_new])
     | (refine wpList_store_row rfl 47 _ _ rfl (w.heap.size + 1) objZ.cells.toArray rfl rfl 47 _ (r1.alloc _) hzi rfl hz1 ?_))
    exact bodyPost_ret (results_row_tmp Tryz.results85 _ _ (w.heap.size + 1) 47 objZ.cells.toArray (0, 0) _ rfl ((r1.alloc _).row _) Tryz.underlying47 rfl hzi _ rfl) rfl ⟨by rw [HX.out, getO_no HX.out (by decide)]; rfl, below_row (rB.alloc rB.size _) _ (by omega)⟩
   ·have HOK := Lib.hid (show ((List.range (j + 1)).all fun i => okK (keyOf ((b.take 508).drop (12 + 20 * i)))) = true by rw [List.range_succ, List.all_append, HALL.out, List.all_cons, ← HA.out, ← HKX.out, hok]; rfl)
    simp only [if_true]
    obtain ⟨X, eX⟩ : ∃ X, X = kx.cells.toArray := ⟨_, rfl⟩
    rw [← eX]
    have hki : (Tryz.prog.info? 43).map (·.size) = some X.size := by rw [eX]; kernel_rfl
    have h1k : X.all (·.oneCell') = true := by rw [eX, List.all_toArray]; rfl
    have hX6 : X.size = 6 := by rw [eX]; rfl
    have h163 : (objRTo (b.take 508) j).cells.toArray.size = 163 := by rw [List.size_toArray]; exact ObjD.len (objRTo_ok _ j)
    have hTH := there_blk (rG.alloc (.cells X 43)) (3 + j * 6) X.size (by rw [h163, hX6]; omega)
    have HTH := Lib.hid hTH
    have HXK := Lib.hid (heap_alloc_new w2 (.cells X 43))
    have HEX := Lib.hid eX
    have HKI := Lib.hid hki
    have hzk : keyZ.cells.toArray.size = X.size := by rw [hX6]; rfl
    clear eX h163 hX6 hTH hki
    go_wp2_with (first
     | (refine wpList_store_row rfl 43 _ _ rfl w2.heap.size X rfl rfl 43 _ (heap_alloc_new w2 _) HKI.out hzk h1k ?_; rw [World.setRow_alloc_new])
     | (refine wpList_load_row rfl 43 _ rfl w2.heap.size rfl 43 X (0, 0) _ HXK.out Tryz.underlying43 rfl HKI.out ?_)
     | (refine wpList_store_mid rfl 43 _ _ rfl G (3 + j * 6) X rfl rfl HTH.out HKI.out h1k ?_))
    have hgw := I.out.2.2.2.2
    have hwX : Below w.heap.size w (w2.alloc (.cells X 43)) := rB.alloc rB.size _
    have ho : Out (fun i => i = G) (w2.alloc (.cells X 43)) ((w2.alloc (.cells X 43)).setCells G (3 + j * 6) X.toList) := out_setCells (F := fun i => i = G) _ rfl _ _ _
    refine ⟨⟨j + 1, by omega, by go_num, HOK.out, hwX.trans (ho.below (B := w.heap.size) hwX.size (fun i hi e => by omega)), ho.blk (r0.alloc _) (by omega), ho.blk (r1.alloc _) (by omega), objR_next hlt (by rw [HEX.out, HKX.out, HA.out]) (rG.alloc _), hgw⟩, by simp [intOf]; omega⟩
  ·obtain rfl : j = 16 := by omega
   have hgb : GB w b G wr 0 := ⟨I.out.1, I.out.2.1, I.out.2.2.1, by rw [objRB_zero]; exact I.out.2.2.2.1, I.out.2.2.2.2⟩
   have HGB := Lib.hid hgb
   clear hgb I
   go_wp2_with fail
   go_loopw [12] (fun i wr => ∃ (m : Nat), m ≤ 64 ∧ i = .int .i64 (m : Int) ∧ GB w b G wr m) (fun i _ => 64 - (intOf i).toNat)
   case atStart => exact ⟨0, Nat.zero_le _, rfl, HGB.out⟩
   case round =>
    obtain ⟨m, hm, rfl, hI⟩ := hrel
    have I := Lib.hid hI
    clear hI
    by_cases hlt : m < 64
    ·obtain ⟨c, hc⟩ : ∃ c, b[332 + m]? = some c := ⟨_, List.getElem?_eq_getElem (by rw [HBL.out]; omega)⟩
     obtain ⟨A, eA⟩ : ∃ A : Nat, A = 332 + m := ⟨_, rfl⟩
     have hcell := I.out.2.1.cell_is A (v := vu8 c) (by rw [eA]; simp [hc])
     have HCC := Lib.hid (show (b.take 508)[332 + m]? = some c by rw [List.getElem?_take, if_pos (by omega)]; exact hc)
     have e1 : (332 : Int) + (m : Int) = (A : Int) := by omega
     have a0 : (0 : Int) ≤ (A : Int) := by omega
     have a1 : (A : Int) < 512 := by omega
     have a2 : A < 512 := by omega
     have m1 : (m : Int) < 64 := by omega
     have hl5 : (b.take 508).length = 508 := by rw [List.length_take, HBL.out]; rfl
     obtain ⟨u0, hu0⟩ : ∃ u0, (objRB (b.take 508) m).cells.toArray[99 + m]? = some u0 := by
      have hz : (objRB (b.take 508) m).cells.toArray.size = 163 := by rw [List.size_toArray]; exact ObjD.len (objRB_ok _ hl5 m hm)
      exact ⟨_, Array.getElem?_eq_getElem (by omega)⟩
     have hcG := I.out.2.2.2.1.cell_is (99 + m) hu0
     have hfG := I.out.2.2.2.1.frozen (99 + m)
     have hset := (I.out.2.2.2.1).set_ (99 + m) (vu8 c)
     rw [objRB_set _ hl5 m hlt c HCC.out] at hset
     have HSET := Lib.hid hset
     clear hc eA hset hu0
     go_wp2_with fail
     have hgw := I.out.2.2.2.2
     exact ⟨⟨m + 1, by omega, by go_num, I.out.1.setCell (p := ⟨G, 99 + m, none⟩) (by show w.heap.size ≤ G; omega) _, I.out.2.1.far (p := ⟨G, 99 + m, none⟩) (by show w.heap.size ≠ G; omega) _, I.out.2.2.1.far (p := ⟨G, 99 + m, none⟩) (by show w.heap.size + 1 ≠ G; omega) _, HSET.out, hgw⟩, by simp [intOf]; omega⟩
    ·obtain rfl : m = 64 := by omega
     have hl5 : (b.take 508).length = 508 := by rw [List.length_take, HBL.out]; rfl
     obtain ⟨ro, ero⟩ : ∃ ro, ro = objR (b.take 508) := ⟨_, rfl⟩
     have k5 : Blk wr G 47 ro.cells.toArray := by rw [ero, ← objRB_all _ hl5]; exact I.out.2.2.2.1
     have hro : ro.ok := by rw [ero, ← objRB_all _ hl5]; exact objRB_ok _ hl5 64 (by omega)
     have hrr : rightsOk ro := by rw [ero]; exact objOf_rights (b.take 508)
     have hrv : ∀ x ∈ ro.slots, I64 x.v := by rw [ero]; exact objOf_vals (b.take 508)
     have hiff := getR_iff (b.take 508) hl5 n (fun i hi => List.all_eq_true.1 HALL.out i (List.mem_range.2 hi))
     rw [← ero] at hiff
     have hsec := sector_back b (objL ro) HBL.out hsl (objL_len ro hro)
     obtain ⟨cs, ecs⟩ : ∃ cs, cs = ro.cells.toArray := ⟨_, rfl⟩
     have hcs : (Tryz.prog.info? 47).map (·.size) = some cs.size := by rw [ecs, List.size_toArray, ObjD.len hro]; kernel_rfl
     have hcz : objZ.cells.toArray.size = cs.size := by rw [ecs, List.size_toArray, List.size_toArray, ObjD.len hro]; rfl
     have hc1 : cs.all (·.oneCell') = true := by rw [ecs]; simp only [List.all_toArray]; exact List.all_eq_true.2 fun v hv => obj_one _ v hv
     obtain ⟨B, no, eB, hput⟩ : ∃ (B : List UInt8) (no : Int), (B.length = 512 ∧ (no = if objB ro n = true then 0 else 2) ∧ (objB ro n = true → B = sectorL (objL ro))) ∧ ∀ W, Calls Tryz.prog 33 #[.agg ro.cells.toArray, .int .i64 n] W fun e w' => e = .returned (.tuple #[.agg (B.map vu8).toArray, .int .i64 no]) ∧ Below W.heap.size W w' := by
      cases hy : objB ro n
      ·exact ⟨sector0, 2, ⟨List.length_replicate, rfl, fun h => by cases h⟩, fun W => rput5_no ro hro hrr n W hy⟩
      ·exact ⟨sectorL (objL ro), 0, ⟨sectorL_len _ (by rw [objL_len ro hro]; omega), rfl, fun _ => rfl⟩, fun W => rput5_yes ro hro hrr hrv n W hy⟩
     have k0 := I.out.2.1
     have k1 := I.out.2.2.1
     have hbw := I.out.1
     have hG := I.out.2.2.2.2
     rw [← ecs] at hput k5
     have HPUT := Lib.hid hput
     have hBs := sector_size B eB.1
     have hB1 := sector_all B
     have hbs := sector_size b HBL.out
     have hz5 : (Tryz.zeroCells84 : Array Value).size = (B.map vu8).toArray.size := by rw [zero111, List.size_toArray, List.size_toArray, List.length_map, List.length_map, eB.1]; rfl
     have heq := fun W => bytes512_equalIn 9998 B b eB.1 HBL.out W
     have HECS := Lib.hid ecs
     have HERO := Lib.hid ero
     have HL5 := Lib.hid hl5
     have HIFF := Lib.hid hiff
     have HSEC := Lib.hid hsec
     have HEB := Lib.hid eB
     clear hput ecs ero hl5 hiff hsec eB heq I HIN HALL
     go_wp2_with (refine wpList_load_row rfl 47 _ rfl G rfl 47 cs (0, 0) _ k5 Tryz.underlying47 rfl hcs ?_)
     refine (HPUT.out wr).mono ?_; rintro e w2 ⟨rfl, hb2⟩
     have r5 := (k5.below hb2 k5.lt).alloc (.cells (B.map vu8).toArray 84)
     have r0 := (k0.below hb2 k0.lt).alloc (.cells (B.map vu8).toArray 84)
     have r1 := (k1.below hb2 k1.lt).alloc (.cells (B.map vu8).toArray 84)
     have rB := (hbw.trans (hb2.mono hbw.size)).alloc (hbw.trans (hb2.mono hbw.size)).size (.cells (B.map vu8).toArray 84)
     have rA : Blk (w2.alloc (.cells (B.map vu8).toArray 84)) w2.heap.size 84 (B.map vu8).toArray := Blk.new w2 _ _
     go_upto_region 19 with (refine wpList_store_row rfl 84 _ _ rfl w2.heap.size (B.map vu8).toArray rfl rfl 84 _ (heap_alloc_new w2 _) hBs hz5 hB1 ?_; rw [World.setRow_alloc_new])
     obtain ⟨W3, eW3⟩ : ∃ W, W = w2.alloc (.cells (B.map vu8).toArray 84) := ⟨_, rfl⟩
     rw [← eW3] at r5 r0 r1 rB rA ⊢
     clear eW3
     have hfin := below_row rB cs (g := w.heap.size + 1) (by omega)
     have hfin0 := below_row rB objZ.cells.toArray (g := w.heap.size + 1) (by omega)
     have gnum : ∀ c, getE b n = c → (codeB (b.take 508) n = true → c = 0) ∧ (codeB (b.take 508) n = false → c = 151) := fun c h => by
      unfold getE at h
      rw [if_neg (by omega), if_pos hsl] at h
      exact ⟨fun hc => by rw [if_pos hc] at h; exact h.symm, fun hc => by rw [hc] at h; exact h.symm⟩
     have HNUM := Lib.hid gnum
     clear gnum
     by_cases hcode : codeB (b.take 508) n = true
     ·obtain ⟨hy, hp⟩ := HIFF.out.2 hcode
      obtain rfl : no = 0 := by rw [HEB.out.2.1, hy]; rfl
      have hBb : (B == b) = true := by rw [HEB.out.2.2 hy]; simpa using HSEC.out.2 hp
      have heq := fun W => bytes512_equalIn 9998 B b HEB.out.1 HBL.out W
      simp only [hBb] at heq
      have HE := Lib.hid ((HNUM.out _ rfl).1 hcode)
      have HO := Lib.hid (show getO b n = ro by unfold getO; rw [if_pos HE.out, HERO.out, objR_code _ HL5.out hcode])
      have HQ := Lib.hid heq
      clear hcode hy hp hBb heq
      go_wp2_with (first
       | (refine wpList_load_midG rfl 84 _ rfl w2.heap.size 0 rfl (B.map vu8).toArray (load_sector HEB.out.1 rA) ?_)
       | (refine wpList_load_midG rfl 84 _ rfl w.heap.size 0 rfl (b.map vu8).toArray (load_sector HBL.out r0) ?_)
       | (refine wpList_neq_agg rfl 84 84 _ _ rfl _ _ rfl rfl (by kernel_rfl) true (HQ.out _) ?_)
       | (refine wpList_load_row rfl 47 _ rfl G rfl 47 cs (0, 0) _ r5 Tryz.underlying47 rfl hcs ?_)
       | (refine wpList_store_row rfl 47 _ _ rfl (w.heap.size + 1) cs rfl rfl 47 _ r1 hcs hcz hc1 ?_))
      exact bodyPost_ret (results_row_tmp Tryz.results85 _ _ (w.heap.size + 1) 47 cs (0, 0) _ rfl (r1.row _) Tryz.underlying47 rfl hcs _ rfl) rfl ⟨by rw [HE.out, HO.out, ← HECS.out]; rfl, hfin⟩
     ·have hcode' : codeB (b.take 508) n = false := by simpa using hcode
      have HE := Lib.hid ((HNUM.out _ rfl).2 hcode')
      cases hy : objB ro n
      ·obtain rfl : no = 2 := by rw [HEB.out.2.1, hy]; rfl
       clear hcode hcode' hy
       go_wp2_with (first
        | (refine wpList_store_row rfl 47 _ _ rfl (w.heap.size + 1) objZ.cells.toArray rfl rfl 47 _ r1 hzi rfl hz1 ?_))
       exact bodyPost_ret (results_row_tmp Tryz.results85 _ _ (w.heap.size + 1) 47 objZ.cells.toArray (0, 0) _ rfl (r1.row _) Tryz.underlying47 rfl hzi _ rfl) rfl ⟨by rw [HE.out, getO_no HE.out (by decide)]; rfl, hfin0⟩
      ·obtain rfl : no = 0 := by rw [HEB.out.2.1, hy]; rfl
       have hBb : (B == b) = false := by
        rw [HEB.out.2.2 hy]
        cases hx : (sectorL (objL ro) == b)
        ·rfl
        ·exact absurd (HIFF.out.1 ⟨hy, HSEC.out.1 (by simpa using hx)⟩) hcode
       have heq := fun W => bytes512_equalIn 9998 B b HEB.out.1 HBL.out W
       simp only [hBb] at heq
       have HQ := Lib.hid heq
       clear hcode hcode' hy hBb heq
       go_wp2_with (first
        | (refine wpList_load_midG rfl 84 _ rfl w2.heap.size 0 rfl (B.map vu8).toArray (load_sector HEB.out.1 rA) ?_)
        | (refine wpList_load_midG rfl 84 _ rfl w.heap.size 0 rfl (b.map vu8).toArray (load_sector HBL.out r0) ?_)
        | (refine wpList_neq_agg rfl 84 84 _ _ rfl _ _ rfl rfl (by kernel_rfl) false (HQ.out _) ?_)
        | (refine wpList_store_row rfl 47 _ _ rfl (w.heap.size + 1) objZ.cells.toArray rfl rfl 47 _ r1 hzi rfl hz1 ?_))
       exact bodyPost_ret (results_row_tmp Tryz.results85 _ _ (w.heap.size + 1) 47 objZ.cells.toArray (0, 0) _ rfl (r1.row _) Tryz.underlying47 rfl hzi _ rfl) rfl ⟨by rw [HE.out, getO_no HE.out (by decide)]; rfl, hfin0⟩
theorem rget5_any (b : List UInt8) (hb : b.length = 512) (n : Int) (w : World) :
  Calls Tryz.prog 85 #[sectorV b, .int .i64 n] w fun e w' => e = .returned (.tuple #[.agg (getO b n).cells.toArray, .int .i64 (getE b n)]) ∧ Below w.heap.size w w' := by
 by_cases hn : n < 1 ∨ 64 < n
 ·exact rget_arg b hb n w hn
 ·cases hs : sealedB b
  ·exact rget_sum b hb n w hn hs
  ·exact rget_code b hb n w hn hs
end Go.Proofs.YtemcgfncahccgaaGreat
