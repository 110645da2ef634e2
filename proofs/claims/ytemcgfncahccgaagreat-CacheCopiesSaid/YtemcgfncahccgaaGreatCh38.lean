/-
  The program's cache alone: its calls.
  The statements' works.
  The law CacheGets.
  From a walk to a law's row: a call that answers true and turns nothing that was there; for all arguments.
  Opening a frame: from its data to lists in memory.
-/
import Derived.Test.YtemcgfncahccgaaGreatRows
import Derived.WalkKit
import Derived.ProofKit
import Derived.OpenShut
import Derived.Below
import Derived.ChangeSame
import Derived.Deep.Fields
import Derived.Deep.Slices
import Derived.Test.YtemcgfncahccgaaGreatCh6
import Derived.Test.YtemcgfncahccgaaGreatCh26
import Derived.Test.YtemcgfncahccgaaGreatCh33
import Derived.Test.YtemcgfncahccgaaGreatCh37
set_option linter.unusedVariables false
set_option linter.unusedSimpArgs false
namespace Go.Proofs.YtemcgfncahccgaaGreat
open Go.RowKit Go.Shelf

structure Alone (w : World) (D : DiskP) (C : CacheP) (x : CacheD) : Prop where
 disk : DiskAt w D x.disk
 cache : CacheAt w C x
 dp : C.dp = D.p
 sep : ∀ i, D.has i → ¬ C.has i
section
variable {w w' w1 : World} {D : DiskP} {C C' : CacheP} {x x' : CacheD} {k : Int}
theorem Both.alone {cv : Value} (h : Both w D C cv x) : Alone w D C x := ⟨h.disk, h.cache, h.dp, h.sep⟩
theorem Alone.below (h : Alone w D C x) (hb : Below w.heap.size w w') : Alone w' D C x := ⟨h.disk.below hb, h.cache.below hb, h.dp, h.sep⟩
theorem Alone.step (h : Alone w D C x) (hd : DiskAt w1 D x'.disk) (hc : CacheAt w1 C' x') (hs : PStep D C C' w w1) : Alone w1 D C' x' :=
 ⟨hd, hc, hs.same.2.1.trans h.dp, fun i hi hci => by
  rcases hs.new_ i hci with h1 | h1
  ·exact h.sep i hi h1
  ·have := h.disk.has_lt i hi; omega⟩
/-- what a call leaves -/
def APost (D : DiskP) (C : CacheP) (w w' : World) (x' : CacheD) : Prop := ∃ C', Alone w' D C' x' ∧ PStep D C C' w w'
theorem aput (H : Alone w D C x) (O : COk x k) (oid : Int) (o : ObjD) (ho : o.ok) :
  Calls Tryz.prog 15 #[ptr C.g, .int .i64 oid, .agg o.cells.toArray] w fun e w' => e = .returned (.int .i64 (x.putE oid o)) ∧ APost D C w w' (x.put oid o) :=
 (cput_any H.cache O.ok oid o ho).mono fun e w' ⟨h1, C', h2, h3⟩ => ⟨h1, C', H.step (by rw [put_disk]; exact H.disk.out h3.out (fun i hi h => H.sep i hi (.inl h))) h2 (h3.pstep D), h3.pstep D⟩
theorem aevict (H : Alone w D C x) (O : COk x k) (p : Int) (hp : I64 p) :
  Calls Tryz.prog 17 #[ptr C.g, .int .i64 p] w fun e w' => e = .returned (.tuple #[.int .i64 (x.evictO p), .bool x.evictB]) ∧ APost D C w w' (x.evict p) :=
 (cevict_any H.cache O.ok p hp).mono fun e w' ⟨h1, C', h2, h3⟩ => ⟨h1, C', H.step (by rw [evict_disk]; exact H.disk.out h3.out (fun i hi h => H.sep i hi (.inl h))) h2 (h3.pstep D), h3.pstep D⟩
theorem aget (H : Alone w D C x) (O : COk x k) (oid : Int) :
  Calls Tryz.prog 18 #[ptr C.g, .int .i64 oid] w fun e w' => e = .returned (.tuple #[.agg (x.getO_ oid).cells.toArray, .int .i64 (x.getE_ oid)]) ∧ APost D C w w' (x.get_ oid) := by
 have hl := O.ok.len
 refine (gett_any C x.room x.places (oidsOf x.hand) (itemOf x.hand) D x.disk oid w H.cache H.disk O.disk H.dp (by omega) (by rw [oids_len]; omega) (fun m hm => itemOf_ne hm) O.room H.sep).mono ?_
 rintro e w' ⟨h1, h2, C', h3, h4, h5, h6⟩
 obtain ⟨l1, l2, l3, l4, l5, l6, l7⟩ := get_law O oid
 rw [l1, l2] at h1
 rw [l3] at h2
 rw [l4, l5] at h3
 have h3' : CacheAt w' C' (x.get_ oid) := by unfold CacheAt; rw [l6, l7]; exact h3
 exact ⟨h1, C', H.step h2 h3' ⟨h4, h5, h6⟩, ⟨h4, h5, h6⟩⟩
theorem getO_fine (O : COk x k) (hh : ∀ y ∈ x.hand, y.o.ok) (oid : Int) : (x.getO_ oid).ok := by
 unfold CacheD.getO_
 split
 ·split
  ·next it hi => exact hh it (itemOf_some hi).1
  ·split
   ·exact getO_ok _ (read_len O.disk _) _
   ·exact objZ_ok
 ·exact objZ_ok
end
end Go.Proofs.YtemcgfncahccgaaGreat
namespace Go.Proofs.YtemcgfncahccgaaGreat
open Go.RowKit Go.Shelf

theorem obj_row3 (a b c : Array Value) (ha : a.size = 163) (hb : b.size = 163) (hc : c.size = 163) (i : TypeInfo) (z : Value) (h1 : i.size = 163) (h3 : z.cells.size = 163) :
  Instr.fill (fun k => some (k * i.size, i.size)) ((Array.range (3 * i.size)).map (z.cells[· % z.cells.size]!)) [(0, .agg a), (1, .agg b), (2, .agg c)] = some (a.toList ++ b.toList ++ c.toList).toArray := by
 have ha2 : (Value.agg a).cells = a := rfl
 have hb2 : (Value.agg b).cells = b := rfl
 have hc2 : (Value.agg c).cells = c := rfl
 have hal : a.toList.length = 163 := by simpa using ha
 have hbl : b.toList.length = 163 := by simpa using hb
 have hcl : c.toList.length = 163 := by simpa using hc
 rw [h1, fill_part (off := 0) (size := 163) (by simp) (by rw [ha2, ha]) (by simp), fill_part (off := 163) (size := 163) (by simp) (by rw [hb2, hb]) (by simp [ha2, hal]), fill_part (off := 326) (size := 163) (by simp) (by rw [hc2, hc]) (by simp [ha2, hb2, hal, hbl]), fill_nil, ha2, hb2, hc2]
 congr 2
 simp only [List.take_zero, List.nil_append, List.toList_toArray]
 rw [List.take_left' hal, List.take_left' (by rw [List.length_append, hal, hbl]), List.drop_eq_nil_of_le (by simp [hal, hbl, hcl]), List.append_nil]
theorem PStep.own0 {w w' : World} {D : DiskP} {C0 C C' : CacheP} (h0 : ∀ j, C.own j ↔ C0.own j) (h : PStep D C C' w w') : (∀ j, C'.own j ↔ C0.own j) ∧ Out (fun i => D.has i ∨ C0.own i) w w' :=
 ⟨fun j => (h.own_ j).trans (h0 j), h.out.sub fun i hi => hi.imp id (h0 i).1⟩
theorem cell_ct {o : ObjD} {n : Int} (h : o.ct = n) : (o.cells.toArray)[1]? = some (.int .i64 n) := by rw [← h]; rfl
theorem wk_k : COk wk0 0 ∧ COk wk1 1 ∧ COk wk2 2 ∧ COk wk3 3 ∧ COk wk4 4 ∧ COk wk5 5 := by
 have h0 : COk wk0 0 := start_ok wd17_fine (by decide)
 have h1 : COk wk1 1 := h0.get (by decide) 0
 have h2 : COk wk2 2 := h1.get (by decide) 1
 have h3 : COk wk3 3 := h2.put 0 oC17
 have h4 : COk wk4 4 := h3.get (by decide) 0
 exact ⟨h0, h1, h2, h3, h4, h4.evict 5⟩
theorem okB_ok {l : List ItemD} (h : l.all (fun y => y.o.slots.length == 16 && y.o.bytes.length == 64) = true) : ∀ y ∈ l, y.o.ok := fun y hy => by
 have := List.all_eq_true.1 h y hy
 simp only [Bool.and_eq_true, beq_iff_eq] at this
 exact ⟨this.1, this.2⟩
theorem wk_hand : (∀ y ∈ wk0.hand, y.o.ok) ∧ (∀ y ∈ wk1.hand, y.o.ok) ∧ ∀ y ∈ wk3.hand, y.o.ok :=
 ⟨okB_ok (by decide +kernel), okB_ok (by decide +kernel), okB_ok (by decide +kernel)⟩
theorem wk_all : ∃ q0 q1 q2 q3 q4 q5 : CacheD, q0 = start17 wd17 ∧ (q1 = q0.get_ 0 ∧ q2 = q1.get_ 1 ∧ q3 = q2.put 0 oC17 ∧ q4 = q3.get_ 0 ∧ q5 = q4.evict 5) ∧ (COk q0 0 ∧ COk q1 1 ∧ COk q2 2 ∧ COk q3 3 ∧ COk q4 4 ∧ COk q5 5) ∧
  (q0.getE_ 0 = 0 ∧ (q0.getO_ 0).ct = 1) ∧ (q1.getE_ 1 = 0 ∧ (q1.getO_ 1).ct = 2) ∧ q2.putE 0 oC17 = 0 ∧ (q3.getE_ 0 = 0 ∧ (q3.getO_ 0).ct = 3) ∧ (q4.evictO 5 = 1 ∧ q4.evictB = true) ∧ ((risingL q5.n (handB false q5.hand)).length = 1 ∧ (risingL q5.n (handB true q5.hand)).length = 1) ∧
  ((∀ y ∈ q0.hand, y.o.ok) ∧ (∀ y ∈ q1.hand, y.o.ok) ∧ ∀ y ∈ q3.hand, y.o.ok) :=
 ⟨wk0, wk1, wk2, wk3, wk4, wk5, rfl, ⟨rfl, rfl, rfl, rfl, rfl⟩, wk_k, wk_a, wk_b, wk_c, wk_d, wk_e, wk_f, wk_hand⟩
theorem objs3_in {W : World} {g : Nat} (h : Blk W g 47 (oA17.cells.toArray.toList ++ oB17.cells.toArray.toList ++ objZ.cells.toArray.toList).toArray) : ObjsIn W W.heap.size (.slice (some ⟨g, 0, none⟩) 3 3) [oA17, oB17, objZ] := by
 refine ⟨by unfold maxLen; decide, _, 3, rfl, Nat.le_refl _, fun j o hj => ?_⟩
 have hr := blk_range h
 have cut : ∀ (k : Nat) (cs : List Value), (∀ i v, cs[i]? = some v → (oA17.cells.toArray.toList ++ oB17.cells.toArray.toList ++ objZ.cells.toArray.toList)[k + i]? = some v) → W.rangeAt g (0 + k) cs := fun k cs hk i v hi => by
  have := hr (k + i) v (by simpa using hk i v hi)
  simpa [Nat.add_assoc] using this
 match j, hj with
 | 0, hj =>
  cases hj
  refine ⟨(wd17_fine.ok oA17 (by simp [wd17])).1, (wd17_fine.ok oA17 (by simp [wd17])).2.1, g, 0, rfl, h.lt, cut (0 * 163) _ fun i v hi => ?_⟩
  have hl := (List.getElem?_eq_some_iff.1 hi).1
  rw [List.getElem?_append_left (by simp; omega), List.getElem?_append_left (by simp; omega)]
  simpa using hi
 | 1, hj =>
  cases hj
  refine ⟨(wd17_fine.ok oB17 (by simp [wd17])).1, (wd17_fine.ok oB17 (by simp [wd17])).2.1, g, 0, rfl, h.lt, cut (1 * 163) _ fun i v hi => ?_⟩
  have hl := (List.getElem?_eq_some_iff.1 hi).1
  have hA : oA17.cells.length = 163 := ObjD.len (wd17_fine.ok oA17 (by simp [wd17])).1
  rw [List.getElem?_append_left (by simp; omega), List.getElem?_append_right (by simp; omega)]
  simpa [hA] using hi
 | 2, hj =>
  cases hj
  refine ⟨(wd17_fine.ok objZ (by simp [wd17])).1, (wd17_fine.ok objZ (by simp [wd17])).2.1, g, 0, rfl, h.lt, cut (2 * 163) _ fun i v hi => ?_⟩
  have hl := (List.getElem?_eq_some_iff.1 hi).1
  have hA : oA17.cells.length = 163 := ObjD.len (wd17_fine.ok oA17 (by simp [wd17])).1
  have hB : oB17.cells.length = 163 := ObjD.len (wd17_fine.ok oB17 (by simp [wd17])).1
  rw [List.getElem?_append_right (by simp; omega)]
  simpa [hA, hB] using hi
 | j + 3, hj => simp at hj
set_option maxRecDepth 100000 in
set_option maxHeartbeats 4000000 in
theorem works17_any (w : World) : Calls Tryz.prog 12 #[] w fun e w' => e = .returned (.bool true) ∧ Below w.heap.size w w' := by
 obtain ⟨i0, z0, hi0, hz0, hz1, hz2, hz3⟩ := info_object
 have a0 : (Tryz.zeroCells47.setIfInBounds 0 (.int .i64 2)).setIfInBounds 1 (.int .i64 1) = oA17.cells.toArray := by kernel_rfl
 have a1 : (Tryz.zeroCells47.setIfInBounds 0 (.int .i64 2)).setIfInBounds 1 (.int .i64 2) = oB17.cells.toArray := by kernel_rfl
 have a2 : Tryz.zeroCells47 = objZ.cells.toArray := zeroObj
 have a3 : (Tryz.zeroCells47.setIfInBounds 0 (.int .i64 2)).setIfInBounds 1 (.int .i64 3) = oC17.cells.toArray := by kernel_rfl
 have s0 : oA17.cells.toArray.size = 163 := by kernel_rfl
 have s1 : oB17.cells.toArray.size = 163 := by kernel_rfl
 have s2 : objZ.cells.toArray.size = 163 := by kernel_rfl
 obtain ⟨q0, q1, q2, q3, q4, q5, eq0, ⟨eq1, eq2, eq3, eq4, eq5⟩, ⟨hk0, hk1, hk2, hk3, hk4, hk5⟩, fa, fb, fc, fd, fe, ff, fh⟩ := wk_all
 have HEQ := Lib.hid (And.intro eq0 (And.intro eq1 (And.intro eq2 (And.intro eq3 (And.intro eq4 eq5)))))
 have FA := Lib.hid fa
 have FB := Lib.hid fb
 have FC := Lib.hid fc
 have FD := Lib.hid fd
 have FE := Lib.hid fe
 have FF := Lib.hid ff
 have FH := Lib.hid fh
 have HKS := Lib.hid (And.intro hk0 (And.intro hk1 (And.intro hk2 (And.intro hk3 (And.intro hk4 hk5)))))
 clear eq0 eq1 eq2 eq3 eq4 eq5 fa fb fc fd fe ff fh hk0 hk1 hk2 hk3 hk4 hk5
 have A0 := Lib.hid a0
 have A1 := Lib.hid a1
 have A2 := Lib.hid a2
 have A3 := Lib.hid a3
 clear a0 a1 a2 a3
 go_enter Tryz.func12, Tryz.ntmps12
 go_wp2_with fail
 refine wp_buildSliceL 22 47 3 _ rfl (oA17.cells.toArray.toList ++ oB17.cells.toArray.toList ++ objZ.cells.toArray.toList).toArray i0 z0 Tryz.underlying22 hi0 hz0 (by rw [hz1]; decide) (by rw [hz1]; decide) (by
  show Instr.fill _ _ [(0, .agg ((Tryz.zeroCells47.setIfInBounds 0 (.int .i64 2)).setIfInBounds 1 (.int .i64 1))), (1, .agg ((Tryz.zeroCells47.setIfInBounds 0 (.int .i64 2)).setIfInBounds 1 (.int .i64 2))), (2, .agg Tryz.zeroCells47)] = _
  rw [A0.out, A1.out, A2.out]
  exact obj_row3 _ _ _ s0 s1 s2 i0 z0 hz1 hz3) ?_
 clear hi0 hz0 hz1 hz2 hz3 s0 s1 s2
 obtain ⟨C0, eC⟩ : ∃ C, C = (oA17.cells.toArray.toList ++ oB17.cells.toArray.toList ++ objZ.cells.toArray.toList).toArray := ⟨_, rfl⟩
 rw [← eC]
 have EC := Lib.hid eC
 clear eC
 have hzw := Blk.new (w.alloc (.cells C0 47)) 25 #[.slice none 0 0, .int .i64 0, .int .i64 0, .slice none 0 0]
 go_upto_region 2 with (refine wpList_store_row rfl 25 _ _ rfl (w.alloc (.cells C0 47)).heap.size #[.slice (some ⟨w.heap.size, 0, none⟩) 3 3, .int .i64 0, .int .i64 1, .slice none 0 0] rfl rfl 25 _ hzw (size_world _ _ _ _) rfl (by simp [Value.oneCell']) ?_; rw [World.setRow_alloc_new])
 obtain ⟨W, eW⟩ : ∃ W, W = (w.alloc (.cells C0 47)).alloc (.cells #[.slice (some ⟨w.heap.size, 0, none⟩) 3 3, .int .i64 0, .int .i64 1, .slice none 0 0] 25) := ⟨_, rfl⟩
 have hbW : Below w.heap.size w W := by rw [eW]; exact ((Below.refl _ w).alloc (Nat.le_refl _) _).alloc (by simp) _
 have k0 : Blk W w.heap.size 47 C0 := by rw [eW]; exact (Blk.new w _ _).alloc _
 have k1 : Blk W (w.heap.size + 1) 25 #[.slice (some ⟨w.heap.size, 0, none⟩) 3 3, .int .i64 0, .int .i64 1, .slice none 0 0] := by rw [eW]; exact Blk.new2 w _ _ _
 rw [← eW]
 clear eW hzw
 have hwi : WorldIn W W.heap.size (.agg #[.slice (some ⟨w.heap.size, 0, none⟩) 3 3, .int .i64 0, .int .i64 1, .slice none 0 0]) wd17 := ⟨_, _, rfl, objs3_in (by rw [← EC.out]; exact k0), IntsIn.nil _ _⟩
 have HMK := Lib.hid (made17_any wd17 wd17_fine _ W hwi)
 have HB := Lib.hid hbW
 clear hwi hbW k0
 go_wp2_with (refine wpList_load_row rfl 25 _ rfl (w.heap.size + 1) rfl 25 #[.slice (some ⟨w.heap.size, 0, none⟩) 3 3, .int .i64 0, .int .i64 1, .slice none 0 0] (0, 0) _ k1 Tryz.underlying25 rfl (size_world _ _ _ _) ?_)
 refine HMK.out.mono ?_; rintro e w1 ⟨D, lv, fv, pv, rfl, hd1, hr1, hp1, hh1, hg1, hb1⟩
 obtain ⟨pa, pc, rfl⟩ : ∃ a c, pv = .slice a (countI wd17.n).length c := by obtain ⟨_, a, c, e, _⟩ := hp1; exact ⟨a, c, e⟩
 have hs01 := hb1.size
 have hs0 := HB.out.size
 have hkW := k1.lt
 have hone := hr1.one 0
 have HONE := Lib.hid hone
 have H1 := Lib.hid (And.intro hd1 (And.intro hp1 (And.intro hh1 hb1)))
 have hzc := Blk.new w1 32 zeroD
 unfold ptr
 clear hd1 hr1 hp1 hh1 hg1 hb1 hone k1 HMK
 go_upto_region 3 with (refine wpList_store_row rfl 32 _ _ rfl w1.heap.size #[lv, .slice none 0 0, .int .i64 0, fv] rfl rfl 32 _ hzc (size_rdisk _ _ _ _) rfl HONE.out ?_; rw [World.setRow_alloc_new])
 obtain ⟨w2, e2⟩ : ∃ w2, w2 = w1.alloc (.cells #[lv, .slice none 0 0, .int .i64 0, fv] 32) := ⟨_, rfl⟩
 have hb2 : Below w1.heap.size w1 w2 := by rw [e2]; exact (Below.refl _ w1).alloc (Nat.le_refl _) _
 rw [← e2]
 clear e2 hzc
 have hs12 := hb2.size
 obtain ⟨hd1, hp1, hh1, hb1⟩ := H1.out
 obtain ⟨f1, f2, f3, f4⟩ := disk17_facts wd17_fine
 have hnw := newc_ok D (disk17 wd17) 1 (.slice pa (countI wd17.n).length pc) (countI wd17.n) w2 (hd1.below hb2) f1 ((hp1.below hb2 (Nat.le_refl _)).mono hb2.size) (by decide) (by decide) (places_any wd17_fine)
 have HNW := Lib.hid hnw
 have HD2 := Lib.hid (hd1.below hb2)
 have HH := Lib.hid (fun i hi => hd1.has_lt i hi)
 have HHW := Lib.hid hh1
 have HB2 := Lib.hid (HB.out.trans ((hb1.trans (hb2.mono hs01)).mono hs0))
 unfold ptr at HNW
 clear hd1 hp1 hh1 hb1 f1 f2 f3 f4 hnw H1 hb2
 go_wp2_with fail
 refine HNW.out.mono ?_; rintro e w3 ⟨C, rfl, hdp, hc3, hb3, hh3⟩
 have HA0 := Lib.hid (show Alone w3 D C q0 from by rw [HEQ.out.1]; exact ⟨HD2.out.below hb3, hc3, hdp, fun i hi hci => by have := HH.out i hi; have := hh3 i hci; omega⟩)
 have HB3 := Lib.hid (HB2.out.trans (hb3.mono HB2.out.size))
 have HF0 := Lib.hid (show ∀ i, w3.heap.size ≤ i → ¬ (D.has i ∨ C.own i) from fun i hi h => by
  rcases h with h | h
  ·have := HA0.out.disk.has_lt i h; omega
  ·have := HA0.out.cache.has_lt i (.inl h); omega)
 have HL0 := Lib.hid (show ∀ i, D.has i ∨ C.own i → w.heap.size ≤ i from fun i h => by
  rcases h with h | h
  ·have := HHW.out i h; omega
  ·have := hh3 i (.inl h); omega)
 have hs23 := hb3.size
 clear hdp hc3 hb3 hh3 HNW HD2 HH HHW HB2
 have G0 := Lib.hid (aget HA0.out HKS.out.1 0)
 rw [FA.out.1, ← HEQ.out.2.1] at G0
 unfold ptr at G0
 go_wp2_with fail
 have HWC := Lib.hid (show ∀ j, C.own j ↔ C.own j from fun _ => Iff.rfl)
 have HOw3 := Lib.hid (show Out (fun i => w.heap.size ≤ i) w w3 from outB HB3.out)
 refine G0.out.mono ?_; rintro e x0 ⟨rfl, C1, ha0, hs0⟩
 obtain ⟨hw0, ho0⟩ := PStep.own0 HWC.out hs0
 have hs_0 := ho0.size
 have hz0 := Blk.new x0 47 Tryz.zeroCells47
 rw [zeroObj] at hz0
 obtain ⟨o0, eo0⟩ : ∃ o, o = (q0.getO_ 0).cells.toArray := ⟨_, rfl⟩
 have hk0_ := getO_fine HKS.out.1 FH.out.1 0
 have I0 := Lib.hid (obj_info _ hk0_)
 have S0 := Lib.hid (obj_size0 _ hk0_)
 have N0 := Lib.hid (obj_ones (q0.getO_ 0))
 have ct0 : o0[1]? = some (.int .i64 1) := by rw [eo0]; exact cell_ct FA.out.2
 rw [← eo0] at I0 S0 N0
 rw [← eo0]
 clear eo0 hk0_
 go_upto_region 5 with (refine wpList_store_row rfl 47 _ _ rfl x0.heap.size o0 rfl rfl 47 _ hz0 I0.out S0.out N0.out ?_; rw [World.setRow_alloc_new])
 obtain ⟨w4, ew4⟩ : ∃ W, W = x0.alloc (.cells o0 47) := ⟨_, rfl⟩
 have hb0 : Below x0.heap.size x0 w4 := by rw [ew4]; exact (Below.refl _ _).alloc (Nat.le_refl _) _
 have K0 : Blk w4 x0.heap.size 47 o0 := by rw [ew4]; exact Blk.new _ _ _
 rw [← ew4]
 clear ew4 hz0
 have HAC1 := Lib.hid (ha0.below hb0)
 have HGC1 := Lib.hid (hs0.same.1)
 have HWC1 := Lib.hid hw0
 have HOw4 := Lib.hid (HOw3.out.trans ((ho0.sub HL0.out).trans (G := fun _ => False) (outB hb0) (fun _ _ h => h.elim)) (fun _ _ h => h))
 have hz_0 := hb0.size
 clear ha0 hs0 hw0 ho0 hb0
 have G1 := Lib.hid (aget HAC1.out HKS.out.2.1 1)
 rw [FB.out.1, ← HEQ.out.2.2.1] at G1
 unfold ptr at G1
 rw [HGC1.out] at G1
 go_wp2_with fail
 refine G1.out.mono ?_; rintro e x1 ⟨rfl, C2, ha1, hs1⟩
 obtain ⟨hw1, ho1⟩ := PStep.own0 HWC1.out hs1
 have hs_1 := ho1.size
 have hz1 := Blk.new x1 47 Tryz.zeroCells47
 rw [zeroObj] at hz1
 obtain ⟨o1, eo1⟩ : ∃ o, o = (q1.getO_ 1).cells.toArray := ⟨_, rfl⟩
 have hk1_ := getO_fine HKS.out.2.1 FH.out.2.1 1
 have I1 := Lib.hid (obj_info _ hk1_)
 have S1 := Lib.hid (obj_size0 _ hk1_)
 have N1 := Lib.hid (obj_ones (q1.getO_ 1))
 have ct1 : o1[1]? = some (.int .i64 2) := by rw [eo1]; exact cell_ct FB.out.2
 rw [← eo1] at I1 S1 N1
 rw [← eo1]
 clear eo1 hk1_
 go_upto_region 6 with (refine wpList_store_row rfl 47 _ _ rfl x1.heap.size o1 rfl rfl 47 _ hz1 I1.out S1.out N1.out ?_; rw [World.setRow_alloc_new])
 obtain ⟨w5, ew5⟩ : ∃ W, W = x1.alloc (.cells o1 47) := ⟨_, rfl⟩
 have hb1 : Below x1.heap.size x1 w5 := by rw [ew5]; exact (Below.refl _ _).alloc (Nat.le_refl _) _
 have K1 : Blk w5 x1.heap.size 47 o1 := by rw [ew5]; exact Blk.new _ _ _
 rw [← ew5]
 clear ew5 hz1
 have HAC2 := Lib.hid (ha1.below hb1)
 have HGC2 := Lib.hid (hs1.same.1.trans HGC1.out)
 have HWC2 := Lib.hid hw1
 have HOw5 := Lib.hid (HOw4.out.trans ((ho1.sub HL0.out).trans (G := fun _ => False) (outB hb1) (fun _ _ h => h.elim)) (fun _ _ h => h))
 have hz_1 := hb1.size
 have K0 := (ho1.blk K0 (HF0.out _ (by omega))).below hb1 (ho1.blk K0 (HF0.out _ (by omega))).lt
 clear ha1 hs1 hw1 ho1 hb1
 have G2 := Lib.hid (aput HAC2.out HKS.out.2.2.1 0 oC17 ⟨rfl, rfl⟩)
 rw [FC.out, ← HEQ.out.2.2.2.1, ← A3.out] at G2
 unfold ptr at G2
 rw [HGC2.out] at G2
 go_wp2_with fail
 refine G2.out.mono ?_; rintro e w6 ⟨rfl, C3, ha2, hs2⟩
 obtain ⟨hw2, ho2⟩ := PStep.own0 HWC2.out hs2
 have hs_2 := ho2.size
 have HAC3 := Lib.hid ha2
 have HGC3 := Lib.hid (hs2.same.1.trans HGC2.out)
 have HWC3 := Lib.hid hw2
 have HOw6 := Lib.hid (HOw5.out.trans (ho2.sub HL0.out) (fun _ _ h => h))
 have K0 := ho2.blk K0 (HF0.out _ (by omega))
 have K1 := ho2.blk K1 (HF0.out _ (by omega))
 clear ha2 hs2 hw2 ho2
 have G3 := Lib.hid (aget HAC3.out HKS.out.2.2.2.1 0)
 rw [FD.out.1, ← HEQ.out.2.2.2.2.1] at G3
 unfold ptr at G3
 rw [HGC3.out] at G3
 go_wp2_with fail
 refine G3.out.mono ?_; rintro e x3 ⟨rfl, C4, ha3, hs3⟩
 obtain ⟨hw3, ho3⟩ := PStep.own0 HWC3.out hs3
 have hs_3 := ho3.size
 have hz3 := Blk.new x3 47 Tryz.zeroCells47
 rw [zeroObj] at hz3
 obtain ⟨o3, eo3⟩ : ∃ o, o = (q3.getO_ 0).cells.toArray := ⟨_, rfl⟩
 have hk3_ := getO_fine HKS.out.2.2.2.1 FH.out.2.2 0
 have I3 := Lib.hid (obj_info _ hk3_)
 have S3 := Lib.hid (obj_size0 _ hk3_)
 have N3 := Lib.hid (obj_ones (q3.getO_ 0))
 have ct3 : o3[1]? = some (.int .i64 3) := by rw [eo3]; exact cell_ct FD.out.2
 rw [← eo3] at I3 S3 N3
 rw [← eo3]
 clear eo3 hk3_
 go_upto_region 8 with (refine wpList_store_row rfl 47 _ _ rfl x3.heap.size o3 rfl rfl 47 _ hz3 I3.out S3.out N3.out ?_; rw [World.setRow_alloc_new])
 obtain ⟨w7, ew7⟩ : ∃ W, W = x3.alloc (.cells o3 47) := ⟨_, rfl⟩
 have hb3 : Below x3.heap.size x3 w7 := by rw [ew7]; exact (Below.refl _ _).alloc (Nat.le_refl _) _
 have K3 : Blk w7 x3.heap.size 47 o3 := by rw [ew7]; exact Blk.new _ _ _
 rw [← ew7]
 clear ew7 hz3
 have HAC4 := Lib.hid (ha3.below hb3)
 have HGC4 := Lib.hid (hs3.same.1.trans HGC3.out)
 have HWC4 := Lib.hid hw3
 have HOw7 := Lib.hid (HOw6.out.trans ((ho3.sub HL0.out).trans (G := fun _ => False) (outB hb3) (fun _ _ h => h.elim)) (fun _ _ h => h))
 have hz_3 := hb3.size
 have K0 := (ho3.blk K0 (HF0.out _ (by omega))).below hb3 (ho3.blk K0 (HF0.out _ (by omega))).lt
 have K1 := (ho3.blk K1 (HF0.out _ (by omega))).below hb3 (ho3.blk K1 (HF0.out _ (by omega))).lt
 clear ha3 hs3 hw3 ho3 hb3
 have G4 := Lib.hid (aevict HAC4.out HKS.out.2.2.2.2.1 5 (by unfold I64; decide))
 rw [FE.out.1, FE.out.2, ← HEQ.out.2.2.2.2.2] at G4
 unfold ptr at G4
 rw [HGC4.out] at G4
 go_wp2_with fail
 refine G4.out.mono ?_; rintro e w8 ⟨rfl, C5, ha4, hs4⟩
 obtain ⟨hw4, ho4⟩ := PStep.own0 HWC4.out hs4
 have hs_4 := ho4.size
 have HAC5 := Lib.hid ha4
 have HGC5 := Lib.hid (hs4.same.1.trans HGC4.out)
 have HOw8 := Lib.hid (HOw7.out.trans (ho4.sub HL0.out) (fun _ _ h => h))
 have K0 := ho4.blk K0 (HF0.out _ (by omega))
 have K1 := ho4.blk K1 (HF0.out _ (by omega))
 have K3 := ho4.blk K3 (HF0.out _ (by omega))
 have d0 := K0.cell_is 1 ct0
 have d1 := K1.cell_is 1 ct1
 have d3 := K3.cell_is 1 ct3
 clear ha4 hs4 hw4 ho4 ct0 ct1 ct3
 have hch := cchanged_any HAC5.out.cache HKS.out.2.2.2.2.2.ok
 rw [FF.out.1] at hch
 have HCH := Lib.hid hch
 have hha := fun X (hX : Below w8.heap.size w8 X) => chand_any (HAC5.out.below hX).cache HKS.out.2.2.2.2.2.ok
 simp only [FF.out.2] at hha
 have HHA := Lib.hid hha
 unfold ptr at HCH HHA
 rw [HGC5.out] at HCH HHA
 clear hch hha
 go_wp2_with fail
 refine (num17_any 0 _).mono ?_; rintro e y0 ⟨rfl, rfl⟩
 go_wp2_with fail
 refine (num17_any 0 _).mono ?_; rintro e y0 ⟨rfl, rfl⟩
 go_wp2_with fail
 refine (num17_any 0 _).mono ?_; rintro e y0 ⟨rfl, rfl⟩
 go_wp2_with fail
 refine (num17_any 0 _).mono ?_; rintro e y0 ⟨rfl, rfl⟩
 go_wp2_with fail
 refine (num17_any 0 _).mono ?_; rintro e y0 ⟨rfl, rfl⟩
 go_wp2_with fail
 refine HCH.out.mono ?_; rintro e w9 ⟨v9, rfl, hv9, hb9⟩
 obtain ⟨a9, c9, rfl⟩ := slice_form hv9
 have HB9 := Lib.hid hb9
 clear hv9 hb9
 go_wp2_with fail
 refine (HHA.out w9 HB9.out).mono ?_; rintro e w10 ⟨v10, rfl, hv10, hb10⟩
 obtain ⟨a10, c10, rfl⟩ := slice_form hv10
 have HB10 := Lib.hid hb10
 clear hv10 hb10
 go_wp2_with fail
 go_ret
 exact ⟨rfl, ((HOw8.out.trans (G := fun _ => False) (outB (HB9.out.trans (HB10.out.mono HB9.out.size))) (fun _ _ h => h.elim))).below (Nat.le_refl _) (fun i hi h => by omega)⟩
end Go.Proofs.YtemcgfncahccgaaGreat
namespace Go.Proofs.YtemcgfncahccgaaGreat
open Go.RowKit Go.Shelf

def getD17 (oid : Int) : ActD := ⟨0, oid, 0, objZ, 0⟩
theorem getD17_ok (oid : Int) : (getD17 oid).ok := ⟨objZ_ok, fun s hs => (slotsZ_fine s hs).1, by unfold I64; exact ⟨by show -9223372036854775808 ≤ (0 : Int); omega, by show (0 : Int) ≤ _; omega⟩⟩
/-- the world's arguments, as they are taken -/
structure WArg (w : World) (v : Value) (x : WorldD) : Prop where
 inn : WorldIn w w.heap.size v x
 ok : ∀ o ∈ x.objs, o.ok ∧ rightsOk o ∧ ∀ s ∈ o.slots, I64 s.v
 fi : ∀ m ∈ x.fails, m ≤ 9223372036854775807
theorem WorldIn.agg {W : World} {B : Nat} {v : Value} {x : WorldD} (h : WorldIn W B v x) : ∃ XV : Array Value, v = .agg XV ∧ (Tryz.prog.info? 25).map (·.size) = some XV.size := by
 obtain ⟨vo, vf, rfl, _, _⟩ := h
 exact ⟨_, rfl, size_world _ _ _ _⟩
end Go.Proofs.YtemcgfncahccgaaGreat
namespace Go.Proofs.YtemcgfncahccgaaGreat
open Go.ChangeShapes Go.WideShapes Go.ChangeAt Go.RowKit Go.Deep

section
variable {H : Type} {enc : TypeId × Value → H} {P : Program}

/-- arguments read as they read, behind a call that turned nothing below -/
theorem trodAll_stays (hl : laidOutB P = true) {W W' : World} (hb : Below W.heap.size W W') {sp : Nat → Bool} :
  ∀ {ts : List TypeId} {vs : List Value} {ds : List (DataW H)} {ps : List MemPlace}, (∀ t ∈ ts, P.readableRec t = true ∧ t < P.types.size) →
   DataW.TrodAll enc P W 0 (fun _ => true) true ts vs ds ps → (∀ p ∈ ps, p.block < W.heap.size) → (∀ p ∈ ps, sp p.block = true) → DataW.TrodAll enc P W' 0 sp true ts vs ds ps
 | [], vs, ds, ps, _, h, _, _ => by
  obtain ⟨rfl, rfl, rfl⟩ := trodAll_nil h
  exact trodAll_mk0
 | t :: ts, vs, ds, ps, ht, h, hlt, hsp => by
  obtain ⟨v, vs', d, ds', p, q, rfl, rfl, rfl, h1, h2⟩ := trodAll_cons h
  have hp : ∀ x ∈ p, x.block < W.heap.size := fun x hx => hlt x (List.mem_append_left _ hx)
  exact trodAll_cons_mk (WideElems.Trod_stays hl (ht t (List.mem_cons_self ..)).1 (ht t (List.mem_cons_self ..)).2 h1 (fun x hx => hb.same (hp x hx)) (fun x hx => hsp x (List.mem_append_left _ hx)))
   (trodAll_stays hl hb (fun u hu => ht u (List.mem_cons_of_mem _ hu)) h2 (fun x hx => hlt x (List.mem_append_right _ hx)) (fun x hx => hsp x (List.mem_append_right _ hx)))

theorem law_post (hl : laidOutB P = true) {f : Func} {s : ChangeSpec} {T : TypeId} (hts : ∀ t ∈ f.params.toList, P.readableRec t = true ∧ t < P.types.size) (hres : f.resultTypes = #[T]) (hT : P.underlying T = some .bool)
  (hvars : s.vars = []) {W W' : World} {args : Array Value} {ds gs : List (DataW H)} {before : List MemPlace} (hW : DataW.Whole enc P f.params.toList s.vars false W args.toList ds gs before)
  (hfn : s.fn H (ds ++ gs) = { results := [.lit (.bool true)], args := ds }) (hb : Below W.heap.size W W') : s.post enc P f false true false false W args (.bool true) W' := by
 have hlt : ∀ p ∈ before, p.block < W.heap.size := fun p hp => hW.lt p hp
 have hold : ∀ p ∈ before, (fun b => decide (b < W.heap.size)) p.block = true := fun p hp => by simpa using hlt p hp
 have hW' := hW
 obtain ⟨p, q, hA, hV, rfl, hz, hn⟩ := hW
 rw [hvars] at hV
 obtain ⟨rfl, rfl⟩ := trodVars_none hV
 refine ⟨ds, [], p ++ [], [], p, [], hW', ?_, ?_, ?_, World.keptBut_mono (fun x hx => ⟨hx, ?_⟩) (hb.frame (· ∈ p ++ [])), fun h => by cases h⟩
 ·rw [hfn, hres]
  exact trodAll_mk1 (shut_bool hT _)
 ·rw [hfn]
  exact trodAll_stays hl hb hts hA (fun x hx => hlt x (List.mem_append_left _ hx)) (fun x hx => hold x (List.mem_append_left _ hx))
 ·rw [hfn, hvars]
  exact rfl
 ·simpa using hx
end

section
variable {H : Type} {enc : TypeId × Value → H} {P : Program} {w : World} {base : Nat} {spare : Nat → Bool} {held : Bool}
theorem i64_lt {x : Int} (h : (Lit.int .i64 x).wf = true) : -9223372036854775808 ≤ x ∧ x < 9223372036854775808 := by
 simp [Lit.wf, IntKind.min, IntKind.max, IntKind.signed, IntKind.bits] at h
 omega
end

theorem own : ownKnob Tryz.prog.godebug = none := by kernel_rfl
theorem laidOut : laidOutB Tryz.prog = true := by kernel_rfl
end Go.Proofs.YtemcgfncahccgaaGreat
namespace Go.Proofs.YtemcgfncahccgaaGreat
open Go.ChangeShapes Go.WideShapes Go.ChangeAt Go.RowKit Go.Deep

theorem list_blocks {α : Type} (f : α → List Value) (Pr : α → Prop) (C : Nat) : ∀ (n : Nat) (cs : List Value), cs.length = n * C → (∀ i, i < n → ∃ a, Pr a ∧ (cs.drop (i * C)).take C = f a) → ∃ l : List α, l.length = n ∧ (∀ a ∈ l, Pr a) ∧ cs = l.flatMap f
 | 0, cs, hl, _ => ⟨[], rfl, (fun a h => by cases h), by have h0 : cs = [] := List.eq_nil_of_length_eq_zero (by simpa using hl); rw [h0]; rfl⟩
 | n + 1, cs, hl, h => by
  obtain ⟨a, ha, e⟩ := h 0 (by omega)
  have hl2 : (cs.drop C).length = n * C := by rw [List.length_drop, hl, Nat.succ_mul]; omega
  obtain ⟨l, h1, h2, h3⟩ := list_blocks f Pr C n (cs.drop C) hl2 (fun i hi => by
   obtain ⟨b, hb, e⟩ := h (i + 1) (by omega)
   refine ⟨b, hb, ?_⟩
   rw [List.drop_drop, ← e]
   congr 2
   rw [Nat.succ_mul]
   omega)
  refine ⟨a :: l, by simp [h1], fun b hb => ?_, ?_⟩
  ·rcases List.mem_cons.1 hb with rfl | hb
   ·exact ha
   ·exact h2 b hb
  ·rw [List.flatMap_cons, ← h3, ← e]
   simp
theorem four_list (cs : List Value) (h : cs.length = 4) : ∃ a b c d, cs = [a, b, c, d] := by
 match cs, h with
 | [a, b, c, d], _ => exact ⟨a, b, c, d, rfl⟩
theorem six_list (cs : List Value) (h : cs.length = 6) : ∃ a b c d e f, cs = [a, b, c, d, e, f] := by
 match cs, h with
 | [a, b, c, d, e, f], _ => exact ⟨a, b, c, d, e, f, rfl⟩
section
variable {H : Type} {enc : TypeId × Value → H} {w : World} {base : Nat} {spare : Nat → Bool} {held : Bool} {n : Nat} {cs : List Value} {x : DataW H × List MemPlace}
theorem int_trod {t : TypeId} (ht : Tryz.prog.underlying t = some (.int .i64)) (h : DataW.trod enc Tryz.prog w base spare held n t cs = some x) : ∃ k : Int, cs = [.int .i64 k] ∧ k < 9223372036854775808 := by
 obtain ⟨k, e, _, hw⟩ := DataW.trod_int ht h
 exact ⟨k, e, (i64_lt hw).2⟩
theorem byte_trod (h : DataW.trod enc Tryz.prog w base spare held n 5 cs = some x) : ∃ c : UInt8, cs = [vu8 c] := by
 obtain ⟨k, e, _, hw⟩ := DataW.trod_int Tryz.underlying5 h
 simp [Lit.wf, IntKind.min, IntKind.max, IntKind.signed, IntKind.bits] at hw
 refine ⟨UInt8.ofNat k.toNat, ?_⟩
 rw [e]
 unfold vu8
 rw [UInt8.toNat_ofNat']
 congr 2
 omega
end
theorem pick_list {α : Type} (R : Nat → α → Prop) : ∀ (n : Nat), (∀ i, i < n → ∃ a, R i a) → ∃ l : List α, l.length = n ∧ ∀ i a, l[i]? = some a → R i a
 | 0, _ => ⟨[], rfl, fun i a h => by simp at h⟩
 | n + 1, h => by
  obtain ⟨l, h1, h2⟩ := pick_list R n (fun i hi => h i (by omega))
  obtain ⟨a, ha⟩ := h n (by omega)
  refine ⟨l ++ [a], by simp [h1], fun i b hb => ?_⟩
  rcases Nat.lt_or_ge i n with hi | hi
  ·rw [List.getElem?_append_left (by omega)] at hb
   exact h2 i b hb
  ·rw [List.getElem?_append_right (by omega), h1] at hb
   have : i = n := by
    rcases Nat.lt_or_ge (i - n) 1 with hh | hh
    ·omega
    ·rw [List.getElem?_eq_none (by simpa using hh)] at hb; cases hb
   subst this
   simp at hb
   rw [← hb]
   exact ha
section
variable {H : Type} {enc : TypeId × Value → H} {w : World} {n : Nat} {cs : List Value} {x : DataW H × List MemPlace}
set_option maxRecDepth 100000 in
theorem row_els {T e : TypeId} {C : Nat} (hu : Tryz.prog.underlying T = some (.slice e)) (hC : Tryz.prog.cellsOf e = C) (h0 : 0 < C) (h : DataW.trod enc Tryz.prog w 0 (fun _ => true) true n T cs = some x) :
  ∃ A len cap, cs = [.slice A len cap] ∧ len ≤ maxLen ∧ len ≤ cap ∧ ∀ i, i < len → ∃ g off cs' m y, A = some ⟨g, off, none⟩ ∧ g < w.heap.size ∧ (∀ j u, cs'[j]? = some u → w.cell? ⟨g, off + i * C + j, none⟩ = some u) ∧ DataW.trod enc Tryz.prog w 0 (fun _ => true) true m e cs' = some y := by
 rcases open_slice hu h with ⟨hcs, _⟩ | ⟨a, len, cap, m, k, D, Pl, hcs, hb, hl, hm, hmm, _, hi⟩
 ·exact ⟨none, 0, 0, hcs, Nat.zero_le _, Nat.le_refl _, fun i hi => absurd hi (Nat.not_lt_zero _)⟩
 ·simp at hmm
  refine ⟨some a, len, cap, hcs, by omega, hl, fun i hil => ?_⟩
  obtain ⟨cs', hc, ht⟩ := hi i (by omega)
  rw [hC] at hc
  obtain ⟨_, hlen, hat⟩ := World.cells?_some hc
  obtain ⟨b, off, spot⟩ := a
  have hspot : spot = none := by
   obtain ⟨cs0, hc0, _⟩ := hi 0 (by omega)
   rw [hC] at hc0
   obtain ⟨_, hl0, hat0⟩ := World.cells?_some hc0
   have h00 := hat0 0 h0
   rw [List.getElem?_eq_getElem (by omega)] at h00
   simpa [Addr.add] using World.cell?_spot h00
  subst hspot
  have g : ∀ j, j < C → w.cell? ⟨b, off + i * C + j, none⟩ = cs'[j]? := fun j hj => by
   rw [← hat j hj, Go.WideShapes.add_plain, Go.WideShapes.add_plain]
  have hg0 := g 0 h0
  rw [List.getElem?_eq_getElem (by omega)] at hg0
  refine ⟨b, off, cs', k, _, rfl, block_lt_of_cell hg0, fun j u hj => ?_, ht⟩
  have hjl : j < C := by
   rcases Nat.lt_or_ge j C with hh | hh
   ·exact hh
   ·rw [List.getElem?_eq_none (by omega)] at hj; cases hj
  rw [g j hjl, hj]
end
end Go.Proofs.YtemcgfncahccgaaGreat
