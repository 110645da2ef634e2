/-
  The program's cache and the reference's, side by side.
  The statements' num, ints, stands; the disk's Steps.
  A call of the program's cache, where both stand alike; an Act as data; the Act that gets.
-/
import Derived.Test.YtemcgfncahccgaaGreatCh24
import Derived.Test.YtemcgfncahccgaaGreatCh26
import Derived.Test.YtemcgfncahccgaaGreatCh31
import Derived.Test.YtemcgfncahccgaaGreatCh32
set_option linter.unusedVariables false
set_option linter.unusedSimpArgs false
namespace Go.Proofs.YtemcgfncahccgaaGreat
open Go.RowKit Go.Shelf

theorem HandIn.outO {W W' : World} {F : Nat → Prop} {B : Nat} {v : Value} {l : List ItemD} (h : HandIn W B v l) (ho : Out F W W') (hF : ∀ g, v.ownBlock = some g → ¬ F g) : HandIn W' B v l := by
 obtain ⟨h0, h1, a, cap, rfl, h2⟩ := h
 refine ⟨h0, h1, a, cap, rfl, fun i y hi => ?_⟩
 obtain ⟨g, rfl, hg, hr⟩ := h2 i y hi
 exact ⟨g, rfl, hg, fun j u hj => ho.cell (hr j u hj) (hF g rfl)⟩
theorem RCacheIn.outO {W W' : World} {F : Nat → Prop} {cv : Value} {x : CacheD} (h : RCacheIn W W.heap.size cv x) (ho : Out F W W') (hF : ∀ g, g ∈ footV cv → ¬ F g) : RCacheIn W' W'.heap.size cv x := by
 obtain ⟨lv, wv, fv, pv, hv, rfl, h1, h2, h3⟩ := h
 refine ⟨lv, wv, fv, pv, hv, rfl, (h1.outO ho (fun g hg => hF g (foot7.2 (.inl hg))) (fun g hg => hF g (foot7.2 (.inr (.inl hg)))) (fun g hg => hF g (foot7.2 (.inr (.inr (.inl hg)))))).mono ho.size,
  (h2.outO ho (fun g hg => hF g (foot7.2 (.inr (.inr (.inr (.inl hg))))))).mono ho.size, (h3.outO ho (fun g hg => hF g (foot7.2 (.inr (.inr (.inr (.inr hg))))))).mono ho.size⟩
theorem hand_len {n : Nat} {h : List ItemD} (H : HandOk n h) : h.length ≤ n := by
 have h1 := sortI_len (oidsOf h)
 rw [hand_rising H, oids_len] at h1
 rw [← h1]
 exact risingL_len _ _
/-- what holds of a cache throughout, k acts on -/
structure COk (x : CacheD) (k : Int) : Prop where
 hand : HandOk x.n x.hand
 room : 0 ≤ x.room
 len : x.places.length ≤ 64
 disk : x.disk.ok
 steps : x.disk.steps ≤ k
 waits : x.disk.waits = []
theorem COk.mono {x : CacheD} {k m : Int} (h : COk x k) (hm : k ≤ m) : COk x m := ⟨h.hand, h.room, h.len, h.disk, by have := h.steps; omega, h.waits⟩
theorem COk.fits {x : CacheD} {k : Int} (h : COk x k) : x.fits := by
 have := hand_len h.hand
 have := h.len
 exact ⟨by omega, by unfold CacheD.n at *; omega⟩
theorem COk.ok {x : CacheD} {k : Int} (h : COk x k) : CacheOk x := ⟨h.hand, h.room, h.fits, h.disk⟩
theorem COk.with_ {x : CacheD} {k : Int} (h : COk x k) (y : ItemD) (hy : 0 ≤ y.oid ∧ y.oid < (x.n : Int)) : COk (x.with_ y) k := ⟨(with_use h.hand x.room h.room y hy).1, h.room, h.len, h.disk, h.steps, h.waits⟩
theorem there_iff {x : CacheD} {oid : Int} : x.there oid = true ↔ 0 ≤ oid ∧ oid < (x.n : Int) := by unfold CacheD.there CacheD.n; simp
theorem COk.read {x : CacheD} {k : Int} (h : COk x k) (hk : k ≤ 1000) (oid : Int) : COk (x.read_ oid) (k + 1) := by
 have hs := h.steps
 refine ⟨h.hand, h.room, h.len, after_ok h.disk (by omega) _, ?_, ?_⟩
 ·show (x.disk.after _).steps ≤ k + 1
  unfold DiskD.after
  split
  ·omega
  ·show x.disk.steps + 1 ≤ k + 1; omega
 ·show (x.disk.after _).waits = []
  unfold DiskD.after
  split
  ·exact h.waits
  ·exact h.waits
theorem COk.get {x : CacheD} {k : Int} (h : COk x k) (hk : k ≤ 1000) (oid : Int) : COk (x.get_ oid) (k + 1) := by
 unfold CacheD.get_
 by_cases ht : x.there oid = true
 ·rw [if_pos ht]
  cases hi : itemOf x.hand oid with
  | some it => exact (h.with_ it (by rw [(itemOf_some hi).2]; exact there_iff.1 ht)).mono (by omega)
  | none =>
   dsimp only
   split
   ·exact (h.read hk oid).with_ _ (there_iff.1 ht)
   ·exact h.read hk oid
 ·rw [if_neg ht]; exact h.mono (by omega)
theorem COk.put {x : CacheD} {k : Int} (h : COk x k) (oid : Int) (o : ObjD) : COk (x.put oid o) (k + 1) := by
 unfold CacheD.put
 by_cases h0 : x.putE oid o = 0
 ·rw [if_pos h0]
  refine (h.with_ _ ?_).mono (by omega)
  unfold CacheD.putE at h0
  by_cases ht : x.there oid = true
  ·exact there_iff.1 ht
  ·rw [if_neg ht] at h0; cases h0
 ·rw [if_neg h0]; exact h.mono (by omega)
theorem COk.evict {x : CacheD} {k : Int} (h : COk x k) (p : Int) : COk (x.evict p) (k + 1) := by
 have h1 := (evict_law h.hand p).2.2.2.2
 unfold CacheD.evict at h1 ⊢
 split at h1
 ·next hc => rw [if_pos hc]; exact h.mono (by omega)
 ·next hc => rw [if_neg hc]; exact (show COk { x with hand := dropI x.hand (pickL x.cleanL p) } k from ⟨h1, h.room, h.len, h.disk, h.steps, h.waits⟩).mono (by omega)
theorem COk.move {x : CacheD} {k : Int} (h : COk x k) (oid s : Int) : COk (x.move oid s) k := by
 unfold CacheD.move
 split
 ·refine ⟨?_, h.room, by show (x.places.set _ _).length ≤ 64; rw [List.length_set]; exact h.len, h.disk, h.steps, h.waits⟩
  have : CacheD.n { x with places := x.places.set oid.toNat s } = x.n := by unfold CacheD.n; simp
  rw [this]
  exact h.hand
 ·exact h
theorem COk.settle {x : CacheD} {k : Int} (h : COk x k) (oid s : Int) : COk (x.settle oid s) (k + 1) := by
 have hm := h.move oid s
 unfold CacheD.settle
 dsimp only
 by_cases h0 : x.moveE oid s = 0
 ·rw [if_pos h0]
  cases hi : itemOf (x.move oid s).hand oid with
  | none => exact hm.mono (by omega)
  | some it =>
   dsimp only
   split
   ·refine (hm.with_ _ ?_).mono (by omega)
    have hs := (move_same (x := x) oid s).2.2
    show 0 ≤ oid ∧ oid < ((x.move oid s).n : Int)
    rw [hs]
    unfold CacheD.moveE at h0
    by_cases ht : x.there oid = true
    ·exact there_iff.1 ht
    ·rw [if_neg (fun h => ht h.1)] at h0; cases h0
   ·exact hm.mono (by omega)
 ·rw [if_neg h0]; exact hm.mono (by omega)
/-- both caches in memory -/
structure Both (w : World) (D : DiskP) (C : CacheP) (cv : Value) (x : CacheD) : Prop where
 disk : DiskAt w D x.disk
 cache : CacheAt w C x
 dp : C.dp = D.p
 ref : RCacheIn w w.heap.size cv x
 sep : ∀ i, D.has i → ¬ C.has i
 far : ∀ g, g ∈ footV cv → g < w.heap.size ∧ ¬ C.own g ∧ ¬ D.has g
section
variable {w w' w1 w2 : World} {D : DiskP} {C C' : CacheP} {cv cv' : Value} {x x' : CacheD}
theorem Both.below (h : Both w D C cv x) (hb : Below w.heap.size w w') : Both w' D C cv x :=
 ⟨h.disk.below hb, h.cache.below hb, h.dp, h.ref.up hb, h.sep, fun g hg => ⟨Nat.lt_of_lt_of_le (h.far g hg).1 hb.size, (h.far g hg).2⟩⟩
theorem Both.drew (h : Both w D C cv x) : Both w.drew D C cv x := h.below (Below.refl _ _).drew
/-- the step of the program's cache -/
structure PStep (D : DiskP) (C C' : CacheP) (w w' : World) : Prop where
 out : Out (fun i => D.has i ∨ C.own i) w w'
 same : C'.g = C.g ∧ C'.dp = C.dp ∧ C'.r = C.r ∧ C'.pv = C.pv
 new_ : ∀ i, C'.has i → C.has i ∨ w.heap.size ≤ i
theorem CStep.pstep (h : CStep C C' w w') (D : DiskP) : PStep D C C' w w' := ⟨h.out.sub (fun _ h => .inr h), h.same, h.new_⟩
theorem PStep.own_ (h : PStep D C C' w w') (i : Nat) : C'.own i ↔ C.own i := by
 unfold CacheP.own
 rw [h.same.1, h.same.2.2.1, h.same.2.2.2]
/-- the program's step first, then the reference's -/
theorem Both.pr (h : Both w D C cv x) (hd : DiskAt w1 D x'.disk) (hc : CacheAt w1 C' x') (hs : PStep D C C' w w1) (hb : Below w1.heap.size w1 w2) (hr : RCacheIn w2 w2.heap.size cv' x') (hn : CNew w1.heap.size w2.heap.size cv cv') : Both w2 D C' cv' x' ∧ PStep D C C' w w2 := by
 refine ⟨⟨hd.below hb, hc.below hb, hs.same.2.1.trans h.dp, hr, fun i hi hci => ?_, fun g hg => ⟨?_, fun ho => ?_, fun hD => ?_⟩⟩, ⟨hs.out.trans (G := fun _ => False) (outB hb) (fun _ _ h => h.elim), hs.same, hs.new_⟩⟩
 ·rcases hs.new_ i hci with h1 | h1
  ·exact h.sep i hi h1
  ·have := h.disk.has_lt i hi; omega
 ·rcases hn g hg with h1 | h1
  ·have := (h.far g h1).1; have := hs.out.size; have := hb.size; omega
  ·exact h1.2
 ·rw [hs.own_] at ho
  rcases hn g hg with h1 | h1
  ·exact (h.far g h1).2.1 ho
  ·have := h.cache.has_lt g (.inl ho); have := hs.out.size; omega
 ·rcases hn g hg with h1 | h1
  ·exact (h.far g h1).2.2 hD
  ·have := h.disk.has_lt g hD; have := hs.out.size; omega
/-- the reference's step first, then the program's -/
theorem Both.rp_ (h : Both w D C cv x) (hb : Below w.heap.size w w1) (hr : RCacheIn w1 w1.heap.size cv' x') (hn : CNew w.heap.size w1.heap.size cv cv') (hd : DiskAt w2 D x'.disk) (hc : CacheAt w2 C' x') (hs : PStep D C C' w1 w2) : Both w2 D C' cv' x' ∧ PStep D C C' w w2 := by
 have far1 : ∀ g, g ∈ footV cv' → ¬ (D.has g ∨ C.own g) := fun g hg ho => by
  rcases hn g hg with h1 | h1
  ·rcases ho with ho | ho
   ·exact (h.far g h1).2.2 ho
   ·exact (h.far g h1).2.1 ho
  ·rcases ho with ho | ho
   ·have := h.disk.has_lt g ho; omega
   ·have := h.cache.has_lt g (.inl ho); omega
 refine ⟨⟨hd, hc, hs.same.2.1.trans h.dp, hr.outO hs.out far1, fun i hi hci => ?_, fun g hg => ⟨?_, fun ho => far1 g hg (.inr ((hs.own_ g).1 ho)), fun hD => far1 g hg (.inl hD)⟩⟩, ⟨(outB hb : Out (fun i => D.has i ∨ C.own i) w w1).trans hs.out (fun _ _ h => h), hs.same, fun i hi => ?_⟩⟩
 ·rcases hs.new_ i hci with h1 | h1
  ·exact h.sep i hi h1
  ·have := h.disk.has_lt i hi; have := hb.size; omega
 ·rcases hn g hg with h1 | h1
  ·have := (h.far g h1).1; have := hs.out.size; have := hb.size; omega
  ·have := hs.out.size; omega
 ·rcases hs.new_ i hi with h1 | h1
  ·exact .inl h1
  ·exact .inr (by have := hb.size; omega)
end
end Go.Proofs.YtemcgfncahccgaaGreat
namespace Go.Proofs.YtemcgfncahccgaaGreat
open Go.RowKit Go.Shelf

theorem num17_any (x : Int) (w : World) : Calls Tryz.prog 16 #[.int .i64 x] w fun e w' => e = .returned (.int .i64 x) ∧ w' = w := by
 go_enter Tryz.func16, Tryz.ntmps16
 go_wp2_with fail
 go_ret
 exact ⟨rfl, rfl⟩
theorem dsteps17_any (D : DiskP) (x : DiskD) (w : World) (h : DiskAt w D x) (hx : x.ok) : Calls Tryz.prog 55 #[ptr D.p] w fun e w' => e = .returned (.int .i64 x.steps) ∧ w' = w := by
 have c3 := h.blk.cell_is 3 rfl
 have HN := Lib.hid (dnone_any D x w h hx)
 unfold ptr at *
 clear h hx
 go_enter Tryz.func55, Tryz.ntmps55
 go_wp2_with fail
 refine HN.out.mono ?_; rintro e w1 ⟨rfl, rfl⟩
 go_wp2_with fail
 go_ret
 exact ⟨rfl, rfl⟩
set_option maxRecDepth 100000 in
set_option maxHeartbeats 2000000 in
theorem ints_same (l : List Int) (u v : Value) (w : World) (hu : IntsIn w w.heap.size u l) (hv : IntsIn w w.heap.size v l) : Calls Tryz.prog 22 #[u, v] w fun e w' => e = .returned (.bool true) ∧ Below w.heap.size w w' := by
 have HU := Lib.hid hu
 have HV := Lib.hid hv
 obtain ⟨hmx, a1, c1, rfl, _, _⟩ := hu
 obtain ⟨_, a2, c2, rfl, _, _⟩ := hv
 have hlb : l.length ≤ 9223372036854775807 := by unfold maxLen at hmx; omega
 have ne : ((l.length : Int) != (l.length : Int)) = false := by simp
 clear hmx
 go_enter Tryz.func22, Tryz.ntmps22
 go_wp2_with fail
 go_loopw [5] (fun i wr => ∃ j : Nat, j ≤ l.length ∧ i = .int .i64 j ∧ Below w.heap.size w wr) (fun i _ => l.length - (intOf i).toNat)
 case atStart => exact ⟨0, by omega, rfl, Below.refl _ _⟩
 case round =>
  obtain ⟨j, hj, rfl, hb⟩ := hrel
  by_cases hlt : j < l.length
  ·have i2 : (j : Int) < (l.length : Int) := by omega
   obtain ⟨y, hy⟩ : ∃ y, l[j]? = some y := ⟨_, List.getElem?_eq_getElem hlt⟩
   obtain ⟨g1, o1, rfl, hg1, hc1⟩ := (HU.out.below hb (Nat.le_refl _)).at_ hy
   obtain ⟨g2, o2, rfl, hg2, hc2⟩ := (HV.out.below hb (Nat.le_refl _)).at_ hy
   have hs := hb.size
   have l1 : g1 < wr.heap.size := by omega
   have l2 : g2 < wr.heap.size := by omega
   have ny : (y != y) = false := by simp
   clear hy
   go_wp2_with fail
   refine jb (fun X => Below wr.heap.size wr X) (fun _ => True) 100 (Below.refl _ _).drew trivial fun hHeld hJ => ?_
   refine jk false 0 ?_
   refine jk false 1 ?_
   refine jk false 2 ?_
   refine jk false 3 ?_ (hy := by intro X hX _; have hc := (Below.cell hX (p := ⟨g1, o1 + j, none⟩) l1).trans hc1; go_simp; try with_reducible rfl)
   refine jk false 4 ?_
   refine jk false 5 ?_
   refine jk false 6 ?_
   refine jk false 7 ?_ (hy := by intro X hX _; have hc := (Below.cell hX (p := ⟨g2, o2 + j, none⟩) l2).trans hc2; go_simp; try with_reducible rfl)
   refine jk false 8 ?_
   refine wpAnyJ_done (by kernel_rfl) ?_ _
   go_wp2_with fail
   exact ⟨⟨j + 1, by omega, by go_num, hb.drew⟩, by simp [intOf]; omega⟩
  ·obtain rfl : j = l.length := by omega
   have i2 : ¬ (l.length : Int) < (l.length : Int) := by omega
   go_wp2_with fail
   go_ret
   exact ⟨rfl, hb⟩
theorem changed_rising {n : Nat} {h : List ItemD} (H : HandOk n h) : (sortI (oidsOf h)).filter (isChanged (itemOf h)) = risingL n (handB false h) := by
 rw [hand_rising H]
 unfold risingL
 rw [List.filter_map]
 congr 1
 rw [List.filter_filter]
 apply List.filter_congr
 intro k _
 simp only [Function.comp]
 unfold isChanged handB
 cases itemOf h k <;> simp
theorem cchanged_any {w : World} {C : CacheP} {x : CacheD} (h : CacheAt w C x) (H : CacheOk x) :
  Calls Tryz.prog 25 #[ptr C.g] w fun e w' => ∃ v, e = .returned v ∧ w'.ownsRow w.heap.size 3 1 v (risingL x.n (handB false x.hand)).length ((risingL x.n (handB false x.hand)).map (Value.int .i64)) ∧ Below w.heap.size w w' := by
 have hl := H.len
 refine (changed_any C x.room x.places (oidsOf x.hand) (itemOf x.hand) w h (by rw [oids_len]; omega) (fun m hm => itemOf_ne hm)).mono ?_
 rintro e w' ⟨v, rfl, h1, h2⟩
 rw [changed_rising H.hand] at h1
 exact ⟨v, rfl, h1, h2⟩
set_option maxRecDepth 100000 in
set_option maxHeartbeats 4000000 in
theorem stands_any {w : World} {D : DiskP} {C : CacheP} {cv : Value} {x : CacheD} {k : Int} (H : Both w D C cv x) (O : COk x k) : Calls Tryz.prog 28 #[ptr C.g, cv] w fun e w' => e = .returned (.bool true) ∧ Below w.heap.size w w' := by
 have HR := Lib.hid H.ref
 obtain ⟨lv, wv, fv, pv, hv, rfl, h1, h2, h3⟩ := H.ref
 have HH := Lib.hid h3
 have HP := Lib.hid h2
 obtain ⟨pa, pc, rfl⟩ : ∃ a c, pv = .slice a x.places.length c := by obtain ⟨_, a, c, e, _⟩ := h2; exact ⟨a, c, e⟩
 have HPL := Lib.hid (fun W (hW : Below w.heap.size w W) (i : Int) => place_any C x.room x.places (oidsOf x.hand) (itemOf x.hand) i W ((H.below hW).cache) (by have := O.len; omega))
 have HHA := Lib.hid (fun W (hW : Below w.heap.size w W) => chand_any (H.below hW).cache O.ok)
 have HCH := Lib.hid (fun W (hW : Below w.heap.size w W) => cchanged_any (H.below hW).cache O.ok)
 have HOI := Lib.hid (fun W (hW : Below w.heap.size w W) al => roids_any lv wv (.int .i64 x.disk.steps) fv (.int .i64 x.room) hv pa x.places.length pc x.hand al W (HH.out.up hW) (by have := O.len; omega))
 have hpl := O.len
 have HRL := Lib.hid (fun p => risingL_len x.n p)
 obtain ⟨P1, e1⟩ : ∃ P1, P1 = risingL x.n (handB true x.hand) := ⟨_, rfl⟩
 obtain ⟨P2, e2⟩ : ∃ P2, P2 = risingL x.n (handB false x.hand) := ⟨_, rfl⟩
 have e1' : risingL x.places.length (handB true x.hand) = P1 := e1.symm
 have e2' : risingL x.places.length (handB false x.hand) = P2 := e2.symm
 have hP1 : P1.length ≤ 1000000 := by rw [e1]; have := HRL.out (handB true x.hand); unfold CacheD.n at this; unfold CacheD.n; omega
 have hP2 : P2.length ≤ 1000000 := by rw [e2]; have := HRL.out (handB false x.hand); unfold CacheD.n at this; unfold CacheD.n; omega
 rw [← e1] at HHA
 rw [← e2] at HCH
 have HO1 := Lib.hid (fun W hW => HOI.out W hW true)
 have HO2 := Lib.hid (fun W hW => HOI.out W hW false)
 rw [e1'] at HO1
 rw [e2'] at HO2
 obtain ⟨XV, eXV⟩ : ∃ XV, XV = #[lv, wv, .int .i64 x.disk.steps, fv, .int .i64 x.room, .slice pa x.places.length pc, hv] := ⟨_, rfl⟩
 have sXV : (Tryz.prog.info? 61).map (·.size) = some XV.size := by rw [eXV]; exact size_rcache _ _ _ _ _ _ _
 have c5 : XV[5]? = some (.slice pa x.places.length pc) := by rw [eXV]; rfl
 rw [← eXV] at HO1 HO2 ⊢
 obtain ⟨W, eW⟩ : ∃ W, W = w.alloc (.cells XV 61) := ⟨_, rfl⟩
 have hbW : Below w.heap.size w W := by rw [eW]; exact (Below.refl _ w).alloc (Nat.le_refl _) _
 have k0 : Blk W w.heap.size 61 XV := by rw [eW]; exact Blk.new w _ _
 have HB := Lib.hid hbW
 have H1 := Lib.hid (And.intro hP1 hP2)
 unfold ptr at *
 clear H h1 h2 h3 e1 e2 e1' e2' eXV hbW HOI HRL hP1 hP2 O
 go_enter Tryz.func28, Tryz.ntmps28
 go_upto_region 1 with fail
 rw [← eW]
 clear eW
 go_wp2_with fail
 go_loopw [5, 6, 7] (fun i _ _ wr => ∃ j : Nat, j ≤ x.places.length ∧ i = .int .i64 j ∧ Hid (Below w.heap.size w wr) ∧ Blk wr w.heap.size 61 XV) (fun i _ _ _ => x.places.length - (intOf i).toNat)
 case atStart => exact ⟨0, by omega, rfl, HB, k0⟩
 case round =>
  obtain ⟨j, hj, rfl, hB, kr⟩ := hrel
  have d5 := kr.cell_is 5 c5
  by_cases hlt : j < x.places.length
  ·have i2 : (j : Int) < (x.places.length : Int) := by omega
   obtain ⟨y, hy⟩ : ∃ y, x.places[j]? = some y := ⟨_, List.getElem?_eq_getElem hlt⟩
   have HC := Lib.hid (HPL.out wr hB.out j)
   rw [show placeV x.places j = y by unfold placeV; rw [if_pos ⟨by omega, i2⟩, Int.toNat_natCast, List.getD_eq_getElem?_getD, hy]; rfl, show thereE x.places j = 0 by unfold thereE; rw [if_pos ⟨by omega, i2⟩]] at HC
   obtain ⟨g1, o1, rfl, hg1, hc1⟩ := (HP.out.below hB.out (Nat.le_refl _)).at_ hy
   have ny : (y != y) = false := by simp
   clear hy
   go_wp2_with fail
   refine HC.out.mono ?_; rintro e w1 ⟨rfl, rfl⟩
   go_wp2_with fail
   refine (num17_any 0 _).mono ?_; rintro e w2 ⟨rfl, rfl⟩
   go_wp2_with fail
   exact ⟨⟨j + 1, by omega, by go_num, hB, kr⟩, by simp [intOf]; omega⟩
  ·obtain rfl : j = x.places.length := by omega
   have i2 : ¬ (x.places.length : Int) < (x.places.length : Int) := by omega
   go_upto_region 7 with fail
   have hX : ∀ X, Below wr.heap.size wr X → Below w.heap.size w X := fun X h => hB.out.trans (h.mono hB.out.size)
   have HX := Lib.hid hX
   clear hX
   refine jb (fun X => Below wr.heap.size wr X) (fun _ => True) 100 (Below.refl _ _).drew trivial fun hHeld hJ => ?_
   refine jk false 0 ?_
   refine jy false 2 rfl (yieldsIf_load_mid (by rfl) 61 _ rfl w.heap.size 0 rfl XV.toList _ (fun w' h => blk_range (kr.below h.1 kr.lt)) Tryz.underlying61 rfl (by simpa using sXV)) ?_
   refine jr 1 fun K hK => ?_
   go_simp
   refine (HHA.out wr.drew (HX.out _ hHeld)).mono ?_; rintro r X ⟨v, rfl, ho, hb⟩
   dsimp only
   have hbX := hHeld.trans hb
   have hv1 := ownsRow_ints ho H1.out.1
   refine hK.out _ _ ⟨hbX, fun _ => trivial⟩ ?_
   clear hK K hHeld hb ho
   have hHeld := hbX
   refine jr 3 fun K hK => ?_
   go_simp
   refine (HO1.out X (HX.out _ hbX)).mono ?_; rintro r Y ⟨v', rfl, ho, hb⟩
   dsimp only
   have hbY := hbX.trans (hb.mono hbX.size)
   have hv2 := ownsRow_ints ho H1.out.1
   have hv1 := (hv1.below hb (Nat.le_refl _)).mono hb.size
   refine hK.out _ _ ⟨hbY, fun _ => trivial⟩ ?_
   clear hK K hHeld hb ho hbX
   have hHeld := hbY
   refine jr 4 fun K hK => ?_
   go_simp
   refine (ints_same P1 v v' Y hv1 hv2).mono ?_; rintro r Z ⟨rfl, hb⟩
   dsimp only
   have hbZ := hbY.trans (hb.mono hbY.size)
   refine hK.out _ _ ⟨hbZ, fun _ => trivial⟩ ?_
   clear hK K hHeld hb hv1 hv2 hbY
   have hHeld := hbZ
   refine jk false 5 ?_
   refine jk false 6 ?_
   refine jy false 8 rfl (yieldsIf_load_mid (by rfl) 61 _ rfl w.heap.size 0 rfl XV.toList _ (fun w' h => blk_range (kr.below h.1 kr.lt)) Tryz.underlying61 rfl (by simpa using sXV)) ?_
   refine jr 7 fun K hK => ?_
   go_simp
   refine (HCH.out Z (HX.out _ hHeld)).mono ?_; rintro r X2 ⟨v2, rfl, ho, hb⟩
   dsimp only
   have hbX := hbZ.trans (hb.mono hbZ.size)
   have hv1 := ownsRow_ints ho H1.out.2
   refine hK.out _ _ ⟨hbX, fun _ => trivial⟩ ?_
   clear hK K hHeld hb ho hbZ
   have hHeld := hbX
   refine jr 9 fun K hK => ?_
   go_simp
   refine (HO2.out X2 (HX.out _ hbX)).mono ?_; rintro r Y2 ⟨v2', rfl, ho, hb⟩
   dsimp only
   have hbY := hbX.trans (hb.mono hbX.size)
   have hv2 := ownsRow_ints ho H1.out.2
   have hv1 := (hv1.below hb (Nat.le_refl _)).mono hb.size
   refine hK.out _ _ ⟨hbY, fun _ => trivial⟩ ?_
   clear hK K hHeld hb ho hbX
   have hHeld := hbY
   refine jr 10 fun K hK => ?_
   go_simp
   refine (ints_same P2 v2 v2' Y2 hv1 hv2).mono ?_; rintro r Q ⟨rfl, hb⟩
   dsimp only
   have hbQ := hbY.trans (hb.mono hbY.size)
   refine hK.out _ _ ⟨hbQ, fun _ => trivial⟩ ?_
   clear hK K hHeld hb hv1 hv2 hbY
   have hHeld := hbQ
   refine jk false 11 ?_
   refine jk false 12 ?_
   refine wpAnyJ_done (by kernel_rfl) ?_ _
   go_wp2_with fail
   go_ret
   exact ⟨rfl, HX.out _ hbQ⟩
end Go.Proofs.YtemcgfncahccgaaGreat
namespace Go.Proofs.YtemcgfncahccgaaGreat
open Go.RowKit Go.Shelf

theorem put_disk (x : CacheD) (oid : Int) (o : ObjD) : (x.put oid o).disk = x.disk := by unfold CacheD.put; split <;> rfl
theorem evict_disk (x : CacheD) (p : Int) : (x.evict p).disk = x.disk := by unfold CacheD.evict; split <;> rfl
theorem move_disk (x : CacheD) (oid s : Int) : (x.move oid s).disk = x.disk := by unfold CacheD.move; split <;> rfl
theorem settle_disk (x : CacheD) (oid s : Int) : (x.settle oid s).disk = x.disk := by
 unfold CacheD.settle
 dsimp only
 split
 ·split
  ·split
   ·exact move_disk x oid s
   ·exact move_disk x oid s
  ·exact move_disk x oid s
 ·exact move_disk x oid s
/-- what the program's call leaves -/
def PPost (D : DiskP) (C : CacheP) (w w' : World) (x' : CacheD) : Prop := DiskAt w' D x'.disk ∧ ∃ C', CacheAt w' C' x' ∧ PStep D C C' w w'
section
variable {w : World} {D : DiskP} {C : CacheP} {cv : Value} {x : CacheD} {k : Int}
theorem pput (H : Both w D C cv x) (O : COk x k) (oid : Int) (o : ObjD) (ho : o.ok) :
  Calls Tryz.prog 15 #[ptr C.g, .int .i64 oid, .agg o.cells.toArray] w fun e w' => e = .returned (.int .i64 (x.putE oid o)) ∧ PPost D C w w' (x.put oid o) :=
 (cput_any H.cache O.ok oid o ho).mono fun e w' ⟨h1, C', h2, h3⟩ => ⟨h1, by rw [put_disk]; exact H.disk.out h3.out (fun i hi h => H.sep i hi (.inl h)), C', h2, h3.pstep D⟩
theorem pevict (H : Both w D C cv x) (O : COk x k) (p : Int) (hp : I64 p) :
  Calls Tryz.prog 17 #[ptr C.g, .int .i64 p] w fun e w' => e = .returned (.tuple #[.int .i64 (x.evictO p), .bool x.evictB]) ∧ PPost D C w w' (x.evict p) :=
 (cevict_any H.cache O.ok p hp).mono fun e w' ⟨h1, C', h2, h3⟩ => ⟨h1, by rw [evict_disk]; exact H.disk.out h3.out (fun i hi h => H.sep i hi (.inl h)), C', h2, h3.pstep D⟩
theorem pmove (H : Both w D C cv x) (O : COk x k) (oid s : Int) :
  Calls Tryz.prog 24 #[ptr C.g, .int .i64 oid, .int .i64 s] w fun e w' => e = .returned (.int .i64 (x.moveE oid s)) ∧ PPost D C w w' (x.move oid s) :=
 (cmove_any H.cache O.ok D H.disk H.dp oid s).mono fun e w' ⟨h1, h2, h3⟩ => ⟨h1, by rw [move_disk]; exact H.disk.out h3.out (fun i hi h => H.sep i hi (.inl h)), C, h2, h3.pstep D⟩
theorem psettle (H : Both w D C cv x) (O : COk x k) (oid s : Int) :
  Calls Tryz.prog 23 #[ptr C.g, .int .i64 oid, .int .i64 s] w fun e w' => e = .returned (.int .i64 (x.moveE oid s)) ∧ PPost D C w w' (x.settle oid s) :=
 (csettle_any H.cache O.ok D H.disk H.dp oid s).mono fun e w' ⟨h1, C', h2, h3⟩ => ⟨h1, by rw [settle_disk]; exact H.disk.out h3.out (fun i hi h => H.sep i hi (.inl h)), C', h2, h3.pstep D⟩
theorem get_law (O : COk x k) (oid : Int) : gtE x.places (itemOf x.hand) x.disk oid = x.getE_ oid ∧ gtO x.places (itemOf x.hand) x.disk oid = x.getO_ oid ∧ gtD x.places (itemOf x.hand) x.disk oid = (x.get_ oid).disk ∧
  gtF x.room x.places (oidsOf x.hand) (itemOf x.hand) x.disk oid = itemOf (x.get_ oid).hand ∧ gtU x.room x.places (oidsOf x.hand) (itemOf x.hand) x.disk oid = oidsOf (x.get_ oid).hand ∧ (x.get_ oid).room = x.room ∧ (x.get_ oid).places = x.places := by
 unfold gtE gtO gtD gtF gtU CacheD.getE_ CacheD.getO_ CacheD.get_
 by_cases ht : x.there oid = true
 ·have ht2 := there_iff.1 ht
  have ht3 : 0 ≤ oid ∧ oid < (x.places.length : Int) := ht2
  simp only [if_pos ht, if_pos ht3]
  cases hi : itemOf x.hand oid with
  | some it =>
   have he := (itemOf_some hi).2
   obtain ⟨_, w2, w3⟩ := with_use O.hand x.room O.room it (by rw [he]; exact ht2)
   rw [he] at w2 w3
   refine ⟨?_, ?_, ?_, ?_, ?_, ?_, ?_⟩ <;> first | trivial | rfl | exact w3.symm | exact w2.symm
  | none =>
   have hE : fetE x.disk (gtP x.places oid) x.places.length = x.fetchE oid := rfl
   dsimp only
   rw [hE]
   by_cases h0 : x.fetchE oid = 0
   ·simp only [if_pos h0]
    obtain ⟨_, w2, w3⟩ := with_use O.hand x.room O.room ⟨oid, getO (x.disk.read (x.placeOf oid)) x.n, false⟩ ht2
    refine ⟨?_, ?_, ?_, ?_, ?_, ?_, ?_⟩ <;> first | trivial | rfl | exact w3.symm | exact w2.symm
   ·simp only [if_neg h0]
    refine ⟨?_, ?_, ?_, ?_, ?_, ?_, ?_⟩ <;> first | trivial | rfl
 ·have ht3 : ¬ (0 ≤ oid ∧ oid < (x.places.length : Int)) := fun h => ht (there_iff.2 h)
  simp only [if_neg ht, if_neg ht3]
  refine ⟨?_, ?_, ?_, ?_, ?_, ?_, ?_⟩ <;> first | trivial | rfl
theorem pget (H : Both w D C cv x) (O : COk x k) (oid : Int) :
  Calls Tryz.prog 18 #[ptr C.g, .int .i64 oid] w fun e w' => e = .returned (.tuple #[.agg (x.getO_ oid).cells.toArray, .int .i64 (x.getE_ oid)]) ∧ PPost D C w w' (x.get_ oid) := by
 have hl := O.ok.len
 refine (gett_any C x.room x.places (oidsOf x.hand) (itemOf x.hand) D x.disk oid w H.cache H.disk O.disk H.dp (by omega) (by rw [oids_len]; omega) (fun m hm => itemOf_ne hm) O.room H.sep).mono ?_
 rintro e w' ⟨h1, h2, C', h3, h4, h5, h6⟩
 obtain ⟨l1, l2, l3, l4, l5, l6, l7⟩ := get_law O oid
 rw [l1, l2] at h1
 rw [l3] at h2
 rw [l4, l5] at h3
 refine ⟨h1, h2, C', ?_, ⟨h4, h5, h6⟩⟩
 unfold CacheAt
 rw [l6, l7]
 exact h3
end
/-- a call, as data -/
structure ActD where
 what : Int
 oid : Int
 at_ : Int
 o : ObjD
 bits : UInt8
def ActD.cells (a : ActD) : List Value := .int .i64 a.what :: .int .i64 a.oid :: .int .i64 a.at_ :: (a.o.cells ++ [vu8 a.bits])
structure ActD.ok (a : ActD) : Prop where
 o : a.o.ok
 r : rightsOk a.o
 i : I64 a.at_
theorem ActD.len {a : ActD} (h : a.ok) : a.cells.length = 167 := by
 show (a.o.cells ++ [vu8 a.bits]).length + 1 + 1 + 1 = 167
 rw [List.length_append, ObjD.len h.o]
 rfl
theorem act_info {a : ActD} (h : a.ok) : (Tryz.prog.info? 49).map (·.size) = some a.cells.toArray.size := by rw [List.size_toArray, ActD.len h]; kernel_rfl
theorem act_range {W : World} {g : Nat} {t : TypeId} {a : ActD} (h : Blk W g t a.cells.toArray) : W.rangeAt g 3 a.o.cells := fun j v hj => by
 refine h.cell_is (3 + j) ?_
 show (a.cells.toArray)[3 + j]? = some v
 rw [List.getElem?_toArray]
 show (Value.int .i64 a.what :: .int .i64 a.oid :: .int .i64 a.at_ :: (a.o.cells ++ [vu8 a.bits]))[3 + j]? = some v
 rw [show 3 + j = j + 1 + 1 + 1 by omega, List.getElem?_cons_succ, List.getElem?_cons_succ, List.getElem?_cons_succ, List.getElem?_append_left (List.getElem?_eq_some_iff.1 hj).1]
 exact hj
theorem yieldsIf_eql_agg {P : Program} {ops : Array Oper} {S : World → Prop} {op : Oper} {a : Act} (hw : Region.wanted op (yielded ops a.tmps) = true) (t t' : TypeId) (x y : Operand) (ho : op.op = .binOp .eql t x y t') (xs ys : Array Value)
  (hx : a.eval x = .agg xs) (hy : a.eval y = .agg ys) (hm : P.eqGuardType P.depth t = false) (b : Bool) (hS : ∀ w, S w → (Op.equalIn 10000 t (.agg xs) (.agg ys)).run P w = .ok b w) : YieldsIf P ops S op (.bool b) a :=
 .inl ⟨hw, fun w hw' => by
  unfold execOp
  simp only [ho, hx, hy, Sem.run_bind, run_eqGuard_agg _ _ _ _ _ _ _ hm, run_eql_struct, hS w hw', Sem.run_pure, Result.andThen_ok]⟩
/-- what an act leaves of both -/
def ActPost (D : DiskP) (C : CacheP) (cv : Value) (x' : CacheD) (w : World) (e : Ending) (w' : World) : Prop := ∃ cv' C', e = .returned (.tuple #[cv', .bool true]) ∧ Both w' D C' cv' x' ∧ PStep D C C' w w' ∧ CNew w.heap.size w'.heap.size cv cv'
end Go.Proofs.YtemcgfncahccgaaGreat
