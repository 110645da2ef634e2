/-
  cache.Copy: another cache that stands alike over another disk.
-/
import Derived.Test.YtemcgfncahccgaaGreatCh16
import Derived.Test.YtemcgfncahccgaaGreatCh37
import Derived.Test.YtemcgfncahccgaaGreatCh41
set_option linter.unusedVariables false
set_option linter.unusedSimpArgs false
namespace Go.Proofs.YtemcgfncahccgaaGreat
open Go.RowKit Go.Shelf

theorem lookG_mem {l : List EntG} (hn : (l.map (·.1)).Nodup) {p : EntG} (hp : p ∈ l) : lookG l p.1 = some p.2.1 := by
 induction l with
 | nil => cases hp
 | cons q l ih =>
  rw [List.map_cons, List.nodup_cons] at hn
  rw [look_cons]
  rcases List.mem_cons.1 hp with rfl | hp
  ·rw [if_pos rfl]
  ·rw [if_neg (fun e => hn.1 (by rw [← e]; exact List.mem_map.2 ⟨p, hp, rfl⟩))]
   exact ih hn.2 hp
/-- the copy's map, on the way -/
def CpHand (w : World) (B : Nat) (f : Int → Option ItemD) (l : List EntG) (bs : List Nat) (outs : List Int) : Prop :=
 (∀ m, if m ∈ outs then (∃ y b, f m = some y ∧ lookG l m = some (ptr b) ∧ b ∈ bs ∧ ItemAt w b y) else lookG l m = none) ∧ (∀ b ∈ bs, B ≤ b ∧ ∃ cs, Blk w b 103 cs)
theorem CpHand.out {w w' : World} {B : Nat} {f : Int → Option ItemD} {l : List EntG} {bs : List Nat} {outs : List Int} (h : CpHand w B f l bs outs) {F : Nat → Prop} (ho : Out F w w') (hF : ∀ i, B ≤ i → ¬ F i) : CpHand w' B f l bs outs := by
 refine ⟨fun m => ?_, fun b hb => ?_⟩
 ·have := h.1 m
  by_cases e : m ∈ outs
  ·rw [if_pos e] at this ⊢
   obtain ⟨y, b, h1, h2, h3, h4⟩ := this
   exact ⟨y, b, h1, h2, h3, h4.out ho (hF b (h.2 b h3).1)⟩
  ·rw [if_neg e] at this ⊢
   exact this
 ·obtain ⟨h1, cs, hc⟩ := h.2 b hb
  exact ⟨h1, cs, ho.blk hc (hF b h1)⟩
theorem CpHand.next {w : World} {B : Nat} {f : Int → Option ItemD} {l l' : List EntG} {bs : List Nat} {outs : List Int} (h : CpHand w B f l bs outs) {q : Int} {y : ItemD} {b : Nat} (hf : f q = some y) (hb : B ≤ b) (hi : ItemAt w b y) (hl : ∀ m, lookG l' m = if m = q then some (ptr b) else lookG l m) : CpHand w B f l' (b :: bs) (q :: outs) := by
 refine ⟨fun m => ?_, fun b' hb' => ?_⟩
 ·rw [hl m]
  by_cases e : m = q
  ·subst e
   rw [if_pos List.mem_cons_self, if_pos rfl]
   exact ⟨y, b, hf, rfl, List.mem_cons_self, hi⟩
  ·have := h.1 m
   by_cases e2 : m ∈ outs
   ·rw [if_pos e2] at this
    rw [if_pos (List.mem_cons_of_mem _ e2), if_neg e]
    obtain ⟨y', b', h1, h2, h3, h4⟩ := this
    exact ⟨y', b', h1, h2, List.mem_cons_of_mem _ h3, h4⟩
   ·rw [if_neg e2] at this
    rw [if_neg (by simp [e, e2]), if_neg e]
    exact this
 ·rcases List.mem_cons.1 hb' with rfl | hb'
  ·exact ⟨hb, _, hi.2⟩
  ·exact h.2 b' hb'
theorem item_info {y : ItemD} (h : y.o.ok) : (Tryz.prog.info? 103).map (·.size) = some (y.o.cells ++ [Value.bool y.ch]).toArray.size := by
 rw [List.size_toArray, List.length_append, ObjD.len h]
 kernel_rfl
theorem item_ones (y : ItemD) : ((y.o.cells ++ [Value.bool y.ch]).toArray : Array Value).all (·.oneCell') = true := by
 rw [List.all_toArray, List.all_eq_true]
 intro v hv
 rcases List.mem_append.1 hv with h | h
 ·exact obj_one _ v h
 ·rw [List.mem_singleton.1 h]; rfl
set_option maxRecDepth 100000 in
set_option maxHeartbeats 8000000 in
theorem copyc_any (C : CacheP) (room : Int) (ps us : List Int) (f : Int → Option ItemD) (D2 : DiskP) (x2 : DiskD) (w : World) (h : CacheRaw w C room ps f us) (hD : DiskAt w D2 x2) (hx : x2.ok) (hl : ps.length ≤ 1000000) (hu : us.length ≤ 1000000) :
  Calls Tryz.prog 27 #[ptr C.g, ptr D2.p] w fun e w' => ∃ C2 : CacheP, e = .returned (ptr C2.g) ∧ C2.dp = D2.p ∧ CacheRaw w' C2 room ps f us ∧ (∀ i, C2.has i → w.heap.size ≤ i) ∧ Below w.heap.size w w' := by
 have HS := Lib.hid (dsize_any D2 x2 w hD hx)
 have hsz : (x2.size == 0) = false := by have := hx.1; simp; omega
 have hB := h.blk
 have HH := Lib.hid h
 have HP := Lib.hid (ownsRow_ints h.places hl)
 have HU := Lib.hid (ownsRow_ints h.used hu)
 obtain ⟨l, c, hm, hlk⟩ := h.hand
 have HM := Lib.hid hm
 have HLK := Lib.hid hlk
 have hnd := hm.once
 have HND := Lib.hid hnd
 have hgl := hB.lt
 obtain ⟨g, dp, r, pv, uv, bs⟩ := C
 obtain ⟨p2, lm2, wv2, fv2⟩ := D2
 dsimp only at *
 have c0 := hB.cell_is 0 rfl
 unfold ptr at *
 clear h hm hlk hD hx hnd
 go_enter Tryz.func27, Tryz.ntmps27
 go_wp2_with fail
 refine HS.out.mono ?_; rintro e w1 ⟨rfl, rfl⟩
 go_upto_region 3 with fail
 have hmm := @run_makeMap Tryz.prog
 obtain ⟨pa, pc, epv⟩ := slice_form HH.out.places
 obtain ⟨ua, uc, euv⟩ := slice_form HH.out.used
 dsimp only at epv euv
 have EP := Lib.hid (And.intro epv euv)
 have HPX := Lib.hid (fun X (hX : Below w.heap.size w X) => clone_ints X X.heap.size pv ps hl ((HP.out.below hX (Nat.le_refl _)).mono hX.size))
 have HUX := Lib.hid (fun X (hX : Below w.heap.size w X) => clone_ints X X.heap.size uv us hu ((HU.out.below hX (Nat.le_refl _)).mono hX.size))
 have d2 : (#[.pointer (some ⟨dp, 0, none⟩), .int .i64 room, pv, .map (some r), uv] : Array Value)[2]? = some pv := rfl
 clear epv euv
 refine jb (fun X => Below w.heap.size w X) (fun _ => True) 100 (Below.refl _ _).drew trivial fun hHeld hJ => ?_
 refine jk false 0 ?_
 refine jk false 1 ?_
 refine jk false 2 ?_
 refine jk false 3 ?_
 refine jk false 4 ?_ (hy := by intro X hX _; have hc := (hB.below hX hgl).cell_is 1 rfl; go_simp; try with_reducible rfl)
 refine jk false 5 ?_
 refine jk false 6 ?_
 refine jk false 7 ?_
 refine jk false 8 ?_ (hy := by intro X hX _; have hc := (hB.below hX hgl).cell_is 2 rfl; go_simp; try with_reducible rfl)
 refine jk false 11 ?_
 refine jk false 12 ?_
 refine jk false 13 ?_
 refine jk false 14 ?_ (hy := by intro X hX _; have hc := (hB.below hX hgl).cell_is 4 rfl; go_simp; try with_reducible rfl)
 refine jm3 9 10 15 (fun o1 o2 o3 X => (∀ v, o1 = some v → X.ownsRow w.heap.size 3 1 v ps.length (ps.map (Value.int .i64))) ∧ (∀ v, o2 = some v → ∃ r, v = .map (some r) ∧ MapG X r .i64 [] 0 ∧ w.heap.size ≤ r) ∧ (∀ v, o3 = some v → X.ownsRow w.heap.size 3 1 v us.length (us.map (Value.int .i64))) ∧ (∀ v1 v3, o1 = some v1 → o3 = some v3 → ∀ i, v1.ownBlock = some i → v3.ownBlock ≠ some i) ∧ Below w.heap.size w X)
  (fun _ _ _ _ h => h.2.2.2.2) ⟨fun v h => (by cases h), fun v h => (by cases h), fun v h => (by cases h), fun v _ h => (by cases h), hHeld⟩ ?_ ?_ ?_ ?_
 ·rintro o2 o3 X ⟨_, hR2, hR3, _, hbX⟩ _ K hK
  have HK := Lib.hid hK
  have fin : ∀ v X', X'.ownsRow X.heap.size 3 1 v ps.length (ps.map (Value.int .i64)) → Below X.heap.size X X' → K _ X' := fun v X' ho hb => HK.out.out v X' ⟨fun v1 h => (by cases h; exact World.ownsRow.mono ho hbX.size), fun v2 h => (by
    obtain ⟨r, e, hm, hr⟩ := hR2 v2 h
    exact ⟨r, e, hm.same (hb.block r hm.lt), hr⟩), fun v3 h => ownsRow_out (F := fun _ => False) (outB hb) (hR3 v3 h) (fun _ _ h => h), fun v1 v3 h1 h3 i hi hi3 => (by
    cases h1
    have := (World.ownsRow.lt ho i hi).1
    have := ownBlock_lt (hR3 v3 h3) hi3
    omega), hbX.trans (hb.mono hbX.size)⟩
  have FIN := Lib.hid fin
  have HC := Lib.hid (HPX.out X hbX)
  clear fin hK
  cases o2 <;> cases o3
  all_goals
   simp only [act3, putO, Act.put, Array.toArray_toList, pz0, pz1, pz2, pz3, pz4, pz5]
   go_simp
   refine HC.out.mono ?_; rintro r X' ⟨v', rfl, ho, hb⟩
   exact FIN.out _ _ ho hb
 ·rintro o1 o3 X ⟨hR1, _, hR3, hR4, hbX⟩ _ K hK
  go_simp
  have hb := (Below.refl X.heap.size X).alloc (Nat.le_refl _) (.map #[] 0)
  exact hK.out (.map (some X.heap.size)) _ ⟨fun v h => ownsRow_out (F := fun _ => False) (outB hb) (hR1 v h) (fun _ _ h => h), fun v h => (by cases h; exact ⟨_, rfl, MapG.new X .i64, hbX.size⟩), fun v h => ownsRow_out (F := fun _ => False) (outB hb) (hR3 v h) (fun _ _ h => h), hR4, hbX.trans (hb.mono hbX.size)⟩
 ·rintro o1 o2 X ⟨hR1, hR2, _, _, hbX⟩ _ K hK
  have HK := Lib.hid hK
  have fin : ∀ v X', X'.ownsRow X.heap.size 3 1 v us.length (us.map (Value.int .i64)) → Below X.heap.size X X' → K _ X' := fun v X' ho hb => HK.out.out v X' ⟨fun v1 h => ownsRow_out (F := fun _ => False) (outB hb) (hR1 v1 h) (fun _ _ h => h), fun v2 h => (by
    obtain ⟨r, e, hm, hr⟩ := hR2 v2 h
    exact ⟨r, e, hm.same (hb.block r hm.lt), hr⟩), fun v3 h => (by cases h; exact World.ownsRow.mono ho hbX.size), fun v1 v3 h1 h3 i hi hi3 => (by
    cases h3
    have := (World.ownsRow.lt ho i hi3).1
    have := ownBlock_lt (hR1 v1 h1) hi
    omega), hbX.trans (hb.mono hbX.size)⟩
  have FIN := Lib.hid fin
  have HC := Lib.hid (HUX.out X hbX)
  clear fin hK
  cases o1 <;> cases o2
  all_goals
   simp only [act3, putO, Act.put, Array.toArray_toList, pz0, pz1, pz2, pz3, pz4, pz5]
   go_simp
   refine HC.out.mono ?_; rintro r X' ⟨v', rfl, ho, hb⟩
   exact FIN.out _ _ ho hb
 ·rintro u1 v2 u3 X ⟨hR1, hR2, hR3, hR4, hbX⟩ hHeld
  obtain ⟨r2, rfl, hm2, hr2⟩ := hR2 _ rfl
  have ho1 := hR1 _ rfl
  have ho3 := hR3 _ rfl
  have hap := hR4 _ _ rfl rfl
  clear hR1 hR2 hR3 hR4
  obtain ⟨a1, cap1, rfl⟩ := slice_form ho1
  obtain ⟨a3, cap3, rfl⟩ := slice_form ho3
  simp only [act3, putO, Act.put, Array.toArray_toList, pz0, pz1, pz2, pz3, pz4, pz5]
  refine jk false 16 ?_
  refine jr 17 fun K hK => ?_
  go_simp
  obtain ⟨Z, eZ⟩ : ∃ Z, Z = X.alloc (.cells #[.pointer (some ⟨p2, 0, none⟩), .int .i64 room, .slice a1 ps.length cap1, .map (some r2), .slice a3 us.length cap3] 97) := ⟨_, rfl⟩
  have hbZ : Below X.heap.size X Z := by rw [eZ]; exact (Below.refl _ _).alloc (Nat.le_refl _) _
  have kN : Blk Z X.heap.size 97 #[.pointer (some ⟨p2, 0, none⟩), .int .i64 room, .slice a1 ps.length cap1, .map (some r2), .slice a3 us.length cap3] := by rw [eZ]; exact Blk.new _ _ _
  rw [← eZ]
  have hZs : Z.heap.size = X.heap.size + 1 := by rw [eZ]; simp
  clear eZ
  have hbwZ := hbX.trans (hbZ.mono hbX.size)
  refine hK.out _ _ ⟨hbwZ, fun _ => trivial⟩ ?_
  clear hK K hHeld
  have hHeld := hbwZ
  refine jk false 18 ?_
  refine wpAnyJ_done (by kernel_rfl) ?_ _
  obtain ⟨v1, ev1⟩ : ∃ v, v = Value.slice a1 ps.length cap1 := ⟨_, rfl⟩
  obtain ⟨v3, ev3⟩ : ∃ v, v = Value.slice a3 us.length cap3 := ⟨_, rfl⟩
  rw [← ev1, ← ev3] at kN hap ⊢
  rw [← ev1] at ho1
  rw [← ev3] at ho3
  clear ev1 ev3
  obtain ⟨gN, egN⟩ : ∃ g, g = X.heap.size := ⟨_, rfl⟩
  have hl2 : r2 < gN := by rw [egN]; exact hm2.lt
  have hov : ∀ i, v1.ownBlock = some i ∨ v3.ownBlock = some i → i < gN ∧ w.heap.size ≤ i := fun i hi => by
   rw [egN]
   rcases hi with hi | hi
   ·exact ⟨ownBlock_lt ho1 hi, (World.ownsRow.lt ho1 i hi).1⟩
   ·exact ⟨ownBlock_lt ho3 hi, (World.ownsRow.lt ho3 i hi).1⟩
  have hmZ := hm2.same (hbZ.block _ hm2.lt)
  have HO1 := Lib.hid (ownsRow_out (F := fun _ => False) (outB hbZ) ho1 (fun _ _ h => h))
  have HO3 := Lib.hid (ownsRow_out (F := fun _ => False) (outB hbZ) ho3 (fun _ _ h => h))
  have HOV := Lib.hid hov
  have HAP := Lib.hid hap
  have HNE := Lib.hid (show ∀ i, v1.ownBlock = some i ∨ v3.ownBlock = some i → i ≠ r2 from fun i hi e => by
   rcases hi with hi | hi
   ·obtain ⟨o, ho, hc⟩ := ownsRow_cells ho1 i hi
    rw [e, hm2.block] at ho; cases ho; cases hc
   ·obtain ⟨o, ho, hc⟩ := ownsRow_cells ho3 i hi
    rw [e, hm2.block] at ho; cases ho; cases hc)
  have hgw : w.heap.size ≤ gN := by rw [egN]; exact hbX.size
  rw [← egN] at kN hZs ⊢
  have HHZ := Lib.hid (HH.out.below hbwZ)
  have kB := hB.below hbwZ hgl
  have hlr : r < w.heap.size := HM.out.lt
  have hmk := (HM.out.same (hbwZ.block _ hlr)).k
  have c3 := kB.cell_is 3 rfl
  have HBZ := Lib.hid hbwZ
  clear hbZ hbX egN hHeld hmm hm2 ho1 ho3 hov hap hbwZ
  go_upto_region 5 with (first | (at_range; refine wpList_rangeK rfl _ rfl Tryz.underlying95 rfl hmk ?_; intro Z1 n1 hr1' hb1 hs1; go_frame) | fail)
  have kN1 := kN.below hb1 kN.lt
  have hmZ1 := hmZ.same (hb1.block _ hmZ.lt)
  have HZ1 := Lib.hid hb1
  obtain ⟨rI, erI⟩ : ∃ r, r = Z.heap.size := ⟨_, rfl⟩
  rw [← erI] at hr1' hs1 ⊢
  have hrI : rI = gN + 1 := by omega
  have hZ1s : Z1.heap.size = gN + 2 := by omega
  have HRG := Lib.hid hr1'
  have HINI := Lib.hid (show CpHand Z1 Z1.heap.size f [] [] [] from ⟨fun m => by rw [if_neg (by simp)]; rfl, fun b hb => by cases hb⟩)
  have HSZ := Lib.hid (show r2 < gN ∧ w.heap.size ≤ gN ∧ r < w.heap.size ∧ w.heap.size ≤ r2 ∧ gN < rI ∧ rI < Z1.heap.size from ⟨hl2, hgw, hlr, hr2, by omega, by omega⟩)
  have HFR := Lib.hid (show Out (fun i => i = r2 ∨ i = rI) Z1 Z1 from Out.refl _ _)
  obtain ⟨L, eL⟩ : ∃ L, L = l.map fun x => (x.1, x.2.1) := ⟨_, rfl⟩
  rw [← eL] at HRG
  have EL := Lib.hid eL
  clear hmk kN hmZ hb1 hs1 hZs hl2 hgw hlr hr2 hrI hZ1s c3 kB erI hr1' eL
  go_loopw [6, 7, 8] (fun _ _ _ wr => ∃ outs n l2 c2 bs2, Hid (RangeK wr rI (some r) .i64 L outs n) ∧ Hid (MapG wr r2 .i64 l2 c2) ∧ Hid (CpHand wr Z1.heap.size f l2 bs2 outs) ∧ Hid (∀ m ∈ outs, f m ≠ none) ∧ Hid (Out (fun i => i = r2 ∨ i = rI) Z1 wr)) (fun _ _ _ wr => leftK wr rI)
  case atStart => exact ⟨[], n1, [], 0, [], HRG, Lib.hid hmZ1, HINI, Lib.hid (fun m hm => by cases hm), HFR⟩
  case round =>
   obtain ⟨outs, n, l2, c2, bs2, HRr, HMr, HCr, HFr, HOr⟩ := hrel
   obtain ⟨hl2, hgw, hlr, hr2, hrI, hZ1s⟩ := HSZ.out
   have kr : Blk wr gN 97 #[.pointer (some ⟨p2, 0, none⟩), .int .i64 room, v1, .map (some r2), v3] := HOr.out.blk kN1 (fun h => by omega)
   have hszr := HOr.out.size
   have hrr := HRr.out
   go_wp2_with (at_next; refine wpList_nextK rfl _ rfl rfl hrr ?_ ?_)
   ·intro hd
    have HDN := Lib.hid hd
    have hret := Lib.hid (show CacheRaw wr ⟨gN, p2, r2, v1, v3, bs2⟩ room ps f us from by
     have hF : ∀ i, v1.ownBlock = some i ∨ v3.ownBlock = some i → ¬ (i = r2 ∨ i = rI) := fun i hi h => by
      have h1 := (HOV.out i hi).1
      have h2 := HNE.out i hi
      omega
     refine ⟨kr, World.ownsRow.mono (ownsRow_out HOr.out (ownsRow_out (F := fun _ => False) (outB HZ1.out) HO1.out (fun _ _ h => h)) (fun i hi => hF i (.inl hi))) (Nat.zero_le _), World.ownsRow.mono (ownsRow_out HOr.out (ownsRow_out (F := fun _ => False) (outB HZ1.out) HO3.out (fun _ _ h => h)) (fun i hi => hF i (.inr hi))) (Nat.zero_le _), HAP.out, ⟨l2, c2, HMr.out, fun m => ?_⟩, fun b hb => (HCr.out.2 b hb).2⟩
     have hc := HCr.out.1 m
     by_cases e : m ∈ outs
     ·rw [if_pos e] at hc
      obtain ⟨y, b, h1, h2, h3, h4⟩ := hc
      exact .inl ⟨y, b, h1, h2, h3, h4⟩
     ·rw [if_neg e] at hc
      refine .inr ⟨?_, hc⟩
      rcases HLK.out m with ⟨y, b, h1, h2, h3, h4⟩ | h1
      ·exfalso
       obtain ⟨x, hx, ex⟩ : ∃ x ∈ l, x.1 = m := by
        unfold lookG at h2
        obtain ⟨x, hx, _⟩ := Option.map_eq_some_iff.1 h2
        exact ⟨x, List.mem_of_find?_eq_some hx, (by have := List.find?_some hx; exact (beq_iff_eq.1 this).symm)⟩
       exact e (by rw [← ex]; exact HDN.out x.1 x.2.1 (by rw [EL.out]; exact List.mem_map.2 ⟨x, hx, rfl⟩))
      ·exact h1.1)
    have hbw := Lib.hid (HBZ.out.trans ((HZ1.out.mono HBZ.out.size).trans (HOr.out.below (B := w.heap.size) (by omega) (fun i hi h => by omega))))
    clear hrr hd kr
    go_wp2_with fail
    go_ret
    refine ⟨⟨gN, p2, r2, v1, v3, bs2⟩, rfl, rfl, hret.out, fun i hi => ?_, hbw.out⟩
    rcases hi with (hi | hi | hi) | hi | hi
    ·have hi : i = gN := hi
     omega
    ·have hi : i = r2 := hi
     omega
    ·exact (HOV.out i (.inl hi)).2
    ·exact (HOV.out i (.inr hi)).2
    ·have := (HCr.out.2 i hi).1
     omega
   ·intro q pv w1 n' hp hrg1 hn' ho1 hs1 hen
    obtain ⟨y, b, hfy, epv, hby, hiy⟩ : ∃ y b, f q = some y ∧ pv = .pointer (some ⟨b, 0, none⟩) ∧ b < w.heap.size ∧ ItemAt w b y := by
     rw [EL.out] at hp
     obtain ⟨x, hx, ex⟩ := List.mem_map.1 hp
     have hlk := lookG_mem HND.out hx
     injection ex with e1 e2
     rw [e1, e2] at hlk
     rcases HLK.out q with ⟨y, b, h1, h2, h3, h4⟩ | ⟨_, h2⟩
     ·rw [hlk] at h2
      injection h2 with h2
      exact ⟨y, b, h1, h2, h4.2.lt, h4⟩
     ·rw [hlk] at h2; cases h2
    subst epv
    have hoW1 : Out (fun i => i = r2 ∨ i = rI) Z1 w1 := HOr.out.trans ho1 (fun _ _ h => .inr h)
    have kr1 : Blk w1 gN 97 _ := ho1.blk kr (fun h => by omega)
    have hs1' := Lib.hid hs1
    have hsle : wr.heap.size ≤ w1.heap.size := by omega
    clear hs1
    have hiy1 : ItemAt w1 b y := (hiy.out (F := fun _ => False) (outB (HBZ.out.trans (HZ1.out.mono HBZ.out.size))) (fun h => h)).out hoW1 (fun h => by omega)
    have HM1 := Lib.hid (HMr.out.same (ho1.block r2 HMr.out.lt (show ¬ (r2 = rI) by omega)))
    have HR1 := Lib.hid hrg1
    have HO1' := Lib.hid hoW1
    have HOK := Lib.hid hiy1.1
    have HFY := Lib.hid hfy
    have HII := Lib.hid (item_info (y := y) hiy1.1)
    have HI1 := Lib.hid (item_ones y)
    have HIZ := Lib.hid (show (Tryz.zeroCells103 : Array Value).size = (y.o.cells ++ [Value.bool y.ch]).toArray.size from by
     have h : (y.o.cells ++ [Value.bool y.ch]).toArray.size = 164 := by rw [List.size_toArray, List.length_append, ObjD.len hiy1.1]; rfl
     exact (show (Tryz.zeroCells103 : Array Value).size = 164 from by kernel_rfl).trans h.symm)
    have kb := hiy1.2
    obtain ⟨ic, eic⟩ : ∃ ic, ic = (y.o.cells ++ [Value.bool y.ch]).toArray := ⟨_, rfl⟩
    rw [← eic] at HII HI1 HIZ kb
    have EIC := Lib.hid eic
    clear hrg1 hrr hp kr hiy hiy1 hfy eic hoW1
    have hK := Blk.new w1 103 Tryz.zeroCells103
    go_upto_region 8 with (first
     | (refine wpList_load_row rfl 103 _ rfl b rfl 103 ic (0, 0) _ kb Tryz.underlying103 rfl HII.out ?_)
     | (refine wpList_store_row rfl 103 _ _ rfl w1.heap.size ic rfl rfl 103 _ hK HII.out HIZ.out HI1.out ?_; rw [World.setRow_alloc_new])
     | fail)
    obtain ⟨Y, eY⟩ : ∃ Y, Y = w1.alloc (.cells ic 103) := ⟨_, rfl⟩
    have hbY : Below w1.heap.size w1 Y := by rw [eY]; exact (Below.refl _ _).alloc (Nat.le_refl _) _
    have kS : Blk Y w1.heap.size 103 ic := by rw [eY]; exact Blk.new _ _ _
    rw [← eY]
    clear eY hK hen kb
    have krY := kr1.below hbY kr1.lt
    have c3 := krY.cell_is 3 rfl
    have hmY := HM1.out.same (hbY.block _ HM1.out.lt)
    clear kr1
    go_wp2_with (first
     | (refine wpList_storeG _ rfl _ _ _ rfl Tryz.underlying95 Tryz.underlying3 hmY rfl q rfl _ rfl ?_; intro W2 l' c' hm2 hlk2 hT; have HM2 := Lib.hid hm2; have HLK2 := Lib.hid hlk2; have HT := Lib.hid hT; clear hm2 hlk2 hT; go_frame)
     | fail)
    have hoT : Out (fun i => i = r2) Y _ := turn_out HT.out
    have hoY : Out (fun i => i = r2 ∨ i = rI) wr _ := (Out.trans (F := fun i => i = r2 ∨ i = rI) (G := fun i => i = rI) (Out.refl _ wr) ho1 (fun _ _ h => .inr h)).trans (G := fun _ => False) (outB hbY) (fun _ _ h => h.elim) |>.trans hoT (fun _ _ h => .inl h)
    have hmeas : leftK W2 rI < leftK wr rI := by
     rw [((HR1.out.out (F := fun _ => False) (outB hbY) (fun h => h) (fun _ _ h => h)).out hoT (show ¬ (rI = r2) by omega) (fun i hi e => by cases hi; omega)).left, HRr.out.left]
     exact hn'
    exact ⟨⟨q :: outs, n', l', c', w1.heap.size :: bs2, Lib.hid ((HR1.out.out (F := fun _ => False) (outB hbY) (fun h => h) (fun _ _ h => h)).out hoT (show ¬ (rI = r2) by omega) (fun i hi e => by cases hi; omega)), HM2,
     Lib.hid ((HCr.out.out hoY (fun i hi h => by omega)).next HFY.out (by omega) ⟨HOK.out, by rw [← EIC.out]; exact hoT.blk kS (by omega)⟩ HLK2.out), Lib.hid (fun m hm => by
      rcases List.mem_cons.1 hm with rfl | hm
      ·rw [HFY.out]; exact Option.some_ne_none _
      ·exact HFr.out m hm), Lib.hid ((HO1'.out.trans (G := fun _ => False) (outB hbY) (fun _ _ h => h.elim)).trans hoT (fun _ _ h => .inl h))⟩, hmeas⟩
end Go.Proofs.YtemcgfncahccgaaGreat
