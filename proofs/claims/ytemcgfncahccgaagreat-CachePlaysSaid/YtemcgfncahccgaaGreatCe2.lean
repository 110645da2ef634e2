/-
  The program's Spoil, where both caches stand alike; the act Spoil.
  The law CachePlays.
  CachePlays: for every input the law answers true, and its arguments read as they did; without conditions.
-/
import Derived.Test.YtemcgfncahccgaaGreatCa33
import Derived.Test.YtemcgfncahccgaaGreatCe1
set_option linter.unusedVariables false
set_option linter.unusedSimpArgs false
namespace Go.Proofs.YtemcgfncahccgaaGreat
open Go.RowKit Go.Shelf

theorem dspoil_no (D : DiskP) (x : DiskD) (n q : Int) (c : UInt8) (w : World) (h : DiskAt w D x) (hx : x.ok) (hn : x.spoils n q = false) :
  Calls Tryz.prog 61 #[ptr D.p, .int .i64 n, .int .i64 q, .int .u8 (c.toNat : Int)] w fun e w' => e = .returned (.int .i64 4) ∧ w = w' := by
 have HR := Lib.hid (dright_no D x n q w h hx (by unfold DiskD.spoils at hn; have := of_decide_eq_false hn; omega))
 unfold ptr at *
 clear h hx hn
 go_enter Tryz.func61, Tryz.ntmps61
 go_wp2_with fail
 refine HR.out.mono ?_; rintro e w1 ⟨rfl, rfl⟩
 go_wp2_with fail
 go_ret
 exact ⟨rfl, rfl⟩
theorem spoil_ok {x : DiskD} (hx : x.ok) (n : Int) (o : Nat) (c : UInt8) : (x.spoil n o c).ok := by
 obtain ⟨o1, o2, o3, o4, o5, o6, o7⟩ := hx
 refine ⟨o1, o2, fun m => ?_, fun y hy => ?_, o5, o6, by show (x.waits.map _).length ≤ _; rw [List.length_map]; exact o7⟩
 ·show (if m = n then flipL (x.lasts n) o c else x.lasts m).length = 512
  split
  ·rw [flipL_len]; exact o3 _
  ·exact o3 _
 ·obtain ⟨z, hz, rfl⟩ := List.mem_map.1 (show y ∈ x.waits.map (flipW n o c) from hy)
  exact flipW_len n o c z (o4 z hz)
/-- a byte of the cache's disk is spoiled, if there is one -/
def CacheD.spoil (x : CacheD) (n q : Int) (c : UInt8) : CacheD := if x.disk.spoils n q = true then { x with disk := x.disk.spoil n q.toNat c } else x
def CacheD.spoilE (x : CacheD) (n q : Int) : Int := if x.disk.spoils n q = true then 0 else 4
theorem COk.spoil {x : CacheD} {k : Int} (h : COk x k) (n q : Int) (c : UInt8) : COk (x.spoil n q c) k := by
 unfold CacheD.spoil
 split
 ·exact ⟨h.hand, h.room, h.len, spoil_ok h.disk _ _ _, h.steps, by show x.disk.waits.map _ = []; rw [h.waits]; rfl⟩
 ·exact h
theorem DStep.pstep {D : DiskP} {w w' : World} (h : DStep D D w w') (C : CacheP) : PStep D C C w w' := ⟨h.out.sub (fun _ h => .inl h), ⟨rfl, rfl, rfl, rfl⟩, fun _ h => .inl h⟩
section
variable {w : World} {D : DiskP} {C : CacheP} {cv : Value} {x : CacheD} {k : Int}
theorem pspoil (H : Both w D C cv x) (O : COk x k) (n q : Int) (c : UInt8) :
  Calls Tryz.prog 61 #[ptr D.p, .int .i64 n, .int .i64 q, .int .u8 (c.toNat : Int)] w fun e w' => e = .returned (.int .i64 (x.spoilE n q)) ∧ PPost D C w w' (x.spoil n q c) := by
 unfold CacheD.spoilE CacheD.spoil
 by_cases hs : x.disk.spoils n q = true
 ·rw [if_pos hs, if_pos hs]
  have hh := of_decide_eq_true hs
  obtain ⟨o, rfl⟩ := Int.eq_ofNat_of_zero_le hh.2.2.1
  refine (dspoil_any D x.disk n o c w H.disk O.disk ⟨hh.1, hh.2.1⟩ (by omega)).mono ?_
  rintro e w' ⟨h1, h2, h3⟩
  refine ⟨h1, by rw [Int.toNat_natCast]; exact h2, C, ?_, h3.pstep C⟩
  exact CacheRaw.out H.cache h3.out (fun i hi h => H.sep i h hi)
 ·rw [if_neg hs, if_neg hs]
  refine (dspoil_no D x.disk n q c w H.disk O.disk (by simpa using hs)).mono ?_
  rintro e w' ⟨h1, rfl⟩
  exact ⟨h1, H.disk, C, H.cache, ⟨Out.refl _ _, ⟨rfl, rfl, rfl, rfl⟩, fun _ h => .inl h⟩⟩
theorem rspoil_cache (x : CacheD) (n q : Int) (c : UInt8) (lv wv fv : Value) (w : World) (h : RDisk w w.heap.size lv wv fv x.disk) (hx : x.disk.ok) (hw : x.disk.waits = []) :
  Calls Tryz.prog 60 #[.agg #[lv, wv, .int .i64 x.disk.steps, fv], .int .i64 n, .int .i64 q, vu8 c] w fun e w' => Below w.heap.size w w' ∧ ∃ lv' wv', e = .returned (.tuple #[.agg #[lv', wv', .int .i64 x.disk.steps, fv], .int .i64 (x.spoilE n q)]) ∧
   RDisk w' w'.heap.size lv' wv' fv (x.spoil n q c).disk ∧ VNew w.heap.size w'.heap.size lv lv' ∧ VNew w.heap.size w'.heap.size wv wv' := by
 refine (rdspoil_any x.disk n q c lv wv fv w h hx hw).mono ?_
 rintro e w' ⟨hb, ⟨hs, lv', wv', rfl, hR, h1, h2⟩ | ⟨hs, rfl⟩⟩
 ·refine ⟨hb, lv', wv', by unfold CacheD.spoilE; rw [if_pos hs], by unfold CacheD.spoil; rw [if_pos hs]; exact hR, fun g hg => .inr (h1 g hg), fun g hg => .inr (h2 g hg)⟩
 ·refine ⟨hb, lv, wv, by unfold CacheD.spoilE; rw [if_neg (by rw [hs]; decide)], by unfold CacheD.spoil; rw [if_neg (by rw [hs]; decide)]; exact (h.below hb (Nat.le_refl _)).mono hb.size, VNew.refl _ _ _, VNew.refl _ _ _⟩
theorem spoil_same (x : CacheD) (n q : Int) (c : UInt8) : (x.spoil n q c).disk.steps = x.disk.steps ∧ (x.spoil n q c).room = x.room ∧ (x.spoil n q c).places = x.places ∧ (x.spoil n q c).hand = x.hand := by
 unfold CacheD.spoil
 split <;> exact ⟨rfl, rfl, rfl, rfl⟩
end
set_option maxRecDepth 100000 in
set_option maxHeartbeats 4000000 in
theorem act_spoil {w : World} {D : DiskP} {C : CacheP} {cv : Value} {x : CacheD} {k : Int} (H : Both w D C cv x) (O : COk x k) (a : ActD) (ha : a.ok) (h0 : ¬ a.what = 0) (h1 : ¬ a.what = 1) (h2 : ¬ a.what = 2) (h3 : ¬ a.what = 3) (h4 : ¬ a.what = 4) :
  Calls Tryz.prog 30 #[ptr D.p, ptr C.g, cv, .agg a.cells.toArray] w (ActPost D C cv (x.spoil a.oid a.at_ a.bits) w) := by
 obtain ⟨lv, wv, fv, pv, hv, rfl, hr1, hr2, hr3⟩ := H.ref
 have HI7 := Lib.hid (info_cache (XV := #[lv, wv, .int .i64 x.disk.steps, fv, .int .i64 x.room, pv, hv]) rfl)
 obtain ⟨ac, eac⟩ : ∃ ac, ac = a.cells.toArray := ⟨_, rfl⟩
 obtain ⟨t, et⟩ : ∃ t, t = a.what := ⟨_, rfl⟩
 have a0 : ac[0]? = some (.int .i64 t) := by rw [eac, et]; rfl
 have a1 : ac[1]? = some (.int .i64 a.oid) := by rw [eac]; rfl
 have a2 : ac[2]? = some (.int .i64 a.at_) := by rw [eac]; rfl
 have a3 : ac[166]? = some (vu8 a.bits) := by
  rw [eac, List.getElem?_toArray]
  show (Value.int .i64 a.what :: .int .i64 a.oid :: .int .i64 a.at_ :: (a.o.cells ++ [vu8 a.bits]))[163 + 1 + 1 + 1]? = some _
  rw [List.getElem?_cons_succ, List.getElem?_cons_succ, List.getElem?_cons_succ, List.getElem?_append_right (by rw [ObjD.len ha.o]; exact Nat.le_refl _), ObjD.len ha.o]
  rfl
 rw [← et] at h0 h1 h2 h3 h4
 rw [← eac]
 obtain ⟨W, eW⟩ : ∃ W, W = ((w.alloc (.cells #[lv, wv, .int .i64 x.disk.steps, fv, .int .i64 x.room, pv, hv] 61)).alloc (.cells ac 49)).alloc (.cells zeroC 61) := ⟨_, rfl⟩
 have hbW : Below w.heap.size w W := by rw [eW]; exact (((Below.refl _ w).alloc (Nat.le_refl _) _).alloc (by simp) _).alloc (by simp; omega) _
 have k0 : Blk W w.heap.size 61 #[lv, wv, .int .i64 x.disk.steps, fv, .int .i64 x.room, pv, hv] := by rw [eW]; exact ((Blk.new w _ _).alloc _).alloc _
 have k1 : Blk W (w.heap.size + 1) 49 ac := by rw [eW]; exact (Blk.new2 w _ _ _).alloc _
 have k2 : Blk W (w.heap.size + 2) 61 zeroC := by rw [eW]; exact Blk.new' (by simp)
 have HB := Lib.hid hbW
 have HBo := Lib.hid H
 have hfar : ∀ i, w.heap.size ≤ i → ¬ (D.has i ∨ C.own i) := fun i hi h => by
  rcases h with h | h
  ·have := H.disk.has_lt i h; omega
  ·have := H.cache.has_lt i (.inl h); omega
 have HFAR := Lib.hid hfar
 have HP := Lib.hid (fun X (hX : Below w.heap.size w X) => pspoil (H.below hX) O a.oid a.at_ a.bits)
 have HRG := Lib.hid (rspoil_cache x a.oid a.at_ a.bits lv wv fv W ((hr1.below hbW (Nat.le_refl _)).mono hbW.size) O.disk O.waits)
 have HSAME := Lib.hid (spoil_same x a.oid a.at_ a.bits)
 have HONE := Lib.hid (fun (s r : Int) (l v : Value) (h : l.oneCell' = true ∧ v.oneCell' = true) => rc_one (s := s) (room := r) (A := undef) (show l.oneCell' = true ∧ v.oneCell' = true ∧ fv.oneCell' = true from ⟨h.1, h.2, hr1.ones.2.2⟩) hr2.one hr3.one)
 have HR2 := Lib.hid (And.intro hr2 hr3)
 have HFV := Lib.hid hr1.ones.2.2
 obtain ⟨ge, ege⟩ : ∃ ge, ge = x.spoilE a.oid a.at_ := ⟨_, rfl⟩
 obtain ⟨x2, ex2⟩ : ∃ x2, x2 = x.spoil a.oid a.at_ a.bits := ⟨_, rfl⟩
 rw [← ex2] at HP HRG HSAME
 rw [← ege] at HP HRG
 rw [← ex2]
 have c0 := k1.cell_is 0 a0
 unfold ptr at *
 clear H O hbW hfar ege ex2 a0 eac ha et hr1 hr2 hr3
 go_enter Tryz.func30, Tryz.ntmps30
 go_upto_region 1 with fail
 rw [← eW]
 clear eW
 have c1 := k1.cell_is 1 a1
 have c2 := k1.cell_is 2 a2
 have c3 := k1.cell_is 166 a3
 have hkW := k2.lt
 go_wp2_with (first
  | (refine wpList_load_midG rfl 32 _ rfl w.heap.size 0 rfl #[lv, wv, .int .i64 x.disk.steps, fv] (load_rdiskC k0) ?_)
  | fail)
 refine (HRG.out).mono ?_; rintro e w1 ⟨hb1, lv', wv', rfl, hd1, hn1, hn2⟩
 have hs01 := hb1.size
 have hs0 := HB.out.size
 have hr1 : RCacheIn w1 w1.heap.size (.agg #[lv', wv', .int .i64 x.disk.steps, fv, .int .i64 x.room, pv, hv]) x2 := by
  have hbw := HB.out.trans (hb1.mono hs0)
  refine ⟨lv', wv', fv, pv, hv, by rw [HSAME.out.1, HSAME.out.2.1], hd1, ?_, ?_⟩
  ·rw [HSAME.out.2.2.1]; exact (HR2.out.1.below hbw (Nat.le_refl _)).mono hbw.size
  ·rw [HSAME.out.2.2.2]; exact HR2.out.2.up hbw
 have hn : CNew W.heap.size w1.heap.size (.agg #[lv, wv, .int .i64 x.disk.steps, fv, .int .i64 x.room, pv, hv]) (.agg #[lv', wv', .int .i64 x.disk.steps, fv, .int .i64 x.room, pv, hv]) := fun g hg => by
  rcases foot7.1 hg with h | h | h | h | h
  ·rcases hn1 g h with h | h
   ·exact .inl (foot7.2 (.inl h))
   ·exact .inr h
  ·rcases hn2 g h with h | h
   ·exact .inl (foot7.2 (.inr (.inl h)))
   ·exact .inr h
  ·exact .inl (foot7.2 (.inr (.inr (.inl h))))
  ·exact .inl (foot7.2 (.inr (.inr (.inr (.inl h)))))
  ·exact .inl (foot7.2 (.inr (.inr (.inr (.inr h)))))
 have HD4 := Lib.hid (hd1.one x.disk.steps)
 have HON := Lib.hid (HONE.out x.disk.steps x.room lv' wv' ⟨hd1.ones.1, hd1.ones.2.1⟩)
 have HR1 := Lib.hid (And.intro hr1 (And.intro hb1 hn))
 have q0 := k0.below hb1 k0.lt
 have q1 := k1.below hb1 k1.lt
 have q2 := k2.below hb1 k2.lt
 clear hd1 hn1 hn2 hn hr1 k0 k1 k2 c0 c1 c2 c3 HRG HONE
 have hzd := Blk.new w1 32 zeroD
 go_upto_region 20 with (first
  | (refine wpList_store_row rfl 32 _ _ rfl w1.heap.size #[lv', wv', .int .i64 x.disk.steps, fv] rfl rfl 32 _ hzd (size_rdisk _ _ _ _) rfl HD4.out ?_; rw [World.setRow_alloc_new])
  | fail)
 obtain ⟨W2, e2⟩ : ∃ W2, W2 = w1.alloc (.cells #[lv', wv', .int .i64 x.disk.steps, fv] 32) := ⟨_, rfl⟩
 have hb2 : Below w1.heap.size w1 W2 := by rw [e2]; exact (Below.refl _ _).alloc (Nat.le_refl _) _
 have t26 : Blk W2 w1.heap.size 32 #[lv', wv', .int .i64 x.disk.steps, fv] := by rw [e2]; exact Blk.new _ _ _
 rw [← e2]
 clear e2 hzd
 have hs12 := hb2.size
 have r0 := q0.below hb2 q0.lt
 have r1 := q1.below hb2 q1.lt
 have r2 := q2.below hb2 q2.lt
 have TH := Lib.hid (there_blk r0 0 4 (by show 4 ≤ 7; omega))
 have x0' := setCells_blk w.heap.size 61 [lv', wv', .int .i64 x.disk.steps, fv] 0 W2 _ r0 (by show 0 + 4 ≤ 7; omega)
 obtain ⟨Z, eZ⟩ : ∃ Z, Z = W2.setCells w.heap.size 0 [lv', wv', .int .i64 x.disk.steps, fv] := ⟨_, rfl⟩
 rw [← eZ] at x0'
 have t6 : Blk Z w.heap.size 61 #[lv', wv', .int .i64 x.disk.steps, fv, .int .i64 x.room, pv, hv] := x0'
 have hoZ : Out (fun i => i = w.heap.size) W2 Z := by rw [eZ]; exact out_setCells (F := fun i => i = w.heap.size) w.heap.size rfl _ _ _
 have t7 := hoZ.blk r1 (by omega)
 have t8 := hoZ.blk r2 (by omega)
 go_upto_region 21 with (first
  | (refine wpList_load_row rfl 32 _ rfl w1.heap.size rfl 32 #[lv', wv', .int .i64 x.disk.steps, fv] (0, 0) _ t26 Tryz.underlying32 rfl (size_rdisk _ _ _ _) ?_)
  | (refine wpList_store_mid rfl 32 _ _ rfl w.heap.size 0 #[lv', wv', .int .i64 x.disk.steps, fv] rfl rfl TH.out (size_rdisk _ _ _ _) HD4.out ?_))
 rw [← eZ]
 clear eZ x0' q0 q1 q2 r0 r1 r2 t26 hb1
 obtain ⟨hr1, hb1, hn1⟩ := HR1.out
 have hsZ := hoZ.size
 have hb1w : Below w.heap.size w W2 := (HB.out.trans (hb1.mono hs0)).trans (hb2.mono (by omega))
 have hbwZ : Below w.heap.size w Z := hb1w.trans (hoZ.below (by omega) (fun i hi e => by omega))
 have HBZ := Lib.hid hbwZ
 have hnot : ∀ g, g ∈ footV (.agg #[lv', wv', .int .i64 x.disk.steps, fv, .int .i64 x.room, pv, hv]) → ¬ g = w.heap.size := fun g hg e => by
  rcases hn1 g hg with h | h
  ·have := (HBo.out.far g h).1; omega
  ·omega
 have HRZ := Lib.hid (And.intro ((hr1.up hb2).outO hoZ hnot) (hn1.mono hs0 (show w1.heap.size ≤ Z.heap.size by omega)))
 have HN1 := Lib.hid hn1
 have HI72 := Lib.hid (info_cache (XV := #[lv', wv', .int .i64 x.disk.steps, fv, .int .i64 x.room, pv, hv]) rfl)
 have HNT := Lib.hid hnot
 clear hr1 hb1 hn1 HR1 hb1w hbwZ hb2 hoZ hnot
 obtain ⟨XV2, eXV⟩ : ∃ X : Array Value, X = #[lv', wv', .int .i64 x.disk.steps, fv, .int .i64 x.room, pv, hv] := ⟨_, rfl⟩
 rw [← eXV] at HRZ HN1 HI72 HNT HON t6
 have HS72 := Lib.hid (show XV2.size = 7 by rw [eXV]; rfl)
 have HZ7 := Lib.hid (show zeroC.size = XV2.size by rw [eXV]; rfl)
 clear eXV
 have n6 : ¬ (D.has w.heap.size ∨ C.own w.heap.size ∨ w.heap.size = w.heap.size + 2) := fun h => by
  rcases h with h | h | h
  ·exact HFAR.out _ (Nat.le_refl _) (.inl h)
  ·exact HFAR.out _ (Nat.le_refl _) (.inr h)
  ·omega
 have n7 : ¬ (D.has (w.heap.size + 1) ∨ C.own (w.heap.size + 1) ∨ w.heap.size + 1 = w.heap.size + 2) := fun h => by
  rcases h with h | h | h
  ·exact HFAR.out _ (by omega) (.inl h)
  ·exact HFAR.out _ (by omega) (.inr h)
  ·omega
 refine jb (fun X => Out (fun i => D.has i ∨ C.own i ∨ i = w.heap.size + 2) Z X) (fun _ => True) 100 (outB (Below.refl _ _).drew) trivial fun hHeld hJ => ?_
 refine jy false 0 rfl (yieldsIf_load_mid (by rfl) 61 _ rfl w.heap.size 0 rfl XV2.toList _ (fun w' h => blk_range (h.1.blk t6 n6)) Tryz.underlying61 rfl (by simpa using HI72.out)) ?_
 refine jk false 1 ?_
 refine jk false 2 ?_
 refine jk false 3 ?_ (hy := by intro X hX _; have hc := (hX.blk t7 n7).cell_is 1 a1; go_simp; try with_reducible rfl)
 refine jk false 4 ?_
 refine jk false 5 ?_ (hy := by intro X hX _; have hc := (hX.blk t7 n7).cell_is 2 a2; go_simp; try with_reducible rfl)
 refine jk false 6 ?_
 refine jk false 7 ?_ (hy := by intro X hX _; have hc := (hX.blk t7 n7).cell_is 166 a3; go_simp; try with_reducible rfl)
 refine jk false 10 ?_
 refine jr 8 fun K hK => ?_
 go_simp
 refine (HP.out Z.drew HBZ.out.drew).mono ?_; rintro r X2 ⟨rfl, hd2, C2, hc2, hs2⟩
 dsimp only
 have hoX : Out (fun i => D.has i ∨ C.own i ∨ i = w.heap.size + 2) Z X2 := hHeld.trans hs2.out (fun i _ h => by rcases h with h | h; exact .inl h; exact .inr (.inl h))
 obtain ⟨hBo2, hPs2⟩ := HBo.out.rp_ HBZ.out.drew (HRZ.out.1.up (Below.refl _ Z).drew) HRZ.out.2 hd2 hc2 hs2
 have t8X := hs2.out.blk t8.drew (fun h => HFAR.out _ (by omega) h)
 have HBX := Lib.hid hBo2
 have HPX := Lib.hid hPs2
 have HN2 := Lib.hid hs2.new_
 have hsX : Z.heap.size ≤ X2.heap.size := hs2.out.size
 clear hd2 hc2 hs2 hBo2 hPs2 HP
 refine hK.out _ _ ⟨hoX, fun _ => trivial⟩ ?_
 clear hK K hHeld
 have hHeld := hoX
 refine jr 9 fun K hK => ?_
 go_simp
 refine (num17_any _ _).mono ?_; rintro r X3 ⟨rfl, rfl⟩
 dsimp only
 refine hK.out _ _ ⟨hHeld, fun _ => trivial⟩ ?_
 clear hK K
 refine jk false 11 ?_
 refine jr 12 fun K hK => ?_
 rw [if_pos (show Region.wanted _ _ = true from rfl)]
 refine wp_store_row 61 _ _ rfl (w.heap.size + 2) XV2 rfl rfl 61 _ t8X HI72.out HZ7.out HON.out ?_
 have ho8 : Out (fun i => i = w.heap.size + 2) X3 (X3.setRow (w.heap.size + 2) XV2) := out_row _ rfl
 have t9 := t8X.row XV2
 refine hK.out _ _ ⟨hHeld.trans ho8 (fun i _ h => .inr (.inr h)), fun _ => trivial⟩ ?_
 clear hK K
 have hHeld2 := hHeld.trans ho8 (fun i _ h => .inr (.inr h))
 clear hHeld
 have hHeld := hHeld2
 refine jk false 13 ?_
 refine wpAnyJ_done (by kernel_rfl) ?_ _
 go_wp2_with fail
 refine bodyPost_ret (results_row_tmp2 Tryz.results30 _ _ _ _ _ rfl (load_cacheV HS72.out t9) rfl) rfl ⟨.agg XV2, C2, rfl, HBX.out.out ho8 (fun i hi => ?_), HPX.out.out_ ho8 (fun i hi => by omega), HRZ.out.2.mono (Nat.le_refl _) (Nat.le_trans hsX ho8.size)⟩
 subst hi
 refine ⟨fun h => ?_, fun h => ?_, fun h => ?_⟩
 ·have := HBo.out.disk.has_lt _ h; omega
 ·rcases HN2.out _ h with h | h
  ·have := HBo.out.cache.has_lt _ h; omega
  ·have h9 : Z.heap.size ≤ w.heap.size + 2 := h
   omega
 ·rcases HN1.out _ h with h | h
  ·have := (HBo.out.far _ h).1; omega
  ·omega
end Go.Proofs.YtemcgfncahccgaaGreat
namespace Go.Proofs.YtemcgfncahccgaaGreat
open Go.RowKit Go.Shelf

/-- any call -/
def ActD.run2 (a : ActD) (x : CacheD) : CacheD := if a.what = 0 ∨ a.what = 1 ∨ a.what = 2 ∨ a.what = 3 ∨ a.what = 4 then a.run x else x.spoil a.oid a.at_ a.bits
theorem act_all {w : World} {D : DiskP} {C : CacheP} {cv : Value} {x : CacheD} {k : Int} (H : Both w D C cv x) (O : COk x k) (hk : k ≤ 1000) (a : ActD) (ha : a.ok) :
  Calls Tryz.prog 30 #[ptr D.p, ptr C.g, cv, .agg a.cells.toArray] w (ActPost D C cv (a.run2 x) w) ∧ COk (a.run2 x) (k + 1) := by
 unfold ActD.run2
 by_cases h0 : a.what = 0 ∨ a.what = 1 ∨ a.what = 2 ∨ a.what = 3 ∨ a.what = 4
 ·rw [if_pos h0]; exact act_run H O hk a ha h0
 ·rw [if_neg h0]
  exact ⟨act_spoil H O a ha (fun h => h0 (.inl h)) (fun h => h0 (.inr (.inl h))) (fun h => h0 (.inr (.inr (.inl h)))) (fun h => h0 (.inr (.inr (.inr (.inl h))))) (fun h => h0 (.inr (.inr (.inr (.inr h))))), (O.spoil _ _ _).mono (by omega)⟩
set_option maxRecDepth 100000 in
set_option maxHeartbeats 4000000 in
theorem plays17_any (x : WorldD) (v vo : Value) (oids : List ActD) (w : World) (hv : WArg w v x) (ho : ActsIn w w.heap.size vo oids) :
  Calls Tryz.prog 7 #[v, vo] w fun e w' => e = .returned (.bool true) ∧ Below w.heap.size w w' := by
 obtain ⟨XV, rfl, sXV⟩ := hv.inn.agg
 have HV := Lib.hid hv
 have HO := Lib.hid ho
 obtain ⟨-, ao, co, rfl, -, -⟩ := ho
 have HSX := Lib.hid sXV
 obtain ⟨W, eW⟩ : ∃ W, W = w.alloc (.cells XV 25) := ⟨_, rfl⟩
 have hbW : Below w.heap.size w W := by rw [eW]; exact (Below.refl _ w).alloc (Nat.le_refl _) _
 have k0 : Blk W w.heap.size 25 XV := by rw [eW]; exact Blk.new w _ _
 have HSM := Lib.hid (small17_any x (.agg XV) W (hv.inn.up hbW))
 have HB := Lib.hid hbW
 clear hv sXV hbW
 go_enter Tryz.func7, Tryz.ntmps7
 go_upto_region 1 with fail
 rw [← eW]
 clear eW
 go_wp2_with (refine wpList_load_row rfl 25 _ rfl w.heap.size rfl 25 XV (0, 0) _ k0 Tryz.underlying25 rfl HSX.out ?_)
 refine HSM.out.mono ?_; rintro e w1 ⟨rfl, hb1⟩
 have k1 := k0.below hb1 k0.lt
 have HB1 := Lib.hid (HB.out.trans (hb1.mono HB.out.size))
 clear hb1 k0
 cases hsm : smallW x
 ·go_wp2_with fail
  refine (works17_any _).mono ?_; rintro e w2 ⟨rfl, hb2⟩
  go_wp2_with fail
  go_ret
  exact ⟨rfl, HB1.out.trans (hb2.mono HB1.out.size)⟩
 ·obtain ⟨hfine, hr⟩ := smallW_fine hsm HV.out.ok HV.out.fi
  have HFI := Lib.hid hfine
  have HRO := Lib.hid hr
  clear hsm hfine hr
  by_cases h40 : oids.length ≤ 40
  ·have g40 : ¬ (40 : Int) < (oids.length : Int) := by omega
   have HBG := Lib.hid (begun17_any x HFI.out HRO.out (.agg XV) w1 (HV.out.inn.up HB1.out))
   go_upto_region 3 with fail
   clear g40
   go_wp2_with (refine wpList_load_row rfl 25 _ rfl w.heap.size rfl 25 XV (0, 0) _ k1 Tryz.underlying25 rfl HSX.out ?_)
   refine HBG.out.mono ?_; rintro e w2 ⟨D, C, cv, rfl, hb2, hlD, hlC, hlF, hbw2⟩
   obtain ⟨CV, rfl, s7, one7, st7⟩ := hb2.ref.agg
   have HI7 := Lib.hid (info_cache s7)
   have hzc := Blk.new w2 61 zeroC
   have HZ7 := Lib.hid (show zeroC.size = CV.size from s7.symm)
   have HON := Lib.hid one7
   have hw01 := HB1.out.size
   have HB2 := Lib.hid (HB1.out.trans (hbw2.mono HB1.out.size))
   have HLI := Lib.hid (show LInv w D.p C.g w2.heap.size (w2.alloc (.cells CV 61)) D C CV (start17 x) 0 from
    ⟨rfl, rfl, hb2.below ((Below.refl _ w2).alloc (Nat.le_refl _) _), start_ok HFI.out HRO.out.1, Blk.new _ _ _, fun i hi => hi.elim (fun h => by have := hlD i h; omega) (fun h => by have := hlC i h; omega), fun h => by have := hb2.disk.has_lt _ h; omega, fun h => by have := hb2.cache.has_lt _ h; omega, fun h => by have := (hb2.far _ h).1; omega, s7, one7, HB2.out.size, outB (HB2.out.alloc HB2.out.size _)⟩)
   unfold ptr
   clear hb2 hlD hlC hlF hbw2 s7 one7 st7 HBG k1
   go_upto_region 4 with (refine wpList_store_row rfl 61 _ _ rfl w2.heap.size CV rfl rfl 61 _ hzc HI7.out HZ7.out HON.out ?_; rw [World.setRow_alloc_new])
   obtain ⟨Z, eZ⟩ : ∃ Z, Z = w2.alloc (.cells CV 61) := ⟨_, rfl⟩
   rw [← eZ] at HLI ⊢
   clear eZ hzc
   obtain ⟨dp, edp⟩ : ∃ dp, dp = D.p := ⟨_, rfl⟩
   obtain ⟨cg, ecg⟩ : ∃ cg, cg = C.g := ⟨_, rfl⟩
   obtain ⟨G, eG⟩ : ∃ G, G = w2.heap.size := ⟨_, rfl⟩
   rw [← edp, ← ecg, ← eG] at HLI
   rw [← edp, ← ecg, ← eG]
   clear edp ecg eG HZ7 HON HI7
   go_wp2_with fail
   go_loopw [8, 9] (fun b i wr => ∃ j : Nat, j ≤ oids.length ∧ b = .bool true ∧ i = .int .i64 j ∧ ∃ D C CV x, LInv w dp cg G wr D C CV x (j : Int)) (fun _ i _ => oids.length - (intOf i).toNat)
   case atStart => exact ⟨0, by omega, rfl, rfl, _, _, _, _, HLI.out⟩
   case round =>
    obtain ⟨j, hj, rfl, rfl, D, C, CV, x, hL⟩ := hrel
    have HL := Lib.hid hL
    have hGb := hL.blk
    clear hL
    by_cases hlt : j < oids.length
    ·have i2 : (j : Int) < (oids.length : Int) := by omega
     obtain ⟨y, hy⟩ : ∃ y, oids[j]? = some y := ⟨_, List.getElem?_eq_getElem hlt⟩
     obtain ⟨hya, g, off, rfl, hg, hrng⟩ := (HO.out.below HL.out.below0 (Nat.le_refl _)).at_ hy
     have HA := act_all HL.out.drew.both HL.out.ok (by omega) y hya
     have HAC := Lib.hid HA.1
     have HAK := Lib.hid HA.2
     rw [HL.out.dp, HL.out.cg] at HAC
     obtain ⟨cl, ecl⟩ : ∃ cl, cl = y.cells := ⟨_, rfl⟩
     have hsl : (Tryz.prog.info? 49).map (·.size) = some cl.length := by rw [ecl, ActD.len hya]; kernel_rfl
     obtain ⟨x2, ex2⟩ : ∃ x2, x2 = y.run2 x := ⟨_, rfl⟩
     rw [← ecl, ← ex2] at HAC
     rw [← ecl] at hrng
     rw [← ex2] at HAK
     have HSC := Lib.hid (info_cache HL.out.s7)
     have hgl := HL.out.low_ g hg
     unfold ptr at HAC
     clear hy HA ecl ex2 hya
     go_upto_region 7 with fail
     refine jb (fun X => Out (fun i => D.has i ∨ C.own i ∨ i = G) wr X) (fun X => Blk X G 61 CV) 7 (outB (Below.refl _ _).drew) hGb.drew fun hHeld hJ => ?_
     refine jk false 0 ?_
     refine jk false 1 ?_
     refine jy true 2 rfl (yieldsIf_load_mid (by rfl) 61 _ rfl G 0 rfl CV.toList _ (fun w' h => blk_range (h.2 rfl)) Tryz.underlying61 rfl (by simpa using HSC.out)) ?_
     refine jk false 3 ?_
     refine jk false 4 ?_
     refine jk false 5 ?_
     refine jy false 6 rfl (yieldsIf_load_mid (by rfl) 49 _ rfl g (off + j * 167) rfl cl _ (fun w' h i v hi => h.1.cell (hrng i v hi) hgl) Tryz.underlying49 rfl hsl) ?_
     refine jr 7 fun K hK => ?_
     go_simp
     refine HAC.out.mono ?_; rintro e w3 hpost
     obtain ⟨CV2, C2, rfl, s72, one72, hk3, ho3, ho4, hL4⟩ := HL.out.drew.act hpost HAK.out
     dsimp only
     have hoX : Out (fun i => D.has i ∨ C.own i ∨ i = G) wr w3 := hHeld.trans ho3 (fun i _ h => h.elim .inl (fun h => .inr (.inl h)))
     refine hK.out _ _ ⟨hoX, fun h => absurd h (by decide)⟩ ?_
     clear hK K hHeld hJ hpost
     have hHeld := hoX
     refine jk false 8 ?_
     refine jk false 9 ?_
     refine jk false 10 ?_
     refine jr 11 fun K hK => ?_
     rw [if_pos (show Region.wanted _ _ = true from rfl)]
     refine wp_store_row 61 _ _ rfl G CV2 rfl rfl 61 _ hk3 (info_cache s72) (HL.out.s7.trans s72.symm) one72 ?_
     have hoY := hoX.trans ho4 (fun i _ h => .inr (.inr h))
     refine hK.out _ _ ⟨hoY, fun h => absurd h (by decide)⟩ ?_
     clear hK K hHeld
     have hHeld := hoY
     refine jk false 12 ?_
     refine wpAnyJ_done (by kernel_rfl) ?_ _
     have HL4 := Lib.hid hL4
     have hG4 := hL4.blk
     have HS4 := Lib.hid s72
     have HST := Lib.hid hL4.stands
     obtain ⟨Z4, eZ4⟩ : ∃ Z, Z = w3.setRow G CV2 := ⟨_, rfl⟩
     rw [← eZ4] at HL4 hG4 HST ⊢
     unfold ptr at HST
     clear hHeld hoY hoX ho3 ho4 hk3 s72 one72 hL4 HAC HAK HSC hgl eZ4 hrng hsl hGb
     have l4 := load_cacheV HS4.out hG4
     go_wp2_with (refine wpList_load_midG rfl 61 _ rfl G 0 rfl CV2 l4 ?_)
     refine HST.out.mono ?_; rintro e w5 ⟨rfl, hb5⟩
     have HL5 := Lib.hid (HL4.out.below hb5)
     clear hb5 HL4 HST hG4 l4
     go_wp2_with fail
     exact ⟨⟨j + 1, by omega, rfl, by go_num, D, C2, CV2, x2, by rw [show ((j + 1 : Nat) : Int) = (j : Int) + 1 by omega]; exact HL5.out⟩, by simp [intOf]; omega⟩
    ·obtain rfl : j = oids.length := by omega
     have i2 : ¬ (oids.length : Int) < (oids.length : Int) := by omega
     go_wp2_with fail
     refine (works17_any _).mono ?_; rintro e w3 ⟨rfl, hb3⟩
     go_wp2_with fail
     go_ret
     exact ⟨rfl, HL.out.below0.trans (hb3.mono HL.out.below0.size)⟩
  ·have g40 : (40 : Int) < (oids.length : Int) := by omega
   go_wp2_with fail
   refine (works17_any _).mono ?_; rintro e w2 ⟨rfl, hb2⟩
   go_wp2_with fail
   go_ret
   exact ⟨rfl, HB1.out.trans (hb2.mono HB1.out.size)⟩
end Go.Proofs.YtemcgfncahccgaaGreat
namespace Go.Proofs.YtemcgfncahccgaaGreat
open Go.ChangeShapes Go.WideShapes Go.ChangeAt Go.RowKit Go.Deep

set_option maxRecDepth 100000 in
theorem cachePlays_lifted (os : Os) (started : os.Started) (H : Type) (enc : TypeId × Value → H) :
  ReturnsInHanded {} Tryz.checked os 7 .any (Rows.cachePlaysSpec.pre6 enc Tryz.prog Tryz.f7 Rows.cachePlaysRow.domain false) (Rows.cachePlaysSpec.post enc Tryz.prog Tryz.f7 false true false false) := by
 refine returnsInHanded_of_change (C := Tryz.checked) own started (by kernel_rfl) Tryz.func7
  (ChangeSpec.witness6 (enc := enc) (C := Tryz.checked) false ⟨#[], #[.agg #[.slice none 0 0, .int .i64 0, .int .i64 0, .slice none 0 0], .slice none 0 0], []⟩ 8 (by kernel_rfl) (by kernel_rfl) (by kernel_rfl) (by kernel_rfl)) ?_
 intro W base args ds gs before hval0 hW hcnd _
 have hval : ∀ (j : Nat) t v, Tryz.f7.params[j]? = some t → args[j]? = some v → Value.okWide Tryz.prog W .any base t v := hval0
 have hW' := hW
 obtain ⟨p, q, hA0, hV, rfl, hfz, hnd⟩ := hW
 have hA : DataW.TrodAll enc Tryz.prog W 0 (fun _ => true) true Tryz.f7.params.toList args.toList ds p := hA0
 rw [Tryz.params7] at hA hval
 obtain ⟨v0, vs0, d0, ds0, p0, q0, hargs, rfl, rfl, h0, hA1⟩ := trodAll_cons hA
 obtain ⟨v1, vs1, d1, ds1, p1, q1, rfl, rfl, rfl, h1, hA2⟩ := trodAll_cons hA1
 obtain ⟨rfl, rfl, rfl⟩ : vs1 = [] ∧ ds1 = [] ∧ q1 = [] := by
  cases vs1 <;> cases ds1 <;> simp [DataW.TrodAll] at hA2
  exact ⟨rfl, rfl, hA2⟩
 obtain rfl : args = #[v0, v1] := Array.ext' hargs
 obtain ⟨rfl, rfl⟩ := trodVars_none hV
 obtain ⟨x, hx⟩ := open_world (hval 0 _ v0 rfl rfl) h0
 obtain ⟨l, hl⟩ := open_acts (hval 1 _ v1 rfl rfl) h1
 clear hA0 hval0
 refine (plays17_any x v0 v1 l W hx hl).mono fun e W' ⟨he, hb⟩ => ?_
 subst he
 exact ⟨_, rfl, law_post laidOut (by rw [Tryz.params7]; intro t ht; simp at ht; rcases ht with rfl | rfl <;> exact ⟨by kernel_rfl, of_decide_eq_true (by kernel_rfl)⟩) rfl Tryz.underlying4 rfl hW' rfl hb⟩

theorem cachePlays_holds : Rows.CachePlaysSaid :=
 OpenClaim.holds_of_wide 7 Tryz.f7 rfl rfl rfl rfl rfl rfl rfl ⟨rfl, rfl, rfl, rfl, rfl⟩ rfl rfl rfl rfl rfl (by kernel_rfl) Tryz.func7 (by kernel_rfl)
  (of_decide_eq_true (by kernel_rfl)) (by unfold Func.isWrapper; first | (rw [if_pos (by decide +kernel)]; kernel_rfl) | (rw [if_neg (by decide +kernel)]; exact ⟨rfl, rfl⟩))
  (fun os started H enc _ => cachePlays_lifted os started H enc)

end Go.Proofs.YtemcgfncahccgaaGreat
