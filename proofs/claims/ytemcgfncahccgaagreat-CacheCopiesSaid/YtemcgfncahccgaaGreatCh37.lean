/-
  The program's New where it succeeds.
  The statements' begun.
  What holds in the statements' loops; the calls' acts as one contract.
  The statements' small.
  The world of works, as data.
-/
import Derived.Test.YtemcgfncahccgaaGreatCh21
import Derived.Test.YtemcgfncahccgaaGreatCh31
import Derived.Test.YtemcgfncahccgaaGreatCh33
import Derived.Test.YtemcgfncahccgaaGreatCh34
import Derived.Test.YtemcgfncahccgaaGreatCh35
import Derived.Test.YtemcgfncahccgaaGreatCh36
set_option linter.unusedVariables false
set_option linter.unusedSimpArgs false
namespace Go.Proofs.YtemcgfncahccgaaGreat
open Go.RowKit Go.Shelf

/-- a cache that is new -/
theorem CacheRaw.new {w : World} {g dp r : Nat} {pv : Value} {room : Int} {l : List Int} {B : Nat} (hb : Blk w g 97 #[ptr dp, .int .i64 room, pv, .map (some r), .slice none 0 0]) (hm : MapG w r .i64 [] 0) (ho : w.ownsRow B 3 1 pv l.length (l.map (Value.int .i64))) :
  CacheRaw w ⟨g, dp, r, pv, .slice none 0 0, []⟩ room l (fun _ => none) [] :=
 ⟨hb, World.ownsRow.mono ho (Nat.zero_le _), World.ownsRow_nil _ _ _ _, fun i _ e => (by cases e), ⟨[], 0, hm, fun m => .inr ⟨rfl, rfl⟩⟩, fun b hb => (by cases hb)⟩
set_option maxRecDepth 100000 in
set_option maxHeartbeats 4000000 in
theorem newc_ok (D : DiskP) (x : DiskD) (room : Int) (v : Value) (l : List Int) (w : World) (hD : DiskAt w D x) (hx : x.ok) (hv : IntsIn w w.heap.size v l) (h1 : 1 ≤ room ∧ room ≤ 64) (h2 : 1 ≤ l.length ∧ l.length ≤ 64) (hbad : l.any (fun p => decide (p < 0) || decide (x.size ≤ p)) = false) :
  Calls Tryz.prog 14 #[ptr D.p, .int .i64 room, v] w fun e w' => ∃ C : CacheP, e = .returned (.tuple #[ptr C.g, .int .i64 0]) ∧ C.dp = D.p ∧ CacheRaw w' C room l (fun _ => none) [] ∧ Below w.heap.size w w' ∧ ∀ i, C.has i → w.heap.size ≤ i := by
 have hb : Below w.heap.size w (w.alloc (.cells #[ptr D.p] 28)) := (Below.refl _ w).alloc (Nat.le_refl _) _
 have HS := Lib.hid (dsize_any D x _ (hD.below hb) hx)
 have hv2 := hv.below hb (Nat.le_refl _)
 have HV2 := Lib.hid hv2
 obtain ⟨_, a, c, rfl, hcap, hc⟩ := hv2
 obtain ⟨g, off, rfl, -, -⟩ := hc 0 (l[0]'(by omega)) (List.getElem?_eq_getElem _)
 have hcx : (w.alloc (.cells #[ptr D.p] 28)).cell? ⟨w.heap.size, 0, none⟩ = some (ptr D.p) := (Blk.new w 28 #[ptr D.p]).cell_is 0 rfl
 have hCF := Tryz.slices_ContainsFunc (α := Int) (Value.int .i64) (fun p => decide (p < 0) || decide (x.size ≤ p)) 39 #[.pointer (some ⟨w.heap.size, 0, none⟩)] (enters_of Tryz.func39 rfl rfl) g off l.length c l (w.alloc (.cells #[ptr D.p] 28))
  (fun W y hW => new1_gives D x W w.heap.size y ((hD.below hb).below hW) hx ((hW.cell (p := ⟨w.heap.size, 0, none⟩) (by simp)).trans hcx)) (Nat.le_refl _) (by omega) (fun j hj => by
   obtain ⟨g', off', e, _, hr⟩ := hc j (l[j]'hj) (List.getElem?_eq_getElem hj)
   cases e
   rw [hr, getElem!_pos l j hj])
 rw [List.take_length, hbad] at hCF
 have HCF := Lib.hid hCF
 have s0 : (x.size == 0) = false := by simpa using (by have := hx.1; omega : x.size ≠ 0)
 obtain ⟨sz, esz⟩ : ∃ sz, sz = x.size := ⟨_, rfl⟩
 rw [← esz] at HS s0
 have HB := Lib.hid hb
 obtain ⟨L, eL⟩ : ∃ L, L = l.length := ⟨_, rfl⟩
 have HLL := Lib.hid (show l.length ≤ 1000000 by omega)
 have k1 : decide (room < 1) = false := by simp; omega
 have k2 : decide (64 < room) = false := by simp; omega
 have k3 : decide ((L : Int) < 1) = false := by simp; omega
 have k4 : decide (64 < (L : Int)) = false := by simp; omega
 have EL := Lib.hid eL
 rw [← eL] at HCF HV2 ⊢
 have HCX := Lib.hid hcx
 unfold ptr at *
 clear hD hx esz hb hv hc hcx hCF h1 h2 hbad hcap eL
 go_enter Tryz.func14, Tryz.ntmps14
 go_wp2_with fail
 refine HS.out.mono ?_; rintro e w1 ⟨rfl, rfl⟩
 go_wp2_with fail
 refine HCF.out.mono ?_; rintro e w1 ⟨rfl, q, rfl⟩
 go_upto_region 7 with fail
 obtain ⟨W, eW⟩ : ∃ W, W = (w.alloc (.cells #[.pointer (some ⟨D.p, 0, none⟩)] 28)).drewN q := ⟨_, rfl⟩
 rw [← eW]
 have hbW : Below w.heap.size w W := by rw [eW]; exact below_drewN' HB.out q
 have hWs : w.heap.size < W.heap.size := by rw [eW]; show w.heap.size < (w.alloc _).heap.size; simp
 have hIn : IntsIn W W.heap.size (.slice (some ⟨g, off, none⟩) L c) l := by rw [eW]; exact HV2.out.mono (by simp [World.drewN])
 have cW : W.cell? ⟨w.heap.size, 0, none⟩ = some (.pointer (some ⟨D.p, 0, none⟩)) := by rw [eW]; exact HCX.out
 clear eW
 refine jb (fun X => Below W.heap.size W X) (fun _ => True) 100 (Below.refl _ _).drew trivial fun hHeld hJ => ?_
 refine jk false 0 ?_ (hy := by intro X hX _; have hc := (Below.cell hX (p := ⟨w.heap.size, 0, none⟩) hWs).trans cW; go_simp; try with_reducible rfl)
 refine jk false 1 ?_
 refine jk false 2 ?_
 have hmm := @run_makeMap Tryz.prog
 refine jm 3 4 (fun v X => X.ownsRow W.heap.size 3 1 v l.length (l.map (Value.int .i64)) ∧ Below W.heap.size W X) (fun v X => ∃ r, v = .map (some r) ∧ MapG X r .i64 [] 0 ∧ W.heap.size ≤ r ∧ Below W.heap.size W X)
  (fun v v' X => X.ownsRow W.heap.size 3 1 v l.length (l.map (Value.int .i64)) ∧ ∃ r, v' = .map (some r) ∧ MapG X r .i64 [] 0 ∧ W.heap.size ≤ r ∧ Below W.heap.size W X) (fun v X h => h.2) (fun v X ⟨r, _, _, _, h⟩ => h) (fun v v' X ⟨_, r, _, _, _, h⟩ => h) ?_ ?_ ?_ ?_ ?_
 ·intro K hK
  go_simp
  refine (clone_ints W.drew W.heap.size _ l HLL.out hIn).mono ?_; rintro r w2 ⟨v2, rfl, ho2, hb2⟩
  go_wp2_with fail
  exact hK.out _ _ ⟨ho2, (Below.refl _ W).drew.trans hb2⟩
 ·intro v w1 hP K hK
  go_simp
  have hb := (Below.refl w1.heap.size w1).alloc (Nat.le_refl _) (.map #[] 0)
  exact hK.out (.map (some w1.heap.size)) _ ⟨ownsRow_out (F := fun _ => False) (outB hb) hP.1 (fun _ _ => id), _, rfl, MapG.new w1 .i64, hP.2.size, hP.2.trans (hb.mono hP.2.size)⟩
 ·intro K hK
  go_simp
  have hb := (Below.refl W.heap.size W).drew.alloc (Nat.le_refl _) (.map #[] 0)
  exact hK.out (.map (some W.heap.size)) _ ⟨_, rfl, MapG.new W.drew .i64, Nat.le_refl _, hb⟩
 ·rintro v' w1 ⟨r, rfl, hm, hr, hb1⟩ K hK
  go_simp
  refine (clone_ints w1 W.heap.size _ l HLL.out (hIn.below hb1 (Nat.le_refl _))).mono ?_; rintro e w2 ⟨v2, rfl, ho2, hb2⟩
  go_wp2_with fail
  exact hK.out _ _ ⟨World.ownsRow.mono ho2 hb1.size, r, rfl, hm.same (hb2.block _ hm.lt), hr, hb1.trans (hb2.mono hb1.size)⟩
 ·rintro v v' X ⟨ho, r, rfl, hm, hr, hb⟩ hHeld
  obtain ⟨a, cap, rfl⟩ := slice_form ho
  refine jk false 5 ?_
  refine jr 6 fun K hK => ?_
  go_simp
  obtain ⟨Y, eY⟩ : ∃ Y, Y = X.alloc (.cells #[.pointer (some ⟨D.p, 0, none⟩), .int .i64 room, .slice a l.length cap, .map (some r), .slice none 0 0] 97) := ⟨_, rfl⟩
  have hbx : Below X.heap.size X Y := by rw [eY]; exact (Below.refl _ X).alloc (Nat.le_refl _) _
  have kY : Blk Y X.heap.size 97 #[.pointer (some ⟨D.p, 0, none⟩), .int .i64 room, .slice a l.length cap, .map (some r), .slice none 0 0] := by rw [eY]; exact Blk.new X _ _
  rw [← eY]
  clear eY
  have hbY := hb.trans (hbx.mono hb.size)
  refine hK.out _ _ ⟨hbY, fun _ => trivial⟩ ?_
  clear hK K hHeld hJ
  have hHeld := hbY
  have hJ := trivial
  have HR := Lib.hid (CacheRaw.new kY (hm.same (hbx.block _ hm.lt)) (ownsRow_out (F := fun _ => False) (outB hbx) ho (fun _ _ => id)))
  have HOW := Lib.hid (fun g hg => (World.ownsRow.lt ho g hg).1)
  have HX := Lib.hid hb.size
  refine jk false 7 ?_
  refine jk false 8 ?_
  refine wpAnyJ_done (by kernel_rfl) ?_ _
  go_wp2_with fail
  refine bodyPost_ret (results_tmp2 Tryz.results14 _ _ _) rfl ⟨⟨X.heap.size, D.p, r, .slice a l.length cap, .slice none 0 0, []⟩, rfl, rfl, HR.out, hbW.trans (hbY.mono hbW.size), fun i hi => ?_⟩
  have h0 := hbW.size
  have h1 := HX.out
  rcases hi with (hi | hi | hi) | hi | hi
  ·have hi : i = X.heap.size := hi
   omega
  ·have hi : i = r := hi
   omega
  ·have := HOW.out i hi; omega
  ·cases hi
  ·cases hi
end Go.Proofs.YtemcgfncahccgaaGreat
namespace Go.Proofs.YtemcgfncahccgaaGreat
open Go.RowKit Go.Shelf

theorem disk17_facts {x : WorldD} (hx : x.fine) : (disk17 x).ok ∧ (disk17 x).size = ((x.n + x.more.toNat : Nat) : Int) ∧ (disk17 x).steps = 0 ∧ (disk17 x).waits = [] := by
 have hn := hx.n
 have hm := hx.more
 have h0 : (ofDisk (x.n + x.more.toNat) (allL17 x)).ok := ofDisk_ok _ _ (allL17_len (fun o ho => (hx.ok o ho).1)) (by omega) (by omega)
 unfold disk17 failed17
 split
 ·exact ⟨h0, rfl, rfl, rfl⟩
 ·exact ⟨h0, rfl, rfl, rfl⟩
def start17 (x : WorldD) : CacheD := newC (disk17 x) x.room (countI x.n)
theorem start_ok {x : WorldD} (hx : x.fine) (hr : 1 ≤ x.room) : COk (start17 x) 0 := by
 obtain ⟨h1, h2, h3, h4⟩ := disk17_facts hx
 have hn := hx.n
 refine ⟨⟨List.nodup_nil, fun m hm => by cases hm⟩, by show (0 : Int) ≤ x.room; omega, by show (countI x.n).length ≤ 64; rw [countI_len]; omega, h1, by show (disk17 x).steps ≤ 0; omega, h4⟩
theorem places_any {x : WorldD} (hx : x.fine) : (countI x.n).any (fun p => decide (p < 0) || decide ((disk17 x).size ≤ p)) = false := by
 rw [List.any_eq_false]
 intro p hp
 obtain ⟨k, hk, rfl⟩ := List.mem_map.1 hp
 have := List.mem_range.1 hk
 have hs := (disk17_facts hx).2.1
 have hm := hx.more
 simp only [Bool.or_eq_true, decide_eq_true_eq]
 omega
theorem foot4 {a b d : Value} {s : Int} {i : Nat} (h : i ∈ footV (.agg #[a, b, .int .i64 s, d])) : a.ownBlock = some i ∨ b.ownBlock = some i ∨ d.ownBlock = some i := by
 unfold footV at h
 simp only [List.mem_filterMap, List.mem_cons, List.not_mem_nil, or_false] at h
 obtain ⟨u, rfl | rfl | rfl | rfl, h⟩ := h
 ·exact .inl h
 ·exact .inr (.inl h)
 ·cases h
 ·exact .inr (.inr h)
theorem results_tmp2_row_tmp {P : Program} {fn : Func} {p q r t : Tmp} {ty : TypeId} (h : fn.results = #[.tmp p, .tmp q, .cell r ty, .tmp t]) (tmps : Array Value) (w : World) (a b c d : Value) (g : Nat)
  (hp : tmps.getD p undef = a) (hq : tmps.getD q undef = b) (hr : tmps.getD r undef = .pointer (some ⟨g, 0, none⟩)) (hc : (loadVar ty ⟨g, 0, none⟩).run P w = .ok c w) (ht : tmps.getD t undef = d) :
  (results fn tmps).run P w = .ok (.tuple #[a, b, c, d]) w := by
 have hp' : tmps[p]?.getD undef = a := by simpa using hp
 have hq' : tmps[q]?.getD undef = b := by simpa using hq
 have hr' : tmps[r]?.getD undef = .pointer (some ⟨g, 0, none⟩) := by simpa using hr
 have ht' : tmps[t]?.getD undef = d := by simpa using ht
 simp [results, h, hp', hq', hr', ht', asAddr, hc]
/-- what begun leaves -/
def BegunPost (x : WorldD) (w : World) (e : Ending) (w' : World) : Prop := ∃ D C cv, e = .returned (.tuple #[ptr D.p, ptr C.g, cv, .bool true]) ∧ Both w' D C cv (start17 x) ∧ (∀ i, D.has i → w.heap.size ≤ i) ∧ (∀ i, C.has i → w.heap.size ≤ i) ∧ (∀ g, g ∈ footV cv → w.heap.size ≤ g) ∧ Below w.heap.size w w'
set_option maxRecDepth 100000 in
set_option maxHeartbeats 4000000 in
theorem begun17_any (x : WorldD) (hx : x.fine) (hr : 1 ≤ x.room ∧ x.room ≤ 64) (v : Value) (w : World) (hv : WorldIn w w.heap.size v x) : Calls Tryz.prog 29 #[v] w (BegunPost x w) := by
 have HV := Lib.hid hv
 obtain ⟨vo, vf, rfl, ho, hf⟩ := hv
 obtain ⟨-, ao, co, rfl, -, -⟩ := ho
 obtain ⟨-, af, cf, rfl, -, -⟩ := hf
 obtain ⟨XV, eXV⟩ : ∃ XV : Array Value, XV = #[.slice ao x.objs.length co, .int .i64 x.more, .int .i64 x.room, .slice af x.fails.length cf] := ⟨_, rfl⟩
 have x2 : XV[2]? = some (.int .i64 x.room) := by rw [eXV]; rfl
 have sXV : (Tryz.prog.info? 25).map (·.size) = some XV.size := by rw [eXV]; exact size_world _ _ _ _
 rw [← eXV] at HV
 rw [← eXV]
 have HMK := Lib.hid (fun W (hW : Below w.heap.size w W) => made17_any x hx (.agg XV) W (HV.out.up hW))
 have HSX := Lib.hid sXV
 obtain ⟨W, eW⟩ : ∃ W, W = (w.alloc (.cells XV 25)).alloc (.cells zeroC 61) := ⟨_, rfl⟩
 have hbW : Below w.heap.size w W := by rw [eW]; exact ((Below.refl _ w).alloc (Nat.le_refl _) _).alloc (by simp) _
 have k0 : Blk W w.heap.size 25 XV := by rw [eW]; exact (Blk.new w _ _).alloc _
 have k1 : Blk W (w.heap.size + 1) 61 zeroC := by rw [eW]; exact Blk.new2 w _ _ _
 obtain ⟨f1, f2, f3, f4⟩ := disk17_facts hx
 have HDK := Lib.hid (And.intro f1 (And.intro f3 f4))
 have HPL := Lib.hid (places_any hx)
 have hn := hx.n
 have hcl := countI_len x.n
 have HCL := Lib.hid (And.intro hn hcl)
 have HR := Lib.hid hr
 have HB := Lib.hid hbW
 have HX := Lib.hid hx
 clear hx hr eXV sXV f1 f2 f3 f4 hn hcl hbW
 go_enter Tryz.func29, Tryz.ntmps29
 go_upto_region 1 with fail
 rw [← eW]
 clear eW
 go_wp2_with (refine wpList_load_row rfl 25 _ rfl w.heap.size rfl 25 XV (0, 0) _ k0 Tryz.underlying25 rfl HSX.out ?_)
 refine (HMK.out W HB.out).mono ?_; rintro e w1 ⟨D, lv, fv, pv, rfl, hd1, hr1, hp1, hh1, hg1, hb1⟩
 obtain ⟨pa, pc, rfl⟩ : ∃ a c, pv = .slice a (countI x.n).length c := by obtain ⟨_, a, c, e, _⟩ := hp1; exact ⟨a, c, e⟩
 have K0 := k0.below hb1 k0.lt
 have K1 := k1.below hb1 k1.lt
 have hkW := k1.lt
 have hs01 := hb1.size
 have hs0 := HB.out.size
 have hone := hr1.one 0
 have HONE := Lib.hid hone
 have H1 := Lib.hid (And.intro hd1 (And.intro hr1 (And.intro hp1 (And.intro hh1 (And.intro hg1 hb1)))))
 have hzc := Blk.new w1 32 zeroD
 unfold ptr
 clear hd1 hr1 hp1 hh1 hg1 hb1 hone k0 k1 HMK
 go_upto_region 2 with (refine wpList_store_row rfl 32 _ _ rfl w1.heap.size #[lv, .slice none 0 0, .int .i64 0, fv] rfl rfl 32 _ hzc (size_rdisk _ _ _ _) rfl HONE.out ?_; rw [World.setRow_alloc_new])
 obtain ⟨w2, e2⟩ : ∃ w2, w2 = w1.alloc (.cells #[lv, .slice none 0 0, .int .i64 0, fv] 32) := ⟨_, rfl⟩
 have hb2 : Below w1.heap.size w1 w2 := by rw [e2]; exact (Below.refl _ w1).alloc (Nat.le_refl _) _
 have t7 : Blk w2 w1.heap.size 32 #[lv, .slice none 0 0, .int .i64 0, fv] := by rw [e2]; exact Blk.new _ _ _
 rw [← e2]
 clear e2 hzc
 have K2 := K0.below hb2 K0.lt
 have K12 := Lib.hid (K1.below hb2 K1.lt)
 have c2 := K2.cell_is 2 x2
 have hs12 := hb2.size
 have hl12 := t7.lt
 clear K0 K1
 obtain ⟨hd1, hr1, hp1, hh1, hg1, hb1⟩ := H1.out
 obtain ⟨hdo, hst, hwt⟩ := HDK.out
 have HNW := Lib.hid (newc_ok D (disk17 x) x.room (.slice pa (countI x.n).length pc) (countI x.n) w2 (hd1.below hb2) hdo ((hp1.below hb2 (Nat.le_refl _)).mono hb2.size) HR.out (by rw [HCL.out.2]; have := HCL.out.1; omega) HPL.out)
 unfold ptr at HNW
 clear hd1 hr1 hp1 hh1 hg1 hb1 hdo hst hwt
 go_wp2_with fail
 refine HNW.out.mono ?_; rintro e w3 ⟨C, rfl, hdp, hc3, hb3, hh3⟩
 have K3 := K2.below hb3 K2.lt
 have K13 := Lib.hid (K12.out.below hb3 K12.out.lt)
 have t73 := t7.below hb3 t7.lt
 have c2 := K3.cell_is 2 x2
 have hs23 := hb3.size
 have H3 := Lib.hid (And.intro hdp (And.intro hc3 (And.intro hb3 hh3)))
 obtain ⟨hd1, hr1, hp1, hh1, hg1, hb1⟩ := H1.out
 obtain ⟨hdo, hst, hwt⟩ := HDK.out
 have hb13 : Below w1.heap.size w1 w3 := hb2.trans (hb3.mono hb2.size)
 have hrn := rnew_any (.agg #[lv, .slice none 0 0, .int .i64 0, fv]) (disk17 x) x.room (.slice pa (countI x.n).length pc) (countI x.n) w3 ⟨lv, .slice none 0 0, fv, by rw [hst], (hr1.below hb13 (Nat.le_refl _)).mono hb13.size⟩ hdo ((hp1.below hb13 (Nat.le_refl _)).mono hb13.size)
 have hE : newE (disk17 x) x.room (countI x.n) = 0 := by
  unfold newE
  rw [if_neg (by rw [HCL.out.2]; have := HCL.out.1; have := HR.out; omega), HPL.out]
  rfl
 rw [hE] at hrn
 have HRN := Lib.hid hrn
 have HB13 := Lib.hid hb13
 clear hdp hc3 hb3 hh3 hd1 hr1 hp1 hh1 hg1 hb1 hdo hst hwt hrn hE K2 t7 HNW hb13
 go_wp2_with (refine wpList_load_row rfl 32 _ rfl w1.heap.size rfl 32 #[lv, .slice none 0 0, .int .i64 0, fv] (0, 0) _ t73 Tryz.underlying32 rfl (size_rdisk _ _ _ _) ?_)
 refine HRN.out.mono ?_; rintro e w4 ⟨cv, rfl, hcv, hb4⟩
 obtain ⟨hcv, hft⟩ := hcv trivial
 obtain ⟨CV, rfl, s7, one7, st7⟩ := hcv.agg
 have HI7 := Lib.hid (info_cache s7)
 have HS7 := Lib.hid s7
 have HON := Lib.hid one7
 have HZ7 := Lib.hid (show zeroC.size = CV.size from s7.symm)
 have K14 := Lib.hid (K13.out.below hb4 K13.out.lt)
 have hs34 := hb4.size
 have H4 := Lib.hid (And.intro hcv (And.intro hft hb4))
 clear hcv hft hb4 s7 one7 st7 K3 c2 t73 HRN
 have hzc := Blk.new w4 61 zeroC
 go_upto_region 4 with (refine wpList_store_row rfl 61 _ _ rfl w4.heap.size CV rfl rfl 61 _ hzc HI7.out HZ7.out HON.out ?_; rw [World.setRow_alloc_new])
 obtain ⟨Z, eZ⟩ : ∃ Z, Z = w4.alloc (.cells CV 61) := ⟨_, rfl⟩
 have hbZ : Below w4.heap.size w4 Z := by rw [eZ]; exact (Below.refl _ w4).alloc (Nat.le_refl _) _
 have t12 : Blk Z w4.heap.size 61 CV := by rw [eZ]; exact Blk.new _ _ _
 have t4 := K14.out.below hbZ K14.out.lt
 rw [← eZ]
 clear eZ hzc
 have hsZ := hbZ.size
 have n12 : w4.heap.size ≠ w.heap.size + 1 := by have := K14.out.lt; omega
 refine jb (fun X => Out (fun i => i = w.heap.size + 1) Z X) (fun _ => True) 100 (outB (Below.refl _ _).drew) trivial fun hHeld hJ => ?_
 refine jk false 0 ?_
 refine jk false 1 ?_
 refine jy false 2 rfl (yieldsIf_load_mid (by rfl) 61 _ rfl w4.heap.size 0 rfl CV.toList _ (fun w' h => blk_range (h.1.blk t12 n12)) Tryz.underlying61 rfl (by simpa using HI7.out)) ?_
 refine jk false 3 ?_
 refine jk false 4 ?_
 refine jk false 5 ?_
 refine jr 6 fun K hK => ?_
 go_simp
 refine (num17_any _ _).mono ?_; rintro r X3 ⟨rfl, rfl⟩
 dsimp only
 refine hK.out _ _ ⟨hHeld, fun _ => trivial⟩ ?_
 clear hK K
 refine jk false 7 ?_
 refine jk false 8 ?_
 refine jk false 9 ?_
 refine jk false 10 ?_
 refine jk false 11 ?_
 refine jk false 12 ?_
 refine jk false 13 ?_
 refine jk false 14 ?_
 refine jr 15 fun K hK => ?_
 rw [if_pos (show Region.wanted _ _ = true from rfl)]
 refine wp_store_row 61 _ _ rfl (w.heap.size + 1) CV rfl rfl 61 _ t4.drew HI7.out HZ7.out HON.out ?_
 have ho8 : Out (fun i => i = w.heap.size + 1) Z (Z.drew.setRow (w.heap.size + 1) CV) := hHeld.trans (out_row (F := fun i => i = w.heap.size + 1) _ rfl) (fun _ _ h => h)
 have t9 := t4.drew.row CV
 refine hK.out _ _ ⟨ho8, fun _ => trivial⟩ ?_
 clear hK K hHeld
 have hHeld := ho8
 refine jk false 16 ?_
 refine wpAnyJ_done (by kernel_rfl) ?_ _
 go_wp2_with fail
 obtain ⟨hd1, hr1, hp1, hh1, hg1, hb1⟩ := H1.out
 obtain ⟨hdp, hc3, hb3, hh3⟩ := H3.out
 obtain ⟨hcv, hft, hb4⟩ := H4.out
 have hb34Z : Below w3.heap.size w3 Z := hb4.trans (hbZ.mono hs34)
 have hb1Z : Below w1.heap.size w1 Z := HB13.out.trans (hb34Z.mono HB13.out.size)
 have hfoot : ∀ g, g ∈ footV (.agg CV) → (W.heap.size ≤ g ∧ g < w1.heap.size) ∧ ¬ D.has g := fun g hg => by
  refine hg1 g ?_
  rcases hft g hg with h | h
  ·rcases foot4 h with h | h | h
   ·exact .inl h
   ·cases h
   ·exact .inr (.inl h)
  ·exact .inr (.inr h)
 refine bodyPost_ret (results_tmp2_row_tmp Tryz.results29 _ _ (.pointer (some ⟨D.p, 0, none⟩)) (.pointer (some ⟨C.g, 0, none⟩)) (.agg CV) (.bool true) _ (by rfl) (by rfl) (by rfl) (load_cacheV HS7.out t9) (by rfl)) rfl ⟨D, C, .agg CV, rfl, ⟨?_, ?_, hdp, ?_, fun i hi hci => ?_, fun g hg => ⟨?_, fun ho => ?_, (hfoot g hg).2⟩⟩, fun i hi => ?_, fun i hi => ?_, fun g hg => ?_, ?_⟩
 ·exact (hd1.below hb1Z).out ho8 (fun i hi e => by have := hh1 i hi; omega)
 ·have h9 := (hc3.below hb34Z).out ho8 (fun i hi e => by have := hh3 i hi; omega)
  exact h9
 ·exact (hcv.up hbZ).outO ho8 (fun g hg e => by have := (hfoot g hg).1; omega)
 ·have := hd1.has_lt i hi; have := hh3 i hci; omega
 ·have := (hfoot g hg).1; have := ho8.size; omega
 ·have := (hfoot g hg).1; have := hh3 g (.inl ho); omega
 ·have := hh1 i hi; omega
 ·have := hh3 i hi; omega
 ·have := (hfoot g hg).1; omega
 ·exact below_row ((HB.out.trans ((hb1.trans (hb1Z.mono hs01)).mono hs0)).drew) _ (by omega)
end Go.Proofs.YtemcgfncahccgaaGreat
namespace Go.Proofs.YtemcgfncahccgaaGreat
open Go.RowKit Go.Shelf

/-- both caches within a statement: w its beginning, G the block of what the document's cache is held in -/
structure LInv (w : World) (dp cg G : Nat) (W : World) (D : DiskP) (C : CacheP) (CV : Array Value) (x : CacheD) (k : Int) : Prop where
 dp : D.p = dp
 cg : C.g = cg
 both : Both W D C (.agg CV) x
 ok : COk x k
 blk : Blk W G 61 CV
 low : ∀ i, D.has i ∨ C.has i → w.heap.size ≤ i
 nd : ¬ D.has G
 nc : ¬ C.has G
 nf : ¬ G ∈ footV (.agg CV)
 s7 : CV.size = 7
 one : CV.all (·.oneCell') = true
 lo : w.heap.size ≤ G
 out : Out (fun i => w.heap.size ≤ i) w W
section
variable {w W W' W2 : World} {dp cg G : Nat} {D : DiskP} {C : CacheP} {CV : Array Value} {x x' : CacheD} {k k' : Int}
theorem LInv.below (h : LInv w dp cg G W D C CV x k) (hb : Below W.heap.size W W') : LInv w dp cg G W' D C CV x k :=
 ⟨h.dp, h.cg, h.both.below hb, h.ok, h.blk.below hb h.blk.lt, h.low, h.nd, h.nc, h.nf, h.s7, h.one, h.lo, h.out.trans (G := fun _ => False) (outB hb) (fun _ _ h => h.elim)⟩
theorem LInv.drew (h : LInv w dp cg G W D C CV x k) : LInv w dp cg G W.drew D C CV x k := h.below (Below.refl _ _).drew
theorem LInv.low_ (h : LInv w dp cg G W D C CV x k) (i : Nat) (hi : i < w.heap.size) : ¬ (D.has i ∨ C.own i ∨ i = G) := fun hh => by
 rcases hh with hh | hh | hh
 ·have := h.low i (.inl hh); omega
 ·have := h.low i (.inr (.inl hh)); omega
 ·have := h.lo; omega
/-- behind an act, and its answer stored -/
theorem LInv.act (h : LInv w dp cg G W D C CV x k) {e : Ending} (hp : ActPost D C (.agg CV) x' W e W2) (hok : COk x' k') :
  ∃ CV2 C2, e = .returned (.tuple #[.agg CV2, .bool true]) ∧ CV2.size = 7 ∧ CV2.all (·.oneCell') = true ∧ Blk W2 G 61 CV ∧ Out (fun i => D.has i ∨ C.own i) W W2 ∧ Out (fun i => i = G) W2 (W2.setRow G CV2) ∧ LInv w dp cg G (W2.setRow G CV2) D C2 CV2 x' k' := by
 obtain ⟨cv', C2, he, hb, hs, hn⟩ := hp
 obtain ⟨CV2, rfl, s7, one7, st7⟩ := hb.ref.agg
 have hG := h.blk.lt
 have hkeep := hs.out.blk h.blk (fun hh => hh.elim h.nd (fun ho => h.nc (.inl ho)))
 have ho : Out (fun i => i = G) W2 (W2.setRow G CV2) := out_row _ rfl
 have nc2 : ¬ C2.has G := fun hh => by
  rcases hs.new_ G hh with h1 | h1
  ·exact h.nc h1
  ·omega
 have nf2 : ¬ G ∈ footV (.agg CV2) := fun hh => by
  rcases hn G hh with h1 | h1
  ·exact h.nf h1
  ·omega
 refine ⟨CV2, C2, he, s7, one7, hkeep, hs.out, ho, h.dp, hs.same.1.trans h.cg, hb.out ho (fun i hi => by subst hi; exact ⟨h.nd, nc2, nf2⟩), hok, hkeep.row _, fun i hi => ?_, h.nd, nc2, nf2, s7, one7, h.lo, ?_⟩
 ·rcases hi with hi | hi
  ·exact h.low i (.inl hi)
  ·rcases hs.new_ i hi with h1 | h1
   ·exact h.low i (.inr h1)
   ·have := h.out.size; omega
 ·exact (h.out.trans hs.out (fun i _ hi => hi.elim (fun h1 => h.low i (.inl h1)) (fun h1 => h.low i (.inr (.inl h1))))).trans ho (fun i _ hi => by rw [hi]; exact h.lo)
theorem LInv.stands (h : LInv w dp cg G W D C CV x k) : Calls Tryz.prog 28 #[ptr cg, .agg CV] W fun e w' => e = .returned (.bool true) ∧ Below W.heap.size W w' := by
 have := stands_any h.both h.ok
 rwa [h.cg] at this
theorem LInv.below0 (h : LInv w dp cg G W D C CV x k) : Below w.heap.size w W := h.out.below (Nat.le_refl _) (fun i hi h => by omega)
end
/-- a call that is none of the disk's -/
def ActD.run (a : ActD) (x : CacheD) : CacheD :=
 if a.what = 0 then x.get_ a.oid else if a.what = 1 then x.put a.oid a.o else if a.what = 2 then x.evict a.at_ else if a.what = 3 then x.settle a.oid a.at_ else x.move a.oid a.at_
theorem act_run {w : World} {D : DiskP} {C : CacheP} {cv : Value} {x : CacheD} {k : Int} (H : Both w D C cv x) (O : COk x k) (hk : k ≤ 1000) (a : ActD) (ha : a.ok) (h0 : a.what = 0 ∨ a.what = 1 ∨ a.what = 2 ∨ a.what = 3 ∨ a.what = 4) :
  Calls Tryz.prog 30 #[ptr D.p, ptr C.g, cv, .agg a.cells.toArray] w (ActPost D C cv (a.run x) w) ∧ COk (a.run x) (k + 1) := by
 unfold ActD.run
 rcases h0 with h | h | h | h | h
 ·rw [if_pos h]; exact ⟨act_get H O hk a ha h, O.get hk _⟩
 ·rw [if_neg (by rw [h]; decide), if_pos h]; exact ⟨act_put H O hk a ha h, O.put _ _⟩
 ·rw [if_neg (by rw [h]; decide), if_neg (by rw [h]; decide), if_pos h]; exact ⟨act_evict H O a ha h, O.evict _⟩
 ·rw [if_neg (by rw [h]; decide), if_neg (by rw [h]; decide), if_neg (by rw [h]; decide), if_pos h]; exact ⟨act_settle H O hk a ha h, O.settle _ _⟩
 ·rw [if_neg (by rw [h]; decide), if_neg (by rw [h]; decide), if_neg (by rw [h]; decide), if_neg (by rw [h]; decide)]; exact ⟨act_move H O hk a ha h, (O.move _ _).mono (by omega)⟩
end Go.Proofs.YtemcgfncahccgaaGreat
namespace Go.Proofs.YtemcgfncahccgaaGreat
open Go.RowKit Go.Shelf

def smallW (x : WorldD) : Bool := decide (1 ≤ x.n ∧ x.n ≤ 12 ∧ 0 ≤ x.more ∧ x.more ≤ 8 ∧ 1 ≤ x.room ∧ x.room ≤ 64 ∧ x.fails.length ≤ 20) && x.objs.all fun o => objB o x.n
theorem smallW_fine {x : WorldD} (h : smallW x = true) (ho : ∀ o ∈ x.objs, o.ok ∧ rightsOk o ∧ ∀ s ∈ o.slots, I64 s.v) (hf : ∀ m ∈ x.fails, m ≤ 9223372036854775807) : x.fine ∧ 1 ≤ x.room ∧ x.room ≤ 64 := by
 unfold smallW at h
 rw [Bool.and_eq_true, decide_eq_true_eq, List.all_eq_true] at h
 obtain ⟨⟨h1, h2, h3, h4, h5, h6, h7⟩, h8⟩ := h
 exact ⟨⟨fun o hm => ⟨(ho o hm).1, (ho o hm).2.1, (ho o hm).2.2, h8 o hm⟩, ⟨h1, h2⟩, ⟨h3, h4⟩, h7, hf⟩, h5, h6⟩
set_option maxRecDepth 100000 in
set_option maxHeartbeats 4000000 in
theorem small17_any (x : WorldD) (v : Value) (w : World) (hv : WorldIn w w.heap.size v x) : Calls Tryz.prog 11 #[v] w fun e w' => e = .returned (.bool (smallW x)) ∧ Below w.heap.size w w' := by
 obtain ⟨vo, vf, rfl, ho, hf⟩ := hv
 have HOB := Lib.hid ho
 obtain ⟨-, ao, co, rfl, -, -⟩ := ho
 obtain ⟨-, af, cf, rfl, -, -⟩ := hf
 obtain ⟨L, eL⟩ : ∃ L, L = x.objs := ⟨_, rfl⟩
 obtain ⟨F, eF⟩ : ∃ F, F = x.fails.length := ⟨_, rfl⟩
 obtain ⟨mo, emo⟩ : ∃ mo, mo = x.more := ⟨_, rfl⟩
 obtain ⟨ro, ero⟩ : ∃ ro, ro = x.room := ⟨_, rfl⟩
 obtain ⟨r, er⟩ : ∃ r, r = smallW x := ⟨_, rfl⟩
 have hr : r = (decide (1 ≤ L.length ∧ L.length ≤ 12 ∧ 0 ≤ mo ∧ mo ≤ 8 ∧ 1 ≤ ro ∧ ro ≤ 64 ∧ F ≤ 20) && L.all fun o => objB o L.length) := by rw [er, eL, eF, emo, ero]; rfl
 rw [← er, ← eF, ← emo, ← ero]
 rw [← eL] at HOB ⊢
 clear er eF emo ero eL
 obtain ⟨XV, eXV⟩ : ∃ XV : Array Value, XV = #[.slice ao L.length co, .int .i64 mo, .int .i64 ro, .slice af F cf] := ⟨_, rfl⟩
 obtain ⟨W, eW⟩ : ∃ W, W = w.alloc (.cells XV 25) := ⟨_, rfl⟩
 have hbW : Below w.heap.size w W := by rw [eW]; exact (Below.refl _ w).alloc (Nat.le_refl _) _
 have k0 : Blk W w.heap.size 25 XV := by rw [eW]; exact Blk.new w _ _
 have c0 : W.cell? ⟨w.heap.size, 0, none⟩ = some (.slice ao L.length co) := k0.cell_is 0 (by rw [eXV]; rfl)
 have c1 : W.cell? ⟨w.heap.size, 1, none⟩ = some (.int .i64 mo) := k0.cell_is 1 (by rw [eXV]; rfl)
 have c2 : W.cell? ⟨w.heap.size, 2, none⟩ = some (.int .i64 ro) := k0.cell_is 2 (by rw [eXV]; rfl)
 have c3 : W.cell? ⟨w.heap.size, 3, none⟩ = some (.slice af F cf) := k0.cell_is 3 (by rw [eXV]; rfl)
 have x0 : XV[0]? = some (.slice ao L.length co) := by rw [eXV]; rfl
 rw [← eXV]
 have HB := Lib.hid hbW
 have HR := Lib.hid hr
 clear eXV hr hbW
 by_cases hall : 1 ≤ L.length ∧ L.length ≤ 12 ∧ 0 ≤ mo ∧ mo ≤ 8 ∧ 1 ≤ ro ∧ ro ≤ 64 ∧ F ≤ 20
 ·obtain ⟨h1, h2, h3, h4, h5, h6, h7⟩ := id hall
  have HR2 := Lib.hid (show r = L.all fun o => objB o L.length by rw [HR.out, decide_eq_true hall]; rfl)
  have g1 : decide ((L.length : Int) < 1) = false := by simp; omega
  have g2 : decide (12 < (L.length : Int)) = false := by simp; omega
  have g3 : decide (mo < 0) = false := by simp; omega
  have g4 : decide (8 < mo) = false := by simp; omega
  have g5 : decide (ro < 1) = false := by simp; omega
  have g6 : decide (64 < ro) = false := by simp; omega
  have g7 : decide (20 < (F : Int)) = false := by simp; omega
  clear hall h1 h3 h4 h5 h6 h7 HR
  go_enter Tryz.func11, Tryz.ntmps11
  go_upto_region 1 with fail
  rw [← eW]
  clear eW
  go_wp2_with fail
  go_loopw [4] (fun i wr => ∃ j : Nat, j ≤ L.length ∧ i = .int .i64 j ∧ (L.take j).all (fun o => objB o L.length) = true ∧ Blk wr w.heap.size 25 XV ∧ Below w.heap.size w wr) (fun i _ => L.length - (intOf i).toNat)
  case atStart => exact ⟨0, by omega, rfl, rfl, k0, HB.out⟩
  case round =>
   obtain ⟨j, hj, rfl, hT, hK, hB⟩ := hrel
   have HT := Lib.hid hT
   have hc0 := hK.cell_is 0 x0
   clear hT
   by_cases hlt : j < L.length
   ·have i2 : (j : Int) < (L.length : Int) := by omega
    obtain ⟨o, ho⟩ : ∃ o, L[j]? = some o := ⟨_, List.getElem?_eq_getElem hlt⟩
    obtain ⟨hok, hro, g, off, rfl, hg, hrng⟩ := (HOB.out.below hB (Nat.le_refl _)).at_ ho
    have HCK := Lib.hid (fun X => rocheck_any o hok hro (L.length : Int) X)
    have HT2 := Lib.hid (show (L.take (j + 1)).all (fun o => objB o L.length) = objB o L.length by rw [List.take_add_one, ho, List.all_append, HT.out]; simp)
    have HMEM := Lib.hid (List.mem_of_getElem? ho)
    have soc : (Tryz.prog.info? 47).map (·.size) = some o.cells.length := by rw [ObjD.len hok]; kernel_rfl
    obtain ⟨oc, eoc⟩ : ∃ oc, oc = o.cells := ⟨_, rfl⟩
    rw [← eoc] at HCK hrng soc
    have HBr := Lib.hid hB
    have HKr := Lib.hid hK
    clear ho hok hro eoc hB
    cases hob : objB o (L.length : Int)
    ·rw [hob] at HCK HT2
     have HRF := Lib.hid (show r = false by
      rw [HR2.out, List.all_eq_false]
      exact ⟨o, HMEM.out, by rw [hob]; decide⟩)
     clear hob
     unfold errB at HCK
     simp only [Bool.false_eq_true, if_false] at HCK
     go_wp2_with (refine wpList_load_mid rfl 47 _ rfl g (off + j * 163) rfl oc _ hrng Tryz.underlying47 rfl soc ?_)
     refine (HCK.out wr).mono ?_; rintro e w2 ⟨rfl, hb2⟩
     go_wp2_with fail
     go_ret
     exact ⟨by rw [HRF.out]; rfl, HBr.out.trans (hb2.mono HBr.out.size)⟩
    ·rw [hob] at HCK HT2
     clear hob
     unfold errB at HCK
     simp only [if_true] at HCK
     go_wp2_with (refine wpList_load_mid rfl 47 _ rfl g (off + j * 163) rfl oc _ hrng Tryz.underlying47 rfl soc ?_)
     refine (HCK.out wr).mono ?_; rintro e w2 ⟨rfl, hb2⟩
     go_wp2_with fail
     exact ⟨⟨j + 1, by omega, by go_num, HT2.out, HKr.out.below hb2 HKr.out.lt, HBr.out.trans (hb2.mono HBr.out.size)⟩, by simp [intOf]; omega⟩
   ·obtain rfl : j = L.length := by omega
    have i2 : ¬ (L.length : Int) < (L.length : Int) := by omega
    have HRT := Lib.hid (show r = true by rw [HR2.out]; have h := HT.out; rwa [List.take_length] at h)
    go_wp2_with fail
    go_ret
    exact ⟨by rw [HRT.out]; rfl, hB⟩
 ·have HRF := Lib.hid (show r = false by rw [HR.out, decide_eq_false hall]; rfl)
  have key : decide ((L.length : Int) < 1) = true ∨ (decide ((L.length : Int) < 1) = false ∧ decide (12 < (L.length : Int)) = true) ∨ (decide ((L.length : Int) < 1) = false ∧ decide (12 < (L.length : Int)) = false ∧ decide (mo < 0) = true) ∨ (decide ((L.length : Int) < 1) = false ∧ decide (12 < (L.length : Int)) = false ∧ decide (mo < 0) = false ∧ decide (8 < mo) = true) ∨
   (decide ((L.length : Int) < 1) = false ∧ decide (12 < (L.length : Int)) = false ∧ decide (mo < 0) = false ∧ decide (8 < mo) = false ∧ decide (ro < 1) = true) ∨ (decide ((L.length : Int) < 1) = false ∧ decide (12 < (L.length : Int)) = false ∧ decide (mo < 0) = false ∧ decide (8 < mo) = false ∧ decide (ro < 1) = false ∧ decide (64 < ro) = true) ∨
   (decide ((L.length : Int) < 1) = false ∧ decide (12 < (L.length : Int)) = false ∧ decide (mo < 0) = false ∧ decide (8 < mo) = false ∧ decide (ro < 1) = false ∧ decide (64 < ro) = false ∧ decide (20 < (F : Int)) = true) := by
   simp only [decide_eq_true_eq, decide_eq_false_iff_not]
   omega
  clear hall
  rcases key with p1 | ⟨p1, p2⟩ | ⟨p1, p2, p3⟩ | ⟨p1, p2, p3, p4⟩ | ⟨p1, p2, p3, p4, p5⟩ | ⟨p1, p2, p3, p4, p5, p6⟩ | ⟨p1, p2, p3, p4, p5, p6, p7⟩
  all_goals
   go_enter Tryz.func11, Tryz.ntmps11
   go_upto_region 1 with fail
   rw [← eW]
   clear eW
   go_wp2_with fail
   go_ret
   exact ⟨by rw [HRF.out]; rfl, HB.out⟩
end Go.Proofs.YtemcgfncahccgaaGreat
namespace Go.Proofs.YtemcgfncahccgaaGreat
open Go.RowKit Go.Shelf

def oA17 : ObjD := ⟨2, 1, 0, slotsZ, bytesZ⟩
def oB17 : ObjD := ⟨2, 2, 0, slotsZ, bytesZ⟩
def oC17 : ObjD := ⟨2, 3, 0, slotsZ, bytesZ⟩
def wd17 : WorldD := ⟨[oA17, oB17, objZ], 0, 1, []⟩
def wk0 : CacheD := start17 wd17
def wk1 : CacheD := wk0.get_ 0
def wk2 : CacheD := wk1.get_ 1
def wk3 : CacheD := wk2.put 0 oC17
def wk4 : CacheD := wk3.get_ 0
def wk5 : CacheD := wk4.evict 5
theorem slotsZ_fine : ∀ s ∈ slotsZ, s.r < 9223372036854775808 ∧ I64 s.v := by
 intro s hs
 have : s = ⟨0, 0, 0, 0, 0, 0⟩ := List.eq_of_mem_replicate hs
 rw [this]
 exact ⟨by decide, by unfold I64; decide⟩
theorem wd17_fine : wd17.fine := by
 have h : ∀ o, o = oA17 ∨ o = oB17 ∨ o = objZ → o.ok ∧ rightsOk o ∧ (∀ s ∈ o.slots, I64 s.v) ∧ objB o 3 = true := by
  rintro o (rfl | rfl | rfl)
  ·exact ⟨⟨rfl, rfl⟩, fun s hs => (slotsZ_fine s hs).1, fun s hs => (slotsZ_fine s hs).2, by decide +kernel⟩
  ·exact ⟨⟨rfl, rfl⟩, fun s hs => (slotsZ_fine s hs).1, fun s hs => (slotsZ_fine s hs).2, by decide +kernel⟩
  ·exact ⟨⟨rfl, rfl⟩, fun s hs => (slotsZ_fine s hs).1, fun s hs => (slotsZ_fine s hs).2, by decide +kernel⟩
 refine ⟨fun o ho => ?_, by decide, by decide, by decide, fun m hm => by cases hm⟩
 have ho' : o ∈ [oA17, oB17, objZ] := ho
 simp only [List.mem_cons, List.not_mem_nil, or_false] at ho'
 exact h o ho'
theorem wk_a : wk0.getE_ 0 = 0 ∧ (wk0.getO_ 0).ct = 1 := by decide +kernel
theorem wk_b : wk1.getE_ 1 = 0 ∧ (wk1.getO_ 1).ct = 2 := by decide +kernel
theorem wk_c : wk2.putE 0 oC17 = 0 := by decide +kernel
theorem wk_d : wk3.getE_ 0 = 0 ∧ (wk3.getO_ 0).ct = 3 := by decide +kernel
theorem wk_e : wk4.evictO 5 = 1 ∧ wk4.evictB = true := by decide +kernel
theorem wk_f : (risingL wk5.n (handB false wk5.hand)).length = 1 ∧ (risingL wk5.n (handB true wk5.hand)).length = 1 := by decide +kernel
end Go.Proofs.YtemcgfncahccgaaGreat
