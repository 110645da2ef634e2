/-
  The law's stands: of a disk and the reference's that stand alike it is true. (Written by gen_lstands.py.)
  The law LogsStates.
-/
import Derived.Deep.RegionHeld3
import Derived.Test.YtdpniceapmikpaaGreatSt1
import Derived.Test.YtdpniceapmikpaaGreatSt4
import Derived.Test.YtdpniceapmikpaaGreatSt7
import Derived.Test.YtdpniceapmikpaaGreatSt12
import Derived.Test.YtdpniceapmikpaaGreatSt26
import Derived.Test.YtdpniceapmikpaaGreatSt28
import Derived.Test.YtdpniceapmikpaaGreatSt29
import Derived.Test.YtdpniceapmikpaaGreatSt31
set_option linter.unusedVariables false
set_option linter.unusedSimpArgs false
namespace Go.Proofs.YtdpniceapmikpaaGreat
open Go.RowKit

set_option maxRecDepth 100000 in
set_option maxHeartbeats 4000000 in
theorem stands_any (D : DiskP) (x : DiskD) (lv wv fv : Value) (w : World) (h : DiskAt w D x) (hr : RDisk w w.heap.size lv wv fv x) (hx : x.ok) (hin : x.inR) :
  Calls Tryz.prog 21 #[ptr D.p, .agg #[lv, wv, .int .i64 x.steps, fv]] w fun e w' => e = .returned (.bool true) ∧ Below w.heap.size w w' := by
 have HH := Lib.hid h
 have HR := Lib.hid hr
 obtain ⟨_, _, aw, cw, rfl, _⟩ := hr.waits
 have HDB := Lib.hid (fun W hh => dbytes_any D x W hh hx)
 have HRB := Lib.hid (fun W hh => rdbytes_any x lv (.slice aw x.waits.length cw) fv x.steps W hh hx hin)
 have HWT := Lib.hid (fun W hh => waits_any D x W hh hx)
 have HST := Lib.hid (fun W hh => dsteps_any D x W hh hx)
 have k0 : Blk (w.alloc (.cells #[lv, .slice aw x.waits.length cw, .int .i64 x.steps, fv] 40)) w.heap.size 40 #[lv, .slice aw x.waits.length cw, .int .i64 x.steps, fv] := Blk.new w _ _
 have hbW : Below w.heap.size w (w.alloc (.cells #[lv, .slice aw x.waits.length cw, .int .i64 x.steps, fv] 40)) := (Below.refl _ w).alloc (Nat.le_refl _) _
 unfold ptr at *
 clear h hr
 go_enter Tryz.func21, Tryz.ntmps21
 go_upto_region 1 with fail
 generalize w.alloc _ = W at *
 have HW := Lib.hid hbW
 have SK := Lib.hid (fun (W' : World) (hb' : Below W.heap.size W W') => And.intro ((k0.below hb' k0.lt).cell_is 1 rfl) (And.intro ((k0.below hb' k0.lt).cell_is 2 rfl) (by have := blk_range (k0.below hb' k0.lt); simpa using this : W'.rangeAt w.heap.size 0 [lv, .slice aw x.waits.length cw, .int .i64 x.steps, fv])))
 have hb0 : Below W.heap.size W W.drew := (Below.refl _ W).drew
 clear hbW k0
 refine wp_region_held_drew (S := (fun w' => w'.cell? ⟨w.heap.size, 1, none⟩ = some (.slice aw x.waits.length cw) ∧ w'.cell? ⟨w.heap.size, 2, none⟩ = some (.int .i64 x.steps) ∧ w'.rangeAt w.heap.size 0 [lv, .slice aw x.waits.length cw, .int .i64 x.steps, fv])) (by kernel_rfl) (by first | exact SK.out _ hb0 | ((try dsimp only); exact SK.out _ hb0)) (fun hHeld => ?_)
 generalize W.drew = X0 at *
 refine tk 0 ?_
 refine ty 3 rfl (yieldsIf_load_mid (by rfl) 40 _ rfl w.heap.size 0 rfl [lv, .slice aw x.waits.length cw, .int .i64 x.steps, fv] _ (fun w' h => h.2.2) Tryz.underlying40 rfl (size_rdisk _ _ _ _)) ?_
 refine rd 1 fun K hK => ?_
 go_simp
 refine (HDB.out X0 (HH.out.below (HW.out.trans (hb0.mono HW.out.size)))).mono ?_; rintro e X1 ⟨u1, rfl, hO1, hb1'⟩
 have hb1 := hb0.trans (hb1'.mono hb0.size)
 have hu1 := BytesIn.own hO1
 go_wp2_with fail
 refine hK.out _ _ (by first | exact SK.out _ hb1 | ((try dsimp only); exact SK.out _ hb1)) (fun hHeld => ?_)
 clear hK K
 try simp only [Act.put, pz0, pz1, pz2, pz3, pz4, pz5]
 refine wpAnyH_ready (rs := [2, 4]) (by kernel_rfl) (by simp) ?_
 refine (AllReadyH.cons rfl (fun K hK => ?_) (AllReadyH.cons rfl (fun K hK => ?_) AllReadyH.nil))
 ·skip
  have hs1 := run_str X1 hu1
  go_simp
  refine hK.out _ _ (by first | exact SK.out _ hb1 | ((try dsimp only); exact SK.out _ hb1)) (fun hHeld => ?_)
  clear hK K
  try simp only [Act.put, pz0, pz1, pz2, pz3, pz4, pz5]
  refine rd 4 fun K hK => ?_
  go_simp
  refine (HRB.out X1 ((HR.out.below (HW.out.trans (hb1.mono HW.out.size)) (Nat.le_refl _)).mono ((HW.out.trans (hb1.mono HW.out.size))).size)).mono ?_; rintro e X2 ⟨u2, rfl, hO2, hb2'⟩
  have hb2 := hb1.trans (hb2'.mono hb1.size)
  have hu2 := BytesIn.own hO2
  go_wp2_with fail
  refine hK.out _ _ (by first | exact SK.out _ hb2 | ((try dsimp only); exact SK.out _ hb2)) (fun hHeld => ?_)
  clear hK K
  try simp only [Act.put, pz0, pz1, pz2, pz3, pz4, pz5]
  refine rd 5 fun K hK => ?_
  have hs2 := run_str X2 hu2
  go_simp
  refine hK.out _ _ (by first | exact SK.out _ hb2 | ((try dsimp only); exact SK.out _ hb2)) (fun hHeld => ?_)
  clear hK K
  try simp only [Act.put, pz0, pz1, pz2, pz3, pz4, pz5]
  refine tk 6 ?_
  refine tk 7 ?_
  refine tk 8 ?_
  refine tk 11 ?_
  refine tk 12 ?_
  refine tk 13 ?_
  refine rd 9 fun K hK => ?_
  go_simp
  refine (HWT.out X2 (HH.out.below (HW.out.trans (hb2.mono HW.out.size)))).mono ?_; rintro e X9 ⟨⟨a9, c9, rfl⟩, hb9'⟩
  have hb9 := hb2.trans (hb9'.mono hb2.size)
  go_wp2_with fail
  refine hK.out _ _ (by first | exact SK.out _ hb9 | ((try dsimp only); exact SK.out _ hb9)) (fun hHeld => ?_)
  clear hK K
  try simp only [Act.put, pz0, pz1, pz2, pz3, pz4, pz5]
  refine tk 10 ?_
  refine tk 14 ?_
  refine tk 15 ?_
  refine tk 16 ?_
  refine tk 17 ?_
  refine tk 19 ?_
  refine tk 20 ?_
  refine rd 18 fun K hK => ?_
  go_simp
  refine (HST.out X9 (HH.out.below (HW.out.trans (hb9.mono HW.out.size)))).mono ?_; rintro e w' ⟨rfl, rfl⟩
  go_wp2_with fail
  refine hK.out _ _ (by first | exact SK.out _ hb9 | ((try dsimp only); exact SK.out _ hb9)) (fun hHeld => ?_)
  clear hK K
  try simp only [Act.put, pz0, pz1, pz2, pz3, pz4, pz5]
  refine tk 21 ?_
  refine tk 22 ?_
  refine tk 23 ?_
  refine wpAnyH_done (by kernel_rfl) ?_ _
  try simp only [Act.put, pz0, pz1, pz2, pz3, pz4, pz5]
  go_wp2_with fail
  go_ret
  exact ⟨rfl, (HW.out.trans (hb9.mono HW.out.size))⟩
 ·skip
  go_simp
  refine (HRB.out X1 ((HR.out.below (HW.out.trans (hb1.mono HW.out.size)) (Nat.le_refl _)).mono ((HW.out.trans (hb1.mono HW.out.size))).size)).mono ?_; rintro e X2 ⟨u2, rfl, hO2, hb2'⟩
  have hb2 := hb1.trans (hb2'.mono hb1.size)
  have hu2 := BytesIn.own hO2
  have hu1 := (hu1.below hb2' (Nat.le_refl _)).mono hb2'.size
  go_wp2_with fail
  refine hK.out _ _ (by first | exact SK.out _ hb2 | ((try dsimp only); exact SK.out _ hb2)) (fun hHeld => ?_)
  clear hK K
  try simp only [Act.put, pz0, pz1, pz2, pz3, pz4, pz5]
  refine wpAnyH_ready (rs := [2, 5]) (by kernel_rfl) (by simp) ?_
  refine (AllReadyH.cons rfl (fun K hK => ?_) (AllReadyH.cons rfl (fun K hK => ?_) AllReadyH.nil))
  ·skip
   have hs1 := run_str X2 hu1
   go_simp
   refine hK.out _ _ (by first | exact SK.out _ hb2 | ((try dsimp only); exact SK.out _ hb2)) (fun hHeld => ?_)
   clear hK K
   try simp only [Act.put, pz0, pz1, pz2, pz3, pz4, pz5]
   refine rd 5 fun K hK => ?_
   have hs2 := run_str X2 hu2
   go_simp
   refine hK.out _ _ (by first | exact SK.out _ hb2 | ((try dsimp only); exact SK.out _ hb2)) (fun hHeld => ?_)
   clear hK K
   try simp only [Act.put, pz0, pz1, pz2, pz3, pz4, pz5]
   refine tk 6 ?_
   refine tk 7 ?_
   refine tk 8 ?_
   refine tk 11 ?_
   refine tk 12 ?_
   refine tk 13 ?_
   refine rd 9 fun K hK => ?_
   go_simp
   refine (HWT.out X2 (HH.out.below (HW.out.trans (hb2.mono HW.out.size)))).mono ?_; rintro e X9 ⟨⟨a9, c9, rfl⟩, hb9'⟩
   have hb9 := hb2.trans (hb9'.mono hb2.size)
   go_wp2_with fail
   refine hK.out _ _ (by first | exact SK.out _ hb9 | ((try dsimp only); exact SK.out _ hb9)) (fun hHeld => ?_)
   clear hK K
   try simp only [Act.put, pz0, pz1, pz2, pz3, pz4, pz5]
   refine tk 10 ?_
   refine tk 14 ?_
   refine tk 15 ?_
   refine tk 16 ?_
   refine tk 17 ?_
   refine tk 19 ?_
   refine tk 20 ?_
   refine rd 18 fun K hK => ?_
   go_simp
   refine (HST.out X9 (HH.out.below (HW.out.trans (hb9.mono HW.out.size)))).mono ?_; rintro e w' ⟨rfl, rfl⟩
   go_wp2_with fail
   refine hK.out _ _ (by first | exact SK.out _ hb9 | ((try dsimp only); exact SK.out _ hb9)) (fun hHeld => ?_)
   clear hK K
   try simp only [Act.put, pz0, pz1, pz2, pz3, pz4, pz5]
   refine tk 21 ?_
   refine tk 22 ?_
   refine tk 23 ?_
   refine wpAnyH_done (by kernel_rfl) ?_ _
   try simp only [Act.put, pz0, pz1, pz2, pz3, pz4, pz5]
   go_wp2_with fail
   go_ret
   exact ⟨rfl, (HW.out.trans (hb9.mono HW.out.size))⟩
  ·skip
   have hs2 := run_str X2 hu2
   go_simp
   refine hK.out _ _ (by first | exact SK.out _ hb2 | ((try dsimp only); exact SK.out _ hb2)) (fun hHeld => ?_)
   clear hK K
   try simp only [Act.put, pz0, pz1, pz2, pz3, pz4, pz5]
   refine rd 2 fun K hK => ?_
   have hs1 := run_str X2 hu1
   go_simp
   refine hK.out _ _ (by first | exact SK.out _ hb2 | ((try dsimp only); exact SK.out _ hb2)) (fun hHeld => ?_)
   clear hK K
   try simp only [Act.put, pz0, pz1, pz2, pz3, pz4, pz5]
   refine tk 6 ?_
   refine tk 7 ?_
   refine tk 8 ?_
   refine tk 11 ?_
   refine tk 12 ?_
   refine tk 13 ?_
   refine rd 9 fun K hK => ?_
   go_simp
   refine (HWT.out X2 (HH.out.below (HW.out.trans (hb2.mono HW.out.size)))).mono ?_; rintro e X9 ⟨⟨a9, c9, rfl⟩, hb9'⟩
   have hb9 := hb2.trans (hb9'.mono hb2.size)
   go_wp2_with fail
   refine hK.out _ _ (by first | exact SK.out _ hb9 | ((try dsimp only); exact SK.out _ hb9)) (fun hHeld => ?_)
   clear hK K
   try simp only [Act.put, pz0, pz1, pz2, pz3, pz4, pz5]
   refine tk 10 ?_
   refine tk 14 ?_
   refine tk 15 ?_
   refine tk 16 ?_
   refine tk 17 ?_
   refine tk 19 ?_
   refine tk 20 ?_
   refine rd 18 fun K hK => ?_
   go_simp
   refine (HST.out X9 (HH.out.below (HW.out.trans (hb9.mono HW.out.size)))).mono ?_; rintro e w' ⟨rfl, rfl⟩
   go_wp2_with fail
   refine hK.out _ _ (by first | exact SK.out _ hb9 | ((try dsimp only); exact SK.out _ hb9)) (fun hHeld => ?_)
   clear hK K
   try simp only [Act.put, pz0, pz1, pz2, pz3, pz4, pz5]
   refine tk 21 ?_
   refine tk 22 ?_
   refine tk 23 ?_
   refine wpAnyH_done (by kernel_rfl) ?_ _
   try simp only [Act.put, pz0, pz1, pz2, pz3, pz4, pz5]
   go_wp2_with fail
   go_ret
   exact ⟨rfl, (HW.out.trans (hb9.mono HW.out.size))⟩
end Go.Proofs.YtdpniceapmikpaaGreat
namespace Go.Proofs.YtdpniceapmikpaaGreat
open Go.RowKit

theorem own_lt {W : World} {B : Nat} {v : Value} {l : List UInt8} (h : BytesIn W B v l) (hl : l ≠ []) : ∀ g, v.ownBlock = some g → g < B ∧ g < W.heap.size := by
 obtain ⟨_, a, cap, rfl, _, h4⟩ := h
 intro g hg
 cases l with
 | nil => exact absurd rfl hl
 | cons c l =>
  obtain ⟨g2, off, rfl, h5, h6⟩ := h4 0 c rfl
  have e : g2 = g := by simpa [Value.ownBlock] using hg
  subst e
  exact ⟨h5, World.block_lt_of_cell? W _ h6⟩
/-- waits whose block no change reaches: asked only where there are some -/
theorem WaitsIn.outL {W W' : World} {F : Nat → Prop} {B : Nat} {v : Value} {l : List WaitD} (h : WaitsIn W B v l) (ho : Out F W W') (hF : ∀ g, v.ownBlock = some g → g < B → ¬ F g) : WaitsIn W' B v l := by
 obtain ⟨h0, h1, a, cap, rfl, h2⟩ := h
 refine ⟨h0, h1, a, cap, rfl, fun i y hi => ?_⟩
 obtain ⟨g, rfl, hg, hr⟩ := h2 i y hi
 exact ⟨g, rfl, hg, fun j u hj => (World.cell?_of_block (a := ⟨g, i * 513 + j, none⟩) (ho.block g (World.block_lt_of_cell? W _ (hr j u hj)) (hF g rfl hg))).trans (hr j u hj)⟩
theorem load_frame' (W : World) (g : Nat) (F : Array Value) (h : Blk W g 28 F) (hi : (Tryz.prog.info? 28).map (·.size) = some F.size) : (loadVar 28 ⟨g, 0, none⟩).run Tryz.prog W = .ok (.agg F) W :=
 run_loadVar_row W g _ _ F _ _ h Tryz.underlying28 rfl hi
theorem frame_fit' {W : World} {B : Nat} {v : Value} {f : FrameD} (h : FrameIn W B v f) : ∃ F : Array Value, v = .agg F ∧ (Tryz.prog.info? 28).map (·.size) = some F.size ∧ F.all (·.oneCell') = true ∧ zeroF.size = F.size := by
 obtain ⟨vo, vb, vs, rfl, ⟨_, _, _, rfl, _⟩, ⟨_, _, _, rfl, _⟩, ⟨_, _, _, rfl, _⟩⟩ := h
 exact ⟨_, rfl, by kernel_rfl, by rw [List.all_toArray]; rfl, rfl⟩
theorem disk_fit {W : World} {B : Nat} {lv wv : Value} {x : DiskD} (h : RDisk W B lv wv (.slice none 0 0) x) (s : Int) : (Tryz.prog.info? 40).map (·.size) = some (#[lv, wv, .int .i64 s, .slice none 0 0] : Array Value).size ∧ (#[lv, wv, .int .i64 s, .slice none 0 0] : Array Value).all (·.oneCell') = true :=
 ⟨size_rdisk _ _ _ _, h.one s⟩
theorem blank_made (w : World) : Calls Tryz.prog 16 #[.agg #[.int .i64 32, .slice none 0 0, .slice none 0 0]] w fun e w' => ∃ D lv B, e = .returned (.tuple #[ptr D.p, .agg #[lv, .slice none 0 0, .int .i64 0, .slice none 0 0], .bool true]) ∧ DiskAt w' D blank32 ∧
   RDisk w' B lv (.slice none 0 0) (.slice none 0 0) blank32 ∧ w.heap.size ≤ B ∧ (∀ i, D.has i → B ≤ i) ∧ Below w.heap.size w w' :=
 made_any 32 (.slice none 0 0) (.slice none 0 0) [] w (BytesIn.nil _ _) (by decide) (by decide)
theorem blank_some : flatL blank32 ≠ [] := by
 intro e
 have h := flatL_len blank_calm.ok
 rw [e] at h
 exact absurd h (by decide)
theorem BytesIn.here {W : World} {B : Nat} {v : Value} {l : List UInt8} (h : BytesIn W B v l) : BytesIn W W.heap.size v l := by
 obtain ⟨h1, a, cap, h2, h3, h4⟩ := h
 refine ⟨h1, a, cap, h2, h3, fun j c hc => ?_⟩
 obtain ⟨g, off, e, hg, hr⟩ := h4 j c hc
 exact ⟨g, off, e, World.block_lt_of_cell? W _ hr, hr⟩
theorem waits_none (W : World) (B : Nat) : WaitsIn W B (.slice none 0 0) [] := ⟨by simp, fun y hy => (by cases hy), none, 0, rfl, fun i y hi => (by simp at hi)⟩
set_option maxRecDepth 100000 in
set_option maxHeartbeats 8000000 in
theorem states_any (aw : Option Addr) (cs : Nat) (st : List UInt8) (ed area : Int) (w : World) (hv : BytesIn w w.heap.size (.slice aw st.length cs) st) (hc : cs ≤ maxLen) (hgo : ∃ x1 no x2 g r, StGo 4 area ⟨ed, [], [], st⟩ blank32 x1 no x2 g r) :
  Calls Tryz.prog 4 #[.slice aw st.length cs, .int .i64 ed, .int .i64 area] w fun e w' => e = .returned (.bool true) ∧ Below w.heap.size w w' := by
 by_cases hbig : (5000 : Int) < (st.length : Int)
 ·clear hv hgo
  go_enter Tryz.func4, Tryz.ntmps4
  go_wp2_with fail
  refine (works_any _).mono ?_; rintro e w2 ⟨rfl, hb2⟩
  go_wp2_with fail
  go_ret
  exact ⟨rfl, hb2⟩
 ·obtain ⟨x1, no, x2, g, r, G⟩ := hgo
  have RW := Lib.hid G.rw_
  have LW := Lib.hid G.w_
  have RR := Lib.hid G.rr_
  have LR := Lib.hid G.r_
  have GS := Lib.hid G.same
  have G2 := Lib.hid (And.intro G.ok2 G.in2)
  have HV := Lib.hid hv
  have hcap : ∀ a c, (∃ x y z, (.agg #[.int .i64 ed, .slice none 0 0, .slice none 0 0, .slice aw st.length cs] : Value) = .agg #[x, y, z, .slice a (⟨ed, [], [], st⟩ : FrameD).state.length c]) → c ≤ maxLen := by
   rintro a c ⟨x, y, z, e⟩
   simp only [Value.agg.injEq, Array.mk.injEq, List.cons.injEq, Value.slice.injEq] at e
   omega
  have HCAP := Lib.hid hcap
  clear G hv hc hcap
  go_enter Tryz.func4, Tryz.ntmps4
  obtain ⟨FV, eFV⟩ : ∃ FV, FV = (#[.int .i64 ed, .slice none 0 0, .slice none 0 0, .slice aw st.length cs] : Array Value) := ⟨_, rfl⟩
  have sFV : (Tryz.prog.info? 28).map (·.size) = some FV.size := by rw [eFV]; kernel_rfl
  have oFV : FV.all (·.oneCell') = true := by rw [eFV, List.all_toArray]; rfl
  have zFV : zeroF.size = FV.size := by rw [eFV]; rfl
  have HFV := Lib.hid eFV
  rw [← eFV] at HCAP
  go_upto_region 5 with fail
  rw [← eFV]
  obtain ⟨W1, eW1⟩ : ∃ W, W = (w.alloc (.cells #[.int .i64 4] 23)).alloc (.cells FV 28) := ⟨_, rfl⟩
  rw [← eW1]
  have p1 : Blk W1 w.heap.size 23 #[.int .i64 4] := by rw [eW1]; exact (Blk.new w _ _).alloc _
  have f1 : Blk W1 (w.heap.size + 1) 28 FV := by rw [eW1]; exact Blk.new' (by simp)
  have b1 : Below w.heap.size w W1 := by rw [eW1]; exact ((Below.refl _ w).alloc (Nat.le_refl _) _).alloc (by simp) _
  have hfr1 : FrameIn W1 W1.heap.size (.agg FV) ⟨ed, [], [], st⟩ := by
   rw [HFV.out]
   exact ⟨_, _, _, rfl, IntsIn.nil _ _, ObjsIn.nil _ _, (HV.out.below b1 (Nat.le_refl _)).mono b1.size⟩
  have P1 := Lib.hid p1
  have F1 := Lib.hid f1
  have B1 := Lib.hid b1
  have FR1 := Lib.hid hfr1
  clear eW1 p1 f1 b1 hfr1 HV zFV oFV eFV
  have hm := blank_made W1
  unfold ptr at hm
  go_wp2_with (refine wpList_build_L rfl 43 _ rfl #[.int .i64 32, .slice none 0 0, .slice none 0 0] (by kernel_rfl) ?_)
  refine hm.mono ?_; rintro e w5 ⟨D, lv, B, rfl, hd5, hr5, hB1, hB2, hb5⟩
  clear hm
  have hlv := own_lt hr5.lasts blank_some
  have hw1 : w.heap.size + 1 < W1.heap.size := F1.out.lt
  have HLV := Lib.hid hlv
  have HDB := Lib.hid hB2
  obtain ⟨DC, eDC⟩ : ∃ V, V = (#[lv, .slice none 0 0, .int .i64 0, .slice none 0 0] : Array Value) := ⟨_, rfl⟩
  obtain ⟨sDC, oDC⟩ := disk_fit hr5 0
  rw [← eDC] at sDC oDC ⊢
  have zDC : zeroD.size = DC.size := by rw [eDC]; rfl
  have HDC := Lib.hid eDC
  clear eDC
  obtain ⟨W6, eW6⟩ : ∃ W, W = w5.alloc (.cells DC 40) := ⟨_, rfl⟩
  have b6 : Below w5.heap.size w5 W6 := by rw [eW6]; exact (Below.refl _ w5).alloc (Nat.le_refl _) _
  have n6 : Blk W6 w5.heap.size 40 DC := by rw [eW6]; exact Blk.new w5 _ _
  go_upto_region 6 with (refine wpList_store_row rfl 40 _ _ rfl w5.heap.size DC rfl rfl 40 _ (heap_alloc_new w5 _) sDC zDC oDC ?_; rw [World.setRow_alloc_new])
  rw [← eW6]
  clear eW6 oDC zDC
  have q : Below W1.heap.size W1 W6 := hb5.trans (b6.mono hb5.size)
  have P6 := Lib.hid (P1.out.below q P1.out.lt)
  have F6 := Lib.hid (F1.out.below q F1.out.lt)
  have B6 := Lib.hid (B1.out.trans (q.mono B1.out.size))
  have FR6 := Lib.hid ((FR1.out.below q (Nat.le_refl _)).mono q.size)
  have D6 := Lib.hid (hd5.below b6)
  have D5 := Lib.hid hd5.has_lt
  have R6 := Lib.hid (show RDisk W6 W6.heap.size lv (.slice none 0 0) (.slice none 0 0) blank32 from ⟨(hr5.lasts.outO (outB (F := fun _ => False) b6) (fun _ _ => id)).here, waits_none _ _, IntsIn.nil _ _⟩)
  have hw56 : w5.heap.size ≤ W6.heap.size := b6.size
  have hw6 := RW.out lv (.slice none 0 0) (.slice none 0 0) (.agg FV) W6 R6.out FR6.out
  have hDCs : (#[lv, .slice none 0 0, .int .i64 blank32.steps, .slice none 0 0] : Array Value) = DC := HDC.out.symm
  rw [hDCs] at hw6
  clear hDCs
  clear hd5 hr5 hB2 hb5 b6 q hlv
  have c1 := P6.out.cell_is 0 rfl
  have f1 := F6.out
  go_wp2_with (first
   | (refine wpList_load_row rfl 40 _ rfl w5.heap.size rfl 40 DC (0, 0) _ n6 Tryz.underlying40 rfl sDC ?_)
   | (refine wpList_load_row rfl 28 _ rfl (w.heap.size + 1) rfl 28 FV (0, 0) _ f1 Tryz.underlying28 rfl sFV ?_))
  refine hw6.mono ?_; rintro e w7 ⟨wv, rfl, hr7, hb7, hw7⟩
  obtain ⟨DN, eDN⟩ : ∃ V, V = (#[lv, wv, .int .i64 x1.steps, .slice none 0 0] : Array Value) := ⟨_, rfl⟩
  obtain ⟨sDN, oDN⟩ := disk_fit hr7 x1.steps
  rw [← eDN] at sDN oDN ⊢
  have zDN : zeroD.size = DN.size := by rw [eDN]; rfl
  have HDN := Lib.hid eDN
  clear eDN hw6 c1 f1 n6
  obtain ⟨W8, eW8⟩ : ∃ W, W = w7.alloc (.cells DN 40) := ⟨_, rfl⟩
  have b8 : Below w7.heap.size w7 W8 := by rw [eW8]; exact (Below.refl _ w7).alloc (Nat.le_refl _) _
  have n8 : Blk W8 w7.heap.size 40 DN := by rw [eW8]; exact Blk.new w7 _ _
  go_upto_region 7 with (refine wpList_store_row rfl 40 _ _ rfl w7.heap.size DN rfl rfl 40 _ (heap_alloc_new w7 _) sDN zDN oDN ?_; rw [World.setRow_alloc_new])
  rw [← eW8]
  clear eW8 oDN zDN
  have q : Below W6.heap.size W6 W8 := hb7.trans (b8.mono hb7.size)
  have P8 := Lib.hid (P6.out.below q P6.out.lt)
  have F8 := Lib.hid (F6.out.below q F6.out.lt)
  have B8 := Lib.hid (B6.out.trans (q.mono B6.out.size))
  have FR8 := Lib.hid ((FR6.out.below q (Nat.le_refl _)).mono q.size)
  have D8 := Lib.hid (D6.out.below q)
  have R8 := Lib.hid ((hr7.below b8 (Nat.le_refl _)).mono b8.size)
  have N8 := Lib.hid n8
  have hw67 : W6.heap.size ≤ w7.heap.size := hb7.size
  have hw78 : w7.heap.size ≤ W8.heap.size := b8.size
  have HW7 := Lib.hid hw7
  have hl8 := LW.out D (.agg FV) W8 D8.out FR8.out HCAP.out
  unfold ptr at hl8
  clear hr7 hb7 b8 q hw7 n8 RW P6 F6 B6 FR6 D6 R6 LW
  have c1 := P8.out.cell_is 0 rfl
  have f1 := F8.out
  go_wp2_with (refine wpList_load_row rfl 28 _ rfl (w.heap.size + 1) rfl 28 FV (0, 0) _ f1 Tryz.underlying28 rfl sFV ?_)
  refine hl8.mono ?_; rintro e w9 ⟨rfl, D', hd9, hs9⟩
  clear hl8 c1 f1
  have hn : ∀ i, w5.heap.size ≤ i → ¬ D.has i := fun i hi hd => by have := D5.out i hd; omega
  have hnp : ¬ D.has w.heap.size := fun hd => by have := HDB.out _ hd; omega
  have n9 := hs9.out.blk N8.out (hn _ (by omega))
  have P9 := Lib.hid (hs9.out.blk P8.out hnp)
  have R9 := Lib.hid (R8.out.outO hs9.out (fun g hg hd => by have := HDB.out _ hd; have := (HLV.out g hg).1; omega) (fun g hg hd => by
   rcases HW7.out g hg with h | h
   ·rw [h] at hg; cases hg
   ·have := D5.out g hd; omega) (fun g hg => by cases hg))
  have B9 := Lib.hid (B8.out.trans (hs9.out.below B8.out.size (fun i hi hd => by have := HDB.out i hd; have := F8.out.lt; omega)))
  have hnp' : ¬ D'.has w.heap.size := hs9.far P8.out.lt hnp
  have N9 := Lib.hid n9
  have HN := Lib.hid hn
  have hr9 := RR.out lv wv (.slice none 0 0) w9 (R9.out.mono (by have := hs9.out.size; omega))
  have hDNs : (#[lv, wv, .int .i64 x1.steps, .slice none 0 0] : Array Value) = DN := HDN.out.symm
  rw [hDNs] at hr9
  have R9' := Lib.hid (R9.out.mono (Nat.le_refl _))
  have D9 := Lib.hid hd9
  have S9 := Lib.hid hs9
  clear hDNs hd9 hs9 n9 hn hnp
  have c1 := P9.out.cell_is 0 rfl
  have n9 := N9.out
  go_wp2_with (refine wpList_load_row rfl 40 _ rfl w7.heap.size rfl 40 DN (0, 0) _ n9 Tryz.underlying40 rfl sDN ?_)
  refine hr9.mono ?_; rintro e w10 ⟨v1, rfl, hf10, hb10⟩
  obtain ⟨V1, rfl, sV1, oV1, zV1⟩ := frame_fit' hf10.in_
  clear hr9 c1 n9
  obtain ⟨DL, eDL⟩ : ∃ V, V = (#[lv, wv, .int .i64 x2.steps, .slice none 0 0] : Array Value) := ⟨_, rfl⟩
  obtain ⟨sDL, oDL⟩ := disk_fit (GS.out _ _ _ _ _ R9.out) x2.steps
  rw [← eDL] at sDL oDL ⊢
  have zDL : zeroD.size = DL.size := by rw [eDL]; rfl
  have HDL := Lib.hid eDL
  clear eDL
  have y15 := (Blk.new w10 40 zeroD).alloc (.cells zeroF 28)
  have y16 := blk_row_far (Blk.new2 w10 (.cells zeroD 40) 28 zeroF) DL (g' := w10.heap.size) (by omega)
  obtain ⟨W11, eW11⟩ : ∃ W, W = (((w10.alloc (.cells zeroD 40)).alloc (.cells zeroF 28)).setRow w10.heap.size DL).setRow (w10.heap.size + 1) V1 := ⟨_, rfl⟩
  have n15 : Blk W11 w10.heap.size 40 DL := by rw [eW11]; exact blk_row_far (y15.row DL) V1 (by omega)
  have n16 : Blk W11 (w10.heap.size + 1) 28 V1 := by rw [eW11]; exact y16.row V1
  have b11 : Below w10.heap.size w10 W11 := by rw [eW11]; exact below_row (below_row (((Below.refl _ w10).alloc (Nat.le_refl _) _).alloc (by simp) _) DL (Nat.le_refl _)) V1 (by omega)
  go_upto_region 9 with (first
   | (refine wpList_store_row rfl 40 _ _ rfl w10.heap.size DL rfl rfl 40 _ y15 sDL zDL oDL ?_)
   | (refine wpList_store_row rfl 28 _ _ rfl (w10.heap.size + 1) V1 rfl rfl 28 _ y16 sV1 zV1 oV1 ?_))
  rw [← eW11]
  clear eW11 y15 y16 oDL zDL oV1 zV1
  have q : Below w9.heap.size w9 W11 := hb10.trans (b11.mono hb10.size)
  have P11 := Lib.hid (P9.out.below q P9.out.lt)
  have B11 := Lib.hid (B9.out.trans (q.mono B9.out.size))
  have D11 := Lib.hid (D9.out.below q)
  have R11 := Lib.hid (R9.out.below q (by have := S9.out.out.size; omega))
  have N15 := Lib.hid n15
  have N16 := Lib.hid n16
  have HF10 := Lib.hid hf10
  have HB11 := Lib.hid b11
  have hs910 : w9.heap.size ≤ w10.heap.size := hb10.size
  have hlr := LR.out D' W11 D11.out
  rw [S9.out.same] at hlr
  unfold ptr at hlr
  clear q hf10 b11 hb10 n15 n16 P9 B9 LR RR
  have c1 := P11.out.cell_is 0 rfl
  go_wp2_with fail
  refine hlr.mono ?_; rintro e w12 ⟨v2, rfl, hf12, hd12, hs12⟩
  obtain ⟨V2, rfl, sV2, oV2, zV2⟩ := frame_fit' hf12.in_
  clear hlr c1
  obtain ⟨W13, eW13⟩ : ∃ W, W = w12.alloc (.cells V2 28) := ⟨_, rfl⟩
  have b13 : Below w12.heap.size w12 W13 := by rw [eW13]; exact (Below.refl _ w12).alloc (Nat.le_refl _) _
  have n18 : Blk W13 w12.heap.size 28 V2 := by rw [eW13]; exact Blk.new w12 _ _
  go_upto_region 10 with (refine wpList_store_row rfl 28 _ _ rfl w12.heap.size V2 rfl rfl 28 _ (heap_alloc_new w12 _) sV2 zV2 oV2 ?_; rw [World.setRow_alloc_new])
  rw [← eW13]
  clear eW13 oV2 zV2
  have hlt9 : ∀ i, w9.heap.size ≤ i → ¬ D'.has i := fun i hi hd => by have := D9.out.has_lt i hd; omega
  have n15 := (hs12.out.blk N15.out (hlt9 _ (by omega))).below b13 (hs12.out.blk N15.out (hlt9 _ (by omega))).lt
  have n16 := (hs12.out.blk N16.out (hlt9 _ (by omega))).below b13 (hs12.out.blk N16.out (hlt9 _ (by omega))).lt
  have ho : Out D'.has w10 W13 := ((outB (F := D'.has) HB11.out).trans hs12.out (fun _ _ h => h)).trans (G := fun _ => False) (outB b13) (fun _ _ => False.elim)
  have hg1 := (HF10.out D'.has W13 ho (fun i h1 _ => hlt9 i h1)).mono ho.size
  have hg2 := (hf12.in_.below b13 (Nat.le_refl _)).mono b13.size
  have hd13 := hd12.below b13
  have hmore : ∀ i, D'.has i → D.has i ∨ W8.heap.size ≤ i := S9.out.new_
  have r12 : RDisk w12 W8.heap.size lv wv (.slice none 0 0) x1 := ⟨R11.out.lasts.outO hs12.out (fun g hg hd => by
   have h1 := HLV.out g hg
   rcases hmore g hd with h | h
   ·have := HDB.out _ h; omega
   ·omega), R11.out.waits.outL hs12.out (fun g hg hgl hd => by
   rcases HW7.out g hg with h | h
   ·rw [h] at hg; cases hg
   ·rcases hmore g hd with h2 | h2
    ·have := D5.out g h2; omega
    ·omega), R11.out.fails.outO hs12.out (fun g hg => by cases hg)⟩
  have hsz : W8.heap.size ≤ w12.heap.size := by have := S9.out.out.size; have := HB11.out.size; have := hs12.out.size; omega
  have hr13 := GS.out _ _ _ _ _ (((r12.mono hsz).below b13 (Nat.le_refl _)).mono b13.size)
  have hDLs : (#[lv, wv, .int .i64 x2.steps, .slice none 0 0] : Array Value) = DL := HDL.out.symm
  have hst := fun (W : World) (hb : Below W13.heap.size W13 W) => stands_any D' x2 lv wv (.slice none 0 0) W (hd13.below hb) ((hr13.below hb (Nat.le_refl _)).mono hb.size) G2.out.1 G2.out.2
  rw [hDLs, S9.out.same] at hst
  unfold ptr at hst
  have HST := Lib.hid hst
  have hB13 : Below w.heap.size w W13 := (B11.out.trans (hs12.out.below B11.out.size (fun i hi hd => by
   rcases hmore i hd with h | h
   ·have := HDB.out i h; omega
   ·have := F8.out.lt; omega))).trans (b13.mono (by have := F8.out.lt; omega))
  have hsa := rsame_any g g (.agg V1) (.agg V2) W13 hg1 hg2
  rw [(sameB_iff g g).2 rfl] at hsa
  have l16 := load_frame' _ _ _ n16 sV1
  have l18 := load_frame' _ _ _ n18 sV2
  have N15' := Lib.hid n15
  have HB13 := Lib.hid hB13
  clear hDLs hst hr13 r12 hd13 hg1 hg2 ho n15 n16 n18 b13 hmore hlt9 hB13
  go_wp2_with fail
  refine (num_any _ _).mono ?_; rintro e wN ⟨rfl, rfl⟩
  go_wp2_with fail
  refine (num_any _ _).mono ?_; rintro e wN ⟨rfl, rfl⟩
  go_wp2_with (first
   | (refine wpList_load_midG rfl 28 _ rfl (w10.heap.size + 1) 0 rfl V1 l16 ?_)
   | (refine wpList_load_midG rfl 28 _ rfl w12.heap.size 0 rfl V2 l18 ?_))
  refine hsa.mono ?_; rintro e w14 ⟨rfl, hb14⟩
  have n15 := N15'.out.below hb14 N15'.out.lt
  have l15 : (loadVar 40 ⟨w10.heap.size, 0, none⟩).run Tryz.prog w14 = .ok (.agg DL) w14 := run_loadVar_row w14 w10.heap.size _ _ DL (0, 0) _ n15 Tryz.underlying40 rfl sDL
  have hst := HST.out w14 hb14
  have HB14 := Lib.hid (HB13.out.trans (hb14.mono HB13.out.size))
  clear hb14 l16 l18 hsa n15
  go_wp2_with (refine wpList_load_midG rfl 40 _ rfl w10.heap.size 0 rfl DL l15 ?_)
  refine hst.mono ?_; rintro e w15 ⟨rfl, hb15⟩
  have HB15 := Lib.hid (HB14.out.trans (hb15.mono HB14.out.size))
  clear hb15 hst l15
  go_wp2_with fail
  refine (works_any _).mono ?_; rintro e w16 ⟨rfl, hb16⟩
  go_wp2_with fail
  go_ret
  exact ⟨rfl, HB15.out.trans (hb16.mono HB15.out.size)⟩
end Go.Proofs.YtdpniceapmikpaaGreat
