/-
  A drawn region: two operations come up, in whatever order, and the rest is walked once.
  The program's cache: fetch.
  The program's cache: Get.
-/
import Derived.Test.YtemcgfncahccgaaGreatCh19
import Derived.Test.YtemcgfncahccgaaGreatCh24
import Derived.Test.YtemcgfncahccgaaGreatCh25
import Derived.Test.YtemcgfncahccgaaGreatCh30
set_option linter.unusedVariables false
set_option linter.unusedSimpArgs false
namespace Go.Proofs.YtemcgfncahccgaaGreat
open Go.RowKit

section
variable {P : Program} {ops : Array Oper} {Q : Exit → Act → World → Prop} {md : Region.Mode} {S J : World → Prop} {k : Nat}
/-- numbers i and j come up: what each leaves (Pi, Pj), what both leave (R) -/
theorem jm (i j : Nat) (Pi Pj : Value → World → Prop) (R : Value → Value → World → Prop) {fuel : Nat} {listed : Array Bool} {a : Act} {b : Value → Value → Act} {w : World} {oi oj : Oper}
  (hSi : ∀ v w, Pi v w → S w) (hSj : ∀ v w, Pj v w → S w) (hSr : ∀ v v' w, R v v' w → S w)
  (h1 : ∀ K' : Act → World → Prop, Shut (∀ v w', Pi v w' → K' (a.put oi.dst v) w') → if Region.wanted oi (yielded ops a.tmps) = true then Oper.wp P oi a w K' Q else K' (a.put oi.dst undef) w)
  (h2 : ∀ v w1, Pi v w1 → ∀ K' : Act → World → Prop, Shut (∀ v' w', R v v' w' → K' ((a.put oi.dst v).put oj.dst v') w') → if Region.wanted oj (yielded ops (a.put oi.dst v).tmps) = true then Oper.wp P oj (a.put oi.dst v) w1 K' Q else K' ((a.put oi.dst v).put oj.dst undef) w1)
  (h3 : ∀ K' : Act → World → Prop, Shut (∀ v w', Pj v w' → K' (a.put oj.dst v) w') → if Region.wanted oj (yielded ops a.tmps) = true then Oper.wp P oj a w K' Q else K' (a.put oj.dst undef) w)
  (h4 : ∀ v' w1, Pj v' w1 → ∀ K' : Act → World → Prop, Shut (∀ v w', R v v' w' → K' ((a.put oj.dst v').put oi.dst v) w') → if Region.wanted oi (yielded ops (a.put oj.dst v').tmps) = true then Oper.wp P oi (a.put oj.dst v') w1 K' Q else K' ((a.put oj.dst v').put oi.dst undef) w1)
  (hfin : ∀ v v' w', R v v' w' → S w' → wpAnyJ P md ops Q S J k fuel ((listed.setIfInBounds i true).setIfInBounds j true) (b v v') w')
  (hJ : ∀ w, J w := by exact fun _ => trivial)
  (ho : ops[i]? = some oi := by rfl) (ho2 : ops[j]? = some oj := by rfl) (hr : Region.ready md ops listed = [i, j] := by kernel_rfl) (hr1 : Region.ready md ops (listed.setIfInBounds i true) = [j] := by kernel_rfl) (hr2 : Region.ready md ops (listed.setIfInBounds j true) = [i] := by kernel_rfl)
  (hij : i ≠ j := by decide) (hd : ∀ d, oi.dst = some d → oj.dst ≠ some d := by (intro d h; cases h; decide)) (hb : ∀ v v', (a.put oi.dst v).put oj.dst v' = b v v' := by (intro v v'; simp only [Act.put, Array.toArray_toList, pz0, pz1, pz2, pz3, pz4, pz5]; rfl)) : wpAnyJ P md ops Q S J k (fuel + 1 + 1) listed a w := by
 have key1 : ∀ v w1, Pi v w1 → wpAnyJ P md ops Q S J k (fuel + 1) (listed.setIfInBounds i true) (a.put oi.dst v) w1 := fun v w1 hP =>
  ⟨fun h0 => (by rw [hr1] at h0; cases h0), fun j' hj => by
   rw [hr1] at hj
   obtain rfl := List.mem_singleton.1 hj
   exact wpOp_step ho2 fun K' hK => h2 v w1 hP K' fun v' w' hR => hK _ _ ⟨⟨hSr v v' w' hR, fun _ => hJ _⟩, by rw [hb]; exact hfin v v' w' hR (hSr v v' w' hR)⟩⟩
 have key2 : ∀ v' w1, Pj v' w1 → wpAnyJ P md ops Q S J k (fuel + 1) (listed.setIfInBounds j true) (a.put oj.dst v') w1 := fun v' w1 hP =>
  ⟨fun h0 => (by rw [hr2] at h0; cases h0), fun i' hi => by
   rw [hr2] at hi
   obtain rfl := List.mem_singleton.1 hi
   refine wpOp_step ho fun K' hK => h4 v' w1 hP K' fun v w' hR => hK _ _ ⟨⟨hSr v v' w' hR, fun _ => hJ _⟩, ?_⟩
   have h := hfin v v' w' hR (hSr v v' w' hR)
   rw [← hb, Act.put_comm a v v' hd, Array.setIfInBounds_comm _ _ hij] at h
   exact h⟩
 refine ⟨fun h0 => (by rw [hr] at h0; cases h0), fun j' hj => ?_⟩
 rw [hr] at hj
 rcases List.mem_cons.1 hj with rfl | hj
 ·exact wpOp_step ho fun K' hK => h1 K' fun v w' hP => hK _ _ ⟨⟨hSi v w' hP, fun _ => hJ _⟩, key1 v w' hP⟩
 ·obtain rfl := List.mem_singleton.1 hj
  exact wpOp_step ho2 fun K' hK => h3 K' fun v w' hP => hK _ _ ⟨⟨hSj v w' hP, fun _ => hJ _⟩, key2 v w' hP⟩
/-- some ways through a part of a region come together -/
theorem jj1 {α : Type} (b : α → Act) (R : α → World → Prop) {fuel fuel0 : Nat} {listed L0 : Array Bool} {a : Act} {w : World}
  (hall : (∀ x w' L a', R x w' → S w' → L = L0 → a' = b x → wpAnyJ P md ops Q S J k fuel0 L a' w') → wpAnyJ P md ops Q S J k fuel listed a w)
  (hfin : ∀ x w', R x w' → S w' → wpAnyJ P md ops Q S J k fuel0 L0 (b x) w') : wpAnyJ P md ops Q S J k fuel listed a w :=
 hall fun x w' L a' h1 h2 h3 h4 => by subst h3 h4; exact hfin x w' h1 h2
end
end Go.Proofs.YtemcgfncahccgaaGreat
namespace Go.Proofs.YtemcgfncahccgaaGreat
open Go.RowKit Go.Shelf

theorem Out.cell {F : Nat → Prop} {w w' : World} (h : Out F w w') {g i : Nat} {v : Value} (hc : w.cell? ⟨g, i, none⟩ = some v) (hF : ¬ F g) : w'.cell? ⟨g, i, none⟩ = some v :=
 (heap_cell (h.block g (World.block_lt_of_cell? w _ hc) hF)).trans hc
theorem Out.sub {F G : Nat → Prop} {w w' : World} (h : Out F w w') (hFG : ∀ i, F i → G i) : Out G w w' := ⟨h.os, h.tape, h.output, h.size, fun i hi hn => h.block i hi (fun hf => hn (hFG i hf))⟩
/-- what a fetch answers -/
def fetE (x : DiskD) (p : Int) (n : Nat) : Int := if x.err p = 0 then (if getE (x.read p) n = 0 then 0 else 270) else x.err p
def fetO (x : DiskD) (p : Int) (n : Nat) : ObjD := getO (x.read p) n
theorem read_len {x : DiskD} (hx : x.ok) (n : Int) : (x.read n).length = 512 := by
 unfold DiskD.read
 split
 ·exact x.reads_len hx.sound n
 ·exact List.length_replicate
theorem after_ok {x : DiskD} (hx : x.ok) (hs : x.steps < 1000000000000) (n : Int) : (x.after n).ok := by
 obtain ⟨o1, o2, o3, o4, o5, o6, o7⟩ := hx
 unfold DiskD.after
 split
 ·exact ⟨o1, o2, o3, o4, o5, o6, o7⟩
 ·exact ⟨o1, o2, o3, o4, by show (0 : Int) ≤ x.steps + 1; omega, by show x.steps + 1 ≤ _; omega, o7⟩
/-- what a fetch leaves -/
def FetPost (C : CacheP) (room : Int) (ps us : List Int) (f : Int → Option ItemD) (D : DiskP) (x2 : DiskD) (fe : Int) (o : ObjD) (k : Nat) (OB : Nat) (old : Array Value) (w : World) (e : Ending) (w' : World) : Prop :=
 e = .returned (.int .i64 fe) ∧ DiskAt w' D x2 ∧ Blk w' OB 47 (if fe = 0 then o.cells.toArray else old) ∧
   ∃ C', CacheRaw w' C' room ps (if fe = 0 then useF room f us k ⟨k, o, false⟩ else f) (if fe = 0 then useU room f us k ⟨k, o, false⟩ else us) ∧
    Out (fun i => D.has i ∨ C.own i ∨ i = OB) w w' ∧ (C'.g = C.g ∧ C'.dp = C.dp ∧ C'.r = C.r ∧ C'.pv = C.pv) ∧ ∀ i, C'.has i → C.has i ∨ w.heap.size ≤ i
set_option maxRecDepth 100000 in
set_option maxHeartbeats 16000000 in
theorem fetch_any (C : CacheP) (room : Int) (ps us : List Int) (f : Int → Option ItemD) (D : DiskP) (x : DiskD) (k : Nat) (p : Int) (OB CB IB : Nat) (old : Array Value) (w : World) (h : CacheRaw w C room ps f us) (hD : DiskAt w D x) (hx : x.ok) (hp : C.dp = D.p) (hk : ps[k]? = some p)
  (hl : ps.length ≤ 1000000) (hu : us.length ≤ 100000) (hf : ∀ m ∈ us, f m ≠ none) (hroom : 0 ≤ room) (hsep : ∀ i, D.has i → ¬ C.has i)
  (hO : Blk w OB 47 old) (hold : old.size = 163) (hC : Blk w CB 35 #[ptr C.g]) (hI : Blk w IB 3 #[.int .i64 (k : Int)]) (hnO : ¬ C.has OB) (hnD : ¬ D.has OB ∧ ¬ D.has CB ∧ ¬ D.has IB) :
  Calls Tryz.prog 47 #[ptr C.g, .int .i64 (k : Int), .func (.func 48) #[] #[ptr OB, ptr CB, ptr IB]] w (FetPost C room ps us f D (x.after p) (fetE x p ps.length) (fetO x p ps.length) k OB old w) := by
 have hkl : k < ps.length := (List.getElem?_eq_some_iff.1 hk).1
 obtain ⟨b, eb⟩ : ∃ b, b = x.read p := ⟨_, rfl⟩
 obtain ⟨er, eer⟩ : ∃ er, er = x.err p := ⟨_, rfl⟩
 obtain ⟨x2, ex2⟩ : ∃ x2, x2 = x.after p := ⟨_, rfl⟩
 have hbl : b.length = 512 := by rw [eb]; exact read_len hx p
 have hrd := fun X hX => dread_any D x p X hX hx
 rw [← eb, ← eer, ← ex2] at hrd
 have HRD := Lib.hid hrd
 have hE : fetE x p ps.length = if er = 0 then (if getE b ps.length = 0 then 0 else 270) else er := by rw [eer, eb]; rfl
 have hOo : fetO x p ps.length = getO b ps.length := by rw [eb]; rfl
 rw [hE, hOo, ← ex2]
 have HCG := Lib.hid (fun X => cget_any b hbl (ps.length : Int) X)
 have hgok : (getO b ps.length).ok := getO_ok b hbl _
 obtain ⟨o, eo⟩ : ∃ o, o = getO b ps.length := ⟨_, rfl⟩
 obtain ⟨ge, ege⟩ : ∃ ge, ge = getE b ps.length := ⟨_, rfl⟩
 rw [← eo] at hgok HCG ⊢
 rw [← ege] at HCG ⊢
 obtain ⟨fe, efe⟩ : ∃ fe : Int, fe = if er = 0 then (if ge = 0 then 0 else 270) else er := ⟨_, rfl⟩
 rw [← efe]
 have HFE := Lib.hid efe
 have HOK := Lib.hid hgok
 have HBL := Lib.hid hbl
 have hin := ownsRow_ints h.places hl
 have c0 := h.blk.cell_is 0 rfl
 have c2 := h.blk.cell_is 2 rfl
 have hCg : ¬ D.has C.g := fun hd => hsep _ hd (.inl (.inl rfl))
 obtain ⟨a, cap, ev⟩ := slice_form h.places
 have hpv : ∀ g, C.pv.ownBlock = some g → ¬ D.has g := fun g hg hd => hsep g hd (.inl (.inr (.inr hg)))
 have EV := Lib.hid ev
 rw [ev] at c2 hin
 obtain ⟨g, off, rfl, hg, hc⟩ := hin.at_ hk
 have hgD : ¬ D.has g := hpv g (by rw [ev]; rfl)
 have hk1 : (k : Int) < (ps.length : Int) := by omega
 have hk0 : (0 : Int) ≤ (k : Int) := by omega
 have HH := Lib.hid h
 have HD := Lib.hid hD
 have HSEP := Lib.hid hsep
 have HO := Lib.hid hO
 have HC := Lib.hid hC
 have HI := Lib.hid hI
 rw [hp] at c0
 have HP := Lib.hid hp
 have HIX := Lib.hid hkl
 clear hrd hE hOo hgok hbl eb eer ex2 h hD hin ev hpv hk hsep hO hC hI hkl eo ege hp efe
 unfold ptr at *
 go_enter Tryz.func47, Tryz.ntmps47
 go_upto_region 1 with fail
 refine jb (fun X => Out (fun i => D.has i) w X) (fun _ => True) 100 (outB (Below.refl _ _).drew) trivial fun hHeld hJ => ?_
 refine jk false 0 ?_
 refine jk false 1 ?_
 refine jk false 2 ?_
 refine jk false 3 ?_ (hy := by intro X hX _; have hc := hX.cell c0 hCg; go_simp; try with_reducible rfl)
 refine jk false 4 ?_
 refine jk false 5 ?_
 refine jk false 6 ?_
 refine jk false 7 ?_ (hy := by intro X hX _; have hc := hX.cell c2 hCg; go_simp; try with_reducible rfl)
 refine jk false 8 ?_
 refine jk false 9 ?_
 refine jk false 10 ?_ (hy := by intro X hX _; have hc := hX.cell hc hgD; go_simp; try with_reducible rfl)
 refine' jj1 (_ : Nat → Act) (fun G Z => Blk Z G 84 (sector0.map vu8).toArray ∧ w.heap.size ≤ G ∧ DiskAt Z D x2) ?_ ?_
 rotate_left 3
 ·skip
  intro hF
  refine jr2 11 15 (fun K hK => ?_) (fun K hK => ?_)
  ·go_simp
   refine (HRD.out w.drew HD.out.drew).mono ?_; rintro r w2 ⟨rfl, hd2, hs2⟩
   have O2 : Out (fun i => D.has i) w w2 := (outB (Below.refl w.heap.size w).drew : Out (fun i => D.has i) w w.drew).trans hs2.out (fun _ _ h => h)
   clear hs2
   unfold sectorV
   go_wp2_with fail
   refine hK.out _ _ ⟨O2, fun _ => trivial⟩ ?_
   clear hK K
   have hHeld := O2
   refine jk false 12 ?_
   refine jk false 13 ?_
   refine jk false 14 ?_
   refine jr 15 fun K hK => ?_
   go_simp
   have hz := (Below.refl w2.heap.size w2).alloc (Nat.le_refl _) (.cells Tryz.zeroCells84 84)
   have bz : Blk (w2.alloc (.cells Tryz.zeroCells84 84)) w2.heap.size 84 (sector0.map vu8).toArray := by rw [← zero111]; exact Blk.new _ _ _
   have O3 : Out (fun i => D.has i) w (w2.alloc (.cells Tryz.zeroCells84 84)) := O2.trans (G := fun _ => False) (outB hz) (fun _ _ h => h.elim)
   have hd3 := hd2.below hz
   have hl := O2.size
   obtain ⟨Z, eZ⟩ : ∃ Z, Z = w2.alloc (.cells Tryz.zeroCells84 84) := ⟨_, rfl⟩
   rw [← eZ] at bz O3 hd3 ⊢
   clear eZ hz
   obtain ⟨G, eG⟩ : ∃ G, G = w2.heap.size := ⟨_, rfl⟩
   rw [← eG] at bz hl ⊢
   clear eG
   refine hK.out _ _ ⟨O3, fun _ => trivial⟩ ?_
   refine hF G _ _ _ ?_ ?_ ?_ ?_
   ·exact ⟨bz, hl, hd3⟩
   ·exact O3
   ·rfl
   ·with_reducible rfl
  ·go_simp
   have hz : Below w.heap.size w (w.alloc (.cells Tryz.zeroCells84 84)).drew := ((Below.refl w.heap.size w).alloc (Nat.le_refl _) _).drew
   have bz : Blk (w.alloc (.cells Tryz.zeroCells84 84)).drew w.heap.size 84 (sector0.map vu8).toArray := by rw [← zero111]; exact (Blk.new w _ _).drew
   obtain ⟨Z, eZ⟩ : ∃ Z, Z = (w.alloc (.cells Tryz.zeroCells84 84)).drew := ⟨_, rfl⟩
   rw [← eZ] at bz hz ⊢
   clear eZ
   obtain ⟨G, eG⟩ : ∃ G, G = w.heap.size := ⟨_, rfl⟩
   have hl : w.heap.size ≤ G := by omega
   rw [← eG] at bz ⊢
   clear eG
   refine hK.out _ _ ⟨outB hz, fun _ => trivial⟩ ?_
   clear hK K
   have hHeld : Out (fun i => D.has i) w Z := outB hz
   refine jr 11 fun K hK => ?_
   go_simp
   refine (HRD.out Z (HD.out.below hz)).mono ?_; rintro r w2 ⟨rfl, hd2, hs2⟩
   have O2 : Out (fun i => D.has i) w w2 := hHeld.trans hs2.out (fun _ _ h => h)
   have bz2 := hs2.out.blk bz (fun hd => by have := HD.out.has_lt G hd; omega)
   clear hs2
   unfold sectorV
   go_wp2_with fail
   refine hK.out _ _ ⟨O2, fun _ => trivial⟩ ?_
   clear hK K
   have hHeld := O2
   refine jk false 12 ?_
   refine jk false 13 ?_
   refine jk false 14 ?_
   refine hF G _ _ _ ?_ ?_ ?_ ?_
   ·exact ⟨bz2, hl, hd2⟩
   ·exact O2
   ·kernel_rfl
   ·with_reducible rfl
 rintro G Z ⟨bz, hGl, hdZ⟩ hHeld2
 have hoZ := hHeld2
 clear hHeld
 have hHeld := hHeld2
 have HDZ := Lib.hid hdZ
 clear hdZ hHeld2
 have hGD : ¬ D.has G := fun hd => by have := HD.out.has_lt G hd; omega
 refine jr 16 fun K hK => ?_
 rw [if_pos (show Region.wanted _ _ = true from rfl)]
 refine wp_store_row 84 _ _ rfl G (b.map vu8).toArray rfl rfl 84 _ bz (sector_size _ HBL.out) (sector_eq _ _ List.length_replicate HBL.out) (sector_all _) ?_
 have bG := bz.row (b.map vu8).toArray
 have O34 : Out (fun i => i = G) Z (Z.setRow G (b.map vu8).toArray) := out_row _ rfl
 have dX := HDZ.out.out O34 (fun i hi e => hGD (e ▸ hi))
 have oX : Out (fun i => D.has i) w (Z.setRow G (b.map vu8).toArray) := hoZ.trans O34 (fun i hi e => by omega)
 refine hK.out _ _ ⟨oX, fun _ => trivial⟩ ?_
 clear hK K hHeld bz O34 HDZ hoZ
 obtain ⟨X, eX⟩ : ∃ X, X = Z.setRow G (b.map vu8).toArray := ⟨_, rfl⟩
 rw [← eX] at bG dX oX ⊢
 clear eX
 have hHeld := oX
 refine jk false 17 ?_
 refine wpAnyJ_done (by kernel_rfl) ?_ _
 have HDX := Lib.hid dX
 have HX := Lib.hid (HH.out.out oX (fun i hi hd => HSEP.out i hd hi))
 have KO := Lib.hid (oX.blk HO.out hnD.1)
 have KC := Lib.hid (oX.blk HC.out hnD.2.1)
 have KI := Lib.hid (oX.blk HI.out hnD.2.2)
 have d2 := HX.out.blk.cell_is 2 rfl
 rw [EV.out] at d2
 have hgX := HX.out.blk.lt
 have hnG : ¬ C.has G := fun hh => by have := HH.out.has_lt G hh; omega
 clear dX HRD HD HO HC HI c0 c2 hc
 by_cases her : er = 0
 ·subst her
  obtain ⟨cs, ecs⟩ : ∃ cs, cs = o.cells.toArray := ⟨_, rfl⟩
  have scs := obj_info o HOK.out
  have hone := obj_ones o
  have hsz0 := obj_size0 o HOK.out
  have HG1 := Lib.hid (fun Y (hY : CacheRaw Y C room ps f us) (k1 : Blk Y OB 47 old) (k2 : Blk Y CB 35 #[ptr C.g]) (k3 : Blk Y IB 3 #[.int .i64 (k : Int)]) => get1_any C room ps us f k o OB CB IB old Y hY HOK.out hu hf hroom k1 hold k2 k3 hnO)
  unfold ptr at HG1
  rw [← ecs] at HCG scs hone hsz0 HG1
  have HECS := Lib.hid ecs
  clear ecs
  go_upto_region 4 with fail
  refine' wp_merge (_ : Nat → Act) (fun G2 Y => Blk Y G2 47 cs ∧ Below X.heap.size X Y ∧ X.heap.size ≤ G2) ?_ ?_
  rotate_left 1
  ·refine jb (fun Y => Below X.heap.size X Y) (fun _ => True) 100 (Below.refl _ _).drew trivial fun hHeld hJ => ?_
   refine jy false 0 rfl (yieldsIf_load_mid (by rfl) 84 _ rfl G 0 rfl (b.map vu8) _ (fun w' h => by have := blk_range (bG.below h.1 bG.lt); simpa using this) Tryz.underlying84 rfl (by have h := sector_size b HBL.out; rwa [List.size_toArray] at h)) ?_
   refine jk false 1 ?_
   refine jk false 2 ?_
   refine jk false 3 ?_
   refine jk false 4 ?_ (hy := by intro Y hY _; have hc := (Below.cell hY (p := ⟨C.g, 2, none⟩) hgX).trans d2; go_simp; try with_reducible rfl)
   refine jk false 5 ?_
   refine jr2 6 10 (fun K hK => ?_) (fun K hK => ?_)
   ·go_simp
    refine (HCG.out X.drew).mono ?_; rintro r Y ⟨rfl, hb⟩
    have hbY : Below X.heap.size X Y := (Below.refl _ X).drew.trans hb
    dsimp only
    refine hK.out _ _ ⟨hbY, fun _ => trivial⟩ ?_
    clear hK K hHeld hb
    have hHeld := hbY
    refine jk false 7 ?_
    refine jk false 8 ?_
    refine jk false 9 ?_
    refine jr 10 fun K hK => ?_
    go_simp
    have hz := hbY.alloc hbY.size (.cells Tryz.zeroCells47 47)
    have bz : Blk (Y.alloc (.cells Tryz.zeroCells47 47)) Y.heap.size 47 objZ.cells.toArray := by rw [← zeroObj]; exact Blk.new _ _ _
    have hl := hbY.size
    obtain ⟨Z, eZ⟩ : ∃ Z, Z = Y.alloc (.cells Tryz.zeroCells47 47) := ⟨_, rfl⟩
    rw [← eZ] at bz hz ⊢
    clear eZ
    obtain ⟨G2, eG⟩ : ∃ G, G = Y.heap.size := ⟨_, rfl⟩
    rw [← eG] at bz hl ⊢
    clear eG hHeld
    have hHeld := hz
    refine hK.out _ _ ⟨hz, fun _ => trivial⟩ ?_
    clear hK K
    refine jr 11 fun K hK => ?_
    rw [if_pos (show Region.wanted _ _ = true from rfl)]
    refine wp_store_row 47 _ _ rfl G2 cs rfl rfl 47 _ bz scs hsz0 hone ?_
    have bz4 := Blk.row bz cs
    have hz4 := below_row hz cs (g := G2) hl
    refine hK.out _ _ ⟨hz4, fun _ => trivial⟩ ?_
    clear hK K
    have hHeld := hz4
    refine jk false 12 ?_
    refine wpAnyJ_done (by kernel_rfl) ?_ _
    refine ⟨G2, ?_, bz4, hz4, hl⟩
    with_reducible rfl
   ·go_simp
    have hz : Below X.heap.size X (X.alloc (.cells Tryz.zeroCells47 47)).drew := ((Below.refl X.heap.size X).alloc (Nat.le_refl _) _).drew
    have bz : Blk (X.alloc (.cells Tryz.zeroCells47 47)).drew X.heap.size 47 objZ.cells.toArray := by rw [← zeroObj]; exact (Blk.new X _ _).drew
    obtain ⟨Z, eZ⟩ : ∃ Z, Z = (X.alloc (.cells Tryz.zeroCells47 47)).drew := ⟨_, rfl⟩
    rw [← eZ] at bz hz ⊢
    clear eZ
    obtain ⟨G2, eG⟩ : ∃ G, G = X.heap.size := ⟨_, rfl⟩
    have hl : X.heap.size ≤ G2 := by omega
    rw [← eG] at bz ⊢
    clear eG hHeld
    refine hK.out _ _ ⟨hz, fun _ => trivial⟩ ?_
    clear hK K
    have hHeld := hz
    refine jr 6 fun K hK => ?_
    go_simp
    refine (HCG.out Z).mono ?_; rintro r Y ⟨rfl, hb⟩
    have hbY : Below X.heap.size X Y := hz.trans (hb.mono hz.size)
    have bz2 := bz.below hb bz.lt
    clear hb bz
    dsimp only
    refine hK.out _ _ ⟨hbY, fun _ => trivial⟩ ?_
    clear hK K hHeld
    have hHeld := hbY
    refine jk false 7 ?_
    refine jk false 8 ?_
    refine jk false 9 ?_
    refine jr 11 fun K hK => ?_
    rw [if_pos (show Region.wanted _ _ = true from rfl)]
    refine wp_store_row 47 _ _ rfl G2 cs rfl rfl 47 _ bz2 scs hsz0 hone ?_
    have bz4 := Blk.row bz2 cs
    have hz4 := below_row hbY cs (g := G2) hl
    refine hK.out _ _ ⟨hz4, fun _ => trivial⟩ ?_
    clear hK K
    have hHeld := hz4
    refine jk false 12 ?_
    refine wpAnyJ_done (by kernel_rfl) ?_ _
    refine ⟨G2, ?_, bz4, hz4, hl⟩
    with_reducible rfl
  rintro G2 Y ⟨bG2, hbY, hl2⟩
  have HDY := Lib.hid (HDX.out.below hbY)
  have HY := Lib.hid (HX.out.below hbY)
  have YO := Lib.hid (KO.out.below hbY KO.out.lt)
  have YC := Lib.hid (KC.out.below hbY KC.out.lt)
  have YI := Lib.hid (KI.out.below hbY KI.out.lt)
  have oY : Out (fun i => D.has i) w Y := oX.trans (G := fun _ => False) (outB hbY) (fun _ _ h => h.elim)
  clear HDX HX KO KC KI oX bG d2 hbY
  by_cases hge : ge = 0
  ·subst hge
   have hfe : fe = 0 := HFE.out
   have HGY := Lib.hid (HG1.out Y HY.out YO.out YC.out YI.out)
   clear HG1 HCG
   go_wp2_with (refine wpList_load_row rfl 47 _ rfl G2 rfl 47 cs (0, 0) _ bG2 Tryz.underlying47 rfl scs ?_)
   refine HGY.out.mono ?_; rintro r w3 ⟨rfl, hO3, C3, h3, o3, s3, n3⟩
   have R3 := Lib.hid (And.intro hO3 (And.intro h3 (And.intro o3 (And.intro s3 n3))))
   clear hO3 h3 o3 s3 n3
   go_wp2_with fail
   go_ret
   obtain ⟨hO3, h3, o3, s3, n3⟩ := R3.out
   subst hfe
   refine ⟨rfl, HDY.out.out o3 (fun i hi => by rintro (h | rfl); exact HSEP.out i hi (.inl h); exact hnD.1 hi), by rw [if_pos rfl, ← HECS.out]; exact hO3, C3, by rw [if_pos rfl, if_pos rfl]; exact h3, oY.sub (fun i h => .inl h) |>.trans o3 (fun i _ h => .inr h), s3, fun i hi => ?_⟩
   rcases n3 i hi with h | h
   ·exact .inl h
   ·exact .inr (Nat.le_trans oY.size h)
  ·have hge' : (ge != 0) = true := by simpa using hge
   have hge2 : (ge == 0) = false := by simpa using hge
   have hfe : fe = 270 := by rw [HFE.out, if_pos rfl, if_neg hge]
   have hne : ¬ fe = 0 := by rw [hfe]; decide
   have HNE := Lib.hid hne
   have HF := Lib.hid hfe
   clear hge HG1 HCG hfe hne
   go_wp2_with fail
   go_ret
   refine ⟨by rw [HF.out]; rfl, HDY.out, by rw [if_neg HNE.out]; exact YO.out, C, by rw [if_neg HNE.out, if_neg HNE.out]; exact HY.out, oY.sub (fun i h => .inl h), ⟨rfl, rfl, rfl, rfl⟩, fun i h => .inl h⟩
 ·have her' : (er != 0) = true := by simpa using her
  have her2 : (er == 0) = false := by simpa using her
  have hfe : fe = er := by rw [HFE.out, if_neg her]
  have hne : ¬ fe = 0 := by rw [hfe]; exact her
  have HNE := Lib.hid hne
  have HF := Lib.hid hfe
  clear her hfe hne
  go_wp2_with fail
  go_ret
  refine ⟨by rw [HF.out]; rfl, HDX.out, by rw [if_neg HNE.out]; exact KO.out, C, by rw [if_neg HNE.out, if_neg HNE.out]; exact HX.out, oX.sub (fun i h => .inl h), ⟨rfl, rfl, rfl, rfl⟩, fun i h => .inl h⟩
end Go.Proofs.YtemcgfncahccgaaGreat
namespace Go.Proofs.YtemcgfncahccgaaGreat
open Go.RowKit Go.Shelf

section
variable (room : Int) (ps us : List Int) (f : Int → Option ItemD) (x : DiskD) (oid : Int)
def gtP : Int := ps.getD oid.toNat 0
def gtE : Int := if 0 ≤ oid ∧ oid < (ps.length : Int) then (match f oid with | some _ => 0 | none => fetE x (gtP ps oid) ps.length) else 4
def gtO : ObjD := if 0 ≤ oid ∧ oid < (ps.length : Int) then (match f oid with | some y => y.o | none => if fetE x (gtP ps oid) ps.length = 0 then fetO x (gtP ps oid) ps.length else objZ) else objZ
def gtD : DiskD := if 0 ≤ oid ∧ oid < (ps.length : Int) then (match f oid with | some _ => x | none => x.after (gtP ps oid)) else x
def gtF : Int → Option ItemD := if 0 ≤ oid ∧ oid < (ps.length : Int) then (match f oid with | some y => useF room f us oid y | none => if fetE x (gtP ps oid) ps.length = 0 then useF room f us oid ⟨oid, fetO x (gtP ps oid) ps.length, false⟩ else f) else f
def gtU : List Int := if 0 ≤ oid ∧ oid < (ps.length : Int) then (match f oid with | some y => useU room f us oid y | none => if fetE x (gtP ps oid) ps.length = 0 then useU room f us oid ⟨oid, fetO x (gtP ps oid) ps.length, false⟩ else us) else us
end
/-- what a Get leaves in memory -/
def GtPost (C : CacheP) (room : Int) (ps us : List Int) (f : Int → Option ItemD) (D : DiskP) (x : DiskD) (oid : Int) (w : World) (e : Ending) (w' : World) : Prop :=
 e = .returned (.tuple #[.agg (gtO ps f x oid).cells.toArray, .int .i64 (gtE ps f x oid)]) ∧ DiskAt w' D (gtD ps f x oid) ∧ ∃ C', CacheRaw w' C' room ps (gtF room ps us f x oid) (gtU room ps us f x oid) ∧
  Out (fun i => D.has i ∨ C.own i) w w' ∧ (C'.g = C.g ∧ C'.dp = C.dp ∧ C'.r = C.r ∧ C'.pv = C.pv) ∧ ∀ i, C'.has i → C.has i ∨ w.heap.size ≤ i
set_option maxRecDepth 100000 in
set_option maxHeartbeats 4000000 in
theorem gett_no (C : CacheP) (room : Int) (ps us : List Int) (f : Int → Option ItemD) (D : DiskP) (x : DiskD) (oid : Int) (w : World) (h : CacheRaw w C room ps f us) (hD : DiskAt w D x) (hl : ps.length ≤ 1000000) (ht : ¬ (0 ≤ oid ∧ oid < (ps.length : Int))) :
  Calls Tryz.prog 18 #[ptr C.g, .int .i64 oid] w (GtPost C room ps us f D x oid w) := by
 obtain ⟨W, eW⟩ : ∃ W, W = ((w.alloc (.cells #[ptr C.g] 35)).alloc (.cells #[.int .i64 oid] 3)).alloc (.cells Tryz.zeroCells47 47) := ⟨_, rfl⟩
 have hbW : Below w.heap.size w W := by rw [eW]; exact (((Below.refl _ w).alloc (Nat.le_refl _) _).alloc (by simp) _).alloc (by simp; omega) _
 have k0 : Blk W w.heap.size 35 #[ptr C.g] := by rw [eW]; exact ((Blk.new w _ _).alloc _).alloc _
 have k1 : Blk W (w.heap.size + 1) 3 #[.int .i64 oid] := by rw [eW]; exact (Blk.new2 w _ _ _).alloc _
 have k2 : Blk W (w.heap.size + 2) 47 objZ.cells.toArray := by rw [eW, ← zeroObj]; exact Blk.new' (by simp)
 have HA := Lib.hid (askc_any C room ps us f oid W (h.below hbW) hl)
 rw [show thereE ps oid = 4 by unfold thereE; rw [if_neg ht]] at HA
 have HLC := Lib.hid (fun i hi => h.has_lt i hi)
 have HLD := Lib.hid (fun i hi => hD.has_lt i hi)
 have HH := Lib.hid (h.below hbW)
 have HD := Lib.hid (hD.below hbW)
 have HB := Lib.hid hbW
 have HT := Lib.hid ht
 have c0 := k0.cell_is 0 rfl
 have c1 := k1.cell_is 0 rfl
 unfold ptr at *
 clear h hD ht hbW
 go_enter Tryz.func18, Tryz.ntmps18
 go_upto_region 1 with fail
 rw [← eW]
 clear eW
 go_wp2_with fail
 refine HA.out.mono ?_; rintro e w1 ⟨rfl, rfl⟩
 go_wp2_with (first
  | (refine wpList_build_is rfl 47 _ rfl objZ.cells.toArray (by kernel_rfl) ?_)
  | (refine wpList_store_row rfl 47 _ _ rfl (w.heap.size + 2) objZ.cells.toArray rfl rfl 47 _ k2 (obj_info objZ objZ_ok) rfl (obj_ones objZ) ?_))
 refine bodyPost_ret (results_row_tmp2 Tryz.results18 _ _ _ _ _ rfl (load_obj objZ_ok (k2.row _)) rfl) rfl ⟨?_, ?_, C, ?_, ?_, ⟨rfl, rfl, rfl, rfl⟩, fun i h => .inl h⟩
 ·rw [show gtO ps f x oid = objZ by unfold gtO; rw [if_neg HT.out], show gtE ps f x oid = 4 by unfold gtE; rw [if_neg HT.out]]; rfl
 ·rw [show gtD ps f x oid = x by unfold gtD; rw [if_neg HT.out]]
  exact HD.out.out (F := fun i => i = w.heap.size + 2) (out_row _ rfl) (fun i hi e => by have := HLD.out i hi; omega)
 ·rw [show gtF room ps us f x oid = f by unfold gtF; rw [if_neg HT.out], show gtU room ps us f x oid = us by unfold gtU; rw [if_neg HT.out]]
  exact HH.out.out (F := fun i => i = w.heap.size + 2) (out_row _ rfl) (fun i hi e => by have := HLC.out i hi; omega)
 ·exact outB (below_row HB.out _ (by omega))
set_option maxRecDepth 100000 in
set_option maxHeartbeats 8000000 in
theorem gett_hand (C : CacheP) (room : Int) (ps us : List Int) (f : Int → Option ItemD) (D : DiskP) (x : DiskD) (oid : Int) (w : World) (h : CacheRaw w C room ps f us) (hD : DiskAt w D x) (hl : ps.length ≤ 1000000) (hu : us.length ≤ 100000) (hf : ∀ m ∈ us, f m ≠ none) (hroom : 0 ≤ room) (hsep : ∀ i, D.has i → ¬ C.has i)
  (ht : 0 ≤ oid ∧ oid < (ps.length : Int)) (y : ItemD) (hy : f oid = some y) :
  Calls Tryz.prog 18 #[ptr C.g, .int .i64 oid] w (GtPost C room ps us f D x oid w) := by
 obtain ⟨W, eW⟩ : ∃ W, W = ((w.alloc (.cells #[ptr C.g] 35)).alloc (.cells #[.int .i64 oid] 3)).alloc (.cells Tryz.zeroCells47 47) := ⟨_, rfl⟩
 have hbW : Below w.heap.size w W := by rw [eW]; exact (((Below.refl _ w).alloc (Nat.le_refl _) _).alloc (by simp) _).alloc (by simp; omega) _
 have k0 : Blk W w.heap.size 35 #[ptr C.g] := by rw [eW]; exact ((Blk.new w _ _).alloc _).alloc _
 have k1 : Blk W (w.heap.size + 1) 3 #[.int .i64 oid] := by rw [eW]; exact (Blk.new2 w _ _ _).alloc _
 have k2 : Blk W (w.heap.size + 2) 47 objZ.cells.toArray := by rw [eW, ← zeroObj]; exact Blk.new' (by simp)
 have hW := h.below hbW
 have HA := Lib.hid (askc_any C room ps us f oid W hW hl)
 rw [show thereE ps oid = 0 by unfold thereE; rw [if_pos ht]] at HA
 have HLC := Lib.hid (fun i hi => h.has_lt i hi)
 have HLD := Lib.hid (fun i hi => hD.has_lt i hi)
 obtain ⟨l, c, hm, hlk⟩ := hW.hand
 obtain ⟨b, e2, e3, e4⟩ : ∃ b, lookG l oid = some (ptr b) ∧ b ∈ C.bs ∧ ItemAt W b y := by
  rcases hlk oid with ⟨y', b, e1, e2, e3, e4⟩ | ⟨e1, _⟩
  ·rw [hy] at e1; cases e1; exact ⟨b, e2, e3, e4⟩
  ·rw [hy] at e1; cases e1
 have c3 := hW.blk.cell_is 3 rfl
 have hgW := hW.blk.lt
 have HU := Lib.hid (fun X (hX : Below W.heap.size W X) => use_any C room ps us f oid b y X (hW.below hX) (e4.out (F := fun _ => False) (outB hX) id) hu hf hroom)
 obtain ⟨n1, n2, n3, n4⟩ := hW.ne
 obtain ⟨m2, m3, m4⟩ := hW.neR
 have hbn : ∀ i, (i = C.g ∨ i = C.r ∨ C.pv.ownBlock = some i) → b ≠ i := by
  rintro i (rfl | rfl | hi) e
  ·exact n4 b e3 e
  ·exact m4 b e3 e
  ·obtain ⟨o, ho, hc⟩ := ownsRow_cells hW.places i hi
   have hb := show _ = _ from e4.2
   rw [e] at hb
   exact ne_own hW.places e4.2 (by decide) i hi e.symm
 have HBN := Lib.hid hbn
 have HI := Lib.hid e4
 have HB3 := Lib.hid e3
 have HE2 := Lib.hid e2
 have HM := Lib.hid hm
 have HD := Lib.hid (hD.below hbW)
 have HB := Lib.hid hbW
 have HSEP := Lib.hid hsep
 have hyok := HI.out.1
 have HT := Lib.hid (show gtO ps f x oid = y.o ∧ gtE ps f x oid = 0 ∧ gtD ps f x oid = x ∧ gtF room ps us f x oid = useF room f us oid y ∧ gtU room ps us f x oid = useU room f us oid y by unfold gtO gtE gtD gtF gtU; simp only [if_pos ht, hy]; exact ⟨trivial, trivial, trivial, trivial, trivial⟩)
 have c0 := k0.cell_is 0 rfl
 have c1 := k1.cell_is 0 rfl
 have HYI := Lib.hid (obj_info y.o hyok)
 have HYS := Lib.hid (obj_size0 y.o hyok)
 have HYK := Lib.hid hyok
 unfold ptr at *
 clear h hD ht hbW hy hlk e2 e3 e4 hm n1 n2 n3 n4 m2 m3 m4 hW hsep hf hyok hbn
 go_enter Tryz.func18, Tryz.ntmps18
 go_upto_region 1 with fail
 rw [← eW]
 clear eW
 go_wp2_with fail
 refine HA.out.mono ?_; rintro e w1 ⟨rfl, rfl⟩
 go_upto_region 4 with fail
 have l0 := k0.lt
 have l1 := k1.lt
 have l2 := k2.lt
 refine jb (fun X => Below w1.heap.size w1 X) (fun _ => True) 100 (Below.refl _ _).drew trivial fun hHeld hJ => ?_
 refine jk false 0 ?_ (hy := by intro X hX _; have hc := (Below.cell hX (p := ⟨w.heap.size, 0, none⟩) l0).trans c0; go_simp; try with_reducible rfl)
 refine jk false 1 ?_
 refine jk false 2 ?_
 refine jk false 3 ?_ (hy := by intro X hX _; have hc := (Below.cell hX (p := ⟨C.g, 3, none⟩) hgW).trans c3; go_simp; try with_reducible rfl)
 refine jk false 4 ?_ (hy := by intro X hX _; have hc := (Below.cell hX (p := ⟨w.heap.size + 1, 0, none⟩) l1).trans c1; go_simp; try with_reducible rfl)
 refine jk false 5 ?_ (v := .tuple #[.pointer (some ⟨b, 0, none⟩), .bool true]) (hy := by intro X hX _; have hc := run_look_yes (P := Tryz.prog) (t := 95) X Tryz.underlying95 Tryz.underlying3 (HM.out.same (hX.block _ HM.out.lt)) oid _ HE2.out true; simp only [if_true] at hc; go_simp; try with_reducible rfl)
 refine jk false 6 ?_
 refine jk false 7 ?_
 refine jk false 8 ?_
 refine jk false 9 ?_
 refine jk false 10 ?_
 refine wpAnyJ_done (by kernel_rfl) ?_ _
 have HUX := Lib.hid (HU.out w1.drew (Below.refl _ w1).drew)
 have d0 := k0.drew.cell_is 0 rfl
 have d1 := k1.drew.cell_is 0 rfl
 clear HU c0 c1 c3
 go_wp2_with fail
 refine HUX.out.mono ?_; rintro r w3 ⟨rfl, C3, h3, s3⟩
 have H3 := Lib.hid h3
 have S3 := Lib.hid s3
 have hItem : Blk w3 b 103 (y.o.cells ++ [Value.bool y.ch]).toArray := s3.out.blk (HI.out.2.drew) (fun h => HBN.out b h rfl)
 have kk : ¬ CacheP.own { C with bs := b :: C.bs } (w.heap.size + 2) := fun h => by have := HLC.out (w.heap.size + 2) (.inl h); omega
 have k3 := s3.out.blk k2.drew kk
 have hr := item_row (⟨HYK.out, hItem⟩ : ItemAt w3 b y)
 clear h3 s3 hItem
 obtain ⟨cs, ecs⟩ : ∃ cs, cs = y.o.cells := ⟨_, rfl⟩
 have HYO := Lib.hid (obj_ones y.o)
 have HEC := Lib.hid ecs
 rw [← ecs] at hr HYI HYS HYO
 have hsz : (Tryz.prog.info? 47).map (·.size) = some cs.length := by simpa using HYI.out
 clear ecs
 go_wp2_with (first
  | (refine wpList_load_mid rfl 47 _ rfl b 0 rfl cs _ hr Tryz.underlying47 rfl hsz ?_)
  | (refine wpList_store_row rfl 47 _ _ rfl (w.heap.size + 2) cs.toArray rfl rfl 47 _ k3 HYI.out HYS.out HYO.out ?_))
 obtain ⟨t1, t2, t3, t4, t5⟩ := HT.out
 have k4 := k3.row cs.toArray
 have ho4 : Out (fun i => i = w.heap.size + 2) w3 (w3.setRow (w.heap.size + 2) cs.toArray) := out_row _ rfl
 have hsz3 : w.heap.size + 2 < w3.heap.size := k3.lt
 have hn3 : ∀ i, C3.has i → i ≠ w.heap.size + 2 := fun i hi e => by
  rcases S3.out.new_ i hi with h | h
  ·rcases h with h | h | h
   ·have := HLC.out i (.inl h); omega
   ·have := HLC.out i (.inr (.inl h)); omega
   ·rcases List.mem_cons.1 h with rfl | h
    ·have h8 := HLC.out _ (.inr (.inr HB3.out)); omega
    ·have := HLC.out i (.inr (.inr h)); omega
  ·have h7 : w1.heap.size ≤ i := h
   omega
 refine bodyPost_ret (results_row_tmp2 Tryz.results18 _ _ _ _ _ rfl (load_obj HYK.out (by rw [← HEC.out]; exact k4)) rfl) rfl ⟨by rw [t1, t2]; rfl, ?_, C3, ?_, ?_, S3.out.same, fun i hi => ?_⟩
 ·rw [t3]
  exact (HD.out.drew.out S3.out.out (fun i hi h => HSEP.out i hi (.inl h))).out ho4 (fun i hi e => by have := HLD.out i hi; omega)
 ·rw [t4, t5]
  exact H3.out.out ho4 (fun i hi e => hn3 i hi e)
 ·have o1 : Out (fun i => D.has i ∨ C.own i) w w1.drew := outB HB.out.drew
  exact (o1.trans (S3.out.out.sub (G := fun i => D.has i ∨ C.own i) (fun i h => .inr h)) (fun i _ h => h)).trans ho4 (fun i hi e => by omega)
 ·rcases S3.out.new_ i hi with h | h
  ·rcases h with h | h | h
   ·exact .inl (.inl h)
   ·exact .inl (.inr (.inl h))
   ·rcases List.mem_cons.1 h with rfl | h
    ·exact .inl (.inr (.inr HB3.out))
    ·exact .inl (.inr (.inr h))
  ·exact .inr (by have h7 : w1.heap.size ≤ i := h; have := HB.out.size; omega)
end Go.Proofs.YtemcgfncahccgaaGreat
