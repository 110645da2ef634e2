/-
  The program's cache: Get of what is not at hand.
  slices.DeleteFunc of a row of the caller's own by a function that answers for its members alone; the program's cache: Changed.
-/
import Derived.Test.YtemcgfncahccgaaGreatCh17
import Derived.Test.YtemcgfncahccgaaGreatCh23
import Derived.Test.YtemcgfncahccgaaGreatCh31
set_option linter.unusedVariables false
set_option linter.unusedSimpArgs false
namespace Go.Proofs.YtemcgfncahccgaaGreat
open Go.RowKit Go.Shelf

set_option maxRecDepth 100000 in
set_option maxHeartbeats 2000000 in
theorem gett_fetch (C : CacheP) (room : Int) (ps us : List Int) (f : Int → Option ItemD) (D : DiskP) (x : DiskD) (oid : Int) (w : World) (h : CacheRaw w C room ps f us) (hD : DiskAt w D x) (hx : x.ok) (hp : C.dp = D.p) (hl : ps.length ≤ 1000000) (hu : us.length ≤ 100000) (hf : ∀ m ∈ us, f m ≠ none) (hroom : 0 ≤ room) (hsep : ∀ i, D.has i → ¬ C.has i)
  (ht : 0 ≤ oid ∧ oid < (ps.length : Int)) (hy : f oid = none) :
  Calls Tryz.prog 18 #[ptr C.g, .int .i64 oid] w (GtPost C room ps us f D x oid w) := by
 obtain ⟨k, rfl⟩ : ∃ k : Nat, oid = (k : Int) := ⟨oid.toNat, by omega⟩
 obtain ⟨W, eW⟩ : ∃ W, W = ((w.alloc (.cells #[ptr C.g] 35)).alloc (.cells #[.int .i64 (k : Int)] 3)).alloc (.cells Tryz.zeroCells47 47) := ⟨_, rfl⟩
 have hbW : Below w.heap.size w W := by rw [eW]; exact (((Below.refl _ w).alloc (Nat.le_refl _) _).alloc (by simp) _).alloc (by simp; omega) _
 have k0 : Blk W w.heap.size 35 #[ptr C.g] := by rw [eW]; exact ((Blk.new w _ _).alloc _).alloc _
 have k1 : Blk W (w.heap.size + 1) 3 #[.int .i64 (k : Int)] := by rw [eW]; exact (Blk.new2 w _ _ _).alloc _
 have k2 : Blk W (w.heap.size + 2) 47 objZ.cells.toArray := by rw [eW, ← zeroObj]; exact Blk.new' (by simp)
 have hW := h.below hbW
 have HA := Lib.hid (askc_any C room ps us f k W hW hl)
 rw [show thereE ps k = 0 by unfold thereE; rw [if_pos ht]] at HA
 have HLC := Lib.hid (fun i hi => h.has_lt i hi)
 have HLD := Lib.hid (fun i hi => hD.has_lt i hi)
 obtain ⟨l, c, hm, hlk⟩ := hW.hand
 have e2 : lookG l k = none := by
  rcases hlk k with ⟨y', b, e1, e2, e3, e4⟩ | ⟨_, e2⟩
  ·rw [hy] at e1; cases e1
  ·exact e2
 have c3 := hW.blk.cell_is 3 rfl
 have hgW := hW.blk.lt
 have HE2 := Lib.hid e2
 have HM := Lib.hid hm
 have HD := Lib.hid (hD.below hbW)
 have HW := Lib.hid hW
 have HB := Lib.hid hbW
 have hk : k < ps.length := by omega
 have hpk : ps[k]? = some (gtP ps k) := by unfold gtP; rw [Int.toNat_natCast, List.getD_eq_getElem?_getD, List.getElem?_eq_getElem hk]; rfl
 obtain ⟨p, ep⟩ : ∃ p, p = gtP ps k := ⟨_, rfl⟩
 have HT := Lib.hid (show gtO ps f x k = (if fetE x p ps.length = 0 then fetO x p ps.length else objZ) ∧ gtE ps f x k = fetE x p ps.length ∧ gtD ps f x k = x.after p ∧ gtF room ps us f x k = (if fetE x p ps.length = 0 then useF room f us k ⟨k, fetO x p ps.length, false⟩ else f) ∧ gtU room ps us f x k = (if fetE x p ps.length = 0 then useU room f us k ⟨k, fetO x p ps.length, false⟩ else us) by
  unfold gtO gtE gtD gtF gtU; simp only [if_pos ht, hy, ← ep]; exact ⟨trivial, trivial, trivial, trivial, trivial⟩)
 rw [← ep] at hpk
 have hOo : (fetO x p ps.length).ok := getO_ok _ (read_len hx p) _
 obtain ⟨fe, efe⟩ : ∃ fe, fe = fetE x p ps.length := ⟨_, rfl⟩
 obtain ⟨fo, efo⟩ : ∃ fo, fo = fetO x p ps.length := ⟨_, rfl⟩
 have hFT := fun X (hX : CacheRaw X C room ps f us) hDX OB CB IB h1 h2 h3 h4 h5 => fetch_any C room ps us f D x k p OB CB IB objZ.cells.toArray X hX hDX hx hp hpk hl hu hf hroom hsep h1 (by rw [List.size_toArray, ObjD.len objZ_ok]) h2 h3 h4 h5
 rw [← efe, ← efo] at hFT
 rw [← efe, ← efo] at HT
 rw [← efo] at hOo
 have HFT := Lib.hid hFT
 obtain ⟨cs, ecs⟩ : ∃ cs : Array Value, cs = if fe = 0 then fo.cells.toArray else objZ.cells.toArray := ⟨_, rfl⟩
 have hcsI : (Tryz.prog.info? 47).map (·.size) = some cs.size := by rw [ecs]; split; exact obj_info fo hOo; exact obj_info objZ objZ_ok
 have hcsS : (objZ.cells.toArray : Array Value).size = cs.size := by rw [ecs]; split; exact obj_size0 fo hOo; rfl
 have hcsO : cs.all (·.oneCell') = true := by rw [ecs]; split; exact obj_ones fo; exact obj_ones objZ
 have HCS := Lib.hid (show ∀ X g, Blk X g 47 cs → (loadVar 47 ⟨g, 0, none⟩).run Tryz.prog X = .ok (.agg (if fe = 0 then fo else objZ).cells.toArray) X from fun X g hB => by
  rw [ecs] at hB
  by_cases h0 : fe = 0
  ·rw [if_pos h0] at hB ⊢; exact load_obj hOo hB
  ·rw [if_neg h0] at hB ⊢; exact load_obj objZ_ok hB)
 have HEC := Lib.hid ecs
 have HCSI := Lib.hid hcsI
 have HCSS := Lib.hid hcsS
 have HCSO := Lib.hid hcsO
 have c0 := k0.cell_is 0 rfl
 have c1 := k1.cell_is 0 rfl
 have HSEP := Lib.hid hsep
 unfold ptr at *
 clear h hD ht hbW hy hlk e2 hm hW hsep hf hpk hFT ep efe efo hOo hcsI hcsS hcsO ecs hx hp
 go_enter Tryz.func18, Tryz.ntmps18
 go_upto_region 1 with fail
 rw [← eW]
 clear eW
 go_wp2_with fail
 refine HA.out.mono ?_; rintro e w1 ⟨rfl, rfl⟩
 go_upto_region 4 with fail
 have l0 := k0.lt
 have l1 := k1.lt
 have l2 := k2.lt
 refine jb (fun X => Below w1.heap.size w1 X) (fun _ => True) 100 (Below.refl _ _).drew trivial fun hHeld hJ => ?_
 refine jk false 0 ?_ (hy := by intro X hX _; have hc := (Below.cell hX (p := ⟨w.heap.size, 0, none⟩) l0).trans c0; go_simp; try with_reducible rfl)
 refine jk false 1 ?_
 refine jk false 2 ?_
 refine jk false 3 ?_ (hy := by intro X hX _; have hc := (Below.cell hX (p := ⟨C.g, 3, none⟩) hgW).trans c3; go_simp; try with_reducible rfl)
 refine jk false 4 ?_ (hy := by intro X hX _; have hc := (Below.cell hX (p := ⟨w.heap.size + 1, 0, none⟩) l1).trans c1; go_simp; try with_reducible rfl)
 refine jk false 5 ?_ (v := .tuple #[.pointer none, .bool false]) (hy := by intro X hX _; have hc := run_look_no (P := Tryz.prog) (t := 95) X Tryz.underlying95 Tryz.underlying3 (HM.out.same (hX.block _ HM.out.lt)) (k : Int) _ (zero_item _) HE2.out true; simp only [if_true] at hc; go_simp; try with_reducible rfl)
 refine jk false 6 ?_
 refine jk false 7 ?_
 refine jk false 8 ?_
 refine jk false 9 ?_
 refine jk false 10 ?_
 refine wpAnyJ_done (by kernel_rfl) ?_ _
 obtain ⟨X, eX⟩ : ∃ X, X = (w1.alloc (.cells Tryz.zeroCells47 47)).drew := ⟨_, rfl⟩
 have hbX : Below w1.heap.size w1 X := by rw [eX]; exact ((Below.refl w1.heap.size w1).alloc (Nat.le_refl _) _).drew
 have kO : Blk X w1.heap.size 47 objZ.cells.toArray := by rw [eX, ← zeroObj]; exact (Blk.new w1 _ _).drew
 have x0 := k0.below hbX k0.lt
 have x1 := k1.below hbX k1.lt
 have x2 := k2.below hbX k2.lt
 have hnO : ¬ C.has w1.heap.size := fun h => by have := HLC.out _ h; omega
 have hnD : ¬ D.has w1.heap.size ∧ ¬ D.has w.heap.size ∧ ¬ D.has (w.heap.size + 1) := ⟨fun h => by have := HLD.out _ h; omega, fun h => by have := HLD.out _ h; omega, fun h => by have := HLD.out _ h; omega⟩
 have HFX := Lib.hid (HFT.out X (HW.out.below hbX) (HD.out.below hbX) w1.heap.size w.heap.size (w.heap.size + 1) kO x0 x1 hnO hnD)
 have HBX := Lib.hid (HB.out.trans (hbX.mono HB.out.size))
 have d0 := x0.cell_is 0 rfl
 have d1 := x1.cell_is 0 rfl
 have hXs : w1.heap.size < X.heap.size := kO.lt
 unfold ptr at HFX
 clear HFT c0 c1 c3 hnO hnD HW HD HB hbX kO x0 x1 k0 k1 k2 hHeld
 go_upto_region 9 with fail
 rw [← eX]
 clear eX
 go_wp2_with fail
 refine HFX.out.mono ?_; rintro r w3 ⟨rfl, hd3, hO3, C3, h3, o3, s3, n3⟩
 rw [← HEC.out] at hO3
 have hn2 : ∀ i, (D.has i ∨ C.own i ∨ i = w1.heap.size) → i ≠ w.heap.size + 2 := by
  rintro i (h | h | h) e
  ·have := HLD.out i h; omega
  ·have := HLC.out i (.inl h); omega
  ·omega
 have k3 := o3.blk x2 (fun h => hn2 _ h rfl)
 have HR := Lib.hid (And.intro hd3 (And.intro h3 (And.intro o3 (And.intro s3 n3))))
 clear hd3 h3 o3 s3 n3 x2 hn2
 go_wp2_with (first
  | (refine wpList_load_row rfl 47 _ rfl w1.heap.size rfl 47 cs (0, 0) _ hO3 Tryz.underlying47 rfl HCSI.out ?_)
  | (refine wpList_store_row rfl 47 _ _ rfl (w.heap.size + 2) cs rfl rfl 47 _ k3 HCSI.out HCSS.out HCSO.out ?_))
 obtain ⟨t1, t2, t3, t4, t5⟩ := HT.out
 obtain ⟨hd3, h3, o3, s3, n3⟩ := HR.out
 have ho4 : Out (fun i => i = w.heap.size + 2) w3 (w3.setRow (w.heap.size + 2) cs) := out_row _ rfl
 refine bodyPost_ret (results_row_tmp2 Tryz.results18 _ _ _ _ _ rfl (HCS.out _ _ (k3.row cs)) rfl) rfl ⟨by rw [t1, t2]; rfl, ?_, C3, ?_, ?_, s3, fun i hi => ?_⟩
 ·rw [t3]
  exact hd3.out ho4 (fun i hi e => by have := HLD.out i hi; omega)
 ·rw [t4, t5]
  exact h3.out ho4 (fun i hi e => by
   rcases n3 i hi with h | h
   ·have := HLC.out i h; omega
   ·omega)
 ·have o1 : Out (fun i => D.has i ∨ C.own i) w X := outB HBX.out
  exact (o1.trans o3 (fun i hi h => by
   rcases h with h | h | h
   ·exact .inl h
   ·exact .inr h
   ·omega)).trans ho4 (fun i hi e => by omega)
 ·rcases n3 i hi with h | h
  ·exact .inl h
  ·exact .inr (by omega)
theorem gett_any (C : CacheP) (room : Int) (ps us : List Int) (f : Int → Option ItemD) (D : DiskP) (x : DiskD) (oid : Int) (w : World) (h : CacheRaw w C room ps f us) (hD : DiskAt w D x) (hx : x.ok) (hp : C.dp = D.p) (hl : ps.length ≤ 1000000) (hu : us.length ≤ 100000) (hf : ∀ m ∈ us, f m ≠ none) (hroom : 0 ≤ room) (hsep : ∀ i, D.has i → ¬ C.has i) :
  Calls Tryz.prog 18 #[ptr C.g, .int .i64 oid] w (GtPost C room ps us f D x oid w) := by
 by_cases ht : 0 ≤ oid ∧ oid < (ps.length : Int)
 ·cases hy : f oid with
  | some y => exact gett_hand C room ps us f D x oid w h hD hl hu hf hroom hsep ht y hy
  | none => exact gett_fetch C room ps us f D x oid w h hD hx hp hl hu hf hroom hsep ht hy
 ·exact gett_no C room ps us f D x oid w h hD hl ht
end Go.Proofs.YtemcgfncahccgaaGreat
namespace Go.Proofs.YtemcgfncahccgaaGreat
open Go.RowKit Go.Shelf

theorem ownsRow_clear {B e g cap n : Nat} : ∀ (vs : List Value) (k : Nat) (w : World) (xs : List Value), w.ownsRow B e 1 (.slice (some ⟨g, 0, none⟩) n cap) n xs → k + vs.length ≤ n → ∃ xs', (w.setCells g k vs).ownsRow B e 1 (.slice (some ⟨g, 0, none⟩) n cap) n xs' ∧ xs'.take k = xs.take k
 | [], k, w, xs, h, _ => ⟨xs, h, rfl⟩
 | v :: vs, k, w, xs, h, hk => by
  have hk' : k + (vs.length + 1) ≤ n := hk
  obtain ⟨xs', h1, h2⟩ := ownsRow_clear vs (k + 1) (w.setCell ⟨g, k, none⟩ v) (xs.set k v) (ownsRow_put h k (by omega) v) (by omega)
  refine ⟨xs', h1, ?_⟩
  have h3 := congrArg (List.take k) h2
  rw [List.take_take, List.take_take, Nat.min_eq_left (by omega), List.take_set_of_le (Nat.le_refl _)] at h3
  exact h3
theorem own_cell {w : World} {B n g cap : Nat} {e : TypeId} {ys : List Int} (h : w.ownsRow B e 1 (.slice (some ⟨g, 0, none⟩) n cap) n (ys.map (Value.int .i64))) {j : Nat} {y : Int} (hj : ys[j]? = some y) : w.cell? ⟨g, j, none⟩ = some (.int .i64 y) ∧ w.frozen? ⟨g, j, none⟩ = false := by
 refine ⟨?_, ownsRow_frozen h j⟩
 obtain ⟨hl, ⟨h1, _⟩ | ⟨g', cap', cur, h1, hB, hg, h2, h3, h4⟩⟩ := h
 ·cases h1
 ·cases h1
  have hc : (ys.map (Value.int .i64))[j]? = some (.int .i64 y) := by rw [List.getElem?_map, hj]; rfl
  rw [cell_of_row w g _ cur _ _ hg, ← Array.getElem?_toList]
  rw [← h4.2, List.getElem?_take] at hc
  split at hc
  ·exact hc
  ·cases hc
/-- .. its relation, j members on -/
structure DelR (p : Int → Bool) (ys : List Int) (B b cap : Nat) (w : World) (i j : Nat) (zs : List Int) (W : World) : Prop where
 lt : i < j
 le : j ≤ ys.length
 len : zs.length = ys.length
 done : zs.take i = (ys.take j).filter fun x => !p x
 rest : ∀ k, j ≤ k → zs[k]? = ys[k]?
 row : W.ownsRow B 3 1 (.slice (some ⟨b, 0, none⟩) ys.length cap) ys.length (zs.map (Value.int .i64))
 out : Out (fun i => i = b) w W
theorem filt_next {p : Int → Bool} {ys : List Int} {j : Nat} {u : Int} (hj : ys[j]? = some u) : (ys.take (j + 1)).filter (fun x => !p x) = (ys.take j).filter (fun x => !p x) ++ (if p u then [] else [u]) := by
 rw [List.take_add_one, hj, List.filter_append]
 congr 1
 cases h : p u <;> simp [h]
theorem DelR.keep {p : Int → Bool} {ys : List Int} {B b cap : Nat} {w W : World} {i j : Nat} {zs : List Int} {u : Int} (h : DelR p ys B b cap w i j zs W) (hj : ys[j]? = some u) (hp : p u = false) : DelR p ys B b cap w (i + 1) (j + 1) (zs.set i u) (W.setCell ⟨b, i, none⟩ (.int .i64 u)) := by
 have hjl := (List.getElem?_eq_some_iff.1 hj).1
 have h1 := h.lt
 refine ⟨by omega, by omega, by rw [List.length_set]; exact h.len, ?_, fun k hk => ?_, ?_, h.out.trans (out_set (F := fun i => i = b) rfl) (fun _ _ h => h)⟩
 ·rw [filt_next hj, hp, ← h.done, List.take_add_one, List.take_set_of_le (Nat.le_refl _), List.getElem?_set_self (by rw [h.len]; omega)]
  rfl
 ·rw [List.getElem?_set_ne (by omega)]
  exact h.rest k (by omega)
 ·have := ownsRow_put h.row i (by omega) (.int .i64 u)
  rwa [← List.map_set] at this
theorem DelR.skip {p : Int → Bool} {ys : List Int} {B b cap : Nat} {w W : World} {i j : Nat} {zs : List Int} {u : Int} (h : DelR p ys B b cap w i j zs W) (hj : ys[j]? = some u) (hp : p u = true) : DelR p ys B b cap w i (j + 1) zs W := by
 have hjl := (List.getElem?_eq_some_iff.1 hj).1
 have h1 := h.lt
 refine ⟨by omega, by omega, h.len, ?_, fun k hk => h.rest k (by omega), h.row, h.out⟩
 rw [filt_next hj, hp, h.done]
 simp
theorem DelR.drewN {p : Int → Bool} {ys : List Int} {B b cap : Nat} {w W : World} {i j : Nat} {zs : List Int} (h : DelR p ys B b cap w i j zs W) (q : Nat) : DelR p ys B b cap w i j zs (W.drewN q) :=
 ⟨h.lt, h.le, h.len, h.done, h.rest, ownsRow_out (F := fun _ => False) (outB (below_drewN' (Below.refl _ W) q)) h.row (fun _ _ => id), h.out.trans (G := fun _ => False) (outB (below_drewN' (Below.refl _ W) q)) (fun _ _ h => h.elim)⟩
set_option maxRecDepth 100000 in
set_option maxHeartbeats 4000000 in
theorem del_in (p : Int → Bool) (g : Nat) (lb : Array Value) (eg : ∀ args w, (callFunc g args).run Tryz.prog w = .ok (.enter g args) w) (w : World) (B : Nat) (v : Value) (ys : List Int) (hl : ys.length ≤ 1000000) (hown : w.ownsRow B 3 1 v ys.length (ys.map (Value.int .i64)))
  (hP : ∀ (W : World) (x : Int), x ∈ ys → (∀ i, i < w.heap.size → some i ≠ v.ownBlock → W.heap[i]? = w.heap[i]?) → FnGives Tryz.prog g lb #[.int .i64 x] (.bool (p x)) W) :
  Calls Tryz.prog 50 #[v, .func (.func g) #[] lb] w fun e w' => ∃ v', e = .returned v' ∧ w'.ownsRow B 3 1 v' (ys.filter fun x => !p x).length ((ys.filter fun x => !p x).map (Value.int .i64)) ∧ Below B w w' := by
 by_cases hn : ys = []
 ·subst hn
  rcases hown.2 with ⟨rfl, h0⟩ | ⟨b, cap, cur, rfl, hB, hg, h1, h2, h3, h4⟩
  ·refine (del_none 0 g lb w).mono ?_
   rintro e w' ⟨rfl, rfl⟩
   exact ⟨_, rfl, World.ownsRow_nil _ _ _ _, Below.refl _ _⟩
  ·have HF := Lib.hid (Tryz.slices_IndexFunc_empty (α := Int) (some ⟨b, 0, none⟩) cap (.func (.func g) #[] lb) w)
   have HO := Lib.hid hown
   clear hown hP
   go_enter Tryz.func50, Tryz.ntmps50
   go_wp2_with fail
   refine HF.out.mono ?_; rintro e w1 ⟨rfl, rfl⟩
   go_wp2_with fail
   go_ret
   exact ⟨_, rfl, HO.out, Below.refl _ _⟩
 ·obtain ⟨a, cap, ev⟩ := slice_form hown
  obtain ⟨b, cap, rfl⟩ : ∃ b cap, v = .slice (some ⟨b, 0, none⟩) ys.length cap := by
   rcases hown.2 with ⟨rfl, h0⟩ | ⟨b, cap, cur, rfl, hB, hg, h1, h2, h3, h4⟩
   ·exact absurd (List.eq_nil_of_length_eq_zero h0) hn
   ·exact ⟨b, cap, rfl⟩
  clear ev
  have hB : B ≤ b := (World.ownsRow.lt hown b rfl).1
  have hBw : B ≤ w.heap.size := by have := ownBlock_lt hown (g := b) rfl; omega
  have hcap : ys.length ≤ cap := by
   rcases hown.2 with ⟨h0, _⟩ | ⟨b', cap', cur, h0, hB, hg, h1, h2, h3, h4⟩
   ·cases h0
   ·cases h0; exact h1
  obtain ⟨y0, hy0⟩ := List.exists_mem_of_ne_nil ys hn
  letI inst : Inhabited {y : Int // y ∈ ys} := ⟨⟨y0, hy0⟩⟩
  have hal : ys.attach.length = ys.length := List.length_attach
  have hIF := Tryz.slices_IndexFunc (α := {y : Int // y ∈ ys}) (fun y => Value.int .i64 y.1) (fun y => p y.1) g lb eg b 0 ys.length cap ys.attach w (fun W x hb => hP W x.1 x.2 fun i hi _ => hb.block i hi) (by omega) (by omega) (fun j hj => by
   rw [Nat.zero_add, getElem!_pos ys.attach j hj]
   have := (own_cell hown (j := j) (y := ys[j]'(by omega)) (List.getElem?_eq_getElem (by omega))).1
   simpa using this)
  have hat : ∀ j, j < ys.length → (ys.attach[j]!).1 = ys.getD j 0 := fun j hj => by
   rw [getElem!_pos ys.attach j (by omega), List.getElem_attach, List.getD_eq_getElem?_getD, List.getElem?_eq_getElem hj]; rfl
  have hgetD : ∀ j, j < ys.length → ys[j]? = some (ys.getD j 0) := fun j hj => by
   rw [List.getD_eq_getElem?_getD, List.getElem?_eq_getElem hj]; rfl
  rw [show ys.attach.take ys.length = ys.attach from List.take_of_length_le (by omega)] at hIF
  have HP := Lib.hid (show ∀ (W : World) (x : Int), x ∈ ys → Out (fun i => i = b) w W → FnGives Tryz.prog g lb #[.int .i64 x] (.bool (p x)) W from fun W x hx ho => hP W x hx fun i hi hne => ho.block i hi (fun e => hne (by rw [e]; rfl)))
  rcases idxByFrom_spec (fun (_ y : {y : Int // y ∈ ys}) => p y.1) default ys.attach 0 with ⟨e1, hall⟩ | ⟨k0, hk0, e1, ht, hall⟩
  ·have e2 : Lib.idxBy (fun (_ y : {y : Int // y ∈ ys}) => p y.1) ys.attach default = -1 := e1
   rw [e2] at hIF
   have hkeep : ys.filter (fun x => !p x) = ys := List.filter_eq_self.2 fun y hy => by
    obtain ⟨j, hj⟩ := List.mem_iff_getElem?.1 hy
    have hjl := (List.getElem?_eq_some_iff.1 hj).1
    have h1 := hall j (by omega)
    have h2 : p (ys.attach[j]!).1 = false := h1
    rw [hat j hjl] at h2
    have h3 := hgetD j hjl
    rw [hj] at h3
    cases h3
    rw [h2]
    rfl
   rw [hkeep]
   have HIF := Lib.hid hIF
   have HO := Lib.hid hown
   clear hIF hown hP hall e1 e2 hkeep hat hgetD hal inst hy0 hn
   go_enter Tryz.func50, Tryz.ntmps50
   go_wp2_with fail
   refine HIF.out.mono ?_; rintro e w1 ⟨rfl, q, rfl⟩
   go_wp2_with fail
   go_ret
   exact ⟨_, rfl, ownsRow_out (F := fun _ => False) (outB (below_drewN' (Below.refl _ w) q)) HO.out (fun _ _ => id), below_drewN' (Below.refl _ w) q⟩
  ·have hk0' : k0 < ys.length := by omega
   have e2 : Lib.idxBy (fun (_ y : {y : Int // y ∈ ys}) => p y.1) ys.attach default = (k0 : Int) := by unfold Lib.idxBy; rw [e1]; simp
   rw [e2] at hIF
   have hkeep : (ys.take k0).filter (fun x => !p x) = ys.take k0 := List.filter_eq_self.2 fun y hy => by
    obtain ⟨j, hj⟩ := List.mem_iff_getElem?.1 hy
    rw [List.getElem?_take] at hj
    split at hj
    ·next hjk =>
     have hjl := (List.getElem?_eq_some_iff.1 hj).1
     have h2 : p (ys.attach[j]!).1 = false := hall j hjk
     rw [hat j hjl] at h2
     have h3 := hgetD j hjl
     rw [hj] at h3
     cases h3
     rw [h2]
     rfl
    ·cases hj
   have hdrop : p (ys.getD k0 0) = true := by rw [← hat k0 hk0']; exact ht
   have hstart : DelR p ys B b cap w k0 (k0 + 1) ys w := ⟨by omega, by omega, rfl, by rw [filt_next (hgetD k0 hk0'), hdrop, hkeep]; simp, fun _ _ => rfl, hown, Out.refl _ _⟩
   have hne1 : ((k0 : Int) == -1) = false := beq_eq_false_iff_ne.2 (by omega)
   have HIF := Lib.hid hIF
   have HS := Lib.hid hstart
   have HG := Lib.hid hgetD
   clear hIF hown hP hall e1 e2 hkeep hat hgetD hal ht inst hy0 hn hdrop hstart
   go_enter Tryz.func50, Tryz.ntmps50
   go_wp2_with fail
   refine HIF.out.mono ?_; rintro e w1 ⟨rfl, q, rfl⟩
   go_wp2_with fail
   go_loopw [5, 6, 7] (fun s5 s6 s7 wr => ∃ (i j : Nat) (zs : List Int), s5 = .int .i64 i ∧ s6 = .int .i64 j ∧ Hid (DelR p ys B b cap w i j zs wr)) (fun s5 s6 s7 _ => ys.length - (intOf s6).toNat)
   case atStart => exact ⟨k0, k0 + 1, ys, rfl, by go_num, Lib.hid (HS.out.drewN q)⟩
   case round =>
    obtain ⟨i, j, zs, rfl, rfl, HR⟩ := hrel
    by_cases hlt : j < ys.length
    ·have hltz : (j : Int) < (ys.length : Int) := by omega
     have hju := HG.out j hlt
     obtain ⟨u, hu⟩ : ∃ u, ys[j]? = some u := ⟨_, hju⟩
     have hzj : zs[j]? = some u := (HR.out.rest j (Nat.le_refl _)).trans hu
     have cj := (own_cell HR.out.row hzj).1
     have hi1 := HR.out.lt
     obtain ⟨zi, hzi⟩ : ∃ y, zs[i]? = some y := ⟨_, List.getElem?_eq_getElem (by rw [HR.out.len]; omega)⟩
     obtain ⟨ci, fi⟩ := own_cell HR.out.row hzi
     have hcall := HP.out wr u (List.mem_of_getElem? hu) HR.out.out
     unfold FnGives at hcall
     have HC := Lib.hid hcall
     have HU := Lib.hid hu
     have hilt : (i : Int) < (ys.length : Int) := by omega
     clear hju hu hzj hzi hcall
     cases hq : p u
     ·have HQ := Lib.hid hq
      rw [hq] at HC
      clear hq
      go_wp2_with (go_at_fn g; refine HC.out.mono ?_; rintro e w' ⟨rfl, qq, rfl⟩)
      exact ⟨⟨i + 1, j + 1, zs.set i u, by go_num, by go_num, Lib.hid ((HR.out.drewN qq).keep HU.out HQ.out)⟩, by simp [intOf]; omega⟩
     ·have HQ := Lib.hid hq
      rw [hq] at HC
      clear hq
      go_wp2_with (go_at_fn g; refine HC.out.mono ?_; rintro e w' ⟨rfl, qq, rfl⟩)
      exact ⟨⟨i, j + 1, zs, rfl, by go_num, Lib.hid ((HR.out.drewN qq).skip HU.out HQ.out)⟩, by simp [intOf]; omega⟩
    ·obtain rfl : j = ys.length := by have := HR.out.le; omega
     have hltz : ¬ (ys.length : Int) < (ys.length : Int) := by omega
     have hi1 := HR.out.lt
     have hcl : ∀ ty, (Builtin.clear_ #[23] ty #[.slice (some ⟨b, i, none⟩) (ys.length - i) (cap - i)]).run Tryz.prog wr = .ok (.tuple #[]) (wr.setCells b i (List.replicate (ys.length - i) (Value.int .i64 0))) :=
      fun ty => Lib.run_clear_slice wr _ 3 ty _ Tryz.underlying23 zero_int rfl rfl b i _ _ (by omega) (fun t ht => by
       obtain ⟨y, hy⟩ : ∃ y, zs[i + t]? = some y := ⟨_, List.getElem?_eq_getElem (by rw [HR.out.len]; omega)⟩
       rw [(own_cell HR.out.row hy).1]; rfl) (fun t ht => ownsRow_frozen HR.out.row (i + t))
     obtain ⟨xs', h1, h2⟩ := ownsRow_clear (List.replicate (ys.length - i) (Value.int .i64 0)) i wr _ HR.out.row (by rw [List.length_replicate]; omega)
     have hd := HR.out.done
     rw [List.take_length] at hd
     have hl2 : (ys.filter fun x => !p x).length = i := by rw [← hd, List.length_take, HR.out.len]; omega
     have h3 := ownsRow_cut h1 (show i ≤ ys.length by omega)
     rw [h2, ← List.map_take, hd] at h3
     have hout := HR.out.out.trans (out_setCells (F := fun i => i = b) b rfl (List.replicate (ys.length - i) (Value.int .i64 0)) i wr) (fun _ _ h => h)
     have H3 := Lib.hid h3
     have HO := Lib.hid hout
     have HL2 := Lib.hid hl2
     have hib : (i : Int) ≤ (ys.length : Int) := by omega
     clear h1 h2 h3 hd hl2 hout
     go_wp2_with fail
     go_ret
     refine ⟨_, rfl, by rw [HL2.out]; exact H3.out, HO.out.below hBw (fun i hi e => by omega)⟩
theorem CacheRaw.same {W W' : World} {C : CacheP} {room : Int} {ps us : List Int} {f : Int → Option ItemD} (h : CacheRaw W C room ps f us) (hk : ∀ i, C.has i → W'.heap[i]? = W.heap[i]?) : CacheRaw W' C room ps f us := by
 refine ⟨?_, ?_, ?_, h.apart, ?_, fun b hb => ?_⟩
 ·exact (hk _ (.inl (.inl rfl))).trans h.blk
 ·obtain ⟨hl, ⟨e, h0⟩ | ⟨g, cap, cur, e, hB, hg, hr⟩⟩ := h.places
  ·exact ⟨hl, .inl ⟨e, h0⟩⟩
  ·exact ⟨hl, .inr ⟨g, cap, cur, e, hB, (hk _ (.inl (.inr (.inr (by rw [e]; rfl))))).trans hg, hr⟩⟩
 ·obtain ⟨hl, ⟨e, h0⟩ | ⟨g, cap, cur, e, hB, hg, hr⟩⟩ := h.used
  ·exact ⟨hl, .inl ⟨e, h0⟩⟩
  ·exact ⟨hl, .inr ⟨g, cap, cur, e, hB, (hk _ (.inr (.inl (by rw [e]; rfl)))).trans hg, hr⟩⟩
 ·obtain ⟨l, c, hm, hl⟩ := h.hand
  refine ⟨l, c, hm.same (hk _ (.inl (.inr (.inl rfl)))), fun m => ?_⟩
  rcases hl m with ⟨y, b, h1, h2, h3, h4⟩ | h1
  ·exact .inl ⟨y, b, h1, h2, h3, h4.1, (hk _ (.inr (.inr h3))).trans h4.2⟩
  ·exact .inr h1
 ·obtain ⟨cs, hc⟩ := h.items b hb
  exact ⟨cs, (hk _ (.inr (.inr hb))).trans hc⟩
/-- has an object at hand changed? -/
def isChanged (f : Int → Option ItemD) (m : Int) : Bool := match f m with | some y => y.ch | none => false
set_option maxRecDepth 100000 in
set_option maxHeartbeats 2000000 in
theorem changed1_gives (C : CacheP) (room : Int) (ps us : List Int) (f : Int → Option ItemD) (W : World) (Bx : Nat) (m : Int) (h : CacheRaw W C room ps f us) (hc : W.cell? ⟨Bx, 0, none⟩ = some (ptr C.g)) (hm : f m ≠ none) :
  FnGives Tryz.prog 51 #[.pointer (some ⟨Bx, 0, none⟩)] #[.int .i64 m] (.bool (!isChanged f m)) W := by
 obtain ⟨l, c, hmp, hlk⟩ := h.hand
 have c3 := h.blk.cell_is 3 rfl
 obtain ⟨y, b, e1, e2, e3, e4⟩ : ∃ y b, f m = some y ∧ lookG l m = some (ptr b) ∧ b ∈ C.bs ∧ ItemAt W b y := by
  rcases hlk m with h | ⟨h, _⟩
  ·exact h
  ·exact absurd h hm
 have cch := item_ch e4
 have HE2 := Lib.hid e2
 have hi : isChanged f m = y.ch := by unfold isChanged; rw [e1]
 rw [hi]
 unfold FnGives
 simp only [List.append_toArray, List.cons_append, List.nil_append]
 unfold ptr at *
 clear h hlk e1 e2 e3 e4 hm hi
 go_enter Tryz.func51, Tryz.ntmps51
 have hlook := run_look_yes (P := Tryz.prog) (t := 95) W Tryz.underlying95 Tryz.underlying3 hmp m _ HE2.out false
 simp only [Bool.false_eq_true, if_false] at hlook
 go_wp2_with fail
 go_ret
 exact ⟨rfl, 0, rfl⟩
set_option maxRecDepth 100000 in
set_option maxHeartbeats 4000000 in
theorem changed_any (C : CacheP) (room : Int) (ps us : List Int) (f : Int → Option ItemD) (w : World) (h : CacheRaw w C room ps f us) (hu : us.length ≤ 100000) (hf : ∀ m ∈ us, f m ≠ none) :
  Calls Tryz.prog 25 #[ptr C.g] w fun e w' => ∃ v, e = .returned v ∧ w'.ownsRow w.heap.size 3 1 v ((sortI us).filter (isChanged f)).length (((sortI us).filter (isChanged f)).map (Value.int .i64)) ∧ Below w.heap.size w w' := by
 obtain ⟨W, eW⟩ : ∃ W, W = w.alloc (.cells #[ptr C.g] 35) := ⟨_, rfl⟩
 have hbW : Below w.heap.size w W := by rw [eW]; exact (Below.refl _ w).alloc (Nat.le_refl _) _
 have k0 : Blk W w.heap.size 35 #[ptr C.g] := by rw [eW]; exact Blk.new w _ _
 have hW := h.below hbW
 have HH := Lib.hid (hand_any C room ps us f W hW hu)
 have HW := Lib.hid hW
 have HB := Lib.hid hbW
 have HF := Lib.hid (fun m (hm : m ∈ sortI us) => hf m ((List.mergeSort_perm _ _).mem_iff.1 hm))
 have hsl := sortI_len us
 have c0 := k0.cell_is 0 rfl
 unfold ptr at *
 clear h hbW hW
 go_enter Tryz.func25, Tryz.ntmps25
 go_upto_region 1 with fail
 rw [← eW]
 clear eW
 go_wp2_with fail
 refine HH.out.mono ?_; rintro e w1 ⟨v, rfl, ho, hb1⟩
 have H1 := Lib.hid (HW.out.below hb1)
 have k1 := k0.below hb1 k0.lt
 have hws : w.heap.size < W.heap.size := k0.lt
 have hge : ∀ g, v.ownBlock = some g → W.heap.size ≤ g := fun g hg => (World.ownsRow.lt ho g hg).1
 have hlt1 : ∀ i, i < W.heap.size → i < w1.heap.size := fun i hi => by have := hb1.size; omega
 have c1 := k1.cell_is 0 rfl
 rw [← hsl] at ho
 have hD := del_in (fun m => !isChanged f m) 51 #[.pointer (some ⟨w.heap.size, 0, none⟩)] (enters_of Tryz.func51 rfl rfl) w1 W.heap.size v (sortI us) (by omega) ho (fun X x hx hX => by
  have hXC : CacheRaw X C room ps f us := by
   exact H1.out.same (fun i hi => hX i (H1.out.has_lt i hi) (fun e => by have := hge i e.symm; have := HW.out.has_lt i hi; omega))
  have hXc : X.cell? ⟨w.heap.size, 0, none⟩ = some (ptr C.g) := (heap_cell (hX w.heap.size k1.lt (fun e => by have := hge _ e.symm; omega))).trans c1
  exact changed1_gives C room ps us f X w.heap.size x hXC hXc (HF.out x hx))
 rw [show ((sortI us).filter fun x => !(!isChanged f x)) = (sortI us).filter (isChanged f) by congr 1; funext x; simp] at hD
 have HD := Lib.hid hD
 have HB1 := Lib.hid (HB.out.trans (hb1.mono (by omega)))
 clear hD ho hge hlt1 hb1
 go_wp2_with fail
 refine HD.out.mono ?_; rintro e w2 ⟨v2, rfl, ho2, hb2⟩
 have HO2 := Lib.hid ho2
 have HB2 := Lib.hid hb2
 obtain ⟨a2, cap2, rfl⟩ := slice_form ho2
 clear ho2 hb2
 go_wp2_with fail
 go_ret
 exact ⟨_, rfl, HO2.out.mono (by omega), HB1.out.trans (HB2.out.mono (by omega))⟩
end Go.Proofs.YtemcgfncahccgaaGreat
