/-
  The reference's codec: GetKey of 20 bytes. (Written by gen_lr5e.py.)
  What the reference's codec answers for a sector's bytes is what the program's answers: plain.
  The reference's codec: Get, where it answers before it reads an object.
  The reference codec's Put, of an object that may not be.
-/
import Derived.Deep.RegionHeld3
import Derived.Test.YtemcgfncahccgaaGreatCh1
import Derived.Test.YtemcgfncahccgaaGreatCh5
import Derived.Test.YtemcgfncahccgaaGreatCh6
import Derived.Test.YtemcgfncahccgaaGreatCh14
import Derived.Test.YtemcgfncahccgaaGreatCh24
import Derived.Test.YtemcgfncahccgaaGreatCh25
import Derived.Test.YtemcgfncahccgaaGreatCh26
import Derived.Test.YtemcgfncahccgaaGreatCh27
set_option linter.unusedVariables false
set_option linter.unusedSimpArgs false
namespace Go.Proofs.YtemcgfncahccgaaGreat
open Go.RowKit

theorem leN_one (l : List UInt8) (i : Nat) (hi : i < l.length) : leN ((l.drop i).take 1) = (l[i]).toNat := by
 rw [List.drop_eq_getElem_cons hi]
 show leN [l[i]] = _
 simp [leN]
set_option maxRecDepth 100000 in
set_option maxHeartbeats 2000000 in
theorem rgetkey_any (v : Value) (bs : List UInt8) (w : World) (hv : BytesIn w w.heap.size v bs) (hl : bs.length = 20) :
  Calls Tryz.prog 113 #[v] w fun e w' => e = .returned (.tuple #[.agg (if okK (keyOf bs) then keyOf bs else keyZ).cells.toArray, .int .i64 (if okK (keyOf bs) then 0 else 151)]) ∧ Below w.heap.size w w' := by
 have hc0 : bs[0]? = some (bs[0]'(by omega)) := List.getElem?_eq_getElem (by omega)
 have hc1 : bs[1]? = some (bs[1]'(by omega)) := List.getElem?_eq_getElem (by omega)
 obtain ⟨h1, a, cap, rfl, hcap, h2⟩ := hv
 obtain ⟨g, off, rfl, hg, hcell0⟩ := h2 0 _ hc0
 obtain ⟨g2, off2, e2, -, hcell1⟩ := h2 1 _ hc1
 injection e2 with e2; injection e2 with e2 e3; subst e2 e3
 have HV := Lib.hid (show BytesIn w w.heap.size (.slice (some ⟨g, off, none⟩) bs.length cap) bs from ⟨h1, _, _, rfl, hcap, h2⟩)
 have hk0 : (leN ((bs.drop 0).take 1) : Int) = ((bs[0]'(by omega)).toNat : Int) := by rw [leN_one bs 0 (by omega)]
 have hk1 : (leN ((bs.drop 1).take 1) : Int) = ((bs[1]'(by omega)).toNat : Int) := by rw [leN_one bs 1 (by omega)]
 generalize bs[0]'(by omega) = p at *
 generalize bs[1]'(by omega) = q at *
 rw [hl] at hcap ⊢
 clear h2 h1 hc0 hc1
 have c4 : (4 : Int) ≤ (cap : Int) := by omega
 have c8 : (8 : Int) ≤ (cap : Int) := by omega
 have c12 : (12 : Int) ≤ (cap : Int) := by omega
 have c20 : (20 : Int) ≤ (cap : Int) := by omega
 have n2 : ¬ cap = 2 := by omega
 have n4 : ¬ cap = 4 := by omega
 have n8 : ¬ cap = 8 := by omega
 have n12 : ¬ cap = 12 := by omega
 have hu := HV.out
 have HN : ∀ (i j : Nat) (hi : 0 < i) (hi2 : i < 20) (hij : i ≤ j) (hj : j ≤ 20) (h8 : j - i ≤ 8) (w' : World) (hb : Below w.heap.size w w'), Calls Tryz.prog 112 #[.slice (some ⟨g, off + i, none⟩) (j - i) (cap - i)] w' fun e w'' => e = .returned (.int .u64 (leN ((bs.drop i).take (j - i)))) ∧ w' = w'' := by
  intro i j hi hi2 hij hj h8 w' hb
  have hc := ((hu.cut i j hij (by omega) (by omega)).below hb (Nat.le_refl _)).mono hb.size
  rw [if_neg (by omega), Option.map_some, add_at] at hc
  exact rnum5_any _ _ w' hc (by rw [List.length_take]; omega)
 have hx : keyOf bs = ⟨p.toNat, leN ((bs.drop 2).take 2), leN ((bs.drop 4).take 4), leN ((bs.drop 8).take 4), q.toNat, IntKind.i64.wrap (leN ((bs.drop 12).take 8) : Int)⟩ := by
  rw [← hk0, ← hk1]; rfl
 have l2 := leN_lt ((bs.drop 2).take 2)
 have l4 := leN_lt ((bs.drop 4).take 4)
 have l8 := leN_lt ((bs.drop 8).take 4)
 have l12 := leN_small ((bs.drop 12).take 8) 8 (by rw [List.length_take]; omega) (by omega)
 have m2 : ((bs.drop 2).take 2).length = 2 := by rw [List.length_take, List.length_drop]; omega
 have m4 : ((bs.drop 4).take 4).length = 4 := by rw [List.length_take, List.length_drop]; omega
 have m8 : ((bs.drop 8).take 4).length = 4 := by rw [List.length_take, List.length_drop]; omega
 rw [m2] at l2
 rw [m4] at l4
 rw [m8] at l8
 have H2 := HN 2 4 (by omega) (by omega) (by omega) (by omega) (by omega)
 have H4 := HN 4 8 (by omega) (by omega) (by omega) (by omega) (by omega)
 have H8 := HN 8 12 (by omega) (by omega) (by omega) (by omega) (by omega)
 have H12 := HN 12 20 (by omega) (by omega) (by omega) (by omega) (by omega)
 simp only [Nat.reduceSub] at H2 H4 H8 H12
 rw [hx]
 clear HN hx m2 m4 m8 hk0 hk1 hu
 generalize leN ((bs.drop 2).take 2) = O at *
 generalize leN ((bs.drop 4).take 4) = C at *
 generalize leN ((bs.drop 8).take 4) = A at *
 generalize leN ((bs.drop 12).take 8) = V at *
 have sP : IntKind.i64.wrap (p.toNat : Int) = p.toNat := by have := u8_lt p; rw [IntKind.wrap_i64]; omega
 have sQ : IntKind.i64.wrap (q.toNat : Int) = q.toNat := by have := u8_lt q; rw [IntKind.wrap_i64]; omega
 have sO : IntKind.i64.wrap (O : Int) = O := by rw [IntKind.wrap_i64]; omega
 have sC : IntKind.i64.wrap (C : Int) = C := by rw [IntKind.wrap_i64]; omega
 have sA : IntKind.i64.wrap (A : Int) = A := by rw [IntKind.wrap_i64]; omega
 obtain ⟨V2, eV2⟩ : ∃ V2, V2 = IntKind.i64.wrap (V : Int) := ⟨_, rfl⟩
 rw [← eV2]
 have HSG := fun (w : World) => rsigned_any V w l12
 rw [← eV2] at HSG
 have HG := Lib.hid HSG
 have hQ := u8_lt q
 have H2' := Lib.hid H2
 have H4' := Lib.hid H4
 have H8' := Lib.hid H8
 have H12' := Lib.hid H12
 clear eV2 HSG l2 l4 l8 l12 H2 H4 H8 H12
 obtain ⟨B, eB⟩ : ∃ B, B = okK ⟨p.toNat, O, C, A, q.toNat, V2⟩ := ⟨_, rfl⟩
 have HCK := Lib.hid (fun W => rcheck_any p.toNat O C A q.toNat V2 W (by omega))
 rw [show ofB p.toNat O C A q.toNat V2 = B from eB.symm] at HCK
 rw [← eB]
 obtain ⟨RV, eRV⟩ : ∃ RV, RV = Value.tuple #[.agg (if B = true then (⟨p.toNat, O, C, A, q.toNat, V2⟩ : KeyD) else keyZ).cells.toArray, .int .i64 (if B = true then 0 else 151)] := ⟨_, rfl⟩
 rw [← eRV]
 have HRV := Lib.hid eRV
 clear eRV eB
 go_enter Tryz.func113, Tryz.ntmps113
 go_wp2_with fail
 obtain ⟨W, eW⟩ : ∃ W, W = w.alloc (.cells #[.int .i64 0, .int .i64 0, .int .i64 0, .int .i64 0, .int .i64 0, .int .i64 0] 43) := ⟨_, rfl⟩
 rw [← eW]
 have hW : Below w.heap.size w W := by rw [eW]; exact (Below.refl _ w).alloc (Nat.le_refl _) _
 have z0 := (hW.cell (p := ⟨g, off + 0, none⟩) hg).trans hcell0
 have z1 := (hW.cell (p := ⟨g, off + 1, none⟩) hg).trans hcell1
 have hZ : Blk W w.heap.size 43 #[.int .i64 0, .int .i64 0, .int .i64 0, .int .i64 0, .int .i64 0, .int .i64 0] := by rw [eW]; exact Blk.new w _ _
 clear eW
 have hWd : Below w.heap.size w W.drew := hW.drew
 have z0d : W.drew.cell? ⟨g, off, none⟩ = some (vu8 p) := z0
 have z1d : W.drew.cell? ⟨g, off + 1, none⟩ = some (vu8 q) := z1
 have HSA : ∀ (X : World) (o : Obj), (fun w' => Below w.heap.size w w' ∧ w'.cell? ⟨g, off, none⟩ = some (vu8 p) ∧ w'.cell? ⟨g, off + 1, none⟩ = some (vu8 q)) X → (fun w' => Below w.heap.size w w' ∧ w'.cell? ⟨g, off, none⟩ = some (vu8 p) ∧ w'.cell? ⟨g, off + 1, none⟩ = some (vu8 q)) (X.alloc o) := by
  intro X o h
  have hb := (Below.refl X.heap.size X).alloc (Nat.le_refl _) o
  have hs := h.1.size
  exact ⟨h.1.alloc hs _, (hb.cell (p := ⟨g, off, none⟩) (show g < _ by omega)).trans h.2.1, (hb.cell (p := ⟨g, off + 1, none⟩) (show g < _ by omega)).trans h.2.2⟩
 have HSR : ∀ (X : World) (cs : Array Value), (fun w' => Below w.heap.size w w' ∧ w'.cell? ⟨g, off, none⟩ = some (vu8 p) ∧ w'.cell? ⟨g, off + 1, none⟩ = some (vu8 q)) X → (fun w' => Below w.heap.size w w' ∧ w'.cell? ⟨g, off, none⟩ = some (vu8 p) ∧ w'.cell? ⟨g, off + 1, none⟩ = some (vu8 q)) (X.setRow W.heap.size cs) := by
  intro X cs h
  have hs := hW.size
  have hb := below_row (Below.refl W.heap.size X) cs (Nat.le_refl _)
  exact ⟨below_row h.1 cs hs, (hb.cell (p := ⟨g, off, none⟩) (show g < _ by omega)).trans h.2.1, (hb.cell (p := ⟨g, off + 1, none⟩) (show g < _ by omega)).trans h.2.2⟩
 have HNB := Lib.hid (Blk.new W.drew 43 #[.int .i64 0, .int .i64 0, .int .i64 0, .int .i64 0, .int .i64 0, .int .i64 0])
 obtain ⟨F, eF⟩ : ∃ F, F = (W.drew.alloc (.cells #[.int .i64 0, .int .i64 0, .int .i64 0, .int .i64 0, .int .i64 0, .int .i64 0] 43)).setRow W.heap.size #[.int .i64 p.toNat, .int .i64 O, .int .i64 C, .int .i64 A, .int .i64 q.toNat, .int .i64 V2] := ⟨_, rfl⟩
 have HF := Lib.hid (show Below w.heap.size w F ∧ Blk F W.heap.size 43 #[.int .i64 p.toNat, .int .i64 O, .int .i64 C, .int .i64 A, .int .i64 q.toNat, .int .i64 V2] ∧ Blk F w.heap.size 43 #[.int .i64 0, .int .i64 0, .int .i64 0, .int .i64 0, .int .i64 0, .int .i64 0] from by
  have hs := hW.size
  have hlt := hZ.lt
  rw [eF]
  exact ⟨below_row (hWd.alloc hs _) _ hs, HNB.out.row _, ((hZ.drew).alloc _).row_far _ (by omega)⟩)
 refine' wp_merge (ι := Unit) (fun _ => (_ : Act)) (fun _ X => X = F) ?_ ?_
 rotate_left 1
 ·skip
  refine wp_region_held_drew (S := (fun w' => Below w.heap.size w w' ∧ w'.cell? ⟨g, off, none⟩ = some (vu8 p) ∧ w'.cell? ⟨g, off + 1, none⟩ = some (vu8 q))) (by kernel_rfl) (by first | exact ⟨hWd, z0d, z1d⟩ | ((try dsimp only); exact ⟨hWd, z0d, z1d⟩)) (fun hHeld => ?_)
  refine tk 0 ?_
  refine tk 4 ?_
  refine tk 8 ?_
  refine tk 12 ?_
  refine tk 16 ?_
  refine tk 20 ?_
  refine tk 1 ?_
  refine tk 5 ?_
  refine tk 9 ?_
  refine tk 13 ?_
  refine tk 17 ?_
  refine tk 21 ?_
  refine tk 2 ?_
  refine tk 6 ?_
  refine tk 3 ?_
  refine tk 7 ?_
  refine wpAnyH_ready (rs := [10, 25]) (by kernel_rfl) (by simp) ?_
  refine (AllReadyH.cons rfl (fun K hK => ?_) (AllReadyH.cons rfl (fun K hK => ?_) AllReadyH.nil))
  ·skip
   go_simp
   refine (H2'.out _ hHeld.1).mono ?_; rintro e w' ⟨rfl, hwc⟩; subst hwc
   go_wp2_with fail
   refine hK.out _ _ (by first | exact hHeld | ((try dsimp only); exact hHeld)) (fun hHeld => ?_)
   clear hK K
   try simp only [Act.put, pz0, pz1, pz2, pz3, pz4, pz5]
   refine tk 11 ?_
   refine wpAnyH_ready (rs := [14, 25]) (by kernel_rfl) (by simp) ?_
   refine (AllReadyH.cons rfl (fun K hK => ?_) (AllReadyH.cons rfl (fun K hK => ?_) AllReadyH.nil))
   ·skip
    go_simp
    refine (H4'.out _ hHeld.1).mono ?_; rintro e w' ⟨rfl, hwc⟩; subst hwc
    go_wp2_with fail
    refine hK.out _ _ (by first | exact hHeld | ((try dsimp only); exact hHeld)) (fun hHeld => ?_)
    clear hK K
    try simp only [Act.put, pz0, pz1, pz2, pz3, pz4, pz5]
    refine tk 15 ?_
    refine wpAnyH_ready (rs := [18, 25]) (by kernel_rfl) (by simp) ?_
    refine (AllReadyH.cons rfl (fun K hK => ?_) (AllReadyH.cons rfl (fun K hK => ?_) AllReadyH.nil))
    ·skip
     go_simp
     refine (H8'.out _ hHeld.1).mono ?_; rintro e w' ⟨rfl, hwc⟩; subst hwc
     go_wp2_with fail
     refine hK.out _ _ (by first | exact hHeld | ((try dsimp only); exact hHeld)) (fun hHeld => ?_)
     clear hK K
     try simp only [Act.put, pz0, pz1, pz2, pz3, pz4, pz5]
     refine tk 19 ?_
     refine wpAnyH_ready (rs := [22, 25]) (by kernel_rfl) (by simp) ?_
     refine (AllReadyH.cons rfl (fun K hK => ?_) (AllReadyH.cons rfl (fun K hK => ?_) AllReadyH.nil))
     ·skip
      go_simp
      refine (H12'.out _ hHeld.1).mono ?_; rintro e w' ⟨rfl, hwc⟩; subst hwc
      go_wp2_with fail
      refine hK.out _ _ (by first | exact hHeld | ((try dsimp only); exact hHeld)) (fun hHeld => ?_)
      clear hK K
      try simp only [Act.put, pz0, pz1, pz2, pz3, pz4, pz5]
      refine wpAnyH_ready (rs := [23, 25]) (by kernel_rfl) (by simp) ?_
      refine (AllReadyH.cons rfl (fun K hK => ?_) (AllReadyH.cons rfl (fun K hK => ?_) AllReadyH.nil))
      ·skip
       go_simp
       refine (HG.out _).mono ?_; rintro e w' ⟨rfl, hwc⟩; subst hwc
       go_wp2_with fail
       refine hK.out _ _ (by first | exact hHeld | ((try dsimp only); exact hHeld)) (fun hHeld => ?_)
       clear hK K
       try simp only [Act.put, pz0, pz1, pz2, pz3, pz4, pz5]
       refine tk 24 ?_
       refine rd 25 fun K hK => ?_
       go_simp
       refine hK.out _ _ (by first | exact HSA _ _ hHeld | ((try dsimp only); exact HSA _ _ hHeld)) (fun hHeld => ?_)
       clear hK K
       try simp only [Act.put, pz0, pz1, pz2, pz3, pz4, pz5]
       refine rd 26 fun K hK => ?_
       refine wp_store_row 43 _ _ rfl W.heap.size #[.int .i64 p.toNat, .int .i64 O, .int .i64 C, .int .i64 A, .int .i64 q.toNat, .int .i64 V2] rfl rfl 43 _ HNB.out (by show _ = some 6; kernel_rfl) rfl (by simp [Value.oneCell']) ?_
       refine hK.out _ _ (by first | exact HSR _ _ hHeld | ((try dsimp only); exact HSR _ _ hHeld)) (fun hHeld => ?_)
       clear hK K
       try simp only [Act.put, pz0, pz1, pz2, pz3, pz4, pz5]
       refine wpAnyH_done (by kernel_rfl) ?_ _
       try simp only [Act.put, pz0, pz1, pz2, pz3, pz4, pz5]
       refine ⟨(), ?_, eF.symm⟩
       first | with_reducible rfl | trivial
      ·skip
       go_simp
       refine hK.out _ _ (by first | exact HSA _ _ hHeld | ((try dsimp only); exact HSA _ _ hHeld)) (fun hHeld => ?_)
       clear hK K
       try simp only [Act.put, pz0, pz1, pz2, pz3, pz4, pz5]
       refine rd 23 fun K hK => ?_
       go_simp
       refine (HG.out _).mono ?_; rintro e w' ⟨rfl, hwc⟩; subst hwc
       go_wp2_with fail
       refine hK.out _ _ (by first | exact hHeld | ((try dsimp only); exact hHeld)) (fun hHeld => ?_)
       clear hK K
       try simp only [Act.put, pz0, pz1, pz2, pz3, pz4, pz5]
       refine tk 24 ?_
       refine rd 26 fun K hK => ?_
       refine wp_store_row 43 _ _ rfl W.heap.size #[.int .i64 p.toNat, .int .i64 O, .int .i64 C, .int .i64 A, .int .i64 q.toNat, .int .i64 V2] rfl rfl 43 _ HNB.out (by show _ = some 6; kernel_rfl) rfl (by simp [Value.oneCell']) ?_
       refine hK.out _ _ (by first | exact HSR _ _ hHeld | ((try dsimp only); exact HSR _ _ hHeld)) (fun hHeld => ?_)
       clear hK K
       try simp only [Act.put, pz0, pz1, pz2, pz3, pz4, pz5]
       refine wpAnyH_done (by kernel_rfl) ?_ _
       try simp only [Act.put, pz0, pz1, pz2, pz3, pz4, pz5]
       refine ⟨(), ?_, eF.symm⟩
       first | with_reducible rfl | trivial
     ·skip
      go_simp
      refine hK.out _ _ (by first | exact HSA _ _ hHeld | ((try dsimp only); exact HSA _ _ hHeld)) (fun hHeld => ?_)
      clear hK K
      try simp only [Act.put, pz0, pz1, pz2, pz3, pz4, pz5]
      refine rd 22 fun K hK => ?_
      go_simp
      refine (H12'.out _ hHeld.1).mono ?_; rintro e w' ⟨rfl, hwc⟩; subst hwc
      go_wp2_with fail
      refine hK.out _ _ (by first | exact hHeld | ((try dsimp only); exact hHeld)) (fun hHeld => ?_)
      clear hK K
      try simp only [Act.put, pz0, pz1, pz2, pz3, pz4, pz5]
      refine rd 23 fun K hK => ?_
      go_simp
      refine (HG.out _).mono ?_; rintro e w' ⟨rfl, hwc⟩; subst hwc
      go_wp2_with fail
      refine hK.out _ _ (by first | exact hHeld | ((try dsimp only); exact hHeld)) (fun hHeld => ?_)
      clear hK K
      try simp only [Act.put, pz0, pz1, pz2, pz3, pz4, pz5]
      refine tk 24 ?_
      refine rd 26 fun K hK => ?_
      refine wp_store_row 43 _ _ rfl W.heap.size #[.int .i64 p.toNat, .int .i64 O, .int .i64 C, .int .i64 A, .int .i64 q.toNat, .int .i64 V2] rfl rfl 43 _ HNB.out (by show _ = some 6; kernel_rfl) rfl (by simp [Value.oneCell']) ?_
      refine hK.out _ _ (by first | exact HSR _ _ hHeld | ((try dsimp only); exact HSR _ _ hHeld)) (fun hHeld => ?_)
      clear hK K
      try simp only [Act.put, pz0, pz1, pz2, pz3, pz4, pz5]
      refine wpAnyH_done (by kernel_rfl) ?_ _
      try simp only [Act.put, pz0, pz1, pz2, pz3, pz4, pz5]
      refine ⟨(), ?_, eF.symm⟩
      first | with_reducible rfl | trivial
    ·skip
     go_simp
     refine hK.out _ _ (by first | exact HSA _ _ hHeld | ((try dsimp only); exact HSA _ _ hHeld)) (fun hHeld => ?_)
     clear hK K
     try simp only [Act.put, pz0, pz1, pz2, pz3, pz4, pz5]
     refine rd 18 fun K hK => ?_
     go_simp
     refine (H8'.out _ hHeld.1).mono ?_; rintro e w' ⟨rfl, hwc⟩; subst hwc
     go_wp2_with fail
     refine hK.out _ _ (by first | exact hHeld | ((try dsimp only); exact hHeld)) (fun hHeld => ?_)
     clear hK K
     try simp only [Act.put, pz0, pz1, pz2, pz3, pz4, pz5]
     refine tk 19 ?_
     refine rd 22 fun K hK => ?_
     go_simp
     refine (H12'.out _ hHeld.1).mono ?_; rintro e w' ⟨rfl, hwc⟩; subst hwc
     go_wp2_with fail
     refine hK.out _ _ (by first | exact hHeld | ((try dsimp only); exact hHeld)) (fun hHeld => ?_)
     clear hK K
     try simp only [Act.put, pz0, pz1, pz2, pz3, pz4, pz5]
     refine rd 23 fun K hK => ?_
     go_simp
     refine (HG.out _).mono ?_; rintro e w' ⟨rfl, hwc⟩; subst hwc
     go_wp2_with fail
     refine hK.out _ _ (by first | exact hHeld | ((try dsimp only); exact hHeld)) (fun hHeld => ?_)
     clear hK K
     try simp only [Act.put, pz0, pz1, pz2, pz3, pz4, pz5]
     refine tk 24 ?_
     refine rd 26 fun K hK => ?_
     refine wp_store_row 43 _ _ rfl W.heap.size #[.int .i64 p.toNat, .int .i64 O, .int .i64 C, .int .i64 A, .int .i64 q.toNat, .int .i64 V2] rfl rfl 43 _ HNB.out (by show _ = some 6; kernel_rfl) rfl (by simp [Value.oneCell']) ?_
     refine hK.out _ _ (by first | exact HSR _ _ hHeld | ((try dsimp only); exact HSR _ _ hHeld)) (fun hHeld => ?_)
     clear hK K
     try simp only [Act.put, pz0, pz1, pz2, pz3, pz4, pz5]
     refine wpAnyH_done (by kernel_rfl) ?_ _
     try simp only [Act.put, pz0, pz1, pz2, pz3, pz4, pz5]
     refine ⟨(), ?_, eF.symm⟩
     first | with_reducible rfl | trivial
   ·skip
    go_simp
    refine hK.out _ _ (by first | exact HSA _ _ hHeld | ((try dsimp only); exact HSA _ _ hHeld)) (fun hHeld => ?_)
    clear hK K
    try simp only [Act.put, pz0, pz1, pz2, pz3, pz4, pz5]
    refine rd 14 fun K hK => ?_
    go_simp
    refine (H4'.out _ hHeld.1).mono ?_; rintro e w' ⟨rfl, hwc⟩; subst hwc
    go_wp2_with fail
    refine hK.out _ _ (by first | exact hHeld | ((try dsimp only); exact hHeld)) (fun hHeld => ?_)
    clear hK K
    try simp only [Act.put, pz0, pz1, pz2, pz3, pz4, pz5]
    refine tk 15 ?_
    refine rd 18 fun K hK => ?_
    go_simp
    refine (H8'.out _ hHeld.1).mono ?_; rintro e w' ⟨rfl, hwc⟩; subst hwc
    go_wp2_with fail
    refine hK.out _ _ (by first | exact hHeld | ((try dsimp only); exact hHeld)) (fun hHeld => ?_)
    clear hK K
    try simp only [Act.put, pz0, pz1, pz2, pz3, pz4, pz5]
    refine tk 19 ?_
    refine rd 22 fun K hK => ?_
    go_simp
    refine (H12'.out _ hHeld.1).mono ?_; rintro e w' ⟨rfl, hwc⟩; subst hwc
    go_wp2_with fail
    refine hK.out _ _ (by first | exact hHeld | ((try dsimp only); exact hHeld)) (fun hHeld => ?_)
    clear hK K
    try simp only [Act.put, pz0, pz1, pz2, pz3, pz4, pz5]
    refine rd 23 fun K hK => ?_
    go_simp
    refine (HG.out _).mono ?_; rintro e w' ⟨rfl, hwc⟩; subst hwc
    go_wp2_with fail
    refine hK.out _ _ (by first | exact hHeld | ((try dsimp only); exact hHeld)) (fun hHeld => ?_)
    clear hK K
    try simp only [Act.put, pz0, pz1, pz2, pz3, pz4, pz5]
    refine tk 24 ?_
    refine rd 26 fun K hK => ?_
    refine wp_store_row 43 _ _ rfl W.heap.size #[.int .i64 p.toNat, .int .i64 O, .int .i64 C, .int .i64 A, .int .i64 q.toNat, .int .i64 V2] rfl rfl 43 _ HNB.out (by show _ = some 6; kernel_rfl) rfl (by simp [Value.oneCell']) ?_
    refine hK.out _ _ (by first | exact HSR _ _ hHeld | ((try dsimp only); exact HSR _ _ hHeld)) (fun hHeld => ?_)
    clear hK K
    try simp only [Act.put, pz0, pz1, pz2, pz3, pz4, pz5]
    refine wpAnyH_done (by kernel_rfl) ?_ _
    try simp only [Act.put, pz0, pz1, pz2, pz3, pz4, pz5]
    refine ⟨(), ?_, eF.symm⟩
    first | with_reducible rfl | trivial
  ·skip
   go_simp
   refine hK.out _ _ (by first | exact HSA _ _ hHeld | ((try dsimp only); exact HSA _ _ hHeld)) (fun hHeld => ?_)
   clear hK K
   try simp only [Act.put, pz0, pz1, pz2, pz3, pz4, pz5]
   refine rd 10 fun K hK => ?_
   go_simp
   refine (H2'.out _ hHeld.1).mono ?_; rintro e w' ⟨rfl, hwc⟩; subst hwc
   go_wp2_with fail
   refine hK.out _ _ (by first | exact hHeld | ((try dsimp only); exact hHeld)) (fun hHeld => ?_)
   clear hK K
   try simp only [Act.put, pz0, pz1, pz2, pz3, pz4, pz5]
   refine tk 11 ?_
   refine rd 14 fun K hK => ?_
   go_simp
   refine (H4'.out _ hHeld.1).mono ?_; rintro e w' ⟨rfl, hwc⟩; subst hwc
   go_wp2_with fail
   refine hK.out _ _ (by first | exact hHeld | ((try dsimp only); exact hHeld)) (fun hHeld => ?_)
   clear hK K
   try simp only [Act.put, pz0, pz1, pz2, pz3, pz4, pz5]
   refine tk 15 ?_
   refine rd 18 fun K hK => ?_
   go_simp
   refine (H8'.out _ hHeld.1).mono ?_; rintro e w' ⟨rfl, hwc⟩; subst hwc
   go_wp2_with fail
   refine hK.out _ _ (by first | exact hHeld | ((try dsimp only); exact hHeld)) (fun hHeld => ?_)
   clear hK K
   try simp only [Act.put, pz0, pz1, pz2, pz3, pz4, pz5]
   refine tk 19 ?_
   refine rd 22 fun K hK => ?_
   go_simp
   refine (H12'.out _ hHeld.1).mono ?_; rintro e w' ⟨rfl, hwc⟩; subst hwc
   go_wp2_with fail
   refine hK.out _ _ (by first | exact hHeld | ((try dsimp only); exact hHeld)) (fun hHeld => ?_)
   clear hK K
   try simp only [Act.put, pz0, pz1, pz2, pz3, pz4, pz5]
   refine rd 23 fun K hK => ?_
   go_simp
   refine (HG.out _).mono ?_; rintro e w' ⟨rfl, hwc⟩; subst hwc
   go_wp2_with fail
   refine hK.out _ _ (by first | exact hHeld | ((try dsimp only); exact hHeld)) (fun hHeld => ?_)
   clear hK K
   try simp only [Act.put, pz0, pz1, pz2, pz3, pz4, pz5]
   refine tk 24 ?_
   refine rd 26 fun K hK => ?_
   refine wp_store_row 43 _ _ rfl W.heap.size #[.int .i64 p.toNat, .int .i64 O, .int .i64 C, .int .i64 A, .int .i64 q.toNat, .int .i64 V2] rfl rfl 43 _ HNB.out (by show _ = some 6; kernel_rfl) rfl (by simp [Value.oneCell']) ?_
   refine hK.out _ _ (by first | exact HSR _ _ hHeld | ((try dsimp only); exact HSR _ _ hHeld)) (fun hHeld => ?_)
   clear hK K
   try simp only [Act.put, pz0, pz1, pz2, pz3, pz4, pz5]
   refine wpAnyH_done (by kernel_rfl) ?_ _
   try simp only [Act.put, pz0, pz1, pz2, pz3, pz4, pz5]
   refine ⟨(), ?_, eF.symm⟩
   first | with_reducible rfl | trivial
 clear HNB HSA HSR eF HG H2' H4' H8' H12' hWd z0d z1d z0 z1
 rintro _ X hX
 subst hX
 obtain ⟨G, eG⟩ : ∃ G, G = W.heap.size := ⟨_, rfl⟩
 rw [← eG] at HF
 try rw [← eG]
 have hFK := HF.out.2.1
 have hFZ := HF.out.2.2
 have hFB := HF.out.1
 have hGw : w.heap.size ≤ G := by rw [eG]; exact hW.size
 clear eG HF
 go_wp2_with (refine wpList_load_row rfl 43 _ rfl G rfl 43 #[.int .i64 p.toNat, .int .i64 O, .int .i64 C, .int .i64 A, .int .i64 q.toNat, .int .i64 V2] (0, 0) _ hFK Tryz.underlying43 rfl (by show _ = some 6; kernel_rfl) ?_)
 refine (HCK.out X).mono ?_; rintro e w1 ⟨rfl, hb1⟩
 have b01 := hFK.below hb1 hFK.lt
 have c01 := hFZ.below hb1 hFZ.lt
 have hw1 := hFB.trans (hb1.mono hFB.size)
 have hRV := HRV
 cases B
 ·unfold errB
  simp only [Bool.false_eq_true, if_false] at hRV ⊢
  go_wp2_with (refine wpList_store_row rfl 43 _ _ rfl w.heap.size #[.int .i64 0, .int .i64 0, .int .i64 0, .int .i64 0, .int .i64 0, .int .i64 0] rfl rfl 43 _ c01 (by show _ = some 6; kernel_rfl) rfl (by simp [Value.oneCell']) ?_)
  exact bodyPost_ret (results_row_tmp Tryz.results113 _ _ w.heap.size 43 #[.int .i64 0, .int .i64 0, .int .i64 0, .int .i64 0, .int .i64 0, .int .i64 0] (0, 0) _ rfl (c01.row _) Tryz.underlying43 rfl (by show _ = some 6; kernel_rfl) _ rfl) rfl ⟨by rw [hRV.out]; rfl, below_row hw1 _ (Nat.le_refl _)⟩
 ·unfold errB
  simp only [if_true] at hRV ⊢
  go_wp2_with (first | (refine wpList_load_row rfl 43 _ rfl G rfl 43 #[.int .i64 p.toNat, .int .i64 O, .int .i64 C, .int .i64 A, .int .i64 q.toNat, .int .i64 V2] (0, 0) _ b01 Tryz.underlying43 rfl (by show _ = some 6; kernel_rfl) ?_) | (refine wpList_store_row rfl 43 _ _ rfl w.heap.size #[.int .i64 p.toNat, .int .i64 O, .int .i64 C, .int .i64 A, .int .i64 q.toNat, .int .i64 V2] rfl rfl 43 _ c01 (by show _ = some 6; kernel_rfl) rfl (by simp [Value.oneCell']) ?_))
  exact bodyPost_ret (results_row_tmp Tryz.results113 _ _ w.heap.size 43 #[.int .i64 p.toNat, .int .i64 O, .int .i64 C, .int .i64 A, .int .i64 q.toNat, .int .i64 V2] (0, 0) _ rfl (c01.row _) Tryz.underlying43 rfl (by show _ = some 6; kernel_rfl) _ rfl) rfl ⟨by rw [hRV.out]; rfl, below_row hw1 _ (Nat.le_refl _)⟩
end Go.Proofs.YtemcgfncahccgaaGreat
namespace Go.Proofs.YtemcgfncahccgaaGreat
open Go.RowKit

theorem leB_cut (l : List UInt8) (i k : Nat) (h : i + k ≤ l.length) : leB (leN ((l.drop i).take k)) k = (l.drop i).take k := by
 have := leB_leN ((l.drop i).take k)
 rwa [show ((l.drop i).take k).length = k by rw [List.length_take, List.length_drop]; omega] at this
theorem u64_nat (n : Nat) (h : n < 18446744073709551616) : u64 (n : Int) = n := by unfold u64; omega
theorem u64_wrap (n : Nat) (h : n < 18446744073709551616) : u64 (IntKind.i64.wrap (n : Int)) = n := by rw [IntKind.wrap_i64]; unfold u64; omega
theorem cut_join (l : List UInt8) (i k m : Nat) : (l.drop i).take k ++ (l.drop (i + k)).take m = (l.drop i).take (k + m) := by
 rw [List.take_add, List.drop_drop]
theorem cut_small (l : List UInt8) (i k : Nat) (hk : k ≤ 8) : leN ((l.drop i).take k) < 18446744073709551616 := leN_small _ 8 (by rw [List.length_take]; omega) (by omega)
theorem keyB_keyOf (l : List UInt8) (h : 20 ≤ l.length) : keyB (keyOf l) = l.take 20 := by
 rw [keyB_eq]
 unfold keyOf
 simp only
 rw [u64_nat _ (cut_small l 0 1 (by omega)), u64_nat _ (cut_small l 1 1 (by omega)), u64_nat _ (cut_small l 2 2 (by omega)), u64_nat _ (cut_small l 4 4 (by omega)), u64_nat _ (cut_small l 8 4 (by omega)), u64_wrap _ (cut_small l 12 8 (by omega))]
 rw [leB_cut l 0 1 (by omega), leB_cut l 1 1 (by omega), leB_cut l 2 2 (by omega), leB_cut l 4 4 (by omega), leB_cut l 8 4 (by omega), leB_cut l 12 8 (by omega)]
 rw [cut_join l 8 4 8, cut_join l 4 4 (4 + 8), cut_join l 2 2 (4 + (4 + 8)), cut_join l 1 1 _, cut_join l 0 1 _]
 rfl
theorem slots_bytes (l : List UInt8) : ∀ n, 12 + 20 * n ≤ l.length → ((List.range n).map fun i => keyOf (l.drop (12 + 20 * i))).flatMap keyB = (l.drop 12).take (20 * n)
 | 0, _ => by simp
 | n + 1, h => by
  rw [List.range_succ, List.map_append, List.flatMap_append, slots_bytes l n (by omega)]
  simp only [List.map_cons, List.map_nil, List.flatMap_cons, List.flatMap_nil, List.append_nil]
  rw [keyB_keyOf _ (by rw [List.length_drop]; omega), cut_join l 12 (20 * n) 20]
  rfl
theorem objL_objOf (l : List UInt8) (h : l.length = 508) : objL (objOf l) = l.take 396 := by
 unfold objL objOf
 simp only
 rw [u64_nat _ (cut_small l 0 4 (by omega)), u64_nat _ (cut_small l 4 4 (by omega)), u64_nat _ (cut_small l 8 4 (by omega))]
 rw [leB_cut l 0 4 (by omega), leB_cut l 4 4 (by omega), leB_cut l 8 4 (by omega), slots_bytes l 16 (by omega)]
 rw [cut_join l 0 4 4, cut_join l 0 (4 + 4) 4, cut_join l 0 (4 + 4 + 4) (20 * 16), cut_join l 0 (4 + 4 + 4 + 20 * 16) 64]
 rfl
theorem pad_all (l : List UInt8) (h : l.length = 508) : padL (l.take 396) = l ↔ (l.drop 396).all (· == 0) = true := by
 have ht : (l.take 396).length = 396 := by rw [List.length_take]; omega
 unfold padL
 rw [ht]
 constructor
 ·intro e
  rw [← e, List.drop_left' ht]
  simp
 ·intro e
  have hz : l.drop 396 = List.replicate (508 - 396) 0 := by
   apply List.eq_replicate_iff.2
   refine ⟨by rw [List.length_drop]; omega, fun c hc => ?_⟩
   have := List.all_eq_true.1 e c hc
   simpa using this
  rw [← hz, List.take_append_drop]
/-- the object that the reference reads: its kind is one byte -/
def objR (l : List UInt8) : ObjD := { objOf l with kd := leN ((l.drop 0).take 1) }
theorem objR_of (l : List UInt8) (h : l.length = 508) (hk : leN ((l.drop 0).take 4) = leN ((l.drop 0).take 1)) : objR l = objOf l := by
 unfold objR objOf
 rw [hk]
theorem first_lt (l : List UInt8) (h : l.length = 508) (hk : leN ((l.drop 0).take 4) < 256) : leN ((l.drop 0).take 4) = leN ((l.drop 0).take 1) := by
 obtain ⟨c, r, rfl⟩ : ∃ c r, l = c :: r := by
  cases l with
  | nil => simp at h
  | cons c r => exact ⟨c, r, rfl⟩
 have e4 : leN (((c :: r).drop 0).take 4) = c.toNat + 256 * leN (r.take 3) := rfl
 have e1 : leN (((c :: r).drop 0).take 1) = c.toNat := by show c.toNat + 256 * leN (r.take 0) = _; simp [leN]
 rw [e4] at hk ⊢
 rw [e1]
 omega
theorem getR_iff (l : List UInt8) (h : l.length = 508) (n : Int) (hk : ∀ i, i < 16 → okK (keyOf (l.drop (12 + 20 * i))) = true) :
  (objB (objR l) n = true ∧ padL (objL (objR l)) = l) ↔ codeB l n = true := by
 have hs : ((List.range 16).all fun i => okK (keyOf (l.drop (12 + 20 * i)))) = true := List.all_eq_true.2 fun i hi => hk i (List.mem_range.1 hi)
 constructor
 ·rintro ⟨ho, hp⟩
  have hfirst : leN ((l.drop 0).take 4) = leN ((l.drop 0).take 1) := by
   have h1 : leN ((l.drop 0).take 1) < 256 := by
    have := leN_lt ((l.drop 0).take 1)
    have e : ((l.drop 0).take 1).length = 1 := by rw [List.length_take, List.length_drop]; omega
    rw [e] at this
    exact this
   have hl : (l.drop 0).take 4 = leB (leN ((l.drop 0).take 1)) 4 := by
    have e : objL (objR l) = leB (leN ((l.drop 0).take 1)) 4 ++ (leB (u64 (objR l).ct) 4 ++ leB (u64 (objR l).cl) 4 ++ (objR l).slots.flatMap keyB ++ (objR l).bytes) := by
     unfold objL
     rw [show u64 (objR l).kd = leN ((l.drop 0).take 1) from u64_nat _ (by omega)]
     simp only [List.append_assoc]
    have hA := leB_len (leN ((l.drop 0).take 1)) 4
    rw [List.drop_zero] at e hA ⊢
    generalize leB (leN (l.take 1)) 4 = A at e hA ⊢
    unfold padL at hp
    rw [e, List.append_assoc] at hp
    rw [← hp, List.take_left' hA]
   have := congrArg leN hl
   rw [leN_leB, Nat.mod_eq_of_lt (by omega)] at this
   exact this
  rw [objR_of l h hfirst] at ho hp
  rw [objL_objOf l h] at hp
  unfold codeB
  rw [hs, (pad_all l h).1 hp, ho]
  rfl
 ·intro hc
  unfold codeB at hc
  rw [hs, Bool.true_and, Bool.and_eq_true] at hc
  obtain ⟨hz, ho⟩ := hc
  have hkd := (objB_facts ho).1.2
  have hfirst := first_lt l h (by have : ((leN ((l.drop 0).take 4) : Nat) : Int) ≤ 3 := hkd; omega)
  rw [objR_of l h hfirst]
  refine ⟨ho, ?_⟩
  rw [objL_objOf l h]
  exact (pad_all l h).2 hz
end Go.Proofs.YtemcgfncahccgaaGreat
namespace Go.Proofs.YtemcgfncahccgaaGreat
open Go.RowKit

set_option maxRecDepth 100000 in
set_option maxHeartbeats 4000000 in
theorem rget_arg (b : List UInt8) (hb : b.length = 512) (n : Int) (w : World) (hn : n < 1 ∨ 64 < n) :
  Calls Tryz.prog 85 #[sectorV b, .int .i64 n] w fun e w' => e = .returned (.tuple #[.agg (getO b n).cells.toArray, .int .i64 (getE b n)]) ∧ Below w.heap.size w w' := by
 obtain ⟨W0, eW0⟩ : ∃ W, W = (w.alloc (.cells (b.map vu8).toArray 84)).alloc (.cells Tryz.zeroCells47 47) := ⟨_, rfl⟩
 have hw0 : Below w.heap.size w W0 := by rw [eW0]; exact ((Below.refl _ w).alloc (Nat.le_refl _) _).alloc (by simp) _
 have k1 : Blk W0 (w.heap.size + 1) 47 objZ.cells.toArray := by rw [eW0, ← zeroObj]; exact Blk.new2 w _ _ _
 have hzi : (Tryz.prog.info? 47).map (·.size) = some objZ.cells.toArray.size := by rw [← zeroObj]; exact objZ_info
 have hz1 : objZ.cells.toArray.all (·.oneCell') = true := by rw [← zeroObj]; exact objZ_one
 have HO1 := Lib.hid k1
 have HW0 := Lib.hid hw0
 have HE := Lib.hid (show getE b n = 2 by unfold getE; rw [if_pos hn])
 have HG := Lib.hid (getO_no HE.out (by decide))
 have hs : n < 1 ∨ (¬ n < 1 ∧ 64 < n) := by omega
 unfold sectorV
 clear hn k1 hw0 hb
 rcases hs with h1 | ⟨h1, h2⟩
 all_goals
  go_enter Tryz.func85, Tryz.ntmps85
  go_upto_region 1 with fail
  rw [← eW0]
  clear eW0
  go_wp2_with (first
  | (refine wpList_store_row rfl 47 _ _ rfl (w.heap.size + 1) objZ.cells.toArray rfl rfl 47 _ HO1.out hzi rfl hz1 ?_))
  exact bodyPost_ret (results_row_tmp Tryz.results85 _ _ (w.heap.size + 1) 47 objZ.cells.toArray (0, 0) _ rfl (HO1.out.row _) Tryz.underlying47 rfl hzi _ rfl) rfl ⟨by rw [HE.out, HG.out]; rfl, below_row HW0.out _ (by omega)⟩
set_option maxRecDepth 100000 in
set_option maxHeartbeats 4000000 in
theorem rget_sum (b : List UInt8) (hb : b.length = 512) (n : Int) (w : World) (hn : ¬ (n < 1 ∨ 64 < n)) (hsl : sealedB b = false) :
  Calls Tryz.prog 85 #[sectorV b, .int .i64 n] w fun e w' => e = .returned (.tuple #[.agg (getO b n).cells.toArray, .int .i64 (getE b n)]) ∧ Below w.heap.size w w' := by
 obtain ⟨W0, eW0⟩ : ∃ W, W = (w.alloc (.cells (b.map vu8).toArray 84)).alloc (.cells Tryz.zeroCells47 47) := ⟨_, rfl⟩
 have hw0 : Below w.heap.size w W0 := by rw [eW0]; exact ((Below.refl _ w).alloc (Nat.le_refl _) _).alloc (by simp) _
 have k0 : Blk W0 w.heap.size 84 (b.map vu8).toArray := by rw [eW0]; exact (Blk.new w _ _).alloc _
 have k1 : Blk W0 (w.heap.size + 1) 47 objZ.cells.toArray := by rw [eW0, ← zeroObj]; exact Blk.new2 w _ _ _
 have hzi : (Tryz.prog.info? 47).map (·.size) = some objZ.cells.toArray.size := by rw [← zeroObj]; exact objZ_info
 have hz1 : objZ.cells.toArray.all (·.oneCell') = true := by rw [← zeroObj]; exact objZ_one
 have HO1 := Lib.hid k1
 have HW0 := Lib.hid hw0
 have HE := Lib.hid (show getE b n = 150 by unfold getE; rw [if_neg hn, hsl]; rfl)
 have HG := Lib.hid (getO_no HE.out (by decide))
 have h1 : ¬ n < 1 := by omega
 have h2 : ¬ 64 < n := by omega
 have hs0 : W0.heap.size = w.heap.size + 2 := by rw [eW0]; simp
 have HV : BytesIn W0 W0.heap.size (.slice (some ⟨w.heap.size, 0, none⟩) 512 512) b := by
  refine ⟨by rw [hb]; unfold maxLen; omega, some ⟨w.heap.size, 0, none⟩, 512, by rw [hb], by omega, fun j c hj => ⟨w.heap.size, 0, rfl, by omega, ?_⟩⟩
  exact k0.cell_is (0 + j) (by simp [hj])
 have HSL := Lib.hid (rsealed_any _ b W0 HV (by omega))
 rw [hsl] at HSL
 unfold sectorV
 clear hn k1 hw0 hb HV hs0 k0
 go_enter Tryz.func85, Tryz.ntmps85
 go_upto_region 1 with fail
 rw [← eW0]
 clear eW0
 go_wp2_with fail
 refine HSL.out.mono ?_; rintro e w1 ⟨u, rfl, hb1⟩
 have k11 := HO1.out.below hb1 HO1.out.lt
 have hw1 := HW0.out.trans (hb1.mono HW0.out.size)
 go_wp2_with (refine wpList_store_row rfl 47 _ _ rfl (w.heap.size + 1) objZ.cells.toArray rfl rfl 47 _ k11 hzi rfl hz1 ?_)
 exact bodyPost_ret (results_row_tmp Tryz.results85 _ _ (w.heap.size + 1) 47 objZ.cells.toArray (0, 0) _ rfl (k11.row _) Tryz.underlying47 rfl hzi _ rfl) rfl ⟨by rw [HE.out, HG.out]; rfl, below_row hw1 _ (by omega)⟩
end Go.Proofs.YtemcgfncahccgaaGreat
namespace Go.Proofs.YtemcgfncahccgaaGreat
open Go.RowKit

set_option maxRecDepth 100000 in
set_option maxHeartbeats 4000000 in
theorem rput5_no (o : ObjD) (ho : o.ok) (hr : rightsOk o) (n : Int) (w : World) (hy : objB o n = false) :
  Calls Tryz.prog 33 #[.agg o.cells.toArray, .int .i64 n] w fun e w' => e = .returned (.tuple #[sectorV sector0, .int .i64 2]) ∧ Below w.heap.size w w' := by
 have hck := fun W => rocheck_any o ho hr n W
 rw [hy] at hck
 have HCK := Lib.hid hck
 have hl0 : sector0.length = 512 := List.length_replicate
 obtain ⟨cs, hc⟩ : ∃ cs, cs = o.cells.toArray := ⟨_, rfl⟩
 have scs : (Tryz.prog.info? 47).map (·.size) = some cs.size := by rw [hc, List.size_toArray, ObjD.len ho]; kernel_rfl
 rw [← hc] at HCK ⊢
 obtain ⟨W, eW⟩ : ∃ W, W = ((w.alloc (.cells cs 47)).alloc (.cells Tryz.zeroCells84 84)).alloc (.cells Tryz.zeroCells84 84) := ⟨_, rfl⟩
 have hb0 : Below w.heap.size w W := by rw [eW]; exact (((Below.refl _ w).alloc (Nat.le_refl _) _).alloc (by simp) _).alloc (by simp; omega) _
 have z0 : Blk W w.heap.size 47 cs := by rw [eW]; exact ((Blk.new w _ _).alloc _).alloc _
 have z1 : Blk W (w.heap.size + 1) 84 (sector0.map vu8).toArray := by rw [eW, ← zero111]; exact (Blk.new2 w _ _ _).alloc _
 have z2 : Blk W (w.heap.size + 2) 84 (sector0.map vu8).toArray := by rw [eW, ← zero111]; exact Blk.new' (by simp)
 have hone := sector_all sector0
 have hsz := sector_size _ hl0
 clear hy hr ho hck hc
 unfold sectorV
 go_enter Tryz.func33, Tryz.ntmps33
 go_upto_region 2 with fail
 rw [← eW]
 clear eW
 go_wp2_with (refine wpList_load_row rfl 47 _ rfl w.heap.size rfl 47 cs (0, 0) _ z0 Tryz.underlying47 rfl scs ?_)
 refine (HCK.out W).mono ?_; rintro e w1 ⟨rfl, hb1⟩
 have b1 := z1.below hb1 z1.lt
 have b2 := z2.below hb1 z2.lt
 have hB1 := hb0.trans (hb1.mono hb0.size)
 unfold errB
 simp only [Bool.false_eq_true, if_false]
 go_wp2_with (first
  | (refine wpList_load_row rfl 84 _ rfl (w.heap.size + 2) rfl 84 (sector0.map vu8).toArray (0, 0) _ b2 Tryz.underlying84 rfl hsz ?_)
  | (refine wpList_store_row rfl 84 _ _ rfl (w.heap.size + 1) (sector0.map vu8).toArray rfl rfl 84 _ b1 hsz rfl hone ?_))
 exact bodyPost_ret (results_row_tmp2 Tryz.results33 _ _ _ _ _ (by rfl) (load_sector hl0 (b1.row _)) (by rfl)) rfl ⟨rfl, below_row hB1 _ (by omega)⟩
end Go.Proofs.YtemcgfncahccgaaGreat
