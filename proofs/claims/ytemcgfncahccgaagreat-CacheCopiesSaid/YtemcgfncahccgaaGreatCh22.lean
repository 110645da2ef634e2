/-
  The reference's cache: Settle.
  The reference's cache: Evict.
-/
import Derived.Test.YtemcgfncahccgaaGreatCh21
set_option linter.unusedVariables false
set_option linter.unusedSimpArgs false
namespace Go.Proofs.YtemcgfncahccgaaGreat
open Go.RowKit

def CacheD.settle (x : CacheD) (oid s : Int) : CacheD :=
 let y := x.move oid s
 if x.moveE oid s = 0 then (match itemOf y.hand oid with | some it => if it.ch then y.with_ ⟨oid, it.o, false⟩ else y | none => y) else y
theorem item_range {W : World} {g p : Nat} {x : ItemD} (hx : x.o.ok) (hr : W.rangeAt g p x.cells) : W.rangeAt g (p + 1) x.o.cells := fun j v hj => by
 have := hr (1 + j) v (x.cellO hx j v hj)
 rwa [← Nat.add_assoc] at this
theorem size_obj (o : ObjD) (h : o.ok) : (Tryz.prog.info? 47).map (·.size) = some o.cells.length := by rw [ObjD.len h]; kernel_rfl
theorem move_hand (x : CacheD) (oid s : Int) : (x.move oid s).hand = x.hand ∧ (x.move oid s).room = x.room ∧ (x.move oid s).disk = x.disk ∧ (x.move oid s).places.length = x.places.length := by
 unfold CacheD.move
 split
 ·exact ⟨rfl, rfl, rfl, List.length_set⟩
 ·exact ⟨rfl, rfl, rfl, rfl⟩
set_option maxRecDepth 100000 in
set_option maxHeartbeats 2000000 in
theorem rsettle_any (cv : Value) (x : CacheD) (oid s : Int) (w : World) (hx : RCacheIn w w.heap.size cv x) (hf : x.fits) (hd : x.disk.ok) :
  Calls Tryz.prog 58 #[cv, .int .i64 oid, .int .i64 s] w fun r w' => ∃ cv', r = .returned (.tuple #[cv', .int .i64 (x.moveE oid s)]) ∧ RCacheIn w' w'.heap.size cv' (x.settle oid s) ∧ Below w.heap.size w w' ∧ CNew w.heap.size w'.heap.size cv cv' := by
 obtain ⟨lv, wv, fv, pv, hv, rfl, h1, h2, h3⟩ := hx
 have hones := h1.ones
 have hlen := h3.1
 have hoks := h3.2.1
 have hp1 := h2.one
 obtain ⟨A1, C1, rfl⟩ : ∃ A cap, hv = .slice A x.hand.length cap := by obtain ⟨_, _, A, cap, e, _⟩ := h3; exact ⟨A, cap, e⟩
 have HMV := Lib.hid (fun W (hb : Below w.heap.size w W) => rmove_raw lv wv fv pv (.slice A1 x.hand.length C1) x oid s W ((h1.below hb (Nat.le_refl _)).mono hb.size) ((h2.below hb (Nat.le_refl _)).mono hb.size) rfl hf hd)
 have hmh := move_hand x oid s
 obtain ⟨e0, ee0⟩ : ∃ e0, e0 = x.moveE oid s := ⟨_, rfl⟩
 have he04 : e0 = 0 ∨ e0 = 4 := by rw [ee0]; unfold CacheD.moveE; split <;> simp
 have HPS := Lib.hid (show e0 = 0 → (x.move oid s).places = x.places.set oid.toNat s from fun h => by unfold CacheD.move; rw [← ee0, if_pos h])
 have HPN := Lib.hid (show e0 ≠ 0 → (x.move oid s).places = x.places from fun h => by unfold CacheD.move; rw [← ee0, if_neg h])
 have HSE := Lib.hid (show x.settle oid s = if e0 = 0 then (match itemOf x.hand oid with | some it => if it.ch then (x.move oid s).with_ ⟨oid, it.o, false⟩ else (x.move oid s) | none => (x.move oid s)) else (x.move oid s) by rw [ee0]; unfold CacheD.settle; simp only []; rw [hmh.1])
 rw [← ee0] at HMV ⊢
 have HWI := Lib.hid (fun it => show ((x.move oid s).with_ it) = { x.move oid s with hand := withD x.room x.places.length x.hand it } by unfold CacheD.with_ CacheD.n; simp only [hmh.1, hmh.2.1, hmh.2.2.2])
 obtain ⟨y, ey⟩ : ∃ y, y = x.move oid s := ⟨_, rfl⟩
 rw [← ey] at hmh HPS HPN HSE HWI
 have HMH := Lib.hid hmh
 have HD := Lib.hid h1
 have HP := Lib.hid h2
 have HH := Lib.hid h3
 have HONE := Lib.hid (fun (pv : Value) (A : Option Addr) (m C : Nat) (hp : pv.oneCell' = true) => rc_one (A := undef) (s := x.disk.steps) (room := x.room) hones hp (show (Value.slice A m C).oneCell' = true from rfl))
 obtain ⟨W, eW⟩ : ∃ W, W = (w.alloc (.cells #[lv, wv, .int .i64 x.disk.steps, fv, .int .i64 x.room, pv, .slice A1 x.hand.length C1] 61)).alloc (.cells zeroC 61) := ⟨_, rfl⟩
 have hbW : Below w.heap.size w W := by rw [eW]; exact ((Below.refl _ w).alloc (Nat.le_refl _) _).alloc (by simp) _
 have k0 : Blk W w.heap.size 61 #[lv, wv, .int .i64 x.disk.steps, fv, .int .i64 x.room, pv, .slice A1 x.hand.length C1] := by rw [eW]; exact (Blk.new w _ _).alloc _
 have k2 : Blk W (w.heap.size + 1) 61 zeroC := by rw [eW]; exact Blk.new2 w _ _ _
 have hW2 : w.heap.size + 2 ≤ W.heap.size := by rw [eW]; simp
 have hfl := hf.1
 have HON3 := hones
 clear h1 h2 h3 hones hd ey ee0 hmh
 go_enter Tryz.func58, Tryz.ntmps58
 go_upto_region 1 with fail
 rw [← eW]
 clear eW
 go_wp2_with (refine wpList_load_row rfl 61 _ rfl w.heap.size rfl 61 _ (0, 0) _ k0 Tryz.underlying61 rfl (size_rcache _ _ _ _ _ _ _) ?_)
 refine (HMV.out W hbW).mono ?_; rintro r w1 ⟨pv1, rfl, ⟨hy, hn⟩, hb1⟩
 have hpl : ∀ Z, Below w.heap.size w Z → Out (fun i => i < w.heap.size + 2) w1 Z → IntsIn Z Z.heap.size pv1 y.places := fun Z hZ hO => by
  by_cases he : e0 = 0
  ·have hl : (x.places.set oid.toNat s).length = x.places.length := List.length_set
   have ho := hy he
   rw [← hl] at ho
   rw [HPS.out he]
   exact IntsIn.own (ownsRow_out hO ho (fun g hg hlt => by have := (World.ownsRow.lt ho g hg).1; omega)) (by rw [hl]; omega)
  ·rw [hn he, HPN.out he]
   exact (HP.out.below hZ (Nat.le_refl _)).mono hZ.size
 have HPL := Lib.hid hpl
 obtain ⟨ad1, pc1, rfl⟩ : ∃ ad1 pc1, pv1 = .slice ad1 x.places.length pc1 := by
  by_cases he : e0 = 0
  ·obtain ⟨a, c, e⟩ := slice_form (hy he); exact ⟨a, c, e⟩
  ·obtain ⟨_, a, c, e, _⟩ := HP.out; exact ⟨a, c, (hn he).trans e⟩
 have hvp : VNew w.heap.size w1.heap.size pv (.slice ad1 x.places.length pc1) := by
  by_cases he : e0 = 0
  ·exact VNew.own (hy he) hbW.size (Nat.le_refl _)
  ·rw [hn he]; exact VNew.refl _ _ _
 have HVP := Lib.hid hvp
 have hp2 : (Value.slice ad1 x.places.length pc1).oneCell' = true := rfl
 have HP2 := Lib.hid hp2
 have q0 := k0.below hb1 k0.lt
 have q2 := k2.below hb1 k2.lt
 have qB := hbW.trans (hb1.mono hbW.size)
 have hs1 := hb1.size
 have CO1 := Lib.hid (HONE.out (.slice ad1 x.places.length pc1) A1 x.hand.length C1 hp2)
 have r0 := q0.row #[lv, wv, .int .i64 x.disk.steps, fv, .int .i64 x.room, (.slice ad1 x.places.length pc1), .slice A1 x.hand.length C1]
 have r2 := blk_row_far q2 #[lv, wv, .int .i64 x.disk.steps, fv, .int .i64 x.room, (.slice ad1 x.places.length pc1), .slice A1 x.hand.length C1] (g' := w.heap.size) (by omega)
 have rB := below_row qB #[lv, wv, .int .i64 x.disk.steps, fv, .int .i64 x.room, (.slice ad1 x.places.length pc1), .slice A1 x.hand.length C1] (g := w.heap.size) (Nat.le_refl _)
 have RO := Lib.hid (out_row (F := fun i => i < w.heap.size + 2) (w := w1) (g := w.heap.size) #[lv, wv, .int .i64 x.disk.steps, fv, .int .i64 x.room, (.slice ad1 x.places.length pc1), .slice A1 x.hand.length C1] (by show _ < _; omega))
 obtain ⟨W2, eW2⟩ : ∃ W2, W2 = w1.setRow w.heap.size #[lv, wv, .int .i64 x.disk.steps, fv, .int .i64 x.room, (.slice ad1 x.places.length pc1), .slice A1 x.hand.length C1] := ⟨_, rfl⟩
 rw [← eW2] at r0 r2 rB RO
 have fin : ∀ (Z : World) (vh : Value) (hh : List ItemD), Below w.heap.size w Z → Out (fun i => i < w.heap.size + 2) w1 Z → Blk Z (w.heap.size + 1) 61 zeroC → (∀ X, Below w.heap.size w X → Out (fun i => i < w.heap.size + 2) Z X → HandN w.heap.size (.slice A1 x.hand.length C1) X vh hh) → x.settle oid s = { y with hand := hh } → ∀ tmps : Array Value, tmps.getD 6 undef = .pointer (some ⟨w.heap.size + 1, 0, none⟩) → tmps.getD 7 undef = .int .i64 e0 →
   bodyPost Tryz.prog Tryz.f58 (fun r w' => ∃ cv', r = .returned (.tuple #[cv', .int .i64 e0]) ∧ RCacheIn w' w'.heap.size cv' (x.settle oid s) ∧ Below w.heap.size w w' ∧ CNew w.heap.size w'.heap.size (.agg #[lv, wv, .int .i64 x.disk.steps, fv, .int .i64 x.room, pv, .slice A1 x.hand.length C1]) cv') Exit.ret ⟨tmps, []⟩ (Z.setRow (w.heap.size + 1) #[lv, wv, .int .i64 x.disk.steps, fv, .int .i64 x.room, (.slice ad1 x.places.length pc1), vh]) := by
  intro Z vh hh hbZ hoZ hz hH hse tmps t6 t7
  have hbf := below_row hbZ #[lv, wv, .int .i64 x.disk.steps, fv, .int .i64 x.room, (.slice ad1 x.places.length pc1), vh] (g := w.heap.size + 1) (by omega)
  have hof := out_row (F := fun i => i < w.heap.size + 2) (w := Z) (g := w.heap.size + 1) #[lv, wv, .int .i64 x.disk.steps, fv, .int .i64 x.room, (.slice ad1 x.places.length pc1), vh] (by show _ < _; omega)
  refine rc_end Tryz.results58 w _ _ (w.heap.size + 1) _ e0 61 (hz.row _) rfl t6 t7 _ ⟨_, rfl, ?_, hbf, CNew.mk7 (HVP.out.mono (hoZ.trans hof (fun _ _ h => h)).size) (hH _ hbf hof).2⟩
  rw [hse]
  refine ⟨lv, wv, fv, .slice ad1 x.places.length pc1, vh, ?_, ?_, HPL.out _ hbf (hoZ.trans hof (fun _ _ h => h)), (hH _ hbf hof).1⟩
  ·show Value.agg #[lv, wv, .int .i64 x.disk.steps, fv, .int .i64 x.room, (.slice ad1 x.places.length pc1), vh] = .agg #[lv, wv, .int .i64 y.disk.steps, fv, .int .i64 y.room, (.slice ad1 x.places.length pc1), vh]
   rw [HMH.out.2.1, HMH.out.2.2.1]
  ·show RDisk _ _ lv wv fv y.disk
   rw [HMH.out.2.2.1]
   exact (HD.out.below hbf (Nat.le_refl _)).mono hbf.size
 have FIN := Lib.hid fin
 have HHO := Lib.hid (show ∀ X, Below w.heap.size w X → HandIn X X.heap.size (.slice A1 x.hand.length C1) x.hand from fun X hX => HH.out.up hX)
 clear k0 k2 hbW hb1 fin hpl hy hn hp2 hvp
 go_upto_region 2 with (refine wpList_store_row rfl 61 _ _ rfl w.heap.size #[lv, wv, .int .i64 x.disk.steps, fv, .int .i64 x.room, (.slice ad1 x.places.length pc1), .slice A1 x.hand.length C1] rfl rfl 61 _ q0 (size_rcache _ _ _ _ _ _ _) rfl CO1.out ?_)
 rw [← eW2]
 clear eW2 q0 q2 qB
 rcases he04 with rfl | rfl
 rotate_left 1
 ·have HS4 := Lib.hid (show x.settle oid s = { y with hand := x.hand } by rw [HSE.out, if_neg (by decide), ← HMH.out.1])
  go_wp2_with (first
   | (refine wpList_load_row rfl 61 _ rfl w.heap.size rfl 61 #[lv, wv, .int .i64 x.disk.steps, fv, .int .i64 x.room, (.slice ad1 x.places.length pc1), .slice A1 x.hand.length C1] (0, 0) _ r0 Tryz.underlying61 rfl (size_rcache _ _ _ _ _ _ _) ?_)
   | (refine wpList_store_row rfl 61 _ _ rfl (w.heap.size + 1) #[lv, wv, .int .i64 x.disk.steps, fv, .int .i64 x.room, (.slice ad1 x.places.length pc1), .slice A1 x.hand.length C1] rfl rfl 61 _ r2 (size_rcache _ _ _ _ _ _ _) rfl CO1.out ?_))
  exact FIN.out W2 _ x.hand rB RO.out r2 (fun X hX _ => ⟨HHO.out X hX, VNew.refl _ _ _⟩) HS4.out _ rfl rfl
 ·have hseq := HSE.out
  rw [if_pos rfl] at hseq
  have HS0 := Lib.hid hseq
  have HFI := Lib.hid (fun X (hX : HandIn X X.heap.size (.slice A1 x.hand.length C1) x.hand) => rfind_any lv wv (.int .i64 x.disk.steps) fv (.int .i64 x.room) (.slice ad1 x.places.length pc1) _ x.hand oid X hX)
  clear hseq HSE
  go_wp2_with (refine wpList_load_row rfl 61 _ rfl w.heap.size rfl 61 #[lv, wv, .int .i64 x.disk.steps, fv, .int .i64 x.room, (.slice ad1 x.places.length pc1), .slice A1 x.hand.length C1] (0, 0) _ r0 Tryz.underlying61 rfl (size_rcache _ _ _ _ _ _ _) ?_)
  refine (HFI.out W2 (HHO.out W2 rB)).mono ?_; rintro r w3 ⟨rfl, hb3⟩
  have t0 := r0.below hb3 r0.lt
  have t2 := r2.below hb3 r2.lt
  have tB := rB.trans (hb3.mono rB.size)
  have TO := Lib.hid (RO.out.trans (outB (F := fun i => i < w.heap.size + 2) hb3) (fun _ _ h => h))
  have t6 := t0.cell_is 6 rfl
  clear r0 r2 rB hb3
  have hsame : ∀ (st : x.settle oid s = { y with hand := x.hand }), True := fun _ => trivial
  rcases findI_cases x.hand oid with ⟨e1, e2⟩ | ⟨i, it, hi, e1, e2⟩
  ·rw [e1]
   have HS4 := Lib.hid (show x.settle oid s = { y with hand := x.hand } by rw [HS0.out, e2, ← HMH.out.1])
   clear e1 e2 hsame
   go_wp2_with (first
    | (refine wpList_load_row rfl 61 _ rfl w.heap.size rfl 61 #[lv, wv, .int .i64 x.disk.steps, fv, .int .i64 x.room, (.slice ad1 x.places.length pc1), .slice A1 x.hand.length C1] (0, 0) _ t0 Tryz.underlying61 rfl (size_rcache _ _ _ _ _ _ _) ?_)
    | (refine wpList_store_row rfl 61 _ _ rfl (w.heap.size + 1) #[lv, wv, .int .i64 x.disk.steps, fv, .int .i64 x.room, (.slice ad1 x.places.length pc1), .slice A1 x.hand.length C1] rfl rfl 61 _ t2 (size_rcache _ _ _ _ _ _ _) rfl CO1.out ?_))
   exact FIN.out w3 _ x.hand tB TO.out t2 (fun X hX _ => ⟨HHO.out X hX, VNew.refl _ _ _⟩) HS4.out _ rfl rfl
  ·rw [e1]
   have hil : i < x.hand.length := (List.getElem?_eq_some_iff.1 hi).1
   have i3 : (i : Int) < (x.hand.length : Int) := by omega
   have i4 : ¬ ((i : Int) < 0) := by omega
   have HTE := Lib.hid (show x.settle oid s = if it.ch then y.with_ ⟨oid, it.o, false⟩ else y by rw [HS0.out, e2])
   obtain ⟨g, rfl, hg, hr, hoid, hch⟩ := (HHO.out w3 tB).at_ hi
   have hito := hoks it (List.mem_of_getElem? hi)
   have HIO := Lib.hid (show ∀ X, Below w3.heap.size w3 X → X.rangeAt g (i * 165 + 1) it.o.cells from fun X hX => range_below (item_range hito hr) hX hg)
   clear e1 e2 hsame hr hoid hi
   cases hic : it.ch
   ·rw [hic] at hch
    have HS4 := Lib.hid (show x.settle oid s = { y with hand := x.hand } by rw [HTE.out, hic, ← HMH.out.1]; rfl)
    go_wp2_with (first
     | (refine wpList_load_row rfl 61 _ rfl w.heap.size rfl 61 #[lv, wv, .int .i64 x.disk.steps, fv, .int .i64 x.room, (.slice ad1 x.places.length pc1), .slice (some ⟨g, 0, none⟩) x.hand.length C1] (0, 0) _ t0 Tryz.underlying61 rfl (size_rcache _ _ _ _ _ _ _) ?_)
     | (refine wpList_store_row rfl 61 _ _ rfl (w.heap.size + 1) #[lv, wv, .int .i64 x.disk.steps, fv, .int .i64 x.room, (.slice ad1 x.places.length pc1), .slice (some ⟨g, 0, none⟩) x.hand.length C1] rfl rfl 61 _ t2 (size_rcache _ _ _ _ _ _ _) rfl CO1.out ?_))
    exact FIN.out w3 _ x.hand tB TO.out t2 (fun X hX _ => ⟨HHO.out X hX, VNew.refl _ _ _⟩) HS4.out _ rfl rfl
   ·rw [hic] at hch
    have HS5 := Lib.hid (show x.settle oid s = { y with hand := withD x.room x.places.length x.hand ⟨oid, it.o, false⟩ } by rw [HTE.out, hic, if_pos rfl, HWI.out])
    have HBT := Lib.hid (item_built oid it.o false hito)
    have hso := size_obj it.o hito
    have HWX := Lib.hid (fun W (hW : HandIn W W.heap.size (.slice (some ⟨g, 0, none⟩) x.hand.length C1) x.hand) => rwith_any lv wv fv (.slice (some ⟨g, 0, none⟩) x.hand.length C1) x.disk.steps x.room ad1 x.places.length pc1 x.hand ⟨oid, it.o, false⟩ W hW hito hf.1 hf.2 HON3)
    have hgw : g < w3.heap.size := hg
    clear HTE hic
    go_wp2_with fail
    refine jb (fun X => True) (fun X => Below w3.heap.size w3 X) 10 trivial (Below.refl _ _).drew fun hHeld hJ => ?_
    refine jy true 0 rfl (yieldsIf_load_mid (by rfl) 61 _ rfl w.heap.size 0 rfl [lv, wv, .int .i64 x.disk.steps, fv, .int .i64 x.room, .slice ad1 x.places.length pc1, .slice (some ⟨g, 0, none⟩) x.hand.length C1] _ (fun w' h => blk_range (t0.below (h.2 rfl) t0.lt)) Tryz.underlying61 rfl (size_rcache _ _ _ _ _ _ _)) ?_
    refine jk false 1 ?_
    refine jk false 2 ?_
    refine jk true 3 ?_ (hy := by intro X _ hJX; have hb := hJX rfl; have hc := (t0.below hb t0.lt).cell_is 6 rfl; go_simp; try with_reducible rfl)
    refine jk false 4 ?_
    refine jk false 5 ?_
    refine jk false 6 ?_
    refine jy true 7 rfl (yieldsIf_load_mid (by rfl) 47 _ rfl g (i * 165 + 1) rfl it.o.cells _ (fun w' h => HIO.out w' (h.2 rfl)) Tryz.underlying47 rfl hso) ?_
    refine jy false 8 rfl (yieldsIf_build (by rfl) 149 _ rfl (ItemD.cells ⟨oid, it.o, false⟩).toArray (by exact HBT.out)) ?_
    refine jr 9 fun K hK => ?_
    go_simp
    refine (HWX.out w3.drew (HHO.out w3 tB).drew).mono ?_; rintro r w4 ⟨hv4, rfl, ⟨hO4, hok4, hl4⟩, hb4⟩
    obtain ⟨A4, C4, rfl⟩ := slice_form hO4
    go_wp2_with fail
    refine hK.out _ _ ⟨trivial, fun _ => Below.trans hJ hb4⟩ ?_
    clear hK K
    refine jr 10 fun K hK => ?_
    have v2 := t2.drew.below hb4 t2.lt
    have vB := tB.drew.trans (hb4.mono tB.size)
    have VO := Lib.hid (TO.out.trans (outB (F := fun i => i < w.heap.size + 2) (w := w3) (w' := w4) (Below.trans hJ hb4)) (fun _ _ h => h))
    have HO4 := Lib.hid hO4
    refine wp_store_row 61 _ _ rfl (w.heap.size + 1) #[lv, wv, .int .i64 x.disk.steps, fv, .int .i64 x.room, .slice ad1 x.places.length pc1, .slice A4 (withD x.room x.places.length x.hand ⟨oid, it.o, false⟩).length C4] rfl rfl 61 _ v2 (size_rcache _ _ _ _ _ _ _) rfl (HONE.out _ _ _ _ rfl) ?_
    refine hK.out _ _ ⟨trivial, fun h => absurd h (by decide)⟩ ?_
    clear hK K hJ
    refine jk false 11 ?_
    refine wpAnyJ_done (by kernel_rfl) ?_ _
    have hw3 : w.heap.size + 2 ≤ w3.heap.size := by have := t2.lt; omega
    go_wp2_with fail
    exact FIN.out w4 _ _ vB VO.out v2 (fun X hX hOX => ⟨HandIn.own (ownsRow_out hOX HO4.out (fun g hg hlt => by have h7 := (World.ownsRow.lt HO4.out g hg).1; have h8 : w3.heap.size ≤ g := h7; omega)) hok4 hl4, VNew.own HO4.out (show w.heap.size ≤ w3.heap.size by omega) hOX.size⟩) HS5.out _ rfl rfl
end Go.Proofs.YtemcgfncahccgaaGreat
namespace Go.Proofs.YtemcgfncahccgaaGreat
open Go.RowKit

def CacheD.cleanL (x : CacheD) : List Int := risingL x.n (cleanB x.hand)
/-- what a choice picks -/
def pickL (l : List Int) (pick : Int) : Int := l.getD (pick % (l.length : Int)).toNat 0
def CacheD.evictO (x : CacheD) (pick : Int) : Int := if x.cleanL = [] then 0 else pickL x.cleanL pick
def CacheD.evictB (x : CacheD) : Bool := decide (x.cleanL ≠ [])
def CacheD.evict (x : CacheD) (pick : Int) : CacheD := if x.cleanL = [] then x else { x with hand := dropI x.hand (pickL x.cleanL pick) }
theorem tmod_emod (p : Int) (n : Int) (hn : 0 < n) : (p.tmod n < 0 → p.tmod n + n = p % n) ∧ (¬ p.tmod n < 0 → p.tmod n = p % n) := by
 have h1 := Int.emod_nonneg p (show n ≠ 0 by omega)
 have h2 := Int.emod_lt_of_pos p hn
 rcases Int.le_total 0 p with hp | hp
 ·have : p.tmod n = p % n := Int.tmod_eq_emod_of_nonneg hp
  omega
 ·have h3 : p.tmod n = p % n - ((if 0 ≤ p ∨ n ∣ p then 0 else n.natAbs : Nat) : Int) := Int.tmod_eq_emod
  rw [h3]
  split
  ·rename_i hc
   constructor
   ·intro h; omega
   ·intro _; simp
  ·rename_i hc
   rw [show ((n.natAbs : Nat) : Int) = n by omega]
   constructor
   ·intro _; omega
   ·intro h
    have hc2 : ¬ (0 ≤ p ∨ n ∣ p) := hc
    have : p % n ≠ 0 := fun e => hc2 (.inr (Int.dvd_of_emod_eq_zero e))
    omega
theorem results_row_tmps {P : Program} {fn : Func} {p u v : Tmp} {ty : TypeId} (h : fn.results = #[.cell p ty, .tmp u, .tmp v]) (tmps : Array Value) (w : World) (g : Nat) (b x y : Value)
  (hp : tmps.getD p undef = .pointer (some ⟨g, 0, none⟩)) (hb : (loadVar ty ⟨g, 0, none⟩).run P w = .ok b w) (hx : tmps.getD u undef = x) (hy : tmps.getD v undef = y) : (results fn tmps).run P w = .ok (.tuple #[b, x, y]) w := by
 have hp' : tmps[p]?.getD undef = .pointer (some ⟨g, 0, none⟩) := by simpa using hp
 have hx' : tmps[u]?.getD undef = x := by simpa using hx
 have hy' : tmps[v]?.getD undef = y := by simpa using hy
 simp [results, h, hp', hx', hy', asAddr, hb]
theorem heap_cell {w w' : World} {g i : Nat} (h : w'.heap[g]? = w.heap[g]?) : w'.cell? ⟨g, i, none⟩ = w.cell? ⟨g, i, none⟩ := by
 unfold World.cell?
 simp [h]
set_option maxRecDepth 100000 in
set_option maxHeartbeats 2000000 in
theorem revict_any (cv : Value) (x : CacheD) (pick : Int) (w : World) (hx : RCacheIn w w.heap.size cv x) (hf : x.fits) (hi : I64 pick) :
  Calls Tryz.prog 57 #[cv, .int .i64 pick] w fun r w' => ∃ cv', r = .returned (.tuple #[cv', .int .i64 (x.evictO pick), .bool x.evictB]) ∧ RCacheIn w' w'.heap.size cv' (x.evict pick) ∧ Below w.heap.size w w' ∧ CNew w.heap.size w'.heap.size cv cv' := by
 obtain ⟨lv, wv, fv, pv, hv, rfl, h1, h2, h3⟩ := hx
 have hones := h1.ones
 have hoks := h3.2.1
 obtain ⟨ad, pc, rfl⟩ : ∃ ad pc, pv = .slice ad x.places.length pc := by obtain ⟨_, a, c, e, _⟩ := h2; exact ⟨a, c, e⟩
 obtain ⟨A1, C1, rfl⟩ : ∃ A cap, hv = .slice A x.hand.length cap := by obtain ⟨_, _, A, cap, e, _⟩ := h3; exact ⟨A, cap, e⟩
 have hh6 := hf.2
 have HONE := Lib.hid (fun (A : Option Addr) (m C : Nat) => rc_one (A := undef) (s := x.disk.steps) (room := x.room) hones (show (Value.slice ad x.places.length pc).oneCell' = true from rfl) (show (Value.slice A m C).oneCell' = true from rfl))
 have HCL := Lib.hid (fun X (hX : HandIn X X.heap.size (.slice A1 x.hand.length C1) x.hand) => rclean_any lv wv (.int .i64 x.disk.steps) fv (.int .i64 x.room) _ ad x.places.length pc x.hand X hX hf.1)
 have HD := Lib.hid h1
 have HP := Lib.hid h2
 have HH := Lib.hid h3
 obtain ⟨W, eW⟩ : ∃ W, W = (w.alloc (.cells #[lv, wv, .int .i64 x.disk.steps, fv, .int .i64 x.room, .slice ad x.places.length pc, .slice A1 x.hand.length C1] 61)).alloc (.cells zeroC 61) := ⟨_, rfl⟩
 have hbW : Below w.heap.size w W := by rw [eW]; exact ((Below.refl _ w).alloc (Nat.le_refl _) _).alloc (by simp) _
 have k0 : Blk W w.heap.size 61 #[lv, wv, .int .i64 x.disk.steps, fv, .int .i64 x.room, .slice ad x.places.length pc, .slice A1 x.hand.length C1] := by rw [eW]; exact (Blk.new w _ _).alloc _
 have k2 : Blk W (w.heap.size + 1) 61 zeroC := by rw [eW]; exact Blk.new2 w _ _ _
 obtain ⟨cl, ecl⟩ : ∃ cl, cl = x.cleanL := ⟨_, rfl⟩
 have hcll : cl.length ≤ 1000 := by rw [ecl]; exact Nat.le_trans (risingL_len _ _) hf.1
 have HEO := Lib.hid (show x.evictO pick = if cl = [] then 0 else pickL cl pick by rw [ecl]; rfl)
 have HEB := Lib.hid (show x.evictB = decide (cl ≠ []) by rw [ecl]; rfl)
 have HEC := Lib.hid (show x.evict pick = if cl = [] then x else { x with hand := dropI x.hand (pickL cl pick) } by rw [ecl]; rfl)
 have HCL2 := Lib.hid (fun X (hX : HandIn X X.heap.size (.slice A1 x.hand.length C1) x.hand) => (show Calls Tryz.prog 86 #[.agg #[lv, wv, .int .i64 x.disk.steps, fv, .int .i64 x.room, .slice ad x.places.length pc, .slice A1 x.hand.length C1]] X fun r w' => ∃ v, r = .returned v ∧ w'.ownsRow X.heap.size 3 1 v cl.length (cl.map (Value.int .i64)) ∧ Below X.heap.size X w' from by rw [ecl]; exact HCL.out X hX))
 clear h1 h2 h3 hones HCL hf
 go_enter Tryz.func57, Tryz.ntmps57
 go_upto_region 1 with fail
 rw [← eW]
 clear eW ecl
 have fin : ∀ (Z : World) (vh : Value) (hh : List ItemD) (o : Int) (b : Bool), Below w.heap.size w Z → Blk Z (w.heap.size + 1) 61 zeroC → (∀ X, Below w.heap.size w X → Out (fun i => i < w.heap.size + 2) Z X → HandN w.heap.size (.slice A1 x.hand.length C1) X vh hh) → x.evict pick = { x with hand := hh } → x.evictO pick = o → x.evictB = b → ∀ tmps : Array Value, tmps.getD 4 undef = .pointer (some ⟨w.heap.size + 1, 0, none⟩) → tmps.getD 5 undef = .int .i64 o → tmps.getD 6 undef = .bool b →
   bodyPost Tryz.prog Tryz.f57 (fun r w' => ∃ cv', r = .returned (.tuple #[cv', .int .i64 (x.evictO pick), .bool x.evictB]) ∧ RCacheIn w' w'.heap.size cv' (x.evict pick) ∧ Below w.heap.size w w' ∧ CNew w.heap.size w'.heap.size (.agg #[lv, wv, .int .i64 x.disk.steps, fv, .int .i64 x.room, .slice ad x.places.length pc, .slice A1 x.hand.length C1]) cv') Exit.ret ⟨tmps, []⟩ (Z.setRow (w.heap.size + 1) #[lv, wv, .int .i64 x.disk.steps, fv, .int .i64 x.room, .slice ad x.places.length pc, vh]) := by
  intro Z vh hh o b hbZ hz hH hse ho hb tmps t4 t5 t6
  have hbf := below_row hbZ #[lv, wv, .int .i64 x.disk.steps, fv, .int .i64 x.room, .slice ad x.places.length pc, vh] (g := w.heap.size + 1) (by omega)
  have hof := out_row (F := fun i => i < w.heap.size + 2) (w := Z) (g := w.heap.size + 1) #[lv, wv, .int .i64 x.disk.steps, fv, .int .i64 x.room, .slice ad x.places.length pc, vh] (by show _ < _; omega)
  refine bodyPost_ret (results_row_tmps Tryz.results57 tmps _ (w.heap.size + 1) _ _ _ t4 (load_rcache (hz.row _)) t5 t6) rfl ⟨_, by rw [ho, hb], ?_, hbf, CNew.mk7 (VNew.refl _ _ _) (hH _ hbf hof).2⟩
  rw [hse]
  exact ⟨lv, wv, fv, _, vh, rfl, (HD.out.below hbf (Nat.le_refl _)).mono hbf.size, (HP.out.below hbf (Nat.le_refl _)).mono hbf.size, (hH _ hbf hof).1⟩
 have FIN := Lib.hid fin
 clear fin
 go_wp2_with (refine wpList_load_row rfl 61 _ rfl w.heap.size rfl 61 #[lv, wv, .int .i64 x.disk.steps, fv, .int .i64 x.room, .slice ad x.places.length pc, .slice A1 x.hand.length C1] (0, 0) _ k0 Tryz.underlying61 rfl (size_rcache _ _ _ _ _ _ _) ?_)
 refine (HCL2.out W (HH.out.up hbW)).mono ?_; rintro r w1 ⟨v, rfl, hO, hb1⟩
 obtain ⟨A2, C2, rfl⟩ := slice_form hO
 have q0 := k0.below hb1 k0.lt
 have q2 := k2.below hb1 k2.lt
 have qB := hbW.trans (hb1.mono hbW.size)
 have hW2 : w.heap.size + 1 < W.heap.size := k2.lt
 clear k0 k2 hbW hb1 HCL2
 by_cases hcn : cl = []
 ·have HE1 := Lib.hid (show x.evict pick = { x with hand := x.hand } by rw [HEC.out, if_pos hcn])
  have HE2 := Lib.hid (show x.evictO pick = 0 by rw [HEO.out, if_pos hcn])
  have HE3 := Lib.hid (show x.evictB = false by rw [HEB.out, hcn]; rfl)
  have CO := Lib.hid (HONE.out A1 x.hand.length C1)
  rw [hcn]
  clear hO hcn
  go_wp2_with (first
   | (refine wpList_load_row rfl 61 _ rfl w.heap.size rfl 61 #[lv, wv, .int .i64 x.disk.steps, fv, .int .i64 x.room, .slice ad x.places.length pc, .slice A1 x.hand.length C1] (0, 0) _ q0 Tryz.underlying61 rfl (size_rcache _ _ _ _ _ _ _) ?_)
   | (refine wpList_store_row rfl 61 _ _ rfl (w.heap.size + 1) #[lv, wv, .int .i64 x.disk.steps, fv, .int .i64 x.room, .slice ad x.places.length pc, .slice A1 x.hand.length C1] rfl rfl 61 _ q2 (size_rcache _ _ _ _ _ _ _) rfl CO.out ?_))
  exact FIN.out w1 _ x.hand 0 false qB q2 (fun X hX _ => ⟨HH.out.up hX, VNew.refl _ _ _⟩) HE1.out HE2.out HE3.out _ rfl rfl rfl
 ·have HE1 := Lib.hid (show x.evict pick = { x with hand := dropI x.hand (pickL cl pick) } by rw [HEC.out, if_neg hcn])
  have HE2 := Lib.hid (show x.evictO pick = pickL cl pick by rw [HEO.out, if_neg hcn])
  have HE3 := Lib.hid (show x.evictB = true by rw [HEB.out]; simpa using hcn)
  have hL0 : 0 < cl.length := List.length_pos_iff.2 hcn
  obtain ⟨L, eL⟩ : ∃ L, L = cl.length := ⟨_, rfl⟩
  obtain ⟨o, eo⟩ : ∃ o, o = pickL cl pick := ⟨_, rfl⟩
  obtain ⟨j, ej⟩ : ∃ j : Nat, (j : Int) = pick % (L : Int) := ⟨(pick % (L : Int)).toNat, by have := Int.emod_nonneg pick (show (L : Int) ≠ 0 by omega); omega⟩
  rw [← eo] at HE1 HE2
  rw [← eL] at hO hL0 hcll ⊢
  have hjL : j < L := by have := Int.emod_lt_of_pos pick (show (0 : Int) < (L : Int) by omega); omega
  have hcj : cl[j]? = some o := by
   rw [eo]
   unfold pickL
   rw [← eL, ← ej, Int.toNat_natCast, List.getD_eq_getElem?_getD, List.getElem?_eq_getElem (by omega)]
   rfl
  have HO := Lib.hid hO
  have HCJ := Lib.hid hcj
  have hTm := tmod_emod pick (L : Int) (by omega)
  obtain ⟨T, eT⟩ : ∃ T, T = Int.tmod pick (L : Int) := ⟨_, rfl⟩
  rw [← eT, ← ej] at hTm
  have eT' : Int.tmod pick (L : Int) = T := eT.symm
  have hb1 : -1000 ≤ T ∧ T ≤ 1000 := by
   by_cases h : T < 0
   ·have := hTm.1 h; omega
   ·have := hTm.2 h; omega
  have l0 : ((L : Int) == 0) = false := by simp; omega
  have l1 : (0 : Int) < (L : Int) := by omega
  have lL : (L : Int) ≤ 1000 := by omega
  obtain ⟨hi0, hi1⟩ := hi
  have jl : (j : Int) < (L : Int) := by omega
  obtain ⟨hb2, hb3⟩ := hb1
  have hWO := Lib.hid (fun X (hX : HandIn X X.heap.size (.slice A1 x.hand.length C1) x.hand) => rwithout_any lv wv (.int .i64 x.disk.steps) fv (.int .i64 x.room) (.slice ad x.places.length pc) _ x.hand o X hX)
  obtain ⟨g2, eg2, hg2, hg2l⟩ : ∃ g2, A2 = some ⟨g2, 0, none⟩ ∧ W.heap.size ≤ g2 ∧ g2 < w1.heap.size := by
   obtain ⟨g2, c2, e, h1, h2⟩ := World.ownsRow.form hO (by omega)
   injection e with e1 _ _
   exact ⟨g2, e1, h1, h2⟩
  subst eg2
  have hcell : w1.cell? ⟨g2, j, none⟩ = some (.int .i64 o) := by
   rw [World.ownsRow.cellAt hO j (by omega), List.getElem?_map, hcj]
   rfl
  clear eL eo ej eT hcj hO hcn
  have key : (decide (T < 0) = true ∧ T + (L : Int) = (j : Int)) ∨ (decide (T < 0) = false ∧ T = (j : Int)) := by
   by_cases h : T < 0
   ·exact .inl ⟨by simpa using h, hTm.1 h⟩
   ·exact .inr ⟨by simpa using h, hTm.2 h⟩
  have hgw : g2 < w1.heap.size := hg2l
  have hjL2 := Lib.hid hjL
  have HX1 := Lib.hid (show ∀ X, Below w.heap.size w X → HandIn X X.heap.size (.slice A1 x.hand.length C1) x.hand from fun X hX => HH.out.up hX)
  clear hTm hjL
  rcases key with ⟨hd, hadd⟩ | ⟨hd, rfl⟩
  all_goals
   go_upto_region 7 with fail
   refine jb (fun X => True) (fun X => Below w1.heap.size w1 X) 7 trivial (Below.refl _ _).drew fun hHeld hJ => ?_
   refine jy true 0 rfl (yieldsIf_load_mid (by rfl) 61 _ rfl w.heap.size 0 rfl [lv, wv, .int .i64 x.disk.steps, fv, .int .i64 x.room, .slice ad x.places.length pc, .slice A1 x.hand.length C1] _ (fun w' h => blk_range (q0.below (h.2 rfl) q0.lt)) Tryz.underlying61 rfl (size_rcache _ _ _ _ _ _ _)) ?_
   refine jk false 1 ?_
   refine jk false 2 ?_
   refine jk false 3 ?_
   refine jk true 4 ?_ (hy := by intro X _ hJX; have hb := hJX rfl; have hc := (hb.cell (p := ⟨g2, j, none⟩) hgw).trans hcell; go_simp; try with_reducible rfl)
   refine jr 5 fun K hK => ?_
   go_simp
   refine (hWO.out w1.drew (HX1.out w1 qB).drew).mono ?_; rintro r w4 ⟨v4, rfl, hO4, hb4⟩
   obtain ⟨A4, C4, rfl⟩ := slice_form hO4
   go_wp2_with fail
   refine hK.out _ _ ⟨trivial, fun _ => Below.trans hJ hb4⟩ ?_
   clear hK K
   have hJ2 := Below.trans hJ hb4
   clear hJ
   have hJ := hJ2
   refine jk false 6 ?_
   refine jr 7 fun K hK => ?_
   have z0 := q0.below hJ q0.lt
   have z2 := q2.below hJ q2.lt
   have zB := qB.trans (hJ.mono qB.size)
   have cz := z0.cell_is 6 rfl
   have fz := z0.frozen 6
   have hcell4 := (hJ.cell (p := ⟨g2, j, none⟩) hgw).trans hcell
   have HO4 := Lib.hid hO4
   have hw1 : w.heap.size + 2 ≤ w1.heap.size := q2.lt
   have hgz : g2 ≠ w.heap.size := by omega
   have z8 := z0.set_ 6 (.slice A4 (dropI x.hand o).length C4)
   have z9 := z2.far (p := ⟨w.heap.size, 6, none⟩) (by show w.heap.size + 1 ≠ w.heap.size; omega) (.slice A4 (dropI x.hand o).length C4)
   have zC := zB.setCell (p := ⟨w.heap.size, 6, none⟩) (Nat.le_refl _) (.slice A4 (dropI x.hand o).length C4)
   have zO := out_set (F := fun i => i < w.heap.size + 2) (w := w4) (g := w.heap.size) (i := 6) (v := .slice A4 (dropI x.hand o).length C4) (by show _ < _; omega)
   have HO9 := Lib.hid (ownsRow_out zO HO4.out (fun g hg hlt => by have h7 := (World.ownsRow.lt HO4.out g hg).1; have h8 : w1.heap.size ≤ g := h7; omega))
   have hcell9 : (w4.setCell ⟨w.heap.size, 6, none⟩ (.slice A4 (dropI x.hand o).length C4)).cell? ⟨g2, j, none⟩ = some (.int .i64 o) := (World.cell?_setCell_far w4 ⟨w.heap.size, 6, none⟩ ⟨g2, j, none⟩ _ (by show w.heap.size ≠ g2; omega)).trans hcell4
   have CO9 := Lib.hid (HONE.out A4 (dropI x.hand o).length C4)
   clear hO4 hb4 hJ2 hJ zB
   go_simp
   refine hK.out _ _ ⟨trivial, fun h => absurd h (by decide)⟩ ?_
   clear hK K
   refine wpAnyJ_done (by kernel_rfl) ?_ _
   simp only [List.setIfInBounds_toArray, List.set_cons_succ, List.set_cons_zero] at z8
   clear cz fz hcell4 z0 z2 hcell
   obtain ⟨W9, eW9⟩ : ∃ W, W = w4.setCell ⟨w.heap.size, 6, none⟩ (.slice A4 (dropI x.hand o).length C4) := ⟨_, rfl⟩
   rw [← eW9] at z8 z9 zC HO9 hcell9 ⊢
   clear eW9 zO
   go_upto_region 8 with fail
   refine jb (fun X => Blk X w.heap.size 61 #[lv, wv, .int .i64 x.disk.steps, fv, .int .i64 x.room, .slice ad x.places.length pc, .slice A4 (dropI x.hand o).length C4] ∧ X.cell? ⟨g2, j, none⟩ = some (.int .i64 o)) (fun X => True) 100 ⟨z8.drew, hcell9⟩ trivial fun hHeld hJ => ?_
   refine jy false 0 rfl (yieldsIf_load_mid (by rfl) 61 _ rfl w.heap.size 0 rfl [lv, wv, .int .i64 x.disk.steps, fv, .int .i64 x.room, .slice ad x.places.length pc, .slice A4 (dropI x.hand o).length C4] _ (fun w' h => blk_range h.1.1) Tryz.underlying61 rfl (size_rcache _ _ _ _ _ _ _)) ?_
   refine jk false 1 ?_
   refine jk false 2 ?_
   refine jk false 3 ?_
   refine jk false 4 ?_ (hy := by intro X hX _; have hc := hX.2; go_simp; try with_reducible rfl)
   refine jr 5 fun K hK => ?_
   refine wp_store_row 61 _ _ rfl (w.heap.size + 1) #[lv, wv, .int .i64 x.disk.steps, fv, .int .i64 x.room, .slice ad x.places.length pc, .slice A4 (dropI x.hand o).length C4] rfl rfl 61 _ z9.drew (size_rcache _ _ _ _ _ _ _) rfl CO9.out ?_
   have hg1 : g2 ≠ w.heap.size + 1 := by omega
   refine hK.out _ _ ⟨⟨blk_row_far z8.drew _ (by omega), (heap_cell (setRow_other W9.drew (w.heap.size + 1) g2 _ hg1)).trans hcell9⟩, fun _ => trivial⟩ ?_
   clear hK K hHeld
   have hHeld : (fun X => Blk X w.heap.size 61 #[lv, wv, .int .i64 x.disk.steps, fv, .int .i64 x.room, .slice ad x.places.length pc, .slice A4 (dropI x.hand o).length C4] ∧ X.cell? ⟨g2, j, none⟩ = some (.int .i64 o)) (W9.drew.setRow (w.heap.size + 1) #[lv, wv, .int .i64 x.disk.steps, fv, .int .i64 x.room, .slice ad x.places.length pc, .slice A4 (dropI x.hand o).length C4]) := ⟨blk_row_far z8.drew _ (by omega), (heap_cell (setRow_other W9.drew (w.heap.size + 1) g2 _ hg1)).trans hcell9⟩
   refine jk false 6 ?_
   refine jk false 7 ?_
   refine wpAnyJ_done (by kernel_rfl) ?_ _
   go_wp2_with fail
   exact FIN.out W9.drew _ (dropI x.hand o) o true zC.drew z9.drew (fun X hX hOX => ⟨HandIn.own (ownsRow_out (w := W9.drew) hOX HO9.out (fun g hg hlt => by have h7 := (World.ownsRow.lt HO9.out g hg).1; have h8 : w1.heap.size ≤ g := h7; omega)) (dropI_ok hoks _) (by have := dropI_len x.hand o; omega), VNew.own HO9.out (show w.heap.size ≤ w1.heap.size by omega) hOX.size⟩) HE1.out HE2.out HE3.out _ rfl rfl rfl
end Go.Proofs.YtemcgfncahccgaaGreat
