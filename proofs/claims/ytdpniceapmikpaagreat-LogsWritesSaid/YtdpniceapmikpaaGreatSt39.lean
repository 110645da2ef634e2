/-
  The reference's part and Sealed.
-/
import Derived.Test.YtdpniceapmikpaaGreatSt7
import Derived.Test.YtdpniceapmikpaaGreatSt34
set_option linter.unusedVariables false
set_option linter.unusedSimpArgs false
namespace Go.Proofs.YtdpniceapmikpaaGreat
open Go.RowKit

theorem chunkL_len2 (st : List UInt8) (i : Nat) : (chunkL st i).length = min 512 (st.length - 512 * i) := by unfold chunkL; rw [List.length_take, List.length_drop]
theorem secOf_to (st : List UInt8) (i : Nat) : secTo (secOf st i).1 sector0 (min 512 (st.length - 512 * i)) = (secOf st i).1 := by
 show secTo (layL sector0 (chunkL st i)) sector0 _ = layL sector0 (chunkL st i)
 have hl := chunkL_len2 st i
 rw [← hl]
 unfold secTo layL
 rw [List.take_append_of_le_length (Nat.le_refl _), List.take_length]
theorem secOf_at (st : List UInt8) (i j : Nat) (h1 : j < 512) (h2 : 512 * i + j < st.length) : (secOf st i).1[j]? = st[512 * i + j]? := by
 show (layL sector0 (chunkL st i))[j]? = _
 have hl := chunkL_len2 st i
 unfold layL
 rw [List.getElem?_append_left (by omega)]
 unfold chunkL
 rw [List.getElem?_take, if_pos h1, List.getElem?_drop]
set_option maxRecDepth 100000 in
set_option maxHeartbeats 1000000 in
theorem rpart_any (v : Value) (st : List UInt8) (i : Nat) (w : World) (hv : BytesIn w w.heap.size v st) (hi : i ≤ 1000000) :
  Calls Tryz.prog 97 #[v, .int .i64 i] w fun e w' => e = .returned (sectorV (secOf st i).1) ∧ Below w.heap.size w w' := by
 have HL := Lib.hid hv
 obtain ⟨h1, a, cap, rfl, hcap, h2⟩ := hv
 have hto := Lib.hid (secOf_to st i)
 have hat := Lib.hid (secOf_at st i)
 have hbl := (secOf st i).2
 obtain ⟨b, eb⟩ : ∃ b, b = (secOf st i).1 := ⟨_, rfl⟩
 rw [← eb] at hbl hat hto ⊢
 clear eb
 have hl0 : sector0.length = 512 := List.length_replicate
 have hbe : b.length = sector0.length := by rw [hl0, hbl]
 obtain ⟨W, eW⟩ : ∃ W, W = ((w.alloc (.cells Tryz.zeroCells111 111)).alloc (.cells Tryz.zeroCells111 111)) := ⟨_, rfl⟩
 have hbW : Below w.heap.size w W := by rw [eW]; exact ((Below.refl _ w).alloc (Nat.le_refl _) _).alloc (by simp) _
 have k1 : Blk W (w.heap.size) 111 (sector0.map vu8).toArray := by rw [eW, ← zero111]; exact (Blk.new w _ _).alloc _
 have k2 : Blk W (w.heap.size + 1) 111 (sector0.map vu8).toArray := by rw [eW, ← zero111]; exact Blk.new2 w _ _ _
 clear h2
 go_enter Tryz.func97, Tryz.ntmps97
 go_upto_region 2 with fail
 rw [← eW]
 clear eW
 go_wp2_with fail
 go_loopw [6] (fun x wr => ∃ j : Nat, j ≤ 512 ∧ j ≤ st.length - 512 * i ∧ x = .int .i64 j ∧ Blk wr (w.heap.size + 1) 111 ((secTo b sector0 j).map vu8).toArray ∧ Blk wr w.heap.size 111 (sector0.map vu8).toArray ∧ Below w.heap.size w wr) (fun x _ => 512 - (intOf x).toNat)
 case atStart => exact ⟨0, by omega, by omega, rfl, by rw [secTo_zero]; exact k2, k1, hbW⟩
 case round =>
  obtain ⟨j, hj, hj2, rfl, hO, hR, hB⟩ := hrel
  by_cases hlt : j < 512 ∧ 512 * i + j < st.length
  ·obtain ⟨hlt1, hlt2⟩ := hlt
   obtain ⟨c, hc⟩ : ∃ c, b[j]? = some c := ⟨_, List.getElem?_eq_getElem (by omega)⟩
   obtain ⟨g, off, rfl, hg, hcell⟩ := (HL.out.below hB (Nat.le_refl _)).at_ ((hat.out j hlt1 hlt2).symm.trans hc)
   obtain ⟨u, hu⟩ := secTo_at hbe (j := j) (by omega)
   have cO := hO.cell_is j hu
   have fO := hO.frozen j
   have HO := Lib.hid (hO.set_ j (vu8 c))
   rw [secTo_set hbe hc] at HO
   have HR := Lib.hid (hR.far (p := ⟨w.heap.size + 1, j, none⟩) (by simp) (vu8 c))
   have HB := Lib.hid (hB.setCell (p := ⟨w.heap.size + 1, j, none⟩) (by simp) (vu8 c))
   have i1 : ¬ (512 * (i : Int) + (j : Int)) < 0 := by omega
   have i2 : (512 * (i : Int) + (j : Int)) < (st.length : Int) := by omega
   clear hO hR hB
   go_wp2_with fail
   exact ⟨⟨j + 1, by omega, by omega, by go_num, HO.out, HR.out, HB.out⟩, by simp [intOf]; omega⟩
  ·have hjm : j = min 512 (st.length - 512 * i) := by omega
   rw [hjm, hto.out] at hO
   have hone := sector_all b
   have hsz := sector_size _ hbl
   have hse := sector_eq _ _ hl0 hbl
   by_cases hlt1 : j < 512
   ·have i2 : ¬ (512 * (i : Int) + (j : Int)) < (st.length : Int) := by omega
    go_wp2_with (first
     | (refine wpList_load_row rfl 111 _ rfl (w.heap.size + 1) rfl 111 (b.map vu8).toArray (0, 0) _ hO Tryz.underlying111 rfl hsz ?_)
     | (refine wpList_store_row rfl 111 _ _ rfl w.heap.size (b.map vu8).toArray rfl rfl 111 _ hR hsz hse hone ?_))
    exact bodyPost_ret (results_cell_row Tryz.results97 _ _ w.heap.size 111 (b.map vu8).toArray (0, 0) _ rfl (hR.row _) Tryz.underlying111 rfl hsz) rfl ⟨rfl, below_row hB _ (Nat.le_refl _)⟩
   ·go_wp2_with (first
     | (refine wpList_load_row rfl 111 _ rfl (w.heap.size + 1) rfl 111 (b.map vu8).toArray (0, 0) _ hO Tryz.underlying111 rfl hsz ?_)
     | (refine wpList_store_row rfl 111 _ _ rfl w.heap.size (b.map vu8).toArray rfl rfl 111 _ hR hsz hse hone ?_))
    exact bodyPost_ret (results_cell_row Tryz.results97 _ _ w.heap.size 111 (b.map vu8).toArray (0, 0) _ rfl (hR.row _) Tryz.underlying111 rfl hsz) rfl ⟨rfl, below_row hB _ (Nat.le_refl _)⟩

theorem ownsRow_mono' {w : World} {B B' k : Nat} {e : TypeId} {v : Value} {n : Nat} {xs : List Value} (h : w.ownsRow B e k v n xs) (hb : B' ≤ B) : w.ownsRow B' e k v n xs := by
 obtain ⟨hl, h0 | ⟨g, cap, cur, rfl, hB, h3⟩⟩ := h
 ·exact ⟨hl, .inl h0⟩
 ·exact ⟨hl, .inr ⟨g, cap, cur, rfl, Nat.le_trans hb hB, h3⟩⟩
set_option maxRecDepth 100000 in
set_option maxHeartbeats 2000000 in
theorem rsealed_sec (v : Value) (B : Nat) (l : List UInt8) (w : World) (hv : w.ownsRow B 5 1 v l.length (l.map vu8)) (hl : l.length ≤ 508) :
  Calls Tryz.prog 98 #[v] w fun e w' => e = .returned (sectorV (sectorL l)) ∧ Out (fun i => v.ownBlock = some i) w w' := by
 obtain ⟨i0, hi0, hz0, hz1, hz2⟩ := info_parts info_u8
 have HI := Lib.hid (And.intro hi0 (And.intro hz0 (And.intro hz1 hz2)))
 clear hi0 hz0 hz1 hz2
 have hl0 : sector0.length = 512 := List.length_replicate
 have hbl := sectorL_len l hl
 have hBw : ∀ g, v.ownBlock = some g → B ≤ g ∧ g < w.heap.size := hv.lt
 have HBW := Lib.hid hBw
 have hv1 : (w.alloc (.cells Tryz.zeroCells111 111)).ownsRow B 5 1 v l.length (l.map vu8) := hv.alloc _
 have k1 : Blk (w.alloc (.cells Tryz.zeroCells111 111)) w.heap.size 111 (sector0.map vu8).toArray := by rw [← zero111]; exact Blk.new w _ _
 have ho1 : Out (fun i => v.ownBlock = some i) w (w.alloc (.cells Tryz.zeroCells111 111)) := outB ((Below.refl _ w).alloc (Nat.le_refl _) _) |> fun h => ⟨h.os, h.tape, h.output, h.size, fun i hi _ => h.block i hi id⟩
 unfold sectorV
 clear hv hBw
 go_enter Tryz.func98, Tryz.ntmps98
 go_wp2_with fail
 generalize w.alloc (.cells Tryz.zeroCells111 111) = W at *
 go_loopw [0] (fun u wr => ∃ j : Nat, l.length + j ≤ 508 ∧ wr.ownsRow (min B w.heap.size) 5 1 u (l.length + j) ((l ++ List.replicate j 0).map vu8) ∧ Blk wr w.heap.size 111 (sector0.map vu8).toArray ∧ Out (fun i => v.ownBlock = some i) w wr ∧ (∀ g, u.ownBlock = some g → v.ownBlock = some g ∨ w.heap.size < g)) (fun u _ => 508 - (match u with | .slice _ n _ => n | _ => 0))
 case atStart => exact ⟨0, by omega, by simpa using ownsRow_mono' hv1 (Nat.min_le_left _ _), k1, ho1, fun g hg => .inl hg⟩
 case round =>
  obtain ⟨j, hj, hO, hR, hB, hown⟩ := hrel
  have hrlt := hR.lt
  obtain ⟨a, cap, rfl⟩ := slice_form hO
  by_cases hlt : l.length + j < 508
  ·have HO := Lib.hid hO
   have HOWN := Lib.hid hown
   have HR := Lib.hid hR
   have HB := Lib.hid hB
   have h3 : ((l.length : Int) + (j : Int)) < 508 := by omega
   clear hO hown hR hB
   go_wp2_with (at_builtin; refine wpList_append_lies _ rfl _ _ _ rfl (min B w.heap.size) 5 i0 _ 1 1 Tryz.underlying26 HI.out.1 HI.out.2.1 HI.out.2.2.1 HI.out.2.2.2 rfl (by omega) _ (l.length + j) _ rfl (HO.out.alloc _) ⟨wr.heap.size, 0, none⟩ 1 1 [vu8 0] rfl rfl (World.news_of_block (cs := #[vu8 0]) (t := 5) (fr := (0, 0)) (heap_alloc_new wr _)) (by simp [Value.oneCell']) (by omega) (by unfold maxLen; omega) (by omega) (by simp; omega) (wr.heap.size + 1) (by simp) ?_; intro g cap2 w3 hO3 hg3 hat3 hlt3)
   have hrow : ∀ i, (Value.slice a (l.length + j) cap).ownBlock = some i → v.ownBlock = some i ∨ w.heap.size < i := HOWN.out
   go_roundw
   case rel =>
    refine ⟨j + 1, by omega, ?_, ?_, ?_, ?_⟩
    ·rw [show l ++ List.replicate (j + 1) (0 : UInt8) = (l ++ List.replicate j 0) ++ [0] by rw [List.append_assoc, List.replicate_succ']]
     rw [List.map_append]
     exact hO3
    ·refine (hg3.block w.heap.size (by simp; omega) (fun e => ?_)).trans (HR.out.alloc _)
     rcases hrow _ e.symm with h | h
     ·have := (HBW.out _ h).2; omega
     ·omega
    ·refine HB.out.trans (G := fun i => (Value.slice a (l.length + j) cap).ownBlock = some i) (Out.trans (F := fun i => (Value.slice a (l.length + j) cap).ownBlock = some i) (G := fun i => (Value.slice a (l.length + j) cap).ownBlock = some i) (w1 := wr.alloc (.cells #[vu8 0] 5)) ?_ ⟨hg3.os, hg3.tape, hg3.output, hg3.size, fun i hi hn => hg3.block i hi (fun e => hn e.symm)⟩ (fun _ _ h => h)) (fun i hi h => ?_)
     ·have hA := (Below.refl wr.heap.size wr).alloc (Nat.le_refl _) (.cells #[vu8 0] 5)
      exact ⟨hA.os, hA.tape, hA.output, hA.size, fun i hi _ => hA.block i hi⟩
     ·rcases hrow i h with h | h
      ·exact h
      ·omega
    ·intro i hi
     have e : g = i := by simpa [Value.ownBlock] using hi
     subst e
     rcases hat3 with h | h
     ·exact hrow g h
     ·exact .inr (by omega)
   case measure => simp; omega
  ·have hje : l.length + j = 508 := by omega
   have hpad : l ++ List.replicate j (0 : UInt8) = padL l := by unfold padL; rw [show j = 508 - l.length by omega]
   rw [hpad] at hO
   have HU := BytesIn.own hO
   rw [hje] at HU
   have h3 : ¬ ((l.length : Int) + (j : Int)) < 508 := by omega
   have HB := Lib.hid hB
   have HR := Lib.hid hR
   have hlp := padL_len l hl
   have eS : sealOf (padL l) = sectorL l := rfl
   obtain ⟨p, ep⟩ : ∃ p, p = padL l := ⟨_, rfl⟩
   rw [← ep] at HU hlp eS
   have HSE := Lib.hid (rseal_any _ p wr HU (by omega))
   have HES := Lib.hid eS
   clear hO hB hR HU hown hpad ep eS
   go_wp2_with fail
   refine HSE.out.mono ?_; rintro e w4 ⟨u2, rfl, hO4, hb4⟩
   obtain ⟨a2, cap2, rfl⟩ := slice_form hO4
   rw [HES.out] at hO4
   have HU4 := BytesIn.own hO4
   rw [hlp] at HU4 ⊢
   have hB4 : Out (fun i => v.ownBlock = some i) w w4 := HB.out.trans (G := fun _ => False) (outB hb4) (fun _ _ h => h.elim)
   have hR4 := HR.out.below hb4 hrlt
   obtain ⟨b, eb⟩ : ∃ b, b = sectorL l := ⟨_, rfl⟩
   rw [← eb] at hbl HU4
   have hbe : b.length = sector0.length := by rw [hl0, hbl]
   have hw4 : w.heap.size < w4.heap.size := hR4.lt
   have HL := Lib.hid HU4
   have m2 : Blk (w4.alloc (.cells Tryz.zeroCells111 111)) w4.heap.size 111 (sector0.map vu8).toArray := by rw [← zero111]; exact Blk.new w4 _ _
   have mb : Below w4.heap.size w4 (w4.alloc (.cells Tryz.zeroCells111 111)) := (Below.refl _ w4).alloc (Nat.le_refl _) _
   have mR := hR4.alloc (.cells Tryz.zeroCells111 111)
   have EB := Lib.hid eb
   have HB4 := Lib.hid hB4
   clear hO4 HU4 hb4 eb hB4 hR4 HB HR HSE hlp h3 HBW
   go_wp2_with fail
   generalize w4.alloc (.cells Tryz.zeroCells111 111) = W5 at *
   go_loopw [5] (fun i wr => ∃ j : Nat, j ≤ 512 ∧ i = .int .i64 j ∧ Blk wr w4.heap.size 111 ((secTo b sector0 j).map vu8).toArray ∧ Blk wr w.heap.size 111 (sector0.map vu8).toArray ∧ Below w4.heap.size w4 wr) (fun i _ => 512 - (intOf i).toNat)
   case atStart => exact ⟨0, by omega, rfl, by rw [secTo_zero]; exact m2, mR, mb⟩
   case round =>
    obtain ⟨j, hj, rfl, hO, hR, hB⟩ := hrel
    by_cases hlt : j < 512
    ·obtain ⟨c, hc⟩ : ∃ c, b[j]? = some c := ⟨_, List.getElem?_eq_getElem (by omega)⟩
     obtain ⟨g, off, rfl, hg, hcell⟩ := BytesIn.at_ (HL.out.below hB (Nat.le_refl _)) hc
     obtain ⟨u, hu⟩ := secTo_at hbe (j := j) (by omega)
     have cO := hO.cell_is j hu
     have fO := hO.frozen j
     have HO := Lib.hid (hO.set_ j (vu8 c))
     rw [secTo_set hbe hc] at HO
     have HR := Lib.hid (hR.far (p := ⟨w4.heap.size, j, none⟩) (by show w.heap.size ≠ w4.heap.size; omega) (vu8 c))
     have HB := Lib.hid (hB.setCell (p := ⟨w4.heap.size, j, none⟩) (Nat.le_refl _) (vu8 c))
     clear hO hR hB
     go_wp2_with fail
     exact ⟨⟨j + 1, by omega, by go_num, HO.out, HR.out, HB.out⟩, by simp [intOf]; omega⟩
    ·obtain rfl : j = 512 := by omega
     rw [secTo_all hbl hl0] at hO
     have hone := sector_all b
     have hsz := sector_size _ hbl
     have hse := sector_eq _ _ hl0 hbl
     go_wp2_with (first
      | (refine wpList_load_row rfl 111 _ rfl w4.heap.size rfl 111 (b.map vu8).toArray (0, 0) _ hO Tryz.underlying111 rfl hsz ?_)
      | (refine wpList_store_row rfl 111 _ _ rfl w.heap.size (b.map vu8).toArray rfl rfl 111 _ hR hsz hse hone ?_))
     have hfin : Out (fun i => v.ownBlock = some i) w wr := HB4.out.trans (G := fun _ => False) (outB hB) (fun _ _ h => h.elim)
     exact bodyPost_ret (results_cell_row Tryz.results98 _ _ w.heap.size 111 (b.map vu8).toArray (0, 0) _ rfl (hR.row _) Tryz.underlying111 rfl hsz) rfl ⟨by rw [← EB.out], hfin.trans (G := fun i => i = w.heap.size) (out_row _ rfl) (fun i hi e => by omega)⟩
end Go.Proofs.YtdpniceapmikpaaGreat
