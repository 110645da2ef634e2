/-
  The reference's cache: Clean, Oids, there.
  The reference's cache: Oids.
-/
import Derived.Test.YtemcgfncahccgaaGreatCh17
set_option linter.unusedVariables false
set_option linter.unusedSimpArgs false
namespace Go.Proofs.YtemcgfncahccgaaGreat
open Go.RowKit

theorem findI_cases (h : List ItemD) (oid : Int) : (findI h oid = -1 ∧ itemOf h oid = none) ∨ ∃ (i : Nat) (x : ItemD), h[i]? = some x ∧ findI h oid = i ∧ itemOf h oid = some x := by
 cases he : findN h oid with
 | none =>
  left
  unfold findN at he
  rw [List.findIdx?_eq_none_iff] at he
  exact findI_no fun x hx => by simpa using he x hx
 | some i =>
  right
  unfold findN at he
  rw [List.findIdx?_eq_some_iff_getElem] at he
  obtain ⟨hi, h1, h2⟩ := he
  refine ⟨i, h[i], List.getElem?_eq_getElem hi, findI_yes (List.getElem?_eq_getElem hi) (by simpa using h1) fun y hy => ?_⟩
  obtain ⟨k, hk, rfl⟩ := List.mem_take_iff_getElem.1 hy
  have := h2 k (by omega)
  simpa using this
theorem risingL_next (j : Nat) (p : Int → Bool) : risingL (j + 1) p = risingL j p ++ if p j then [(j : Int)] else [] := by
 unfold risingL
 rw [List.range_succ, List.filter_append, List.map_append]
 congr 1
 by_cases h : p (j : Int) = true
 ·simp [h]
 ·simp [h]
theorem risingL_len (n : Nat) (p : Int → Bool) : (risingL n p).length ≤ n := by
 unfold risingL
 rw [List.length_map]
 exact Nat.le_trans (List.length_filter_le _ _) (by rw [List.length_range]; exact Nat.le_refl _)
theorem load_rcache {W : World} {g : Nat} {a b c d e f p : Value} (h : Blk W g 61 #[a, b, c, d, e, f, p]) : (loadVar 61 ⟨g, 0, none⟩).run Tryz.prog W = .ok (.agg #[a, b, c, d, e, f, p]) W :=
 run_loadVar_row W g 61 61 #[a, b, c, d, e, f, p] (0, 0) _ h Tryz.underlying61 rfl (size_rcache a b c d e f p)
theorem ints_snoc (l : List Int) (x : Int) : (l ++ [x]).map (Value.int .i64) = l.map (Value.int .i64) ++ [.int .i64 x] := by simp

theorem rthere_any (a b c d e A hv : Value) (ad : Option Addr) (n cap : Nat) (oid : Int) (w : World) :
  Calls Tryz.prog 82 #[.agg #[a, b, c, d, e, .slice ad n cap, hv], .int .i64 oid] w fun x w' => x = .returned (.bool (decide (0 ≤ oid ∧ oid < n))) ∧ Below w.heap.size w w' := by
 have hbW : Below w.heap.size w (w.alloc (.cells #[a, b, c, d, e, .slice ad n cap, hv] 61)) := (Below.refl _ w).alloc (Nat.le_refl _) _
 by_cases h1 : 0 ≤ oid
 ·by_cases h2 : oid < n
  ·rw [decide_eq_true (show 0 ≤ oid ∧ oid < n from ⟨h1, h2⟩)]
   go_enter Tryz.func82, Tryz.ntmps82
   go_wp2_with fail
   go_ret
   exact ⟨rfl, hbW⟩
  ·rw [decide_eq_false (show ¬ (0 ≤ oid ∧ oid < n) from fun h => h2 h.2)]
   go_enter Tryz.func82, Tryz.ntmps82
   go_wp2_with fail
   go_ret
   exact ⟨rfl, hbW⟩
 ·rw [decide_eq_false (show ¬ (0 ≤ oid ∧ oid < n) from fun h => h1 h.1)]
  go_enter Tryz.func82, Tryz.ntmps82
  go_wp2_with fail
  go_ret
  exact ⟨rfl, hbW⟩
set_option maxRecDepth 100000 in
set_option maxHeartbeats 1000000 in
theorem rclean_any (a b c d e hv : Value) (ad : Option Addr) (n pc : Nat) (h : List ItemD) (w : World) (hh : HandIn w w.heap.size hv h) (hn : n ≤ 1000) :
  Calls Tryz.prog 86 #[.agg #[a, b, c, d, e, .slice ad n pc, hv]] w fun x w' => ∃ v, x = .returned v ∧ w'.ownsRow w.heap.size 3 1 v (risingL n (cleanB h)).length ((risingL n (cleanB h)).map (Value.int .i64)) ∧ Below w.heap.size w w' := by
 have HF := Lib.hid (fun X (hX : HandIn X X.heap.size hv h) (oid : Int) => rfind_any a b c d e (.slice ad n pc) hv h oid X hX)
 obtain ⟨A, cap, rfl⟩ : ∃ A cap, hv = .slice A h.length cap := by obtain ⟨_, _, A, cap, e, _⟩ := hh; exact ⟨A, cap, e⟩
 have hl := hh.1
 have HH := Lib.hid hh
 obtain ⟨i0, z0, hT⟩ := rowG_int
 have HT := Lib.hid hT
 obtain ⟨W, eW⟩ : ∃ W, W = w.alloc (.cells #[a, b, c, d, e, .slice ad n pc, .slice A h.length cap] 61) := ⟨_, rfl⟩
 have hbW : Below w.heap.size w W := by rw [eW]; exact (Below.refl _ w).alloc (Nat.le_refl _) _
 have k0 : Blk W w.heap.size 61 #[a, b, c, d, e, .slice ad n pc, .slice A h.length cap] := by rw [eW]; exact Blk.new w _ _
 clear hh hT
 go_enter Tryz.func86, Tryz.ntmps86
 go_upto_region 2 with fail
 rw [← eW]
 clear eW
 go_wp2_with fail
 go_loopw [3, 4] (fun u i wr => ∃ (j : Nat) (u' : Value), u' = u ∧ j ≤ n ∧ i = .int .i64 j ∧ wr.ownsRow w.heap.size 3 1 u' (risingL j (cleanB h)).length ((risingL j (cleanB h)).map (Value.int .i64)) ∧ Blk wr w.heap.size 61 #[a, b, c, d, e, .slice ad n pc, .slice A h.length cap] ∧ Below w.heap.size w wr) (fun _ i _ => n - (intOf i).toNat)
 case atStart => exact ⟨0, _, rfl, by omega, rfl, ⟨rfl, .inl ⟨rfl, rfl⟩⟩, k0, hbW⟩
 case round =>
  obtain ⟨j, u, rfl, hj, rfl, hO, hK, hB⟩ := hrel
  have c5 := hK.cell_is 5 rfl
  by_cases hlt : j < n
  ·have i2 : (j : Int) < (n : Int) := by omega
   have hcall := HF.out wr ((HH.out.below hB (Nat.le_refl _)).mono hB.size) j
   have HC := Lib.hid hcall
   have HO := Lib.hid hO
   have HB := Lib.hid hB
   have HK := Lib.hid hK
   clear hcall hO hB
   go_wp2_with (refine wpList_load_row rfl 61 _ rfl w.heap.size rfl 61 _ (0, 0) _ hK Tryz.underlying61 rfl (size_rcache _ _ _ _ _ _ _) ?_)
   refine HC.out.mono ?_; rintro x w1 ⟨rfl, hb1⟩
   have hK1 := HK.out.below hb1 HK.out.lt
   have hB1 := HB.out.trans (hb1.mono HB.out.size)
   have hO1 := ownsRow_out (F := fun _ => False) (outB hb1) HO.out (fun _ _ => id)
   have c6 := hK1.cell_is 6 rfl
   have hnx := risingL_next j (cleanB h)
   have hrl := risingL_len j (cleanB h)
   rcases findI_cases h (j : Int) with ⟨e1, e2⟩ | ⟨i, x, hx, e1, e2⟩
   ·have hc : cleanB h (j : Int) = false := by unfold cleanB; rw [e2]
    rw [hc] at hnx
    rw [e1]
    have HN := Lib.hid hnx
    clear hnx hc e1 e2 c5
    go_wp2_with fail
    exact ⟨⟨j + 1, _, rfl, by omega, by go_num, by rw [HN.out]; simpa using hO1, hK1, hB1⟩, by simp [intOf]; omega⟩
   ·obtain ⟨g, rfl, hg, hr, ho, hch⟩ := (HH.out.below hB1 (Nat.le_refl _)).at_ hx
    have hi : i < h.length := (List.getElem?_eq_some_iff.1 hx).1
    have i3 : (i : Int) < (h.length : Int) := by omega
    have i4 : ¬ ((i : Int) < 0) := by omega
    have hc : cleanB h (j : Int) = !x.ch := by unfold cleanB; rw [e2]
    rw [hc] at hnx
    rw [e1]
    have HN := Lib.hid hnx
    have HO1 := Lib.hid hO1
    have HB1 := Lib.hid hB1
    have HK1 := Lib.hid hK1
    have HE := Lib.hid hx
    clear hnx hc e1 e2 hr ho hx hO1 hB1 c5
    cases hxc : x.ch
    ·have hnew := blk_range (Blk.new w1 3 #[.int .i64 (j : Int)])
     have hO2 := HO1.out.alloc (.cells #[.int .i64 (j : Int)] 3)
     have hB2 := HB1.out.alloc HB1.out.size (.cells #[.int .i64 (j : Int)] 3)
     have hK2 := HK1.out.alloc (.cells #[.int .i64 (j : Int)] 3)
     rw [hxc] at HN hch
     go_wp2_with (at_builtin; refine wpList_append_one HT.out (by decide) (by decide) (w1.alloc (.cells #[.int .i64 (j : Int)] 3)) rfl (.tmp 27) (.tmp 29) rfl w.heap.size (risingL j (cleanB h)).length u _ rfl hO2 w1.heap.size 1 [.int .i64 (j : Int)] rfl rfl (by simp [Value.oneCell']) hnew (by omega) hB2.size ?_; intro u4 w4 hO4 hg4)
     go_roundw
     case rel =>
      refine ⟨j + 1, _, rfl, by omega, by go_num, ?_, (hg4.block _ hK2.lt (fun e => ne_own hO2 hK2 (by decide) _ e.symm rfl)).trans hK2, hB2.grown hg4 hB2.size (fun r hr => (hO2.lt r hr).1)⟩
      rw [HN.out]
      simp only [Bool.not_false, if_true]
      rw [ints_snoc, List.length_append]
      exact hO4
     case measure => simp [intOf]; omega
    ·rw [hxc] at HN hch
     go_wp2_with fail
     exact ⟨⟨j + 1, _, rfl, by omega, by go_num, by rw [HN.out]; simpa using HO1.out, HK1.out, HB1.out⟩, by simp [intOf]; omega⟩
  ·obtain rfl : j = n := by omega
   have HO := Lib.hid hO
   clear hO
   go_wp2_with fail
   go_ret
   exact ⟨u, rfl, HO.out, hB⟩
end Go.Proofs.YtemcgfncahccgaaGreat
namespace Go.Proofs.YtemcgfncahccgaaGreat
open Go.RowKit

set_option maxRecDepth 100000 in
set_option maxHeartbeats 1000000 in
theorem roids_any (a b c d e hv : Value) (ad : Option Addr) (n pc : Nat) (h : List ItemD) (al : Bool) (w : World) (hh : HandIn w w.heap.size hv h) (hn : n ≤ 1000) :
  Calls Tryz.prog 53 #[.agg #[a, b, c, d, e, .slice ad n pc, hv], .bool al] w fun x w' => ∃ v, x = .returned v ∧ w'.ownsRow w.heap.size 3 1 v (risingL n (handB al h)).length ((risingL n (handB al h)).map (Value.int .i64)) ∧ Below w.heap.size w w' := by
 have HF := Lib.hid (fun X (hX : HandIn X X.heap.size hv h) (oid : Int) => rfind_any a b c d e (.slice ad n pc) hv h oid X hX)
 obtain ⟨A, cap, rfl⟩ : ∃ A cap, hv = .slice A h.length cap := by obtain ⟨_, _, A, cap, e, _⟩ := hh; exact ⟨A, cap, e⟩
 have hl := hh.1
 have HH := Lib.hid hh
 obtain ⟨i0, z0, hT⟩ := rowG_int
 have HT := Lib.hid hT
 obtain ⟨W, eW⟩ : ∃ W, W = w.alloc (.cells #[a, b, c, d, e, .slice ad n pc, .slice A h.length cap] 61) := ⟨_, rfl⟩
 have hbW : Below w.heap.size w W := by rw [eW]; exact (Below.refl _ w).alloc (Nat.le_refl _) _
 have k0 : Blk W w.heap.size 61 #[a, b, c, d, e, .slice ad n pc, .slice A h.length cap] := by rw [eW]; exact Blk.new w _ _
 clear hh hT
 go_enter Tryz.func53, Tryz.ntmps53
 go_upto_region 2 with fail
 rw [← eW]
 clear eW
 go_wp2_with fail
 go_loopw [5, 6] (fun u i wr => ∃ (j : Nat) (u' : Value), u' = u ∧ j ≤ n ∧ i = .int .i64 j ∧ wr.ownsRow w.heap.size 3 1 u' (risingL j (handB al h)).length ((risingL j (handB al h)).map (Value.int .i64)) ∧ Blk wr w.heap.size 61 #[a, b, c, d, e, .slice ad n pc, .slice A h.length cap] ∧ Below w.heap.size w wr) (fun _ i _ => n - (intOf i).toNat)
 case atStart => exact ⟨0, _, rfl, by omega, rfl, ⟨rfl, .inl ⟨rfl, rfl⟩⟩, k0, hbW⟩
 case round =>
  obtain ⟨j, u, rfl, hj, rfl, hO, hK, hB⟩ := hrel
  have c5 := hK.cell_is 5 rfl
  by_cases hlt : j < n
  ·have i2 : (j : Int) < (n : Int) := by omega
   have hcall := HF.out wr ((HH.out.below hB (Nat.le_refl _)).mono hB.size) j
   have HC := Lib.hid hcall
   have HO := Lib.hid hO
   have HB := Lib.hid hB
   have HK := Lib.hid hK
   clear hcall hO hB
   go_wp2_with (refine wpList_load_row rfl 61 _ rfl w.heap.size rfl 61 _ (0, 0) _ hK Tryz.underlying61 rfl (size_rcache _ _ _ _ _ _ _) ?_)
   refine HC.out.mono ?_; rintro x w1 ⟨rfl, hb1⟩
   have hK1 := HK.out.below hb1 HK.out.lt
   have hB1 := HB.out.trans (hb1.mono HB.out.size)
   have hO1 := ownsRow_out (F := fun _ => False) (outB hb1) HO.out (fun _ _ => id)
   have c6 := hK1.cell_is 6 rfl
   have hnx := risingL_next j (handB al h)
   have hrl := risingL_len j (handB al h)
   rcases findI_cases h (j : Int) with ⟨e1, e2⟩ | ⟨i, x, hx, e1, e2⟩
   ·have hc : handB al h (j : Int) = false := by unfold handB; rw [e2]
    rw [hc] at hnx
    rw [e1]
    have HN := Lib.hid hnx
    clear hnx hc e1 e2 c5
    go_wp2_with fail
    exact ⟨⟨j + 1, _, rfl, by omega, by go_num, by rw [HN.out]; simpa using hO1, hK1, hB1⟩, by simp [intOf]; omega⟩
   ·obtain ⟨g, rfl, hg, hr, ho, hch⟩ := (HH.out.below hB1 (Nat.le_refl _)).at_ hx
    have hi : i < h.length := (List.getElem?_eq_some_iff.1 hx).1
    have i3 : (i : Int) < (h.length : Int) := by omega
    have i4 : ¬ ((i : Int) < 0) := by omega
    have hc : handB al h (j : Int) = (al || x.ch) := by unfold handB; rw [e2]
    rw [hc] at hnx
    rw [e1]
    have HN := Lib.hid hnx
    have HO1 := Lib.hid hO1
    have HB1 := Lib.hid hB1
    have HK1 := Lib.hid hK1
    have HE := Lib.hid hx
    clear hnx hc e1 e2 hr ho hx hO1 hB1 c5
    cases al
    ·cases hxc : x.ch
     ·rw [hxc] at HN hch
      go_wp2_with fail
      exact ⟨⟨j + 1, _, rfl, by omega, by go_num, by rw [HN.out]; simpa using HO1.out, HK1.out, HB1.out⟩, by simp [intOf]; omega⟩
     ·rw [hxc] at HN hch
      have hnew := blk_range (Blk.new w1 3 #[.int .i64 (j : Int)])
      have hO2 := HO1.out.alloc (.cells #[.int .i64 (j : Int)] 3)
      have hB2 := HB1.out.alloc HB1.out.size (.cells #[.int .i64 (j : Int)] 3)
      have hK2 := HK1.out.alloc (.cells #[.int .i64 (j : Int)] 3)
      go_wp2_with (at_builtin; refine wpList_append_one HT.out (by decide) (by decide) (w1.alloc (.cells #[.int .i64 (j : Int)] 3)) rfl (.tmp 31) (.tmp 33) rfl w.heap.size (risingL j (handB false h)).length u _ rfl hO2 w1.heap.size 1 [.int .i64 (j : Int)] rfl rfl (by simp [Value.oneCell']) hnew (by omega) hB2.size ?_; intro u4 w4 hO4 hg4)
      go_roundw
      case rel =>
       refine ⟨j + 1, _, rfl, by omega, by go_num, ?_, (hg4.block _ hK2.lt (fun e => ne_own hO2 hK2 (by decide) _ e.symm rfl)).trans hK2, hB2.grown hg4 hB2.size (fun r hr => (hO2.lt r hr).1)⟩
       rw [HN.out]
       simp only [Bool.or_true, Bool.true_or, if_true]
       rw [ints_snoc, List.length_append]
       exact hO4
      case measure => simp [intOf]; omega
    ·have hnew := blk_range (Blk.new w1 3 #[.int .i64 (j : Int)])
     have hO2 := HO1.out.alloc (.cells #[.int .i64 (j : Int)] 3)
     have hB2 := HB1.out.alloc HB1.out.size (.cells #[.int .i64 (j : Int)] 3)
     have hK2 := HK1.out.alloc (.cells #[.int .i64 (j : Int)] 3)
     go_wp2_with (at_builtin; refine wpList_append_one HT.out (by decide) (by decide) (w1.alloc (.cells #[.int .i64 (j : Int)] 3)) rfl (.tmp 31) (.tmp 33) rfl w.heap.size (risingL j (handB true h)).length u _ rfl hO2 w1.heap.size 1 [.int .i64 (j : Int)] rfl rfl (by simp [Value.oneCell']) hnew (by omega) hB2.size ?_; intro u4 w4 hO4 hg4)
     go_roundw
     case rel =>
      refine ⟨j + 1, _, rfl, by omega, by go_num, ?_, (hg4.block _ hK2.lt (fun e => ne_own hO2 hK2 (by decide) _ e.symm rfl)).trans hK2, hB2.grown hg4 hB2.size (fun r hr => (hO2.lt r hr).1)⟩
      rw [HN.out]
      simp only [Bool.or_true, Bool.true_or, if_true]
      rw [ints_snoc, List.length_append]
      exact hO4
     case measure => simp [intOf]; omega
  ·obtain rfl : j = n := by omega
   have HO := Lib.hid hO
   clear hO
   go_wp2_with fail
   go_ret
   exact ⟨u, rfl, HO.out, hB⟩
end Go.Proofs.YtemcgfncahccgaaGreat
