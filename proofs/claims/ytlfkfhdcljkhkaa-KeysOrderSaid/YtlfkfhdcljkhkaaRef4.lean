/-
  The contract of the reference's Within, for all keys that are int64s.
-/
import Derived.Test.YtlfkfhdcljkhkaaRef3
import Derived.Test.YtlfkfhdcljkhkaaKeys2
import Derived.Deep.QuietTactic
import Derived.BigQuiet
namespace Go.Proofs.Ytlfkfhdcljkhkaa
open Go.RowKit

set_option maxHeartbeats 400000 in
theorem rwithin_no (k o c a r v k' o' c' a' r' v' : Int) (w : World) (hr : r < 9223372036854775808) (hr' : r' < 9223372036854775808) (h : ofB k o c a r v = false ∨ ofB k' o' c' a' r' v' = false) :
    Calls Try.prog 12 #[.agg #[.int .i64 k, .int .i64 o, .int .i64 c, .int .i64 a, .int .i64 r, .int .i64 v], .agg #[.int .i64 k', .int .i64 o', .int .i64 c', .int .i64 a', .int .i64 r', .int .i64 v']] w fun e w' =>
      e = .returned (.bool false) ∧ Below w.heap.size w w' := by
  have HC := Lib.hid (fun W => rcheck_any k o c a r v W hr)
  have HC' := Lib.hid (fun W => rcheck_any k' o' c' a' r' v' W hr')
  clear hr hr'
  have he : errB true = 0 := rfl
  have he2 : errB false = 2 := rfl
  cases hA : ofB k o c a r v
  · go_enter Try.func12, Try.ntmps12
    go_wp2_with fail
    refine (HC.out _).mono ?_; rintro e w1 ⟨rfl, hb⟩
    rw [hA]
    go_wp2_with fail
    go_ret
    exact ⟨rfl, (((Below.refl _ _).alloc (Nat.le_refl _) _).alloc (by simp) _).trans (hb.mono (by simp; omega))⟩
  · have hB : ofB k' o' c' a' r' v' = false := by
      rcases h with h | h
      · rw [hA] at h; cases h
      · exact h
    clear h
    go_enter Try.func12, Try.ntmps12
    go_wp2_with fail
    refine (HC.out _).mono ?_; rintro e w1 ⟨rfl, hb⟩
    have K2 : Blk w1 (w.heap.size + 1) 25 (keyV k' o' c' a' r' v') := (Blk.new2 w _ _ _).below hb (by simp)
    obtain ⟨y0, y1, y2, y3, y4, y5⟩ := K2.key
    rw [hA]
    go_wp2_with fail
    refine (HC'.out _).mono ?_; rintro e w2 ⟨rfl, hb2⟩
    rw [hB]
    go_wp2_with fail
    go_ret
    exact ⟨rfl, (((((Below.refl _ _).alloc (Nat.le_refl _) _).alloc (by simp) _).trans (hb.mono (by simp; omega))).trans (hb2.mono (by have := hb.size; simp at this; omega)))⟩

theorem rwith_q (r m : Int) (w : World) (hr : 0 ≤ r) (hr1 : r ≤ 7) (hm : 0 ≤ m) (hm1 : m ≤ 7) :
    Calls Try.prog 30 #[.int .i64 r, .int .i64 m] w fun e w' => e = .returned (.int .i64 (partW r m 3)) ∧ w' = w :=
  (rwith_any r m w hr hr1 hm hm1).mono fun _ _ h => ⟨h.1, h.2.symm⟩
theorem below_drewN {B : Nat} {a w : World} (h : Below B a w) (n : Nat) : Below B a (w.drewN n) := ⟨h.os, h.tape, h.output, h.size, h.block⟩

set_option maxHeartbeats 1000000 in
theorem rwithin_0 (o c a r v k' o' c' a' r' v' : Int) (w : World)  (hr : r < 9223372036854775808) (hr' : r' < 9223372036854775808) (hA : ofB 0 o c a r v = true) (hB : ofB k' o' c' a' r' v' = true) :
    Calls Try.prog 12 #[.agg #[.int .i64 0, .int .i64 o, .int .i64 c, .int .i64 a, .int .i64 r, .int .i64 v], .agg #[.int .i64 k', .int .i64 o', .int .i64 c', .int .i64 a', .int .i64 r', .int .i64 v']] w fun e w' =>
      e = .returned (.bool (withB 0 o c a r v k' o' c' a' r' v')) ∧ Below w.heap.size w w' := by
  have HC := Lib.hid (fun W => rcheck_any 0 o c a r v W hr)
  have HC' := Lib.hid (fun W => rcheck_any k' o' c' a' r' v' W hr')
  have HW := Lib.hid (withB_core 0 o c a r v k' o' c' a' r' v' hA hB)
  clear hr hr'
  have he : errB true = 0 := rfl
  go_enter Try.func12, Try.ntmps12
  go_wp2_with fail
  refine (HC.out _).mono ?_; rintro e w1 ⟨rfl, hb⟩
  have J1 : Blk w1 w.heap.size 25 (keyV 0 o c a r v) := ((Blk.new w _ _).alloc _).below hb (by simp; omega)
  have J2 : Blk w1 (w.heap.size + 1) 25 (keyV k' o' c' a' r' v') := (Blk.new2 w _ _ _).below hb (by simp)
  have hbb : Below w.heap.size w w1 := (((Below.refl _ _).alloc (Nat.le_refl _) _).alloc (by simp) _).trans (hb.mono (by simp; omega))
  clear hb
  obtain ⟨y0, y1, y2, y3, y4, y5⟩ := J2.key
  rw [hA]
  go_wp2_with fail
  refine (HC'.out _).mono ?_; rintro e w2 ⟨rfl, hb2⟩
  rw [hB]
  have K1 := J1.below hb2 J1.lt
  have K2 := J2.below hb2 J2.lt
  have hbb2 := hbb.trans (hb2.mono (by have := J1.lt; omega))
  clear y0 y1 y2 y3 y4 y5 J1 J2 hbb hb2 HC HC' hA hB
  obtain ⟨x0, x1, x2, x3, x4, x5⟩ := K1.key
  obtain ⟨y0, y1, y2, y3, y4, y5⟩ := K2.key
  clear K1 K2
  go_wp2_with fail
  go_ret
  exact ⟨by rw [HW.out]; rfl, hbb2⟩

set_option maxHeartbeats 1000000 in
theorem rwithin_k_0 (k o c a r v k' o' c' a' r' v' : Int) (w : World) (hk : k ≠ 0) (hk2 : (k == 2) = false) (hk3 : (k == 3) = false) (hne : (k == k') = false) (hr : r < 9223372036854775808) (hr' : r' < 9223372036854775808) (hA : ofB k o c a r v = true) (hB : ofB k' o' c' a' r' v' = true) :
    Calls Try.prog 12 #[.agg #[.int .i64 k, .int .i64 o, .int .i64 c, .int .i64 a, .int .i64 r, .int .i64 v], .agg #[.int .i64 k', .int .i64 o', .int .i64 c', .int .i64 a', .int .i64 r', .int .i64 v']] w fun e w' =>
      e = .returned (.bool (withB k o c a r v k' o' c' a' r' v')) ∧ Below w.heap.size w w' := by
  have HC := Lib.hid (fun W => rcheck_any k o c a r v W hr)
  have HC' := Lib.hid (fun W => rcheck_any k' o' c' a' r' v' W hr')
  have HW := Lib.hid (withB_core k o c a r v k' o' c' a' r' v' hA hB)
  clear hr hr'
  have he : errB true = 0 := rfl
  go_enter Try.func12, Try.ntmps12
  go_wp2_with fail
  refine (HC.out _).mono ?_; rintro e w1 ⟨rfl, hb⟩
  have J1 : Blk w1 w.heap.size 25 (keyV k o c a r v) := ((Blk.new w _ _).alloc _).below hb (by simp; omega)
  have J2 : Blk w1 (w.heap.size + 1) 25 (keyV k' o' c' a' r' v') := (Blk.new2 w _ _ _).below hb (by simp)
  have hbb : Below w.heap.size w w1 := (((Below.refl _ _).alloc (Nat.le_refl _) _).alloc (by simp) _).trans (hb.mono (by simp; omega))
  clear hb
  obtain ⟨y0, y1, y2, y3, y4, y5⟩ := J2.key
  rw [hA]
  go_wp2_with fail
  refine (HC'.out _).mono ?_; rintro e w2 ⟨rfl, hb2⟩
  rw [hB]
  have K1 := J1.below hb2 J1.lt
  have K2 := J2.below hb2 J2.lt
  have hbb2 := hbb.trans (hb2.mono (by have := J1.lt; omega))
  clear y0 y1 y2 y3 y4 y5 J1 J2 hbb hb2 HC HC' hA hB
  obtain ⟨x0, x1, x2, x3, x4, x5⟩ := K1.key
  obtain ⟨y0, y1, y2, y3, y4, y5⟩ := K2.key
  clear K1 K2
  go_upto_region 6 with fail
  go_quiet (fail)
  go_wp2_with fail
  go_ret
  exact ⟨by rw [HW.out]; go_light; simp [rightsB, *], below_drewN hbb2 _⟩

set_option maxHeartbeats 1000000 in
theorem rwithin_k_1 (k o c a r v o' c' a' r' v' : Int) (w : World) (hk : k ≠ 0) (hk2 : (k == 2) = false) (hk3 : (k == 3) = false) (hne : (o == o') = false) (hr : r < 9223372036854775808) (hr' : r' < 9223372036854775808) (hA : ofB k o c a r v = true) (hB : ofB k o' c' a' r' v' = true) :
    Calls Try.prog 12 #[.agg #[.int .i64 k, .int .i64 o, .int .i64 c, .int .i64 a, .int .i64 r, .int .i64 v], .agg #[.int .i64 k, .int .i64 o', .int .i64 c', .int .i64 a', .int .i64 r', .int .i64 v']] w fun e w' =>
      e = .returned (.bool (withB k o c a r v k o' c' a' r' v')) ∧ Below w.heap.size w w' := by
  have HC := Lib.hid (fun W => rcheck_any k o c a r v W hr)
  have HC' := Lib.hid (fun W => rcheck_any k o' c' a' r' v' W hr')
  have HW := Lib.hid (withB_core k o c a r v k o' c' a' r' v' hA hB)
  clear hr hr'
  have he : errB true = 0 := rfl
  go_enter Try.func12, Try.ntmps12
  go_wp2_with fail
  refine (HC.out _).mono ?_; rintro e w1 ⟨rfl, hb⟩
  have J1 : Blk w1 w.heap.size 25 (keyV k o c a r v) := ((Blk.new w _ _).alloc _).below hb (by simp; omega)
  have J2 : Blk w1 (w.heap.size + 1) 25 (keyV k o' c' a' r' v') := (Blk.new2 w _ _ _).below hb (by simp)
  have hbb : Below w.heap.size w w1 := (((Below.refl _ _).alloc (Nat.le_refl _) _).alloc (by simp) _).trans (hb.mono (by simp; omega))
  clear hb
  obtain ⟨y0, y1, y2, y3, y4, y5⟩ := J2.key
  rw [hA]
  go_wp2_with fail
  refine (HC'.out _).mono ?_; rintro e w2 ⟨rfl, hb2⟩
  rw [hB]
  have K1 := J1.below hb2 J1.lt
  have K2 := J2.below hb2 J2.lt
  have hbb2 := hbb.trans (hb2.mono (by have := J1.lt; omega))
  clear y0 y1 y2 y3 y4 y5 J1 J2 hbb hb2 HC HC' hA hB
  obtain ⟨x0, x1, x2, x3, x4, x5⟩ := K1.key
  obtain ⟨y0, y1, y2, y3, y4, y5⟩ := K2.key
  clear K1 K2
  go_upto_region 6 with fail
  go_quiet (fail)
  go_wp2_with fail
  go_ret
  exact ⟨by rw [HW.out]; go_light; simp [rightsB, *], below_drewN hbb2 _⟩

set_option maxHeartbeats 1000000 in
theorem rwithin_k_2 (k o c a r v c' a' r' v' : Int) (w : World) (hk : k ≠ 0) (hk2 : (k == 2) = false) (hk3 : (k == 3) = false) (hne : (c == c') = false) (hr : r < 9223372036854775808) (hr' : r' < 9223372036854775808) (hA : ofB k o c a r v = true) (hB : ofB k o c' a' r' v' = true) :
    Calls Try.prog 12 #[.agg #[.int .i64 k, .int .i64 o, .int .i64 c, .int .i64 a, .int .i64 r, .int .i64 v], .agg #[.int .i64 k, .int .i64 o, .int .i64 c', .int .i64 a', .int .i64 r', .int .i64 v']] w fun e w' =>
      e = .returned (.bool (withB k o c a r v k o c' a' r' v')) ∧ Below w.heap.size w w' := by
  have HC := Lib.hid (fun W => rcheck_any k o c a r v W hr)
  have HC' := Lib.hid (fun W => rcheck_any k o c' a' r' v' W hr')
  have HW := Lib.hid (withB_core k o c a r v k o c' a' r' v' hA hB)
  clear hr hr'
  have he : errB true = 0 := rfl
  go_enter Try.func12, Try.ntmps12
  go_wp2_with fail
  refine (HC.out _).mono ?_; rintro e w1 ⟨rfl, hb⟩
  have J1 : Blk w1 w.heap.size 25 (keyV k o c a r v) := ((Blk.new w _ _).alloc _).below hb (by simp; omega)
  have J2 : Blk w1 (w.heap.size + 1) 25 (keyV k o c' a' r' v') := (Blk.new2 w _ _ _).below hb (by simp)
  have hbb : Below w.heap.size w w1 := (((Below.refl _ _).alloc (Nat.le_refl _) _).alloc (by simp) _).trans (hb.mono (by simp; omega))
  clear hb
  obtain ⟨y0, y1, y2, y3, y4, y5⟩ := J2.key
  rw [hA]
  go_wp2_with fail
  refine (HC'.out _).mono ?_; rintro e w2 ⟨rfl, hb2⟩
  rw [hB]
  have K1 := J1.below hb2 J1.lt
  have K2 := J2.below hb2 J2.lt
  have hbb2 := hbb.trans (hb2.mono (by have := J1.lt; omega))
  clear y0 y1 y2 y3 y4 y5 J1 J2 hbb hb2 HC HC' hA hB
  obtain ⟨x0, x1, x2, x3, x4, x5⟩ := K1.key
  obtain ⟨y0, y1, y2, y3, y4, y5⟩ := K2.key
  clear K1 K2
  go_upto_region 6 with fail
  go_quiet (fail)
  go_wp2_with fail
  go_ret
  exact ⟨by rw [HW.out]; go_light; simp [rightsB, *], below_drewN hbb2 _⟩

set_option maxHeartbeats 1000000 in
theorem rwithin_k_3 (k o c a r v a' r' v' : Int) (w : World) (hk : k ≠ 0) (hk2 : (k == 2) = false) (hk3 : (k == 3) = false) (hne : (a == a') = false) (hr : r < 9223372036854775808) (hr' : r' < 9223372036854775808) (hA : ofB k o c a r v = true) (hB : ofB k o c a' r' v' = true) :
    Calls Try.prog 12 #[.agg #[.int .i64 k, .int .i64 o, .int .i64 c, .int .i64 a, .int .i64 r, .int .i64 v], .agg #[.int .i64 k, .int .i64 o, .int .i64 c, .int .i64 a', .int .i64 r', .int .i64 v']] w fun e w' =>
      e = .returned (.bool (withB k o c a r v k o c a' r' v')) ∧ Below w.heap.size w w' := by
  have HC := Lib.hid (fun W => rcheck_any k o c a r v W hr)
  have HC' := Lib.hid (fun W => rcheck_any k o c a' r' v' W hr')
  have HW := Lib.hid (withB_core k o c a r v k o c a' r' v' hA hB)
  clear hr hr'
  have he : errB true = 0 := rfl
  go_enter Try.func12, Try.ntmps12
  go_wp2_with fail
  refine (HC.out _).mono ?_; rintro e w1 ⟨rfl, hb⟩
  have J1 : Blk w1 w.heap.size 25 (keyV k o c a r v) := ((Blk.new w _ _).alloc _).below hb (by simp; omega)
  have J2 : Blk w1 (w.heap.size + 1) 25 (keyV k o c a' r' v') := (Blk.new2 w _ _ _).below hb (by simp)
  have hbb : Below w.heap.size w w1 := (((Below.refl _ _).alloc (Nat.le_refl _) _).alloc (by simp) _).trans (hb.mono (by simp; omega))
  clear hb
  obtain ⟨y0, y1, y2, y3, y4, y5⟩ := J2.key
  rw [hA]
  go_wp2_with fail
  refine (HC'.out _).mono ?_; rintro e w2 ⟨rfl, hb2⟩
  rw [hB]
  have K1 := J1.below hb2 J1.lt
  have K2 := J2.below hb2 J2.lt
  have hbb2 := hbb.trans (hb2.mono (by have := J1.lt; omega))
  clear y0 y1 y2 y3 y4 y5 J1 J2 hbb hb2 HC HC' hA hB
  obtain ⟨x0, x1, x2, x3, x4, x5⟩ := K1.key
  obtain ⟨y0, y1, y2, y3, y4, y5⟩ := K2.key
  clear K1 K2
  go_upto_region 6 with fail
  go_quiet (fail)
  go_wp2_with fail
  go_ret
  exact ⟨by rw [HW.out]; go_light; simp [rightsB, *], below_drewN hbb2 _⟩

set_option maxHeartbeats 1000000 in
theorem rwithin_k_4 (k o c a r v r' v' : Int) (w : World) (hk : k ≠ 0) (hk2 : (k == 2) = false) (hk3 : (k == 3) = false) (hne : (r == r') = false) (hr : r < 9223372036854775808) (hr' : r' < 9223372036854775808) (hA : ofB k o c a r v = true) (hB : ofB k o c a r' v' = true) :
    Calls Try.prog 12 #[.agg #[.int .i64 k, .int .i64 o, .int .i64 c, .int .i64 a, .int .i64 r, .int .i64 v], .agg #[.int .i64 k, .int .i64 o, .int .i64 c, .int .i64 a, .int .i64 r', .int .i64 v']] w fun e w' =>
      e = .returned (.bool (withB k o c a r v k o c a r' v')) ∧ Below w.heap.size w w' := by
  have HC := Lib.hid (fun W => rcheck_any k o c a r v W hr)
  have HC' := Lib.hid (fun W => rcheck_any k o c a r' v' W hr')
  have HW := Lib.hid (withB_core k o c a r v k o c a r' v' hA hB)
  clear hr hr'
  have he : errB true = 0 := rfl
  go_enter Try.func12, Try.ntmps12
  go_wp2_with fail
  refine (HC.out _).mono ?_; rintro e w1 ⟨rfl, hb⟩
  have J1 : Blk w1 w.heap.size 25 (keyV k o c a r v) := ((Blk.new w _ _).alloc _).below hb (by simp; omega)
  have J2 : Blk w1 (w.heap.size + 1) 25 (keyV k o c a r' v') := (Blk.new2 w _ _ _).below hb (by simp)
  have hbb : Below w.heap.size w w1 := (((Below.refl _ _).alloc (Nat.le_refl _) _).alloc (by simp) _).trans (hb.mono (by simp; omega))
  clear hb
  obtain ⟨y0, y1, y2, y3, y4, y5⟩ := J2.key
  rw [hA]
  go_wp2_with fail
  refine (HC'.out _).mono ?_; rintro e w2 ⟨rfl, hb2⟩
  rw [hB]
  have K1 := J1.below hb2 J1.lt
  have K2 := J2.below hb2 J2.lt
  have hbb2 := hbb.trans (hb2.mono (by have := J1.lt; omega))
  clear y0 y1 y2 y3 y4 y5 J1 J2 hbb hb2 HC HC' hA hB
  obtain ⟨x0, x1, x2, x3, x4, x5⟩ := K1.key
  obtain ⟨y0, y1, y2, y3, y4, y5⟩ := K2.key
  clear K1 K2
  go_upto_region 6 with fail
  go_quiet (fail)
  go_wp2_with fail
  go_ret
  exact ⟨by rw [HW.out]; go_light; simp [rightsB, *], below_drewN hbb2 _⟩

set_option maxHeartbeats 1000000 in
theorem rwithin_k_5 (k o c a r v v' : Int) (w : World) (hk : k ≠ 0) (hk2 : (k == 2) = false) (hk3 : (k == 3) = false) (hne : (v == v') = false) (hr : r < 9223372036854775808) (hr' : r < 9223372036854775808) (hA : ofB k o c a r v = true) (hB : ofB k o c a r v' = true) :
    Calls Try.prog 12 #[.agg #[.int .i64 k, .int .i64 o, .int .i64 c, .int .i64 a, .int .i64 r, .int .i64 v], .agg #[.int .i64 k, .int .i64 o, .int .i64 c, .int .i64 a, .int .i64 r, .int .i64 v']] w fun e w' =>
      e = .returned (.bool (withB k o c a r v k o c a r v')) ∧ Below w.heap.size w w' := by
  have HC := Lib.hid (fun W => rcheck_any k o c a r v W hr)
  have HC' := Lib.hid (fun W => rcheck_any k o c a r v' W hr')
  have HW := Lib.hid (withB_core k o c a r v k o c a r v' hA hB)
  clear hr hr'
  have he : errB true = 0 := rfl
  go_enter Try.func12, Try.ntmps12
  go_wp2_with fail
  refine (HC.out _).mono ?_; rintro e w1 ⟨rfl, hb⟩
  have J1 : Blk w1 w.heap.size 25 (keyV k o c a r v) := ((Blk.new w _ _).alloc _).below hb (by simp; omega)
  have J2 : Blk w1 (w.heap.size + 1) 25 (keyV k o c a r v') := (Blk.new2 w _ _ _).below hb (by simp)
  have hbb : Below w.heap.size w w1 := (((Below.refl _ _).alloc (Nat.le_refl _) _).alloc (by simp) _).trans (hb.mono (by simp; omega))
  clear hb
  obtain ⟨y0, y1, y2, y3, y4, y5⟩ := J2.key
  rw [hA]
  go_wp2_with fail
  refine (HC'.out _).mono ?_; rintro e w2 ⟨rfl, hb2⟩
  rw [hB]
  have K1 := J1.below hb2 J1.lt
  have K2 := J2.below hb2 J2.lt
  have hbb2 := hbb.trans (hb2.mono (by have := J1.lt; omega))
  clear y0 y1 y2 y3 y4 y5 J1 J2 hbb hb2 HC HC' hA hB
  obtain ⟨x0, x1, x2, x3, x4, x5⟩ := K1.key
  obtain ⟨y0, y1, y2, y3, y4, y5⟩ := K2.key
  clear K1 K2
  go_upto_region 6 with fail
  go_quiet (fail)
  go_wp2_with fail
  go_ret
  exact ⟨by rw [HW.out]; go_light; simp [rightsB, *], below_drewN hbb2 _⟩

set_option maxHeartbeats 1000000 in
theorem rwithin_2_0 (o c a r v k' o' c' a' r' v' : Int) (w : World) (hne : (2 == k') = false) (hr : r < 9223372036854775808) (hr' : r' < 9223372036854775808) (hA : ofB 2 o c a r v = true) (hB : ofB k' o' c' a' r' v' = true) :
    Calls Try.prog 12 #[.agg #[.int .i64 2, .int .i64 o, .int .i64 c, .int .i64 a, .int .i64 r, .int .i64 v], .agg #[.int .i64 k', .int .i64 o', .int .i64 c', .int .i64 a', .int .i64 r', .int .i64 v']] w fun e w' =>
      e = .returned (.bool (withB 2 o c a r v k' o' c' a' r' v')) ∧ Below w.heap.size w w' := by
  have HC := Lib.hid (fun W => rcheck_any 2 o c a r v W hr)
  have HC' := Lib.hid (fun W => rcheck_any k' o' c' a' r' v' W hr')
  have HW := Lib.hid (withB_core 2 o c a r v k' o' c' a' r' v' hA hB)
  clear hr hr'
  have he : errB true = 0 := rfl
  go_enter Try.func12, Try.ntmps12
  go_wp2_with fail
  refine (HC.out _).mono ?_; rintro e w1 ⟨rfl, hb⟩
  have J1 : Blk w1 w.heap.size 25 (keyV 2 o c a r v) := ((Blk.new w _ _).alloc _).below hb (by simp; omega)
  have J2 : Blk w1 (w.heap.size + 1) 25 (keyV k' o' c' a' r' v') := (Blk.new2 w _ _ _).below hb (by simp)
  have hbb : Below w.heap.size w w1 := (((Below.refl _ _).alloc (Nat.le_refl _) _).alloc (by simp) _).trans (hb.mono (by simp; omega))
  clear hb
  obtain ⟨y0, y1, y2, y3, y4, y5⟩ := J2.key
  rw [hA]
  go_wp2_with fail
  refine (HC'.out _).mono ?_; rintro e w2 ⟨rfl, hb2⟩
  rw [hB]
  have K1 := J1.below hb2 J1.lt
  have K2 := J2.below hb2 J2.lt
  have hbb2 := hbb.trans (hb2.mono (by have := J1.lt; omega))
  clear y0 y1 y2 y3 y4 y5 J1 J2 hbb hb2 HC HC' hA hB
  obtain ⟨x0, x1, x2, x3, x4, x5⟩ := K1.key
  obtain ⟨y0, y1, y2, y3, y4, y5⟩ := K2.key
  clear K1 K2
  go_upto_region 6 with fail
  go_quiet (fail)
  go_wp2_with fail
  go_ret
  exact ⟨by rw [HW.out]; go_light; simp [rightsB, *], below_drewN hbb2 _⟩

set_option maxHeartbeats 1000000 in
theorem rwithin_2_1 (o c a r v o' c' a' r' v' : Int) (w : World) (hne : (o == o') = false) (hr : r < 9223372036854775808) (hr' : r' < 9223372036854775808) (hA : ofB 2 o c a r v = true) (hB : ofB 2 o' c' a' r' v' = true) :
    Calls Try.prog 12 #[.agg #[.int .i64 2, .int .i64 o, .int .i64 c, .int .i64 a, .int .i64 r, .int .i64 v], .agg #[.int .i64 2, .int .i64 o', .int .i64 c', .int .i64 a', .int .i64 r', .int .i64 v']] w fun e w' =>
      e = .returned (.bool (withB 2 o c a r v 2 o' c' a' r' v')) ∧ Below w.heap.size w w' := by
  have HC := Lib.hid (fun W => rcheck_any 2 o c a r v W hr)
  have HC' := Lib.hid (fun W => rcheck_any 2 o' c' a' r' v' W hr')
  have HW := Lib.hid (withB_core 2 o c a r v 2 o' c' a' r' v' hA hB)
  clear hr hr'
  have he : errB true = 0 := rfl
  go_enter Try.func12, Try.ntmps12
  go_wp2_with fail
  refine (HC.out _).mono ?_; rintro e w1 ⟨rfl, hb⟩
  have J1 : Blk w1 w.heap.size 25 (keyV 2 o c a r v) := ((Blk.new w _ _).alloc _).below hb (by simp; omega)
  have J2 : Blk w1 (w.heap.size + 1) 25 (keyV 2 o' c' a' r' v') := (Blk.new2 w _ _ _).below hb (by simp)
  have hbb : Below w.heap.size w w1 := (((Below.refl _ _).alloc (Nat.le_refl _) _).alloc (by simp) _).trans (hb.mono (by simp; omega))
  clear hb
  obtain ⟨y0, y1, y2, y3, y4, y5⟩ := J2.key
  rw [hA]
  go_wp2_with fail
  refine (HC'.out _).mono ?_; rintro e w2 ⟨rfl, hb2⟩
  rw [hB]
  have K1 := J1.below hb2 J1.lt
  have K2 := J2.below hb2 J2.lt
  have hbb2 := hbb.trans (hb2.mono (by have := J1.lt; omega))
  clear y0 y1 y2 y3 y4 y5 J1 J2 hbb hb2 HC HC' hA hB
  obtain ⟨x0, x1, x2, x3, x4, x5⟩ := K1.key
  obtain ⟨y0, y1, y2, y3, y4, y5⟩ := K2.key
  clear K1 K2
  go_upto_region 6 with fail
  go_quiet (fail)
  go_wp2_with fail
  go_ret
  exact ⟨by rw [HW.out]; go_light; simp [rightsB, *], below_drewN hbb2 _⟩

set_option maxHeartbeats 1000000 in
theorem rwithin_2_2 (o c a r v c' a' r' v' : Int) (w : World) (hne : (c == c') = false) (hr : r < 9223372036854775808) (hr' : r' < 9223372036854775808) (hA : ofB 2 o c a r v = true) (hB : ofB 2 o c' a' r' v' = true) :
    Calls Try.prog 12 #[.agg #[.int .i64 2, .int .i64 o, .int .i64 c, .int .i64 a, .int .i64 r, .int .i64 v], .agg #[.int .i64 2, .int .i64 o, .int .i64 c', .int .i64 a', .int .i64 r', .int .i64 v']] w fun e w' =>
      e = .returned (.bool (withB 2 o c a r v 2 o c' a' r' v')) ∧ Below w.heap.size w w' := by
  have HC := Lib.hid (fun W => rcheck_any 2 o c a r v W hr)
  have HC' := Lib.hid (fun W => rcheck_any 2 o c' a' r' v' W hr')
  have HW := Lib.hid (withB_core 2 o c a r v 2 o c' a' r' v' hA hB)
  clear hr hr'
  have he : errB true = 0 := rfl
  go_enter Try.func12, Try.ntmps12
  go_wp2_with fail
  refine (HC.out _).mono ?_; rintro e w1 ⟨rfl, hb⟩
  have J1 : Blk w1 w.heap.size 25 (keyV 2 o c a r v) := ((Blk.new w _ _).alloc _).below hb (by simp; omega)
  have J2 : Blk w1 (w.heap.size + 1) 25 (keyV 2 o c' a' r' v') := (Blk.new2 w _ _ _).below hb (by simp)
  have hbb : Below w.heap.size w w1 := (((Below.refl _ _).alloc (Nat.le_refl _) _).alloc (by simp) _).trans (hb.mono (by simp; omega))
  clear hb
  obtain ⟨y0, y1, y2, y3, y4, y5⟩ := J2.key
  rw [hA]
  go_wp2_with fail
  refine (HC'.out _).mono ?_; rintro e w2 ⟨rfl, hb2⟩
  rw [hB]
  have K1 := J1.below hb2 J1.lt
  have K2 := J2.below hb2 J2.lt
  have hbb2 := hbb.trans (hb2.mono (by have := J1.lt; omega))
  clear y0 y1 y2 y3 y4 y5 J1 J2 hbb hb2 HC HC' hA hB
  obtain ⟨x0, x1, x2, x3, x4, x5⟩ := K1.key
  obtain ⟨y0, y1, y2, y3, y4, y5⟩ := K2.key
  clear K1 K2
  go_upto_region 6 with fail
  go_quiet (fail)
  go_wp2_with fail
  go_ret
  exact ⟨by rw [HW.out]; go_light; simp [rightsB, *], below_drewN hbb2 _⟩

set_option maxHeartbeats 1000000 in
theorem rwithin_2_4 (o c a r v r' v' : Int) (w : World) (hne : (r == r') = false) (hr : r < 9223372036854775808) (hr' : r' < 9223372036854775808) (hA : ofB 2 o c a r v = true) (hB : ofB 2 o c a r' v' = true) :
    Calls Try.prog 12 #[.agg #[.int .i64 2, .int .i64 o, .int .i64 c, .int .i64 a, .int .i64 r, .int .i64 v], .agg #[.int .i64 2, .int .i64 o, .int .i64 c, .int .i64 a, .int .i64 r', .int .i64 v']] w fun e w' =>
      e = .returned (.bool (withB 2 o c a r v 2 o c a r' v')) ∧ Below w.heap.size w w' := by
  have HC := Lib.hid (fun W => rcheck_any 2 o c a r v W hr)
  have HC' := Lib.hid (fun W => rcheck_any 2 o c a r' v' W hr')
  have HW := Lib.hid (withB_core 2 o c a r v 2 o c a r' v' hA hB)
  have q1 := rights_bd hA hr
  have q2 := rights_bd hB hr'
  have m1 : mostOf 2 ≤ 7 := by decide
  obtain ⟨q3, q4⟩ := q1
  obtain ⟨q5, q6⟩ := q2
  have q7 : r ≤ 7 := by omega
  have q8 : r' ≤ 7 := by omega
  clear q4 q6 m1
  have HR := Lib.hid (withW_andNot r r' q3 q7 q5 q8)
  clear hr hr'
  have he : errB true = 0 := rfl
  go_enter Try.func12, Try.ntmps12
  go_wp2_with fail
  refine (HC.out _).mono ?_; rintro e w1 ⟨rfl, hb⟩
  have J1 : Blk w1 w.heap.size 25 (keyV 2 o c a r v) := ((Blk.new w _ _).alloc _).below hb (by simp; omega)
  have J2 : Blk w1 (w.heap.size + 1) 25 (keyV 2 o c a r' v') := (Blk.new2 w _ _ _).below hb (by simp)
  have hbb : Below w.heap.size w w1 := (((Below.refl _ _).alloc (Nat.le_refl _) _).alloc (by simp) _).trans (hb.mono (by simp; omega))
  clear hb
  obtain ⟨y0, y1, y2, y3, y4, y5⟩ := J2.key
  rw [hA]
  go_wp2_with fail
  refine (HC'.out _).mono ?_; rintro e w2 ⟨rfl, hb2⟩
  rw [hB]
  have K1 := J1.below hb2 J1.lt
  have K2 := J2.below hb2 J2.lt
  have hbb2 := hbb.trans (hb2.mono (by have := J1.lt; omega))
  clear y0 y1 y2 y3 y4 y5 J1 J2 hbb hb2 HC HC' hA hB
  obtain ⟨x0, x1, x2, x3, x4, x5⟩ := K1.key
  obtain ⟨y0, y1, y2, y3, y4, y5⟩ := K2.key
  clear K1 K2
  go_upto_region 6 with fail
  go_quiet ((go_at_call 30; exact Calls.quiet_of_same (rwith_q _ _ _ (by omega) (by omega) (by omega) (by omega))))
  go_wp2_with fail
  go_ret
  exact ⟨by rw [HW.out, ← HR.out]; go_light; simp [rightsB, *], below_drewN hbb2 _⟩

set_option maxHeartbeats 1000000 in
theorem rwithin_3_0 (o c a r v k' o' c' a' r' v' : Int) (w : World) (hne : (3 == k') = false) (hr : r < 9223372036854775808) (hr' : r' < 9223372036854775808) (hA : ofB 3 o c a r v = true) (hB : ofB k' o' c' a' r' v' = true) :
    Calls Try.prog 12 #[.agg #[.int .i64 3, .int .i64 o, .int .i64 c, .int .i64 a, .int .i64 r, .int .i64 v], .agg #[.int .i64 k', .int .i64 o', .int .i64 c', .int .i64 a', .int .i64 r', .int .i64 v']] w fun e w' =>
      e = .returned (.bool (withB 3 o c a r v k' o' c' a' r' v')) ∧ Below w.heap.size w w' := by
  have HC := Lib.hid (fun W => rcheck_any 3 o c a r v W hr)
  have HC' := Lib.hid (fun W => rcheck_any k' o' c' a' r' v' W hr')
  have HW := Lib.hid (withB_core 3 o c a r v k' o' c' a' r' v' hA hB)
  clear hr hr'
  have he : errB true = 0 := rfl
  go_enter Try.func12, Try.ntmps12
  go_wp2_with fail
  refine (HC.out _).mono ?_; rintro e w1 ⟨rfl, hb⟩
  have J1 : Blk w1 w.heap.size 25 (keyV 3 o c a r v) := ((Blk.new w _ _).alloc _).below hb (by simp; omega)
  have J2 : Blk w1 (w.heap.size + 1) 25 (keyV k' o' c' a' r' v') := (Blk.new2 w _ _ _).below hb (by simp)
  have hbb : Below w.heap.size w w1 := (((Below.refl _ _).alloc (Nat.le_refl _) _).alloc (by simp) _).trans (hb.mono (by simp; omega))
  clear hb
  obtain ⟨y0, y1, y2, y3, y4, y5⟩ := J2.key
  rw [hA]
  go_wp2_with fail
  refine (HC'.out _).mono ?_; rintro e w2 ⟨rfl, hb2⟩
  rw [hB]
  have K1 := J1.below hb2 J1.lt
  have K2 := J2.below hb2 J2.lt
  have hbb2 := hbb.trans (hb2.mono (by have := J1.lt; omega))
  clear y0 y1 y2 y3 y4 y5 J1 J2 hbb hb2 HC HC' hA hB
  obtain ⟨x0, x1, x2, x3, x4, x5⟩ := K1.key
  obtain ⟨y0, y1, y2, y3, y4, y5⟩ := K2.key
  clear K1 K2
  go_upto_region 6 with fail
  go_quiet (fail)
  go_wp2_with fail
  go_ret
  exact ⟨by rw [HW.out]; go_light; simp [rightsB, *], below_drewN hbb2 _⟩

set_option maxHeartbeats 1000000 in
theorem rwithin_3_1 (o c a r v o' c' a' r' v' : Int) (w : World) (hne : (o == o') = false) (hr : r < 9223372036854775808) (hr' : r' < 9223372036854775808) (hA : ofB 3 o c a r v = true) (hB : ofB 3 o' c' a' r' v' = true) :
    Calls Try.prog 12 #[.agg #[.int .i64 3, .int .i64 o, .int .i64 c, .int .i64 a, .int .i64 r, .int .i64 v], .agg #[.int .i64 3, .int .i64 o', .int .i64 c', .int .i64 a', .int .i64 r', .int .i64 v']] w fun e w' =>
      e = .returned (.bool (withB 3 o c a r v 3 o' c' a' r' v')) ∧ Below w.heap.size w w' := by
  have HC := Lib.hid (fun W => rcheck_any 3 o c a r v W hr)
  have HC' := Lib.hid (fun W => rcheck_any 3 o' c' a' r' v' W hr')
  have HW := Lib.hid (withB_core 3 o c a r v 3 o' c' a' r' v' hA hB)
  clear hr hr'
  have he : errB true = 0 := rfl
  go_enter Try.func12, Try.ntmps12
  go_wp2_with fail
  refine (HC.out _).mono ?_; rintro e w1 ⟨rfl, hb⟩
  have J1 : Blk w1 w.heap.size 25 (keyV 3 o c a r v) := ((Blk.new w _ _).alloc _).below hb (by simp; omega)
  have J2 : Blk w1 (w.heap.size + 1) 25 (keyV 3 o' c' a' r' v') := (Blk.new2 w _ _ _).below hb (by simp)
  have hbb : Below w.heap.size w w1 := (((Below.refl _ _).alloc (Nat.le_refl _) _).alloc (by simp) _).trans (hb.mono (by simp; omega))
  clear hb
  obtain ⟨y0, y1, y2, y3, y4, y5⟩ := J2.key
  rw [hA]
  go_wp2_with fail
  refine (HC'.out _).mono ?_; rintro e w2 ⟨rfl, hb2⟩
  rw [hB]
  have K1 := J1.below hb2 J1.lt
  have K2 := J2.below hb2 J2.lt
  have hbb2 := hbb.trans (hb2.mono (by have := J1.lt; omega))
  clear y0 y1 y2 y3 y4 y5 J1 J2 hbb hb2 HC HC' hA hB
  obtain ⟨x0, x1, x2, x3, x4, x5⟩ := K1.key
  obtain ⟨y0, y1, y2, y3, y4, y5⟩ := K2.key
  clear K1 K2
  go_upto_region 6 with fail
  go_quiet (fail)
  go_wp2_with fail
  go_ret
  exact ⟨by rw [HW.out]; go_light; simp [rightsB, *], below_drewN hbb2 _⟩

set_option maxHeartbeats 1000000 in
theorem rwithin_3_2 (o c a r v c' a' r' v' : Int) (w : World) (hne : (c == c') = false) (hr : r < 9223372036854775808) (hr' : r' < 9223372036854775808) (hA : ofB 3 o c a r v = true) (hB : ofB 3 o c' a' r' v' = true) :
    Calls Try.prog 12 #[.agg #[.int .i64 3, .int .i64 o, .int .i64 c, .int .i64 a, .int .i64 r, .int .i64 v], .agg #[.int .i64 3, .int .i64 o, .int .i64 c', .int .i64 a', .int .i64 r', .int .i64 v']] w fun e w' =>
      e = .returned (.bool (withB 3 o c a r v 3 o c' a' r' v')) ∧ Below w.heap.size w w' := by
  have HC := Lib.hid (fun W => rcheck_any 3 o c a r v W hr)
  have HC' := Lib.hid (fun W => rcheck_any 3 o c' a' r' v' W hr')
  have HW := Lib.hid (withB_core 3 o c a r v 3 o c' a' r' v' hA hB)
  clear hr hr'
  have he : errB true = 0 := rfl
  go_enter Try.func12, Try.ntmps12
  go_wp2_with fail
  refine (HC.out _).mono ?_; rintro e w1 ⟨rfl, hb⟩
  have J1 : Blk w1 w.heap.size 25 (keyV 3 o c a r v) := ((Blk.new w _ _).alloc _).below hb (by simp; omega)
  have J2 : Blk w1 (w.heap.size + 1) 25 (keyV 3 o c' a' r' v') := (Blk.new2 w _ _ _).below hb (by simp)
  have hbb : Below w.heap.size w w1 := (((Below.refl _ _).alloc (Nat.le_refl _) _).alloc (by simp) _).trans (hb.mono (by simp; omega))
  clear hb
  obtain ⟨y0, y1, y2, y3, y4, y5⟩ := J2.key
  rw [hA]
  go_wp2_with fail
  refine (HC'.out _).mono ?_; rintro e w2 ⟨rfl, hb2⟩
  rw [hB]
  have K1 := J1.below hb2 J1.lt
  have K2 := J2.below hb2 J2.lt
  have hbb2 := hbb.trans (hb2.mono (by have := J1.lt; omega))
  clear y0 y1 y2 y3 y4 y5 J1 J2 hbb hb2 HC HC' hA hB
  obtain ⟨x0, x1, x2, x3, x4, x5⟩ := K1.key
  obtain ⟨y0, y1, y2, y3, y4, y5⟩ := K2.key
  clear K1 K2
  go_upto_region 6 with fail
  go_quiet (fail)
  go_wp2_with fail
  go_ret
  exact ⟨by rw [HW.out]; go_light; simp [rightsB, *], below_drewN hbb2 _⟩

set_option maxHeartbeats 1000000 in
theorem rwithin_3_4 (o c a r v r' v' : Int) (w : World) (hne : (r == r') = false) (hr : r < 9223372036854775808) (hr' : r' < 9223372036854775808) (hA : ofB 3 o c a r v = true) (hB : ofB 3 o c a r' v' = true) :
    Calls Try.prog 12 #[.agg #[.int .i64 3, .int .i64 o, .int .i64 c, .int .i64 a, .int .i64 r, .int .i64 v], .agg #[.int .i64 3, .int .i64 o, .int .i64 c, .int .i64 a, .int .i64 r', .int .i64 v']] w fun e w' =>
      e = .returned (.bool (withB 3 o c a r v 3 o c a r' v')) ∧ Below w.heap.size w w' := by
  have HC := Lib.hid (fun W => rcheck_any 3 o c a r v W hr)
  have HC' := Lib.hid (fun W => rcheck_any 3 o c a r' v' W hr')
  have HW := Lib.hid (withB_core 3 o c a r v 3 o c a r' v' hA hB)
  have q1 := rights_bd hA hr
  have q2 := rights_bd hB hr'
  have m1 : mostOf 3 ≤ 7 := by decide
  obtain ⟨q3, q4⟩ := q1
  obtain ⟨q5, q6⟩ := q2
  have q7 : r ≤ 7 := by omega
  have q8 : r' ≤ 7 := by omega
  clear q4 q6 m1
  have HR := Lib.hid (withW_andNot r r' q3 q7 q5 q8)
  clear hr hr'
  have he : errB true = 0 := rfl
  go_enter Try.func12, Try.ntmps12
  go_wp2_with fail
  refine (HC.out _).mono ?_; rintro e w1 ⟨rfl, hb⟩
  have J1 : Blk w1 w.heap.size 25 (keyV 3 o c a r v) := ((Blk.new w _ _).alloc _).below hb (by simp; omega)
  have J2 : Blk w1 (w.heap.size + 1) 25 (keyV 3 o c a r' v') := (Blk.new2 w _ _ _).below hb (by simp)
  have hbb : Below w.heap.size w w1 := (((Below.refl _ _).alloc (Nat.le_refl _) _).alloc (by simp) _).trans (hb.mono (by simp; omega))
  clear hb
  obtain ⟨y0, y1, y2, y3, y4, y5⟩ := J2.key
  rw [hA]
  go_wp2_with fail
  refine (HC'.out _).mono ?_; rintro e w2 ⟨rfl, hb2⟩
  rw [hB]
  have K1 := J1.below hb2 J1.lt
  have K2 := J2.below hb2 J2.lt
  have hbb2 := hbb.trans (hb2.mono (by have := J1.lt; omega))
  clear y0 y1 y2 y3 y4 y5 J1 J2 hbb hb2 HC HC' hA hB
  obtain ⟨x0, x1, x2, x3, x4, x5⟩ := K1.key
  obtain ⟨y0, y1, y2, y3, y4, y5⟩ := K2.key
  clear K1 K2
  go_upto_region 6 with fail
  go_quiet ((go_at_call 30; exact Calls.quiet_of_same (rwith_q _ _ _ (by omega) (by omega) (by omega) (by omega))))
  go_wp2_with fail
  go_ret
  exact ⟨by rw [HW.out, ← HR.out]; go_light; simp [rightsB, *], below_drewN hbb2 _⟩

set_option maxHeartbeats 1000000 in
theorem rwithin_same (k o c a r v : Int) (w : World) (hk : k ≠ 0) (hr : r < 9223372036854775808) (hr' : r < 9223372036854775808) (hA : ofB k o c a r v = true) (hB : ofB k o c a r v = true) :
    Calls Try.prog 12 #[.agg #[.int .i64 k, .int .i64 o, .int .i64 c, .int .i64 a, .int .i64 r, .int .i64 v], .agg #[.int .i64 k, .int .i64 o, .int .i64 c, .int .i64 a, .int .i64 r, .int .i64 v]] w fun e w' =>
      e = .returned (.bool (withB k o c a r v k o c a r v)) ∧ Below w.heap.size w w' := by
  have HC := Lib.hid (fun W => rcheck_any k o c a r v W hr)
  have HC' := Lib.hid (fun W => rcheck_any k o c a r v W hr')
  have HW := Lib.hid (withB_core k o c a r v k o c a r v hA hB)
  clear hr hr'
  have he : errB true = 0 := rfl
  go_enter Try.func12, Try.ntmps12
  go_wp2_with fail
  refine (HC.out _).mono ?_; rintro e w1 ⟨rfl, hb⟩
  have J1 : Blk w1 w.heap.size 25 (keyV k o c a r v) := ((Blk.new w _ _).alloc _).below hb (by simp; omega)
  have J2 : Blk w1 (w.heap.size + 1) 25 (keyV k o c a r v) := (Blk.new2 w _ _ _).below hb (by simp)
  have hbb : Below w.heap.size w w1 := (((Below.refl _ _).alloc (Nat.le_refl _) _).alloc (by simp) _).trans (hb.mono (by simp; omega))
  clear hb
  obtain ⟨y0, y1, y2, y3, y4, y5⟩ := J2.key
  rw [hA]
  go_wp2_with fail
  refine (HC'.out _).mono ?_; rintro e w2 ⟨rfl, hb2⟩
  rw [hB]
  have K1 := J1.below hb2 J1.lt
  have K2 := J2.below hb2 J2.lt
  have hbb2 := hbb.trans (hb2.mono (by have := J1.lt; omega))
  clear y0 y1 y2 y3 y4 y5 J1 J2 hbb hb2 HC HC' hA hB
  obtain ⟨x0, x1, x2, x3, x4, x5⟩ := K1.key
  obtain ⟨y0, y1, y2, y3, y4, y5⟩ := K2.key
  clear K1 K2
  go_wp2_with fail
  go_ret
  exact ⟨by rw [HW.out]; simp, hbb2⟩


end Go.Proofs.Ytlfkfhdcljkhkaa
