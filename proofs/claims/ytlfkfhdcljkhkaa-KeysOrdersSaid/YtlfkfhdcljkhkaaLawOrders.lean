/-
  The law KeysOrders answers true, for all keys and Rights.
-/
import Derived.Test.YtlfkfhdcljkhkaaOrdMem
namespace Go.Proofs.Ytlfkfhdcljkhkaa
open Go.RowKit

set_option maxRecDepth 100000 in
set_option maxHeartbeats 1000000 in
theorem orders_1 (k o c a r v k' o' c' a' r' v' K O C X Y V R : Int) (w : World) (hB : ofB k o c a r v = false) :
    Calls Try.prog 7 #[.agg #[.int .i64 k, .int .i64 o, .int .i64 c, .int .i64 a, .int .i64 r, .int .i64 v], .agg #[.int .i64 k', .int .i64 o', .int .i64 c', .int .i64 a', .int .i64 r', .int .i64 v'], .agg #[.int .i64 K, .int .i64 O, .int .i64 C, .int .i64 X, .int .i64 Y, .int .i64 V, .int .i64 R]] w fun e w' => e = .returned (.bool true) ∧ Below w.heap.size w w' := by
  go_enter Try.func7, Try.ntmps7
  go_upto_region 2 with fail
  have S0 : Held w ((((w.alloc (.cells #[.int .i64 k, .int .i64 o, .int .i64 c, .int .i64 a, .int .i64 r, .int .i64 v] 25)).alloc (.cells #[.int .i64 k', .int .i64 o', .int .i64 c', .int .i64 a', .int .i64 r', .int .i64 v'] 25)).alloc (.cells #[.int .i64 K, .int .i64 O, .int .i64 C, .int .i64 X, .int .i64 Y, .int .i64 V, .int .i64 R] 45)).alloc (.cells #[.int .i64 K, .int .i64 O, .int .i64 C, .int .i64 X, .int .i64 Y, .int .i64 V] 25))
      (w.heap.size + 2) R [(w.heap.size, ⟨k, o, c, a, r, v⟩), (w.heap.size + 1, ⟨k', o', c', a', r', v'⟩), (w.heap.size + 3, ⟨K, O, C, X, Y, V⟩)] := by
    refine ⟨((((Below.refl _ _).alloc (Nat.le_refl _) _).alloc (by simp) _).alloc (by simp; omega) _).alloc (by simp; omega) _, ((Blk.new' (by simp)).alloc _).cell_is 6 rfl, fun x hx => ?_⟩
    simp only [List.mem_cons, List.mem_nil_iff, or_false] at hx
    rcases hx with rfl | rfl | rfl
    · exact (((Blk.new _ _ _).alloc _).alloc _).alloc _
    · exact ((Blk.new' (by simp)).alloc _).alloc _
    · exact Blk.new' (by simp)
  generalize (((w.alloc (.cells #[.int .i64 k, .int .i64 o, .int .i64 c, .int .i64 a, .int .i64 r, .int .i64 v] 25)).alloc (.cells #[.int .i64 k', .int .i64 o', .int .i64 c', .int .i64 a', .int .i64 r', .int .i64 v'] 25)).alloc (.cells #[.int .i64 K, .int .i64 O, .int .i64 C, .int .i64 X, .int .i64 Y, .int .i64 V, .int .i64 R] 45)).alloc (.cells #[.int .i64 K, .int .i64 O, .int .i64 C, .int .i64 X, .int .i64 Y, .int .i64 V] 25) = W0 at *
  obtain ⟨x00, x01, x02, x03, x04, x05, x06⟩ := S0.key (w.heap.size) ⟨k, o, c, a, r, v⟩ (by simp)
  go_wp2_with fail
  refine (check_isnt _ hB).mono ?_; rintro e W1 ⟨rfl, hb⟩
  have S1 := S0.step hb
  clear hb x00 x01 x02 x03 x04 x05 x06
  obtain ⟨m0, m1⟩ := S1.more
  go_wp2_with (go_at_call 14; refine (known_any _).mono ?_; rintro e w' ⟨rfl, hb⟩)
  go_ret
  exact ⟨rfl, (S1.step hb).1⟩

set_option maxRecDepth 100000 in
set_option maxHeartbeats 1000000 in
theorem orders_2 (k o c a r v k' o' c' a' r' v' K O C X Y V R : Int) (w : World) (hA : ofB k o c a r v = true) (hB : ofB k' o' c' a' r' v' = false) :
    Calls Try.prog 7 #[.agg #[.int .i64 k, .int .i64 o, .int .i64 c, .int .i64 a, .int .i64 r, .int .i64 v], .agg #[.int .i64 k', .int .i64 o', .int .i64 c', .int .i64 a', .int .i64 r', .int .i64 v'], .agg #[.int .i64 K, .int .i64 O, .int .i64 C, .int .i64 X, .int .i64 Y, .int .i64 V, .int .i64 R]] w fun e w' => e = .returned (.bool true) ∧ Below w.heap.size w w' := by
  go_enter Try.func7, Try.ntmps7
  go_upto_region 2 with fail
  have S0 : Held w ((((w.alloc (.cells #[.int .i64 k, .int .i64 o, .int .i64 c, .int .i64 a, .int .i64 r, .int .i64 v] 25)).alloc (.cells #[.int .i64 k', .int .i64 o', .int .i64 c', .int .i64 a', .int .i64 r', .int .i64 v'] 25)).alloc (.cells #[.int .i64 K, .int .i64 O, .int .i64 C, .int .i64 X, .int .i64 Y, .int .i64 V, .int .i64 R] 45)).alloc (.cells #[.int .i64 K, .int .i64 O, .int .i64 C, .int .i64 X, .int .i64 Y, .int .i64 V] 25))
      (w.heap.size + 2) R [(w.heap.size, ⟨k, o, c, a, r, v⟩), (w.heap.size + 1, ⟨k', o', c', a', r', v'⟩), (w.heap.size + 3, ⟨K, O, C, X, Y, V⟩)] := by
    refine ⟨((((Below.refl _ _).alloc (Nat.le_refl _) _).alloc (by simp) _).alloc (by simp; omega) _).alloc (by simp; omega) _, ((Blk.new' (by simp)).alloc _).cell_is 6 rfl, fun x hx => ?_⟩
    simp only [List.mem_cons, List.mem_nil_iff, or_false] at hx
    rcases hx with rfl | rfl | rfl
    · exact (((Blk.new _ _ _).alloc _).alloc _).alloc _
    · exact ((Blk.new' (by simp)).alloc _).alloc _
    · exact Blk.new' (by simp)
  generalize (((w.alloc (.cells #[.int .i64 k, .int .i64 o, .int .i64 c, .int .i64 a, .int .i64 r, .int .i64 v] 25)).alloc (.cells #[.int .i64 k', .int .i64 o', .int .i64 c', .int .i64 a', .int .i64 r', .int .i64 v'] 25)).alloc (.cells #[.int .i64 K, .int .i64 O, .int .i64 C, .int .i64 X, .int .i64 Y, .int .i64 V, .int .i64 R] 45)).alloc (.cells #[.int .i64 K, .int .i64 O, .int .i64 C, .int .i64 X, .int .i64 Y, .int .i64 V] 25) = W0 at *
  obtain ⟨x00, x01, x02, x03, x04, x05, x06⟩ := S0.key (w.heap.size) ⟨k, o, c, a, r, v⟩ (by simp)
  go_wp2_with fail
  refine (check_is _ hA).mono ?_; rintro e W1 ⟨rfl, hb⟩
  have S1 := S0.step hb
  clear hb x00 x01 x02 x03 x04 x05 x06
  obtain ⟨x00, x01, x02, x03, x04, x05, x06⟩ := S1.key (w.heap.size + 1) ⟨k', o', c', a', r', v'⟩ (by simp)
  go_wp2_with fail
  refine (check_isnt _ hB).mono ?_; rintro e W2 ⟨rfl, hb⟩
  have S2 := S1.step hb
  clear hb x00 x01 x02 x03 x04 x05 x06
  obtain ⟨m0, m1⟩ := S2.more
  go_wp2_with (go_at_call 14; refine (known_any _).mono ?_; rintro e w' ⟨rfl, hb⟩)
  go_ret
  exact ⟨rfl, (S2.step hb).1⟩

set_option maxRecDepth 100000 in
set_option maxHeartbeats 1000000 in
theorem orders_3 (k o c a r v k' o' c' a' r' v' K O C X Y V R : Int) (w : World) (hA : ofB k o c a r v = true) (hA2 : ofB k' o' c' a' r' v' = true) (hB : ofB K O C X Y V = false) :
    Calls Try.prog 7 #[.agg #[.int .i64 k, .int .i64 o, .int .i64 c, .int .i64 a, .int .i64 r, .int .i64 v], .agg #[.int .i64 k', .int .i64 o', .int .i64 c', .int .i64 a', .int .i64 r', .int .i64 v'], .agg #[.int .i64 K, .int .i64 O, .int .i64 C, .int .i64 X, .int .i64 Y, .int .i64 V, .int .i64 R]] w fun e w' => e = .returned (.bool true) ∧ Below w.heap.size w w' := by
  go_enter Try.func7, Try.ntmps7
  go_upto_region 2 with fail
  have S0 : Held w ((((w.alloc (.cells #[.int .i64 k, .int .i64 o, .int .i64 c, .int .i64 a, .int .i64 r, .int .i64 v] 25)).alloc (.cells #[.int .i64 k', .int .i64 o', .int .i64 c', .int .i64 a', .int .i64 r', .int .i64 v'] 25)).alloc (.cells #[.int .i64 K, .int .i64 O, .int .i64 C, .int .i64 X, .int .i64 Y, .int .i64 V, .int .i64 R] 45)).alloc (.cells #[.int .i64 K, .int .i64 O, .int .i64 C, .int .i64 X, .int .i64 Y, .int .i64 V] 25))
      (w.heap.size + 2) R [(w.heap.size, ⟨k, o, c, a, r, v⟩), (w.heap.size + 1, ⟨k', o', c', a', r', v'⟩), (w.heap.size + 3, ⟨K, O, C, X, Y, V⟩)] := by
    refine ⟨((((Below.refl _ _).alloc (Nat.le_refl _) _).alloc (by simp) _).alloc (by simp; omega) _).alloc (by simp; omega) _, ((Blk.new' (by simp)).alloc _).cell_is 6 rfl, fun x hx => ?_⟩
    simp only [List.mem_cons, List.mem_nil_iff, or_false] at hx
    rcases hx with rfl | rfl | rfl
    · exact (((Blk.new _ _ _).alloc _).alloc _).alloc _
    · exact ((Blk.new' (by simp)).alloc _).alloc _
    · exact Blk.new' (by simp)
  generalize (((w.alloc (.cells #[.int .i64 k, .int .i64 o, .int .i64 c, .int .i64 a, .int .i64 r, .int .i64 v] 25)).alloc (.cells #[.int .i64 k', .int .i64 o', .int .i64 c', .int .i64 a', .int .i64 r', .int .i64 v'] 25)).alloc (.cells #[.int .i64 K, .int .i64 O, .int .i64 C, .int .i64 X, .int .i64 Y, .int .i64 V, .int .i64 R] 45)).alloc (.cells #[.int .i64 K, .int .i64 O, .int .i64 C, .int .i64 X, .int .i64 Y, .int .i64 V] 25) = W0 at *
  obtain ⟨x00, x01, x02, x03, x04, x05, x06⟩ := S0.key (w.heap.size) ⟨k, o, c, a, r, v⟩ (by simp)
  go_wp2_with fail
  refine (check_is _ hA).mono ?_; rintro e W1 ⟨rfl, hb⟩
  have S1 := S0.step hb
  clear hb x00 x01 x02 x03 x04 x05 x06
  obtain ⟨x00, x01, x02, x03, x04, x05, x06⟩ := S1.key (w.heap.size + 1) ⟨k', o', c', a', r', v'⟩ (by simp)
  go_wp2_with fail
  refine (check_is _ hA2).mono ?_; rintro e W2 ⟨rfl, hb⟩
  have S2 := S1.step hb
  clear hb x00 x01 x02 x03 x04 x05 x06
  obtain ⟨x00, x01, x02, x03, x04, x05, x06⟩ := S2.key (w.heap.size + 3) ⟨K, O, C, X, Y, V⟩ (by simp)
  go_wp2_with fail
  refine (check_isnt _ hB).mono ?_; rintro e W3 ⟨rfl, hb⟩
  have S3 := S2.step hb
  clear hb x00 x01 x02 x03 x04 x05 x06
  obtain ⟨m0, m1⟩ := S3.more
  go_wp2_with (go_at_call 14; refine (known_any _).mono ?_; rintro e w' ⟨rfl, hb⟩)
  go_ret
  exact ⟨rfl, (S3.step hb).1⟩

set_option maxRecDepth 100000 in
set_option maxHeartbeats 1000000 in
theorem orders_4 (k o c a r v k' o' c' a' r' v' K O C X Y V R : Int) (w : World) (hA : ofB k o c a r v = true) (hA2 : ofB k' o' c' a' r' v' = true) (hA3 : ofB K O C X Y V = true) (hR : R < 0) :
    Calls Try.prog 7 #[.agg #[.int .i64 k, .int .i64 o, .int .i64 c, .int .i64 a, .int .i64 r, .int .i64 v], .agg #[.int .i64 k', .int .i64 o', .int .i64 c', .int .i64 a', .int .i64 r', .int .i64 v'], .agg #[.int .i64 K, .int .i64 O, .int .i64 C, .int .i64 X, .int .i64 Y, .int .i64 V, .int .i64 R]] w fun e w' => e = .returned (.bool true) ∧ Below w.heap.size w w' := by
  go_enter Try.func7, Try.ntmps7
  go_upto_region 2 with fail
  have S0 : Held w ((((w.alloc (.cells #[.int .i64 k, .int .i64 o, .int .i64 c, .int .i64 a, .int .i64 r, .int .i64 v] 25)).alloc (.cells #[.int .i64 k', .int .i64 o', .int .i64 c', .int .i64 a', .int .i64 r', .int .i64 v'] 25)).alloc (.cells #[.int .i64 K, .int .i64 O, .int .i64 C, .int .i64 X, .int .i64 Y, .int .i64 V, .int .i64 R] 45)).alloc (.cells #[.int .i64 K, .int .i64 O, .int .i64 C, .int .i64 X, .int .i64 Y, .int .i64 V] 25))
      (w.heap.size + 2) R [(w.heap.size, ⟨k, o, c, a, r, v⟩), (w.heap.size + 1, ⟨k', o', c', a', r', v'⟩), (w.heap.size + 3, ⟨K, O, C, X, Y, V⟩)] := by
    refine ⟨((((Below.refl _ _).alloc (Nat.le_refl _) _).alloc (by simp) _).alloc (by simp; omega) _).alloc (by simp; omega) _, ((Blk.new' (by simp)).alloc _).cell_is 6 rfl, fun x hx => ?_⟩
    simp only [List.mem_cons, List.mem_nil_iff, or_false] at hx
    rcases hx with rfl | rfl | rfl
    · exact (((Blk.new _ _ _).alloc _).alloc _).alloc _
    · exact ((Blk.new' (by simp)).alloc _).alloc _
    · exact Blk.new' (by simp)
  generalize (((w.alloc (.cells #[.int .i64 k, .int .i64 o, .int .i64 c, .int .i64 a, .int .i64 r, .int .i64 v] 25)).alloc (.cells #[.int .i64 k', .int .i64 o', .int .i64 c', .int .i64 a', .int .i64 r', .int .i64 v'] 25)).alloc (.cells #[.int .i64 K, .int .i64 O, .int .i64 C, .int .i64 X, .int .i64 Y, .int .i64 V, .int .i64 R] 45)).alloc (.cells #[.int .i64 K, .int .i64 O, .int .i64 C, .int .i64 X, .int .i64 Y, .int .i64 V] 25) = W0 at *
  obtain ⟨x00, x01, x02, x03, x04, x05, x06⟩ := S0.key (w.heap.size) ⟨k, o, c, a, r, v⟩ (by simp)
  go_wp2_with fail
  refine (check_is _ hA).mono ?_; rintro e W1 ⟨rfl, hb⟩
  have S1 := S0.step hb
  clear hb x00 x01 x02 x03 x04 x05 x06
  obtain ⟨x00, x01, x02, x03, x04, x05, x06⟩ := S1.key (w.heap.size + 1) ⟨k', o', c', a', r', v'⟩ (by simp)
  go_wp2_with fail
  refine (check_is _ hA2).mono ?_; rintro e W2 ⟨rfl, hb⟩
  have S2 := S1.step hb
  clear hb x00 x01 x02 x03 x04 x05 x06
  obtain ⟨x00, x01, x02, x03, x04, x05, x06⟩ := S2.key (w.heap.size + 3) ⟨K, O, C, X, Y, V⟩ (by simp)
  go_wp2_with fail
  refine (check_is _ hA3).mono ?_; rintro e W3 ⟨rfl, hb⟩
  have S3 := S2.step hb
  clear hb x00 x01 x02 x03 x04 x05 x06
  obtain ⟨m0, m1⟩ := S3.more
  go_wp2_with (go_at_call 14; refine (known_any _).mono ?_; rintro e w' ⟨rfl, hb⟩)
  go_ret
  exact ⟨rfl, (S3.step hb).1⟩

set_option maxRecDepth 100000 in
set_option maxHeartbeats 1000000 in
theorem orders_5 (k o c a r v k' o' c' a' r' v' K O C X Y V R : Int) (w : World) (hA : ofB k o c a r v = true) (hA2 : ofB k' o' c' a' r' v' = true) (hA3 : ofB K O C X Y V = true) (hR0 : 0 ≤ R) (hR : 7 < R) :
    Calls Try.prog 7 #[.agg #[.int .i64 k, .int .i64 o, .int .i64 c, .int .i64 a, .int .i64 r, .int .i64 v], .agg #[.int .i64 k', .int .i64 o', .int .i64 c', .int .i64 a', .int .i64 r', .int .i64 v'], .agg #[.int .i64 K, .int .i64 O, .int .i64 C, .int .i64 X, .int .i64 Y, .int .i64 V, .int .i64 R]] w fun e w' => e = .returned (.bool true) ∧ Below w.heap.size w w' := by
  go_enter Try.func7, Try.ntmps7
  go_upto_region 2 with fail
  have S0 : Held w ((((w.alloc (.cells #[.int .i64 k, .int .i64 o, .int .i64 c, .int .i64 a, .int .i64 r, .int .i64 v] 25)).alloc (.cells #[.int .i64 k', .int .i64 o', .int .i64 c', .int .i64 a', .int .i64 r', .int .i64 v'] 25)).alloc (.cells #[.int .i64 K, .int .i64 O, .int .i64 C, .int .i64 X, .int .i64 Y, .int .i64 V, .int .i64 R] 45)).alloc (.cells #[.int .i64 K, .int .i64 O, .int .i64 C, .int .i64 X, .int .i64 Y, .int .i64 V] 25))
      (w.heap.size + 2) R [(w.heap.size, ⟨k, o, c, a, r, v⟩), (w.heap.size + 1, ⟨k', o', c', a', r', v'⟩), (w.heap.size + 3, ⟨K, O, C, X, Y, V⟩)] := by
    refine ⟨((((Below.refl _ _).alloc (Nat.le_refl _) _).alloc (by simp) _).alloc (by simp; omega) _).alloc (by simp; omega) _, ((Blk.new' (by simp)).alloc _).cell_is 6 rfl, fun x hx => ?_⟩
    simp only [List.mem_cons, List.mem_nil_iff, or_false] at hx
    rcases hx with rfl | rfl | rfl
    · exact (((Blk.new _ _ _).alloc _).alloc _).alloc _
    · exact ((Blk.new' (by simp)).alloc _).alloc _
    · exact Blk.new' (by simp)
  generalize (((w.alloc (.cells #[.int .i64 k, .int .i64 o, .int .i64 c, .int .i64 a, .int .i64 r, .int .i64 v] 25)).alloc (.cells #[.int .i64 k', .int .i64 o', .int .i64 c', .int .i64 a', .int .i64 r', .int .i64 v'] 25)).alloc (.cells #[.int .i64 K, .int .i64 O, .int .i64 C, .int .i64 X, .int .i64 Y, .int .i64 V, .int .i64 R] 45)).alloc (.cells #[.int .i64 K, .int .i64 O, .int .i64 C, .int .i64 X, .int .i64 Y, .int .i64 V] 25) = W0 at *
  obtain ⟨x00, x01, x02, x03, x04, x05, x06⟩ := S0.key (w.heap.size) ⟨k, o, c, a, r, v⟩ (by simp)
  go_wp2_with fail
  refine (check_is _ hA).mono ?_; rintro e W1 ⟨rfl, hb⟩
  have S1 := S0.step hb
  clear hb x00 x01 x02 x03 x04 x05 x06
  obtain ⟨x00, x01, x02, x03, x04, x05, x06⟩ := S1.key (w.heap.size + 1) ⟨k', o', c', a', r', v'⟩ (by simp)
  go_wp2_with fail
  refine (check_is _ hA2).mono ?_; rintro e W2 ⟨rfl, hb⟩
  have S2 := S1.step hb
  clear hb x00 x01 x02 x03 x04 x05 x06
  obtain ⟨x00, x01, x02, x03, x04, x05, x06⟩ := S2.key (w.heap.size + 3) ⟨K, O, C, X, Y, V⟩ (by simp)
  go_wp2_with fail
  refine (check_is _ hA3).mono ?_; rintro e W3 ⟨rfl, hb⟩
  have S3 := S2.step hb
  clear hb x00 x01 x02 x03 x04 x05 x06
  obtain ⟨m0, m1⟩ := S3.more
  go_wp2_with (go_at_call 14; refine (known_any _).mono ?_; rintro e w' ⟨rfl, hb⟩)
  go_ret
  exact ⟨rfl, (S3.step hb).1⟩

set_option maxRecDepth 100000 in
set_option maxHeartbeats 4000000 in
theorem orders_6 (k o c a r v k' o' c' a' r' v' K O C X Y V R : Int) (w : World) (hA : ofB k o c a r v = true) (hA2 : ofB k' o' c' a' r' v' = true) (hA3 : ofB K O C X Y V = true) (hR0 : 0 ≤ R) (hR7 : R ≤ 7) (hr : Small r) (hr' : Small r') (hY : Small Y) :
    Calls Try.prog 7 #[.agg #[.int .i64 k, .int .i64 o, .int .i64 c, .int .i64 a, .int .i64 r, .int .i64 v], .agg #[.int .i64 k', .int .i64 o', .int .i64 c', .int .i64 a', .int .i64 r', .int .i64 v'], .agg #[.int .i64 K, .int .i64 O, .int .i64 C, .int .i64 X, .int .i64 Y, .int .i64 V, .int .i64 R]] w fun e w' => e = .returned (.bool true) ∧ Below w.heap.size w w' := by
  obtain ⟨wk, cW, cWW, w1, w3⟩ : ∃ wk, (∀ W, Calls Try.prog 20 #[aggK ⟨k, o, c, a, r, v⟩] W fun e w' => e = .returned (.tuple #[aggK wk, .int .i64 0]) ∧ Below W.heap.size W w') ∧
      (∀ W, Calls Try.prog 20 #[aggK wk] W fun e w' => e = .returned (.tuple #[aggK wk, .int .i64 0]) ∧ Below W.heap.size W w') ∧ withK wk ⟨k, o, c, a, r, v⟩ = true ∧ weakK ⟨k, o, c, a, r, v⟩ = wk :=
    ⟨weakK ⟨k, o, c, a, r, v⟩, fun W => weakenK ⟨k, o, c, a, r, v⟩ W hA, fun W => by
      have h := weakenK (weakK ⟨k, o, c, a, r, v⟩) W (ofK_weak (z := ⟨k, o, c, a, r, v⟩) hA hr)
      rw [weak_weakK (z := ⟨k, o, c, a, r, v⟩) hA hr] at h
      exact h, within_weak hA hr, rfl⟩
  obtain ⟨lk, cL, cLL, w2, w4⟩ : ∃ lk, (∀ W, Calls Try.prog 21 #[aggK ⟨k, o, c, a, r, v⟩, .int .i64 R] W fun e w' => e = .returned (.tuple #[aggK lk, .int .i64 0]) ∧ Below W.heap.size W w') ∧
      (∀ W, Calls Try.prog 21 #[aggK lk, .int .i64 R] W fun e w' => e = .returned (.tuple #[aggK lk, .int .i64 0]) ∧ Below W.heap.size W w') ∧ withK lk ⟨k, o, c, a, r, v⟩ = true ∧ lessK ⟨k, o, c, a, r, v⟩ R = lk :=
    ⟨lessK ⟨k, o, c, a, r, v⟩ R, fun W => lessK_c ⟨k, o, c, a, r, v⟩ R W hA hR0 hR7, fun W => by
      have h := lessK_c (lessK ⟨k, o, c, a, r, v⟩ R) R W (ofK_less (z := ⟨k, o, c, a, r, v⟩) hA hr hR0 hR7) hR0 hR7
      rw [less_lessK (z := ⟨k, o, c, a, r, v⟩) hA hr hR0 hR7] at h
      exact h, within_less hA hr hR0 hR7, rfl⟩
  obtain ⟨uk, cU, u3⟩ : ∃ uk, (∀ W, Calls Try.prog 20 #[aggK ⟨k', o', c', a', r', v'⟩] W fun e w' => e = .returned (.tuple #[aggK uk, .int .i64 0]) ∧ Below W.heap.size W w') ∧ (withK ⟨k, o, c, a, r, v⟩ ⟨k', o', c', a', r', v'⟩ = true → withK wk uk = true) :=
    ⟨weakK ⟨k', o', c', a', r', v'⟩, fun W => weakenK ⟨k', o', c', a', r', v'⟩ W hA2, fun h => by rw [← w3]; exact within_weak_weak hA hA2 hr hr' h⟩
  obtain ⟨pk, cP, p3⟩ : ∃ pk, (∀ W, Calls Try.prog 21 #[aggK ⟨k', o', c', a', r', v'⟩, .int .i64 R] W fun e w' => e = .returned (.tuple #[aggK pk, .int .i64 0]) ∧ Below W.heap.size W w') ∧ (k ≠ 0 → withK ⟨k, o, c, a, r, v⟩ ⟨k', o', c', a', r', v'⟩ = true → withK lk pk = true) :=
    ⟨lessK ⟨k', o', c', a', r', v'⟩ R, fun W => lessK_c ⟨k', o', c', a', r', v'⟩ R W hA2 hR0 hR7, fun hk h => by rw [← w4]; exact within_less_less hA hA2 hr hr' hR0 hR7 hk h⟩
  have hanti := fun (h : withB k o c a r v k' o' c' a' r' v' = true) (h' : withB k' o' c' a' r' v' k o c a r v = true) => within_anti hA hA2 hr hr' h h'
  have htr := fun (h : withB k o c a r v k' o' c' a' r' v' = true) (h' : withB k' o' c' a' r' v' K O C X Y V = true) => within_trans hA hA2 hA3 hr hr' hY h h'
  have HW := Lib.hid cW; have HWW := Lib.hid cWW; have HL := Lib.hid cL; have HLL := Lib.hid cLL; have HU := Lib.hid cU; have HP := Lib.hid cP
  have HU3 := Lib.hid u3; have HP3 := Lib.hid p3; have HAN := Lib.hid hanti; have HTR := Lib.hid htr
  have Hw1 := Lib.hid w1; have Hw2 := Lib.hid w2
  have ha1 := Lib.hid hA; have ha2 := Lib.hid hA2; have ha3 := Lib.hid hA3
  clear cW cWW cL cLL cU cP u3 p3 hanti htr w1 w2 w3 w4 hA hA2 hA3 hr hr' hY
  go_enter Try.func7, Try.ntmps7
  go_upto_region 2 with fail
  have S0 : Held w ((((w.alloc (.cells #[.int .i64 k, .int .i64 o, .int .i64 c, .int .i64 a, .int .i64 r, .int .i64 v] 25)).alloc (.cells #[.int .i64 k', .int .i64 o', .int .i64 c', .int .i64 a', .int .i64 r', .int .i64 v'] 25)).alloc (.cells #[.int .i64 K, .int .i64 O, .int .i64 C, .int .i64 X, .int .i64 Y, .int .i64 V, .int .i64 R] 45)).alloc (.cells #[.int .i64 K, .int .i64 O, .int .i64 C, .int .i64 X, .int .i64 Y, .int .i64 V] 25))
      (w.heap.size + 2) R [(w.heap.size, ⟨k, o, c, a, r, v⟩), (w.heap.size + 1, ⟨k', o', c', a', r', v'⟩), (w.heap.size + 3, ⟨K, O, C, X, Y, V⟩)] := by
    refine ⟨((((Below.refl _ _).alloc (Nat.le_refl _) _).alloc (by simp) _).alloc (by simp; omega) _).alloc (by simp; omega) _, ((Blk.new' (by simp)).alloc _).cell_is 6 rfl, fun x hx => ?_⟩
    simp only [List.mem_cons, List.mem_nil_iff, or_false] at hx
    rcases hx with rfl | rfl | rfl
    · exact (((Blk.new _ _ _).alloc _).alloc _).alloc _
    · exact ((Blk.new' (by simp)).alloc _).alloc _
    · exact Blk.new' (by simp)
  generalize (((w.alloc (.cells #[.int .i64 k, .int .i64 o, .int .i64 c, .int .i64 a, .int .i64 r, .int .i64 v] 25)).alloc (.cells #[.int .i64 k', .int .i64 o', .int .i64 c', .int .i64 a', .int .i64 r', .int .i64 v'] 25)).alloc (.cells #[.int .i64 K, .int .i64 O, .int .i64 C, .int .i64 X, .int .i64 Y, .int .i64 V, .int .i64 R] 45)).alloc (.cells #[.int .i64 K, .int .i64 O, .int .i64 C, .int .i64 X, .int .i64 Y, .int .i64 V] 25) = W0 at *
  obtain ⟨x00, x01, x02, x03, x04, x05, x06⟩ := S0.key (w.heap.size) ⟨k, o, c, a, r, v⟩ (by simp)
  go_wp2_with fail
  refine (check_is _ ha1.out).mono ?_; rintro e W1 ⟨rfl, hb⟩
  have S1 := S0.step hb
  clear hb x00 x01 x02 x03 x04 x05 x06
  obtain ⟨x00, x01, x02, x03, x04, x05, x06⟩ := S1.key (w.heap.size + 1) ⟨k', o', c', a', r', v'⟩ (by simp)
  go_wp2_with fail
  refine (check_is _ ha2.out).mono ?_; rintro e W2 ⟨rfl, hb⟩
  have S2 := S1.step hb
  clear hb x00 x01 x02 x03 x04 x05 x06
  obtain ⟨x00, x01, x02, x03, x04, x05, x06⟩ := S2.key (w.heap.size + 3) ⟨K, O, C, X, Y, V⟩ (by simp)
  go_wp2_with fail
  refine (check_is _ ha3.out).mono ?_; rintro e W3 ⟨rfl, hb⟩
  have S3 := S2.step hb
  clear hb x00 x01 x02 x03 x04 x05 x06
  obtain ⟨x00, x01, x02, x03, x04, x05, x06⟩ := S3.key (w.heap.size) ⟨k, o, c, a, r, v⟩ (by simp)
  obtain ⟨m0, m1⟩ := S3.more
  go_wp2_with fail
  refine (HW.out _).mono ?_; rintro e W4 ⟨rfl, hb⟩
  have S4 := S3.step hb
  clear hb x00 x01 x02 x03 x04 x05 x06 m0 m1
  go_wp2_with fail
  refine (HWW.out _).mono ?_; rintro e W5 ⟨rfl, hb⟩
  have S5 := (S4.add wk).step hb
  clear hb 
  obtain ⟨x00, x01, x02, x03, x04, x05, x06⟩ := S5.key (w.heap.size) ⟨k, o, c, a, r, v⟩ (by simp)
  obtain ⟨m0, m1⟩ := S5.more
  go_wp2_with fail
  refine (HL.out _).mono ?_; rintro e W6 ⟨rfl, hb⟩
  have S6 := (S5.add wk).step hb
  clear hb x00 x01 x02 x03 x04 x05 x06 m0 m1
  obtain ⟨m0, m1⟩ := S6.more
  go_wp2_with fail
  refine (HLL.out _).mono ?_; rintro e W7 ⟨rfl, hb⟩
  have S7 := (S6.add lk).step hb
  clear hb m0 m1
  obtain ⟨x00, x01, x02, x03, x04, x05, x06⟩ := S7.key (w.heap.size) ⟨k, o, c, a, r, v⟩ (by simp)
  obtain ⟨x10, x11, x12, x13, x14, x15, x16⟩ := S7.key (W4.heap.size) wk (by simp)
  obtain ⟨x20, x21, x22, x23, x24, x25, x26⟩ := S7.key (W5.heap.size) wk (by simp)
  obtain ⟨x30, x31, x32, x33, x34, x35, x36⟩ := S7.key (W6.heap.size) lk (by simp)
  go_wp2_with fail
  refine (within_is true _ Hw1.out).mono ?_; rintro e W8 ⟨rfl, hb⟩
  have S8 := (S7.add lk).step hb
  clear hb x00 x01 x02 x03 x04 x05 x06 x10 x11 x12 x13 x14 x15 x16 x20 x21 x22 x23 x24 x25 x26 x30 x31 x32 x33 x34 x35 x36
  obtain ⟨x00, x01, x02, x03, x04, x05, x06⟩ := S8.key (w.heap.size) ⟨k, o, c, a, r, v⟩ (by simp)
  obtain ⟨x10, x11, x12, x13, x14, x15, x16⟩ := S8.key (W6.heap.size) lk (by simp)
  go_wp2_with fail
  refine (within_is true _ Hw2.out).mono ?_; rintro e W9 ⟨rfl, hb⟩
  have S9 := S8.step hb
  clear hb x00 x01 x02 x03 x04 x05 x06 x10 x11 x12 x13 x14 x15 x16
  go_upto_region 10 with fail
  replace S9 := S9.sub (l' := [(W6.heap.size, lk), (W4.heap.size, wk), (w.heap.size, ⟨k, o, c, a, r, v⟩), (w.heap.size + 1, ⟨k', o', c', a', r', v'⟩), (w.heap.size + 3, ⟨K, O, C, X, Y, V⟩)]) (by intro x hx; simp only [List.mem_cons, List.mem_nil_iff, or_false] at hx ⊢; rcases hx with h | h | h | h | h <;> simp [h])
  go_cut [134] (fun s wx => s = .bool false ∧ Held w wx (w.heap.size + 2) R [(W6.heap.size, lk), (W4.heap.size, wk), (w.heap.size, ⟨k, o, c, a, r, v⟩), (w.heap.size + 1, ⟨k', o', c', a', r', v'⟩), (w.heap.size + 3, ⟨K, O, C, X, Y, V⟩)])
  case first =>
    clear HW HWW HL HLL HU HP HU3 HP3 Hw1 Hw2 ha1 ha2 ha3
    cases hx : withB k o c a r v k' o' c' a' r' v'
    · obtain ⟨x00, x01, x02, x03, x04, x05, x06⟩ := S9.key (w.heap.size) ⟨k, o, c, a, r, v⟩ (by simp)
      obtain ⟨x10, x11, x12, x13, x14, x15, x16⟩ := S9.key (w.heap.size + 1) ⟨k', o', c', a', r', v'⟩ (by simp)
      go_wp2_with fail
      refine (within_is false _ hx).mono ?_; rintro e W10 ⟨rfl, hb⟩
      have S10 := S9.step hb
      clear hb x00 x01 x02 x03 x04 x05 x06 x10 x11 x12 x13 x14 x15 x16
      obtain ⟨x00, x01, x02, x03, x04, x05, x06⟩ := S10.key (w.heap.size) ⟨k, o, c, a, r, v⟩ (by simp)
      obtain ⟨x10, x11, x12, x13, x14, x15, x16⟩ := S10.key (w.heap.size + 1) ⟨k', o', c', a', r', v'⟩ (by simp)
      go_wp2_with fail
      refine (within_is false _ hx).mono ?_; rintro e W11 ⟨rfl, hb⟩
      have S11 := S10.step hb
      clear hb x00 x01 x02 x03 x04 x05 x06 x10 x11 x12 x13 x14 x15 x16
      go_wp2_with fail
      go_meet
      exact ⟨rfl, S11⟩
    · cases hy : withB k' o' c' a' r' v' k o c a r v
      · cases hz : withB k' o' c' a' r' v' K O C X Y V
        · obtain ⟨x00, x01, x02, x03, x04, x05, x06⟩ := S9.key (w.heap.size) ⟨k, o, c, a, r, v⟩ (by simp)
          obtain ⟨x10, x11, x12, x13, x14, x15, x16⟩ := S9.key (w.heap.size + 1) ⟨k', o', c', a', r', v'⟩ (by simp)
          go_wp2_with fail
          refine (within_is true _ hx).mono ?_; rintro e W10 ⟨rfl, hb⟩
          have S10 := S9.step hb
          clear hb x00 x01 x02 x03 x04 x05 x06 x10 x11 x12 x13 x14 x15 x16
          obtain ⟨x00, x01, x02, x03, x04, x05, x06⟩ := S10.key (w.heap.size) ⟨k, o, c, a, r, v⟩ (by simp)
          obtain ⟨x10, x11, x12, x13, x14, x15, x16⟩ := S10.key (w.heap.size + 1) ⟨k', o', c', a', r', v'⟩ (by simp)
          go_wp2_with fail
          refine (within_is false _ hy).mono ?_; rintro e W11 ⟨rfl, hb⟩
          have S11 := S10.step hb
          clear hb x00 x01 x02 x03 x04 x05 x06 x10 x11 x12 x13 x14 x15 x16
          obtain ⟨x00, x01, x02, x03, x04, x05, x06⟩ := S11.key (w.heap.size) ⟨k, o, c, a, r, v⟩ (by simp)
          obtain ⟨x10, x11, x12, x13, x14, x15, x16⟩ := S11.key (w.heap.size + 1) ⟨k', o', c', a', r', v'⟩ (by simp)
          go_wp2_with fail
          refine (within_is true _ hx).mono ?_; rintro e W12 ⟨rfl, hb⟩
          have S12 := S11.step hb
          clear hb x00 x01 x02 x03 x04 x05 x06 x10 x11 x12 x13 x14 x15 x16
          obtain ⟨x00, x01, x02, x03, x04, x05, x06⟩ := S12.key (w.heap.size + 1) ⟨k', o', c', a', r', v'⟩ (by simp)
          obtain ⟨x10, x11, x12, x13, x14, x15, x16⟩ := S12.key (w.heap.size + 3) ⟨K, O, C, X, Y, V⟩ (by simp)
          go_wp2_with fail
          refine (within_is false _ hz).mono ?_; rintro e W13 ⟨rfl, hb⟩
          have S13 := S12.step hb
          clear hb x00 x01 x02 x03 x04 x05 x06 x10 x11 x12 x13 x14 x15 x16
          go_wp2_with fail
          go_meet
          exact ⟨rfl, S13⟩
        · obtain ⟨x00, x01, x02, x03, x04, x05, x06⟩ := S9.key (w.heap.size) ⟨k, o, c, a, r, v⟩ (by simp)
          obtain ⟨x10, x11, x12, x13, x14, x15, x16⟩ := S9.key (w.heap.size + 1) ⟨k', o', c', a', r', v'⟩ (by simp)
          go_wp2_with fail
          refine (within_is true _ hx).mono ?_; rintro e W10 ⟨rfl, hb⟩
          have S10 := S9.step hb
          clear hb x00 x01 x02 x03 x04 x05 x06 x10 x11 x12 x13 x14 x15 x16
          obtain ⟨x00, x01, x02, x03, x04, x05, x06⟩ := S10.key (w.heap.size) ⟨k, o, c, a, r, v⟩ (by simp)
          obtain ⟨x10, x11, x12, x13, x14, x15, x16⟩ := S10.key (w.heap.size + 1) ⟨k', o', c', a', r', v'⟩ (by simp)
          go_wp2_with fail
          refine (within_is false _ hy).mono ?_; rintro e W11 ⟨rfl, hb⟩
          have S11 := S10.step hb
          clear hb x00 x01 x02 x03 x04 x05 x06 x10 x11 x12 x13 x14 x15 x16
          obtain ⟨x00, x01, x02, x03, x04, x05, x06⟩ := S11.key (w.heap.size) ⟨k, o, c, a, r, v⟩ (by simp)
          obtain ⟨x10, x11, x12, x13, x14, x15, x16⟩ := S11.key (w.heap.size + 1) ⟨k', o', c', a', r', v'⟩ (by simp)
          go_wp2_with fail
          refine (within_is true _ hx).mono ?_; rintro e W12 ⟨rfl, hb⟩
          have S12 := S11.step hb
          clear hb x00 x01 x02 x03 x04 x05 x06 x10 x11 x12 x13 x14 x15 x16
          obtain ⟨x00, x01, x02, x03, x04, x05, x06⟩ := S12.key (w.heap.size + 1) ⟨k', o', c', a', r', v'⟩ (by simp)
          obtain ⟨x10, x11, x12, x13, x14, x15, x16⟩ := S12.key (w.heap.size + 3) ⟨K, O, C, X, Y, V⟩ (by simp)
          go_wp2_with fail
          refine (within_is true _ hz).mono ?_; rintro e W13 ⟨rfl, hb⟩
          have S13 := S12.step hb
          clear hb x00 x01 x02 x03 x04 x05 x06 x10 x11 x12 x13 x14 x15 x16
          obtain ⟨x00, x01, x02, x03, x04, x05, x06⟩ := S13.key (w.heap.size) ⟨k, o, c, a, r, v⟩ (by simp)
          obtain ⟨x10, x11, x12, x13, x14, x15, x16⟩ := S13.key (w.heap.size + 3) ⟨K, O, C, X, Y, V⟩ (by simp)
          go_wp2_with fail
          refine (within_is true _ (HTR.out hx hz)).mono ?_; rintro e W14 ⟨rfl, hb⟩
          have S14 := S13.step hb
          clear hb x00 x01 x02 x03 x04 x05 x06 x10 x11 x12 x13 x14 x15 x16
          go_wp2_with fail
          go_meet
          exact ⟨rfl, S14⟩
      · obtain ⟨rfl, rfl, rfl, rfl, rfl, rfl⟩ := HAN.out hx hy
        cases hz : withB k o c a r v K O C X Y V
        · obtain ⟨x00, x01, x02, x03, x04, x05, x06⟩ := S9.key (w.heap.size) ⟨k, o, c, a, r, v⟩ (by simp)
          obtain ⟨x10, x11, x12, x13, x14, x15, x16⟩ := S9.key (w.heap.size + 1) ⟨k, o, c, a, r, v⟩ (by simp)
          go_wp2_with fail
          refine (within_is true _ hx).mono ?_; rintro e W10 ⟨rfl, hb⟩
          have S10 := S9.step hb
          clear hb x00 x01 x02 x03 x04 x05 x06 x10 x11 x12 x13 x14 x15 x16
          obtain ⟨x00, x01, x02, x03, x04, x05, x06⟩ := S10.key (w.heap.size) ⟨k, o, c, a, r, v⟩ (by simp)
          obtain ⟨x10, x11, x12, x13, x14, x15, x16⟩ := S10.key (w.heap.size + 1) ⟨k, o, c, a, r, v⟩ (by simp)
          go_wp2_with fail
          refine (within_is true _ hx).mono ?_; rintro e W11 ⟨rfl, hb⟩
          have S11 := S10.step hb
          clear hb x00 x01 x02 x03 x04 x05 x06 x10 x11 x12 x13 x14 x15 x16
          obtain ⟨x00, x01, x02, x03, x04, x05, x06⟩ := S11.key (w.heap.size) ⟨k, o, c, a, r, v⟩ (by simp)
          obtain ⟨x10, x11, x12, x13, x14, x15, x16⟩ := S11.key (w.heap.size + 1) ⟨k, o, c, a, r, v⟩ (by simp)
          go_wp2_with fail
          refine (within_is true _ hx).mono ?_; rintro e W12 ⟨rfl, hb⟩
          have S12 := S11.step hb
          clear hb x00 x01 x02 x03 x04 x05 x06 x10 x11 x12 x13 x14 x15 x16
          obtain ⟨x00, x01, x02, x03, x04, x05, x06⟩ := S12.key (w.heap.size + 1) ⟨k, o, c, a, r, v⟩ (by simp)
          obtain ⟨x10, x11, x12, x13, x14, x15, x16⟩ := S12.key (w.heap.size + 3) ⟨K, O, C, X, Y, V⟩ (by simp)
          go_wp2_with fail
          refine (within_is false _ hz).mono ?_; rintro e W13 ⟨rfl, hb⟩
          have S13 := S12.step hb
          clear hb x00 x01 x02 x03 x04 x05 x06 x10 x11 x12 x13 x14 x15 x16
          go_wp2_with fail
          go_meet
          exact ⟨rfl, S13⟩
        · obtain ⟨x00, x01, x02, x03, x04, x05, x06⟩ := S9.key (w.heap.size) ⟨k, o, c, a, r, v⟩ (by simp)
          obtain ⟨x10, x11, x12, x13, x14, x15, x16⟩ := S9.key (w.heap.size + 1) ⟨k, o, c, a, r, v⟩ (by simp)
          go_wp2_with fail
          refine (within_is true _ hx).mono ?_; rintro e W10 ⟨rfl, hb⟩
          have S10 := S9.step hb
          clear hb x00 x01 x02 x03 x04 x05 x06 x10 x11 x12 x13 x14 x15 x16
          obtain ⟨x00, x01, x02, x03, x04, x05, x06⟩ := S10.key (w.heap.size) ⟨k, o, c, a, r, v⟩ (by simp)
          obtain ⟨x10, x11, x12, x13, x14, x15, x16⟩ := S10.key (w.heap.size + 1) ⟨k, o, c, a, r, v⟩ (by simp)
          go_wp2_with fail
          refine (within_is true _ hx).mono ?_; rintro e W11 ⟨rfl, hb⟩
          have S11 := S10.step hb
          clear hb x00 x01 x02 x03 x04 x05 x06 x10 x11 x12 x13 x14 x15 x16
          obtain ⟨x00, x01, x02, x03, x04, x05, x06⟩ := S11.key (w.heap.size) ⟨k, o, c, a, r, v⟩ (by simp)
          obtain ⟨x10, x11, x12, x13, x14, x15, x16⟩ := S11.key (w.heap.size + 1) ⟨k, o, c, a, r, v⟩ (by simp)
          go_wp2_with fail
          refine (within_is true _ hx).mono ?_; rintro e W12 ⟨rfl, hb⟩
          have S12 := S11.step hb
          clear hb x00 x01 x02 x03 x04 x05 x06 x10 x11 x12 x13 x14 x15 x16
          obtain ⟨x00, x01, x02, x03, x04, x05, x06⟩ := S12.key (w.heap.size + 1) ⟨k, o, c, a, r, v⟩ (by simp)
          obtain ⟨x10, x11, x12, x13, x14, x15, x16⟩ := S12.key (w.heap.size + 3) ⟨K, O, C, X, Y, V⟩ (by simp)
          go_wp2_with fail
          refine (within_is true _ hz).mono ?_; rintro e W13 ⟨rfl, hb⟩
          have S13 := S12.step hb
          clear hb x00 x01 x02 x03 x04 x05 x06 x10 x11 x12 x13 x14 x15 x16
          obtain ⟨x00, x01, x02, x03, x04, x05, x06⟩ := S13.key (w.heap.size) ⟨k, o, c, a, r, v⟩ (by simp)
          obtain ⟨x10, x11, x12, x13, x14, x15, x16⟩ := S13.key (w.heap.size + 3) ⟨K, O, C, X, Y, V⟩ (by simp)
          go_wp2_with fail
          refine (within_is true _ hz).mono ?_; rintro e W14 ⟨rfl, hb⟩
          have S14 := S13.step hb
          clear hb x00 x01 x02 x03 x04 x05 x06 x10 x11 x12 x13 x14 x15 x16
          go_wp2_with fail
          go_meet
          exact ⟨rfl, S14⟩
  case rest =>
    obtain ⟨rfl, S9⟩ := hcut
    cases hx : withB k o c a r v k' o' c' a' r' v'
    · obtain ⟨x00, x01, x02, x03, x04, x05, x06⟩ := S9.key (w.heap.size) ⟨k, o, c, a, r, v⟩ (by simp)
      obtain ⟨x10, x11, x12, x13, x14, x15, x16⟩ := S9.key (w.heap.size + 1) ⟨k', o', c', a', r', v'⟩ (by simp)
      go_wp2_with fail
      refine (within_is false _ hx).mono ?_; rintro e W10 ⟨rfl, hb⟩
      have S10 := S9.step hb
      clear hb x00 x01 x02 x03 x04 x05 x06 x10 x11 x12 x13 x14 x15 x16
      go_wp2_with (go_at_call 14; refine (known_any _).mono ?_; rintro e w' ⟨rfl, hb⟩)
      go_ret
      exact ⟨rfl, (S10.step hb).1⟩
    · by_cases hk : k = 0
      · subst hk
        obtain ⟨x00, x01, x02, x03, x04, x05, x06⟩ := S9.key (w.heap.size) ⟨0, o, c, a, r, v⟩ (by simp)
        obtain ⟨x10, x11, x12, x13, x14, x15, x16⟩ := S9.key (w.heap.size + 1) ⟨k', o', c', a', r', v'⟩ (by simp)
        go_wp2_with fail
        refine (within_is true _ hx).mono ?_; rintro e W10 ⟨rfl, hb⟩
        have S10 := S9.step hb
        clear hb x00 x01 x02 x03 x04 x05 x06 x10 x11 x12 x13 x14 x15 x16
        obtain ⟨x00, x01, x02, x03, x04, x05, x06⟩ := S10.key (w.heap.size + 1) ⟨k', o', c', a', r', v'⟩ (by simp)
        go_wp2_with fail
        refine (HU.out _).mono ?_; rintro e W11 ⟨rfl, hb⟩
        have S11 := S10.step hb
        clear hb x00 x01 x02 x03 x04 x05 x06
        obtain ⟨x00, x01, x02, x03, x04, x05, x06⟩ := S11.key (w.heap.size + 1) ⟨k', o', c', a', r', v'⟩ (by simp)
        obtain ⟨m0, m1⟩ := S11.more
        go_wp2_with fail
        refine (HP.out _).mono ?_; rintro e W12 ⟨rfl, hb⟩
        have S12 := (S11.add uk).step hb
        clear hb x00 x01 x02 x03 x04 x05 x06 m0 m1
        obtain ⟨x00, x01, x02, x03, x04, x05, x06⟩ := S12.key (w.heap.size) ⟨0, o, c, a, r, v⟩ (by simp)
        obtain ⟨x10, x11, x12, x13, x14, x15, x16⟩ := S12.key (W4.heap.size) wk (by simp)
        obtain ⟨x20, x21, x22, x23, x24, x25, x26⟩ := S12.key (W11.heap.size) uk (by simp)
        go_wp2_with fail
        refine (within_is true _ (HU3.out hx)).mono ?_; rintro e W13 ⟨rfl, hb⟩
        have S13 := (S12.add pk).step hb
        clear hb x00 x01 x02 x03 x04 x05 x06 x10 x11 x12 x13 x14 x15 x16 x20 x21 x22 x23 x24 x25 x26
        obtain ⟨x00, x01, x02, x03, x04, x05, x06⟩ := S13.key (w.heap.size) ⟨0, o, c, a, r, v⟩ (by simp)
        go_wp2_with (go_at_call 14; refine (known_any _).mono ?_; rintro e w' ⟨rfl, hb⟩)
        go_ret
        exact ⟨rfl, (S13.step hb).1⟩
      · obtain ⟨x00, x01, x02, x03, x04, x05, x06⟩ := S9.key (w.heap.size) ⟨k, o, c, a, r, v⟩ (by simp)
        obtain ⟨x10, x11, x12, x13, x14, x15, x16⟩ := S9.key (w.heap.size + 1) ⟨k', o', c', a', r', v'⟩ (by simp)
        go_wp2_with fail
        refine (within_is true _ hx).mono ?_; rintro e W10 ⟨rfl, hb⟩
        have S10 := S9.step hb
        clear hb x00 x01 x02 x03 x04 x05 x06 x10 x11 x12 x13 x14 x15 x16
        obtain ⟨x00, x01, x02, x03, x04, x05, x06⟩ := S10.key (w.heap.size + 1) ⟨k', o', c', a', r', v'⟩ (by simp)
        go_wp2_with fail
        refine (HU.out _).mono ?_; rintro e W11 ⟨rfl, hb⟩
        have S11 := S10.step hb
        clear hb x00 x01 x02 x03 x04 x05 x06
        obtain ⟨x00, x01, x02, x03, x04, x05, x06⟩ := S11.key (w.heap.size + 1) ⟨k', o', c', a', r', v'⟩ (by simp)
        obtain ⟨m0, m1⟩ := S11.more
        go_wp2_with fail
        refine (HP.out _).mono ?_; rintro e W12 ⟨rfl, hb⟩
        have S12 := (S11.add uk).step hb
        clear hb x00 x01 x02 x03 x04 x05 x06 m0 m1
        obtain ⟨x00, x01, x02, x03, x04, x05, x06⟩ := S12.key (w.heap.size) ⟨k, o, c, a, r, v⟩ (by simp)
        obtain ⟨x10, x11, x12, x13, x14, x15, x16⟩ := S12.key (W4.heap.size) wk (by simp)
        obtain ⟨x20, x21, x22, x23, x24, x25, x26⟩ := S12.key (W11.heap.size) uk (by simp)
        go_wp2_with fail
        refine (within_is true _ (HU3.out hx)).mono ?_; rintro e W13 ⟨rfl, hb⟩
        have S13 := (S12.add pk).step hb
        clear hb x00 x01 x02 x03 x04 x05 x06 x10 x11 x12 x13 x14 x15 x16 x20 x21 x22 x23 x24 x25 x26
        obtain ⟨x00, x01, x02, x03, x04, x05, x06⟩ := S13.key (w.heap.size) ⟨k, o, c, a, r, v⟩ (by simp)
        obtain ⟨x10, x11, x12, x13, x14, x15, x16⟩ := S13.key (W6.heap.size) lk (by simp)
        obtain ⟨x20, x21, x22, x23, x24, x25, x26⟩ := S13.key (W12.heap.size) pk (by simp)
        go_wp2_with fail
        refine (within_is true _ (HP3.out hk hx)).mono ?_; rintro e W14 ⟨rfl, hb⟩
        have S14 := S13.step hb
        clear hb x00 x01 x02 x03 x04 x05 x06 x10 x11 x12 x13 x14 x15 x16 x20 x21 x22 x23 x24 x25 x26
        go_wp2_with (go_at_call 14; refine (known_any _).mono ?_; rintro e w' ⟨rfl, hb⟩)
        go_ret
        exact ⟨rfl, (S14.step hb).1⟩

theorem lawOrders_walk (k o c a r v k' o' c' a' r' v' K O C X Y V R : Int) (w : World) (hr : Small r) (hr' : Small r') (hY : Small Y) (_ : Small R) :
    Calls Try.prog 7 #[.agg #[.int .i64 k, .int .i64 o, .int .i64 c, .int .i64 a, .int .i64 r, .int .i64 v], .agg #[.int .i64 k', .int .i64 o', .int .i64 c', .int .i64 a', .int .i64 r', .int .i64 v'], .agg #[.int .i64 K, .int .i64 O, .int .i64 C, .int .i64 X, .int .i64 Y, .int .i64 V, .int .i64 R]] w fun e w' => e = .returned (.bool true) ∧ Below w.heap.size w w' := by
  cases hA : ofB k o c a r v
  · exact orders_1 _ _ _ _ _ _ _ _ _ _ _ _ _ _ _ _ _ _ _ w hA
  · cases hB : ofB k' o' c' a' r' v'
    · exact orders_2 _ _ _ _ _ _ _ _ _ _ _ _ _ _ _ _ _ _ _ w hA hB
    · cases hC : ofB K O C X Y V
      · exact orders_3 _ _ _ _ _ _ _ _ _ _ _ _ _ _ _ _ _ _ _ w hA hB hC
      · by_cases h0 : R < 0
        · exact orders_4 _ _ _ _ _ _ _ _ _ _ _ _ _ _ _ _ _ _ _ w hA hB hC h0
        · by_cases h7 : 7 < R
          · exact orders_5 _ _ _ _ _ _ _ _ _ _ _ _ _ _ _ _ _ _ _ w hA hB hC (by omega) h7
          · exact orders_6 _ _ _ _ _ _ _ _ _ _ _ _ _ _ _ _ _ _ _ w hA hB hC (by omega) (by omega) hr hr' hY

end Go.Proofs.Ytlfkfhdcljkhkaa
