/-
  The contract of keys.Weaken, for all keys.
-/
import Derived.Test.YtlfkfhdcljkhkaaDoorKeys1
import Derived.Test.YtlfkfhdcljkhkaaDoorMaps
namespace Go.Proofs.YtlfkfhdcljkhkaaDoor
open Go.RowKit

theorem with_any (r : Int) (w : World) : Calls Tryd.prog 27 #[.int .i64 r] w fun e w' =>
    e = .returned (.func (.func 28) #[] #[.pointer (some ⟨w.heap.size, 0, none⟩)]) ∧ w.alloc (.cells #[.int .i64 r] 28) = w' := by
  go_enter Tryd.func27, Tryd.ntmps27
  go_wp2
  go_ret
  exact ⟨rfl, rfl⟩

abbrev withF (g : Nat) : Value := .func (.func 28) #[] #[.pointer (some ⟨g, 0, none⟩)]
abbrev sameF : Value := .func (.func 26) #[] #[]

set_option maxHeartbeats 400000 in
theorem weak_any (w : World) :
    Calls Tryd.prog 18 #[] w fun e w' =>
      e = .returned (.map (some w.heap.size)) ∧ MapAt w' w.heap.size .i64 [(2, withF (w.heap.size + 1)), (3, withF (w.heap.size + 2)), (1, sameF), (8, sameF)] ∧
      Blk w' (w.heap.size + 1) 28 #[.int .i64 3] ∧ Blk w' (w.heap.size + 2) 28 #[.int .i64 1] ∧ Below w.heap.size w w' := by
  have hmm := @run_makeMap Tryd.prog
  go_enter Tryd.func18, Tryd.ntmps18
  go_wp2_with fail
  refine (with_any _ _).mono ?_
  rintro e w' ⟨rfl, rfl⟩
  have m0 := (MapAt.new w .i64).alloc (.cells #[.int .i64 3] 28)
  have b1 := Blk.new2 w (.map #[] 0) 28 #[.int .i64 3]
  have hb : Below w.heap.size w ((w.alloc (.map #[] 0)).alloc (.cells #[.int .i64 3] 28)) := ((Below.refl _ _).alloc (Nat.le_refl _) _).alloc (by simp) _
  go_wp2_with (refine wpList_insert_new _ rfl _ _ _ rfl Tryd.underlying54 Tryd.underlying27 w.heap.size [] rfl m0 2 rfl rfl (withF (w.heap.size + 1)) rfl ?_; intro wa ma ta)
  have hsz : wa.heap.size = w.heap.size + 2 := by have := ta.size; simpa using this
  have HSZ := Lib.hid hsz
  clear hsz
  refine (with_any _ _).mono ?_
  rintro e w' ⟨rfl, rfl⟩
  have m1 := ma.alloc (.cells #[.int .i64 1] 28)
  have b1a := (ta.blk b1 (by simp)).alloc (.cells #[.int .i64 1] 28)
  have b2a := Blk.new wa 28 #[.int .i64 1]
  have hba : Below w.heap.size w (wa.alloc (.cells #[.int .i64 1] 28)) := (ta.below hb (Nat.le_refl _)).alloc (by rw [HSZ.out]; omega) _
  clear ma ta
  go_wp2_with (first
    | (refine wpList_insert_new _ rfl _ _ _ rfl Tryd.underlying54 Tryd.underlying27 w.heap.size [(2, withF (w.heap.size + 1))] rfl m1 3 rfl rfl (withF wa.heap.size) rfl ?_; intro wb mb tb)
    | (refine wpList_insert_new _ rfl _ _ _ rfl Tryd.underlying54 Tryd.underlying27 w.heap.size [(2, withF (w.heap.size + 1)), (3, withF wa.heap.size)] rfl mb 1 rfl rfl sameF rfl ?_; intro wc mc tc)
    | (refine wpList_insert_new _ rfl _ _ _ rfl Tryd.underlying54 Tryd.underlying27 w.heap.size [(2, withF (w.heap.size + 1)), (3, withF wa.heap.size), (1, sameF)] rfl mc 8 rfl rfl sameF rfl ?_; intro wd md td))
  go_ret
  rw [HSZ.out] at md b2a
  refine ⟨rfl, md, ?_, ?_, ?_⟩
  · exact td.blk (tc.blk (tb.blk b1a (by simp)) (by simp)) (by simp)
  · exact td.blk (tc.blk (tb.blk b2a (by simp)) (by simp)) (by simp)
  · exact td.below (tc.below (tb.below hba (Nat.le_refl _)) (Nat.le_refl _)) (Nat.le_refl _)

theorem info_key : (Tryd.prog.info? 30).map (·.size) = some 6 := by kernel_rfl

set_option maxHeartbeats 400000 in
theorem same_any (k o c a r v : Int) (w : World) :
    Calls Tryd.prog 26 #[.agg #[.int .i64 k, .int .i64 o, .int .i64 c, .int .i64 a, .int .i64 r, .int .i64 v]] w fun e w' =>
      e = .returned (.agg #[.int .i64 k, .int .i64 o, .int .i64 c, .int .i64 a, .int .i64 r, .int .i64 v]) ∧ Below w.heap.size w w' := by
  go_enter Tryd.func26, Tryd.ntmps26
  go_wp2
  exact bodyPost_ret (v := .agg #[.int .i64 k, .int .i64 o, .int .i64 c, .int .i64 a, .int .i64 r, .int .i64 v]) (by simp [results, Tryd.results26, go_sem]) rfl ⟨rfl, ((Below.refl _ _).alloc (Nat.le_refl _) _).alloc (by simp) _⟩

set_option maxHeartbeats 400000 in
theorem withr_any (k o c a r v x : Int) (w : World) (p : Nat) (hp : w.cell? ⟨p, 0, none⟩ = some (.int .i64 x)) :
    Calls Tryd.prog 28 #[.agg #[.int .i64 k, .int .i64 o, .int .i64 c, .int .i64 a, .int .i64 r, .int .i64 v], .pointer (some ⟨p, 0, none⟩)] w fun e w' =>
      e = .returned (.agg #[.int .i64 k, .int .i64 o, .int .i64 c, .int .i64 a, .int .i64 (bits .or .i64 r x), .int .i64 v]) ∧ Below w.heap.size w w' := by
  have hlt : p < w.heap.size := block_lt_of_cell hp
  have hlt2 : p < w.heap.size + 1 := by omega
  go_enter Tryd.func28, Tryd.ntmps28
  go_wp2
  exact bodyPost_ret (v := .agg #[.int .i64 k, .int .i64 o, .int .i64 c, .int .i64 a, .int .i64 (bits .or .i64 r x), .int .i64 v]) (by simp [results, Tryd.results28, go_sem]) rfl ⟨rfl, ((Below.refl _ _).alloc (Nat.le_refl _) _).alloc (by simp) _⟩

end Go.Proofs.YtlfkfhdcljkhkaaDoor
