/-
  The law KeysWithin answers true, for all keys.
-/
import Derived.Test.YtlfkfhdcljkhkaaRef5
import Derived.Test.YtlfkfhdcljkhkaaKnown
import Derived.Test.YtlfkfhdcljkhkaaOpen
import Derived.Deep.RegionHeld3
namespace Go.Proofs.Ytlfkfhdcljkhkaa
open Go.RowKit

/-- six cells of a key's variable -/
def KeyAt (W : World) (b : Nat) (k o c a r v : Int) : Prop :=
  W.cell? ⟨b, 0, none⟩ = some (.int .i64 k) ∧ W.cell? ⟨b, 1, none⟩ = some (.int .i64 o) ∧ W.cell? ⟨b, 2, none⟩ = some (.int .i64 c) ∧ W.cell? ⟨b, 3, none⟩ = some (.int .i64 a) ∧ W.cell? ⟨b, 4, none⟩ = some (.int .i64 r) ∧ W.cell? ⟨b, 5, none⟩ = some (.int .i64 v)
theorem KeyAt.step {W w' : World} {b : Nat} {k o c a r v : Int} (h : KeyAt W b k o c a r v) (hb : Below W.heap.size W w') : KeyAt w' b k o c a r v := by
  obtain ⟨h0, h1, h2, h3, h4, h5⟩ := h
  have hl : b < W.heap.size := block_lt_of_cell h0
  exact ⟨(hb.cell (p := ⟨b, 0, none⟩) hl).trans h0, (hb.cell (p := ⟨b, 1, none⟩) hl).trans h1, (hb.cell (p := ⟨b, 2, none⟩) hl).trans h2, (hb.cell (p := ⟨b, 3, none⟩) hl).trans h3, (hb.cell (p := ⟨b, 4, none⟩) hl).trans h4, (hb.cell (p := ⟨b, 5, none⟩) hl).trans h5⟩
theorem KeyAt.of {W : World} {b : Nat} {t : TypeId} {k o c a r v : Int} (h : Blk W b t (keyV k o c a r v)) : KeyAt W b k o c a r v := h.key

theorem two_step {w W w' : World} {b b' : Nat} {k o c a r v k' o' c' a' r' v' : Int} (hB : Below w.heap.size w W) (h : KeyAt W b k o c a r v) (h' : KeyAt W b' k' o' c' a' r' v') (hb : Below W.heap.size W w') :
    Below w.heap.size w w' ∧ KeyAt w' b k o c a r v ∧ KeyAt w' b' k' o' c' a' r' v' :=
  ⟨hB.trans (hb.mono hB.size), h.step hb, h'.step hb⟩

theorem rwithin_s (k o c a r v k' o' c' a' r' v' : Int) (w : World) (hr : Small r) (hr' : Small r') :
    Calls Try.prog 12 #[.agg #[.int .i64 k, .int .i64 o, .int .i64 c, .int .i64 a, .int .i64 r, .int .i64 v], .agg #[.int .i64 k', .int .i64 o', .int .i64 c', .int .i64 a', .int .i64 r', .int .i64 v']] w fun e w' =>
      e = .returned (.bool (withB k o c a r v k' o' c' a' r' v')) ∧ Below w.heap.size w w' := rwithin_any _ _ _ _ _ _ _ _ _ _ _ _ w hr hr'
theorem rcheck_s (k o c a r v : Int) (w : World) (hr : Small r) :
    Calls Try.prog 13 #[.agg #[.int .i64 k, .int .i64 o, .int .i64 c, .int .i64 a, .int .i64 r, .int .i64 v]] w fun e w' =>
      e = .returned (.int .i64 (errB (ofB k o c a r v))) ∧ Below w.heap.size w w' := rcheck_any _ _ _ _ _ _ w hr

theorem within_self (k o c a r v : Int) : withB k o c a r v k o c a r v = ofB k o c a r v := by
  unfold withB; cases ofB k o c a r v <;> simp
theorem errB_zero (b : Bool) : (errB b == 0) = b := by cases b <;> rfl

set_option maxHeartbeats 1000000 in
theorem lawWithin_walk (k o c a r v k' o' c' a' r' v' : Int) (w : World) (hr : Small r) (hr' : Small r') :
    Calls Try.prog 3 #[.agg #[.int .i64 k, .int .i64 o, .int .i64 c, .int .i64 a, .int .i64 r, .int .i64 v], .agg #[.int .i64 k', .int .i64 o', .int .i64 c', .int .i64 a', .int .i64 r', .int .i64 v']] w fun e w' =>
      e = .returned (.bool true) ∧ Below w.heap.size w w' := by
  have hs := within_self k o c a r v
  have hz := errB_zero (ofB k o c a r v)
  go_enter Try.func3, Try.ntmps3
  go_upto_region 1 with fail
  have hW1 := KeyAt.of (((Blk.new w 25 (keyV k o c a r v)).alloc (.cells (keyV k' o' c' a' r' v') 25)).drew)
  have hW2 := KeyAt.of ((Blk.new2 w (.cells (keyV k o c a r v) 25) 25 (keyV k' o' c' a' r' v')).drew)
  have hb0 : Below w.heap.size w ((w.alloc (.cells (keyV k o c a r v) 25)).alloc (.cells (keyV k' o' c' a' r' v') 25)).drew := (((Below.refl _ _).alloc (Nat.le_refl _) _).alloc (by simp) _).drew
  generalize (w.alloc (.cells (keyV k o c a r v) 25)).alloc (.cells (keyV k' o' c' a' r' v') 25) = W at *
  obtain ⟨x0, x1, x2, x3, x4, x5⟩ := hW1
  obtain ⟨y0, y1, y2, y3, y4, y5⟩ := hW2
  go_region_held3 (fun w' => Below w.heap.size w w' ∧ w'.cell? ⟨w.heap.size, 0, none⟩ = some (.int .i64 k) ∧ w'.cell? ⟨w.heap.size, 1, none⟩ = some (.int .i64 o) ∧ w'.cell? ⟨w.heap.size, 2, none⟩ = some (.int .i64 c) ∧ w'.cell? ⟨w.heap.size, 3, none⟩ = some (.int .i64 a) ∧ w'.cell? ⟨w.heap.size, 4, none⟩ = some (.int .i64 r) ∧ w'.cell? ⟨w.heap.size, 5, none⟩ = some (.int .i64 v) ∧
     w'.cell? ⟨w.heap.size + 1, 0, none⟩ = some (.int .i64 k') ∧ w'.cell? ⟨w.heap.size + 1, 1, none⟩ = some (.int .i64 o') ∧ w'.cell? ⟨w.heap.size + 1, 2, none⟩ = some (.int .i64 c') ∧ w'.cell? ⟨w.heap.size + 1, 3, none⟩ = some (.int .i64 a') ∧ w'.cell? ⟨w.heap.size + 1, 4, none⟩ = some (.int .i64 r') ∧ w'.cell? ⟨w.heap.size + 1, 5, none⟩ = some (.int .i64 v'))
    ((first | (refine ⟨?_, ?_, ?_, ?_, ?_, ?_, ?_, ?_, ?_, ?_, ?_, ?_, ?_⟩ <;> assumption)))
    (first
      | (go_at_call 11; refine (within_any2 _ _ _ _ _ _ _ _ _ _ _ _ _).mono ?_; rintro e w' ⟨rfl, hb⟩; obtain ⟨z0, ⟨x0, x1, x2, x3, x4, x5⟩, ⟨y0, y1, y2, y3, y4, y5⟩⟩ := two_step (w := w) (b := w.heap.size) (b' := w.heap.size + 1) (by assumption) ⟨by assumption, by assumption, by assumption, by assumption, by assumption, by assumption⟩ ⟨by assumption, by assumption, by assumption, by assumption, by assumption, by assumption⟩ hb; clear hb)
      | (go_at_call 12; refine (rwithin_s _ _ _ _ _ _ _ _ _ _ _ _ _ (by assumption) (by assumption)).mono ?_; rintro e w' ⟨rfl, hb⟩; obtain ⟨z0, ⟨x0, x1, x2, x3, x4, x5⟩, ⟨y0, y1, y2, y3, y4, y5⟩⟩ := two_step (w := w) (b := w.heap.size) (b' := w.heap.size + 1) (by assumption) ⟨by assumption, by assumption, by assumption, by assumption, by assumption, by assumption⟩ ⟨by assumption, by assumption, by assumption, by assumption, by assumption, by assumption⟩ hb; clear hb)
      | (go_at_call 13; refine (rcheck_s _ _ _ _ _ _ _ (by assumption)).mono ?_; rintro e w' ⟨rfl, hb⟩; obtain ⟨z0, ⟨x0, x1, x2, x3, x4, x5⟩, ⟨y0, y1, y2, y3, y4, y5⟩⟩ := two_step (w := w) (b := w.heap.size) (b' := w.heap.size + 1) (by assumption) ⟨by assumption, by assumption, by assumption, by assumption, by assumption, by assumption⟩ ⟨by assumption, by assumption, by assumption, by assumption, by assumption, by assumption⟩ hb; clear hb)
      | (go_at_call 14; refine (known_any _).mono ?_; rintro e w' ⟨rfl, hb⟩; obtain ⟨z0, ⟨x0, x1, x2, x3, x4, x5⟩, ⟨y0, y1, y2, y3, y4, y5⟩⟩ := two_step (w := w) (b := w.heap.size) (b' := w.heap.size + 1) (by assumption) ⟨by assumption, by assumption, by assumption, by assumption, by assumption, by assumption⟩ ⟨by assumption, by assumption, by assumption, by assumption, by assumption, by assumption⟩ hb; clear hb))
  all_goals go_wp2_with fail
  all_goals go_ret
  all_goals exact ⟨rfl, by assumption⟩

end Go.Proofs.Ytlfkfhdcljkhkaa
