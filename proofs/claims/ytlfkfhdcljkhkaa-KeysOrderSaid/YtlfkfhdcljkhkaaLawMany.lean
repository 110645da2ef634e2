/-
  The law KeysMany answers true, for all slices of keys.
-/
import Derived.Test.YtlfkfhdcljkhkaaLawCheck
namespace Go.Proofs.Ytlfkfhdcljkhkaa
open Go.RowKit

/-- six cells of a key in a slice -/
def KeyCells (W : World) (b p : Nat) (z : Key6) : Prop :=
  W.cell? ⟨b, p, none⟩ = some (.int .i64 z.k) ∧ W.cell? ⟨b, p + 1, none⟩ = some (.int .i64 z.o) ∧ W.cell? ⟨b, p + 2, none⟩ = some (.int .i64 z.c) ∧ W.cell? ⟨b, p + 3, none⟩ = some (.int .i64 z.a) ∧ W.cell? ⟨b, p + 4, none⟩ = some (.int .i64 z.r) ∧ W.cell? ⟨b, p + 5, none⟩ = some (.int .i64 z.v)
theorem KeyCells.below {W w' : World} {B b p : Nat} {z : Key6} (h : KeyCells W b p z) (hb : Below B W w') (hl : b < B) : KeyCells w' b p z := by
  obtain ⟨h0, h1, h2, h3, h4, h5⟩ := h
  exact ⟨(hb.cell (p := ⟨b, _, none⟩) hl).trans h0, (hb.cell (p := ⟨b, _, none⟩) hl).trans h1, (hb.cell (p := ⟨b, _, none⟩) hl).trans h2, (hb.cell (p := ⟨b, _, none⟩) hl).trans h3, (hb.cell (p := ⟨b, _, none⟩) hl).trans h4, (hb.cell (p := ⟨b, _, none⟩) hl).trans h5⟩
theorem KeyCells.step {w W w' : World} {b p : Nat} {z : Key6} (hB : Below w.heap.size w W) (h : KeyCells W b p z) (hb : Below W.heap.size W w') : Below w.heap.size w w' ∧ KeyCells w' b p z :=
  ⟨hB.trans (hb.mono hB.size), h.below hb (block_lt_of_cell h.1)⟩
theorem KeysAt.round {w wr : World} {A : Option Addr} {n k : Nat} {ks : Nat → Key6} (h : KeysAt w A n ks) (hB : Below w.heap.size w wr) (hk : k < n) :
    ∃ b off, A = some ⟨b, off, none⟩ ∧ KeyCells wr b (off + k * 6) (ks k) ∧ Small (ks k).r := by
  obtain ⟨b, off, h1, h2, h3, h4⟩ := h k hk
  exact ⟨b, off, h1, KeyCells.below (W := w) h3 hB h2, h4⟩

set_option maxHeartbeats 1000000 in
theorem lawMany_walk (A : Option Addr) (len cap : Nat) (ks : Nat → Key6) (w : World) (hl : len ≤ maxLen) (hK : KeysAt w A len ks) :
    Calls Try.prog 5 #[.slice A len cap] w fun e w' => e = .returned (.bool true) ∧ Below w.heap.size w w' := by
  unfold maxLen at hl
  have HK := Lib.hid hK
  clear hK
  by_cases h60 : 60 < len
  · go_enter Try.func5, Try.ntmps5
    go_wp2_with (go_at_call 14; refine (known_any _).mono ?_; rintro e w' ⟨rfl, hb⟩)
    go_ret
    exact ⟨rfl, hb⟩
  · go_enter Try.func5, Try.ntmps5
    go_wp2_with fail
    go_loopw [3] (fun i wr => ∃ k : Nat, k ≤ len ∧ i = .int .i64 k ∧ Below w.heap.size w wr) (fun i _ => len - (intOf i).toNat)
    case atStart => exact ⟨0, Nat.zero_le _, rfl, Below.refl _ _⟩
    case round =>
      obtain ⟨k, hk, rfl, hB⟩ := hrel
      by_cases hlt : k < len
      · obtain ⟨b, off, rfl, ⟨x0, x1, x2, x3, x4, x5⟩, hs⟩ := HK.out.round hB hlt
        generalize ks k = z at *
        obtain ⟨kk, o, c, a, r, v⟩ := z
        cases hN : namesB kk o c a r v
        all_goals (try have ho : ¬ o < 0 := Int.not_lt.2 (names_nonneg hN))
        all_goals (try have ho1 : (if o < 0 then (0 : Int) else o) = o := if_neg ho)
        all_goals (try have ho2 : decide (0 ≤ o) = true := decide_eq_true (Int.not_lt.1 ho))
        all_goals
          go_wp2_with fail
          refine (names_any _ _ _ _ _ _ _).mono ?_; rintro e w1 ⟨rfl, hb⟩
          obtain ⟨hB1, y0, y1, y2, y3, y4, y5⟩ := KeyCells.step (z := ⟨kk, o, c, a, r, v⟩) hB ⟨x0, x1, x2, x3, x4, x5⟩ hb
          clear hb x0 x1 x2 x3 x4 x5 hB
          rw [hN]
          go_wp2_with fail
          refine (rnames_s _ _ _ _ _ _ _ hs).mono ?_; rintro e w2 ⟨rfl, hb⟩
          obtain ⟨hB2, x0, x1, x2, x3, x4, x5⟩ := KeyCells.step (z := ⟨kk, o, c, a, r, v⟩) hB1 ⟨y0, y1, y2, y3, y4, y5⟩ hb
          clear hb y0 y1 y2 y3 y4 y5 hB1
          rw [hN]
          go_upto_region 8 with fail
          have hB3 := hB2.drew
          go_region_held3 (fun w' => Below w.heap.size w w' ∧ w'.cell? ⟨b, off + k * 6, none⟩ = some (.int .i64 kk) ∧ w'.cell? ⟨b, off + k * 6 + 1, none⟩ = some (.int .i64 o) ∧ w'.cell? ⟨b, off + k * 6 + 2, none⟩ = some (.int .i64 c) ∧ w'.cell? ⟨b, off + k * 6 + 3, none⟩ = some (.int .i64 a) ∧ w'.cell? ⟨b, off + k * 6 + 4, none⟩ = some (.int .i64 r) ∧ w'.cell? ⟨b, off + k * 6 + 5, none⟩ = some (.int .i64 v))
            ((first | (refine ⟨?_, ?_, ?_, ?_, ?_, ?_, ?_⟩ <;> assumption)))
            (first
              | (go_at_call 17; refine (check_any _ _ _ _ _ _ _).mono ?_; rintro e w' ⟨rfl, hb⟩; obtain ⟨z0, x0, x1, x2, x3, x4, x5⟩ := KeyCells.step (w := w) (b := b) (p := off + k * 6) (z := ⟨kk, o, c, a, r, v⟩) (by assumption) ⟨by assumption, by assumption, by assumption, by assumption, by assumption, by assumption⟩ hb; clear hb)
              | (go_at_call 13; refine (rcheck_s _ _ _ _ _ _ _ hs).mono ?_; rintro e w' ⟨rfl, hb⟩; obtain ⟨z0, x0, x1, x2, x3, x4, x5⟩ := KeyCells.step (w := w) (b := b) (p := off + k * 6) (z := ⟨kk, o, c, a, r, v⟩) (by assumption) ⟨by assumption, by assumption, by assumption, by assumption, by assumption, by assumption⟩ hb; clear hb)
              | (go_at_call 18; refine (wants_v _ _ _ _ _ _ _).mono ?_; rintro e w' ⟨rfl, hb⟩; obtain ⟨z0, x0, x1, x2, x3, x4, x5⟩ := KeyCells.step (w := w) (b := b) (p := off + k * 6) (z := ⟨kk, o, c, a, r, v⟩) (by assumption) ⟨by assumption, by assumption, by assumption, by assumption, by assumption, by assumption⟩ hb; clear hb)
              | (go_at_call 19; refine (rwants_v _ _ _ _ _ _ _ hs).mono ?_; rintro e w' ⟨rfl, hb⟩; obtain ⟨z0, x0, x1, x2, x3, x4, x5⟩ := KeyCells.step (w := w) (b := b) (p := off + k * 6) (z := ⟨kk, o, c, a, r, v⟩) (by assumption) ⟨by assumption, by assumption, by assumption, by assumption, by assumption, by assumption⟩ hb; clear hb))
          go_wp2_with fail
          exact ⟨⟨k + 1, by omega, by go_num, by assumption⟩, by simp [intOf]; omega⟩
      · go_wp2_with (go_at_call 14; refine (known_any _).mono ?_; rintro e w' ⟨rfl, hb⟩)
        go_ret
        exact ⟨rfl, hB.trans (hb.mono hB.size)⟩

end Go.Proofs.Ytlfkfhdcljkhkaa
