/-
  The law KeysText answers true, for all slices of keys, where the library's table lies as the program's text lays it.
-/
import Derived.Test.YtlfkfhdcljkhkaaDoorTRText
import Derived.Test.YtlfkfhdcljkhkaaDoorTOpen
import Derived.Test.YtlfkfhdcljkhkaaDoorBits
import Derived.Test.YtlfkfhdcljkhkaaDoorKnown
namespace Go.Proofs.YtlfkfhdcljkhkaaDoor
open Go.RowKit

theorem within_i64 {has : Bool} {n most : Int} (h : withinB has n most = true) (hm : most ≤ 9223372036854775807) : I64 n := by
  unfold withinB at h
  cases has
  · simp at h; subst h; exact ⟨by omega, by omega⟩
  · simp at h; exact ⟨by omega, by omega⟩
theorem fits_of {k o c a r v : Int} (hB : ofB k o c a r v = true) (hr : r < 9223372036854775808) (hv : I64 v) : Fits o c a r v ∧ 0 ≤ k ∧ k ≤ 10 := by
  unfold ofB at hB
  simp only [Bool.and_eq_true, decide_eq_true_eq] at hB
  obtain ⟨⟨⟨⟨⟨⟨⟨h0, h1⟩, h2⟩, h3⟩, h4⟩, h5⟩, h6⟩, h7⟩ := hB
  exact ⟨⟨within_i64 h2 (by omega), within_i64 h3 (by omega), within_i64 h4 (by omega), ⟨by omega, by omega⟩, hv⟩, h0, h1⟩

/-- six cells of a key in a slice -/
def KeyCells (W : World) (b p : Nat) (z : Key6) : Prop :=
  W.cell? ⟨b, p, none⟩ = some (.int .i64 z.k) ∧ W.cell? ⟨b, p + 1, none⟩ = some (.int .i64 z.o) ∧ W.cell? ⟨b, p + 2, none⟩ = some (.int .i64 z.c) ∧ W.cell? ⟨b, p + 3, none⟩ = some (.int .i64 z.a) ∧ W.cell? ⟨b, p + 4, none⟩ = some (.int .i64 z.r) ∧ W.cell? ⟨b, p + 5, none⟩ = some (.int .i64 z.v)
theorem KeyCells.below {W w' : World} {B b p : Nat} {z : Key6} (h : KeyCells W b p z) (hb : Below B W w') (hl : b < B) : KeyCells w' b p z := by
  obtain ⟨h0, h1, h2, h3, h4, h5⟩ := h
  exact ⟨(hb.cell (p := ⟨b, _, none⟩) hl).trans h0, (hb.cell (p := ⟨b, _, none⟩) hl).trans h1, (hb.cell (p := ⟨b, _, none⟩) hl).trans h2, (hb.cell (p := ⟨b, _, none⟩) hl).trans h3, (hb.cell (p := ⟨b, _, none⟩) hl).trans h4, (hb.cell (p := ⟨b, _, none⟩) hl).trans h5⟩
theorem KeyCells.step {w W w' : World} {b p : Nat} {z : Key6} (hB : Below w.heap.size w W) (h : KeyCells W b p z) (hb : Below W.heap.size W w') : Below w.heap.size w w' ∧ KeyCells w' b p z :=
  ⟨hB.trans (hb.mono hB.size), h.below hb (block_lt_of_cell h.1)⟩
theorem KeysAtT.round {w wr : World} {A : Option Addr} {n k : Nat} {ks : Nat → Key6} (h : KeysAtT w A n ks) (hB : Below w.heap.size w wr) (hk : k < n) :
    ∃ b off, A = some ⟨b, off, none⟩ ∧ KeyCells wr b (off + k * 6) (ks k) ∧ Small (ks k).r ∧ I64 (ks k).v := by
  obtain ⟨⟨b, off, h1, h2, h3, h4⟩, h5⟩ := h k hk
  exact ⟨b, off, h1, KeyCells.below (W := w) h3 hB h2, h4, h5⟩

set_option maxHeartbeats 1000000 in
theorem lawText_walk (A : Option Addr) (len cap : Nat) (ks : Nat → Key6) (w : World) (hl : len ≤ maxLen) (hK : KeysAtT w A len ks) (hT : Tab w.heap.size w) :
    Calls Tryd.prog 3 #[.slice A len cap] w fun e w' => e = .returned (.bool true) ∧ Below w.heap.size w w' := by
  unfold maxLen at hl
  have HK := Lib.hid hK
  have HT := Lib.hid hT
  clear hK hT
  by_cases h60 : 60 < len
  · go_enter Tryd.func3, Tryd.ntmps3
    go_wp2_with (go_at_call 4; refine (known_any _).mono ?_; rintro e w' ⟨rfl, hb⟩)
    go_ret
    exact ⟨rfl, hb⟩
  · go_enter Tryd.func3, Tryd.ntmps3
    go_wp2_with fail
    go_loopw [3] (fun i wr => ∃ k : Nat, k ≤ len ∧ i = .int .i64 k ∧ Below w.heap.size w wr) (fun i _ => len - (intOf i).toNat)
    case atStart => exact ⟨0, Nat.zero_le _, rfl, Below.refl _ _⟩
    case round =>
      obtain ⟨k, hk, rfl, hB⟩ := hrel
      by_cases hlt : k < len
      · obtain ⟨b, off, rfl, ⟨x0, x1, x2, x3, x4, x5⟩, hs, hv⟩ := HK.out.round hB hlt
        generalize ks k = z at *
        obtain ⟨kk, o, c, a, r, v⟩ := z
        cases hN : ofB kk o c a r v
        · go_wp2_with fail
          refine (text_no _ _ _ _ _ _ _ hN).mono ?_; rintro e w1 ⟨rfl, hb⟩
          obtain ⟨hB1, y0, y1, y2, y3, y4, y5⟩ := KeyCells.step (z := ⟨kk, o, c, a, r, v⟩) hB ⟨x0, x1, x2, x3, x4, x5⟩ hb
          clear hb x0 x1 x2 x3 x4 x5 hB
          go_wp2_with fail
          refine (rcheck_any _ _ _ _ _ _ _ hs).mono ?_; rintro e w2 ⟨rfl, hb⟩
          have hB2 := hB1.trans (hb.mono hB1.size)
          clear hb y0 y1 y2 y3 y4 y5 hB1
          rw [hN]
          go_wp2_with fail
          exact ⟨⟨k + 1, by omega, by go_num, by assumption⟩, by simp [intOf]; omega⟩
        · obtain ⟨hF, hk0, hk1⟩ := fits_of hN hs hv
          have HF := Lib.hid hF
          have HV := Lib.hid hv
          clear hF hv
          go_wp2_with fail
          refine (text_yes _ _ _ _ _ _ w.heap.size _ hN HF.out (HT.out.at (Nat.le_refl _) hB) hB.size).mono ?_; rintro e w1 ⟨rfl, hb⟩
          obtain ⟨hB1, y0, y1, y2, y3, y4, y5⟩ := KeyCells.step (z := ⟨kk, o, c, a, r, v⟩) hB ⟨x0, x1, x2, x3, x4, x5⟩ hb
          clear hb x0 x1 x2 x3 x4 x5 hB
          go_wp2_with fail
          refine (rcheck_any _ _ _ _ _ _ _ hs).mono ?_; rintro e w2 ⟨rfl, hb⟩
          obtain ⟨hB2, x0, x1, x2, x3, x4, x5⟩ := KeyCells.step (z := ⟨kk, o, c, a, r, v⟩) hB1 ⟨y0, y1, y2, y3, y4, y5⟩ hb
          clear hb y0 y1 y2 y3 y4 y5 hB1
          rw [hN]
          go_wp2_with fail
          refine (rtext_any _ _ _ _ _ _ w.heap.size _ hk0 hk1 HF.out (HT.out.at (Nat.le_refl _) hB2) hB2.size).mono ?_; rintro e w3 ⟨rfl, hb⟩
          have hB3 := hB2.trans (hb.mono hB2.size)
          clear hb x0 x1 x2 x3 x4 x5 hB2
          go_wp2_with fail
          exact ⟨⟨k + 1, by omega, by go_num, by assumption⟩, by simp [intOf]; omega⟩
      · go_wp2_with (go_at_call 4; refine (known_any _).mono ?_; rintro e w' ⟨rfl, hb⟩)
        go_ret
        exact ⟨rfl, hB.trans (hb.mono hB.size)⟩

end Go.Proofs.YtlfkfhdcljkhkaaDoor
