/-
  The law KeysWeak answers true, for all slices of keys and Rights.
-/
import Derived.Test.YtlfkfhdcljkhkaaRef6
namespace Go.Proofs.Ytlfkfhdcljkhkaa
open Go.RowKit

/-- what stands in a round: nothing below has turned, the element's cells, each key that was made in its own block -/
def HeldL (w W : World) (b p : Nat) (z : Key6) (l : List (Nat × Key6)) : Prop :=
  Below w.heap.size w W ∧ KeyCells W b p z ∧ ∀ x ∈ l, Blk W x.1 25 (cellsK x.2)
theorem HeldL.step {w W w' : World} {b p : Nat} {z : Key6} {l : List (Nat × Key6)} (h : HeldL w W b p z l) (hb : Below W.heap.size W w') : HeldL w w' b p z l :=
  ⟨h.1.trans (hb.mono h.1.size), h.2.1.below hb (block_lt_of_cell h.2.1.1), fun x hx => (h.2.2 x hx).below hb (h.2.2 x hx).lt⟩
theorem HeldL.add {w W : World} {b p : Nat} {z : Key6} {l : List (Nat × Key6)} (h : HeldL w W b p z l) (y : Key6) : HeldL w (W.alloc (.cells (cellsK y) 25)) b p z ((W.heap.size, y) :: l) := by
  refine ⟨h.1.alloc h.1.size _, h.2.1.below (B := W.heap.size) ((Below.refl _ _).alloc (Nat.le_refl _) _) (block_lt_of_cell h.2.1.1), fun x hx => ?_⟩
  rcases List.mem_cons.1 hx with rfl | hx
  · exact Blk.new _ _ _
  · exact (h.2.2 x hx).alloc _
theorem HeldL.key {w W : World} {b p : Nat} {z : Key6} {l : List (Nat × Key6)} (h : HeldL w W b p z l) (g : Nat) (y : Key6) (hx : (g, y) ∈ l) :
    g < W.heap.size ∧ W.cell? ⟨g, 0, none⟩ = some (.int .i64 y.k) ∧ W.cell? ⟨g, 1, none⟩ = some (.int .i64 y.o) ∧ W.cell? ⟨g, 2, none⟩ = some (.int .i64 y.c) ∧ W.cell? ⟨g, 3, none⟩ = some (.int .i64 y.a) ∧ W.cell? ⟨g, 4, none⟩ = some (.int .i64 y.r) ∧ W.cell? ⟨g, 5, none⟩ = some (.int .i64 y.v) := by
  have hB := h.2.2 _ hx
  exact ⟨hB.lt, hB.cell_is 0 rfl, hB.cell_is 1 rfl, hB.cell_is 2 rfl, hB.cell_is 3 rfl, hB.cell_is 4 rfl, hB.cell_is 5 rfl⟩
theorem HeldL.cells {w W : World} {b p : Nat} {z : Key6} {l : List (Nat × Key6)} (h : HeldL w W b p z l) : b < W.heap.size ∧ KeyCells W b p z := ⟨block_lt_of_cell h.2.1.1, h.2.1⟩
theorem HeldL.drew {w W : World} {b p : Nat} {z : Key6} {l : List (Nat × Key6)} (h : HeldL w W b p z l) : HeldL w W.drew b p z l := ⟨h.1.drew, h.2.1, h.2.2⟩

abbrev zeroK : Key6 := ⟨0, 0, 0, 0, 0, 0⟩
theorem weakenK_no (z : Key6) (w : World) (h : ofK z = false) :
    Calls Try.prog 20 #[aggK z] w fun e w' => e = .returned (.tuple #[aggK zeroK, .int .i64 2]) ∧ Below w.heap.size w w' := weaken_no _ _ _ _ _ _ w h
theorem lessK_no (z : Key6) (x : Int) (w : World) (h : ofK z = false ∨ x < 0 ∨ 7 < x) :
    Calls Try.prog 21 #[aggK z, .int .i64 x] w fun e w' => e = .returned (.tuple #[aggK zeroK, .int .i64 2]) ∧ Below w.heap.size w w' := less_no _ _ _ _ _ _ x w h
theorem rcheckK (z : Key6) (b : Bool) (w : World) (h : ofK z = b) (hr : Small z.r) :
    Calls Try.prog 13 #[aggK z] w fun e w' => e = .returned (.int .i64 (errB b)) ∧ Below w.heap.size w w' := by
  subst h; exact rcheck_s _ _ _ _ _ _ w hr

/-- the state that a round begins with, and what it must bring about -/
def RoundAt (w : World) (len : Nat) (k : Nat) (i : Value) (wr : World) : Prop := k ≤ len ∧ i = .int .i64 k ∧ Below w.heap.size w wr

set_option maxRecDepth 100000 in
set_option maxHeartbeats 4000000 in
theorem lawWeak_lo (A : Option Addr) (len cap : Nat) (ks : Nat → Key6) (R : Int) (w : World) (hl : len ≤ maxLen) (hK : KeysAt w A len ks) (hR : R < 0) :
    Calls Try.prog 6 #[.slice A len cap, .int .i64 R] w fun e w' => e = .returned (.bool true) ∧ Below w.heap.size w w' := by
  unfold maxLen at hl
  have HK := Lib.hid hK
  clear hK
  by_cases h60 : 60 < len
  · go_enter Try.func6, Try.ntmps6
    go_wp2_with (go_at_call 14; refine (known_any _).mono ?_; rintro e w' ⟨rfl, hb⟩)
    go_ret
    exact ⟨rfl, hb⟩
  · go_enter Try.func6, Try.ntmps6
    go_wp2_with fail
    go_loopw [5] (fun i wr => ∃ k : Nat, k ≤ len ∧ i = .int .i64 k ∧ Below w.heap.size w wr) (fun i _ => len - (intOf i).toNat)
    case atStart => exact ⟨0, Nat.zero_le _, rfl, Below.refl _ _⟩
    case round =>
      obtain ⟨k, hk, rfl, hB⟩ := hrel
      by_cases hlt : k < len
      · obtain ⟨b, off, rfl, hC, hs⟩ := HK.out.round hB hlt
        generalize ks k = z at *
        have S0 : HeldL w wr b (off + k * 6) z [] := ⟨hB, hC, fun x hx => by cases hx⟩
        have he : errB true = 0 := rfl
        have he2 : errB false = 2 := rfl
        cases hO : ofK z
        all_goals obtain ⟨kk, o, c, a, r, v⟩ := z
        · have ho := Lib.hid hO
          clear hO hB hC
          obtain ⟨e0, e1, e2, e3, e4, e5, e6⟩ := S0.cells
          go_wp2_with fail
          refine (weakenK_no ⟨kk, o, c, a, r, v⟩ _ ho.out).mono ?_; rintro e W1 ⟨rfl, hb⟩
          have S1 := S0.step hb
          clear hb e0 e1 e2 e3 e4 e5 e6
          obtain ⟨e0, e1, e2, e3, e4, e5, e6⟩ := S1.cells
          go_wp2_with fail
          refine (lessK_no ⟨kk, o, c, a, r, v⟩ R _ (.inl ho.out)).mono ?_; rintro e W2 ⟨rfl, hb⟩
          have S2 := (S1.add zeroK).step hb
          clear hb e0 e1 e2 e3 e4 e5 e6
          obtain ⟨e0, e1, e2, e3, e4, e5, e6⟩ := S2.cells
          go_wp2_with fail
          refine (rcheckK ⟨kk, o, c, a, r, v⟩ false _ ho.out hs).mono ?_; rintro e W3 ⟨rfl, hb⟩
          have S3 := (S2.add zeroK).step hb
          clear hb e0 e1 e2 e3 e4 e5 e6
          obtain ⟨x00, x01, x02, x03, x04, x05, x06⟩ := S3.key (W1.heap.size) zeroK (by simp)
          obtain ⟨x10, x11, x12, x13, x14, x15, x16⟩ := S3.key (W2.heap.size) zeroK (by simp)
          go_wp2_with fail
          exact ⟨⟨k + 1, by omega, by go_num, S3.1⟩, by simp [intOf]; omega⟩
        · have ho := Lib.hid hO
          have hr2 : r < 9223372036854775808 := hs
          obtain ⟨wk, hw0⟩ : ∃ wk, weakK ⟨kk, o, c, a, r, v⟩ = wk := ⟨_, rfl⟩
          have HW := Lib.hid (fun W => by rw [← hw0]; exact weakenK ⟨kk, o, c, a, r, v⟩ W hO : ∀ W, Calls Try.prog 20 #[aggK ⟨kk, o, c, a, r, v⟩] W fun e w' => e = .returned (.tuple #[aggK wk, .int .i64 0]) ∧ Below W.heap.size W w')
          have HRW := Lib.hid (fun W => by rw [← hw0]; exact rweakK ⟨kk, o, c, a, r, v⟩ W hO hr2 : ∀ W, Calls Try.prog 22 #[aggK ⟨kk, o, c, a, r, v⟩] W fun e w' => e = .returned (aggK wk) ∧ Below W.heap.size W w')
          clear hO hw0 hr2 hB hC
          obtain ⟨e0, e1, e2, e3, e4, e5, e6⟩ := S0.cells
          go_wp2_with fail
          refine (HW.out _).mono ?_; rintro e W1 ⟨rfl, hb⟩
          have S1 := S0.step hb
          clear hb e0 e1 e2 e3 e4 e5 e6
          obtain ⟨e0, e1, e2, e3, e4, e5, e6⟩ := S1.cells
          go_wp2_with fail
          refine (lessK_no ⟨kk, o, c, a, r, v⟩ R _ (.inr (.inl hR))).mono ?_; rintro e W2 ⟨rfl, hb⟩
          have S2 := (S1.add wk).step hb
          clear hb e0 e1 e2 e3 e4 e5 e6
          obtain ⟨e0, e1, e2, e3, e4, e5, e6⟩ := S2.cells
          go_wp2_with fail
          refine (rcheckK ⟨kk, o, c, a, r, v⟩ true _ ho.out hs).mono ?_; rintro e W3 ⟨rfl, hb⟩
          have S3 := (S2.add zeroK).step hb
          clear hb e0 e1 e2 e3 e4 e5 e6
          go_upto_region 11 with fail
          have T3 := S3.drew
          obtain ⟨g0, x00, x01, x02, x03, x04, x05⟩ := T3.key (W1.heap.size) wk (by simp)
          obtain ⟨g1, e0, e1, e2, e3, e4, e5⟩ := T3.cells
          clear S3
          go_region_held3 (fun w' => HeldL w w' b (off + k * 6) ⟨kk, o, c, a, r, v⟩ [(W2.heap.size, zeroK), (W1.heap.size, wk)] ∧ w'.cell? ⟨W1.heap.size, 0, none⟩ = some (.int .i64 wk.k) ∧ w'.cell? ⟨W1.heap.size, 1, none⟩ = some (.int .i64 wk.o) ∧ w'.cell? ⟨W1.heap.size, 2, none⟩ = some (.int .i64 wk.c) ∧ w'.cell? ⟨W1.heap.size, 3, none⟩ = some (.int .i64 wk.a) ∧ w'.cell? ⟨W1.heap.size, 4, none⟩ = some (.int .i64 wk.r) ∧ w'.cell? ⟨W1.heap.size, 5, none⟩ = some (.int .i64 wk.v) ∧ w'.cell? ⟨b, off + k * 6, none⟩ = some (.int .i64 kk) ∧ w'.cell? ⟨b, off + k * 6 + 1, none⟩ = some (.int .i64 o) ∧ w'.cell? ⟨b, off + k * 6 + 2, none⟩ = some (.int .i64 c) ∧ w'.cell? ⟨b, off + k * 6 + 3, none⟩ = some (.int .i64 a) ∧ w'.cell? ⟨b, off + k * 6 + 4, none⟩ = some (.int .i64 r) ∧ w'.cell? ⟨b, off + k * 6 + 5, none⟩ = some (.int .i64 v))
            ((first | (refine ⟨?_, ?_, ?_, ?_, ?_, ?_, ?_, ?_, ?_, ?_, ?_, ?_, ?_⟩ <;> assumption)))
            (first
              | (go_at_call 22; refine (HRW.out _).mono ?_; rintro e w' ⟨rfl, hb⟩; have hh := T3.step hb; obtain ⟨_, y0, y1, y2, y3, y4, y5⟩ := hh.key (W1.heap.size) wk (by simp); obtain ⟨_, z0, z1, z2, z3, z4, z5⟩ := hh.cells; clear hb))
          obtain ⟨g3, y0, y1, y2, y3, y4, y5⟩ := hh.key (W2.heap.size) zeroK (by simp)
          go_wp2_with fail
          exact ⟨⟨k + 1, by omega, by go_num, hh.1⟩, by simp [intOf]; omega⟩
      · go_wp2_with (go_at_call 14; refine (known_any _).mono ?_; rintro e w' ⟨rfl, hb⟩)
        go_ret
        exact ⟨rfl, hB.trans (hb.mono hB.size)⟩

set_option maxRecDepth 100000 in
set_option maxHeartbeats 4000000 in
theorem lawWeak_hi (A : Option Addr) (len cap : Nat) (ks : Nat → Key6) (R : Int) (w : World) (hl : len ≤ maxLen) (hK : KeysAt w A len ks) (hR0 : 0 ≤ R) (hR : 7 < R) :
    Calls Try.prog 6 #[.slice A len cap, .int .i64 R] w fun e w' => e = .returned (.bool true) ∧ Below w.heap.size w w' := by
  unfold maxLen at hl
  have HK := Lib.hid hK
  clear hK
  by_cases h60 : 60 < len
  · go_enter Try.func6, Try.ntmps6
    go_wp2_with (go_at_call 14; refine (known_any _).mono ?_; rintro e w' ⟨rfl, hb⟩)
    go_ret
    exact ⟨rfl, hb⟩
  · go_enter Try.func6, Try.ntmps6
    go_wp2_with fail
    go_loopw [5] (fun i wr => ∃ k : Nat, k ≤ len ∧ i = .int .i64 k ∧ Below w.heap.size w wr) (fun i _ => len - (intOf i).toNat)
    case atStart => exact ⟨0, Nat.zero_le _, rfl, Below.refl _ _⟩
    case round =>
      obtain ⟨k, hk, rfl, hB⟩ := hrel
      by_cases hlt : k < len
      · obtain ⟨b, off, rfl, hC, hs⟩ := HK.out.round hB hlt
        generalize ks k = z at *
        have S0 : HeldL w wr b (off + k * 6) z [] := ⟨hB, hC, fun x hx => by cases hx⟩
        have he : errB true = 0 := rfl
        have he2 : errB false = 2 := rfl
        cases hO : ofK z
        all_goals obtain ⟨kk, o, c, a, r, v⟩ := z
        · have ho := Lib.hid hO
          clear hO hB hC
          obtain ⟨e0, e1, e2, e3, e4, e5, e6⟩ := S0.cells
          go_wp2_with fail
          refine (weakenK_no ⟨kk, o, c, a, r, v⟩ _ ho.out).mono ?_; rintro e W1 ⟨rfl, hb⟩
          have S1 := S0.step hb
          clear hb e0 e1 e2 e3 e4 e5 e6
          obtain ⟨e0, e1, e2, e3, e4, e5, e6⟩ := S1.cells
          go_wp2_with fail
          refine (lessK_no ⟨kk, o, c, a, r, v⟩ R _ (.inl ho.out)).mono ?_; rintro e W2 ⟨rfl, hb⟩
          have S2 := (S1.add zeroK).step hb
          clear hb e0 e1 e2 e3 e4 e5 e6
          obtain ⟨e0, e1, e2, e3, e4, e5, e6⟩ := S2.cells
          go_wp2_with fail
          refine (rcheckK ⟨kk, o, c, a, r, v⟩ false _ ho.out hs).mono ?_; rintro e W3 ⟨rfl, hb⟩
          have S3 := (S2.add zeroK).step hb
          clear hb e0 e1 e2 e3 e4 e5 e6
          obtain ⟨x00, x01, x02, x03, x04, x05, x06⟩ := S3.key (W1.heap.size) zeroK (by simp)
          obtain ⟨x10, x11, x12, x13, x14, x15, x16⟩ := S3.key (W2.heap.size) zeroK (by simp)
          go_wp2_with fail
          exact ⟨⟨k + 1, by omega, by go_num, S3.1⟩, by simp [intOf]; omega⟩
        · have ho := Lib.hid hO
          have hr2 : r < 9223372036854775808 := hs
          obtain ⟨wk, hw0⟩ : ∃ wk, weakK ⟨kk, o, c, a, r, v⟩ = wk := ⟨_, rfl⟩
          have HW := Lib.hid (fun W => by rw [← hw0]; exact weakenK ⟨kk, o, c, a, r, v⟩ W hO : ∀ W, Calls Try.prog 20 #[aggK ⟨kk, o, c, a, r, v⟩] W fun e w' => e = .returned (.tuple #[aggK wk, .int .i64 0]) ∧ Below W.heap.size W w')
          have HRW := Lib.hid (fun W => by rw [← hw0]; exact rweakK ⟨kk, o, c, a, r, v⟩ W hO hr2 : ∀ W, Calls Try.prog 22 #[aggK ⟨kk, o, c, a, r, v⟩] W fun e w' => e = .returned (aggK wk) ∧ Below W.heap.size W w')
          clear hO hw0 hr2 hB hC
          obtain ⟨e0, e1, e2, e3, e4, e5, e6⟩ := S0.cells
          go_wp2_with fail
          refine (HW.out _).mono ?_; rintro e W1 ⟨rfl, hb⟩
          have S1 := S0.step hb
          clear hb e0 e1 e2 e3 e4 e5 e6
          obtain ⟨e0, e1, e2, e3, e4, e5, e6⟩ := S1.cells
          go_wp2_with fail
          refine (lessK_no ⟨kk, o, c, a, r, v⟩ R _ (.inr (.inr hR))).mono ?_; rintro e W2 ⟨rfl, hb⟩
          have S2 := (S1.add wk).step hb
          clear hb e0 e1 e2 e3 e4 e5 e6
          obtain ⟨e0, e1, e2, e3, e4, e5, e6⟩ := S2.cells
          go_wp2_with fail
          refine (rcheckK ⟨kk, o, c, a, r, v⟩ true _ ho.out hs).mono ?_; rintro e W3 ⟨rfl, hb⟩
          have S3 := (S2.add zeroK).step hb
          clear hb e0 e1 e2 e3 e4 e5 e6
          go_upto_region 11 with fail
          have T3 := S3.drew
          obtain ⟨g0, x00, x01, x02, x03, x04, x05⟩ := T3.key (W1.heap.size) wk (by simp)
          obtain ⟨g1, e0, e1, e2, e3, e4, e5⟩ := T3.cells
          clear S3
          go_region_held3 (fun w' => HeldL w w' b (off + k * 6) ⟨kk, o, c, a, r, v⟩ [(W2.heap.size, zeroK), (W1.heap.size, wk)] ∧ w'.cell? ⟨W1.heap.size, 0, none⟩ = some (.int .i64 wk.k) ∧ w'.cell? ⟨W1.heap.size, 1, none⟩ = some (.int .i64 wk.o) ∧ w'.cell? ⟨W1.heap.size, 2, none⟩ = some (.int .i64 wk.c) ∧ w'.cell? ⟨W1.heap.size, 3, none⟩ = some (.int .i64 wk.a) ∧ w'.cell? ⟨W1.heap.size, 4, none⟩ = some (.int .i64 wk.r) ∧ w'.cell? ⟨W1.heap.size, 5, none⟩ = some (.int .i64 wk.v) ∧ w'.cell? ⟨b, off + k * 6, none⟩ = some (.int .i64 kk) ∧ w'.cell? ⟨b, off + k * 6 + 1, none⟩ = some (.int .i64 o) ∧ w'.cell? ⟨b, off + k * 6 + 2, none⟩ = some (.int .i64 c) ∧ w'.cell? ⟨b, off + k * 6 + 3, none⟩ = some (.int .i64 a) ∧ w'.cell? ⟨b, off + k * 6 + 4, none⟩ = some (.int .i64 r) ∧ w'.cell? ⟨b, off + k * 6 + 5, none⟩ = some (.int .i64 v))
            ((first | (refine ⟨?_, ?_, ?_, ?_, ?_, ?_, ?_, ?_, ?_, ?_, ?_, ?_, ?_⟩ <;> assumption)))
            (first
              | (go_at_call 22; refine (HRW.out _).mono ?_; rintro e w' ⟨rfl, hb⟩; have hh := T3.step hb; obtain ⟨_, y0, y1, y2, y3, y4, y5⟩ := hh.key (W1.heap.size) wk (by simp); obtain ⟨_, z0, z1, z2, z3, z4, z5⟩ := hh.cells; clear hb))
          obtain ⟨g3, y0, y1, y2, y3, y4, y5⟩ := hh.key (W2.heap.size) zeroK (by simp)
          go_wp2_with fail
          exact ⟨⟨k + 1, by omega, by go_num, hh.1⟩, by simp [intOf]; omega⟩
      · go_wp2_with (go_at_call 14; refine (known_any _).mono ?_; rintro e w' ⟨rfl, hb⟩)
        go_ret
        exact ⟨rfl, hB.trans (hb.mono hB.size)⟩

set_option maxRecDepth 100000 in
set_option maxHeartbeats 4000000 in
theorem lawWeak_in (A : Option Addr) (len cap : Nat) (ks : Nat → Key6) (R : Int) (w : World) (hl : len ≤ maxLen) (hK : KeysAt w A len ks) (hR0 : 0 ≤ R) (hR7 : R ≤ 7) :
    Calls Try.prog 6 #[.slice A len cap, .int .i64 R] w fun e w' => e = .returned (.bool true) ∧ Below w.heap.size w w' := by
  unfold maxLen at hl
  have HK := Lib.hid hK
  clear hK
  by_cases h60 : 60 < len
  · go_enter Try.func6, Try.ntmps6
    go_wp2_with (go_at_call 14; refine (known_any _).mono ?_; rintro e w' ⟨rfl, hb⟩)
    go_ret
    exact ⟨rfl, hb⟩
  · go_enter Try.func6, Try.ntmps6
    go_wp2_with fail
    go_loopw [5] (fun i wr => ∃ k : Nat, k ≤ len ∧ i = .int .i64 k ∧ Below w.heap.size w wr) (fun i _ => len - (intOf i).toNat)
    case atStart => exact ⟨0, Nat.zero_le _, rfl, Below.refl _ _⟩
    case round =>
      obtain ⟨k, hk, rfl, hB⟩ := hrel
      by_cases hlt : k < len
      · obtain ⟨b, off, rfl, hC, hs⟩ := HK.out.round hB hlt
        generalize ks k = z at *
        have S0 : HeldL w wr b (off + k * 6) z [] := ⟨hB, hC, fun x hx => by cases hx⟩
        have he : errB true = 0 := rfl
        have he2 : errB false = 2 := rfl
        cases hO : ofK z
        all_goals obtain ⟨kk, o, c, a, r, v⟩ := z
        · have ho := Lib.hid hO
          clear hO hB hC
          obtain ⟨e0, e1, e2, e3, e4, e5, e6⟩ := S0.cells
          go_wp2_with fail
          refine (weakenK_no ⟨kk, o, c, a, r, v⟩ _ ho.out).mono ?_; rintro e W1 ⟨rfl, hb⟩
          have S1 := S0.step hb
          clear hb e0 e1 e2 e3 e4 e5 e6
          obtain ⟨e0, e1, e2, e3, e4, e5, e6⟩ := S1.cells
          go_wp2_with fail
          refine (lessK_no ⟨kk, o, c, a, r, v⟩ R _ (.inl ho.out)).mono ?_; rintro e W2 ⟨rfl, hb⟩
          have S2 := (S1.add zeroK).step hb
          clear hb e0 e1 e2 e3 e4 e5 e6
          obtain ⟨e0, e1, e2, e3, e4, e5, e6⟩ := S2.cells
          go_wp2_with fail
          refine (rcheckK ⟨kk, o, c, a, r, v⟩ false _ ho.out hs).mono ?_; rintro e W3 ⟨rfl, hb⟩
          have S3 := (S2.add zeroK).step hb
          clear hb e0 e1 e2 e3 e4 e5 e6
          obtain ⟨x00, x01, x02, x03, x04, x05, x06⟩ := S3.key (W1.heap.size) zeroK (by simp)
          obtain ⟨x10, x11, x12, x13, x14, x15, x16⟩ := S3.key (W2.heap.size) zeroK (by simp)
          go_wp2_with fail
          exact ⟨⟨k + 1, by omega, by go_num, S3.1⟩, by simp [intOf]; omega⟩
        · have ho := Lib.hid hO
          have hr2 : r < 9223372036854775808 := hs
          obtain ⟨wk, hw0⟩ : ∃ wk, weakK ⟨kk, o, c, a, r, v⟩ = wk := ⟨_, rfl⟩
          have HW := Lib.hid (fun W => by rw [← hw0]; exact weakenK ⟨kk, o, c, a, r, v⟩ W hO : ∀ W, Calls Try.prog 20 #[aggK ⟨kk, o, c, a, r, v⟩] W fun e w' => e = .returned (.tuple #[aggK wk, .int .i64 0]) ∧ Below W.heap.size W w')
          have HRW := Lib.hid (fun W => by rw [← hw0]; exact rweakK ⟨kk, o, c, a, r, v⟩ W hO hr2 : ∀ W, Calls Try.prog 22 #[aggK ⟨kk, o, c, a, r, v⟩] W fun e w' => e = .returned (aggK wk) ∧ Below W.heap.size W w')
          obtain ⟨lk, hl0⟩ : ∃ lk, lessK ⟨kk, o, c, a, r, v⟩ R = lk := ⟨_, rfl⟩
          have HL := Lib.hid (fun W => by rw [← hl0]; exact lessK_c ⟨kk, o, c, a, r, v⟩ R W hO hR0 hR7 : ∀ W, Calls Try.prog 21 #[aggK ⟨kk, o, c, a, r, v⟩, .int .i64 R] W fun e w' => e = .returned (.tuple #[aggK lk, .int .i64 0]) ∧ Below W.heap.size W w')
          have HRL := Lib.hid (fun W => by rw [← hl0]; exact rlessK ⟨kk, o, c, a, r, v⟩ R W hO hr2 hR0 hR7 : ∀ W, Calls Try.prog 23 #[aggK ⟨kk, o, c, a, r, v⟩, .int .i64 R] W fun e w' => e = .returned (aggK lk) ∧ Below W.heap.size W w')
          clear hO hw0 hl0 hr2 hB hC
          obtain ⟨e0, e1, e2, e3, e4, e5, e6⟩ := S0.cells
          go_wp2_with fail
          refine (HW.out _).mono ?_; rintro e W1 ⟨rfl, hb⟩
          have S1 := S0.step hb
          clear hb e0 e1 e2 e3 e4 e5 e6
          obtain ⟨e0, e1, e2, e3, e4, e5, e6⟩ := S1.cells
          go_wp2_with fail
          refine (HL.out _).mono ?_; rintro e W2 ⟨rfl, hb⟩
          have S2 := (S1.add wk).step hb
          clear hb e0 e1 e2 e3 e4 e5 e6
          obtain ⟨e0, e1, e2, e3, e4, e5, e6⟩ := S2.cells
          go_wp2_with fail
          refine (rcheckK ⟨kk, o, c, a, r, v⟩ true _ ho.out hs).mono ?_; rintro e W3 ⟨rfl, hb⟩
          have S3 := (S2.add lk).step hb
          clear hb e0 e1 e2 e3 e4 e5 e6
          go_upto_region 11 with fail
          have T3 := S3.drew
          obtain ⟨g0, x00, x01, x02, x03, x04, x05⟩ := T3.key (W1.heap.size) wk (by simp)
          obtain ⟨g1, e0, e1, e2, e3, e4, e5⟩ := T3.cells
          clear S3
          go_region_held3 (fun w' => HeldL w w' b (off + k * 6) ⟨kk, o, c, a, r, v⟩ [(W2.heap.size, lk), (W1.heap.size, wk)] ∧ w'.cell? ⟨W1.heap.size, 0, none⟩ = some (.int .i64 wk.k) ∧ w'.cell? ⟨W1.heap.size, 1, none⟩ = some (.int .i64 wk.o) ∧ w'.cell? ⟨W1.heap.size, 2, none⟩ = some (.int .i64 wk.c) ∧ w'.cell? ⟨W1.heap.size, 3, none⟩ = some (.int .i64 wk.a) ∧ w'.cell? ⟨W1.heap.size, 4, none⟩ = some (.int .i64 wk.r) ∧ w'.cell? ⟨W1.heap.size, 5, none⟩ = some (.int .i64 wk.v) ∧ w'.cell? ⟨b, off + k * 6, none⟩ = some (.int .i64 kk) ∧ w'.cell? ⟨b, off + k * 6 + 1, none⟩ = some (.int .i64 o) ∧ w'.cell? ⟨b, off + k * 6 + 2, none⟩ = some (.int .i64 c) ∧ w'.cell? ⟨b, off + k * 6 + 3, none⟩ = some (.int .i64 a) ∧ w'.cell? ⟨b, off + k * 6 + 4, none⟩ = some (.int .i64 r) ∧ w'.cell? ⟨b, off + k * 6 + 5, none⟩ = some (.int .i64 v))
            ((first | (refine ⟨?_, ?_, ?_, ?_, ?_, ?_, ?_, ?_, ?_, ?_, ?_, ?_, ?_⟩ <;> assumption)))
            (first
              | (go_at_call 22; refine (HRW.out _).mono ?_; rintro e w' ⟨rfl, hb⟩; have hh := T3.step hb; obtain ⟨_, y0, y1, y2, y3, y4, y5⟩ := hh.key (W1.heap.size) wk (by simp); obtain ⟨_, z0, z1, z2, z3, z4, z5⟩ := hh.cells; clear hb))
          go_upto_region 16 with fail
          have T5 := hh.drew
          obtain ⟨g0, x00, x01, x02, x03, x04, x05⟩ := T5.key (W2.heap.size) lk (by simp)
          obtain ⟨g1, e0, e1, e2, e3, e4, e5⟩ := T5.cells
          clear hh
          go_region_held3 (fun w' => HeldL w w' b (off + k * 6) ⟨kk, o, c, a, r, v⟩ [(W2.heap.size, lk), (W1.heap.size, wk)] ∧ w'.cell? ⟨W2.heap.size, 0, none⟩ = some (.int .i64 lk.k) ∧ w'.cell? ⟨W2.heap.size, 1, none⟩ = some (.int .i64 lk.o) ∧ w'.cell? ⟨W2.heap.size, 2, none⟩ = some (.int .i64 lk.c) ∧ w'.cell? ⟨W2.heap.size, 3, none⟩ = some (.int .i64 lk.a) ∧ w'.cell? ⟨W2.heap.size, 4, none⟩ = some (.int .i64 lk.r) ∧ w'.cell? ⟨W2.heap.size, 5, none⟩ = some (.int .i64 lk.v) ∧ w'.cell? ⟨b, off + k * 6, none⟩ = some (.int .i64 kk) ∧ w'.cell? ⟨b, off + k * 6 + 1, none⟩ = some (.int .i64 o) ∧ w'.cell? ⟨b, off + k * 6 + 2, none⟩ = some (.int .i64 c) ∧ w'.cell? ⟨b, off + k * 6 + 3, none⟩ = some (.int .i64 a) ∧ w'.cell? ⟨b, off + k * 6 + 4, none⟩ = some (.int .i64 r) ∧ w'.cell? ⟨b, off + k * 6 + 5, none⟩ = some (.int .i64 v))
            ((first | (refine ⟨?_, ?_, ?_, ?_, ?_, ?_, ?_, ?_, ?_, ?_, ?_, ?_, ?_⟩ <;> assumption)))
            (first
              | (go_at_call 23; refine (HRL.out _).mono ?_; rintro e w' ⟨rfl, hb⟩; have hh := T5.step hb; obtain ⟨_, y0, y1, y2, y3, y4, y5⟩ := hh.key (W2.heap.size) lk (by simp); obtain ⟨_, z0, z1, z2, z3, z4, z5⟩ := hh.cells; clear hb))
          go_wp2_with fail
          exact ⟨⟨k + 1, by omega, by go_num, hh.1⟩, by simp [intOf]; omega⟩
      · go_wp2_with (go_at_call 14; refine (known_any _).mono ?_; rintro e w' ⟨rfl, hb⟩)
        go_ret
        exact ⟨rfl, hB.trans (hb.mono hB.size)⟩

theorem lawWeak_walk (A : Option Addr) (len cap : Nat) (ks : Nat → Key6) (R : Int) (w : World) (hl : len ≤ maxLen) (hK : KeysAt w A len ks) (_ : Small R) :
    Calls Try.prog 6 #[.slice A len cap, .int .i64 R] w fun e w' => e = .returned (.bool true) ∧ Below w.heap.size w w' := by
  by_cases h0 : R < 0
  · exact lawWeak_lo A len cap ks R w hl hK h0
  · by_cases h7 : 7 < R
    · exact lawWeak_hi A len cap ks R w hl hK (by omega) h7
    · exact lawWeak_in A len cap ks R w hl hK (by omega) (by omega)

end Go.Proofs.Ytlfkfhdcljkhkaa
