/-
  The law KeysRights answers true, for all keys.
-/
import Derived.Test.YtlfkfhdcljkhkaaLawWeak
namespace Go.Proofs.Ytlfkfhdcljkhkaa
open Go.RowKit

/-- what stands: nothing below has turned, each key in its own block -/
def HeldM (w W : World) (l : List (Nat × Key6)) : Prop := Below w.heap.size w W ∧ ∀ x ∈ l, Blk W x.1 25 (cellsK x.2)
theorem HeldM.step {w W w' : World} {l : List (Nat × Key6)} (h : HeldM w W l) (hb : Below W.heap.size W w') : HeldM w w' l :=
  ⟨h.1.trans (hb.mono h.1.size), fun x hx => (h.2 x hx).below hb (h.2 x hx).lt⟩
theorem HeldM.add {w W : World} {l : List (Nat × Key6)} (h : HeldM w W l) (y : Key6) : HeldM w (W.alloc (.cells (cellsK y) 25)) ((W.heap.size, y) :: l) := by
  refine ⟨h.1.alloc h.1.size _, fun x hx => ?_⟩
  rcases List.mem_cons.1 hx with rfl | hx
  · exact Blk.new _ _ _
  · exact (h.2 x hx).alloc _
theorem HeldM.key {w W : World} {l : List (Nat × Key6)} (h : HeldM w W l) (g : Nat) (y : Key6) (hx : (g, y) ∈ l) :
    g < W.heap.size ∧ W.cell? ⟨g, 0, none⟩ = some (.int .i64 y.k) ∧ W.cell? ⟨g, 1, none⟩ = some (.int .i64 y.o) ∧ W.cell? ⟨g, 2, none⟩ = some (.int .i64 y.c) ∧ W.cell? ⟨g, 3, none⟩ = some (.int .i64 y.a) ∧ W.cell? ⟨g, 4, none⟩ = some (.int .i64 y.r) ∧ W.cell? ⟨g, 5, none⟩ = some (.int .i64 y.v) := by
  have hB := h.2 _ hx
  exact ⟨hB.lt, hB.cell_is 0 rfl, hB.cell_is 1 rfl, hB.cell_is 2 rfl, hB.cell_is 3 rfl, hB.cell_is 4 rfl, hB.cell_is 5 rfl⟩
theorem HeldM.drew {w W : World} {l : List (Nat × Key6)} (h : HeldM w W l) : HeldM w W.drew l := ⟨h.1.drew, h.2⟩
theorem HeldM.sub {w W : World} {l l' : List (Nat × Key6)} (h : HeldM w W l) (hl : ∀ x ∈ l', x ∈ l) : HeldM w W l' := ⟨h.1, fun x hx => h.2 x (hl x hx)⟩

theorem small_of {n : Nat} (h : n < 9) : Small (n : Int) := by unfold Small; omega

set_option maxRecDepth 100000 in
set_option maxHeartbeats 4000000 in
theorem lawRights_walk (k o c a r v : Int) (w : World) (_ : Small r) :
    Calls Try.prog 8 #[aggK ⟨k, o, c, a, r, v⟩] w fun e w' => e = .returned (.bool true) ∧ Below w.heap.size w w' := by
  go_enter Try.func8, Try.ntmps8
  go_wp2_with fail
  go_loopw [3] (fun i wr => ∃ n : Nat, n ≤ 9 ∧ i = .int .i64 n ∧ HeldM w wr [(w.heap.size, ⟨k, o, c, a, r, v⟩)]) (fun i _ => 9 - (intOf i).toNat)
  case atStart => exact ⟨0, Nat.zero_le _, rfl, (Below.refl _ _).alloc (Nat.le_refl _) _, fun x hx => by simp at hx; subst hx; exact Blk.new _ _ _⟩
  case round =>
    obtain ⟨n, hn, rfl, S0⟩ := hrel
    by_cases hlt : n < 9
    · have hd : decide ((n : Int) < 9) = true := decide_eq_true (by omega)
      go_wp2_with fail
      obtain ⟨wo, rfl⟩ : ∃ wo : World, wo = wr := ⟨_, rfl⟩
      go_loopw [4] (fun i wr => ∃ m : Nat, m ≤ 9 ∧ i = .int .i64 m ∧ HeldM w wr [(w.heap.size, ⟨k, o, c, a, r, v⟩)]) (fun i _ => 9 - (intOf i).toNat)
      case atStart => exact ⟨0, Nat.zero_le _, rfl, S0⟩
      case round =>
        obtain ⟨m, hm, rfl, S1⟩ := hrel
        clear S0
        by_cases hml : m < 9
        · have hd2 : decide ((m : Int) < 9) = true := decide_eq_true (by omega)
          go_upto_region 7 with fail
          go_cut [5, 6] (fun s5 s6 wx => ∃ g h : Nat, s5 = .pointer (some ⟨g, 0, none⟩) ∧ s6 = .pointer (some ⟨h, 0, none⟩) ∧ g ≠ h ∧ w.heap.size < g ∧ w.heap.size < h ∧ HeldM w wx [(g, ⟨k, o, c, a, r, v⟩), (h, ⟨k, o, c, a, r, v⟩), (w.heap.size, ⟨k, o, c, a, r, v⟩)])
          case first =>
            obtain ⟨q0, x0, x1, x2, x3, x4, x5⟩ := S1.key w.heap.size ⟨k, o, c, a, r, v⟩ (by simp)
            go_region
            all_goals go_wp2_with fail
            all_goals go_meet
            all_goals clear x0 x1 x2 x3 x4 x5
            all_goals have S2 := ((S1.add ⟨k, o, c, a, r, v⟩).add ⟨k, o, c, a, r, v⟩).drew
            all_goals have S3 := S2.sub (l' := [(wr.heap.size, ⟨k, o, c, a, r, v⟩), (wr.heap.size + 1, ⟨k, o, c, a, r, v⟩), (w.heap.size, ⟨k, o, c, a, r, v⟩)]) (by intro x hx; simp only [List.mem_cons, List.mem_nil_iff, or_false] at hx ⊢; rcases hx with h | h | h <;> simp [h])
            · exact ⟨wr.heap.size, wr.heap.size + 1, rfl, rfl, by omega, q0, by omega, S3⟩
            · exact ⟨wr.heap.size + 1, wr.heap.size, rfl, rfl, by omega, by omega, q0, S3.sub (by intro x hx; simp only [List.mem_cons, List.mem_nil_iff, or_false] at hx ⊢; rcases hx with h | h | h <;> simp [h])⟩
          case rest =>
            obtain ⟨g, h, rfl, rfl, hne, hg, hh, S2⟩ := hcut
            obtain ⟨q1, x0, x1, x2, x3, x4, x5⟩ := S2.key g ⟨k, o, c, a, r, v⟩ (by simp)
            obtain ⟨q2, y0, y1, y2, y3, y4, y5⟩ := S2.key h ⟨k, o, c, a, r, v⟩ (by simp)
            have f1 := (S2.2 (g, ⟨k, o, c, a, r, v⟩) (by simp)).frozen 4
            have f2 := (S2.2 (h, ⟨k, o, c, a, r, v⟩) (by simp)).frozen 4
            have hne' : ¬ h = g := fun e => hne e.symm
            have S3 : HeldM w ((wc.setCell ⟨g, 4, none⟩ (.int .i64 n)).setCell ⟨h, 4, none⟩ (.int .i64 m)) [(g, ⟨k, o, c, a, n, v⟩), (h, ⟨k, o, c, a, m, v⟩), (w.heap.size, ⟨k, o, c, a, r, v⟩)] := by
              refine ⟨(S2.1.setCell (by simp; omega) _).setCell (by simp; omega) _, fun x hx => ?_⟩
              simp only [List.mem_cons, List.mem_nil_iff, or_false] at hx
              rcases hx with rfl | rfl | rfl
              · exact ((S2.2 (g, ⟨k, o, c, a, r, v⟩) (by simp)).set_ 4 _).far (by simpa using hne) _
              · exact ((S2.2 (h, ⟨k, o, c, a, r, v⟩) (by simp)).far (by simpa using hne') _).set_ 4 _
              · exact ((S2.2 (w.heap.size, ⟨k, o, c, a, r, v⟩) (by simp)).far (by simp; omega) _).far (by simp; omega) _
            go_upto_region 9 with fail
            generalize (wc.setCell ⟨g, 4, none⟩ (.int .i64 n)).setCell ⟨h, 4, none⟩ (.int .i64 m) = W3 at *
            clear x0 x1 x2 x3 x4 x5 y0 y1 y2 y3 y4 y5 f1 f2 S2 S1
            have T3 := S3.drew
            obtain ⟨g1, x0, x1, x2, x3, x4, x5⟩ := T3.key g ⟨k, o, c, a, n, v⟩ (by simp)
            obtain ⟨g2, y0, y1, y2, y3, y4, y5⟩ := T3.key h ⟨k, o, c, a, m, v⟩ (by simp)
            clear S3
            go_region_held3 (fun w' => HeldM w w' [(g, ⟨k, o, c, a, n, v⟩), (h, ⟨k, o, c, a, m, v⟩), (w.heap.size, ⟨k, o, c, a, r, v⟩)] ∧ w'.cell? ⟨g, 0, none⟩ = some (.int .i64 k) ∧ w'.cell? ⟨g, 1, none⟩ = some (.int .i64 o) ∧ w'.cell? ⟨g, 2, none⟩ = some (.int .i64 c) ∧ w'.cell? ⟨g, 3, none⟩ = some (.int .i64 a) ∧ w'.cell? ⟨g, 4, none⟩ = some (.int .i64 n) ∧ w'.cell? ⟨g, 5, none⟩ = some (.int .i64 v) ∧ w'.cell? ⟨h, 0, none⟩ = some (.int .i64 k) ∧ w'.cell? ⟨h, 1, none⟩ = some (.int .i64 o) ∧ w'.cell? ⟨h, 2, none⟩ = some (.int .i64 c) ∧ w'.cell? ⟨h, 3, none⟩ = some (.int .i64 a) ∧ w'.cell? ⟨h, 4, none⟩ = some (.int .i64 m) ∧ w'.cell? ⟨h, 5, none⟩ = some (.int .i64 v))
              ((first | (refine ⟨?_, ?_, ?_, ?_, ?_, ?_, ?_, ?_, ?_, ?_, ?_, ?_, ?_⟩ <;> assumption)))
              (first
                | (go_at_call 11; refine (within_any2 _ _ _ _ _ _ _ _ _ _ _ _ _).mono ?_; rintro e w' ⟨rfl, hb⟩; have hh := HeldM.step (w := w) (l := [(g, ⟨k, o, c, a, n, v⟩), (h, ⟨k, o, c, a, m, v⟩), (w.heap.size, ⟨k, o, c, a, r, v⟩)]) (by assumption) hb; obtain ⟨_, x0, x1, x2, x3, x4, x5⟩ := hh.key g ⟨k, o, c, a, n, v⟩ (by simp); obtain ⟨_, y0, y1, y2, y3, y4, y5⟩ := hh.key h ⟨k, o, c, a, m, v⟩ (by simp); clear hb)
                | (go_at_call 12; refine (rwithin_s _ _ _ _ _ _ _ _ _ _ _ _ _ (small_of hlt) (small_of hml)).mono ?_; rintro e w' ⟨rfl, hb⟩; have hh := HeldM.step (w := w) (l := [(g, ⟨k, o, c, a, n, v⟩), (h, ⟨k, o, c, a, m, v⟩), (w.heap.size, ⟨k, o, c, a, r, v⟩)]) (by assumption) hb; obtain ⟨_, x0, x1, x2, x3, x4, x5⟩ := hh.key g ⟨k, o, c, a, n, v⟩ (by simp); obtain ⟨_, y0, y1, y2, y3, y4, y5⟩ := hh.key h ⟨k, o, c, a, m, v⟩ (by simp); clear hb)
                | (go_at_call 17; refine (check_any _ _ _ _ _ _ _).mono ?_; rintro e w' ⟨rfl, hb⟩; have hh := HeldM.step (w := w) (l := [(g, ⟨k, o, c, a, n, v⟩), (h, ⟨k, o, c, a, m, v⟩), (w.heap.size, ⟨k, o, c, a, r, v⟩)]) (by assumption) hb; obtain ⟨_, x0, x1, x2, x3, x4, x5⟩ := hh.key g ⟨k, o, c, a, n, v⟩ (by simp); obtain ⟨_, y0, y1, y2, y3, y4, y5⟩ := hh.key h ⟨k, o, c, a, m, v⟩ (by simp); clear hb)
                | (go_at_call 13; refine (rcheck_s _ _ _ _ _ _ _ (small_of hlt)).mono ?_; rintro e w' ⟨rfl, hb⟩; have hh := HeldM.step (w := w) (l := [(g, ⟨k, o, c, a, n, v⟩), (h, ⟨k, o, c, a, m, v⟩), (w.heap.size, ⟨k, o, c, a, r, v⟩)]) (by assumption) hb; obtain ⟨_, x0, x1, x2, x3, x4, x5⟩ := hh.key g ⟨k, o, c, a, n, v⟩ (by simp); obtain ⟨_, y0, y1, y2, y3, y4, y5⟩ := hh.key h ⟨k, o, c, a, m, v⟩ (by simp); clear hb)
              )
            go_upto_region 11 with fail
            have he : errB true = 0 := rfl
            have he2 : errB false = 2 := rfl
            cases hO : ofK ⟨k, o, c, a, n, v⟩
            · have ho := Lib.hid hO
              clear hO
              obtain ⟨_, p0, p1, p2, p3, p4, p5⟩ := hh.key g ⟨k, o, c, a, n, v⟩ (by simp)
              go_wp2_with fail
              refine (lessK_no ⟨k, o, c, a, n, v⟩ m _ (.inl ho.out)).mono ?_; rintro e W5 ⟨rfl, hb⟩
              have S5 := hh.step hb
              clear hb p0 p1 p2 p3 p4 p5 hh
              obtain ⟨r0, p0, p1, p2, p3, p4, p5⟩ := S5.key g ⟨k, o, c, a, n, v⟩ (by simp)
              go_wp2_with fail
              refine (rcheckK ⟨k, o, c, a, n, v⟩ false _ ho.out (small_of hlt)).mono ?_; rintro e W6 ⟨rfl, hb⟩
              have S6 := (S5.add zeroK).step hb
              clear hb p0 p1 p2 p3 p4 p5 S5
              obtain ⟨_, p0, p1, p2, p3, p4, p5⟩ := S6.key W5.heap.size zeroK (by simp)
              go_wp2_with fail
              exact ⟨⟨m + 1, by omega, by go_num, S6.sub (by intro x hx; simp only [List.mem_cons, List.mem_nil_iff, or_false] at hx ⊢; simp [hx])⟩, by simp [intOf]; omega⟩
            · have ho := Lib.hid hO
              clear hO
              by_cases h7 : m ≤ 7
              · obtain ⟨lk, hl0⟩ : ∃ lk, lessK ⟨k, o, c, a, n, v⟩ m = lk := ⟨_, rfl⟩
                have HL := Lib.hid (fun W => by rw [← hl0]; exact lessK_c ⟨k, o, c, a, n, v⟩ m W ho.out (by omega) (by omega) : ∀ W, Calls Try.prog 21 #[aggK ⟨k, o, c, a, n, v⟩, .int .i64 m] W fun e w' => e = .returned (.tuple #[aggK lk, .int .i64 0]) ∧ Below W.heap.size W w')
                have HRL := Lib.hid (fun W => by rw [← hl0]; exact rlessK ⟨k, o, c, a, n, v⟩ m W ho.out (small_of hlt) (by omega) (by omega) : ∀ W, Calls Try.prog 23 #[aggK ⟨k, o, c, a, n, v⟩, .int .i64 m] W fun e w' => e = .returned (aggK lk) ∧ Below W.heap.size W w')
                clear hl0
                obtain ⟨_, p0, p1, p2, p3, p4, p5⟩ := hh.key g ⟨k, o, c, a, n, v⟩ (by simp)
                go_wp2_with fail
                refine (HL.out _).mono ?_; rintro e W5 ⟨rfl, hb⟩
                have S5 := hh.step hb
                clear hb p0 p1 p2 p3 p4 p5 hh
                obtain ⟨r0, p0, p1, p2, p3, p4, p5⟩ := S5.key g ⟨k, o, c, a, n, v⟩ (by simp)
                go_wp2_with fail
                refine (rcheckK ⟨k, o, c, a, n, v⟩ true _ ho.out (small_of hlt)).mono ?_; rintro e W6 ⟨rfl, hb⟩
                have S6 := (S5.add lk).step hb
                clear hb p0 p1 p2 p3 p4 p5 S5
                go_upto_region 15 with fail
                have T6 := S6.drew
                obtain ⟨g3, x0, x1, x2, x3, x4, x5⟩ := T6.key W5.heap.size lk (by simp)
                obtain ⟨g4, y0, y1, y2, y3, y4, y5⟩ := T6.key g ⟨k, o, c, a, n, v⟩ (by simp)
                clear S6
                go_region_held3 (fun w' => HeldM w w' [(W5.heap.size, lk), (g, ⟨k, o, c, a, n, v⟩), (h, ⟨k, o, c, a, m, v⟩), (w.heap.size, ⟨k, o, c, a, r, v⟩)] ∧ w'.cell? ⟨W5.heap.size, 0, none⟩ = some (.int .i64 lk.k) ∧ w'.cell? ⟨W5.heap.size, 1, none⟩ = some (.int .i64 lk.o) ∧ w'.cell? ⟨W5.heap.size, 2, none⟩ = some (.int .i64 lk.c) ∧ w'.cell? ⟨W5.heap.size, 3, none⟩ = some (.int .i64 lk.a) ∧ w'.cell? ⟨W5.heap.size, 4, none⟩ = some (.int .i64 lk.r) ∧ w'.cell? ⟨W5.heap.size, 5, none⟩ = some (.int .i64 lk.v) ∧ w'.cell? ⟨g, 0, none⟩ = some (.int .i64 k) ∧ w'.cell? ⟨g, 1, none⟩ = some (.int .i64 o) ∧ w'.cell? ⟨g, 2, none⟩ = some (.int .i64 c) ∧ w'.cell? ⟨g, 3, none⟩ = some (.int .i64 a) ∧ w'.cell? ⟨g, 4, none⟩ = some (.int .i64 n) ∧ w'.cell? ⟨g, 5, none⟩ = some (.int .i64 v))
                  ((first | (refine ⟨?_, ?_, ?_, ?_, ?_, ?_, ?_, ?_, ?_, ?_, ?_, ?_, ?_⟩ <;> assumption)))
                  (first
                    | (go_at_call 23; refine (HRL.out _).mono ?_; rintro e w' ⟨rfl, hb⟩; have hh := T6.step hb; obtain ⟨_, x0, x1, x2, x3, x4, x5⟩ := hh.key W5.heap.size lk (by simp); obtain ⟨_, y0, y1, y2, y3, y4, y5⟩ := hh.key g ⟨k, o, c, a, n, v⟩ (by simp); clear hb))
                go_wp2_with fail
                exact ⟨⟨m + 1, by omega, by go_num, hh.sub (by intro x hx; simp only [List.mem_cons, List.mem_nil_iff, or_false] at hx ⊢; simp [hx])⟩, by simp [intOf]; omega⟩
              · obtain ⟨_, p0, p1, p2, p3, p4, p5⟩ := hh.key g ⟨k, o, c, a, n, v⟩ (by simp)
                go_wp2_with fail
                refine (lessK_no ⟨k, o, c, a, n, v⟩ m _ (.inr (.inr (by omega)))).mono ?_; rintro e W5 ⟨rfl, hb⟩
                have S5 := hh.step hb
                clear hb p0 p1 p2 p3 p4 p5 hh
                obtain ⟨r0, p0, p1, p2, p3, p4, p5⟩ := S5.key g ⟨k, o, c, a, n, v⟩ (by simp)
                go_wp2_with fail
                refine (rcheckK ⟨k, o, c, a, n, v⟩ true _ ho.out (small_of hlt)).mono ?_; rintro e W6 ⟨rfl, hb⟩
                have S6 := (S5.add zeroK).step hb
                clear hb p0 p1 p2 p3 p4 p5 S5
                obtain ⟨_, p0, p1, p2, p3, p4, p5⟩ := S6.key W5.heap.size zeroK (by simp)
                go_wp2_with fail
                exact ⟨⟨m + 1, by omega, by go_num, S6.sub (by intro x hx; simp only [List.mem_cons, List.mem_nil_iff, or_false] at hx ⊢; simp [hx])⟩, by simp [intOf]; omega⟩
        · obtain rfl : m = 9 := by omega
          go_wp2_with fail
          exact ⟨⟨n + 1, by omega, by go_num, S1⟩, by simp [intOf]; omega⟩
    · obtain rfl : n = 9 := by omega
      go_wp2_with (go_at_call 14; refine (known_any _).mono ?_; rintro e w' ⟨rfl, hb⟩)
      go_ret
      exact ⟨rfl, (S0.step hb).1⟩

end Go.Proofs.Ytlfkfhdcljkhkaa
