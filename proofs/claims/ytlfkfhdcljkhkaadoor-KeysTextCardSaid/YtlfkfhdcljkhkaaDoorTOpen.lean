/-
  Opening a slice of keys of which each number is an int64's.
-/
import Derived.Test.YtlfkfhdcljkhkaaDoorOpen
import Derived.Test.YtlfkfhdcljkhkaaDoorTFmt
namespace Go.Proofs.YtlfkfhdcljkhkaaDoor
open Go.ChangeShapes Go.WideShapes Go.ChangeAt Go.RowKit Go.Deep

/-- the cells of a slice of keys, each value an int64 -/
def KeysAtT (W : World) (A : Option Addr) (n : Nat) (ks : Nat → Key6) : Prop :=
  ∀ i, i < n → (∃ b off, A = some ⟨b, off, none⟩ ∧ b < W.heap.size ∧
    (W.cell? ⟨b, off + i * 6, none⟩ = some (.int .i64 (ks i).k) ∧ W.cell? ⟨b, off + i * 6 + 1, none⟩ = some (.int .i64 (ks i).o) ∧ W.cell? ⟨b, off + i * 6 + 2, none⟩ = some (.int .i64 (ks i).c) ∧
     W.cell? ⟨b, off + i * 6 + 3, none⟩ = some (.int .i64 (ks i).a) ∧ W.cell? ⟨b, off + i * 6 + 4, none⟩ = some (.int .i64 (ks i).r) ∧ W.cell? ⟨b, off + i * 6 + 5, none⟩ = some (.int .i64 (ks i).v)) ∧ Small (ks i).r) ∧ I64 (ks i).v

theorem i64_all {x : Int} (h : (Lit.int .i64 x).wf = true) : I64 x := by
  obtain ⟨h1, h2⟩ := i64_lt h
  exact ⟨h1, by omega⟩
theorem six_cellsT {H : Type} {enc : TypeId × Value → H} {w : World} {base : Nat} {spare : Nat → Bool} {held : Bool} {n : Nat} {cs : List Value} {x : DataW H × List MemPlace}
    (h : DataW.trod enc Tryd.prog w base spare held n 30 cs = some x) : ∃ z : Key6, cs = [.int .i64 z.k, .int .i64 z.o, .int .i64 z.c, .int .i64 z.a, .int .i64 z.r, .int .i64 z.v] ∧ Small z.r ∧ I64 z.v := by
  obtain ⟨l, hl, rfl, hw⟩ := nums_cells (kd := .i64) Tryd.underlying30 (by kernel_rfl) (by kernel_rfl) key_fields h
  obtain ⟨k, o, c, a, r, v, rfl⟩ := six_of hl
  exact ⟨⟨k, o, c, a, r, v⟩, rfl, (i64_lt (hw r (by simp))).2, i64_all (hw v (by simp))⟩

theorem open_keysT {H : Type} {enc : TypeId × Value → H} {w : World} {r : Reach} {b0 : Nat} {v : Value} {d : DataW H} {p : List MemPlace}
    (hv : Value.okWide Tryd.prog w r b0 22 v) (h : DataW.Trod enc Tryd.prog w 0 (fun _ => true) true 22 v d p) :
    ∃ (A : Option Addr) (len cap : Nat) (ks : Nat → Key6), v = .slice A len cap ∧ len ≤ maxLen ∧ KeysAtT w A len ks := by
  obtain ⟨a0, len, cap, rfl⟩ := okWide_slice Tryd.underlying22 hv
  obtain ⟨fuel, hf⟩ := h
  rcases open_slice Tryd.underlying22 hf with ⟨hcs, hx⟩ | ⟨a, len', cap', m, n, D, Pl, hcs, hb, hl, hm, hmm, hx, hi⟩
  · simp [Value.cells] at hcs
    obtain ⟨rfl, rfl, rfl⟩ := hcs
    exact ⟨none, 0, 0, fun _ => ⟨0, 0, 0, 0, 0, 0⟩, rfl, Nat.zero_le _, fun i hi => absurd hi (Nat.not_lt_zero _)⟩
  · simp [Value.cells] at hcs
    obtain ⟨rfl, rfl, rfl⟩ := hcs
    simp at hmm
    have hC : Tryd.prog.cellsOf 30 = 6 := by kernel_rfl
    have el : ∀ i, i < len → ∃ z : Key6, (∃ b off, some a = some ⟨b, off, none⟩ ∧ b < w.heap.size ∧
        (w.cell? ⟨b, off + i * 6, none⟩ = some (.int .i64 z.k) ∧ w.cell? ⟨b, off + i * 6 + 1, none⟩ = some (.int .i64 z.o) ∧ w.cell? ⟨b, off + i * 6 + 2, none⟩ = some (.int .i64 z.c) ∧
         w.cell? ⟨b, off + i * 6 + 3, none⟩ = some (.int .i64 z.a) ∧ w.cell? ⟨b, off + i * 6 + 4, none⟩ = some (.int .i64 z.r) ∧ w.cell? ⟨b, off + i * 6 + 5, none⟩ = some (.int .i64 z.v))) ∧ Small z.r ∧ I64 z.v := by
      intro i hil
      obtain ⟨cs', hc, ht⟩ := hi i (by omega)
      rw [hC] at hc
      obtain ⟨_, _, hat⟩ := World.cells?_some hc
      obtain ⟨z, rfl, hz⟩ := six_cellsT ht
      refine ⟨z, ?_, hz⟩
      obtain ⟨b, off, spot⟩ := a
      have c0 := hat 0 (by omega)
      have hspot : spot = none := by
        have h00 := hi 0 (by omega)
        obtain ⟨cs0, hc0, ht0⟩ := h00
        obtain ⟨_, _, hat0⟩ := World.cells?_some hc0
        obtain ⟨z0, rfl, _⟩ := six_cellsT ht0
        have := hat0 0 (by rw [hC]; omega)
        simpa [Addr.add] using World.cell?_spot this
      subst hspot
      have hadd : ∀ j, j < 6 → ((⟨b, off, none⟩ : Addr).add (i * 6)).add j = ⟨b, off + i * 6 + j, none⟩ := fun j _ => by
        rw [Go.WideShapes.add_plain, Go.WideShapes.add_plain]
      have g : ∀ j, j < 6 → w.cell? ⟨b, off + i * 6 + j, none⟩ = [Value.int .i64 z.k, .int .i64 z.o, .int .i64 z.c, .int .i64 z.a, .int .i64 z.r, .int .i64 z.v][j]? := fun j hj => by
        rw [← hadd j hj]; exact hat j hj
      exact ⟨b, off, rfl, block_lt_of_cell (g 0 (by omega)), g 0 (by omega), g 1 (by omega), g 2 (by omega), g 3 (by omega), g 4 (by omega), g 5 (by omega)⟩
    refine ⟨some a, len, cap, fun i => if hi : i < len then (el i hi).choose else ⟨0, 0, 0, 0, 0, 0⟩, rfl, by omega, fun i hil => ?_⟩
    simp only [dif_pos hil]
    obtain ⟨⟨b, off, e1, e2, e3⟩, e4⟩ := (el i hil).choose_spec
    exact ⟨⟨b, off, e1, e2, e3, e4.1⟩, e4.2⟩

end Go.Proofs.YtlfkfhdcljkhkaaDoor
