/-
  Opening the arguments of the keys laws: a key, Rights, a slice of keys, More, an object.
-/
import Derived.Test.YtlfkfhdcljkhkaaRow
import Derived.Deep.Slices
namespace Go.Proofs.Ytlfkfhdcljkhkaa
open Go.ChangeShapes Go.WideShapes Go.ChangeAt Go.RowKit Go.Deep

/-- below 2^63, behind a name -/
def Small (r : Int) : Prop := r < 9223372036854775808

theorem key_fields (j : Nat) (f : Field) (hf : (#[{ name := "Kind", type := 22, offset := 0, embedded := false, tag := "", pkgPath := "", byteOffset := 0 },
    { name := "Oid", type := 3, offset := 1, embedded := false, tag := "", pkgPath := "", byteOffset := 8 },
    { name := "Count", type := 2, offset := 2, embedded := false, tag := "", pkgPath := "", byteOffset := 16 },
    { name := "Call", type := 2, offset := 3, embedded := false, tag := "", pkgPath := "", byteOffset := 24 },
    { name := "Rights", type := 23, offset := 4, embedded := false, tag := "", pkgPath := "", byteOffset := 32 },
    { name := "Value", type := 2, offset := 5, embedded := false, tag := "", pkgPath := "", byteOffset := 40 }] : Array Field)[j]? = some f) : Try.prog.underlying f.type = some (.int .i64) := by
  match j, hf with
  | 0, hf => injection hf with hf; subst hf; exact Try.underlying22
  | 1, hf => injection hf with hf; subst hf; exact Try.underlying3
  | 2, hf => injection hf with hf; subst hf; exact Try.underlying2
  | 3, hf => injection hf with hf; subst hf; exact Try.underlying2
  | 4, hf => injection hf with hf; subst hf; exact Try.underlying23
  | 5, hf => injection hf with hf; subst hf; exact Try.underlying2
  | j + 6, hf => simp at hf

theorem open_key {H : Type} {enc : TypeId × Value → H} {w : World} {base : Nat} {spare : Nat → Bool} {held : Bool} {r : Reach} {b0 : Nat} {v : Value} {d : DataW H} {p : List MemPlace}
    (hv : Value.okWide Try.prog w r b0 25 v) (h : DataW.Trod enc Try.prog w base spare held 25 v d p) :
    ∃ k o c a r v' : Int, v = .agg #[.int .i64 k, .int .i64 o, .int .i64 c, .int .i64 a, .int .i64 r, .int .i64 v'] ∧ Small r := by
  obtain ⟨l, hl, rfl, hw⟩ := open_nums (kd := .i64) Try.underlying25 (by kernel_rfl) (by kernel_rfl) key_fields hv h
  obtain ⟨k, o, c, a, r, x, rfl⟩ := six_of hl
  exact ⟨k, o, c, a, r, x, rfl, (i64_lt (hw r (by simp))).2⟩
theorem open_rights {H : Type} {enc : TypeId × Value → H} {w : World} {base : Nat} {spare : Nat → Bool} {held : Bool} {r : Reach} {b0 : Nat} {v : Value} {d : DataW H} {p : List MemPlace}
    (hv : Value.okWide Try.prog w r b0 23 v) (h : DataW.Trod enc Try.prog w base spare held 23 v d p) : ∃ x : Int, v = .int .i64 x ∧ Small x := by
  obtain ⟨x, rfl, _, _, wx⟩ := open_int Try.underlying23 hv h
  exact ⟨x, rfl, (i64_lt wx).2⟩

/-- a key as six numbers -/
structure Key6 where
  k : Int
  o : Int
  c : Int
  a : Int
  r : Int
  v : Int

/-- the cells of a slice of keys: asked for element by element -/
def KeysAt (W : World) (A : Option Addr) (n : Nat) (ks : Nat → Key6) : Prop :=
  ∀ i, i < n → ∃ b off, A = some ⟨b, off, none⟩ ∧ b < W.heap.size ∧
    (W.cell? ⟨b, off + i * 6, none⟩ = some (.int .i64 (ks i).k) ∧ W.cell? ⟨b, off + i * 6 + 1, none⟩ = some (.int .i64 (ks i).o) ∧ W.cell? ⟨b, off + i * 6 + 2, none⟩ = some (.int .i64 (ks i).c) ∧
     W.cell? ⟨b, off + i * 6 + 3, none⟩ = some (.int .i64 (ks i).a) ∧ W.cell? ⟨b, off + i * 6 + 4, none⟩ = some (.int .i64 (ks i).r) ∧ W.cell? ⟨b, off + i * 6 + 5, none⟩ = some (.int .i64 (ks i).v)) ∧ Small (ks i).r

/-- what a key's six cells hold -/
theorem six_cells {H : Type} {enc : TypeId × Value → H} {w : World} {base : Nat} {spare : Nat → Bool} {held : Bool} {n : Nat} {cs : List Value} {x : DataW H × List MemPlace}
    (h : DataW.trod enc Try.prog w base spare held n 25 cs = some x) : ∃ z : Key6, cs = [.int .i64 z.k, .int .i64 z.o, .int .i64 z.c, .int .i64 z.a, .int .i64 z.r, .int .i64 z.v] ∧ Small z.r := by
  obtain ⟨l, hl, rfl, hw⟩ := nums_cells (kd := .i64) Try.underlying25 (by kernel_rfl) (by kernel_rfl) key_fields h
  obtain ⟨k, o, c, a, r, v, rfl⟩ := six_of hl
  exact ⟨⟨k, o, c, a, r, v⟩, rfl, (i64_lt (hw r (by simp))).2⟩

theorem open_keys {H : Type} {enc : TypeId × Value → H} {w : World} {r : Reach} {b0 : Nat} {v : Value} {d : DataW H} {p : List MemPlace}
    (hv : Value.okWide Try.prog w r b0 36 v) (h : DataW.Trod enc Try.prog w 0 (fun _ => true) true 36 v d p) :
    ∃ (A : Option Addr) (len cap : Nat) (ks : Nat → Key6), v = .slice A len cap ∧ len ≤ maxLen ∧ KeysAt w A len ks := by
  obtain ⟨a0, len, cap, rfl⟩ := okWide_slice Try.underlying36 hv
  obtain ⟨fuel, hf⟩ := h
  rcases open_slice Try.underlying36 hf with ⟨hcs, hx⟩ | ⟨a, len', cap', m, n, D, Pl, hcs, hb, hl, hm, hmm, hx, hi⟩
  · simp [Value.cells] at hcs
    obtain ⟨rfl, rfl, rfl⟩ := hcs
    exact ⟨none, 0, 0, fun _ => ⟨0, 0, 0, 0, 0, 0⟩, rfl, Nat.zero_le _, fun i hi => absurd hi (Nat.not_lt_zero _)⟩
  · simp [Value.cells] at hcs
    obtain ⟨rfl, rfl, rfl⟩ := hcs
    simp at hmm
    have hC : Try.prog.cellsOf 25 = 6 := by kernel_rfl
    have el : ∀ i, i < len → ∃ z : Key6, (∃ b off, some a = some ⟨b, off, none⟩ ∧ b < w.heap.size ∧
        (w.cell? ⟨b, off + i * 6, none⟩ = some (.int .i64 z.k) ∧ w.cell? ⟨b, off + i * 6 + 1, none⟩ = some (.int .i64 z.o) ∧ w.cell? ⟨b, off + i * 6 + 2, none⟩ = some (.int .i64 z.c) ∧
         w.cell? ⟨b, off + i * 6 + 3, none⟩ = some (.int .i64 z.a) ∧ w.cell? ⟨b, off + i * 6 + 4, none⟩ = some (.int .i64 z.r) ∧ w.cell? ⟨b, off + i * 6 + 5, none⟩ = some (.int .i64 z.v))) ∧ Small z.r := by
      intro i hil
      obtain ⟨cs', hc, ht⟩ := hi i (by omega)
      rw [hC] at hc
      obtain ⟨_, _, hat⟩ := World.cells?_some hc
      obtain ⟨z, rfl, hz⟩ := six_cells ht
      refine ⟨z, ?_, hz⟩
      obtain ⟨b, off, spot⟩ := a
      have c0 := hat 0 (by omega)
      have hspot : spot = none := by
        have h00 := hi 0 (by omega)
        obtain ⟨cs0, hc0, ht0⟩ := h00
        obtain ⟨_, _, hat0⟩ := World.cells?_some hc0
        obtain ⟨z0, rfl, _⟩ := six_cells ht0
        have := hat0 0 (by rw [hC]; omega)
        simpa [Addr.add] using World.cell?_spot this
      subst hspot
      have hadd : ∀ j, j < 6 → ((⟨b, off, none⟩ : Addr).add (i * 6)).add j = ⟨b, off + i * 6 + j, none⟩ := fun j _ => by
        rw [Go.WideShapes.add_plain, Go.WideShapes.add_plain]
      have g : ∀ j, j < 6 → w.cell? ⟨b, off + i * 6 + j, none⟩ = [Value.int .i64 z.k, .int .i64 z.o, .int .i64 z.c, .int .i64 z.a, .int .i64 z.r, .int .i64 z.v][j]? := fun j hj => by
        rw [← hadd j hj]; exact hat j hj
      exact ⟨b, off, rfl, block_lt_of_cell (g 0 (by omega)), g 0 (by omega), g 1 (by omega), g 2 (by omega), g 3 (by omega), g 4 (by omega), g 5 (by omega)⟩
    refine ⟨some a, len, cap, fun i => if hi : i < len then (el i hi).choose else ⟨0, 0, 0, 0, 0, 0⟩, rfl, by omega, fun i hil => ?_⟩
    simp only [dif_pos hil]
    obtain ⟨⟨b, off, e1, e2, e3⟩, e4⟩ := (el i hil).choose_spec
    exact ⟨b, off, e1, e2, e3, e4⟩

theorem open_more {H : Type} {enc : TypeId × Value → H} {w : World} {base : Nat} {spare : Nat → Bool} {held : Bool} {r : Reach} {b0 : Nat} {v : Value} {d : DataW H} {p : List MemPlace}
    (hv : Value.okWide Try.prog w r b0 45 v) (h : DataW.Trod enc Try.prog w base spare held 45 v d p) :
    ∃ k o c a r v' n : Int, v = .agg #[.int .i64 k, .int .i64 o, .int .i64 c, .int .i64 a, .int .i64 r, .int .i64 v', .int .i64 n] ∧ Small r ∧ Small n := by
  obtain ⟨cs, rfl, hsz⟩ := okWide_struct Try.underlying45 hv
  obtain ⟨fuel, hf⟩ := h
  obtain ⟨xs, n, _, _, hlen, hxl, hg⟩ := DataW.trod_struct Try.underlying45 hf
  have h7 : cs.size = 7 := hsz.trans (by kernel_rfl)
  have c6 : Try.prog.cellsOf 25 = 6 := by kernel_rfl
  have c1 : Try.prog.cellsOf 23 = 1 := by kernel_rfl
  have g0 : DataW.trod enc Try.prog w base spare held n 25 ((cs.toList.drop 0).take (Try.prog.cellsOf 25)) = xs[0]? := hg 0 _ rfl
  have g1 : DataW.trod enc Try.prog w base spare held n 23 ((cs.toList.drop 6).take (Try.prog.cellsOf 23)) = xs[1]? := hg 1 _ rfl
  obtain ⟨x0, e0⟩ : ∃ x, xs[0]? = some x := ⟨_, List.getElem?_eq_getElem (by rw [hxl]; decide)⟩
  obtain ⟨x1, e1⟩ : ∃ x, xs[1]? = some x := ⟨_, List.getElem?_eq_getElem (by rw [hxl]; decide)⟩
  rw [e0] at g0
  rw [e1] at g1
  rw [c6, List.drop_zero] at g0
  rw [c1] at g1
  obtain ⟨z, hz, sz⟩ := six_cells g0
  obtain ⟨m, hm, _, wm⟩ := DataW.trod_int Try.underlying23 g1
  refine ⟨z.k, z.o, z.c, z.a, z.r, z.v, m, ?_, sz, (i64_lt wm).2⟩
  have e : cs.toList = cs.toList.take 6 ++ cs.toList.drop 6 := (List.take_append_drop 6 _).symm
  have e6 : (cs.toList.drop 6).take 1 = cs.toList.drop 6 := List.take_of_length_le (by simp [h7])
  rw [e6] at hm
  rw [hz, hm] at e
  congr 1
  apply Array.toList_inj.1
  rw [e]
  rfl

end Go.Proofs.Ytlfkfhdcljkhkaa
