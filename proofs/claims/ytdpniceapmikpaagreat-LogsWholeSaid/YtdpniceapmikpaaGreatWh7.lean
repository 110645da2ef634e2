/-
  The contract of the reference's Sector (volume), at the places of an area that there are; and what the program's Sector says of these.
  The contract of the reference's Sector (volume), at the places of an area that there are; and what the program's Sector says of these.
  Frames as data: lists of numbers, of objects, and bytes that are read.
  A disk as data, and where it lies; none, Size, right.
  disk.New; step.
  step, of a sector that there is: the world behind it; where it fails.
-/
import Derived.Deep.RegionHeld3
import Derived.Test.YtdpniceapmikpaaGreatWh2
import Derived.Test.YtdpniceapmikpaaGreatWh3
import Derived.Test.YtdpniceapmikpaaGreatWh6
set_option linter.unusedVariables false
set_option linter.unusedSimpArgs false
namespace Go.Proofs.YtdpniceapmikpaaGreat
open Go.RowKit

/-- the place of a sector -/
def spotAt (N i : Nat) : Spot3 :=
 if i < 2 then ⟨1, 0, i⟩ else if i < 3 then ⟨2, 0, 0⟩ else if i < 11 then ⟨3, 0, ((i - 3 : Nat) : Int)⟩ else if i < 11 + N then ⟨4, 0, ((i - 11 : Nat) : Int)⟩
 else if i < 12 + N then ⟨2, 1, 0⟩ else if i < 20 + N then ⟨3, 1, ((i - 12 - N : Nat) : Int)⟩ else if i < 20 + 2 * N then ⟨4, 1, ((i - 20 - N : Nat) : Int)⟩ else ⟨5, 0, ((i - 20 - 2 * N : Nat) : Int)⟩
theorem spotRow_at (k a : Int) (n i : Nat) (h : i < n) : (spotRow k a n)[i]? = some ⟨k, a, i⟩ := by simp [spotRow, h]
theorem allL_eq (N : Nat) : allL N = [⟨1, 0, 0⟩, ⟨1, 0, 1⟩] ++ ([⟨2, 0, 0⟩] ++ (spotRow 3 0 8 ++ (spotRow 4 0 N ++ ([⟨2, 1, 0⟩] ++ (spotRow 3 1 8 ++ (spotRow 4 1 N ++ spotRow 5 0 N)))))) := by
 simp [allL, allUp]
theorem app_lt {α : Type} (l r : List α) (n i : Nat) (hn : l.length = n) (h : i < n) : (l ++ r)[i]? = l[i]? := List.getElem?_append_left (by omega)
theorem app_ge {α : Type} (l r : List α) (n i : Nat) (hn : l.length = n) (h : n ≤ i) : (l ++ r)[i]? = r[i - n]? := by rw [List.getElem?_append_right (by omega), hn]
theorem spot_eq (k a : Int) {i j : Nat} (h : i = j) : some (⟨k, a, (i : Int)⟩ : Spot3) = some ⟨k, a, (j : Int)⟩ := by rw [h]
theorem allL_at (N i : Nat) (h : i < 20 + 3 * N) : (allL N)[i]? = some (spotAt N i) := by
 rw [allL_eq]
 unfold spotAt
 by_cases h1 : i < 2
 ·rw [app_lt _ _ 2 i rfl h1, if_pos h1]
  have : i = 0 ∨ i = 1 := by omega
  rcases this with rfl | rfl <;> rfl
 rw [app_ge _ _ 2 i rfl (by omega), if_neg h1]
 by_cases h2 : i < 3
 ·rw [app_lt _ _ 1 _ rfl (by omega), if_pos h2]
  have : i = 2 := by omega
  subst this; rfl
 rw [app_ge _ _ 1 _ rfl (by omega), if_neg h2]
 by_cases h3 : i < 11
 ·rw [app_lt _ _ 8 _ (spotRow_len _ _ _) (by omega), if_pos h3, spotRow_at _ _ _ _ (by omega)]
  exact spot_eq _ _ (by omega)
 rw [app_ge _ _ 8 _ (spotRow_len _ _ _) (by omega), if_neg h3]
 by_cases h4 : i < 11 + N
 ·rw [app_lt _ _ N _ (spotRow_len _ _ _) (by omega), if_pos h4, spotRow_at _ _ _ _ (by omega)]
  exact spot_eq _ _ (by omega)
 rw [app_ge _ _ N _ (spotRow_len _ _ _) (by omega), if_neg h4]
 by_cases h5 : i < 12 + N
 ·rw [app_lt _ _ 1 _ rfl (by omega), if_pos h5]
  have : i - 2 - 1 - 8 - N = 0 := by omega
  rw [this]; rfl
 rw [app_ge _ _ 1 _ rfl (by omega), if_neg h5]
 by_cases h6 : i < 20 + N
 ·rw [app_lt _ _ 8 _ (spotRow_len _ _ _) (by omega), if_pos h6, spotRow_at _ _ _ _ (by omega)]
  exact spot_eq _ _ (by omega)
 rw [app_ge _ _ 8 _ (spotRow_len _ _ _) (by omega), if_neg h6]
 by_cases h7 : i < 20 + 2 * N
 ·rw [app_lt _ _ N _ (spotRow_len _ _ _) (by omega), if_pos h7, spotRow_at _ _ _ _ (by omega)]
  exact spot_eq _ _ (by omega)
 rw [app_ge _ _ N _ (spotRow_len _ _ _) (by omega), if_neg h7, spotRow_at _ _ _ _ (by omega)]
 exact spot_eq _ _ (by omega)

/-- a place of an area that there is, and its sector -/
structure Place where
 k : Nat
 a : Nat
 t : Nat
def Place.ok (N : Nat) (p : Place) : Prop := p.a ≤ 1 ∧ ((p.k = 2 ∧ p.t = 0) ∨ (p.k = 3 ∧ p.t < 8) ∨ (p.k = 4 ∧ p.t < N))
def Place.sec (N : Nat) (p : Place) : Nat := (if p.k = 2 then 2 else if p.k = 3 then 3 + p.t else 11 + p.t) + p.a * (9 + N)
theorem Place.sec_lt {N : Nat} {p : Place} (h : p.ok N) : p.sec N < 20 + 3 * N := by
 obtain ⟨k, a, t⟩ := p
 obtain ⟨ha, h⟩ := h
 simp only at ha h
 have ha2 : a = 0 ∨ a = 1 := by omega
 unfold Place.sec
 simp only
 rcases ha2 with rfl | rfl <;> rcases h with ⟨rfl, h⟩ | ⟨rfl, h⟩ | ⟨rfl, h⟩ <;> simp <;> omega
theorem Place.at_sec {N : Nat} {p : Place} (h : p.ok N) : spotAt N (p.sec N) = ⟨p.k, p.a, p.t⟩ := by
 obtain ⟨k, a, t⟩ := p
 obtain ⟨ha, h⟩ := h
 simp only at ha h
 have ha2 : a = 0 ∨ a = 1 := by omega
 unfold Place.sec spotAt
 simp only
 rcases ha2 with rfl | rfl <;> rcases h with ⟨rfl, h⟩ | ⟨rfl, h⟩ | ⟨rfl, h⟩ <;> simp <;> (repeat' split) <;> first | omega | (simp; done) | (simp; omega)
theorem Place.of_at {N i : Nat} {p : Place} (h : p.ok N) (hi : i < 20 + 3 * N) (h1 : (spotAt N i).k = p.k) (h2 : (spotAt N i).a = p.a) (h3 : (spotAt N i).t = p.t) : i = p.sec N := by
 obtain ⟨k, a, t⟩ := p
 obtain ⟨ha, h⟩ := h
 simp only at ha h h1 h2 h3
 have ha2 : a = 0 ∨ a = 1 := by omega
 unfold Place.sec
 unfold spotAt at h1 h2 h3
 simp only
 rcases ha2 with rfl | rfl <;> rcases h with ⟨rfl, h⟩ | ⟨rfl, h⟩ | ⟨rfl, h⟩ <;> simp <;> (repeat' split at h1) <;> (simp_all) <;> omega

end Go.Proofs.YtdpniceapmikpaaGreat
namespace Go.Proofs.YtdpniceapmikpaaGreat
open Go.RowKit

theorem spotCells_at : ∀ (ps : List Spot3) (j : Nat) (p : Spot3), ps[j]? = some p → ∀ i, i < 3 → (spotCells ps)[j * 3 + i]? = p.cells[i]? := by
 intro ps
 induction ps with
 | nil => intro j p h; simp at h
 | cons q ps ih =>
  intro j p h i hi
  have e : spotCells (q :: ps) = q.cells ++ spotCells ps := rfl
  rw [e]
  cases j with
  | zero =>
   obtain rfl : q = p := by simpa using h
   rw [Nat.zero_mul, Nat.zero_add, List.getElem?_append_left (by simpa using hi)]
  | succ j =>
   have h' : ps[j]? = some p := by simpa using h
   rw [List.getElem?_append_right (by simp; omega)]
   have e2 : (j + 1) * 3 + i - q.cells.length = j * 3 + i := by simp; omega
   rw [e2]
   exact ih j p h' i hi
theorem spot_row {W : World} {B : Nat} {v : Value} {ps : List Spot3} (h : Spots B ps v W) (hp : 0 < ps.length) :
  ∃ g cap, v = .slice (some ⟨g, 0, none⟩) ps.length cap ∧ g < W.heap.size ∧ ∀ j p, ps[j]? = some p → W.cell? ⟨g, j * 3, none⟩ = some (.int .i64 p.k) ∧ W.cell? ⟨g, j * 3 + 1, none⟩ = some (.int .i64 p.a) ∧ W.cell? ⟨g, j * 3 + 2, none⟩ = some (.int .i64 p.t) := by
 unfold Spots at h
 obtain ⟨g, cap, rfl, hB, hlt⟩ := h.form hp
 refine ⟨g, cap, rfl, hlt, fun j p hj => ?_⟩
 have hc := h.cells (g := g) rfl
 have key : ∀ i, i < 3 → ∀ u, p.cells[i]? = some u → W.cell? ⟨g, j * 3 + i, none⟩ = some u := by
  intro i hi u hu
  have := hc (j * 3 + i) u ((spotCells_at ps j p hj i hi).trans hu)
  rw [add_at, Nat.zero_add] at this
  exact this
 exact ⟨key 0 (by omega) _ rfl, key 1 (by omega) _ rfl, key 2 (by omega) _ rfl⟩

theorem split3 {A B C : Prop} (h : ¬ (A ∧ B ∧ C)) : ¬ A ∨ (A ∧ ¬ B) ∨ (A ∧ B ∧ ¬ C) := by
 by_cases a : A <;> by_cases b : B <;> simp_all

set_option maxHeartbeats 4000000 in
theorem rsector_yes (N : Nat) (p : Place) (w : World) (hN : 1 ≤ N ∧ N ≤ 64) (h : p.ok N) : Calls Tryz.prog 36 #[.agg #[.int .i64 N], .agg #[.int .i64 p.k, .int .i64 p.a, .int .i64 p.t]] w fun e w' =>
  e = .returned (.tuple #[.int .i64 (p.sec N), .int .i64 0]) ∧ Below w.heap.size w w' := by
 have hr : rightB N = true := by simp [rightB]; omega
 have hsl := Place.sec_lt h
 have hof := Lib.hid (fun i hi => Place.of_at (i := i) h hi)
 have hat := Lib.hid (Place.at_sec h)
 obtain ⟨s, hs⟩ : ∃ s, s = p.sec N := ⟨_, rfl⟩
 rw [← hs] at hsl hat ⊢
 have HS := Lib.hid hs
 clear hs
 obtain ⟨k, a, t⟩ := p
 obtain ⟨ha, h⟩ := h
 simp only at ha h ⊢
 have hk : k = 2 ∧ t = 0 ∨ k = 3 ∨ k = 4 := by omega
 clear h
 have ha2 : a = 0 ∨ a = 1 := by omega
 clear ha
 rcases ha2 with rfl | rfl <;> rcases hk with ⟨rfl, rfl⟩ | rfl | rfl
 all_goals
  go_enter Tryz.func36, Tryz.ntmps36
  go_wp2_with fail
  refine (rright_any N _).mono ?_; rintro e w1 ⟨rfl, hb⟩
  have hP1 : Blk w1 w.heap.size 23 #[.int .i64 N] := ((Blk.new w _ _).alloc _).below hb (by simp; omega)
  have hS1 := (Blk.new2 w _ _ _).below hb (by simp)
  have hbb := (((Below.refl w.heap.size w).alloc (Nat.le_refl _) (.cells #[.int .i64 N] 23)).alloc (by simp) (.cells _ 88)).trans (hb.mono (by simp; omega))
  have c0 := hP1.cell_is 0 rfl
  have s0 := hS1.cell_is 0 rfl
  have s1 := hS1.cell_is 1 rfl
  have s2 := hS1.cell_is 2 rfl
  rw [hr]
  clear hb
  go_wp2_with fail
  refine (rall_any N w1 (by omega)).mono ?_; rintro e w2 ⟨v, rfl, hO, hb2⟩
  obtain ⟨g, cap, rfl, hg, hcs⟩ := spot_row hO (by rw [allL_len]; omega)
  have hB2 := hbb.trans (hb2.mono hbb.size)
  have hs2 := hB2.size
  have HC := Lib.hid hcs
  have hS2 := hS1.below hb2 hS1.lt
  have hS2lt := hS2.lt
  rw [allL_len]
  clear hO hcs hP1 hS1 c0 s0 s1 s2 hbb hb2
  go_wp2_with fail
  go_loopw [8] (fun i wr => ∃ j : Nat, j ≤ s ∧ i = .int .i64 j ∧ Below w2.heap.size w2 wr) (fun i _ => s - (intOf i).toNat)
  case atStart => exact ⟨0, by omega, rfl, Below.refl _ _⟩
  case round =>
   obtain ⟨j, hj, rfl, hB⟩ := hrel
   have hat2 := Lib.hid (allL_at N j (by omega))
   obtain ⟨y0, y1, y2⟩ := HC.out j _ hat2.out
   have x0 := (hB.cell (p := ⟨g, j * 3, none⟩) hg).trans y0
   have x1 := (hB.cell (p := ⟨g, j * 3 + 1, none⟩) hg).trans y1
   have x2 := (hB.cell (p := ⟨g, j * 3 + 2, none⟩) hg).trans y2
   have s0 := (hS2.below hB hS2lt).cell_is 0 rfl
   have s1 := (hS2.below hB hS2lt).cell_is 1 rfl
   have s2 := (hS2.below hB hS2lt).cell_is 2 rfl
   have hz := hB.size
   clear y0 y1 y2
   have hof2 := Lib.hid (hof.out j (by omega))
   by_cases hjs : j = s
   ·have hat3 := hat.out
    rw [← hjs] at hat3
    rw [hat3] at x0 x1 x2
    have HJ := Lib.hid hjs
    clear hat3 hjs
    go_wp2_with fail
    go_region
    all_goals go_wp2_with fail
    go_ret2
    exact ⟨by rw [← HJ.out]; rfl, hB2.trans (hB.drew.mono hs2)⟩

   ·have hne : ¬ ((spotAt N j).k = _ ∧ (spotAt N j).a = _ ∧ (spotAt N j).t = _) := fun hh => hjs ((hof2.out hh.1 hh.2.1 hh.2.2).trans HS.out.symm)
    generalize spotAt N j = q at *
    obtain ⟨qk, qa, qt⟩ := q
    simp only at x0 x1 x2 hne
    have hjs2 : j + 1 ≤ s := by omega
    clear hjs
    rcases split3 hne with hh | ⟨hh1, hh⟩ | ⟨hh1, hh2, hh⟩
    all_goals
     clear hne
     try simp at hh
     try simp at hh1
     try simp at hh2
     go_wp2_with fail
     go_region
     all_goals go_wp2_with fail
     exact ⟨⟨j + 1, by omega, by go_num, hB.drew⟩, by simp [intOf] <;> omega⟩
end Go.Proofs.YtdpniceapmikpaaGreat
namespace Go.Proofs.YtdpniceapmikpaaGreat
open Go.RowKit

def IntsIn (W : World) (B : Nat) (v : Value) (l : List Int) : Prop :=
 l.length ≤ maxLen ∧ ∃ a cap, v = .slice a l.length cap ∧ l.length ≤ cap ∧ ∀ j (c : Int), l[j]? = some c → ∃ g off, a = some ⟨g, off, none⟩ ∧ g < B ∧ W.cell? ⟨g, off + j, none⟩ = some (.int .i64 c)
theorem IntsIn.below {W W' : World} {B C : Nat} {v : Value} {l : List Int} (h : IntsIn W B v l) (hb : Below C W W') (hC : B ≤ C) : IntsIn W' B v l := by
 obtain ⟨h1, a, cap, h2, h3, h4⟩ := h
 refine ⟨h1, a, cap, h2, h3, fun j c hc => ?_⟩
 obtain ⟨g, off, e, hg, hr⟩ := h4 j c hc
 exact ⟨g, off, e, hg, (hb.cell (p := ⟨g, off + j, none⟩) (show g < C by omega)).trans hr⟩
theorem IntsIn.mono {W : World} {B C : Nat} {v : Value} {l : List Int} (h : IntsIn W B v l) (hC : B ≤ C) : IntsIn W C v l := by
 obtain ⟨h1, a, cap, h2, h3, h4⟩ := h
 refine ⟨h1, a, cap, h2, h3, fun j c hc => ?_⟩
 obtain ⟨g, off, e, hg, hr⟩ := h4 j c hc
 exact ⟨g, off, e, by omega, hr⟩
theorem IntsIn.nil (W : World) (B : Nat) : IntsIn W B (.slice none 0 0) [] := ⟨by simp, none, 0, rfl, by simp, fun j c hc => by simp at hc⟩
def ObjsIn (W : World) (B : Nat) (v : Value) (l : List ObjD) : Prop :=
 l.length ≤ maxLen ∧ ∃ a cap, v = .slice a l.length cap ∧ l.length ≤ cap ∧ ∀ j (o : ObjD), l[j]? = some o → o.ok ∧ rightsOk o ∧ ∃ g off, a = some ⟨g, off, none⟩ ∧ g < B ∧ W.rangeAt g (off + j * 163) o.cells
theorem range_below {W W' : World} {C g p : Nat} {cs : List Value} (h : W.rangeAt g p cs) (hb : Below C W W') (hg : g < C) : W'.rangeAt g p cs := fun j v hv => (hb.cell (p := ⟨g, p + j, none⟩) hg).trans (h j v hv)
theorem ObjsIn.below {W W' : World} {B C : Nat} {v : Value} {l : List ObjD} (h : ObjsIn W B v l) (hb : Below C W W') (hC : B ≤ C) : ObjsIn W' B v l := by
 obtain ⟨h1, a, cap, h2, h3, h4⟩ := h
 refine ⟨h1, a, cap, h2, h3, fun j c hc => ?_⟩
 obtain ⟨ho, hr, g, off, e, hg, hr'⟩ := h4 j c hc
 exact ⟨ho, hr, g, off, e, hg, range_below hr' hb (show g < C by omega)⟩
theorem ObjsIn.mono {W : World} {B C : Nat} {v : Value} {l : List ObjD} (h : ObjsIn W B v l) (hC : B ≤ C) : ObjsIn W C v l := by
 obtain ⟨h1, a, cap, h2, h3, h4⟩ := h
 refine ⟨h1, a, cap, h2, h3, fun j c hc => ?_⟩
 obtain ⟨ho, hr, g, off, e, hg, hr'⟩ := h4 j c hc
 exact ⟨ho, hr, g, off, e, by omega, hr'⟩
theorem ObjsIn.nil (W : World) (B : Nat) : ObjsIn W B (.slice none 0 0) [] := ⟨by simp, none, 0, rfl, by simp, fun j c hc => by simp at hc⟩

theorem IntsIn.at_ {W : World} {B : Nat} {a : Option Addr} {n c : Nat} {l : List Int} (h : IntsIn W B (.slice a n c) l) {j : Nat} {x : Int} (hx : l[j]? = some x) :
  ∃ g off, a = some ⟨g, off, none⟩ ∧ g < B ∧ W.cell? ⟨g, off + j, none⟩ = some (.int .i64 x) := by
 obtain ⟨_, a', c', e, _, h4⟩ := h
 injection e with ea _ _
 subst ea
 exact h4 j x hx
theorem ObjsIn.at_ {W : World} {B : Nat} {a : Option Addr} {n c : Nat} {l : List ObjD} (h : ObjsIn W B (.slice a n c) l) {j : Nat} {x : ObjD} (hx : l[j]? = some x) :
  x.ok ∧ rightsOk x ∧ ∃ g off, a = some ⟨g, off, none⟩ ∧ g < B ∧ W.rangeAt g (off + j * 163) x.cells := by
 obtain ⟨_, a', c', e, _, h4⟩ := h
 injection e with ea _ _
 subst ea
 exact h4 j x hx
theorem BytesIn.at_ {W : World} {B : Nat} {a : Option Addr} {n c : Nat} {l : List UInt8} (h : BytesIn W B (.slice a n c) l) {j : Nat} {x : UInt8} (hx : l[j]? = some x) :
  ∃ g off, a = some ⟨g, off, none⟩ ∧ g < B ∧ W.cell? ⟨g, off + j, none⟩ = some (vu8 x) := by
 obtain ⟨_, a', c', e, _, h4⟩ := h
 injection e with ea _ _
 subst ea
 exact h4 j x hx
/-- a frame -/
structure FrameD where
 ed : Int
 oids : List Int
 objs : List ObjD
 state : List UInt8
def FrameIn (W : World) (B : Nat) (v : Value) (f : FrameD) : Prop :=
 ∃ vo vb vs, v = .agg #[.int .i64 f.ed, vo, vb, vs] ∧ IntsIn W B vo f.oids ∧ ObjsIn W B vb f.objs ∧ BytesIn W B vs f.state
theorem FrameIn.below {W W' : World} {B C : Nat} {v : Value} {f : FrameD} (h : FrameIn W B v f) (hb : Below C W W') (hC : B ≤ C) : FrameIn W' B v f := by
 obtain ⟨vo, vb, vs, e, h1, h2, h3⟩ := h
 exact ⟨vo, vb, vs, e, h1.below hb hC, h2.below hb hC, h3.below hb hC⟩
theorem FrameIn.mono {W : World} {B C : Nat} {v : Value} {f : FrameD} (h : FrameIn W B v f) (hC : B ≤ C) : FrameIn W C v f := by
 obtain ⟨vo, vb, vs, e, h1, h2, h3⟩ := h
 exact ⟨vo, vb, vs, e, h1.mono hC, h2.mono hC, h3.mono hC⟩

/-- whether the objects of a frame may be, behind the last number -/
def rowsB (N : Int) : Int → List Int → List ObjD → Bool
 | _, [], [] => true
 | last, x :: l, o :: m => decide (last < x) && (decide (x < N) && (objB o N && rowsB N x l m))
 | _, _, _ => false
def framePre (N ed : Int) (n m s : Nat) : Bool := decide (0 ≤ ed) && (n == m) && decide ((n : Int) ≤ N) && decide (s ≤ 4096)
def frameB (N : Int) (f : FrameD) : Bool := rightB N && (framePre N f.ed f.oids.length f.objs.length f.state.length && rowsB N (-1) f.oids f.objs)
theorem rowsB_drop (N last : Int) (l : List Int) (m : List ObjD) (j : Nat) (x : Int) (o : ObjD) (hx : l[j]? = some x) (ho : m[j]? = some o) :
  rowsB N last (l.drop j) (m.drop j) = (decide (last < x) && (decide (x < N) && (objB o N && rowsB N x (l.drop (j + 1)) (m.drop (j + 1))))) := by
 obtain ⟨h1, e1⟩ := List.getElem?_eq_some_iff.1 hx
 obtain ⟨h2, e2⟩ := List.getElem?_eq_some_iff.1 ho
 rw [List.drop_eq_getElem_cons h1, List.drop_eq_getElem_cons h2, e1, e2, rowsB]
theorem rowsB_end (N last : Int) (l : List Int) (m : List ObjD) (n : Nat) (h1 : l.length = n) (h2 : m.length = n) : rowsB N last (l.drop n) (m.drop n) = true := by
 rw [List.drop_eq_nil_of_le (by omega), List.drop_eq_nil_of_le (by omega), rowsB]
end Go.Proofs.YtdpniceapmikpaaGreat
namespace Go.Proofs.YtdpniceapmikpaaGreat
open Go.RowKit

/-- all blocks are as they were, but for those of F -/
structure Out (F : Nat → Prop) (w w' : World) : Prop where
 os : w'.os = w.os
 tape : w'.tape = w.tape
 output : w'.output = w.output
 size : w.heap.size ≤ w'.heap.size
 block : ∀ i, i < w.heap.size → ¬ F i → w'.heap[i]? = w.heap[i]?
theorem Out.refl (F : Nat → Prop) (w : World) : Out F w w := ⟨rfl, rfl, rfl, Nat.le_refl _, fun _ _ _ => rfl⟩
theorem Out.trans {F G : Nat → Prop} {w w1 w2 : World} (h : Out F w w1) (h2 : Out G w1 w2) (hFG : ∀ i, i < w.heap.size → G i → F i) : Out F w w2 :=
 ⟨h2.os.trans h.os, h2.tape.trans h.tape, h2.output.trans h.output, Nat.le_trans h.size h2.size, fun i hi hn => (h2.block i (by have := h.size; omega) (fun g => hn (hFG i hi g))).trans (h.block i hi hn)⟩
theorem outB {F : Nat → Prop} {w w' : World} (h : Below w.heap.size w w') : Out F w w' := ⟨h.os, h.tape, h.output, h.size, fun i hi _ => h.block i hi⟩
theorem Out.below {F : Nat → Prop} {B : Nat} {w w' : World} (h : Out F w w') (hB : B ≤ w.heap.size) (hF : ∀ i, i < B → ¬ F i) : Below B w w' := ⟨h.os, h.tape, h.output, h.size, fun i hi => h.block i (by omega) (hF i hi)⟩
theorem Out.blk {F : Nat → Prop} {w w' : World} (h : Out F w w') {g : Nat} {t : TypeId} {cs : Array Value} (hb : Blk w g t cs) (hg : ¬ F g) : Blk w' g t cs := (h.block g hb.lt hg).trans hb
theorem Out.map {F : Nat → Prop} {w w' : World} (h : Out F w w') {g : Nat} {kd : IntKind} {l : List (Int × Value)} (hb : MapAt w g kd l) (hg : ¬ F g) : MapAt w' g kd l := (h.block g hb.lt hg).trans hb

/-- a write that waits -/
structure WaitD where
 n : Int
 b : List UInt8
def WaitD.cells (x : WaitD) : List Value := .int .i64 x.n :: x.b.map vu8
def waitCells (l : List WaitD) : List Value := l.flatMap WaitD.cells
/-- a disk -/
structure DiskD where
 size : Int
 lasts : Int → List UInt8
 waits : List WaitD
 steps : Int
 fails : List Int
def sector0 : List UInt8 := List.replicate 512 0
def DiskD.ok (x : DiskD) : Prop := 1 ≤ x.size ∧ x.size ≤ 4096 ∧ (∀ n, (x.lasts n).length = 512) ∧ (∀ y ∈ x.waits, y.b.length = 512) ∧ 0 ≤ x.steps ∧ x.steps ≤ 1000000000000 ∧ x.waits.length ≤ 1000000
/-- where a disk lies -/
structure DiskP where
 p : Nat
 lm : Nat
 wv : Value
 fv : Option Nat
def DiskP.has (D : DiskP) (i : Nat) : Prop := i = D.p ∨ i = D.lm ∨ D.wv.ownBlock = some i ∨ D.fv = some i
def sectorV (b : List UInt8) : Value := .agg (b.map vu8).toArray
def LastsAt (w : World) (r : Nat) (f : Int → List UInt8) : Prop := ∃ l, MapAt w r .i64 l ∧ (l.map (·.1)).Nodup ∧ ∀ n, (∃ v, lookOf l n = some v ∧ v = sectorV (f n)) ∨ (lookOf l n = none ∧ f n = sector0)
def FailsAt (w : World) (v : Option Nat) (l : List Int) : Prop := (v = none ∧ l = []) ∨ ∃ (r : Nat) (k : List Int), v = some r ∧ MapAt w r .i64 (k.map fun n => (n, Value.agg #[])) ∧ ∀ n, n ∈ k ↔ n ∈ l
structure DiskAt (w : World) (D : DiskP) (x : DiskD) : Prop where
 blk : Blk w D.p 152 #[.int .i64 x.size, .map (some D.lm), D.wv, .int .i64 x.steps, .map D.fv]
 lasts : LastsAt w D.lm x.lasts
 waits : w.ownsRow 0 161 513 D.wv x.waits.length (waitCells x.waits)
 fails : FailsAt w D.fv x.fails
 apart : D.fv ≠ some D.lm
def ptr (g : Nat) : Value := .pointer (some ⟨g, 0, none⟩)

theorem ownBlock_lt {w : World} {B k : Nat} {e : TypeId} {v : Value} {n g : Nat} {xs : List Value} (h : w.ownsRow B e k v n xs) (hv : v.ownBlock = some g) : g < w.heap.size := by
 obtain ⟨_, ⟨rfl, _⟩ | ⟨g', cap, cur, rfl, _, hg, _⟩⟩ := h
 ·simp [Value.ownBlock] at hv
 ·simp [Value.ownBlock] at hv
  subst hv
  exact lt_of_block hg
theorem ownsRow_out {F : Nat → Prop} {w w' : World} (ho : Out F w w') {B k : Nat} {e : TypeId} {v : Value} {n : Nat} {xs : List Value} (h : w.ownsRow B e k v n xs) (hF : ∀ g, v.ownBlock = some g → ¬ F g) : w'.ownsRow B e k v n xs := by
 obtain ⟨hl, ⟨rfl, h0⟩ | ⟨g, cap, cur, rfl, hB, hg, hr⟩⟩ := h
 ·exact ⟨hl, .inl ⟨rfl, h0⟩⟩
 ·exact ⟨hl, .inr ⟨g, cap, cur, rfl, hB, (ho.block g (lt_of_block hg) (hF g rfl)).trans hg, hr⟩⟩
theorem DiskAt.out {F : Nat → Prop} {w w' : World} {D : DiskP} {x : DiskD} (h : DiskAt w D x) (ho : Out F w w') (hF : ∀ i, D.has i → ¬ F i) : DiskAt w' D x := by
 refine ⟨ho.blk h.blk (hF _ (.inl rfl)), ?_, ownsRow_out ho h.waits (fun g hg => hF g (.inr (.inr (.inl hg)))), ?_, h.apart⟩
 ·obtain ⟨l, hm, hl⟩ := h.lasts
  exact ⟨l, ho.map hm (hF _ (.inr (.inl rfl))), hl⟩
 ·rcases h.fails with ⟨e, h1⟩ | ⟨r, k, e, h1, h2⟩
  ·exact .inl ⟨e, h1⟩
  ·exact .inr ⟨r, k, e, ho.map h1 (hF r (.inr (.inr (.inr e)))), h2⟩
theorem DiskAt.has_lt {w : World} {D : DiskP} {x : DiskD} (h : DiskAt w D x) (i : Nat) (hi : D.has i) : i < w.heap.size := by
 rcases hi with rfl | rfl | hi | hi
 ·exact h.blk.lt
 ·obtain ⟨l, hm, _⟩ := h.lasts
  exact hm.lt
 ·exact ownBlock_lt h.waits hi
 ·rcases h.fails with ⟨e, _⟩ | ⟨r, k, e, h1, _⟩
  ·rw [e] at hi; cases hi
  ·rw [e] at hi; cases hi; exact h1.lt
theorem DiskAt.below {w w' : World} {D : DiskP} {x : DiskD} (h : DiskAt w D x) (hb : Below w.heap.size w w') : DiskAt w' D x := h.out (F := fun _ => False) (outB hb) (fun _ _ => id)
theorem DiskAt.drew {w : World} {D : DiskP} {x : DiskD} (h : DiskAt w D x) : DiskAt w.drew D x := ⟨h.blk, h.lasts, h.waits, h.fails, h.apart⟩

theorem dnone_any (D : DiskP) (x : DiskD) (w : World) (h : DiskAt w D x) (hx : x.ok) : Calls Tryz.prog 77 #[ptr D.p] w fun e w' => e = .returned (.bool false) ∧ w = w' := by
 have c0 := h.blk.cell_is 0 rfl
 have ne : (x.size == 0) = false := by simpa using (by have := hx.1; omega : x.size ≠ 0)
 unfold ptr
 clear h hx
 go_enter Tryz.func77, Tryz.ntmps77
 go_wp2_with fail
 go_ret
 exact ⟨rfl, rfl⟩
theorem dsize_any (D : DiskP) (x : DiskD) (w : World) (h : DiskAt w D x) (hx : x.ok) : Calls Tryz.prog 74 #[ptr D.p] w fun e w' => e = .returned (.int .i64 x.size) ∧ w = w' := by
 have c0 := h.blk.cell_is 0 rfl
 have HN := Lib.hid (dnone_any D x w h hx)
 unfold ptr at *
 clear h hx
 go_enter Tryz.func74, Tryz.ntmps74
 go_wp2_with fail
 refine HN.out.mono ?_; rintro e w1 ⟨rfl, rfl⟩
 go_wp2_with fail
 go_ret
 exact ⟨rfl, rfl⟩
theorem dright_yes (D : DiskP) (x : DiskD) (n q : Int) (w : World) (h : DiskAt w D x) (hx : x.ok) (hn : 0 ≤ n ∧ n < x.size) (hq : 0 ≤ q ∧ q < 512) : Calls Tryz.prog 87 #[ptr D.p, .int .i64 n, .int .i64 q] w fun e w' => e = .returned (.int .i64 0) ∧ w = w' := by
 have c0 := h.blk.cell_is 0 rfl
 have HN := Lib.hid (dnone_any D x w h hx)
 unfold ptr at *
 obtain ⟨h1, h2⟩ := hn
 obtain ⟨h3, h4⟩ := hq
 have n1 : ¬ n < 0 := by omega
 have n2 : ¬ x.size ≤ n := by omega
 have n3 : ¬ q < 0 := by omega
 have n4 : ¬ 512 ≤ q := by omega
 clear h hx
 go_enter Tryz.func87, Tryz.ntmps87
 go_wp2_with fail
 refine HN.out.mono ?_; rintro e w1 ⟨rfl, rfl⟩
 go_wp2_with fail
 go_ret
 exact ⟨rfl, rfl⟩
theorem dright_no (D : DiskP) (x : DiskD) (n q : Int) (w : World) (h : DiskAt w D x) (hx : x.ok) (hn : n < 0 ∨ x.size ≤ n ∨ q < 0 ∨ 512 ≤ q) : Calls Tryz.prog 87 #[ptr D.p, .int .i64 n, .int .i64 q] w fun e w' => e = .returned (.int .i64 4) ∧ w = w' := by
 have c0 := h.blk.cell_is 0 rfl
 have HN := Lib.hid (dnone_any D x w h hx)
 unfold ptr at *
 have hs : n < 0 ∨ (¬ n < 0 ∧ x.size ≤ n) ∨ (¬ n < 0 ∧ ¬ x.size ≤ n ∧ q < 0) ∨ (¬ n < 0 ∧ ¬ x.size ≤ n ∧ ¬ q < 0 ∧ 512 ≤ q) := by omega
 clear h hx hn
 rcases hs with h1 | ⟨h1, h2⟩ | ⟨h1, h2, h3⟩ | ⟨h1, h2, h3, h4⟩
 all_goals
  go_enter Tryz.func87, Tryz.ntmps87
  go_wp2_with fail
  refine HN.out.mono ?_; rintro e w1 ⟨rfl, rfl⟩
  go_wp2_with fail
  go_ret
  exact ⟨rfl, rfl⟩
end Go.Proofs.YtdpniceapmikpaaGreat
namespace Go.Proofs.YtdpniceapmikpaaGreat
open Go.RowKit

def newDisk (n : Int) : DiskD := ⟨n, fun _ => sector0, [], 0, []⟩
def newAt (s : Nat) : DiskP := ⟨s + 1, s, .slice none 0 0, none⟩
theorem newDisk_ok (n : Int) (h1 : 1 ≤ n) (h2 : n ≤ 4096) : (newDisk n).ok := ⟨h1, h2, fun _ => List.length_replicate, (by intro y hy; cases hy), by show (0 : Int) ≤ 0; omega, by show (0 : Int) ≤ 1000000000000; omega, by show 0 ≤ 1000000; omega⟩
set_option maxHeartbeats 1000000 in
theorem dnew_yes (n : Int) (w : World) (h1 : 1 ≤ n) (h2 : n ≤ 4096) : Calls Tryz.prog 22 #[.int .i64 n] w fun e w' => e = .returned (.tuple #[ptr (newAt w.heap.size).p, .int .i64 0]) ∧ DiskAt w' (newAt w.heap.size) (newDisk n) ∧ Below w.heap.size w w' := by
 have n1 : ¬ n < 1 := by omega
 have n2 : ¬ 4096 < n := by omega
 have hmm := @run_makeMap Tryz.prog
 go_enter Tryz.func22, Tryz.ntmps22
 go_wp2_with fail
 go_ret2
 refine ⟨by simp [ptr, newAt], ⟨?_, ⟨[], ?_, List.nodup_nil, fun _ => .inr ⟨rfl, rfl⟩⟩, World.ownsRow_nil _ _ _ _, .inl ⟨rfl, rfl⟩, by simp [newAt]⟩, ((Below.refl _ _).alloc (Nat.le_refl _) _).alloc (by simp) _⟩
 ·exact Blk.new2 w _ _ _
 ·exact (MapAt.new w .i64).alloc _
def DiskD.stepped (x : DiskD) : DiskD := { x with steps := x.steps + 1 }
theorem dstep_range (D : DiskP) (x : DiskD) (n : Int) (f : Value) (w : World) (h : DiskAt w D x) (hx : x.ok) (hn : n < 0 ∨ x.size ≤ n) : Calls Tryz.prog 83 #[ptr D.p, .int .i64 n, f] w fun e w' => e = .returned (.int .i64 4) ∧ w = w' := by
 have HR := Lib.hid (dright_no D x n 0 w h hx (by omega))
 unfold ptr at *
 clear h hx
 go_enter Tryz.func83, Tryz.ntmps83
 go_wp2_with fail
 refine HR.out.mono ?_; rintro e w1 ⟨rfl, rfl⟩
 go_wp2_with fail
 go_ret
 exact ⟨rfl, rfl⟩
theorem lookOf_fails (k : List Int) (n : Int) : lookOf (k.map fun n => (n, Value.agg #[])) n = if n ∈ k then some (.agg #[]) else none := by
 induction k with
 | nil => rfl
 | cons y k ih =>
  unfold lookOf at ih ⊢
  rw [List.map_cons, List.find?_cons]
  by_cases h : n = y
  ·subst h; simp
  ·rw [show (n == y) = false by simpa using h]
   simp only [ih, List.mem_cons, h, false_or]
theorem run_lookup_nil {P : Program} {t k e : TypeId} {kd : IntKind} (w : World) (ht : P.underlying t = some (.map k e)) (hk : P.underlying k = some (.int kd)) (n : Int) (z : Value) (hz : (zeroValue e).run P w = .ok z w) (ok : Bool) :
  (Instr.lookup t (.map none) (.int kd n) ok).run P w = .ok (if ok then .tuple #[z, .bool false] else z) w := by
 have hf : (Instr.findKey k (.int kd n) (#[] : Array MapEntry).toList).run P w = .ok none w := run_findKey w hk [] n
 unfold Instr.lookup
 simp only [Sem.run_bind, run_underlying ht, Result.andThen, Sem.run_pure, run_checkKey_int w _ 9999 hk, hf, hz]
theorem look_fails {w : World} {D : DiskP} {x : DiskD} (h : DiskAt w D x) (n : Int) : (Instr.lookup 150 (.map D.fv) (.int .i64 n) true).run Tryz.prog w = .ok (.tuple #[.agg #[], .bool (decide (n ∈ x.fails))]) w := by
 have hz : (zeroValue 157).run Tryz.prog w = .ok (.agg #[]) w := by kernel_rfl
 rcases h.fails with ⟨e, h1⟩ | ⟨r, k, e, h1, h2⟩
 ·rw [e, h1]
  exact run_lookup_nil w Tryz.underlying150 Tryz.underlying3 n _ hz true
 ·rw [e]
  by_cases hn : n ∈ x.fails
  ·rw [decide_eq_true hn]
   exact run_lookup_ok w Tryz.underlying150 Tryz.underlying3 r _ h1 n _ (by rw [lookOf_fails, if_pos ((h2 n).2 hn)]) true
  ·rw [decide_eq_false hn]
   exact run_lookup_none w Tryz.underlying150 Tryz.underlying3 r _ h1 n _ hz (by rw [lookOf_fails, if_neg (fun hh => hn ((h2 n).1 hh))]) true
end Go.Proofs.YtdpniceapmikpaaGreat
namespace Go.Proofs.YtdpniceapmikpaaGreat
open Go.RowKit

theorem ne_own {w : World} {k B : Nat} {e t : TypeId} {v : Value} {n g : Nat} {xs : List Value} {cs : Array Value} (h : w.ownsRow B e k v n xs) (hg : Blk w g t cs) (het : e ≠ t) (i : Nat) (hi : v.ownBlock = some i) : i ≠ g := by
 rintro rfl
 rcases h.2 with ⟨rfl, _⟩ | ⟨g', cap, cur, rfl, h2, h3, h4⟩
 ·cases hi
 ·obtain rfl : g' = i := by simpa [Value.ownBlock] using hi
  unfold Blk at hg
  rw [hg] at h3
  injection h3 with h3
  injection h3 with _ h3
  exact het h3.symm
theorem ne_map {w : World} {g r : Nat} {t : TypeId} {cs : Array Value} {kd : IntKind} {l : List (Int × Value)} (h : MapAt w r kd l) (hg : Blk w g t cs) : r ≠ g := by
 rintro rfl
 unfold MapAt at h
 unfold Blk at hg
 rw [h] at hg
 injection hg with hg
 cases hg
/-- the block of the disk alone is another one than the rest -/
theorem DiskAt.ne {w : World} {D : DiskP} {x : DiskD} (h : DiskAt w D x) : D.lm ≠ D.p ∧ (∀ i, D.wv.ownBlock = some i → i ≠ D.p) ∧ ∀ i, D.fv = some i → i ≠ D.p := by
 refine ⟨?_, ne_own h.waits h.blk (by decide), fun i hi => ?_⟩
 ·obtain ⟨l, hm, _⟩ := h.lasts
  exact ne_map hm h.blk
 ·rcases h.fails with ⟨e, _⟩ | ⟨r, k, e, h1, _⟩
  ·rw [e] at hi; cases hi
  ·rw [e] at hi; cases hi; exact ne_map h1 h.blk
theorem DiskAt.steps_ {w : World} {D : DiskP} {x : DiskD} (h : DiskAt w D x) (s : Int) : DiskAt (w.setCell ⟨D.p, 3, none⟩ (.int .i64 s)) D { x with steps := s } := by
 obtain ⟨n1, n2, n3⟩ := h.ne
 refine ⟨h.blk.set_ 3 _, ?_, ?_, ?_, h.apart⟩
 ·obtain ⟨l, hm, hl⟩ := h.lasts
  exact ⟨l, (Below.heap_setCell w _ _ _ n1).trans hm, hl⟩
 ·rcases h.waits.2 with hn | ⟨g, cap, cur, e, h2, h3, h4⟩
  ·exact ⟨h.waits.1, .inl hn⟩
  ·exact ⟨h.waits.1, .inr ⟨g, cap, cur, e, h2, (Below.heap_setCell w _ _ _ (n2 g (by rw [e]; rfl))).trans h3, h4⟩⟩
 ·rcases h.fails with hn | ⟨r, k, e, h1, h2⟩
  ·exact .inl hn
  ·exact .inr ⟨r, k, e, (Below.heap_setCell w _ _ _ (n3 r e)).trans h1, h2⟩

/-- what a step of a disk may turn -/
structure DStep (D D' : DiskP) (w w' : World) : Prop where
 out : Out D.has w w'
 same : D'.p = D.p
 new_ : ∀ i, D'.has i → D.has i ∨ w.heap.size ≤ i
theorem DStep.refl (D : DiskP) (w : World) : DStep D D w w := ⟨Out.refl _ _, rfl, fun _ h => .inl h⟩
theorem DStep.trans {D D1 D2 : DiskP} {w w1 w2 : World} (h : DStep D D1 w w1) (k : DStep D1 D2 w1 w2) : DStep D D2 w w2 :=
 ⟨h.out.trans k.out (fun i hi hd => (h.new_ i hd).resolve_right (by omega)), k.same.trans h.same, fun i hi => (k.new_ i hi).elim (h.new_ i) (fun hs => .inr (by have := h.out.size; omega))⟩
theorem DStep.below {D D' : DiskP} {w w1 w2 : World} (h : DStep D D' w w1) (hb : Below w1.heap.size w1 w2) : DStep D D' w w2 := ⟨h.out.trans (G := fun _ => False) (outB hb) (fun _ _ => False.elim), h.same, h.new_⟩
theorem DStep.far {D D' : DiskP} {w w1 : World} (h : DStep D D' w w1) {g : Nat} (hg : g < w.heap.size) (hn : ¬ D.has g) : ¬ D'.has g := fun hd => (h.new_ g hd).elim hn (by omega)
theorem DStep.first {D D' : DiskP} {w0 w w1 : World} (h : DStep D D' w w1) (hb : Below w0.heap.size w0 w) (hD : ∀ i, D.has i → i < w0.heap.size) : DStep D D' w0 w1 :=
 ⟨(outB hb : Out D.has w0 w).trans h.out (fun _ _ => id), h.same, fun i hi => (h.new_ i hi).imp id (fun hs => by have := hb.size; omega)⟩
theorem out_set {w : World} {F : Nat → Prop} {g i : Nat} {v : Value} (hg : F g) : Out F w (w.setCell ⟨g, i, none⟩ v) :=
 ⟨rfl, rfl, rfl, by simp, fun j _ hn => Below.heap_setCell w _ _ _ (fun e => hn (by rw [show j = g from e]; exact hg))⟩

theorem disk_step_at {w : World} {D : DiskP} {x : DiskD} (h : DiskAt w D x) (o : Obj) : DiskAt (((w.setCell ⟨D.p, 3, none⟩ (.int .i64 (x.steps + 1))).alloc o).drew) D x.stepped ∧ DStep D D w (((w.setCell ⟨D.p, 3, none⟩ (.int .i64 (x.steps + 1))).alloc o).drew) := by
 have h1 := h.steps_ (x.steps + 1)
 have hb : Below (w.setCell ⟨D.p, 3, none⟩ (.int .i64 (x.steps + 1))).heap.size (w.setCell ⟨D.p, 3, none⟩ (.int .i64 (x.steps + 1))) (((w.setCell ⟨D.p, 3, none⟩ (.int .i64 (x.steps + 1))).alloc o).drew) := ((Below.refl _ _).alloc (Nat.le_refl _) o).drew
 refine ⟨h1.below hb, ?_, rfl, fun _ h => .inl h⟩
 exact Out.trans (G := D.has) (out_set (.inl rfl)) (outB hb) (fun _ _ => id)

set_option maxRecDepth 100000 in
set_option maxHeartbeats 4000000 in
theorem dstep_fails (D : DiskP) (x : DiskD) (n : Int) (f : Value) (w : World) (h : DiskAt w D x) (hx : x.ok) (hn : 0 ≤ n ∧ n < x.size) (hf : x.steps ∈ x.fails) : Calls Tryz.prog 83 #[ptr D.p, .int .i64 n, f] w fun e w' =>
  e = .returned (.int .i64 120) ∧ DiskAt w' D x.stepped ∧ DStep D D w w' := by
 have HR := Lib.hid (dright_yes D x n 0 w h hx hn (by omega))
 have c4 := h.blk.cell_is 4 rfl
 have c3 := h.blk.cell_is 3 rfl
 have f3 := h.blk.frozen 3
 have hlt := h.blk.lt
 have k1 := look_fails h.drew x.steps
 have k2 := look_fails (h.below ((Below.refl _ _).alloc (Nat.le_refl _) (.cells #[] 157))).drew x.steps
 have k3 := look_fails (h.drew.below ((Below.refl _ _).alloc (Nat.le_refl _) (.cells #[] 157))) x.steps
 rw [decide_eq_true hf] at k1 k2 k3
 have HF := Lib.hid (fun o => disk_step_at h o)
 have hs : x.steps ≤ 1000000000000 := hx.2.2.2.2.2.1
 have hs0 : 0 ≤ x.steps := hx.2.2.2.2.1
 unfold ptr at *
 clear h hx hf
 generalize x.steps = s at *
 go_enter Tryz.func83, Tryz.ntmps83
 go_wp2_with fail
 refine HR.out.mono ?_; rintro e w1 ⟨rfl, rfl⟩
 go_upto_region 4 with fail
 go_region
 all_goals go_wp2_with fail
 all_goals go_ret
 all_goals exact ⟨rfl, HF.out _⟩
end Go.Proofs.YtdpniceapmikpaaGreat
