/-
  bytes.Equal; logs.Same.
  lay: the closure of logs.Write that notes a step; the step itself.
  One step of logs.Write; where logs.Write stands.
  A store of a function's value into a variable.
  The first number behind the magic, whose bytes are a constant's: the list moves to a row of its own.
  The law of a range over an iterator, where the variables of a round are boxed.
-/
import Derived.ArgAppend
import Derived.Test.YtdpniceapmikpaaGreatWh5
import Derived.Test.YtdpniceapmikpaaGreatWh15
import Derived.Test.YtdpniceapmikpaaGreatWh19
set_option linter.unusedVariables false
set_option linter.unusedSimpArgs false
namespace Go.Proofs.YtdpniceapmikpaaGreat
open Go.RowKit

theorem equalBytes_any (l m : List UInt8) (u v : Value) (w : World) (hu : BytesIn w w.heap.size u l) (hv : BytesIn w w.heap.size v m) : Calls Tryz.prog 45 #[u, v] w fun e w' => e = .returned (.bool (l == m)) ∧ Below w.heap.size w w' := by
 have h1 := run_str w hu
 have h2 := run_str w hv
 have e1 := bStr_list l
 have e2 := bStr_list m
 obtain ⟨_, a1, c1, rfl, _, _⟩ := id hu
 obtain ⟨_, a2, c2, rfl, _, _⟩ := id hv
 go_enter Tryz.func45, Tryz.ntmps45
 go_wp2_with fail
 go_ret
 exact ⟨by simp [*], Below.refl _ _⟩

def sameB (f g : FrameD) : Bool := (f.ed == g.ed) && (intsEq f.oids g.oids && (objsEq f.objs g.objs && (f.state == g.state)))
theorem sameB_iff (f g : FrameD) : sameB f g = true ↔ f = g := by
 cases f; cases g
 simp [sameB, intsEq, objsEq_iff]

set_option maxRecDepth 100000 in
set_option maxHeartbeats 4000000 in
theorem lsame_any (f g : FrameD) (u v : Value) (w : World) (hu : FrameIn w w.heap.size u f) (hv : FrameIn w w.heap.size v g) : Calls Tryz.prog 14 #[u, v] w fun e w' => e = .returned (.bool (sameB f g)) ∧ Below w.heap.size w w' := by
 obtain ⟨vo, vb, vs, rfl, o1, b1, s1⟩ := hu
 obtain ⟨yo, yb, ys, rfl, o2, b2, s2⟩ := hv
 obtain ⟨q, hq⟩ : ∃ q, q = sameB f g := ⟨_, rfl⟩
 rw [← hq]
 unfold sameB at hq
 have HQ := Lib.hid hq
 clear hq
 generalize f.ed = ed at *
 generalize g.ed = ed' at *
 have hB0 := ((Below.refl w.heap.size w).alloc (Nat.le_refl _) (.cells #[.int .i64 ed, vo, vb, vs] 28)).alloc (by simp) (.cells #[.int .i64 ed', yo, yb, ys] 28)
 have K1 : Blk ((w.alloc (.cells #[.int .i64 ed, vo, vb, vs] 28)).alloc (.cells #[.int .i64 ed', yo, yb, ys] 28)) w.heap.size 28 #[.int .i64 ed, vo, vb, vs] := (Blk.new w _ _).alloc _
 have K2 : Blk ((w.alloc (.cells #[.int .i64 ed, vo, vb, vs] 28)).alloc (.cells #[.int .i64 ed', yo, yb, ys] 28)) (w.heap.size + 1) 28 #[.int .i64 ed', yo, yb, ys] := Blk.new2 w _ _ _
 have x0 := K1.cell_is 0 rfl
 have y0 := K2.cell_is 0 rfl
 have x1 := K1.cell_is 1 rfl
 have y1 := K2.cell_is 1 rfl
 cases he : (ed == ed')
 ·have hq : q = false := by rw [HQ.out, he]; rfl
  have HN := Lib.hid hq
  clear hq K1 K2 o1 b1 s1 o2 b2 s2
  go_enter Tryz.func14, Tryz.ntmps14
  go_wp2_with fail
  go_ret
  exact ⟨by rw [HN.out]; rfl, hB0⟩
 ·have hq : q = (intsEq f.oids g.oids && (objsEq f.objs g.objs && (f.state == g.state))) := by rw [HQ.out, he]; rfl
  have HN := Lib.hid hq
  clear hq
  go_enter Tryz.func14, Tryz.ntmps14
  go_wp2_with fail
  refine (equalInts_any f.oids g.oids vo yo _ ((o1.below hB0 (Nat.le_refl _)).mono hB0.size) ((o2.below hB0 (Nat.le_refl _)).mono hB0.size)).mono ?_; rintro e w1 ⟨rfl, hb⟩
  have K1 := K1.below hb K1.lt
  have K2 := K2.below hb K2.lt
  have hB1 := hB0.trans (hb.mono hB0.size)
  have x2 := K1.cell_is 2 rfl
  have y2 := K2.cell_is 2 rfl
  clear x0 y0 x1 y1 hb hB0 o1 o2
  cases h1 : intsEq f.oids g.oids
  ·have hq : q = false := by rw [HN.out, h1]; rfl
   have HN := Lib.hid hq
   clear hq
   go_wp2_with fail
   go_ret
   exact ⟨by rw [HN.out]; rfl, hB1⟩
  ·have hq : q = (objsEq f.objs g.objs && (f.state == g.state)) := by rw [HN.out, h1]; rfl
   have HN := Lib.hid hq
   clear hq
   go_wp2_with fail
   refine (equalObjs_any f.objs g.objs vb yb _ ((b1.below hB1 (Nat.le_refl _)).mono hB1.size) ((b2.below hB1 (Nat.le_refl _)).mono hB1.size)).mono ?_; rintro e w2 ⟨rfl, hb⟩
   have K1 := K1.below hb K1.lt
   have K2 := K2.below hb K2.lt
   have hB2 := hB1.trans (hb.mono hB1.size)
   have x3 := K1.cell_is 3 rfl
   have y3 := K2.cell_is 3 rfl
   clear x2 y2 hb hB1 b1 b2
   cases h2 : objsEq f.objs g.objs
   ·have hq : q = false := by rw [HN.out, h2]; rfl
    have HN := Lib.hid hq
    clear hq
    go_wp2_with fail
    go_ret
    exact ⟨by rw [HN.out]; rfl, hB2⟩
   ·have hq : q = (f.state == g.state) := by rw [HN.out, h2]; rfl
    have HN := Lib.hid hq
    clear hq
    go_wp2_with fail
    refine (equalBytes_any f.state g.state vs ys _ ((s1.below hB2 (Nat.le_refl _)).mono hB2.size) ((s2.below hB2 (Nat.le_refl _)).mono hB2.size)).mono ?_; rintro e w3 ⟨rfl, hb⟩
    have hB3 := hB2.trans (hb.mono hB2.size)
    go_wp2_with fail
    go_ret
    exact ⟨by rw [HN.out]; rfl, hB3⟩
end Go.Proofs.YtdpniceapmikpaaGreat
namespace Go.Proofs.YtdpniceapmikpaaGreat
open Go.RowKit

theorem info_func : (Tryz.prog.info? 84).map (fun i => (i.zero, i.size, i.bytes)) = some (some .nilFunc, 1, 8) := by kernel_rfl
/-- a step: to write a sector -/
def StepAt (W : World) (db : Nat) (u : Value) (y : WaitS) : Prop := ∃ gn gb, u = .func (.func 53) #[] #[.pointer (some ⟨db, 0, none⟩), .pointer (some ⟨gn, 0, none⟩), .pointer (some ⟨gb, 0, none⟩)] ∧ Blk W gn 3 #[.int .i64 y.1.n] ∧ Blk W gb 111 (y.1.b.map vu8).toArray
def StepsAt (W : World) (db : Nat) (vals : List Value) (ys : List WaitS) : Prop := vals.length = ys.length ∧ ∀ (j : Nat) (u : Value) (y : WaitS), vals[j]? = some u → ys[j]? = some y → StepAt W db u y
theorem StepAt.keep {W W' : World} {db : Nat} {u : Value} {y : WaitS} (h : StepAt W db u y) (hk : ∀ (g : Nat) (t : TypeId) (cs : Array Value), t = 3 ∨ t = 111 → Blk W g t cs → Blk W' g t cs) : StepAt W' db u y := by
 obtain ⟨gn, gb, e, h1, h2⟩ := h
 exact ⟨gn, gb, e, hk _ _ _ (.inl rfl) h1, hk _ _ _ (.inr rfl) h2⟩
theorem StepsAt.keep {W W' : World} {db : Nat} {vals : List Value} {ys : List WaitS} (h : StepsAt W db vals ys) (hk : ∀ (g : Nat) (t : TypeId) (cs : Array Value), t = 3 ∨ t = 111 → Blk W g t cs → Blk W' g t cs) : StepsAt W' db vals ys :=
 ⟨h.1, fun j u y hu hy => (h.2 j u y hu hy).keep hk⟩
theorem StepsAt.snoc {W : World} {db : Nat} {vals : List Value} {ys : List WaitS} {u : Value} {y : WaitS} (h : StepsAt W db vals ys) (hu : StepAt W db u y) : StepsAt W db (vals ++ [u]) (ys ++ [y]) := by
 refine ⟨by simp [h.1], fun j v z hv hz => ?_⟩
 rcases Nat.lt_or_ge j vals.length with hl | hl
 ·rw [List.getElem?_append_left hl] at hv
  rw [List.getElem?_append_left (by rw [← h.1]; exact hl)] at hz
  exact h.2 j v z hv hz
 ·rw [List.getElem?_append_right hl] at hv
  rw [List.getElem?_append_right (by rw [← h.1]; exact hl), ← h.1] at hz
  cases hj : j - vals.length with
  | zero => rw [hj] at hv hz; cases hv; cases hz; exact hu
  | succ k => rw [hj] at hv; cases hv
/-- a block of another kind is as it was behind an append to a row of whatever kind -/
theorem RowStep.blk' {g : Nat} {v v' : Value} {w w' : World} (h : RowStep g v v' w w') {B n k : Nat} {e : TypeId} {xs : List Value} (ho : w.ownsRow B e k v n xs) {j : Nat} {t' : TypeId} {cs : Array Value} (hb : Blk w j t' cs) (h1 : j ≠ g) (h2 : t' ≠ e) : Blk w' j t' cs :=
 h.out.blk hb (fun hd => hd.elim h1 (fun e => ne_own ho hb (Ne.symm h2) j e rfl))

set_option maxRecDepth 100000 in
set_option maxHeartbeats 4000000 in
theorem lay_at (sb db B : Nat) (v : Value) (vals : List Value) (n : Int) (y : SecS) (w : World) (hc : Blk w sb 115 #[v]) (ho : w.ownsRow B 84 1 v vals.length vals) (hl : vals.length ≤ 1000) (hB : B ≤ w.heap.size) :
  Calls Tryz.prog 52 #[.int .i64 n, .agg (y.1.map vu8).toArray, .pointer (some ⟨sb, 0, none⟩), .pointer (some ⟨db, 0, none⟩)] w fun e w' => e = .returned (.tuple #[]) ∧ ∃ v' u, Blk w' sb 115 #[v'] ∧
   w'.ownsRow B 84 1 v' (vals ++ [u]).length (vals ++ [u]) ∧ StepAt w' db u ⟨⟨n, y.1⟩, y.2⟩ ∧ RowStep sb v v' w w' ∧ u = .func (.func 53) #[] #[.pointer (some ⟨db, 0, none⟩), .pointer (some ⟨w.heap.size, 0, none⟩), .pointer (some ⟨w.heap.size + 1, 0, none⟩)] := by
 obtain ⟨i0, hi0, hz0, hz1, hz2⟩ := info_parts info_func
 have hlt := hc.lt
 have hne : ∀ i, v.ownBlock = some i → i ≠ sb := ne_own ho hc (by decide)
 obtain ⟨X, eX⟩ : ∃ X, X = (y.1.map vu8).toArray := ⟨_, rfl⟩
 rw [← eX]
 have HEX := Lib.hid eX
 obtain ⟨u, eu⟩ : ∃ u : Value, u = .func (.func 53) #[] #[.pointer (some ⟨db, 0, none⟩), .pointer (some ⟨w.heap.size, 0, none⟩), .pointer (some ⟨w.heap.size + 1, 0, none⟩)] := ⟨_, rfl⟩
 obtain ⟨W, eW⟩ : ∃ W, W = ((w.alloc (.cells #[.int .i64 n] 3)).alloc (.cells X 111)).alloc (.cells #[u] 84) := ⟨_, rfl⟩
 have hb : Below w.heap.size w W := by rw [eW]; exact (((Below.refl _ w).alloc (Nat.le_refl _) _).alloc (by simp) _).alloc (by simp; omega) _
 have k0 : Blk W w.heap.size 3 #[.int .i64 n] := by rw [eW]; exact ((Blk.new w _ _).alloc _).alloc _
 have k1 : Blk W (w.heap.size + 1) 111 X := by rw [eW]; exact (Blk.new2 w _ _ _).alloc _
 have k2 : Blk W (w.heap.size + 1 + 1) 84 #[u] := by rw [eW]; exact Blk.new' (by simp)
 have hws : W.heap.size = w.heap.size + 3 := by rw [eW]; simp
 have HO := Lib.hid (ownsRow_out (F := fun _ => False) (outB hb) ho (fun _ _ => id))
 have HC := Lib.hid hc
 have HB := Lib.hid hb
 have c1 := hc.cell_is 0 rfl
 have K0 := Lib.hid k0
 have K1 := Lib.hid k1
 have K2 := Lib.hid k2
 have huo : u.oneCell' = true := by rw [eu]; rfl
 have HEU := Lib.hid eu
 have HEW := Lib.hid eW
 clear eX ho hc k0 k1 k2 hb eu eW
 go_enter Tryz.func52, Tryz.ntmps52
 go_wp2_with (at_builtin; rw [← HEU.out]; rw [← HEW.out]; refine wpList_append_lies W rfl (.tmp 6) (.tmp 8) 115 rfl B 84 i0 _ 1 8 Tryz.underlying115 hi0 hz0 hz1 hz2 rfl (by omega) v vals.length vals rfl HO.out ⟨w.heap.size + 1 + 1, 0, none⟩ 1 1 [u] rfl rfl (World.news_of_block (cs := #[u]) (t := 84) (fr := (0, 0)) K2.out) (by simp [huo]) (by omega) (by unfold maxLen; omega) (by omega) (by omega) (w.heap.size + 3) hws ?_; intro g3 cap3 w2 hO2 hg2 hat2 hlt2; have cc : Blk w2 sb 115 #[v] := (hg2.block sb (by omega) (fun e => hne sb e.symm rfl)).trans (HC.out.below HB.out hlt); have c2 := cc.cell_is 0 rfl; have f2 := cc.frozen 0)
 obtain ⟨q1, q2⟩ := grown_row HB.out hg2 HC.out (fun e => hne sb e rfl) (v' := .slice (some ⟨g3, 0, none⟩) (vals.length + 1) cap3) (fun i hi => by
  have hi2 : g3 = i := by simpa [Value.ownBlock] using hi
  subst hi2
  exact hat2.imp id (fun e => by omega))
 have hO3 := ownsRow_out (F := fun i => i = sb) (out_set (v := .slice (some ⟨g3, 0, none⟩) (vals.length + 1) cap3) (i := 0) rfl) hO2 (ne_own hO2 cc (by decide))
 have far : ∀ (g : Nat) (t : TypeId) (cs : Array Value), Blk W g t cs → t ≠ 84 → g ≠ sb → Blk (w2.setCell ⟨sb, 0, none⟩ (.slice (some ⟨g3, 0, none⟩) (vals.length + 1) cap3)) g t cs := fun g t cs hb ht hg =>
  Blk.far (p := ⟨sb, 0, none⟩) ((hg2.block g hb.lt (fun e => ne_own HO.out hb (Ne.symm ht) g e.symm rfl)).trans hb) hg _
 exact bodyPost_end (v := .tuple #[]) (by simp [results, Tryz.results52, go_sem]) rfl ⟨rfl, _, u, q1, by rw [List.length_append]; exact hO3, ⟨_, _, HEU.out, far _ _ _ K0.out (by decide) (by omega), by rw [← HEX.out]; exact far _ _ _ K1.out (by decide) (by omega)⟩, q2, HEU.out⟩
theorem lay_any (sb db B : Nat) (v : Value) (vals : List Value) (n : Int) (y : SecS) (w : World) (hc : Blk w sb 115 #[v]) (ho : w.ownsRow B 84 1 v vals.length vals) (hl : vals.length ≤ 1000) (hB : B ≤ w.heap.size) :
  Calls Tryz.prog 52 #[.int .i64 n, .agg (y.1.map vu8).toArray, .pointer (some ⟨sb, 0, none⟩), .pointer (some ⟨db, 0, none⟩)] w fun e w' => e = .returned (.tuple #[]) ∧ ∃ v' u, Blk w' sb 115 #[v'] ∧
   w'.ownsRow B 84 1 v' (vals ++ [u]).length (vals ++ [u]) ∧ StepAt w' db u ⟨⟨n, y.1⟩, y.2⟩ ∧ RowStep sb v v' w w' := by
 refine (lay_at sb db B v vals n y w hc ho hl hB).mono ?_
 rintro e w' ⟨he, v', u, h1, h2, h3, h4, _⟩
 exact ⟨he, v', u, h1, h2, h3, h4⟩
end Go.Proofs.YtdpniceapmikpaaGreat
namespace Go.Proofs.YtdpniceapmikpaaGreat
open Go.RowKit

set_option maxRecDepth 100000 in
set_option maxHeartbeats 4000000 in
theorem wstep_any (D : DiskP) (x : DiskD) (db : Nat) (u : Value) (y : WaitS) (w : World) (h : DiskAt w D x) (hx : x.ok) (hd : Blk w db 37 #[ptr D.p]) (hu : StepAt w db u y) :
  ∃ gn gb, u = .func (.func 53) #[] #[.pointer (some ⟨db, 0, none⟩), .pointer (some ⟨gn, 0, none⟩), .pointer (some ⟨gb, 0, none⟩)] ∧
  Calls Tryz.prog 53 #[.pointer (some ⟨db, 0, none⟩), .pointer (some ⟨gn, 0, none⟩), .pointer (some ⟨gb, 0, none⟩)] w fun e w' => e = .returned (.int .i64 (x.err y.1.n)) ∧ ∃ D', DiskAt w' D' (x.write y.1.n y.1.b) ∧ DStep D D' w w' := by
 obtain ⟨gn, gb, e, h1, h2⟩ := hu
 refine ⟨gn, gb, e, ?_⟩
 have HW := Lib.hid (dwrite_any D x y.1.n y.1.b w h hx y.2)
 have c0 := hd.cell_is 0 rfl
 have c1 := h1.cell_is 0 rfl
 have H2 := Lib.hid h2
 have hsz := sector_size y.1.b y.2
 unfold ptr sectorV at *
 clear h hx hd h1 h2 e
 go_enter Tryz.func53, Tryz.ntmps53
 go_wp2_with (refine wpList_load_row rfl 111 _ rfl gb rfl 111 (y.1.b.map vu8).toArray (0, 0) _ H2.out Tryz.underlying111 rfl hsz ?_)
 refine HW.out.mono ?_
 rintro e w1 ⟨rfl, hR⟩
 go_wp2_with fail
 go_ret
 exact ⟨rfl, hR⟩

/-- where logs.Write stands while it notes its steps: the boxes m .. m+3 of its arguments; those of its steps, of lay, of the head; the bytes of the head -/
structure WInv (sb lb hb : Nat) (w W : World) (dp : Nat) (N area : Int) (fv : Array Value) (v hv : Value) (vals : List Value) (ys : List WaitS) (l : List UInt8) : Prop where
 bd : Blk W w.heap.size 37 #[ptr dp]
 bp : Blk W (w.heap.size + 1) 23 #[.int .i64 N]
 ba : Blk W (w.heap.size + 2) 3 #[.int .i64 area]
 bf : Blk W (w.heap.size + 3) 28 fv
 bs : Blk W sb 115 #[v]
 os : W.ownsRow (w.heap.size + 4) 84 1 v vals.length vals
 bl : Blk W lb 117 #[.func (.func 52) #[] #[.pointer (some ⟨sb, 0, none⟩), .pointer (some ⟨w.heap.size, 0, none⟩)]]
 bh : Blk W hb 122 #[hv]
 oh : W.ownsRow (w.heap.size + 4) 5 1 hv l.length (l.map vu8)
 st : StepsAt W w.heap.size vals ys
 below : Below w.heap.size w W
 s4 : w.heap.size + 4 ≤ sb
 h4 : w.heap.size + 4 ≤ hb
variable {sb lb hb : Nat} {w W W' : World} {dp : Nat} {N area : Int} {fv : Array Value} {v v' hv hv' : Value} {vals : List Value} {ys : List WaitS} {l l' : List UInt8}
theorem WInv.sz (h : WInv sb lb hb w W dp N area fv v hv vals ys l) : w.heap.size + 4 ≤ W.heap.size := by have := h.bf.lt; omega
theorem WInv.far (h : WInv sb lb hb w W dp N area fv v hv vals ys l) (hb' : Below W.heap.size W W') : WInv sb lb hb w W' dp N area fv v hv vals ys l :=
 have k : ∀ {g : Nat} {t : TypeId} {cs : Array Value}, Blk W g t cs → Blk W' g t cs := fun hg => hg.below hb' hg.lt
 ⟨k h.bd, k h.bp, k h.ba, k h.bf, k h.bs, ownsRow_out (F := fun _ => False) (outB hb') h.os (fun _ _ => id), k h.bl, k h.bh, ownsRow_out (F := fun _ => False) (outB hb') h.oh (fun _ _ => id), h.st.keep (fun _ _ _ _ => k), h.below.trans (hb'.mono h.below.size), h.s4, h.h4⟩
theorem own_ne {B k k' : Nat} {e e' : TypeId} {a b : Value} {n n' : Nat} {xs xs' : List Value} (h : W.ownsRow B e k a n xs) (h' : W.ownsRow B e' k' b n' xs') (hne : e ≠ e') (i : Nat) (hi : b.ownBlock = some i) : ¬ a.ownBlock = some i := by
 intro ha
 rcases h'.2 with ⟨rfl, _⟩ | ⟨g, cap, cur, rfl, _, h3, _⟩
 ·cases hi
 ·obtain rfl : g = i := by simpa [Value.ownBlock] using hi
  exact ne_own h (show Blk W g e' cur from h3) hne g ha rfl
/-- the head has grown -/
theorem WInv.head (h : WInv sb lb hb w W dp N area fv v hv vals ys l) (hs : RowStep hb hv hv' W W') (hbx : Blk W' hb 122 #[hv']) (ho : W'.ownsRow (w.heap.size + 4) 5 1 hv' l'.length (l'.map vu8)) : WInv sb lb hb w W' dp N area fv v hv' vals ys l' := by
 have k : ∀ {g : Nat} {t : TypeId} {cs : Array Value}, Blk W g t cs → t ≠ 122 → t ≠ 5 → Blk W' g t cs := fun hg h1 h2 => hs.blk' h.oh hg (Blk.ne_ hg h.bh h1) h2
 refine ⟨k h.bd (by decide) (by decide), k h.bp (by decide) (by decide), k h.ba (by decide) (by decide), k h.bf (by decide) (by decide), k h.bs (by decide) (by decide), ownsRow_out hs.out h.os (fun g hg hd => ?_), k h.bl (by decide) (by decide), hbx, ho,
  h.st.keep (fun g t cs ht hg => k hg (by rcases ht with rfl | rfl <;> decide) (by rcases ht with rfl | rfl <;> decide)), ?_, h.s4, h.h4⟩
 ·rcases hd with rfl | hd
  ·exact ne_own h.os h.bh (by decide) g hg rfl
  ·exact own_ne h.oh h.os (by decide) g hg hd
 ·exact h.below.trans (hs.out.below h.below.size (fun i hi hd => hd.elim (fun e => by have := h.h4; omega) (fun e => by have := (h.oh.lt i e).1; omega)))
/-- a step more is noted -/
theorem WInv.lay (h : WInv sb lb hb w W dp N area fv v hv vals ys l) {u : Value} {y : WaitS} (hs : RowStep sb v v' W W') (hbx : Blk W' sb 115 #[v']) (ho : W'.ownsRow (w.heap.size + 4) 84 1 v' (vals ++ [u]).length (vals ++ [u])) (hu : StepAt W' w.heap.size u y) : WInv sb lb hb w W' dp N area fv v' hv (vals ++ [u]) (ys ++ [y]) l := by
 have k : ∀ {g : Nat} {t : TypeId} {cs : Array Value}, Blk W g t cs → t ≠ 115 → t ≠ 84 → Blk W' g t cs := fun hg h1 h2 => hs.blk' h.os hg (Blk.ne_ hg h.bs h1) h2
 refine ⟨k h.bd (by decide) (by decide), k h.bp (by decide) (by decide), k h.ba (by decide) (by decide), k h.bf (by decide) (by decide), hbx, ho, k h.bl (by decide) (by decide), k h.bh (by decide) (by decide), ownsRow_out hs.out h.oh (fun g hg hd => ?_),
  (h.st.keep (fun g t cs ht hg => k hg (by rcases ht with rfl | rfl <;> decide) (by rcases ht with rfl | rfl <;> decide))).snoc hu, ?_, h.s4, h.h4⟩
 ·rcases hd with rfl | hd
  ·exact ne_own h.oh h.bs (by decide) g hg rfl
  ·exact own_ne h.os h.oh (by decide) g hg hd
 ·exact h.below.trans (hs.out.below h.below.size (fun i hi hd => hd.elim (fun e => by have := h.s4; omega) (fun e => by have := (h.os.lt i e).1; omega)))
end Go.Proofs.YtdpniceapmikpaaGreat
namespace Go.Proofs.YtdpniceapmikpaaGreat
open Go.RowKit

theorem run_store_one {P : Program} (w : World) (g : Nat) (t ty : TypeId) (old v : Value) (hg : Blk w g t #[old]) (hi : (P.info? ty).map (·.size) = some 1) (hv : v.cells = #[v]) (h1 : v.oneCell' = true) :
  (Instr.storeAt ty (.pointer (some ⟨g, 0, none⟩)) v).run P w = .ok () (w.setCell ⟨g, 0, none⟩ v) := by
 have hc := hg.cell_is 0 rfl
 have hf := hg.frozen 0
 obtain ⟨i, hi', hn⟩ := Option.map_eq_some_iff.1 hi
 have hs : (storeCells ⟨g, 0, none⟩ [v]).run P w = .ok () (w.setCell ⟨g, 0, none⟩ v) := by
  have := run_store P w ⟨g, 0, none⟩ v .plain h1
  rw [hc] at this
  simp only [hf] at this
  simp [storeCells, Addr.add, this]
 simp [Instr.storeAt, Instr.sureAddr, storeVar, hv, run_sizeOf w hi', Program.cellsOf, hi', hn, hs, Result.andThen]
theorem wpList_store_one {P : Program} {ops : Array Oper} {rest : List Oper} {o : Oper} {a : Act} {w : World} {Q : Exit → Act → World → Prop} (hgd : o.guard = none) (ty : TypeId) (x y : Operand) (ho : o.op = .store ty x y)
  (g : Nat) (t : TypeId) (old v : Value) (hx : a.eval x = .pointer (some ⟨g, 0, none⟩)) (hy : a.eval y = v) (hg : Blk w g t #[old]) (hi : (P.info? ty).map (·.size) = some 1) (hv : v.cells = #[v]) (h1 : v.oneCell' = true)
  (h : wpList P ops Q rest (a.put o.dst undef) (w.setCell ⟨g, 0, none⟩ v)) : wpList P ops Q (o :: rest) a w :=
 wpList_plain hgd fun _ hK => by
  unfold Oper.wp execOp
  simp only [ho, hx, hy, run_store_one w g t ty old v hg hi hv h1, Sem.run_bind, Sem.run_pure, Result.andThen_ok]
  exact hK _ _ h
theorem set_new (w : World) (t : TypeId) (old v : Value) : (w.alloc (.cells #[old] t)).setCell ⟨w.heap.size, 0, none⟩ v = w.alloc (.cells #[v] t) := by
 rw [setCell_eq_setRow _ w.heap.size 0 #[old] t (0, 0) v (heap_alloc_new w _), World.setRow_alloc_new]
 rfl
end Go.Proofs.YtdpniceapmikpaaGreat
namespace Go.Proofs.YtdpniceapmikpaaGreat
open Go.RowKit

theorem wpList_append_grows (w : World) {ops : Array Oper} {rest : List Oper} {o : Oper} {a : Act} {Q : Exit → Act → World → Prop} (hgd : o.guard = none) (s x : Operand)
  (ho : o.op = .call { callee := .builtin .append, args := #[s, x], argTypes := #[26, 26] })
  (b : Addr) (n cap : Nat) (olds : List UInt8) (hs : a.eval s = .slice (some b) n cap) (hlo : olds.length = n) (holds : ∀ j u, (olds.map vu8)[j]? = some u → w.cell? (b.add j) = some u)
  (A : Addr) (m c : Nat) (l : List UInt8) (hx : a.eval x = .slice (some A) m c) (hm : l.length = m) (hnews : ∀ j u, (l.map vu8)[j]? = some u → w.cell? (A.add j) = some u) (hg : cap < n + m) (hbytes : n + m ≤ 1000000)
  (h : ∀ v' w', w'.ownsRow w.heap.size 5 1 v' (n + m) (olds.map vu8 ++ l.map vu8) → w.grownBy w' none → wpList Tryz.prog ops Q rest (a.put o.dst v') w') : wpList Tryz.prog ops Q (o :: rest) a w := by
 obtain ⟨i0, hi0, hz0, hz1, hz2⟩ := info_parts info_u8
 refine wpList_plain hgd fun _ hK => ?_
 obtain ⟨v', w', hrun, h2, h3⟩ := run_append_arg_grows (P := Tryz.prog) w 26 o.type 5 i0 (.int .u8 0) 1 1 Tryz.underlying26 hi0 hz0 hz1 hz2 rfl (by omega) b n cap (olds.map vu8) (by simp [hlo]) holds A m c (l.map vu8) (by simp [hm]) hnews hg (by unfold maxLen; omega) (by omega)
 unfold Oper.wp execOp
 simp only [ho, resolve, invoke, builtin, Sem.run_bind, Sem.run_pure, Result.andThen_ok, List.map_toArray, List.map_cons, List.map_nil, hs, hx, hrun]
 exact hK _ _ (h v' w' h2 h3)

set_option maxRecDepth 100000 in
set_option maxHeartbeats 1000000 in
theorem lnumber_first (g r n : Nat) (t : TypeId) (mg : List UInt8) (hmg : mg.length = 4) (w : World) (hn : (n : Int) ≤ 9223372036854775807) (hc : Blk w g t #[.slice (some ⟨r, 0, none⟩) 4 4]) (ht : t ≠ 5) (hr : r < w.heap.size)
  (hm : ∀ j u, (mg.map vu8)[j]? = some u → w.cell? ⟨r, j, none⟩ = some u) :
  Calls Tryz.prog 55 #[ptr g, .int .i64 n, .int .i64 8] w fun e w' => e = .returned (.tuple #[]) ∧ ∃ v', Blk w' g t #[v'] ∧ w'.ownsRow w.heap.size 5 1 v' (mg ++ leB n 8).length ((mg ++ leB n 8).map vu8) ∧ RowStep g (.slice (some ⟨r, 0, none⟩) 4 4) v' w w' := by
 have HP := Lib.hid (put_yes n 8 w (.inr (.inr rfl)) (fun h => absurd h (by decide)) hn)
 have HC := Lib.hid hc
 have hke : (leB n 8).length = 8 := leB_len n 8
 unfold ptr
 clear hc hn
 go_enter Tryz.func55, Tryz.ntmps55
 go_wp2_with fail
 refine HP.out.mono ?_; rintro e w1 ⟨v1, rfl, hv1, hb⟩
 obtain ⟨g1, cap1, e1, hg1, hl1⟩ := World.ownsRow.form hv1 (by omega)
 subst e1
 have hu := BytesIn.own hv1
 have HCC := Lib.hid (HC.out.below hb HC.out.lt)
 have c1 := HCC.out.cell_is 0 rfl
 have hlt := HCC.out.lt
 have hsz := hb.size
 have hnews : ∀ j u, ((leB n 8).map vu8)[j]? = some u → w1.cell? ((⟨g1, 0, none⟩ : Addr).add j) = some u := by
  intro j u hj
  rw [List.getElem?_map] at hj
  obtain ⟨c, hcj, rfl⟩ := Option.map_eq_some_iff.1 hj
  obtain ⟨g2, off, h, _, hcell⟩ := hu.at_ hcj
  cases h
  rw [add_at]
  exact hcell
 have holds : ∀ j u, (mg.map vu8)[j]? = some u → w1.cell? ((⟨r, 0, none⟩ : Addr).add j) = some u := by
  intro j u hj
  rw [add_at, Nat.zero_add]
  exact (hb.cell (p := ⟨r, j, none⟩) hr).trans (hm j u hj)
 clear hu hm
 have HBB := Lib.hid hb
 have HKE := Lib.hid hke
 clear hv1 hke hb
 go_wp2_with (at_builtin; refine wpList_append_grows w1 rfl _ _ rfl ⟨r, 0, none⟩ 4 4 mg rfl hmg holds ⟨g1, 0, none⟩ 8 cap1 (leB n 8) rfl HKE.out hnews (by omega) (by omega) ?_; intro v2 w2 hO2 hg2; obtain ⟨g2, cap2, rfl, hg2b, hg2l⟩ := World.ownsRow.form hO2 (by omega); have cc : Blk w2 g t #[.slice (some ⟨r, 0, none⟩) 4 4] := (hg2.block g hlt (fun e => by cases e)).trans HCC.out; have c2 := cc.cell_is 0 rfl; have f2 := cc.frozen 0)
 have hO3 := ownsRow_out (F := fun i => i = g) (out_set (v := .slice (some ⟨g2, 0, none⟩) (4 + 8) cap2) (i := 0) rfl) hO2 (ne_own hO2 cc (Ne.symm ht))
 have hb := HBB.out
 have hk2 := cc.set_ 0 (.slice (some ⟨g2, 0, none⟩) (4 + 8) cap2)
 refine bodyPost_end (v := .tuple #[]) (by simp [results, Tryz.results55, go_sem]) rfl ⟨rfl, _, hk2, ?_, ⟨⟨hg2.os.trans hb.os, hg2.tape.trans hb.tape, hg2.output.trans hb.output, by have := hg2.size; have := hb.size; simp; omega, fun i hi hn => ?_⟩, fun i hi => ?_⟩⟩
 ·rw [List.length_append, hmg, HKE.out, List.map_append]
  obtain ⟨q1, q2⟩ := hO3
  exact ⟨q1, q2.imp id (by rintro ⟨a, b, c, d, e, f⟩; exact ⟨a, b, c, d, by omega, f⟩)⟩
 ·exact (Below.heap_setCell w2 _ _ _ (fun e => hn (.inl e))).trans ((hg2.block i (by omega) (fun e => by cases e)).trans (hb.block i hi))
 ·have : g2 = i := by simpa [Value.ownBlock] using hi
  subst this
  exact .inr (by omega)
end Go.Proofs.YtdpniceapmikpaaGreat
namespace Go.Proofs.YtdpniceapmikpaaGreat
open Go.RowKit Go.Shelf

theorem rangeB {α : Type} {P : Program} {c n : Nat} {g : Operand} {ps : Array Tmp} {assign body : Code} {Q : Exit → Act → World → Prop} {a : Act} {w : World} {gf : Nat} {lb : Array Value} (upd : α → Nat → Array Value → Array Value) (PX : α → Nat → World → Prop)
  (hg : a.eval g = .func (.func gf) #[] lb) (hgf : ∀ args w, (callFunc gf args).run P w = .ok (.enter gf args) w)
  {encs : α → Array Value} {Kp : World → World → Prop} {S Sp : List α → Prop} {N : Nat} (hseq : SeqO c (n - 1) P gf lb encs Kp S Sp N w)
  (hKt : ∀ {A B C : World}, Kp A B → Kp B C → Kp A C) (hKb : ∀ (W : World) (o o' : Obj), W.heap[w.heap.size + 1]? = some o → o.isCells = false → Kp W (W.putObj (w.heap.size + 1) o')) (hps : ∀ x, (encs x).size = ps.size)
  (I : List α → World → Prop) (Ix : Code → List α → World → Prop) (hI : OwnC 2 c w.heap.size I) (hIx : ∀ j, OwnC 2 c w.heap.size (Ix j)) (h0 : I [] w) (hPX : ∀ x g, OwnFrom w.heap.size (fun (_ : Unit) W => PX x g W))
  (hassign : ∀ (l : Nat) (pre : List α) (x : α) (W : World) (K : Act → World → Prop), I pre W → w.heap.size + 2 + c ≤ W.heap.size → (∀ q W', KeepsFrom w.heap.size W W' → Kp W W' → I pre W' → PX x q W' → K { tmps := upd x q a.tmps, defers := [] } W') →
   assign.wpIn (Fence.wide.inRound l) (n - 1 - 1) P (Exit.then K (fun _ _ _ => False)) { tmps := (ps.zip (encs x)).foldl (fun t (p, v) => t.setIfInBounds p v) a.tmps, defers := [] } W)
  (hbody : ∀ (l : Nat) (pre : List α) (x : α) (q : Nat) (W : World), I pre W → PX x q W → pre.length < N → w.heap.size + 2 + c ≤ W.heap.size → body.wpIn (Fence.wide.inRound l) (n - 1 - 1) P (ownPostG w.heap.size Kp I Ix (pre ++ [x]) W) { tmps := upd x q a.tmps, defers := [] } W)
  (hdone : ∀ (D : Nat) (xs : List α) (W : World), w.heap.size ≤ D → S xs → I xs W → W.heap[D]? = some (.deferred (some [])) → Q .normal { a with defers := { target := .collected D, args := #[] } :: a.defers } W)
  (hstop : ∀ (D : Nat) (c : Code) (pre : List α) (W : World), w.heap.size ≤ D → Sp pre → Ix c pre W → W.heap[D]? = some (.deferred (some [])) → c.wpIn Fence.wide n P Q { a with defers := { target := .collected D, args := #[] } :: a.defers } W) :
  (Code.rangeFunc g ps assign body).wpIn Fence.wide n P Q a w :=
 rangeO hg hgf hseq hKt hKb hps I Ix hI hIx h0 (fun x a' W => ∃ q, a' = { tmps := upd x q a.tmps, defers := [] } ∧ PX x q W)
  (fun x a' s A B row hs hg' hr => by obtain ⟨q, e, h⟩ := hs; exact ⟨q, e, hPX x q s A B row h hg' hr⟩)
  (fun l pre x W K h1 h2 hK => hassign l pre x W K h1 h2 (fun q W' k1 k2 k3 k4 => hK _ W' k1 k2 k3 ⟨q, rfl, k4⟩))
  (fun l pre x a' W h1 h2 h3 h4 => by obtain ⟨q, rfl, h⟩ := h2; exact hbody l pre x q W h1 h h3 h4) hdone hstop
theorem zip2 (p q : Nat) (u v : Value) (t : Array Value) : (#[p, q].zip #[u, v]).foldl (fun t (x : Nat × Value) => t.setIfInBounds x.1 x.2) t = (t.setIfInBounds p u).setIfInBounds q v := by kernel_rfl

/-- a step's boxes lie outside of R -/
def FarV (R : Nat → Prop) (u : Value) : Prop := ∀ (k : Nat) (d : Value) (gn gb : Nat), u = .func (.func k) #[] #[d, .pointer (some ⟨gn, 0, none⟩), .pointer (some ⟨gb, 0, none⟩)] → ¬ R gn ∧ ¬ R gb
/-- logs.Write's standing, none of whose blocks is one of R -/
structure WFar (R : Nat → Prop) (v hv : Value) (vals : List Value) : Prop where
 own : ∀ i, v.ownBlock = some i → ¬ R i
 head : ∀ i, hv.ownBlock = some i → ¬ R i
 vals : ∀ u ∈ vals, FarV R u
theorem WInv.farV {R : Nat → Prop} {sb lb hb : Nat} {w W : World} {dp : Nat} {N area : Int} {fv : Array Value} {v hv : Value} {vals : List Value} {ys : List WaitS} {l : List UInt8} (h : WInv sb lb hb w W dp N area fv v hv vals ys l) (hR : ∀ r, R r → W.heap.size ≤ r) : WFar R v hv vals := by
 refine ⟨fun i hi hr => ?_, fun i hi hr => ?_, fun u hu k d gn gb e => ?_⟩
 ·have := hR i hr; have := ownBlock_lt h.os hi; omega
 ·have := hR i hr; have := ownBlock_lt h.oh hi; omega
 ·obtain ⟨j, hj⟩ := List.getElem?_of_mem hu
  have hjl : j < ys.length := by rw [← h.st.1]; exact (List.getElem?_eq_some_iff.1 hj).1
  obtain ⟨gn', gb', e', h1, h2⟩ := h.st.2 j u _ hj (List.getElem?_eq_getElem hjl)
  rw [e] at e'
  have l1 := h1.lt
  have l2 := h2.lt
  simp at e'
  obtain ⟨_, _, rfl, rfl⟩ := e'
  exact ⟨fun hr => by have := hR _ hr; omega, fun hr => by have := hR _ hr; omega⟩
theorem WInv.abide {R : Nat → Prop} {sb lb hb : Nat} {w W W' : World} {dp : Nat} {N area : Int} {fv : Array Value} {v hv : Value} {vals : List Value} {ys : List WaitS} {l : List UInt8} (h : WInv sb lb hb w W dp N area fv v hv vals ys l) (hf : WFar R v hv vals) {row : Option Nat}
  (hg : W.grownBy W' row) (hr : ∀ r, row = some r → w.heap.size ≤ r ∧ (R r ∨ ∃ o : Obj, W.heap[r]? = some o ∧ o.isCells = false)) (hR : ¬ R w.heap.size ∧ ¬ R (w.heap.size + 1) ∧ ¬ R (w.heap.size + 2) ∧ ¬ R (w.heap.size + 3) ∧ ¬ R sb ∧ ¬ R lb ∧ ¬ R hb) :
  WInv sb lb hb w W' dp N area fv v hv vals ys l := by
 have same : ∀ g, ¬ R g → (∃ o, W.heap[g]? = some o ∧ o.isCells = true) → W'.heap[g]? = W.heap[g]? := fun g hn ⟨o, ho, hc⟩ => hg.block g (Array.getElem?_eq_some_iff.1 ho).1 (fun e => by
  rcases (hr g e.symm).2 with hh | ⟨o', ho', hc'⟩
  ·exact hn hh
  ·rw [ho] at ho'; cases ho'; rw [hc] at hc'; cases hc')
 have k : ∀ {g : Nat} {t : TypeId} {cs : Array Value}, Blk W g t cs → ¬ R g → Blk W' g t cs := fun hb hn => (same _ hn ⟨_, hb, rfl⟩).trans hb
 have kr : ∀ {B e n : Nat} {u : Value} {xs : List Value}, W.ownsRow B e 1 u n xs → (∀ i, u.ownBlock = some i → ¬ R i) → W'.ownsRow B e 1 u n xs := by
  intro B e n u xs ho hn
  obtain ⟨hl, ⟨rfl, h0⟩ | ⟨g, cap, cur, rfl, hB, hgg, hrest⟩⟩ := ho
  ·exact ⟨hl, .inl ⟨rfl, h0⟩⟩
  ·exact ⟨hl, .inr ⟨g, cap, cur, rfl, hB, (same g (hn g rfl) ⟨_, hgg, rfl⟩).trans hgg, hrest⟩⟩
 obtain ⟨r0, r1, r2, r3, rs, rl, rh⟩ := hR
 refine ⟨k h.bd r0, k h.bp r1, k h.ba r2, k h.bf r3, k h.bs rs, kr h.os hf.own, k h.bl rl, k h.bh rh, kr h.oh hf.head, ⟨h.st.1, fun j u y hu hy => ?_⟩, ?_, h.s4, h.h4⟩
 ·obtain ⟨gn, gb, e, h1, h2⟩ := h.st.2 j u y hu hy
  obtain ⟨n1, n2⟩ := hf.vals u (List.mem_of_getElem? hu) _ _ gn gb e
  exact ⟨gn, gb, e, k h1 n1, k h2 n2⟩
 ·exact h.below.grown hg h.below.size (fun r e => (hr r e).1)
theorem RowStep.keepsT {sb B B0 C n : Nat} {W W' : World} {v v' : Value} {xs : List Value} (hs : RowStep sb v v' W W') (hc : Blk W sb 115 #[v]) (ho : W.ownsRow B 84 1 v n xs) (h1 : B0 ≤ sb) (h2 : B0 ≤ B) : KeepsT (fun _ t => t = 115 ∨ t = 84) B0 C W W' := by
 have hl := hc.lt
 refine ⟨hs.out.os, hs.out.tape, hs.out.output, hs.out.size, fun i hi => hs.out.block i (by omega) (fun hd => hd.elim (fun e => by omega) (fun e => by have := (ho.lt i e).1; omega)), fun k o _ hk hk2 => ?_, fun i cs t fr ht hi => ?_⟩
 ·refine (hs.out.block k (Array.getElem?_eq_some_iff.1 hk).1 (fun hd => ?_)).trans hk
  rcases hd with rfl | e
  ·unfold Blk at hc
   rw [hk] at hc
   cases hc
   cases hk2
  ·obtain ⟨o', ho', hc'⟩ := ownsRow_cells ho k e
   rw [hk] at ho'
   cases ho'
   rw [hk2] at hc'
   cases hc'
 ·refine (hs.out.block i (lt_of_block hi) (fun hd => ?_)).trans hi
  rcases hd with rfl | e
  ·unfold Blk at hc
   rw [hi] at hc
   cases hc
   exact ht (.inl rfl)
  ·rcases ho.2 with ⟨rfl, _⟩ | ⟨g, cap, cur, rfl, _, h3, _⟩
   ·cases e
   ·obtain rfl : g = i := by simpa [Value.ownBlock] using e
    rw [hi] at h3
    cases h3
    exact ht (.inr rfl)
theorem ownsRow_at {W : World} {B n c : Nat} {e : TypeId} {a : Option Addr} {xs : List Value} (h : W.ownsRow B e 1 (.slice a n c) n xs) {k : Nat} {u : Value} (hk : xs[k]? = some u) : ∃ g, a = some ⟨g, 0, none⟩ ∧ B ≤ g ∧ W.cell? ⟨g, k, none⟩ = some u := by
 rcases h.2 with ⟨h0, h1⟩ | ⟨g, cap, cur, h0, hB, hg, h1, h2, h3, h4⟩
 ·have := h.1
  rw [h1] at this
  have : xs = [] := List.eq_nil_of_length_eq_zero (by omega)
  rw [this] at hk
  cases hk
 ·cases h0
  refine ⟨g, rfl, hB, ?_⟩
  rw [cell_of_row W g k cur e (0, 0) hg, ← Array.getElem?_toList]
  rw [← h4, List.getElem?_take] at hk
  split at hk
  ·exact hk
  ·cases hk
/-- a disk behind writes none of which fails -/
def writesW (x : DiskD) (ys : List WaitS) : DiskD := ys.foldl (fun x y => x.write y.1.n y.1.b) x
theorem writesW_snoc (x : DiskD) (ys : List WaitS) (y : WaitS) : writesW x (ys ++ [y]) = (writesW x ys).write y.1.n y.1.b := by simp [writesW]
theorem DiskAt.free {w : World} {D : DiskP} {x : DiskD} (h : DiskAt w D x) {g : Nat} {t : TypeId} {cs : Array Value} (hb : Blk w g t cs) (h1 : t ≠ 152) (h2 : t ≠ 161) : ¬ D.has g := by
 rintro (e | e | hd | hd)
 ·exact Blk.ne_ hb h.blk h1 e
 ·obtain ⟨l, hm, _⟩ := h.lasts
  exact ne_map hm hb e.symm
 ·exact ne_own h.waits hb (Ne.symm h2) g hd rfl
 ·rcases h.fails with ⟨e, _⟩ | ⟨r, k, e, h3, _⟩
  ·rw [e] at hd; cases hd
  ·rw [e] at hd; cases hd; exact ne_map h3 hb rfl
theorem KeepsT.from {T : Nat → TypeId → Prop} {B C : Nat} {W W' : World} (h : KeepsT T B C W W') : KeepsFrom C W W' := ⟨h.size, fun k o hk ho hc => h.others k o hk ho hc⟩
end Go.Proofs.YtdpniceapmikpaaGreat
