/-
  The contract of logs.Check. (Written by gen_lchk.py.)
  The contract of logs.Check.
  asked, at.
  A list of bytes that grows: number.
  The contract of codec's writer.number. (Written by gen_lwnum.py.)
-/
import Derived.Deep.RegionHeld3
import Derived.Test.YtdpniceapmikpaaGreatWh1
import Derived.Test.YtdpniceapmikpaaGreatWh4
import Derived.Test.YtdpniceapmikpaaGreatWh5
import Derived.Test.YtdpniceapmikpaaGreatWh6
import Derived.Test.YtdpniceapmikpaaGreatWh7
import Derived.Test.YtdpniceapmikpaaGreatWh10
set_option linter.unusedVariables false
set_option linter.unusedSimpArgs false
namespace Go.Proofs.YtdpniceapmikpaaGreat
open Go.RowKit

theorem size_any (N : Int) (w : World) : Calls Tryz.prog 39 #[.agg #[.int .i64 N]] w fun e w' => e = .returned (.tuple #[.int .i64 (if rightB N then 20 + 3 * N else 0), .int .i64 (errB (rightB N))]) ∧ Below w.heap.size w w' := by
 cases h : rightB N
 ·exact size_no N w h
 ·exact size_yes N w h
theorem chk_step {w W w' : World} {N ed : Int} {vo vb vs : Value}
  (h : (Below w.heap.size w W ∧ Blk W w.heap.size 23 #[.int .i64 N] ∧ Blk W (w.heap.size + 1) 28 #[.int .i64 ed, vo, vb, vs]) ∧ W.cell? ⟨w.heap.size, 0, none⟩ = some (.int .i64 N) ∧ W.cell? ⟨w.heap.size + 1, 2, none⟩ = some vb) (hb : Below W.heap.size W w') :
  (Below w.heap.size w w' ∧ Blk w' w.heap.size 23 #[.int .i64 N] ∧ Blk w' (w.heap.size + 1) 28 #[.int .i64 ed, vo, vb, vs]) ∧ w'.cell? ⟨w.heap.size, 0, none⟩ = some (.int .i64 N) ∧ w'.cell? ⟨w.heap.size + 1, 2, none⟩ = some vb :=
 ⟨⟨h.1.1.trans (hb.mono h.1.1.size), h.1.2.1.below hb h.1.2.1.lt, h.1.2.2.below hb h.1.2.2.lt⟩, (h.1.2.1.below hb h.1.2.1.lt).cell_is 0 rfl, (h.1.2.2.below hb h.1.2.2.lt).cell_is 2 rfl⟩

set_option maxRecDepth 100000 in
set_option maxHeartbeats 4000000 in
theorem lcheck_raw (N ed : Int) (l : List Int) (m : List ObjD) (sl : Nat) (ao ab aw : Option Addr) (co cb cs : Nat) (w : World)
  (hl : IntsIn w w.heap.size (.slice ao l.length co) l) (hm : ObjsIn w w.heap.size (.slice ab m.length cb) m) (hpre : (rightB N && framePre N ed l.length m.length sl) = true) :
  Calls Tryz.prog 12 #[.agg #[.int .i64 N], .agg #[.int .i64 ed, .slice ao l.length co, .slice ab m.length cb, .slice aw sl cs]] w fun e w' =>
  e = .returned (.int .i64 (errB (rowsB N (-1) l m))) ∧ Below w.heap.size w w' := by
 obtain ⟨hR, hp⟩ : rightB N = true ∧ framePre N ed l.length m.length sl = true := by simpa using hpre
 have hN : 1 ≤ N ∧ N ≤ 64 := by simpa [rightB] using hR
 obtain ⟨h1, h2, h3, h4⟩ : 0 ≤ ed ∧ l.length = m.length ∧ (l.length : Int) ≤ N ∧ sl ≤ 4096 := by
  simp [framePre] at hp
  omega
 obtain ⟨q, hq⟩ : ∃ q, rowsB N (-1) l m = q := ⟨_, rfl⟩
 rw [hq]
 have HQ := Lib.hid hq
 have HLL := Lib.hid h2
 have ne1 : ¬ ed < 0 := by omega
 have ne2 : ¬ (sl : Int) > 4096 := by omega
 have ne3 : ((l.length : Int) != (m.length : Int)) = false := by rw [h2]; simp
 have ne4 : ¬ (l.length : Int) > N := by omega
 clear hq hpre hp h2
 go_enter Tryz.func12, Tryz.ntmps12
 go_wp2_with fail
 refine (size_any N _).mono ?_; rintro e w1 ⟨rfl, hb⟩
 have K1 : Blk w1 w.heap.size 23 #[.int .i64 N] := ((Blk.new w _ _).alloc _).below hb (by simp; omega)
 have K2 : Blk w1 (w.heap.size + 1) 28 #[.int .i64 ed, .slice ao l.length co, .slice ab m.length cb, .slice aw sl cs] := (Blk.new2 w _ _ _).below hb (by simp)
 have hB := (((Below.refl w.heap.size w).alloc (Nat.le_refl _) (.cells #[.int .i64 N] 23)).alloc (by simp) (.cells #[.int .i64 ed, .slice ao l.length co, .slice ab m.length cb, .slice aw sl cs] 28)).trans (hb.mono (by simp; omega))
 have c0 := K1.cell_is 0 rfl
 have d0 := K2.cell_is 0 rfl
 have d1 := K2.cell_is 1 rfl
 have d2 := K2.cell_is 2 rfl
 have d3 := K2.cell_is 3 rfl
 have he : errB true = 0 := rfl
 have he2 : errB false = 2 := rfl
 rw [hR]
 clear hb
 go_wp2_with fail
 clear c0 d0 d1 d2 d3
 go_loopw [7, 46] (fun last i wr => ∃ (j : Nat) (la : Int), j ≤ l.length ∧ i = .int .i64 j ∧ last = .int .i64 la ∧ Hid (rowsB N la (l.drop j) (m.drop j) = q) ∧ Blk wr w.heap.size 23 #[.int .i64 N] ∧ Blk wr (w.heap.size + 1) 28 #[.int .i64 ed, .slice ao l.length co, .slice ab m.length cb, .slice aw sl cs] ∧ Below w.heap.size w wr) (fun _ i _ => l.length - (intOf i).toNat)
 case atStart => exact ⟨0, -1, by omega, rfl, rfl, Lib.hid HQ.out, K1, K2, hB⟩
 case round =>
  clear K1 K2 hB
  obtain ⟨j, la, hj, rfl, rfl, HT, K1, K2, hB⟩ := hrel
  have hz := hB.size
  by_cases hlt : j < l.length
  ·obtain ⟨oid, hoid⟩ : ∃ c, l[j]? = some c := ⟨_, List.getElem?_eq_getElem hlt⟩
   obtain ⟨x, hx⟩ : ∃ c, m[j]? = some c := ⟨_, List.getElem?_eq_getElem (by have := HLL.out; omega)⟩
   have hlt2 : (j : Int) < (m.length : Int) := by have := HLL.out; omega
   have hT := HT.out
   rw [rowsB_drop N la l m j oid x hoid hx] at hT
   have HT2 := Lib.hid hT
   clear hT HT
   obtain ⟨g1, o1, rfl, hg1, hcell1⟩ := hl.at_ hoid
   obtain ⟨hxo, hxr, g2, o2, rfl, hgo, hrg⟩ := hm.at_ hx
   have x0 := (hB.cell (p := ⟨g1, o1 + j, none⟩) hg1).trans hcell1
   have c0 := K1.cell_is 0 rfl
   have d2 := K2.cell_is 2 rfl
   have d1 := K2.cell_is 1 rfl
   have HX := Lib.hid hx
   have HOI := Lib.hid hoid
   have HR := Lib.hid hrg
   clear hx hoid hcell1 hm hl
   by_cases hc1 : oid ≤ la
   ·have hq : q = false := by rw [← HT2.out, decide_eq_false (by omega : ¬ la < oid)]; rfl
    have HN := Lib.hid hq
    have f1 : decide (oid ≤ la) = true := decide_eq_true hc1
    clear hq hrg hc1
    go_upto_region 10 with fail
    have k1 := hB.drew
    have k2 := K1.drew
    have k3 := K2.drew
    refine wp_region_held_drew (S := (fun w' => (Below w.heap.size w w' ∧ Blk w' w.heap.size 23 #[.int .i64 N] ∧ Blk w' (w.heap.size + 1) 28 #[.int .i64 ed, .slice (some ⟨g1, o1, none⟩) l.length co, .slice (some ⟨g2, o2, none⟩) m.length cb, .slice aw sl cs]) ∧ w'.cell? ⟨w.heap.size, 0, none⟩ = some (.int .i64 N) ∧ w'.cell? ⟨w.heap.size + 1, 2, none⟩ = some (.slice (some ⟨g2, o2, none⟩) m.length cb))) (by kernel_rfl) (by (try dsimp only); (refine ⟨⟨?_, ?_, ?_⟩, ?_, ?_⟩ <;> assumption)) (fun hHeld => ?_)
    refine tk 0 ?_
    refine tk 1 ?_
    refine tk 2 ?_
    refine tk 3 ?_
    refine tu 4 ?_
    refine tu 5 ?_
    refine tu 6 ?_
    refine tu 7 ?_
    refine tk 8 ?_
    refine tk 9 ?_
    refine tu 10 ?_
    refine tu 11 ?_
    refine tu 12 ?_
    refine tu 13 ?_
    refine tu 14 ?_
    refine tu 15 ?_
    refine tu 16 ?_
    refine tu 17 ?_
    refine tu 18 ?_
    refine tk 19 ?_
    refine wpAnyH_done (by kernel_rfl) ?_ _
    go_wp2_with fail
    go_ret
    exact ⟨by rw [HN.out]; rfl, by assumption⟩
   ·by_cases hc2 : N ≤ oid
    ·have hq : q = false := by rw [← HT2.out, decide_eq_false (by omega : ¬ oid < N)]; simp
     have HN := Lib.hid hq
     have f1 : decide (oid ≤ la) = false := decide_eq_false hc1
     have f2 : decide (N ≤ oid) = true := decide_eq_true hc2
     clear hq hrg hc1 hc2
     go_upto_region 10 with fail
     have k1 := hB.drew
     have k2 := K1.drew
     have k3 := K2.drew
     refine wp_region_held_drew (S := (fun w' => (Below w.heap.size w w' ∧ Blk w' w.heap.size 23 #[.int .i64 N] ∧ Blk w' (w.heap.size + 1) 28 #[.int .i64 ed, .slice (some ⟨g1, o1, none⟩) l.length co, .slice (some ⟨g2, o2, none⟩) m.length cb, .slice aw sl cs]) ∧ w'.cell? ⟨w.heap.size, 0, none⟩ = some (.int .i64 N) ∧ w'.cell? ⟨w.heap.size + 1, 2, none⟩ = some (.slice (some ⟨g2, o2, none⟩) m.length cb))) (by kernel_rfl) (by (try dsimp only); (refine ⟨⟨?_, ?_, ?_⟩, ?_, ?_⟩ <;> assumption)) (fun hHeld => ?_)
     refine tk 0 ?_
     refine tk 1 ?_
     refine tk 2 ?_
     refine tk 3 ?_
     refine tk 4 ?_
     refine tk 5 ?_
     refine tk 6 ?_
     refine tk 7 ?_
     refine tk 8 ?_
     refine tk 9 ?_
     refine tu 10 ?_
     refine tu 11 ?_
     refine tu 12 ?_
     refine tu 13 ?_
     refine tu 14 ?_
     refine tu 15 ?_
     refine tu 16 ?_
     refine tu 17 ?_
     refine tu 18 ?_
     refine tk 19 ?_
     refine wpAnyH_done (by kernel_rfl) ?_ _
     go_wp2_with fail
     go_ret
     exact ⟨by rw [HN.out]; rfl, by assumption⟩
    ·have hT3 : (objB x N && rowsB N oid (l.drop (j + 1)) (m.drop (j + 1))) = q := by
      have := HT2.out
      rwa [decide_eq_true (by omega : la < oid), decide_eq_true (by omega : oid < N), Bool.true_and, Bool.true_and] at this
     have HT3 := Lib.hid hT3
     have f1 : decide (oid ≤ la) = false := decide_eq_false hc1
     have f2 : decide (N ≤ oid) = false := decide_eq_false hc2
     clear hT3 HT2 hc1 hc2
     cases hO : objB x N
     ·have hq : q = false := by rw [← HT3.out, hO]; rfl
      have HN := Lib.hid hq
      clear hq
      have he3 : errB (objB x N) = 2 := by rw [hO]; rfl
      go_upto_region 10 with fail
      have k1 := hB.drew
      have k2 := K1.drew
      have k3 := K2.drew
      refine wp_region_held_drew (S := (fun w' => (Below w.heap.size w w' ∧ Blk w' w.heap.size 23 #[.int .i64 N] ∧ Blk w' (w.heap.size + 1) 28 #[.int .i64 ed, .slice (some ⟨g1, o1, none⟩) l.length co, .slice (some ⟨g2, o2, none⟩) m.length cb, .slice aw sl cs]) ∧ w'.cell? ⟨w.heap.size, 0, none⟩ = some (.int .i64 N) ∧ w'.cell? ⟨w.heap.size + 1, 2, none⟩ = some (.slice (some ⟨g2, o2, none⟩) m.length cb))) (by kernel_rfl) (by (try dsimp only); (refine ⟨⟨?_, ?_, ?_⟩, ?_, ?_⟩ <;> assumption)) (fun hHeld => ?_)
      refine tk 0 ?_
      refine tk 1 ?_
      refine tk 2 ?_
      refine tk 3 ?_
      refine tk 4 ?_
      refine tk 5 ?_
      refine tk 6 ?_
      refine tk 7 ?_
      refine tk 8 ?_
      refine tk 9 ?_
      refine tk 10 ?_
      refine tk 11 ?_
      refine tk 12 ?_
      refine tk 13 ?_
      refine ty 14 rfl (yieldsIf_load_mid (by rfl) 62 _ rfl _ _ rfl x.cells _ (fun w' h => range_below hrg h.1.1 hgo) Tryz.underlying62 rfl (by rw [ObjD.len hxo]; kernel_rfl)) ?_
      try simp only [Act.put, Array.toArray_toList, List.toArray_toList, pz0, pz1, pz2, pz3, pz4, pz5]
      refine tk 15 ?_
      refine tk 16 ?_
      refine rd 17 fun K hK => ?_
      go_simp
      (refine (ocheck_any x hxo N _).mono ?_; rintro e w' ⟨rfl, hb⟩; obtain ⟨⟨z1, z2, z3⟩, z4, z5⟩ := chk_step hHeld hb; clear hb)
      go_wp2_with fail
      refine hK.out _ _ (by (try dsimp only); (refine ⟨⟨?_, ?_, ?_⟩, ?_, ?_⟩ <;> assumption)) (fun hHeld => ?_)
      clear hK K
      try simp only [Act.put, pz0, pz1, pz2, pz3, pz4, pz5]
      refine tk 18 ?_
      refine tk 19 ?_
      refine wpAnyH_done (by kernel_rfl) ?_ _
      go_wp2_with fail
      go_ret
      exact ⟨by rw [HN.out]; rfl, by assumption⟩
     ·have HT4 := HT3.out
      rw [hO, Bool.true_and] at HT4
      have HT5 := Lib.hid HT4
      clear HT4
      have he3 : errB (objB x N) = 0 := by rw [hO]; rfl
      go_upto_region 10 with fail
      have k1 := hB.drew
      have k2 := K1.drew
      have k3 := K2.drew
      refine wp_region_held_drew (S := (fun w' => (Below w.heap.size w w' ∧ Blk w' w.heap.size 23 #[.int .i64 N] ∧ Blk w' (w.heap.size + 1) 28 #[.int .i64 ed, .slice (some ⟨g1, o1, none⟩) l.length co, .slice (some ⟨g2, o2, none⟩) m.length cb, .slice aw sl cs]) ∧ w'.cell? ⟨w.heap.size, 0, none⟩ = some (.int .i64 N) ∧ w'.cell? ⟨w.heap.size + 1, 2, none⟩ = some (.slice (some ⟨g2, o2, none⟩) m.length cb))) (by kernel_rfl) (by (try dsimp only); (refine ⟨⟨?_, ?_, ?_⟩, ?_, ?_⟩ <;> assumption)) (fun hHeld => ?_)
      refine tk 0 ?_
      refine tk 1 ?_
      refine tk 2 ?_
      refine tk 3 ?_
      refine tk 4 ?_
      refine tk 5 ?_
      refine tk 6 ?_
      refine tk 7 ?_
      refine tk 8 ?_
      refine tk 9 ?_
      refine tk 10 ?_
      refine tk 11 ?_
      refine tk 12 ?_
      refine tk 13 ?_
      refine ty 14 rfl (yieldsIf_load_mid (by rfl) 62 _ rfl _ _ rfl x.cells _ (fun w' h => range_below hrg h.1.1 hgo) Tryz.underlying62 rfl (by rw [ObjD.len hxo]; kernel_rfl)) ?_
      try simp only [Act.put, Array.toArray_toList, List.toArray_toList, pz0, pz1, pz2, pz3, pz4, pz5]
      refine tk 15 ?_
      refine tk 16 ?_
      refine rd 17 fun K hK => ?_
      go_simp
      (refine (ocheck_any x hxo N _).mono ?_; rintro e w' ⟨rfl, hb⟩; obtain ⟨⟨z1, z2, z3⟩, z4, z5⟩ := chk_step hHeld hb; clear hb)
      go_wp2_with fail
      refine hK.out _ _ (by (try dsimp only); (refine ⟨⟨?_, ?_, ?_⟩, ?_, ?_⟩ <;> assumption)) (fun hHeld => ?_)
      clear hK K
      try simp only [Act.put, pz0, pz1, pz2, pz3, pz4, pz5]
      refine tk 18 ?_
      refine tk 19 ?_
      refine wpAnyH_done (by kernel_rfl) ?_ _
      go_wp2_with fail
      exact ⟨⟨j + 1, oid, by omega, by go_num, rfl, HT5, by assumption, by assumption, by assumption⟩, by simp [intOf] <;> omega⟩
  ·obtain rfl : j = l.length := by omega
   have hq : q = true := by
    rw [← HT.out]
    exact rowsB_end N la l m l.length rfl HLL.out.symm
   have HN := Lib.hid hq
   clear hq
   go_wp2_with fail
   go_ret
   exact ⟨by rw [HN.out]; rfl, hB⟩
end Go.Proofs.YtdpniceapmikpaaGreat
namespace Go.Proofs.YtdpniceapmikpaaGreat
open Go.RowKit

set_option maxRecDepth 100000 in
set_option maxHeartbeats 4000000 in
theorem lcheck_no (N ed : Int) (n m sl : Nat) (ao ab aw : Option Addr) (co cb cs : Nat) (w : World) (hpre : (rightB N && framePre N ed n m sl) = false) :
  Calls Tryz.prog 12 #[.agg #[.int .i64 N], .agg #[.int .i64 ed, .slice ao n co, .slice ab m cb, .slice aw sl cs]] w fun e w' =>
  e = .returned (.int .i64 2) ∧ Below w.heap.size w w' := by
 have hs : rightB N = false ∨ (rightB N = true ∧ (ed < 0 ∨ (¬ ed < 0 ∧ ((n : Int) != (m : Int)) = true) ∨ (¬ ed < 0 ∧ ((n : Int) != (m : Int)) = false ∧ (n : Int) > N) ∨ (¬ ed < 0 ∧ ((n : Int) != (m : Int)) = false ∧ ¬ (n : Int) > N ∧ (sl : Int) > 4096))) := by
  cases hR : rightB N
  ·exact .inl rfl
  ·right
   rw [hR, Bool.true_and] at hpre
   refine ⟨rfl, ?_⟩
   simp [framePre] at hpre
   simp
   omega
 clear hpre
 rcases hs with hR | ⟨hR, hs⟩
 ·go_enter Tryz.func12, Tryz.ntmps12
  go_wp2_with fail
  refine (size_any N _).mono ?_; rintro e w1 ⟨rfl, hb⟩
  have hB := (((Below.refl w.heap.size w).alloc (Nat.le_refl _) (.cells #[.int .i64 N] 23)).alloc (by simp) (.cells #[.int .i64 ed, .slice ao n co, .slice ab m cb, .slice aw sl cs] 28)).trans (hb.mono (by simp; omega))
  have he2 : errB false = 2 := rfl
  rw [hR]
  go_wp2_with fail
  go_ret
  exact ⟨rfl, hB⟩
 ·rcases hs with h1 | ⟨h1, h2⟩ | ⟨h1, h2, h3⟩ | ⟨h1, h2, h3, h4⟩
  all_goals
   go_enter Tryz.func12, Tryz.ntmps12
   go_wp2_with fail
   refine (size_any N _).mono ?_; rintro e w1 ⟨rfl, hb⟩
   have K1 : Blk w1 w.heap.size 23 #[.int .i64 N] := ((Blk.new w _ _).alloc _).below hb (by simp; omega)
   have K2 : Blk w1 (w.heap.size + 1) 28 #[.int .i64 ed, .slice ao n co, .slice ab m cb, .slice aw sl cs] := (Blk.new2 w _ _ _).below hb (by simp)
   have hB := (((Below.refl w.heap.size w).alloc (Nat.le_refl _) (.cells #[.int .i64 N] 23)).alloc (by simp) (.cells #[.int .i64 ed, .slice ao n co, .slice ab m cb, .slice aw sl cs] 28)).trans (hb.mono (by simp; omega))
   have c0 := K1.cell_is 0 rfl
   have d0 := K2.cell_is 0 rfl
   have d1 := K2.cell_is 1 rfl
   have d2 := K2.cell_is 2 rfl
   have d3 := K2.cell_is 3 rfl
   have he : errB true = 0 := rfl
   rw [hR]
   clear hb K1 K2
   go_wp2_with fail
   go_ret
   exact ⟨rfl, hB⟩

theorem lcheck_any (N : Int) (f : FrameD) (v : Value) (w : World) (h : FrameIn w w.heap.size v f) : Calls Tryz.prog 12 #[.agg #[.int .i64 N], v] w fun e w' => e = .returned (.int .i64 (errB (frameB N f))) ∧ Below w.heap.size w w' := by
 obtain ⟨vo, vb, vs, rfl, h1, h2, h3⟩ := h
 obtain ⟨_, ao, co, e1, _, _⟩ := id h1
 obtain ⟨_, ab, cb, e2, _, _⟩ := id h2
 obtain ⟨_, aw, cs, e3, _, _⟩ := id h3
 subst e1 e2 e3
 have e : frameB N f = ((rightB N && framePre N f.ed f.oids.length f.objs.length f.state.length) && rowsB N (-1) f.oids f.objs) := by
  unfold frameB; rw [Bool.and_assoc]
 rw [e]
 cases hp : (rightB N && framePre N f.ed f.oids.length f.objs.length f.state.length)
 ·exact lcheck_no N f.ed _ _ _ ao ab aw co cb cs w hp
 ·rw [Bool.true_and]
  exact lcheck_raw N f.ed f.oids f.objs _ ao ab aw co cb cs w h1 h2 hp
end Go.Proofs.YtdpniceapmikpaaGreat
namespace Go.Proofs.YtdpniceapmikpaaGreat
open Go.RowKit

def askB (N size area : Int) : Bool := rightB N && decide (20 + 3 * N ≤ size) && decide (0 ≤ area) && decide (area ≤ 1)
set_option maxRecDepth 100000 in
set_option maxHeartbeats 4000000 in
theorem asked_any (D : DiskP) (x : DiskD) (N area : Int) (w : World) (h : DiskAt w D x) (hx : x.ok) :
  Calls Tryz.prog 51 #[ptr D.p, .agg #[.int .i64 N], .int .i64 area] w fun e w' => e = .returned (.int .i64 (errB (askB N x.size area))) ∧ Below w.heap.size w w' := by
 have HH := Lib.hid h
 have hs1 := hx.1
 have HX := Lib.hid hx
 unfold ptr at *
 clear h hx
 go_enter Tryz.func51, Tryz.ntmps51
 go_wp2_with fail
 refine (size_any N _).mono ?_; rintro e w1 ⟨rfl, hb⟩
 have hb1 : Below w.heap.size w w1 := ((Below.refl _ w).alloc (Nat.le_refl _) _).trans (hb.mono (by simp))
 have HN := Lib.hid (dsize_any D x w1 (HH.out.below hb1) HX.out)
 have ne : (x.size == 0) = false := by simpa using (by omega : x.size ≠ 0)
 unfold ptr at *
 cases hR : rightB N
 ·go_wp2_with fail
  refine HN.out.mono ?_; rintro e w2 ⟨rfl, rfl⟩
  go_wp2_with fail
  go_ret
  exact ⟨by unfold askB; rw [hR]; rfl, hb1⟩
 ·have eA : askB N x.size area = (!decide (x.size < 20 + 3 * N) && !decide (area < 0) && !decide (1 < area)) := by
   unfold askB
   rw [hR]
   have g1 : decide (20 + 3 * N ≤ x.size) = !decide (x.size < 20 + 3 * N) := by rw [← decide_not]; congr 1; simp [Int.not_lt]
   have g2 : decide (0 ≤ area) = !decide (area < 0) := by rw [← decide_not]; congr 1; simp [Int.not_lt]
   have g3 : decide (area ≤ 1) = !decide (1 < area) := by rw [← decide_not]; congr 1; simp [Int.not_lt]
   rw [g1, g2, g3, Bool.true_and]
  have HA := Lib.hid eA
  clear eA
  cases q1 : decide (x.size < 20 + 3 * N) <;> cases q2 : decide (area < 0) <;> cases q3 : decide (1 < area)
  all_goals
   have Q1 := Lib.hid q1
   have Q2 := Lib.hid q2
   have Q3 := Lib.hid q3
   go_wp2_with fail
   refine HN.out.mono ?_; rintro e w2 ⟨rfl, rfl⟩
   go_wp2_with fail
   refine HN.out.mono ?_; rintro e w2 ⟨rfl, rfl⟩
   go_wp2_with fail
   go_ret
   exact ⟨by rw [HA.out, Q1.out, Q2.out, Q3.out]; rfl, hb1⟩
theorem at_any (N k a t : Int) (w : World) (ht : I64 t) : Calls Tryz.prog 58 #[.agg #[.int .i64 N], .int .i64 k, .int .i64 a, .int .i64 t] w fun e w' => e = .returned (.int .i64 (sectorN N k a t).1) ∧ Below w.heap.size w w' := by
 go_enter Tryz.func58, Tryz.ntmps58
 go_wp2_with fail
 refine (sector_any N k a t _ ht).mono ?_; rintro e w1 ⟨rfl, hb⟩
 have hb1 : Below w.heap.size w w1 := ((Below.refl _ w).alloc (Nat.le_refl _) _).trans (hb.mono (by simp))
 go_wp2_with fail
 go_ret
 exact ⟨rfl, hb1⟩
end Go.Proofs.YtdpniceapmikpaaGreat
namespace Go.Proofs.YtdpniceapmikpaaGreat
open Go.RowKit

theorem run_append_bytes_at (w : World) {base B n : Nat} {v : Value} {xs : List Value} (hown : w.ownsRow base 5 1 v n xs) (ty : TypeId) (a : Option Addr) (cap : Nat) (l : List UInt8)
  (hu : BytesIn w B (.slice a l.length cap) l) (hbytes : n + l.length ≤ 140737488355328) (hbase : base ≤ w.heap.size) :
  ∃ v' w', (Builtin.append_ #[26, 26] ty #[v, .slice a l.length cap]).run Tryz.prog w = .ok v' w' ∧ w'.ownsRow base 5 1 v' (n + l.length) (xs ++ l.map vu8) ∧ w.grownBy w' v.ownBlock ∧ (∀ i, v'.ownBlock = some i → v.ownBlock = some i ∨ i = w.heap.size) := by
 obtain ⟨i0, hi0, hz0, hz1, hz2⟩ := info_parts info_u8
 obtain ⟨hm, a', cap', e, hcap, hc⟩ := hu
 injection e with e1 e2 e3
 subst e1
 cases a with
 | none =>
  have hl : l = [] := by
   cases l with
   | nil => rfl
   | cons c l =>
    obtain ⟨g, off, h, _⟩ := hc 0 c rfl
    cases h
  subst hl
  exact ⟨v, w, run_append_empty w hown ty cap, by simpa using hown, World.grownBy.refl w _, fun i hi => .inl hi⟩
 | some ad =>
  have hnews : ∀ j u, (l.map vu8)[j]? = some u → w.cell? (ad.add j) = some u := by
   intro j u hj
   rw [List.getElem?_map] at hj
   obtain ⟨c, hcj, rfl⟩ := Option.map_eq_some_iff.1 hj
   obtain ⟨g, off, h, _, hcell⟩ := hc j c hcj
   obtain rfl := Option.some.inj h
   rw [add_at]
   exact hcell
  obtain ⟨v', w', hrun, h2, h3, _, h5⟩ := run_append_own_at (P := Tryz.prog) w base 26 ty 5 i0 (.int .u8 0) 1 1 Tryz.underlying26 hi0 hz0 hz1 hz2 rfl (by omega) v n xs hown ad l.length cap (l.map vu8) (by simp) hnews
   (by intro u hu; obtain ⟨c, _, rfl⟩ := List.mem_map.1 hu; rfl) (by unfold maxLen; omega) (by omega) hbase
  refine ⟨v', w', hrun, h2, h3, fun i hi => ?_⟩
  rcases h5 with h5 | h5
  ·exact .inl (by rw [← h5]; exact hi)
  ·exact .inr (by rw [h5] at hi; exact (Option.some.inj hi).symm)
theorem wp_append_bytes_at (w : World) {o : Oper} {a : Act} {K : Act → World → Prop} {Q : Exit → Act → World → Prop} (s x : Operand)
  (ho : o.op = .call { callee := .builtin .append, args := #[s, x], argTypes := #[26, 26] })
  (base B n : Nat) (v : Value) (xs : List Value) (hs : a.eval s = v) (hown : w.ownsRow base 5 1 v n xs) (A : Option Addr) (m cap : Nat) (l : List UInt8) (hx : a.eval x = .slice A m cap) (hm : l.length = m)
  (hu : BytesIn w B (.slice A m cap) l) (hbytes : n + m ≤ 140737488355328) (hbase : base ≤ w.heap.size)
  (h : ∀ v' w', w'.ownsRow base 5 1 v' (n + m) (xs ++ l.map vu8) → w.grownBy w' v.ownBlock → (∀ i, v'.ownBlock = some i → v.ownBlock = some i ∨ i = w.heap.size) → K (a.put o.dst v') w') : o.wp Tryz.prog a w K Q := by
 subst hm
 obtain ⟨v', w', hrun, h2, h3, h4⟩ := run_append_bytes_at w hown o.type A cap l hu hbytes hbase
 unfold Oper.wp execOp
 simp only [ho, resolve, invoke, builtin, Sem.run_bind, Sem.run_pure, Result.andThen_ok, List.map_toArray, List.map_cons, List.map_nil, hs, hx, hrun]
 exact h v' w' h2 h3 h4
theorem wpList_append_bytes_at (w : World) {ops : Array Oper} {rest : List Oper} {o : Oper} {a : Act} {Q : Exit → Act → World → Prop} (hgd : o.guard = none) (s x : Operand)
  (ho : o.op = .call { callee := .builtin .append, args := #[s, x], argTypes := #[26, 26] })
  (base B n : Nat) (v : Value) (xs : List Value) (hs : a.eval s = v) (hown : w.ownsRow base 5 1 v n xs) (A : Option Addr) (m cap : Nat) (l : List UInt8) (hx : a.eval x = .slice A m cap) (hm : l.length = m)
  (hu : BytesIn w B (.slice A m cap) l) (hbytes : n + m ≤ 140737488355328) (hbase : base ≤ w.heap.size)
  (h : ∀ v' w', w'.ownsRow base 5 1 v' (n + m) (xs ++ l.map vu8) → w.grownBy w' v.ownBlock → (∀ i, v'.ownBlock = some i → v.ownBlock = some i ∨ i = w.heap.size) → wpList Tryz.prog ops Q rest (a.put o.dst v') w') : wpList Tryz.prog ops Q (o :: rest) a w :=
 wpList_plain hgd fun _ hK => wp_append_bytes_at w s x ho base B n v xs hs hown A m cap l hx hm hu hbytes hbase (fun v' w' h1 h2 h3 => hK _ _ (h v' w' h1 h2 h3))

/-- what an append to the list in block g may turn -/
structure RowStep (g : Nat) (v v' : Value) (w w' : World) : Prop where
 out : Out (fun i => i = g ∨ v.ownBlock = some i) w w'
 new_ : ∀ i, v'.ownBlock = some i → v.ownBlock = some i ∨ w.heap.size ≤ i
theorem RowStep.refl (g : Nat) (v : Value) (w : World) : RowStep g v v w w := ⟨Out.refl _ _, fun _ h => .inl h⟩
theorem RowStep.trans {g : Nat} {v v1 v2 : Value} {w w1 w2 : World} (h : RowStep g v v1 w w1) (k : RowStep g v1 v2 w1 w2) : RowStep g v v2 w w2 :=
 ⟨h.out.trans k.out (fun i hi hd => hd.elim .inl (fun hd => (h.new_ i hd).elim .inr (fun hs => absurd hs (by omega)))), fun i hi => (k.new_ i hi).elim (h.new_ i) (fun hs => .inr (by have := h.out.size; omega))⟩
theorem RowStep.first {g : Nat} {v v' : Value} {w0 w w1 : World} (h : RowStep g v v' w w1) (hb : Below w0.heap.size w0 w) : RowStep g v v' w0 w1 :=
 ⟨(outB hb : Out (fun i => i = g ∨ v.ownBlock = some i) w0 w).trans h.out (fun _ _ => id), fun i hi => (h.new_ i hi).imp id (fun hs => by have := hb.size; omega)⟩
theorem RowStep.last {g : Nat} {v v' : Value} {w w1 w2 : World} (h : RowStep g v v' w w1) (hb : Below w1.heap.size w1 w2) : RowStep g v v' w w2 :=
 ⟨h.out.trans (G := fun _ => False) (outB hb) (fun _ _ => False.elim), h.new_⟩
/-- a block of another kind than the list's is as it was -/
theorem RowStep.blk {g : Nat} {v v' : Value} {w w' : World} (h : RowStep g v v' w w') {B n : Nat} {xs : List Value} {t : TypeId} {c : Value} (hg : Blk w g t #[c]) (ho : w.ownsRow B 5 1 v n xs) {j : Nat} {t' : TypeId} {cs : Array Value} (hb : Blk w j t' cs) (h1 : j ≠ g) (h2 : t' ≠ 5) : Blk w' j t' cs :=
 h.out.blk hb (fun hd => hd.elim h1 (fun e => ne_own ho hb (Ne.symm h2) j e rfl))
theorem RowStep.below {g B : Nat} {v v' : Value} {w w' : World} (h : RowStep g v v' w w') (hg : B ≤ g) (hv : ∀ i, v.ownBlock = some i → B ≤ i) : ∀ i, i < B → i < w.heap.size → w'.heap[i]? = w.heap[i]? :=
 fun i hi hl => h.out.block i hl (fun hd => hd.elim (fun e => by omega) (fun e => by have := hv i e; omega))
theorem grown_row {w w1 w2 : World} {g : Nat} {v v' : Value} {t : TypeId} {c : Value} (hb : Below w.heap.size w w1) (hg : w1.grownBy w2 v.ownBlock) (hc : Blk w g t #[c]) (hvg : v.ownBlock ≠ some g) (hv : ∀ i, v'.ownBlock = some i → v.ownBlock = some i ∨ i = w1.heap.size) :
  Blk (w2.setCell ⟨g, 0, none⟩ v') g t #[v'] ∧ RowStep g v v' w (w2.setCell ⟨g, 0, none⟩ v') := by
 have hlt := hc.lt
 have k2 : Blk w2 g t #[c] := (hg.block g (by have := hb.size; omega) (Ne.symm hvg)).trans ((hb.block g hlt).trans hc)
 refine ⟨k2.set_ 0 v', ⟨⟨hg.os.trans hb.os, hg.tape.trans hb.tape, hg.output.trans hb.output, by have := hg.size; have := hb.size; simp; omega, fun i hi hn => ?_⟩, fun i hi => (hv i hi).imp id (fun e => by have := hb.size; omega)⟩⟩
 exact (Below.heap_setCell w2 _ _ _ (fun e => hn (.inl e))).trans ((hg.block i (by have := hb.size; omega) (fun e => hn (.inr e.symm))).trans (hb.block i hi))

theorem slice_form {w : World} {B k : Nat} {e : TypeId} {v : Value} {n : Nat} {xs : List Value} (h : w.ownsRow B e k v n xs) : ∃ a cap, v = .slice a n cap := by
 rcases h.2 with ⟨rfl, h0⟩ | ⟨g, cap, cur, rfl, _⟩
 ·exact ⟨none, 0, by rw [h0]⟩
 ·exact ⟨_, _, rfl⟩
set_option maxRecDepth 100000 in
set_option maxHeartbeats 1000000 in
theorem lnumber_any (g B n k : Nat) (t : TypeId) (v : Value) (l : List UInt8) (w : World) (hk : k = 2 ∨ k = 4 ∨ k = 8) (hf : k < 8 → n / 2 ^ (8 * k) = 0) (hn : (n : Int) ≤ 9223372036854775807)
  (hc : Blk w g t #[v]) (ht : t ≠ 5) (ho : w.ownsRow B 5 1 v l.length (l.map vu8)) (hl : l.length ≤ 100000) (hB : B ≤ w.heap.size) :
  Calls Tryz.prog 55 #[ptr g, .int .i64 n, .int .i64 k] w fun e w' => e = .returned (.tuple #[]) ∧ ∃ v', Blk w' g t #[v'] ∧ w'.ownsRow B 5 1 v' (l ++ leB n k).length ((l ++ leB n k).map vu8) ∧ RowStep g v v' w w' := by
 have HP := Lib.hid (put_yes n k w hk hf hn)
 have hne : ∀ i, v.ownBlock = some i → i ≠ g := ne_own ho hc (Ne.symm ht)
 have HO := Lib.hid ho
 have HC := Lib.hid hc
 have hk8 : k ≤ 8 := by omega
 have hke : (leB n k).length = k := leB_len n k
 unfold ptr
 clear ho hc hk hf hn
 go_enter Tryz.func55, Tryz.ntmps55
 go_wp2_with fail
 refine HP.out.mono ?_; rintro e w1 ⟨v1, rfl, hv1, hb⟩
 have hu := BytesIn.own hv1
 obtain ⟨_, a1, cap1, e1, _⟩ := id hu
 rw [hke] at e1
 subst e1
 have HU := Lib.hid hu
 have HO1 := Lib.hid (ownsRow_out (F := fun _ => False) (outB hb) HO.out (fun _ _ => id))
 have HCC := Lib.hid (HC.out.below hb HC.out.lt)
 have c1 := HCC.out.cell_is 0 rfl
 have hlt := HCC.out.lt
 have hsz := hb.size
 clear hu hv1
 go_wp2_with (at_builtin; refine wpList_append_bytes_at w1 rfl _ _ rfl B w1.heap.size l.length v _ rfl HO1.out a1 k cap1 (leB n k) rfl hke HU.out (by omega) (by omega) ?_; intro v2 w2 hO2 hg2 hn2; obtain ⟨a2, cap2, rfl⟩ := slice_form hO2; obtain ⟨q1, q2⟩ := grown_row hb hg2 HC.out (fun e => hne g e rfl) hn2; have cc : Blk w2 g t #[v] := (hg2.block g hlt (fun e => hne g e.symm rfl)).trans HCC.out; have c2 := cc.cell_is 0 rfl; have f2 := cc.frozen 0)
 have hO3 := ownsRow_out (F := fun i => i = g) (out_set (v := .slice a2 (l.length + k) cap2) (i := 0) rfl) hO2 (ne_own hO2 cc (Ne.symm ht))
 exact bodyPost_end (v := .tuple #[]) (by simp [results, Tryz.results55, go_sem]) rfl ⟨rfl, _, q1, by rw [List.length_append, hke, List.map_append]; exact hO3, q2⟩
end Go.Proofs.YtdpniceapmikpaaGreat
namespace Go.Proofs.YtdpniceapmikpaaGreat
open Go.RowKit
set_option maxRecDepth 100000 in
set_option maxHeartbeats 4000000 in
theorem wnumber_any (g B n k : Nat) (t : TypeId) (v : Value) (l : List UInt8) (w : World) (hk : k ≤ 8) (hn : n < 18446744073709551616)
  (hc : Blk w g t #[v]) (ht : t ≠ 5) (ho : w.ownsRow B 5 1 v l.length (l.map vu8)) (hl : l.length ≤ 100000) (hB : B ≤ w.heap.size) :
  Calls Tryz.prog 103 #[ptr g, .int .u64 n, .int .i64 k] w fun e w' => e = .returned (.tuple #[]) ∧ ∃ v', Blk w' g t #[v'] ∧ w'.ownsRow B 5 1 v' (l ++ leB n k).length ((l ++ leB n k).map vu8) ∧ RowStep g v v' w w' := by
 have HO := Lib.hid ho
 have HC := Lib.hid hc
 unfold ptr
 clear ho hc
 go_enter Tryz.func103, Tryz.ntmps103
 go_wp2_with fail
 go_loopw [8] (fun i wr => ∃ (j : Nat) (v' : Value), j ≤ k ∧ i = .int .i64 (j : Int) ∧ Blk wr g t #[v'] ∧ wr.ownsRow B 5 1 v' (l ++ leB n j).length ((l ++ leB n j).map vu8) ∧ RowStep g v v' w wr) (fun i _ => k - (intOf i).toNat)
 case atStart => exact ⟨0, v, Nat.zero_le _, rfl, HC.out, by simpa [leB] using HO.out, RowStep.refl _ _ _⟩
 case round =>
  obtain ⟨j, v1, hj, rfl, hC1, hO1, hS1⟩ := hrel
  by_cases hlt : j < k
  ·have h8 : (j : Int) < (k : Int) := by omega
   have hw8 : IntKind.i64.wrap (8 * (j : Int)) = 8 * (j : Int) := by rw [IntKind.wrap_i64]; omega
   have hb8 := byteAt_int n j
   have HLB := Lib.hid (leB_succ n j)
   have hbyte : IntKind.u8.wrap ((n : Int) / 2 ^ (8 * (j : Int)).toNat) = ((byteAt n j).toNat : Int) := by
    rw [hb8, IntKind.wrap_u8', show (8 * (j : Int)).toNat = 8 * j by omega, Int.natCast_ediv, show (256 : Nat) ^ j = 2 ^ (8 * j) by rw [Nat.pow_mul]]
    simp
   clear hb8
   go_upto_region 3 with fail
   refine wp_region_held_drew (S := (fun _ => True)) (by kernel_rfl) (by (try dsimp only); skip) (fun hHeld => ?_)
   refine tk 0 ?_
   refine tk 1 ?_
   refine tk 2 ?_
   refine tk 3 ?_
   refine tk 4 ?_
   refine tk 6 ?_
   refine tk 7 ?_
   refine tk 8 ?_
   refine tk 9 ?_
   refine tk 10 ?_
   have c1 := hC1.cell_is 0 rfl
   have hlt1 := hC1.lt
   have hne : ∀ i, v1.ownBlock = some i → i ≠ g := ne_own hO1 hC1 (Ne.symm ht)
   obtain ⟨i0, hi0, hz0, hz1, hz2⟩ := info_parts info_u8
   have hlen : (l ++ leB n j).length ≤ 200000 := by rw [List.length_append, leB_len]; omega
   obtain ⟨N, hN⟩ : ∃ N, (l ++ leB n j).length = N := ⟨_, rfl⟩
   rw [hN] at hO1 hlen
   have HNN := Lib.hid hN
   clear hN
   have hsz : B ≤ wr.heap.size := by have := hS1.out.size; omega
   have hbW : Below wr.heap.size wr (wr.drew.alloc (.cells #[vu8 (byteAt n j)] 5)) := ((Below.refl _ wr).drew.alloc (Nat.le_refl _) _)
   have HW := Lib.hid (ownsRow_out (F := fun _ => False) (outB hbW) hO1 (fun _ _ => id))
   have HC1 := Lib.hid hC1
   have HS1 := Lib.hid hS1
   have HBW := Lib.hid hbW
   have c1a := (World.cell?_alloc_lt wr (.cells #[vu8 (byteAt n j)] 5) ⟨g, 0, none⟩ hlt1).trans c1
   clear hO1 hC1 hS1 hbW
   refine wpAnyH_ready (rs := [5, 11]) (by kernel_rfl) (by simp) ?_
   refine AllReadyH.cons rfl (fun K hK => ?_) (AllReadyH.cons rfl (fun K hK => ?_) AllReadyH.nil)
   ·go_simp
    refine hK.out _ _ trivial (fun hHeld => ?_)
    clear hK K
    try simp only [Act.put, pz0, pz1, pz2, pz3, pz4, pz5]
    refine rd 11 fun K hK => ?_
    go_simp
    refine hK.out _ _ trivial (fun hHeld => ?_)
    clear hK K
    try simp only [Act.put, pz0, pz1, pz2, pz3, pz4, pz5]
    refine rd 12 fun K hK => ?_
    rw [if_pos (by rfl)]
    refine wp_append_lies _ (.tmp 16) (.tmp 22) 26 rfl B 5 i0 _ 1 1 Tryz.underlying26 hi0 hz0 hz1 hz2 rfl (by omega) v1 N _ rfl HW.out ⟨wr.drew.heap.size, 0, none⟩ 1 1 [vu8 (byteAt n j)] rfl rfl (World.news_of_block (cs := #[vu8 (byteAt n j)]) (t := 5) (fr := (0, 0)) (heap_alloc_new wr.drew _)) (by simp [Value.oneCell'])
     (by omega) (by unfold maxLen; omega) (by omega) (by simp; omega) (wr.heap.size + 1) (size_alloc _ _) ?_
    intro g3 cap3 w2 hO2 hg2 hat2 hlt2
    obtain ⟨q1, q2⟩ := grown_row HBW.out hg2 HC1.out (fun e => hne g e rfl) (v' := .slice (some ⟨g3, 0, none⟩) (N + 1) cap3) (fun i hi => by
     have hi2 : g3 = i := by simpa [Value.ownBlock] using hi
     subst hi2
     exact hat2.imp id (fun e => e.trans (size_alloc _ _).symm))
    have cc : Blk w2 g t #[v1] := (hg2.block g (Nat.lt_of_lt_of_le hlt1 HBW.out.size) (fun e => hne g e.symm rfl)).trans ((HBW.out.block g hlt1).trans HC1.out)
    have c2 := cc.cell_is 0 rfl
    have f2 := cc.frozen 0
    have hO3 := Lib.hid (ownsRow_out (F := fun i => i = g) (out_set (v := .slice (some ⟨g3, 0, none⟩) (N + 1) cap3) (i := 0) rfl) hO2 (ne_own hO2 cc (Ne.symm ht)))
    refine hK.out _ _ trivial (fun hHeld => ?_)
    clear hK K
    try simp only [Act.put, pz0, pz1, pz2, pz3, pz4, pz5]
    refine tk 13 ?_
    refine tk 14 ?_
    refine tk 15 ?_
    refine rd 16 fun K hK => ?_
    go_simp
    refine hK.out _ _ trivial (fun hHeld => ?_)
    clear hK K
    refine wpAnyH_done (by kernel_rfl) ?_ _
    try simp only [Act.put, pz0, pz1, pz2, pz3, pz4, pz5]
    go_wp2_with fail
    go_roundw
    case rel =>
     refine ⟨j + 1, _, by omega, by simp, q1, ?_, HS1.out.trans q2⟩
     have h := hO3.out
     rw [HLB.out, ← List.append_assoc, List.length_append (bs := [byteAt n j]), HNN.out, List.map_append (l₂ := [byteAt n j])]
     exact h
    case measure => simp [intOf]; omega
   ·go_simp
    refine hK.out _ _ trivial (fun hHeld => ?_)
    clear hK K
    try simp only [Act.put, pz0, pz1, pz2, pz3, pz4, pz5]
    refine rd 5 fun K hK => ?_
    go_simp
    refine hK.out _ _ trivial (fun hHeld => ?_)
    clear hK K
    try simp only [Act.put, pz0, pz1, pz2, pz3, pz4, pz5]
    refine rd 12 fun K hK => ?_
    rw [if_pos (by rfl)]
    refine wp_append_lies _ (.tmp 16) (.tmp 22) 26 rfl B 5 i0 _ 1 1 Tryz.underlying26 hi0 hz0 hz1 hz2 rfl (by omega) v1 N _ rfl HW.out ⟨wr.drew.heap.size, 0, none⟩ 1 1 [vu8 (byteAt n j)] rfl rfl (World.news_of_block (cs := #[vu8 (byteAt n j)]) (t := 5) (fr := (0, 0)) (heap_alloc_new wr.drew _)) (by simp [Value.oneCell'])
     (by omega) (by unfold maxLen; omega) (by omega) (by simp; omega) (wr.heap.size + 1) (size_alloc _ _) ?_
    intro g3 cap3 w2 hO2 hg2 hat2 hlt2
    obtain ⟨q1, q2⟩ := grown_row HBW.out hg2 HC1.out (fun e => hne g e rfl) (v' := .slice (some ⟨g3, 0, none⟩) (N + 1) cap3) (fun i hi => by
     have hi2 : g3 = i := by simpa [Value.ownBlock] using hi
     subst hi2
     exact hat2.imp id (fun e => e.trans (size_alloc _ _).symm))
    have cc : Blk w2 g t #[v1] := (hg2.block g (Nat.lt_of_lt_of_le hlt1 HBW.out.size) (fun e => hne g e.symm rfl)).trans ((HBW.out.block g hlt1).trans HC1.out)
    have c2 := cc.cell_is 0 rfl
    have f2 := cc.frozen 0
    have hO3 := Lib.hid (ownsRow_out (F := fun i => i = g) (out_set (v := .slice (some ⟨g3, 0, none⟩) (N + 1) cap3) (i := 0) rfl) hO2 (ne_own hO2 cc (Ne.symm ht)))
    refine hK.out _ _ trivial (fun hHeld => ?_)
    clear hK K
    try simp only [Act.put, pz0, pz1, pz2, pz3, pz4, pz5]
    refine tk 13 ?_
    refine tk 14 ?_
    refine tk 15 ?_
    refine rd 16 fun K hK => ?_
    go_simp
    refine hK.out _ _ trivial (fun hHeld => ?_)
    clear hK K
    refine wpAnyH_done (by kernel_rfl) ?_ _
    try simp only [Act.put, pz0, pz1, pz2, pz3, pz4, pz5]
    go_wp2_with fail
    go_roundw
    case rel =>
     refine ⟨j + 1, _, by omega, by simp, q1, ?_, HS1.out.trans q2⟩
     have h := hO3.out
     rw [HLB.out, ← List.append_assoc, List.length_append (bs := [byteAt n j]), HNN.out, List.map_append (l₂ := [byteAt n j])]
     exact h
    case measure => simp [intOf]; omega
  ·obtain rfl : j = k := by omega
   go_wp2_with fail
   exact bodyPost_end (v := .tuple #[]) (by simp [results, Tryz.results103, go_sem]) rfl ⟨rfl, v1, hC1, hO1, hS1⟩
end Go.Proofs.YtdpniceapmikpaaGreat
