/-
  Small functions of the reference's logs: fits, at, low, number, parts, part.
  The contract of the reference's Check (logs). (Written by gen_rlchk.py.)
-/
import Derived.Deep.RegionHeld3
import Derived.Test.YtdpniceapmikpaaGreatSt1
import Derived.Test.YtdpniceapmikpaaGreatSt6
import Derived.Test.YtdpniceapmikpaaGreatSt8
import Derived.Test.YtdpniceapmikpaaGreatSt13
import Derived.Test.YtdpniceapmikpaaGreatSt14
import Derived.Test.YtdpniceapmikpaaGreatSt18
set_option linter.unusedVariables false
set_option linter.unusedSimpArgs false
namespace Go.Proofs.YtdpniceapmikpaaGreat
open Go.RowKit

theorem rfits_any (s N : Int) (w : World) : Calls Tryz.prog 47 #[.int .i64 s, .agg #[.int .i64 N]] w fun e w' => e = .returned (.bool (rightB N && decide (20 + 3 * N ≤ s))) ∧ Below w.heap.size w w' := by
 have HR := Lib.hid (fun W => rright_any N W)
 cases hR : rightB N
 ·go_enter Tryz.func47, Tryz.ntmps47
  go_wp2_with fail
  refine (HR.out _).mono ?_; rintro e w1 ⟨rfl, hb⟩
  have hb1 : Below w.heap.size w w1 := ((Below.refl _ w).alloc (Nat.le_refl _) _).trans (hb.mono (by simp))
  rw [hR]
  go_wp2_with fail
  go_ret
  exact ⟨rfl, hb1⟩
 ·obtain ⟨h1, h2⟩ : 1 ≤ N ∧ N ≤ 64 := by simpa [rightB] using hR
  obtain ⟨n, rfl⟩ : ∃ n : Nat, N = n := ⟨N.toNat, by omega⟩
  have HA := Lib.hid (fun W => rall_any n W (by omega))
  have hl := allL_len n
  go_enter Tryz.func47, Tryz.ntmps47
  go_wp2_with fail
  refine (HR.out _).mono ?_; rintro e w1 ⟨rfl, hb⟩
  have hb1 : Below w.heap.size w w1 := ((Below.refl _ w).alloc (Nat.le_refl _) _).trans (hb.mono (by simp))
  have K1 := (((Blk.new w _ (.int .i64 n :: [] |>.toArray) : Blk (w.alloc (.cells #[.int .i64 n] 23)) w.heap.size 23 #[.int .i64 n])).below hb (by simp)).cell_is 0 rfl
  rw [hR]
  go_wp2_with fail
  refine (HA.out _).mono ?_; rintro e w2 ⟨v, rfl, hS, hb2⟩
  have hb3 := hb1.trans (hb2.mono hb1.size)
  obtain ⟨g, cap, rfl, _⟩ := spot_row hS (by omega)
  rw [hl]
  go_wp2_with fail
  go_ret
  exact ⟨by congr 3 <;> simp, hb3⟩
theorem rat_any (N : Nat) (p : Place) (w : World) (hN : 1 ≤ N ∧ N ≤ 64) (h : p.ok N) : Calls Tryz.prog 62 #[.agg #[.int .i64 N], .int .i64 p.k, .int .i64 p.a, .int .i64 p.t] w fun e w' =>
  e = .returned (.int .i64 (p.sec N)) ∧ Below w.heap.size w w' := by
 have HS := Lib.hid (fun W => rsector_yes N p W hN h)
 go_enter Tryz.func62, Tryz.ntmps62
 go_wp2_with fail
 refine (HS.out _).mono ?_; rintro e w1 ⟨rfl, hb⟩
 have hb1 : Below w.heap.size w w1 := ((Below.refl _ w).alloc (Nat.le_refl _) _).trans (hb.mono (by simp))
 go_wp2_with fail
 go_ret
 exact ⟨rfl, hb1⟩
theorem rlow_any (n k : Nat) (w : World) (hk : wideB k = true) (hn : (n : Int) ≤ 9223372036854775807) : Calls Tryz.prog 95 #[.int .i64 n, .int .i64 k] w fun e w' =>
  ∃ v, e = .returned v ∧ w'.ownsRow w.heap.size 5 1 v k ((leB n k).map vu8) ∧ Below w.heap.size w w' := by
 have HP := Lib.hid (rput_yes n k w hk hn)
 go_enter Tryz.func95, Tryz.ntmps95
 go_wp2_with fail
 refine HP.out.mono ?_; rintro e w1 ⟨v, rfl, hO, hb⟩
 go_wp2_with fail
 go_ret
 exact ⟨_, rfl, hO, hb⟩
theorem rnum7_any (v : Value) (bs : List UInt8) (w : World) (hv : BytesIn w w.heap.size v bs) :
  Calls Tryz.prog 66 #[v] w fun e w' => e = .returned (.int .i64 (if getB bs then (leN bs : Int) else 0)) ∧ w = w' := by
 have HP := Lib.hid (rget_any v bs w hv)
 obtain ⟨z, hz⟩ : ∃ z : Int, z = (if getB bs then (leN bs : Int) else 0) := ⟨_, rfl⟩
 rw [← hz] at HP ⊢
 generalize getB bs = q at HP
 clear hz
 go_enter Tryz.func66, Tryz.ntmps66
 go_wp2_with fail
 refine HP.out.mono ?_; rintro e w1 ⟨rfl, rfl⟩
 go_wp2_with fail
 go_ret
 exact ⟨rfl, rfl⟩
theorem rparts_any (n : Nat) (w : World) (hn : n ≤ 1000000000) : Calls Tryz.prog 67 #[.int .i64 n] w fun e w' => e = .returned (.int .i64 (chunksN n)) ∧ w = w' := by
 have e : ((chunksN n : Nat) : Int) = ((n : Int) + 511) / 512 := by unfold chunksN; omega
 rw [e]
 go_enter Tryz.func67, Tryz.ntmps67
 go_wp2_with fail
 go_ret
 refine ⟨?_, rfl⟩
 congr 2
end Go.Proofs.YtdpniceapmikpaaGreat
namespace Go.Proofs.YtdpniceapmikpaaGreat
open Go.RowKit

theorem rchk_step {w W w' : World} {N ed : Int} {vo vb vs : Value}
  (h : Below w.heap.size w W ∧ Blk W w.heap.size 23 #[.int .i64 N] ∧ Blk W (w.heap.size + 1) 28 #[.int .i64 ed, vo, vb, vs]) (hb : Below W.heap.size W w') :
  (Below w.heap.size w w' ∧ Blk w' w.heap.size 23 #[.int .i64 N] ∧ Blk w' (w.heap.size + 1) 28 #[.int .i64 ed, vo, vb, vs]) ∧ w'.cell? ⟨w.heap.size, 0, none⟩ = some (.int .i64 N) ∧ w'.cell? ⟨w.heap.size + 1, 2, none⟩ = some vb ∧ w'.cell? ⟨w.heap.size + 1, 1, none⟩ = some vo :=
 ⟨⟨h.1.trans (hb.mono h.1.size), h.2.1.below hb h.2.1.lt, h.2.2.below hb h.2.2.lt⟩, (h.2.1.below hb h.2.1.lt).cell_is 0 rfl, (h.2.2.below hb h.2.2.lt).cell_is 2 rfl, (h.2.2.below hb h.2.2.lt).cell_is 1 rfl⟩
def prevOf (l : List Int) : Nat → Int
 | 0 => -1
 | i + 1 => l.getD i 0
theorem prevOf_succ (l : List Int) (j : Nat) (x : Int) (h : l[j]? = some x) : prevOf l (j + 1) = x := by
 show l.getD j 0 = x
 rw [List.getD_eq_getElem?_getD, h]; rfl

set_option maxRecDepth 100000 in
set_option maxHeartbeats 8000000 in
theorem rlcheck_raw (N ed : Int) (l : List Int) (m : List ObjD) (sl : Nat) (ao ab aw : Option Addr) (co cb cs : Nat) (w : World)
  (hl : IntsIn w w.heap.size (.slice ao l.length co) l) (hm : ObjsIn w w.heap.size (.slice ab m.length cb) m) (hpre : (rightB N && framePre N ed l.length m.length sl) = true) :
  Calls Tryz.prog 13 #[.agg #[.int .i64 N], .agg #[.int .i64 ed, .slice ao l.length co, .slice ab m.length cb, .slice aw sl cs]] w fun e w' =>
  e = .returned (.int .i64 (errB (rowsB N (-1) l m))) ∧ Below w.heap.size w w' := by
 obtain ⟨hR, hp⟩ : rightB N = true ∧ framePre N ed l.length m.length sl = true := by simpa using hpre
 have hN : 1 ≤ N ∧ N ≤ 64 := by simpa [rightB] using hR
 obtain ⟨h1, h2, h3, h4⟩ : 0 ≤ ed ∧ l.length = m.length ∧ (l.length : Int) ≤ N ∧ sl ≤ 4096 := by
  simp [framePre] at hp
  omega
 obtain ⟨q, hq⟩ : ∃ q, rowsB N (-1) l m = q := ⟨_, rfl⟩
 rw [hq]
 have HQ := Lib.hid hq
 have HLL := Lib.hid h2
 have ne1 : ¬ ed < 0 := by omega
 have ne2 : ¬ (sl : Int) > 4096 := by omega
 have ne3 : ((l.length : Int) != (m.length : Int)) = false := by rw [h2]; simp
 have ne4 : ¬ (l.length : Int) > N := by omega
 clear hq hpre hp h2
 go_enter Tryz.func13, Tryz.ntmps13
 go_wp2_with fail
 refine (rright_any N _).mono ?_; rintro e w1 ⟨rfl, hb⟩
 have K1 : Blk w1 w.heap.size 23 #[.int .i64 N] := ((Blk.new w _ _).alloc _).below hb (by simp; omega)
 have K2 : Blk w1 (w.heap.size + 1) 28 #[.int .i64 ed, .slice ao l.length co, .slice ab m.length cb, .slice aw sl cs] := (Blk.new2 w _ _ _).below hb (by simp)
 have hB := (((Below.refl w.heap.size w).alloc (Nat.le_refl _) (.cells #[.int .i64 N] 23)).alloc (by simp) (.cells #[.int .i64 ed, .slice ao l.length co, .slice ab m.length cb, .slice aw sl cs] 28)).trans (hb.mono (by simp; omega))
 have c0 := K1.cell_is 0 rfl
 have d0 := K2.cell_is 0 rfl
 have d1 := K2.cell_is 1 rfl
 have d2 := K2.cell_is 2 rfl
 have d3 := K2.cell_is 3 rfl
 have he : errB true = 0 := rfl
 have he2 : errB false = 2 := rfl
 rw [hR]
 clear hb
 go_wp2_with fail
 clear c0 d0 d1 d2 d3
 go_loopw [5] (fun i wr => ∃ (j : Nat), j ≤ l.length ∧ i = .int .i64 j ∧ Hid (rowsB N (prevOf l j) (l.drop j) (m.drop j) = q) ∧ Hid (-1 ≤ prevOf l j) ∧ Blk wr w.heap.size 23 #[.int .i64 N] ∧ Blk wr (w.heap.size + 1) 28 #[.int .i64 ed, .slice ao l.length co, .slice ab m.length cb, .slice aw sl cs] ∧ Below w.heap.size w wr) (fun i _ => l.length - (intOf i).toNat)
 case atStart => exact ⟨0, by omega, rfl, Lib.hid HQ.out, Lib.hid (by show (-1 : Int) ≤ -1; omega), K1, K2, hB⟩
 case round =>
  clear K1 K2 hB
  obtain ⟨j, hj, rfl, HT, HG, K1, K2, hB⟩ := hrel
  have hz := hB.size
  have c0 := K1.cell_is 0 rfl
  have d2 := K2.cell_is 2 rfl
  have d1 := K2.cell_is 1 rfl
  by_cases hlt : j < l.length
  ·obtain ⟨oid, hoid⟩ : ∃ c, l[j]? = some c := ⟨_, List.getElem?_eq_getElem hlt⟩
   obtain ⟨x, hx⟩ : ∃ c, m[j]? = some c := ⟨_, List.getElem?_eq_getElem (by have := HLL.out; omega)⟩
   have hlt2 : (j : Int) < (m.length : Int) := by have := HLL.out; omega
   have hT := HT.out
   rw [rowsB_drop N (prevOf l j) l m j oid x hoid hx] at hT
   have HP := Lib.hid (prevOf_succ l j oid hoid)
   obtain ⟨g1, o1, rfl, hg1, hcell1⟩ := hl.at_ hoid
   obtain ⟨hxo, hxr, g2, o2, rfl, hgo, hrg⟩ := hm.at_ hx
   have HR := Lib.hid hrg
   have HC1 := Lib.hid hcell1
   have x0 := (hB.cell (p := ⟨g1, o1 + j, none⟩) hg1).trans hcell1
   clear hx hcell1 hm hrg HT
   cases j with
   | zero =>
    have HJ : Hid (rowsB N (prevOf l 0) (l.drop 0) (m.drop 0) = rowsB N (prevOf l 0) (l.drop 0) (m.drop 0)) := Lib.hid rfl
    have hT0 : (decide (-1 < oid) && (decide (oid < N) && (objB x N && rowsB N oid (l.drop (0 + 1)) (m.drop (0 + 1))))) = q := hT
    have HT2 := Lib.hid hT0
    have hm0 : 0 < m.length := by omega
    clear hT hT0 hl hoid
    have hP : prevOf l (0 + 1) = oid := HP.out
    have HP2 := Lib.hid hP
    clear hP HP
    by_cases hc1 : oid < 0
    ·have hq : q = false := by rw [← HT2.out, decide_eq_false (by omega : ¬ -1 < oid)]; rfl
     have HN := Lib.hid hq
     have f1 : decide (oid < 0) = true := decide_eq_true hc1
     clear hq hc1
     go_upto_region 6 with fail
     have k1 := hB.drew
     have k2 := K1.drew
     have k3 := K2.drew
     refine wp_region_held_drew (S := (fun w' => (Below w.heap.size w w' ∧ Blk w' w.heap.size 23 #[.int .i64 N] ∧ Blk w' (w.heap.size + 1) 28 #[.int .i64 ed, .slice (some ⟨g1, o1, none⟩) l.length co, .slice (some ⟨g2, o2, none⟩) m.length cb, .slice aw sl cs]) ∧ w'.cell? ⟨w.heap.size, 0, none⟩ = some (.int .i64 N) ∧ w'.cell? ⟨w.heap.size + 1, 2, none⟩ = some (.slice (some ⟨g2, o2, none⟩) m.length cb) ∧ w'.cell? ⟨w.heap.size + 1, 1, none⟩ = some (.slice (some ⟨g1, o1, none⟩) l.length co) ∧ w'.cell? ⟨g1, o1, none⟩ = some (.int .i64 oid))) (by kernel_rfl) (by (try dsimp only); (refine ⟨⟨?_, ?_, ?_⟩, ?_, ?_, ?_, ?_⟩ <;> assumption)) (fun hHeld => ?_)
     refine tk 0 ?_
     refine tk 1 ?_
     refine tk 2 ?_
     refine tk 3 ?_
     refine tk 4 ?_
     refine tk 5 ?_
     refine tk 6 ?_
     refine tu 7 ?_
     refine tu 8 ?_
     refine tu 9 ?_
     refine tu 10 ?_
     refine tu 11 ?_
     refine tu 12 ?_
     refine tu 13 ?_
     refine tu 14 ?_
     refine tk 15 ?_
     refine tk 16 ?_
     refine tu 17 ?_
     refine tu 18 ?_
     refine tu 19 ?_
     refine tu 20 ?_
     refine tu 21 ?_
     refine tu 22 ?_
     refine tu 23 ?_
     refine tu 24 ?_
     refine tu 25 ?_
     refine tu 26 ?_
     refine tu 27 ?_
     refine tu 28 ?_
     refine tu 29 ?_
     refine tu 30 ?_
     refine tu 31 ?_
     refine tu 32 ?_
     refine tk 33 ?_
     refine tk 34 ?_
     refine tu 35 ?_
     refine tu 36 ?_
     refine tu 37 ?_
     refine tu 38 ?_
     refine tu 39 ?_
     refine tu 40 ?_
     refine tu 41 ?_
     refine tu 42 ?_
     refine tu 43 ?_
     refine tk 44 ?_
     refine wpAnyH_done (by kernel_rfl) ?_ _
     go_wp2_with fail
     go_ret
     exact ⟨by rw [HN.out]; rfl, by assumption⟩
    ·by_cases hc2 : N ≤ oid
     ·have hq : q = false := by rw [← HT2.out, decide_eq_false (by omega : ¬ oid < N)]; simp
      have HN := Lib.hid hq
      have f1 : decide (oid < 0) = false := decide_eq_false hc1
      have f2 : decide (N ≤ oid) = true := decide_eq_true hc2
      clear hq hc1 hc2
      go_upto_region 6 with fail
      have k1 := hB.drew
      have k2 := K1.drew
      have k3 := K2.drew
      refine wp_region_held_drew (S := (fun w' => (Below w.heap.size w w' ∧ Blk w' w.heap.size 23 #[.int .i64 N] ∧ Blk w' (w.heap.size + 1) 28 #[.int .i64 ed, .slice (some ⟨g1, o1, none⟩) l.length co, .slice (some ⟨g2, o2, none⟩) m.length cb, .slice aw sl cs]) ∧ w'.cell? ⟨w.heap.size, 0, none⟩ = some (.int .i64 N) ∧ w'.cell? ⟨w.heap.size + 1, 2, none⟩ = some (.slice (some ⟨g2, o2, none⟩) m.length cb) ∧ w'.cell? ⟨w.heap.size + 1, 1, none⟩ = some (.slice (some ⟨g1, o1, none⟩) l.length co) ∧ w'.cell? ⟨g1, o1, none⟩ = some (.int .i64 oid))) (by kernel_rfl) (by (try dsimp only); (refine ⟨⟨?_, ?_, ?_⟩, ?_, ?_, ?_, ?_⟩ <;> assumption)) (fun hHeld => ?_)
      refine tk 0 ?_
      refine tk 1 ?_
      refine tk 2 ?_
      refine tk 3 ?_
      refine tk 4 ?_
      refine tk 5 ?_
      refine tk 6 ?_
      refine tk 7 ?_
      refine tk 8 ?_
      refine tk 9 ?_
      refine tk 10 ?_
      refine tk 11 ?_
      refine tk 12 ?_
      refine tk 13 ?_
      refine tk 14 ?_
      refine tk 15 ?_
      refine tk 16 ?_
      refine tu 17 ?_
      refine tu 18 ?_
      refine tu 19 ?_
      refine tu 20 ?_
      refine tu 21 ?_
      refine tu 22 ?_
      refine tu 23 ?_
      refine tu 24 ?_
      refine tu 25 ?_
      refine tu 26 ?_
      refine tu 27 ?_
      refine tu 28 ?_
      refine tu 29 ?_
      refine tu 30 ?_
      refine tu 31 ?_
      refine tu 32 ?_
      refine tk 33 ?_
      refine tk 34 ?_
      refine tu 35 ?_
      refine tu 36 ?_
      refine tu 37 ?_
      refine tu 38 ?_
      refine tu 39 ?_
      refine tu 40 ?_
      refine tu 41 ?_
      refine tu 42 ?_
      refine tu 43 ?_
      refine tk 44 ?_
      refine wpAnyH_done (by kernel_rfl) ?_ _
      go_wp2_with fail
      go_ret
      exact ⟨by rw [HN.out]; rfl, by assumption⟩
     ·have hT3 : (objB x N && rowsB N oid (l.drop (0 + 1)) (m.drop (0 + 1))) = q := by
       have := HT2.out
       rwa [decide_eq_true (by omega : -1 < oid), decide_eq_true (by omega : oid < N), Bool.true_and, Bool.true_and] at this
      have HT3 := Lib.hid hT3
      have f1 : decide (oid < 0) = false := decide_eq_false hc1
      have f2 : decide (N ≤ oid) = false := decide_eq_false hc2
      have HG2 : Hid (-1 ≤ prevOf l (0 + 1)) := Lib.hid (by rw [HP2.out]; omega)
      clear hT3 HT2 hc1 hc2
      cases hO : objB x N
      ·have hq : q = false := by rw [← HT3.out, hO]; rfl
       have HN := Lib.hid hq
       clear hq
       have he3 : errB (objB x N) = 2 := by rw [hO]; rfl
       go_upto_region 6 with fail
       have k1 := hB.drew
       have k2 := K1.drew
       have k3 := K2.drew
       refine wp_region_held_drew (S := (fun w' => (Below w.heap.size w w' ∧ Blk w' w.heap.size 23 #[.int .i64 N] ∧ Blk w' (w.heap.size + 1) 28 #[.int .i64 ed, .slice (some ⟨g1, o1, none⟩) l.length co, .slice (some ⟨g2, o2, none⟩) m.length cb, .slice aw sl cs]) ∧ w'.cell? ⟨w.heap.size, 0, none⟩ = some (.int .i64 N) ∧ w'.cell? ⟨w.heap.size + 1, 2, none⟩ = some (.slice (some ⟨g2, o2, none⟩) m.length cb) ∧ w'.cell? ⟨w.heap.size + 1, 1, none⟩ = some (.slice (some ⟨g1, o1, none⟩) l.length co) ∧ w'.cell? ⟨g1, o1, none⟩ = some (.int .i64 oid))) (by kernel_rfl) (by (try dsimp only); (refine ⟨⟨?_, ?_, ?_⟩, ?_, ?_, ?_, ?_⟩ <;> assumption)) (fun hHeld => ?_)
       refine tk 0 ?_
       refine tk 1 ?_
       refine tk 2 ?_
       refine tk 3 ?_
       refine tk 4 ?_
       refine tk 5 ?_
       refine tk 6 ?_
       refine tk 7 ?_
       refine tk 8 ?_
       refine tk 9 ?_
       refine tk 10 ?_
       refine tk 11 ?_
       refine tk 12 ?_
       refine tk 13 ?_
       refine tk 14 ?_
       refine tk 15 ?_
       refine tk 16 ?_
       refine tk 17 ?_
       refine tk 18 ?_
       refine tk 19 ?_
       refine tu 20 ?_
       refine tu 21 ?_
       refine tu 22 ?_
       refine tu 23 ?_
       refine tu 24 ?_
       refine tu 25 ?_
       refine tu 26 ?_
       refine tu 27 ?_
       refine tu 28 ?_
       refine tu 29 ?_
       refine tu 30 ?_
       refine tu 31 ?_
       refine tk 32 ?_
       refine tk 33 ?_
       refine tk 34 ?_
       refine tk 35 ?_
       refine tk 36 ?_
       refine tk 37 ?_
       refine tk 38 ?_
       refine ty 39 rfl (yieldsIf_load_mid (by rfl) 62 _ rfl _ _ rfl x.cells _ (fun w' h => range_below HR.out h.1.1 hgo) Tryz.underlying62 rfl (by rw [ObjD.len hxo]; kernel_rfl)) ?_
       try simp only [Act.put, Array.toArray_toList, List.toArray_toList, pz0, pz1, pz2, pz3, pz4, pz5]
       refine tk 40 ?_
       refine tk 41 ?_
       refine rd 42 fun K hK => ?_
       go_simp
       (refine (rocheck_any x hxo hxr N _).mono ?_; rintro e w' ⟨rfl, hb⟩; obtain ⟨⟨z1, z2, z3⟩, z4, z5, z6⟩ := rchk_step hHeld.1 hb; have z7 := (z1.cell (p := ⟨g1, o1, none⟩) hg1).trans HC1.out; clear hb)
       go_wp2_with fail
       refine hK.out _ _ (by (try dsimp only); (refine ⟨⟨?_, ?_, ?_⟩, ?_, ?_, ?_, ?_⟩ <;> assumption)) (fun hHeld => ?_)
       clear hK K
       try simp only [Act.put, pz0, pz1, pz2, pz3, pz4, pz5]
       refine tk 43 ?_
       refine tk 44 ?_
       refine wpAnyH_done (by kernel_rfl) ?_ _
       go_wp2_with fail
       go_ret
       exact ⟨by rw [HN.out]; rfl, by assumption⟩
      ·have HT4 := HT3.out
       rw [hO, Bool.true_and, ← HP2.out] at HT4
       have HT5 := Lib.hid HT4
       clear HT4
       have he3 : errB (objB x N) = 0 := by rw [hO]; rfl
       go_upto_region 6 with fail
       have k1 := hB.drew
       have k2 := K1.drew
       have k3 := K2.drew
       refine wp_region_held_drew (S := (fun w' => (Below w.heap.size w w' ∧ Blk w' w.heap.size 23 #[.int .i64 N] ∧ Blk w' (w.heap.size + 1) 28 #[.int .i64 ed, .slice (some ⟨g1, o1, none⟩) l.length co, .slice (some ⟨g2, o2, none⟩) m.length cb, .slice aw sl cs]) ∧ w'.cell? ⟨w.heap.size, 0, none⟩ = some (.int .i64 N) ∧ w'.cell? ⟨w.heap.size + 1, 2, none⟩ = some (.slice (some ⟨g2, o2, none⟩) m.length cb) ∧ w'.cell? ⟨w.heap.size + 1, 1, none⟩ = some (.slice (some ⟨g1, o1, none⟩) l.length co) ∧ w'.cell? ⟨g1, o1, none⟩ = some (.int .i64 oid))) (by kernel_rfl) (by (try dsimp only); (refine ⟨⟨?_, ?_, ?_⟩, ?_, ?_, ?_, ?_⟩ <;> assumption)) (fun hHeld => ?_)
       refine tk 0 ?_
       refine tk 1 ?_
       refine tk 2 ?_
       refine tk 3 ?_
       refine tk 4 ?_
       refine tk 5 ?_
       refine tk 6 ?_
       refine tk 7 ?_
       refine tk 8 ?_
       refine tk 9 ?_
       refine tk 10 ?_
       refine tk 11 ?_
       refine tk 12 ?_
       refine tk 13 ?_
       refine tk 14 ?_
       refine tk 15 ?_
       refine tk 16 ?_
       refine tk 17 ?_
       refine tk 18 ?_
       refine tk 19 ?_
       refine tu 20 ?_
       refine tu 21 ?_
       refine tu 22 ?_
       refine tu 23 ?_
       refine tu 24 ?_
       refine tu 25 ?_
       refine tu 26 ?_
       refine tu 27 ?_
       refine tu 28 ?_
       refine tu 29 ?_
       refine tu 30 ?_
       refine tu 31 ?_
       refine tk 32 ?_
       refine tk 33 ?_
       refine tk 34 ?_
       refine tk 35 ?_
       refine tk 36 ?_
       refine tk 37 ?_
       refine tk 38 ?_
       refine ty 39 rfl (yieldsIf_load_mid (by rfl) 62 _ rfl _ _ rfl x.cells _ (fun w' h => range_below HR.out h.1.1 hgo) Tryz.underlying62 rfl (by rw [ObjD.len hxo]; kernel_rfl)) ?_
       try simp only [Act.put, Array.toArray_toList, List.toArray_toList, pz0, pz1, pz2, pz3, pz4, pz5]
       refine tk 40 ?_
       refine tk 41 ?_
       refine rd 42 fun K hK => ?_
       go_simp
       (refine (rocheck_any x hxo hxr N _).mono ?_; rintro e w' ⟨rfl, hb⟩; obtain ⟨⟨z1, z2, z3⟩, z4, z5, z6⟩ := rchk_step hHeld.1 hb; have z7 := (z1.cell (p := ⟨g1, o1, none⟩) hg1).trans HC1.out; clear hb)
       go_wp2_with fail
       refine hK.out _ _ (by (try dsimp only); (refine ⟨⟨?_, ?_, ?_⟩, ?_, ?_, ?_, ?_⟩ <;> assumption)) (fun hHeld => ?_)
       clear hK K
       try simp only [Act.put, pz0, pz1, pz2, pz3, pz4, pz5]
       refine tk 43 ?_
       refine tk 44 ?_
       refine wpAnyH_done (by kernel_rfl) ?_ _
       go_wp2_with fail
       exact ⟨⟨0 + 1, by omega, by go_num, HT5, HG2, by assumption, by assumption, by assumption⟩, by simp [intOf] <;> omega⟩
   | succ i =>
    obtain ⟨la, hla⟩ : ∃ c, l[i]? = some c := ⟨_, List.getElem?_eq_getElem (by omega)⟩
    rw [prevOf_succ l i la hla] at hT
    obtain ⟨g1', o1', e1', _, hcell2⟩ := hl.at_ hla
    injection e1' with e1'
    injection e1' with eg eo _
    subst eg eo
    have HC2 := Lib.hid hcell2
    have y0 := (hB.cell (p := ⟨g1, o1 + i, none⟩) hg1).trans hcell2
    have HT2 := Lib.hid hT
    have hlt3 : (i : Int) < (l.length : Int) := by omega
    have hp0 : (0 : Int) ≤ (i : Int) + 1 := by omega
    have hp1 : (0 : Int) < (i : Int) + 1 := by omega
    have hlt4 : (i : Int) + 1 < (m.length : Int) := by omega
    have hlt5 : (i : Int) + 1 < (l.length : Int) := by omega
    have hwr : IntKind.i64.wrap (i : Int) = (i : Int) := wrap_small i (by omega)
    have hge : -1 ≤ la := by have := HG.out; rwa [prevOf_succ l i la hla] at this
    clear hT hcell2 hl hoid hla
    by_cases hc1 : oid < 0
    ·have hq : q = false := by
      rw [← HT2.out]
      rw [decide_eq_false (by omega : ¬ la < oid)]; rfl
     have HN := Lib.hid hq
     have f1 : decide (oid < 0) = true := decide_eq_true hc1
     clear hq hc1
     go_upto_region 6 with fail
     have k1 := hB.drew
     have k2 := K1.drew
     have k3 := K2.drew
     refine wp_region_held_drew (S := (fun w' => (Below w.heap.size w w' ∧ Blk w' w.heap.size 23 #[.int .i64 N] ∧ Blk w' (w.heap.size + 1) 28 #[.int .i64 ed, .slice (some ⟨g1, o1, none⟩) l.length co, .slice (some ⟨g2, o2, none⟩) m.length cb, .slice aw sl cs]) ∧ w'.cell? ⟨w.heap.size, 0, none⟩ = some (.int .i64 N) ∧ w'.cell? ⟨w.heap.size + 1, 2, none⟩ = some (.slice (some ⟨g2, o2, none⟩) m.length cb) ∧ w'.cell? ⟨w.heap.size + 1, 1, none⟩ = some (.slice (some ⟨g1, o1, none⟩) l.length co) ∧ w'.cell? ⟨g1, o1 + (i + 1), none⟩ = some (.int .i64 oid) ∧ w'.cell? ⟨g1, o1 + i, none⟩ = some (.int .i64 la))) (by kernel_rfl) (by (try dsimp only); (refine ⟨⟨?_, ?_, ?_⟩, ?_, ?_, ?_, ?_, ?_⟩ <;> assumption)) (fun hHeld => ?_)
     refine tk 0 ?_
     refine tk 1 ?_
     refine tk 2 ?_
     refine tk 3 ?_
     refine tk 4 ?_
     refine tk 5 ?_
     refine tk 6 ?_
     refine tu 7 ?_
     refine tu 8 ?_
     refine tu 9 ?_
     refine tu 10 ?_
     refine tu 11 ?_
     refine tu 12 ?_
     refine tu 13 ?_
     refine tu 14 ?_
     refine tk 15 ?_
     refine tk 16 ?_
     refine tu 17 ?_
     refine tu 18 ?_
     refine tu 19 ?_
     refine tu 20 ?_
     refine tu 21 ?_
     refine tu 22 ?_
     refine tu 23 ?_
     refine tu 24 ?_
     refine tu 25 ?_
     refine tu 26 ?_
     refine tu 27 ?_
     refine tu 28 ?_
     refine tu 29 ?_
     refine tu 30 ?_
     refine tu 31 ?_
     refine tu 32 ?_
     refine tk 33 ?_
     refine tk 34 ?_
     refine tu 35 ?_
     refine tu 36 ?_
     refine tu 37 ?_
     refine tu 38 ?_
     refine tu 39 ?_
     refine tu 40 ?_
     refine tu 41 ?_
     refine tu 42 ?_
     refine tu 43 ?_
     refine tk 44 ?_
     refine wpAnyH_done (by kernel_rfl) ?_ _
     go_wp2_with fail
     go_ret
     exact ⟨by rw [HN.out]; rfl, by assumption⟩
    ·by_cases hc2 : N ≤ oid
     ·have hq : q = false := by rw [← HT2.out, decide_eq_false (by omega : ¬ oid < N)]; simp
      have HN := Lib.hid hq
      have f1 : decide (oid < 0) = false := decide_eq_false hc1
      have f2 : decide (N ≤ oid) = true := decide_eq_true hc2
      clear hq hc1 hc2
      go_upto_region 6 with fail
      have k1 := hB.drew
      have k2 := K1.drew
      have k3 := K2.drew
      refine wp_region_held_drew (S := (fun w' => (Below w.heap.size w w' ∧ Blk w' w.heap.size 23 #[.int .i64 N] ∧ Blk w' (w.heap.size + 1) 28 #[.int .i64 ed, .slice (some ⟨g1, o1, none⟩) l.length co, .slice (some ⟨g2, o2, none⟩) m.length cb, .slice aw sl cs]) ∧ w'.cell? ⟨w.heap.size, 0, none⟩ = some (.int .i64 N) ∧ w'.cell? ⟨w.heap.size + 1, 2, none⟩ = some (.slice (some ⟨g2, o2, none⟩) m.length cb) ∧ w'.cell? ⟨w.heap.size + 1, 1, none⟩ = some (.slice (some ⟨g1, o1, none⟩) l.length co) ∧ w'.cell? ⟨g1, o1 + (i + 1), none⟩ = some (.int .i64 oid) ∧ w'.cell? ⟨g1, o1 + i, none⟩ = some (.int .i64 la))) (by kernel_rfl) (by (try dsimp only); (refine ⟨⟨?_, ?_, ?_⟩, ?_, ?_, ?_, ?_, ?_⟩ <;> assumption)) (fun hHeld => ?_)
      refine tk 0 ?_
      refine tk 1 ?_
      refine tk 2 ?_
      refine tk 3 ?_
      refine tk 4 ?_
      refine tk 5 ?_
      refine tk 6 ?_
      refine tk 7 ?_
      refine tk 8 ?_
      refine tk 9 ?_
      refine tk 10 ?_
      refine tk 11 ?_
      refine tk 12 ?_
      refine tk 13 ?_
      refine tk 14 ?_
      refine tk 15 ?_
      refine tk 16 ?_
      refine tu 17 ?_
      refine tu 18 ?_
      refine tu 19 ?_
      refine tu 20 ?_
      refine tu 21 ?_
      refine tu 22 ?_
      refine tu 23 ?_
      refine tu 24 ?_
      refine tu 25 ?_
      refine tu 26 ?_
      refine tu 27 ?_
      refine tu 28 ?_
      refine tu 29 ?_
      refine tu 30 ?_
      refine tu 31 ?_
      refine tu 32 ?_
      refine tk 33 ?_
      refine tk 34 ?_
      refine tu 35 ?_
      refine tu 36 ?_
      refine tu 37 ?_
      refine tu 38 ?_
      refine tu 39 ?_
      refine tu 40 ?_
      refine tu 41 ?_
      refine tu 42 ?_
      refine tu 43 ?_
      refine tk 44 ?_
      refine wpAnyH_done (by kernel_rfl) ?_ _
      go_wp2_with fail
      go_ret
      exact ⟨by rw [HN.out]; rfl, by assumption⟩
     ·by_cases hc3 : oid ≤ la
      ·have hq : q = false := by rw [← HT2.out, decide_eq_false (by omega : ¬ la < oid)]; rfl
       have HN := Lib.hid hq
       have f1 : decide (oid < 0) = false := decide_eq_false hc1
       have f2 : decide (N ≤ oid) = false := decide_eq_false hc2
       have f3 : decide (oid ≤ la) = true := decide_eq_true hc3
       clear hq hc1 hc2 hc3
       go_upto_region 6 with fail
       have k1 := hB.drew
       have k2 := K1.drew
       have k3 := K2.drew
       refine wp_region_held_drew (S := (fun w' => (Below w.heap.size w w' ∧ Blk w' w.heap.size 23 #[.int .i64 N] ∧ Blk w' (w.heap.size + 1) 28 #[.int .i64 ed, .slice (some ⟨g1, o1, none⟩) l.length co, .slice (some ⟨g2, o2, none⟩) m.length cb, .slice aw sl cs]) ∧ w'.cell? ⟨w.heap.size, 0, none⟩ = some (.int .i64 N) ∧ w'.cell? ⟨w.heap.size + 1, 2, none⟩ = some (.slice (some ⟨g2, o2, none⟩) m.length cb) ∧ w'.cell? ⟨w.heap.size + 1, 1, none⟩ = some (.slice (some ⟨g1, o1, none⟩) l.length co) ∧ w'.cell? ⟨g1, o1 + (i + 1), none⟩ = some (.int .i64 oid) ∧ w'.cell? ⟨g1, o1 + i, none⟩ = some (.int .i64 la))) (by kernel_rfl) (by (try dsimp only); (refine ⟨⟨?_, ?_, ?_⟩, ?_, ?_, ?_, ?_, ?_⟩ <;> assumption)) (fun hHeld => ?_)
       refine tk 0 ?_
       refine tk 1 ?_
       refine tk 2 ?_
       refine tk 3 ?_
       refine tk 4 ?_
       refine tk 5 ?_
       refine tk 6 ?_
       refine tk 7 ?_
       refine tk 8 ?_
       refine tk 9 ?_
       refine tk 10 ?_
       refine tk 11 ?_
       refine tk 12 ?_
       refine tk 13 ?_
       refine tk 14 ?_
       refine tk 15 ?_
       refine tk 16 ?_
       refine tk 17 ?_
       refine tk 18 ?_
       refine tk 19 ?_
       refine tk 20 ?_
       refine tk 21 ?_
       refine tk 22 ?_
       refine tk 23 ?_
       refine tk 24 ?_
       refine tk 25 ?_
       refine tk 26 ?_
       refine tk 27 ?_
       refine tk 28 ?_
       refine tk 29 ?_
       refine tk 30 ?_
       refine tk 31 ?_
       refine tk 32 ?_
       refine tk 33 ?_
       refine tk 34 ?_
       refine tu 35 ?_
       refine tu 36 ?_
       refine tu 37 ?_
       refine tu 38 ?_
       refine tu 39 ?_
       refine tu 40 ?_
       refine tu 41 ?_
       refine tu 42 ?_
       refine tu 43 ?_
       refine tk 44 ?_
       refine wpAnyH_done (by kernel_rfl) ?_ _
       go_wp2_with fail
       go_ret
       exact ⟨by rw [HN.out]; rfl, by assumption⟩
      ·have hT3 : (objB x N && rowsB N oid (l.drop (i + 1 + 1)) (m.drop (i + 1 + 1))) = q := by
        have := HT2.out
        rwa [decide_eq_true (by omega : la < oid), decide_eq_true (by omega : oid < N), Bool.true_and, Bool.true_and] at this
       have HT3 := Lib.hid hT3
       have f1 : decide (oid < 0) = false := decide_eq_false hc1
       have f2 : decide (N ≤ oid) = false := decide_eq_false hc2
       have f3 : decide (oid ≤ la) = false := decide_eq_false hc3
       have HG2 : Hid (-1 ≤ prevOf l (i + 1 + 1)) := Lib.hid (by rw [HP.out]; omega)
       clear hT3 HT2 hc1 hc2 hc3
       cases hO : objB x N
       ·have hq : q = false := by rw [← HT3.out, hO]; rfl
        have HN := Lib.hid hq
        clear hq
        have he3 : errB (objB x N) = 2 := by rw [hO]; rfl
        go_upto_region 6 with fail
        have k1 := hB.drew
        have k2 := K1.drew
        have k3 := K2.drew
        refine wp_region_held_drew (S := (fun w' => (Below w.heap.size w w' ∧ Blk w' w.heap.size 23 #[.int .i64 N] ∧ Blk w' (w.heap.size + 1) 28 #[.int .i64 ed, .slice (some ⟨g1, o1, none⟩) l.length co, .slice (some ⟨g2, o2, none⟩) m.length cb, .slice aw sl cs]) ∧ w'.cell? ⟨w.heap.size, 0, none⟩ = some (.int .i64 N) ∧ w'.cell? ⟨w.heap.size + 1, 2, none⟩ = some (.slice (some ⟨g2, o2, none⟩) m.length cb) ∧ w'.cell? ⟨w.heap.size + 1, 1, none⟩ = some (.slice (some ⟨g1, o1, none⟩) l.length co) ∧ w'.cell? ⟨g1, o1 + (i + 1), none⟩ = some (.int .i64 oid) ∧ w'.cell? ⟨g1, o1 + i, none⟩ = some (.int .i64 la))) (by kernel_rfl) (by (try dsimp only); (refine ⟨⟨?_, ?_, ?_⟩, ?_, ?_, ?_, ?_, ?_⟩ <;> assumption)) (fun hHeld => ?_)
        refine tk 0 ?_
        refine tk 1 ?_
        refine tk 2 ?_
        refine tk 3 ?_
        refine tk 4 ?_
        refine tk 5 ?_
        refine tk 6 ?_
        refine tk 7 ?_
        refine tk 8 ?_
        refine tk 9 ?_
        refine tk 10 ?_
        refine tk 11 ?_
        refine tk 12 ?_
        refine tk 13 ?_
        refine tk 14 ?_
        refine tk 15 ?_
        refine tk 16 ?_
        refine tk 17 ?_
        refine tk 18 ?_
        refine tk 19 ?_
        refine tk 20 ?_
        refine tk 21 ?_
        refine tk 22 ?_
        refine tk 23 ?_
        refine tk 24 ?_
        refine tk 25 ?_
        refine tk 26 ?_
        refine tk 27 ?_
        refine tk 28 ?_
        refine tk 29 ?_
        refine tk 30 ?_
        refine tk 31 ?_
        refine tk 32 ?_
        refine tk 33 ?_
        refine tk 34 ?_
        refine tk 35 ?_
        refine tk 36 ?_
        refine tk 37 ?_
        refine tk 38 ?_
        refine ty 39 rfl (yieldsIf_load_mid (by rfl) 62 _ rfl _ _ rfl x.cells _ (fun w' h => range_below HR.out h.1.1 hgo) Tryz.underlying62 rfl (by rw [ObjD.len hxo]; kernel_rfl)) ?_
        try simp only [Act.put, Array.toArray_toList, List.toArray_toList, pz0, pz1, pz2, pz3, pz4, pz5]
        refine tk 40 ?_
        refine tk 41 ?_
        refine rd 42 fun K hK => ?_
        go_simp
        (refine (rocheck_any x hxo hxr N _).mono ?_; rintro e w' ⟨rfl, hb⟩; obtain ⟨⟨z1, z2, z3⟩, z4, z5, z6⟩ := rchk_step hHeld.1 hb; have z7 := (z1.cell (p := ⟨g1, o1 + (i + 1), none⟩) hg1).trans HC1.out; have z8 := (z1.cell (p := ⟨g1, o1 + i, none⟩) hg1).trans HC2.out; clear hb)
        go_wp2_with fail
        refine hK.out _ _ (by (try dsimp only); (refine ⟨⟨?_, ?_, ?_⟩, ?_, ?_, ?_, ?_, ?_⟩ <;> assumption)) (fun hHeld => ?_)
        clear hK K
        try simp only [Act.put, pz0, pz1, pz2, pz3, pz4, pz5]
        refine tk 43 ?_
        refine tk 44 ?_
        refine wpAnyH_done (by kernel_rfl) ?_ _
        go_wp2_with fail
        go_ret
        exact ⟨by rw [HN.out]; rfl, by assumption⟩
       ·have HT4 := HT3.out
        rw [hO, Bool.true_and, ← HP.out] at HT4
        have HT5 := Lib.hid HT4
        clear HT4
        have he3 : errB (objB x N) = 0 := by rw [hO]; rfl
        go_upto_region 6 with fail
        have k1 := hB.drew
        have k2 := K1.drew
        have k3 := K2.drew
        refine wp_region_held_drew (S := (fun w' => (Below w.heap.size w w' ∧ Blk w' w.heap.size 23 #[.int .i64 N] ∧ Blk w' (w.heap.size + 1) 28 #[.int .i64 ed, .slice (some ⟨g1, o1, none⟩) l.length co, .slice (some ⟨g2, o2, none⟩) m.length cb, .slice aw sl cs]) ∧ w'.cell? ⟨w.heap.size, 0, none⟩ = some (.int .i64 N) ∧ w'.cell? ⟨w.heap.size + 1, 2, none⟩ = some (.slice (some ⟨g2, o2, none⟩) m.length cb) ∧ w'.cell? ⟨w.heap.size + 1, 1, none⟩ = some (.slice (some ⟨g1, o1, none⟩) l.length co) ∧ w'.cell? ⟨g1, o1 + (i + 1), none⟩ = some (.int .i64 oid) ∧ w'.cell? ⟨g1, o1 + i, none⟩ = some (.int .i64 la))) (by kernel_rfl) (by (try dsimp only); (refine ⟨⟨?_, ?_, ?_⟩, ?_, ?_, ?_, ?_, ?_⟩ <;> assumption)) (fun hHeld => ?_)
        refine tk 0 ?_
        refine tk 1 ?_
        refine tk 2 ?_
        refine tk 3 ?_
        refine tk 4 ?_
        refine tk 5 ?_
        refine tk 6 ?_
        refine tk 7 ?_
        refine tk 8 ?_
        refine tk 9 ?_
        refine tk 10 ?_
        refine tk 11 ?_
        refine tk 12 ?_
        refine tk 13 ?_
        refine tk 14 ?_
        refine tk 15 ?_
        refine tk 16 ?_
        refine tk 17 ?_
        refine tk 18 ?_
        refine tk 19 ?_
        refine tk 20 ?_
        refine tk 21 ?_
        refine tk 22 ?_
        refine tk 23 ?_
        refine tk 24 ?_
        refine tk 25 ?_
        refine tk 26 ?_
        refine tk 27 ?_
        refine tk 28 ?_
        refine tk 29 ?_
        refine tk 30 ?_
        refine tk 31 ?_
        refine tk 32 ?_
        refine tk 33 ?_
        refine tk 34 ?_
        refine tk 35 ?_
        refine tk 36 ?_
        refine tk 37 ?_
        refine tk 38 ?_
        refine ty 39 rfl (yieldsIf_load_mid (by rfl) 62 _ rfl _ _ rfl x.cells _ (fun w' h => range_below HR.out h.1.1 hgo) Tryz.underlying62 rfl (by rw [ObjD.len hxo]; kernel_rfl)) ?_
        try simp only [Act.put, Array.toArray_toList, List.toArray_toList, pz0, pz1, pz2, pz3, pz4, pz5]
        refine tk 40 ?_
        refine tk 41 ?_
        refine rd 42 fun K hK => ?_
        go_simp
        (refine (rocheck_any x hxo hxr N _).mono ?_; rintro e w' ⟨rfl, hb⟩; obtain ⟨⟨z1, z2, z3⟩, z4, z5, z6⟩ := rchk_step hHeld.1 hb; have z7 := (z1.cell (p := ⟨g1, o1 + (i + 1), none⟩) hg1).trans HC1.out; have z8 := (z1.cell (p := ⟨g1, o1 + i, none⟩) hg1).trans HC2.out; clear hb)
        go_wp2_with fail
        refine hK.out _ _ (by (try dsimp only); (refine ⟨⟨?_, ?_, ?_⟩, ?_, ?_, ?_, ?_, ?_⟩ <;> assumption)) (fun hHeld => ?_)
        clear hK K
        try simp only [Act.put, pz0, pz1, pz2, pz3, pz4, pz5]
        refine tk 43 ?_
        refine tk 44 ?_
        refine wpAnyH_done (by kernel_rfl) ?_ _
        go_wp2_with fail
        exact ⟨⟨i + 1 + 1, by omega, by go_num, HT5, HG2, by assumption, by assumption, by assumption⟩, by simp [intOf] <;> omega⟩
  ·obtain rfl : j = l.length := by omega
   have hq : q = true := by
    rw [← HT.out]
    exact rowsB_end N _ l m l.length rfl HLL.out.symm
   have HN := Lib.hid hq
   clear hq
   go_wp2_with fail
   go_ret
   exact ⟨by rw [HN.out]; rfl, hB⟩
end Go.Proofs.YtdpniceapmikpaaGreat
