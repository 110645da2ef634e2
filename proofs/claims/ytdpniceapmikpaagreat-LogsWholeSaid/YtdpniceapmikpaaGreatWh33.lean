/-
  disk.Crash: the disk that a crash leaves. (Written by gen_lcrash.py.)
-/
import Derived.Test.YtdpniceapmikpaaGreatWh22
import Derived.Test.YtdpniceapmikpaaGreatWh29
import Derived.Test.YtdpniceapmikpaaGreatWh31
import Derived.Test.YtdpniceapmikpaaGreatWh32
set_option linter.unusedVariables false
set_option linter.unusedSimpArgs false
namespace Go.Proofs.YtdpniceapmikpaaGreat
open Go.RowKit Go.Shelf

attribute [local go_sem] Oper.semAt_some

def BoolsIn (W : World) (B : Nat) (v : Value) (l : List Bool) : Prop :=
 l.length ≤ maxLen ∧ ∃ a cap, v = .slice a l.length cap ∧ l.length ≤ cap ∧ ∀ j (c : Bool), l[j]? = some c → ∃ g off, a = some ⟨g, off, none⟩ ∧ g < B ∧ W.cell? ⟨g, off + j, none⟩ = some (.bool c)
theorem BoolsIn.below {W W' : World} {B C : Nat} {v : Value} {l : List Bool} (h : BoolsIn W B v l) (hb : Below C W W') (hC : B ≤ C) : BoolsIn W' B v l := by
 obtain ⟨h1, a, cap, h2, h3, h4⟩ := h
 refine ⟨h1, a, cap, h2, h3, fun j c hc => ?_⟩
 obtain ⟨g, off, e, hg, hr⟩ := h4 j c hc
 exact ⟨g, off, e, hg, (hb.cell (p := ⟨g, off + j, none⟩) (show g < C by omega)).trans hr⟩

def laidK (k : Nat) (y : WaitD) (f : Int → List UInt8) : Int → List UInt8 := fun m => if m = y.n then y.b.take k ++ (f y.n).drop k else f m
/-- sectors behind a crash -/
def crashL (kp : Nat → Nat) (f : Int → List UInt8) (ys : List WaitD) (i : Nat := 0) : Int → List UInt8 := match ys with
 | [] => f
 | y :: ys => crashL kp (laidK (kp i) y f) ys (i + 1)
theorem crashL_at (kp : Nat → Nat) : ∀ (ys : List WaitD) (f : Int → List UInt8) (y : WaitD) (i : Nat), crashL kp f (ys ++ [y]) i = laidK (kp (i + ys.length)) y (crashL kp f ys i)
 | [], f, y, i => rfl
 | z :: ys, f, y, i => by
  show crashL kp (laidK (kp i) z f) (ys ++ [y]) (i + 1) = laidK _ y (crashL kp (laidK (kp i) z f) ys (i + 1))
  rw [crashL_at kp ys, List.length_cons, Nat.add_assoc, Nat.add_comm 1]
theorem crashL_snoc (kp : Nat → Nat) (f : Int → List UInt8) (ys : List WaitD) (y : WaitD) : crashL kp f (ys ++ [y]) = laidK (kp ys.length) y (crashL kp f ys) := by
 rw [crashL_at, Nat.zero_add]
theorem laidK_len {k : Nat} {y : WaitD} {f : Int → List UInt8} (hy : y.b.length = 512) (hf : ∀ m, (f m).length = 512) (m : Int) : (laidK k y f m).length = 512 := by
 unfold laidK
 split
 ·rw [List.length_append, List.length_take, List.length_drop, hy, hf]; omega
 ·exact hf m
theorem crashL_len (kp : Nat → Nat) : ∀ (ys : List WaitD) (f : Int → List UInt8) (i : Nat), (∀ m, (f m).length = 512) → (∀ y ∈ ys, y.b.length = 512) → ∀ m, (crashL kp f ys i m).length = 512
 | [], f, i, hf, _ => hf
 | y :: ys, f, i, hf, h => crashL_len kp ys (laidK (kp i) y f) (i + 1) (laidK_len (h y (List.mem_cons_self)) hf) (fun z hz => h z (List.mem_cons_of_mem _ hz))
/-- how many bytes of a write a crash keeps -/
def keptN (keep : List Bool) (torn bytes : Int) (i : Nat) : Nat := if (i : Int) = torn then bytes.toNat else if keep[i]? = some true then 512 else 0
/-- a disk behind a crash -/
def DiskD.crash (x : DiskD) (keep : List Bool) (torn bytes : Int) : DiskD := { size := x.size, lasts := crashL (keptN keep torn bytes) x.lasts x.waits, waits := [], steps := 0, fails := [] }
theorem DiskD.crash_ok {x : DiskD} (hx : x.ok) (keep : List Bool) (torn bytes : Int) : (x.crash keep torn bytes).ok :=
 ⟨hx.1, hx.2.1, crashL_len _ _ _ _ hx.2.2.1 hx.2.2.2.1, (fun y h => by cases h), Int.le_refl _, (show (0 : Int) ≤ 1000000000000 by decide), Nat.zero_le _⟩

/-- what a crash's loop has -/
structure CrIn (w : World) (s : Int) (dp lm b6 b7 M : Nat) (f : Int → List UInt8) (i : Nat) (vk : Value) (torn bytes : Int) (W : World) : Prop where
 below : Below w.heap.size w W
 disk : DiskAt W ⟨dp, lm, .slice none 0 0, none⟩ { size := s, lasts := f, waits := [], steps := 0, fails := [] }
 k3 : Blk W w.heap.size 81 #[vk, .int .i64 torn, .int .i64 bytes]
 k6 : Blk W b6 37 #[ptr dp]
 k7 : Blk W b7 3 #[.int .i64 (i : Int)]
 lo : M ≤ W.heap.size ∧ w.heap.size < M ∧ dp < M ∧ lm < M ∧ b6 < M ∧ b7 < M ∧ w.heap.size ≤ dp ∧ w.heap.size ≤ lm ∧ w.heap.size ≤ b7
theorem CrIn.out {w W W' : World} {s : Int} {dp lm b6 b7 M : Nat} {f : Int → List UInt8} {i : Nat} {vk : Value} {torn bytes : Int} {F : Nat → Prop} (h : CrIn w s dp lm b6 b7 M f i vk torn bytes W) (ho : Out F W W') (hF : ∀ k, F k → M ≤ k) : CrIn w s dp lm b6 b7 M f i vk torn bytes W' := by
 obtain ⟨l1, l2, l3, l4, l5, l6, l7, l8, l9⟩ := h.lo
 have hn : ∀ k, k < M → ¬ F k := fun k hk hf => by have := hF k hf; omega
 refine ⟨h.below.trans (ho.below h.below.size (fun k hk => hn k (by omega))), h.disk.out ho (fun k hk => ?_), ho.blk h.k3 (hn _ l2), ho.blk h.k6 (hn _ l5), ho.blk h.k7 (hn _ l6), by have := ho.size; omega, l2, l3, l4, l5, l6, l7, l8, l9⟩
 rcases hk with hk | hk | hk | hk
 ·exact hn k (by rw [show k = dp from hk]; exact l3)
 ·exact hn k (by rw [show k = lm from hk]; exact l4)
 ·cases hk
 ·cases hk
theorem zip_vw (p : Nat) (y : WaitS) (ts : Array Value) : (#[p].zip (vw y)).foldl (fun t (q : Nat × Value) => t.setIfInBounds q.1 q.2) ts = ts.setIfInBounds p (.agg y.1.cells.toArray) := by
 unfold vw
 simp
theorem CrIn.next {w W Wd : World} {s : Int} {dp lm b6 b7 M : Nat} {f f' : Int → List UInt8} {i : Nat} {vk : Value} {torn bytes : Int} (h : CrIn w s dp lm b6 b7 M f i vk torn bytes W) (ho : Out (fun k => k = lm ∨ W.heap.size ≤ k) W Wd)
  (hd : DiskAt Wd ⟨dp, lm, .slice none 0 0, none⟩ { size := s, lasts := f', waits := [], steps := 0, fails := [] }) (S : Nat → Prop) (hS : ∀ k, S k → k < w.heap.size) :
  KeepsFrom M W (Wd.setCell ⟨b7, 0, none⟩ (.int .i64 ((i : Int) + 1))) ∧ KeepsB S W (Wd.setCell ⟨b7, 0, none⟩ (.int .i64 ((i : Int) + 1))) ∧ CrIn w s dp lm b6 b7 M f' (i + 1) vk torn bytes (Wd.setCell ⟨b7, 0, none⟩ (.int .i64 ((i : Int) + 1))) := by
 obtain ⟨l1, l2, l3, l4, l5, l6, l7, l8, l9⟩ := h.lo
 have hml := h.disk.lasts
 obtain ⟨lml, hml, _⟩ := hml
 have n3 : w.heap.size ≠ lm := fun e => ne_map hml h.k3 e.symm
 have n6 : b6 ≠ lm := fun e => ne_map hml h.k6 e.symm
 have n7 : b7 ≠ lm := fun e => ne_map hml h.k7 e.symm
 have nd : dp ≠ b7 := Blk.ne_ h.disk.blk h.k7 (by decide)
 have n37 : w.heap.size ≠ b7 := Blk.ne_ h.k3 h.k7 (by decide)
 have n67 : b6 ≠ b7 := Blk.ne_ h.k6 h.k7 (by decide)
 have hn : ∀ k, k < M → k ≠ lm → ¬ (k = lm ∨ W.heap.size ≤ k) := fun k hk hl hf => by omega
 have hs : Out (fun k => k = b7) Wd (Wd.setCell ⟨b7, 0, none⟩ (.int .i64 ((i : Int) + 1))) := out_set rfl
 have ht : Out (fun k => k = lm ∨ W.heap.size ≤ k ∨ k = b7) W (Wd.setCell ⟨b7, 0, none⟩ (.int .i64 ((i : Int) + 1))) := Out.trans (F := fun k => k = lm ∨ W.heap.size ≤ k ∨ k = b7) ⟨ho.os, ho.tape, ho.output, ho.size, fun k hk hf => ho.block k hk (fun h => hf (h.elim .inl fun h => .inr (.inl h)))⟩ hs (fun k _ hk => .inr (.inr hk))
 refine ⟨⟨ht.size, fun k o hk hko hc => (ht.block k (Array.getElem?_eq_some_iff.1 hko).1 (fun hf => ?_)).trans hko⟩, ⟨ht.size, fun k hk hl => ht.block k hl (fun hf => by have := hS k hk; omega)⟩, ?_⟩
 ·have := (Array.getElem?_eq_some_iff.1 hko).1
  omega
 ·have e : ((i + 1 : Nat) : Int) = (i : Int) + 1 := by omega
  refine ⟨h.below.trans (ht.below h.below.size (fun k hk hf => by omega)), hd.out hs (fun k hk => ?_), hs.blk (ho.blk h.k3 (hn _ l2 n3)) n37, hs.blk (ho.blk h.k6 (hn _ l5 n6)) n67, by rw [e]; exact (ho.blk h.k7 (hn _ l6 n7)).set_ 0 _, by have := ht.size; omega, l2, l3, l4, l5, l6, l7, l8, l9⟩
  rcases hk with hk | hk | hk | hk
  ·rw [show k = dp from hk]; exact nd
  ·rw [show k = lm from hk]; exact fun e => n7 e.symm
  ·cases hk
  ·cases hk
theorem crash_copy {W : World} {gb g k : Nat} {b c : List UInt8} {n : Value} (hk : k ≤ 512) (hb : b.length = 512) (hc : c.length = 512) (hp : Blk W gb 111 (c.map vu8).toArray) (hg : Blk W g 161 (n :: b.map vu8).toArray) (ty : TypeId) :
  ∃ w', (Builtin.copy_ #[26, 26] ty #[.slice (some ⟨gb, 0, none⟩) k k, .slice (some ⟨g, 1, none⟩) 512 512]).run Tryz.prog W = .ok (goInt k) w' ∧ Blk w' gb 111 ((b.take k ++ c.drop k).map vu8).toArray ∧ Out (fun i => i = gb) W w' := by
 have hl : (b.take k).length = k := by rw [List.length_take, hb]; omega
 have hsrc : ∀ j u, ((b.take k).map vu8)[j]? = some u → W.cell? ((⟨g, 1, none⟩ : Addr).add j) = some u := by
  intro j u hj
  rw [List.getElem?_map] at hj
  obtain ⟨d, hcj, rfl⟩ := Option.map_eq_some_iff.1 hj
  rw [List.getElem?_take] at hcj
  split at hcj
  ·rw [add_at, hg.cell, List.getElem?_toArray, Nat.add_comm 1 j, List.getElem?_cons_succ, List.getElem?_map, hcj]; rfl
  ·cases hcj
 have hr := run_copy_row (P := Tryz.prog) W 26 26 ty 5 gb 0 k k ⟨g, 1, none⟩ 512 512 (c.map vu8).toArray 111 ((b.take k).map vu8) Tryz.underlying26 (by kernel_rfl) hp
  (by rw [List.length_map, hl]; exact (Nat.min_eq_right hk).symm) hsrc (by rw [List.length_map, hl, List.size_toArray, List.length_map, hc]; omega) (sector_one _)
 rw [List.length_map, hl, List.toList_toArray, List.take_zero, List.nil_append, Nat.zero_add, ← List.map_drop, ← List.map_append] at hr
 exact ⟨_, hr, hp.row _, out_row _ rfl⟩

set_option maxRecDepth 100000 in
set_option maxHeartbeats 8000000 in
theorem dcrash_in (n : Nat) (hn : 3 ≤ n) (D : DiskP) (x : DiskD) (vk : Value) (keep : List Bool) (torn bytes : Int) (w : World) (h : DiskAt w D x) (hx : x.ok) (hk : BoolsIn w w.heap.size vk keep) (hy0 : 0 ≤ bytes) (hy5 : bytes ≤ 512) :
  CallsIn Fence.wide n Tryz.prog 33 #[ptr D.p, .agg #[vk, .int .i64 torn, .int .i64 bytes]] w fun e w' => ∃ D2, e = .returned (.tuple #[ptr D2.p, .int .i64 0]) ∧ DiskAt w' D2 (x.crash keep torn bytes) ∧ (∀ i, D2.has i → w.heap.size ≤ i) ∧ Below w.heap.size w w' := by
 have h1 : 1 ≤ n := by omega
 have hro : Fence.wide.round = none := rfl
 have hlt := h.has_lt
 obtain ⟨ws, ews⟩ := waitS_of x.waits hx.2.2.2.1
 obtain ⟨kb, rfl⟩ : ∃ kb : Nat, bytes = kb := ⟨bytes.toNat, by omega⟩
 have hkb : kb ≤ 512 := by omega
 obtain ⟨hkl, ak, ck, rfl, hkc, hkj⟩ := hk
 have hkbI : (kb : Int) ≤ 512 := by omega
 have hkb0 : (0 : Int) ≤ (kb : Int) := by omega
 clear hy0 hy5
 obtain ⟨W1, eW1⟩ : ∃ W, W = w.alloc (.cells #[.slice ak keep.length ck, .int .i64 torn, .int .i64 (kb : Int)] 81) := ⟨_, rfl⟩
 have hb1 : Below w.heap.size w W1 := by rw [eW1]; exact (Below.refl _ w).alloc (Nat.le_refl _) _
 have k1 : Blk W1 w.heap.size 81 #[.slice ak keep.length ck, .int .i64 torn, .int .i64 (kb : Int)] := by rw [eW1]; exact Blk.new w _ _
 have hs1 : W1.heap.size = w.heap.size + 1 := by rw [eW1]; simp
 have hD1 := h.below hb1
 have HN := Lib.hid (dnone_any D x W1 hD1 hx)
 have HCP := Lib.hid (dcopy_any D x W1 hD1 hx)
 have HX := Lib.hid hx
 have HLT := Lib.hid hlt
 have HD := Lib.hid h
 have HKJ := Lib.hid hkj
 have HWS := Lib.hid ews
 have HB1 := Lib.hid hb1
 have HS1 := Lib.hid hs1
 have c2 := k1.cell_is 2 rfl
 have K1 := Lib.hid k1
 clear h hx hkj hlt ews hb1 hs1 hD1 k1
 unfold ptr at *
 refine callsIn_of_wp_marks Tryz.func33 rfl trivial ?_ hro
 simp only [Tryz.ntmps33, List.size_toArray, List.length_cons, List.length_nil, Nat.reduceAdd, Nat.reduceSub, Array.replicate_succ, Array.replicate_zero, List.push_toArray, List.append_toArray, List.nil_append, List.cons_append]
 refine wpIn_wide.2 ?_
 go_wp2_with fail
 rw [← eW1]
 clear eW1
 refine HN.out.mono ?_; rintro e w1 ⟨rfl, rfl⟩
 go_wp2_with fail
 refine HCP.out.mono ?_; rintro e w2 ⟨D2, rfl, hD2, hnew, hb2⟩
 obtain ⟨dp, lm, wv, fv⟩ := D2
 have hk2 : Blk w2 w.heap.size 81 #[.slice ak keep.length ck, .int .i64 torn, .int .i64 (kb : Int)] := K1.out.below hb2 K1.out.lt
 have hdlt := hD2.has_lt
 have hne := hD2.ne
 have kd := hD2.blk
 have hla := hD2.lasts
 dsimp only at kd hla hne
 have hdp : W1.heap.size ≤ dp := hnew dp (.inl rfl)
 have hlmn : W1.heap.size ≤ lm := hnew lm (.inr (.inl rfl))
 have hdp2 : dp < w2.heap.size := hdlt dp (.inl rfl)
 have hlm2 : lm < w2.heap.size := hdlt lm (.inr (.inl rfl))
 have hbw2 : Below w.heap.size w w2 := HB1.out.trans (hb2.mono (by have := HS1.out; omega))
 obtain ⟨W3, eW3⟩ : ∃ W, W = w2.alloc (.cells #[.pointer (some ⟨dp, 0, none⟩)] 37) := ⟨_, rfl⟩
 have hb3 : Below w2.heap.size w2 W3 := by rw [eW3]; exact (Below.refl _ _).alloc (Nat.le_refl _) _
 have hs3 : W3.heap.size = w2.heap.size + 1 := by rw [eW3]; simp
 have k6 : Blk W3 w2.heap.size 37 #[.pointer (some ⟨dp, 0, none⟩)] := by rw [eW3]; exact Blk.new _ _ _
 obtain ⟨b6, eb6⟩ : ∃ k, k = w2.heap.size := ⟨_, rfl⟩
 go_upto_region 6 with fail
 rw [← eW3, ← eb6]
 rw [← eb6] at k6 hs3 hb3 hdp2 hlm2
 clear eW3
 have hk3 := hk2.below (hb3.mono (Nat.le_of_eq eb6.symm)) (by have := hk2.lt; omega)
 have kd3 : Blk W3 dp 152 _ := (hb3.block dp hdp2).trans kd
 obtain ⟨lml, hml, hll⟩ := hla
 have hm3 : MapAt W3 lm .i64 lml := (hb3.block lm hlm2).trans hml
 have KD3 := Lib.hid kd3
 have K6 := Lib.hid k6
 have K3 := Lib.hid hk3
 have HM3 := Lib.hid hm3
 have HLL := Lib.hid hll
 have HNE := Lib.hid hne.1
 have hbw3 : Below w.heap.size w W3 := hbw2.trans (hb3.mono (by have := HS1.out; have := hb2.size; omega))
 have HBW3 := Lib.hid hbw3
 have HSZ := Lib.hid (show W3.heap.size = b6 + 1 ∧ dp < b6 ∧ lm < b6 ∧ w.heap.size + 1 ≤ dp ∧ w.heap.size + 1 ≤ lm from ⟨hs3, hdp2, hlm2, by have := HS1.out; omega, by have := HS1.out; omega⟩)
 clear hk2 hdlt hne kd hml hll hb2 hb3 hs3 hk3 kd3 k6 hm3 hbw2 hbw3 hnew hdp hlmn hdp2 hlm2 hD2 eb6 K1 HN HCP
 refine wp_region_noPanic ?_
 refine jb (fun X => Out (fun i => i = dp) W3 X) (fun _ => True) 100 (outB (Below.refl _ _).drew) trivial fun hHeld hJ => ?_
 have hn6 : ¬ b6 = dp := by have := HSZ.out; omega
 refine jk false 0 ?_ (hy := by intro X hX _; have hc := (hX.blk K6.out hn6).cell_is 0 rfl; go_simp; try with_reducible rfl)
 refine jk false 1 ?_ (hy := by intro X hX _; have hc := (hX.blk K6.out hn6).cell_is 0 rfl; go_simp; try with_reducible rfl)
 refine jk false 2 ?_ (hy := by intro X hX _; have hc := (hX.blk K6.out hn6).cell_is 0 rfl; go_simp; try with_reducible rfl)
 refine jk false 3 ?_
 refine jk false 4 ?_
 have step : ∀ (X : World) (cs : Array Value) (j : Nat) (v : Value), Out (fun i => i = dp) W3 X → Blk X dp 152 cs → Out (fun i => i = dp) W3 (X.setCell ⟨dp, j, none⟩ v) ∧ Blk (X.setCell ⟨dp, j, none⟩ v) dp 152 (cs.setIfInBounds j v) :=
  fun X cs j v hX hB => ⟨hX.trans (out_set (F := fun i => i = dp) rfl) (fun _ _ h => h), hB.set_ j v⟩
 have STP := Lib.hid step
 clear step
 obtain ⟨X0, eX0⟩ : ∃ X, X = W3.drew := ⟨_, rfl⟩
 have kX0 : Blk X0 dp 152 #[.int .i64 x.size, .map (some lm), wv, .int .i64 x.steps, .map fv] := by rw [eX0]; exact KD3.out.drew
 rw [← eX0] at hHeld ⊢
 clear eX0
 refine jr 5 fun K hK => ?_
 have c5 := kX0.cell_is 2 rfl
 have f5 := kX0.frozen 2
 go_simp
 have HS5 := Lib.hid (STP.out X0 _ 2 (.slice none 0 0) hHeld kX0)
 refine hK.out _ _ ⟨HS5.out.1, fun _ => trivial⟩ ?_
 clear hK K hHeld c5 f5 kX0
 have hHeld := HS5.out.1
 refine jk false 6 ?_
 refine jk false 7 ?_
 obtain ⟨X1, eX1⟩ : ∃ X, X = X0.setCell ⟨dp, 2, none⟩ (.slice none 0 0) := ⟨_, rfl⟩
 have kX1 : Blk X1 dp 152 #[.int .i64 x.size, .map (some lm), .slice none 0 0, .int .i64 x.steps, .map fv] := by rw [eX1]; exact HS5.out.2
 rw [← eX1] at hHeld ⊢
 clear eX1 HS5
 refine jr 8 fun K hK => ?_
 have c5 := kX1.cell_is 3 rfl
 have f5 := kX1.frozen 3
 go_simp
 have HS5 := Lib.hid (STP.out X1 _ 3 (.int .i64 0) hHeld kX1)
 refine hK.out _ _ ⟨HS5.out.1, fun _ => trivial⟩ ?_
 clear hK K hHeld c5 f5 kX1
 have hHeld := HS5.out.1
 refine jk false 9 ?_
 refine jk false 10 ?_
 obtain ⟨X2, eX2⟩ : ∃ X, X = X1.setCell ⟨dp, 3, none⟩ (.int .i64 0) := ⟨_, rfl⟩
 have kX2 : Blk X2 dp 152 #[.int .i64 x.size, .map (some lm), .slice none 0 0, .int .i64 0, .map fv] := by rw [eX2]; exact HS5.out.2
 rw [← eX2] at hHeld ⊢
 clear eX2 HS5
 refine jr 11 fun K hK => ?_
 have c5 := kX2.cell_is 4 rfl
 have f5 := kX2.frozen 4
 go_simp
 have HS5 := Lib.hid (STP.out X2 _ 4 (.map none) hHeld kX2)
 refine hK.out _ _ ⟨HS5.out.1, fun _ => trivial⟩ ?_
 clear hK K hHeld c5 f5 kX2
 obtain ⟨X, eX⟩ : ∃ X, X = X2.setCell ⟨dp, 4, none⟩ (.map none) := ⟨_, rfl⟩
 have hX : Out (fun i => i = dp) W3 X := by rw [eX]; exact HS5.out.1
 have hB : Blk X dp 152 #[.int .i64 x.size, .map (some lm), .slice none 0 0, .int .i64 0, .map none] := by rw [eX]; exact HS5.out.2
 rw [← eX]
 clear eX HS5
 have hDX : DiskAt X ⟨dp, lm, .slice none 0 0, none⟩ { size := x.size, lasts := x.lasts, waits := [], steps := 0, fails := [] } :=
  ⟨hB, ⟨lml, hX.map HM3.out HNE.out, HLL.out⟩, World.ownsRow_nil _ _ _ _, .inl ⟨rfl, rfl⟩, fun e => by cases e⟩
 refine wpAnyJ_done (by kernel_rfl) ?_ _
 refine NoPanic.normal ?_
 obtain ⟨hz1, hz2, hz3, hz4, hz5⟩ := HSZ.out
 have hXs := hX.size
 obtain ⟨W4, eW4⟩ : ∃ W, W = (X.alloc (.cells #[.int .i64 0] 3)).alloc (.cells #[.pointer (some ⟨D.p, 0, none⟩)] 37) := ⟨_, rfl⟩
 obtain ⟨b7, eb7⟩ : ∃ k, k = X.heap.size := ⟨_, rfl⟩
 have hb4 : Below X.heap.size X W4 := by rw [eW4]; exact ((Below.refl _ X).alloc (Nat.le_refl _) _).alloc (by simp) _
 have hs4 : W4.heap.size = b7 + 2 := by rw [eW4, eb7]; simp
 have k8 : Blk W4 (b7 + 1) 37 #[.pointer (some ⟨D.p, 0, none⟩)] := by rw [eW4, eb7]; exact Blk.new2 _ _ _ _
 have hbx : Below w.heap.size w X := HBW3.out.trans (hX.below HBW3.out.size (fun i hi e => by omega))
 have HCR := Lib.hid (show CrIn w x.size dp lm b6 b7 W4.heap.size x.lasts 0 (.slice ak keep.length ck) torn kb W4 from
  ⟨hbx.trans (hb4.mono hbx.size), hDX.below hb4, (hX.blk K3.out (by omega)).below hb4 (hX.blk K3.out (by omega)).lt, (hX.blk K6.out hn6).below hb4 (hX.blk K6.out hn6).lt, by rw [eW4, eb7]; exact (Blk.new X _ _).alloc _, by rw [hs4]; omega⟩)
 have HS := Lib.hid (all_stops (n - 1) (by omega) (b7 + 1) (fun i => D.wv.ownBlock = some i) D x ws HWS.out W4 (by omega) (k8.cell_is 0 rfl) (HD.out.below HCR.out.below) HX.out (fun g hg => hg))
 have hDn : ∀ i, D.wv.ownBlock = some i → i < w.heap.size := fun i hi => HLT.out i (.inr (.inr (.inl hi)))
 have HDN := Lib.hid hDn
 have hML : w.heap.size < W4.heap.size := by omega
 have hb7s : W4.heap.size = b7 + 2 := hs4
 clear hB hDX hX hJ hb4 hbx k8 hDn K3 K6 KD3 HM3 HLL HBW3 hs4
 go_wp2_with fail
 refine (callsIn_wide.1 (all_in 5 D.p _)).mono ?_; rintro e wq ⟨rfl, rfl⟩
 unfold ptr
 rw [show (X.alloc (.cells #[.int .i64 0] 3)).heap.size = b7 + 1 by rw [eb7]; simp]
 rw [← eW4, ← eb7]
 clear eW4 eb7 hXs hz1
 go_wp2_with fail
 refine (wpIn_wide (n := n)).1 ?_
 refine' wpIn_rangeFunc_ownH hro h1 (gf := 128) (lb := #[.pointer (some ⟨b7 + 1, 0, none⟩)]) rfl trivial (enters_of Tryz.func128 (by kernel_rfl) rfl)
  HS.out keepsB_t (keepsB_b (fun i hi => Nat.lt_trans (HDN.out i hi) hML)) (Below.refl _ _) (fun _ => rfl)
  (fun pre W => CrIn w x.size dp lm b6 b7 W4.heap.size (crashL (keptN keep torn kb) x.lasts (pre.map (·.1))) pre.length (.slice ak keep.length ck) torn kb W)
  (fun c pre W => False)
  (fun s A B row hs hg hr => hs.out (outG hg) (fun k hk => (hr k hk).1))
  (fun _ _ _ _ _ hs _ _ => hs)
  HCR.out
  (fun y a' W => ∃ g, a' = (_ : WaitS → Nat → Act) y g ∧ W4.heap.size ≤ g ∧ Blk W g 161 y.1.cells.toArray)
  (fun y a' => (fun s A B row hs hg hr => by obtain ⟨g, e, hgg, hb⟩ := hs; exact ⟨g, e, hgg, hb.own hg (fun r e => (hr r e).2)⟩)) ?assign ?body ?done ?stop
 case stop =>
  rintro Dd c pre W _ _ h _
  exact h.elim
 case assign =>
  intro l pre y W K hI hK
  have HI := Lib.hid hI
  have HK := Lib.hid hK
  clear hI hK
  dsimp only
  rw [zip_vw]
  simp only [pz3, pz4, pz5]
  obtain ⟨g, eg⟩ : ∃ g, g = W.heap.size := ⟨_, rfl⟩
  have hb : Below W.heap.size W (W.alloc (.cells y.1.cells.toArray 161)) := (Below.refl _ W).alloc (Nat.le_refl _) _
  gi_wp2_with (refine wpListIn_store_row rfl rfl 161 _ _ rfl W.heap.size y.1.cells.toArray rfl rfl 161 Tryz.zeroCells161 (heap_alloc_new W _) (wait_size y) (by rw [zero161, List.size_toArray, WaitD.len _ y.2]) (wait_all y.1) ?_; rw [World.setRow_alloc_new])
  rw [← eg]
  exact HK.out _ _ ((KeepsOthers.alloc W _).from _) (KeepsB.alloc _ _ _) (HI.out.out (F := fun _ => False) (outB hb) (fun _ h => h.elim)) ⟨g, by with_reducible rfl, by rw [eg]; exact HI.out.lo.1, by rw [eg]; exact Blk.new W _ _⟩
 case done =>
  rintro Dd ys W hDd rfl hI hK
  have HI := Lib.hid hI
  have HK := Lib.hid hK
  have c6 := hI.k6.cell_is 0 rfl
  unfold ptr at c6
  clear hI hK
  go_wp2_with fail
  refine ⟨by simp, .inl ⟨_, _, rfl, run_takeDeferred HK.out, ?_⟩⟩
  have ho : Out (fun i => i = Dd) W (W.putObj Dd (.deferred none)) := ⟨rfl, rfl, rfl, by simp, fun k hk hn => World.putObj_heap_other hn⟩
  have hF := HI.out.out ho (fun k hk => by rw [hk]; exact hDd)
  refine ⟨_, results_tmp2 rfl _ _ _, ⟨dp, lm, .slice none 0 0, none⟩, rfl, ?_, fun i hi => ?_, hF.below⟩
  ·have h2 := hF.disk
   rw [← HWS.out] at h2
   exact h2
  ·rcases hi with hi | hi | hi | hi
   ·rw [show i = dp from hi]; exact HI.out.lo.2.2.2.2.2.2.1
   ·rw [show i = lm from hi]; exact HI.out.lo.2.2.2.2.2.2.2.1
   ·cases hi
   ·cases hi
 case body =>
  rintro l pre y a' W hl hr hI ⟨g, rfl, hg, hG⟩ hlen
  obtain ⟨M, eM⟩ : ∃ M, M = W4.heap.size := ⟨_, rfl⟩
  obtain ⟨i, ei⟩ : ∃ i, i = pre.length := ⟨_, rfl⟩
  obtain ⟨f, ef⟩ : ∃ f, f = crashL (keptN keep torn kb) x.lasts (pre.map (·.1)) := ⟨_, rfl⟩
  obtain ⟨n9, en9⟩ : ∃ k, k = y.1.n := ⟨_, rfl⟩
  rw [← ef, ← ei, ← eM] at hI
  rw [← eM] at hg hl ⊢
  have HFL := Lib.hid (show ∀ m, (f m).length = 512 from by rw [ef]; exact crashL_len _ _ _ _ HX.out.2.2.1 (fun z hz => by obtain ⟨q, _, rfl⟩ := List.mem_map.1 hz; exact q.2))
  have HI := Lib.hid hI
  have HG := Lib.hid (show Blk W g 161 (Value.int .i64 n9 :: y.1.b.map vu8).toArray by rw [en9]; exact hG)
  have HEF := Lib.hid ef
  have HEI := Lib.hid ei
  have HYN := Lib.hid en9.symm
  have hwl : ws.length ≤ 1000000 := by have h := HX.out.2.2.2.2.2.2; rw [HWS.out, List.length_map] at h; exact h
  have hi6 : i < 1000000 := by omega
  have hiw : IntKind.i64.wrap ((i : Int) + 1) = (i : Int) + 1 := by rw [IntKind.wrap_i64]; omega
  have c30 := hI.k3.cell_is 0 rfl
  have c31 := hI.k3.cell_is 1 rfl
  have c32 := hI.k3.cell_is 2 rfl
  have c7 := hI.k7.cell_is 0 rfl
  clear hI hG ef ei en9 eM hwl hlen hr hl hML hb7s
  by_cases hlt : i < keep.length
  ·obtain ⟨gk, ok, rfl, hgk, hck⟩ := HKJ.out i (keep[i]'hlt) (List.getElem?_eq_getElem hlt)
   have ck1 := (HI.out.below.cell (p := ⟨gk, ok + i, none⟩) hgk).trans hck
   have hltI : (i : Int) < (keep.length : Int) := by omega
   have HQ := Lib.hid (List.getElem?_eq_getElem hlt)
   generalize keep[i]'hlt = q at *
   clear hck hgk hlt
   cases q
   ·cases htn : ((i : Int) == torn)
    ·have HKN := Lib.hid (show keptN keep torn kb i = 0 by unfold keptN; rw [if_neg (by simpa using htn), HQ.out]; rfl)
     gi_wp2
     refine jbR (fun X => Below W.heap.size W X) (fun _ => True) 100 (Below.refl _ _).drew trivial fun hHeld hJ => ?_
     refine jk false 0 ?_ (hy := by intro X hX _; have hc := (HI.out.k6.below hX HI.out.k6.lt).cell_is 0 rfl; unfold ptr at hc; go_simp; try with_reducible rfl)
     refine jk false 1 ?_ (hy := by intro X hX _; have hc := (HI.out.disk.blk.below hX HI.out.disk.blk.lt).cell_is 1 rfl; go_simp; try with_reducible rfl)
     refine jk false 2 ?_
     refine jk false 3 ?_ (hy := by intro X hX _; have hc := (HI.out.disk.blk.below hX HI.out.disk.blk.lt).cell_is 1 rfl; dsimp only at hc; go_simp; try with_reducible rfl)
     refine jk false 4 ?_
     refine jk false 5 ?_ (hy := by intro X hX _; have hc := (HG.out.below hX HG.out.lt).cell_is 0 rfl; go_simp; try with_reducible rfl)
     refine jk false 6 ?_ (hy := by intro X hX _; have hc := look_lasts (HI.out.disk.below hX) n9; dsimp only at hc; unfold sectorV at hc; go_simp; try with_reducible rfl)
     obtain ⟨wd, ewd⟩ : ∃ X, X = W.drew := ⟨_, rfl⟩
     rw [← ewd] at hHeld ⊢
     clear ewd
     refine jr 7 fun K hK => ?_
     go_simp
     obtain ⟨gb, egb⟩ : ∃ k, k = wd.heap.size := ⟨_, rfl⟩
     obtain ⟨Wa, eWa⟩ : ∃ X, X = wd.alloc (.cells Tryz.zeroCells111 111) := ⟨_, rfl⟩
     have hba : Below W.heap.size W Wa := by rw [eWa]; exact hHeld.trans (((Below.refl _ wd).alloc (Nat.le_refl _) _).mono hHeld.size)
     have BG : Blk Wa gb 111 (sector0.map vu8).toArray := by rw [eWa, egb, ← zero111]; exact Blk.new _ _ _
     have hgb : W.heap.size ≤ gb := by rw [egb]; exact hHeld.size
     rw [← eWa, ← egb]
     clear eWa egb
     refine hK.out _ _ ⟨hba, fun _ => trivial⟩ ?_
     clear hK K hHeld
     have hHeld := hba
     refine jr 8 fun K hK => ?_
     rw [if_pos (by rfl)]
     refine wp_store_row 111 _ _ rfl gb ((f n9).map vu8).toArray rfl rfl 111 _ BG (sector_size _ (HFL.out n9)) (sector_eq _ _ sector0_len (HFL.out n9)) (sector_all _) ?_
     obtain ⟨Wb, eWb⟩ : ∃ X, X = Wa.setRow gb ((f n9).map vu8).toArray := ⟨_, rfl⟩
     have hbb : Below W.heap.size W Wb := by rw [eWb]; exact hba.trans ((out_row (F := fun k => k = gb) _ rfl).below hba.size (fun k hk e => by omega))
     have BB : Blk Wb gb 111 ((f n9).map vu8).toArray := by rw [eWb]; exact BG.row _
     rw [← eWb]
     clear eWb
     refine hK.out _ _ ⟨hbb, fun _ => trivial⟩ ?_
     clear hK K hHeld hJ BG hba
     refine wpAnyJ_done (by kernel_rfl) ?_ _
     have HBB := Lib.hid BB
     have hGb : Blk Wb g 161 (Value.int .i64 n9 :: y.1.b.map vu8).toArray := HG.out.below hbb HG.out.lt
     have HGB := Lib.hid hGb
     obtain ⟨Wc, hrc, hBc, hOc⟩ := crash_copy (k := 0) (by omega) y.2 (HFL.out n9) BB.drew hGb.drew 3
     have HBC := Lib.hid hBc
     have HOC := Lib.hid (show Out (fun k => k = gb) Wb Wc from (outB (Below.refl _ _).drew : Out (fun k => k = gb) Wb Wb.drew).trans hOc (fun _ _ h => h))
     have HBW := Lib.hid hbb
     have HRC := Lib.hid hrc
     clear hBc hOc BB hGb hbb hrc
     gi_wp2
     refine jbR (fun X => Out (fun k => k = gb) Wb X) (fun _ => True) 100 (outB (Below.refl _ _).drew) trivial fun hHeld hJ => ?_
     refine jk false 0 ?_
     refine jk false 1 ?_
     refine jk false 2 ?_
     refine jk false 3 ?_
     refine jk false 4 ?_
     refine jr 5 fun K hK => ?_
     rw [if_pos (by rfl)]
     refine Lib.wp_copy_run _ (.tmp 64) (.tmp 66) 26 26 rfl _ _ (by rfl) (by rfl) HRC.out ?_
     refine hK.out _ _ ⟨HOC.out, fun _ => trivial⟩ ?_
     clear hK K hHeld hJ
     refine wpAnyJ_done (by kernel_rfl) ?_ _
     have hlg : lm < M ∧ dp < M ∧ M ≤ W.heap.size ∧ b6 < M := ⟨HI.out.lo.2.2.2.1, HI.out.lo.2.2.1, HI.out.lo.1, HI.out.lo.2.2.2.2.1⟩
     have hoc : Out (fun k => W.heap.size ≤ k) W Wc := (outB HBW.out : Out (fun k => W.heap.size ≤ k) W Wb).trans HOC.out (fun k _ e => by rw [show k = gb from e]; exact hgb)
     have hdc := HI.out.disk.out hoc (fun k hk hf => by
      rcases hk with hk | hk | hk | hk
      ·have : k = dp := hk
       omega
      ·have : k = lm := hk
       omega
      ·cases hk
      ·cases hk)
     have k6c := hoc.blk HI.out.k6 (show ¬ W.heap.size ≤ b6 by omega)
     have gc : Blk Wc g 161 (Value.int .i64 n9 :: y.1.b.map vu8).toArray := HOC.out.blk HGB.out (Blk.ne_ HGB.out HBB.out (by decide))
     obtain ⟨nb, enb⟩ : ∃ l, l = y.1.b.take 0 ++ (f n9).drop 0 := ⟨_, rfl⟩
     have hnb : nb.length = 512 := by rw [enb, List.length_append, List.length_take, List.length_drop, y.2, HFL.out]; omega
     have HBC2 := Lib.hid (show Blk Wc gb 111 (nb.map vu8).toArray by rw [enb]; exact HBC.out)
     have HNB := Lib.hid enb
     clear enb
     obtain ⟨Wd, hrd, hTd, hdd, hsd⟩ := diskLasts_set hdc.drew n9 nb
     dsimp only at hTd hrd hdd
     have hod : Out (fun k => k = lm) Wc Wd := (outB (Below.refl _ _).drew : Out (fun k => k = lm) Wc Wc.drew).trans ⟨hTd.os, hTd.tape, hTd.output, Nat.le_of_eq hTd.size.symm, fun k _ hn => hTd.block k hn⟩ (fun _ _ h => h)
     have hmc := hdc.lasts
     obtain ⟨lmc, hmc, _⟩ := hmc
     dsimp only at hmc
     have n6c : ¬ b6 = lm := fun e => ne_map hmc k6c e.symm
     have ngc : ¬ g = lm := fun e => ne_map hmc gc e.symm
     have nbc : ¬ gb = lm := fun e => ne_map hmc HBC2.out e.symm
     have HDC := Lib.hid hdc
     have HDD := Lib.hid hdd
     have HOD := Lib.hid hod
     have HRD := Lib.hid hrd
     have K6C := Lib.hid k6c
     have GC := Lib.hid gc
     have HOO := Lib.hid hoc
     have hszF : (Tryz.prog.info? 111).map (·.size) = some (nb.map vu8).length := by rw [List.length_map, hnb]; exact size_sector
     have ndd : ¬ dp = lm := fun e => HDC.out.ne.1 e.symm
     clear hdc hdd hod hrd hTd hsd k6c gc hmc hoc hlg
     unfold sectorV at HRD
     gi_wp2
     refine jbR (fun X => Out (fun k => k = lm) Wc X) (fun _ => True) 100 (outB (Below.refl _ _).drew) trivial fun hHeld hJ => ?_
     refine jk false 0 ?_ (hy := by intro X hX _; have hc := (hX.blk K6C.out n6c).cell_is 0 rfl; unfold ptr at hc; go_simp; try with_reducible rfl)
     refine jk false 1 ?_ (hy := by intro X hX _; have hc := (hX.blk HDC.out.blk ndd).cell_is 1 rfl; go_simp; try with_reducible rfl)
     refine jk false 2 ?_
     refine jk false 3 ?_ (hy := by intro X hX _; have hc := (hX.blk HDC.out.blk ndd).cell_is 1 rfl; dsimp only at hc; go_simp; try with_reducible rfl)
     refine jk false 4 ?_
     refine jk false 5 ?_ (hy := by intro X hX _; have hc := (hX.blk GC.out ngc).cell_is 0 rfl; go_simp; try with_reducible rfl)
     refine jy false 6 rfl (yieldsIf_load_mid (by rfl) 111 _ rfl gb 0 rfl (nb.map vu8) _ (fun w' h => blk_range (h.1.blk HBC2.out nbc)) Tryz.underlying111 rfl hszF) ?_
     refine jr 7 fun K hK => ?_
     rw [if_pos (show Region.wanted _ _ = true from rfl)]
     refine wp_mapUpdate_is _ Wd 148 _ _ _ rfl _ _ _ rfl rfl rfl HRD.out ?_
     refine hK.out _ _ ⟨HOD.out, fun _ => trivial⟩ ?_
     clear hK K hHeld hJ
     refine wpAnyJ_done (by kernel_rfl) ?_ _
     have HNX := Lib.hid (HI.out.next (Wd := Wd) (f' := laidK 0 y.1 f) (by
      refine Out.trans (F := fun k => k = lm ∨ W.heap.size ≤ k) ⟨HOO.out.os, HOO.out.tape, HOO.out.output, HOO.out.size, fun k hk hf => HOO.out.block k hk (fun h => hf (.inr h))⟩ HOD.out (fun k _ hk => .inl hk)) (by
      have h := HDD.out
      have e : (fun m => if m = n9 then nb else f m) = laidK 0 y.1 f := by
       funext m
       unfold laidK
       rw [HYN.out, HNB.out]
      rw [e] at h
      exact h) (fun i => D.wv.ownBlock = some i) HDN.out)
     have k7d : Blk Wd b7 3 #[.int .i64 (i : Int)] := (HOD.out.blk (HOO.out.blk HI.out.k7 (by have := HI.out.lo; omega)) (fun e => by
      obtain ⟨l2, h2, _⟩ := HI.out.disk.lasts
      exact ne_map h2 HI.out.k7 e.symm))
     have c7d := k7d.cell_is 0 rfl
     have f7d := k7d.frozen 0
     clear k7d
     gi_wp2
     have hf := HNX.out
     rw [show laidK 0 y.1 f = crashL (keptN keep torn kb) x.lasts ((pre ++ [y]).map (·.1)) by
      rw [List.map_append, List.map_singleton, crashL_snoc, List.length_map, ← HEI.out, HKN.out, ← HEF.out]] at hf
     refine ⟨hf.1, hf.2.1, ?_⟩
     dsimp only
     rw [List.length_append, List.length_singleton, ← HEI.out]
     exact hf.2.2
    ·have HKN := Lib.hid (show keptN keep torn kb i = kb by unfold keptN; rw [if_pos (by simpa using htn)]; rfl)
     gi_wp2
     refine jbR (fun X => Below W.heap.size W X) (fun _ => True) 100 (Below.refl _ _).drew trivial fun hHeld hJ => ?_
     refine jk false 0 ?_ (hy := by intro X hX _; have hc := (HI.out.k6.below hX HI.out.k6.lt).cell_is 0 rfl; unfold ptr at hc; go_simp; try with_reducible rfl)
     refine jk false 1 ?_ (hy := by intro X hX _; have hc := (HI.out.disk.blk.below hX HI.out.disk.blk.lt).cell_is 1 rfl; go_simp; try with_reducible rfl)
     refine jk false 2 ?_
     refine jk false 3 ?_ (hy := by intro X hX _; have hc := (HI.out.disk.blk.below hX HI.out.disk.blk.lt).cell_is 1 rfl; dsimp only at hc; go_simp; try with_reducible rfl)
     refine jk false 4 ?_
     refine jk false 5 ?_ (hy := by intro X hX _; have hc := (HG.out.below hX HG.out.lt).cell_is 0 rfl; go_simp; try with_reducible rfl)
     refine jk false 6 ?_ (hy := by intro X hX _; have hc := look_lasts (HI.out.disk.below hX) n9; dsimp only at hc; unfold sectorV at hc; go_simp; try with_reducible rfl)
     obtain ⟨wd, ewd⟩ : ∃ X, X = W.drew := ⟨_, rfl⟩
     rw [← ewd] at hHeld ⊢
     clear ewd
     refine jr 7 fun K hK => ?_
     go_simp
     obtain ⟨gb, egb⟩ : ∃ k, k = wd.heap.size := ⟨_, rfl⟩
     obtain ⟨Wa, eWa⟩ : ∃ X, X = wd.alloc (.cells Tryz.zeroCells111 111) := ⟨_, rfl⟩
     have hba : Below W.heap.size W Wa := by rw [eWa]; exact hHeld.trans (((Below.refl _ wd).alloc (Nat.le_refl _) _).mono hHeld.size)
     have BG : Blk Wa gb 111 (sector0.map vu8).toArray := by rw [eWa, egb, ← zero111]; exact Blk.new _ _ _
     have hgb : W.heap.size ≤ gb := by rw [egb]; exact hHeld.size
     rw [← eWa, ← egb]
     clear eWa egb
     refine hK.out _ _ ⟨hba, fun _ => trivial⟩ ?_
     clear hK K hHeld
     have hHeld := hba
     refine jr 8 fun K hK => ?_
     rw [if_pos (by rfl)]
     refine wp_store_row 111 _ _ rfl gb ((f n9).map vu8).toArray rfl rfl 111 _ BG (sector_size _ (HFL.out n9)) (sector_eq _ _ sector0_len (HFL.out n9)) (sector_all _) ?_
     obtain ⟨Wb, eWb⟩ : ∃ X, X = Wa.setRow gb ((f n9).map vu8).toArray := ⟨_, rfl⟩
     have hbb : Below W.heap.size W Wb := by rw [eWb]; exact hba.trans ((out_row (F := fun k => k = gb) _ rfl).below hba.size (fun k hk e => by omega))
     have BB : Blk Wb gb 111 ((f n9).map vu8).toArray := by rw [eWb]; exact BG.row _
     rw [← eWb]
     clear eWb
     refine hK.out _ _ ⟨hbb, fun _ => trivial⟩ ?_
     clear hK K hHeld hJ BG hba
     refine wpAnyJ_done (by kernel_rfl) ?_ _
     have HBB := Lib.hid BB
     have hGb : Blk Wb g 161 (Value.int .i64 n9 :: y.1.b.map vu8).toArray := HG.out.below hbb HG.out.lt
     have HGB := Lib.hid hGb
     obtain ⟨Wc, hrc, hBc, hOc⟩ := crash_copy (k := kb) (by omega) y.2 (HFL.out n9) BB.drew hGb.drew 3
     have HBC := Lib.hid hBc
     have HOC := Lib.hid (show Out (fun k => k = gb) Wb Wc from (outB (Below.refl _ _).drew : Out (fun k => k = gb) Wb Wb.drew).trans hOc (fun _ _ h => h))
     have HBW := Lib.hid hbb
     have HRC := Lib.hid hrc
     clear hBc hOc BB hGb hbb hrc
     gi_wp2
     refine jbR (fun X => Out (fun k => k = gb) Wb X) (fun _ => True) 100 (outB (Below.refl _ _).drew) trivial fun hHeld hJ => ?_
     refine jk false 0 ?_
     refine jk false 1 ?_
     refine jk false 2 ?_
     refine jk false 3 ?_
     refine jk false 4 ?_
     refine jr 5 fun K hK => ?_
     rw [if_pos (by rfl)]
     refine Lib.wp_copy_run _ (.tmp 64) (.tmp 66) 26 26 rfl _ _ (by rfl) (by rfl) HRC.out ?_
     refine hK.out _ _ ⟨HOC.out, fun _ => trivial⟩ ?_
     clear hK K hHeld hJ
     refine wpAnyJ_done (by kernel_rfl) ?_ _
     have hlg : lm < M ∧ dp < M ∧ M ≤ W.heap.size ∧ b6 < M := ⟨HI.out.lo.2.2.2.1, HI.out.lo.2.2.1, HI.out.lo.1, HI.out.lo.2.2.2.2.1⟩
     have hoc : Out (fun k => W.heap.size ≤ k) W Wc := (outB HBW.out : Out (fun k => W.heap.size ≤ k) W Wb).trans HOC.out (fun k _ e => by rw [show k = gb from e]; exact hgb)
     have hdc := HI.out.disk.out hoc (fun k hk hf => by
      rcases hk with hk | hk | hk | hk
      ·have : k = dp := hk
       omega
      ·have : k = lm := hk
       omega
      ·cases hk
      ·cases hk)
     have k6c := hoc.blk HI.out.k6 (show ¬ W.heap.size ≤ b6 by omega)
     have gc : Blk Wc g 161 (Value.int .i64 n9 :: y.1.b.map vu8).toArray := HOC.out.blk HGB.out (Blk.ne_ HGB.out HBB.out (by decide))
     obtain ⟨nb, enb⟩ : ∃ l, l = y.1.b.take kb ++ (f n9).drop kb := ⟨_, rfl⟩
     have hnb : nb.length = 512 := by rw [enb, List.length_append, List.length_take, List.length_drop, y.2, HFL.out]; omega
     have HBC2 := Lib.hid (show Blk Wc gb 111 (nb.map vu8).toArray by rw [enb]; exact HBC.out)
     have HNB := Lib.hid enb
     clear enb
     obtain ⟨Wd, hrd, hTd, hdd, hsd⟩ := diskLasts_set hdc.drew n9 nb
     dsimp only at hTd hrd hdd
     have hod : Out (fun k => k = lm) Wc Wd := (outB (Below.refl _ _).drew : Out (fun k => k = lm) Wc Wc.drew).trans ⟨hTd.os, hTd.tape, hTd.output, Nat.le_of_eq hTd.size.symm, fun k _ hn => hTd.block k hn⟩ (fun _ _ h => h)
     have hmc := hdc.lasts
     obtain ⟨lmc, hmc, _⟩ := hmc
     dsimp only at hmc
     have n6c : ¬ b6 = lm := fun e => ne_map hmc k6c e.symm
     have ngc : ¬ g = lm := fun e => ne_map hmc gc e.symm
     have nbc : ¬ gb = lm := fun e => ne_map hmc HBC2.out e.symm
     have HDC := Lib.hid hdc
     have HDD := Lib.hid hdd
     have HOD := Lib.hid hod
     have HRD := Lib.hid hrd
     have K6C := Lib.hid k6c
     have GC := Lib.hid gc
     have HOO := Lib.hid hoc
     have hszF : (Tryz.prog.info? 111).map (·.size) = some (nb.map vu8).length := by rw [List.length_map, hnb]; exact size_sector
     have ndd : ¬ dp = lm := fun e => HDC.out.ne.1 e.symm
     clear hdc hdd hod hrd hTd hsd k6c gc hmc hoc hlg
     unfold sectorV at HRD
     gi_wp2
     refine jbR (fun X => Out (fun k => k = lm) Wc X) (fun _ => True) 100 (outB (Below.refl _ _).drew) trivial fun hHeld hJ => ?_
     refine jk false 0 ?_ (hy := by intro X hX _; have hc := (hX.blk K6C.out n6c).cell_is 0 rfl; unfold ptr at hc; go_simp; try with_reducible rfl)
     refine jk false 1 ?_ (hy := by intro X hX _; have hc := (hX.blk HDC.out.blk ndd).cell_is 1 rfl; go_simp; try with_reducible rfl)
     refine jk false 2 ?_
     refine jk false 3 ?_ (hy := by intro X hX _; have hc := (hX.blk HDC.out.blk ndd).cell_is 1 rfl; dsimp only at hc; go_simp; try with_reducible rfl)
     refine jk false 4 ?_
     refine jk false 5 ?_ (hy := by intro X hX _; have hc := (hX.blk GC.out ngc).cell_is 0 rfl; go_simp; try with_reducible rfl)
     refine jy false 6 rfl (yieldsIf_load_mid (by rfl) 111 _ rfl gb 0 rfl (nb.map vu8) _ (fun w' h => blk_range (h.1.blk HBC2.out nbc)) Tryz.underlying111 rfl hszF) ?_
     refine jr 7 fun K hK => ?_
     rw [if_pos (show Region.wanted _ _ = true from rfl)]
     refine wp_mapUpdate_is _ Wd 148 _ _ _ rfl _ _ _ rfl rfl rfl HRD.out ?_
     refine hK.out _ _ ⟨HOD.out, fun _ => trivial⟩ ?_
     clear hK K hHeld hJ
     refine wpAnyJ_done (by kernel_rfl) ?_ _
     have HNX := Lib.hid (HI.out.next (Wd := Wd) (f' := laidK kb y.1 f) (by
      refine Out.trans (F := fun k => k = lm ∨ W.heap.size ≤ k) ⟨HOO.out.os, HOO.out.tape, HOO.out.output, HOO.out.size, fun k hk hf => HOO.out.block k hk (fun h => hf (.inr h))⟩ HOD.out (fun k _ hk => .inl hk)) (by
      have h := HDD.out
      have e : (fun m => if m = n9 then nb else f m) = laidK kb y.1 f := by
       funext m
       unfold laidK
       rw [HYN.out, HNB.out]
      rw [e] at h
      exact h) (fun i => D.wv.ownBlock = some i) HDN.out)
     have k7d : Blk Wd b7 3 #[.int .i64 (i : Int)] := (HOD.out.blk (HOO.out.blk HI.out.k7 (by have := HI.out.lo; omega)) (fun e => by
      obtain ⟨l2, h2, _⟩ := HI.out.disk.lasts
      exact ne_map h2 HI.out.k7 e.symm))
     have c7d := k7d.cell_is 0 rfl
     have f7d := k7d.frozen 0
     clear k7d
     gi_wp2
     have hf := HNX.out
     rw [show laidK kb y.1 f = crashL (keptN keep torn kb) x.lasts ((pre ++ [y]).map (·.1)) by
      rw [List.map_append, List.map_singleton, crashL_snoc, List.length_map, ← HEI.out, HKN.out, ← HEF.out]] at hf
     refine ⟨hf.1, hf.2.1, ?_⟩
     dsimp only
     rw [List.length_append, List.length_singleton, ← HEI.out]
     exact hf.2.2
   ·cases htn : ((i : Int) == torn)
    ·have HKN := Lib.hid (show keptN keep torn kb i = 512 by unfold keptN; rw [if_neg (by simpa using htn), HQ.out]; rfl)
     gi_wp2
     refine jbR (fun X => Below W.heap.size W X) (fun _ => True) 100 (Below.refl _ _).drew trivial fun hHeld hJ => ?_
     refine jk false 0 ?_ (hy := by intro X hX _; have hc := (HI.out.k6.below hX HI.out.k6.lt).cell_is 0 rfl; unfold ptr at hc; go_simp; try with_reducible rfl)
     refine jk false 1 ?_ (hy := by intro X hX _; have hc := (HI.out.disk.blk.below hX HI.out.disk.blk.lt).cell_is 1 rfl; go_simp; try with_reducible rfl)
     refine jk false 2 ?_
     refine jk false 3 ?_ (hy := by intro X hX _; have hc := (HI.out.disk.blk.below hX HI.out.disk.blk.lt).cell_is 1 rfl; dsimp only at hc; go_simp; try with_reducible rfl)
     refine jk false 4 ?_
     refine jk false 5 ?_ (hy := by intro X hX _; have hc := (HG.out.below hX HG.out.lt).cell_is 0 rfl; go_simp; try with_reducible rfl)
     refine jk false 6 ?_ (hy := by intro X hX _; have hc := look_lasts (HI.out.disk.below hX) n9; dsimp only at hc; unfold sectorV at hc; go_simp; try with_reducible rfl)
     obtain ⟨wd, ewd⟩ : ∃ X, X = W.drew := ⟨_, rfl⟩
     rw [← ewd] at hHeld ⊢
     clear ewd
     refine jr 7 fun K hK => ?_
     go_simp
     obtain ⟨gb, egb⟩ : ∃ k, k = wd.heap.size := ⟨_, rfl⟩
     obtain ⟨Wa, eWa⟩ : ∃ X, X = wd.alloc (.cells Tryz.zeroCells111 111) := ⟨_, rfl⟩
     have hba : Below W.heap.size W Wa := by rw [eWa]; exact hHeld.trans (((Below.refl _ wd).alloc (Nat.le_refl _) _).mono hHeld.size)
     have BG : Blk Wa gb 111 (sector0.map vu8).toArray := by rw [eWa, egb, ← zero111]; exact Blk.new _ _ _
     have hgb : W.heap.size ≤ gb := by rw [egb]; exact hHeld.size
     rw [← eWa, ← egb]
     clear eWa egb
     refine hK.out _ _ ⟨hba, fun _ => trivial⟩ ?_
     clear hK K hHeld
     have hHeld := hba
     refine jr 8 fun K hK => ?_
     rw [if_pos (by rfl)]
     refine wp_store_row 111 _ _ rfl gb ((f n9).map vu8).toArray rfl rfl 111 _ BG (sector_size _ (HFL.out n9)) (sector_eq _ _ sector0_len (HFL.out n9)) (sector_all _) ?_
     obtain ⟨Wb, eWb⟩ : ∃ X, X = Wa.setRow gb ((f n9).map vu8).toArray := ⟨_, rfl⟩
     have hbb : Below W.heap.size W Wb := by rw [eWb]; exact hba.trans ((out_row (F := fun k => k = gb) _ rfl).below hba.size (fun k hk e => by omega))
     have BB : Blk Wb gb 111 ((f n9).map vu8).toArray := by rw [eWb]; exact BG.row _
     rw [← eWb]
     clear eWb
     refine hK.out _ _ ⟨hbb, fun _ => trivial⟩ ?_
     clear hK K hHeld hJ BG hba
     refine wpAnyJ_done (by kernel_rfl) ?_ _
     have HBB := Lib.hid BB
     have hGb : Blk Wb g 161 (Value.int .i64 n9 :: y.1.b.map vu8).toArray := HG.out.below hbb HG.out.lt
     have HGB := Lib.hid hGb
     obtain ⟨Wc, hrc, hBc, hOc⟩ := crash_copy (k := 512) (by omega) y.2 (HFL.out n9) BB.drew hGb.drew 3
     have HBC := Lib.hid hBc
     have HOC := Lib.hid (show Out (fun k => k = gb) Wb Wc from (outB (Below.refl _ _).drew : Out (fun k => k = gb) Wb Wb.drew).trans hOc (fun _ _ h => h))
     have HBW := Lib.hid hbb
     have HRC := Lib.hid hrc
     clear hBc hOc BB hGb hbb hrc
     gi_wp2
     refine jbR (fun X => Out (fun k => k = gb) Wb X) (fun _ => True) 100 (outB (Below.refl _ _).drew) trivial fun hHeld hJ => ?_
     refine jk false 0 ?_
     refine jk false 1 ?_
     refine jk false 2 ?_
     refine jk false 3 ?_
     refine jk false 4 ?_
     refine jr 5 fun K hK => ?_
     rw [if_pos (by rfl)]
     refine Lib.wp_copy_run _ (.tmp 64) (.tmp 66) 26 26 rfl _ _ (by rfl) (by rfl) HRC.out ?_
     refine hK.out _ _ ⟨HOC.out, fun _ => trivial⟩ ?_
     clear hK K hHeld hJ
     refine wpAnyJ_done (by kernel_rfl) ?_ _
     have hlg : lm < M ∧ dp < M ∧ M ≤ W.heap.size ∧ b6 < M := ⟨HI.out.lo.2.2.2.1, HI.out.lo.2.2.1, HI.out.lo.1, HI.out.lo.2.2.2.2.1⟩
     have hoc : Out (fun k => W.heap.size ≤ k) W Wc := (outB HBW.out : Out (fun k => W.heap.size ≤ k) W Wb).trans HOC.out (fun k _ e => by rw [show k = gb from e]; exact hgb)
     have hdc := HI.out.disk.out hoc (fun k hk hf => by
      rcases hk with hk | hk | hk | hk
      ·have : k = dp := hk
       omega
      ·have : k = lm := hk
       omega
      ·cases hk
      ·cases hk)
     have k6c := hoc.blk HI.out.k6 (show ¬ W.heap.size ≤ b6 by omega)
     have gc : Blk Wc g 161 (Value.int .i64 n9 :: y.1.b.map vu8).toArray := HOC.out.blk HGB.out (Blk.ne_ HGB.out HBB.out (by decide))
     obtain ⟨nb, enb⟩ : ∃ l, l = y.1.b.take 512 ++ (f n9).drop 512 := ⟨_, rfl⟩
     have hnb : nb.length = 512 := by rw [enb, List.length_append, List.length_take, List.length_drop, y.2, HFL.out]; omega
     have HBC2 := Lib.hid (show Blk Wc gb 111 (nb.map vu8).toArray by rw [enb]; exact HBC.out)
     have HNB := Lib.hid enb
     clear enb
     obtain ⟨Wd, hrd, hTd, hdd, hsd⟩ := diskLasts_set hdc.drew n9 nb
     dsimp only at hTd hrd hdd
     have hod : Out (fun k => k = lm) Wc Wd := (outB (Below.refl _ _).drew : Out (fun k => k = lm) Wc Wc.drew).trans ⟨hTd.os, hTd.tape, hTd.output, Nat.le_of_eq hTd.size.symm, fun k _ hn => hTd.block k hn⟩ (fun _ _ h => h)
     have hmc := hdc.lasts
     obtain ⟨lmc, hmc, _⟩ := hmc
     dsimp only at hmc
     have n6c : ¬ b6 = lm := fun e => ne_map hmc k6c e.symm
     have ngc : ¬ g = lm := fun e => ne_map hmc gc e.symm
     have nbc : ¬ gb = lm := fun e => ne_map hmc HBC2.out e.symm
     have HDC := Lib.hid hdc
     have HDD := Lib.hid hdd
     have HOD := Lib.hid hod
     have HRD := Lib.hid hrd
     have K6C := Lib.hid k6c
     have GC := Lib.hid gc
     have HOO := Lib.hid hoc
     have hszF : (Tryz.prog.info? 111).map (·.size) = some (nb.map vu8).length := by rw [List.length_map, hnb]; exact size_sector
     have ndd : ¬ dp = lm := fun e => HDC.out.ne.1 e.symm
     clear hdc hdd hod hrd hTd hsd k6c gc hmc hoc hlg
     unfold sectorV at HRD
     gi_wp2
     refine jbR (fun X => Out (fun k => k = lm) Wc X) (fun _ => True) 100 (outB (Below.refl _ _).drew) trivial fun hHeld hJ => ?_
     refine jk false 0 ?_ (hy := by intro X hX _; have hc := (hX.blk K6C.out n6c).cell_is 0 rfl; unfold ptr at hc; go_simp; try with_reducible rfl)
     refine jk false 1 ?_ (hy := by intro X hX _; have hc := (hX.blk HDC.out.blk ndd).cell_is 1 rfl; go_simp; try with_reducible rfl)
     refine jk false 2 ?_
     refine jk false 3 ?_ (hy := by intro X hX _; have hc := (hX.blk HDC.out.blk ndd).cell_is 1 rfl; dsimp only at hc; go_simp; try with_reducible rfl)
     refine jk false 4 ?_
     refine jk false 5 ?_ (hy := by intro X hX _; have hc := (hX.blk GC.out ngc).cell_is 0 rfl; go_simp; try with_reducible rfl)
     refine jy false 6 rfl (yieldsIf_load_mid (by rfl) 111 _ rfl gb 0 rfl (nb.map vu8) _ (fun w' h => blk_range (h.1.blk HBC2.out nbc)) Tryz.underlying111 rfl hszF) ?_
     refine jr 7 fun K hK => ?_
     rw [if_pos (show Region.wanted _ _ = true from rfl)]
     refine wp_mapUpdate_is _ Wd 148 _ _ _ rfl _ _ _ rfl rfl rfl HRD.out ?_
     refine hK.out _ _ ⟨HOD.out, fun _ => trivial⟩ ?_
     clear hK K hHeld hJ
     refine wpAnyJ_done (by kernel_rfl) ?_ _
     have HNX := Lib.hid (HI.out.next (Wd := Wd) (f' := laidK 512 y.1 f) (by
      refine Out.trans (F := fun k => k = lm ∨ W.heap.size ≤ k) ⟨HOO.out.os, HOO.out.tape, HOO.out.output, HOO.out.size, fun k hk hf => HOO.out.block k hk (fun h => hf (.inr h))⟩ HOD.out (fun k _ hk => .inl hk)) (by
      have h := HDD.out
      have e : (fun m => if m = n9 then nb else f m) = laidK 512 y.1 f := by
       funext m
       unfold laidK
       rw [HYN.out, HNB.out]
      rw [e] at h
      exact h) (fun i => D.wv.ownBlock = some i) HDN.out)
     have k7d : Blk Wd b7 3 #[.int .i64 (i : Int)] := (HOD.out.blk (HOO.out.blk HI.out.k7 (by have := HI.out.lo; omega)) (fun e => by
      obtain ⟨l2, h2, _⟩ := HI.out.disk.lasts
      exact ne_map h2 HI.out.k7 e.symm))
     have c7d := k7d.cell_is 0 rfl
     have f7d := k7d.frozen 0
     clear k7d
     gi_wp2
     have hf := HNX.out
     rw [show laidK 512 y.1 f = crashL (keptN keep torn kb) x.lasts ((pre ++ [y]).map (·.1)) by
      rw [List.map_append, List.map_singleton, crashL_snoc, List.length_map, ← HEI.out, HKN.out, ← HEF.out]] at hf
     refine ⟨hf.1, hf.2.1, ?_⟩
     dsimp only
     rw [List.length_append, List.length_singleton, ← HEI.out]
     exact hf.2.2
    ·have HKN := Lib.hid (show keptN keep torn kb i = kb by unfold keptN; rw [if_pos (by simpa using htn)]; rfl)
     gi_wp2
     refine jbR (fun X => Below W.heap.size W X) (fun _ => True) 100 (Below.refl _ _).drew trivial fun hHeld hJ => ?_
     refine jk false 0 ?_ (hy := by intro X hX _; have hc := (HI.out.k6.below hX HI.out.k6.lt).cell_is 0 rfl; unfold ptr at hc; go_simp; try with_reducible rfl)
     refine jk false 1 ?_ (hy := by intro X hX _; have hc := (HI.out.disk.blk.below hX HI.out.disk.blk.lt).cell_is 1 rfl; go_simp; try with_reducible rfl)
     refine jk false 2 ?_
     refine jk false 3 ?_ (hy := by intro X hX _; have hc := (HI.out.disk.blk.below hX HI.out.disk.blk.lt).cell_is 1 rfl; dsimp only at hc; go_simp; try with_reducible rfl)
     refine jk false 4 ?_
     refine jk false 5 ?_ (hy := by intro X hX _; have hc := (HG.out.below hX HG.out.lt).cell_is 0 rfl; go_simp; try with_reducible rfl)
     refine jk false 6 ?_ (hy := by intro X hX _; have hc := look_lasts (HI.out.disk.below hX) n9; dsimp only at hc; unfold sectorV at hc; go_simp; try with_reducible rfl)
     obtain ⟨wd, ewd⟩ : ∃ X, X = W.drew := ⟨_, rfl⟩
     rw [← ewd] at hHeld ⊢
     clear ewd
     refine jr 7 fun K hK => ?_
     go_simp
     obtain ⟨gb, egb⟩ : ∃ k, k = wd.heap.size := ⟨_, rfl⟩
     obtain ⟨Wa, eWa⟩ : ∃ X, X = wd.alloc (.cells Tryz.zeroCells111 111) := ⟨_, rfl⟩
     have hba : Below W.heap.size W Wa := by rw [eWa]; exact hHeld.trans (((Below.refl _ wd).alloc (Nat.le_refl _) _).mono hHeld.size)
     have BG : Blk Wa gb 111 (sector0.map vu8).toArray := by rw [eWa, egb, ← zero111]; exact Blk.new _ _ _
     have hgb : W.heap.size ≤ gb := by rw [egb]; exact hHeld.size
     rw [← eWa, ← egb]
     clear eWa egb
     refine hK.out _ _ ⟨hba, fun _ => trivial⟩ ?_
     clear hK K hHeld
     have hHeld := hba
     refine jr 8 fun K hK => ?_
     rw [if_pos (by rfl)]
     refine wp_store_row 111 _ _ rfl gb ((f n9).map vu8).toArray rfl rfl 111 _ BG (sector_size _ (HFL.out n9)) (sector_eq _ _ sector0_len (HFL.out n9)) (sector_all _) ?_
     obtain ⟨Wb, eWb⟩ : ∃ X, X = Wa.setRow gb ((f n9).map vu8).toArray := ⟨_, rfl⟩
     have hbb : Below W.heap.size W Wb := by rw [eWb]; exact hba.trans ((out_row (F := fun k => k = gb) _ rfl).below hba.size (fun k hk e => by omega))
     have BB : Blk Wb gb 111 ((f n9).map vu8).toArray := by rw [eWb]; exact BG.row _
     rw [← eWb]
     clear eWb
     refine hK.out _ _ ⟨hbb, fun _ => trivial⟩ ?_
     clear hK K hHeld hJ BG hba
     refine wpAnyJ_done (by kernel_rfl) ?_ _
     have HBB := Lib.hid BB
     have hGb : Blk Wb g 161 (Value.int .i64 n9 :: y.1.b.map vu8).toArray := HG.out.below hbb HG.out.lt
     have HGB := Lib.hid hGb
     obtain ⟨Wc, hrc, hBc, hOc⟩ := crash_copy (k := kb) (by omega) y.2 (HFL.out n9) BB.drew hGb.drew 3
     have HBC := Lib.hid hBc
     have HOC := Lib.hid (show Out (fun k => k = gb) Wb Wc from (outB (Below.refl _ _).drew : Out (fun k => k = gb) Wb Wb.drew).trans hOc (fun _ _ h => h))
     have HBW := Lib.hid hbb
     have HRC := Lib.hid hrc
     clear hBc hOc BB hGb hbb hrc
     gi_wp2
     refine jbR (fun X => Out (fun k => k = gb) Wb X) (fun _ => True) 100 (outB (Below.refl _ _).drew) trivial fun hHeld hJ => ?_
     refine jk false 0 ?_
     refine jk false 1 ?_
     refine jk false 2 ?_
     refine jk false 3 ?_
     refine jk false 4 ?_
     refine jr 5 fun K hK => ?_
     rw [if_pos (by rfl)]
     refine Lib.wp_copy_run _ (.tmp 64) (.tmp 66) 26 26 rfl _ _ (by rfl) (by rfl) HRC.out ?_
     refine hK.out _ _ ⟨HOC.out, fun _ => trivial⟩ ?_
     clear hK K hHeld hJ
     refine wpAnyJ_done (by kernel_rfl) ?_ _
     have hlg : lm < M ∧ dp < M ∧ M ≤ W.heap.size ∧ b6 < M := ⟨HI.out.lo.2.2.2.1, HI.out.lo.2.2.1, HI.out.lo.1, HI.out.lo.2.2.2.2.1⟩
     have hoc : Out (fun k => W.heap.size ≤ k) W Wc := (outB HBW.out : Out (fun k => W.heap.size ≤ k) W Wb).trans HOC.out (fun k _ e => by rw [show k = gb from e]; exact hgb)
     have hdc := HI.out.disk.out hoc (fun k hk hf => by
      rcases hk with hk | hk | hk | hk
      ·have : k = dp := hk
       omega
      ·have : k = lm := hk
       omega
      ·cases hk
      ·cases hk)
     have k6c := hoc.blk HI.out.k6 (show ¬ W.heap.size ≤ b6 by omega)
     have gc : Blk Wc g 161 (Value.int .i64 n9 :: y.1.b.map vu8).toArray := HOC.out.blk HGB.out (Blk.ne_ HGB.out HBB.out (by decide))
     obtain ⟨nb, enb⟩ : ∃ l, l = y.1.b.take kb ++ (f n9).drop kb := ⟨_, rfl⟩
     have hnb : nb.length = 512 := by rw [enb, List.length_append, List.length_take, List.length_drop, y.2, HFL.out]; omega
     have HBC2 := Lib.hid (show Blk Wc gb 111 (nb.map vu8).toArray by rw [enb]; exact HBC.out)
     have HNB := Lib.hid enb
     clear enb
     obtain ⟨Wd, hrd, hTd, hdd, hsd⟩ := diskLasts_set hdc.drew n9 nb
     dsimp only at hTd hrd hdd
     have hod : Out (fun k => k = lm) Wc Wd := (outB (Below.refl _ _).drew : Out (fun k => k = lm) Wc Wc.drew).trans ⟨hTd.os, hTd.tape, hTd.output, Nat.le_of_eq hTd.size.symm, fun k _ hn => hTd.block k hn⟩ (fun _ _ h => h)
     have hmc := hdc.lasts
     obtain ⟨lmc, hmc, _⟩ := hmc
     dsimp only at hmc
     have n6c : ¬ b6 = lm := fun e => ne_map hmc k6c e.symm
     have ngc : ¬ g = lm := fun e => ne_map hmc gc e.symm
     have nbc : ¬ gb = lm := fun e => ne_map hmc HBC2.out e.symm
     have HDC := Lib.hid hdc
     have HDD := Lib.hid hdd
     have HOD := Lib.hid hod
     have HRD := Lib.hid hrd
     have K6C := Lib.hid k6c
     have GC := Lib.hid gc
     have HOO := Lib.hid hoc
     have hszF : (Tryz.prog.info? 111).map (·.size) = some (nb.map vu8).length := by rw [List.length_map, hnb]; exact size_sector
     have ndd : ¬ dp = lm := fun e => HDC.out.ne.1 e.symm
     clear hdc hdd hod hrd hTd hsd k6c gc hmc hoc hlg
     unfold sectorV at HRD
     gi_wp2
     refine jbR (fun X => Out (fun k => k = lm) Wc X) (fun _ => True) 100 (outB (Below.refl _ _).drew) trivial fun hHeld hJ => ?_
     refine jk false 0 ?_ (hy := by intro X hX _; have hc := (hX.blk K6C.out n6c).cell_is 0 rfl; unfold ptr at hc; go_simp; try with_reducible rfl)
     refine jk false 1 ?_ (hy := by intro X hX _; have hc := (hX.blk HDC.out.blk ndd).cell_is 1 rfl; go_simp; try with_reducible rfl)
     refine jk false 2 ?_
     refine jk false 3 ?_ (hy := by intro X hX _; have hc := (hX.blk HDC.out.blk ndd).cell_is 1 rfl; dsimp only at hc; go_simp; try with_reducible rfl)
     refine jk false 4 ?_
     refine jk false 5 ?_ (hy := by intro X hX _; have hc := (hX.blk GC.out ngc).cell_is 0 rfl; go_simp; try with_reducible rfl)
     refine jy false 6 rfl (yieldsIf_load_mid (by rfl) 111 _ rfl gb 0 rfl (nb.map vu8) _ (fun w' h => blk_range (h.1.blk HBC2.out nbc)) Tryz.underlying111 rfl hszF) ?_
     refine jr 7 fun K hK => ?_
     rw [if_pos (show Region.wanted _ _ = true from rfl)]
     refine wp_mapUpdate_is _ Wd 148 _ _ _ rfl _ _ _ rfl rfl rfl HRD.out ?_
     refine hK.out _ _ ⟨HOD.out, fun _ => trivial⟩ ?_
     clear hK K hHeld hJ
     refine wpAnyJ_done (by kernel_rfl) ?_ _
     have HNX := Lib.hid (HI.out.next (Wd := Wd) (f' := laidK kb y.1 f) (by
      refine Out.trans (F := fun k => k = lm ∨ W.heap.size ≤ k) ⟨HOO.out.os, HOO.out.tape, HOO.out.output, HOO.out.size, fun k hk hf => HOO.out.block k hk (fun h => hf (.inr h))⟩ HOD.out (fun k _ hk => .inl hk)) (by
      have h := HDD.out
      have e : (fun m => if m = n9 then nb else f m) = laidK kb y.1 f := by
       funext m
       unfold laidK
       rw [HYN.out, HNB.out]
      rw [e] at h
      exact h) (fun i => D.wv.ownBlock = some i) HDN.out)
     have k7d : Blk Wd b7 3 #[.int .i64 (i : Int)] := (HOD.out.blk (HOO.out.blk HI.out.k7 (by have := HI.out.lo; omega)) (fun e => by
      obtain ⟨l2, h2, _⟩ := HI.out.disk.lasts
      exact ne_map h2 HI.out.k7 e.symm))
     have c7d := k7d.cell_is 0 rfl
     have f7d := k7d.frozen 0
     clear k7d
     gi_wp2
     have hf := HNX.out
     rw [show laidK kb y.1 f = crashL (keptN keep torn kb) x.lasts ((pre ++ [y]).map (·.1)) by
      rw [List.map_append, List.map_singleton, crashL_snoc, List.length_map, ← HEI.out, HKN.out, ← HEF.out]] at hf
     refine ⟨hf.1, hf.2.1, ?_⟩
     dsimp only
     rw [List.length_append, List.length_singleton, ← HEI.out]
     exact hf.2.2
  ·have hnl : decide ((i : Int) < (keep.length : Int)) = false := by simpa using (by omega : (keep.length : Int) ≤ (i : Int))
   have HQ := Lib.hid (show keep[i]? = none from List.getElem?_eq_none (by omega))
   have hge : (keep.length : Int) ≤ (i : Int) := by omega
   have hnl2 : ¬ ((i : Int) < (keep.length : Int)) := by omega
   cases htn : ((i : Int) == torn)
   ·have HKN := Lib.hid (show keptN keep torn kb i = 0 by unfold keptN; rw [if_neg (by simpa using htn), HQ.out]; rfl)
    gi_wp2
    refine jbR (fun X => Below W.heap.size W X) (fun _ => True) 100 (Below.refl _ _).drew trivial fun hHeld hJ => ?_
    refine jk false 0 ?_ (hy := by intro X hX _; have hc := (HI.out.k6.below hX HI.out.k6.lt).cell_is 0 rfl; unfold ptr at hc; go_simp; try with_reducible rfl)
    refine jk false 1 ?_ (hy := by intro X hX _; have hc := (HI.out.disk.blk.below hX HI.out.disk.blk.lt).cell_is 1 rfl; go_simp; try with_reducible rfl)
    refine jk false 2 ?_
    refine jk false 3 ?_ (hy := by intro X hX _; have hc := (HI.out.disk.blk.below hX HI.out.disk.blk.lt).cell_is 1 rfl; dsimp only at hc; go_simp; try with_reducible rfl)
    refine jk false 4 ?_
    refine jk false 5 ?_ (hy := by intro X hX _; have hc := (HG.out.below hX HG.out.lt).cell_is 0 rfl; go_simp; try with_reducible rfl)
    refine jk false 6 ?_ (hy := by intro X hX _; have hc := look_lasts (HI.out.disk.below hX) n9; dsimp only at hc; unfold sectorV at hc; go_simp; try with_reducible rfl)
    obtain ⟨wd, ewd⟩ : ∃ X, X = W.drew := ⟨_, rfl⟩
    rw [← ewd] at hHeld ⊢
    clear ewd
    refine jr 7 fun K hK => ?_
    go_simp
    obtain ⟨gb, egb⟩ : ∃ k, k = wd.heap.size := ⟨_, rfl⟩
    obtain ⟨Wa, eWa⟩ : ∃ X, X = wd.alloc (.cells Tryz.zeroCells111 111) := ⟨_, rfl⟩
    have hba : Below W.heap.size W Wa := by rw [eWa]; exact hHeld.trans (((Below.refl _ wd).alloc (Nat.le_refl _) _).mono hHeld.size)
    have BG : Blk Wa gb 111 (sector0.map vu8).toArray := by rw [eWa, egb, ← zero111]; exact Blk.new _ _ _
    have hgb : W.heap.size ≤ gb := by rw [egb]; exact hHeld.size
    rw [← eWa, ← egb]
    clear eWa egb
    refine hK.out _ _ ⟨hba, fun _ => trivial⟩ ?_
    clear hK K hHeld
    have hHeld := hba
    refine jr 8 fun K hK => ?_
    rw [if_pos (by rfl)]
    refine wp_store_row 111 _ _ rfl gb ((f n9).map vu8).toArray rfl rfl 111 _ BG (sector_size _ (HFL.out n9)) (sector_eq _ _ sector0_len (HFL.out n9)) (sector_all _) ?_
    obtain ⟨Wb, eWb⟩ : ∃ X, X = Wa.setRow gb ((f n9).map vu8).toArray := ⟨_, rfl⟩
    have hbb : Below W.heap.size W Wb := by rw [eWb]; exact hba.trans ((out_row (F := fun k => k = gb) _ rfl).below hba.size (fun k hk e => by omega))
    have BB : Blk Wb gb 111 ((f n9).map vu8).toArray := by rw [eWb]; exact BG.row _
    rw [← eWb]
    clear eWb
    refine hK.out _ _ ⟨hbb, fun _ => trivial⟩ ?_
    clear hK K hHeld hJ BG hba
    refine wpAnyJ_done (by kernel_rfl) ?_ _
    have HBB := Lib.hid BB
    have hGb : Blk Wb g 161 (Value.int .i64 n9 :: y.1.b.map vu8).toArray := HG.out.below hbb HG.out.lt
    have HGB := Lib.hid hGb
    obtain ⟨Wc, hrc, hBc, hOc⟩ := crash_copy (k := 0) (by omega) y.2 (HFL.out n9) BB.drew hGb.drew 3
    have HBC := Lib.hid hBc
    have HOC := Lib.hid (show Out (fun k => k = gb) Wb Wc from (outB (Below.refl _ _).drew : Out (fun k => k = gb) Wb Wb.drew).trans hOc (fun _ _ h => h))
    have HBW := Lib.hid hbb
    have HRC := Lib.hid hrc
    clear hBc hOc BB hGb hbb hrc
    gi_wp2
    refine jbR (fun X => Out (fun k => k = gb) Wb X) (fun _ => True) 100 (outB (Below.refl _ _).drew) trivial fun hHeld hJ => ?_
    refine jk false 0 ?_
    refine jk false 1 ?_
    refine jk false 2 ?_
    refine jk false 3 ?_
    refine jk false 4 ?_
    refine jr 5 fun K hK => ?_
    rw [if_pos (by rfl)]
    refine Lib.wp_copy_run _ (.tmp 64) (.tmp 66) 26 26 rfl _ _ (by rfl) (by rfl) HRC.out ?_
    refine hK.out _ _ ⟨HOC.out, fun _ => trivial⟩ ?_
    clear hK K hHeld hJ
    refine wpAnyJ_done (by kernel_rfl) ?_ _
    have hlg : lm < M ∧ dp < M ∧ M ≤ W.heap.size ∧ b6 < M := ⟨HI.out.lo.2.2.2.1, HI.out.lo.2.2.1, HI.out.lo.1, HI.out.lo.2.2.2.2.1⟩
    have hoc : Out (fun k => W.heap.size ≤ k) W Wc := (outB HBW.out : Out (fun k => W.heap.size ≤ k) W Wb).trans HOC.out (fun k _ e => by rw [show k = gb from e]; exact hgb)
    have hdc := HI.out.disk.out hoc (fun k hk hf => by
     rcases hk with hk | hk | hk | hk
     ·have : k = dp := hk
      omega
     ·have : k = lm := hk
      omega
     ·cases hk
     ·cases hk)
    have k6c := hoc.blk HI.out.k6 (show ¬ W.heap.size ≤ b6 by omega)
    have gc : Blk Wc g 161 (Value.int .i64 n9 :: y.1.b.map vu8).toArray := HOC.out.blk HGB.out (Blk.ne_ HGB.out HBB.out (by decide))
    obtain ⟨nb, enb⟩ : ∃ l, l = y.1.b.take 0 ++ (f n9).drop 0 := ⟨_, rfl⟩
    have hnb : nb.length = 512 := by rw [enb, List.length_append, List.length_take, List.length_drop, y.2, HFL.out]; omega
    have HBC2 := Lib.hid (show Blk Wc gb 111 (nb.map vu8).toArray by rw [enb]; exact HBC.out)
    have HNB := Lib.hid enb
    clear enb
    obtain ⟨Wd, hrd, hTd, hdd, hsd⟩ := diskLasts_set hdc.drew n9 nb
    dsimp only at hTd hrd hdd
    have hod : Out (fun k => k = lm) Wc Wd := (outB (Below.refl _ _).drew : Out (fun k => k = lm) Wc Wc.drew).trans ⟨hTd.os, hTd.tape, hTd.output, Nat.le_of_eq hTd.size.symm, fun k _ hn => hTd.block k hn⟩ (fun _ _ h => h)
    have hmc := hdc.lasts
    obtain ⟨lmc, hmc, _⟩ := hmc
    dsimp only at hmc
    have n6c : ¬ b6 = lm := fun e => ne_map hmc k6c e.symm
    have ngc : ¬ g = lm := fun e => ne_map hmc gc e.symm
    have nbc : ¬ gb = lm := fun e => ne_map hmc HBC2.out e.symm
    have HDC := Lib.hid hdc
    have HDD := Lib.hid hdd
    have HOD := Lib.hid hod
    have HRD := Lib.hid hrd
    have K6C := Lib.hid k6c
    have GC := Lib.hid gc
    have HOO := Lib.hid hoc
    have hszF : (Tryz.prog.info? 111).map (·.size) = some (nb.map vu8).length := by rw [List.length_map, hnb]; exact size_sector
    have ndd : ¬ dp = lm := fun e => HDC.out.ne.1 e.symm
    clear hdc hdd hod hrd hTd hsd k6c gc hmc hoc hlg
    unfold sectorV at HRD
    gi_wp2
    refine jbR (fun X => Out (fun k => k = lm) Wc X) (fun _ => True) 100 (outB (Below.refl _ _).drew) trivial fun hHeld hJ => ?_
    refine jk false 0 ?_ (hy := by intro X hX _; have hc := (hX.blk K6C.out n6c).cell_is 0 rfl; unfold ptr at hc; go_simp; try with_reducible rfl)
    refine jk false 1 ?_ (hy := by intro X hX _; have hc := (hX.blk HDC.out.blk ndd).cell_is 1 rfl; go_simp; try with_reducible rfl)
    refine jk false 2 ?_
    refine jk false 3 ?_ (hy := by intro X hX _; have hc := (hX.blk HDC.out.blk ndd).cell_is 1 rfl; dsimp only at hc; go_simp; try with_reducible rfl)
    refine jk false 4 ?_
    refine jk false 5 ?_ (hy := by intro X hX _; have hc := (hX.blk GC.out ngc).cell_is 0 rfl; go_simp; try with_reducible rfl)
    refine jy false 6 rfl (yieldsIf_load_mid (by rfl) 111 _ rfl gb 0 rfl (nb.map vu8) _ (fun w' h => blk_range (h.1.blk HBC2.out nbc)) Tryz.underlying111 rfl hszF) ?_
    refine jr 7 fun K hK => ?_
    rw [if_pos (show Region.wanted _ _ = true from rfl)]
    refine wp_mapUpdate_is _ Wd 148 _ _ _ rfl _ _ _ rfl rfl rfl HRD.out ?_
    refine hK.out _ _ ⟨HOD.out, fun _ => trivial⟩ ?_
    clear hK K hHeld hJ
    refine wpAnyJ_done (by kernel_rfl) ?_ _
    have HNX := Lib.hid (HI.out.next (Wd := Wd) (f' := laidK 0 y.1 f) (by
     refine Out.trans (F := fun k => k = lm ∨ W.heap.size ≤ k) ⟨HOO.out.os, HOO.out.tape, HOO.out.output, HOO.out.size, fun k hk hf => HOO.out.block k hk (fun h => hf (.inr h))⟩ HOD.out (fun k _ hk => .inl hk)) (by
     have h := HDD.out
     have e : (fun m => if m = n9 then nb else f m) = laidK 0 y.1 f := by
      funext m
      unfold laidK
      rw [HYN.out, HNB.out]
     rw [e] at h
     exact h) (fun i => D.wv.ownBlock = some i) HDN.out)
    have k7d : Blk Wd b7 3 #[.int .i64 (i : Int)] := (HOD.out.blk (HOO.out.blk HI.out.k7 (by have := HI.out.lo; omega)) (fun e => by
     obtain ⟨l2, h2, _⟩ := HI.out.disk.lasts
     exact ne_map h2 HI.out.k7 e.symm))
    have c7d := k7d.cell_is 0 rfl
    have f7d := k7d.frozen 0
    clear k7d
    gi_wp2
    have hf := HNX.out
    rw [show laidK 0 y.1 f = crashL (keptN keep torn kb) x.lasts ((pre ++ [y]).map (·.1)) by
     rw [List.map_append, List.map_singleton, crashL_snoc, List.length_map, ← HEI.out, HKN.out, ← HEF.out]] at hf
    refine ⟨hf.1, hf.2.1, ?_⟩
    dsimp only
    rw [List.length_append, List.length_singleton, ← HEI.out]
    exact hf.2.2
   ·have HKN := Lib.hid (show keptN keep torn kb i = kb by unfold keptN; rw [if_pos (by simpa using htn)]; rfl)
    gi_wp2
    refine jbR (fun X => Below W.heap.size W X) (fun _ => True) 100 (Below.refl _ _).drew trivial fun hHeld hJ => ?_
    refine jk false 0 ?_ (hy := by intro X hX _; have hc := (HI.out.k6.below hX HI.out.k6.lt).cell_is 0 rfl; unfold ptr at hc; go_simp; try with_reducible rfl)
    refine jk false 1 ?_ (hy := by intro X hX _; have hc := (HI.out.disk.blk.below hX HI.out.disk.blk.lt).cell_is 1 rfl; go_simp; try with_reducible rfl)
    refine jk false 2 ?_
    refine jk false 3 ?_ (hy := by intro X hX _; have hc := (HI.out.disk.blk.below hX HI.out.disk.blk.lt).cell_is 1 rfl; dsimp only at hc; go_simp; try with_reducible rfl)
    refine jk false 4 ?_
    refine jk false 5 ?_ (hy := by intro X hX _; have hc := (HG.out.below hX HG.out.lt).cell_is 0 rfl; go_simp; try with_reducible rfl)
    refine jk false 6 ?_ (hy := by intro X hX _; have hc := look_lasts (HI.out.disk.below hX) n9; dsimp only at hc; unfold sectorV at hc; go_simp; try with_reducible rfl)
    obtain ⟨wd, ewd⟩ : ∃ X, X = W.drew := ⟨_, rfl⟩
    rw [← ewd] at hHeld ⊢
    clear ewd
    refine jr 7 fun K hK => ?_
    go_simp
    obtain ⟨gb, egb⟩ : ∃ k, k = wd.heap.size := ⟨_, rfl⟩
    obtain ⟨Wa, eWa⟩ : ∃ X, X = wd.alloc (.cells Tryz.zeroCells111 111) := ⟨_, rfl⟩
    have hba : Below W.heap.size W Wa := by rw [eWa]; exact hHeld.trans (((Below.refl _ wd).alloc (Nat.le_refl _) _).mono hHeld.size)
    have BG : Blk Wa gb 111 (sector0.map vu8).toArray := by rw [eWa, egb, ← zero111]; exact Blk.new _ _ _
    have hgb : W.heap.size ≤ gb := by rw [egb]; exact hHeld.size
    rw [← eWa, ← egb]
    clear eWa egb
    refine hK.out _ _ ⟨hba, fun _ => trivial⟩ ?_
    clear hK K hHeld
    have hHeld := hba
    refine jr 8 fun K hK => ?_
    rw [if_pos (by rfl)]
    refine wp_store_row 111 _ _ rfl gb ((f n9).map vu8).toArray rfl rfl 111 _ BG (sector_size _ (HFL.out n9)) (sector_eq _ _ sector0_len (HFL.out n9)) (sector_all _) ?_
    obtain ⟨Wb, eWb⟩ : ∃ X, X = Wa.setRow gb ((f n9).map vu8).toArray := ⟨_, rfl⟩
    have hbb : Below W.heap.size W Wb := by rw [eWb]; exact hba.trans ((out_row (F := fun k => k = gb) _ rfl).below hba.size (fun k hk e => by omega))
    have BB : Blk Wb gb 111 ((f n9).map vu8).toArray := by rw [eWb]; exact BG.row _
    rw [← eWb]
    clear eWb
    refine hK.out _ _ ⟨hbb, fun _ => trivial⟩ ?_
    clear hK K hHeld hJ BG hba
    refine wpAnyJ_done (by kernel_rfl) ?_ _
    have HBB := Lib.hid BB
    have hGb : Blk Wb g 161 (Value.int .i64 n9 :: y.1.b.map vu8).toArray := HG.out.below hbb HG.out.lt
    have HGB := Lib.hid hGb
    obtain ⟨Wc, hrc, hBc, hOc⟩ := crash_copy (k := kb) (by omega) y.2 (HFL.out n9) BB.drew hGb.drew 3
    have HBC := Lib.hid hBc
    have HOC := Lib.hid (show Out (fun k => k = gb) Wb Wc from (outB (Below.refl _ _).drew : Out (fun k => k = gb) Wb Wb.drew).trans hOc (fun _ _ h => h))
    have HBW := Lib.hid hbb
    have HRC := Lib.hid hrc
    clear hBc hOc BB hGb hbb hrc
    gi_wp2
    refine jbR (fun X => Out (fun k => k = gb) Wb X) (fun _ => True) 100 (outB (Below.refl _ _).drew) trivial fun hHeld hJ => ?_
    refine jk false 0 ?_
    refine jk false 1 ?_
    refine jk false 2 ?_
    refine jk false 3 ?_
    refine jk false 4 ?_
    refine jr 5 fun K hK => ?_
    rw [if_pos (by rfl)]
    refine Lib.wp_copy_run _ (.tmp 64) (.tmp 66) 26 26 rfl _ _ (by rfl) (by rfl) HRC.out ?_
    refine hK.out _ _ ⟨HOC.out, fun _ => trivial⟩ ?_
    clear hK K hHeld hJ
    refine wpAnyJ_done (by kernel_rfl) ?_ _
    have hlg : lm < M ∧ dp < M ∧ M ≤ W.heap.size ∧ b6 < M := ⟨HI.out.lo.2.2.2.1, HI.out.lo.2.2.1, HI.out.lo.1, HI.out.lo.2.2.2.2.1⟩
    have hoc : Out (fun k => W.heap.size ≤ k) W Wc := (outB HBW.out : Out (fun k => W.heap.size ≤ k) W Wb).trans HOC.out (fun k _ e => by rw [show k = gb from e]; exact hgb)
    have hdc := HI.out.disk.out hoc (fun k hk hf => by
     rcases hk with hk | hk | hk | hk
     ·have : k = dp := hk
      omega
     ·have : k = lm := hk
      omega
     ·cases hk
     ·cases hk)
    have k6c := hoc.blk HI.out.k6 (show ¬ W.heap.size ≤ b6 by omega)
    have gc : Blk Wc g 161 (Value.int .i64 n9 :: y.1.b.map vu8).toArray := HOC.out.blk HGB.out (Blk.ne_ HGB.out HBB.out (by decide))
    obtain ⟨nb, enb⟩ : ∃ l, l = y.1.b.take kb ++ (f n9).drop kb := ⟨_, rfl⟩
    have hnb : nb.length = 512 := by rw [enb, List.length_append, List.length_take, List.length_drop, y.2, HFL.out]; omega
    have HBC2 := Lib.hid (show Blk Wc gb 111 (nb.map vu8).toArray by rw [enb]; exact HBC.out)
    have HNB := Lib.hid enb
    clear enb
    obtain ⟨Wd, hrd, hTd, hdd, hsd⟩ := diskLasts_set hdc.drew n9 nb
    dsimp only at hTd hrd hdd
    have hod : Out (fun k => k = lm) Wc Wd := (outB (Below.refl _ _).drew : Out (fun k => k = lm) Wc Wc.drew).trans ⟨hTd.os, hTd.tape, hTd.output, Nat.le_of_eq hTd.size.symm, fun k _ hn => hTd.block k hn⟩ (fun _ _ h => h)
    have hmc := hdc.lasts
    obtain ⟨lmc, hmc, _⟩ := hmc
    dsimp only at hmc
    have n6c : ¬ b6 = lm := fun e => ne_map hmc k6c e.symm
    have ngc : ¬ g = lm := fun e => ne_map hmc gc e.symm
    have nbc : ¬ gb = lm := fun e => ne_map hmc HBC2.out e.symm
    have HDC := Lib.hid hdc
    have HDD := Lib.hid hdd
    have HOD := Lib.hid hod
    have HRD := Lib.hid hrd
    have K6C := Lib.hid k6c
    have GC := Lib.hid gc
    have HOO := Lib.hid hoc
    have hszF : (Tryz.prog.info? 111).map (·.size) = some (nb.map vu8).length := by rw [List.length_map, hnb]; exact size_sector
    have ndd : ¬ dp = lm := fun e => HDC.out.ne.1 e.symm
    clear hdc hdd hod hrd hTd hsd k6c gc hmc hoc hlg
    unfold sectorV at HRD
    gi_wp2
    refine jbR (fun X => Out (fun k => k = lm) Wc X) (fun _ => True) 100 (outB (Below.refl _ _).drew) trivial fun hHeld hJ => ?_
    refine jk false 0 ?_ (hy := by intro X hX _; have hc := (hX.blk K6C.out n6c).cell_is 0 rfl; unfold ptr at hc; go_simp; try with_reducible rfl)
    refine jk false 1 ?_ (hy := by intro X hX _; have hc := (hX.blk HDC.out.blk ndd).cell_is 1 rfl; go_simp; try with_reducible rfl)
    refine jk false 2 ?_
    refine jk false 3 ?_ (hy := by intro X hX _; have hc := (hX.blk HDC.out.blk ndd).cell_is 1 rfl; dsimp only at hc; go_simp; try with_reducible rfl)
    refine jk false 4 ?_
    refine jk false 5 ?_ (hy := by intro X hX _; have hc := (hX.blk GC.out ngc).cell_is 0 rfl; go_simp; try with_reducible rfl)
    refine jy false 6 rfl (yieldsIf_load_mid (by rfl) 111 _ rfl gb 0 rfl (nb.map vu8) _ (fun w' h => blk_range (h.1.blk HBC2.out nbc)) Tryz.underlying111 rfl hszF) ?_
    refine jr 7 fun K hK => ?_
    rw [if_pos (show Region.wanted _ _ = true from rfl)]
    refine wp_mapUpdate_is _ Wd 148 _ _ _ rfl _ _ _ rfl rfl rfl HRD.out ?_
    refine hK.out _ _ ⟨HOD.out, fun _ => trivial⟩ ?_
    clear hK K hHeld hJ
    refine wpAnyJ_done (by kernel_rfl) ?_ _
    have HNX := Lib.hid (HI.out.next (Wd := Wd) (f' := laidK kb y.1 f) (by
     refine Out.trans (F := fun k => k = lm ∨ W.heap.size ≤ k) ⟨HOO.out.os, HOO.out.tape, HOO.out.output, HOO.out.size, fun k hk hf => HOO.out.block k hk (fun h => hf (.inr h))⟩ HOD.out (fun k _ hk => .inl hk)) (by
     have h := HDD.out
     have e : (fun m => if m = n9 then nb else f m) = laidK kb y.1 f := by
      funext m
      unfold laidK
      rw [HYN.out, HNB.out]
     rw [e] at h
     exact h) (fun i => D.wv.ownBlock = some i) HDN.out)
    have k7d : Blk Wd b7 3 #[.int .i64 (i : Int)] := (HOD.out.blk (HOO.out.blk HI.out.k7 (by have := HI.out.lo; omega)) (fun e => by
     obtain ⟨l2, h2, _⟩ := HI.out.disk.lasts
     exact ne_map h2 HI.out.k7 e.symm))
    have c7d := k7d.cell_is 0 rfl
    have f7d := k7d.frozen 0
    clear k7d
    gi_wp2
    have hf := HNX.out
    rw [show laidK kb y.1 f = crashL (keptN keep torn kb) x.lasts ((pre ++ [y]).map (·.1)) by
     rw [List.map_append, List.map_singleton, crashL_snoc, List.length_map, ← HEI.out, HKN.out, ← HEF.out]] at hf
    refine ⟨hf.1, hf.2.1, ?_⟩
    dsimp only
    rw [List.length_append, List.length_singleton, ← HEI.out]
    exact hf.2.2
theorem dcrash_any (D : DiskP) (x : DiskD) (vk : Value) (keep : List Bool) (torn bytes : Int) (w : World) (h : DiskAt w D x) (hx : x.ok) (hk : BoolsIn w w.heap.size vk keep) (hy0 : 0 ≤ bytes) (hy5 : bytes ≤ 512) :
  Calls Tryz.prog 33 #[ptr D.p, .agg #[vk, .int .i64 torn, .int .i64 bytes]] w fun e w' => ∃ D2, e = .returned (.tuple #[ptr D2.p, .int .i64 0]) ∧ DiskAt w' D2 (x.crash keep torn bytes) ∧ (∀ i, D2.has i → w.heap.size ≤ i) ∧ Below w.heap.size w w' :=
 callsIn_wide.1 (dcrash_in 5 (by omega) D x vk keep torn bytes w h hx hk hy0 hy5)
end Go.Proofs.YtdpniceapmikpaaGreat
