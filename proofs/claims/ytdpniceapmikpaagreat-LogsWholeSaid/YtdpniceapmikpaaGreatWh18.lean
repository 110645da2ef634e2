/-
  logs.says: what a head says.
-/
import Derived.Laws.IdiomStrings
import Derived.Test.YtdpniceapmikpaaGreatWh1
import Derived.Test.YtdpniceapmikpaaGreatWh17
set_option linter.unusedVariables false
set_option linter.unusedSimpArgs false
namespace Go.Proofs.YtdpniceapmikpaaGreat
open Go.RowKit

def magicB : List UInt8 := [67, 72, 76, 71]
/-- the number that k bytes from i on tell -/
def numAt (b : List UInt8) (i k : Nat) : Nat := leN ((b.drop i).take k)
/-- the cells of a head: edition, oids, objects, state, the state's sum, the objects' sums -/
def saidV (ed : Nat) (vo vb vs : Value) (c : Nat) (vm : Value) : Array Value := #[.int .i64 ed, vo, vb, vs, .int .i64 c, vm]
def headLast (b : List UInt8) (i : Nat) : Int := if i = 0 then -1 else (numAt b (20 + 6 * (i - 1)) 2 : Int)
def headGo (N : Int) (b : List UInt8) (i : Nat) : Bool := decide (headLast b i < (numAt b (20 + 6 * i) 2 : Int)) && decide ((numAt b (20 + 6 * i) 2 : Int) < N)
def headB (N : Int) (b : List UInt8) : Bool :=
 sealedB b && ((b.take 4 == magicB) && (decide (numAt b 4 8 < 9223372036854775808) && (decide ((numAt b 12 2 : Int) ≤ N) && (decide (numAt b 14 2 ≤ 4096) &&
  ((List.range (numAt b 12 2)).all (headGo N b) && !((b.take 508).drop (20 + 6 * numAt b 12 2)).any (· != 0))))))

/-- what a head tells, in memory made since w -/
def SaidIn (b : List UInt8) (w w' : World) (v : Value) : Prop :=
 ∃ vo vs vm g, v = .agg (saidV (numAt b 4 8) vo (.slice none 0 0) vs (numAt b 16 4) vm) ∧
  w'.ownsRow w.heap.size 3 1 vo (numAt b 12 2) ((List.range (numAt b 12 2)).map fun i => .int .i64 (numAt b (20 + 6 * i) 2 : Int)) ∧
  w'.ownsRow w.heap.size 2 1 vm (numAt b 12 2) ((List.range (numAt b 12 2)).map fun i => .int .i64 (numAt b (22 + 6 * i) 4 : Int)) ∧
  vs = .slice (some ⟨g, 0, none⟩) (numAt b 14 2) (numAt b 14 2) ∧ w.heap.size ≤ g ∧ Blk w' g 5 (Array.replicate (numAt b 14 2) (vu8 0))
def SaidPost (D : DiskP) (x : DiskD) (N : Int) (b : List UInt8) (w w' : World) (e : Ending) : Prop :=
 DiskAt w' D x.stepped ∧ DStep D D w w' ∧ if headB N b then ∃ v, e = .returned v ∧ SaidIn b w w' v else e = .panicked (failC 170)
theorem SaidPost.no {D : DiskP} {x : DiskD} {N : Int} {b : List UInt8} {w w2 w' : World} (h : headB N b = false) (hd : DiskAt w2 D x.stepped) (hs : DStep D D w w2) (hb : Below w2.heap.size w2 w') : SaidPost D x N b w w' (.panicked (failC 170)) :=
 ⟨hd.below hb, hs.below hb, by rw [h]; rfl⟩
/-- where says stands while it takes -/
structure SaysInv (D : DiskP) (x : DiskD) (w : World) (N : Int) (pl gs B : Nat) (W : World) (v : Value) (rest : List UInt8) (S : Array Value) : Prop where
 disk : DiskAt W D x.stepped
 step : DStep D D w W
 plan : Blk W w.heap.size 23 #[.int .i64 N]
 res : Blk W (w.heap.size + 1) 142 (saidV 0 (.slice none 0 0) (.slice none 0 0) (.slice none 0 0) 0 (.slice none 0 0))
 box : Blk W pl 26 #[v]
 bytes : BytesIn W B v rest
 said : Blk W gs 142 S
 bs : w.heap.size + 2 ≤ B
 bl : B ≤ pl
 ne : pl < gs
section
variable {D : DiskP} {x : DiskD} {w W W' : World} {N : Int} {pl gs B : Nat} {v : Value} {rest : List UInt8} {S : Array Value}
theorem SaysInv.old (h : SaysInv D x w N pl gs B W v rest S) (hD : ∀ i, D.has i → i < w.heap.size) {F : Nat → Prop} (ho : Out F W W') (hF : ∀ i, F i → i < W.heap.size → B ≤ i) :
  DiskAt W' D x.stepped ∧ DStep D D w W' ∧ Blk W' w.heap.size 23 #[.int .i64 N] ∧ Blk W' (w.heap.size + 1) 142 (saidV 0 (.slice none 0 0) (.slice none 0 0) (.slice none 0 0) 0 (.slice none 0 0)) ∧ BytesIn W' B v rest := by
 have hB := h.bs
 have hBW : B ≤ W.heap.size := by have := h.box.lt; have := h.bl; omega
 have hb : Below B W W' := ⟨ho.os, ho.tape, ho.output, ho.size, fun i hi => ho.block i (by omega) (fun hf => by have := hF i hf (by omega); omega)⟩
 have hw := h.step.out.size
 refine ⟨h.disk.out (F := fun i => B ≤ i) ⟨ho.os, ho.tape, ho.output, ho.size, fun i hi hn => hb.block i (by omega)⟩ (fun i hi => by have := hD i hi; omega), ?_, h.plan.below hb (by omega), h.res.below hb (by omega), h.bytes.below hb (Nat.le_refl _)⟩
 exact ⟨h.step.out.trans (G := fun i => B ≤ i) ⟨ho.os, ho.tape, ho.output, ho.size, fun i hi hn => hb.block i (by omega)⟩ (fun i hi hg => by omega), rfl, fun i hi => .inl hi⟩
theorem SaysInv.take (h : SaysInv D x w N pl gs B W v rest S) (hD : ∀ i, D.has i → i < w.heap.size) (ho : Out (fun i => i = pl) W W') {v' : Value} {rest' : List UInt8} (hb : Blk W' pl 26 #[v']) (hv : BytesIn W' B v' rest') : SaysInv D x w N pl gs B W' v' rest' S := by
 obtain ⟨h1, h2, h3, h4, _⟩ := h.old hD ho (fun i e _ => by have := h.bl; omega)
 exact ⟨h1, h2, h3, h4, hb, hv, ho.blk h.said (by have := h.ne; omega), h.bs, h.bl, h.ne⟩
theorem SaysInv.set_ (h : SaysInv D x w N pl gs B W v rest S) (hD : ∀ i, D.has i → i < w.heap.size) (i : Nat) (u : Value) : SaysInv D x w N pl gs B (W.setCell ⟨gs, i, none⟩ u) v rest (S.setIfInBounds i u) := by
 obtain ⟨h1, h2, h3, h4, h5⟩ := h.old hD (out_set (F := fun i => i = gs) rfl) (fun i e _ => by have := h.bl; have := h.ne; omega)
 exact ⟨h1, h2, h3, h4, h.box.far (by have := h.ne; simp; omega) _, h5, h.said.set_ i u, h.bs, h.bl, h.ne⟩
theorem SaysInv.out (h : SaysInv D x w N pl gs B W v rest S) (hD : ∀ i, D.has i → i < w.heap.size) {F : Nat → Prop} (ho : Out F W W') (hF : ∀ i, F i → i < W.heap.size → B ≤ i ∧ i ≠ pl ∧ i ≠ gs) : SaysInv D x w N pl gs B W' v rest S := by
 obtain ⟨h1, h2, h3, h4, h5⟩ := h.old hD ho (fun i e hi => (hF i e hi).1)
 exact ⟨h1, h2, h3, h4, ho.blk h.box (fun hf => (hF pl hf h.box.lt).2.1 rfl), h5, ho.blk h.said (fun hf => (hF gs hf h.said.lt).2.2 rfl), h.bs, h.bl, h.ne⟩
theorem SaysInv.below (h : SaysInv D x w N pl gs B W v rest S) (hD : ∀ i, D.has i → i < w.heap.size) (hb : Below W.heap.size W W') : SaysInv D x w N pl gs B W' v rest S :=
 h.out hD (F := fun _ => False) (outB hb) (fun _ hf => hf.elim)
theorem SaysInv.no {b : List UInt8} (h : SaysInv D x w N pl gs B W v rest S) (hb : Below W.heap.size W W') (hN : headB N b = false) : SaidPost D x N b w W' (.panicked (failC 170)) :=
 SaidPost.no hN h.disk h.step hb
end
theorem BytesIn.room {W : World} {B : Nat} {a : Option Addr} {n c : Nat} {l : List UInt8} (h : BytesIn W B (.slice a n c) l) : l.length = n ∧ n ≤ c := by
 obtain ⟨_, a', c', e, h3, _⟩ := h
 injection e with ea el ec
 subst ea ec el
 exact ⟨rfl, h3⟩
theorem made_nought (n : Nat) : madeCells #[.int .u8 0] n = Array.replicate n (vu8 0) := by
 apply Array.ext'
 rw [toList_madeCells_one, Array.toList_replicate]
 rfl
theorem num_cut (b : List UInt8) (i k : Nat) (h : i + k ≤ 508) : leN (((b.take 508).drop i).take k) = numAt b i k := by
 unfold numAt
 rw [List.drop_take, List.take_take, Nat.min_eq_left (by omega)]
theorem cut_len (b : List UInt8) (hb : b.length = 512) (i k : Nat) (h : i + k ≤ 508) : (((b.take 508).drop i).take k).length = k ∧ k ≤ ((b.take 508).drop i).length := by
 simp only [List.length_take, List.length_drop]
 omega
theorem getB_8 (l : List UInt8) (h : l.length = 8) : getB l = decide (leN l < 9223372036854775808) := by
 unfold getB
 rw [h]
 rfl
theorem getB_small (l : List UInt8) (h : l.length = 2 ∨ l.length = 4) : getB l = true := by
 unfold getB
 have h1 : leN l < 256 ^ 4 := Nat.lt_of_lt_of_le (leN_lt l) (Nat.pow_le_pow_right (by omega) (by omega))
 have h2 : (256 : Nat) ^ 4 = 4294967296 := by decide
 rw [decide_eq_true (by omega), Bool.and_true]
 rcases h with h | h <;> rw [h] <;> rfl
section
variable {D : DiskP} {x : DiskD} {w W W' : World} {N : Int} {pl gs B : Nat} {v : Value} {b : List UInt8} {S : Array Value}
theorem SaysInv.takes {i : Nat} (h : SaysInv D x w N pl gs B W v ((b.take 508).drop i) S) (hD : ∀ i, D.has i → i < w.heap.size) (hb : b.length = 512) (k : Nat) (hk : k ≤ 8) (hik : i + k ≤ 508) (hg : getB (((b.take 508).drop i).take k) = true) :
  Calls Tryz.prog 115 #[.pointer (some ⟨pl, 0, none⟩), .int .i64 (k : Int)] W fun e W' => e = .returned (.int .i64 (numAt b i k : Nat)) ∧ (∃ v', SaysInv D x w N pl gs B W' v' ((b.take 508).drop (i + k)) S) ∧ Out (fun i => i = pl) W W' := by
 refine (take_yes pl B v _ k hk (cut_len b hb i k hik).2 W h.box h.bytes h.bl hg).mono ?_
 rintro e W' ⟨rfl, ⟨v', hb', hv'⟩, ho⟩
 refine ⟨by rw [num_cut b i k hik], ⟨v', ?_⟩, ho⟩
 rw [List.drop_drop] at hv'
 exact h.take hD ho hb' hv'
end
theorem ownsRow_mono {w : World} {B B' k : Nat} {e : TypeId} {v : Value} {n : Nat} {xs : List Value} (h : w.ownsRow B e k v n xs) (hb : B' ≤ B) : w.ownsRow B' e k v n xs := by
 obtain ⟨hl, h | ⟨g, cap, cur, e, hB, r⟩⟩ := h
 ·exact ⟨hl, .inl h⟩
 ·exact ⟨hl, .inr ⟨g, cap, cur, e, Nat.le_trans hb hB, r⟩⟩
theorem all_range_false {p : Nat → Bool} {j n : Nat} (hj : j < n) (h : p j = false) : (List.range n).all p = false := by
 rw [List.all_eq_false]
 exact ⟨j, List.mem_range.2 hj, by simp [h]⟩
def oidsL (b : List UInt8) (n : Nat) : List Value := (List.range n).map fun i => .int .i64 (numAt b (20 + 6 * i) 2 : Nat)
def sumsL (b : List UInt8) (n : Nat) : List Value := (List.range n).map fun i => .int .i64 (numAt b (22 + 6 * i) 4 : Nat)
theorem ne_rows {w : World} {B B' k k' : Nat} {e e' : TypeId} {v v' : Value} {n n' : Nat} {xs xs' : List Value} (h : w.ownsRow B e k v n xs) (h' : w.ownsRow B' e' k' v' n' xs') (he : e ≠ e') (i : Nat) (hi : v.ownBlock = some i) (hi' : v'.ownBlock = some i) : False := by
 obtain ⟨_, ⟨rfl, _⟩ | ⟨g, cap, cur, rfl, _, hg, _⟩⟩ := h
 ·simp [Value.ownBlock] at hi
 obtain ⟨_, ⟨rfl, _⟩ | ⟨g', cap', cur', rfl, _, hg', _⟩⟩ := h'
 ·simp [Value.ownBlock] at hi'
 simp [Value.ownBlock] at hi hi'
 subst hi hi'
 rw [hg] at hg'
 injection hg' with h1
 injection h1 with _ h2
 exact he h2
theorem out_grown {w w' : World} {row : Option Nat} (h : w.grownBy w' row) : Out (fun i => row = some i) w w' := ⟨h.os, h.tape, h.output, h.size, fun i hi hn => h.block i hi (fun e => hn e.symm)⟩
theorem info_int : (Tryz.prog.info? 3).map (fun i => (i.zero, i.size, i.bytes)) = some (some (.int .i64 0), 1, 8) := by kernel_rfl
theorem info_int64 : (Tryz.prog.info? 2).map (fun i => (i.zero, i.size, i.bytes)) = some (some (.int .i64 0), 1, 8) := by kernel_rfl
/-- what the loop's drawn region reads -/
def LS (gs : Nat) (vo vm : Value) (l : Array Bool) (w' : World) : Prop := (l.getD 14 true = false → w'.cell? ⟨gs, 1, none⟩ = some vo) ∧ (l.getD 16 true = false → w'.cell? ⟨gs, 5, none⟩ = some vm)
theorem LS.of {w' : World} {gs : Nat} {t : TypeId} {S : Array Value} {vo vm : Value} (hb : Blk w' gs t S) (h1 : S[1]? = some vo) (h5 : S[5]? = some vm) (l : Array Bool) : LS gs vo vm l w' := ⟨fun _ => hb.cell_is 1 h1, fun _ => hb.cell_is 5 h5⟩
theorem LS.other {gs : Nat} {vo vm : Value} {i : Nat} (h14 : i ≠ 14) (h16 : i ≠ 16) (l : Array Bool) (w' : World) : LS gs vo vm (l.setIfInBounds i true) w' ↔ LS gs vo vm l w' := by
 unfold LS
 rw [getD_set_ne true h14, getD_set_ne true h16]
/-- where says stands in its loop -/
structure SaysLoop (D : DiskP) (x : DiskD) (w : World) (N : Int) (pl gs B g1 nb : Nat) (b : List UInt8) (W : World) (v vo vm : Value) (i jo jm : Nat) (S : Array Value) : Prop where
 inv : SaysInv D x w N pl gs B W v ((b.take 508).drop i) S
 oids : W.ownsRow B 3 1 vo jo (oidsL b jo)
 sums : W.ownsRow B 2 1 vm jm (sumsL b jm)
 page : Blk W g1 5 (Array.replicate nb (vu8 0))
 hg : B ≤ g1 ∧ g1 ≠ pl ∧ g1 ≠ gs
section
variable {D : DiskP} {x : DiskD} {w W W' : World} {N : Int} {pl gs B g1 nb : Nat} {v vo vm : Value} {b : List UInt8} {S : Array Value} {i jo jm : Nat}
theorem SaysLoop.below (h : SaysLoop D x w N pl gs B g1 nb b W v vo vm i jo jm S) (hD : ∀ i, D.has i → i < w.heap.size) (hb : Below W.heap.size W W') : SaysLoop D x w N pl gs B g1 nb b W' v vo vm i jo jm S :=
 ⟨h.inv.below hD hb, ownsRow_out (F := fun _ => False) (outB hb) h.oids (fun _ _ => id), ownsRow_out (F := fun _ => False) (outB hb) h.sums (fun _ _ => id), h.page.below hb h.page.lt, h.hg⟩
theorem SaysLoop.take (h : SaysLoop D x w N pl gs B g1 nb b W v vo vm i jo jm S) {v' : Value} {i' : Nat} (hi : SaysInv D x w N pl gs B W' v' ((b.take 508).drop i') S) (ho : Out (fun i => i = pl) W W') : SaysLoop D x w N pl gs B g1 nb b W' v' vo vm i' jo jm S :=
 ⟨hi, ownsRow_out ho h.oids (ne_own h.oids h.inv.box (by decide)), ownsRow_out ho h.sums (ne_own h.sums h.inv.box (by decide)), ho.blk h.page h.hg.2.1, h.hg⟩
theorem SaysLoop.set_ (h : SaysLoop D x w N pl gs B g1 nb b W v vo vm i jo jm S) (hD : ∀ i, D.has i → i < w.heap.size) (j : Nat) (u : Value) : SaysLoop D x w N pl gs B g1 nb b (W.setCell ⟨gs, j, none⟩ u) v vo vm i jo jm (S.setIfInBounds j u) :=
 have ho : Out (fun i => i = gs) W (W.setCell ⟨gs, j, none⟩ u) := out_set rfl
 ⟨h.inv.set_ hD j u, ownsRow_out ho h.oids (ne_own h.oids h.inv.said (by decide)), ownsRow_out ho h.sums (ne_own h.sums h.inv.said (by decide)), ho.blk h.page h.hg.2.2, h.hg⟩
theorem SaysLoop.oid (h : SaysLoop D x w N pl gs B g1 nb b W v vo vm i jo jm S) (hD : ∀ i, D.has i → i < w.heap.size) (hg : W.grownBy W' vo.ownBlock) {vo' : Value} {jo' : Nat} (ho : W'.ownsRow B 3 1 vo' jo' (oidsL b jo')) : SaysLoop D x w N pl gs B g1 nb b W' v vo' vm i jo' jm S := by
 have h1 := out_grown hg
 refine ⟨h.inv.out hD h1 (fun j hj _ => ⟨(h.oids.lt j hj).1, ne_own h.oids h.inv.box (by decide) j hj, ne_own h.oids h.inv.said (by decide) j hj⟩), ho, ownsRow_out h1 h.sums (fun j hj hj' => ne_rows h.oids h.sums (by decide) j hj' hj), h1.blk h.page (fun hj => ne_own h.oids h.page (by decide) _ hj rfl), h.hg⟩
theorem SaysLoop.sum (h : SaysLoop D x w N pl gs B g1 nb b W v vo vm i jo jm S) (hD : ∀ i, D.has i → i < w.heap.size) (hg : W.grownBy W' vm.ownBlock) {vm' : Value} {jm' : Nat} (ho : W'.ownsRow B 2 1 vm' jm' (sumsL b jm')) : SaysLoop D x w N pl gs B g1 nb b W' v vo vm' i jo jm' S := by
 have h1 := out_grown hg
 refine ⟨h.inv.out hD h1 (fun j hj _ => ⟨(h.sums.lt j hj).1, ne_own h.sums h.inv.box (by decide) j hj, ne_own h.sums h.inv.said (by decide) j hj⟩), ownsRow_out h1 h.oids (fun j hj hj' => ne_rows h.oids h.sums (by decide) j hj hj'), ho, h1.blk h.page (fun hj => ne_own h.sums h.page (by decide) _ hj rfl), h.hg⟩
end
set_option maxRecDepth 100000 in
set_option maxHeartbeats 4000000 in
theorem says_any (D : DiskP) (x : DiskD) (N area : Int) (w : World) (h : DiskAt w D x) (hx : x.ok) (hN : N ≤ 64) (he : x.err (sectorN N 2 area 0).1 = 0) :
  Calls Tryz.prog 69 #[ptr D.p, .agg #[.int .i64 N], .int .i64 area] w fun e w' => SaidPost D x N (x.reads (sectorN N 2 area 0).1) w w' e := by
 obtain ⟨W0, eW0⟩ : ∃ W, W = (w.alloc (.cells #[.int .i64 N] 23)).alloc (.cells #[.int .i64 0, .slice none 0 0, .slice none 0 0, .slice none 0 0, .int .i64 0, .slice none 0 0] 142) := ⟨_, rfl⟩
 have hw0 : Below w.heap.size w W0 := by rw [eW0]; exact ((Below.refl _ w).alloc (Nat.le_refl _) _).alloc (by simp) _
 obtain ⟨n0, en0⟩ : ∃ n, n = (sectorN N 2 area 0).1 := ⟨_, rfl⟩
 have HAT := Lib.hid (fun W => at_any N 2 area 0 W (by unfold I64; omega))
 rw [← en0] at he HAT ⊢
 have HR := Lib.hid (fun W hh => lread_yes D x n0 W hh hx he)
 obtain ⟨b, eb⟩ : ∃ b, b = x.reads n0 := ⟨_, rfl⟩
 have hlb : b.length = 512 := by rw [eb]; exact x.reads_len hx.sound n0
 rw [← eb] at HR ⊢
 unfold ptr sectorV at *
 have HLB := Lib.hid hlb
 have HX := Lib.hid h
 clear h hx he eb hlb en0
 go_enter Tryz.func69, Tryz.ntmps69
 go_wp2_with fail
 rw [← eW0]
 have k4 : Blk W0 w.heap.size 23 #[.int .i64 N] := by rw [eW0]; exact (Blk.new w _ _).alloc _
 have k6 : Blk W0 (w.heap.size + 1) 142 (saidV 0 (.slice none 0 0) (.slice none 0 0) (.slice none 0 0) 0 (.slice none 0 0)) := by rw [eW0]; exact Blk.new2 _ _ _ _
 have hW0s : W0.heap.size = w.heap.size + 2 := by rw [eW0]; simp
 clear eW0
 refine (HAT.out W0).mono ?_; rintro e w1 ⟨rfl, hb1⟩
 have hw1 := hw0.trans (hb1.mono (by omega))
 have HD1 := Lib.hid (HX.out.below hw1)
 go_wp2_with fail
 refine (HR.out w1 HD1.out).mono ?_; rintro e w2 ⟨rfl, hd2, hs2⟩
 have n4 : ¬ D.has w.heap.size := fun hd => by have := HX.out.has_lt _ hd; omega
 have n6 : ¬ D.has (w.heap.size + 1) := fun hd => by have := HX.out.has_lt _ hd; omega
 have j4 := hs2.out.blk (k4.below hb1 (by omega)) n4
 have j6 := hs2.out.blk (k6.below hb1 (by omega)) n6
 have hsz2 : w.heap.size + 2 ≤ w2.heap.size := by have := hs2.out.size; have := hb1.size; omega
 have HD2 := Lib.hid hd2
 have HS2 := Lib.hid (hs2.first hw1 HX.out.has_lt)
 have J4 := Lib.hid j4
 have J6 := Lib.hid j6
 clear k4 k6 hd2 hs2 j4 j6 hb1 hw1 hw0 HAT HR HD1
 go_wp2_with (refine wpList_store_row rfl 111 _ _ rfl w2.heap.size (b.map vu8).toArray rfl rfl 111 _ (heap_alloc_new w2 _) (sector_size _ HLB.out) (by rw [zero111]; exact sector_eq _ _ sector0_len HLB.out) (sector_all _) ?_; rw [World.setRow_alloc_new])
 have K7 := Lib.hid (Blk.new w2 111 (b.map vu8).toArray)
 have hb3 : Below w2.heap.size w2 (w2.alloc (.cells (b.map vu8).toArray 111)) := (Below.refl _ w2).alloc (Nat.le_refl _) _
 have hbl := blk_bytes K7.out 512 (by rw [HLB.out]; exact Nat.le_refl _) (by rw [HLB.out]; decide)
 rw [List.take_of_length_le (by rw [HLB.out]; exact Nat.le_refl _), HLB.out] at hbl
 obtain ⟨W3, eW3⟩ : ∃ W, W = w2.alloc (.cells (b.map vu8).toArray 111) := ⟨_, rfl⟩
 rw [← eW3] at hbl hb3 K7 ⊢
 clear eW3
 refine (sealed_any _ b _ hbl (by rw [HLB.out]; decide)).mono ?_; rintro e w4 ⟨u, rfl, hu, hb4⟩
 have HB4 := Lib.hid (hb3.trans (hb4.mono hb3.size))
 have HB34 := Lib.hid (And.intro hb3 hb4)
 unfold SealedAt at hu
 clear hb3 hb4 hbl
 by_cases hsl : sealedB b = true
 case neg =>
  have hsf : sealedB b = false := by simpa using hsl
  rw [hsf] at hu ⊢
  have HF := Lib.hid (show headB N b = false by unfold headB; rw [hsf]; rfl)
  obtain rfl : u = .slice none 0 0 := hu
  clear hsf hsl
  go_wp2_with fail
  refine (must_no 170 _).mono ?_; rintro e w5 ⟨rfl, rfl⟩
  go_wp2_with fail
  exact ⟨rfl, SaidPost.no HF.out HD2.out HS2.out (HB4.out.alloc HB4.out.size _)⟩
 case pos =>
  rw [hsl] at hu ⊢
  have HSL := Lib.hid hsl
  have hu2 := hu
  rw [if_pos rfl, HLB.out, show 512 - 4 = 508 from rfl] at hu2
  obtain ⟨g8, cap8, rfl, hg8, hc8⟩ := World.ownsRow.form hu2 (by omega)
  have hl8 : (b.take 508).length = 508 := by rw [List.length_take, HLB.out]; rfl
  have HL := Lib.hid (BytesIn.own hu2)
  have hcv : ∀ W, Below w4.heap.size w4 W → (convert 26 9 (.slice (some ⟨g8, 0, none⟩) 4 cap8)).run Tryz.prog W = .ok (.string ⟨(b.take 4).toArray⟩) W := fun W hb => by
   have hl4 : (b.take 4).length = 4 := by rw [List.length_take, HLB.out]; rfl
   have := run_convert_bytes_back (P := Tryz.prog) W 26 9 5 ⟨g8, 0, none⟩ cap8 (b.take 4) Tryz.underlying26 Tryz.underlying5 Tryz.underlying9 (fun j hj => by
    have hj2 : (b.take 508)[j]? = some (b.take 4)[j] := by rw [List.getElem?_take, if_pos (by omega), List.getElem_take]; exact List.getElem?_eq_getElem _
    obtain ⟨g, off, e2, hg, hc⟩ := HL.out.at_ hj2
    injection e2 with e2
    injection e2 with e3 e4
    subst e3 e4
    rw [add_at]
    exact (hb.cell (p := ⟨g8, 0 + j, none⟩) hg).trans hc)
   rwa [hl4] at this
  have HCV := Lib.hid hcv
  clear hu hu2 hcv hsl
  have hc8n := HL.out.room.2
  have hc8i : (508 : Int) ≤ (cap8 : Int) := by omega
  have hc8j : (4 : Int) ≤ (cap8 : Int) := by omega
  have hcv := HCV.out (w4.alloc (.cells #[.slice (some ⟨g8, 0, none⟩) 508 cap8] 26)) ((Below.refl _ w4).alloc (Nat.le_refl _) _)
  go_wp2_with fail
  by_cases hm : (b.take 4 == [67, 72, 76, 71]) = true
  case neg =>
   have hmf : (b.take 4 == [67, 72, 76, 71]) = false := by simpa using hm
   have HF := Lib.hid (show headB N b = false by unfold headB; rw [show (b.take 4 == magicB) = false from hmf, Bool.false_and, Bool.and_false])
   rw [hmf]
   clear hm hmf
   refine (must_no 170 _).mono ?_; rintro e w5 ⟨rfl, rfl⟩
   go_wp2_with fail
   exact ⟨rfl, SaidPost.no HF.out HD2.out HS2.out (HB4.out.alloc HB4.out.size _)⟩
  case pos =>
   have HM := Lib.hid (show (b.take 4 == magicB) = true from hm)
   rw [hm]
   clear hm
   refine (must_yes 170 _).mono ?_; rintro e w5 ⟨rfl, rfl⟩
   have cl : (w4.alloc (.cells #[.slice (some ⟨g8, 0, none⟩) 508 cap8] 26)).cell? ⟨w4.heap.size, 0, none⟩ = some (.slice (some ⟨g8, 0, none⟩) 508 cap8) := (Blk.new w4 _ _).cell_is 0 rfl
   go_wp2_with fail
   obtain ⟨B, eB⟩ : ∃ k, k = w4.heap.size := ⟨_, rfl⟩
   have INV0 : SaysInv D x w N w4.heap.size (w4.heap.size + 1) B ((w4.alloc (.cells #[.slice (some ⟨g8, 4, none⟩) 504 (cap8 - 4)] 26)).alloc (.cells #[.int .i64 0, .slice none 0 0, .slice none 0 0, .slice none 0 0, .int .i64 0, .slice none 0 0] 142)) (.slice (some ⟨g8, 4, none⟩) 504 (cap8 - 4)) ((b.take 508).drop 4) #[.int .i64 0, .slice none 0 0, .slice none 0 0, .slice none 0 0, .int .i64 0, .slice none 0 0] := by
    rw [eB]
    have hbb : Below w4.heap.size w4 ((w4.alloc (.cells #[.slice (some ⟨g8, 4, none⟩) 504 (cap8 - 4)] 26)).alloc (.cells (saidV 0 (.slice none 0 0) (.slice none 0 0) (.slice none 0 0) 0 (.slice none 0 0)) 142)) := ((Below.refl _ w4).alloc (Nat.le_refl _) _).alloc (by simp) _
    have hba := HB4.out.trans (hbb.mono HB4.out.size)
    have hHL : BytesIn w4 w4.heap.size (.slice (some ⟨g8, 0, none⟩) (b.take 508).length cap8) (b.take 508) := by rw [hl8]; exact HL.out
    have hbx := (hHL.from_ 4 (by rw [hl8]; decide) (by rw [hl8]; exact hc8n)).below hbb (Nat.le_refl _)
    rw [hl8, if_neg (by omega)] at hbx
    exact ⟨HD2.out.below hba, HS2.out.below hba, J4.out.below hba J4.out.lt, J6.out.below hba J6.out.lt, (Blk.new w4 _ _).alloc _, hbx, Blk.new2 w4 _ _ _, by have := HB4.out.size; omega, Nat.le_refl _, Nat.lt_succ_self _⟩
   obtain ⟨W5, eW5⟩ : ∃ W, W = ((w4.alloc (.cells #[.slice (some ⟨g8, 4, none⟩) 504 (cap8 - 4)] 26)).alloc (.cells #[.int .i64 0, .slice none 0 0, .slice none 0 0, .slice none 0 0, .int .i64 0, .slice none 0 0] 142)) := ⟨_, rfl⟩
   rw [← eW5] at INV0 ⊢
   obtain ⟨pl, epl⟩ : ∃ k, k = w4.heap.size := ⟨_, rfl⟩
   obtain ⟨gs, egs⟩ : ∃ k, k = w4.heap.size + 1 := ⟨_, rfl⟩
   rw [← egs, ← epl] at INV0 ⊢
   have I0 := Lib.hid INV0
   have hD := Lib.hid HX.out.has_lt
   clear eW5 epl egs eB hcv cl INV0 hc8n hc8i hc8j J4 J6 HD2 HS2 HB4 HB34 HL HCV K7 HX hg8 hc8 hsz2 hl8 n4 n6
   have HSM := Lib.hid (show headB N b = (decide (numAt b 4 8 < 9223372036854775808) && (decide ((numAt b 12 2 : Int) ≤ N) && (decide (numAt b 14 2 ≤ 4096) && ((List.range (numAt b 12 2)).all (headGo N b) && !((b.take 508).drop (20 + 6 * numAt b 12 2)).any (· != 0))))) by unfold headB; rw [HSL.out, HM.out, Bool.true_and, Bool.true_and])
   by_cases hed : numAt b 4 8 < 9223372036854775808
   case neg =>
    have hg : getB (((b.take 508).drop 4).take 8) = false := by rw [getB_8 _ (cut_len b HLB.out 4 8 (by decide)).1, num_cut b 4 8 (by decide)]; exact decide_eq_false hed
    refine (take_no pl B _ _ 8 (by omega) (cut_len b HLB.out 4 8 (by decide)).2 W5 I0.out.box I0.out.bytes I0.out.bl hg).mono ?_
    rintro e w5 ⟨rfl, hb5⟩
    have HF := Lib.hid (show headB N b = false by rw [HSM.out, decide_eq_false hed]; rfl)
    clear hg hed
    go_wp2_with fail
    exact ⟨rfl, I0.out.no hb5 HF.out⟩
   case pos =>
    have hg : getB (((b.take 508).drop 4).take 8) = true := by rw [getB_8 _ (cut_len b HLB.out 4 8 (by decide)).1, num_cut b 4 8 (by decide)]; exact decide_eq_true hed
    refine (I0.out.takes hD.out HLB.out 8 (by omega) (by decide) hg).mono ?_
    rintro e W6 ⟨rfl, ⟨v6, hI6⟩, _⟩
    have HED := Lib.hid hed
    have cs := hI6.said.cell_is 0 rfl
    have fs := hI6.said.frozen 0
    have I6 := Lib.hid (hI6.set_ hD.out 0 (.int .i64 (numAt b 4 8 : Nat)))
    clear hg hed hI6 I0
    go_wp2_with fail
    clear cs fs
    refine (I6.out.takes hD.out HLB.out 2 (by omega) (by decide) (getB_small _ (.inl (cut_len b HLB.out 12 2 (by decide)).1))).mono ?_
    rintro e W7 ⟨he, ⟨v7, hI7⟩, _⟩
    change e = .returned (.int .i64 (numAt b 12 2 : Nat)) at he
    subst he
    have I7 := Lib.hid hI7
    clear hI7 I6
    go_wp2_with fail
    refine (I7.out.takes hD.out HLB.out 2 (by omega) (by decide) (getB_small _ (.inl (cut_len b HLB.out 14 2 (by decide)).1))).mono ?_
    rintro e W8 ⟨he, ⟨v8, hI8⟩, _⟩
    change e = .returned (.int .i64 (numAt b 14 2 : Nat)) at he
    subst he
    have I8 := Lib.hid (show SaysInv D x w N pl gs B W8 v8 ((b.take 508).drop 16) #[.int .i64 (numAt b 4 8 : Nat), .slice none 0 0, .slice none 0 0, .slice none 0 0, .int .i64 0, .slice none 0 0] from hI8)
    have cp := hI8.plan.cell_is 0 rfl
    clear hI8 I7
    obtain ⟨n, en⟩ : ∃ n, n = numAt b 12 2 := ⟨_, rfl⟩
    obtain ⟨nb, enb⟩ : ∃ n, n = numAt b 14 2 := ⟨_, rfl⟩
    rw [← en, ← enb] at HSM ⊢
    have EN := Lib.hid en
    have ENB := Lib.hid enb
    clear en enb
    have hbq : decide (nb ≤ 4096) = decide ((nb : Int) ≤ 4096) := by congr 1; simp; omega
    rw [hbq] at HSM
    clear hbq
    cases q1 : decide ((n : Int) ≤ N)
    ·have HF := Lib.hid (show headB N b = false by rw [HSM.out, q1, Bool.false_and, Bool.and_false])
     go_wp2_with fail
     refine (must_no 170 _).mono ?_; rintro e w9 ⟨rfl, rfl⟩
     go_wp2_with fail
     exact ⟨rfl, I8.out.no (Below.refl _ _) HF.out⟩
    ·cases q2 : decide ((nb : Int) ≤ 4096)
     ·have HF := Lib.hid (show headB N b = false by rw [HSM.out, q2, Bool.false_and, Bool.and_false, Bool.and_false])
      go_wp2_with fail
      refine (must_no 170 _).mono ?_; rintro e w9 ⟨rfl, rfl⟩
      go_wp2_with fail
      exact ⟨rfl, I8.out.no (Below.refl _ _) HF.out⟩
     ·have HS3 := Lib.hid (show headB N b = ((List.range n).all (headGo N b) && !((b.take 508).drop (20 + 6 * n)).any (· != 0)) by rw [HSM.out, q1, q2, decide_eq_true HED.out, Bool.true_and, Bool.true_and, Bool.true_and])
      go_wp2_with fail
      refine (must_yes 170 _).mono ?_; rintro e w9 ⟨rfl, rfl⟩
      have hnN : (n : Int) ≤ N := of_decide_eq_true q1
      have hnb : (nb : Int) ≤ 4096 := of_decide_eq_true q2
      have HQ1 := Lib.hid q1
      clear q1 q2 cp HSM
      have hmk : ∀ W : World, (Instr.makeSlice 26 (.int .i64 (nb : Int)) (.int .i64 (nb : Int))).run Tryz.prog W = .ok (.slice (some ⟨W.heap.size, 0, none⟩) nb nb) (W.alloc (.cells (Array.replicate nb (vu8 0)) 5)) := fun W => by
       have h := run_make_row' (P := Tryz.prog) 26 5 (.int .u8 0) 1 Tryz.underlying26 (by kernel_rfl) rfl .i64 .i64 nb (by omega) (by omega) W
       rwa [made_nought] at h
      have hplt := I8.out.box.lt
      have hglt := I8.out.said.lt
      go_upto_region 10 with fail
      refine wp_region_held_drew (S := (fun _ => True)) (by kernel_rfl) (by first | trivial | ((try dsimp only); trivial)) (fun hHeld => ?_)
      refine tk 0 ?_
      refine wpAnyH_ready (rs := [1, 2]) (by kernel_rfl) (by simp) ?_
      refine (AllReadyH.cons rfl (fun K hK => ?_) (AllReadyH.cons rfl (fun K hK => ?_) AllReadyH.nil))
      go_simp
      refine hK.out _ _ (by first | trivial | ((try dsimp only); trivial)) (fun hHeld => ?_)
      clear hK K
      try simp only [Act.put, pz0, pz1, pz2, pz3, pz4, pz5]
      refine tk 3 ?_
      refine tk 4 ?_
      refine rd 2 fun K hK => ?_
      go_simp
      refine ((I8.out.below hD.out (W' := _) (by first | exact (Below.refl _ W8).drew | exact (Below.refl _ W8).drew.alloc (Nat.le_refl _) _ | exact ((Below.refl _ W8).alloc (Nat.le_refl _) _).drew)).takes hD.out HLB.out 4 (by omega) (by decide) (getB_small _ (.inr (cut_len b HLB.out 16 4 (by decide)).1))).mono ?_
      rintro e W9 ⟨he, ⟨v9, hI9⟩, ho9⟩
      change e = .returned (.int .i64 (numAt b 16 4 : Nat)) at he
      subst he
      have I9 := Lib.hid (show SaysInv D x w N pl gs B W9 v9 ((b.take 508).drop 20) #[.int .i64 (numAt b 4 8 : Nat), .slice none 0 0, .slice none 0 0, .slice none 0 0, .int .i64 0, .slice none 0 0] from hI9)
      have HO9 := Lib.hid ho9
      clear hI9 ho9
      go_wp2_with fail
      refine hK.out _ _ (by first | trivial | ((try dsimp only); trivial)) (fun hHeld => ?_)
      clear hK K
      try simp only [Act.put, pz0, pz1, pz2, pz3, pz4, pz5]
      obtain ⟨g1, eg1⟩ : ∃ g, g = W8.heap.size := ⟨_, rfl⟩
      have G10 := Lib.hid (show Blk W9 g1 5 (Array.replicate nb (vu8 0)) by rw [eg1]; first | exact HO9.out.blk (Blk.new W8 _ _).drew (by omega) | exact HO9.out.blk (Blk.new W8.drew _ _) (by omega))
      have hg1 : B ≤ g1 ∧ g1 ≠ pl ∧ g1 ≠ gs := ⟨by have := I8.out.bl; omega, by omega, by omega⟩
      obtain ⟨W10, eW10⟩ : ∃ W, W = W9 := ⟨_, rfl⟩
      rw [← eg1]
      rw [← eW10] at I9 G10 ⊢
      have I10 := I9
      clear eg1 eW10 I8 I9 HO9 hplt hglt hmk
      have c3 := I10.out.said.cell_is 3 rfl
      have f3 := I10.out.said.frozen 3
      have c4 := I10.out.said.cell_is 4 rfl
      have f4 := I10.out.said.frozen 4
      refine rd 5 fun K hK => ?_
      go_simp
      refine hK.out _ _ (by first | trivial | ((try dsimp only); trivial)) (fun hHeld => ?_)
      clear hK K
      try simp only [Act.put, pz0, pz1, pz2, pz3, pz4, pz5]
      refine tk 6 ?_
      refine rd 7 fun K hK => ?_
      go_simp
      refine hK.out _ _ (by first | trivial | ((try dsimp only); trivial)) (fun hHeld => ?_)
      clear hK K
      try simp only [Act.put, pz0, pz1, pz2, pz3, pz4, pz5]
      refine wpAnyH_done (by kernel_rfl) ?_ _
      try simp only [Act.put, pz0, pz1, pz2, pz3, pz4, pz5]
      rotate_left 1
      go_simp
      refine ((I8.out.below hD.out (W' := _) (by first | exact (Below.refl _ W8).drew | exact (Below.refl _ W8).drew.alloc (Nat.le_refl _) _ | exact ((Below.refl _ W8).alloc (Nat.le_refl _) _).drew)).takes hD.out HLB.out 4 (by omega) (by decide) (getB_small _ (.inr (cut_len b HLB.out 16 4 (by decide)).1))).mono ?_
      rintro e W9 ⟨he, ⟨v9, hI9⟩, ho9⟩
      change e = .returned (.int .i64 (numAt b 16 4 : Nat)) at he
      subst he
      have I9 := Lib.hid (show SaysInv D x w N pl gs B W9 v9 ((b.take 508).drop 20) #[.int .i64 (numAt b 4 8 : Nat), .slice none 0 0, .slice none 0 0, .slice none 0 0, .int .i64 0, .slice none 0 0] from hI9)
      have HO9 := Lib.hid ho9
      clear hI9 ho9
      go_wp2_with fail
      refine hK.out _ _ (by first | trivial | ((try dsimp only); trivial)) (fun hHeld => ?_)
      clear hK K
      try simp only [Act.put, pz0, pz1, pz2, pz3, pz4, pz5]
      refine rd 1 fun K hK => ?_
      go_simp
      refine hK.out _ _ (by first | trivial | ((try dsimp only); trivial)) (fun hHeld => ?_)
      clear hK K
      try simp only [Act.put, pz0, pz1, pz2, pz3, pz4, pz5]
      obtain ⟨g1, eg1⟩ : ∃ g, g = W9.heap.size := ⟨_, rfl⟩
      obtain ⟨W10, eW10⟩ : ∃ W, W = W9.alloc (.cells (Array.replicate nb (vu8 0)) 5) := ⟨_, rfl⟩
      have I10 := Lib.hid (show SaysInv D x w N pl gs B W10 v9 ((b.take 508).drop 20) #[.int .i64 (numAt b 4 8 : Nat), .slice none 0 0, .slice none 0 0, .slice none 0 0, .int .i64 0, .slice none 0 0] by rw [eW10]; exact I9.out.below hD.out ((Below.refl _ W9).alloc (Nat.le_refl _) _))
      have G10 := Lib.hid (show Blk W10 g1 5 (Array.replicate nb (vu8 0)) by rw [eW10, eg1]; exact Blk.new W9 _ _)
      have hg1 : B ≤ g1 ∧ g1 ≠ pl ∧ g1 ≠ gs := ⟨by have := I9.out.bl; have := I9.out.box.lt; omega, by have := I9.out.box.lt; omega, by have := I9.out.said.lt; omega⟩
      rw [← eg1]
      rw [← eW10]
      clear eg1 eW10 I8 I9 HO9 hplt hglt hmk
      have c3 := I10.out.said.cell_is 3 rfl
      have f3 := I10.out.said.frozen 3
      have c4 := I10.out.said.cell_is 4 rfl
      have f4 := I10.out.said.frozen 4
      refine tk 3 ?_
      refine tk 4 ?_
      refine rd 5 fun K hK => ?_
      go_simp
      refine hK.out _ _ (by first | trivial | ((try dsimp only); trivial)) (fun hHeld => ?_)
      clear hK K
      try simp only [Act.put, pz0, pz1, pz2, pz3, pz4, pz5]
      refine tk 6 ?_
      refine rd 7 fun K hK => ?_
      go_simp
      refine hK.out _ _ (by first | trivial | ((try dsimp only); trivial)) (fun hHeld => ?_)
      clear hK K
      try simp only [Act.put, pz0, pz1, pz2, pz3, pz4, pz5]
      refine wpAnyH_done (by kernel_rfl) ?_ _
      try simp only [Act.put, pz0, pz1, pz2, pz3, pz4, pz5]
      rotate_left 1
      all_goals
       obtain ⟨W11, eW11⟩ : ∃ W, W = ((W10.setCell ⟨gs, 3, none⟩ (.slice (some ⟨g1, 0, none⟩) nb nb)).setCell ⟨gs, 4, none⟩ (.int .i64 (numAt b 16 4 : Nat))) := ⟨_, rfl⟩
       rw [← eW11]
       have L0 := Lib.hid (show SaysLoop D x w N pl gs B g1 nb b W11 v9 (.slice none 0 0) (.slice none 0 0) 20 0 0 #[.int .i64 (numAt b 4 8 : Nat), .slice none 0 0, .slice none 0 0, .slice (some ⟨g1, 0, none⟩) nb nb, .int .i64 (numAt b 16 4 : Nat), .slice none 0 0] by
        rw [eW11]
        refine ⟨(I10.out.set_ hD.out 3 _).set_ hD.out 4 _, World.ownsRow_nil _ _ _ _, World.ownsRow_nil _ _ _ _, ?_, hg1⟩
        exact (G10.out.far (by simp; omega) _).far (by simp; omega) _)
       clear eW11 I10 G10 c3 f3 c4 f4
       go_wp2_with fail
       go_loopw [56, 13] (fun i la wr => ∃ (j : Nat) (vj vo vm : Value), j ≤ n ∧ i = .int .i64 (j : Int) ∧ la = .int .i64 (headLast b j) ∧ (List.range j).all (headGo N b) = true ∧ SaysLoop D x w N pl gs B g1 nb b wr vj vo vm (20 + 6 * j) j j #[.int .i64 (numAt b 4 8 : Nat), vo, .slice none 0 0, .slice (some ⟨g1, 0, none⟩) nb nb, .int .i64 (numAt b 16 4 : Nat), vm]) (fun i _ _ => n - (intOf i).toNat)
       case atStart => exact ⟨0, v9, _, _, Nat.zero_le _, rfl, rfl, rfl, L0.out⟩
       case round =>
        obtain ⟨j, vj, vo, vm, hj, rfl, rfl, hall, hL⟩ := hrel
        have L1 := Lib.hid hL
        have hn64 : n ≤ 64 := by omega
        by_cases hlt : j < n
        ·have hltI : (j : Int) < (n : Int) := by omega
         have HALL := Lib.hid hall
         clear hL hall
         go_wp2_with fail
         refine (L1.out.inv.takes hD.out HLB.out 2 (by omega) (by omega) (getB_small _ (.inl (cut_len b HLB.out (20 + 6 * j) 2 (by omega)).1))).mono ?_
         rintro e W12 ⟨rfl, ⟨v12, hI12⟩, ho12⟩
         have L2 := Lib.hid (L1.out.take hI12 ho12)
         clear hI12 ho12 L1
         have HGO := Lib.hid (show headGo N b j = (decide (headLast b j < (numAt b (20 + 6 * j) 2 : Int)) && decide ((numAt b (20 + 6 * j) 2 : Int) < N)) from rfl)
         have HLA := Lib.hid (show headLast b (j + 1) = (numAt b (20 + 6 * j) 2 : Int) by unfold headLast; rw [if_neg (by omega)]; rfl)
         have HEO := Lib.hid (show oidsL b (j + 1) = oidsL b j ++ [.int .i64 (numAt b (20 + 6 * j) 2 : Nat)] by unfold oidsL; rw [List.range_succ, List.map_append]; rfl)
         have HEM := Lib.hid (show sumsL b (j + 1) = sumsL b j ++ [.int .i64 (numAt b (22 + 6 * j) 4 : Nat)] by unfold sumsL; rw [List.range_succ, List.map_append]; rfl)
         obtain ⟨la, ela⟩ : ∃ q, q = headLast b j := ⟨_, rfl⟩
         rw [← ela] at HGO ⊢
         obtain ⟨q, eq⟩ : ∃ q, q = numAt b (20 + 6 * j) 2 := ⟨_, rfl⟩
         rw [← eq] at HGO HLA HEO ⊢
         clear ela eq
         have cp := L2.out.inv.plan.cell_is 0 rfl
         cases q1 : decide (la < (q : Int))
         ·have HF := Lib.hid (show headB N b = false by rw [HS3.out, all_range_false (hlt : j < n) (by rw [HGO.out, q1]; rfl)]; rfl)
          go_wp2_with fail
          refine (must_no 170 _).mono ?_; rintro e w13 ⟨rfl, rfl⟩
          go_wp2_with fail
          exact ⟨rfl, L2.out.inv.no (Below.refl _ _) HF.out⟩
         cases q2 : decide ((q : Int) < N)
         ·have HF := Lib.hid (show headB N b = false by rw [HS3.out, all_range_false (hlt : j < n) (by rw [HGO.out, q2, Bool.and_false])]; rfl)
          go_wp2_with fail
          refine (must_no 170 _).mono ?_; rintro e w13 ⟨rfl, rfl⟩
          go_wp2_with fail
          exact ⟨rfl, L2.out.inv.no (Below.refl _ _) HF.out⟩
         have HA2 := Lib.hid (show (List.range (j + 1)).all (headGo N b) = true by rw [List.range_succ, List.all_append, HALL.out]; simp [HGO.out, q1, q2])
         go_wp2_with fail
         refine (must_yes 170 _).mono ?_; rintro e w13 ⟨rfl, rfl⟩
         clear cp HGO HALL
         have hidx : 20 + 6 * j + 2 = 22 + 6 * j := by omega
         rw [hidx] at L2
         clear hidx
         obtain ⟨q4, eq4⟩ : ∃ q, q = numAt b (22 + 6 * j) 4 := ⟨_, rfl⟩
         have HQ4 := Lib.hid eq4
         rw [← eq4] at HEM
         clear eq4
         go_upto_region 16 with fail
         refine wp_region_heldL_drew (S := LS gs vo vm) (by kernel_rfl) (LS.of L2.out.inv.said.drew rfl rfl _) (fun hHeld => ?_)
         refine' wpAnyL_take (i := 0) (v := _) [] rfl (by kernel_rfl) (by kernel_rfl) (by kernel_rfl) (by kernel_rfl) (by rfl) (LS.other (by decide) (by decide)) (fun _ _ _ h => h) (Or.inl ⟨by rfl, ?_⟩) (LS.of L2.out.inv.said.drew rfl rfl _) ?_
         rotate_left 1
         ·(intro w hSw; clear hSw; go_simp; try with_reducible rfl)
         try simp only [Act.put, pz0, pz1, pz2, pz3, pz4, pz5]
         refine' wpAnyL_take (i := 1) (v := _) [] rfl (by kernel_rfl) (by kernel_rfl) (by kernel_rfl) (by kernel_rfl) (by rfl) (LS.other (by decide) (by decide)) (fun _ _ _ h => h) (Or.inl ⟨by rfl, ?_⟩) (LS.of L2.out.inv.said.drew rfl rfl _) ?_
         rotate_left 1
         ·(intro w hSw; clear hSw; go_simp; try with_reducible rfl)
         try simp only [Act.put, pz0, pz1, pz2, pz3, pz4, pz5]
         refine' wpAnyL_take (i := 2) (v := _) [14] rfl (by kernel_rfl) (by kernel_rfl) (by kernel_rfl) (by kernel_rfl) (by rfl) (LS.other (by decide) (by decide)) (fun _ _ _ h => h) (Or.inl ⟨by rfl, ?_⟩) (LS.of L2.out.inv.said.drew rfl rfl _) ?_
         rotate_left 1
         ·(intro w hSw; obtain ⟨l, hu, hS⟩ := hSw; have hc := hS.1 (hu 14 (by simp)); clear hS hu; go_simp; try with_reducible rfl)
         try simp only [Act.put, pz0, pz1, pz2, pz3, pz4, pz5]
         refine' wpAnyL_take (i := 3) (v := _) [] rfl (by kernel_rfl) (by kernel_rfl) (by kernel_rfl) (by kernel_rfl) (by rfl) (LS.other (by decide) (by decide)) (fun _ _ _ h => h) (Or.inl ⟨by rfl, ?_⟩) (LS.of L2.out.inv.said.drew rfl rfl _) ?_
         rotate_left 1
         ·(intro w hSw; clear hSw; go_simp; try with_reducible rfl)
         try simp only [Act.put, pz0, pz1, pz2, pz3, pz4, pz5]
         refine' wpAnyL_take (i := 6) (v := _) [] rfl (by kernel_rfl) (by kernel_rfl) (by kernel_rfl) (by kernel_rfl) (by rfl) (LS.other (by decide) (by decide)) (fun _ _ _ h => h) (Or.inl ⟨by rfl, ?_⟩) (LS.of L2.out.inv.said.drew rfl rfl _) ?_
         rotate_left 1
         ·(intro w hSw; clear hSw; go_simp; try with_reducible rfl)
         try simp only [Act.put, pz0, pz1, pz2, pz3, pz4, pz5]
         refine' wpAnyL_take (i := 7) (v := _) [16] rfl (by kernel_rfl) (by kernel_rfl) (by kernel_rfl) (by kernel_rfl) (by rfl) (LS.other (by decide) (by decide)) (fun _ _ _ h => h) (Or.inl ⟨by rfl, ?_⟩) (LS.of L2.out.inv.said.drew rfl rfl _) ?_
         rotate_left 1
         ·(intro w hSw; obtain ⟨l, hu, hS⟩ := hSw; have hc := hS.2 (hu 16 (by simp)); clear hS hu; go_simp; try with_reducible rfl)
         try simp only [Act.put, pz0, pz1, pz2, pz3, pz4, pz5]
         refine' wpAnyL_take (i := 11) (v := _) [] rfl (by kernel_rfl) (by kernel_rfl) (by kernel_rfl) (by kernel_rfl) (by rfl) (LS.other (by decide) (by decide)) (fun _ _ _ h => h) (Or.inl ⟨by rfl, ?_⟩) (LS.of L2.out.inv.said.drew rfl rfl _) ?_
         rotate_left 1
         ·(intro w hSw; clear hSw; go_simp; try with_reducible rfl)
         try simp only [Act.put, pz0, pz1, pz2, pz3, pz4, pz5]
         have LD := Lib.hid (L2.out.below hD.out (Below.refl _ W12).drew)
         obtain ⟨WD, eWD⟩ : ∃ W, W = W12.drew := ⟨_, rfl⟩
         rw [← eWD] at LD ⊢
         clear eWD L2
         refine wpAnyL_ready (rs := [4]) (by kernel_rfl) (by simp) ?_
         refine AllReadyL.cons rfl (fun K hK => ?_) AllReadyL.nil
         go_simp
         have L3 := Lib.hid (LD.out.below hD.out (((Below.refl _ WD).alloc (Nat.le_refl _) (.cells #[.int .i64 (q : Int)] 3))))
         obtain ⟨W13, eW13⟩ : ∃ W, W = WD.alloc (.cells #[.int .i64 (q : Int)] 3) := ⟨_, rfl⟩
         have HNW13 := Lib.hid (show W13.heap[WD.heap.size]? = some (.cells #[.int .i64 (q : Int)] 3 (0, 0)) by rw [eW13]; exact heap_alloc_new WD _)
         rw [← eW13] at L3 ⊢
         clear eW13
         refine hK.out _ _ (LS.of L3.out.inv.said rfl rfl _) (fun hHeld => ?_)
         clear hK K
         try simp only [Act.put, pz0, pz1, pz2, pz3, pz4, pz5]
         refine wpAnyL_ready (rs := [5]) (by kernel_rfl) (by simp) ?_
         refine AllReadyL.cons rfl (fun K hK => ?_) AllReadyL.nil
         rw [if_pos (by rfl)]
         obtain ⟨i0, hi0, hz0, hz1, hz2⟩ := info_parts info_int
         refine wp_append_lies _ (.tmp 71) (.tmp 73) 24 rfl B 3 i0 _ 1 8 Tryz.underlying24 hi0 hz0 hz1 hz2 rfl (by omega) vo j _ rfl L3.out.oids ⟨WD.heap.size, 0, none⟩ 1 1 [.int .i64 (q : Int)] rfl rfl (World.news_of_block (cs := #[.int .i64 (q : Int)]) (t := 3) (fr := (0, 0)) HNW13.out) (by simp [Value.oneCell']) (by omega) (by unfold maxLen; omega) (by omega) (by have := L3.out.inv.bl; have := L3.out.inv.box.lt; omega) W13.heap.size rfl ?_
         intro g3 cap3 W14 hO hg _ _
         have L4 := Lib.hid (L3.out.oid hD.out hg (by rw [HEO.out]; exact hO))
         clear hO hg hi0 hz0 hz1 hz2 HNW13 L3
         refine hK.out _ _ (LS.of L4.out.inv.said rfl rfl _) (fun hHeld => ?_)
         clear hK K
         try simp only [Act.put, pz0, pz1, pz2, pz3, pz4, pz5]
         refine' wpAnyL_take (i := 12) (v := _) [] rfl (by kernel_rfl) (by kernel_rfl) (by kernel_rfl) (by kernel_rfl) (by rfl) (LS.other (by decide) (by decide)) (fun _ _ _ h => h) (Or.inl ⟨by rfl, ?_⟩) (LS.of L4.out.inv.said rfl rfl _) ?_
         rotate_left 1
         ·(intro w hSw; clear hSw; go_simp; try with_reducible rfl)
         try simp only [Act.put, pz0, pz1, pz2, pz3, pz4, pz5]
         refine' wpAnyL_take (i := 13) (v := _) [] rfl (by kernel_rfl) (by kernel_rfl) (by kernel_rfl) (by kernel_rfl) (by rfl) (LS.other (by decide) (by decide)) (fun _ _ _ h => h) (Or.inl ⟨by rfl, ?_⟩) (LS.of L4.out.inv.said rfl rfl _) ?_
         rotate_left 1
         ·(intro w hSw; clear hSw; go_simp; try with_reducible rfl)
         try simp only [Act.put, pz0, pz1, pz2, pz3, pz4, pz5]
         refine wpAnyL_ready (rs := [8]) (by kernel_rfl) (by simp) ?_
         refine AllReadyL.cons rfl (fun K hK => ?_) AllReadyL.nil
         go_simp
         refine (L4.out.inv.takes hD.out HLB.out 4 (by omega) (by omega) (getB_small _ (.inr (cut_len b HLB.out (22 + 6 * j) 4 (by omega)).1))).mono ?_
         rintro e W16 ⟨he, ⟨v16, hI16⟩, ho16⟩
         rw [← HQ4.out] at he
         subst he
         have L5 := Lib.hid (L4.out.take hI16 ho16)
         clear hI16 ho16 L4
         go_wp2_with fail
         refine hK.out _ _ (LS.of L5.out.inv.said rfl rfl _) (fun hHeld => ?_)
         clear hK K
         try simp only [Act.put, pz0, pz1, pz2, pz3, pz4, pz5]
         refine wpAnyL_ready (rs := [9]) (by kernel_rfl) (by simp) ?_
         refine AllReadyL.cons rfl (fun K hK => ?_) AllReadyL.nil
         go_simp
         have L6 := Lib.hid (L5.out.below hD.out (((Below.refl _ W16).alloc (Nat.le_refl _) (.cells #[.int .i64 (q4 : Int)] 2))))
         obtain ⟨W17, eW17⟩ : ∃ W, W = W16.alloc (.cells #[.int .i64 (q4 : Int)] 2) := ⟨_, rfl⟩
         have HNW17 := Lib.hid (show W17.heap[W16.heap.size]? = some (.cells #[.int .i64 (q4 : Int)] 2 (0, 0)) by rw [eW17]; exact heap_alloc_new W16 _)
         rw [← eW17] at L6 ⊢
         clear eW17
         refine hK.out _ _ (LS.of L6.out.inv.said rfl rfl _) (fun hHeld => ?_)
         clear hK K
         try simp only [Act.put, pz0, pz1, pz2, pz3, pz4, pz5]
         refine wpAnyL_ready (rs := [10]) (by kernel_rfl) (by simp) ?_
         refine AllReadyL.cons rfl (fun K hK => ?_) AllReadyL.nil
         rw [if_pos (by rfl)]
         obtain ⟨i0, hi0, hz0, hz1, hz2⟩ := info_parts info_int64
         refine wp_append_lies _ (.tmp 76) (.tmp 78) 140 rfl B 2 i0 _ 1 8 Tryz.underlying140 hi0 hz0 hz1 hz2 rfl (by omega) vm j _ rfl L6.out.sums ⟨W16.heap.size, 0, none⟩ 1 1 [.int .i64 (q4 : Int)] rfl rfl (World.news_of_block (cs := #[.int .i64 (q4 : Int)]) (t := 2) (fr := (0, 0)) HNW17.out) (by simp [Value.oneCell']) (by omega) (by unfold maxLen; omega) (by omega) (by have := L6.out.inv.bl; have := L6.out.inv.box.lt; omega) W17.heap.size rfl ?_
         intro g4 cap4 W18 hO hg _ _
         have L7 := Lib.hid (L6.out.sum hD.out hg (by rw [HEM.out]; exact hO))
         clear hO hg hi0 hz0 hz1 hz2 HNW17 L6
         refine hK.out _ _ (LS.of L7.out.inv.said rfl rfl _) (fun hHeld => ?_)
         clear hK K
         try simp only [Act.put, pz0, pz1, pz2, pz3, pz4, pz5]
         refine wpAnyL_ready (rs := [14]) (by kernel_rfl) (by simp) ?_
         refine AllReadyL.cons rfl (fun K hK => ?_) AllReadyL.nil
         have c1 := L7.out.inv.said.cell_is 1 rfl
         have f1 := L7.out.inv.said.frozen 1
         go_simp
         have L8 := Lib.hid (L7.out.set_ hD.out 1 (.slice (some ⟨g3, 0, none⟩) (j + 1) cap3))
         clear c1 f1
         refine hK.out _ _ (⟨fun h => by simp at h, fun _ => L8.out.inv.said.cell_is 5 rfl⟩) (fun hHeld => ?_)
         clear hK K
         try simp only [Act.put, pz0, pz1, pz2, pz3, pz4, pz5]
         refine' wpAnyL_take (i := 15) (v := _) [] rfl (by kernel_rfl) (by kernel_rfl) (by kernel_rfl) (by kernel_rfl) (by rfl) (LS.other (by decide) (by decide)) (fun _ _ _ h => h) (Or.inl ⟨by rfl, ?_⟩) hHeld ?_
         rotate_left 1
         ·(intro w hSw; clear hSw; go_simp; try with_reducible rfl)
         try simp only [Act.put, pz0, pz1, pz2, pz3, pz4, pz5]
         refine wpAnyL_ready (rs := [16]) (by kernel_rfl) (by simp) ?_
         refine AllReadyL.cons rfl (fun K hK => ?_) AllReadyL.nil
         have c5 := L8.out.inv.said.cell_is 5 rfl
         have f5 := L8.out.inv.said.frozen 5
         go_simp
         have L9 := Lib.hid (L8.out.set_ hD.out 5 (.slice (some ⟨g4, 0, none⟩) (j + 1) cap4))
         clear c5 f5
         refine hK.out _ _ (⟨fun h => by simp at h, fun h => by simp at h⟩) (fun hHeld => ?_)
         clear hK K
         try simp only [Act.put, pz0, pz1, pz2, pz3, pz4, pz5]
         refine' wpAnyL_take (i := 17) (v := _) [] rfl (by kernel_rfl) (by kernel_rfl) (by kernel_rfl) (by kernel_rfl) (by rfl) (LS.other (by decide) (by decide)) (fun _ _ _ h => h) (Or.inl ⟨by rfl, ?_⟩) hHeld ?_
         rotate_left 1
         ·(intro w hSw; clear hSw; go_simp; try with_reducible rfl)
         try simp only [Act.put, pz0, pz1, pz2, pz3, pz4, pz5]
         refine wpAnyL_done (by kernel_rfl) ?_ _
         try simp only [Act.put, pz0, pz1, pz2, pz3, pz4, pz5]
         go_wp2_with fail
         go_roundw
         case rel => exact ⟨j + 1, v16, _, _, hlt, by push_cast; rfl, by rw [HLA.out], HA2.out, by rw [show 20 + 6 * (j + 1) = 22 + 6 * j + 4 by omega]; exact L9.out⟩
         case measure => simp [intOf]; omega
        ·obtain rfl : j = n := by omega
         clear hL
         have c8 := L1.out.inv.box.cell_is 0 rfl
         go_wp2_with fail
         refine (contains_any B vj _ wr L1.out.inv.bytes (by rw [List.length_drop, List.length_take]; omega)).mono ?_
         rintro e W12 ⟨rfl, hb12⟩
         have L2 := Lib.hid (L1.out.below hD.out hb12)
         clear hb12 L1 c8
         obtain ⟨q, eq⟩ : ∃ q, q = ((b.take 508).drop (20 + 6 * j)).any (· != 0) := ⟨_, rfl⟩
         have HS4 := Lib.hid (show headB N b = !q by rw [HS3.out, hall, Bool.true_and, eq])
         rw [← eq]
         clear eq hall
         cases q
         ·obtain ⟨ao, co, evo⟩ := slice_form L2.out.oids
          obtain ⟨am, cm, evm⟩ := slice_form L2.out.sums
          subst evo evm
          obtain ⟨S, eS⟩ : ∃ S, S = (#[.int .i64 (numAt b 4 8 : Nat), .slice ao j co, .slice none 0 0, .slice (some ⟨g1, 0, none⟩) nb nb, .int .i64 (numAt b 16 4 : Nat), .slice am j cm] : Array Value) := ⟨_, rfl⟩
          have hi6 : (Tryz.prog.info? 142).map (·.size) = some S.size := by rw [eS]; kernel_rfl
          have h16 : S.all (·.oneCell') = true := by rw [eS, List.all_toArray]; rfl
          have hse : (#[.int .i64 0, .slice none 0 0, .slice none 0 0, .slice none 0 0, .int .i64 0, .slice none 0 0] : Array Value).size = S.size := by rw [eS]; rfl
          have HSD := Lib.hid (show Blk W12 gs 142 S by rw [eS]; exact L2.out.inv.said)
          have HRS := Lib.hid (show Blk W12 (w.heap.size + 1) 142 #[.int .i64 0, .slice none 0 0, .slice none 0 0, .slice none 0 0, .int .i64 0, .slice none 0 0] from L2.out.inv.res)
          have ES := Lib.hid eS
          clear eS
          go_wp2_with fail
          refine (must_yes 170 _).mono ?_; rintro e w13 ⟨rfl, rfl⟩
          go_wp2_with (first
           | (refine wpList_load_row rfl 142 _ rfl gs rfl 142 S (0, 0) _ HSD.out Tryz.underlying142 rfl hi6 ?_)
           | (refine wpList_store_row rfl 142 _ _ rfl (w.heap.size + 1) S rfl rfl 142 _ HRS.out hi6 hse h16 ?_))
          refine bodyPost_ret (v := .agg S) (results_cell_row Tryz.results69 _ _ (w.heap.size + 1) 142 S (0, 0) _ rfl (HRS.out.row _) Tryz.underlying142 rfl hi6) rfl ?_
          have ho : Out (fun i => i = w.heap.size + 1) W12 (W12.setRow (w.heap.size + 1) S) := out_row _ rfl
          have hbs := L2.out.inv.bs
          have hne : ∀ g, B ≤ g → g ≠ w.heap.size + 1 := fun g hg => by omega
          refine ⟨L2.out.inv.disk.out ho (fun i hi e => by have := hD.out i hi; omega), ⟨L2.out.inv.step.out.trans ho (fun i hi e => by omega), rfl, fun i hi => .inl hi⟩, ?_⟩
          rw [HS4.out, Bool.not_false, if_pos rfl]
          refine ⟨.agg S, rfl, .slice ao j co, .slice (some ⟨g1, 0, none⟩) nb nb, .slice am j cm, g1, by rw [ES.out]; rfl, ?_, ?_, ?_, by have := L2.out.hg.1; omega, ?_⟩
          ·rw [← EN.out]
           exact ownsRow_out ho (ownsRow_mono L2.out.oids (by omega)) (fun g hg => hne g (L2.out.oids.lt g hg).1)
          ·rw [← EN.out]
           exact ownsRow_out ho (ownsRow_mono L2.out.sums (by omega)) (fun g hg => hne g (L2.out.sums.lt g hg).1)
          ·rw [← ENB.out]
          ·rw [← ENB.out]
           exact ho.blk L2.out.page (hne g1 L2.out.hg.1)
         ·go_wp2_with fail
          refine (must_no 170 _).mono ?_; rintro e w13 ⟨rfl, rfl⟩
          go_wp2_with fail
          exact ⟨rfl, L2.out.inv.no (Below.refl _ _) HS4.out⟩
end Go.Proofs.YtdpniceapmikpaaGreat
