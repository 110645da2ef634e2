/-
  logs.Head of an area whose head is one.
  What the write of a frame of one object comes to on a blank disk, and what its head says: all cases in one shape.
  The law LogsObjects. (Written by gen_lobjs.py.)
  From a walk to a law's row: a call that answers true and turns nothing that was there; for all arguments.
  Opening a frame: from its data to lists in memory.
  Opening an object: its numbers are within 64 bits.
  LogsObjects: for every input the law answers true, and its arguments read as they did; without conditions.
-/
import Derived.Test.YtdpniceapmikpaaGreatRows
import Derived.WalkKit
import Derived.ProofKit
import Derived.OpenShut
import Derived.Below
import Derived.ChangeSame
import Derived.Deep.Fields
import Derived.Deep.Slices
import Derived.Test.YtdpniceapmikpaaGreatSt1
import Derived.Test.YtdpniceapmikpaaGreatSt25
import Derived.Test.YtdpniceapmikpaaGreatSt29
import Derived.Test.YtdpniceapmikpaaGreatSt30
import Derived.Test.YtdpniceapmikpaaGreatSt32
import Derived.Test.YtdpniceapmikpaaGreatSt37
import Derived.Test.YtdpniceapmikpaaGreatSt9
import Derived.Test.YtdpniceapmikpaaGreatOb1
import Derived.Test.YtdpniceapmikpaaGreatOb2
set_option linter.unusedVariables false
set_option linter.unusedSimpArgs false
namespace Go.Proofs.YtdpniceapmikpaaGreat
open Go.RowKit

set_option maxRecDepth 100000 in
set_option maxHeartbeats 4000000 in
theorem lhead_well (D : DiskP) (x : DiskD) (N area : Int) (w : World) (h : DiskAt w D x) (hx : x.ok) (hask : askB N x.size area = true) (he2 : x.err (sectorN N 2 area 0).1 = 0) (hh : headB N (headS x N area) = true) :
  Calls Tryz.prog 23 #[ptr D.p, .agg #[.int .i64 N], .int .i64 area] w fun e w' => ∃ v, e = .returned (.tuple #[v, .int .i64 0]) ∧ FrameIn w' w'.heap.size v (headF (headS x N area)) ∧ DiskAt w' D x.stepped ∧ DStep D D w w' := by
 have hN : N ≤ 64 := by have h := hask; unfold askB rightB at h; simp at h; omega
 have hD := Lib.hid h.has_lt
 obtain ⟨W0, eW0⟩ : ∃ W, W = ((w.alloc (.cells #[.int .i64 N] 23)).alloc (.cells zeroF 28)).alloc (.cells #[.int .i64 0] 32) := ⟨_, rfl⟩
 have hw0 : Below w.heap.size w W0 := by rw [eW0]; exact (((Below.refl _ w).alloc (Nat.le_refl _) _).alloc (by simp) _).alloc (by simp; omega) _
 have hs0 : W0.heap.size = w.heap.size + 3 := by rw [eW0]; simp
 have k1 : Blk W0 w.heap.size 23 #[.int .i64 N] := by rw [eW0]; exact ((Blk.new w _ _).alloc _).alloc _
 have k3 : Blk W0 (w.heap.size + 1) 28 zeroF := by rw [eW0]; exact (Blk.new2 w _ _ _).alloc _
 have k4 : Blk W0 (w.heap.size + 2) 32 #[.int .i64 0] := by rw [eW0]; exact Blk.new' (by simp)
 have HAK := Lib.hid (asked_any D x N area W0 (h.below hw0) hx)
 have HDK := Lib.hid (h.below hw0)
 have HB0 := Lib.hid hw0
 have c1 := k1.cell_is 0 rfl
 have K1 := Lib.hid k1
 have K3 := Lib.hid k3
 have K4 := Lib.hid k4
 rw [hask] at HAK
 have HSY := Lib.hid (fun W hh => says_any D x N area W hh hx hN he2)
 unfold ptr at *
 clear h hw0 k1 k3 k4
 go_enter_defers Tryz.func23, Tryz.ntmps23
 go_upto_region 1 with fail
 rw [← eW0]
 clear eW0
 go_wp2_with fail
 refine HAK.out.mono ?_; rintro e w1 ⟨rfl, hb1⟩
 unfold errB
 rw [if_pos rfl]
 have HB1 := Lib.hid (HB0.out.trans (hb1.mono (by omega)))
 have c1' := (K1.out.below hb1 (by omega)).cell_is 0 rfl
 have J1 := Lib.hid (K1.out.below hb1 (by omega))
 have J3 := Lib.hid (K3.out.below hb1 (by omega))
 have J4 := Lib.hid (K4.out.below hb1 (by omega))
 have hsz1 := hb1.size
 have HD1 := Lib.hid (HDK.out.below hb1)
 clear hb1 HAK c1 K1 K3 K4
 go_wp2_with fail
 refine (HSY.out w1 HD1.out).mono ?_; rintro e w2 ⟨hd2, hs2, hv2⟩
 unfold headS at hh
 rw [hh] at hv2
 obtain ⟨v, rfl, vo, vs, vm, g, rfl, hvo, hvm, rfl, hg, hz⟩ := hv2
 obtain ⟨b, eb⟩ : ∃ b, b = x.reads (sectorN N 2 area 0).1 := ⟨_, rfl⟩
 rw [← eb] at hvo hvm hz ⊢
 have EB := Lib.hid (show headS x N area = b by rw [eb]; rfl)
 obtain ⟨nb, enb⟩ : ∃ nb, nb = numAt b 14 2 := ⟨_, rfl⟩
 have eF : headF b = ⟨(numAt b 4 8 : Int), (List.range (numAt b 12 2)).map fun i => (numAt b (20 + 6 * i) 2 : Int), [], List.replicate nb 0⟩ := by rw [enb]; rfl
 rw [← enb] at hz ⊢
 obtain ⟨ed, eed⟩ : ∃ ed : Nat, ed = numAt b 4 8 := ⟨_, rfl⟩
 obtain ⟨cr, ecr⟩ : ∃ cr : Nat, cr = numAt b 16 4 := ⟨_, rfl⟩
 rw [← eed] at eF ⊢
 rw [← ecr]
 have hnD : ∀ i, w.heap.size ≤ i → ¬ D.has i := fun i hi hd => by have := hD.out i hd; omega
 have hnb : nb ≤ 70000 := by
  have h1 := leN_lt ((b.drop 14).take 2)
  rw [enb]
  unfold numAt
  have h2 : ((b.drop 14).take 2).length ≤ 2 := by rw [List.length_take]; omega
  have h3 : (256 : Nat) ^ ((b.drop 14).take 2).length ≤ 256 ^ 2 := Nat.pow_le_pow_right (by decide) h2
  have h4 : (256 : Nat) ^ 2 = 65536 := by decide
  omega
 have hEF := Lib.hid eF
 clear enb eed ecr eF eb
 have b3 := hs2.out.blk J3.out (hnD _ (by omega))
 have b4 := hs2.out.blk J4.out (hnD _ (by omega))
 have HD2 := Lib.hid hd2
 have HS2 := Lib.hid (hs2.first HB1.out hD.out)
 have FIN : Hid (∀ (W' : World) (F : Nat → Prop), Out F w2 W' → (∀ i, F i → i < w2.heap.size → i = w.heap.size + 1 ∨ i = w.heap.size + 2) → w2.heap.size ≤ W'.heap.size → FrameIn W' W'.heap.size (.agg #[.int .i64 (ed : Int), vo, .slice none 0 0, .slice (some ⟨g, 0, none⟩) nb nb]) (headF b)) := Lib.hid (by
  intro W' F hO hF hsz
  have hlo : ∀ i, w1.heap.size ≤ i → i < w2.heap.size → ¬ F i := fun i h1 h2 hf => by rcases hF i hf h2 with h | h <;> omega
  have hvo' := ownsRow_out hO hvo (fun i hi => hlo i (hvo.lt i hi).1 (hvo.lt i hi).2)
  have hz' := hO.blk hz (hlo g hg hz.lt)
  rw [hEF.out]
  refine ⟨_, _, _, rfl, ints_own (K := W'.heap.size) (l := (List.range (numAt b 12 2)).map fun i => (numAt b (20 + 6 * i) 2 : Int)) (by rw [List.map_map]; exact hvo') (fun i hi => (hvo'.lt i hi).2), ObjsIn.nil _ _, ⟨by simp; unfold maxLen; omega, some ⟨g, 0, none⟩, nb, by simp, by simp, fun j c hj => ⟨g, 0, rfl, hz'.lt, ?_⟩⟩⟩
  have hjl : j < nb := by
   rcases Nat.lt_or_ge j nb with h | h
   ·exact h
   ·rw [List.getElem?_eq_none (by simp; omega)] at hj; cases hj
  have ec : c = 0 := by simpa [hjl] using hj.symm
  subst ec
  exact hz'.cell_is (0 + j) (by rw [Nat.zero_add]; simp [hjl]))
 obtain ⟨S, eS⟩ : ∃ S, S = saidV ed vo (.slice none 0 0) (.slice (some ⟨g, 0, none⟩) nb nb) cr vm := ⟨_, rfl⟩
 obtain ⟨ao, co, evo⟩ := slice_form hvo
 obtain ⟨am, cm, evm⟩ := slice_form hvm
 have hS6 : (Tryz.prog.info? 142).map (·.size) = some S.size := said_fit S _ _ _ _ _ _ eS
 have hS1 : S.all (·.oneCell') = true := by rw [eS, evo, evm]; unfold saidV; rw [List.all_toArray]; rfl
 have hSz : (#[.int .i64 0, .slice none 0 0, .slice none 0 0, .slice none 0 0, .int .i64 0, .slice none 0 0] : Array Value).size = S.size := by rw [eS]; rfl
 have z0 : Blk (w2.alloc (.cells #[.int .i64 0, .slice none 0 0, .slice none 0 0, .slice none 0 0, .int .i64 0, .slice none 0 0] 142)) w2.heap.size 142 #[.int .i64 0, .slice none 0 0, .slice none 0 0, .slice none 0 0, .int .i64 0, .slice none 0 0] := Blk.new w2 _ _
 rw [← eS]
 have HES := Lib.hid eS
 have HZ0 := Lib.hid z0
 have z1 := z0.row S
 have hsz2 : w.heap.size + 3 ≤ w2.heap.size := by have := hs2.out.size; omega
 have b3' := blk_row_far (b3.alloc (.cells #[.int .i64 0, .slice none 0 0, .slice none 0 0, .slice none 0 0, .int .i64 0, .slice none 0 0] 142)) S (g' := w2.heap.size) (by omega)
 have b4' := blk_row_far (b4.alloc (.cells #[.int .i64 0, .slice none 0 0, .slice none 0 0, .slice none 0 0, .int .i64 0, .slice none 0 0] 142)) S (g' := w2.heap.size) (by omega)
 have hYB := below_row ((Below.refl w2.heap.size w2).alloc (Nat.le_refl _) (.cells #[.int .i64 0, .slice none 0 0, .slice none 0 0, .slice none 0 0, .int .i64 0, .slice none 0 0] 142)) S (g := w2.heap.size) (Nat.le_refl _)
 obtain ⟨Y, eY⟩ : ∃ Y, Y = (w2.alloc (.cells #[.int .i64 0, .slice none 0 0, .slice none 0 0, .slice none 0 0, .int .i64 0, .slice none 0 0] 142)).setRow w2.heap.size S := ⟨_, rfl⟩
 rw [← eY] at z1 b3' b4' hYB
 have hrng : Y.rangeAt w2.heap.size 0 [.int .i64 (ed : Int), vo, .slice none 0 0, .slice (some ⟨g, 0, none⟩) nb nb] := by
  intro j u hj
  rw [Nat.zero_add]
  refine z1.cell_is j ?_
  rw [eS]
  unfold saidV
  rw [List.getElem?_toArray]
  rcases j with _ | _ | _ | _ | j
  all_goals first | exact hj | (simp at hj)
 have HRG := Lib.hid hrng
 have HYB := Lib.hid hYB
 have c4 := b4'.cell_is 0 rfl
 have f4 := b4'.frozen 0
 have oneV : (#[.int .i64 (ed : Int), vo, .slice none 0 0, .slice (some ⟨g, 0, none⟩) nb nb] : Array Value).all (·.oneCell') = true := by rw [evo, List.all_toArray]; rfl
 have HB3 := Lib.hid b3'
 have HB4 := Lib.hid b4'
 clear eS evo evm z0 z1 hrng hYB b3 b4 b3' b4' hd2 hs2 hvo hvm hz
 go_upto_region 6 with (refine wpList_store_row rfl 142 _ _ rfl w2.heap.size S rfl rfl 142 _ HZ0.out hS6 hSz hS1 ?_)
 rw [← eY]
 clear eY
 have b5 := blk_row_far HB4.out #[.int .i64 (ed : Int), vo, .slice none 0 0, .slice (some ⟨g, 0, none⟩) nb nb] (g' := w.heap.size + 1) (by omega)
 have c5 := b5.cell_is 0 rfl
 have f5 := b5.frozen 0
 have b6 := b5.set_ 0 (.int .i64 0)
 have b7 := (HB3.out.row #[.int .i64 (ed : Int), vo, .slice none 0 0, .slice (some ⟨g, 0, none⟩) nb nb]).far (p := ⟨w.heap.size + 2, 0, none⟩) (by show w.heap.size + 1 ≠ w.heap.size + 2; omega) (.int .i64 0)
 have hO : Out (fun i => i = w.heap.size + 1 ∨ i = w.heap.size + 2 ∨ w2.heap.size ≤ i) w2 ((Y.setRow (w.heap.size + 1) #[.int .i64 (ed : Int), vo, .slice none 0 0, .slice (some ⟨g, 0, none⟩) nb nb]).setCell ⟨w.heap.size + 2, 0, none⟩ (.int .i64 0)) := Out.trans (Out.trans (outB' HYB.out (fun i hi => .inr (.inr hi))) (out_row #[.int .i64 (ed : Int), vo, .slice none 0 0, .slice (some ⟨g, 0, none⟩) nb nb] (.inl rfl)) (fun _ _ h => h)) (out_set (.inr (.inl rfl))) (fun _ _ h => h)
 have sizeV : (Tryz.prog.info? 28).map (·.size) = some (#[.int .i64 (ed : Int), vo, .slice none 0 0, .slice (some ⟨g, 0, none⟩) nb nb] : Array Value).size := by
  show _ = some 4
  kernel_rfl
 have sizeVl : (Tryz.prog.info? 28).map (·.size) = some [.int .i64 (ed : Int), vo, .slice none 0 0, .slice (some ⟨g, 0, none⟩) nb nb].length := size_frame _ _ _ _
 have HB6 := Lib.hid b6
 have HB7 := Lib.hid b7
 have HO := Lib.hid hO
 clear b5 b6 b7 hO c4 f4
 go_wp2_with (first
  | (refine wpList_load_mid rfl 28 _ rfl w2.heap.size 0 rfl [.int .i64 (ed : Int), vo, .slice none 0 0, .slice (some ⟨g, 0, none⟩) nb nb] _ HRG.out Tryz.underlying28 rfl sizeVl ?_)
  | (refine wpList_store_row rfl 28 _ _ rfl (w.heap.size + 1) #[.int .i64 (ed : Int), vo, .slice none 0 0, .slice (some ⟨g, 0, none⟩) nb nb] rfl rfl 28 zeroF HB3.out sizeV rfl oneV ?_))
 refine leaves_cons (f := 68) (args := #[ptr (w.heap.size + 2)]) (by simp) (by simp [go_sem, ptr]) ?_
 refine (given_idle _ _).mono ?_; rintro e u' w'' ⟨rfl, rfl, rfl⟩
 have hsz9 : w2.heap.size ≤ ((Y.setRow (w.heap.size + 1) #[.int .i64 (ed : Int), vo, .slice none 0 0, .slice (some ⟨g, 0, none⟩) nb nb]).setCell ⟨w.heap.size + 2, 0, none⟩ (.int .i64 0)).heap.size := HO.out.size
 refine ⟨_, results_row_cell Tryz.results23 _ _ (w.heap.size + 1) 28 #[.int .i64 (ed : Int), vo, .slice none 0 0, .slice (some ⟨g, 0, none⟩) nb nb] (0, 0) _ rfl HB7.out Tryz.underlying28 rfl sizeV _ _ rfl (load_errno _ (w.heap.size + 2) _ _ HB6.out), _, rfl, ?_, ?_, ?_⟩
 ·rw [EB.out]
  exact FIN.out _ _ HO.out (fun i hi hl => by rcases hi with h | h | h <;> omega) hsz9
 ·exact HD2.out.out HO.out (fun i hi hf => by have := hD.out i hi; rcases hf with h | h | h <;> omega)
 ·exact ⟨HS2.out.out.trans HO.out (fun i hi hf => by rcases hf with h | h | h <;> omega), rfl, fun i hi => .inl hi⟩
end Go.Proofs.YtdpniceapmikpaaGreat
namespace Go.Proofs.YtdpniceapmikpaaGreat
open Go.RowKit

/-- the disk of noughts, by both -/
theorem blank_new : newDisk 32 = blank32 := by
 have h : (fun n => blank32.lasts n) = fun _ => sector0 := funext fun n => blank_lasts n
 show (⟨32, fun _ => sector0, [], 0, []⟩ : DiskD) = _
 rw [← h]
 rfl
structure ObGo (oid : Int) (f : FrameD) (x1 : DiskD) (no : Int) (g : FrameD) (r : Int) : Prop where
 rw_ : ∀ lv wv fv fr w, RDisk w w.heap.size lv wv fv blank32 → FrameIn w w.heap.size fr f → Calls Tryz.prog 17 #[.agg #[lv, wv, .int .i64 blank32.steps, fv], .agg #[.int .i64 4], .int .i64 0, fr] w fun e w' =>
  ∃ wv', e = .returned (.tuple #[.agg #[lv, wv', .int .i64 x1.steps, fv], .int .i64 no]) ∧ RDisk w' w'.heap.size lv wv' fv x1 ∧ Below w.heap.size w w' ∧ (∀ g, wv'.ownBlock = some g → wv'.ownBlock = wv.ownBlock ∨ w.heap.size ≤ g)
 w_ : ∀ D fr w, DiskAt w D blank32 → FrameIn w w.heap.size fr f → (∀ a c, (∃ x y z, fr = .agg #[x, y, z, .slice a f.state.length c]) → c ≤ maxLen) → Calls Tryz.prog 18 #[ptr D.p, .agg #[.int .i64 4], .int .i64 0, fr] w fun e w' =>
  e = .returned (.int .i64 no) ∧ ∃ D', DiskAt w' D' x1 ∧ DStep D D' w w'
 hd_ : ∀ D w, DiskAt w D x1 → Calls Tryz.prog 23 #[ptr D.p, .agg #[.int .i64 4], .int .i64 0] w fun e w' =>
  ∃ v, e = .returned (.tuple #[v, .int .i64 r]) ∧ FrameIn w' w'.heap.size v g ∧ DiskAt w' D x1.stepped ∧ DStep D D w w'
 ok1 : x1.ok
 in1 : x1.inR
 ok2 : x1.stepped.ok
 bad : no ≠ 0 → r = 170
 good : no = 0 → r = 0 ∧ g.oids = [oid] ∧ g.objs = []
theorem obWritesP_map (x : DiskD) (l : List WaitS) : writesP x (l.map (·.1)) = writesW x l := by unfold writesP writesW; rw [List.foldl_map]
theorem obWritesE_well : ∀ (ys : List WaitD) (x : DiskD), (∀ k y, ys[k]? = some y → (writesP x (ys.take k)).err y.n = 0) → writesE x ys = (writesP x ys, 0)
 | [], x, _ => rfl
 | y :: ys, x, h => by
  have h0 : x.err y.n = 0 := h 0 y rfl
  show (if x.err y.n = 0 then writesE (x.write y.n y.b) ys else (x.write y.n y.b, x.err y.n)) = _
  rw [if_pos h0, obWritesE_well ys (x.write y.n y.b) (fun k z hz => h (k + 1) z hz)]
  rfl
theorem obGo (oid : Int) (f : FrameD) (hoi : f.oids = [oid]) (hed : f.ed ≤ 9223372036854775807) (hv64 : ∀ o ∈ f.objs, ∀ x ∈ o.slots, I64 x.v) (hok : ∀ o ∈ f.objs, o.ok ∧ rightsOk o) : ∃ x1 no g r, ObGo oid f x1 no g r := by
 have hx := blank_calm
 have hask : askB ((4 : Nat) : Int) blank32.size ((0 : Nat) : Int) = true := blank_ask 0
 have hN : 1 ≤ 4 ∧ 4 ≤ 64 := by decide
 have hp2 : Place.ok 4 ⟨2, 0, 0⟩ := ⟨by decide, .inl ⟨rfl, rfl⟩⟩
 have hsec := Place.sec_lt hp2
 have esec : (sectorN ((4 : Nat) : Int) 2 ((0 : Nat) : Int) 0).1 = ((Place.sec 4 ⟨2, 0, 0⟩ : Nat) : Int) := congrArg Prod.fst (sectorN_place 4 ⟨2, 0, 0⟩ hN hp2)
 obtain ⟨x, ex⟩ : ∃ x, x = blank32 := ⟨_, rfl⟩
 have hin : x.inR := by rw [ex]; exact blank_inR
 have hsz : x.size = 32 := by rw [ex]; rfl
 have hrd : ∀ n, x.reads n = sector0 := by rw [ex]; exact blank_reads
 rw [← ex] at hx hask
 cases hfr : frameB ((4 : Nat) : Int) f
 ·have hgo : (askB ((4 : Nat) : Int) x.size ((0 : Nat) : Int) && frameB ((4 : Nat) : Int) f) = false := by rw [hfr]; simp
  have herr : x.err (sectorN ((4 : Nat) : Int) 2 ((0 : Nat) : Int) 0).1 = 0 := by rw [esec]; exact hx.err (by omega) (by rw [hsz]; omega)
  have hh : headB ((4 : Nat) : Int) (headS x ((4 : Nat) : Int) ((0 : Nat) : Int)) = false := by unfold headS; rw [hrd]; exact blank_none
  have hok2 : x.stepped.ok := by
   obtain ⟨o1, o2, o3, o4, o5, o6, o7⟩ := hx.ok
   have := hx.steps
   exact ⟨o1, o2, o3, o4, by show (0 : Int) ≤ x.steps + 1; omega, by show x.steps + 1 ≤ _; omega, o7⟩
  refine ⟨x, 2, frameZ, 170, ⟨?_, ?_, ?_, hx.ok, hin, hok2, fun _ => rfl, fun h => by cases h⟩⟩
  ·intro lv wv fv fr w hr hf
   rw [← ex] at hr ⊢
   have h := rwrite_any x lv wv fv ((4 : Nat) : Int) ((0 : Nat) : Int) f fr [] w hr hx.ok hf (fun y hy => by cases hy) (by simp) (fun h1 h2 => by rw [h1, h2] at hgo; cases hgo) (fun k hk => by rw [List.take_nil]; exact hx.ok)
   have e : rwriteR x ((4 : Nat) : Int) ((0 : Nat) : Int) f [] = (x, 2) := by unfold rwriteR; rw [hgo]; rfl
   rw [e] at h
   exact h
  ·intro D fr w hd hf _
   rw [← ex] at hd
   exact (lwrite_no D x ((4 : Nat) : Int) ((0 : Nat) : Int) f fr w hd hx.ok hf hgo).mono fun e w' h => ⟨h.1, D, hd.below h.2, (DStep.refl D w).below h.2⟩
  ·intro D w hd
   exact (lhead_none D x ((4 : Nat) : Int) ((0 : Nat) : Int) w hd hx.ok hask herr hh).mono fun e w' h => ⟨_, h.1, zeroFrame _ _, h.2.1, h.2.2⟩
 ·obtain ⟨hR, p1, p2, p3, p4, p5⟩ := frameB_facts hfr
  have hbo : ∀ o ∈ f.objs, BackO ((4 : Nat) : Int) o := by
   intro o ho
   obtain ⟨j, hj⟩ := List.mem_iff_getElem?.1 ho
   have hjl : j < f.objs.length := by
    rcases Nat.lt_or_ge j f.objs.length with h | h
    ·exact h
    ·rw [List.getElem?_eq_none h] at hj; cases hj
   have hoid := List.getElem?_eq_getElem (l := f.oids) (i := j) (by omega)
   exact back_obj (hok o ho).1 (rows_at _ f.oids f.objs (-1) (by omega) p5 j _ o hoid hj).2.2 (hok o ho).2 (hv64 o ho)
  have hbl : ∀ o ∈ f.objs, (objL o).length ≤ 508 := fun o ho => (hbo o ho).2.2
  obtain ⟨hread, hfra, hn12, hn14⟩ := read_back hx hask hfr hed hbo
  have hws := writes_go hx hask hfr hbl
  have hcalm := writes_calm2 hx hask hfr hbl
  have hlen := allSteps_len (N := 4) (a := 0) hfr
  obtain ⟨l, el⟩ : ∃ l, l = allSteps ((4 : Nat) : Int) ((0 : Nat) : Int) f := ⟨_, rfl⟩
  have hlays : ∀ fr W, FrameIn W W.heap.size fr f → Calls Tryz.prog 49 #[.agg #[.int .i64 ((4 : Nat) : Int)], .int .i64 ((0 : Nat) : Int), fr] W fun e w' => ∃ v, e = .returned v ∧ WaitsIn w' w'.heap.size v (l.map (·.1)) ∧ Below W.heap.size W w' := by
   rw [el]
   exact fun fr W hf => rlays_any 4 0 f fr W hf hfr (by decide) hed hv64
  have hinr : ∀ y ∈ l, 0 ≤ y.1.n ∧ y.1.n < x.size := by
   intro y hy
   rw [el] at hy
   obtain ⟨p, hp, _, e⟩ := steps_mem hfr (by decide) hbl y hy
   have := Place.sec_lt hp
   rw [e, hsz]
   show (0 : Int) ≤ ((p.sec 4 : Nat) : Int) ∧ ((p.sec 4 : Nat) : Int) < 32
   omega
  have hww : ∀ D fr w, DiskAt w D x → FrameIn w w.heap.size fr f → (∀ b c, (∃ x y z, fr = .agg #[x, y, z, .slice b f.state.length c]) → c ≤ maxLen) → Calls Tryz.prog 18 #[ptr D.p, .agg #[.int .i64 ((4 : Nat) : Int)], .int .i64 ((0 : Nat) : Int), fr] w fun e w' =>
    e = .returned (.int .i64 0) ∧ ∃ D', DiskAt w' D' (writesW x l) ∧ DStep D D' w w' := by
   rw [el]
   exact fun D fr w hd hf hc => callsIn_wide.1 (lwrite_in 6 (Nat.le_refl _) D x _ _ f fr w hd hx.ok hf hask hfr hed hc hws)
  rw [← el] at hread hfra hn12 hn14 hws hcalm hlen
  obtain ⟨x1, e1⟩ : ∃ x1, x1 = writesW x l := ⟨_, rfl⟩
  rw [← e1] at hread hfra hn12 hn14 hcalm hww
  have hwp : ∀ k, writesP x ((l.map (·.1)).take k) = writesW x (l.take k) := fun k => by rw [← List.map_take, obWritesP_map]
  have hok1 : x1.ok := by have := hread.okk 0 (by omega); rwa [plus_zero] at this
  have hok2 : x1.stepped.ok := by have := hread.okk 1 (by omega); exact this
  have hokw : ∀ k, k ≤ (l.map (·.1)).length → (writesP x ((l.map (·.1)).take k)).ok := by
   intro k hk
   rw [hwp]
   rw [List.length_map] at hk
   rcases Nat.lt_or_ge k l.length with h | h
   ·exact (hws k l[k] (List.getElem?_eq_getElem h)).1
   ·rw [List.take_of_length_le h, ← e1]
    exact hok1
  have eE : rwriteR x ((4 : Nat) : Int) ((0 : Nat) : Int) f (l.map (·.1)) = (x1, 0) := by
   unfold rwriteR
   rw [hask, hfr]
   show writesE x (l.map (·.1)) = _
   rw [obWritesE_well, obWritesP_map, ← e1]
   intro k y hy
   rw [hwp]
   rw [List.getElem?_map] at hy
   obtain ⟨z, hz, rfl⟩ := Option.map_eq_some_iff.1 hy
   exact (hws k z hz).2
  have hin1 : x1.inR := by
   intro y hy
   rw [hcalm] at hy ⊢
   rcases List.mem_append.1 hy with h | h
   ·exact hin y h
   ·obtain ⟨z, hz, rfl⟩ := List.mem_map.1 h
    exact hinr z hz
  have hgoid : (headF (headS x1 ((4 : Nat) : Int) ((0 : Nat) : Int))).oids = [oid] := by
   have : (frameOf x1 ((4 : Nat) : Int) ((0 : Nat) : Int)).oids = [oid] := by rw [hfra, hoi]
   exact this
  refine ⟨x1, 0, headF (headS x1 ((4 : Nat) : Int) ((0 : Nat) : Int)), 0, ⟨?_, ?_, ?_, hok1, hin1, hok2, fun h => absurd rfl h, fun _ => ⟨rfl, hgoid, rfl⟩⟩⟩
  ·intro lv wv fv fr w hr hf
   rw [← ex] at hr ⊢
   have h := rwrite_any x lv wv fv ((4 : Nat) : Int) ((0 : Nat) : Int) f fr (l.map (·.1)) w hr hx.ok hf (fun y hy => by obtain ⟨z, _, rfl⟩ := List.mem_map.1 hy; exact z.2) (by rw [List.length_map]; omega)
    (fun _ _ W hW => hlays fr W ((hf.below hW (Nat.le_refl _)).mono hW.size)) hokw
   rw [eE] at h
   exact h
  ·intro D fr w hd hf hc
   rw [← ex] at hd
   exact hww D fr w hd hf hc
  ·intro D w hd
   exact (lhead_well D x1 ((4 : Nat) : Int) ((0 : Nat) : Int) w hd hok1 hread.ask hread.e2 hread.head).mono fun e w' h => h
end Go.Proofs.YtdpniceapmikpaaGreat
namespace Go.Proofs.YtdpniceapmikpaaGreat
open Go.RowKit

/-- bytes lie in no block of a new disk -/
theorem bytes_far {W : World} {B s : Nat} {x : DiskD} {v : Value} {l : List UInt8} (h : DiskAt W (newAt s) x) (hb : BytesIn W B v l) (hl : l ≠ []) : ∀ g, v.ownBlock = some g → ¬ (newAt s).has g := by
 intro g hg hd
 obtain ⟨_, a, cap, rfl, _, h4⟩ := hb
 cases l with
 | nil => exact hl rfl
 | cons c l =>
  obtain ⟨g2, off, rfl, _, h6⟩ := h4 0 c rfl
  have e : g2 = g := by simpa [Value.ownBlock] using hg
  subst e
  rcases hd with hd | hd | hd | hd
  ·rw [hd] at h6
   have h7 := h.blk.cell (off + 0)
   rw [h6] at h7
   rcases off with _ | _ | _ | _ | _ | off <;> simp [newAt] at h7
  ·rw [hd] at h6
   obtain ⟨m, hm, _⟩ := h.lasts
   unfold MapAt at hm
   have h8 : W.cell? ⟨(newAt s).lm, off + 0, none⟩ = none := by simp [World.cell?, hm]
   rw [h8] at h6
   cases h6
  ·cases hd
  ·cases hd
theorem wp_mergeV {P : Program} {id : Nat} {ops : Array Oper} {b : Bool} {Q : Exit → Act → World → Prop} {a : Act} {w : World} (A : Value → Value → Act) (I : Value → Value → World → Prop)
  (h : (Code.region id ops b).wp P (fun e a' w' => match e with | .normal => ∃ i j, a' = A i j ∧ I i j w' | _ => False) a w) (hk : ∀ i j w', I i j w' → Q .normal (A i j) w') : (Code.region id ops b).wp P Q a w :=
 Code.wp_mono (fun e a' w' h => by
  cases e with
  | normal => obtain ⟨i, j, rfl, hi⟩ := h; exact hk i j w' hi
  | _ => exact h.elim) h
set_option maxRecDepth 100000 in
set_option maxHeartbeats 8000000 in
theorem objs_any (oid : Int) (o : ObjD) (w : World) (ho : o.ok) (hr : rightsOk o) (hgo : ∃ x1 no g r, ObGo oid ⟨1, [oid], [o], []⟩ x1 no g r) :
  Calls Tryz.prog 5 #[.int .i64 oid, .agg o.cells.toArray] w fun e w' => e = .returned (.bool true) ∧ Below w.heap.size w w' := by
 obtain ⟨x1, no, g, r, G⟩ := hgo
 have RW := Lib.hid G.rw_
 have LW := Lib.hid G.w_
 have LH := Lib.hid G.hd_
 have G1 := Lib.hid (And.intro G.ok1 G.in1)
 have G2 := Lib.hid G.ok2
 have GB := Lib.hid G.bad
 have GG := Lib.hid G.good
 clear G
 obtain ⟨i0, z0, hi0, hz0, hz1, hz2, hz3⟩ := info_object
 obtain ⟨OC, eOC⟩ : ∃ OC, OC = o.cells.toArray := ⟨_, rfl⟩
 have sOC : OC.size = 163 := by rw [eOC, List.size_toArray]; exact ObjD.len ho
 have tOC : (Tryz.prog.info? 62).map (·.size) = some OC.size := by rw [sOC]; kernel_rfl
 rw [← eOC]
 have HOC := Lib.hid eOC
 have HO := Lib.hid (And.intro ho hr)
 clear eOC ho hr
 have b0 : Blk (w.alloc (.cells OC 62)) w.heap.size 62 OC := Blk.new w _ _
 go_enter Tryz.func5, Tryz.ntmps5
 go_upto_region 2 with fail
 have k0 := (b0.alloc (.cells #[.int .i64 4] 23)).alloc (.cells #[.int .i64 oid] 3)
 have e2 : w.heap.size + 2 = w.heap.size + 1 + 1 := rfl
 go_wp2_with (first
  | (refine wpList_load_row rfl 62 _ rfl w.heap.size rfl 62 OC (0, 0) _ k0 Tryz.underlying62 rfl tOC ?_)
  | (refine wpList_plain rfl (fun K hK => wp_buildSliceL 25 62 1 _ rfl OC i0 z0 Tryz.underlying25 hi0 hz0 (by rw [hz1]; decide) (by rw [hz1]; decide) (by exact obj_row OC sOC i0 z0 hz1 hz3) (hK _ _ ?_))))
 obtain ⟨FV, eFV⟩ : ∃ FV, FV = (#[.int .i64 1, .slice (some ⟨w.heap.size + 1 + 1, 0, none⟩) 1 1, .slice (some ⟨w.heap.size + 1 + 1 + 1, 0, none⟩) 1 1, .slice none 0 0] : Array Value) := ⟨_, rfl⟩
 have sFV : (Tryz.prog.info? 28).map (·.size) = some FV.size := by rw [eFV]; kernel_rfl
 rw [← eFV]
 obtain ⟨W1, eW1⟩ : ∃ W, W = ((((w.alloc (.cells OC 62)).alloc (.cells #[.int .i64 4] 23)).alloc (.cells #[.int .i64 oid] 3)).alloc (.cells OC 62)).alloc (.cells FV 28) := ⟨_, rfl⟩
 rw [← eW1]
 have p1 : Blk W1 (w.heap.size + 1) 23 #[.int .i64 4] := by rw [eW1]; exact (((Blk.new2 w _ _ _).alloc _).alloc _).alloc _
 have i1 : Blk W1 (w.heap.size + 2) 3 #[.int .i64 oid] := by rw [eW1]; exact ((Blk.new' (by simp)).alloc _).alloc _
 have o1 : Blk W1 (w.heap.size + 3) 62 OC := by rw [eW1]; exact (Blk.new' (by simp)).alloc _
 have f1 : Blk W1 (w.heap.size + 4) 28 FV := by rw [eW1]; exact Blk.new' (by simp)
 have b1 : Below w.heap.size w W1 := by rw [eW1]; exact (((((Below.refl _ w).alloc (Nat.le_refl _) _).alloc (by simp) _).alloc (by simp; omega) _).alloc (by simp; omega) _).alloc (by simp; omega) _
 have hfr1 : FrameIn W1 W1.heap.size (.agg FV) ⟨1, [oid], [o], []⟩ := by
  rw [eFV]
  refine ⟨_, _, _, rfl, ⟨by show 1 ≤ maxLen; decide, _, 1, rfl, Nat.le_refl 1, fun j c hj => ?_⟩, ⟨by show 1 ≤ maxLen; decide, _, 1, rfl, Nat.le_refl 1, fun j x hj => ?_⟩, BytesIn.nil _ _⟩
  ·cases j with
   | zero =>
    obtain rfl : oid = c := by simpa using hj
    exact ⟨w.heap.size + 2, 0, rfl, i1.lt, i1.cell_is 0 rfl⟩
   | succ j => simp at hj
  ·cases j with
   | zero =>
    obtain rfl : o = x := by simpa using hj
    refine ⟨HO.out.1, HO.out.2, w.heap.size + 3, 0, rfl, o1.lt, fun i u hu => o1.cell_is (0 + 0 * 163 + i) ?_⟩
    rw [HOC.out, List.getElem?_toArray, Nat.zero_mul, Nat.zero_add]
    exact hu
   | succ j => simp at hj
 have hcap : ∀ a c, (∃ x y z, (.agg FV : Value) = .agg #[x, y, z, .slice a (⟨1, [oid], [o], []⟩ : FrameD).state.length c]) → c ≤ maxLen := by
  rintro a c ⟨x, y, z, e⟩
  rw [eFV] at e
  simp only [Value.agg.injEq, Array.mk.injEq, List.cons.injEq, Value.slice.injEq] at e
  omega
 have HCAP := Lib.hid hcap
 have P1 := Lib.hid p1
 have F1 := Lib.hid f1
 have B1 := Lib.hid b1
 have FR1 := Lib.hid hfr1
 have hw1 : w.heap.size + 4 < W1.heap.size := f1.lt
 clear eW1 p1 i1 o1 f1 b1 hfr1 hcap eFV k0 b0 e2 hi0 hz0 hz1 hz2 hz3 HOC HO sOC tOC
 have hm := dnew_yes 32 W1 (by decide) (by decide)
 rw [blank_new] at hm
 obtain ⟨D, eD⟩ : ∃ D, D = newAt W1.heap.size := ⟨_, rfl⟩
 have hD : ∀ i, D.has i → W1.heap.size ≤ i := by
  rw [eD]
  rintro i (rfl | rfl | h | h)
  ·exact Nat.le_succ _
  ·exact Nat.le_refl _
  ·cases h
  ·cases h
 rw [← eD] at hm
 unfold ptr at hm
 have HDB0 := Lib.hid hD
 have HED := Lib.hid eD
 clear eD hD
 refine hm.mono ?_; rintro e w2 ⟨rfl, hd2, hb2⟩
 have D2 := Lib.hid hd2
 have P2 := Lib.hid (P1.out.below hb2 P1.out.lt)
 have F2 := Lib.hid (F1.out.below hb2 F1.out.lt)
 have B2 := Lib.hid (B1.out.trans (hb2.mono B1.out.size))
 have FR2 := Lib.hid ((FR1.out.below hb2 (Nat.le_refl _)).mono hb2.size)
 have hw12 : W1.heap.size ≤ w2.heap.size := hb2.size
 clear hm hd2 hb2 P1 F1 B1 FR1
 have hm := blank_made w2
 unfold ptr at hm
 go_wp2_with (refine wpList_build_L rfl 43 _ rfl #[.int .i64 32, .slice none 0 0, .slice none 0 0] (by kernel_rfl) ?_)
 refine hm.mono ?_; rintro e w5 ⟨DX, lv, B, rfl, _, hr5, hB1, _, hb5⟩
 clear hm
 have hlv := own_lt hr5.lasts blank_some
 obtain ⟨DC, eDC⟩ : ∃ V, V = (#[lv, .slice none 0 0, .int .i64 0, .slice none 0 0] : Array Value) := ⟨_, rfl⟩
 obtain ⟨sDC, oDC⟩ := disk_fit hr5 0
 rw [← eDC] at sDC oDC ⊢
 have zDC : zeroD.size = DC.size := by rw [eDC]; rfl
 have HDC := Lib.hid eDC
 clear eDC
 obtain ⟨W6, eW6⟩ : ∃ W, W = w5.alloc (.cells DC 40) := ⟨_, rfl⟩
 have b6 : Below w5.heap.size w5 W6 := by rw [eW6]; exact (Below.refl _ w5).alloc (Nat.le_refl _) _
 have n6 : Blk W6 w5.heap.size 40 DC := by rw [eW6]; exact Blk.new w5 _ _
 go_upto_region 5 with (refine wpList_store_row rfl 40 _ _ rfl w5.heap.size DC rfl rfl 40 _ (heap_alloc_new w5 _) sDC zDC oDC ?_; rw [World.setRow_alloc_new])
 rw [← eW6]
 clear eW6 oDC zDC
 have q : Below w2.heap.size w2 W6 := hb5.trans (b6.mono hb5.size)
 have hd5 := D2.out.below hb5
 have hlf : ∀ g, lv.ownBlock = some g → ¬ D.has g := by
  have h := bytes_far (s := W1.heap.size) (by rw [← HED.out]; exact hd5) hr5.lasts blank_some
  rw [← HED.out] at h
  exact h
 have P6 := Lib.hid (P2.out.below q P2.out.lt)
 have F6 := Lib.hid (F2.out.below q F2.out.lt)
 have B6 := Lib.hid (B2.out.trans (q.mono B2.out.size))
 have FR6 := Lib.hid ((FR2.out.below q (Nat.le_refl _)).mono q.size)
 have D6 := Lib.hid (D2.out.below q)
 have D5 := Lib.hid (fun i (hi : D.has i) => Nat.lt_of_lt_of_le (D2.out.has_lt i hi) hb5.size)
 have R6 := Lib.hid (show RDisk W6 W6.heap.size lv (.slice none 0 0) (.slice none 0 0) blank32 from ⟨(hr5.lasts.outO (outB (F := fun _ => False) b6) (fun _ _ => id)).here, waits_none _ _, IntsIn.nil _ _⟩)
 have HLF := Lib.hid hlf
 have HLV := Lib.hid hlv
 have hw56 : w5.heap.size ≤ W6.heap.size := b6.size
 have hw6 := RW.out lv (.slice none 0 0) (.slice none 0 0) (.agg FV) W6 R6.out FR6.out
 have hDCs : (#[lv, .slice none 0 0, .int .i64 blank32.steps, .slice none 0 0] : Array Value) = DC := HDC.out.symm
 rw [hDCs] at hw6
 clear hDCs hd5 hr5 hb5 b6 q hlv hlf P2 F2 B2 FR2 D2
 have c1 := P6.out.cell_is 0 rfl
 have f1 := F6.out
 go_wp2_with (first
  | (refine wpList_load_row rfl 40 _ rfl w5.heap.size rfl 40 DC (0, 0) _ n6 Tryz.underlying40 rfl sDC ?_)
  | (refine wpList_load_row rfl 28 _ rfl (w.heap.size + 4) rfl 28 FV (0, 0) _ f1 Tryz.underlying28 rfl sFV ?_))
 refine hw6.mono ?_; rintro e w7 ⟨wv, rfl, hr7, hb7, hw7⟩
 obtain ⟨DN, eDN⟩ : ∃ V, V = (#[lv, wv, .int .i64 x1.steps, .slice none 0 0] : Array Value) := ⟨_, rfl⟩
 obtain ⟨sDN, oDN⟩ := disk_fit hr7 x1.steps
 rw [← eDN] at sDN oDN ⊢
 have zDN : zeroD.size = DN.size := by rw [eDN]; rfl
 have HDN := Lib.hid eDN
 clear eDN hw6 c1 f1 n6
 obtain ⟨W8, eW8⟩ : ∃ W, W = w7.alloc (.cells DN 40) := ⟨_, rfl⟩
 have b8 : Below w7.heap.size w7 W8 := by rw [eW8]; exact (Below.refl _ w7).alloc (Nat.le_refl _) _
 have n8 : Blk W8 w7.heap.size 40 DN := by rw [eW8]; exact Blk.new w7 _ _
 go_upto_region 6 with (refine wpList_store_row rfl 40 _ _ rfl w7.heap.size DN rfl rfl 40 _ (heap_alloc_new w7 _) sDN zDN oDN ?_; rw [World.setRow_alloc_new])
 rw [← eW8]
 clear eW8 oDN zDN
 have q : Below W6.heap.size W6 W8 := hb7.trans (b8.mono hb7.size)
 have P8 := Lib.hid (P6.out.below q P6.out.lt)
 have F8 := Lib.hid (F6.out.below q F6.out.lt)
 have B8 := Lib.hid (B6.out.trans (q.mono B6.out.size))
 have FR8 := Lib.hid ((FR6.out.below q (Nat.le_refl _)).mono q.size)
 have D8 := Lib.hid (D6.out.below q)
 have R8 := Lib.hid ((hr7.below b8 (Nat.le_refl _)).mono b8.size)
 have N8 := Lib.hid n8
 have hw67 : W6.heap.size ≤ w7.heap.size := hb7.size
 have hw78 : w7.heap.size ≤ W8.heap.size := b8.size
 have HW7 := Lib.hid hw7
 have hl8 := LW.out D (.agg FV) W8 D8.out FR8.out HCAP.out
 unfold ptr at hl8
 clear hr7 hb7 b8 q hw7 n8 RW P6 F6 B6 FR6 D6 R6 LW
 have c1 := P8.out.cell_is 0 rfl
 have f1 := F8.out
 go_wp2_with (refine wpList_load_row rfl 28 _ rfl (w.heap.size + 4) rfl 28 FV (0, 0) _ f1 Tryz.underlying28 rfl sFV ?_)
 refine hl8.mono ?_; rintro e w9 ⟨rfl, D', hd9, hs9⟩
 clear hl8 c1 f1
 have hn : ∀ i, w5.heap.size ≤ i → ¬ D.has i := fun i hi hd => by have := D5.out i hd; omega
 have hnp : ¬ D.has (w.heap.size + 1) := fun hd => by have := HDB0.out _ hd; omega
 have N9 := Lib.hid (hs9.out.blk N8.out (hn _ (by omega)))
 have P9 := Lib.hid (hs9.out.blk P8.out hnp)
 have R9 := Lib.hid (R8.out.outO hs9.out (fun g hg hd => HLF.out g hg hd) (fun g hg hd => by
  rcases HW7.out g hg with h | h
  ·rw [h] at hg; cases hg
  ·have := D5.out g hd; omega) (fun g hg => by cases hg))
 have B9 := Lib.hid (B8.out.trans (hs9.out.below B8.out.size (fun i hi hd => by have := HDB0.out i hd; omega)))
 have hnp' : ¬ D'.has (w.heap.size + 1) := hs9.far P8.out.lt hnp
 have S9 := Lib.hid hs9
 have D9 := Lib.hid hd9
 have HN9 := Lib.hid (hs9.far N8.out.lt (hn _ (by omega)))
 have hlr := LH.out D' w9 hd9
 rw [hs9.same] at hlr
 unfold ptr at hlr
 clear hd9 hs9 hn hnp
 have c1 := P9.out.cell_is 0 rfl
 go_wp2_with fail
 refine hlr.mono ?_; rintro e w12 ⟨v2, rfl, hf12, hd12, hs12⟩
 obtain ⟨vo, vb, vs, rfl, hfo, ⟨_, ab, cb, rfl, _, _⟩, ⟨_, a3, c3, rfl, _⟩⟩ := hf12
 have HOI0 := Lib.hid hfo
 obtain ⟨_, ao, co, rfl, _, _⟩ := hfo
 clear hlr c1
 obtain ⟨V2, eV2⟩ : ∃ V, V = (#[.int .i64 g.ed, .slice ao g.oids.length co, .slice ab g.objs.length cb, .slice a3 g.state.length c3] : Array Value) := ⟨_, rfl⟩
 have sV2 : (Tryz.prog.info? 28).map (·.size) = some V2.size := by rw [eV2]; kernel_rfl
 have oV2 : V2.all (·.oneCell') = true := by rw [eV2, List.all_toArray]; rfl
 have zV2 : zeroF.size = V2.size := by rw [eV2]; rfl
 rw [← eV2]
 have HV2 := Lib.hid eV2
 clear eV2
 obtain ⟨W13, eW13⟩ : ∃ W, W = w12.alloc (.cells V2 28) := ⟨_, rfl⟩
 have b13 : Below w12.heap.size w12 W13 := by rw [eW13]; exact (Below.refl _ w12).alloc (Nat.le_refl _) _
 have n15 : Blk W13 w12.heap.size 28 V2 := by rw [eW13]; exact Blk.new w12 _ _
 go_upto_region 8 with (refine wpList_store_row rfl 28 _ _ rfl w12.heap.size V2 rfl rfl 28 _ (heap_alloc_new w12 _) sV2 zV2 oV2 ?_; rw [World.setRow_alloc_new])
 rw [← eW13]
 clear eW13 oV2 zV2
 have hmore : ∀ i, D'.has i → D.has i ∨ W8.heap.size ≤ i := S9.out.new_
 have n12 := hs12.out.blk N9.out HN9.out
 have N13 := Lib.hid (n12.below b13 n12.lt)
 have F15 := Lib.hid n15
 have HOI := Lib.hid ((HOI0.out.below b13 (Nat.le_refl _)).mono b13.size)
 have r12 : RDisk w12 W8.heap.size lv wv (.slice none 0 0) x1 := ⟨R9.out.lasts.outO hs12.out (fun g hg hd => by
  rcases hmore g hd with h | h
  ·exact HLF.out g hg h
  ·have := (HLV.out g hg).2; omega), R9.out.waits.outL hs12.out (fun g hg hgl hd => by
  rcases HW7.out g hg with h | h
  ·rw [h] at hg; cases hg
  ·rcases hmore g hd with h2 | h2
   ·have := D5.out g h2; omega
   ·omega), R9.out.fails.outO hs12.out (fun g hg => by cases hg)⟩
 have hsz : W8.heap.size ≤ w12.heap.size := by have := S9.out.out.size; have := hs12.out.size; omega
 have r13 := ((r12.mono hsz).below b13 (Nat.le_refl _)).mono b13.size
 have hd13 := hd12.below b13
 have HB13 := Lib.hid ((B9.out.trans (hs12.out.below B9.out.size (fun i hi hd => by
  rcases hmore i hd with h | h
  ·have := HDB0.out i h; omega
  ·have := F8.out.lt; omega))).trans (b13.mono (by have := F8.out.lt; omega)))
 obtain ⟨rl, erl⟩ : ∃ rl, rl = readsL x1 := ⟨_, rfl⟩
 have hdb := fun (W : World) (hb : Below W13.heap.size W13 W) => dbytes_any D' x1.stepped W (hd13.below hb) G2.out
 have hrb := fun (W : World) (hb : Below W13.heap.size W13 W) => rdbytes_any x1 lv wv (.slice none 0 0) x1.steps W ((r13.below hb (Nat.le_refl _)).mono hb.size) G1.out.1 G1.out.2
 rw [show readsL x1.stepped = readsL x1 from rfl, ← erl, S9.out.same] at hdb
 have hDNs : (#[lv, wv, .int .i64 x1.steps, .slice none 0 0] : Array Value) = DN := HDN.out.symm
 rw [← erl, hDNs] at hrb
 unfold ptr at hdb
 have HDB := Lib.hid hdb
 have HRB := Lib.hid hrb
 have SK := Lib.hid (fun (W' : World) (hb' : Below W13.heap.size W13 W') => N13.out.below hb' N13.out.lt)
 have hb0 : Below W13.heap.size W13 W13.drew := (Below.refl _ W13).drew
 clear hdb hrb hDNs r12 r13 hd13 hd12 hs12 n12 n15 b13 hmore erl
 refine' wp_mergeV (_ : Value → Value → Act) (fun _ _ Q => Below W13.heap.size W13 Q) ?_ ?_
 rotate_left 1
 ·skip
  refine wp_region_held_drew (S := (fun w' => Blk w' w7.heap.size 40 DN)) (by kernel_rfl) (by first | exact SK.out _ hb0 | ((try dsimp only); exact SK.out _ hb0)) (fun hHeld => ?_)
  refine tk 0 ?_
  refine rd 1 fun K hK => ?_
  go_simp
  refine (num_any _ _).mono ?_; rintro e wN ⟨rfl, rfl⟩
  go_wp2_with fail
  refine hK.out _ _ (by first | exact SK.out _ hb0 | ((try dsimp only); exact SK.out _ hb0)) (fun hHeld => ?_)
  clear hK K
  try simp only [Act.put, pz0, pz1, pz2, pz3, pz4, pz5]
  refine tk 2 ?_
  refine tk 3 ?_
  refine tk 4 ?_
  refine tk 6 ?_
  refine rd 5 fun K hK => ?_
  go_simp
  refine (num_any _ _).mono ?_; rintro e wN ⟨rfl, rfl⟩
  go_wp2_with fail
  refine hK.out _ _ (by first | exact SK.out _ hb0 | ((try dsimp only); exact SK.out _ hb0)) (fun hHeld => ?_)
  clear hK K
  try simp only [Act.put, pz0, pz1, pz2, pz3, pz4, pz5]
  refine tk 7 ?_
  refine tk 8 ?_
  refine tk 9 ?_
  refine tk 10 ?_
  refine ty 13 rfl (yieldsIf_load_mid (by rfl) 40 _ rfl w7.heap.size 0 rfl DN.toList _ (fun w' h => by have := blk_range h; simpa using this) Tryz.underlying40 rfl (by rw [Array.length_toList]; exact sDN)) ?_
  refine rd 11 fun K hK => ?_
  go_simp
  refine (HDB.out W13.drew hb0).mono ?_; rintro e X1 ⟨u1, rfl, hO1, hb1'⟩
  have hb1 := hb0.trans (hb1'.mono hb0.size)
  have hu1 := BytesIn.own hO1
  go_wp2_with fail
  refine hK.out _ _ (by first | exact SK.out _ hb1 | ((try dsimp only); exact SK.out _ hb1)) (fun hHeld => ?_)
  clear hK K
  try simp only [Act.put, pz0, pz1, pz2, pz3, pz4, pz5]
  refine wpAnyH_ready (rs := [12, 14]) (by kernel_rfl) (by simp) ?_
  refine (AllReadyH.cons rfl (fun K hK => ?_) (AllReadyH.cons rfl (fun K hK => ?_) AllReadyH.nil))
  ·skip
   have hs1 := run_str X1 hu1
   go_simp
   refine hK.out _ _ (by first | exact SK.out _ hb1 | ((try dsimp only); exact SK.out _ hb1)) (fun hHeld => ?_)
   clear hK K
   try simp only [Act.put, pz0, pz1, pz2, pz3, pz4, pz5]
   refine rd 14 fun K hK => ?_
   go_simp
   refine (HRB.out X1 hb1).mono ?_; rintro e X2 ⟨u2, rfl, hO2, hb2'⟩
   have hb2 := hb1.trans (hb2'.mono hb1.size)
   have hu2 := BytesIn.own hO2
   go_wp2_with fail
   refine hK.out _ _ (by first | exact SK.out _ hb2 | ((try dsimp only); exact SK.out _ hb2)) (fun hHeld => ?_)
   clear hK K
   try simp only [Act.put, pz0, pz1, pz2, pz3, pz4, pz5]
   refine rd 15 fun K hK => ?_
   have hs2 := run_str X2 hu2
   go_simp
   refine hK.out _ _ (by first | exact SK.out _ hb2 | ((try dsimp only); exact SK.out _ hb2)) (fun hHeld => ?_)
   clear hK K
   try simp only [Act.put, pz0, pz1, pz2, pz3, pz4, pz5]
   refine tk 16 ?_
   refine tk 17 ?_
   refine wpAnyH_done (by kernel_rfl) ?_ _
   try simp only [Act.put, pz0, pz1, pz2, pz3, pz4, pz5]
   refine ⟨u1, u2, ?_, hb2⟩
   with_reducible rfl
  ·skip
   go_simp
   refine (HRB.out X1 hb1).mono ?_; rintro e X2 ⟨u2, rfl, hO2, hb2'⟩
   have hb2 := hb1.trans (hb2'.mono hb1.size)
   have hu2 := BytesIn.own hO2
   have hu1 := (hu1.below hb2' (Nat.le_refl _)).mono hb2'.size
   go_wp2_with fail
   refine hK.out _ _ (by first | exact SK.out _ hb2 | ((try dsimp only); exact SK.out _ hb2)) (fun hHeld => ?_)
   clear hK K
   try simp only [Act.put, pz0, pz1, pz2, pz3, pz4, pz5]
   refine wpAnyH_ready (rs := [12, 15]) (by kernel_rfl) (by simp) ?_
   refine (AllReadyH.cons rfl (fun K hK => ?_) (AllReadyH.cons rfl (fun K hK => ?_) AllReadyH.nil))
   ·skip
    have hs1 := run_str X2 hu1
    go_simp
    refine hK.out _ _ (by first | exact SK.out _ hb2 | ((try dsimp only); exact SK.out _ hb2)) (fun hHeld => ?_)
    clear hK K
    try simp only [Act.put, pz0, pz1, pz2, pz3, pz4, pz5]
    refine rd 15 fun K hK => ?_
    have hs2 := run_str X2 hu2
    go_simp
    refine hK.out _ _ (by first | exact SK.out _ hb2 | ((try dsimp only); exact SK.out _ hb2)) (fun hHeld => ?_)
    clear hK K
    try simp only [Act.put, pz0, pz1, pz2, pz3, pz4, pz5]
    refine tk 16 ?_
    refine tk 17 ?_
    refine wpAnyH_done (by kernel_rfl) ?_ _
    try simp only [Act.put, pz0, pz1, pz2, pz3, pz4, pz5]
    refine ⟨u1, u2, ?_, hb2⟩
    with_reducible rfl
   ·skip
    have hs2 := run_str X2 hu2
    go_simp
    refine hK.out _ _ (by first | exact SK.out _ hb2 | ((try dsimp only); exact SK.out _ hb2)) (fun hHeld => ?_)
    clear hK K
    try simp only [Act.put, pz0, pz1, pz2, pz3, pz4, pz5]
    refine rd 12 fun K hK => ?_
    have hs1 := run_str X2 hu1
    go_simp
    refine hK.out _ _ (by first | exact SK.out _ hb2 | ((try dsimp only); exact SK.out _ hb2)) (fun hHeld => ?_)
    clear hK K
    try simp only [Act.put, pz0, pz1, pz2, pz3, pz4, pz5]
    refine tk 16 ?_
    refine tk 17 ?_
    refine wpAnyH_done (by kernel_rfl) ?_ _
    try simp only [Act.put, pz0, pz1, pz2, pz3, pz4, pz5]
    refine ⟨u1, u2, ?_, hb2⟩
    with_reducible rfl
 rintro u1 u2 Q hq
 have HBQ := Lib.hid (HB13.out.trans (hq.mono HB13.out.size))
 have FQ := Lib.hid (F15.out.below hq F15.out.lt)
 have HOQ := Lib.hid (HOI.out.below hq (Nat.le_refl _))
 clear hq HB13 F15 HOI HDB HRB SK hb0
 by_cases hno : no = 0
 ·obtain ⟨hr0, hgo, hgb⟩ := GG.out hno
  subst hno
  subst hr0
  have hoq := HOQ.out
  rw [hgo] at hoq
  obtain ⟨go, offo, rfl, hgl, hcell⟩ := hoq.at_ (j := 0) (x := oid) rfl
  have hfq := FQ.out
  rw [HV2.out, hgo, hgb] at hfq
  have c1 := hfq.cell_is 1 rfl
  have c2 := hfq.cell_is 2 rfl
  rw [Nat.add_zero] at hcell
  clear hfq hoq hgo hgb hgl HOQ FQ HV2 sV2 GB GG
  go_wp2_with fail
  refine (num_any _ _).mono ?_; rintro e wN ⟨rfl, rfl⟩
  go_wp2_with fail
  refine (works_any _).mono ?_; rintro e w16 ⟨rfl, hb16⟩
  go_wp2_with fail
  go_ret
  exact ⟨rfl, HBQ.out.trans (hb16.mono HBQ.out.size)⟩
 ·have hr0 := GB.out hno
  subst hr0
  go_wp2_with fail
  refine (num_any _ _).mono ?_; rintro e wN ⟨rfl, rfl⟩
  go_wp2_with fail
  refine (works_any _).mono ?_; rintro e w16 ⟨rfl, hb16⟩
  go_wp2_with fail
  go_ret
  exact ⟨rfl, HBQ.out.trans (hb16.mono HBQ.out.size)⟩
end Go.Proofs.YtdpniceapmikpaaGreat
namespace Go.Proofs.YtdpniceapmikpaaGreat
open Go.ChangeShapes Go.WideShapes Go.ChangeAt Go.RowKit Go.Deep

section
variable {H : Type} {enc : TypeId × Value → H} {P : Program}

/-- arguments read as they read, behind a call that turned nothing below -/
theorem trodAll_stays (hl : laidOutB P = true) {W W' : World} (hb : Below W.heap.size W W') {sp : Nat → Bool} :
  ∀ {ts : List TypeId} {vs : List Value} {ds : List (DataW H)} {ps : List MemPlace}, (∀ t ∈ ts, P.readableRec t = true ∧ t < P.types.size) →
   DataW.TrodAll enc P W 0 (fun _ => true) true ts vs ds ps → (∀ p ∈ ps, p.block < W.heap.size) → (∀ p ∈ ps, sp p.block = true) → DataW.TrodAll enc P W' 0 sp true ts vs ds ps
 | [], vs, ds, ps, _, h, _, _ => by
  obtain ⟨rfl, rfl, rfl⟩ := trodAll_nil h
  exact trodAll_mk0
 | t :: ts, vs, ds, ps, ht, h, hlt, hsp => by
  obtain ⟨v, vs', d, ds', p, q, rfl, rfl, rfl, h1, h2⟩ := trodAll_cons h
  have hp : ∀ x ∈ p, x.block < W.heap.size := fun x hx => hlt x (List.mem_append_left _ hx)
  exact trodAll_cons_mk (WideElems.Trod_stays hl (ht t (List.mem_cons_self ..)).1 (ht t (List.mem_cons_self ..)).2 h1 (fun x hx => hb.same (hp x hx)) (fun x hx => hsp x (List.mem_append_left _ hx)))
   (trodAll_stays hl hb (fun u hu => ht u (List.mem_cons_of_mem _ hu)) h2 (fun x hx => hlt x (List.mem_append_right _ hx)) (fun x hx => hsp x (List.mem_append_right _ hx)))

theorem law_post (hl : laidOutB P = true) {f : Func} {s : ChangeSpec} {T : TypeId} (hts : ∀ t ∈ f.params.toList, P.readableRec t = true ∧ t < P.types.size) (hres : f.resultTypes = #[T]) (hT : P.underlying T = some .bool)
  (hvars : s.vars = []) {W W' : World} {args : Array Value} {ds gs : List (DataW H)} {before : List MemPlace} (hW : DataW.Whole enc P f.params.toList s.vars false W args.toList ds gs before)
  (hfn : s.fn H (ds ++ gs) = { results := [.lit (.bool true)], args := ds }) (hb : Below W.heap.size W W') : s.post enc P f false true false false W args (.bool true) W' := by
 have hlt : ∀ p ∈ before, p.block < W.heap.size := fun p hp => hW.lt p hp
 have hold : ∀ p ∈ before, (fun b => decide (b < W.heap.size)) p.block = true := fun p hp => by simpa using hlt p hp
 have hW' := hW
 obtain ⟨p, q, hA, hV, rfl, hz, hn⟩ := hW
 rw [hvars] at hV
 obtain ⟨rfl, rfl⟩ := trodVars_none hV
 refine ⟨ds, [], p ++ [], [], p, [], hW', ?_, ?_, ?_, World.keptBut_mono (fun x hx => ⟨hx, ?_⟩) (hb.frame (· ∈ p ++ [])), fun h => by cases h⟩
 ·rw [hfn, hres]
  exact trodAll_mk1 (shut_bool hT _)
 ·rw [hfn]
  exact trodAll_stays hl hb hts hA (fun x hx => hlt x (List.mem_append_left _ hx)) (fun x hx => hold x (List.mem_append_left _ hx))
 ·rw [hfn, hvars]
  exact rfl
 ·simpa using hx
end

section
variable {H : Type} {enc : TypeId × Value → H} {P : Program} {w : World} {base : Nat} {spare : Nat → Bool} {held : Bool}
theorem i64_lt {x : Int} (h : (Lit.int .i64 x).wf = true) : -9223372036854775808 ≤ x ∧ x < 9223372036854775808 := by
 simp [Lit.wf, IntKind.min, IntKind.max, IntKind.signed, IntKind.bits] at h
 omega
end

theorem own : ownKnob Tryz.prog.godebug = none := by kernel_rfl
theorem laidOut : laidOutB Tryz.prog = true := by kernel_rfl
end Go.Proofs.YtdpniceapmikpaaGreat
namespace Go.Proofs.YtdpniceapmikpaaGreat
open Go.ChangeShapes Go.WideShapes Go.ChangeAt Go.RowKit Go.Deep

theorem list_blocks {α : Type} (f : α → List Value) (Pr : α → Prop) (C : Nat) : ∀ (n : Nat) (cs : List Value), cs.length = n * C → (∀ i, i < n → ∃ a, Pr a ∧ (cs.drop (i * C)).take C = f a) → ∃ l : List α, l.length = n ∧ (∀ a ∈ l, Pr a) ∧ cs = l.flatMap f
 | 0, cs, hl, _ => ⟨[], rfl, (fun a h => by cases h), by have h0 : cs = [] := List.eq_nil_of_length_eq_zero (by simpa using hl); rw [h0]; rfl⟩
 | n + 1, cs, hl, h => by
  obtain ⟨a, ha, e⟩ := h 0 (by omega)
  have hl2 : (cs.drop C).length = n * C := by rw [List.length_drop, hl, Nat.succ_mul]; omega
  obtain ⟨l, h1, h2, h3⟩ := list_blocks f Pr C n (cs.drop C) hl2 (fun i hi => by
   obtain ⟨b, hb, e⟩ := h (i + 1) (by omega)
   refine ⟨b, hb, ?_⟩
   rw [List.drop_drop, ← e]
   congr 2
   rw [Nat.succ_mul]
   omega)
  refine ⟨a :: l, by simp [h1], fun b hb => ?_, ?_⟩
  ·rcases List.mem_cons.1 hb with rfl | hb
   ·exact ha
   ·exact h2 b hb
  ·rw [List.flatMap_cons, ← h3, ← e]
   simp
theorem six_list (cs : List Value) (h : cs.length = 6) : ∃ a b c d e f, cs = [a, b, c, d, e, f] := by
 match cs, h with
 | [a, b, c, d, e, f], _ => exact ⟨a, b, c, d, e, f, rfl⟩
section
variable {H : Type} {enc : TypeId × Value → H} {w : World} {base : Nat} {spare : Nat → Bool} {held : Bool} {n : Nat} {cs : List Value} {x : DataW H × List MemPlace}
theorem int_trod {t : TypeId} (ht : Tryz.prog.underlying t = some (.int .i64)) (h : DataW.trod enc Tryz.prog w base spare held n t cs = some x) : ∃ k : Int, cs = [.int .i64 k] ∧ k < 9223372036854775808 := by
 obtain ⟨k, e, _, hw⟩ := DataW.trod_int ht h
 exact ⟨k, e, (i64_lt hw).2⟩
theorem byte_trod (h : DataW.trod enc Tryz.prog w base spare held n 5 cs = some x) : ∃ c : UInt8, cs = [vu8 c] := by
 obtain ⟨k, e, _, hw⟩ := DataW.trod_int Tryz.underlying5 h
 simp [Lit.wf, IntKind.min, IntKind.max, IntKind.signed, IntKind.bits] at hw
 refine ⟨UInt8.ofNat k.toNat, ?_⟩
 rw [e]
 unfold vu8
 rw [UInt8.toNat_ofNat']
 congr 2
 omega
end
section
variable {H : Type} {enc : TypeId × Value → H} {w : World} {n : Nat} {cs : List Value} {x : DataW H × List MemPlace}
end
end Go.Proofs.YtdpniceapmikpaaGreat
namespace Go.Proofs.YtdpniceapmikpaaGreat
open Go.ChangeShapes Go.WideShapes Go.ChangeAt Go.RowKit Go.Deep

section
variable {H : Type} {enc : TypeId × Value → H} {w : World} {base : Nat} {spare : Nat → Bool} {held : Bool} {n : Nat} {cs : List Value} {x : DataW H × List MemPlace}
theorem int_trod64 {t : TypeId} (ht : Tryz.prog.underlying t = some (.int .i64)) (h : DataW.trod enc Tryz.prog w base spare held n t cs = some x) : ∃ k : Int, cs = [.int .i64 k] ∧ I64 k := by
 obtain ⟨k, e, _, hw⟩ := DataW.trod_int ht h
 have h1 := i64_lt hw
 exact ⟨k, e, by omega, by omega⟩
theorem key_trod64 (h : DataW.trod enc Tryz.prog w base spare held n 58 cs = some x) : ∃ k : KeyD, (k.r < 9223372036854775808 ∧ I64 k.v) ∧ cs = k.cells := by
 obtain ⟨xs, m, _, _, hlen, hxl, hg⟩ := DataW.trod_struct Tryz.underlying58 h
 have h6 : cs.length = 6 := hlen.trans cellsOf_key
 have c0 : Tryz.prog.cellsOf 55 = 1 := by kernel_rfl
 have c1 : Tryz.prog.cellsOf 3 = 1 := by kernel_rfl
 have c2 : Tryz.prog.cellsOf 2 = 1 := by kernel_rfl
 have c3 : Tryz.prog.cellsOf 56 = 1 := by kernel_rfl
 have g0 : DataW.trod enc Tryz.prog w base spare held m 55 ((cs.drop 0).take (Tryz.prog.cellsOf 55)) = xs[0]? := hg 0 _ rfl
 have g1 : DataW.trod enc Tryz.prog w base spare held m 3 ((cs.drop 1).take (Tryz.prog.cellsOf 3)) = xs[1]? := hg 1 _ rfl
 have g2 : DataW.trod enc Tryz.prog w base spare held m 2 ((cs.drop 2).take (Tryz.prog.cellsOf 2)) = xs[2]? := hg 2 _ rfl
 have g3 : DataW.trod enc Tryz.prog w base spare held m 2 ((cs.drop 3).take (Tryz.prog.cellsOf 2)) = xs[3]? := hg 3 _ rfl
 have g4 : DataW.trod enc Tryz.prog w base spare held m 56 ((cs.drop 4).take (Tryz.prog.cellsOf 56)) = xs[4]? := hg 4 _ rfl
 have g5 : DataW.trod enc Tryz.prog w base spare held m 2 ((cs.drop 5).take (Tryz.prog.cellsOf 2)) = xs[5]? := hg 5 _ rfl
 have len : 6 = xs.length := by rw [hxl]; rfl
 have ex : ∀ i, i < 6 → ∃ y, xs[i]? = some y := fun i hi => ⟨_, List.getElem?_eq_getElem (by omega)⟩
 obtain ⟨y0, e0⟩ := ex 0 (by omega)
 obtain ⟨y1, e1⟩ := ex 1 (by omega)
 obtain ⟨y2, e2⟩ := ex 2 (by omega)
 obtain ⟨y3, e3⟩ := ex 3 (by omega)
 obtain ⟨y4, e4⟩ := ex 4 (by omega)
 obtain ⟨y5, e5⟩ := ex 5 (by omega)
 rw [e0] at g0; rw [e1] at g1; rw [e2] at g2; rw [e3] at g3; rw [e4] at g4; rw [e5] at g5
 rw [c0] at g0
 rw [c1] at g1
 rw [c2] at g2 g3 g5
 rw [c3] at g4
 obtain ⟨k0, p0, _⟩ := int_trod Tryz.underlying55 g0
 obtain ⟨k1, p1, _⟩ := int_trod Tryz.underlying3 g1
 obtain ⟨k2, p2, _⟩ := int_trod Tryz.underlying2 g2
 obtain ⟨k3, p3, _⟩ := int_trod Tryz.underlying2 g3
 obtain ⟨k4, p4, w4⟩ := int_trod Tryz.underlying56 g4
 obtain ⟨k5, p5, w5⟩ := int_trod64 Tryz.underlying2 g5
 refine ⟨⟨k0, k1, k2, k3, k4, k5⟩, ⟨w4, w5⟩, ?_⟩
 obtain ⟨a, b, c, d, e, f, rfl⟩ := six_list cs h6
 simp only [List.drop_zero, List.drop_succ_cons, List.take_succ_cons, List.take_zero, List.cons.injEq, and_true] at p0 p1 p2 p3 p4 p5
 rw [p0, p1, p2, p3, p4, p5]
 rfl
theorem obj_trod64 (h : DataW.trod enc Tryz.prog w base spare held n 62 cs = some x) : ∃ o : ObjD, (o.ok ∧ rightsOk o ∧ ∀ x ∈ o.slots, I64 x.v) ∧ cs = o.cells := by
 obtain ⟨xs, m, _, _, hlen, hxl, hg⟩ := DataW.trod_struct Tryz.underlying62 h
 have h163 : cs.length = 163 := hlen.trans (by kernel_rfl)
 have c0 : Tryz.prog.cellsOf 54 = 1 := by kernel_rfl
 have c1 : Tryz.prog.cellsOf 2 = 1 := by kernel_rfl
 have c3 : Tryz.prog.cellsOf 59 = 96 := by kernel_rfl
 have c4 : Tryz.prog.cellsOf 60 = 64 := by kernel_rfl
 have c5 : Tryz.prog.cellsOf 5 = 1 := by kernel_rfl
 have g0 : DataW.trod enc Tryz.prog w base spare held m 54 ((cs.drop 0).take (Tryz.prog.cellsOf 54)) = xs[0]? := hg 0 _ rfl
 have g1 : DataW.trod enc Tryz.prog w base spare held m 2 ((cs.drop 1).take (Tryz.prog.cellsOf 2)) = xs[1]? := hg 1 _ rfl
 have g2 : DataW.trod enc Tryz.prog w base spare held m 2 ((cs.drop 2).take (Tryz.prog.cellsOf 2)) = xs[2]? := hg 2 _ rfl
 have g3 : DataW.trod enc Tryz.prog w base spare held m 59 ((cs.drop 3).take (Tryz.prog.cellsOf 59)) = xs[3]? := hg 3 _ rfl
 have g4 : DataW.trod enc Tryz.prog w base spare held m 60 ((cs.drop 99).take (Tryz.prog.cellsOf 60)) = xs[4]? := hg 4 _ rfl
 have len : 5 = xs.length := by rw [hxl]; rfl
 have ex : ∀ i, i < 5 → ∃ y, xs[i]? = some y := fun i hi => ⟨_, List.getElem?_eq_getElem (by omega)⟩
 obtain ⟨y0, e0⟩ := ex 0 (by omega)
 obtain ⟨y1, e1⟩ := ex 1 (by omega)
 obtain ⟨y2, e2⟩ := ex 2 (by omega)
 obtain ⟨y3, e3⟩ := ex 3 (by omega)
 obtain ⟨y4, e4⟩ := ex 4 (by omega)
 rw [e0] at g0; rw [e1] at g1; rw [e2] at g2; rw [e3] at g3; rw [e4] at g4
 rw [c0] at g0
 rw [c1] at g1 g2
 rw [c3] at g3
 rw [c4] at g4
 obtain ⟨k0, p0, _⟩ := int_trod Tryz.underlying54 g0
 obtain ⟨k1, p1, _⟩ := int_trod Tryz.underlying2 g1
 obtain ⟨k2, p2, _⟩ := int_trod Tryz.underlying2 g2
 obtain ⟨zs, m3, _, _, l3, zl, hz⟩ := DataW.trod_array Tryz.underlying59 g3
 obtain ⟨us, m4, _, _, l4, ul, hu⟩ := DataW.trod_array Tryz.underlying60 g4
 simp only [cellsOf_key] at hz
 simp only [c5] at hu
 obtain ⟨ks, k1l, kp, ke⟩ := list_blocks KeyD.cells (fun k => k.r < 9223372036854775808 ∧ I64 k.v) 6 16 _ (l3.trans c3) (fun i hi => by
  have h1 := hz i hi
  rw [List.getElem?_eq_getElem (by omega)] at h1
  exact key_trod64 h1)
 obtain ⟨bs, b1l, _, be⟩ := list_blocks (fun c : UInt8 => [vu8 c]) (fun _ => True) 1 64 _ (l4.trans c4) (fun i hi => by
  have h1 := hu i hi
  rw [List.getElem?_eq_getElem (by omega)] at h1
  obtain ⟨c, hc⟩ := byte_trod h1
  exact ⟨c, trivial, hc⟩)
 refine ⟨⟨k0, k1, k2, ks, bs⟩, ⟨⟨k1l, b1l⟩, fun x hx => (kp x hx).1, fun x hx => (kp x hx).2⟩, ?_⟩
 unfold ObjD.cells slotCells
 simp only
 rw [← ke, show bs.map vu8 = bs.flatMap (fun c => [vu8 c]) by rw [List.map_eq_flatMap], ← be]
 have t : ∀ (l : List Value) (k : Nat), l.take k ++ l.drop k = l := fun l k => List.take_append_drop k l
 have q4 : (cs.drop 99).take 64 = cs.drop 99 := List.take_of_length_le (by rw [List.length_drop, h163]; decide)
 have q3 := t (cs.drop 3) 96
 have q2 := t (cs.drop 2) 1
 have q1 := t (cs.drop 1) 1
 have q0 := t (cs.drop 0) 1
 rw [List.drop_drop] at q3 q2 q1 q0
 rw [p0] at q0
 rw [p1] at q1
 rw [p2] at q2
 rw [q4, show (cs.drop 3).take 96 ++ cs.drop 99 = cs.drop 3 from q3]
 refine q0.symm.trans ?_
 rw [show cs.drop (0 + 1) = cs.drop 1 from rfl, ← q1, show cs.drop (1 + 1) = cs.drop 2 from rfl, ← q2]
 rfl
end
set_option maxRecDepth 100000 in
theorem open_obj64 {H : Type} {enc : TypeId × Value → H} {w : World} {base : Nat} {spare : Nat → Bool} {held : Bool} {r : Reach} {b0 : Nat} {v : Value} {d : DataW H} {p : List MemPlace} (hv : Value.okWide Tryz.prog w r b0 62 v) (h : DataW.Trod enc Tryz.prog w base spare held 62 v d p) :
  ∃ o : ObjD, v = .agg o.cells.toArray ∧ o.ok ∧ rightsOk o ∧ ∀ x ∈ o.slots, I64 x.v := by
 obtain ⟨cs, rfl, hsz⟩ := okWide_struct Tryz.underlying62 hv
 obtain ⟨fuel, hf⟩ := h
 obtain ⟨o, ⟨h1, h2, h3⟩, h4⟩ := obj_trod64 hf
 refine ⟨o, ?_, h1, h2, h3⟩
 have h5 : cs.toList = o.cells := h4
 rw [← h5]
end Go.Proofs.YtdpniceapmikpaaGreat
namespace Go.Proofs.YtdpniceapmikpaaGreat
open Go.ChangeShapes Go.WideShapes Go.ChangeAt Go.RowKit Go.Deep

set_option maxRecDepth 100000 in
theorem logsObjects_lifted (os : Os) (started : os.Started) (H : Type) (enc : TypeId × Value → H) :
  ReturnsInHanded {} Tryz.checked os 5 .any (Rows.logsObjectsSpec.pre6 enc Tryz.prog Tryz.f5 Rows.logsObjectsRow.domain false) (Rows.logsObjectsSpec.post enc Tryz.prog Tryz.f5 false true false false) := by
 refine returnsInHanded_of_change (C := Tryz.checked) own started (by kernel_rfl) Tryz.func5
  (ChangeSpec.witness6 (enc := enc) (C := Tryz.checked) false ⟨#[], #[.int .i64 0, .agg (Tryz.zeroCells62)], []⟩ 8 (by kernel_rfl) (by kernel_rfl) (by kernel_rfl) (by kernel_rfl)) ?_
 intro W base args ds gs before hval0 hW hcnd _
 have hval : ∀ (j : Nat) t v, Tryz.f5.params[j]? = some t → args[j]? = some v → Value.okWide Tryz.prog W .any base t v := hval0
 have hW' := hW
 obtain ⟨p, q, hA0, hV, rfl, hfz, hnd⟩ := hW
 have hA : DataW.TrodAll enc Tryz.prog W 0 (fun _ => true) true Tryz.f5.params.toList args.toList ds p := hA0
 rw [Tryz.params5] at hA hval
 obtain ⟨v0, v1, d0, d1, p0, p1, rfl, rfl, rfl, h0, h1⟩ := trodAll_two hA
 obtain ⟨rfl, rfl⟩ := trodVars_none hV
 obtain ⟨oid, rfl, _, _, _⟩ := open_int Tryz.underlying3 (hval 0 _ v0 rfl rfl) h0
 obtain ⟨o, rfl, ho, hr, hv64⟩ := open_obj64 (hval 1 _ v1 rfl rfl) h1
 clear hA0 hval0
 refine (objs_any oid o W ho hr (obGo oid ⟨1, [oid], [o], []⟩ rfl (by show (1 : Int) ≤ _; omega) (fun x hx => by obtain rfl := List.mem_singleton.1 hx; exact hv64) (fun x hx => by obtain rfl := List.mem_singleton.1 hx; exact ⟨ho, hr⟩))).mono fun e W' ⟨he, hb⟩ => ?_
 subst he
 exact ⟨_, rfl, law_post laidOut (by rw [Tryz.params5]; intro t ht; simp at ht; rcases ht with rfl | rfl <;> exact ⟨by kernel_rfl, of_decide_eq_true (by kernel_rfl)⟩) rfl Tryz.underlying4 rfl hW' rfl hb⟩

theorem logsObjects_holds : Rows.LogsObjectsSaid :=
 OpenClaim.holds_of_wide 5 Tryz.f5 rfl rfl rfl rfl rfl rfl rfl ⟨rfl, rfl, rfl, rfl, rfl⟩ rfl rfl rfl rfl rfl (by kernel_rfl) Tryz.func5 (by kernel_rfl)
  (of_decide_eq_true (by kernel_rfl)) (by unfold Func.isWrapper; first | (rw [if_pos (by decide +kernel)]; kernel_rfl) | (rw [if_neg (by decide +kernel)]; exact ⟨rfl, rfl⟩))
  (fun os started H enc _ => logsObjects_lifted os started H enc)

end Go.Proofs.YtdpniceapmikpaaGreat
