/-
  The reference's Read of an area that has a frame without objects. (Written by gen_lrread.py.)
-/
import Derived.Test.YtdpniceapmikpaaGreatSt1
import Derived.Test.YtdpniceapmikpaaGreatSt13
import Derived.Test.YtdpniceapmikpaaGreatSt24
import Derived.Test.YtdpniceapmikpaaGreatSt38
import Derived.Test.YtdpniceapmikpaaGreatSt39
set_option linter.unusedVariables false
set_option linter.unusedSimpArgs false
namespace Go.Proofs.YtdpniceapmikpaaGreat
open Go.RowKit

/-- the first parts of a state, as they lie on a disk -/
def partsTo (x : DiskD) (N area : Int) (k : Nat) : List UInt8 := (List.range k).flatMap (partS x N area)
section
variable {x : DiskD} {N area : Int}
theorem partsTo_succ (k : Nat) : partsTo x N area (k + 1) = partsTo x N area k ++ partS x N area k := by unfold partsTo; rw [List.range_succ, List.flatMap_append]; simp
theorem partsTo_len (hl : ∀ i, (partS x N area i).length = 512) (k : Nat) : (partsTo x N area k).length = 512 * k := flat_len _ hl k
theorem stateOf_parts (hl : ∀ i, (partS x N area i).length = 512) (nb : Nat) : stateOf x N area nb = (partsTo x N area (chunksN nb)).take nb := by
 apply List.ext_getElem?
 intro p
 unfold stateOf
 by_cases h : p < nb
 ·rw [List.getElem?_map, List.getElem?_range h, List.getElem?_take, if_pos h]
  have h2 := flat_at _ hl (chunksN nb) (p / 512) (p % 512) (by unfold chunksN; omega) (Nat.mod_lt _ (by decide))
  rw [Nat.div_add_mod] at h2
  unfold partsTo
  rw [h2]
  have h3 : p % 512 < (partS x N area (p / 512)).length := by rw [hl]; exact Nat.mod_lt _ (by decide)
  show some (byteOf x N area p) = _
  unfold byteOf
  rw [List.getElem?_eq_getElem h3]
  rfl
 ·rw [List.getElem?_eq_none (by simp; omega), List.getElem?_eq_none]
  rw [List.length_take]
  omega
theorem nought_at (hl : ∀ i, (partS x N area i).length = 512) {nb : Nat} (hz : ∀ i, i < chunksN nb → ((partS x N area i).drop (nb - 512 * i)).all (· == 0) = true) (p : Nat) (h1 : nb ≤ p) (h2 : p < 512 * chunksN nb) : (partsTo x N area (chunksN nb))[p]? = some 0 := by
 have hi : p / 512 < chunksN nb := by omega
 have h3 := flat_at _ hl (chunksN nb) (p / 512) (p % 512) hi (Nat.mod_lt _ (by decide))
 rw [Nat.div_add_mod] at h3
 unfold partsTo
 rw [h3]
 have h4 : p % 512 < (partS x N area (p / 512)).length := by rw [hl]; exact Nat.mod_lt _ (by decide)
 rw [List.getElem?_eq_getElem h4]
 have h5 := List.all_eq_true.1 (hz _ hi) ((partS x N area (p / 512))[p % 512]) (List.mem_iff_getElem?.2 ⟨p % 512 - (nb - 512 * (p / 512)), by
  rw [List.getElem?_drop, show nb - 512 * (p / 512) + (p % 512 - (nb - 512 * (p / 512))) = p % 512 by omega, List.getElem?_eq_getElem h4]⟩)
 exact congrArg some (by simpa using h5)
end
theorem bytes_own {W : World} {B n K : Nat} {v : Value} {e : TypeId} {l : List UInt8} (h : W.ownsRow B e 1 v n (l.map vu8)) (hK : ∀ g, v.ownBlock = some g → g < K) : BytesIn W K v l := by
 obtain ⟨h1, a, cap, h2, h3, h4⟩ := BytesIn.own h
 refine ⟨h1, a, cap, h2, h3, fun j c hc => ?_⟩
 obtain ⟨g, off, e, hg, hr⟩ := h4 j c hc
 exact ⟨g, off, e, hK g (by rw [h2, e]; rfl), hr⟩
theorem ints_none (W : World) (B : Nat) (a : Option Addr) (c : Nat) : IntsIn W B (.slice a 0 c) [] := ⟨by simp, a, c, rfl, Nat.zero_le _, fun j c hc => by simp at hc⟩
theorem objs_none (W : World) (B : Nat) (a : Option Addr) (c : Nat) : ObjsIn W B (.slice a 0 c) [] := ⟨by simp, a, c, rfl, Nat.zero_le _, fun j c hc => by simp at hc⟩

set_option maxRecDepth 100000 in
set_option maxHeartbeats 16000000 in
theorem rread0_well (x : DiskD) (lv wv fv : Value) (N area : Int) (w : World) (h : RDisk w w.heap.size lv wv fv x) (hgo : ReadGo x N area) (h0 : numAt (headS x N area) 12 2 = 0) :
  Calls Tryz.prog 19 #[.agg #[lv, wv, .int .i64 x.steps, fv], .agg #[.int .i64 N], .int .i64 area] w fun e w' => ∃ v, e = .returned (.tuple #[.agg #[lv, wv, .int .i64 (x.plus (1 + chunksN (numAt (headS x N area) 14 2))).steps, fv], v, .int .i64 0]) ∧
   FrameFrom w.heap.size w' v (frameOf x N area) ∧ Below w.heap.size w w' := by
 have HONE := Lib.hid h.one
 have hl0 : sector0.length = 512 := List.length_replicate
 have hask := hgo.ask
 obtain ⟨N, rfl⟩ : ∃ M : Nat, N = M := ⟨N.toNat, by unfold askB rightB at hask; simp at hask; omega⟩
 obtain ⟨a, rfl⟩ : ∃ a : Nat, area = a := ⟨area.toNat, by unfold askB rightB at hask; simp at hask; omega⟩
 obtain ⟨q1, q2, q3, q4⟩ := askB_facts hask
 have hN : 1 ≤ N ∧ N ≤ 64 := ⟨q1, q2⟩
 have hp2 : Place.ok N ⟨2, a, 0⟩ := ⟨q4, .inl ⟨rfl, rfl⟩⟩
 have hp3 : ∀ k, k < 8 → Place.ok N ⟨3, a, k⟩ := fun k hk => ⟨q4, .inr (.inl ⟨rfl, hk⟩)⟩
 have hx : x.ok := by have := hgo.okk 0 (by omega); rwa [plus_zero] at this
 have hR := h
 have HLP0 : ∀ i, (partS x N a i).length = 512 := fun i => x.reads_len hx.sound _
 have hhl : (headS x N a).length = 512 := x.reads_len hx.sound _
 obtain ⟨nb, enb⟩ : ∃ nb, nb = numAt (headS x N a) 14 2 := ⟨_, rfl⟩
 obtain ⟨ed, eed⟩ : ∃ ed : Int, ed = (numAt (headS x N a) 4 8 : Nat) := ⟨_, rfl⟩
 have hnb4 : nb ≤ 4096 := by
  have hh := hgo.head
  unfold headB at hh
  simp only [Bool.and_eq_true, decide_eq_true_eq] at hh
  rw [enb]
  exact hh.2.2.2.2.1
 have hck : chunksN nb ≤ 8 := by unfold chunksN; omega
 have HEADE : rheadR x N a = (x.plus 1, ⟨ed, [], [], List.replicate nb 0⟩, 0) := by
  unfold rheadR
  rw [if_pos hask, if_pos hgo.e2, headR_yes hgo.head, hgo.head]
  unfold headF
  rw [h0, ← enb, ← eed]
  rfl
 have hfr : frameOf x N a = ⟨ed, [], [], (partsTo x N a (chunksN nb)).take nb⟩ := by
  unfold frameOf
  rw [h0, ← enb, ← eed, stateOf_parts HLP0]
  rfl
 have hparts : ∀ i, i < chunksN nb → ((partS x N a i).drop (nb - 512 * i)).all (· == 0) = true := by rw [enb]; exact hgo.parts
 have hsum : (crcW ((partsTo x N a (chunksN nb)).take nb)).toNat = numAt (headS x N a) 16 4 := by
  have := hgo.sum
  rw [hfr] at this
  exact this
 have he3 : ∀ i k : Nat, i < chunksN nb → k ≤ 80 → (x.plus k).err (((Place.sec N ⟨3, a, i⟩ : Nat) : Int)) = 0 := by
  intro i k hi hk
  have e := sectorN_place N ⟨3, a, i⟩ hN (hp3 i (by omega))
  have := hgo.e3 i k (by rw [← enb]; exact hi) hk
  rw [show sectorN N 3 a i = (((Place.sec N ⟨3, a, i⟩ : Nat) : Int), 0) from e] at this
  exact this
 have HRD := Lib.hid (fun (k : Nat) (hk : k < chunksN nb) (W : World) (hh : RDisk W W.heap.size lv wv fv (x.plus (k + 1))) => (by
  have hr := rdread_any (x.plus (k + 1)) lv wv fv ((Place.sec N ⟨3, a, k⟩ : Nat) : Int) W hh (hgo.okk (k + 1) (by omega))
  have e := sectorN_place N ⟨3, a, k⟩ hN (hp3 k (by omega))
  have e1 := he3 k (k + 1) hk (by omega)
  have hrd : (x.plus (k + 1)).read ((Place.sec N ⟨3, a, k⟩ : Nat) : Int) = partS x N a k := by
   unfold DiskD.read
   rw [if_pos e1, plus_reads]
   unfold partS
   rw [show sectorN N 3 a k = (((Place.sec N ⟨3, a, k⟩ : Nat) : Int), 0) from e]
  have hst : (x.plus (k + 1)).after ((Place.sec N ⟨3, a, k⟩ : Nat) : Int) = x.plus (k + 2) := by
   unfold DiskD.err at e1
   unfold DiskD.after
   by_cases ho : ((Place.sec N ⟨3, a, k⟩ : Nat) : Int) < 0 ∨ (x.plus (k + 1)).size ≤ ((Place.sec N ⟨3, a, k⟩ : Nat) : Int)
   ·rw [if_pos ho] at e1; cases e1
   ·rw [if_neg ho, plus_stepped]
  rw [e1, hrd, hst] at hr
  unfold sectorV at hr
  exact hr : Calls Tryz.prog 63 #[.agg #[lv, wv, .int .i64 (x.plus (k + 1)).steps, fv], .int .i64 ((Place.sec N ⟨3, a, k⟩ : Nat) : Int)] W fun e w' => e = .returned (.tuple #[.agg #[lv, wv, .int .i64 (x.plus (k + 2)).steps, fv], .agg ((partS x N a k).map vu8).toArray, .int .i64 0]) ∧ Below W.heap.size W w'))
 have eplus : ∀ k W B, RDisk W B lv wv fv x → RDisk W B lv wv fv (x.plus k) := fun k W B hh => ⟨hh.lasts, hh.waits, hh.fails⟩
 obtain ⟨n, en⟩ : ∃ n : Int, n = ((Place.sec N ⟨2, a, 0⟩ : Nat) : Int) := ⟨_, rfl⟩
 have hn0 : (sectorN N 2 a 0).1 = n := by rw [en]; exact congrArg Prod.fst (sectorN_place N ⟨2, a, 0⟩ hN hp2)
 have hsec := Place.sec_lt hp2
 have hrs : ∀ W, RDisk W W.heap.size lv wv fv x → Calls Tryz.prog 61 #[.agg #[lv, wv, .int .i64 x.steps, fv], .int .i64 n] W fun e w' => e = .returned (sectorV (headS x N a)) ∧ Below W.heap.size W w' := by
  intro W hh
  have hr := rdreads_any x lv wv fv x.steps (Place.sec N ⟨2, a, 0⟩) W hh hx (by omega)
  rw [← en] at hr
  unfold headS
  rw [hn0]
  exact hr
 obtain ⟨hs, ehs⟩ : ∃ hs, hs = headS x N a := ⟨_, rfl⟩
 rw [← ehs] at hhl hrs hsum
 have hsl : hs.length = 512 := hhl
 have HRS := Lib.hid hrs
 have HNUM0 : (if getB ((hs.drop 16).take 4) then (leN ((hs.drop 16).take 4) : Int) else 0) = (numAt hs 16 4 : Int) := by
  rw [getB_small _ (.inr (by rw [List.length_take, List.length_drop]; omega))]
  rfl
 rw [← hsum] at HNUM0
 have hcr := crcW_lt ((partsTo x N a (chunksN nb)).take nb)
 have HNUM1 := Lib.hid HNUM0
 obtain ⟨W, eW⟩ : ∃ W, W = (((w.alloc (.cells #[lv, wv, .int .i64 x.steps, fv] 40)).alloc (.cells #[.int .i64 (N : Int)] 23)).alloc (.cells zeroD 40)).alloc (.cells zeroF 28) := ⟨_, rfl⟩
 have hbW : Below w.heap.size w W := by rw [eW]; exact ((((Below.refl _ w).alloc (Nat.le_refl _) _).alloc (by simp) _).alloc (by simp; omega) _).alloc (by simp; omega) _
 have k0 : Blk W w.heap.size 40 #[lv, wv, .int .i64 x.steps, fv] := by rw [eW]; exact (((Blk.new w _ _).alloc _).alloc _).alloc _
 have k1 : Blk W (w.heap.size + 1) 23 #[.int .i64 (N : Int)] := by rw [eW]; exact ((Blk.new2 w _ _ _).alloc _).alloc _
 have k3 : Blk W (w.heap.size + 2) 40 zeroD := by rw [eW]; exact (Blk.new' (by simp)).alloc _
 have k4 : Blk W (w.heap.size + 3) 28 zeroF := by rw [eW]; exact Blk.new' (by simp)
 have hhd := rhead0_any x lv wv fv N a W ((h.below hbW (Nat.le_refl _)).mono hbW.size) hx (fun _ => h0)
 rw [HEADE] at hhd
 have HH := Lib.hid hhd
 have HR := Lib.hid hR
 have HEP := Lib.hid eplus
 have HFR := Lib.hid hfr
 have HPA := Lib.hid (nought_at HLP0 hparts)
 have HLP := Lib.hid HLP0
 have HPL := Lib.hid (partsTo_len HLP0)
 have HENB := Lib.hid enb
 have HSN := Lib.hid en
 clear hhd hR h eplus hfr hparts HLP0 enb eed en hn0 hrs ehs hsum HNUM0 he3 HEADE hask hgo hx h0 hsec hhl q1 q2 q3 q4
 go_enter Tryz.func19, Tryz.ntmps19
 go_upto_region 1 with fail
 rw [← eW]
 clear eW
 have c1 := k1.cell_is 0 rfl
 go_wp2_with (first
  | (refine wpList_load_row rfl 40 _ rfl w.heap.size rfl 40 #[lv, wv, .int .i64 x.steps, fv] (0, 0) _ k0 Tryz.underlying40 rfl (size_rdisk _ _ _ _) ?_))
 refine HH.out.mono ?_; rintro e X1 ⟨v, rfl, hF, hx1⟩
 obtain ⟨vo, vb, vs, rfl, hf1, hf2, hf3⟩ := hF
 obtain ⟨_, ao, co, rfl, _, _⟩ := hf1
 obtain ⟨_, ab, cb, rfl, _, _⟩ := hf2
 obtain ⟨_, aw, cw, rfl, _, _⟩ := hf3
 rw [List.length_replicate]
 rw [show ([] : List Int).length = 0 from rfl, show ([] : List ObjD).length = 0 from rfl]
 obtain ⟨s1, es1⟩ : ∃ s, s = (x.plus 1).steps := ⟨_, rfl⟩
 rw [← es1]
 have ES1 := Lib.hid es1
 clear es1 HH
 have oneVF : (#[.int .i64 ed, .slice ao 0 co, .slice ab 0 cb, .slice aw nb cw] : Array Value).all (·.oneCell') = true := by simp [Value.oneCell']
 have sizeVF : (Tryz.prog.info? 28).map (·.size) = some (#[.int .i64 ed, .slice ao 0 co, .slice ab 0 cb, .slice aw nb cw] : Array Value).size := by
  show _ = some 4
  kernel_rfl
 have ONE1 := HONE.out s1
 have J0 := k0.below hx1 k0.lt
 have J1 := k1.below hx1 k1.lt
 have J3 := k3.below hx1 k3.lt
 have J4 := k4.below hx1 k4.lt
 have hl : w.heap.size + 3 < X1.heap.size := J4.lt
 have hB := hbW.trans (hx1.mono hbW.size)
 have y9 := (Blk.new X1 40 zeroD).alloc (.cells zeroF 28)
 have y10 := blk_row_far (Blk.new2 X1 (.cells zeroD 40) 28 zeroF) #[lv, wv, .int .i64 s1, fv] (g' := X1.heap.size) (by omega)
 have z9 := blk_row_far (y9.row #[lv, wv, .int .i64 s1, fv]) #[.int .i64 ed, .slice ao 0 co, .slice ab 0 cb, .slice aw nb cw] (g' := X1.heap.size + 1) (by omega)
 have z10 := y10.row #[.int .i64 ed, .slice ao 0 co, .slice ab 0 cb, .slice aw nb cw]
 have far : ∀ {g : Nat} {t : TypeId} {cs : Array Value}, Blk X1 g t cs → Blk ((((X1.alloc (.cells zeroD 40)).alloc (.cells zeroF 28)).setRow X1.heap.size #[lv, wv, .int .i64 s1, fv]).setRow (X1.heap.size + 1) #[.int .i64 ed, .slice ao 0 co, .slice ab 0 cb, .slice aw nb cw]) g t cs :=
  fun {g t cs} hb => blk_row_far (blk_row_far ((hb.alloc (.cells zeroD 40)).alloc (.cells zeroF 28)) #[lv, wv, .int .i64 s1, fv] (g' := X1.heap.size) (by have := hb.lt; omega)) #[.int .i64 ed, .slice ao 0 co, .slice ab 0 cb, .slice aw nb cw] (g' := X1.heap.size + 1) (by have := hb.lt; omega)
 have z0 := far J0
 have z1 := far J1
 have z3 := far J3
 have z4 := far J4
 have hB2 := below_row (below_row ((hB.alloc hB.size (.cells zeroD 40)).alloc (by rw [World.size_alloc]; have := hB.size; omega) (.cells zeroF 28)) #[lv, wv, .int .i64 s1, fv] (g := X1.heap.size) (by omega)) #[.int .i64 ed, .slice ao 0 co, .slice ab 0 cb, .slice aw nb cw] (g := X1.heap.size + 1) (by omega)
 clear J0 J1 J3 J4 k0 k1 k3 k4 hbW hx1 hB c1 far
 go_upto_region 4 with (first
  | (refine wpList_store_row rfl 40 _ _ rfl X1.heap.size #[lv, wv, .int .i64 s1, fv] rfl rfl 40 zeroD y9 (size_rdisk _ _ _ _) rfl ONE1 ?_)
  | (refine wpList_store_row rfl 28 _ _ rfl (X1.heap.size + 1) #[.int .i64 ed, .slice ao 0 co, .slice ab 0 cb, .slice aw nb cw] rfl rfl 28 zeroF y10 sizeVF rfl oneVF ?_))
 obtain ⟨Y, eY⟩ : ∃ Y, Y = (((X1.alloc (.cells zeroD 40)).alloc (.cells zeroF 28)).setRow X1.heap.size #[lv, wv, .int .i64 s1, fv]).setRow (X1.heap.size + 1) #[.int .i64 ed, .slice ao 0 co, .slice ab 0 cb, .slice aw nb cw] := ⟨_, rfl⟩
 rw [← eY] at z9 z10 z0 z1 z3 z4 hB2 ⊢
 clear eY y9 y10
 obtain ⟨g9, eg9⟩ : ∃ g, g = X1.heap.size := ⟨_, rfl⟩
 obtain ⟨gF, egF⟩ : ∃ g, g = g9 + 1 := ⟨_, rfl⟩
 rw [← eg9] at z9 z10 hl ⊢
 rw [← egF] at z10 ⊢
 have hgF : g9 < gF := by omega
 clear eg9 egF
 have K0 := Lib.hid z0
 have K1 := Lib.hid z1
 have K3 := Lib.hid z3
 have K4 := Lib.hid z4
 have K9 := Lib.hid z9
 have KF := Lib.hid z10
 have HW := Lib.hid hB2
 have hzX : Below Y.heap.size Y Y.drew := (Below.refl _ Y).drew
 have SK4 := Lib.hid (fun (W' : World) (hb' : Below Y.heap.size Y W') => (⟨by have := blk_range (z0.below hb' z0.lt); simpa using this, (z1.below hb' z1.lt).cell_is 0 rfl⟩ : W'.rangeAt w.heap.size 0 [lv, wv, .int .i64 x.steps, fv] ∧ W'.cell? ⟨w.heap.size + 1, 0, none⟩ = some (.int .i64 (N : Int))))
 clear z0 z1 z3 z4 z9 z10 hB2
 refine' wp_merge (_ : Nat → Act) (fun g12 Q => Blk Q g12 111 (hs.map vu8).toArray ∧ Below Y.heap.size Y Q ∧ Y.heap.size ≤ g12) ?_ ?_
 rotate_left 1
 ·skip
  refine wp_region_held_drew (S := (fun w' => w'.rangeAt w.heap.size 0 [lv, wv, .int .i64 x.steps, fv] ∧ w'.cell? ⟨w.heap.size + 1, 0, none⟩ = some (.int .i64 N))) (by kernel_rfl) (by first | exact SK4.out _ hzX | ((try dsimp only); exact SK4.out _ hzX)) (fun hHeld => ?_)
  refine ty 0 rfl (yieldsIf_load_mid (by rfl) 40 _ rfl w.heap.size 0 rfl [lv, wv, .int .i64 x.steps, fv] _ (fun w' h => h.1) Tryz.underlying40 rfl (size_rdisk _ _ _ _)) ?_
  refine tk 1 ?_
  refine tk 2 ?_
  refine wpAnyH_ready (rs := [3, 5]) (by kernel_rfl) (by simp) ?_
  refine (AllReadyH.cons rfl (fun K hK => ?_) (AllReadyH.cons rfl (fun K hK => ?_) AllReadyH.nil))
  ·skip
   go_simp
   refine (rat_any N ⟨2, a, 0⟩ Y.drew hN hp2).mono ?_; rintro e Z2 ⟨rfl, hq⟩
   have hz2 := hzX.trans (hq.mono hzX.size)
   rw [← HSN.out]
   go_wp2_with fail
   refine hK.out _ _ (by first | exact SK4.out _ hz2 | ((try dsimp only); exact SK4.out _ hz2)) (fun hHeld => ?_)
   clear hK K
   try simp only [Act.put, pz0, pz1, pz2, pz3, pz4, pz5]
   refine wpAnyH_ready (rs := [4, 5]) (by kernel_rfl) (by simp) ?_
   refine (AllReadyH.cons rfl (fun K hK => ?_) (AllReadyH.cons rfl (fun K hK => ?_) AllReadyH.nil))
   ·skip
    go_simp
    refine (HRS.out Z2 ((HR.out.below (HW.out.trans (hz2.mono HW.out.size)) (Nat.le_refl _)).mono (HW.out.trans (hz2.mono HW.out.size)).size)).mono ?_; rintro e Z3 ⟨rfl, hq⟩
    have hz3 := hz2.trans (hq.mono hz2.size)
    unfold sectorV
    go_wp2_with fail
    refine hK.out _ _ (by first | exact SK4.out _ hz3 | ((try dsimp only); exact SK4.out _ hz3)) (fun hHeld => ?_)
    clear hK K
    try simp only [Act.put, pz0, pz1, pz2, pz3, pz4, pz5]
    refine rd 5 fun K hK => ?_
    go_simp
    obtain ⟨Z4, eZ⟩ : ∃ Z, Z = Z3.alloc (.cells Tryz.zeroCells111 111) := ⟨_, rfl⟩
    have hz4 : Below Y.heap.size Y Z4 := by rw [eZ]; exact hz3.alloc hz3.size (.cells Tryz.zeroCells111 111)
    obtain ⟨g12, eg⟩ : ∃ g, g = (Z3).heap.size := ⟨_, rfl⟩
    have bz : Blk Z4 g12 111 Tryz.zeroCells111 := by rw [eZ, eg]; exact Blk.new (Z3) 111 Tryz.zeroCells111
    have hl : Y.heap.size ≤ g12 := by rw [eg]; exact hz3.size
    try rw [← eZ]
    clear eZ
    try rw [← eg]
    clear eg
    refine hK.out _ _ (by first | exact SK4.out _ hz4 | ((try dsimp only); exact SK4.out _ hz4)) (fun hHeld => ?_)
    clear hK K
    try simp only [Act.put, pz0, pz1, pz2, pz3, pz4, pz5]
    refine rd 6 fun K hK => ?_
    rw [zero111] at bz
    refine wp_store_row 111 _ _ rfl g12 (hs.map vu8).toArray rfl rfl 111 _ bz (sector_size _ hsl) (sector_eq _ _ hl0 hsl) (sector_all _) ?_
    replace bz := bz.row (hs.map vu8).toArray
    have hz5 := below_row hz4 (hs.map vu8).toArray (g := g12) hl
    refine hK.out _ _ (by first | exact SK4.out _ hz5 | ((try dsimp only); exact SK4.out _ hz5)) (fun hHeld => ?_)
    clear hK K
    try simp only [Act.put, pz0, pz1, pz2, pz3, pz4, pz5]
    refine wpAnyH_done (by kernel_rfl) ?_ _
    try simp only [Act.put, pz0, pz1, pz2, pz3, pz4, pz5]
    refine ⟨g12, ?_, bz, hz5, hl⟩
    with_reducible rfl
   ·skip
    go_simp
    obtain ⟨Z3, eZ⟩ : ∃ Z, Z = Z2.alloc (.cells Tryz.zeroCells111 111) := ⟨_, rfl⟩
    have hz3 : Below Y.heap.size Y Z3 := by rw [eZ]; exact hz2.alloc hz2.size (.cells Tryz.zeroCells111 111)
    obtain ⟨g12, eg⟩ : ∃ g, g = (Z2).heap.size := ⟨_, rfl⟩
    have bz : Blk Z3 g12 111 Tryz.zeroCells111 := by rw [eZ, eg]; exact Blk.new (Z2) 111 Tryz.zeroCells111
    have hl : Y.heap.size ≤ g12 := by rw [eg]; exact hz2.size
    try rw [← eZ]
    clear eZ
    try rw [← eg]
    clear eg
    refine hK.out _ _ (by first | exact SK4.out _ hz3 | ((try dsimp only); exact SK4.out _ hz3)) (fun hHeld => ?_)
    clear hK K
    try simp only [Act.put, pz0, pz1, pz2, pz3, pz4, pz5]
    refine rd 4 fun K hK => ?_
    go_simp
    refine (HRS.out Z3 ((HR.out.below (HW.out.trans (hz3.mono HW.out.size)) (Nat.le_refl _)).mono (HW.out.trans (hz3.mono HW.out.size)).size)).mono ?_; rintro e Z4 ⟨rfl, hq⟩
    have hz4 := hz3.trans (hq.mono hz3.size)
    unfold sectorV
    replace bz := bz.below hq bz.lt
    go_wp2_with fail
    refine hK.out _ _ (by first | exact SK4.out _ hz4 | ((try dsimp only); exact SK4.out _ hz4)) (fun hHeld => ?_)
    clear hK K
    try simp only [Act.put, pz0, pz1, pz2, pz3, pz4, pz5]
    refine rd 6 fun K hK => ?_
    rw [zero111] at bz
    refine wp_store_row 111 _ _ rfl g12 (hs.map vu8).toArray rfl rfl 111 _ bz (sector_size _ hsl) (sector_eq _ _ hl0 hsl) (sector_all _) ?_
    replace bz := bz.row (hs.map vu8).toArray
    have hz5 := below_row hz4 (hs.map vu8).toArray (g := g12) hl
    refine hK.out _ _ (by first | exact SK4.out _ hz5 | ((try dsimp only); exact SK4.out _ hz5)) (fun hHeld => ?_)
    clear hK K
    try simp only [Act.put, pz0, pz1, pz2, pz3, pz4, pz5]
    refine wpAnyH_done (by kernel_rfl) ?_ _
    try simp only [Act.put, pz0, pz1, pz2, pz3, pz4, pz5]
    refine ⟨g12, ?_, bz, hz5, hl⟩
    with_reducible rfl
  ·skip
   go_simp
   obtain ⟨Z2, eZ⟩ : ∃ Z, Z = (Y.alloc (.cells Tryz.zeroCells111 111)).drew := ⟨_, rfl⟩
   have hz2 : Below Y.heap.size Y Z2 := by rw [eZ]; exact hzX.alloc hzX.size (.cells Tryz.zeroCells111 111)
   obtain ⟨g12, eg⟩ : ∃ g, g = (Y.drew).heap.size := ⟨_, rfl⟩
   have bz : Blk Z2 g12 111 Tryz.zeroCells111 := by rw [eZ, eg]; exact Blk.new (Y.drew) 111 Tryz.zeroCells111
   have hl : Y.heap.size ≤ g12 := by rw [eg]; exact hzX.size
   try rw [← eZ]
   clear eZ
   have egw : Y.heap.size = g12 := by rw [eg]; rfl
   try rw [egw]
   clear egw
   clear eg
   refine hK.out _ _ (by first | exact SK4.out _ hz2 | ((try dsimp only); exact SK4.out _ hz2)) (fun hHeld => ?_)
   clear hK K
   try simp only [Act.put, pz0, pz1, pz2, pz3, pz4, pz5]
   refine rd 3 fun K hK => ?_
   go_simp
   refine (rat_any N ⟨2, a, 0⟩ Z2 hN hp2).mono ?_; rintro e Z3 ⟨rfl, hq⟩
   have hz3 := hz2.trans (hq.mono hz2.size)
   rw [← HSN.out]
   replace bz := bz.below hq bz.lt
   go_wp2_with fail
   refine hK.out _ _ (by first | exact SK4.out _ hz3 | ((try dsimp only); exact SK4.out _ hz3)) (fun hHeld => ?_)
   clear hK K
   try simp only [Act.put, pz0, pz1, pz2, pz3, pz4, pz5]
   refine rd 4 fun K hK => ?_
   go_simp
   refine (HRS.out Z3 ((HR.out.below (HW.out.trans (hz3.mono HW.out.size)) (Nat.le_refl _)).mono (HW.out.trans (hz3.mono HW.out.size)).size)).mono ?_; rintro e Z4 ⟨rfl, hq⟩
   have hz4 := hz3.trans (hq.mono hz3.size)
   unfold sectorV
   replace bz := bz.below hq bz.lt
   go_wp2_with fail
   refine hK.out _ _ (by first | exact SK4.out _ hz4 | ((try dsimp only); exact SK4.out _ hz4)) (fun hHeld => ?_)
   clear hK K
   try simp only [Act.put, pz0, pz1, pz2, pz3, pz4, pz5]
   refine rd 6 fun K hK => ?_
   rw [zero111] at bz
   refine wp_store_row 111 _ _ rfl g12 (hs.map vu8).toArray rfl rfl 111 _ bz (sector_size _ hsl) (sector_eq _ _ hl0 hsl) (sector_all _) ?_
   replace bz := bz.row (hs.map vu8).toArray
   have hz5 := below_row hz4 (hs.map vu8).toArray (g := g12) hl
   refine hK.out _ _ (by first | exact SK4.out _ hz5 | ((try dsimp only); exact SK4.out _ hz5)) (fun hHeld => ?_)
   clear hK K
   try simp only [Act.put, pz0, pz1, pz2, pz3, pz4, pz5]
   refine wpAnyH_done (by kernel_rfl) ?_ _
   try simp only [Act.put, pz0, pz1, pz2, pz3, pz4, pz5]
   refine ⟨g12, ?_, bz, hz5, hl⟩
   with_reducible rfl
 rintro g12 Q ⟨b12, hq, hl12⟩
 have m0 := K0.out.below hq K0.out.lt
 have m1 := K1.out.below hq K1.out.lt
 have m3 := K3.out.below hq K3.out.lt
 have m4 := K4.out.below hq K4.out.lt
 have m9 := K9.out.below hq K9.out.lt
 have mF := KF.out.below hq KF.out.lt
 have hBQ := HW.out.trans (hq.mono HW.out.size)
 have hlF : gF < Y.heap.size := KF.out.lt
 have u0 := m0.row #[lv, wv, .int .i64 s1, fv]
 have u1 := blk_row_far m1 #[lv, wv, .int .i64 s1, fv] (g' := w.heap.size) (by omega)
 have u3 := blk_row_far m3 #[lv, wv, .int .i64 s1, fv] (g' := w.heap.size) (by omega)
 have u4 := blk_row_far m4 #[lv, wv, .int .i64 s1, fv] (g' := w.heap.size) (by omega)
 have uF := blk_row_far mF #[lv, wv, .int .i64 s1, fv] (g' := w.heap.size) (by omega)
 have u12 := blk_row_far b12 #[lv, wv, .int .i64 s1, fv] (g' := w.heap.size) (by omega)
 have hBu := below_row hBQ #[lv, wv, .int .i64 s1, fv] (g := w.heap.size) (Nat.le_refl _)
 clear m1 m3 m4 mF K0 K1 K3 K4 K9 KF HW SK4 hzX hBQ
 go_upto_region 6 with (first
  | (refine wpList_load_row rfl 40 _ rfl g9 rfl 40 #[lv, wv, .int .i64 s1, fv] (0, 0) _ m9 Tryz.underlying40 rfl (size_rdisk _ _ _ _) ?_)
  | (refine wpList_store_row rfl 40 _ _ rfl w.heap.size #[lv, wv, .int .i64 s1, fv] rfl rfl 40 #[lv, wv, .int .i64 x.steps, fv] m0 (size_rdisk _ _ _ _) rfl ONE1 ?_))
 obtain ⟨Q5, eQ5⟩ : ∃ Z, Z = Q.setRow w.heap.size #[lv, wv, .int .i64 s1, fv] := ⟨_, rfl⟩
 rw [← eQ5] at u0 u1 u3 u4 uF u12 hBu ⊢
 clear eQ5 m0 m9 b12 hq
 rw [ES1.out] at u0
 have U0 := Lib.hid u0
 have U1 := Lib.hid u1
 have U3 := Lib.hid u3
 have U4 := Lib.hid u4
 have UF := Lib.hid uF
 have U12 := Lib.hid u12
 have UB := Lib.hid hBu
 clear u0 u1 u3 u4 uF u12 hBu ONE1 ES1
 go_wp2_with fail
 go_loopw [13] (fun i wr => i = .int .i64 0 ∧ Q5 = wr) (fun _ _ => 0)
 case atStart => exact ⟨rfl, rfl⟩
 case round =>
  obtain ⟨rfl, rfl⟩ := hrel
  have c1 := UF.out.cell_is 1 rfl
  go_wp2_with fail
  go_loopw [19, 20] (fun o i wr => ∃ (k : Nat) (v' : Value), v' = o ∧ k ≤ chunksN nb ∧ i = .int .i64 (k : Int) ∧ wr.ownsRow w.heap.size 5 1 v' (512 * k) ((partsTo x N a k).map vu8) ∧ Blk wr w.heap.size 40 #[lv, wv, .int .i64 (x.plus (k + 1)).steps, fv] ∧ Blk wr (w.heap.size + 1) 23 #[.int .i64 (N : Int)] ∧ Blk wr (w.heap.size + 2) 40 zeroD ∧ Blk wr (w.heap.size + 3) 28 zeroF ∧ Blk wr gF 28 #[.int .i64 ed, .slice ao 0 co, .slice ab 0 cb, .slice aw nb cw] ∧ Blk wr g12 111 (hs.map vu8).toArray ∧ Below w.heap.size w wr) (fun _ i _ => chunksN nb - (intOf i).toNat)
  case atStart => exact ⟨0, _, rfl, by omega, rfl, World.ownsRow_nil _ _ _ _, U0.out, U1.out, U3.out, U4.out, UF.out, U12.out, UB.out⟩
  case round =>
   obtain ⟨k, o, rfl, hk, rfl, hO, h0, h1, h3, h4, hF, h12, hBw⟩ := hrel
   have c3 := hF.cell_is 3 rfl
   have HO := Lib.hid hO
   have H3 := Lib.hid h3
   have H4 := Lib.hid h4
   have HF := Lib.hid hF
   have H12 := Lib.hid h12
   have HBr := Lib.hid hBw
   have H0 := Lib.hid h0
   have H1 := Lib.hid h1
   clear hO h3 h4 hF h12 hBw h0 h1
   by_cases hlt : k < chunksN nb
   ·have hli : (k : Int) < (chunksN nb : Int) := by omega
    have hk8 : k < 8 := by omega
    have HRK := Lib.hid (HRD.out k hlt)
    go_upto_region 21 with fail
    refine (rparts_any nb wr (by omega)).mono ?_; rintro e w9 ⟨rfl, rfl⟩
    go_upto_region 21 with fail
    have hzX : Below wr.heap.size wr wr.drew := (Below.refl _ wr).drew
    have SK2 := Lib.hid (fun (W' : World) (hb' : Below wr.heap.size wr W') => (⟨by have := blk_range (H0.out.below hb' H0.out.lt); simpa using this, (H1.out.below hb' H1.out.lt).cell_is 0 rfl⟩ : W'.rangeAt w.heap.size 0 [lv, wv, .int .i64 (x.plus (k + 1)).steps, fv] ∧ W'.cell? ⟨w.heap.size + 1, 0, none⟩ = some (.int .i64 (N : Int))))
    obtain ⟨sn, esn⟩ : ∃ sn : Int, sn = ((Place.sec N ⟨3, a, k⟩ : Nat) : Int) := ⟨_, rfl⟩
    have hpl := HLP.out k
    have hrk := HRK.out
    obtain ⟨ps, eps⟩ : ∃ ps, ps = partS x N a k := ⟨_, rfl⟩
    rw [← esn, ← eps] at hrk
    rw [← eps] at hpl
    have HRD2 := Lib.hid hrk
    have HSN3 := Lib.hid esn
    have HPS := Lib.hid eps
    clear esn eps hrk HRK
    refine' wp_merge2 (_ : Nat → Nat → Act) (fun g10 g11 Q => Blk Q g10 40 #[lv, wv, .int .i64 (x.plus (k + 2)).steps, fv] ∧ Blk Q g11 111 (ps.map vu8).toArray ∧ Below wr.heap.size wr Q ∧ wr.heap.size ≤ g10 ∧ wr.heap.size ≤ g11) ?_ ?_
    rotate_left 1
    ·skip
     refine wp_region_held_drew (S := (fun w' => w'.rangeAt w.heap.size 0 [lv, wv, .int .i64 (x.plus (k + 1)).steps, fv] ∧ w'.cell? ⟨w.heap.size + 1, 0, none⟩ = some (.int .i64 N))) (by kernel_rfl) (by first | exact SK2.out _ hzX | ((try dsimp only); exact SK2.out _ hzX)) (fun hHeld => ?_)
     refine ty 0 rfl (yieldsIf_load_mid (by rfl) 40 _ rfl w.heap.size 0 rfl [lv, wv, .int .i64 (x.plus (k + 1)).steps, fv] _ (fun w' h => h.1) Tryz.underlying40 rfl (size_rdisk _ _ _ _)) ?_
     refine tk 1 ?_
     refine tk 2 ?_
     refine tk 3 ?_
     refine wpAnyH_ready (rs := [4, 10, 11]) (by kernel_rfl) (by simp) ?_
     refine (AllReadyH.cons rfl (fun K hK => ?_) (AllReadyH.cons rfl (fun K hK => ?_) (AllReadyH.cons rfl (fun K hK => ?_) AllReadyH.nil)))
     ·skip
      go_simp
      refine (rat_any N ⟨3, a, k⟩ wr.drew hN (hp3 k hk8)).mono ?_; rintro e Z2 ⟨rfl, hq⟩
      have hzZ2 := hzX.trans (hq.mono hzX.size)
      rw [← HSN3.out]
      go_wp2_with fail
      refine hK.out _ _ (by first | exact SK2.out _ hzZ2 | ((try dsimp only); exact SK2.out _ hzZ2)) (fun hHeld => ?_)
      clear hK K
      try simp only [Act.put, pz0, pz1, pz2, pz3, pz4, pz5]
      refine wpAnyH_ready (rs := [5, 10, 11]) (by kernel_rfl) (by simp) ?_
      refine (AllReadyH.cons rfl (fun K hK => ?_) (AllReadyH.cons rfl (fun K hK => ?_) (AllReadyH.cons rfl (fun K hK => ?_) AllReadyH.nil)))
      ·skip
       go_simp
       refine (HRD2.out Z2 (HEP.out (k + 1) _ _ ((HR.out.below (HBr.out.trans (hzZ2.mono HBr.out.size)) (Nat.le_refl _)).mono (HBr.out.trans (hzZ2.mono HBr.out.size)).size))).mono ?_; rintro e Z3 ⟨rfl, hq⟩
       have hzZ3 := hzZ2.trans (hq.mono hzZ2.size)
       go_wp2_with fail
       refine hK.out _ _ (by first | exact SK2.out _ hzZ3 | ((try dsimp only); exact SK2.out _ hzZ3)) (fun hHeld => ?_)
       clear hK K
       try simp only [Act.put, pz0, pz1, pz2, pz3, pz4, pz5]
       refine tk 6 ?_
       refine tk 7 ?_
       refine tk 8 ?_
       refine tk 9 ?_
       refine wpAnyH_ready (rs := [10, 11]) (by kernel_rfl) (by simp) ?_
       refine (AllReadyH.cons rfl (fun K hK => ?_) (AllReadyH.cons rfl (fun K hK => ?_) AllReadyH.nil))
       ·skip
        go_simp
        obtain ⟨Z4, eZ4⟩ : ∃ Z, Z = Z3.alloc (.cells zeroD 40) := ⟨_, rfl⟩
        have hzZ4 : Below wr.heap.size wr Z4 := by rw [eZ4]; exact hzZ3.alloc hzZ3.size (.cells zeroD 40)
        obtain ⟨g10, eg10⟩ : ∃ g, g = (Z3).heap.size := ⟨_, rfl⟩
        have bz10 : Blk Z4 g10 40 zeroD := by rw [eZ4, eg10]; exact Blk.new (Z3) 40 zeroD
        have hl10 : wr.heap.size ≤ g10 := by rw [eg10]; exact hzZ3.size
        try rw [← eZ4]
        clear eZ4
        try rw [← eg10]
        clear eg10
        refine hK.out _ _ (by first | exact SK2.out _ hzZ4 | ((try dsimp only); exact SK2.out _ hzZ4)) (fun hHeld => ?_)
        clear hK K
        try simp only [Act.put, pz0, pz1, pz2, pz3, pz4, pz5]
        refine rd 11 fun K hK => ?_
        go_simp
        obtain ⟨Z5, eZ5⟩ : ∃ Z, Z = Z4.alloc (.cells Tryz.zeroCells111 111) := ⟨_, rfl⟩
        have hzZ5 : Below wr.heap.size wr Z5 := by rw [eZ5]; exact hzZ4.alloc hzZ4.size (.cells Tryz.zeroCells111 111)
        obtain ⟨g11, eg11⟩ : ∃ g, g = (Z4).heap.size := ⟨_, rfl⟩
        have bz11 : Blk Z5 g11 111 Tryz.zeroCells111 := by rw [eZ5, eg11]; exact Blk.new (Z4) 111 Tryz.zeroCells111
        have hl11 : wr.heap.size ≤ g11 := by rw [eg11]; exact hzZ4.size
        have bq10 : Blk Z5 g10 40 zeroD := by rw [eZ5]; exact bz10.alloc (.cells Tryz.zeroCells111 111)
        replace bz10 := bq10
        clear bq10
        try rw [← eZ5]
        clear eZ5
        try rw [← eg11]
        clear eg11
        refine hK.out _ _ (by first | exact SK2.out _ hzZ5 | ((try dsimp only); exact SK2.out _ hzZ5)) (fun hHeld => ?_)
        clear hK K
        try simp only [Act.put, pz0, pz1, pz2, pz3, pz4, pz5]
        refine rd 12 fun K hK => ?_
        refine wp_store_row 40 _ _ rfl g10 #[lv, wv, .int .i64 (x.plus (k + 2)).steps, fv] rfl rfl 40 zeroD bz10 (size_rdisk _ _ _ _) rfl (HONE.out _) ?_
        have hne : g10 ≠ g11 := by
         rintro rfl
         exact Blk.ne_ bz10 bz11 (by decide) rfl
        replace bz10 := bz10.row #[lv, wv, .int .i64 (x.plus (k + 2)).steps, fv]
        replace bz11 := blk_row_far bz11 #[lv, wv, .int .i64 (x.plus (k + 2)).steps, fv] (g' := g10) (Ne.symm hne)
        have hz1 := below_row hzZ5 #[lv, wv, .int .i64 (x.plus (k + 2)).steps, fv] (g := g10) hl10
        refine hK.out _ _ (by first | exact SK2.out _ hz1 | ((try dsimp only); exact SK2.out _ hz1)) (fun hHeld => ?_)
        clear hK K
        try simp only [Act.put, pz0, pz1, pz2, pz3, pz4, pz5]
        refine rd 13 fun K hK => ?_
        rw [zero111] at bz11
        refine wp_store_row 111 _ _ rfl g11 (ps.map vu8).toArray rfl rfl 111 _ bz11 (sector_size _ hpl) (sector_eq _ _ hl0 hpl) (sector_all _) ?_
        replace bz11 := bz11.row (ps.map vu8).toArray
        replace bz10 := blk_row_far bz10 (ps.map vu8).toArray (g' := g11) hne
        have hz2 := below_row hz1 (ps.map vu8).toArray (g := g11) hl11
        refine hK.out _ _ (by first | exact SK2.out _ hz2 | ((try dsimp only); exact SK2.out _ hz2)) (fun hHeld => ?_)
        clear hK K
        try simp only [Act.put, pz0, pz1, pz2, pz3, pz4, pz5]
        refine tk 14 ?_
        refine wpAnyH_done (by kernel_rfl) ?_ _
        try simp only [Act.put, pz0, pz1, pz2, pz3, pz4, pz5]
        refine ⟨g10, g11, ?_, bz10, bz11, hz2, hl10, hl11⟩
        with_reducible rfl
       ·skip
        go_simp
        obtain ⟨Z4, eZ4⟩ : ∃ Z, Z = Z3.alloc (.cells Tryz.zeroCells111 111) := ⟨_, rfl⟩
        have hzZ4 : Below wr.heap.size wr Z4 := by rw [eZ4]; exact hzZ3.alloc hzZ3.size (.cells Tryz.zeroCells111 111)
        obtain ⟨g11, eg11⟩ : ∃ g, g = (Z3).heap.size := ⟨_, rfl⟩
        have bz11 : Blk Z4 g11 111 Tryz.zeroCells111 := by rw [eZ4, eg11]; exact Blk.new (Z3) 111 Tryz.zeroCells111
        have hl11 : wr.heap.size ≤ g11 := by rw [eg11]; exact hzZ3.size
        try rw [← eZ4]
        clear eZ4
        try rw [← eg11]
        clear eg11
        refine hK.out _ _ (by first | exact SK2.out _ hzZ4 | ((try dsimp only); exact SK2.out _ hzZ4)) (fun hHeld => ?_)
        clear hK K
        try simp only [Act.put, pz0, pz1, pz2, pz3, pz4, pz5]
        refine rd 10 fun K hK => ?_
        go_simp
        obtain ⟨Z5, eZ5⟩ : ∃ Z, Z = Z4.alloc (.cells zeroD 40) := ⟨_, rfl⟩
        have hzZ5 : Below wr.heap.size wr Z5 := by rw [eZ5]; exact hzZ4.alloc hzZ4.size (.cells zeroD 40)
        obtain ⟨g10, eg10⟩ : ∃ g, g = (Z4).heap.size := ⟨_, rfl⟩
        have bz10 : Blk Z5 g10 40 zeroD := by rw [eZ5, eg10]; exact Blk.new (Z4) 40 zeroD
        have hl10 : wr.heap.size ≤ g10 := by rw [eg10]; exact hzZ4.size
        have bq11 : Blk Z5 g11 111 Tryz.zeroCells111 := by rw [eZ5]; exact bz11.alloc (.cells zeroD 40)
        replace bz11 := bq11
        clear bq11
        try rw [← eZ5]
        clear eZ5
        try rw [← eg10]
        clear eg10
        refine hK.out _ _ (by first | exact SK2.out _ hzZ5 | ((try dsimp only); exact SK2.out _ hzZ5)) (fun hHeld => ?_)
        clear hK K
        try simp only [Act.put, pz0, pz1, pz2, pz3, pz4, pz5]
        refine rd 12 fun K hK => ?_
        refine wp_store_row 40 _ _ rfl g10 #[lv, wv, .int .i64 (x.plus (k + 2)).steps, fv] rfl rfl 40 zeroD bz10 (size_rdisk _ _ _ _) rfl (HONE.out _) ?_
        have hne : g10 ≠ g11 := by
         rintro rfl
         exact Blk.ne_ bz10 bz11 (by decide) rfl
        replace bz10 := bz10.row #[lv, wv, .int .i64 (x.plus (k + 2)).steps, fv]
        replace bz11 := blk_row_far bz11 #[lv, wv, .int .i64 (x.plus (k + 2)).steps, fv] (g' := g10) (Ne.symm hne)
        have hz1 := below_row hzZ5 #[lv, wv, .int .i64 (x.plus (k + 2)).steps, fv] (g := g10) hl10
        refine hK.out _ _ (by first | exact SK2.out _ hz1 | ((try dsimp only); exact SK2.out _ hz1)) (fun hHeld => ?_)
        clear hK K
        try simp only [Act.put, pz0, pz1, pz2, pz3, pz4, pz5]
        refine rd 13 fun K hK => ?_
        rw [zero111] at bz11
        refine wp_store_row 111 _ _ rfl g11 (ps.map vu8).toArray rfl rfl 111 _ bz11 (sector_size _ hpl) (sector_eq _ _ hl0 hpl) (sector_all _) ?_
        replace bz11 := bz11.row (ps.map vu8).toArray
        replace bz10 := blk_row_far bz10 (ps.map vu8).toArray (g' := g11) hne
        have hz2 := below_row hz1 (ps.map vu8).toArray (g := g11) hl11
        refine hK.out _ _ (by first | exact SK2.out _ hz2 | ((try dsimp only); exact SK2.out _ hz2)) (fun hHeld => ?_)
        clear hK K
        try simp only [Act.put, pz0, pz1, pz2, pz3, pz4, pz5]
        refine tk 14 ?_
        refine wpAnyH_done (by kernel_rfl) ?_ _
        try simp only [Act.put, pz0, pz1, pz2, pz3, pz4, pz5]
        refine ⟨g10, g11, ?_, bz10, bz11, hz2, hl10, hl11⟩
        with_reducible rfl
      ·skip
       go_simp
       obtain ⟨Z3, eZ3⟩ : ∃ Z, Z = Z2.alloc (.cells zeroD 40) := ⟨_, rfl⟩
       have hzZ3 : Below wr.heap.size wr Z3 := by rw [eZ3]; exact hzZ2.alloc hzZ2.size (.cells zeroD 40)
       obtain ⟨g10, eg10⟩ : ∃ g, g = (Z2).heap.size := ⟨_, rfl⟩
       have bz10 : Blk Z3 g10 40 zeroD := by rw [eZ3, eg10]; exact Blk.new (Z2) 40 zeroD
       have hl10 : wr.heap.size ≤ g10 := by rw [eg10]; exact hzZ2.size
       try rw [← eZ3]
       clear eZ3
       try rw [← eg10]
       clear eg10
       refine hK.out _ _ (by first | exact SK2.out _ hzZ3 | ((try dsimp only); exact SK2.out _ hzZ3)) (fun hHeld => ?_)
       clear hK K
       try simp only [Act.put, pz0, pz1, pz2, pz3, pz4, pz5]
       refine wpAnyH_ready (rs := [5, 11]) (by kernel_rfl) (by simp) ?_
       refine (AllReadyH.cons rfl (fun K hK => ?_) (AllReadyH.cons rfl (fun K hK => ?_) AllReadyH.nil))
       ·skip
        go_simp
        refine (HRD2.out Z3 (HEP.out (k + 1) _ _ ((HR.out.below (HBr.out.trans (hzZ3.mono HBr.out.size)) (Nat.le_refl _)).mono (HBr.out.trans (hzZ3.mono HBr.out.size)).size))).mono ?_; rintro e Z4 ⟨rfl, hq⟩
        have hzZ4 := hzZ3.trans (hq.mono hzZ3.size)
        replace bz10 := bz10.below hq bz10.lt
        go_wp2_with fail
        refine hK.out _ _ (by first | exact SK2.out _ hzZ4 | ((try dsimp only); exact SK2.out _ hzZ4)) (fun hHeld => ?_)
        clear hK K
        try simp only [Act.put, pz0, pz1, pz2, pz3, pz4, pz5]
        refine tk 6 ?_
        refine tk 7 ?_
        refine tk 8 ?_
        refine tk 9 ?_
        refine rd 11 fun K hK => ?_
        go_simp
        obtain ⟨Z5, eZ5⟩ : ∃ Z, Z = Z4.alloc (.cells Tryz.zeroCells111 111) := ⟨_, rfl⟩
        have hzZ5 : Below wr.heap.size wr Z5 := by rw [eZ5]; exact hzZ4.alloc hzZ4.size (.cells Tryz.zeroCells111 111)
        obtain ⟨g11, eg11⟩ : ∃ g, g = (Z4).heap.size := ⟨_, rfl⟩
        have bz11 : Blk Z5 g11 111 Tryz.zeroCells111 := by rw [eZ5, eg11]; exact Blk.new (Z4) 111 Tryz.zeroCells111
        have hl11 : wr.heap.size ≤ g11 := by rw [eg11]; exact hzZ4.size
        have bq10 : Blk Z5 g10 40 zeroD := by rw [eZ5]; exact bz10.alloc (.cells Tryz.zeroCells111 111)
        replace bz10 := bq10
        clear bq10
        try rw [← eZ5]
        clear eZ5
        try rw [← eg11]
        clear eg11
        refine hK.out _ _ (by first | exact SK2.out _ hzZ5 | ((try dsimp only); exact SK2.out _ hzZ5)) (fun hHeld => ?_)
        clear hK K
        try simp only [Act.put, pz0, pz1, pz2, pz3, pz4, pz5]
        refine rd 12 fun K hK => ?_
        refine wp_store_row 40 _ _ rfl g10 #[lv, wv, .int .i64 (x.plus (k + 2)).steps, fv] rfl rfl 40 zeroD bz10 (size_rdisk _ _ _ _) rfl (HONE.out _) ?_
        have hne : g10 ≠ g11 := by
         rintro rfl
         exact Blk.ne_ bz10 bz11 (by decide) rfl
        replace bz10 := bz10.row #[lv, wv, .int .i64 (x.plus (k + 2)).steps, fv]
        replace bz11 := blk_row_far bz11 #[lv, wv, .int .i64 (x.plus (k + 2)).steps, fv] (g' := g10) (Ne.symm hne)
        have hz1 := below_row hzZ5 #[lv, wv, .int .i64 (x.plus (k + 2)).steps, fv] (g := g10) hl10
        refine hK.out _ _ (by first | exact SK2.out _ hz1 | ((try dsimp only); exact SK2.out _ hz1)) (fun hHeld => ?_)
        clear hK K
        try simp only [Act.put, pz0, pz1, pz2, pz3, pz4, pz5]
        refine rd 13 fun K hK => ?_
        rw [zero111] at bz11
        refine wp_store_row 111 _ _ rfl g11 (ps.map vu8).toArray rfl rfl 111 _ bz11 (sector_size _ hpl) (sector_eq _ _ hl0 hpl) (sector_all _) ?_
        replace bz11 := bz11.row (ps.map vu8).toArray
        replace bz10 := blk_row_far bz10 (ps.map vu8).toArray (g' := g11) hne
        have hz2 := below_row hz1 (ps.map vu8).toArray (g := g11) hl11
        refine hK.out _ _ (by first | exact SK2.out _ hz2 | ((try dsimp only); exact SK2.out _ hz2)) (fun hHeld => ?_)
        clear hK K
        try simp only [Act.put, pz0, pz1, pz2, pz3, pz4, pz5]
        refine tk 14 ?_
        refine wpAnyH_done (by kernel_rfl) ?_ _
        try simp only [Act.put, pz0, pz1, pz2, pz3, pz4, pz5]
        refine ⟨g10, g11, ?_, bz10, bz11, hz2, hl10, hl11⟩
        with_reducible rfl
       ·skip
        go_simp
        obtain ⟨Z4, eZ4⟩ : ∃ Z, Z = Z3.alloc (.cells Tryz.zeroCells111 111) := ⟨_, rfl⟩
        have hzZ4 : Below wr.heap.size wr Z4 := by rw [eZ4]; exact hzZ3.alloc hzZ3.size (.cells Tryz.zeroCells111 111)
        obtain ⟨g11, eg11⟩ : ∃ g, g = (Z3).heap.size := ⟨_, rfl⟩
        have bz11 : Blk Z4 g11 111 Tryz.zeroCells111 := by rw [eZ4, eg11]; exact Blk.new (Z3) 111 Tryz.zeroCells111
        have hl11 : wr.heap.size ≤ g11 := by rw [eg11]; exact hzZ3.size
        have bq10 : Blk Z4 g10 40 zeroD := by rw [eZ4]; exact bz10.alloc (.cells Tryz.zeroCells111 111)
        replace bz10 := bq10
        clear bq10
        try rw [← eZ4]
        clear eZ4
        try rw [← eg11]
        clear eg11
        refine hK.out _ _ (by first | exact SK2.out _ hzZ4 | ((try dsimp only); exact SK2.out _ hzZ4)) (fun hHeld => ?_)
        clear hK K
        try simp only [Act.put, pz0, pz1, pz2, pz3, pz4, pz5]
        refine rd 5 fun K hK => ?_
        go_simp
        refine (HRD2.out Z4 (HEP.out (k + 1) _ _ ((HR.out.below (HBr.out.trans (hzZ4.mono HBr.out.size)) (Nat.le_refl _)).mono (HBr.out.trans (hzZ4.mono HBr.out.size)).size))).mono ?_; rintro e Z5 ⟨rfl, hq⟩
        have hzZ5 := hzZ4.trans (hq.mono hzZ4.size)
        replace bz10 := bz10.below hq bz10.lt
        replace bz11 := bz11.below hq bz11.lt
        go_wp2_with fail
        refine hK.out _ _ (by first | exact SK2.out _ hzZ5 | ((try dsimp only); exact SK2.out _ hzZ5)) (fun hHeld => ?_)
        clear hK K
        try simp only [Act.put, pz0, pz1, pz2, pz3, pz4, pz5]
        refine tk 6 ?_
        refine tk 7 ?_
        refine tk 8 ?_
        refine tk 9 ?_
        refine rd 12 fun K hK => ?_
        refine wp_store_row 40 _ _ rfl g10 #[lv, wv, .int .i64 (x.plus (k + 2)).steps, fv] rfl rfl 40 zeroD bz10 (size_rdisk _ _ _ _) rfl (HONE.out _) ?_
        have hne : g10 ≠ g11 := by
         rintro rfl
         exact Blk.ne_ bz10 bz11 (by decide) rfl
        replace bz10 := bz10.row #[lv, wv, .int .i64 (x.plus (k + 2)).steps, fv]
        replace bz11 := blk_row_far bz11 #[lv, wv, .int .i64 (x.plus (k + 2)).steps, fv] (g' := g10) (Ne.symm hne)
        have hz1 := below_row hzZ5 #[lv, wv, .int .i64 (x.plus (k + 2)).steps, fv] (g := g10) hl10
        refine hK.out _ _ (by first | exact SK2.out _ hz1 | ((try dsimp only); exact SK2.out _ hz1)) (fun hHeld => ?_)
        clear hK K
        try simp only [Act.put, pz0, pz1, pz2, pz3, pz4, pz5]
        refine rd 13 fun K hK => ?_
        rw [zero111] at bz11
        refine wp_store_row 111 _ _ rfl g11 (ps.map vu8).toArray rfl rfl 111 _ bz11 (sector_size _ hpl) (sector_eq _ _ hl0 hpl) (sector_all _) ?_
        replace bz11 := bz11.row (ps.map vu8).toArray
        replace bz10 := blk_row_far bz10 (ps.map vu8).toArray (g' := g11) hne
        have hz2 := below_row hz1 (ps.map vu8).toArray (g := g11) hl11
        refine hK.out _ _ (by first | exact SK2.out _ hz2 | ((try dsimp only); exact SK2.out _ hz2)) (fun hHeld => ?_)
        clear hK K
        try simp only [Act.put, pz0, pz1, pz2, pz3, pz4, pz5]
        refine tk 14 ?_
        refine wpAnyH_done (by kernel_rfl) ?_ _
        try simp only [Act.put, pz0, pz1, pz2, pz3, pz4, pz5]
        refine ⟨g10, g11, ?_, bz10, bz11, hz2, hl10, hl11⟩
        with_reducible rfl
      ·skip
       go_simp
       obtain ⟨Z3, eZ3⟩ : ∃ Z, Z = Z2.alloc (.cells Tryz.zeroCells111 111) := ⟨_, rfl⟩
       have hzZ3 : Below wr.heap.size wr Z3 := by rw [eZ3]; exact hzZ2.alloc hzZ2.size (.cells Tryz.zeroCells111 111)
       obtain ⟨g11, eg11⟩ : ∃ g, g = (Z2).heap.size := ⟨_, rfl⟩
       have bz11 : Blk Z3 g11 111 Tryz.zeroCells111 := by rw [eZ3, eg11]; exact Blk.new (Z2) 111 Tryz.zeroCells111
       have hl11 : wr.heap.size ≤ g11 := by rw [eg11]; exact hzZ2.size
       try rw [← eZ3]
       clear eZ3
       try rw [← eg11]
       clear eg11
       refine hK.out _ _ (by first | exact SK2.out _ hzZ3 | ((try dsimp only); exact SK2.out _ hzZ3)) (fun hHeld => ?_)
       clear hK K
       try simp only [Act.put, pz0, pz1, pz2, pz3, pz4, pz5]
       refine wpAnyH_ready (rs := [5, 10]) (by kernel_rfl) (by simp) ?_
       refine (AllReadyH.cons rfl (fun K hK => ?_) (AllReadyH.cons rfl (fun K hK => ?_) AllReadyH.nil))
       ·skip
        go_simp
        refine (HRD2.out Z3 (HEP.out (k + 1) _ _ ((HR.out.below (HBr.out.trans (hzZ3.mono HBr.out.size)) (Nat.le_refl _)).mono (HBr.out.trans (hzZ3.mono HBr.out.size)).size))).mono ?_; rintro e Z4 ⟨rfl, hq⟩
        have hzZ4 := hzZ3.trans (hq.mono hzZ3.size)
        replace bz11 := bz11.below hq bz11.lt
        go_wp2_with fail
        refine hK.out _ _ (by first | exact SK2.out _ hzZ4 | ((try dsimp only); exact SK2.out _ hzZ4)) (fun hHeld => ?_)
        clear hK K
        try simp only [Act.put, pz0, pz1, pz2, pz3, pz4, pz5]
        refine tk 6 ?_
        refine tk 7 ?_
        refine tk 8 ?_
        refine tk 9 ?_
        refine rd 10 fun K hK => ?_
        go_simp
        obtain ⟨Z5, eZ5⟩ : ∃ Z, Z = Z4.alloc (.cells zeroD 40) := ⟨_, rfl⟩
        have hzZ5 : Below wr.heap.size wr Z5 := by rw [eZ5]; exact hzZ4.alloc hzZ4.size (.cells zeroD 40)
        obtain ⟨g10, eg10⟩ : ∃ g, g = (Z4).heap.size := ⟨_, rfl⟩
        have bz10 : Blk Z5 g10 40 zeroD := by rw [eZ5, eg10]; exact Blk.new (Z4) 40 zeroD
        have hl10 : wr.heap.size ≤ g10 := by rw [eg10]; exact hzZ4.size
        have bq11 : Blk Z5 g11 111 Tryz.zeroCells111 := by rw [eZ5]; exact bz11.alloc (.cells zeroD 40)
        replace bz11 := bq11
        clear bq11
        try rw [← eZ5]
        clear eZ5
        try rw [← eg10]
        clear eg10
        refine hK.out _ _ (by first | exact SK2.out _ hzZ5 | ((try dsimp only); exact SK2.out _ hzZ5)) (fun hHeld => ?_)
        clear hK K
        try simp only [Act.put, pz0, pz1, pz2, pz3, pz4, pz5]
        refine rd 12 fun K hK => ?_
        refine wp_store_row 40 _ _ rfl g10 #[lv, wv, .int .i64 (x.plus (k + 2)).steps, fv] rfl rfl 40 zeroD bz10 (size_rdisk _ _ _ _) rfl (HONE.out _) ?_
        have hne : g10 ≠ g11 := by
         rintro rfl
         exact Blk.ne_ bz10 bz11 (by decide) rfl
        replace bz10 := bz10.row #[lv, wv, .int .i64 (x.plus (k + 2)).steps, fv]
        replace bz11 := blk_row_far bz11 #[lv, wv, .int .i64 (x.plus (k + 2)).steps, fv] (g' := g10) (Ne.symm hne)
        have hz1 := below_row hzZ5 #[lv, wv, .int .i64 (x.plus (k + 2)).steps, fv] (g := g10) hl10
        refine hK.out _ _ (by first | exact SK2.out _ hz1 | ((try dsimp only); exact SK2.out _ hz1)) (fun hHeld => ?_)
        clear hK K
        try simp only [Act.put, pz0, pz1, pz2, pz3, pz4, pz5]
        refine rd 13 fun K hK => ?_
        rw [zero111] at bz11
        refine wp_store_row 111 _ _ rfl g11 (ps.map vu8).toArray rfl rfl 111 _ bz11 (sector_size _ hpl) (sector_eq _ _ hl0 hpl) (sector_all _) ?_
        replace bz11 := bz11.row (ps.map vu8).toArray
        replace bz10 := blk_row_far bz10 (ps.map vu8).toArray (g' := g11) hne
        have hz2 := below_row hz1 (ps.map vu8).toArray (g := g11) hl11
        refine hK.out _ _ (by first | exact SK2.out _ hz2 | ((try dsimp only); exact SK2.out _ hz2)) (fun hHeld => ?_)
        clear hK K
        try simp only [Act.put, pz0, pz1, pz2, pz3, pz4, pz5]
        refine tk 14 ?_
        refine wpAnyH_done (by kernel_rfl) ?_ _
        try simp only [Act.put, pz0, pz1, pz2, pz3, pz4, pz5]
        refine ⟨g10, g11, ?_, bz10, bz11, hz2, hl10, hl11⟩
        with_reducible rfl
       ·skip
        go_simp
        obtain ⟨Z4, eZ4⟩ : ∃ Z, Z = Z3.alloc (.cells zeroD 40) := ⟨_, rfl⟩
        have hzZ4 : Below wr.heap.size wr Z4 := by rw [eZ4]; exact hzZ3.alloc hzZ3.size (.cells zeroD 40)
        obtain ⟨g10, eg10⟩ : ∃ g, g = (Z3).heap.size := ⟨_, rfl⟩
        have bz10 : Blk Z4 g10 40 zeroD := by rw [eZ4, eg10]; exact Blk.new (Z3) 40 zeroD
        have hl10 : wr.heap.size ≤ g10 := by rw [eg10]; exact hzZ3.size
        have bq11 : Blk Z4 g11 111 Tryz.zeroCells111 := by rw [eZ4]; exact bz11.alloc (.cells zeroD 40)
        replace bz11 := bq11
        clear bq11
        try rw [← eZ4]
        clear eZ4
        try rw [← eg10]
        clear eg10
        refine hK.out _ _ (by first | exact SK2.out _ hzZ4 | ((try dsimp only); exact SK2.out _ hzZ4)) (fun hHeld => ?_)
        clear hK K
        try simp only [Act.put, pz0, pz1, pz2, pz3, pz4, pz5]
        refine rd 5 fun K hK => ?_
        go_simp
        refine (HRD2.out Z4 (HEP.out (k + 1) _ _ ((HR.out.below (HBr.out.trans (hzZ4.mono HBr.out.size)) (Nat.le_refl _)).mono (HBr.out.trans (hzZ4.mono HBr.out.size)).size))).mono ?_; rintro e Z5 ⟨rfl, hq⟩
        have hzZ5 := hzZ4.trans (hq.mono hzZ4.size)
        replace bz10 := bz10.below hq bz10.lt
        replace bz11 := bz11.below hq bz11.lt
        go_wp2_with fail
        refine hK.out _ _ (by first | exact SK2.out _ hzZ5 | ((try dsimp only); exact SK2.out _ hzZ5)) (fun hHeld => ?_)
        clear hK K
        try simp only [Act.put, pz0, pz1, pz2, pz3, pz4, pz5]
        refine tk 6 ?_
        refine tk 7 ?_
        refine tk 8 ?_
        refine tk 9 ?_
        refine rd 12 fun K hK => ?_
        refine wp_store_row 40 _ _ rfl g10 #[lv, wv, .int .i64 (x.plus (k + 2)).steps, fv] rfl rfl 40 zeroD bz10 (size_rdisk _ _ _ _) rfl (HONE.out _) ?_
        have hne : g10 ≠ g11 := by
         rintro rfl
         exact Blk.ne_ bz10 bz11 (by decide) rfl
        replace bz10 := bz10.row #[lv, wv, .int .i64 (x.plus (k + 2)).steps, fv]
        replace bz11 := blk_row_far bz11 #[lv, wv, .int .i64 (x.plus (k + 2)).steps, fv] (g' := g10) (Ne.symm hne)
        have hz1 := below_row hzZ5 #[lv, wv, .int .i64 (x.plus (k + 2)).steps, fv] (g := g10) hl10
        refine hK.out _ _ (by first | exact SK2.out _ hz1 | ((try dsimp only); exact SK2.out _ hz1)) (fun hHeld => ?_)
        clear hK K
        try simp only [Act.put, pz0, pz1, pz2, pz3, pz4, pz5]
        refine rd 13 fun K hK => ?_
        rw [zero111] at bz11
        refine wp_store_row 111 _ _ rfl g11 (ps.map vu8).toArray rfl rfl 111 _ bz11 (sector_size _ hpl) (sector_eq _ _ hl0 hpl) (sector_all _) ?_
        replace bz11 := bz11.row (ps.map vu8).toArray
        replace bz10 := blk_row_far bz10 (ps.map vu8).toArray (g' := g11) hne
        have hz2 := below_row hz1 (ps.map vu8).toArray (g := g11) hl11
        refine hK.out _ _ (by first | exact SK2.out _ hz2 | ((try dsimp only); exact SK2.out _ hz2)) (fun hHeld => ?_)
        clear hK K
        try simp only [Act.put, pz0, pz1, pz2, pz3, pz4, pz5]
        refine tk 14 ?_
        refine wpAnyH_done (by kernel_rfl) ?_ _
        try simp only [Act.put, pz0, pz1, pz2, pz3, pz4, pz5]
        refine ⟨g10, g11, ?_, bz10, bz11, hz2, hl10, hl11⟩
        with_reducible rfl
     ·skip
      go_simp
      obtain ⟨Z2, eZ2⟩ : ∃ Z, Z = (wr.alloc (.cells zeroD 40)).drew := ⟨_, rfl⟩
      have hzZ2 : Below wr.heap.size wr Z2 := by rw [eZ2]; exact hzX.alloc hzX.size (.cells zeroD 40)
      obtain ⟨g10, eg10⟩ : ∃ g, g = (wr.drew).heap.size := ⟨_, rfl⟩
      have bz10 : Blk Z2 g10 40 zeroD := by rw [eZ2, eg10]; exact Blk.new (wr.drew) 40 zeroD
      have hl10 : wr.heap.size ≤ g10 := by rw [eg10]; exact hzX.size
      try rw [← eZ2]
      clear eZ2
      have egw : wr.heap.size = g10 := by rw [eg10]; rfl
      try rw [egw]
      clear egw
      clear eg10
      refine hK.out _ _ (by first | exact SK2.out _ hzZ2 | ((try dsimp only); exact SK2.out _ hzZ2)) (fun hHeld => ?_)
      clear hK K
      try simp only [Act.put, pz0, pz1, pz2, pz3, pz4, pz5]
      refine wpAnyH_ready (rs := [4, 11]) (by kernel_rfl) (by simp) ?_
      refine (AllReadyH.cons rfl (fun K hK => ?_) (AllReadyH.cons rfl (fun K hK => ?_) AllReadyH.nil))
      ·skip
       go_simp
       refine (rat_any N ⟨3, a, k⟩ Z2 hN (hp3 k hk8)).mono ?_; rintro e Z3 ⟨rfl, hq⟩
       have hzZ3 := hzZ2.trans (hq.mono hzZ2.size)
       replace bz10 := bz10.below hq bz10.lt
       rw [← HSN3.out]
       go_wp2_with fail
       refine hK.out _ _ (by first | exact SK2.out _ hzZ3 | ((try dsimp only); exact SK2.out _ hzZ3)) (fun hHeld => ?_)
       clear hK K
       try simp only [Act.put, pz0, pz1, pz2, pz3, pz4, pz5]
       refine wpAnyH_ready (rs := [5, 11]) (by kernel_rfl) (by simp) ?_
       refine (AllReadyH.cons rfl (fun K hK => ?_) (AllReadyH.cons rfl (fun K hK => ?_) AllReadyH.nil))
       ·skip
        go_simp
        refine (HRD2.out Z3 (HEP.out (k + 1) _ _ ((HR.out.below (HBr.out.trans (hzZ3.mono HBr.out.size)) (Nat.le_refl _)).mono (HBr.out.trans (hzZ3.mono HBr.out.size)).size))).mono ?_; rintro e Z4 ⟨rfl, hq⟩
        have hzZ4 := hzZ3.trans (hq.mono hzZ3.size)
        replace bz10 := bz10.below hq bz10.lt
        go_wp2_with fail
        refine hK.out _ _ (by first | exact SK2.out _ hzZ4 | ((try dsimp only); exact SK2.out _ hzZ4)) (fun hHeld => ?_)
        clear hK K
        try simp only [Act.put, pz0, pz1, pz2, pz3, pz4, pz5]
        refine tk 6 ?_
        refine tk 7 ?_
        refine tk 8 ?_
        refine tk 9 ?_
        refine rd 11 fun K hK => ?_
        go_simp
        obtain ⟨Z5, eZ5⟩ : ∃ Z, Z = Z4.alloc (.cells Tryz.zeroCells111 111) := ⟨_, rfl⟩
        have hzZ5 : Below wr.heap.size wr Z5 := by rw [eZ5]; exact hzZ4.alloc hzZ4.size (.cells Tryz.zeroCells111 111)
        obtain ⟨g11, eg11⟩ : ∃ g, g = (Z4).heap.size := ⟨_, rfl⟩
        have bz11 : Blk Z5 g11 111 Tryz.zeroCells111 := by rw [eZ5, eg11]; exact Blk.new (Z4) 111 Tryz.zeroCells111
        have hl11 : wr.heap.size ≤ g11 := by rw [eg11]; exact hzZ4.size
        have bq10 : Blk Z5 g10 40 zeroD := by rw [eZ5]; exact bz10.alloc (.cells Tryz.zeroCells111 111)
        replace bz10 := bq10
        clear bq10
        try rw [← eZ5]
        clear eZ5
        try rw [← eg11]
        clear eg11
        refine hK.out _ _ (by first | exact SK2.out _ hzZ5 | ((try dsimp only); exact SK2.out _ hzZ5)) (fun hHeld => ?_)
        clear hK K
        try simp only [Act.put, pz0, pz1, pz2, pz3, pz4, pz5]
        refine rd 12 fun K hK => ?_
        refine wp_store_row 40 _ _ rfl g10 #[lv, wv, .int .i64 (x.plus (k + 2)).steps, fv] rfl rfl 40 zeroD bz10 (size_rdisk _ _ _ _) rfl (HONE.out _) ?_
        have hne : g10 ≠ g11 := by
         rintro rfl
         exact Blk.ne_ bz10 bz11 (by decide) rfl
        replace bz10 := bz10.row #[lv, wv, .int .i64 (x.plus (k + 2)).steps, fv]
        replace bz11 := blk_row_far bz11 #[lv, wv, .int .i64 (x.plus (k + 2)).steps, fv] (g' := g10) (Ne.symm hne)
        have hz1 := below_row hzZ5 #[lv, wv, .int .i64 (x.plus (k + 2)).steps, fv] (g := g10) hl10
        refine hK.out _ _ (by first | exact SK2.out _ hz1 | ((try dsimp only); exact SK2.out _ hz1)) (fun hHeld => ?_)
        clear hK K
        try simp only [Act.put, pz0, pz1, pz2, pz3, pz4, pz5]
        refine rd 13 fun K hK => ?_
        rw [zero111] at bz11
        refine wp_store_row 111 _ _ rfl g11 (ps.map vu8).toArray rfl rfl 111 _ bz11 (sector_size _ hpl) (sector_eq _ _ hl0 hpl) (sector_all _) ?_
        replace bz11 := bz11.row (ps.map vu8).toArray
        replace bz10 := blk_row_far bz10 (ps.map vu8).toArray (g' := g11) hne
        have hz2 := below_row hz1 (ps.map vu8).toArray (g := g11) hl11
        refine hK.out _ _ (by first | exact SK2.out _ hz2 | ((try dsimp only); exact SK2.out _ hz2)) (fun hHeld => ?_)
        clear hK K
        try simp only [Act.put, pz0, pz1, pz2, pz3, pz4, pz5]
        refine tk 14 ?_
        refine wpAnyH_done (by kernel_rfl) ?_ _
        try simp only [Act.put, pz0, pz1, pz2, pz3, pz4, pz5]
        refine ⟨g10, g11, ?_, bz10, bz11, hz2, hl10, hl11⟩
        with_reducible rfl
       ·skip
        go_simp
        obtain ⟨Z4, eZ4⟩ : ∃ Z, Z = Z3.alloc (.cells Tryz.zeroCells111 111) := ⟨_, rfl⟩
        have hzZ4 : Below wr.heap.size wr Z4 := by rw [eZ4]; exact hzZ3.alloc hzZ3.size (.cells Tryz.zeroCells111 111)
        obtain ⟨g11, eg11⟩ : ∃ g, g = (Z3).heap.size := ⟨_, rfl⟩
        have bz11 : Blk Z4 g11 111 Tryz.zeroCells111 := by rw [eZ4, eg11]; exact Blk.new (Z3) 111 Tryz.zeroCells111
        have hl11 : wr.heap.size ≤ g11 := by rw [eg11]; exact hzZ3.size
        have bq10 : Blk Z4 g10 40 zeroD := by rw [eZ4]; exact bz10.alloc (.cells Tryz.zeroCells111 111)
        replace bz10 := bq10
        clear bq10
        try rw [← eZ4]
        clear eZ4
        try rw [← eg11]
        clear eg11
        refine hK.out _ _ (by first | exact SK2.out _ hzZ4 | ((try dsimp only); exact SK2.out _ hzZ4)) (fun hHeld => ?_)
        clear hK K
        try simp only [Act.put, pz0, pz1, pz2, pz3, pz4, pz5]
        refine rd 5 fun K hK => ?_
        go_simp
        refine (HRD2.out Z4 (HEP.out (k + 1) _ _ ((HR.out.below (HBr.out.trans (hzZ4.mono HBr.out.size)) (Nat.le_refl _)).mono (HBr.out.trans (hzZ4.mono HBr.out.size)).size))).mono ?_; rintro e Z5 ⟨rfl, hq⟩
        have hzZ5 := hzZ4.trans (hq.mono hzZ4.size)
        replace bz10 := bz10.below hq bz10.lt
        replace bz11 := bz11.below hq bz11.lt
        go_wp2_with fail
        refine hK.out _ _ (by first | exact SK2.out _ hzZ5 | ((try dsimp only); exact SK2.out _ hzZ5)) (fun hHeld => ?_)
        clear hK K
        try simp only [Act.put, pz0, pz1, pz2, pz3, pz4, pz5]
        refine tk 6 ?_
        refine tk 7 ?_
        refine tk 8 ?_
        refine tk 9 ?_
        refine rd 12 fun K hK => ?_
        refine wp_store_row 40 _ _ rfl g10 #[lv, wv, .int .i64 (x.plus (k + 2)).steps, fv] rfl rfl 40 zeroD bz10 (size_rdisk _ _ _ _) rfl (HONE.out _) ?_
        have hne : g10 ≠ g11 := by
         rintro rfl
         exact Blk.ne_ bz10 bz11 (by decide) rfl
        replace bz10 := bz10.row #[lv, wv, .int .i64 (x.plus (k + 2)).steps, fv]
        replace bz11 := blk_row_far bz11 #[lv, wv, .int .i64 (x.plus (k + 2)).steps, fv] (g' := g10) (Ne.symm hne)
        have hz1 := below_row hzZ5 #[lv, wv, .int .i64 (x.plus (k + 2)).steps, fv] (g := g10) hl10
        refine hK.out _ _ (by first | exact SK2.out _ hz1 | ((try dsimp only); exact SK2.out _ hz1)) (fun hHeld => ?_)
        clear hK K
        try simp only [Act.put, pz0, pz1, pz2, pz3, pz4, pz5]
        refine rd 13 fun K hK => ?_
        rw [zero111] at bz11
        refine wp_store_row 111 _ _ rfl g11 (ps.map vu8).toArray rfl rfl 111 _ bz11 (sector_size _ hpl) (sector_eq _ _ hl0 hpl) (sector_all _) ?_
        replace bz11 := bz11.row (ps.map vu8).toArray
        replace bz10 := blk_row_far bz10 (ps.map vu8).toArray (g' := g11) hne
        have hz2 := below_row hz1 (ps.map vu8).toArray (g := g11) hl11
        refine hK.out _ _ (by first | exact SK2.out _ hz2 | ((try dsimp only); exact SK2.out _ hz2)) (fun hHeld => ?_)
        clear hK K
        try simp only [Act.put, pz0, pz1, pz2, pz3, pz4, pz5]
        refine tk 14 ?_
        refine wpAnyH_done (by kernel_rfl) ?_ _
        try simp only [Act.put, pz0, pz1, pz2, pz3, pz4, pz5]
        refine ⟨g10, g11, ?_, bz10, bz11, hz2, hl10, hl11⟩
        with_reducible rfl
      ·skip
       go_simp
       obtain ⟨Z3, eZ3⟩ : ∃ Z, Z = Z2.alloc (.cells Tryz.zeroCells111 111) := ⟨_, rfl⟩
       have hzZ3 : Below wr.heap.size wr Z3 := by rw [eZ3]; exact hzZ2.alloc hzZ2.size (.cells Tryz.zeroCells111 111)
       obtain ⟨g11, eg11⟩ : ∃ g, g = (Z2).heap.size := ⟨_, rfl⟩
       have bz11 : Blk Z3 g11 111 Tryz.zeroCells111 := by rw [eZ3, eg11]; exact Blk.new (Z2) 111 Tryz.zeroCells111
       have hl11 : wr.heap.size ≤ g11 := by rw [eg11]; exact hzZ2.size
       have bq10 : Blk Z3 g10 40 zeroD := by rw [eZ3]; exact bz10.alloc (.cells Tryz.zeroCells111 111)
       replace bz10 := bq10
       clear bq10
       try rw [← eZ3]
       clear eZ3
       try rw [← eg11]
       clear eg11
       refine hK.out _ _ (by first | exact SK2.out _ hzZ3 | ((try dsimp only); exact SK2.out _ hzZ3)) (fun hHeld => ?_)
       clear hK K
       try simp only [Act.put, pz0, pz1, pz2, pz3, pz4, pz5]
       refine rd 4 fun K hK => ?_
       go_simp
       refine (rat_any N ⟨3, a, k⟩ Z3 hN (hp3 k hk8)).mono ?_; rintro e Z4 ⟨rfl, hq⟩
       have hzZ4 := hzZ3.trans (hq.mono hzZ3.size)
       replace bz10 := bz10.below hq bz10.lt
       replace bz11 := bz11.below hq bz11.lt
       rw [← HSN3.out]
       go_wp2_with fail
       refine hK.out _ _ (by first | exact SK2.out _ hzZ4 | ((try dsimp only); exact SK2.out _ hzZ4)) (fun hHeld => ?_)
       clear hK K
       try simp only [Act.put, pz0, pz1, pz2, pz3, pz4, pz5]
       refine rd 5 fun K hK => ?_
       go_simp
       refine (HRD2.out Z4 (HEP.out (k + 1) _ _ ((HR.out.below (HBr.out.trans (hzZ4.mono HBr.out.size)) (Nat.le_refl _)).mono (HBr.out.trans (hzZ4.mono HBr.out.size)).size))).mono ?_; rintro e Z5 ⟨rfl, hq⟩
       have hzZ5 := hzZ4.trans (hq.mono hzZ4.size)
       replace bz10 := bz10.below hq bz10.lt
       replace bz11 := bz11.below hq bz11.lt
       go_wp2_with fail
       refine hK.out _ _ (by first | exact SK2.out _ hzZ5 | ((try dsimp only); exact SK2.out _ hzZ5)) (fun hHeld => ?_)
       clear hK K
       try simp only [Act.put, pz0, pz1, pz2, pz3, pz4, pz5]
       refine tk 6 ?_
       refine tk 7 ?_
       refine tk 8 ?_
       refine tk 9 ?_
       refine rd 12 fun K hK => ?_
       refine wp_store_row 40 _ _ rfl g10 #[lv, wv, .int .i64 (x.plus (k + 2)).steps, fv] rfl rfl 40 zeroD bz10 (size_rdisk _ _ _ _) rfl (HONE.out _) ?_
       have hne : g10 ≠ g11 := by
        rintro rfl
        exact Blk.ne_ bz10 bz11 (by decide) rfl
       replace bz10 := bz10.row #[lv, wv, .int .i64 (x.plus (k + 2)).steps, fv]
       replace bz11 := blk_row_far bz11 #[lv, wv, .int .i64 (x.plus (k + 2)).steps, fv] (g' := g10) (Ne.symm hne)
       have hz1 := below_row hzZ5 #[lv, wv, .int .i64 (x.plus (k + 2)).steps, fv] (g := g10) hl10
       refine hK.out _ _ (by first | exact SK2.out _ hz1 | ((try dsimp only); exact SK2.out _ hz1)) (fun hHeld => ?_)
       clear hK K
       try simp only [Act.put, pz0, pz1, pz2, pz3, pz4, pz5]
       refine rd 13 fun K hK => ?_
       rw [zero111] at bz11
       refine wp_store_row 111 _ _ rfl g11 (ps.map vu8).toArray rfl rfl 111 _ bz11 (sector_size _ hpl) (sector_eq _ _ hl0 hpl) (sector_all _) ?_
       replace bz11 := bz11.row (ps.map vu8).toArray
       replace bz10 := blk_row_far bz10 (ps.map vu8).toArray (g' := g11) hne
       have hz2 := below_row hz1 (ps.map vu8).toArray (g := g11) hl11
       refine hK.out _ _ (by first | exact SK2.out _ hz2 | ((try dsimp only); exact SK2.out _ hz2)) (fun hHeld => ?_)
       clear hK K
       try simp only [Act.put, pz0, pz1, pz2, pz3, pz4, pz5]
       refine tk 14 ?_
       refine wpAnyH_done (by kernel_rfl) ?_ _
       try simp only [Act.put, pz0, pz1, pz2, pz3, pz4, pz5]
       refine ⟨g10, g11, ?_, bz10, bz11, hz2, hl10, hl11⟩
       with_reducible rfl
     ·skip
      go_simp
      obtain ⟨Z2, eZ2⟩ : ∃ Z, Z = (wr.alloc (.cells Tryz.zeroCells111 111)).drew := ⟨_, rfl⟩
      have hzZ2 : Below wr.heap.size wr Z2 := by rw [eZ2]; exact hzX.alloc hzX.size (.cells Tryz.zeroCells111 111)
      obtain ⟨g11, eg11⟩ : ∃ g, g = (wr.drew).heap.size := ⟨_, rfl⟩
      have bz11 : Blk Z2 g11 111 Tryz.zeroCells111 := by rw [eZ2, eg11]; exact Blk.new (wr.drew) 111 Tryz.zeroCells111
      have hl11 : wr.heap.size ≤ g11 := by rw [eg11]; exact hzX.size
      try rw [← eZ2]
      clear eZ2
      have egw : wr.heap.size = g11 := by rw [eg11]; rfl
      try rw [egw]
      clear egw
      clear eg11
      refine hK.out _ _ (by first | exact SK2.out _ hzZ2 | ((try dsimp only); exact SK2.out _ hzZ2)) (fun hHeld => ?_)
      clear hK K
      try simp only [Act.put, pz0, pz1, pz2, pz3, pz4, pz5]
      refine wpAnyH_ready (rs := [4, 10]) (by kernel_rfl) (by simp) ?_
      refine (AllReadyH.cons rfl (fun K hK => ?_) (AllReadyH.cons rfl (fun K hK => ?_) AllReadyH.nil))
      ·skip
       go_simp
       refine (rat_any N ⟨3, a, k⟩ Z2 hN (hp3 k hk8)).mono ?_; rintro e Z3 ⟨rfl, hq⟩
       have hzZ3 := hzZ2.trans (hq.mono hzZ2.size)
       replace bz11 := bz11.below hq bz11.lt
       rw [← HSN3.out]
       go_wp2_with fail
       refine hK.out _ _ (by first | exact SK2.out _ hzZ3 | ((try dsimp only); exact SK2.out _ hzZ3)) (fun hHeld => ?_)
       clear hK K
       try simp only [Act.put, pz0, pz1, pz2, pz3, pz4, pz5]
       refine wpAnyH_ready (rs := [5, 10]) (by kernel_rfl) (by simp) ?_
       refine (AllReadyH.cons rfl (fun K hK => ?_) (AllReadyH.cons rfl (fun K hK => ?_) AllReadyH.nil))
       ·skip
        go_simp
        refine (HRD2.out Z3 (HEP.out (k + 1) _ _ ((HR.out.below (HBr.out.trans (hzZ3.mono HBr.out.size)) (Nat.le_refl _)).mono (HBr.out.trans (hzZ3.mono HBr.out.size)).size))).mono ?_; rintro e Z4 ⟨rfl, hq⟩
        have hzZ4 := hzZ3.trans (hq.mono hzZ3.size)
        replace bz11 := bz11.below hq bz11.lt
        go_wp2_with fail
        refine hK.out _ _ (by first | exact SK2.out _ hzZ4 | ((try dsimp only); exact SK2.out _ hzZ4)) (fun hHeld => ?_)
        clear hK K
        try simp only [Act.put, pz0, pz1, pz2, pz3, pz4, pz5]
        refine tk 6 ?_
        refine tk 7 ?_
        refine tk 8 ?_
        refine tk 9 ?_
        refine rd 10 fun K hK => ?_
        go_simp
        obtain ⟨Z5, eZ5⟩ : ∃ Z, Z = Z4.alloc (.cells zeroD 40) := ⟨_, rfl⟩
        have hzZ5 : Below wr.heap.size wr Z5 := by rw [eZ5]; exact hzZ4.alloc hzZ4.size (.cells zeroD 40)
        obtain ⟨g10, eg10⟩ : ∃ g, g = (Z4).heap.size := ⟨_, rfl⟩
        have bz10 : Blk Z5 g10 40 zeroD := by rw [eZ5, eg10]; exact Blk.new (Z4) 40 zeroD
        have hl10 : wr.heap.size ≤ g10 := by rw [eg10]; exact hzZ4.size
        have bq11 : Blk Z5 g11 111 Tryz.zeroCells111 := by rw [eZ5]; exact bz11.alloc (.cells zeroD 40)
        replace bz11 := bq11
        clear bq11
        try rw [← eZ5]
        clear eZ5
        try rw [← eg10]
        clear eg10
        refine hK.out _ _ (by first | exact SK2.out _ hzZ5 | ((try dsimp only); exact SK2.out _ hzZ5)) (fun hHeld => ?_)
        clear hK K
        try simp only [Act.put, pz0, pz1, pz2, pz3, pz4, pz5]
        refine rd 12 fun K hK => ?_
        refine wp_store_row 40 _ _ rfl g10 #[lv, wv, .int .i64 (x.plus (k + 2)).steps, fv] rfl rfl 40 zeroD bz10 (size_rdisk _ _ _ _) rfl (HONE.out _) ?_
        have hne : g10 ≠ g11 := by
         rintro rfl
         exact Blk.ne_ bz10 bz11 (by decide) rfl
        replace bz10 := bz10.row #[lv, wv, .int .i64 (x.plus (k + 2)).steps, fv]
        replace bz11 := blk_row_far bz11 #[lv, wv, .int .i64 (x.plus (k + 2)).steps, fv] (g' := g10) (Ne.symm hne)
        have hz1 := below_row hzZ5 #[lv, wv, .int .i64 (x.plus (k + 2)).steps, fv] (g := g10) hl10
        refine hK.out _ _ (by first | exact SK2.out _ hz1 | ((try dsimp only); exact SK2.out _ hz1)) (fun hHeld => ?_)
        clear hK K
        try simp only [Act.put, pz0, pz1, pz2, pz3, pz4, pz5]
        refine rd 13 fun K hK => ?_
        rw [zero111] at bz11
        refine wp_store_row 111 _ _ rfl g11 (ps.map vu8).toArray rfl rfl 111 _ bz11 (sector_size _ hpl) (sector_eq _ _ hl0 hpl) (sector_all _) ?_
        replace bz11 := bz11.row (ps.map vu8).toArray
        replace bz10 := blk_row_far bz10 (ps.map vu8).toArray (g' := g11) hne
        have hz2 := below_row hz1 (ps.map vu8).toArray (g := g11) hl11
        refine hK.out _ _ (by first | exact SK2.out _ hz2 | ((try dsimp only); exact SK2.out _ hz2)) (fun hHeld => ?_)
        clear hK K
        try simp only [Act.put, pz0, pz1, pz2, pz3, pz4, pz5]
        refine tk 14 ?_
        refine wpAnyH_done (by kernel_rfl) ?_ _
        try simp only [Act.put, pz0, pz1, pz2, pz3, pz4, pz5]
        refine ⟨g10, g11, ?_, bz10, bz11, hz2, hl10, hl11⟩
        with_reducible rfl
       ·skip
        go_simp
        obtain ⟨Z4, eZ4⟩ : ∃ Z, Z = Z3.alloc (.cells zeroD 40) := ⟨_, rfl⟩
        have hzZ4 : Below wr.heap.size wr Z4 := by rw [eZ4]; exact hzZ3.alloc hzZ3.size (.cells zeroD 40)
        obtain ⟨g10, eg10⟩ : ∃ g, g = (Z3).heap.size := ⟨_, rfl⟩
        have bz10 : Blk Z4 g10 40 zeroD := by rw [eZ4, eg10]; exact Blk.new (Z3) 40 zeroD
        have hl10 : wr.heap.size ≤ g10 := by rw [eg10]; exact hzZ3.size
        have bq11 : Blk Z4 g11 111 Tryz.zeroCells111 := by rw [eZ4]; exact bz11.alloc (.cells zeroD 40)
        replace bz11 := bq11
        clear bq11
        try rw [← eZ4]
        clear eZ4
        try rw [← eg10]
        clear eg10
        refine hK.out _ _ (by first | exact SK2.out _ hzZ4 | ((try dsimp only); exact SK2.out _ hzZ4)) (fun hHeld => ?_)
        clear hK K
        try simp only [Act.put, pz0, pz1, pz2, pz3, pz4, pz5]
        refine rd 5 fun K hK => ?_
        go_simp
        refine (HRD2.out Z4 (HEP.out (k + 1) _ _ ((HR.out.below (HBr.out.trans (hzZ4.mono HBr.out.size)) (Nat.le_refl _)).mono (HBr.out.trans (hzZ4.mono HBr.out.size)).size))).mono ?_; rintro e Z5 ⟨rfl, hq⟩
        have hzZ5 := hzZ4.trans (hq.mono hzZ4.size)
        replace bz10 := bz10.below hq bz10.lt
        replace bz11 := bz11.below hq bz11.lt
        go_wp2_with fail
        refine hK.out _ _ (by first | exact SK2.out _ hzZ5 | ((try dsimp only); exact SK2.out _ hzZ5)) (fun hHeld => ?_)
        clear hK K
        try simp only [Act.put, pz0, pz1, pz2, pz3, pz4, pz5]
        refine tk 6 ?_
        refine tk 7 ?_
        refine tk 8 ?_
        refine tk 9 ?_
        refine rd 12 fun K hK => ?_
        refine wp_store_row 40 _ _ rfl g10 #[lv, wv, .int .i64 (x.plus (k + 2)).steps, fv] rfl rfl 40 zeroD bz10 (size_rdisk _ _ _ _) rfl (HONE.out _) ?_
        have hne : g10 ≠ g11 := by
         rintro rfl
         exact Blk.ne_ bz10 bz11 (by decide) rfl
        replace bz10 := bz10.row #[lv, wv, .int .i64 (x.plus (k + 2)).steps, fv]
        replace bz11 := blk_row_far bz11 #[lv, wv, .int .i64 (x.plus (k + 2)).steps, fv] (g' := g10) (Ne.symm hne)
        have hz1 := below_row hzZ5 #[lv, wv, .int .i64 (x.plus (k + 2)).steps, fv] (g := g10) hl10
        refine hK.out _ _ (by first | exact SK2.out _ hz1 | ((try dsimp only); exact SK2.out _ hz1)) (fun hHeld => ?_)
        clear hK K
        try simp only [Act.put, pz0, pz1, pz2, pz3, pz4, pz5]
        refine rd 13 fun K hK => ?_
        rw [zero111] at bz11
        refine wp_store_row 111 _ _ rfl g11 (ps.map vu8).toArray rfl rfl 111 _ bz11 (sector_size _ hpl) (sector_eq _ _ hl0 hpl) (sector_all _) ?_
        replace bz11 := bz11.row (ps.map vu8).toArray
        replace bz10 := blk_row_far bz10 (ps.map vu8).toArray (g' := g11) hne
        have hz2 := below_row hz1 (ps.map vu8).toArray (g := g11) hl11
        refine hK.out _ _ (by first | exact SK2.out _ hz2 | ((try dsimp only); exact SK2.out _ hz2)) (fun hHeld => ?_)
        clear hK K
        try simp only [Act.put, pz0, pz1, pz2, pz3, pz4, pz5]
        refine tk 14 ?_
        refine wpAnyH_done (by kernel_rfl) ?_ _
        try simp only [Act.put, pz0, pz1, pz2, pz3, pz4, pz5]
        refine ⟨g10, g11, ?_, bz10, bz11, hz2, hl10, hl11⟩
        with_reducible rfl
      ·skip
       go_simp
       obtain ⟨Z3, eZ3⟩ : ∃ Z, Z = Z2.alloc (.cells zeroD 40) := ⟨_, rfl⟩
       have hzZ3 : Below wr.heap.size wr Z3 := by rw [eZ3]; exact hzZ2.alloc hzZ2.size (.cells zeroD 40)
       obtain ⟨g10, eg10⟩ : ∃ g, g = (Z2).heap.size := ⟨_, rfl⟩
       have bz10 : Blk Z3 g10 40 zeroD := by rw [eZ3, eg10]; exact Blk.new (Z2) 40 zeroD
       have hl10 : wr.heap.size ≤ g10 := by rw [eg10]; exact hzZ2.size
       have bq11 : Blk Z3 g11 111 Tryz.zeroCells111 := by rw [eZ3]; exact bz11.alloc (.cells zeroD 40)
       replace bz11 := bq11
       clear bq11
       try rw [← eZ3]
       clear eZ3
       try rw [← eg10]
       clear eg10
       refine hK.out _ _ (by first | exact SK2.out _ hzZ3 | ((try dsimp only); exact SK2.out _ hzZ3)) (fun hHeld => ?_)
       clear hK K
       try simp only [Act.put, pz0, pz1, pz2, pz3, pz4, pz5]
       refine rd 4 fun K hK => ?_
       go_simp
       refine (rat_any N ⟨3, a, k⟩ Z3 hN (hp3 k hk8)).mono ?_; rintro e Z4 ⟨rfl, hq⟩
       have hzZ4 := hzZ3.trans (hq.mono hzZ3.size)
       replace bz10 := bz10.below hq bz10.lt
       replace bz11 := bz11.below hq bz11.lt
       rw [← HSN3.out]
       go_wp2_with fail
       refine hK.out _ _ (by first | exact SK2.out _ hzZ4 | ((try dsimp only); exact SK2.out _ hzZ4)) (fun hHeld => ?_)
       clear hK K
       try simp only [Act.put, pz0, pz1, pz2, pz3, pz4, pz5]
       refine rd 5 fun K hK => ?_
       go_simp
       refine (HRD2.out Z4 (HEP.out (k + 1) _ _ ((HR.out.below (HBr.out.trans (hzZ4.mono HBr.out.size)) (Nat.le_refl _)).mono (HBr.out.trans (hzZ4.mono HBr.out.size)).size))).mono ?_; rintro e Z5 ⟨rfl, hq⟩
       have hzZ5 := hzZ4.trans (hq.mono hzZ4.size)
       replace bz10 := bz10.below hq bz10.lt
       replace bz11 := bz11.below hq bz11.lt
       go_wp2_with fail
       refine hK.out _ _ (by first | exact SK2.out _ hzZ5 | ((try dsimp only); exact SK2.out _ hzZ5)) (fun hHeld => ?_)
       clear hK K
       try simp only [Act.put, pz0, pz1, pz2, pz3, pz4, pz5]
       refine tk 6 ?_
       refine tk 7 ?_
       refine tk 8 ?_
       refine tk 9 ?_
       refine rd 12 fun K hK => ?_
       refine wp_store_row 40 _ _ rfl g10 #[lv, wv, .int .i64 (x.plus (k + 2)).steps, fv] rfl rfl 40 zeroD bz10 (size_rdisk _ _ _ _) rfl (HONE.out _) ?_
       have hne : g10 ≠ g11 := by
        rintro rfl
        exact Blk.ne_ bz10 bz11 (by decide) rfl
       replace bz10 := bz10.row #[lv, wv, .int .i64 (x.plus (k + 2)).steps, fv]
       replace bz11 := blk_row_far bz11 #[lv, wv, .int .i64 (x.plus (k + 2)).steps, fv] (g' := g10) (Ne.symm hne)
       have hz1 := below_row hzZ5 #[lv, wv, .int .i64 (x.plus (k + 2)).steps, fv] (g := g10) hl10
       refine hK.out _ _ (by first | exact SK2.out _ hz1 | ((try dsimp only); exact SK2.out _ hz1)) (fun hHeld => ?_)
       clear hK K
       try simp only [Act.put, pz0, pz1, pz2, pz3, pz4, pz5]
       refine rd 13 fun K hK => ?_
       rw [zero111] at bz11
       refine wp_store_row 111 _ _ rfl g11 (ps.map vu8).toArray rfl rfl 111 _ bz11 (sector_size _ hpl) (sector_eq _ _ hl0 hpl) (sector_all _) ?_
       replace bz11 := bz11.row (ps.map vu8).toArray
       replace bz10 := blk_row_far bz10 (ps.map vu8).toArray (g' := g11) hne
       have hz2 := below_row hz1 (ps.map vu8).toArray (g := g11) hl11
       refine hK.out _ _ (by first | exact SK2.out _ hz2 | ((try dsimp only); exact SK2.out _ hz2)) (fun hHeld => ?_)
       clear hK K
       try simp only [Act.put, pz0, pz1, pz2, pz3, pz4, pz5]
       refine tk 14 ?_
       refine wpAnyH_done (by kernel_rfl) ?_ _
       try simp only [Act.put, pz0, pz1, pz2, pz3, pz4, pz5]
       refine ⟨g10, g11, ?_, bz10, bz11, hz2, hl10, hl11⟩
       with_reducible rfl
    rintro g10 g11 Q2 ⟨b10, b11, hq, hl10, hl11⟩
    have m0 := H0.out.below hq H0.out.lt
    have m1 := H1.out.below hq H1.out.lt
    have m3 := H3.out.below hq H3.out.lt
    have m4 := H4.out.below hq H4.out.lt
    have mF := HF.out.below hq HF.out.lt
    have m12 := H12.out.below hq H12.out.lt
    have hl4 : w.heap.size + 3 < wr.heap.size := H4.out.lt
    have mO := ownsRow_out (F := fun _ => False) (outB hq) HO.out (fun _ _ => id)
    have mB := HBr.out.trans (hq.mono HBr.out.size)
    have ONE2 := HONE.out (x.plus (k + 2)).steps
    have dO : ∀ i, o.ownBlock = some i → i ≠ w.heap.size := fun i hi => ne_own HO.out H0.out (by decide) i hi
    have n0 := m0.row #[lv, wv, .int .i64 (x.plus (k + 2)).steps, fv]
    have n1 := blk_row_far m1 #[lv, wv, .int .i64 (x.plus (k + 2)).steps, fv] (g' := w.heap.size) (by omega)
    have n3 := blk_row_far m3 #[lv, wv, .int .i64 (x.plus (k + 2)).steps, fv] (g' := w.heap.size) (by omega)
    have n4 := blk_row_far m4 #[lv, wv, .int .i64 (x.plus (k + 2)).steps, fv] (g' := w.heap.size) (by omega)
    have nF := blk_row_far mF #[lv, wv, .int .i64 (x.plus (k + 2)).steps, fv] (g' := w.heap.size) (by omega)
    have n12 := blk_row_far m12 #[lv, wv, .int .i64 (x.plus (k + 2)).steps, fv] (g' := w.heap.size) (by omega)
    have n11 := blk_row_far b11 #[lv, wv, .int .i64 (x.plus (k + 2)).steps, fv] (g' := w.heap.size) (by omega)
    have nO := ownsRow_out (F := fun i => i = w.heap.size) (out_row (w := Q2) #[lv, wv, .int .i64 (x.plus (k + 2)).steps, fv] rfl) mO dO
    have nB := below_row mB #[lv, wv, .int .i64 (x.plus (k + 2)).steps, fv] (g := w.heap.size) (Nat.le_refl _)
    clear m1 m3 m4 mF m12 mO mB HO H0 H1 H3 H4 HF H12 HBr SK2 HRD2 hzX hq
    go_upto_region 23 with (first
     | (refine wpList_load_row rfl 40 _ rfl g10 rfl 40 #[lv, wv, .int .i64 (x.plus (k + 2)).steps, fv] (0, 0) _ b10 Tryz.underlying40 rfl (size_rdisk _ _ _ _) ?_)
     | (refine wpList_store_row rfl 40 _ _ rfl w.heap.size #[lv, wv, .int .i64 (x.plus (k + 2)).steps, fv] rfl rfl 40 #[lv, wv, .int .i64 (x.plus (k + 1)).steps, fv] m0 (size_rdisk _ _ _ _) rfl ONE2 ?_))
    obtain ⟨Q3, eQ3⟩ : ∃ Z, Z = Q2.setRow w.heap.size #[lv, wv, .int .i64 (x.plus (k + 2)).steps, fv] := ⟨_, rfl⟩
    rw [← eQ3] at n0 n1 n3 n4 nF n12 n11 nO nB ⊢
    clear eQ3 m0 b10 b11
    have hV := blk_bytes n11 512 (by omega) (by rw [hpl]; decide)
    have hpt : ps.take 512 = ps := List.take_of_length_le (by omega)
    rw [hpt, hpl] at hV
    have HV := Lib.hid hV
    have N0 := Lib.hid n0
    have N1 := Lib.hid n1
    have N3 := Lib.hid n3
    have N4 := Lib.hid n4
    have NF := Lib.hid nF
    have N12 := Lib.hid n12
    have NO := Lib.hid nO
    have NB := Lib.hid nB
    have hsz := nB.size
    clear hV n0 n1 n3 n4 nF n12 n11 nO nB hpt
    go_wp2_with (at_builtin; refine wpList_append_bytes _ rfl (.tmp 122) (.tmp 123) rfl w.heap.size Q3.heap.size (512 * k) _ _ rfl NO.out (some ⟨g11, 0, none⟩) 512 512 ps rfl hpl HV.out (by omega) (by omega) ?_; intro u4 w4 hO4 hg4)
    have keep : ∀ {g : Nat} {t : TypeId} {cs : Array Value}, t ≠ 5 → Blk Q3 g t cs → Blk w4 g t cs := fun {g t cs} ht hb => (hg4.block g hb.lt (fun e => ne_own NO.out hb (Ne.symm ht) _ e.symm rfl)).trans hb
    go_roundw
    case rel =>
     refine ⟨k + 1, _, rfl, by omega, by go_num, ?_, keep (by decide) N0.out, keep (by decide) N1.out, keep (by decide) N3.out, keep (by decide) N4.out, keep (by decide) NF.out, keep (by decide) N12.out, NB.out.grown hg4 (by omega) (fun r hr => (NO.out.lt r hr).1)⟩
     rw [partsTo_succ, ← HPS.out, List.map_append, show 512 * (k + 1) = 512 * k + 512 by omega]
     exact hO4
    case measure => simp [intOf]; omega
   ·have hnl : ¬ (k : Int) < (chunksN nb : Int) := by omega
    have hke : k = chunksN nb := by omega
    obtain ⟨av, cap, rfl⟩ := slice_form HO.out
    have hU0 := BytesIn.own HO.out
    have HPK := HPL.out k
    have hcap := (hU0.len_le).2
    rw [← hke] at hcr HNUM1
    have HPA2 := HPA.out
    rw [← hke] at HPA2
    have HU := Lib.hid hU0
    have HPZ := Lib.hid HPA2
    have HKE := Lib.hid hke
    have hnbk : nb ≤ 512 * k := by rw [hke]; unfold chunksN; omega
    have hkb : 512 * k ≤ 4608 := by omega
    clear hU0 HPA2 hke hlt HPA
    go_wp2_with fail
    refine (rparts_any nb wr (by omega)).mono ?_; rintro e w9 ⟨rfl, rfl⟩
    go_wp2_with fail
    go_loopw [24] (fun i wr2 => ∃ j : Nat, nb ≤ j ∧ j ≤ 512 * k ∧ i = .int .i64 (j : Int) ∧ wr = wr2) (fun i _ => 512 * k - (intOf i).toNat)
    case atStart => exact ⟨nb, Nat.le_refl _, hnbk, rfl, rfl⟩
    case round =>
     obtain ⟨j, hj1, hj2, rfl, rfl⟩ := hrel
     by_cases hjl : j < 512 * k
     ·have hji : (j : Int) < ((512 * k : Nat) : Int) := by omega
      obtain ⟨g2, off, ea, hg2, hcell⟩ := HU.out.at_ (HPZ.out j hj1 hjl)
      subst ea
      go_wp2_with fail
      go_roundw
      case rel => exact ⟨j + 1, by omega, by omega, by go_num, by first | rfl | trivial⟩
      case measure => simp [intOf]; omega
     ·have hji : ¬ (j : Int) < ((512 * k : Nat) : Int) := by omega
      have hcn : nb ≤ cap := by omega
      have cF := HF.out.cell_is 3 rfl
      have zF := HF.out.frozen 3
      have hl4 : w.heap.size + 3 < gF := by omega
      have d12 : g12 ≠ gF := Blk.ne_ H12.out HF.out (by decide)
      have hset : ∀ {g : Nat} {t : TypeId} {cs : Array Value}, g ≠ gF → Blk wr g t cs → Blk (wr.setCell ⟨gF, 3, none⟩ (.slice av nb cap)) g t cs := fun {g t cs} hne hb => (Below.heap_setCell wr _ _ _ hne).trans hb
      have n0 := hset (by omega) H0.out
      have n3 := hset (by omega) H3.out
      have n4 := hset (by omega) H4.out
      have n12 := hset d12 H12.out
      have nF : Blk (wr.setCell ⟨gF, 3, none⟩ (.slice av nb cap)) gF 28 #[.int .i64 ed, .slice ao 0 co, .slice ab 0 cb, .slice av nb cap] := by simpa using HF.out.set_ 3 (.slice av nb cap)
      have nO := ownsRow_out (F := fun i => i = gF) (out_set (w := wr) (g := gF) (i := 3) (v := .slice av nb cap) rfl) HO.out (ne_own HO.out HF.out (by decide))
      have nB : Below w.heap.size w (wr.setCell ⟨gF, 3, none⟩ (.slice av nb cap)) := (Out.trans (F := fun i => w.heap.size ≤ i) (outB' HBr.out (fun _ h => h)) (out_set (F := fun i => i = gF) (w := wr) (g := gF) (i := 3) (v := .slice av nb cap) rfl) (fun i _ h => by omega)).below (Nat.le_refl _) (fun i hi h => by omega)
      have hUt := BytesIn.own nO
      rw [← HPK] at hUt
      have hUn := hUt.upto nb (by omega) (by omega)
      go_upto_region 32 with fail
      obtain ⟨Y3, eY3⟩ : ∃ Z, Z = wr.setCell ⟨gF, 3, none⟩ (.slice av nb cap) := ⟨_, rfl⟩
      rw [← eY3] at n0 n3 n4 n12 nF nO nB hUn ⊢
      obtain ⟨st, est⟩ : ∃ st, st = (partsTo x N a k).take nb := ⟨_, rfl⟩
      rw [← est] at hUn hcr HNUM1
      obtain ⟨C, eC⟩ : ∃ C, C = (crcW st).toNat := ⟨_, rfl⟩
      rw [← eC] at hcr HNUM1
      have HNUM := HNUM1
      have hwc0 : IntKind.i64.wrap (C : Int) = (C : Int) := by rw [IntKind.wrap_i64]; omega
      have EC := Lib.hid eC
      have HCR := Lib.hid (fun W (hh : BytesIn W W.heap.size (.slice av nb cap) st) => rcrc_any (.slice av nb cap) st W hh)
      have HB3 := Lib.hid hUn
      have SK3 := Lib.hid (⟨nF.cell_is 3 rfl, n12⟩ : Y3.cell? ⟨gF, 3, none⟩ = some (.slice av nb cap) ∧ Blk Y3 g12 111 (hs.map vu8).toArray)
      obtain ⟨sC, esC⟩ : ∃ s, s = (x.plus (k + 1)).steps := ⟨_, rfl⟩
      rw [← esC] at n0
      have ESC := Lib.hid esC
      have EST := Lib.hid est
      have M0 := Lib.hid n0
      have M3 := Lib.hid n3
      have M4 := Lib.hid n4
      have MF := Lib.hid nF
      have MO := Lib.hid nO
      have MB := Lib.hid nB
      clear eY3 n0 n3 n4 n12 nF nO nB hUt hUn eC est esC hset cF zF H0 H1 H3 H4 H12 HF HO HBr HU HPZ HNUM1 hj1 hj2 hji hjl c3
      refine wp_region_held_drew (S := (fun w' => w'.cell? ⟨gF, 3, none⟩ = some (.slice av nb cap) ∧ Blk w' g12 111 (hs.map vu8).toArray)) (by kernel_rfl) (by first | exact SK3.out | ((try dsimp only); exact SK3.out)) (fun hHeld => ?_)
      refine tk 0 ?_
      refine tk 4 ?_
      refine tk 1 ?_
      refine rd 2 fun K hK => ?_
      go_simp
      refine (HCR.out Y3.drew HB3.out).mono ?_; rintro e c3 ⟨rfl, hwc⟩
      subst hwc
      unfold vu32
      rw [← EC.out]
      go_wp2_with fail
      refine hK.out _ _ (by first | exact SK3.out | ((try dsimp only); exact SK3.out)) (fun hHeld => ?_)
      clear hK K
      try simp only [Act.put, pz0, pz1, pz2, pz3, pz4, pz5]
      refine tk 3 ?_
      refine rd 5 fun K hK => ?_
      go_simp
      refine (rnum7_any (.slice (some ⟨g12, 16, none⟩) 4 496) ((hs.drop 16).take 4) Y3.drew (cut_blk hsl SK3.out.2 16 4 (by omega))).mono ?_; rintro e c4 ⟨rfl, hwc⟩
      subst hwc
      rw [HNUM.out]
      go_wp2_with fail
      refine hK.out _ _ (by first | exact SK3.out | ((try dsimp only); exact SK3.out)) (fun hHeld => ?_)
      clear hK K
      try simp only [Act.put, pz0, pz1, pz2, pz3, pz4, pz5]
      refine tk 6 ?_
      refine wpAnyH_done (by kernel_rfl) ?_ _
      try simp only [Act.put, pz0, pz1, pz2, pz3, pz4, pz5]
      go_upto_region 34 with fail
      have N0 := M0.out.drew
      have N3 := M3.out.drew
      have NF := MF.out.drew
      have N4b := blk_row_far M4.out.drew.drew #[lv, wv, .int .i64 sC, fv] (g' := w.heap.size + 2) (by omega)
      have sizeVG : (Tryz.prog.info? 28).map (·.size) = some (#[.int .i64 ed, .slice ao 0 co, .slice ab 0 cb, .slice av nb cap] : Array Value).size := by
       show _ = some 4
       kernel_rfl
      have oneVG : (#[.int .i64 ed, .slice ao 0 co, .slice ab 0 cb, .slice av nb cap] : Array Value).all (·.oneCell') = true := by simp [Value.oneCell']
      have ONEC := HONE.out sC
      refine wp_region_held_drew (S := (fun w' => Blk w' w.heap.size 40 #[lv, wv, .int .i64 sC, fv] ∧ Blk w' gF 28 #[.int .i64 ed, .slice ao 0 co, .slice ab 0 cb, .slice av nb cap])) (by kernel_rfl) (by first | exact ⟨N0.drew, NF.drew⟩ | ((try dsimp only); exact ⟨N0.drew, NF.drew⟩)) (fun hHeld => ?_)
      refine ty 0 rfl (yieldsIf_load_mid (by rfl) 40 _ rfl w.heap.size 0 rfl [lv, wv, .int .i64 sC, fv] _ (fun w' h => by have := blk_range h.1; simpa using this) Tryz.underlying40 rfl (size_rdisk _ _ _ _)) ?_
      refine ty 1 rfl (yieldsIf_load_mid (by rfl) 28 _ rfl gF 0 rfl [.int .i64 ed, .slice ao 0 co, .slice ab 0 cb, .slice av nb cap] _ (fun w' h => by have := blk_range h.2; simpa using this) Tryz.underlying28 rfl sizeVG) ?_
      refine rd 2 fun K hK => ?_
      refine wp_store_row 40 _ _ rfl (w.heap.size + 2) #[lv, wv, .int .i64 sC, fv] rfl rfl 40 zeroD N3.drew (size_rdisk _ _ _ _) rfl ONEC ?_
      refine hK.out _ _ (by first | exact ⟨blk_row_far N0.drew _ (by omega), blk_row_far NF.drew _ (by omega)⟩ | ((try dsimp only); exact ⟨blk_row_far N0.drew _ (by omega), blk_row_far NF.drew _ (by omega)⟩)) (fun hHeld => ?_)
      clear hK K
      try simp only [Act.put, pz0, pz1, pz2, pz3, pz4, pz5]
      refine rd 3 fun K hK => ?_
      refine wp_store_row 28 _ _ rfl (w.heap.size + 3) #[.int .i64 ed, .slice ao 0 co, .slice ab 0 cb, .slice av nb cap] rfl rfl 28 zeroF N4b.drew sizeVG rfl oneVG ?_
      refine hK.out _ _ (by first | exact ⟨blk_row_far (blk_row_far N0.drew _ (by omega)) _ (by omega), blk_row_far (blk_row_far NF.drew _ (by omega)) _ (by omega)⟩ | ((try dsimp only); exact ⟨blk_row_far (blk_row_far N0.drew _ (by omega)) _ (by omega), blk_row_far (blk_row_far NF.drew _ (by omega)) _ (by omega)⟩)) (fun hHeld => ?_)
      clear hK K
      try simp only [Act.put, pz0, pz1, pz2, pz3, pz4, pz5]
      refine tk 4 ?_
      refine wpAnyH_done (by kernel_rfl) ?_ _
      try simp only [Act.put, pz0, pz1, pz2, pz3, pz4, pz5]
      have FB := below_row (below_row MB.out.drew.drew #[lv, wv, .int .i64 sC, fv] (g := w.heap.size + 2) (by omega)) #[.int .i64 ed, .slice ao 0 co, .slice ab 0 cb, .slice av nb cap] (g := w.heap.size + 3) (by omega)
      have FO := ownsRow_out (F := fun i => i = w.heap.size + 2 ∨ i = w.heap.size + 3) (Out.trans (out_row (F := fun i => i = w.heap.size + 2 ∨ i = w.heap.size + 3) (w := Y3.drew.drew) #[lv, wv, .int .i64 sC, fv] (.inl rfl)) (out_row (F := fun i => i = w.heap.size + 2 ∨ i = w.heap.size + 3) #[.int .i64 ed, .slice ao 0 co, .slice ab 0 cb, .slice av nb cap] (.inr rfl)) (fun _ _ h => h)) MO.out (fun i hi h => by rcases h with h | h; exact ne_own MO.out M3.out (by decide) i hi h; exact ne_own MO.out M4.out (by decide) i hi h)
      go_wp2_with fail
      refine bodyPost_ret (results_row_row_tmp Tryz.results19 _ _ _ _ _ _ _ (by rfl) (load_rdisk (blk_row_far (N3.drew.row _) _ (by omega))) (by rfl) (loadF (N4b.row _)) (by rfl)) rfl ⟨.agg #[.int .i64 ed, .slice ao 0 co, .slice ab 0 cb, .slice av nb cap], by rw [← HENB.out, ← HKE.out, Nat.add_comm 1 k, ← ESC.out]; rfl, ?_, FB⟩
      intro F W' hoF hF
      rw [HFR.out]
      refine ⟨.slice ao 0 co, .slice ab 0 cb, .slice av nb cap, rfl, ints_none _ _ _ _, objs_none _ _ _ _, ?_⟩
      have h9 := bytes_own (ownsRow_out hoF FO (fun g hg => hF g (FO.lt g hg).1 (FO.lt g hg).2)) (K := _) (fun g hg => (FO.lt g hg).2)
      rw [← HPK] at h9
      rw [← HKE.out]
      exact h9.upto nb (by omega) (by omega)
end Go.Proofs.YtdpniceapmikpaaGreat
