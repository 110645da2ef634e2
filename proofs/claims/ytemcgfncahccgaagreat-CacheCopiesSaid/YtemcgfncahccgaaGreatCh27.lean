/-
  The reference codec's Put, of an object that may be.
  The reference's codec: number of at most eight bytes; signed.
-/
import Derived.Test.YtemcgfncahccgaaGreatCh3
import Derived.Test.YtemcgfncahccgaaGreatCh12
import Derived.Test.YtemcgfncahccgaaGreatCh26
set_option linter.unusedVariables false
set_option linter.unusedSimpArgs false
namespace Go.Proofs.YtemcgfncahccgaaGreat
open Go.RowKit

theorem leB_kind (K : Nat) (h : K ≤ 3) : (leB K 4).map vu8 = [.int .u8 (K : Int), .int .u8 0, .int .u8 0, .int .u8 0] := by
 have e : leB K 4 = [byteAt K 0, byteAt K 1, byteAt K 2, byteAt K 3] := rfl
 have b0 := byteAt_int K 0
 have b1 := byteAt_int K 1
 have b2 := byteAt_int K 2
 have b3 := byteAt_int K 3
 rw [e]
 show [Value.int .u8 _, Value.int .u8 _, Value.int .u8 _, Value.int .u8 _] = _
 rw [b0, b1, b2, b3]
 have h0 : ((K / 256 ^ 0 : Nat) : Int) % 256 = (K : Int) := by simp; omega
 have h1 : ((K / 256 ^ 1 : Nat) : Int) % 256 = 0 := by rw [Nat.div_eq_of_lt (by omega)]; rfl
 have h2 : ((K / 256 ^ 2 : Nat) : Int) % 256 = 0 := by rw [Nat.div_eq_of_lt (by omega)]; rfl
 have h3 : ((K / 256 ^ 3 : Nat) : Int) % 256 = 0 := by rw [Nat.div_eq_of_lt (by omega)]; rfl
 rw [h0, h1, h2, h3]
set_option maxRecDepth 100000 in
set_option maxHeartbeats 4000000 in
theorem rput5_yes (o : ObjD) (ho : o.ok) (hr : rightsOk o) (hv : ∀ x ∈ o.slots, I64 x.v) (n : Int) (w : World) (hy : objB o n = true) :
  Calls Tryz.prog 33 #[.agg o.cells.toArray, .int .i64 n] w fun e w' => e = .returned (.tuple #[sectorV (sectorL (objL o)), .int .i64 0]) ∧ Below w.heap.size w w' := by
 obtain ⟨⟨k1, k2⟩, ⟨c1, c2⟩, ⟨l1, l2⟩, n1, n2, hs⟩ := objB_facts hy
 have hck := fun W => rocheck_any o ho hr n W
 rw [hy] at hck
 have HCK := Lib.hid hck
 have hl0 : sector0.length = 512 := List.length_replicate
 have hlen := objL_len o ho
 have hbl := sectorL_len (objL o) (by omega)
 obtain ⟨cs, hc⟩ : ∃ cs, cs = o.cells.toArray := ⟨_, rfl⟩
 have HLK := Lib.hid (fun W (hb : Blk W w.heap.size 47 cs) j x hx => load_key ho hb hc j x hx)
 have HLB := Lib.hid (fun W (hb : Blk W w.heap.size 47 cs) j x hx => load_byte ho hb hc j x hx)
 have HRG := Lib.hid (fun W (hb : Blk W w.heap.size 47 cs) => obj_range hb hc)
 have scs : (Tryz.prog.info? 47).map (·.size) = some cs.size := by rw [hc, List.size_toArray, ObjD.len ho]; kernel_rfl
 rw [← hc] at HCK ⊢
 have HKEY := Lib.hid (fun (W : World) (j : Nat) (x : KeyD) (hx : o.slots[j]? = some x) => rputkey_yes x W (hs x (List.mem_of_getElem? hx)) (hr x (List.mem_of_getElem? hx)) (hv x (List.mem_of_getElem? hx)))
 obtain ⟨kd, ct, cl, slots, bytes⟩ := o
 have hks : slots.length = 16 := ho.1
 have hbs : bytes.length = 64 := ho.2
 simp only at k1 k2 c1 c2 l1 l2 HLK HLB HKEY
 obtain ⟨K, rfl⟩ : ∃ K : Nat, kd = K := ⟨kd.toNat, by omega⟩
 obtain ⟨C, rfl⟩ : ∃ K : Nat, ct = K := ⟨ct.toNat, by omega⟩
 obtain ⟨L, rfl⟩ : ∃ K : Nat, cl = K := ⟨cl.toNat, by omega⟩
 have uK : u64 (K : Int) = K := by unfold u64; omega
 have uC : u64 (C : Int) = C := by unfold u64; omega
 have uL : u64 (L : Int) = L := by unfold u64; omega
 obtain ⟨pre, epre⟩ : ∃ pre, pre = leB K 4 ++ leB C 4 ++ leB L 4 := ⟨_, rfl⟩
 have hpre : pre.length = 12 := by rw [epre]; simp [leB_len]
 have eobj : objL ⟨K, C, L, slots, bytes⟩ = pre ++ slots.flatMap keyB ++ bytes := by unfold objL; rw [uK, uC, uL, epre]
 obtain ⟨ol, eol⟩ : ∃ ol, ol = objL ⟨K, C, L, slots, bytes⟩ := ⟨_, rfl⟩
 rw [← eol] at hbl hlen eobj ⊢
 have HPRE := Lib.hid epre
 have HOBJ := Lib.hid eobj
 obtain ⟨W, eW⟩ : ∃ W, W = ((w.alloc (.cells cs 47)).alloc (.cells Tryz.zeroCells84 84)).alloc (.cells Tryz.zeroCells84 84) := ⟨_, rfl⟩
 have hb0 : Below w.heap.size w W := by rw [eW]; exact (((Below.refl _ w).alloc (Nat.le_refl _) _).alloc (by simp) _).alloc (by simp; omega) _
 have z0 : Blk W w.heap.size 47 cs := by rw [eW]; exact ((Blk.new w _ _).alloc _).alloc _
 have z1 : Blk W (w.heap.size + 1) 84 (sector0.map vu8).toArray := by rw [eW, ← zero111]; exact (Blk.new2 w _ _ _).alloc _
 have z2 : Blk W (w.heap.size + 2) 84 (sector0.map vu8).toArray := by rw [eW, ← zero111]; exact Blk.new' (by simp)
 clear hy hs hr hv ho hck hc eobj epre eol uK uC uL
 unfold sectorV
 go_enter Tryz.func33, Tryz.ntmps33
 go_upto_region 2 with fail
 rw [← eW]
 clear eW
 have zz1 := Lib.hid z1
 have zz2 := Lib.hid z2
 have zb := Lib.hid hb0
 go_wp2_with (refine wpList_load_row rfl 47 _ rfl w.heap.size rfl 47 cs (0, 0) _ z0 Tryz.underlying47 rfl scs ?_)
 refine (HCK.out W).mono ?_; rintro e w1 ⟨rfl, hb1⟩
 have b0 := z0.below hb1 z0.lt
 have b1 := Lib.hid (zz1.out.below hb1 zz1.out.lt)
 have b2 := Lib.hid (zz2.out.below hb1 zz2.out.lt)
 have hB1 := Lib.hid (zb.out.trans (hb1.mono zb.out.size))
 have g0 : w1.cell? ⟨w.heap.size, 0, none⟩ = some (.int .i64 (K : Int)) := (HRG.out w1 b0 0).trans rfl
 clear z0 zz1 zz2 zb hb1 hb0 z1 z2
 unfold errB
 simp only [if_true]
 have hX2 : Below w.heap.size w (w1.alloc (.cells #[.int .u8 (K : Int), .int .u8 0, .int .u8 0, .int .u8 0] 5)) := hB1.out.alloc hB1.out.size _
 have r2 : (w1.alloc (.cells #[.int .u8 (K : Int), .int .u8 0, .int .u8 0, .int .u8 0] 5)).ownsRow w.heap.size 5 1 (.slice (some ⟨w1.heap.size, 0, none⟩) 4 4) 4 ((leB K 4).map vu8) := by
  refine own_bytes (g := w1.heap.size) (e := 5) (l := leB K 4) (cs := #[.int .u8 (K : Int), .int .u8 0, .int .u8 0, .int .u8 0]) (Blk.new w1 _ _) hB1.out.size ?_ (leB_len K 4) (by unfold maxLen; omega)
  rw [leB_kind K (by omega)]
 go_upto_region 5 with fail
 obtain ⟨X2, eX2⟩ : ∃ X, X = w1.alloc (.cells #[.int .u8 (K : Int), .int .u8 0, .int .u8 0, .int .u8 0] 5) := ⟨_, rfl⟩
 have b02 : Blk X2 w.heap.size 47 cs := by rw [eX2]; exact b0.alloc _
 have b12 : Blk X2 (w.heap.size + 1) 84 (sector0.map vu8).toArray := by rw [eX2]; exact b1.out.alloc _
 have b22 : Blk X2 (w.heap.size + 2) 84 (sector0.map vu8).toArray := by rw [eX2]; exact b2.out.alloc _
 rw [← eX2] at hX2 r2 ⊢
 have q1 : X2.cell? ⟨w.heap.size, 1, none⟩ = some (.int .i64 (C : Int)) := (HRG.out X2 b02 1).trans rfl
 have H1 := Lib.hid b12
 have H2 := Lib.hid b22
 clear eX2 g0 b0 b1 b2 hB1 b12 b22
 go_wp2_with fail
 refine (rlow5_any C 4 X2 (by omega) (by omega)).mono ?_; rintro e L4 ⟨l4, rfl, hlo4, hlb4⟩
 obtain ⟨g4, cap4, e4, _, _⟩ := World.ownsRow.form hlo4 (by omega)
 subst e4
 have hu4 := BytesIn.own hlo4
 have hke4 := leB_len C 4
 have kk0 := b02.below hlb4 b02.lt
 have kk1 := H1.out.below hlb4 H1.out.lt
 have kk2 := H2.out.below hlb4 H2.out.lt
 have hbL4 := hX2.trans (hlb4.mono hX2.size)
 have ho4 := ownsRow_out (F := fun _ => False) (outB hlb4) r2 (fun _ _ => id)
 go_upto_region 6 with (at_builtin; refine wpList_append_bytes _ rfl (.tmp 23) (.tmp 27) rfl w.heap.size L4.heap.size 4 (.slice (some ⟨w1.heap.size, 0, none⟩) 4 4) _ rfl ho4 (some ⟨g4, 0, none⟩) 4 cap4 (leB C 4) rfl hke4 hu4 (by omega) hbL4.size ?_; intro hv4 X4 hO4 hg4)
 have hb4 := hbL4.grown hg4 hbL4.size (fun r hr => (ho4.lt r hr).1)
 have r4 : X4.ownsRow w.heap.size 5 1 hv4 (4 + 4) ((leB K 4 ++ leB C 4).map vu8) := by rw [List.map_append]; exact hO4
 have b04 := (hg4.block _ kk0.lt (fun e => ne_own ho4 kk0 (by decide) _ e.symm rfl)).trans kk0
 have J1 := Lib.hid ((hg4.block _ kk1.lt (fun e => ne_own ho4 kk1 (by decide) _ e.symm rfl)).trans kk1)
 have J2 := Lib.hid ((hg4.block _ kk2.lt (fun e => ne_own ho4 kk2 (by decide) _ e.symm rfl)).trans kk2)
 have q2 : X4.cell? ⟨w.heap.size, 2, none⟩ = some (.int .i64 (L : Int)) := (HRG.out X4 b04 2).trans rfl
 clear q1 kk0 kk1 kk2 hbL4 hO4 hg4 hlo4 hlb4 hu4 hke4 ho4 hX2 r2 b02 H1 H2
 go_wp2_with fail
 refine (rlow5_any L 4 X4 (by omega) (by omega)).mono ?_; rintro e L5 ⟨l5, rfl, hlo5, hlb5⟩
 obtain ⟨g5, cap5, e5, _, _⟩ := World.ownsRow.form hlo5 (by omega)
 subst e5
 have hu5 := BytesIn.own hlo5
 have hke5 := leB_len L 4
 have kk0 := (show Blk X4 w.heap.size 47 cs from b04).below hlb5 (show Blk X4 w.heap.size 47 cs from b04).lt
 have kk1 := (show Blk X4 (w.heap.size + 1) 84 (sector0.map vu8).toArray from J1.out).below hlb5 (show Blk X4 (w.heap.size + 1) 84 (sector0.map vu8).toArray from J1.out).lt
 have kk2 := (show Blk X4 (w.heap.size + 2) 84 (sector0.map vu8).toArray from J2.out).below hlb5 (show Blk X4 (w.heap.size + 2) 84 (sector0.map vu8).toArray from J2.out).lt
 have hbL5 := hb4.trans (hlb5.mono hb4.size)
 have ho5 := ownsRow_out (F := fun _ => False) (outB hlb5) r4 (fun _ _ => id)
 go_upto_region 7 with (at_builtin; refine wpList_append_bytes _ rfl (.tmp 29) (.tmp 33) rfl w.heap.size L5.heap.size (4 + 4) hv4 _ rfl ho5 (some ⟨g5, 0, none⟩) 4 cap5 (leB L 4) rfl hke5 hu5 (by omega) hbL5.size ?_; intro hv5 X5 hO5 hg5)
 have hb5 := Lib.hid (hbL5.grown hg5 hbL5.size (fun r hr => (ho5.lt r hr).1))
 have r5 := Lib.hid (show X5.ownsRow w.heap.size 5 1 hv5 12 (pre.map vu8) by rw [HPRE.out, List.map_append]; exact hO5)
 have P0 := Lib.hid (show Blk X5 w.heap.size 47 cs from (hg5.block _ kk0.lt (fun e => ne_own ho5 kk0 (by decide) _ e.symm rfl)).trans kk0)
 have P1 := Lib.hid (show Blk X5 (w.heap.size + 1) 84 (sector0.map vu8).toArray from (hg5.block _ kk1.lt (fun e => ne_own ho5 kk1 (by decide) _ e.symm rfl)).trans kk1)
 have P2 := Lib.hid (show Blk X5 (w.heap.size + 2) 84 (sector0.map vu8).toArray from (hg5.block _ kk2.lt (fun e => ne_own ho5 kk2 (by decide) _ e.symm rfl)).trans kk2)
 clear q2 kk0 kk1 kk2 hbL5 hO5 hg5 hlo5 hlb5 hu5 hke5 ho5 hb4 r4 b04 J1 J2
 go_wp2_with fail
 go_loopw [7, 8] (fun u i wr => ∃ (j : Nat) (u' : Value), u' = u ∧ j ≤ 16 ∧ i = .int .i64 (j : Int) ∧ wr.ownsRow w.heap.size 5 1 u' (12 + 20 * j) ((pre ++ (slots.take j).flatMap keyB).map vu8) ∧ Blk wr w.heap.size 47 cs ∧ Blk wr (w.heap.size + 1) 84 (sector0.map vu8).toArray ∧ Blk wr (w.heap.size + 2) 84 (sector0.map vu8).toArray ∧ Below w.heap.size w wr) (fun _ i _ => 16 - (intOf i).toNat)
 case atStart => exact ⟨0, _, rfl, by omega, rfl, by simpa using r5.out, P0.out, P1.out, P2.out, hb5.out⟩
 case round =>
  obtain ⟨j, u, rfl, hj, rfl, hO, hb0, hb1, hb2, hBw⟩ := hrel
  have HO := Lib.hid hO
  have H0 := Lib.hid hb0
  have H1 := Lib.hid hb1
  have H2 := Lib.hid hb2
  have HB := Lib.hid hBw
  clear hO hb0 hb1 hb2 hBw
  by_cases hlt : j < 16
  ·have hji : (j : Int) < 16 := by omega
   obtain ⟨x, hx⟩ : ∃ x, slots[j]? = some x := ⟨_, List.getElem?_eq_getElem (by omega)⟩
   have HX := Lib.hid hx
   clear hx
   go_wp2_with (refine wpList_load_midG rfl 43 _ rfl w.heap.size (3 + j * 6) rfl _ (HLK.out _ H0.out j x HX.out) ?_)
   refine (HKEY.out wr j x HX.out).mono ?_; rintro e w2 ⟨u2, rfl, hO2, hbw2⟩
   obtain ⟨a2, cap2, rfl⟩ := slice_form hO2
   have hU2 := BytesIn.own hO2
   have m0 := H0.out.below hbw2 H0.out.lt
   have m1 := H1.out.below hbw2 H1.out.lt
   have m2 := H2.out.below hbw2 H2.out.lt
   have mO := ownsRow_out (F := fun _ => False) (outB hbw2) HO.out (fun _ _ => id)
   have mB := HB.out.trans (hbw2.mono HB.out.size)
   have hk20 := keyB_len x
   go_wp2_with (at_builtin; refine wpList_append_bytes _ rfl (.tmp 47) (.tmp 48) rfl w.heap.size w2.heap.size (12 + 20 * j) u _ rfl mO a2 20 cap2 (keyB x) rfl hk20 hU2 (by omega) mB.size ?_; intro u4 w4 hO4 hg4)
   go_roundw
   case rel =>
    refine ⟨j + 1, _, rfl, by omega, by go_num, ?_, (hg4.block _ m0.lt (fun e => ne_own mO m0 (by decide) _ e.symm rfl)).trans m0, (hg4.block _ m1.lt (fun e => ne_own mO m1 (by decide) _ e.symm rfl)).trans m1, (hg4.block _ m2.lt (fun e => ne_own mO m2 (by decide) _ e.symm rfl)).trans m2, mB.grown hg4 mB.size (fun r hr => (mO.lt r hr).1)⟩
    have hjl : j < slots.length := by omega
    have ex : slots[j] = x := Option.some.inj ((List.getElem?_eq_getElem hjl).symm.trans HX.out)
    rw [keys_take slots j hjl, ex, ← List.append_assoc, List.map_append, show 12 + 20 * (j + 1) = 12 + 20 * j + 20 by omega]
    exact hO4
   case measure => simp [intOf]; omega
  ·have hji : ¬ (j : Int) < 16 := by omega
   have hj16 : j = 16 := by omega
   have hO := HO.out
   rw [hj16, show slots.take 16 = slots from List.take_of_length_le (by omega)] at hO
   have H332 := Lib.hid hO
   clear hO hlt HO hj16
   go_wp2_with fail
   go_loopw [7, 11] (fun u i wr => ∃ (j : Nat) (u' : Value), u' = u ∧ j ≤ 64 ∧ i = .int .i64 (j : Int) ∧ wr.ownsRow w.heap.size 5 1 u' (332 + j) ((pre ++ slots.flatMap keyB ++ bytes.take j).map vu8) ∧ Blk wr w.heap.size 47 cs ∧ Blk wr (w.heap.size + 1) 84 (sector0.map vu8).toArray ∧ Blk wr (w.heap.size + 2) 84 (sector0.map vu8).toArray ∧ Below w.heap.size w wr) (fun _ i _ => 64 - (intOf i).toNat)
   case atStart => exact ⟨0, _, rfl, by omega, rfl, by simpa using H332.out, H0.out, H1.out, H2.out, HB.out⟩
   case round =>
    obtain ⟨j, u, rfl, hj, rfl, hO, hb0, hb1, hb2, hBw⟩ := hrel
    have HO := Lib.hid hO
    have H0 := Lib.hid hb0
    have H1 := Lib.hid hb1
    have H2 := Lib.hid hb2
    have HB := Lib.hid hBw
    clear hO hb0 hb1 hb2 hBw
    by_cases hlt : j < 64
    ·have hji : (j : Int) < 64 := by omega
     obtain ⟨c, hc⟩ : ∃ c, bytes[j]? = some c := ⟨_, List.getElem?_eq_getElem (by omega)⟩
     have HC := Lib.hid hc
     have cj := HLB.out wr H0.out j c hc
     have nU : BytesIn (wr.alloc (.cells #[vu8 c] 5)) (wr.alloc (.cells #[vu8 c] 5)).heap.size (.slice (some ⟨wr.heap.size, 0, none⟩) 1 1) [c] := BytesIn.own (own_bytes (B := 0) (g := wr.heap.size) (e := 5) (l := [c]) (cs := #[vu8 c]) (Blk.new wr _ _) (Nat.zero_le _) rfl rfl (by unfold maxLen; omega))
     have mO := HO.out.alloc (.cells #[vu8 c] 5)
     have m0 := H0.out.alloc (.cells #[vu8 c] 5)
     have m1 := H1.out.alloc (.cells #[vu8 c] 5)
     have m2 := H2.out.alloc (.cells #[vu8 c] 5)
     have mB := HB.out.alloc HB.out.size (.cells #[vu8 c] 5)
     clear hc
     go_wp2_with (at_builtin; refine wpList_append_bytes _ rfl (.tmp 54) (.tmp 59) rfl w.heap.size (wr.alloc (.cells #[vu8 c] 5)).heap.size (332 + j) u _ rfl mO (some ⟨wr.heap.size, 0, none⟩) 1 1 [c] rfl rfl nU (by omega) mB.size ?_; intro u4 w4 hO4 hg4)
     go_roundw
     case rel =>
      refine ⟨j + 1, _, rfl, by omega, by go_num, ?_, (hg4.block _ m0.lt (fun e => ne_own mO m0 (by decide) _ e.symm rfl)).trans m0, (hg4.block _ m1.lt (fun e => ne_own mO m1 (by decide) _ e.symm rfl)).trans m1, (hg4.block _ m2.lt (fun e => ne_own mO m2 (by decide) _ e.symm rfl)).trans m2, mB.grown hg4 mB.size (fun r hr => (mO.lt r hr).1)⟩
      have hjl : j < bytes.length := by omega
      have ex : bytes[j] = c := Option.some.inj ((List.getElem?_eq_getElem hjl).symm.trans HC.out)
      rw [List.take_succ_eq_append_getElem hjl, ex, ← List.append_assoc, List.map_append, show 332 + (j + 1) = 332 + j + 1 by omega]
      exact hO4
     case measure => simp [intOf]; omega
    ·have hji : ¬ (j : Int) < 64 := by omega
     have hj64 : j = 64 := by omega
     have hO := HO.out
     rw [hj64, show bytes.take 64 = bytes from List.take_of_length_le (by omega), ← HOBJ.out] at hO
     have H396 := Lib.hid hO
     clear hO hlt HO hj64 HLB HKEY HLK HCK HPRE
     go_wp2_with fail
     go_loopw [7] (fun u wr => ∃ (j : Nat) (u' : Value), u' = u ∧ 396 + j ≤ 508 ∧ wr.ownsRow w.heap.size 5 1 u' (396 + j) ((ol ++ List.replicate j 0).map vu8) ∧ Blk wr (w.heap.size + 1) 84 (sector0.map vu8).toArray ∧ Blk wr (w.heap.size + 2) 84 (sector0.map vu8).toArray ∧ Below w.heap.size w wr) (fun u _ => 508 - (match u with | .slice _ n _ => n | _ => 0))
     case atStart => exact ⟨0, _, rfl, by omega, by simpa using H396.out, H1.out, H2.out, HB.out⟩
     case round =>
      obtain ⟨j, u, rfl, hj, hO, hb1, hb2, hBw⟩ := hrel
      obtain ⟨a, cap, rfl⟩ := slice_form hO
      have HO := Lib.hid hO
      have H1 := Lib.hid hb1
      have H2 := Lib.hid hb2
      have HB := Lib.hid hBw
      clear hO hb1 hb2 hBw
      by_cases hlt : 396 + j < 508
      ·have hji : (396 : Int) + (j : Int) < 508 := by omega
       have nU : BytesIn (wr.alloc (.cells #[vu8 0] 5)) (wr.alloc (.cells #[vu8 0] 5)).heap.size (.slice (some ⟨wr.heap.size, 0, none⟩) 1 1) [0] := BytesIn.own (own_bytes (B := 0) (g := wr.heap.size) (e := 5) (l := [0]) (cs := #[vu8 0]) (Blk.new wr _ _) (Nat.zero_le _) rfl rfl (by unfold maxLen; omega))
       have mO := HO.out.alloc (.cells #[vu8 0] 5)
       have m1 := H1.out.alloc (.cells #[vu8 0] 5)
       have m2 := H2.out.alloc (.cells #[vu8 0] 5)
       have mB := HB.out.alloc HB.out.size (.cells #[vu8 0] 5)
       go_wp2_with (at_builtin; refine wpList_append_bytes _ rfl (.tmp 64) (.tmp 65) rfl w.heap.size (wr.alloc (.cells #[vu8 0] 5)).heap.size (396 + j) _ _ rfl mO (some ⟨wr.heap.size, 0, none⟩) 1 1 [0] rfl rfl nU (by omega) mB.size ?_; intro u4 w4 hO4 hg4)
       obtain ⟨a4, cap4, rfl⟩ := slice_form hO4
       go_roundw
       case rel =>
        refine ⟨j + 1, _, rfl, by omega, ?_, (hg4.block _ m1.lt (fun e => ne_own mO m1 (by decide) _ e.symm rfl)).trans m1, (hg4.block _ m2.lt (fun e => ne_own mO m2 (by decide) _ e.symm rfl)).trans m2, mB.grown hg4 mB.size (fun r hr => (mO.lt r hr).1)⟩
        rw [show ol ++ List.replicate (j + 1) (0 : UInt8) = (ol ++ List.replicate j 0) ++ [0] by rw [List.append_assoc, List.replicate_succ'], List.map_append]
        exact hO4
       case measure => simp; omega
      ·have hji : ¬ (396 : Int) + (j : Int) < 508 := by omega
       have hje : 396 + j = 508 := by omega
       have hO := HO.out
       have hpad : ol ++ List.replicate j (0 : UInt8) = padL ol := by unfold padL; rw [show j = 508 - ol.length by omega]
       rw [hpad] at hO
       have HU := BytesIn.own hO
       have hlp := padL_len ol (by omega)
       have eS : sealOf (padL ol) = sectorL ol := rfl
       obtain ⟨p, ep⟩ : ∃ p, p = padL ol := ⟨_, rfl⟩
       rw [← ep] at HU hlp eS
       have HSE := Lib.hid (rseal_any _ p wr HU (by omega))
       have HES := Lib.hid eS
       clear hO HU hpad ep eS HO hje
       go_wp2_with fail
       refine HSE.out.mono ?_; rintro e w4 ⟨u2, rfl, hO4, hb4⟩
       obtain ⟨a2, cap2, rfl⟩ := slice_form hO4
       rw [HES.out, hlp] at hO4
       rw [hlp]
       have hU4 := BytesIn.own hO4
       have hown := hO4.lt
       have h1 := H1.out.below hb4 H1.out.lt
       have h2 := H2.out.below hb4 H2.out.lt
       have hBw := HB.out.trans (hb4.mono HB.out.size)
       have hw2 : w.heap.size + 2 < wr.heap.size := H2.out.lt
       obtain ⟨b, eb⟩ : ∃ b, b = sectorL ol := ⟨_, rfl⟩
       rw [← eb] at hbl hU4
       have hbe : b.length = sector0.length := by rw [hl0, hbl]
       have HL := Lib.hid hU4
       have EB := Lib.hid eb
       have HOWN := Lib.hid hown
       have M1 := Lib.hid h1
       have M2 := Lib.hid h2
       have MB := Lib.hid hBw
       clear hO4 hU4 hown h1 h2 hBw hb4 eb HSE H1 H2 HB HES
       go_wp2_with fail
       go_loopw [13] (fun i wr2 => ∃ k : Nat, k ≤ 512 ∧ i = .int .i64 (k : Int) ∧ Blk wr2 (w.heap.size + 2) 84 ((secTo b sector0 k).map vu8).toArray ∧ Blk wr2 (w.heap.size + 1) 84 (sector0.map vu8).toArray ∧ Out (fun i => i = w.heap.size + 2) w4 wr2) (fun i _ => 512 - (intOf i).toNat)
       case atStart => exact ⟨0, by omega, rfl, by rw [secTo_zero]; exact M2.out, M1.out, Out.refl _ _⟩
       case round =>
        obtain ⟨k, hk, rfl, hO, hR, hOut⟩ := hrel
        by_cases hkl : k < 512
        ·have hki : (k : Int) < 512 := by omega
         obtain ⟨c, hc⟩ : ∃ c, b[k]? = some c := ⟨_, List.getElem?_eq_getElem (by omega)⟩
         have hU := HL.out.outO hOut (fun g hg e => by have := (HOWN.out g hg).1; omega)
         obtain ⟨g, off, rfl, hg, hcell⟩ := hU.at_ hc
         obtain ⟨u, hu⟩ := secTo_at hbe (j := k) (by omega)
         have cO := hO.cell_is k hu
         have fO := hO.frozen k
         have HO := Lib.hid (hO.set_ k (vu8 c))
         rw [secTo_set hbe hc] at HO
         have HR := Lib.hid (hR.far (p := ⟨w.heap.size + 2, k, none⟩) (by show w.heap.size + 1 ≠ w.heap.size + 2; omega) (vu8 c))
         have HOut := Lib.hid (hOut.trans (out_set (F := fun i => i = w.heap.size + 2) (w := wr) (g := w.heap.size + 2) (i := k) (v := vu8 c) rfl) (fun _ _ h => h))
         clear hO hR hOut hU
         go_wp2_with fail
         exact ⟨⟨k + 1, by omega, by go_num, HO.out, HR.out, HOut.out⟩, by simp [intOf]; omega⟩
        ·have hki : ¬ (k : Int) < 512 := by omega
         obtain rfl : k = 512 := by omega
         rw [secTo_all hbl hl0] at hO
         have hone := sector_all b
         have hsz := sector_size _ hbl
         have hse := sector_eq _ _ hl0 hbl
         have hfin : Below w.heap.size w wr := (Out.trans (F := fun i => w.heap.size ≤ i) (outB' MB.out (fun _ h => h)) hOut (fun i _ h => by omega)).below (Nat.le_refl _) (fun i hi h => by omega)
         have hfin2 := below_row hfin (b.map vu8).toArray (g := w.heap.size + 1) (by omega)
         clear hOut
         go_wp2_with (first
          | (refine wpList_load_row rfl 84 _ rfl (w.heap.size + 2) rfl 84 (b.map vu8).toArray (0, 0) _ hO Tryz.underlying84 rfl hsz ?_)
          | (refine wpList_store_row rfl 84 _ _ rfl (w.heap.size + 1) (b.map vu8).toArray rfl rfl 84 _ hR hsz hse hone ?_))
         exact bodyPost_ret (results_row_tmp2 Tryz.results33 _ _ _ _ _ (by rfl) (load_sector hbl (hR.row _)) (by rfl)) rfl ⟨by rw [← EB.out]; rfl, hfin2⟩
end Go.Proofs.YtemcgfncahccgaaGreat
namespace Go.Proofs.YtemcgfncahccgaaGreat
open Go.RowKit

set_option maxRecDepth 100000 in
set_option maxHeartbeats 1000000 in
theorem rnum5_any (v : Value) (bs : List UInt8) (w : World) (hv : BytesIn w w.heap.size v bs) (h8 : bs.length ≤ 8) :
  Calls Tryz.prog 112 #[v] w fun e w' => e = .returned (.int .u64 (leN bs)) ∧ w = w' := by
 have HSM := Lib.hid (fun q => leN_small (bs.drop q) 8 (by rw [List.length_drop]; omega) (Nat.le_refl _))
 obtain ⟨h1, a, cap, rfl, hcap, h2⟩ := hv
 go_enter Tryz.func112, Tryz.ntmps112
 go_wp2_with fail
 go_loop [3, 4] (fun n i => ∃ j : Nat, j ≤ bs.length ∧ i = .int .i64 ((j : Int) - 1) ∧ n = .int .u64 ((leN (bs.drop j) : Nat) : Int)) (fun _ i => (intOf i + 1).toNat)
 case atStart => exact ⟨bs.length, Nat.le_refl _, rfl, by simp [leN]⟩
 case round =>
  obtain ⟨j, hj, rfl, rfl⟩ := hrel
  by_cases h0 : 0 < j
  ·obtain ⟨q, rfl⟩ : ∃ q, j = q + 1 := ⟨j - 1, by omega⟩
   have hbj : bs[q]? = some (bs[q]'(by omega)) := List.getElem?_eq_getElem (by omega)
   obtain ⟨g2, off2, e2, hg, hcell⟩ := h2 q _ hbj
   subst e2
   have hT := leN_drop bs q _ hbj
   have hle := HSM.out q
   generalize bs[q]'(by omega) = c at *
   generalize leN (bs.drop (q + 1)) = N at *
   have hc256 := u8_lt c
   have HT := Lib.hid hT
   have hNb : (N : Int) * 256 + (c.toNat : Int) < 18446744073709551616 := by omega
   have hNb2 : (N : Int) * 256 < 18446744073709551616 := by omega
   clear hT hle
   have ej : ((q + 1 : Nat) : Int) - 1 = (q : Int) := by omega
   rw [ej]
   go_wp2_with fail
   exact ⟨⟨q, by omega, rfl, by rw [HT.out]; congr 1; omega⟩, by simp [intOf] <;> omega⟩
  ·obtain rfl : j = 0 := by omega
   rw [List.drop_zero]
   go_wp2_with fail
   go_ret
   exact ⟨rfl, rfl⟩
theorem rsigned_any (n : Nat) (w : World) (hn : n < 18446744073709551616) : Calls Tryz.prog 134 #[.int .u64 n] w fun e w' => e = .returned (.int .i64 (IntKind.i64.wrap (n : Int))) ∧ w = w' := by
 by_cases hbig : 9223372036854775808 ≤ n
 ·have e : IntKind.i64.wrap (n : Int) = (n : Int) - 18446744073709551616 := by rw [IntKind.wrap_i64]; omega
  have hb : (9223372036854775808 : Int) ≤ (n : Int) := by omega
  rw [e]
  go_enter Tryz.func134, Tryz.ntmps134
  go_wp2_with fail
  go_ret
  refine ⟨?_, rfl⟩
  congr 2
  first | omega | (go_num; done)
 ·have e : IntKind.i64.wrap (n : Int) = (n : Int) := by rw [IntKind.wrap_i64]; omega
  have hb : ¬ (9223372036854775808 : Int) ≤ (n : Int) := by omega
  rw [e]
  go_enter Tryz.func134, Tryz.ntmps134
  go_wp2_with fail
  go_ret
  refine ⟨?_, rfl⟩
  try (congr 2)
  try first | omega | (go_num; done)
end Go.Proofs.YtemcgfncahccgaaGreat
