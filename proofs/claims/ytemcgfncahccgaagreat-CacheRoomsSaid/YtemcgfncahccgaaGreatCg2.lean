/-
  The law CacheRooms.
  CacheRooms: for every input the law answers true, and its arguments read as they did; without conditions.
-/
import Derived.Test.YtemcgfncahccgaaGreatCg1
set_option linter.unusedVariables false
set_option linter.unusedSimpArgs false
namespace Go.Proofs.YtemcgfncahccgaaGreat
open Go.RowKit Go.Shelf

theorem newC_ok {x : WorldD} (hx : x.fine) {room : Int} (hr : 1 ≤ room) : COk (newC (disk17 x) room (countI x.n)) 0 := by
 obtain ⟨h1, h2, h3, h4⟩ := disk17_facts hx
 have hn := hx.n
 refine ⟨⟨List.nodup_nil, fun m hm => by cases hm⟩, by show (0 : Int) ≤ room; omega, by show (countI x.n).length ≤ 64; rw [countI_len]; omega, h1, by show (disk17 x).steps ≤ 0; omega, h4⟩
/-- what holds in the loops -/
structure RoL (w0 : World) (F : Nat → Prop) (gn ag bg B cap : Nat) (n : Nat) (os : List ObjD) (W : World) (now : List ObjD) (k : Int) : Prop where
 ro : RoI w0 F gn ag bg W os now now k
 row : NowAt W B gn cap now
 len : now.length = n
 lo : w0.heap.size ≤ B
 out : Below w0.heap.size w0 W
theorem RoL.below {w0 W W' : World} {F : Nat → Prop} {gn ag bg B cap n : Nat} {os now : List ObjD} {k : Int} (h : RoL w0 F gn ag bg B cap n os W now k) (hb : Below W.heap.size W W') : RoL w0 F gn ag bg B cap n os W' now k :=
 ⟨h.ro.below hb, h.row.out (outB hb : Out (fun _ => False) W W') (fun h => h), h.len, h.lo, h.out.trans (hb.mono h.out.size)⟩
theorem RoL.gn {w0 W : World} {F : Nat → Prop} {gn ag bg B cap n : Nat} {os now : List ObjD} {k : Int} (h : RoL w0 F gn ag bg B cap n os W now k) : gn < W.heap.size ∧ w0.heap.size ≤ gn ∧ ¬ F gn ∧ w0.heap.size ≤ W.heap.size :=
 ⟨h.row.lt, Nat.le_trans h.lo h.row.blk.1, fun hf => (h.ro.lt gn hf).2.1 rfl, h.out.size⟩
/-- behind what the caches write -/
theorem RoL.out_ {w0 W W' : World} {F : Nat → Prop} {gn ag bg B cap n : Nat} {os now : List ObjD} {k : Int} (h : RoL w0 F gn ag bg B cap n os W now k) (ho : Out F W W') : NowAt W' B gn cap now ∧ Below w0.heap.size w0 W' :=
 ⟨h.row.out ho h.gn.2.2.1, h.out.trans (ho.below h.out.size (fun i hi hf => by have := (h.ro.lt i hf).1; omega))⟩

theorem RoL.os_len {w0 W : World} {F : Nat → Prop} {gn ag bg B cap n : Nat} {os now : List ObjD} {k : Int} (h : RoL w0 F gn ag bg B cap n os W now k) : os.length = n := by
 obtain ⟨D0, A0, B0, xa, xb, _, _, _, hR, _⟩ := h.ro
 have := hR.ra.len
 have := h.len
 omega
theorem RoL.rmO_ok {w0 W : World} {F : Nat → Prop} {gn ag bg B cap n : Nat} {os now : List ObjD} {k : Int} (h : RoL w0 F gn ag bg B cap n os W now k) (oid : Int) : (rmO os now oid).ok := by
 unfold rmO
 split
 ·next hr =>
  have h1 := h.os_len
  have h2 := h.len
  rw [List.getD_eq_getElem?_getD, List.getElem?_eq_getElem (by omega)]
  exact h.row.2 _ (List.getElem_mem _)
 ·exact objZ_ok
theorem RoL.rmO_range {w0 W X : World} {F : Nat → Prop} {gn ag bg B cap n : Nat} {os now : List ObjD} {k : Int} (h : RoL w0 F gn ag bg B cap n os W now k) (hX : NowAt X B gn cap now) {oid : Int} {q : Nat} (hq : oid = (q : Int)) (hn : q < n) : X.rangeAt gn (q * 163) (rmO os now oid).cells.toArray.toList := by
 have h1 := h.os_len
 have h2 := h.len
 have e : now[q]? = some (rmO os now oid) := by
  unfold rmO
  rw [if_pos (by omega), hq, Int.toNat_natCast, List.getD_eq_getElem?_getD, List.getElem?_eq_getElem (by omega)]
  rfl
 exact hX.range e

set_option maxRecDepth 100000 in
set_option maxHeartbeats 8000000 in
theorem rooms17_any (x : WorldD) (v vo : Value) (room : Int) (acts : List ActD) (w : World) (hv : WArg w v x) (ho : ActsIn w w.heap.size vo acts) :
  Calls Tryz.prog 3 #[v, .int .i64 room, vo] w fun e w' => e = .returned (.bool true) ∧ Below w.heap.size w w' := by
 obtain ⟨⟨v0, v3, rfl, hob, h3i⟩, hvok, hvfi⟩ := hv
 have h3o := h3i.one
 obtain ⟨-, a0, c0, ev0, -, -⟩ := id hob
 have EV0 := Lib.hid ev0
 clear ev0
 have HOB := Lib.hid hob
 have HO := Lib.hid ho
 obtain ⟨-, ao, co, rfl, -, -⟩ := ho
 obtain ⟨x0, ex0⟩ : ∃ x0 : WorldD, x0 = { x with fails := [] } := ⟨_, rfl⟩
 have hfa : x0.fails = [] := by rw [ex0]
 have hos : x0.objs = x.objs := by rw [ex0]
 have hro : x0.room = x.room := by rw [ex0]
 obtain ⟨XV, eXV⟩ : ∃ XV : Array Value, XV = #[v0, .int .i64 x.more, .int .i64 x.room, .slice none 0 0] := ⟨_, rfl⟩
 have hv' : WArg w (.agg XV) x0 := by rw [eXV, ex0]; exact ⟨⟨v0, _, rfl, hob, IntsIn.nil _ _⟩, hvok, fun m hm => by cases hm⟩
 have HV := Lib.hid hv'
 have sXV : (Tryz.prog.info? 25).map (·.size) = some XV.size := by rw [eXV]; exact size_world _ _ _ _
 have HSX := Lib.hid sXV
 have x2 : XV[2]? = some (.int .i64 x.room) := by rw [eXV]; rfl
 have x0c : XV[0]? = some v0 := by rw [eXV]; rfl
 obtain ⟨W, eW⟩ : ∃ W, W = w.alloc (.cells #[v0, .int .i64 x.more, .int .i64 x.room, v3] 25) := ⟨_, rfl⟩
 have k00 : Blk W w.heap.size 25 #[v0, .int .i64 x.more, .int .i64 x.room, v3] := by rw [eW]; exact Blk.new w _ _
 have c3 := k00.cell_is 3 rfl
 have f3 := k00.frozen 3
 obtain ⟨Y, eY⟩ : ∃ Y, Y = W.setCell ⟨w.heap.size, 3, none⟩ (.slice none 0 0) := ⟨_, rfl⟩
 have k0 : Blk Y w.heap.size 25 XV := by rw [eY, eXV]; exact k00.set_ 3 _
 have hbW : Below w.heap.size w Y := by
  have h1 : Below w.heap.size w W := by rw [eW]; exact (Below.refl _ w).alloc (Nat.le_refl _) _
  have h2 : Out (fun i => i = w.heap.size) W Y := by rw [eY]; exact out_set rfl
  exact ((outB h1 : Out (fun i => i = w.heap.size) w W).trans h2 (fun _ _ h => h)).below (Nat.le_refl _) (fun i hi e => by omega)
 have HSM := Lib.hid (small17_any x0 (.agg XV) Y (HV.out.inn.up hbW))
 have HB := Lib.hid hbW
 have HFA := Lib.hid hfa
 have HOS := Lib.hid hos
 have HROO := Lib.hid hro
 clear hv' sXV hbW ex0 eXV hob h3i hvok hvfi hfa hos hro
 go_enter Tryz.func3, Tryz.ntmps3
 go_upto_region 1 with fail
 rw [← eW]
 clear eW
 go_upto_region 2 with fail
 rw [← eY]
 clear eY k00 c3 f3
 go_wp2_with (refine wpList_load_row rfl 25 _ rfl w.heap.size rfl 25 XV (0, 0) _ k0 Tryz.underlying25 rfl HSX.out ?_)
 refine HSM.out.mono ?_; rintro e w1 ⟨rfl, hb1⟩
 have k1 := k0.below hb1 k0.lt
 have HB1 := Lib.hid (HB.out.trans (hb1.mono HB.out.size))
 clear hb1 k0
 cases hsm : smallW x0
 ·go_wp2_with fail
  refine (works17_any _).mono ?_; rintro e w2 ⟨rfl, hb2⟩
  go_wp2_with fail
  go_ret
  exact ⟨rfl, HB1.out.trans (hb2.mono HB1.out.size)⟩
 ·obtain ⟨hfine, hr⟩ := smallW_fine hsm HV.out.ok HV.out.fi
  have HFI := Lib.hid hfine
  have HRO := Lib.hid hr
  clear hsm hfine hr
  by_cases q1 : room < 1
  ·have g1 : decide (room < 1) = true := by simpa using q1
   clear q1
   go_wp2_with fail
   refine (works17_any _).mono ?_; rintro e w2 ⟨rfl, hb2⟩
   go_wp2_with fail
   go_ret
   exact ⟨rfl, HB1.out.trans (hb2.mono HB1.out.size)⟩
  have g1 : decide (room < 1) = false := by simpa using q1
  by_cases q2 : 64 < room
  ·have g2 : decide (64 < room) = true := by simpa using q2
   clear q1 q2
   go_wp2_with fail
   refine (works17_any _).mono ?_; rintro e w2 ⟨rfl, hb2⟩
   go_wp2_with fail
   go_ret
   exact ⟨rfl, HB1.out.trans (hb2.mono HB1.out.size)⟩
  have g2 : decide (64 < room) = false := by simpa using q2
  by_cases q3 : (40 : Int) < (acts.length : Int)
  ·clear q1 q2
   go_wp2_with fail
   refine (works17_any _).mono ?_; rintro e w2 ⟨rfl, hb2⟩
   go_wp2_with fail
   go_ret
   exact ⟨rfl, HB1.out.trans (hb2.mono HB1.out.size)⟩
  have h40 : acts.length ≤ 40 := by omega
  have HRM := Lib.hid (show 1 ≤ room ∧ room ≤ 64 by omega)
  clear q1 q2
  have HMD := Lib.hid (made17_any x0 HFI.out (.agg XV) w1 (HV.out.inn.up HB1.out))
  go_upto_region 4 with fail
  clear g1 g2 q3
  go_wp2_with (refine wpList_load_row rfl 25 _ rfl w.heap.size rfl 25 XV (0, 0) _ k1 Tryz.underlying25 rfl HSX.out ?_)
  refine HMD.out.mono ?_; rintro e w2 ⟨D, lv, fv, pv, rfl, hd2, hr2, hp2, hh2, hg2, hb2⟩
  obtain ⟨pa, pc, rfl⟩ : ∃ a c, pv = .slice a (countI x0.n).length c := by obtain ⟨_, a, c, e, _⟩ := hp2; exact ⟨a, c, e⟩
  have K2 := k1.below hb2 k1.lt
  have hs12 := hb2.size
  have hone := hr2.one 0
  have HONE := Lib.hid hone
  have HB2 := Lib.hid (HB1.out.trans (hb2.mono HB1.out.size))
  have hs01 := HB1.out.size
  have H2 := Lib.hid (And.intro hd2 (And.intro hp2 (show ∀ i, D.has i → w.heap.size ≤ i from fun i hi => Nat.le_trans hs01 (hh2 i hi))))
  have hzc := Blk.new w2 32 zeroD
  unfold ptr
  clear hd2 hr2 hp2 hh2 hg2 hb2 hone k1 HMD
  go_upto_region 5 with (refine wpList_store_row rfl 32 _ _ rfl w2.heap.size #[lv, .slice none 0 0, .int .i64 0, fv] rfl rfl 32 _ hzc (size_rdisk _ _ _ _) rfl HONE.out ?_; rw [World.setRow_alloc_new])
  obtain ⟨w3, e3⟩ : ∃ w3, w3 = w2.alloc (.cells #[lv, .slice none 0 0, .int .i64 0, fv] 32) := ⟨_, rfl⟩
  have hb3 : Below w2.heap.size w2 w3 := by rw [e3]; exact (Below.refl _ w2).alloc (Nat.le_refl _) _
  rw [← e3]
  clear e3 hzc
  have K3 := K2.below hb3 K2.lt
  have c2 := K3.cell_is 2 x2
  have HB3 := Lib.hid (HB2.out.trans (hb3.mono HB2.out.size))
  obtain ⟨hd2, hp2, hh2⟩ := H2.out
  have HD3 := Lib.hid (hd2.below hb3)
  have HP3 := Lib.hid ((hp2.below hb3 (Nat.le_refl _)).mono hb3.size)
  have HDW := Lib.hid hh2
  have HDLT := Lib.hid (fun i hi => hd2.has_lt i hi)
  have hs23 := hb3.size
  obtain ⟨f1, f2, f3, f4⟩ := disk17_facts HFI.out
  have hcl := countI_len x0.n
  have hnn := HFI.out.n
  have HNA := Lib.hid (newc_ok D (disk17 x0) x0.room (.slice pa (countI x0.n).length pc) (countI x0.n) w3 HD3.out f1 HP3.out HRO.out (by omega) (places_any HFI.out))
  have HNB := Lib.hid (fun X (hX : Below w3.heap.size w3 X) => newc_ok D (disk17 x0) room (.slice pa (countI x0.n).length pc) (countI x0.n) X (HD3.out.below hX) f1 ((HP3.out.below hX (Nat.le_refl _)).mono hX.size) HRM.out (by omega) (places_any HFI.out))
  rw [HROO.out] at HNA
  unfold ptr at HNA HNB
  clear hd2 hp2 hh2 f1 f2 f3 f4 hcl hnn H2 hb3 K2
  go_wp2_with fail
  refine HNA.out.mono ?_; rintro e w4 ⟨A, rfl, hap, ha4, hb4, hA4⟩
  have K4 := K3.below hb4 K3.lt
  have hs34 := hb4.size
  have HA := Lib.hid (And.intro hap (And.intro ha4 (And.intro hb4 hA4)))
  clear hap ha4 hb4 hA4 c2
  go_wp2_with fail
  refine (HNB.out _ HA.out.2.2.1).mono ?_; rintro e w5 ⟨B, rfl, hbp, hb5, hbb5, hB5⟩
  have K5 := K4.below hbb5 K4.lt
  have hs45 := hbb5.size
  have c0w := K5.cell_is 0 x0c
  have hl5 := K5.lt
  have HBB := Lib.hid (And.intro hbp (And.intro hb5 (And.intro hbb5 hB5)))
  clear hbp hb5 hbb5 hB5 K4 K3
  rw [EV0.out] at c0w
  have HB5 := Lib.hid (show Below w3.heap.size w3 w5 from HA.out.2.2.1.trans (HBB.out.2.2.1.mono HA.out.2.2.1.size))
  have HBW5 := Lib.hid (HB3.out.trans (HB5.out.mono HB3.out.size))
  have HOB5 := Lib.hid (show ObjsIn (w5.alloc (.cells #[] 47)) w.heap.size (.slice a0 x.objs.length c0) x.objs from by
   rw [← EV0.out]
   exact HOB.out.below (HBW5.out.alloc HBW5.out.size _) (Nat.le_refl _))
  have HNX := Lib.hid (show 0 < x.objs.length ∧ x.objs.length ≤ 12 from by
   have h := HFI.out.n
   unfold WorldD.n at h
   rw [HOS.out] at h
   omega)
  have ow : (w5.alloc (.cells #[] 47)).ownsRow w5.heap.size 47 163 (.slice (some ⟨w5.heap.size, 0, none⟩) 0 0) 0 [] := ⟨rfl, .inr ⟨_, 0, #[], rfl, Nat.le_refl _, heap_alloc_new w5 _, Nat.le_refl _, by simp, rfl, rfl⟩⟩
  go_wp2_with (at_builtin; refine wpList_append_objs _ rfl _ _ rfl w5.heap.size w.heap.size _ rfl ow a0 c0 x.objs rfl HOB5.out (by have := HNX.out; omega) HNX.out.1 (by simp) ?_; intro gn cap w6 hN6 hg6)
  have hb6 : Below w5.heap.size w5 w6 := ((Below.refl _ w5).alloc (Nat.le_refl _) _).grown hg6 (by simp) (fun r hr => by cases hr; exact Nat.le_refl _)
  have hB6 := hN6.blk.1
  have hLI : RoL w (fun i => D.has i ∨ A.own i ∨ B.own i) gn A.g B.g w5.heap.size cap x.objs.length x0.objs w6 x0.objs 0 := by
   obtain ⟨hap, ha4, hb4, hA4⟩ := HA.out
   obtain ⟨hbp, hb5, hbb5, hB5⟩ := HBB.out
   have q3 : Below w3.heap.size w3 w6 := HB5.out.trans (hb6.mono HB5.out.size)
   have q4 : Below w4.heap.size w4 w6 := hbb5.trans (hb6.mono hbb5.size)
   have sD := HDLT.out
   have sA := ha4.has_lt
   have sB := hb5.has_lt
   refine ⟨⟨D, A, B, newC (disk17 x0) x.room (countI x0.n), newC (disk17 x0) room (countI x0.n), rfl, rfl, fun i => Iff.rfl, ⟨⟨HD3.out.below q3, ha4.below q4, hap, fun i hd ha => ?_⟩, ⟨HD3.out.below q3, hb5.below hb6, hbp, fun i hd hb => ?_⟩, rfl, fun i ha hb => ?_, ?_, newC_ok HFI.out HRM.out.1, rm_start HFI.out HFA.out _, rm_start HFI.out HFA.out _⟩, fun i hi => ?_⟩, by rw [HOS.out]; exact hN6, by rw [HOS.out], HBW5.out.size, HBW5.out.trans (hb6.mono HBW5.out.size)⟩
   ·have := sD i hd; have := hA4 i ha; omega
   ·have := sD i hd; have := hB5 i hb; omega
   ·have := sA i ha; have := hB5 i hb; omega
   ·have h := newC_ok HFI.out HRO.out.1
    rwa [HROO.out] at h
   ·have hw2 := HB2.out.size
    have hw3 := HB3.out.size
    rcases hi with hi | hi | hi
    ·exact ⟨HDW.out i hi, by have := sD i hi; omega⟩
    ·exact ⟨by have := hA4 i hi; omega, by have := sA i hi; omega⟩
    ·exact ⟨by have := hB5 i hi; omega, by have := sB i hi; omega⟩
  obtain ⟨ag, eag⟩ : ∃ ag, ag = A.g := ⟨_, rfl⟩
  obtain ⟨bg, ebg⟩ : ∃ bg, bg = B.g := ⟨_, rfl⟩
  obtain ⟨B5, eB5⟩ : ∃ B5, B5 = w5.heap.size := ⟨_, rfl⟩
  rw [← eag, ← ebg, ← eB5] at hLI
  rw [← eag, ← ebg]
  obtain ⟨F, eF⟩ : ∃ F : Nat → Prop, F = fun i => D.has i ∨ A.own i ∨ B.own i := ⟨_, rfl⟩
  rw [← eF] at hLI
  have HLI := Lib.hid hLI
  clear hLI eF eB5 eag ebg hb6 hB6 hN6 hg6 ow K5 c0w hl5 HDW HDLT HNA HNB HA HBB HB5 HBW5 HOB5 hs01 hs12 hs23 hs34 hs45 x2 x0c HB3 HB2 HB1 HB HSM HSX HOB EV0
  obtain ⟨os, eos⟩ : ∃ os, os = x0.objs := ⟨_, rfl⟩
  rw [← eos] at HLI
  clear eos
  obtain ⟨nn, enn⟩ : ∃ nn, nn = x.objs.length := ⟨_, rfl⟩
  rw [← enn] at HLI HNX ⊢
  clear enn
  go_upto_region 9 with fail
  go_loopw [16] (fun i wr => ∃ (j : Nat) (now : List ObjD), j ≤ acts.length ∧ i = .int .i64 j ∧ Hid (RoL w F gn ag bg B5 cap nn os wr now (2 * (j : Int)))) (fun i _ => acts.length - (intOf i).toNat)
  case atStart => exact ⟨0, os, by omega, rfl, HLI⟩
  case round =>
   obtain ⟨j, now, hj, rfl, HL⟩ := hrel
   by_cases hlt : j < acts.length
   ·have i2 : (j : Int) < (acts.length : Int) := by omega
    obtain ⟨y, hy⟩ : ∃ y, acts[j]? = some y := ⟨_, List.getElem?_eq_getElem hlt⟩
    obtain ⟨hya, g, off, rfl, hg, hrng⟩ := (HO.out.below HL.out.out (Nat.le_refl _)).at_ hy
    have HYA := Lib.hid hya
    have hzA := Blk.new wr 49 Tryz.zeroCells49
    obtain ⟨acp, eacp⟩ : ∃ ac, ac = y.cells.toArray := ⟨_, rfl⟩
    have HEA := Lib.hid eacp
    have HAI := Lib.hid (show (Tryz.prog.info? 49).map (·.size) = some acp.size by rw [eacp]; exact act_info hya)
    have HAZ := Lib.hid (show (Tryz.zeroCells49 : Array Value).size = acp.size by rw [eacp, show y.cells.toArray.size = 167 from by rw [List.size_toArray, ActD.len hya]]; kernel_rfl)
    have HAO := Lib.hid (show acp.all (·.oneCell') = true by rw [eacp]; exact act_ones y)
    have hac0 : acp[0]? = some (.int .i64 y.what) := by rw [eacp]; rfl
    have hac1 : acp[1]? = some (.int .i64 y.oid) := by rw [eacp]; rfl
    have hac2 : acp[2]? = some (.int .i64 y.at_) := by rw [eacp]; rfl
    have ar : ∀ (X : World) (g : Nat), Blk X g 49 acp → X.rangeAt g 3 y.o.cells := fun X g h => by rw [eacp] at h; exact act_range h
    have AR := Lib.hid ar
    obtain ⟨cl, ecl⟩ : ∃ cl, cl = y.cells := ⟨_, rfl⟩
    have hsl : (Tryz.prog.info? 49).map (·.size) = some cl.length := by rw [ecl, ActD.len hya]; kernel_rfl
    have hcl : cl.toArray = acp := by rw [ecl, eacp]
    rw [← ecl] at hrng
    have HCL := Lib.hid hcl
    clear hy eacp ecl hya hcl ar
    go_upto_region 12 with (first
     | (refine wpList_load_mid rfl 49 _ rfl g (off + j * 167) rfl cl _ hrng Tryz.underlying49 rfl hsl ?_; rw [HCL.out])
     | (refine wpList_store_row rfl 49 _ _ rfl wr.heap.size acp rfl rfl 49 _ hzA HAI.out HAZ.out HAO.out ?_; rw [World.setRow_alloc_new]))
    obtain ⟨Z, eZ⟩ : ∃ Z, Z = wr.alloc (.cells acp 49) := ⟨_, rfl⟩
    have hbZ : Below wr.heap.size wr Z := by rw [eZ]; exact (Below.refl _ _).alloc (Nat.le_refl _) _
    have kA : Blk Z wr.heap.size 49 acp := by rw [eZ]; exact Blk.new _ _ _
    rw [← eZ]
    clear eZ
    have cA := kA.cell_is 0 hac0
    have HLZ := Lib.hid (HL.out.below hbZ)
    have hnF : ¬ F wr.heap.size := fun h => by have := (HL.out.ro.lt _ h).2.2; omega
    obtain ⟨G, eG⟩ : ∃ G, G = wr.heap.size := ⟨_, rfl⟩
    rw [← eG] at kA cA hnF
    rw [← eG]
    clear eG hbZ HL hrng hsl hzA
    by_cases hw1 : y.what = 1
    ·rw [hw1] at cA
     clear hw1
     have c1 := kA.cell_is 1 hac1
     have HOL := Lib.hid (show (Tryz.prog.info? 47).map (·.size) = some y.o.cells.length by rw [ObjD.len HYA.out.o]; kernel_rfl)
     have HTI := Lib.hid (obj_info y.o HYA.out.o)
     have HT1 := Lib.hid (obj_ones y.o)
     obtain ⟨pe, epe⟩ : ∃ pe, pe = rmP os y.oid y.o := ⟨_, rfl⟩
     obtain ⟨now2, en2⟩ : ∃ n2, n2 = rmN os now y.oid y.o := ⟨_, rfl⟩
     have HPA := Lib.hid ((HLZ.out.ro.below (Below.refl _ Z).drew).put HLZ.out.gn.1 HLZ.out.gn.2.2.2 y.oid y.o HYA.out.o)
     have HPB := Lib.hid (fun X (h : RoI w F gn bg ag X os now now2 (2 * (j : Int) + 1)) (hg : gn < X.heap.size) (hw : w.heap.size ≤ X.heap.size) => h.put hg hw y.oid y.o HYA.out.o)
     have HN2 := Lib.hid (And.intro epe en2)
     have HSET := Lib.hid (fun X (q : Nat) (h : NowAt X B5 gn cap now) (hq : q < now.length) => h.set hq y.o HYA.out.o)
     have HOT := Lib.hid (fun X (q : Nat) => out_setCells (F := fun i => i = gn) gn rfl y.o.cells (q * 163) X)
     have HOSZ := Lib.hid (show y.o.cells.toArray.size = 163 by rw [List.size_toArray, ObjD.len HYA.out.o])
     rw [← epe, ← en2] at HPA HPB
     obtain ⟨oc, eoc⟩ : ∃ oc, oc = y.o.cells := ⟨_, rfl⟩
     rw [← eoc] at HOL HTI HT1 HPA HOSZ
     simp only [← eoc] at AR HPB HSET HOT
     clear epe en2 eoc
     go_upto_region 18 with fail
     clear cA
     refine jb (fun X => Out F Z X) (fun _ => True) 100 (outB (Below.refl _ _).drew) trivial fun hHeld hJ => ?_
     refine jk false 0 ?_
     refine jk false 1 ?_
     refine jk false 2 ?_ (hy := by intro X hX _; have hc := (hX.blk kA hnF).cell_is 1 hac1; go_simp; try with_reducible rfl)
     refine jk false 3 ?_
     refine jy false 4 rfl (yieldsIf_load_mid (by rfl) 47 _ rfl G 3 rfl oc _ (fun w' h => AR.out _ _ (h.1.blk kA hnF)) Tryz.underlying47 rfl HOL.out) ?_
     refine jk false 6 ?_
     refine jk false 7 ?_
     refine jk false 8 ?_ (hy := by intro X hX _; have hc := (hX.blk kA hnF).cell_is 1 hac1; go_simp; try with_reducible rfl)
     refine jk false 9 ?_
     refine jy false 10 rfl (yieldsIf_load_mid (by rfl) 47 _ rfl G 3 rfl oc _ (fun w' h => AR.out _ _ (h.1.blk kA hnF)) Tryz.underlying47 rfl HOL.out) ?_
     refine jr 5 fun K hK => ?_
     go_simp
     refine HPA.out.mono ?_; rintro r X1 ⟨rfl, hr1, ho1⟩
     dsimp only
     have hoX := hHeld.trans ho1 (fun i _ h => h)
     refine hK.out _ _ ⟨hoX, fun _ => trivial⟩ ?_
     clear hK K hHeld ho1
     have hHeld := hoX
     have hzs := hoX.size
     refine jr 11 fun K hK => ?_
     go_simp
     refine (HPB.out X1 hr1.swap (by have := HLZ.out.gn.1; omega) (by have := HLZ.out.gn.2.2.2; omega)).mono ?_; rintro r X2 ⟨rfl, hr2, ho2⟩
     dsimp only
     have hoX2 := hoX.trans ho2 (fun i _ h => h)
     refine hK.out _ _ ⟨hoX2, fun _ => trivial⟩ ?_
     clear hK K hHeld ho2 hoX hr1 hzs
     have hHeld := hoX2
     refine jk false 12 ?_
     refine jk false 13 ?_
     refine wpAnyJ_done (by kernel_rfl) ?_ _
     have kA2 := hoX2.blk kA hnF
     have d1 := kA2.cell_is 1 hac1
     have HR2 := Lib.hid hr2.swap
     have HO2 := Lib.hid (HLZ.out.out_ hoX2)
     have pn : (pe != pe) = false := by simp
     clear hHeld hoX2 hr2 kA c1 HPA HPB
     by_cases h0 : pe = 0
     ·have hr : 0 ≤ y.oid ∧ y.oid < (nn : Int) := by
       have h := HN2.out.1
       rw [h0] at h
       unfold rmP at h
       by_cases h3 : 0 ≤ y.oid ∧ y.oid < (os.length : Int)
       ·obtain ⟨D0, A0, B0, xa, xb, _, _, _, hR, _⟩ := HLZ.out.ro
        have := hR.ra.len
        have := HLZ.out.len
        omega
       ·rw [if_neg h3] at h; cases h
      have he2 := HN2.out.2
      unfold rmN at he2
      rw [← HN2.out.1, if_pos h0] at he2
      subst h0
      obtain ⟨q, hq⟩ : ∃ q : Nat, y.oid = (q : Int) := ⟨y.oid.toNat, by omega⟩
      rw [hq] at d1 hr he2 hac1
      rw [Int.toNat_natCast] at he2
      have hqn : q < nn := by omega
      have HTH := Lib.hid (show X2.there gn (q * 163) oc.toArray.size from by
       obtain ⟨_, cur, hb, _, h3, h1, _⟩ := HO2.out.1.blk
       have hl := HLZ.out.len
       exact there_blk hb _ _ (by rw [HOSZ.out, h3]; omega))
      have HFIN := Lib.hid (show RoL w F gn ag bg B5 cap nn os (X2.setCells gn (q * 163) oc) now2 (2 * ((j + 1 : Nat) : Int)) from by
       have hl := HLZ.out.len
       rw [show 2 * ((j + 1 : Nat) : Int) = 2 * (j : Int) + 1 + 1 by omega]
       refine ⟨HR2.out.out (HOT.out X2 q), by rw [he2]; exact HSET.out X2 q HO2.out.1 (by omega), by rw [he2, List.length_set]; exact hl, HLZ.out.lo, HO2.out.2.trans ((HOT.out X2 q).below HO2.out.2.size (fun i hi e => by have := HLZ.out.gn.2.1; omega))⟩)
      obtain ⟨h5, h6⟩ := hr
      clear hq he2 HR2 HLZ
      go_wp2_with fail
      refine (num17_any _ _).mono ?_; rintro e X3 ⟨rfl, rfl⟩
      have l3 : X3.rangeAt G 3 oc := AR.out X3 G kA2
      go_wp2_with (first
       | (refine wpList_load_mid rfl 47 _ rfl G 3 rfl oc _ l3 Tryz.underlying47 rfl HOL.out ?_)
       | (refine wpList_store_mid rfl 47 _ _ rfl gn (q * 163) oc.toArray rfl rfl HTH.out HTI.out HT1.out ?_)
       | fail)
      exact ⟨⟨j + 1, now2, by omega, by go_num, HFIN⟩, by simp [intOf]; omega⟩
     ·have he2 := HN2.out.2
      unfold rmN at he2
      rw [← HN2.out.1, if_neg h0] at he2
      have HFIN := Lib.hid (show RoL w F gn ag bg B5 cap nn os X2 now2 (2 * ((j + 1 : Nat) : Int)) from by
       rw [show 2 * ((j + 1 : Nat) : Int) = 2 * (j : Int) + 1 + 1 by omega]
       exact ⟨HR2.out, by rw [he2]; exact HO2.out.1, by rw [he2]; exact HLZ.out.len, HLZ.out.lo, HO2.out.2⟩)
      have hpe : (pe == 0) = false := by simpa using h0
      clear he2 HR2 HLZ h0
      go_wp2_with fail
      refine (num17_any _ _).mono ?_; rintro e X3 ⟨rfl, rfl⟩
      go_wp2_with fail
      exact ⟨⟨j + 1, now2, by omega, by go_num, HFIN⟩, by simp [intOf]; omega⟩
    ·by_cases hw2 : y.what = 2
     ·rw [hw2] at cA
      clear hw1 hw2
      go_upto_region 24 with fail
      have HE := Lib.hid (HLZ.out.ro.evict HLZ.out.gn.1 HLZ.out.gn.2.2.2 y.at_ HYA.out.i)
      have c2 := kA.cell_is 2 hac2
      clear cA
      go_wp2_with fail
      refine HE.out.mono ?_; rintro e X1 ⟨⟨o1, b1, rfl⟩, hr1, ho1⟩
      have HFIN := Lib.hid (show RoL w F gn ag bg B5 cap nn os X1 now (2 * ((j + 1 : Nat) : Int)) from ⟨hr1.mono (by omega), (HLZ.out.out_ ho1).1, HLZ.out.len, HLZ.out.lo, (HLZ.out.out_ ho1).2⟩)
      clear hr1 ho1 kA c2
      go_wp2_with fail
      exact ⟨⟨j + 1, now, by omega, by go_num, HFIN⟩, by simp [intOf]; omega⟩
     ·have e1 : (y.what == 1) = false := by simpa using hw1
      have e2 : (y.what == 2) = false := by simpa using hw2
      clear hw1 hw2
      go_upto_region 13 with fail
      have HE := Lib.hid (HLZ.out.ro.get HLZ.out.gn.1 HLZ.out.gn.2.2.2 (by omega) y.oid)
      have HE2 := Lib.hid (fun X (h : RoI w F gn ag bg X os now now (2 * (j : Int) + 1)) (hg : gn < X.heap.size) (hw : w.heap.size ≤ X.heap.size) => h.swap.get hg hw (by omega) y.oid)
      have c1 := kA.cell_is 1 hac1
      have hok := HLZ.out.rmO_ok y.oid
      have HOE := Lib.hid (fun X => obj_equalIn 9996 _ _ hok hok X)
      rw [show objEq (rmO os now y.oid) (rmO os now y.oid) = true from (objEq_iff _ _).2 rfl] at HOE
      have HOI := Lib.hid (obj_info _ hok)
      have HOS := Lib.hid (obj_size0 _ hok)
      have HO1 := Lib.hid (obj_ones (rmO os now y.oid))
      have HRG := Lib.hid (fun X (h : NowAt X B5 gn cap now) (q : Nat) (hq : y.oid = (q : Int)) (hn : q < nn) => HLZ.out.rmO_range h hq hn)
      obtain ⟨rc, erc⟩ : ∃ rc, rc = (rmO os now y.oid).cells.toArray := ⟨_, rfl⟩
      rw [← erc] at HE HE2 HOE HOI HOS HO1 HRG
      obtain ⟨ge, ege⟩ : ∃ ge, ge = rmE os y.oid := ⟨_, rfl⟩
      simp only [← ege] at HE HE2
      have HGE := Lib.hid ege
      clear erc ege hok cA
      go_wp2_with fail
      refine HE.out.mono ?_; rintro e X1 ⟨rfl, hr1, ho1⟩
      have k1 := ho1.blk kA hnF
      have d1 := k1.cell_is 1 hac1
      have HN1 := Lib.hid (HLZ.out.out_ ho1)
      have HL1 := Lib.hid (show RoL w F gn ag bg B5 cap nn os X1 now (2 * (j : Int) + 1) from ⟨hr1, HN1.out.1, HLZ.out.len, HLZ.out.lo, HN1.out.2⟩)
      clear hr1 ho1 c1 kA HN1 HLZ
      have hz1 := Blk.new X1 47 Tryz.zeroCells47
      rw [zeroObj] at hz1
      go_upto_region 14 with (first
       | (refine wpList_store_row rfl 47 _ _ rfl X1.heap.size rc rfl rfl 47 _ hz1 HOI.out HOS.out HO1.out ?_; rw [World.setRow_alloc_new])
       | fail)
      obtain ⟨Y1, eY1⟩ : ∃ Y, Y = X1.alloc (.cells rc 47) := ⟨_, rfl⟩
      have hb1 : Below X1.heap.size X1 Y1 := by rw [eY1]; exact (Below.refl _ _).alloc (Nat.le_refl _) _
      have t1 : Blk Y1 X1.heap.size 47 rc := by rw [eY1]; exact Blk.new _ _ _
      rw [← eY1]
      clear eY1 hz1 d1
      have k2 := k1.below hb1 k1.lt
      have d1 := k2.cell_is 1 hac1
      have n1 : ¬ F X1.heap.size := fun h => by have := (HL1.out.ro.lt _ h).2.2; omega
      have HL2 := Lib.hid (HL1.out.below hb1)
      clear k1 hb1 HL1
      obtain ⟨G1, eG1⟩ : ∃ G1, G1 = X1.heap.size := ⟨_, rfl⟩
      rw [← eG1] at t1 n1 ⊢
      clear eG1
      go_wp2_with fail
      refine (HE2.out Y1 HL2.out.ro HL2.out.gn.1 HL2.out.gn.2.2.2).mono ?_; rintro e X2 ⟨rfl, hr2, ho2⟩
      have k3 := ho2.blk k2 hnF
      have t2 := ho2.blk t1 n1
      have HN2 := Lib.hid (HL2.out.out_ ho2)
      have HL3 := Lib.hid (show RoL w F gn ag bg B5 cap nn os X2 now (2 * ((j + 1 : Nat) : Int)) from by
       rw [show 2 * ((j + 1 : Nat) : Int) = 2 * (j : Int) + 1 + 1 by omega]
       exact ⟨hr2.swap, HN2.out.1, HL2.out.len, HL2.out.lo, HN2.out.2⟩)
      clear hr2 ho2 d1 k2 t1 HN2 HL2
      have hz2 := Blk.new X2 47 Tryz.zeroCells47
      rw [zeroObj] at hz2
      go_upto_region 15 with (first
       | (refine wpList_store_row rfl 47 _ _ rfl X2.heap.size rc rfl rfl 47 _ hz2 HOI.out HOS.out HO1.out ?_; rw [World.setRow_alloc_new])
       | fail)
      obtain ⟨Y2, eY2⟩ : ∃ Y, Y = X2.alloc (.cells rc 47) := ⟨_, rfl⟩
      have hb2 : Below X2.heap.size X2 Y2 := by rw [eY2]; exact (Below.refl _ _).alloc (Nat.le_refl _) _
      have t4 : Blk Y2 X2.heap.size 47 rc := by rw [eY2]; exact Blk.new _ _ _
      rw [← eY2]
      clear eY2 hz2
      have k4 := k3.below hb2 k3.lt
      have t3 := t2.below hb2 t2.lt
      have HL4 := Lib.hid (HL3.out.below hb2)
      clear k3 t2 hb2 HL3
      obtain ⟨G2, eG2⟩ : ∃ G2, G2 = X2.heap.size := ⟨_, rfl⟩
      rw [← eG2] at t4 ⊢
      clear eG2
      have HIR := Lib.hid (show (Tryz.prog.info? 47).map (·.size) = some rc.toList.length by simpa using HOI.out)
      have pge : (ge != ge) = false := by simp
      by_cases hr : 0 ≤ y.oid ∧ y.oid < (nn : Int)
      ·have h0 : ge = 0 := by rw [HGE.out]; unfold rmE; rw [if_pos (by rw [HL4.out.os_len]; exact hr)]
       subst h0
       obtain ⟨q, hq⟩ : ∃ q : Nat, y.oid = (q : Int) := ⟨y.oid.toNat, by omega⟩
       have HRQ := Lib.hid (HRG.out Y2 HL4.out.row q hq (by omega))
       have HGN := Lib.hid HL4.out.gn.1
       rw [hq] at hr hac1
       obtain ⟨h5, h6⟩ := hr
       have hqn : q < nn := by omega
       have e5 : decide ((q : Int) < 0) = false := by simp
       have e6 : decide (nn ≤ q) = false := by simpa using hqn
       clear hq HRG HGE
       go_upto_region 15 with fail
       refine jb (fun X => Below Y2.heap.size Y2 X) (fun _ => True) 100 (Below.refl _ _).drew trivial fun hHeld hJ => ?_
       refine jy false 0 rfl (yieldsIf_load_mid (by rfl) 47 _ rfl G1 0 rfl rc.toList _ (fun w' h => blk_range (t3.below h.1 t3.lt)) Tryz.underlying47 rfl HIR.out) ?_
       refine jy false 1 rfl (yieldsIf_load_mid (by rfl) 47 _ rfl G2 0 rfl rc.toList _ (fun w' h => blk_range (t4.below h.1 t4.lt)) Tryz.underlying47 rfl HIR.out) ?_
       refine jy false 2 rfl (yieldsIf_neq_agg (by rfl) 47 _ _ _ rfl rc rc rfl rfl (by kernel_rfl) true (fun w' _ => HOE.out w')) ?_
       refine jk false 3 ?_
       refine jk false 4 ?_
       refine jk false 5 ?_
       refine jk false 6 ?_
       refine jk false 7 ?_
       refine jk false 8 ?_
       refine jk false 9 ?_
       refine jr 10 fun K hK => ?_
       go_simp
       refine (num17_any _ _).mono ?_; rintro r X ⟨rfl, rfl⟩
       dsimp only
       refine hK.out _ _ ⟨hHeld, fun _ => trivial⟩ ?_
       clear hK K
       refine jk false 11 ?_
       refine jk false 12 ?_
       refine jk false 13 ?_
       refine jk false 14 ?_ (hy := by intro X hX _; have hc := (k4.below hX k4.lt).cell_is 1 hac1; go_simp; try with_reducible rfl)
       refine jk false 15 ?_
       refine jk false 16 ?_
       refine jk false 17 ?_
       refine jk false 18 ?_ (hy := by intro X hX _; have hc := (k4.below hX k4.lt).cell_is 1 hac1; go_simp; try with_reducible rfl)
       refine jk false 19 ?_
       refine jk false 20 ?_
       refine jk false 21 ?_
       refine jk false 22 ?_
       refine jk false 23 ?_
       refine jy false 24 rfl (yieldsIf_load_mid (by rfl) 47 _ rfl G1 0 rfl rc.toList _ (fun w' h => blk_range (t3.below h.1 t3.lt)) Tryz.underlying47 rfl HIR.out) ?_
       refine jk false 25 ?_
       refine jk false 26 ?_
       refine jk false 27 ?_ (hy := by intro X hX _; have hc := (k4.below hX k4.lt).cell_is 1 hac1; go_simp; try with_reducible rfl)
       refine jk false 28 ?_
       refine jy false 29 rfl (yieldsIf_load_mid (by rfl) 47 _ rfl gn (q * 163) rfl rc.toList _ (fun w' h => range_below HRQ.out h.1 HGN.out) Tryz.underlying47 rfl HIR.out) ?_
       refine jy false 30 rfl (yieldsIf_neq_agg (by rfl) 47 _ _ _ rfl rc rc rfl rfl (by kernel_rfl) true (fun w' _ => HOE.out w')) ?_
       refine jk false 31 ?_
       refine jk false 32 ?_
       refine jk false 33 ?_
       refine wpAnyJ_done (by kernel_rfl) ?_ _
       have HLD := Lib.hid (HL4.out.below hHeld)
       clear hHeld HL4
       go_wp2_with fail
       exact ⟨⟨j + 1, now, by omega, by go_num, HLD⟩, by simp [intOf]; omega⟩
      ·have h0 : ge = 4 := by rw [HGE.out]; unfold rmE; rw [if_neg (by rw [HL4.out.os_len]; exact hr)]
       subst h0
       clear HRG HGE
       go_upto_region 15 with fail
       refine jb (fun X => Below Y2.heap.size Y2 X) (fun _ => True) 100 (Below.refl _ _).drew trivial fun hHeld hJ => ?_
       refine jy false 0 rfl (yieldsIf_load_mid (by rfl) 47 _ rfl G1 0 rfl rc.toList _ (fun w' h => blk_range (t3.below h.1 t3.lt)) Tryz.underlying47 rfl HIR.out) ?_
       refine jy false 1 rfl (yieldsIf_load_mid (by rfl) 47 _ rfl G2 0 rfl rc.toList _ (fun w' h => blk_range (t4.below h.1 t4.lt)) Tryz.underlying47 rfl HIR.out) ?_
       refine jy false 2 rfl (yieldsIf_neq_agg (by rfl) 47 _ _ _ rfl rc rc rfl rfl (by kernel_rfl) true (fun w' _ => HOE.out w')) ?_
       refine jk false 3 ?_
       refine jk false 4 ?_
       refine jk false 5 ?_
       refine jk false 6 ?_
       refine jk false 7 ?_
       refine jk false 8 ?_
       refine jk false 9 ?_
       refine jr 10 fun K hK => ?_
       go_simp
       refine (num17_any _ _).mono ?_; rintro r X ⟨rfl, rfl⟩
       dsimp only
       refine hK.out _ _ ⟨hHeld, fun _ => trivial⟩ ?_
       clear hK K
       refine jk false 11 ?_
       refine jk false 12 ?_
       refine ju 13 ?_
       refine ju 14 ?_
       refine ju 15 ?_
       refine ju 16 ?_
       refine ju 17 ?_
       refine ju 18 ?_
       refine ju 19 ?_
       refine ju 20 ?_
       refine ju 21 ?_
       refine ju 22 ?_
       refine ju 23 ?_
       refine ju 24 ?_
       refine ju 25 ?_
       refine ju 26 ?_
       refine ju 27 ?_
       refine ju 28 ?_
       refine ju 29 ?_
       refine ju 30 ?_
       refine ju 31 ?_
       refine jk false 32 ?_
       refine jk false 33 ?_
       refine wpAnyJ_done (by kernel_rfl) ?_ _
       have HLD := Lib.hid (HL4.out.below hHeld)
       clear hHeld HL4
       go_wp2_with fail
       exact ⟨⟨j + 1, now, by omega, by go_num, HLD⟩, by simp [intOf]; omega⟩
   ·obtain rfl : j = acts.length := by omega
    have i2 : ¬ (acts.length : Int) < (acts.length : Int) := by omega
    have HL0 := Lib.hid (show RoL w F gn ag bg B5 cap nn os wr now (80 + ((0 : Nat) : Int)) from ⟨HL.out.ro.mono (by omega), HL.out.row, HL.out.len, HL.out.lo, HL.out.out⟩)
    clear HL HLI
    go_upto_region 26 with fail
    go_loopw [24] (fun i ws => ∃ j : Nat, j ≤ nn ∧ i = .int .i64 j ∧ Hid (RoL w F gn ag bg B5 cap nn os ws now (80 + (j : Int)))) (fun i _ => nn - (intOf i).toNat)
    case atStart => exact ⟨0, by omega, rfl, HL0⟩
    case round =>
     obtain ⟨j, hj, rfl, HL⟩ := hrel
     by_cases hlt : j < nn
     ·have i3 : (j : Int) < (nn : Int) := by omega
      have HJN := Lib.hid hlt
      have hn12 : nn ≤ 12 := HNX.out.2
      have HE := Lib.hid (HL.out.ro.get HL.out.gn.1 HL.out.gn.2.2.2 (by have := HNX.out; omega) (j : Int))
      have hok := HL.out.rmO_ok (j : Int)
      have HOE := Lib.hid (fun X => obj_equalIn 9996 _ _ hok hok X)
      rw [show objEq (rmO os now (j : Int)) (rmO os now (j : Int)) = true from (objEq_iff _ _).2 rfl] at HOE
      have HOI := Lib.hid (obj_info _ hok)
      have HOS := Lib.hid (obj_size0 _ hok)
      have HO1 := Lib.hid (obj_ones (rmO os now (j : Int)))
      have HRG := Lib.hid (fun X (h : NowAt X B5 gn cap now) => HL.out.rmO_range h (rfl : (j : Int) = (j : Int)) HJN.out)
      rw [show rmE os (j : Int) = 0 by unfold rmE; rw [if_pos (by rw [HL.out.os_len]; exact ⟨by omega, i3⟩)]] at HE
      obtain ⟨rc, erc⟩ : ∃ rc, rc = (rmO os now (j : Int)).cells.toArray := ⟨_, rfl⟩
      rw [← erc] at HE HOE HOI HOS HO1 HRG
      clear erc hok
      go_wp2_with fail
      refine HE.out.mono ?_; rintro e X1 ⟨rfl, hr1, ho1⟩
      have HN1 := Lib.hid (HL.out.out_ ho1)
      have HL1 := Lib.hid (show RoL w F gn ag bg B5 cap nn os X1 now (80 + ((j + 1 : Nat) : Int)) from by
       rw [show 80 + ((j + 1 : Nat) : Int) = 80 + (j : Int) + 1 by omega]
       exact ⟨hr1, HN1.out.1, HL.out.len, HL.out.lo, HN1.out.2⟩)
      clear hr1 ho1 HN1 HL HE
      have hz1 := Blk.new X1 47 Tryz.zeroCells47
      rw [zeroObj] at hz1
      go_upto_region 29 with (first
       | (refine wpList_store_row rfl 47 _ _ rfl X1.heap.size rc rfl rfl 47 _ hz1 HOI.out HOS.out HO1.out ?_; rw [World.setRow_alloc_new])
       | fail)
      obtain ⟨Y1, eY1⟩ : ∃ Y, Y = X1.alloc (.cells rc 47) := ⟨_, rfl⟩
      have hb1 : Below X1.heap.size X1 Y1 := by rw [eY1]; exact (Below.refl _ _).alloc (Nat.le_refl _) _
      have t1 : Blk Y1 X1.heap.size 47 rc := by rw [eY1]; exact Blk.new _ _ _
      rw [← eY1]
      clear eY1 hz1
      have HL2 := Lib.hid (HL1.out.below hb1)
      have HRQ := Lib.hid (HRG.out Y1 HL2.out.row)
      have HGN := Lib.hid HL2.out.gn.1
      clear hb1 HL1 HRG
      obtain ⟨G1, eG1⟩ : ∃ G1, G1 = X1.heap.size := ⟨_, rfl⟩
      rw [← eG1] at t1 ⊢
      clear eG1
      have HIR := Lib.hid (show (Tryz.prog.info? 47).map (·.size) = some rc.toList.length by simpa using HOI.out)
      refine jb (fun X => Below Y1.heap.size Y1 X) (fun _ => True) 100 (Below.refl _ _).drew trivial fun hHeld hJ => ?_
      refine jy false 0 rfl (yieldsIf_load_mid (by rfl) 47 _ rfl G1 0 rfl rc.toList _ (fun w' h => blk_range (t1.below h.1 t1.lt)) Tryz.underlying47 rfl HIR.out) ?_
      refine jk false 1 ?_
      refine jk false 2 ?_
      refine jk false 3 ?_
      refine jy false 4 rfl (yieldsIf_load_mid (by rfl) 47 _ rfl gn (j * 163) rfl rc.toList _ (fun w' h => range_below HRQ.out h.1 HGN.out) Tryz.underlying47 rfl HIR.out) ?_
      refine jy false 5 rfl (yieldsIf_neq_agg (by rfl) 47 _ _ _ rfl rc rc rfl rfl (by kernel_rfl) true (fun w' _ => HOE.out w')) ?_
      refine jk false 6 ?_
      refine jk false 7 ?_
      refine jr 8 fun K hK => ?_
      go_simp
      refine (num17_any _ _).mono ?_; rintro r X ⟨rfl, rfl⟩
      dsimp only
      refine hK.out _ _ ⟨hHeld, fun _ => trivial⟩ ?_
      clear hK K
      refine jk false 9 ?_
      refine jk false 10 ?_
      refine wpAnyJ_done (by kernel_rfl) ?_ _
      have HLD := Lib.hid (HL2.out.below hHeld)
      clear hHeld HL2
      go_wp2_with fail
      exact ⟨⟨j + 1, by omega, by go_num, HLD⟩, by simp [intOf]; omega⟩
     ·obtain rfl : j = nn := by omega
      have i3 : ¬ (j : Int) < (j : Int) := by omega
      go_wp2_with fail
      refine (num17_any _ _).mono ?_; rintro e wa ⟨rfl, rfl⟩
      go_wp2_with fail
      refine (num17_any _ _).mono ?_; rintro e wb ⟨rfl, rfl⟩
      go_wp2_with fail
      refine (works17_any _).mono ?_; rintro e wz ⟨rfl, hbz⟩
      go_wp2_with fail
      go_ret
      exact ⟨rfl, HL.out.out.trans (hbz.mono HL.out.out.size)⟩
end Go.Proofs.YtemcgfncahccgaaGreat
namespace Go.Proofs.YtemcgfncahccgaaGreat
open Go.ChangeShapes Go.WideShapes Go.ChangeAt Go.RowKit Go.Deep

set_option maxRecDepth 100000 in
theorem cacheRooms_lifted (os : Os) (started : os.Started) (H : Type) (enc : TypeId × Value → H) :
  ReturnsInHanded {} Tryz.checked os 3 .any (Rows.cacheRoomsSpec.pre6 enc Tryz.prog Tryz.f3 Rows.cacheRoomsRow.domain false) (Rows.cacheRoomsSpec.post enc Tryz.prog Tryz.f3 false true false false) := by
 refine returnsInHanded_of_change (C := Tryz.checked) own started (by kernel_rfl) Tryz.func3
  (ChangeSpec.witness6 (enc := enc) (C := Tryz.checked) false ⟨#[], #[.agg #[.slice none 0 0, .int .i64 0, .int .i64 0, .slice none 0 0], .int .i64 0, .slice none 0 0], []⟩ 8 (by kernel_rfl) (by kernel_rfl) (by kernel_rfl) (by kernel_rfl)) ?_
 intro W base args ds gs before hval0 hW hcnd _
 have hval : ∀ (j : Nat) t v, Tryz.f3.params[j]? = some t → args[j]? = some v → Value.okWide Tryz.prog W .any base t v := hval0
 have hW' := hW
 obtain ⟨p, q, hA0, hV, rfl, hfz, hnd⟩ := hW
 have hA : DataW.TrodAll enc Tryz.prog W 0 (fun _ => true) true Tryz.f3.params.toList args.toList ds p := hA0
 rw [Tryz.params3] at hA hval
 obtain ⟨v0, vs0, d0, ds0, p0, q0, hargs, rfl, rfl, h0, hA1⟩ := trodAll_cons hA
 obtain ⟨v1, vs1, d1, ds1, p1, q1, rfl, rfl, rfl, h1, hA2⟩ := trodAll_cons hA1
 obtain ⟨v2, vs2, d2, ds2, p2, q2, rfl, rfl, rfl, h2, hA3⟩ := trodAll_cons hA2
 obtain ⟨rfl, rfl, rfl⟩ : vs2 = [] ∧ ds2 = [] ∧ q2 = [] := by
  cases vs2 <;> cases ds2 <;> simp [DataW.TrodAll] at hA3
  exact ⟨rfl, rfl, hA3⟩
 obtain rfl : args = #[v0, v1, v2] := Array.ext' hargs
 obtain ⟨rfl, rfl⟩ := trodVars_none hV
 obtain ⟨x, hx⟩ := open_world (hval 0 _ v0 rfl rfl) h0
 obtain ⟨room, rfl, _⟩ := open_intI (hval 1 _ v1 rfl rfl) h1
 obtain ⟨l, hl⟩ := open_acts (hval 2 _ v2 rfl rfl) h2
 clear hA0 hval0
 refine (rooms17_any x v0 v2 room l W hx hl).mono fun e W' ⟨he, hb⟩ => ?_
 subst he
 exact ⟨_, rfl, law_post laidOut (by rw [Tryz.params3]; intro t ht; simp at ht; rcases ht with rfl | rfl | rfl <;> exact ⟨by kernel_rfl, of_decide_eq_true (by kernel_rfl)⟩) rfl Tryz.underlying4 rfl hW' rfl hb⟩

theorem cacheRooms_holds : Rows.CacheRoomsSaid :=
 OpenClaim.holds_of_wide 3 Tryz.f3 rfl rfl rfl rfl rfl rfl rfl ⟨rfl, rfl, rfl, rfl, rfl⟩ rfl rfl rfl rfl rfl (by kernel_rfl) Tryz.func3 (by kernel_rfl)
  (of_decide_eq_true (by kernel_rfl)) (by unfold Func.isWrapper; first | (rw [if_pos (by decide +kernel)]; kernel_rfl) | (rw [if_neg (by decide +kernel)]; exact ⟨rfl, rfl⟩))
  (fun os started H enc _ => cacheRooms_lifted os started H enc)

end Go.Proofs.YtemcgfncahccgaaGreat
