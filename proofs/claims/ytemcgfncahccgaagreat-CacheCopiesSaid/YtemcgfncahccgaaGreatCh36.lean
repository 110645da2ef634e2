/-
  A world, as data; its disk by both.
  The statements' made.
  The program's New: its closure; arguments that may not be.
-/
import Derived.Test.YtemcgfncahccgaaGreatCh24
import Derived.Test.YtemcgfncahccgaaGreatCh26
import Derived.Test.YtemcgfncahccgaaGreatCh27
import Derived.Test.YtemcgfncahccgaaGreatCh34
import Derived.Test.YtemcgfncahccgaaGreatCh35
set_option linter.unusedVariables false
set_option linter.unusedSimpArgs false
namespace Go.Proofs.YtemcgfncahccgaaGreat
open Go.RowKit Go.Shelf

/-- a world -/
structure WorldD where
 objs : List ObjD
 more : Int
 room : Int
 fails : List Int
def WorldD.n (x : WorldD) : Nat := x.objs.length
/-- what is asked of a world's objects: they are -/
structure WorldD.fine (x : WorldD) : Prop where
 ok : ∀ o ∈ x.objs, o.ok ∧ rightsOk o ∧ (∀ s ∈ o.slots, I64 s.v) ∧ objB o x.n = true
 n : 1 ≤ x.n ∧ x.n ≤ 12
 more : 0 ≤ x.more ∧ x.more ≤ 8
 fails : x.fails.length ≤ 20
 fi : ∀ m ∈ x.fails, m ≤ 9223372036854775807
def WorldIn (W : World) (B : Nat) (v : Value) (x : WorldD) : Prop := ∃ vo vf, v = .agg #[vo, .int .i64 x.more, .int .i64 x.room, vf] ∧ ObjsIn W B vo x.objs ∧ IntsIn W B vf x.fails
theorem WorldIn.up {W W' : World} {v : Value} {x : WorldD} (h : WorldIn W W.heap.size v x) (hb : Below W.heap.size W W') : WorldIn W' W'.heap.size v x := by
 obtain ⟨vo, vf, rfl, h1, h2⟩ := h
 exact ⟨vo, vf, rfl, (h1.below hb (Nat.le_refl _)).mono hb.size, (h2.below hb (Nat.le_refl _)).mono hb.size⟩
def secsL (l : List ObjD) : List UInt8 := l.flatMap fun o => sectorL (objL o)
def allL17 (x : WorldD) : List UInt8 := secsL x.objs ++ List.replicate (512 * x.more.toNat) 0
def countI (n : Nat) : List Int := (List.range n).map fun (k : Nat) => (k : Int)
theorem secsL_snoc (l : List ObjD) (o : ObjD) : secsL (l ++ [o]) = secsL l ++ sectorL (objL o) := by simp [secsL]
theorem secsL_len : ∀ (l : List ObjD), (∀ o ∈ l, o.ok) → (secsL l).length = 512 * l.length
 | [], _ => rfl
 | o :: l, h => by
  show (sectorL (objL o) ++ secsL l).length = _
  rw [List.length_append, sectorL_len _ (by rw [objL_len o (h o List.mem_cons_self)]; decide), secsL_len l (fun y hy => h y (List.mem_cons_of_mem _ hy)), List.length_cons]
  omega
theorem countI_next (j : Nat) : countI (j + 1) = countI j ++ [(j : Int)] := by simp [countI, List.range_succ]
theorem countI_len (n : Nat) : (countI n).length = n := by simp [countI]
theorem rows_ne {w : World} {B1 B2 k1 k2 n1 n2 : Nat} {e1 e2 : TypeId} {v1 v2 : Value} {xs1 xs2 : List Value} (h1 : w.ownsRow B1 e1 k1 v1 n1 xs1) (h2 : w.ownsRow B2 e2 k2 v2 n2 xs2) (he : e1 ≠ e2) : v1.ownBlock = none ∨ v1.ownBlock ≠ v2.ownBlock := by
 cases hv : v1.ownBlock with
 | none => exact .inl rfl
 | some g =>
  refine .inr fun e => ?_
  rcases h1.2 with ⟨rfl, _⟩ | ⟨g1, c1, cur1, rfl, _, hg1, _⟩
  ·cases hv
  ·rcases h2.2 with ⟨rfl, _⟩ | ⟨g2, c2, cur2, rfl, _, hg2, _⟩
   ·cases e
   ·have e1' : g1 = g := by simpa [Value.ownBlock] using hv
    have e2' : g = g2 := by simpa [Value.ownBlock] using e
    subst e1' e2'
    rw [hg1] at hg2
    cases hg2
    exact he rfl
/-- the disk with the steps named that fail, if all may be -/
def failed17 (x : DiskD) (l : List Int) : DiskD := if l.all (fun n => decide (0 ≤ n)) = true then { x with fails := failsL x.steps l } else x
theorem dfail17 (D : DiskP) (x : DiskD) (v : Value) (l : List Int) (w : World) (h : DiskAt w D x) (hx : x.ok) (hl : IntsIn w w.heap.size v l) (hfar : l ≠ [] → ∀ g, v.ownBlock = some g → ¬ D.has g) (hi : ∀ n ∈ l, n ≤ 9223372036854775807) (hlen : l.length ≤ 1000) :
  Calls Tryz.prog 35 #[ptr D.p, v] w fun e w' => ∃ ge D', e = .returned (.int .i64 ge) ∧ DiskAt w' D' (failed17 x l) ∧ DStep D D' w w' := by
 refine (dfail_any D x v l w h hx hl hfar hi hlen).mono fun e w' h' => ?_
 rcases h' with ⟨h1, h2, D', h3, h4⟩ | ⟨h1, h2, h3⟩
 ·exact ⟨0, D', h2, by unfold failed17; rw [if_pos h1]; exact h3, h4⟩
 ·exact ⟨2, D, h2, by unfold failed17; rw [if_neg (by rw [h1]; decide)]; exact h.below h3, (DStep.refl D w).below h3⟩
theorem rdfail17 (x : DiskD) (lv wv fv v : Value) (l : List Int) (w : World) (h : RDisk w w.heap.size lv wv fv x) (hx : x.ok) (hl : IntsIn w w.heap.size v l) (hi : ∀ n ∈ l, n ≤ 9223372036854775807) (hlen : l.length ≤ 1000) (hfv : ∀ g, fv.ownBlock = some g → g < w.heap.size) :
  Calls Tryz.prog 36 #[.agg #[lv, wv, .int .i64 x.steps, fv], v] w fun e w' => ∃ fv' er, e = .returned (.tuple #[.agg #[lv, wv, .int .i64 x.steps, fv'], .int .i64 er]) ∧ RDisk w' w'.heap.size lv wv fv' (failed17 x l) ∧ VNew w.heap.size w'.heap.size fv fv' ∧ Below w.heap.size w w' := by
 obtain ⟨s0, s1⟩ : 0 ≤ x.steps ∧ x.steps ≤ 1000000000000 := ⟨hx.2.2.2.2.1, hx.2.2.2.2.2.1⟩
 have hone2 : lv.oneCell' = true ∧ wv.oneCell' = true := by
  obtain ⟨_, _, _, rfl, _⟩ := h.lasts
  obtain ⟨_, _, _, _, rfl, _⟩ := h.waits
  exact ⟨rfl, rfl⟩
 refine (rdfail_any x.steps lv wv fv v l w s0 s1 (h.one _) hone2 hl hi hlen).mono fun e w' h' => ?_
 obtain ⟨hb, ⟨h1, fv', h2, h3, h4, h5⟩ | ⟨h1, h2⟩⟩ := h'
 ·refine ⟨fv', 0, h2, ?_, ?_, hb⟩
  ·unfold failed17
   rw [if_pos h1]
   have hr := (h.below hb (Nat.le_refl _)).mono hb.size
   exact ⟨hr.lasts, hr.waits, h3⟩
  ·exact fun g hg => .inr ⟨h4 g hg, h5 g hg⟩
 ·refine ⟨fv, 2, h2, ?_, VNew.refl _ _ _, hb⟩
  unfold failed17
  rw [if_neg (by rw [h1]; decide)]
  exact (h.below hb (Nat.le_refl _)).mono hb.size
end Go.Proofs.YtemcgfncahccgaaGreat
namespace Go.Proofs.YtemcgfncahccgaaGreat
open Go.RowKit Go.Shelf

def disk17 (x : WorldD) : DiskD := failed17 (ofDisk (x.n + x.more.toNat) (allL17 x)) x.fails
theorem size_world (a b c d : Value) : (Tryz.prog.info? 25).map (·.size) = some (#[a, b, c, d] : Array Value).size := by
 show _ = some 4
 kernel_rfl
theorem allL17_len {x : WorldD} (h : ∀ o ∈ x.objs, o.ok) : (allL17 x).length = 512 * (x.n + x.more.toNat) := by
 unfold allL17 WorldD.n
 rw [List.length_append, secsL_len _ h, List.length_replicate]
 omega
theorem results_tmp_row_tmp2 {P : Program} {fn : Func} {p q r t : Tmp} {ty : TypeId} (h : fn.results = #[.tmp p, .cell q ty, .tmp r, .tmp t]) (tmps : Array Value) (w : World) (a b c d : Value) (g : Nat)
  (hp : tmps.getD p undef = a) (hq : tmps.getD q undef = .pointer (some ⟨g, 0, none⟩)) (hb : (loadVar ty ⟨g, 0, none⟩).run P w = .ok b w) (hr : tmps.getD r undef = c) (ht : tmps.getD t undef = d) :
  (results fn tmps).run P w = .ok (.tuple #[a, b, c, d]) w := by
 have hp' : tmps[p]?.getD undef = a := by simpa using hp
 have hq' : tmps[q]?.getD undef = .pointer (some ⟨g, 0, none⟩) := by simpa using hq
 have hr' : tmps[r]?.getD undef = c := by simpa using hr
 have ht' : tmps[t]?.getD undef = d := by simpa using ht
 simp [results, h, hp', hq', hr', ht', asAddr, hb]
def Made17 (x : WorldD) (w : World) (e : Ending) (w' : World) : Prop := ∃ D lv fv pv, e = .returned (.tuple #[ptr D.p, .agg #[lv, .slice none 0 0, .int .i64 0, fv], pv, .bool true]) ∧ DiskAt w' D (disk17 x) ∧ RDisk w' w'.heap.size lv (.slice none 0 0) fv (disk17 x) ∧
 IntsIn w' w'.heap.size pv (countI x.n) ∧ (∀ i, D.has i → w.heap.size ≤ i) ∧ (∀ g, (lv.ownBlock = some g ∨ fv.ownBlock = some g ∨ pv.ownBlock = some g) → (w.heap.size ≤ g ∧ g < w'.heap.size) ∧ ¬ D.has g) ∧ Below w.heap.size w w'
set_option maxRecDepth 100000 in
set_option maxHeartbeats 4000000 in
theorem made17_any (x : WorldD) (hx : x.fine) (v : Value) (w : World) (hv : WorldIn w w.heap.size v x) : Calls Tryz.prog 13 #[v] w (Made17 x w) := by
 obtain ⟨vo, vf, rfl, ho, hf⟩ := hv
 have HOB := Lib.hid ho
 have HFA := Lib.hid hf
 have HX := Lib.hid hx
 have hn := hx.n
 have hmo := hx.more
 obtain ⟨-, ao, co, rfl, -, -⟩ := ho
 obtain ⟨-, af, cf, rfl, -, -⟩ := hf
 obtain ⟨ib, zb, HTB⟩ := rowG_int
 obtain ⟨L, eL⟩ : ∃ L, L = x.objs := ⟨_, rfl⟩
 have hnL : x.n = L.length := by rw [eL]; rfl
 rw [← eL] at HOB ⊢
 obtain ⟨XV, eXV⟩ : ∃ XV : Array Value, XV = #[.slice ao L.length co, .int .i64 x.more, .int .i64 x.room, .slice af x.fails.length cf] := ⟨_, rfl⟩
 have x0 : XV[0]? = some (.slice ao L.length co) := by rw [eXV]; rfl
 have x1 : XV[1]? = some (.int .i64 x.more) := by rw [eXV]; rfl
 have x3 : XV[3]? = some (.slice af x.fails.length cf) := by rw [eXV]; rfl
 obtain ⟨W, eW⟩ : ∃ W, W = (w.alloc (.cells XV 25)).alloc (.cells zeroD 32) := ⟨_, rfl⟩
 have hbW : Below w.heap.size w W := by rw [eW]; exact ((Below.refl _ w).alloc (Nat.le_refl _) _).alloc (by simp) _
 have k0 : Blk W w.heap.size 25 XV := by rw [eW]; exact (Blk.new w _ _).alloc _
 have k1 : Blk W (w.heap.size + 1) 32 zeroD := by rw [eW]; exact Blk.new2 w _ _ _
 have hL12 : 1 ≤ L.length ∧ L.length ≤ 12 := by omega
 rw [← eXV]
 have HEL := Lib.hid eL
 have HNL := Lib.hid hnL
 clear hn hx eXV eL hnL
 go_enter Tryz.func13, Tryz.ntmps13
 go_upto_region 1 with fail
 rw [← eW]
 clear eW
 go_wp2_with fail
 go_loopw [6, 7, 8] (fun sa sp i wr => ∃ j : Nat, j ≤ L.length ∧ i = .int .i64 j ∧ wr.ownsRow w.heap.size 5 1 sa (512 * j) ((secsL (L.take j)).map vu8) ∧ wr.ownsRow w.heap.size 3 1 sp j ((countI j).map (Value.int .i64)) ∧ Blk wr w.heap.size 25 XV ∧ Blk wr (w.heap.size + 1) 32 zeroD ∧ Below w.heap.size w wr) (fun _ _ i _ => L.length - (intOf i).toNat)
 case atStart => exact ⟨0, by omega, rfl, World.ownsRow_nil _ _ _ _, World.ownsRow_nil _ _ _ _, k0, k1, hbW⟩
 case round =>
  obtain ⟨j, hj, rfl, hA, hP, hK, hK1, hB⟩ := hrel
  have c0 := hK.cell_is 0 x0
  by_cases hlt : j < L.length
  ·have i2 : (j : Int) < (L.length : Int) := by omega
   have hAA := Lib.hid hA
   have hPP := Lib.hid hP
   clear hA hP
   obtain ⟨o, ho⟩ : ∃ o, L[j]? = some o := ⟨_, List.getElem?_eq_getElem hlt⟩
   obtain ⟨hok, hro, g, off, rfl, hg, hrng⟩ := (HOB.out.below hB (Nat.le_refl _)).at_ ho
   obtain ⟨-, -, hsl, hob⟩ := HX.out.ok o (by rw [← HEL.out]; exact List.mem_of_getElem? ho)
   rw [HNL.out] at hob
   have HPUT := Lib.hid (fun X => rput5_yes o hok hro hsl (L.length : Int) X hob)
   have hsb : (sectorL (objL o)).length = 512 := sectorL_len _ (by rw [objL_len o hok]; decide)
   have HSN := Lib.hid (show secsL (L.take (j + 1)) = secsL (L.take j) ++ sectorL (objL o) by rw [List.take_add_one, ho]; exact secsL_snoc _ _)
   obtain ⟨sb, esb⟩ : ∃ sb, sb = sectorL (objL o) := ⟨_, rfl⟩
   obtain ⟨oc, eoc⟩ : ∃ oc, oc = o.cells := ⟨_, rfl⟩
   have soc : (Tryz.prog.info? 47).map (·.size) = some oc.length := by rw [eoc, ObjD.len hok]; kernel_rfl
   rw [← esb] at HPUT hsb HSN
   rw [← eoc] at HPUT hrng
   have HSB := Lib.hid hsb
   unfold sectorV at HPUT
   have hgw : g < wr.heap.size := by have := hB.size; omega
   have hKl := hK.lt
   clear hro hsl hob hok esb eoc ho hsb
   go_upto_region 6 with fail
   refine' wp_merge (_ : Nat → Act) (fun G Y => Blk Y G 84 (sb.map vu8).toArray ∧ Below wr.heap.size wr Y ∧ wr.heap.size ≤ G) ?_ ?_
   rotate_left 1
   ·refine jb (fun Y => Below wr.heap.size wr Y) (fun _ => True) 100 (Below.refl _ _).drew trivial fun hHeld hJ => ?_
    refine jk false 0 ?_
    refine jk false 1 ?_ (hy := by intro Y hY _; have hc := (Below.cell hY (p := ⟨w.heap.size, 0, none⟩) hKl).trans c0; go_simp; try with_reducible rfl)
    refine jk false 2 ?_
    refine jk false 3 ?_
    refine jy false 4 rfl (yieldsIf_load_mid (by rfl) 47 _ rfl g (off + j * 163) rfl oc _ (fun w' h => range_below hrng h.1 hgw) Tryz.underlying47 rfl soc) ?_
    refine jk false 5 ?_
    refine jk false 6 ?_ (hy := by intro Y hY _; have hc := (Below.cell hY (p := ⟨w.heap.size, 0, none⟩) hKl).trans c0; go_simp; try with_reducible rfl)
    refine jk false 7 ?_
    refine jr2 8 12 (fun K hK => ?_) (fun K hK => ?_)
    ·go_simp
     refine (HPUT.out wr.drew).mono ?_; rintro r Y ⟨rfl, hb⟩
     have hbY : Below wr.heap.size wr Y := (Below.refl _ wr).drew.trans hb
     dsimp only
     refine hK.out _ _ ⟨hbY, fun _ => trivial⟩ ?_
     clear hK K hHeld hb
     have hHeld := hbY
     refine jk false 9 ?_
     refine jk false 10 ?_
     refine jk false 11 ?_
     refine jr 12 fun K hK => ?_
     go_simp
     have hz := hbY.alloc hbY.size (.cells Tryz.zeroCells84 84)
     have bz : Blk (Y.alloc (.cells Tryz.zeroCells84 84)) Y.heap.size 84 (sector0.map vu8).toArray := by rw [← zero111]; exact Blk.new _ _ _
     have hl := hbY.size
     obtain ⟨Z, eZ⟩ : ∃ Z, Z = Y.alloc (.cells Tryz.zeroCells84 84) := ⟨_, rfl⟩
     rw [← eZ] at bz hz ⊢
     clear eZ
     obtain ⟨G, eG⟩ : ∃ G, G = Y.heap.size := ⟨_, rfl⟩
     rw [← eG] at bz hl ⊢
     clear eG hHeld
     have hHeld := hz
     refine hK.out _ _ ⟨hz, fun _ => trivial⟩ ?_
     clear hK K
     refine jr 13 fun K hK => ?_
     rw [if_pos (show Region.wanted _ _ = true from rfl)]
     refine wp_store_row 84 _ _ rfl G (sb.map vu8).toArray rfl rfl 84 _ bz (sector_size _ HSB.out) (sector_eq _ _ List.length_replicate HSB.out) (sector_all _) ?_
     have bz4 := bz.row (sb.map vu8).toArray
     have hz4 := below_row hz (sb.map vu8).toArray (g := G) hl
     refine hK.out _ _ ⟨hz4, fun _ => trivial⟩ ?_
     clear hK K
     have hHeld := hz4
     refine jk false 14 ?_
     refine wpAnyJ_done (by kernel_rfl) ?_ _
     refine ⟨G, ?_, bz4, hz4, hl⟩
     with_reducible rfl
    ·go_simp
     have hz : Below wr.heap.size wr (wr.alloc (.cells Tryz.zeroCells84 84)).drew := ((Below.refl wr.heap.size wr).alloc (Nat.le_refl _) _).drew
     have bz : Blk (wr.alloc (.cells Tryz.zeroCells84 84)).drew wr.heap.size 84 (sector0.map vu8).toArray := by rw [← zero111]; exact (Blk.new wr _ _).drew
     obtain ⟨Z, eZ⟩ : ∃ Z, Z = (wr.alloc (.cells Tryz.zeroCells84 84)).drew := ⟨_, rfl⟩
     rw [← eZ] at bz hz ⊢
     clear eZ
     obtain ⟨G, eG⟩ : ∃ G, G = wr.heap.size := ⟨_, rfl⟩
     have hl : wr.heap.size ≤ G := by omega
     rw [← eG] at bz ⊢
     clear eG hHeld
     refine hK.out _ _ ⟨hz, fun _ => trivial⟩ ?_
     clear hK K
     have hHeld := hz
     refine jr 8 fun K hK => ?_
     go_simp
     refine (HPUT.out Z).mono ?_; rintro r Y ⟨rfl, hb⟩
     have hbY : Below wr.heap.size wr Y := hz.trans (hb.mono hz.size)
     have bz2 := bz.below hb bz.lt
     clear hb bz
     dsimp only
     refine hK.out _ _ ⟨hbY, fun _ => trivial⟩ ?_
     clear hK K hHeld
     have hHeld := hbY
     refine jk false 9 ?_
     refine jk false 10 ?_
     refine jk false 11 ?_
     refine jr 13 fun K hK => ?_
     rw [if_pos (show Region.wanted _ _ = true from rfl)]
     refine wp_store_row 84 _ _ rfl G (sb.map vu8).toArray rfl rfl 84 _ bz2 (sector_size _ HSB.out) (sector_eq _ _ List.length_replicate HSB.out) (sector_all _) ?_
     have bz4 := bz2.row (sb.map vu8).toArray
     have hz4 := below_row hbY (sb.map vu8).toArray (g := G) hl
     refine hK.out _ _ ⟨hz4, fun _ => trivial⟩ ?_
     clear hK K hHeld
     have hHeld := hz4
     refine jk false 14 ?_
     refine wpAnyJ_done (by kernel_rfl) ?_ _
     refine ⟨G, ?_, bz4, hz4, hl⟩
     with_reducible rfl
   rintro G Y ⟨bG, hbY, hGl⟩
   have hAY := ownsRow_out (F := fun _ => False) (outB hbY) hAA.out (fun _ _ => id)
   have hPY := ownsRow_out (F := fun _ => False) (outB hbY) hPP.out (fun _ _ => id)
   have kY := hK.below hbY hK.lt
   have k1Y := hK1.below hbY hK1.lt
   have hBY := hB.trans (hbY.mono hB.size)
   have hbin := blk_bytes bG 512 (by rw [HSB.out]; exact Nat.le_refl _) (by rw [HSB.out]; unfold maxLen; omega)
   rw [HSB.out, List.take_of_length_le (by rw [HSB.out]; exact Nat.le_refl _)] at hbin
   have HAY := Lib.hid hAY
   have HPY := Lib.hid hPY
   have HKY := Lib.hid kY
   have HK1 := Lib.hid k1Y
   have HBY := Lib.hid hBY
   have HBIN := Lib.hid hbin
   clear hAA hPP hK hK1 hB c0 hrng HPUT hAY hPY kY k1Y hBY hbin bG hbY x0 x1 x3 soc
   go_upto_region 8 with (at_builtin; refine wpList_append_bytes Y rfl (.tmp 34) (.tmp 35) rfl w.heap.size Y.heap.size (512 * j) u6 _ rfl HAY.out (some ⟨G, 0, none⟩) 512 512 sb rfl HSB.out HBIN.out (by omega) HBY.out.size ?_; intro u4 w4 hO4 hg4)
   have hn65 := rows_ne HPY.out HAY.out (by decide)
   have hA4 := hO4.alloc (.cells #[.int .i64 (j : Int)] 3)
   have hP4 := (HPY.out.kept hg4 hn65).alloc (.cells #[.int .i64 (j : Int)] 3)
   have hK4 : Blk w4 w.heap.size 25 XV := (hg4.block _ HKY.out.lt (fun e => ne_own HAY.out HKY.out (by decide) _ e.symm rfl)).trans HKY.out
   have hK14 : Blk w4 (w.heap.size + 1) 32 zeroD := (hg4.block _ HK1.out.lt (fun e => ne_own HAY.out HK1.out (by decide) _ e.symm rfl)).trans HK1.out
   have hB4 := HBY.out.grown hg4 HBY.out.size (fun r hr => (HAY.out.lt r hr).1)
   have hB5 := hB4.alloc hB4.size (.cells #[.int .i64 (j : Int)] 3)
   have hnew := blk_range (Blk.new w4 3 #[.int .i64 (j : Int)])
   have hK5 := hK4.alloc (.cells #[.int .i64 (j : Int)] 3)
   have hK15 := hK14.alloc (.cells #[.int .i64 (j : Int)] 3)
   have HA4 := Lib.hid hA4
   have HP4 := Lib.hid hP4
   have HK5 := Lib.hid hK5
   have HK15 := Lib.hid hK15
   have HB5 := Lib.hid hB5
   have HNEW := Lib.hid hnew
   clear hO4 hg4 hn65 hA4 hP4 hK4 hK14 hB4 hB5 hnew hK5 hK15 HAY HPY HKY HK1 HBY HBIN
   go_wp2_with (at_builtin; refine wpList_append_one HTB (by decide) (by decide) (w4.alloc (.cells #[.int .i64 (j : Int)] 3)) rfl (.tmp 37) (.tmp 39) rfl w.heap.size j u7 _ rfl HP4.out w4.heap.size 1 [.int .i64 (j : Int)] rfl rfl (by simp [Value.oneCell']) HNEW.out (by omega) HB5.out.size ?_; intro u5 w5 hO5 hg5)
   go_roundw
   case rel =>
    refine ⟨j + 1, by omega, by go_num, ?_, ?_, (hg5.block _ HK5.out.lt (fun e => ne_own HP4.out HK5.out (by decide) _ e.symm rfl)).trans HK5.out, (hg5.block _ HK15.out.lt (fun e => ne_own HP4.out HK15.out (by decide) _ e.symm rfl)).trans HK15.out, HB5.out.grown hg5 HB5.out.size (fun r hr => (HP4.out.lt r hr).1)⟩
    ·rw [HSN.out, List.map_append, Nat.mul_add]
     exact HA4.out.kept hg5 (rows_ne HA4.out HP4.out (by decide))
    ·rw [countI_next, List.map_append]
     exact hO5
   case measure => simp [intOf]; omega
  ·obtain rfl : j = L.length := by omega
   have i2 : ¬ (L.length : Int) < (L.length : Int) := by omega
   have hAA := Lib.hid hA
   have hPP := Lib.hid hP
   clear hA hP
   go_upto_region 9 with fail
   obtain ⟨ga, ca, rfl⟩ : ∃ ga ca, u6 = .slice (some ⟨ga, 0, none⟩) (512 * L.length) ca := by
    rcases hAA.out.2 with ⟨_, h0⟩ | ⟨ga, ca, cur, rfl, _⟩
    ·omega
    ·exact ⟨ga, ca, rfl⟩
   obtain ⟨m, hm⟩ : ∃ m : Nat, x.more = (m : Int) := ⟨x.more.toNat, by omega⟩
   have hm8 : (m : Int) ≤ 8 := by omega
   have hmn : m ≤ 8 := by omega
   have HM := Lib.hid hm
   rw [hm] at x1
   have c1 := hK.cell_is 1 x1
   have HK := Lib.hid hK
   have HK1 := Lib.hid hK1
   have HB := Lib.hid hB
   rw [List.take_length] at hAA
   have hgaw : ga < wr.heap.size := ownBlock_lt hAA.out rfl
   clear hm hK hK1 hB c0 x0 x1 hmo
   go_upto_region 10 with (at_builtin; refine wpList_append_zeros wr rfl (.tmp 41) (.tmp 44) rfl w.heap.size (512 * L.length) ga ca _ rfl hAA.out (512 * m) (by show Value.int .i64 (512 * (m : Int)) = _; rw [show ((512 * m : Nat) : Int) = 512 * (m : Int) by omega]) (by omega) HB.out.size ?_; intro u4 w4 hO4 hg4)
   obtain ⟨a4, c4, rfl⟩ := slice_form hO4
   have hP4 := hPP.out.kept hg4 (rows_ne hPP.out hAA.out (by decide))
   have hK4 : Blk w4 w.heap.size 25 XV := (hg4.block _ HK.out.lt (fun e => ne_own hAA.out HK.out (by decide) _ e.symm rfl)).trans HK.out
   have hK14 : Blk w4 (w.heap.size + 1) 32 zeroD := (hg4.block _ HK1.out.lt (fun e => ne_own hAA.out HK1.out (by decide) _ e.symm rfl)).trans HK1.out
   have hB4 := HB.out.grown hg4 HB.out.size (fun r hr => (hAA.out.lt r (by cases hr; rfl)).1)
   have hall : secsL L ++ List.replicate (512 * m) 0 = allL17 x := by unfold allL17; rw [HEL.out, HM.out]; rfl
   have hO4' : w4.ownsRow w.heap.size 5 1 (.slice a4 (512 * L.length + 512 * m) c4) (512 * L.length + 512 * m) ((allL17 x).map vu8) := by
    rw [← hall, List.map_append, List.map_replicate]; exact hO4
   have HBY := Lib.hid (BytesIn.own hO4')
   have hlen : (allL17 x).length = 512 * (L.length + m) := by rw [allL17_len (fun o ho => (HX.out.ok o ho).1), HNL.out, HM.out]; rfl
   have HLA := Lib.hid hlen
   have HOF := Lib.hid (dof_any (.slice a4 (512 * L.length + 512 * m) c4) (allL17 x) (L.length + m) w4 HBY.out hlen (by omega) (by omega))
   have HOA := Lib.hid hO4'
   have HP4 := Lib.hid hP4
   have HK4 := Lib.hid hK4
   have HK14 := Lib.hid hK14
   have HB4 := Lib.hid hB4
   clear hO4 hg4 hP4 hK4 hK14 hB4 hall hO4' hlen hAA hPP HK HK1 HB c1
   go_wp2_with fail
   refine HOF.out.mono ?_; rintro e w5 ⟨D, rfl, hD5, hhas, hb5⟩
   obtain ⟨y0, ey0⟩ : ∃ y, y = ofDisk (L.length + m) (allL17 x) := ⟨_, rfl⟩
   have hyo : y0.ok := by rw [ey0]; exact ofDisk_ok _ _ HLA.out (by omega) (by omega)
   have hfl : flatL y0 = allL17 x := by rw [ey0]; exact flatL_of _ _ HLA.out
   have hst0 : y0.steps = 0 := by rw [ey0]; rfl
   have hwt0 : y0.waits = [] := by rw [ey0]; rfl
   have hfl0 : y0.fails = [] := by rw [ey0]; rfl
   have hdk : disk17 x = failed17 y0 x.fails := by unfold disk17; rw [ey0, HNL.out, HM.out]; rfl
   rw [← ey0] at hD5
   have hs45 := hb5.size
   have hs4 := HB4.out.size
   have K5 := Lib.hid (HK4.out.below hb5 HK4.out.lt)
   have K15 := Lib.hid (HK14.out.below hb5 HK14.out.lt)
   have B5 := Lib.hid (HB4.out.trans (hb5.mono HB4.out.size))
   have A5 := Lib.hid (ownsRow_out (F := fun _ => False) (outB hb5) HOA.out (fun _ _ => id))
   have P5 := Lib.hid (ownsRow_out (F := fun _ => False) (outB hb5) HP4.out (fun _ _ => id))
   have HHAS := Lib.hid hhas
   have hlw4 := HK4.out.lt
   have hlw41 := HK14.out.lt
   have HLA4 := Lib.hid (fun g hg => HOA.out.lt g hg)
   have HLP4 := Lib.hid (fun g hg => HP4.out.lt g hg)
   have c3 := K5.out.cell_is 3 x3
   have HFI := Lib.hid (dfail17 D y0 (.slice af x.fails.length cf) x.fails w5 hD5 hyo ((HFA.out.below B5.out (Nat.le_refl _)).mono B5.out.size) (fun hne g hg hd => by
    obtain ⟨_, a', c', e, _, hc⟩ := HFA.out
    injection e with e1 _ _
    subst e1
    obtain ⟨z, hz⟩ := List.exists_mem_of_ne_nil _ hne
    obtain ⟨k, hk⟩ := List.mem_iff_getElem?.1 hz
    obtain ⟨g', off', e2, hg', _⟩ := hc k z hk
    subst e2
    have e3 : g' = g := by simpa [Value.ownBlock] using hg
    have := HHAS.out g hd
    omega) HX.out.fi (by have := HX.out.fails; omega))
   have HYO := Lib.hid hyo
   have HY := Lib.hid (And.intro hfl (And.intro hst0 (And.intro hwt0 (And.intro hfl0 hdk))))
   unfold ptr at HFI
   clear hyo hfl hst0 hwt0 hfl0 hdk hD5 hhas hb5 ey0 HOF HLA HBY HOA HP4 HK4 HK14 HB4
   unfold ptr
   go_wp2_with fail
   refine HFI.out.mono ?_; rintro e w6 ⟨ge, D6, rfl, hd6, hs6⟩
   have hs56 := hs6.out.size
   have hK56 := K5.out.lt
   have nD : ∀ i, i < w4.heap.size → ¬ D.has i := fun i hi hd => by have := HHAS.out i hd; omega
   have K6 := hs6.out.blk K5.out (nD _ (by omega))
   have K16 := Lib.hid (hs6.out.blk K15.out (nD _ (by omega)))
   have A6 := Lib.hid (ownsRow_out hs6.out A5.out (fun g hg => nD g (HLA4.out g hg).2))
   have P6 := Lib.hid (ownsRow_out hs6.out P5.out (fun g hg => nD g (HLP4.out g hg).2))
   have NA := Lib.hid (fun i hi => ne_own A6.out K16.out (by decide) i hi)
   have NP := Lib.hid (fun i hi => ne_own P6.out K16.out (by decide) i hi)
   have HDL := Lib.hid (fun i hi => hd6.has_lt i hi)
   have HSM := Lib.hid hs6.same
   have hb6 : Below w.heap.size w w6 := (outB B5.out : Out (fun i => w.heap.size ≤ i) w w5).trans hs6.out (fun i _ hd => by have := HHAS.out i hd; omega) |>.below (Nat.le_refl _) (fun i hi hw => by omega)
   have HB6 := Lib.hid hb6
   have c3 := K6.cell_is 3 x3
   have D6' := Lib.hid (And.intro hd6 hs6.new_)
   obtain ⟨hfl, hst0, hwt0, hfl0, hdk⟩ := HY.out
   have hrd : RDisk w6 w6.heap.size (.slice a4 (512 * L.length + 512 * m) c4) (.slice none 0 0) (.slice none 0 0) y0 := ⟨by rw [hfl]; exact BytesIn.own A6.out, by rw [hwt0]; exact ⟨by show 0 ≤ 1000000; omega, fun y hy => (by cases hy), none, 0, rfl, fun i y hi => by cases hi⟩, by rw [hfl0]; exact IntsIn.nil _ _⟩
   have hrf := rdfail17 y0 (.slice a4 (512 * L.length + 512 * m) c4) (.slice none 0 0) (.slice none 0 0) (.slice af x.fails.length cf) x.fails w6 hrd HYO.out ((HFA.out.below hb6 (Nat.le_refl _)).mono hb6.size) HX.out.fi (by have := HX.out.fails; omega) (fun g hg => by cases hg)
   rw [hst0, ← hdk] at hrf
   rw [← hdk] at D6'
   have HRF := Lib.hid hrf
   clear hd6 hs6 hb6 hfl hst0 hwt0 hfl0 hdk hrd hrf HFI K5 K15 A5 P5 nD
   go_wp2_with fail
   refine HRF.out.mono ?_; rintro e w7 ⟨fv', er, rfl, hr7, hv7, hb7⟩
   have hone : (#[.slice a4 (512 * L.length + 512 * m) c4, .slice none 0 0, .int .i64 0, fv'] : Array Value).all (·.oneCell') = true := hr7.one 0
   have HONE := Lib.hid hone
   have H7 := Lib.hid (And.intro hr7 (And.intro hv7 hb7))
   have K17 := Lib.hid (K16.out.below hb7 K16.out.lt)
   have hs67 := hb7.size
   clear hone hr7 hv7 hb7 K16 K6 c3 HRF
   have hzc := Blk.new w7 32 zeroD
   go_upto_region 13 with (refine wpList_store_row rfl 32 _ _ rfl w7.heap.size #[.slice a4 (512 * L.length + 512 * m) c4, .slice none 0 0, .int .i64 0, fv'] rfl rfl 32 _ hzc (size_rdisk _ _ _ _) rfl HONE.out ?_; rw [World.setRow_alloc_new])
   obtain ⟨Z, eZ⟩ : ∃ Z, Z = w7.alloc (.cells #[.slice a4 (512 * L.length + 512 * m) c4, .slice none 0 0, .int .i64 0, fv'] 32) := ⟨_, rfl⟩
   have hbZ : Below w7.heap.size w7 Z := by rw [eZ]; exact (Below.refl _ w7).alloc (Nat.le_refl _) _
   have t13 : Blk Z w7.heap.size 32 #[.slice a4 (512 * L.length + 512 * m) c4, .slice none 0 0, .int .i64 0, fv'] := by rw [eZ]; exact Blk.new _ _ _
   have t3 := K17.out.below hbZ K17.out.lt
   have hsZ := hbZ.size
   have hlZ := t13.lt
   have hl3 := K17.out.lt
   rw [← eZ]
   clear eZ hzc
   have n13 : w7.heap.size ≠ w.heap.size + 1 := by omega
   refine jb (fun X => Out (fun i => i = w.heap.size + 1) Z X) (fun _ => True) 100 (outB (Below.refl _ _).drew) trivial fun hHeld hJ => ?_
   refine jk false 0 ?_
   refine jy false 1 rfl (yieldsIf_load_mid (by rfl) 32 _ rfl w7.heap.size 0 rfl [.slice a4 (512 * L.length + 512 * m) c4, .slice none 0 0, .int .i64 0, fv'] _ (fun w' h => blk_range (h.1.blk t13 n13)) Tryz.underlying32 rfl (size_rdisk _ _ _ _)) ?_
   refine jk false 2 ?_
   refine jk false 3 ?_
   refine jr 4 fun K hK => ?_
   go_simp
   refine (num17_any _ _).mono ?_; rintro r X3 ⟨rfl, rfl⟩
   dsimp only
   refine hK.out _ _ ⟨hHeld, fun _ => trivial⟩ ?_
   clear hK K
   refine jk false 5 ?_
   refine jk false 6 ?_
   refine jr 7 fun K hK => ?_
   rw [if_pos (show Region.wanted _ _ = true from rfl)]
   refine wp_store_row 32 _ _ rfl (w.heap.size + 1) #[.slice a4 (512 * L.length + 512 * m) c4, .slice none 0 0, .int .i64 0, fv'] rfl rfl 32 _ t3.drew (size_rdisk _ _ _ _) rfl HONE.out ?_
   have ho8 : Out (fun i => i = w.heap.size + 1) Z (Z.drew.setRow (w.heap.size + 1) #[.slice a4 (512 * L.length + 512 * m) c4, .slice none 0 0, .int .i64 0, fv']) := hHeld.trans (out_row (F := fun i => i = w.heap.size + 1) _ rfl) (fun _ _ h => h)
   have t9 := t3.drew.row #[.slice a4 (512 * L.length + 512 * m) c4, .slice none 0 0, .int .i64 0, fv']
   refine hK.out _ _ ⟨ho8, fun _ => trivial⟩ ?_
   clear hK K hHeld
   have hHeld := ho8
   refine jk false 8 ?_
   refine jk false 9 ?_
   refine wpAnyJ_done (by kernel_rfl) ?_ _
   go_wp2_with fail
   obtain ⟨hr7, hv7, hb7⟩ := H7.out
   obtain ⟨hd6, hn6⟩ := D6'.out
   have hge6 : ∀ i, D6.has i → w4.heap.size ≤ i := fun i hi => by
    rcases hn6 i hi with h | h
    ·exact HHAS.out i h
    ·omega
   have hb7Z : Below w6.heap.size w6 Z := hb7.trans (hbZ.mono hs67)
   refine bodyPost_ret (results_tmp_row_tmp2 Tryz.results13 _ _ (.pointer (some ⟨D.p, 0, none⟩)) _ u7 (.bool true) _ (by rfl) (by rfl) (load_rdisk t9) (by rfl) (by rfl)) rfl ⟨D6, .slice a4 (512 * L.length + 512 * m) c4, fv', u7, by rw [show D6.p = D.p from HSM.out]; rfl, ?_, ?_, ?_, fun i hi => ?_, fun g hg => ⟨⟨?_, ?_⟩, fun hd => ?_⟩, ?_⟩
   ·exact (hd6.below hb7Z).out ho8 (fun i hi e => by have := hge6 i hi; omega)
   ·refine (((hr7.below hbZ (Nat.le_refl _)).outO ho8 (fun g hg e => ?_) (fun g hg e => by cases hg) (fun g hg e => ?_))).mono (Nat.le_trans hsZ ho8.size)
    ·exact NA.out g hg e
    ·rcases hv7 g hg with h | h
     ·cases h
     ·omega
   ·have h6 := IntsIn.own (l := countI x.n) (by rw [countI_len, HNL.out]; exact P6.out) (by rw [countI_len]; have := HX.out.n; omega)
    exact ((h6.below hb7Z (Nat.le_refl _)).outO ho8 (fun g hg e => NP.out g hg e)).mono (Nat.le_trans hb7Z.size ho8.size)
   ·have := hge6 i hi; omega
   ·rcases hg with h | h | h
    ·exact (HLA4.out g h).1
    ·rcases hv7 g h with h | h
     ·cases h
     ·omega
    ·exact (HLP4.out g h).1
   ·have h9 := ho8.size
    rcases hg with h | h | h
    ·have := (HLA4.out g h).2; omega
    ·rcases hv7 g h with h | h
     ·cases h
     ·omega
    ·have := (HLP4.out g h).2; omega
   ·rcases hg with h | h | h
    ·have := (HLA4.out g h).2; have := hge6 g hd; omega
    ·rcases hv7 g h with h | h
     ·cases h
     ·have := HDL.out g hd; omega
    ·have := (HLP4.out g h).2; have := hge6 g hd; omega
   ·exact below_row ((HB6.out.trans (hb7Z.mono HB6.out.size)).drew) _ (by omega)
end Go.Proofs.YtemcgfncahccgaaGreat
namespace Go.Proofs.YtemcgfncahccgaaGreat
open Go.RowKit Go.Shelf

set_option maxHeartbeats 2000000 in
theorem new1_gives (D : DiskP) (x : DiskD) (W : World) (Bx : Nat) (y : Int) (hD : DiskAt W D x) (hx : x.ok) (hc : W.cell? ⟨Bx, 0, none⟩ = some (ptr D.p)) :
  FnGives Tryz.prog 39 #[.pointer (some ⟨Bx, 0, none⟩)] #[.int .i64 y] (.bool (decide (y < 0) || decide (x.size ≤ y))) W := by
 have HS := Lib.hid (dsize_any D x W hD hx)
 unfold FnGives
 simp only [List.append_toArray, List.cons_append, List.nil_append]
 obtain ⟨sz, esz⟩ : ∃ sz, sz = x.size := ⟨_, rfl⟩
 rw [← esz] at HS ⊢
 unfold ptr at *
 clear hD hx esz
 cases h0 : decide (y < 0)
 ·cases h1 : decide (sz ≤ y)
  ·go_enter Tryz.func39, Tryz.ntmps39
   go_wp2_with fail
   refine HS.out.mono ?_; rintro e w1 ⟨rfl, rfl⟩
   go_wp2_with fail
   go_ret
   exact ⟨rfl, 0, rfl⟩
  ·go_enter Tryz.func39, Tryz.ntmps39
   go_wp2_with fail
   refine HS.out.mono ?_; rintro e w1 ⟨rfl, rfl⟩
   go_wp2_with fail
   go_ret
   exact ⟨rfl, 0, rfl⟩
 ·go_enter Tryz.func39, Tryz.ntmps39
  go_wp2_with fail
  go_ret
  exact ⟨rfl, 0, rfl⟩

end Go.Proofs.YtemcgfncahccgaaGreat
