/-
  The reference's cache: New.
  The reference's cache: Move.
-/
import Derived.Test.YtemcgfncahccgaaGreatCh20
set_option linter.unusedVariables false
set_option linter.unusedSimpArgs false
namespace Go.Proofs.YtemcgfncahccgaaGreat
open Go.RowKit

def newE (x : DiskD) (room : Int) (l : List Int) : Int :=
 if room < 1 ∨ 64 < room ∨ l.length < 1 ∨ 64 < l.length then 2 else if l.any (fun p => decide (p < 0) || decide (x.size ≤ p)) then 4 else 0
def newC (x : DiskD) (room : Int) (l : List Int) : CacheD := ⟨x, room, l, []⟩
theorem cache_built (a b c e : Value) (room : Int) (pv : Value) (hp : pv.cells = #[pv]) : Tryz.prog.built 61 [(0, .agg #[a, b, c, e]), (1, .int .i64 room), (2, pv)] = some #[a, b, c, e, .int .i64 room, pv, .slice none 0 0] := by
 have h : (Tryz.prog.info? 61).map (fun i => i.zero.map (·.cells)) = some (some zeroC) := by kernel_rfl
 obtain ⟨i, hi, he⟩ := Option.map_eq_some_iff.1 h
 obtain ⟨z, hz, h4⟩ := Option.map_eq_some_iff.1 he
 unfold Program.built
 rw [hi, Tryz.underlying61]
 simp only [hz]
 rw [show (List.mapM (fun f : Field => Option.map (fun i => (f.offset, i.size)) (Tryz.prog.info? f.type)) _ : Option (List (Nat × Nat))) = some [(0, 4), (4, 1), (5, 1), (6, 1)] from by kernel_rfl]
 simp only []
 rw [h4]
 rw [fill_part (off := 0) (size := 4) rfl rfl (by decide), fill_part (off := 4) (size := 1) rfl rfl (by simp [Value.cells]), fill_part (off := 5) (size := 1) rfl (by rw [hp]; rfl) (by simp [Value.cells])]
 rw [fill_nil, hp]
 rfl
theorem foot_new {a b d f : Value} {s r : Int} (g : Nat) (h : g ∈ footV (.agg #[a, b, .int .i64 s, d, .int .i64 r, f, .slice none 0 0])) : g ∈ footV (.agg #[a, b, .int .i64 s, d]) ∨ f.ownBlock = some g := by
 rw [foot7] at h
 unfold footV
 simp only [List.mem_filterMap, List.mem_cons, List.not_mem_nil, or_false]
 rcases h with h | h | h | h | h
 ·exact .inl ⟨_, .inl rfl, h⟩
 ·exact .inl ⟨_, .inr (.inl rfl), h⟩
 ·exact .inl ⟨_, .inr (.inr (.inr rfl)), h⟩
 ·exact .inr h
 ·cases h
set_option maxRecDepth 100000 in
set_option maxHeartbeats 2000000 in
theorem rnew_any (dv : Value) (x : DiskD) (room : Int) (pv : Value) (l : List Int) (w : World) (hd : RDiskIn w w.heap.size dv x) (hx : x.ok) (hp : IntsIn w w.heap.size pv l) :
  Calls Tryz.prog 20 #[dv, .int .i64 room, pv] w fun r w' => ∃ cv, r = .returned (.tuple #[cv, .int .i64 (newE x room l)]) ∧ (newE x room l = 0 → RCacheIn w' w'.heap.size cv (newC x room l) ∧ ∀ g, g ∈ footV cv → g ∈ footV dv ∨ pv.ownBlock = some g) ∧ Below w.heap.size w w' := by
 obtain ⟨lv, wv, fv, rfl, h1⟩ := hd
 have HD := Lib.hid h1
 have HP := Lib.hid hp
 have HONE := Lib.hid h1.one
 have hones := h1.ones
 obtain ⟨ad, pc, rfl⟩ : ∃ ad pc, pv = .slice ad l.length pc := by obtain ⟨_, a, c, e, _⟩ := hp; exact ⟨a, c, e⟩
 have HONE7 := Lib.hid (rc_one (A := undef) (s := x.steps) (room := room) hones (show (Value.slice ad l.length pc).oneCell' = true from rfl) (show (Value.slice none 0 0).oneCell' = true from rfl))
 have HSZ := Lib.hid (fun X (hX : RDisk X X.heap.size lv wv fv x) => rdsize_any x lv wv fv x.steps X hX hx)
 have HCB := Lib.hid (cache_built lv wv (.int .i64 x.steps) fv room (.slice ad l.length pc) rfl)
 obtain ⟨W, eW⟩ : ∃ W, W = (w.alloc (.cells #[lv, wv, .int .i64 x.steps, fv] 32)).alloc (.cells zeroC 61) := ⟨_, rfl⟩
 have hbW : Below w.heap.size w W := by rw [eW]; exact ((Below.refl _ w).alloc (Nat.le_refl _) _).alloc (by simp) _
 have k0 : Blk W w.heap.size 32 #[lv, wv, .int .i64 x.steps, fv] := by rw [eW]; exact (Blk.new w _ _).alloc _
 have k1 : Blk W (w.heap.size + 1) 61 zeroC := by rw [eW]; exact Blk.new2 w _ _ _
 clear h1 hp hones
 go_enter Tryz.func20, Tryz.ntmps20
 go_upto_region 1 with fail
 rw [← eW]
 clear eW
 by_cases hc : room < 1 ∨ 64 < room ∨ l.length < 1 ∨ 64 < l.length
 ·have HE := Lib.hid (show newE x room l = 2 by unfold newE; rw [if_pos hc])
  have hz : (zeroC.all (·.oneCell') : Bool) = true := by simp [Value.oneCell']
  have hs : room < 1 ∨ (¬ room < 1 ∧ 64 < room) ∨ (¬ room < 1 ∧ ¬ 64 < room ∧ (l.length : Int) < 1) ∨ (¬ room < 1 ∧ ¬ 64 < room ∧ ¬ (l.length : Int) < 1 ∧ 64 < (l.length : Int)) := by omega
  clear hc
  generalize hL : (l.length : Int) = L at *
  have hfin : ∀ tmps : Array Value, tmps.getD 6 undef = .pointer (some ⟨w.heap.size + 1, 0, none⟩) → tmps.getD 7 undef = .int .i64 2 → bodyPost Tryz.prog Tryz.f20 (fun r w' => ∃ cv, r = .returned (.tuple #[cv, .int .i64 (newE x room l)]) ∧ (newE x room l = 0 → RCacheIn w' w'.heap.size cv (newC x room l) ∧ ∀ g, g ∈ footV cv → g ∈ footV (.agg #[lv, wv, .int .i64 x.steps, fv]) ∨ (Value.slice ad l.length pc).ownBlock = some g) ∧ Below w.heap.size w w') Exit.ret ⟨tmps, []⟩ (W.setRow (w.heap.size + 1) zeroC) := fun tmps h6 h7 =>
   rc_end Tryz.results20 w _ _ (w.heap.size + 1) zeroC 2 61 (k1.row _) rfl h6 h7 _ ⟨_, by rw [HE.out], fun h => (by rw [HE.out] at h; cases h), below_row hbW _ (by omega)⟩
  have HFIN := Lib.hid hfin
  clear hfin
  rcases hs with h1 | ⟨h1, h2⟩ | ⟨h1, h2, h3⟩ | ⟨h1, h2, h3, h4⟩
  all_goals
   go_wp2_with (first
    | (refine wpList_build_is rfl 61 _ rfl zeroC (by kernel_rfl) ?_)
    | (refine wpList_store_row rfl 61 _ _ rfl (w.heap.size + 1) zeroC rfl rfl 61 _ k1 (size_rcache _ _ _ _ _ _ _) rfl hz ?_))
   exact HFIN.out _ rfl rfl
 ·have g1 : ¬ room < 1 := by omega
  have g2 : ¬ 64 < room := by omega
  have g3 : ¬ (l.length : Int) < 1 := by omega
  have g4 : ¬ (64 : Int) < (l.length : Int) := by omega
  have HNE := Lib.hid (show newE x room l = if l.any (fun p => decide (p < 0) || decide (x.size ≤ p)) then 4 else 0 by unfold newE; rw [if_neg hc])
  have hz : (zeroC.all (·.oneCell') : Bool) = true := by simp [Value.oneCell']
  clear hc
  go_wp2_with fail
  go_loopw [8] (fun i wr => ∃ j : Nat, j ≤ l.length ∧ i = .int .i64 j ∧ ((l.take j).any (fun p => decide (p < 0) || decide (x.size ≤ p))) = false ∧ Blk wr w.heap.size 32 #[lv, wv, .int .i64 x.steps, fv] ∧ Blk wr (w.heap.size + 1) 61 zeroC ∧ Below w.heap.size w wr) (fun i _ => l.length - (intOf i).toNat)
  case atStart => exact ⟨0, by omega, rfl, rfl, k0, k1, hbW⟩
  case round =>
   obtain ⟨j, hj, rfl, hno, q0, q1, qB⟩ := hrel
   have HNO := Lib.hid hno
   clear hno k0 k1 hbW
   by_cases hlt : j < l.length
   ·have i2 : (j : Int) < (l.length : Int) := by omega
    obtain ⟨p, hpj⟩ : ∃ p, l[j]? = some p := ⟨_, List.getElem?_eq_getElem hlt⟩
    obtain ⟨g, off, rfl, hg, hcell⟩ := (HP.out.below qB (Nat.le_refl _)).at_ hpj
    have HPJ := Lib.hid hpj
    have hany : ∀ b : Bool, (decide (p < 0) || decide (x.size ≤ p)) = b → l.any (fun p => decide (p < 0) || decide (x.size ≤ p)) = false → b = false := fun b hb hf => by
     rw [← hb]
     exact List.any_eq_false.1 hf p (List.mem_of_getElem? hpj) |> (by simpa using ·)
    have hyes : (decide (p < 0) || decide (x.size ≤ p)) = true → newE x room l = 4 := fun hb => by
     rw [HNE.out, if_pos (List.any_eq_true.2 ⟨p, List.mem_of_getElem? hpj, hb⟩)]
    have HYES := Lib.hid hyes
    clear hpj hany hyes
    have hgw : g < wr.heap.size := by have := qB.size; omega
    go_wp2_with fail
    refine jb (fun X => Below wr.heap.size wr X) (fun _ => True) 100 (Below.refl _ _).drew trivial fun hHeld hJ => ?_
    refine jk false 0 ?_
    refine jk false 1 ?_
    refine jk false 2 ?_
    refine jk false 3 ?_ (hy := by intro X hX _; have hc := (Below.cell hX (p := ⟨g, off + j, none⟩) hgw).trans hcell; go_simp; try with_reducible rfl)
    refine jk false 4 ?_
    refine jk false 5 ?_
    by_cases hneg : p < 0
    ·have hd : decide (p < 0) = true := by simpa using hneg
     have HE := Lib.hid (HYES.out (by rw [hd]; rfl))
     simp only [hd]
     refine ju 6 ?_
     refine ju 7 ?_
     refine ju 8 ?_
     refine ju 9 ?_
     refine ju 10 ?_
     refine ju 11 ?_
     refine ju 12 ?_
     refine jk false 13 ?_
     refine wpAnyJ_done (by kernel_rfl) ?_ _
     clear hneg hd
     go_wp2_with (first
      | (refine wpList_build_is rfl 61 _ rfl zeroC (by kernel_rfl) ?_)
      | (refine wpList_store_row rfl 61 _ _ rfl (w.heap.size + 1) zeroC rfl rfl 61 _ q1.drew (size_rcache _ _ _ _ _ _ _) rfl hz ?_))
     exact rc_end Tryz.results20 w _ _ (w.heap.size + 1) zeroC 4 61 (q1.drew.row _) rfl rfl rfl _ ⟨_, by rw [HE.out], fun h => (by rw [HE.out] at h; cases h), below_row qB.drew _ (by omega)⟩
    ·have hd : decide (p < 0) = false := by simpa using hneg
     simp only [hd]
     refine jk false 6 ?_
     refine jk false 7 ?_
     refine jk false 8 ?_
     refine jk false 9 ?_ (hy := by intro X hX _; have hc := (Below.cell hX (p := ⟨g, off + j, none⟩) hgw).trans hcell; go_simp; try with_reducible rfl)
     refine jy false 10 rfl (yieldsIf_load_mid (by rfl) 32 _ rfl w.heap.size 0 rfl [lv, wv, .int .i64 x.steps, fv] _ (fun w' h => blk_range (q0.below h.1 q0.lt)) Tryz.underlying32 rfl (size_rdisk _ _ _ _)) ?_
     refine jr 11 fun K hK => ?_
     go_simp
     refine (HSZ.out wr.drew ((HD.out.below qB (Nat.le_refl _)).mono qB.size).drew).mono ?_; rintro r w2 ⟨rfl, hb2⟩
     go_wp2_with fail
     refine hK.out _ _ ⟨hHeld.trans hb2, fun _ => trivial⟩ ?_
     clear hK K
     have hHeld2 := hHeld.trans hb2
     clear hHeld
     have hHeld := hHeld2
     refine jk false 12 ?_
     refine jk false 13 ?_
     refine wpAnyJ_done (by kernel_rfl) ?_ _
     have r0 := q0.drew.below hb2 q0.lt
     have r1 := q1.drew.below hb2 q1.lt
     have rB := qB.drew.trans (hb2.mono qB.size)
     by_cases hbig : x.size ≤ p
     ·have hd2 : decide (x.size ≤ p) = true := by simpa using hbig
      have HE := Lib.hid (HYES.out (by rw [hd2, Bool.or_true]))
      clear hd hd2
      go_wp2_with (first
       | (refine wpList_build_is rfl 61 _ rfl zeroC (by kernel_rfl) ?_)
       | (refine wpList_store_row rfl 61 _ _ rfl (w.heap.size + 1) zeroC rfl rfl 61 _ r1 (size_rcache _ _ _ _ _ _ _) rfl hz ?_))
      exact rc_end Tryz.results20 w _ _ (w.heap.size + 1) zeroC 4 61 (r1.row _) rfl rfl rfl _ ⟨_, by rw [HE.out], fun h => (by rw [HE.out] at h; cases h), below_row rB _ (by omega)⟩
     ·have hd2 : decide (x.size ≤ p) = false := by simpa using hbig
      have HN2 := Lib.hid (show (l.take (j + 1)).any (fun p => decide (p < 0) || decide (x.size ≤ p)) = false by rw [List.take_add_one, HPJ.out, List.any_append, HNO.out]; simp [hd, hd2])
      clear hd hd2
      go_wp2_with fail
      exact ⟨⟨j + 1, by omega, by go_num, HN2.out, r0, r1, rB⟩, by simp [intOf]; omega⟩
   ·obtain rfl : j = l.length := by omega
    have hf := HNO.out
    rw [List.take_length] at hf
    have HE := Lib.hid (show newE x room l = 0 by rw [HNE.out, hf]; rfl)
    clear hf
    go_wp2_with (first
     | (refine wpList_load_row rfl 32 _ rfl w.heap.size rfl 32 _ (0, 0) _ q0 Tryz.underlying32 rfl (size_rdisk _ _ _ _) ?_)
     | refine wpList_store_row rfl 61 _ _ rfl (w.heap.size + 1) #[lv, wv, .int .i64 x.steps, fv, .int .i64 room, .slice ad l.length pc, .slice none 0 0] rfl rfl 61 zeroC q1 (size_rcache _ _ _ _ _ _ _) rfl HONE7.out ?_)
    have hbf := below_row qB #[lv, wv, .int .i64 x.steps, fv, .int .i64 room, .slice ad l.length pc, .slice none 0 0] (g := w.heap.size + 1) (by omega)
    exact rc_end Tryz.results20 w _ _ (w.heap.size + 1) _ 0 61 (q1.row _) rfl rfl rfl _ ⟨_, by rw [HE.out]; rfl, fun _ => ⟨⟨lv, wv, fv, _, _, rfl, (HD.out.below hbf (Nat.le_refl _)).mono hbf.size, (HP.out.below hbf (Nat.le_refl _)).mono hbf.size, HandIn.nil _ _⟩, foot_new⟩, hbf⟩
end Go.Proofs.YtemcgfncahccgaaGreat
namespace Go.Proofs.YtemcgfncahccgaaGreat
open Go.RowKit

theorem wpList_append_ints {w : World} {ops : Array Oper} {rest : List Oper} {o : Oper} {a : Act} {Q : Exit → Act → World → Prop} (hw : Region.wanted o (yielded ops a.tmps) = true) (s x : Operand)
  (ho : o.op = .call { callee := .builtin .append, args := #[s, x], argTypes := #[23, 23] })
  (base n : Nat) (v : Value) (xs : List Value) (hs : a.eval s = v) (hown : w.ownsRow base 3 1 v n xs) (B : Nat) (ad : Option Addr) (m cap : Nat) (l : List Int) (hx : a.eval x = .slice ad m cap) (hm : l.length = m) (hu : IntsIn w B (.slice ad m cap) l) (hne : l ≠ []) (hn : n + m ≤ 1000000) (hbase : base ≤ w.heap.size)
  (h : ∀ v' w', w'.ownsRow base 3 1 v' (n + m) (xs ++ l.map (Value.int .i64)) → w.grownBy w' v.ownBlock → wpList Tryz.prog ops Q rest (a.put o.dst v') w') : wpList Tryz.prog ops Q (o :: rest) a w :=
 wpList_step fun K hK => by
  simp only [hw, if_true]
  obtain ⟨i0, z0, T⟩ := rowG_int
  obtain ⟨y, r, rfl⟩ := List.exists_cons_of_ne_nil hne
  obtain ⟨g, off, rfl, _, _⟩ := hu.at_ (j := 0) (x := y) rfl
  obtain ⟨v', w', hrun, h2, h3, _, _⟩ := run_append_own_at (P := Tryz.prog) w base 23 o.type 3 i0 z0 1 8 T.ht T.hi T.hz T.h1 T.h2 T.h3 (by decide) v n xs hown ⟨g, off, none⟩ m cap ((y :: r).map (Value.int .i64)) (by simpa using hm) (fun j u hj => by
   rw [List.getElem?_map] at hj
   obtain ⟨c, hc, rfl⟩ := Option.map_eq_some_iff.1 hj
   obtain ⟨g', off', e, _, hcell⟩ := hu.at_ hc
   cases e
   rw [add_at]
   exact hcell) (by intro u hu; obtain ⟨c, _, rfl⟩ := List.mem_map.1 hu; rfl) (by unfold maxLen; omega) (by omega) hbase
  unfold Oper.wp execOp
  simp only [ho, resolve, invoke, builtin, Sem.run_bind, Sem.run_pure, Result.andThen_ok, List.map_toArray, List.map_cons, List.map_nil, hs, hx, hrun]
  exact hK _ _ (h v' w' h2 h3)
theorem IntsIn.own {w : World} {B e : Nat} {v : Value} {l : List Int} (h : w.ownsRow B e 1 v l.length (l.map (Value.int .i64))) (hl : l.length ≤ 1000000) : IntsIn w w.heap.size v l := by
 refine ⟨by unfold maxLen; omega, ?_⟩
 rcases h.2 with ⟨e, h0⟩ | ⟨g, cap, cur, e, hB, hg, h1, h2, h3, h4⟩
 ·have hn : l = [] := List.eq_nil_of_length_eq_zero h0
  subst hn
  exact ⟨none, 0, e, Nat.le_refl _, fun j c hc => by cases hc⟩
 ·refine ⟨some ⟨g, 0, none⟩, cap, e, h1, fun j c hc => ⟨g, 0, rfl, lt_of_block hg, ?_⟩⟩
  have hj := (List.getElem?_eq_some_iff.1 hc).1
  subst e
  rw [Nat.zero_add, World.ownsRow.cellAt h j (by omega), List.getElem?_map, hc]
  rfl
def CacheD.moveE (x : CacheD) (oid s : Int) : Int := if x.there oid = true ∧ 0 ≤ s ∧ s < x.disk.size then 0 else 4
def CacheD.move (x : CacheD) (oid s : Int) : CacheD := if x.moveE oid s = 0 then { x with places := x.places.set oid.toNat s } else x
theorem load_rdiskC {W : World} {g : Nat} {a b c d e f p : Value} (h : Blk W g 61 #[a, b, c, d, e, f, p]) : (loadVar 32 ⟨g, 0, none⟩).run Tryz.prog W = .ok (.agg #[a, b, c, d]) W := by
 refine run_loadVar_mid W g 0 _ [a, b, c, d] _ ?_ Tryz.underlying32 rfl (size_rdisk a b c d)
 intro j v hj
 rw [Nat.zero_add]
 refine h.cell_is j ?_
 rw [List.getElem?_toArray]
 match j, hj with
 | 0, hj => exact hj
 | 1, hj => exact hj
 | 2, hj => exact hj
 | 3, hj => exact hj
set_option maxRecDepth 100000 in
set_option maxHeartbeats 2000000 in
theorem rmove_raw (lv wv fv pv hv : Value) (x : CacheD) (oid s : Int) (w : World) (h1 : RDisk w w.heap.size lv wv fv x.disk) (h2 : IntsIn w w.heap.size pv x.places) (hv1 : hv.oneCell' = true) (hf : x.fits) (hd : x.disk.ok) :
  Calls Tryz.prog 59 #[.agg #[lv, wv, .int .i64 x.disk.steps, fv, .int .i64 x.room, pv, hv], .int .i64 oid, .int .i64 s] w fun r w' => ∃ pv', r = .returned (.tuple #[.agg #[lv, wv, .int .i64 x.disk.steps, fv, .int .i64 x.room, pv', hv], .int .i64 (x.moveE oid s)]) ∧ ((x.moveE oid s = 0 → w'.ownsRow w.heap.size 3 1 pv' x.places.length ((x.places.set oid.toNat s).map (Value.int .i64))) ∧ (x.moveE oid s ≠ 0 → pv' = pv)) ∧ Below w.heap.size w w' := by
 have hones := h1.ones
 have HD := Lib.hid h1
 have HP := Lib.hid h2
 obtain ⟨ad, pc, rfl⟩ : ∃ ad pc, pv = .slice ad x.places.length pc := by obtain ⟨_, a, c, e, _⟩ := h2; exact ⟨a, c, e⟩
 have HONE := Lib.hid (fun (A : Option Addr) (m C : Nat) => rc_one (A := undef) (s := x.disk.steps) (room := x.room) hones (show (Value.slice A m C).oneCell' = true from rfl) hv1)
 have HTH := Lib.hid (fun X => rthere_any lv wv (.int .i64 x.disk.steps) fv (.int .i64 x.room) undef hv ad x.places.length pc oid X)
 have HSZ := Lib.hid (fun X (hX : RDisk X X.heap.size lv wv fv x.disk) => rdsize_any x.disk lv wv fv x.disk.steps X hX hd)
 obtain ⟨W, eW⟩ : ∃ W, W = (w.alloc (.cells #[lv, wv, .int .i64 x.disk.steps, fv, .int .i64 x.room, .slice ad x.places.length pc, hv] 61)).alloc (.cells zeroC 61) := ⟨_, rfl⟩
 have hbW : Below w.heap.size w W := by rw [eW]; exact ((Below.refl _ w).alloc (Nat.le_refl _) _).alloc (by simp) _
 have k0 : Blk W w.heap.size 61 #[lv, wv, .int .i64 x.disk.steps, fv, .int .i64 x.room, .slice ad x.places.length pc, hv] := by rw [eW]; exact (Blk.new w _ _).alloc _
 have k2 : Blk W (w.heap.size + 1) 61 zeroC := by rw [eW]; exact Blk.new2 w _ _ _
 clear h1 h2 hones hd hv1
 go_enter Tryz.func59, Tryz.ntmps59
 go_upto_region 1 with fail
 rw [← eW]
 clear eW
 have fin4 : ∀ (Z : World), Below w.heap.size w Z → Blk Z (w.heap.size + 1) 61 zeroC → x.moveE oid s = 4 → ∀ tmps : Array Value, tmps.getD 6 undef = .pointer (some ⟨w.heap.size + 1, 0, none⟩) → tmps.getD 7 undef = .int .i64 4 →
   bodyPost Tryz.prog Tryz.f59 (fun r w' => ∃ pv', r = .returned (.tuple #[.agg #[lv, wv, .int .i64 x.disk.steps, fv, .int .i64 x.room, pv', hv], .int .i64 (x.moveE oid s)]) ∧ ((x.moveE oid s = 0 → w'.ownsRow w.heap.size 3 1 pv' x.places.length ((x.places.set oid.toNat s).map (Value.int .i64))) ∧ (x.moveE oid s ≠ 0 → pv' = .slice ad x.places.length pc)) ∧ Below w.heap.size w w') Exit.ret ⟨tmps, []⟩ (Z.setRow (w.heap.size + 1) #[lv, wv, .int .i64 x.disk.steps, fv, .int .i64 x.room, .slice ad x.places.length pc, hv]) :=
  fun Z hb h2 he tmps t6 t7 => rc_end Tryz.results59 w _ _ (w.heap.size + 1) _ 4 61 (h2.row _) rfl t6 t7 _ ⟨_, by rw [he], ⟨fun h => (by rw [he] at h; cases h), fun _ => rfl⟩, below_row hb _ (by omega)⟩
 have FIN4 := Lib.hid fin4
 clear fin4
 go_wp2_with (refine wpList_load_row rfl 61 _ rfl w.heap.size rfl 61 _ (0, 0) _ k0 Tryz.underlying61 rfl (size_rcache _ _ _ _ _ _ _) ?_)
 refine (HTH.out W).mono ?_; rintro r w1 ⟨rfl, hb1⟩
 have q0 := k0.below hb1 k0.lt
 have q2 := k2.below hb1 k2.lt
 have qB := hbW.trans (hb1.mono hbW.size)
 clear k0 k2 hbW hb1
 cases hth : decide (0 ≤ oid ∧ oid < (x.places.length : Int))
 ·have HE := Lib.hid (show x.moveE oid s = 4 by unfold CacheD.moveE CacheD.there; rw [hth]; rfl)
  clear hth
  go_wp2_with (first
   | (refine wpList_load_row rfl 61 _ rfl w.heap.size rfl 61 _ (0, 0) _ q0 Tryz.underlying61 rfl (size_rcache _ _ _ _ _ _ _) ?_)
   | (refine wpList_store_row rfl 61 _ _ rfl (w.heap.size + 1) _ rfl rfl 61 _ q2 (size_rcache _ _ _ _ _ _ _) rfl (HONE.out _ _ _) ?_))
  exact FIN4.out _ qB q2 HE.out _ rfl rfl
 ·have hthe : 0 ≤ oid ∧ oid < (x.places.length : Int) := by simpa using hth
  have HTE := Lib.hid hthe
  have HTT := Lib.hid (show x.there oid = true from hth)
  clear hth hthe
  by_cases hs0 : s < 0
  ·have HE := Lib.hid (show x.moveE oid s = 4 by unfold CacheD.moveE; rw [if_neg (by omega)])
   have hds : decide (s < 0) = true := by simpa using hs0
   go_wp2_with (first
    | (refine wpList_load_row rfl 61 _ rfl w.heap.size rfl 61 _ (0, 0) _ q0 Tryz.underlying61 rfl (size_rcache _ _ _ _ _ _ _) ?_)
    | (refine wpList_store_row rfl 61 _ _ rfl (w.heap.size + 1) _ rfl rfl 61 _ q2 (size_rcache _ _ _ _ _ _ _) rfl (HONE.out _ _ _) ?_))
   exact FIN4.out _ qB q2 HE.out _ rfl rfl
  ·have hds : decide (s < 0) = false := by simpa using hs0
   go_wp2_with (refine wpList_load_midG rfl 32 _ rfl w.heap.size 0 rfl #[lv, wv, .int .i64 x.disk.steps, fv] (load_rdiskC q0) ?_)
   refine (HSZ.out w1 ((HD.out.below qB (Nat.le_refl _)).mono qB.size)).mono ?_; rintro r w2 ⟨rfl, hb2⟩
   have r0 := q0.below hb2 q0.lt
   have r2 := q2.below hb2 q2.lt
   have rB := qB.trans (hb2.mono qB.size)
   clear q0 q2 qB hb2
   by_cases hs1 : x.disk.size ≤ s
   ·have HE := Lib.hid (show x.moveE oid s = 4 by unfold CacheD.moveE; rw [if_neg (by omega)])
    go_wp2_with (first
     | (refine wpList_load_row rfl 61 _ rfl w.heap.size rfl 61 _ (0, 0) _ r0 Tryz.underlying61 rfl (size_rcache _ _ _ _ _ _ _) ?_)
     | (refine wpList_store_row rfl 61 _ _ rfl (w.heap.size + 1) _ rfl rfl 61 _ r2 (size_rcache _ _ _ _ _ _ _) rfl (HONE.out _ _ _) ?_))
    exact FIN4.out _ rB r2 HE.out _ rfl rfl
   ·have HE := Lib.hid (show x.moveE oid s = 0 by unfold CacheD.moveE; rw [if_pos ⟨HTT.out, by omega, by omega⟩])
    obtain ⟨j, hj⟩ : ∃ j : Nat, oid = j := ⟨oid.toNat, by have := HTE.out; omega⟩
    subst hj
    have hjl : j < x.places.length := by have := HTE.out; omega
    have hne : x.places ≠ [] := fun e => by rw [e] at hjl; cases hjl
    have hb3 := rB.alloc rB.size (.cells #[] 3)
    have hP3 := HP.out.below hb3 (Nat.le_refl _)
    have s0 := r0.alloc (.cells #[] 3)
    have s2 := r2.alloc (.cells #[] 3)
    have ow : (w2.alloc (.cells #[] 3)).ownsRow w2.heap.size 3 1 (.slice (some ⟨w2.heap.size, 0, none⟩) 0 0) 0 [] := ⟨rfl, .inr ⟨_, 0, #[], rfl, Nat.le_refl _, heap_alloc_new w2 _, Nat.le_refl _, by simp, rfl, rfl⟩⟩
    have hfl := hf.1
    have c5 := s0.cell_is 5 rfl
    have H2 := Lib.hid r2
    clear r0 r2
    go_upto_region 4 with (at_builtin; refine wpList_append_ints rfl (.tmp 24) (.tmp 26) rfl w2.heap.size 0 _ [] rfl ow w.heap.size ad x.places.length pc x.places rfl rfl hP3 hne (by omega) (by simp) ?_; intro v4 w4 hO4 hg4; obtain ⟨g4, C4, rfl, hg40, _⟩ := World.ownsRow.form hO4 (by omega); have hb4 := hb3.grown hg4 hb3.size (fun r hr => by have := (World.ownsRow.lt ow r hr).1; have := rB.size; omega); have t0 := (hg4.block _ s0.lt (fun e => ne_own ow s0 (by decide) _ e.symm rfl)).trans s0; have t2 := (hg4.block _ s2.lt (fun e => ne_own ow s2 (by decide) _ e.symm rfl)).trans s2; have c54 := Blk.cell_is t0 5 rfl; have f54 := Blk.frozen t0 5; clear c5)
    have u0 := Blk.set_ t0 5 (.slice (some ⟨g4, 0, none⟩) (0 + x.places.length) C4)
    have u2 := Blk.far t2 (p := ⟨w.heap.size, 5, none⟩) (by show w.heap.size + 1 ≠ w.heap.size; omega) (.slice (some ⟨g4, 0, none⟩) (0 + x.places.length) C4)
    have ub := hb4.setCell (p := ⟨w.heap.size, 5, none⟩) (Nat.le_refl _) (.slice (some ⟨g4, 0, none⟩) (0 + x.places.length) C4)
    have hw2 : w.heap.size + 2 ≤ w2.heap.size := H2.out.lt
    have uO := ownsRow_out (F := fun i => i = w.heap.size) (out_set (w := w4) (g := w.heap.size) (i := 5) (v := .slice (some ⟨g4, 0, none⟩) (0 + x.places.length) C4) rfl) hO4 (fun g hg e => by have := (World.ownsRow.lt hO4 g hg).1; omega)
    simp only [List.setIfInBounds_toArray, List.set_cons_succ, List.set_cons_zero, List.nil_append, Nat.zero_add] at u0 u2 ub uO ⊢
    obtain ⟨W5, eW5⟩ : ∃ W, W = w4.setCell ⟨w.heap.size, 5, none⟩ (.slice (some ⟨g4, 0, none⟩) x.places.length C4) := ⟨_, rfl⟩
    rw [← eW5] at u0 u2 ub uO ⊢
    have d5 := u0.cell_is 5 rfl
    have cj : W5.cell? ⟨g4, j, none⟩ = some (.int .i64 (x.places[j]'hjl)) := by
     rw [World.ownsRow.cellAt uO j (by omega), List.getElem?_map, List.getElem?_eq_getElem hjl]
     rfl
    have fj := World.ownsRow.frozenAt uO j
    have hst := World.ownsRow.stored uO j (.int .i64 s)
    have jl2 : (j : Int) < (x.places.length : Int) := by omega
    have g40 : w2.heap.size ≤ g4 := hg40
    have v0 := u0.far (p := ⟨g4, j, none⟩) (by show w.heap.size ≠ g4; omega) (.int .i64 s)
    have v2 := u2.far (p := ⟨g4, j, none⟩) (by show w.heap.size + 1 ≠ g4; omega) (.int .i64 s)
    have vb := ub.setCell (p := ⟨g4, j, none⟩) (by show w.heap.size ≤ g4; omega) (.int .i64 s)
    have HST := Lib.hid hst.1
    clear eW5 uO hst t0 t2 c54 f54 hb4 hO4 hg4 ow s0 s2
    go_wp2_with (first
     | (refine wpList_load_row rfl 61 _ rfl w.heap.size rfl 61 #[lv, wv, .int .i64 x.disk.steps, fv, .int .i64 x.room, .slice (some ⟨g4, 0, none⟩) x.places.length C4, hv] (0, 0) _ v0 Tryz.underlying61 rfl (size_rcache _ _ _ _ _ _ _) ?_)
     | (refine wpList_store_row rfl 61 _ _ rfl (w.heap.size + 1) #[lv, wv, .int .i64 x.disk.steps, fv, .int .i64 x.room, .slice (some ⟨g4, 0, none⟩) x.places.length C4, hv] rfl rfl 61 zeroC v2 (size_rcache _ _ _ _ _ _ _) rfl (HONE.out _ _ _) ?_))
    have hbf := below_row vb #[lv, wv, .int .i64 x.disk.steps, fv, .int .i64 x.room, .slice (some ⟨g4, 0, none⟩) x.places.length C4, hv] (g := w.heap.size + 1) (by omega)
    exact rc_end Tryz.results59 w _ _ (w.heap.size + 1) _ 0 61 (v2.row _) rfl rfl rfl _ ⟨_, by rw [HE.out], ⟨fun _ => by
     have h1 := ownsRow_out (F := fun i => i = w.heap.size + 1) (out_row #[lv, wv, .int .i64 x.disk.steps, fv, .int .i64 x.room, .slice (some ⟨g4, 0, none⟩) x.places.length C4, hv] rfl) HST.out (fun g hg e => by have := (World.ownsRow.lt HST.out g hg).1; omega)
     rw [← List.map_set] at h1
     exact World.ownsRow.mono h1 (by omega), fun h => absurd HE.out h⟩, hbf⟩
theorem rmove_any (cv : Value) (x : CacheD) (oid s : Int) (w : World) (hx : RCacheIn w w.heap.size cv x) (hf : x.fits) (hd : x.disk.ok) :
  Calls Tryz.prog 59 #[cv, .int .i64 oid, .int .i64 s] w fun r w' => ∃ cv', r = .returned (.tuple #[cv', .int .i64 (x.moveE oid s)]) ∧ RCacheIn w' w'.heap.size cv' (x.move oid s) ∧ Below w.heap.size w w' ∧ CNew w.heap.size w'.heap.size cv cv' := by
 have HX := hx
 obtain ⟨lv, wv, fv, pv, hv, rfl, h1, h2, h3⟩ := hx
 refine (rmove_raw lv wv fv pv hv x oid s w h1 h2 h3.one hf hd).mono ?_
 rintro r w' ⟨pv', rfl, ⟨hy, hn⟩, hb⟩
 refine ⟨_, rfl, ?_, hb, CNew.mk7 ?_ (VNew.refl _ _ _)⟩
 rotate_left 1
 ·by_cases he : x.moveE oid s = 0
  ·exact VNew.own (hy he) (Nat.le_refl _) (Nat.le_refl _)
  ·rw [hn he]; exact VNew.refl _ _ _
 by_cases he : x.moveE oid s = 0
 ·rw [show x.move oid s = { x with places := x.places.set oid.toNat s } by unfold CacheD.move; rw [he]; rfl]
  have hl : (x.places.set oid.toNat s).length = x.places.length := List.length_set
  have ho := hy he
  rw [← hl] at ho
  exact ⟨lv, wv, fv, _, _, rfl, (h1.below hb (Nat.le_refl _)).mono hb.size, IntsIn.own ho (by rw [hl]; have := hf.1; omega), h3.up hb⟩
 ·rw [hn he, show x.move oid s = x by unfold CacheD.move; rw [if_neg he]]
  exact HX.up hb
end Go.Proofs.YtemcgfncahccgaaGreat
