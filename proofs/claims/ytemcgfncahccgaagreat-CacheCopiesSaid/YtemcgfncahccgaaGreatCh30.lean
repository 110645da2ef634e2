/-
  The reference's cache: Get.
-/
import Derived.Test.YtemcgfncahccgaaGreatCh22
import Derived.Test.YtemcgfncahccgaaGreatCh29
set_option linter.unusedVariables false
set_option linter.unusedSimpArgs false
namespace Go.Proofs.YtemcgfncahccgaaGreat
open Go.RowKit

def CacheD.placeOf (x : CacheD) (oid : Int) : Int := x.places.getD oid.toNat 0
/-- what a Get answers, and leaves -/
def CacheD.fetchE (x : CacheD) (oid : Int) : Int :=
  if x.disk.err (x.placeOf oid) = 0 then (if getE (x.disk.read (x.placeOf oid)) x.n = 0 then 0 else 270) else x.disk.err (x.placeOf oid)
def CacheD.getE_ (x : CacheD) (oid : Int) : Int := if x.there oid then (match itemOf x.hand oid with | some _ => 0 | none => x.fetchE oid) else 4
def CacheD.getO_ (x : CacheD) (oid : Int) : ObjD := if x.there oid then (match itemOf x.hand oid with | some it => it.o | none => if x.fetchE oid = 0 then getO (x.disk.read (x.placeOf oid)) x.n else objZ) else objZ
def CacheD.read_ (x : CacheD) (oid : Int) : CacheD := { x with disk := x.disk.after (x.placeOf oid) }
def CacheD.get_ (x : CacheD) (oid : Int) : CacheD :=
  if x.there oid then (match itemOf x.hand oid with | some it => x.with_ it | none => if x.fetchE oid = 0 then (x.read_ oid).with_ ⟨oid, getO (x.disk.read (x.placeOf oid)) x.n, false⟩ else x.read_ oid) else x
theorem RDisk.after_ {W : World} {B : Nat} {lv wv fv : Value} {x : DiskD} (h : RDisk W B lv wv fv x) (n : Int) : RDisk W B lv wv fv (x.after n) := by
  unfold DiskD.after
  split
  · exact h
  · exact h.stepped
theorem results_row2_tmp {P : Program} {fn : Func} {p q u : Tmp} {ty te : TypeId} (h : fn.results = #[.cell p ty, .cell q te, .tmp u]) (tmps : Array Value) (w : World) (g g' : Nat) (b c v : Value)
    (hp : tmps.getD p undef = .pointer (some ⟨g, 0, none⟩)) (hb : (loadVar ty ⟨g, 0, none⟩).run P w = .ok b w) (hq : tmps.getD q undef = .pointer (some ⟨g', 0, none⟩)) (hc : (loadVar te ⟨g', 0, none⟩).run P w = .ok c w) (hv : tmps.getD u undef = v) :
    (results fn tmps).run P w = .ok (.tuple #[b, c, v]) w := results_row_row_tmp h tmps w b c v g g' hp hb hq hc hv
theorem load_obj {W : World} {g : Nat} {o : ObjD} (ho : o.ok) (h : Blk W g 47 o.cells.toArray) : (loadVar 47 ⟨g, 0, none⟩).run Tryz.prog W = .ok (.agg o.cells.toArray) W :=
  run_loadVar_row W g 47 47 o.cells.toArray (0, 0) _ h Tryz.underlying47 rfl (by rw [List.size_toArray]; exact size_obj o ho)
theorem obj_ones (o : ObjD) : o.cells.toArray.all (·.oneCell') = true := by simp only [List.all_toArray]; exact List.all_eq_true.2 fun v hv => obj_one _ v hv
theorem obj_info (o : ObjD) (ho : o.ok) : (Tryz.prog.info? 47).map (·.size) = some o.cells.toArray.size := by rw [List.size_toArray]; exact size_obj o ho
theorem obj_size0 (o : ObjD) (ho : o.ok) : (objZ.cells.toArray : Array Value).size = o.cells.toArray.size := by rw [List.size_toArray, List.size_toArray, ObjD.len ho]; rfl
theorem getO_ok (b : List UInt8) (hb : b.length = 512) (n : Int) : (getO b n).ok := by
  unfold getO
  split
  · exact objOf_ok _ (by rw [List.length_take, hb]; rfl)
  · exact objZ_ok
set_option maxRecDepth 100000 in
set_option maxHeartbeats 20000000 in
theorem rget17_any (cv : Value) (x : CacheD) (oid : Int) (w : World) (hx : RCacheIn w w.heap.size cv x) (hf : x.fits) (hd : x.disk.ok) :
    Calls Tryz.prog 54 #[cv, .int .i64 oid] w fun r w' => ∃ cv', r = .returned (.tuple #[cv', .agg (x.getO_ oid).cells.toArray, .int .i64 (x.getE_ oid)]) ∧ RCacheIn w' w'.heap.size cv' (x.get_ oid) ∧ Below w.heap.size w w' ∧ CNew w.heap.size w'.heap.size cv cv' := by
  obtain ⟨lv, wv, fv, pv, hv, rfl, h1, h2, h3⟩ := hx
  have hones := h1.ones
  have hoks := h3.2.1
  obtain ⟨ad, pc, rfl⟩ : ∃ ad pc, pv = .slice ad x.places.length pc := by obtain ⟨_, a, c, e, _⟩ := h2; exact ⟨a, c, e⟩
  obtain ⟨A1, C1, rfl⟩ : ∃ A cap, hv = .slice A x.hand.length cap := by obtain ⟨_, _, A, cap, e, _⟩ := h3; exact ⟨A, cap, e⟩
  have HONE := Lib.hid (fun (s : Int) (A : Option Addr) (m C : Nat) => rc_one (A := undef) (s := s) (room := x.room) hones (show (Value.slice ad x.places.length pc).oneCell' = true from rfl) (show (Value.slice A m C).oneCell' = true from rfl))
  have HTH := Lib.hid (fun X => rthere_any lv wv (.int .i64 x.disk.steps) fv (.int .i64 x.room) undef (.slice A1 x.hand.length C1) ad x.places.length pc oid X)
  have HFI := Lib.hid (fun X (hX : HandIn X X.heap.size (.slice A1 x.hand.length C1) x.hand) => rfind_any lv wv (.int .i64 x.disk.steps) fv (.int .i64 x.room) (.slice ad x.places.length pc) _ x.hand oid X hX)
  have HD := Lib.hid h1
  have HP := Lib.hid h2
  have HH := Lib.hid h3
  have HHO := Lib.hid (show ∀ X, Below w.heap.size w X → HandIn X X.heap.size (.slice A1 x.hand.length C1) x.hand from fun X hX => h3.up hX)
  obtain ⟨W, eW⟩ : ∃ W, W = ((w.alloc (.cells #[lv, wv, .int .i64 x.disk.steps, fv, .int .i64 x.room, .slice ad x.places.length pc, .slice A1 x.hand.length C1] 61)).alloc (.cells zeroC 61)).alloc (.cells Tryz.zeroCells47 47) := ⟨_, rfl⟩
  have hbW : Below w.heap.size w W := by rw [eW]; exact (((Below.refl _ w).alloc (Nat.le_refl _) _).alloc (by simp) _).alloc (by simp; omega) _
  have k0 : Blk W w.heap.size 61 #[lv, wv, .int .i64 x.disk.steps, fv, .int .i64 x.room, .slice ad x.places.length pc, .slice A1 x.hand.length C1] := by rw [eW]; exact ((Blk.new w _ _).alloc _).alloc _
  have k1 : Blk W (w.heap.size + 1) 61 zeroC := by rw [eW]; exact (Blk.new2 w _ _ _).alloc _
  have k2 : Blk W (w.heap.size + 2) 47 objZ.cells.toArray := by rw [eW, ← zeroObj]; exact Blk.new' (by simp)
  have HF := Lib.hid hf
  clear h1 h2 h3
  go_enter Tryz.func54, Tryz.ntmps54
  go_upto_region 1 with fail
  rw [← eW]
  clear eW
  have fin : ∀ (Z : World) (dk : DiskD) (vh : Value) (hh : List ItemD) (o : ObjD) (e : Int), o.ok → Below w.heap.size w Z → Blk Z (w.heap.size + 1) 61 zeroC → Blk Z (w.heap.size + 2) 47 objZ.cells.toArray → (∀ X, Below w.heap.size w X → Out (fun i => i < w.heap.size + 3) Z X → HandN w.heap.size (.slice A1 x.hand.length C1) X vh hh) → (∀ X B, RDisk X B lv wv fv x.disk → RDisk X B lv wv fv dk) → x.get_ oid = ⟨dk, x.room, x.places, hh⟩ → x.getO_ oid = o → x.getE_ oid = e → ∀ tmps : Array Value, tmps.getD 4 undef = .pointer (some ⟨w.heap.size + 1, 0, none⟩) → tmps.getD 5 undef = .pointer (some ⟨w.heap.size + 2, 0, none⟩) → tmps.getD 6 undef = .int .i64 e →
      bodyPost Tryz.prog Tryz.f54 (fun r w' => ∃ cv', r = .returned (.tuple #[cv', .agg (x.getO_ oid).cells.toArray, .int .i64 (x.getE_ oid)]) ∧ RCacheIn w' w'.heap.size cv' (x.get_ oid) ∧ Below w.heap.size w w' ∧ CNew w.heap.size w'.heap.size (.agg #[lv, wv, .int .i64 x.disk.steps, fv, .int .i64 x.room, .slice ad x.places.length pc, .slice A1 x.hand.length C1]) cv') Exit.ret ⟨tmps, []⟩ ((Z.setRow (w.heap.size + 1) #[lv, wv, .int .i64 dk.steps, fv, .int .i64 x.room, .slice ad x.places.length pc, vh]).setRow (w.heap.size + 2) o.cells.toArray) := by
    intro Z dk vh hh o e hok hbZ hz1 hz2 hH hdk hg ho he tmps t4 t5 t6
    have b1 := below_row hbZ #[lv, wv, .int .i64 dk.steps, fv, .int .i64 x.room, .slice ad x.places.length pc, vh] (g := w.heap.size + 1) (by omega)
    have b2 := below_row b1 o.cells.toArray (g := w.heap.size + 2) (by omega)
    have o1 := out_row (F := fun i => i < w.heap.size + 3) (w := Z) (g := w.heap.size + 1) #[lv, wv, .int .i64 dk.steps, fv, .int .i64 x.room, .slice ad x.places.length pc, vh] (by show _ < _; omega)
    have o2 := out_row (F := fun i => i < w.heap.size + 3) (w := Z.setRow (w.heap.size + 1) #[lv, wv, .int .i64 dk.steps, fv, .int .i64 x.room, .slice ad x.places.length pc, vh]) (g := w.heap.size + 2) o.cells.toArray (by show _ < _; omega)
    have y1 := blk_row_far (hz1.row #[lv, wv, .int .i64 dk.steps, fv, .int .i64 x.room, .slice ad x.places.length pc, vh]) o.cells.toArray (g' := w.heap.size + 2) (by omega)
    have y2 := (blk_row_far hz2 #[lv, wv, .int .i64 dk.steps, fv, .int .i64 x.room, .slice ad x.places.length pc, vh] (g' := w.heap.size + 1) (by omega)).row o.cells.toArray
    refine bodyPost_ret (results_row2_tmp Tryz.results54 tmps _ (w.heap.size + 1) (w.heap.size + 2) _ _ _ t4 (load_rcache y1) t5 (load_obj hok y2) t6) rfl ⟨_, by rw [ho, he], ?_, b2, CNew.mk7 (VNew.refl _ _ _) (hH _ b2 (o1.trans o2 (fun _ _ h => h))).2⟩
    rw [hg]
    exact ⟨lv, wv, fv, _, vh, rfl, hdk _ _ ((HD.out.below b2 (Nat.le_refl _)).mono b2.size), (HP.out.below b2 (Nat.le_refl _)).mono b2.size, (hH _ b2 (o1.trans o2 (fun _ _ h => h))).1⟩
  have FIN := Lib.hid fin
  clear fin
  have CO := Lib.hid (HONE.out x.disk.steps A1 x.hand.length C1)
  have zi := obj_info objZ objZ_ok
  have z1' := obj_ones objZ
  go_wp2_with (refine wpList_load_row rfl 61 _ rfl w.heap.size rfl 61 #[lv, wv, .int .i64 x.disk.steps, fv, .int .i64 x.room, .slice ad x.places.length pc, .slice A1 x.hand.length C1] (0, 0) _ k0 Tryz.underlying61 rfl (size_rcache _ _ _ _ _ _ _) ?_)
  refine (HTH.out W).mono ?_; rintro r w1 ⟨rfl, hb1⟩
  have q0 := k0.below hb1 k0.lt
  have q1 := k1.below hb1 k1.lt
  have q2 := k2.below hb1 k2.lt
  have qB := hbW.trans (hb1.mono hbW.size)
  clear k0 k1 k2 hbW hb1
  cases hth : decide (0 ≤ oid ∧ oid < (x.places.length : Int))
  · have ht : x.there oid = false := hth
    have HE1 := Lib.hid (show x.get_ oid = ⟨x.disk, x.room, x.places, x.hand⟩ by unfold CacheD.get_; rw [ht]; rfl)
    have HE2 := Lib.hid (show x.getO_ oid = objZ by unfold CacheD.getO_; rw [ht]; rfl)
    have HE3 := Lib.hid (show x.getE_ oid = 4 by unfold CacheD.getE_; rw [ht]; rfl)
    have q22 := blk_row_far q2 #[lv, wv, .int .i64 x.disk.steps, fv, .int .i64 x.room, .slice ad x.places.length pc, .slice A1 x.hand.length C1] (g' := w.heap.size + 1) (by omega)
    clear hth ht
    go_wp2_with (first
      | (refine wpList_load_row rfl 61 _ rfl w.heap.size rfl 61 #[lv, wv, .int .i64 x.disk.steps, fv, .int .i64 x.room, .slice ad x.places.length pc, .slice A1 x.hand.length C1] (0, 0) _ q0 Tryz.underlying61 rfl (size_rcache _ _ _ _ _ _ _) ?_)
      | (refine wpList_store_row rfl 61 _ _ rfl (w.heap.size + 1) #[lv, wv, .int .i64 x.disk.steps, fv, .int .i64 x.room, .slice ad x.places.length pc, .slice A1 x.hand.length C1] rfl rfl 61 _ q1 (size_rcache _ _ _ _ _ _ _) rfl CO.out ?_)
      | (refine wpList_store_row rfl 47 _ _ rfl (w.heap.size + 2) objZ.cells.toArray rfl rfl 47 _ q22 zi rfl z1' ?_))
    exact FIN.out w1 x.disk _ x.hand objZ 4 objZ_ok qB q1 q2 (fun X hX _ => ⟨HHO.out X hX, VNew.refl _ _ _⟩) (fun _ _ h => h) HE1.out HE2.out HE3.out _ rfl rfl rfl
  · have HT := Lib.hid (show x.there oid = true from hth)
    clear hth
    go_wp2_with (refine wpList_load_row rfl 61 _ rfl w.heap.size rfl 61 #[lv, wv, .int .i64 x.disk.steps, fv, .int .i64 x.room, .slice ad x.places.length pc, .slice A1 x.hand.length C1] (0, 0) _ q0 Tryz.underlying61 rfl (size_rcache _ _ _ _ _ _ _) ?_)
    refine (HFI.out w1 (HHO.out w1 qB)).mono ?_; rintro r w2 ⟨rfl, hb2⟩
    have r0 := q0.below hb2 q0.lt
    have r1 := q1.below hb2 q1.lt
    have r2 := q2.below hb2 q2.lt
    have rB := qB.trans (hb2.mono qB.size)
    have c6 := r0.cell_is 6 rfl
    clear q0 q1 q2 qB hb2
    rcases findI_cases x.hand oid with ⟨e1, e2⟩ | ⟨i, it, hi, e1, e2⟩
    · rw [e1]
      have hthe : 0 ≤ oid ∧ oid < (x.places.length : Int) := by have := HT.out; unfold CacheD.there at this; simpa using this
      obtain ⟨j, ej⟩ : ∃ j : Nat, oid = j := ⟨oid.toNat, by omega⟩
      have hjl : j < x.places.length := by omega
      obtain ⟨p, hp⟩ : ∃ p, x.places[j]? = some p := ⟨_, List.getElem?_eq_getElem hjl⟩
      have hpo : x.placeOf oid = p := by
        unfold CacheD.placeOf
        rw [ej, Int.toNat_natCast, List.getD_eq_getElem?_getD, hp]
        rfl
      obtain ⟨g, off, rfl, hg, hcell⟩ := (HP.out.below rB (Nat.le_refl _)).at_ hp
      have HG := Lib.hid (show x.get_ oid = if x.fetchE oid = 0 then (x.read_ oid).with_ ⟨oid, getO (x.disk.read p) x.n, false⟩ else x.read_ oid by unfold CacheD.get_; rw [if_pos HT.out, e2, hpo])
      have HGO := Lib.hid (show x.getO_ oid = if x.fetchE oid = 0 then getO (x.disk.read p) x.n else objZ by unfold CacheD.getO_; rw [if_pos HT.out, e2, hpo])
      have HGE := Lib.hid (show x.getE_ oid = x.fetchE oid by unfold CacheD.getE_; rw [if_pos HT.out, e2])
      have HFE := Lib.hid (show x.fetchE oid = if x.disk.err p = 0 then (if getE (x.disk.read p) x.n = 0 then 0 else 270) else x.disk.err p by unfold CacheD.fetchE; rw [hpo])
      have HRE := Lib.hid (show x.read_ oid = ⟨x.disk.after p, x.room, x.places, x.hand⟩ by unfold CacheD.read_; rw [hpo])
      have hbl : (x.disk.read p).length = 512 := by
        unfold DiskD.read
        split
        · exact x.disk.reads_len hd.sound p
        · exact List.length_replicate
      have HRD := Lib.hid (fun X (hX : RDisk X X.heap.size lv wv fv x.disk) => rdread_any x.disk lv wv fv p X hX hd)
      obtain ⟨e, ee⟩ : ∃ e, e = x.disk.err p := ⟨_, rfl⟩
      obtain ⟨s', es⟩ : ∃ s', s' = (x.disk.after p).steps := ⟨_, rfl⟩
      obtain ⟨b, eb⟩ : ∃ b, b = x.disk.read p := ⟨_, rfl⟩
      rw [← ee, ← es, ← eb] at HRD
      rw [← eb] at HG HGO hbl
      rw [← ee, ← eb] at HFE
      have HES := Lib.hid es
      have HDK := Lib.hid (show ∀ X B, RDisk X B lv wv fv x.disk → RDisk X B lv wv fv (x.disk.after p) from fun X B h => h.after_ p)
      have jl : (j : Int) < (x.places.length : Int) := by omega
      have hgw : g < w2.heap.size := by have := rB.size; omega
      have c5 := r0.cell_is 5 rfl
      have HOJ := Lib.hid ej
      have HBL := Lib.hid hbl
      have hd4 : ∀ s : Int, (#[lv, wv, .int .i64 s, fv] : Array Value).all (·.oneCell') = true := fun s => by simp [hones.1, hones.2.1, hones.2.2, show ∀ k n, (Value.int k n).oneCell' = true from fun _ _ => rfl]
      have HD4 := Lib.hid hd4
      obtain ⟨zs, ezs⟩ : ∃ zs : Array Value, zs = Tryz.zeroCells84 := ⟨_, rfl⟩
      have hzs : zs.size = (b.map vu8).toArray.size := by rw [ezs, zero111, List.size_toArray, List.size_toArray, List.length_map, List.length_map, hbl]; exact List.length_replicate
      have HZS := Lib.hid ezs
      have HZZ := Lib.hid hzs
      clear ezs hzs
      subst ej
      clear hp hpo e1 e2 hthe ee es eb hbl hd4
      go_upto_region 7 with fail
      refine jb (fun X => Below w2.heap.size w2 X) (fun _ => True) 100 (Below.refl _ _).drew trivial fun hHeld hJ => ?_
      refine jk false 0 ?_
      refine jy false 1 rfl (yieldsIf_load_mid (by rfl) 32 _ rfl w.heap.size 0 rfl [lv, wv, .int .i64 x.disk.steps, fv] _ (fun X h => fun k v hk => (blk_range (r0.below h.1 r0.lt)) k v (by
        match k, hk with
        | 0, hk => exact hk
        | 1, hk => exact hk
        | 2, hk => exact hk
        | 3, hk => exact hk)) Tryz.underlying32 rfl (size_rdisk _ _ _ _)) ?_
      refine jk false 2 ?_
      refine jk false 3 ?_ (hy := by intro X hX _; have hc := (r0.below hX r0.lt).cell_is 5 rfl; go_simp; try with_reducible rfl)
      refine jk false 4 ?_
      refine jk false 5 ?_
      refine jk false 6 ?_ (hy := by intro X hX _; have hc := (Below.cell hX (p := ⟨g, off + j, none⟩) hgw).trans hcell; go_simp; try with_reducible rfl)
      refine rp [(7, [], [], false), (8, [(7, some 43)], [7], false), (9, [(7, some 43), (8, some 35)], [8], false), (10, [(7, some 43), (8, some 35)], [8], false), (11, [(7, some 43), (8, some 35)], [8], false), (12, [], [], false), (13, [], [], false), (14, [(7, some 43), (8, some 35), (9, some 44), (12, some 9), (13, some 10)], [9, 12], false), (15, [(7, some 43), (8, some 35), (9, some 44), (10, some 45), (12, some 9), (13, some 10), (14, none)], [10, 13], false), (16, [(7, some 43), (8, some 35), (9, some 44), (10, some 45), (11, some 46), (12, some 9), (13, some 10), (14, none), (15, none)], [11], false)]
        (fun | 12 => [14] | 13 => [15] | _ => [])
        (fun | 7 => fun vs _ => vs 7 = .tuple #[.agg #[lv, wv, .int .i64 s', fv], .agg (b.map vu8).toArray, .int .i64 e]
             | 8 => fun vs _ => vs 8 = .tuple #[.agg #[lv, wv, .int .i64 s', fv], .agg (b.map vu8).toArray, .int .i64 e]
             | 9 => fun vs _ => vs 9 = .agg #[lv, wv, .int .i64 s', fv]
             | 10 => fun vs _ => vs 10 = .agg (b.map vu8).toArray
             | 11 => fun vs _ => vs 11 = .int .i64 e
             | 12 => fun vs X => ∃ g0, vs 12 = .pointer (some ⟨g0, 0, none⟩) ∧ w2.heap.size ≤ g0 ∧ Blk X g0 32 zeroD
             | 13 => fun vs X => ∃ g0, vs 13 = .pointer (some ⟨g0, 0, none⟩) ∧ w2.heap.size ≤ g0 ∧ Blk X g0 84 zs
             | 14 => fun vs X => ∃ g0, vs 12 = .pointer (some ⟨g0, 0, none⟩) ∧ w2.heap.size ≤ g0 ∧ Blk X g0 32 #[lv, wv, .int .i64 s', fv]
             | 15 => fun vs X => ∃ g0, vs 13 = .pointer (some ⟨g0, 0, none⟩) ∧ w2.heap.size ≤ g0 ∧ Blk X g0 84 (b.map vu8).toArray
             | 16 => fun vs _ => vs 16 = .int .i64 e
             | _ => fun _ _ => True)
        (fun | 7 => fun _ X Y => Below X.heap.size X Y | 12 => fun _ X Y => Below X.heap.size X Y | 13 => fun _ X Y => Below X.heap.size X Y
             | 14 => fun _ X Y => ∃ g0 cs, Blk X g0 32 cs ∧ Out (fun i => i = g0) X Y
             | 15 => fun _ X Y => ∃ g0 cs, Blk X g0 84 cs ∧ Out (fun i => i = g0) X Y
             | _ => fun _ _ _ => True)
        [(7, some 43), (8, some 35), (9, some 44), (10, some 45), (11, some 46), (12, some 9), (13, some 10), (14, none), (15, none), (16, some 11)] [14, 15, 16]
        [(7, [12, 13]), (12, [7, 8, 9, 10, 11, 13]), (13, [7, 8, 9, 10, 11, 12]), (14, [7, 8, 9, 10, 11, 13]), (15, [7, 8, 9, 10, 11, 12, 14])] ?_ ?_ ?_ ?_
      · have up : ∀ (X Y : World) (g0 : Nat) (t : TypeId) (cs : Array Value), Below X.heap.size X Y → Blk X g0 t cs → Blk Y g0 t cs := fun X Y g0 t cs hb h => h.below hb h.lt
        have far : ∀ (X Y : World) (g0 g1 : Nat) (t t1 : TypeId) (cs cs1 : Array Value), t ≠ t1 → Blk X g1 t1 cs1 → Out (fun i => i = g1) X Y → Blk X g0 t cs → Blk Y g0 t cs := fun X Y g0 g1 t t1 cs cs1 ht h1 ho h => ho.blk h (Blk.ne_ h h1 ht)
        exact ⟨⟨fun vs X Y hE _ _ ⟨g0, a, c, d⟩ => ⟨g0, a, c, up X Y _ _ _ hE d⟩, fun vs X Y hE _ _ ⟨g0, a, c, d⟩ => ⟨g0, a, c, up X Y _ _ _ hE d⟩, trivial⟩,
          ⟨fun _ _ _ _ _ _ h => h, fun _ _ _ _ _ _ h => h, fun _ _ _ _ _ _ h => h, fun _ _ _ _ _ _ h => h, fun _ _ _ _ _ _ h => h, fun vs X Y hE _ _ ⟨g0, a, c, d⟩ => ⟨g0, a, c, up X Y _ _ _ hE d⟩, trivial⟩,
          ⟨fun _ _ _ _ _ _ h => h, fun _ _ _ _ _ _ h => h, fun _ _ _ _ _ _ h => h, fun _ _ _ _ _ _ h => h, fun _ _ _ _ _ _ h => h, fun vs X Y hE _ _ ⟨g0, a, c, d⟩ => ⟨g0, a, c, up X Y _ _ _ hE d⟩, trivial⟩,
          ⟨fun _ _ _ _ _ _ h => h, fun _ _ _ _ _ _ h => h, fun _ _ _ _ _ _ h => h, fun _ _ _ _ _ _ h => h, fun _ _ _ _ _ _ h => h, fun vs X Y ⟨g1, cs, h1, h2⟩ _ _ ⟨g0, a, c, d⟩ => ⟨g0, a, c, far X Y _ _ _ _ _ _ (by decide) h1 h2 d⟩, trivial⟩,
          ⟨fun _ _ _ _ _ _ h => h, fun _ _ _ _ _ _ h => h, fun _ _ _ _ _ _ h => h, fun _ _ _ _ _ _ h => h, fun _ _ _ _ _ _ h => h, fun vs X Y ⟨g1, cs, h1, h2⟩ _ _ ⟨g0, a, c, d⟩ => ⟨g0, a, c, far X Y _ _ _ _ _ _ (by decide) h1 h2 d⟩, fun vs X Y ⟨g1, cs, h1, h2⟩ _ _ ⟨g0, a, c, d⟩ => ⟨g0, a, c, far X Y _ _ _ _ _ _ (by decide) h1 h2 d⟩, trivial⟩, trivial⟩
      · exact cc (cc (cc (cc (cc (cc (cc (cc (cc (cc cn)))))))))
      · refine oc ?_ (oc ?_ (oc ?_ (oc ?_ (oc ?_ (oc ?_ (oc ?_ (oc ?_ (oc ?_ (oc ?_ on)))))))))
        · intro vs X K hS _ _ hK
          simp only [puts, Act.put, pz0, pz1, pz2, pz3, pz4, pz5]
          go_simp
          have hbx := rB.trans (Below.mono hS rB.size)
          refine (HRD.out X ((HD.out.below hbx (Nat.le_refl _)).mono hbx.size)).mono ?_; rintro r Y ⟨rfl, hb⟩
          exact hK.out _ _ _ rfl (Below.trans hS (hb.mono (Below.size hS))) (.inr id) rfl hb
        · intro vs X K hS _ hP hK
          have e7 : vs 7 = .tuple #[.agg #[lv, wv, .int .i64 s', fv], .agg (b.map vu8).toArray, .int .i64 e] := hP.1
          simp only [puts, Act.put, pz0, pz1, pz2, pz3, pz4, pz5, e7]
          go_simp
          exact hK.out _ _ _ (by simp only [puts, Act.put, pz0, pz1, pz2, pz3, pz4, pz5, e7]) hS (.inr id) rfl rfl
        · intro vs X K hS _ hP hK
          have e7 : vs 8 = .tuple #[.agg #[lv, wv, .int .i64 s', fv], .agg (b.map vu8).toArray, .int .i64 e] := hP.1
          simp only [puts, Act.put, pz0, pz1, pz2, pz3, pz4, pz5, e7]
          go_simp
          exact hK.out _ _ _ (by simp only [puts, Act.put, pz0, pz1, pz2, pz3, pz4, pz5, e7]) hS (.inr id) rfl rfl
        · intro vs X K hS _ hP hK
          have e7 : vs 8 = .tuple #[.agg #[lv, wv, .int .i64 s', fv], .agg (b.map vu8).toArray, .int .i64 e] := hP.1
          simp only [puts, Act.put, pz0, pz1, pz2, pz3, pz4, pz5, e7]
          go_simp
          exact hK.out _ _ _ (by simp only [puts, Act.put, pz0, pz1, pz2, pz3, pz4, pz5, e7]) hS (.inr id) rfl rfl
        · intro vs X K hS _ hP hK
          have e7 : vs 8 = .tuple #[.agg #[lv, wv, .int .i64 s', fv], .agg (b.map vu8).toArray, .int .i64 e] := hP.1
          simp only [puts, Act.put, pz0, pz1, pz2, pz3, pz4, pz5, e7]
          go_simp
          exact hK.out _ _ _ (by simp only [puts, Act.put, pz0, pz1, pz2, pz3, pz4, pz5, e7]) hS (.inr id) rfl rfl
        · intro vs X K hS _ hP hK
          simp only [puts, Act.put, pz0, pz1, pz2, pz3, pz4, pz5]
          go_simp
          exact hK.out _ _ _ rfl (Below.alloc hS (Below.size hS) _) (.inr id) ⟨X.heap.size, rfl, Below.size hS, Blk.new X _ _⟩ ((Below.refl X.heap.size X).alloc (Nat.le_refl _) _)
        · intro vs X K hS _ hP hK
          have hn := Blk.new X 84 zs
          have hzz := HZS.out
          simp only [puts, Act.put, pz0, pz1, pz2, pz3, pz4, pz5]
          go_simp
          rw [← hzz]
          exact hK.out _ _ _ rfl (Below.alloc hS (Below.size hS) _) (.inr id) ⟨X.heap.size, rfl, Below.size hS, hn⟩ ((Below.refl X.heap.size X).alloc (Nat.le_refl _) _)
        · intro vs X K hS _ hP hK
          have e9 : vs 9 = .agg #[lv, wv, .int .i64 s', fv] := hP.1
          have h13 : ∃ g0, vs 12 = .pointer (some ⟨g0, 0, none⟩) ∧ w2.heap.size ≤ g0 ∧ Blk X g0 32 zeroD := hP.2.1
          refine Exists.elim h13 fun g0 h14 => ?_
          have e12 := h14.1
          have hg0 := h14.2.1
          have hB := h14.2.2
          clear h13 h14 hP
          simp only [puts, Act.put, pz0, pz1, pz2, pz3, pz4, pz5, e9, e12]
          rw [if_pos (by rfl)]
          refine wp_store_row 32 _ _ rfl g0 #[lv, wv, .int .i64 s', fv] rfl rfl 32 zeroD hB (size_rdisk _ _ _ _) rfl (HD4.out _) ?_
          exact hK.out _ undef _ (by simp only [puts, Act.put, pz0, pz1, pz2, pz3, pz4, pz5, e9, e12]) (below_row hS _ hg0) (.inr id) ⟨g0, by rw [upd_ne (by decide)]; exact e12, hg0, Blk.row hB _⟩ ⟨g0, _, hB, out_row _ rfl⟩
        · intro vs X K hS _ hP hK
          have e10 : vs 10 = .agg (b.map vu8).toArray := hP.1
          have h13 : ∃ g0, vs 13 = .pointer (some ⟨g0, 0, none⟩) ∧ w2.heap.size ≤ g0 ∧ Blk X g0 84 zs := hP.2.1
          refine Exists.elim h13 fun g0 h14 => ?_
          have e13 := h14.1
          have hg0 := h14.2.1
          have hB := h14.2.2
          clear h13 h14 hP
          simp only [puts, Act.put, pz0, pz1, pz2, pz3, pz4, pz5, e10, e13]
          rw [if_pos (by rfl)]
          refine wp_store_row 84 _ _ rfl g0 (b.map vu8).toArray rfl rfl 84 _ hB (sector_size b HBL.out) HZZ.out (sector_all b) ?_
          exact hK.out _ undef _ (by simp only [puts, Act.put, pz0, pz1, pz2, pz3, pz4, pz5, e10, e13]) (below_row hS _ hg0) (.inr id) ⟨g0, by rw [upd_ne (by decide)]; exact e13, hg0, Blk.row hB _⟩ ⟨g0, _, hB, out_row _ rfl⟩
        · intro vs X K hS _ hP hK
          have e11 : vs 11 = .int .i64 e := hP.1
          simp only [puts, Act.put, pz0, pz1, pz2, pz3, pz4, pz5, e11]
          go_simp
          exact hK.out _ _ _ (by simp only [puts, Act.put, pz0, pz1, pz2, pz3, pz4, pz5, e11]) hS (.inr id) rfl rfl
      · intro vs X hS hP
        obtain ⟨⟨g9, e12, hg9, hB9⟩, ⟨g10, e13, hg10, hB10⟩, e16, -⟩ := hP
        have e12 : vs 12 = .pointer (some ⟨g9, 0, none⟩) := e12
        have e13 : vs 13 = .pointer (some ⟨g10, 0, none⟩) := e13
        have e16 : vs 16 = .int .i64 e := e16
        simp only [puts, Act.put, pz0, pz1, pz2, pz3, pz4, pz5, e12, e13, e16]
        generalize vs 7 = v7
        generalize vs 8 = v8
        generalize vs 9 = v9
        generalize vs 10 = v10
        generalize vs 11 = v11
        clear e12 e13 e16 hHeld hJ
        have x0 := r0.below hS r0.lt
        have x1 := r1.below hS r1.lt
        have x2 := r2.below hS r2.lt
        have xB := rB.trans (Below.mono hS rB.size)
        have hw2 : w.heap.size + 2 < w2.heap.size := r2.lt
        have hth := there_blk x0 0 4 (by show 4 ≤ 7; omega)
        have TH := Lib.hid hth
        have x0' := setCells_blk w.heap.size 61 [lv, wv, .int .i64 s', fv] 0 X _ x0 (by show 0 + 4 ≤ 7; omega)
        have XO := Lib.hid (out_setCells (F := fun i => i < w.heap.size + 3) w.heap.size (by show _ < _; omega) [lv, wv, .int .i64 s', fv] 0 X)
        obtain ⟨X8, eX8⟩ : ∃ X8, X8 = X.setCells w.heap.size 0 [lv, wv, .int .i64 s', fv] := ⟨_, rfl⟩
        rw [← eX8] at x0' XO
        have y0 : Blk X8 w.heap.size 61 #[lv, wv, .int .i64 s', fv, .int .i64 x.room, .slice (some ⟨g, off, none⟩) x.places.length pc, .slice A1 x.hand.length C1] := x0'
        have ho8 : Out (fun i => i = w.heap.size) X X8 := by rw [eX8]; exact out_setCells (F := fun i => i = w.heap.size) w.heap.size rfl _ _ _
        have y1 := ho8.blk x1 (by omega)
        have y2 := ho8.blk x2 (by omega)
        have y10 := ho8.blk hB10 (by omega)
        have yB := xB.trans (ho8.below (B := w.heap.size) xB.size (fun i hi e => by omega))
        go_upto_region 9 with (first
          | (refine wpList_load_row rfl 32 _ rfl g9 rfl 32 #[lv, wv, .int .i64 s', fv] (0, 0) _ hB9 Tryz.underlying32 rfl (size_rdisk _ _ _ _) ?_)
          | (refine wpList_store_mid rfl 32 _ _ rfl w.heap.size 0 #[lv, wv, .int .i64 s', fv] rfl rfl TH.out (size_rdisk _ _ _ _) (HD4.out _) ?_))
        rw [← eX8]
        clear eX8 x0' x0 x1 x2 hth hB9 hB10 r0 r1 r2 c5
        have CO8 := Lib.hid (HONE.out s' A1 x.hand.length C1)
        by_cases he : e = 0
        · subst he
          have hfe := HFE.out
          rw [if_pos rfl] at hfe
          have HFE2 := Lib.hid hfe
          have HGB := Lib.hid (fun X => rget5_any b HBL.out (x.places.length : Int) X)
          have y5 := y0.cell_is 5 rfl
          clear hfe HFE
          obtain ⟨o', eo'⟩ : ∃ o', o' = getO b x.n := ⟨_, rfl⟩
          obtain ⟨no, eno⟩ : ∃ no, no = getE b x.n := ⟨_, rfl⟩
          have HGB2 := Lib.hid (show ∀ X, Calls Tryz.prog 85 #[.agg (b.map vu8).toArray, .int .i64 (x.places.length : Int)] X fun r w' => r = .returned (.tuple #[.agg o'.cells.toArray, .int .i64 no]) ∧ Below X.heap.size X w' from fun X => by rw [eo', eno]; exact HGB.out X)
          have hok' : o'.ok := by rw [eo']; exact getO_ok b HBL.out _
          rw [← eno] at HFE2
          rw [← eo'] at HG HGO
          have hoi := obj_info o' hok'
          have ho1 := obj_ones o'
          have hos := obj_size0 o' hok'
          have hso := size_obj o' hok'
          have hz47 : (Tryz.zeroCells47 : Array Value).size = o'.cells.toArray.size := by rw [zeroObj]; exact hos
          clear eo' eno HGB
          go_wp2_with (refine wpList_load_row rfl 84 _ rfl g10 rfl 84 (b.map vu8).toArray (0, 0) _ y10 Tryz.underlying84 rfl (sector_size b HBL.out) ?_)
          refine (HGB2.out X8).mono ?_; rintro r X9 ⟨rfl, hb9⟩
          obtain ⟨XA, eXA⟩ : ∃ XA, XA = X9.alloc (.cells o'.cells.toArray 47) := ⟨_, rfl⟩
          have hbA : Below X8.heap.size X8 XA := by rw [eXA]; exact hb9.alloc hb9.size _
          have zo : Blk XA X9.heap.size 47 o'.cells.toArray := by rw [eXA]; exact Blk.new X9 _ _
          have z0 := y0.below hbA y0.lt
          have z1 := y1.below hbA y1.lt
          have z2 := y2.below hbA y2.lt
          have zB := yB.trans (hbA.mono yB.size)
          have h89 := hb9.size
          have hy2 := y2.lt
          go_upto_region 12 with (refine wpList_store_row rfl 47 _ _ rfl X9.heap.size o'.cells.toArray rfl rfl 47 _ (heap_alloc_new X9 _) hoi hz47 ho1 ?_; rw [World.setRow_alloc_new])
          rw [← eXA]
          clear eXA y0 y1 y2 yB hbA hb9 y5 y10
          by_cases hno : no = 0
          · subst hno
            have hfe := HFE2.out
            rw [if_pos rfl] at hfe
            have hg := HG.out
            have hgo := HGO.out
            have hge := HGE.out
            rw [hfe, if_pos rfl, HRE.out] at hg
            rw [hfe, if_pos rfl] at hgo
            rw [hfe] at hge
            have HE1 := Lib.hid hg
            have HE2 := Lib.hid hgo
            have HE3 := Lib.hid hge
            have HBT := Lib.hid (item_built (j : Int) o' false hok')
            have HWX := Lib.hid (fun W (hW : HandIn W W.heap.size (.slice A1 x.hand.length C1) x.hand) => rwith_any lv wv fv (.slice A1 x.hand.length C1) s' x.room (some ⟨g, off, none⟩) x.places.length pc x.hand ⟨(j : Int), o', false⟩ W hW hok' HF.out.1 HF.out.2 hones)
            clear hfe hg hgo hge HFE2
            go_upto_region 14 with fail
            refine jb (fun X => Blk X X9.heap.size 47 o'.cells.toArray) (fun X => Below XA.heap.size XA X) 6 zo.drew (Below.refl _ _).drew fun hHeld hJ => ?_
            refine jy true 0 rfl (yieldsIf_load_mid (by rfl) 61 _ rfl w.heap.size 0 rfl [lv, wv, .int .i64 s', fv, .int .i64 x.room, .slice (some ⟨g, off, none⟩) x.places.length pc, .slice A1 x.hand.length C1] _ (fun w' h => blk_range (z0.below (h.2 rfl) z0.lt)) Tryz.underlying61 rfl (size_rcache _ _ _ _ _ _ _)) ?_
            refine jk false 1 ?_
            refine jy false 2 rfl (yieldsIf_load_mid (by rfl) 47 _ rfl X9.heap.size 0 rfl o'.cells _ (fun w' h => blk_range h.1) Tryz.underlying47 rfl hso) ?_
            refine jy false 3 rfl (yieldsIf_build (by rfl) 149 _ rfl (ItemD.cells ⟨(j : Int), o', false⟩).toArray (by exact HBT.out)) ?_
            refine jy false 5 rfl (yieldsIf_load_mid (by rfl) 47 _ rfl X9.heap.size 0 rfl o'.cells _ (fun w' h => blk_range h.1) Tryz.underlying47 rfl hso) ?_
            refine jr 4 fun K hK => ?_
            go_simp
            refine (HWX.out XA.drew (HHO.out XA zB).drew).mono ?_; rintro r Y4 ⟨v4, rfl, ⟨hO4, hok4, hl4⟩, hb4⟩
            obtain ⟨A4, C4, rfl⟩ := slice_form hO4
            go_wp2_with fail
            have u3 := zo.drew.below hb4 zo.lt
            refine hK.out _ _ ⟨u3, fun _ => Below.trans hJ hb4⟩ ?_
            clear hK K
            refine jr 6 fun K hK => ?_
            have u1 := z1.drew.below hb4 z1.lt
            have u2 := z2.drew.below hb4 z2.lt
            have uB := zB.drew.trans (hb4.mono zB.size)
            have UO := Lib.hid hO4
            have v2 := blk_row_far u2 #[lv, wv, .int .i64 s', fv, .int .i64 x.room, .slice (some ⟨g, off, none⟩) x.places.length pc, .slice A4 (withD x.room x.places.length x.hand ⟨(j : Int), o', false⟩).length C4] (g' := w.heap.size + 1) (by omega)
            refine wp_store_row 61 _ _ rfl (w.heap.size + 1) #[lv, wv, .int .i64 s', fv, .int .i64 x.room, .slice (some ⟨g, off, none⟩) x.places.length pc, .slice A4 (withD x.room x.places.length x.hand ⟨(j : Int), o', false⟩).length C4] rfl rfl 61 _ u1 (size_rcache _ _ _ _ _ _ _) rfl (HONE.out _ _ _ _) ?_
            refine hK.out _ _ ⟨blk_row_far u3 _ (by omega), fun h => absurd h (by decide)⟩ ?_
            clear hK K hHeld hJ
            refine jr 7 fun K hK => ?_
            refine wp_store_row 47 _ _ rfl (w.heap.size + 2) o'.cells.toArray rfl rfl 47 _ v2 hoi hos ho1 ?_
            have hHeld := blk_row_far (blk_row_far u3 #[lv, wv, .int .i64 s', fv, .int .i64 x.room, .slice (some ⟨g, off, none⟩) x.places.length pc, .slice A4 (withD x.room x.places.length x.hand ⟨(j : Int), o', false⟩).length C4] (g' := w.heap.size + 1) (by omega)) o'.cells.toArray (g' := w.heap.size + 2) (by omega)
            refine hK.out _ _ ⟨hHeld, fun h => absurd h (by decide)⟩ ?_
            clear hK K
            refine jk false 8 ?_
            refine wpAnyJ_done (by kernel_rfl) ?_ _
            have hXA : w.heap.size + 3 ≤ XA.heap.size := z2.lt
            go_wp2_with fail
            have hfin := FIN.out Y4 (x.disk.after p) _ (withD x.room x.places.length x.hand ⟨(j : Int), o', false⟩) o' 0 hok' uB u1 u2 (fun X hX hOX => ⟨HandIn.own (ownsRow_out hOX UO.out (fun g hg hlt => by have h7 := (World.ownsRow.lt UO.out g hg).1; have h8 : XA.heap.size ≤ g := h7; omega)) hok4 hl4, VNew.own UO.out (show w.heap.size ≤ XA.heap.size by omega) hOX.size⟩) HDK.out HE1.out HE2.out HE3.out
            rw [← HES.out] at hfin
            exact hfin _ rfl rfl rfl
          · have hfe := HFE2.out
            rw [if_neg hno] at hfe
            have hg := HG.out
            have hgo := HGO.out
            have hge := HGE.out
            rw [hfe, if_neg (by decide), HRE.out] at hg
            rw [hfe, if_neg (by decide)] at hgo
            rw [hfe] at hge
            have HE1 := Lib.hid hg
            have HE2 := Lib.hid hgo
            have HE3 := Lib.hid hge
            have hnb : (no != 0) = true := by simpa using hno
            have z22 := blk_row_far z2 #[lv, wv, .int .i64 s', fv, .int .i64 x.room, .slice (some ⟨g, off, none⟩) x.places.length pc, .slice A1 x.hand.length C1] (g' := w.heap.size + 1) (by omega)
            clear hfe hg hgo hge HFE2 hno
            go_wp2_with (first
              | (refine wpList_load_row rfl 61 _ rfl w.heap.size rfl 61 #[lv, wv, .int .i64 s', fv, .int .i64 x.room, .slice (some ⟨g, off, none⟩) x.places.length pc, .slice A1 x.hand.length C1] (0, 0) _ z0 Tryz.underlying61 rfl (size_rcache _ _ _ _ _ _ _) ?_)
              | (refine wpList_store_row rfl 61 _ _ rfl (w.heap.size + 1) #[lv, wv, .int .i64 s', fv, .int .i64 x.room, .slice (some ⟨g, off, none⟩) x.places.length pc, .slice A1 x.hand.length C1] rfl rfl 61 _ z1 (size_rcache _ _ _ _ _ _ _) rfl CO8.out ?_)
              | (refine wpList_store_row rfl 47 _ _ rfl (w.heap.size + 2) objZ.cells.toArray rfl rfl 47 _ z22 zi rfl z1' ?_))
            have hfin := FIN.out XA (x.disk.after p) _ x.hand objZ 270 objZ_ok zB z1 z2 (fun X hX _ => ⟨HHO.out X hX, VNew.refl _ _ _⟩) HDK.out HE1.out HE2.out HE3.out
            rw [← HES.out] at hfin
            exact hfin _ rfl rfl rfl
        · have hfe := HFE.out
          rw [if_neg he] at hfe
          have hg := HG.out
          have hgo := HGO.out
          have hge := HGE.out
          rw [hfe, if_neg he, HRE.out] at hg
          rw [hfe, if_neg he] at hgo
          rw [hfe] at hge
          have HE1 := Lib.hid hg
          have HE2 := Lib.hid hgo
          have HE3 := Lib.hid hge
          have hnb : (e != 0) = true := by simpa using he
          have z22 := blk_row_far y2 #[lv, wv, .int .i64 s', fv, .int .i64 x.room, .slice (some ⟨g, off, none⟩) x.places.length pc, .slice A1 x.hand.length C1] (g' := w.heap.size + 1) (by omega)
          clear hfe hg hgo hge he
          go_wp2_with (first
            | (refine wpList_load_row rfl 61 _ rfl w.heap.size rfl 61 #[lv, wv, .int .i64 s', fv, .int .i64 x.room, .slice (some ⟨g, off, none⟩) x.places.length pc, .slice A1 x.hand.length C1] (0, 0) _ y0 Tryz.underlying61 rfl (size_rcache _ _ _ _ _ _ _) ?_)
            | (refine wpList_store_row rfl 61 _ _ rfl (w.heap.size + 1) #[lv, wv, .int .i64 s', fv, .int .i64 x.room, .slice (some ⟨g, off, none⟩) x.places.length pc, .slice A1 x.hand.length C1] rfl rfl 61 _ y1 (size_rcache _ _ _ _ _ _ _) rfl CO8.out ?_)
            | (refine wpList_store_row rfl 47 _ _ rfl (w.heap.size + 2) objZ.cells.toArray rfl rfl 47 _ z22 zi rfl z1' ?_))
          have hfin := FIN.out X8 (x.disk.after p) _ x.hand objZ e objZ_ok yB y1 y2 (fun X hX _ => ⟨HHO.out X hX, VNew.refl _ _ _⟩) HDK.out HE1.out HE2.out HE3.out
          rw [← HES.out] at hfin
          exact hfin _ rfl rfl rfl
    · rw [e1]
      have hil : i < x.hand.length := (List.getElem?_eq_some_iff.1 hi).1
      have i3 : (i : Int) < (x.hand.length : Int) := by omega
      have i4 : ¬ ((i : Int) < 0) := by omega
      have hito := hoks it (List.mem_of_getElem? hi)
      have HE1 := Lib.hid (show x.get_ oid = ⟨x.disk, x.room, x.places, withD x.room x.places.length x.hand it⟩ by unfold CacheD.get_; rw [if_pos HT.out, e2]; rfl)
      have HE2 := Lib.hid (show x.getO_ oid = it.o by unfold CacheD.getO_; rw [if_pos HT.out, e2])
      have HE3 := Lib.hid (show x.getE_ oid = 0 by unfold CacheD.getE_; rw [if_pos HT.out, e2])
      obtain ⟨g, rfl, hg, hr, hoid, hch⟩ := (HHO.out w2 rB).at_ hi
      have hsi := size_item it hito
      have HRI := Lib.hid hr
      have HWX := Lib.hid (fun W (hW : HandIn W W.heap.size (.slice (some ⟨g, 0, none⟩) x.hand.length C1) x.hand) => rwith_any lv wv fv (.slice (some ⟨g, 0, none⟩) x.hand.length C1) x.disk.steps x.room ad x.places.length pc x.hand it W hW hito HF.out.1 HF.out.2 hones)
      clear e1 e2 hr hoid hi hch
      obtain ⟨W3, eW3⟩ : ∃ W3, W3 = w2.alloc (.cells it.cells.toArray 149) := ⟨_, rfl⟩
      have hb3 : Below w2.heap.size w2 W3 := by rw [eW3]; exact (Below.refl _ _).alloc (Nat.le_refl _) _
      have b3 : Blk W3 w2.heap.size 149 it.cells.toArray := by rw [eW3]; exact Blk.new w2 _ _
      have s0 := r0.below hb3 r0.lt
      have s1 := r1.below hb3 r1.lt
      have s2 := r2.below hb3 r2.lt
      have sB := rB.trans (hb3.mono rB.size)
      have hz3 : (Tryz.zeroCells149 : Array Value).size = it.cells.toArray.size := by
        have e : it.cells.toArray.size = 165 := by rw [List.size_toArray]; exact ItemD.len it hito
        have e2 : (Tryz.zeroCells149 : Array Value).size = 165 := by kernel_rfl
        rw [e2, e]
      have hsa : (Tryz.prog.info? 149).map (·.size) = some it.cells.toArray.size := by rw [List.size_toArray]; exact hsi
      have h13 : it.cells.toArray.all (·.oneCell') = true := by simp only [List.all_toArray]; exact List.all_eq_true.2 (item_one it)
      have hw2 : w.heap.size + 2 < w2.heap.size := r2.lt
      clear hg
      go_upto_region 6 with (first
        | (refine wpList_load_mid rfl 149 _ rfl g (i * 165) rfl it.cells _ HRI.out Tryz.underlying149 rfl hsi ?_)
        | (refine wpList_store_row rfl 149 _ _ rfl w2.heap.size it.cells.toArray rfl rfl 149 _ (heap_alloc_new w2 _) hsa hz3 h13 ?_; rw [World.setRow_alloc_new]))
      rw [← eW3]
      clear eW3 r0 r1 r2 rB c6
      have hso := size_obj it.o hito
      have hoi := obj_info it.o hito
      have ho1 := obj_ones it.o
      have hos := obj_size0 it.o hito
      refine jb (fun X => Blk X w2.heap.size 149 it.cells.toArray) (fun X => Below W3.heap.size W3 X) 5 b3.drew (Below.refl _ _).drew fun hHeld hJ => ?_
      refine jy true 0 rfl (yieldsIf_load_mid (by rfl) 61 _ rfl w.heap.size 0 rfl [lv, wv, .int .i64 x.disk.steps, fv, .int .i64 x.room, .slice ad x.places.length pc, .slice (some ⟨g, 0, none⟩) x.hand.length C1] _ (fun w' h => blk_range (s0.below (h.2 rfl) s0.lt)) Tryz.underlying61 rfl (size_rcache _ _ _ _ _ _ _)) ?_
      refine jy false 1 rfl (yieldsIf_load_mid (by rfl) 149 _ rfl w2.heap.size 0 rfl it.cells _ (fun w' h => blk_range h.1) Tryz.underlying149 rfl hsi) ?_
      refine jk false 3 ?_
      refine jy false 4 rfl (yieldsIf_load_mid (by rfl) 47 _ rfl w2.heap.size 1 rfl it.o.cells _ (fun w' h => by have := item_range hito (blk_range h.1); rwa [Nat.zero_add] at this) Tryz.underlying47 rfl hso) ?_
      refine jr 2 fun K hK => ?_
      go_simp
      refine (HWX.out W3.drew (HHO.out W3 sB).drew).mono ?_; rintro r w4 ⟨v4, rfl, ⟨hO4, hok4, hl4⟩, hb4⟩
      obtain ⟨A4, C4, rfl⟩ := slice_form hO4
      go_wp2_with fail
      have u3 := b3.drew.below hb4 b3.lt
      refine hK.out _ _ ⟨u3, fun _ => Below.trans hJ hb4⟩ ?_
      clear hK K
      refine jr 5 fun K hK => ?_
      have u1 := s1.drew.below hb4 s1.lt
      have u2 := s2.drew.below hb4 s2.lt
      have uB := sB.drew.trans (hb4.mono sB.size)
      have UO := Lib.hid hO4
      have v2 := blk_row_far u2 #[lv, wv, .int .i64 x.disk.steps, fv, .int .i64 x.room, .slice ad x.places.length pc, .slice A4 (withD x.room x.places.length x.hand it).length C4] (g' := w.heap.size + 1) (by omega)
      refine wp_store_row 61 _ _ rfl (w.heap.size + 1) #[lv, wv, .int .i64 x.disk.steps, fv, .int .i64 x.room, .slice ad x.places.length pc, .slice A4 (withD x.room x.places.length x.hand it).length C4] rfl rfl 61 _ u1 (size_rcache _ _ _ _ _ _ _) rfl (HONE.out _ _ _ _) ?_
      refine hK.out _ _ ⟨blk_row_far u3 _ (by omega), fun h => absurd h (by decide)⟩ ?_
      clear hK K hHeld hJ
      refine jr 6 fun K hK => ?_
      refine wp_store_row 47 _ _ rfl (w.heap.size + 2) it.o.cells.toArray rfl rfl 47 _ v2 hoi hos ho1 ?_
      have hHeld := blk_row_far (blk_row_far u3 #[lv, wv, .int .i64 x.disk.steps, fv, .int .i64 x.room, .slice ad x.places.length pc, .slice A4 (withD x.room x.places.length x.hand it).length C4] (g' := w.heap.size + 1) (by omega)) it.o.cells.toArray (g' := w.heap.size + 2) (by omega)
      refine hK.out _ _ ⟨hHeld, fun h => absurd h (by decide)⟩ ?_
      clear hK K
      refine jk false 7 ?_
      refine wpAnyJ_done (by kernel_rfl) ?_ _
      have hW3 : w.heap.size + 3 ≤ W3.heap.size := s2.lt
      go_wp2_with fail
      exact FIN.out w4 x.disk _ (withD x.room x.places.length x.hand it) it.o 0 hito uB u1 u2 (fun X hX hOX => ⟨HandIn.own (ownsRow_out hOX UO.out (fun g hg hlt => by have h7 := (World.ownsRow.lt UO.out g hg).1; have h8 : W3.heap.size ≤ g := h7; omega)) hok4 hl4, VNew.own UO.out (show w.heap.size ≤ W3.heap.size by omega) hOX.size⟩) (fun _ _ h => h) HE1.out HE2.out HE3.out _ rfl rfl rfl
end Go.Proofs.YtemcgfncahccgaaGreat
