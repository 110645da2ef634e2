/-
  copy of bytes to a sector; head.sector. (Written by gen_lhead.py.)
  The contract of codec.Put. (Written by gen_lcput.py.)
-/
import Derived.Laws.CopyRow
import Derived.Lib.SlBuf
import Derived.Test.YtdpniceapmikpaaGreatWh1
import Derived.Test.YtdpniceapmikpaaGreatWh2
import Derived.Test.YtdpniceapmikpaaGreatWh12
set_option linter.unusedVariables false
set_option linter.unusedSimpArgs false
namespace Go.Proofs.YtdpniceapmikpaaGreat
open Go.RowKit

/-- bytes laid over others, from the first on -/
def layL (b l : List UInt8) : List UInt8 := l ++ b.drop l.length
theorem layL_len (b l : List UInt8) (h : l.length ≤ b.length) : (layL b l).length = b.length := by simp [layL]; omega
def padL (l : List UInt8) : List UInt8 := l ++ List.replicate (508 - l.length) 0
theorem padL_len (l : List UInt8) (h : l.length ≤ 508) : (padL l).length = 508 := by simp [padL]; omega
/-- a sector that is sealed -/
def sectorL (l : List UInt8) : List UInt8 := sealOf (padL l)
theorem sectorL_len (l : List UInt8) (h : l.length ≤ 508) : (sectorL l).length = 512 := by rw [sectorL, sealOf_len, padL_len l h]
theorem lay_pad (l : List UInt8) (h : l.length ≤ 508) : (layL sector0 l).take 508 = padL l := by
 unfold layL padL sector0
 rw [List.drop_replicate, List.take_append, List.take_of_length_le h, List.take_replicate]
 congr 2
 omega
theorem lay_whole (b l : List UInt8) (h : b.length = l.length) : layL b l = l := by
 unfold layL
 rw [← h, List.drop_length, List.append_nil]
theorem run_copy_lay (w : World) (g : Nat) (t : TypeId) (b0 : List UInt8) (hg : Blk w g t (b0.map vu8).toArray) (B : Nat) (a : Option Addr) (m cap cap' : Nat) (l : List UInt8) (hv : BytesIn w B (.slice a m cap) l) (hl : l.length ≤ b0.length) (ty : TypeId) :
  ∃ w', (Builtin.copy_ #[26, 26] ty #[.slice (some ⟨g, 0, none⟩) b0.length cap', .slice a m cap]).run Tryz.prog w = .ok (goInt l.length) w' ∧ Blk w' g t ((layL b0 l).map vu8).toArray ∧ Out (fun i => i = g) w w' := by
 obtain ⟨hm, a', cap2, e, hcap, hc⟩ := hv
 injection e with e1 e2 e3
 subst e1
 subst e2
 cases a with
 | none =>
  have hl0 : l = [] := by
   cases l with
   | nil => rfl
   | cons c l =>
    obtain ⟨g, off, h, _⟩ := hc 0 c rfl
    cases h
  subst hl0
  refine ⟨w, ?_, by simpa [layL] using hg, Out.refl _ _⟩
  have := run_copy_none (P := Tryz.prog) w 26 26 ty 5 (some ⟨g, 0, none⟩) none b0.length cap' 0 cap Tryz.underlying26 (by kernel_rfl) (by simp)
  exact this
 | some ad =>
  have hsrc : ∀ j u, (l.map vu8)[j]? = some u → w.cell? (ad.add j) = some u := by
   intro j u hj
   rw [List.getElem?_map] at hj
   obtain ⟨c, hcj, rfl⟩ := Option.map_eq_some_iff.1 hj
   obtain ⟨g, off, h, _, hcell⟩ := hc j c hcj
   obtain rfl := Option.some.inj h
   rw [add_at]
   exact hcell
  have hr := run_copy_row (P := Tryz.prog) w 26 26 ty 5 g 0 b0.length cap' ad l.length cap (b0.map vu8).toArray t (l.map vu8) Tryz.underlying26 (by kernel_rfl) hg (by rw [List.length_map]; exact (Nat.min_eq_left hl).symm) hsrc (by simp; omega) (sector_one l)
  refine ⟨_, by rw [List.length_map] at hr; exact hr, ?_, out_row _ rfl⟩
  have e : (layL b0 l).map vu8 = (b0.map vu8).toArray.toList.take 0 ++ l.map vu8 ++ (b0.map vu8).toArray.toList.drop (0 + (l.map vu8).length) := by
   simp [layL, List.map_drop]
  rw [List.length_map] at e
  rw [e]
  exact hg.row _
/-- a sector's block as bytes -/
theorem blk_bytes {w : World} {g : Nat} {t : TypeId} {b : List UInt8} (h : Blk w g t (b.map vu8).toArray) (n : Nat) (hn : n ≤ b.length) (hb : b.length ≤ maxLen) : BytesIn w w.heap.size (.slice (some ⟨g, 0, none⟩) n b.length) (b.take n) := by
 have hl : (b.take n).length = n := by rw [List.length_take]; omega
 refine ⟨by omega, _, b.length, by rw [hl], by omega, fun j c hj => ⟨g, 0, rfl, h.lt, h.cell_is (0 + j) ?_⟩⟩
 rw [List.getElem?_toArray, Nat.zero_add, List.getElem?_map]
 rw [List.getElem?_take] at hj
 split at hj
 ·rw [hj]; rfl
 ·cases hj

set_option maxRecDepth 100000 in
set_option maxHeartbeats 4000000 in
theorem hsector_any (g B : Nat) (t : TypeId) (v : Value) (l : List UInt8) (w : World) (hc : Blk w g t #[v]) (ho : w.ownsRow B 5 1 v l.length (l.map vu8)) (hl : l.length ≤ 508) :
  Calls Tryz.prog 60 #[ptr g] w fun e w' => e = .returned (sectorV (sectorL l)) ∧ Below w.heap.size w w' := by
 obtain ⟨a, cap, rfl⟩ := slice_form ho
 have hU := BytesIn.own ho
 have HC := Lib.hid hc
 have hlt := hc.lt
 unfold ptr sectorV
 clear hc ho
 obtain ⟨W, eW⟩ : ∃ W, W = (w.alloc (.cells Tryz.zeroCells111 111)).alloc (.cells Tryz.zeroCells111 111) := ⟨_, rfl⟩
 have hbW : Below w.heap.size w W := by rw [eW]; exact ((Below.refl _ w).alloc (Nat.le_refl _) _).alloc (by simp) _
 have k0 : Blk W w.heap.size 111 (sector0.map vu8).toArray := by rw [eW, ← zero111]; exact (Blk.new w _ _).alloc _
 have k1 : Blk W (w.heap.size + 1) 111 (sector0.map vu8).toArray := by rw [eW, ← zero111]; exact Blk.new2 w _ _ _
 have c1 := (HC.out.below hbW hlt).cell_is 0 rfl
 have HK0 := Lib.hid k0
 have HK1 := Lib.hid k1
 have HBW := Lib.hid hbW
 have HU := Lib.hid (hU.below hbW (Nat.le_refl _))
 have hlc : l.length ≤ cap := by
  obtain ⟨_, a', cap', e, h, _⟩ := hU
  cases e
  exact h
 clear k0 k1 hbW hU
 go_enter Tryz.func60, Tryz.ntmps60
 go_upto_region 2 with fail
 rw [← eW]
 clear eW
 refine wp_region_held_drew (S := (fun w' => w'.cell? ⟨g, 0, none⟩ = some (.slice a l.length cap))) (by kernel_rfl) (by (try dsimp only); (exact c1)) (fun hHeld => ?_)
 refine tk 0 ?_
 refine tk 1 ?_
 refine tk 2 ?_
 refine tk 3 ?_
 refine tk 4 ?_
 refine tk 5 ?_
 refine rd 6 fun K hK => ?_
 rw [if_pos (by rfl)]
 obtain ⟨W2, hr2, hk2, ho2⟩ := run_copy_lay W.drew (w.heap.size + 1) 111 sector0 HK1.out.drew w.heap.size a l.length cap 512 l HU.out (by show _ ≤ 512; omega) 3
 refine Lib.wp_copy_run _ (.tmp 4) (.tmp 9) 26 26 rfl _ _ rfl rfl hr2 ?_
 have hcg : Blk W2 g t #[.slice a l.length cap] := ho2.blk (HC.out.below HBW.out hlt).drew (by omega)
 refine hK.out _ _ (hcg.cell_is 0 rfl) (fun hHeld => ?_)
 clear hK K
 refine wpAnyH_done (by kernel_rfl) ?_ _
 try simp only [Act.put, pz0, pz1, pz2, pz3, pz4, pz5]
 have HK2 := Lib.hid hk2
 have HPL := Lib.hid (padL_len l hl)
 have hV3 := blk_bytes hk2.drew 508 (by rw [layL_len _ _ (by show _ ≤ 512; omega)]; decide) (by rw [layL_len _ _ (by show _ ≤ 512; omega)]; decide)
 rw [lay_pad l hl, layL_len _ _ (by show _ ≤ 512; omega)] at hV3
 have HV3 := Lib.hid hV3
 have HO2 := Lib.hid ho2
 clear hcg hk2 ho2 hV3
 go_upto_region 3 with fail
 refine wp_region_held_drew (S := (fun _ => True)) (by kernel_rfl) trivial (fun hHeld => ?_)
 refine tk 0 ?_
 refine tk 1 ?_
 refine rd 2 fun K hK => ?_
 go_simp
 (refine (seal_any _ (padL l) _ HV3.out (by rw [HPL.out]; omega)).mono ?_; rintro e w4 ⟨u, rfl, hO4, hb4⟩; rw [HPL.out] at hO4; obtain ⟨a4, cap4, rfl⟩ := slice_form hO4)
 go_wp2_with fail
 refine hK.out _ _ trivial (fun hHeld => ?_)
 clear hK K
 try simp only [Act.put, pz0, pz1, pz2, pz3, pz4, pz5]
 have hk4 := HK2.out.drew.below hb4 HK2.out.lt
 have hs4 := sealOf_len (padL l)
 rw [HPL.out] at hs4
 obtain ⟨W5, hr5, hk5, ho5⟩ := run_copy_lay w4 (w.heap.size + 1) 111 (layL sector0 l) hk4 w4.heap.size a4 512 cap4 512 (sealOf (padL l)) (BytesIn.own hO4) (by rw [hs4, layL_len _ _ (by show _ ≤ 512; omega)]; decide) 3
 rw [layL_len _ _ (by show _ ≤ 512; omega)] at hr5
 rw [lay_whole _ _ (by rw [hs4, layL_len _ _ (by show _ ≤ 512; omega)]; rfl)] at hk5
 refine rd 3 fun K hK => ?_
 rw [if_pos (by rfl)]
 refine Lib.wp_copy_run _ (.tmp 11) (.tmp 13) 26 26 rfl _ _ rfl rfl hr5 ?_
 refine hK.out _ _ trivial (fun hHeld => ?_)
 clear hK K
 refine wpAnyH_done (by kernel_rfl) ?_ _
 try simp only [Act.put, pz0, pz1, pz2, pz3, pz4, pz5]
 have k0 : Blk W5 w.heap.size 111 (sector0.map vu8).toArray := ho5.blk ((HO2.out.blk HK0.out.drew (by omega)).drew.below hb4 (HO2.out.blk HK0.out.drew (by omega)).lt) (by omega)
 have HK5 := Lib.hid hk5
 have hsl : (sealOf (padL l)).length = 512 := hs4
 have hB5 : Below w.heap.size w W5 := by
  have h1 : Below w.heap.size w W2 := HBW.out.drew.trans (HO2.out.below (by have := HBW.out.size; exact this) (fun i hi e => by omega))
  have h2 : Below w.heap.size w w4 := h1.drew.trans (hb4.mono (by have := h1.size; exact this))
  exact h2.trans (ho5.below (by have := h2.size; exact this) (fun i hi e => by omega))
 have HB5 := Lib.hid hB5
 clear hB5 ho5 hk5
 go_wp2_with (first
  | (refine wpList_load_row rfl 111 _ rfl (w.heap.size + 1) rfl 111 ((sealOf (padL l)).map vu8).toArray (0, 0) _ HK5.out Tryz.underlying111 rfl (sector_size _ hsl) ?_)
  | (refine wpList_store_row rfl 111 _ _ rfl w.heap.size ((sealOf (padL l)).map vu8).toArray rfl rfl 111 _ k0 (sector_size _ hsl) (sector_eq _ _ List.length_replicate hsl) (sector_all _) ?_))
 exact bodyPost_ret (results_cell_row Tryz.results60 _ _ w.heap.size 111 _ (0, 0) _ rfl (k0.row _) Tryz.underlying111 rfl (sector_size _ hsl)) rfl ⟨rfl, below_row HB5.out _ (Nat.le_refl _)⟩
end Go.Proofs.YtdpniceapmikpaaGreat
namespace Go.Proofs.YtdpniceapmikpaaGreat
open Go.RowKit

/-- an object's bytes -/
def objL (o : ObjD) : List UInt8 := leB (u64 o.kd) 4 ++ leB (u64 o.ct) 4 ++ leB (u64 o.cl) 4 ++ o.slots.flatMap keyB ++ o.bytes
theorem keys_len (l : List KeyD) : (l.flatMap keyB).length = 20 * l.length := by
 induction l with
 | nil => rfl
 | cons x l ih => rw [List.flatMap_cons, List.length_append, keyB_len, ih, List.length_cons]; omega
theorem objL_len (o : ObjD) (ho : o.ok) : (objL o).length = 396 := by
 unfold objL
 simp only [List.length_append, leB_len, keys_len, ho.1, ho.2]
theorem wpList_load_is {P : Program} {ops : Array Oper} {rest : List Oper} {o : Oper} {a : Act} {Q : Exit → Act → World → Prop} (w : World) (hgd : o.guard = none) (ty : TypeId) (x : Operand) (ho : o.op = .load ty x) (p v : Value) (hx : a.eval x = p)
  (hl : (Instr.loadAt ty p).run P w = .ok v w) (h : wpList P ops Q rest (a.put o.dst v) w) : wpList P ops Q (o :: rest) a w :=
 wpList_plain hgd fun _ hK => by
  unfold Oper.wp execOp
  simp only [ho, hx, hl, Sem.run_bind, Sem.run_pure, Result.andThen_ok]
  exact hK _ _ h
theorem keys_take (l : List KeyD) (j : Nat) (h : j < l.length) : (l.take (j + 1)).flatMap keyB = (l.take j).flatMap keyB ++ keyB (l[j]'h) := by
 rw [List.take_add_one, List.getElem?_eq_getElem h, List.flatMap_append]
 simp
/-- where Put stands while the writer grows -/
structure PutInv (G : Nat) (w W : World) (cs : Array Value) (v : Value) (l : List UInt8) : Prop where
 obj : Blk W w.heap.size 62 cs
 res : Blk W (w.heap.size + 1) 111 (sector0.map vu8).toArray
 out : Blk W (w.heap.size + 1 + 1) 111 (sector0.map vu8).toArray
 box : Blk W G 193 #[v]
 row : W.ownsRow G 5 1 v l.length (l.map vu8)
 below : Below w.heap.size w W
 big : w.heap.size + 3 ≤ G
theorem PutInv.lt {G : Nat} {w W : World} {cs : Array Value} {v : Value} {l : List UInt8} (h : PutInv G w W cs v l) : G < W.heap.size := h.box.lt
theorem PutInv.step {G : Nat} {w W W' : World} {cs : Array Value} {v v' : Value} {l l' : List UInt8} (h : PutInv G w W cs v l) (hs : RowStep G v v' W W') (hb : Blk W' G 193 #[v']) (ho : W'.ownsRow G 5 1 v' l'.length (l'.map vu8)) : PutInv G w W' cs v' l' := by
 have hg := h.big
 have hsz := h.below.size
 refine ⟨hs.blk h.box h.row h.obj (by omega) (by decide), hs.blk h.box h.row h.res (by omega) (by decide), hs.blk h.box h.row h.out (by omega) (by decide), hb, ho, ?_, hg⟩
 exact h.below.trans (hs.out.below (by omega) (fun i hi hd => hd.elim (fun e => by omega) (fun e => by have := (h.row.lt i e).1; omega)))
theorem PutInv.far {G : Nat} {w W W' : World} {cs : Array Value} {v : Value} {l : List UInt8} (h : PutInv G w W cs v l) (hb : Below W.heap.size W W') : PutInv G w W' cs v l :=
 ⟨h.obj.below hb h.obj.lt, h.res.below hb h.res.lt, h.out.below hb h.out.lt, h.box.below hb h.box.lt, ownsRow_out (F := fun _ => False) (outB hb) h.row (fun _ _ => id), h.below.trans (hb.mono h.below.size), h.big⟩
theorem page_bytes {w : World} {g : Nat} {o : ObjD} (ho : o.ok) (h : Blk w g 62 o.cells.toArray) : BytesIn w w.heap.size (.slice (some ⟨g, 99, none⟩) 64 64) o.bytes := by
 refine ⟨by rw [ho.2]; decide, _, 64, by rw [ho.2], by rw [ho.2]; exact Nat.le_refl _, fun j c hj => ⟨g, 99, rfl, h.lt, h.cell_is (99 + j) ?_⟩⟩
 rw [List.getElem?_toArray]
 unfold ObjD.cells
 rw [List.getElem?_append_right (by simp; omega), List.getElem?_append_right (by rw [slotCells_len, ho.1]; simp; omega), slotCells_len, ho.1]
 rw [show 99 + j - [Value.int IntKind.i64 o.kd, .int .i64 o.ct, .int .i64 o.cl].length - 6 * 16 = j by simp; omega, List.getElem?_map, hj]
 rfl

set_option maxRecDepth 100000 in
set_option maxHeartbeats 4000000 in
theorem cput_yes (o : ObjD) (ho : o.ok) (n : Int) (w : World) (hy : objB o n = true) :
  Calls Tryz.prog 57 #[.agg o.cells.toArray, .int .i64 n] w fun e w' => e = .returned (.tuple #[sectorV (sectorL (objL o)), .int .i64 0]) ∧ Below w.heap.size w w' := by
 obtain ⟨cs, ec⟩ : ∃ cs, cs = o.cells.toArray := ⟨_, rfl⟩
 rw [← ec]
 have HC := Lib.hid (fun w => ocheck_any o ho n w)
 rw [← ec] at HC
 have HEC := Lib.hid ec
 have hsz : (Tryz.prog.info? 62).map (·.size) = some cs.size := by rw [ec, List.size_toArray, ObjD.len ho]; kernel_rfl
 clear ec
 go_enter Tryz.func57, Tryz.ntmps57
 go_upto_region 2 with fail
 obtain ⟨W, eW⟩ : ∃ W, W = ((w.alloc (.cells cs 62)).alloc (.cells Tryz.zeroCells111 111)).alloc (.cells Tryz.zeroCells111 111) := ⟨_, rfl⟩
 rw [← eW]
 have hbW : Below w.heap.size w W := by rw [eW]; exact (((Below.refl _ w).alloc (Nat.le_refl _) _).alloc (by simp) _).alloc (by simp; omega) _
 have k0 : Blk W w.heap.size 62 cs := by rw [eW]; exact ((Blk.new w _ _).alloc _).alloc _
 have k1 : Blk W (w.heap.size + 1) 111 (sector0.map vu8).toArray := by rw [eW, ← zero111]; exact (Blk.new2 w _ _ _).alloc _
 have k2 : Blk W (w.heap.size + 1 + 1) 111 (sector0.map vu8).toArray := by rw [eW, ← zero111]; exact Blk.new' (by simp)
 clear eW
 go_wp2_with (refine wpList_load_row rfl 62 _ rfl w.heap.size rfl 62 cs (0, 0) _ k0 Tryz.underlying62 rfl hsz ?_)
 refine (HC.out W).mono ?_; rintro e w1 ⟨rfl, hb1⟩
 rw [hy]
 obtain ⟨W1, eW1⟩ : ∃ W1, W1 = w1.alloc (.cells #[.slice none 0 0] 193) := ⟨_, rfl⟩
 obtain ⟨G, eG⟩ : ∃ G, G = w1.heap.size := ⟨_, rfl⟩
 have hWs : w.heap.size + 3 ≤ W.heap.size := by have := k2.lt; omega
 have hbb : Below w.heap.size w w1 := hbW.trans (hb1.mono hbW.size)
 have H1 : PutInv G w W1 cs (.slice none 0 0) [] := by
  rw [eW1, eG]
  exact ⟨(k0.below hb1 k0.lt).alloc _, (k1.below hb1 k1.lt).alloc _, (k2.below hb1 k2.lt).alloc _, Blk.new w1 _ _, World.ownsRow_nil _ _ _ _, hbb.alloc hbb.size _, by have := hb1.size; omega⟩
 have H1 := Lib.hid H1
 have d1 : W1.cell? ⟨w.heap.size, 0, none⟩ = some (.int .i64 o.kd) := (obj_range H1.out.obj HEC.out 0).trans rfl
 have f1 : W1.cell? ⟨w.heap.size, 1, none⟩ = some (.int .i64 o.ct) := (obj_range H1.out.obj HEC.out 1).trans rfl
 have g1 : W1.cell? ⟨w.heap.size, 2, none⟩ = some (.int .i64 o.cl) := (obj_range H1.out.obj HEC.out 2).trans rfl
 have u1 : IntKind.u64.wrap o.kd = (u64 o.kd : Int) := by rw [IntKind.wrap_u64, u64_int]
 have u2 : IntKind.u64.wrap o.ct = (u64 o.ct : Int) := by rw [IntKind.wrap_u64, u64_int]
 have u3 : IntKind.u64.wrap o.cl = (u64 o.cl : Int) := by rw [IntKind.wrap_u64, u64_int]
 clear k0 k1 k2 hb1 hbW hbb
 go_upto_region 5 with fail
 rw [← eW1, ← eG]
 clear eW1 eG
 go_wp2_with fail
 refine (wnumber_any G G (u64 o.kd) 4 193 _ [] _ (by omega) (u64_lt _) H1.out.box (by decide) H1.out.row (by simp [leB_len]) (Nat.le_of_lt H1.out.lt)).mono ?_; rintro e w2 ⟨rfl, v2, hb2, ho2, hs2⟩
 have H2 := Lib.hid (H1.out.step hs2 hb2 ho2)
 have d2 : w2.cell? ⟨w.heap.size, 0, none⟩ = some (.int .i64 o.kd) := by rw [H2.out.obj.cell 0, HEC.out]; rfl
 have f2 : w2.cell? ⟨w.heap.size, 1, none⟩ = some (.int .i64 o.ct) := by rw [H2.out.obj.cell 1, HEC.out]; rfl
 have g2 : w2.cell? ⟨w.heap.size, 2, none⟩ = some (.int .i64 o.cl) := by rw [H2.out.obj.cell 2, HEC.out]; rfl
 clear hb2 ho2 hs2
 go_wp2_with fail
 refine (wnumber_any G G (u64 o.ct) 4 193 _ ([] ++ leB (u64 o.kd) 4) _ (by omega) (u64_lt _) H2.out.box (by decide) H2.out.row (by simp [leB_len]) (Nat.le_of_lt H2.out.lt)).mono ?_; rintro e w3 ⟨rfl, v3, hb3, ho3, hs3⟩
 have H3 := Lib.hid (H2.out.step hs3 hb3 ho3)
 have d3 : w3.cell? ⟨w.heap.size, 0, none⟩ = some (.int .i64 o.kd) := by rw [H3.out.obj.cell 0, HEC.out]; rfl
 have f3 : w3.cell? ⟨w.heap.size, 1, none⟩ = some (.int .i64 o.ct) := by rw [H3.out.obj.cell 1, HEC.out]; rfl
 have g3 : w3.cell? ⟨w.heap.size, 2, none⟩ = some (.int .i64 o.cl) := by rw [H3.out.obj.cell 2, HEC.out]; rfl
 clear hb3 ho3 hs3
 go_wp2_with fail
 refine (wnumber_any G G (u64 o.cl) 4 193 _ ([] ++ leB (u64 o.kd) 4 ++ leB (u64 o.ct) 4) _ (by omega) (u64_lt _) H3.out.box (by decide) H3.out.row (by simp [leB_len]) (Nat.le_of_lt H3.out.lt)).mono ?_; rintro e w4 ⟨rfl, v4, hb4, ho4, hs4⟩
 have H4 := Lib.hid (H3.out.step hs4 hb4 ho4)
 have d4 : w4.cell? ⟨w.heap.size, 0, none⟩ = some (.int .i64 o.kd) := by rw [H4.out.obj.cell 0, HEC.out]; rfl
 have f4 : w4.cell? ⟨w.heap.size, 1, none⟩ = some (.int .i64 o.ct) := by rw [H4.out.obj.cell 1, HEC.out]; rfl
 have g4 : w4.cell? ⟨w.heap.size, 2, none⟩ = some (.int .i64 o.cl) := by rw [H4.out.obj.cell 2, HEC.out]; rfl
 clear hb4 ho4 hs4
 obtain ⟨l3, el3⟩ : ∃ l3, l3 = [] ++ leB (u64 o.kd) 4 ++ leB (u64 o.ct) 4 ++ leB (u64 o.cl) 4 := ⟨_, rfl⟩
 rw [← el3] at H4
 have hl3 : l3.length = 12 := by rw [el3]; simp [leB_len]
 have HL3 := Lib.hid el3
 clear el3 d1 f1 g1 d2 f2 g2 d3 f3 g3 u1 u2 u3 H1 H2 H3 d4 f4 g4
 have HSL := Lib.hid (run_loadAt_mid (P := Tryz.prog) w4 w.heap.size 3 59 (slotCells o.slots) _ (fun j v hv => by
  rw [obj_range H4.out.obj HEC.out (3 + j)]
  unfold ObjD.cells
  rw [List.getElem?_append_right (by simp), List.getElem?_append_left (by rw [List.length_cons, List.length_cons, List.length_cons, List.length_nil]; have := (List.getElem?_eq_some_iff.1 hv).1; omega)]
  rw [show 3 + j - [Value.int IntKind.i64 o.kd, .int .i64 o.ct, .int .i64 o.cl].length = j by simp]
  exact hv) Tryz.underlying59 rfl (by rw [slotCells_len, ho.1]; exact info_slots))
 go_wp2_with (refine wpList_load_is _ rfl 59 _ rfl _ _ rfl HSL.out ?_)
 have hsl16 := ho.1
 obtain ⟨X, eX⟩ : ∃ X, X = (slotCells o.slots).toArray := ⟨_, rfl⟩
 rw [← eX]
 have HIX := Lib.hid (fun j x hx W => slots_index o.slots ho.1 j x hx W)
 rw [← eX] at HIX
 clear eX HSL
 go_loopw [29] (fun i wr => ∃ (j : Nat) (v' : Value), j ≤ 16 ∧ i = .int .i64 (j : Int) ∧ PutInv G w wr cs v' (l3 ++ (o.slots.take j).flatMap keyB)) (fun i _ => 16 - (intOf i).toNat)
 case atStart => exact ⟨0, v4, Nat.zero_le _, rfl, by simpa using H4.out⟩
 case round =>
  obtain ⟨j, v5, hj, rfl, hI⟩ := hrel
  by_cases hlt : j < 16
  ·have hjl : j < o.slots.length := by omega
   have hix := HIX.out j (o.slots[j]'hjl) (List.getElem?_eq_getElem hjl)
   have HT := Lib.hid (keys_take o.slots j hjl)
   have hlt' : (j : Int) < 16 := by omega
   generalize o.slots[j]'hjl = x at *
   have hltw := hI.lt
   have HI := Lib.hid (hI.far ((Below.refl _ wr).alloc (Nat.le_refl _) (.cells #[.int .i64 x.k, .int .i64 x.o, .int .i64 x.c, .int .i64 x.a, .int .i64 x.r, .int .i64 x.v] 58)))
   have HLE := Lib.hid (show (l3 ++ (o.slots.take j).flatMap keyB).length ≤ 50000 by rw [List.length_append, keys_len, List.length_take]; omega)
   clear hI
   go_wp2_with fail
   refine (wkey_any G G x 193 v5 _ _ HI.out.box (by decide) (by decide) HI.out.row HLE.out (Nat.le_of_lt HI.out.lt)).mono ?_; rintro e w6 ⟨rfl, v6, hb6, ho6, hs6⟩
   go_wp2_with fail
   go_roundw
   case rel => exact ⟨j + 1, v6, by omega, by simp, by rw [HT.out, ← List.append_assoc]; exact HI.out.step hs6 hb6 ho6⟩
   case measure => simp [intOf]; omega
  ·obtain rfl : j = 16 := by omega
   rw [List.take_of_length_le (by omega)] at hI
   have hgv := hI.box.cell_is 0 rfl
   go_upto_region 13 with fail
   obtain ⟨L4, eL4⟩ : ∃ L4, L4 = l3 ++ o.slots.flatMap keyB := ⟨_, rfl⟩
   rw [← eL4] at hI
   have hL4 : L4.length ≤ 400 := by rw [eL4, List.length_append, keys_len]; omega
   have HL4 := Lib.hid eL4
   clear eL4
   have HI := Lib.hid hI
   have hltG := hI.lt
   have hPB := page_bytes ho (w := wr.drew) (g := w.heap.size) (by rw [← HEC.out]; exact hI.obj.drew)
   have HPB := Lib.hid hPB
   have hROW := Lib.hid (ownsRow_out (F := fun _ => False) (outB (Below.refl _ wr).drew) hI.row (fun _ _ => id))
   have hob := ho.2
   have hnG : ∀ i, v5.ownBlock = some i → i ≠ G := ne_own hI.row hI.box (by decide)
   clear hI hPB
   refine wp_region_held_drew (S := (fun _ => True)) (by kernel_rfl) trivial (fun hHeld => ?_)
   refine tk 0 ?_
   refine tk 1 ?_
   refine tk 3 ?_
   refine tk 4 ?_
   refine rd 2 fun K hK => ?_
   go_simp
   refine hK.out _ _ trivial (fun hHeld => ?_)
   clear hK K
   try simp only [Act.put, pz0, pz1, pz2, pz3, pz4, pz5]
   refine rd 5 fun K hK => ?_
   rw [if_pos (by rfl)]
   refine wp_append_bytes_at wr.drew (.tmp 37) (.tmp 39) rfl G wr.drew.heap.size L4.length v5 _ rfl hROW.out (some ⟨w.heap.size, 99, none⟩) 64 64 o.bytes rfl hob HPB.out (by omega) (Nat.le_of_lt hltG) ?_
   intro v7 w7 hO7 hg7 hn7
   obtain ⟨a7, cap7, rfl⟩ := slice_form hO7
   obtain ⟨q1, q2⟩ := grown_row (Below.refl _ wr).drew hg7 HI.out.box (fun e => hnG G e rfl) hn7
   have cc : Blk w7 G 193 #[v5] := (hg7.block G hltG (fun e => hnG G e.symm rfl)).trans HI.out.box.drew
   have c7 := cc.cell_is 0 rfl
   have f7 := cc.frozen 0
   have HO7 := Lib.hid (ownsRow_out (F := fun i => i = G) (out_set (v := .slice a7 (L4.length + 64) cap7) (i := 0) rfl) hO7 (ne_own hO7 cc (by decide)))
   refine hK.out _ _ trivial (fun hHeld => ?_)
   clear hK K
   try simp only [Act.put, pz0, pz1, pz2, pz3, pz4, pz5]
   refine tk 6 ?_
   refine tk 7 ?_
   refine rd 8 fun K hK => ?_
   go_simp
   refine hK.out _ _ trivial (fun hHeld => ?_)
   clear hK K
   refine wpAnyH_done (by kernel_rfl) ?_ _
   try simp only [Act.put, pz0, pz1, pz2, pz3, pz4, pz5]
   obtain ⟨L5, eL5⟩ : ∃ L5, L5 = L4 ++ o.bytes := ⟨_, rfl⟩
   have hL5 : L5.length = L4.length + 64 := by rw [eL5, List.length_append, hob]
   have H8 := Lib.hid (HI.out.step q2 (l' := L5) q1 (by rw [hL5, eL5, List.map_append]; exact HO7.out))
   have HL5 := Lib.hid (show objL o = L5 by rw [eL5, HL4.out, HL3.out]; unfold objL; simp)
   have hl508 : L5.length ≤ 508 := by omega
   rw [← hL5] at H8 ⊢
   clear q1 q2 hO7 eL5 cc c7 f7 HO7 hL5
   generalize World.setCell _ _ _ = w8 at *
   have hc8 := H8.out.box.cell_is 0 rfl
   have HU8 := Lib.hid ((BytesIn.own H8.out.row))
   go_upto_region 14 with fail
   obtain ⟨a8, e8⟩ : ∃ a, a = a7 := ⟨_, rfl⟩
   obtain ⟨cap8, ec8⟩ : ∃ a, a = cap7 := ⟨_, rfl⟩
   subst e8
   subst ec8
   refine wp_region_held_drew (S := (fun w' => w'.cell? ⟨G, 0, none⟩ = some (.slice a8 L5.length cap8))) (by kernel_rfl) (by (try dsimp only); (exact hc8)) (fun hHeld => ?_)
   refine tk 0 ?_
   refine tk 1 ?_
   refine tk 2 ?_
   refine tk 3 ?_
   obtain ⟨W2, hr2, hk2, ho2⟩ := run_copy_lay w8.drew (w.heap.size + 1 + 1) 111 sector0 H8.out.out.drew w8.heap.size _ L5.length _ 512 L5 HU8.out (by show _ ≤ 512; omega) 3
   refine rd 4 fun K hK => ?_
   rw [if_pos (by rfl)]
   refine Lib.wp_copy_run _ (.tmp 43) (.tmp 46) 26 26 rfl _ _ rfl rfl hr2 ?_
   have hbig := H8.out.big
   have hcg : Blk W2 G 193 _ := ho2.blk H8.out.box.drew (by omega)
   refine hK.out _ _ (hcg.cell_is 0 rfl) (fun hHeld => ?_)
   clear hK K
   refine wpAnyH_done (by kernel_rfl) ?_ _
   try simp only [Act.put, pz0, pz1, pz2, pz3, pz4, pz5]
   have HK2 := Lib.hid hk2
   have HPL := Lib.hid (padL_len L5 hl508)
   have hV3 := blk_bytes hk2.drew 508 (by rw [layL_len _ _ (by show _ ≤ 512; omega)]; decide) (by rw [layL_len _ _ (by show _ ≤ 512; omega)]; decide)
   rw [lay_pad L5 hl508, layL_len _ _ (by show _ ≤ 512; omega)] at hV3
   have HV3 := Lib.hid hV3
   have HO2 := Lib.hid ho2
   clear hcg hk2 ho2 hV3
   go_upto_region 15 with fail
   refine wp_region_held_drew (S := (fun _ => True)) (by kernel_rfl) trivial (fun hHeld => ?_)
   refine tk 0 ?_
   refine tk 1 ?_
   refine rd 2 fun K hK => ?_
   go_simp
   (refine (seal_any _ (padL L5) _ HV3.out (by rw [HPL.out]; omega)).mono ?_; rintro e w4 ⟨u, rfl, hO4, hb4⟩; rw [HPL.out] at hO4; obtain ⟨a4, cap4, rfl⟩ := slice_form hO4)
   go_wp2_with fail
   refine hK.out _ _ trivial (fun hHeld => ?_)
   clear hK K
   try simp only [Act.put, pz0, pz1, pz2, pz3, pz4, pz5]
   have hk4 := HK2.out.drew.below hb4 HK2.out.lt
   have hs4 := sealOf_len (padL L5)
   rw [HPL.out] at hs4
   obtain ⟨W5, hr5, hk5, ho5⟩ := run_copy_lay w4 (w.heap.size + 1 + 1) 111 (layL sector0 L5) hk4 w4.heap.size a4 512 cap4 512 (sealOf (padL L5)) (BytesIn.own hO4) (by rw [hs4, layL_len _ _ (by show _ ≤ 512; omega)]; decide) 3
   rw [layL_len _ _ (by show _ ≤ 512; omega)] at hr5
   rw [lay_whole _ _ (by rw [hs4, layL_len _ _ (by show _ ≤ 512; omega)]; rfl)] at hk5
   refine rd 3 fun K hK => ?_
   rw [if_pos (by rfl)]
   refine Lib.wp_copy_run _ (.tmp 48) (.tmp 50) 26 26 rfl _ _ rfl rfl hr5 ?_
   refine hK.out _ _ trivial (fun hHeld => ?_)
   clear hK K
   refine wpAnyH_done (by kernel_rfl) ?_ _
   try simp only [Act.put, pz0, pz1, pz2, pz3, pz4, pz5]
   have k0 : Blk W5 (w.heap.size + 1) 111 (sector0.map vu8).toArray := ho5.blk ((HO2.out.blk H8.out.res.drew (by omega)).drew.below hb4 (HO2.out.blk H8.out.res.drew (by omega)).lt) (by omega)
   have HK5 := Lib.hid hk5
   have hsl : (sealOf (padL L5)).length = 512 := hs4
   have hB5 : Below w.heap.size w W5 := by
    have h0 : Below w.heap.size w w8.drew := H8.out.below.drew
    have h1 : Below w.heap.size w W2 := h0.trans (HO2.out.below h0.size (fun i hi e => by omega))
    have h2 : Below w.heap.size w w4 := h1.drew.trans (hb4.mono h1.size)
    exact h2.trans (ho5.below h2.size (fun i hi e => by omega))
   have HB5 := Lib.hid hB5
   clear hB5 ho5 hk5
   go_wp2_with (first
    | (refine wpList_load_row rfl 111 _ rfl (w.heap.size + 1 + 1) rfl 111 ((sealOf (padL L5)).map vu8).toArray (0, 0) _ HK5.out Tryz.underlying111 rfl (sector_size _ hsl) ?_)
    | (refine wpList_store_row rfl 111 _ _ rfl (w.heap.size + 1) ((sealOf (padL L5)).map vu8).toArray rfl rfl 111 _ k0 (sector_size _ hsl) (sector_eq _ _ List.length_replicate hsl) (sector_all _) ?_))
   refine bodyPost_ret (results_row_tmp Tryz.results57 _ _ (w.heap.size + 1) 111 ((sealOf (padL L5)).map vu8).toArray (0, 0) _ rfl (k0.row _) Tryz.underlying111 rfl (sector_size _ hsl) _ rfl) rfl ?_
   refine ⟨?_, below_row HB5.out _ (by omega)⟩
   rw [HL5.out]
   rfl
end Go.Proofs.YtdpniceapmikpaaGreat
