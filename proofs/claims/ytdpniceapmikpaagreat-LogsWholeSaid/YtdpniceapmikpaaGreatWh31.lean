/-
  The reference's disk: Write. (Written by gen_lrd5.py.)
  The reference's Disk.Fail. (Written by gen_lrfail.py.)
  The program's Disk.Fail.
  disk.Copy: another disk that stands alike.
-/
import Derived.Deep.RegionHeld3
import Derived.Shelf.SlicesE.Clone
import Derived.Deep.Onto
import Derived.Test.YtdpniceapmikpaaGreatWh1
import Derived.Test.YtdpniceapmikpaaGreatWh10
import Derived.Test.YtdpniceapmikpaaGreatWh11
import Derived.Test.YtdpniceapmikpaaGreatWh17
import Derived.Test.YtdpniceapmikpaaGreatWh18
import Derived.Test.YtdpniceapmikpaaGreatWh28
import Derived.Test.YtdpniceapmikpaaGreatWh30
set_option linter.unusedVariables false
set_option linter.unusedSimpArgs false
namespace Go.Proofs.YtdpniceapmikpaaGreat
open Go.RowKit

theorem results_row_tmp2 {P : Program} {fn : Func} {p r : Tmp} {ty : TypeId} (h : fn.results = #[.cell p ty, .tmp r]) (tmps : Array Value) (w : World) (b v : Value) (g : Nat)
  (hp : tmps.getD p undef = .pointer (some ⟨g, 0, none⟩)) (hb : (loadVar ty ⟨g, 0, none⟩).run P w = .ok b w) (hr : tmps.getD r undef = v) :
  (results fn tmps).run P w = .ok (.tuple #[b, v]) w := by
 have hp' : tmps[p]?.getD undef = .pointer (some ⟨g, 0, none⟩) := by simpa using hp
 have hr' : tmps[r]?.getD undef = v := by simpa using hr
 simp [results, h, hp', hr', asAddr, hb]
end Go.Proofs.YtdpniceapmikpaaGreat
namespace Go.Proofs.YtdpniceapmikpaaGreat
open Go.RowKit

end Go.Proofs.YtdpniceapmikpaaGreat
namespace Go.Proofs.YtdpniceapmikpaaGreat
open Go.RowKit

theorem lookOf_map (k : List Int) (n : Int) : lookOf (k.map fun n => (n, Value.agg #[])) n = if n ∈ k then some (.agg #[]) else none := lookOf_fails k n
theorem setOld_map (n : Int) : ∀ (k : List Int), setOld (k.map fun n => (n, Value.agg #[])) n (.agg #[]) = k.map fun n => (n, Value.agg #[])
 | [] => rfl
 | x :: k => by
  show (if n == x then (x, Value.agg #[]) :: k.map _ else (x, Value.agg #[]) :: setOld (k.map _) n (.agg #[])) = _
  rw [setOld_map n k]
  split <;> rfl
theorem set_fail (w : World) (r : Nat) (k : List Int) (hm : MapAt w r .i64 (k.map fun n => (n, Value.agg #[]))) (n : Int) :
  ∃ (w' : World) (k' : List Int), (Instr.mapUpdate 150 (.map (some r)) (.int .i64 n) (.agg #[])).run Tryz.prog w = .ok () w' ∧ MapAt w' r .i64 (k'.map fun n => (n, Value.agg #[])) ∧ (∀ m, m ∈ k' ↔ m ∈ k ∨ m = n) ∧ Turn r w w' := by
 have hl := lookOf_map k n
 by_cases h : n ∈ k
 ·rw [if_pos h] at hl
  obtain ⟨w', h1, h2, h3⟩ := run_insert_old (P := Tryz.prog) (t := 150) w Tryz.underlying150 Tryz.underlying3 r _ hm n (by rw [hl]; rfl) (.agg #[])
  rw [setOld_map] at h2
  exact ⟨w', k, h1, h2, fun m => ⟨.inl, fun hm => hm.elim id (fun e => by rw [e]; exact h)⟩, h3⟩
 ·rw [if_neg h] at hl
  obtain ⟨w', h1, h2, h3⟩ := run_insert_new (P := Tryz.prog) (t := 150) w Tryz.underlying150 Tryz.underlying3 r _ hm n hl (.agg #[])
  refine ⟨w', k ++ [n], h1, ?_, fun m => by simp, h3⟩
  rw [List.map_append]
  exact h2
end Go.Proofs.YtdpniceapmikpaaGreat
namespace Go.Proofs.YtdpniceapmikpaaGreat
open Go.RowKit Go.Shelf

def layClW_ren : Go.Shelf.Ren := ⟨fun | 41 => 81 | n => n, fun | 22 => 149 | 23 => 161 | 4 => 4 | n => n, fun | n => n⟩
theorem layClW : Go.Proofs.SlLaysE0.n41 Tryz.prog layClW_ren := {
 mixed := by kernel_rfl
 f41 := ⟨Tryz.f81.name, by decide, Tryz.func81.trans (congrArg some (by kernel_rfl))⟩
 t4 := Tryz.underlying4
 a4 := Tryz.isAgg4
 z4 := Tryz.sizeOf4
 v4 := Tryz.zeroValue4
 t22 := Tryz.underlying149
 a22 := Tryz.isAgg149
 z22 := Tryz.sizeOf149
 v22 := Tryz.zeroValue149 }
theorem clone_waits (B : Nat) (v : Value) (l : List WaitD) (w : World) (hl : l.length ≤ 1000000) (h : w.ownsRow B 161 513 v l.length (waitCells l)) :
  Calls Tryz.prog 81 #[v] w fun e w' => ∃ v', e = .returned v' ∧ w'.ownsRow w.heap.size 161 513 v' l.length (waitCells l) ∧ Below w.heap.size w w' := by
 obtain ⟨i, z, hi, hz, h1, h2, h3⟩ := info_wait
 have hlen := h.1
 rcases h.2 with ⟨rfl, h0⟩ | ⟨g, cap, cur, rfl, hB, hg, hn, hc, hs, ht⟩
 ·refine (AnyE.slices_Clone_nil layClW 0 0 w).mono ?_
  rintro e w' ⟨rfl, rfl⟩
  have : l = [] := List.eq_nil_of_length_eq_zero h0
  subst this
  exact ⟨_, rfl, World.ownsRow_nil _ _ _ _, Below.refl _ _⟩
 ·refine (AnyE.slices_Clone layClW i z 513 520 hi hz h1 h2 h3 (by decide) (fun W => by
   show (Go.sizeOf 161).run Tryz.prog W = _
   simp [sizeOf, typeInfo, hi, h1]) g 0 l.length cap (waitCells l) w hlen (by unfold maxLen; omega) (by omega) (fun j u hj => ?_) (fun u hu => waitCells_one l u hu)).mono ?_
  ·rw [← ht, List.getElem?_take] at hj
   split at hj
   ·rw [Nat.zero_add, cell_of_row w g _ cur _ _ hg, ← Array.getElem?_toList]; exact hj
   ·cases hj
  ·rintro e w' ⟨v', rfl, ho, _, hb⟩
   exact ⟨v', rfl, ho, hb⟩
theorem look_mem {l : List (Int × Value)} (hn : (l.map (·.1)).Nodup) {p : Int × Value} (hp : p ∈ l) : lookOf l p.1 = some p.2 := by
 induction l with
 | nil => cases hp
 | cons q l ih =>
  rw [List.map_cons, List.nodup_cons] at hn
  unfold lookOf
  rw [List.find?_cons]
  rcases List.mem_cons.1 hp with rfl | hp
  ·simp
  ·have hne : (p.1 == q.1) = false := by
    have : p.1 ≠ q.1 := fun e => hn.1 (by rw [← e]; exact List.mem_map.2 ⟨p, hp, rfl⟩)
    simpa using this
   rw [hne]
   exact ih hn.2 hp
theorem look_no_key {l : List (Int × Value)} {m : Int} (h : m ∉ l.map (·.1)) : lookOf l m = none := by
 unfold lookOf
 rw [Option.map_eq_none_iff, List.find?_eq_none]
 intro x hx e
 exact h (by rw [beq_iff_eq.1 e]; exact List.mem_map.2 ⟨x, hx, rfl⟩)
/-- the copy's sectors, on the way -/
theorem lasts_full {L l2 : List (Int × Value)} {outs : List Int} (hd : ∀ p ∈ L, p.1 ∈ outs) (hl : ∀ m, lookOf l2 m = if m ∈ outs then lookOf L m else none) (m : Int) : lookOf l2 m = lookOf L m := by
 rw [hl m]
 by_cases h : m ∈ outs
 ·rw [if_pos h]
 ·rw [if_neg h]
  refine (look_no_key fun hm => h ?_).symm
  obtain ⟨p, hp, rfl⟩ := List.mem_map.1 hm
  exact hd p hp
/-- the disk's map of steps that fail -/
theorem FailsAt.k {w : World} {v : Option Nat} {l : List Int} (h : FailsAt w v l) : ∃ k : List Int, MapK w v .i64 (k.map fun n => (n, Value.agg #[])) ∧ ∀ n, n ∈ k ↔ n ∈ l := by
 rcases h with ⟨rfl, rfl⟩ | ⟨r, k, rfl, h1, h2⟩
 ·exact ⟨[], .inl ⟨rfl, rfl⟩, fun n => by simp⟩
 ·exact ⟨k, h1.k, h2⟩
theorem wpList_mapUpdate_is {P : Program} {ops : Array Oper} {rest : List Oper} {o : Oper} {a : Act} {Q : Exit → Act → World → Prop} (hg : o.guard = none) (w w' : World) (t : TypeId) (m k v : Operand) (ho : o.op = .mapUpdate t m k v) (mv kv vv : Value) (hm : a.eval m = mv) (hk : a.eval k = kv) (hv : a.eval v = vv)
  (hr : (Instr.mapUpdate t mv kv vv).run P w = .ok () w') (h : wpList P ops Q rest (a.put o.dst undef) w') : wpList P ops Q (o :: rest) a w :=
 wpList_plain hg fun _ hK => wp_mapUpdate_is w w' t m k v ho mv kv vv hm hk hv hr (hK _ _ h)
theorem MapK.out {w w' : World} {m : Option Nat} {kd : IntKind} {L : List (Int × Value)} (h : MapK w m kd L) {F : Nat → Prop} (ho : Out F w w') (hm : ∀ b, m = some b → ¬ F b) : MapK w' m kd L := by
 rcases h with h | ⟨b, es, c, e, hb, r⟩
 ·exact .inl h
 ·exact .inr ⟨b, es, c, e, (ho.block b (Array.getElem?_eq_some_iff.1 hb).1 (hm b e)).trans hb, r⟩

set_option maxRecDepth 100000 in
set_option maxHeartbeats 8000000 in
theorem dcopy_any (D : DiskP) (x : DiskD) (w : World) (h : DiskAt w D x) (hx : x.ok) :
  Calls Tryz.prog 30 #[ptr D.p] w fun e w' => ∃ D2, e = .returned (ptr D2.p) ∧ DiskAt w' D2 x ∧ (∀ i, D2.has i → w.heap.size ≤ i) ∧ Below w.heap.size w w' := by
 have HN := Lib.hid (dnone_any D x w h hx)
 have HX := Lib.hid hx
 have HD := Lib.hid h
 have hB := h.blk
 obtain ⟨L, hmL, hLn, hL⟩ := h.lasts
 have HML := Lib.hid hmL
 have HL := Lib.hid (And.intro hLn hL)
 obtain ⟨kf, hmF, hkf⟩ := h.fails.k
 have HMF := Lib.hid hmF
 have HKF := Lib.hid hkf
 have HW := Lib.hid h.waits
 have HLT := Lib.hid h.has_lt
 have hwl : x.waits.length ≤ 1000000 := hx.2.2.2.2.2.2
 obtain ⟨dp, lm, wv, fv⟩ := D
 dsimp only at *
 unfold ptr at *
 clear h hmL hLn hL hmF hkf hx
 go_enter Tryz.func30, Tryz.ntmps30
 go_wp2_with fail
 refine HN.out.mono ?_; rintro e w1 ⟨rfl, rfl⟩
 go_upto_region 3 with fail
 have hmm := @run_makeMap Tryz.prog
 have hgl := hB.lt
 refine jb (fun X => Below w.heap.size w X) (fun _ => True) 100 (Below.refl _ _).drew trivial fun hHeld hJ => ?_
 refine jk false 0 ?_
 refine jk false 1 ?_
 refine jk false 2 ?_
 refine jk false 3 ?_ (hy := by intro X hX _; have hc := (hB.below hX hgl).cell_is 0 rfl; go_simp; try with_reducible rfl)
 refine jk false 5 ?_
 refine jk false 6 ?_
 refine jk false 7 ?_
 refine jk false 8 ?_ (hy := by intro X hX _; have hc := (hB.below hX hgl).cell_is 2 rfl; go_simp; try with_reducible rfl)
 refine jk false 10 ?_
 refine jk false 11 ?_
 refine jk false 12 ?_
 refine jk false 13 ?_ (hy := by intro X hX _; have hc := (hB.below hX hgl).cell_is 3 rfl; go_simp; try with_reducible rfl)
 refine jm3 4 9 14 (fun o1 o2 o3 X => (∀ v, o1 = some v → ∃ r, v = .map (some r) ∧ MapAt X r .i64 [] ∧ w.heap.size ≤ r) ∧ (∀ v, o2 = some v → X.ownsRow w.heap.size 161 513 v x.waits.length (waitCells x.waits)) ∧ (∀ v, o3 = some v → ∃ r, v = .map (some r) ∧ MapAt X r .i64 [] ∧ w.heap.size ≤ r) ∧ (∀ v, o1 = some v → o3 ≠ some v) ∧ Below w.heap.size w X)
  (fun _ _ _ _ h => h.2.2.2.2) ⟨fun v h => (by cases h), fun v h => (by cases h), fun v h => (by cases h), fun v h => (by cases h), hHeld⟩ ?_ ?_ ?_ ?_
 ·rintro o2 o3 X ⟨_, hR2, hR3, _, hbX⟩ _ K hK
  go_simp
  have hb := (Below.refl X.heap.size X).alloc (Nat.le_refl _) (.map #[] 0)
  refine hK.out (.map (some X.heap.size)) _ ⟨fun v h => ?_, fun v h => ownsRow_out (F := fun _ => False) (outB hb) (hR2 v h) (fun _ _ h => h), fun v h => ?_, fun v h h3 => ?_, hbX.trans (hb.mono hbX.size)⟩
  ·cases h; exact ⟨_, rfl, MapAt.new X .i64, hbX.size⟩
  ·obtain ⟨r, e, hm, hr⟩ := hR3 v h
   exact ⟨r, e, hm.alloc _, hr⟩
  ·obtain ⟨r, e, hm, hr⟩ := hR3 v h3
   rw [e] at h
   cases h
   have := hm.lt
   omega
 ·rintro o1 o3 X ⟨hR1, _, hR3, hR4, hbX⟩ _ K hK
  have HK := Lib.hid hK
  have HC := Lib.hid (clone_waits 0 wv x.waits X hwl (ownsRow_out (F := fun _ => False) (outB (hbX.trans (Below.refl _ _))) HW.out (fun _ _ h => h)))
  have fin : ∀ v X', X'.ownsRow X.heap.size 161 513 v x.waits.length (waitCells x.waits) → Below X.heap.size X X' → K _ X' := fun v X' ho hb => HK.out.out v X' ⟨fun v1 h => by
    obtain ⟨r, e, hm, hr⟩ := hR1 v1 h
    exact ⟨r, e, (hb.block r hm.lt).trans hm, hr⟩, fun v2 h => by cases h; exact World.ownsRow.mono ho hbX.size, fun v3 h => by
    obtain ⟨r, e, hm, hr⟩ := hR3 v3 h
    exact ⟨r, e, (hb.block r hm.lt).trans hm, hr⟩, hR4, hbX.trans (hb.mono hbX.size)⟩
  have FIN := Lib.hid fin
  clear fin hK
  cases o1 <;> cases o3
  all_goals
   simp only [act3, putO, Act.put, Array.toArray_toList, pz0, pz1, pz2, pz3, pz4, pz5]
   go_simp
   refine HC.out.mono ?_; rintro r X' ⟨v', rfl, ho, hb⟩
   exact FIN.out _ _ ho hb
 ·rintro o1 o2 X ⟨hR1, hR2, _, _, hbX⟩ _ K hK
  go_simp
  have hb := (Below.refl X.heap.size X).alloc (Nat.le_refl _) (.map #[] 0)
  refine hK.out (.map (some X.heap.size)) _ ⟨fun v h => ?_, fun v h => ownsRow_out (F := fun _ => False) (outB hb) (hR2 v h) (fun _ _ h => h), fun v h => ?_, fun v h h3 => ?_, hbX.trans (hb.mono hbX.size)⟩
  ·obtain ⟨r, e, hm, hr⟩ := hR1 v h
   exact ⟨r, e, hm.alloc _, hr⟩
  ·cases h; exact ⟨_, rfl, MapAt.new X .i64, hbX.size⟩
  ·obtain ⟨r, e, hm, hr⟩ := hR1 v h
   rw [e] at h3
   cases h3
   have := hm.lt
   omega
 ·rintro v1 u2 v3 X ⟨hR1, hR2, hR3, hR4, hbX⟩ hHeld
  obtain ⟨r1, rfl, hm1, hr1⟩ := hR1 _ rfl
  obtain ⟨r3, rfl, hm3, hr3⟩ := hR3 _ rfl
  have ho2 := hR2 _ rfl
  have hne13 : r1 ≠ r3 := fun e => hR4 _ rfl (by rw [e])
  clear hR1 hR2 hR3 hR4
  obtain ⟨a2, cap2, rfl⟩ := slice_form ho2
  simp only [act3, putO, Act.put, Array.toArray_toList, pz0, pz1, pz2, pz3, pz4, pz5]
  refine jk false 15 ?_
  refine jr 16 fun K hK => ?_
  go_simp
  obtain ⟨Z, eZ⟩ : ∃ Z, Z = X.alloc (.cells #[.int .i64 x.size, .map (some r1), .slice a2 x.waits.length cap2, .int .i64 x.steps, .map (some r3)] 152) := ⟨_, rfl⟩
  have hbZ : Below X.heap.size X Z := by rw [eZ]; exact (Below.refl _ _).alloc (Nat.le_refl _) _
  have kN : Blk Z X.heap.size 152 #[.int .i64 x.size, .map (some r1), .slice a2 x.waits.length cap2, .int .i64 x.steps, .map (some r3)] := by rw [eZ]; exact Blk.new _ _ _
  rw [← eZ]
  have hZs : Z.heap.size = X.heap.size + 1 := by rw [eZ]; simp
  clear eZ
  have hbwZ := hbX.trans (hbZ.mono hbX.size)
  refine hK.out _ _ ⟨hbwZ, fun _ => trivial⟩ ?_
  clear hK K hHeld
  have hHeld := hbwZ
  refine jk false 17 ?_
  refine wpAnyJ_done (by kernel_rfl) ?_ _
  obtain ⟨v2, ev2⟩ : ∃ v, v = Value.slice a2 x.waits.length cap2 := ⟨_, rfl⟩
  rw [← ev2] at kN ho2 ⊢
  clear ev2
  obtain ⟨gN, egN⟩ : ∃ g, g = X.heap.size := ⟨_, rfl⟩
  have hl1 : r1 < gN := by rw [egN]; exact hm1.lt
  have hl3 : r3 < gN := by rw [egN]; exact hm3.lt
  have hl2 : ∀ i, v2.ownBlock = some i → i < gN ∧ i ≠ r1 ∧ i ≠ r3 ∧ w.heap.size ≤ i := fun i hi => ⟨by rw [egN]; exact ownBlock_lt ho2 hi, ne_own_map ho2 hm1 i hi, ne_own_map ho2 hm3 i hi, (World.ownsRow.lt ho2 i hi).1⟩
  have hm1 : MapAt Z r1 .i64 [] := (hbZ.block _ hm1.lt).trans hm1
  have hm3 : MapAt Z r3 .i64 [] := (hbZ.block _ hm3.lt).trans hm3
  have ho2 := ownsRow_out (F := fun _ => False) (outB hbZ) ho2 (fun _ _ h => h)
  have hgw : w.heap.size ≤ gN := by rw [egN]; exact hbX.size
  rw [← egN] at kN hZs ⊢
  clear hbZ hbX egN hHeld hmm
  have HO2 := Lib.hid ho2
  have HL2 := Lib.hid hl2
  have kB := hB.below hbwZ hgl
  have hmk : MapK Z (some lm) .i64 L := (show MapAt Z lm .i64 L from (hbwZ.block _ HML.out.lt).trans HML.out).k
  have hlm : lm < w.heap.size := HML.out.lt
  have c1 := kB.cell_is 1 rfl
  have HBZ := Lib.hid hbwZ
  clear ho2 hl2 hbwZ
  go_upto_region 5 with (first | (at_range; refine wpList_rangeK rfl _ rfl Tryz.underlying148 rfl hmk ?_; intro Z1 n1 hr1' hb1 hs1; go_frame) | fail)
  have kN1 := kN.below hb1 kN.lt
  have hm1' : MapAt Z1 r1 .i64 [] := (hb1.block _ hm1.lt).trans hm1
  have hm3' : MapAt Z1 r3 .i64 [] := (hb1.block _ hm3.lt).trans hm3
  have HZ1 := Lib.hid hb1
  obtain ⟨rI, erI⟩ : ∃ r, r = Z.heap.size := ⟨_, rfl⟩
  rw [← erI] at hr1' hs1 ⊢
  have hrI : rI = gN + 1 := by omega
  have hZ1s : Z1.heap.size = gN + 2 := by omega
  have HRG := Lib.hid hr1'
  have HINI := Lib.hid (show (([] : List (Int × Value)).map (·.1)).Nodup ∧ ∀ m, lookOf ([] : List (Int × Value)) m = if m ∈ ([] : List Int) then lookOf L m else none from ⟨List.nodup_nil, fun m => by simp [lookOf]⟩)
  have HSZ := Lib.hid (show r1 < gN ∧ r3 < gN ∧ w.heap.size ≤ gN ∧ lm < w.heap.size ∧ w.heap.size ≤ r1 ∧ w.heap.size ≤ r3 ∧ gN < rI ∧ rI < Z1.heap.size ∧ r1 ≠ r3 from ⟨hl1, hl3, hgw, hlm, hr1, hr3, by omega, by omega, hne13⟩)
  have HFR := Lib.hid (show Out (fun i => i = r1 ∨ i = rI) Z1 Z1 from Out.refl _ _)
  clear hmk kN hm1 hm3 hb1 hs1 hZs hl1 hl3 hgw hlm hr1 hr3 hrI hZ1s hne13 c1 kB erI hr1'
  go_loopw [4, 5] (fun _ _ wr => ∃ outs n l2, Hid (RangeK wr rI (some lm) .i64 L outs n) ∧ Hid (MapAt wr r1 .i64 l2) ∧ Hid ((l2.map (·.1)).Nodup ∧ ∀ m, lookOf l2 m = if m ∈ outs then lookOf L m else none) ∧ Hid (Out (fun i => i = r1 ∨ i = rI) Z1 wr)) (fun _ _ wr => leftK wr rI)
  case atStart => exact ⟨[], n1, [], HRG, Lib.hid hm1', HINI, HFR⟩
  case round =>
   obtain ⟨outs, n, l2, HRr, HMr, HLr, HOr⟩ := hrel
   obtain ⟨hl1, hl3, hgw, hlm, hr1, hr3, hrI, hZ1s, hne13⟩ := HSZ.out
   have kr : Blk wr gN 152 #[.int .i64 x.size, .map (some r1), v2, .int .i64 x.steps, .map (some r3)] := HOr.out.blk kN1 (fun h => by omega)
   have hszr := HOr.out.size
   have hrr := HRr.out
   go_wp2_with (at_next; refine wpList_nextK rfl _ rfl rfl hrr ?_ ?_)
   ·intro hd
    obtain ⟨wo, rfl⟩ : ∃ v, v = wr := ⟨_, rfl⟩
    have HFUL := Lib.hid (lasts_full (L := L) (l2 := l2) (outs := outs) (fun p hp => hd p.1 p.2 hp) HLr.out.2)
    have hbwr : Below w.heap.size w wo := HBZ.out.trans ((HZ1.out.mono HBZ.out.size).trans (HOr.out.below (B := w.heap.size) (by omega) (fun i hi h => by omega)))
    have HBW := Lib.hid hbwr
    have kB := hB.below hbwr hgl
    obtain ⟨L2, eL2⟩ : ∃ L2, L2 = kf.map fun n => (n, Value.agg #[]) := ⟨_, rfl⟩
    have hmk2 : MapK wo fv .i64 L2 := by rw [eL2]; exact HMF.out.out (F := fun _ => False) (outB hbwr) (fun _ _ h => h)
    have EL2 := Lib.hid eL2
    clear eL2
    have hm3r : MapAt wo r3 .i64 (([] : List Int).map fun n => (n, Value.agg #[])) := HOr.out.map hm3' (show ¬ (r3 = r1 ∨ r3 = rI) by omega)
    have hfv : ∀ b, fv = some b → b < w.heap.size := fun b hb => HLT.out b (.inr (.inr (.inr hb)))
    have HFV := Lib.hid hfv
    have c4 := kB.cell_is 4 rfl
    clear hd hrr hbwr hfv
    go_upto_region 9 with (first | (at_range; refine wpList_rangeK rfl _ rfl Tryz.underlying150 rfl hmk2 ?_; intro Z2 n2 hr2' hb2 hs2; go_frame) | fail)
    have kN2 := kr.below hb2 kr.lt
    have hm3z := (hb2.block _ hm3r.lt).trans hm3r
    have HZ2 := Lib.hid hb2
    obtain ⟨rJ, erJ⟩ : ∃ r, r = wo.heap.size := ⟨_, rfl⟩
    rw [← erJ] at hr2' hs2 ⊢
    have HRG2 := Lib.hid hr2'
    have HSJ := Lib.hid (show rI < rJ ∧ rJ < Z2.heap.size ∧ wo.heap.size ≤ rJ from ⟨by omega, by omega, by omega⟩)
    have HM3 := Lib.hid hm3z
    have HFR2 := Lib.hid (show Out (fun i => i = r3 ∨ i = rJ) Z2 Z2 from Out.refl _ _)
    have HR1' := Lib.hid HMr.out
    clear hmk2 hm3r hb2 hs2 hr2' c4 kB erJ hm3z kr
    go_loopw [6] (fun _ wr => ∃ (outs2 : List Int) (n2 : Nat) (k2 : List Int), Hid (RangeK wr rJ fv .i64 L2 outs2 n2) ∧ Hid (MapAt wr r3 .i64 (k2.map fun n => (n, Value.agg #[]))) ∧ Hid (∀ m, m ∈ k2 ↔ m ∈ outs2) ∧ Hid (∀ m ∈ outs2, m ∈ kf) ∧ Hid (Out (fun i => i = r3 ∨ i = rJ) Z2 wr)) (fun _ wr => leftK wr rJ)
    case atStart => exact ⟨[], n2, [], HRG2, HM3, Lib.hid (fun m => Iff.rfl), Lib.hid (fun m hm => by cases hm), HFR2⟩
    case round =>
     obtain ⟨outs2, n2, k2, HRs, HMs, HKs, HFs, HOs⟩ := hrel
     obtain ⟨hJ1, hJ2, hJ3⟩ := HSJ.out
     have ks : Blk wr gN 152 #[.int .i64 x.size, .map (some r1), v2, .int .i64 x.steps, .map (some r3)] := HOs.out.blk kN2 (fun h => by omega)
     have hrs := HRs.out
     go_wp2_with (at_next; refine wpList_nextK rfl _ rfl rfl hrs ?_ ?_)
     ·intro hd2
      have HD2 := Lib.hid hd2
      clear hd2 hrs
      have hr1s : MapAt wr r1 .i64 l2 := HOs.out.map ((HZ2.out.block _ HMr.out.lt).trans HMr.out) (show ¬ (r1 = r3 ∨ r1 = rJ) by omega)
      have hws : wr.ownsRow 0 161 513 v2 x.waits.length (waitCells x.waits) := by
       have h1 := ownsRow_out HOr.out (ownsRow_out (F := fun _ => False) (outB HZ1.out) HO2.out (fun _ _ h => h)) (fun i hi h => by have := HL2.out i hi; omega)
       have h2 := ownsRow_out HOs.out (ownsRow_out (F := fun _ => False) (outB HZ2.out) h1 (fun _ _ h => h)) (fun i hi h => by have := HL2.out i hi; omega)
       exact World.ownsRow.mono h2 (Nat.zero_le _)
      have HRES := Lib.hid (show DiskAt wr ⟨gN, r1, v2, some r3⟩ x from ⟨ks, ⟨l2, hr1s, HLr.out.1, fun n => by rw [HFUL.out n]; exact HL.out.2 n⟩, hws, .inr ⟨r3, k2, rfl, HMs.out, fun n => by
       rw [HKs.out n, ← HKF.out n]
       exact ⟨fun h => HFs.out n h, fun h => HD2.out n (.agg #[]) (by rw [EL2.out]; exact List.mem_map.2 ⟨n, h, rfl⟩)⟩⟩, fun e => HSZ.out.2.2.2.2.2.2.2.2 (by injection e with e; exact e.symm)⟩)
      have HBF := Lib.hid (show Below w.heap.size w wr from HBW.out.trans ((HZ2.out.mono HBW.out.size).trans (HOs.out.below (B := w.heap.size) (by omega) (fun i hi h => by omega))))
      clear hr1s hws ks
      go_wp2_with fail
      go_ret
      refine ⟨⟨gN, r1, v2, some r3⟩, rfl, HRES.out, fun i hi => ?_, HBF.out⟩
      rcases hi with hi | hi | hi | hi
      ·have hi : i = gN := hi
       omega
      ·have hi : i = r1 := hi
       omega
      ·exact (HL2.out i hi).2.2.2
      ·have hi : some r3 = some i := hi
       injection hi with hi
       omega
     ·intro q pv w1 n' hp hrg1 hn' ho1 hs1 hen
      obtain ⟨hq, rfl⟩ : q ∈ kf ∧ pv = .agg #[] := by
       rw [EL2.out] at hp
       obtain ⟨q', hq', e⟩ := List.mem_map.1 hp
       injection e with e1 e2
       exact ⟨by rw [← e1]; exact hq', e2.symm⟩
      have hsle : wr.heap.size ≤ w1.heap.size := by omega
      have ks1 : Blk w1 gN 152 _ := ho1.blk ks (fun h => by omega)
      have c4 := ks1.cell_is 4 rfl
      have hmw : MapAt w1 r3 .i64 (k2.map fun n => (n, Value.agg #[])) := ho1.map HMs.out (show ¬ (r3 = rJ) by omega)
      obtain ⟨W2, k', hrun, hm2, hk', hT⟩ := set_fail w1 r3 k2 hmw q
      have hoT : Out (fun i => i = r3) w1 W2 := ⟨hT.os, hT.tape, hT.output, Nat.le_of_eq hT.size.symm, fun i _ hi => hT.block i hi⟩
      have HRN := Lib.hid (hrg1.out hoT (show ¬ (rJ = r3) by omega) (fun i hi e => by
       have h1 := HFV.out i hi
       omega))
      have HON := Lib.hid ((HOs.out.trans ho1 (fun _ _ h => .inr h)).trans hoT (fun _ _ h => .inl h))
      have HKN := Lib.hid (show ∀ m, m ∈ k' ↔ m ∈ q :: outs2 from fun m => by rw [hk' m, HKs.out m, List.mem_cons]; exact or_comm)
      have HFN := Lib.hid (show ∀ m ∈ q :: outs2, m ∈ kf from fun m hm => by
       rcases List.mem_cons.1 hm with rfl | hm
       ·exact hq
       ·exact HFs.out m hm)
      have hmeas : leftK W2 rJ < leftK wr rJ := by rw [HRN.out.left, HRs.out.left]; exact hn'
      have HM2 := Lib.hid hm2
      clear hs1 hrg1 hrs hp hk' hT hoT hmw hm2 ks ho1
      go_wp2_with (first
       | (refine wpList_mapUpdate_is rfl _ W2 _ _ _ _ rfl (.map (some r3)) (.int .i64 q) (.agg #[]) rfl rfl rfl hrun ?_; go_frame)
       | fail)
      exact ⟨⟨q :: outs2, n', k', HRN, HM2, HKN, HFN, HON⟩, hmeas⟩
   ·intro q pv w1 n' hp hrg1 hn' ho1 hs1 hen
    have hlk := look_mem HL.out.1 hp
    obtain rfl : pv = sectorV (x.lasts q) := by
     rcases HL.out.2 q with ⟨u, h1, h2⟩ | ⟨h1, _⟩
     ·rw [hlk] at h1; cases h1; exact h2
     ·rw [hlk] at h1; cases h1
    have hs1' := Lib.hid hs1
    have hsle : wr.heap.size ≤ w1.heap.size := by omega
    clear hs1
    have hb512 := HX.out.2.2.1 q
    obtain ⟨b, eb⟩ : ∃ b, b = x.lasts q := ⟨_, rfl⟩
    rw [← eb] at hb512 hen hlk ⊢
    clear eb
    have HLK := Lib.hid hlk
    have kr1 : Blk w1 gN 152 _ := ho1.blk kr (fun h => by omega)
    have HM1 := Lib.hid (ho1.map HMr.out (show ¬ (r1 = rI) by omega))
    have HR1 := Lib.hid hrg1
    have HO1 := Lib.hid (HOr.out.trans ho1 (fun _ _ h => .inr h))
    have hszF : (Tryz.prog.info? 111).map (·.size) = some (b.map vu8).length := by rw [List.length_map, hb512]; exact size_sector
    unfold sectorV at hen ⊢
    clear hrg1 hrr hp hlk kr
    have hK := Blk.new w1 111 Tryz.zeroCells111
    go_upto_region 7 with (first
     | (refine wpList_store_row rfl 111 _ _ rfl w1.heap.size (b.map vu8).toArray rfl rfl 111 _ hK (sector_size _ hb512) (by rw [zero111]; exact sector_eq _ _ List.length_replicate hb512) (sector_all _) ?_; rw [World.setRow_alloc_new])
     | fail)
    obtain ⟨Y, eY⟩ : ∃ Y, Y = w1.alloc (.cells (b.map vu8).toArray 111) := ⟨_, rfl⟩
    have hbY : Below w1.heap.size w1 Y := by rw [eY]; exact (Below.refl _ _).alloc (Nat.le_refl _) _
    have kS : Blk Y w1.heap.size 111 (b.map vu8).toArray := by rw [eY]; exact Blk.new _ _ _
    rw [← eY]
    clear eY hK hen
    have krY := kr1.below hbY kr1.lt
    have hmY : MapAt Y.drew r1 .i64 l2 := (hbY.block _ HM1.out.lt).trans HM1.out
    obtain ⟨W2, l', hrun, hm2, hnd2, hlk2, hT⟩ := run_insertN (P := Tryz.prog) (t := 148) Y.drew Tryz.underlying148 Tryz.underlying3 r1 l2 hmY HLr.out.1 q (.agg (b.map vu8).toArray)
    have hoT : Out (fun i => i = r1) Y W2 := (outB (Below.refl _ _).drew : Out (fun i => i = r1) Y Y.drew).trans ⟨hT.os, hT.tape, hT.output, Nat.le_of_eq hT.size.symm, fun i _ hi => hT.block i hi⟩ (fun _ _ h => h)
    have hn1 : gN ≠ r1 ∧ w1.heap.size ≠ r1 := ⟨by omega, by omega⟩
    refine jb (fun X => Out (fun i => i = r1) Y X) (fun _ => True) 100 (outB (Below.refl _ _).drew) trivial fun hHeld hJ => ?_
    refine jk false 0 ?_
    refine jk false 1 ?_
    refine jk false 2 ?_
    refine jk false 3 ?_ (hy := by intro X hX _; have hc := (hX.blk krY hn1.1).cell_is 1 rfl; go_simp; try with_reducible rfl)
    refine jk false 4 ?_
    refine jy false 5 rfl (yieldsIf_load_mid (by rfl) 111 _ rfl w1.heap.size 0 rfl (b.map vu8) _ (fun w' h => blk_range (h.1.blk kS hn1.2)) Tryz.underlying111 rfl hszF) ?_
    refine jr 6 fun K hK => ?_
    rw [if_pos (show Region.wanted _ _ = true from rfl)]
    refine wp_mapUpdate_is _ W2 148 _ _ _ rfl _ _ _ rfl rfl rfl hrun ?_
    refine hK.out _ _ ⟨hoT, fun _ => trivial⟩ ?_
    clear hK K hHeld
    have hHeld := hoT
    refine wpAnyJ_done (by kernel_rfl) ?_ _
    have HRN := Lib.hid ((HR1.out.out (F := fun _ => False) (outB hbY) (fun h => h) (fun _ _ h => h)).out hoT (show ¬ (rI = r1) by omega) (fun i hi e => by cases hi; omega))
    have HLN := Lib.hid (show (l'.map (·.1)).Nodup ∧ ∀ m, lookOf l' m = if m ∈ q :: outs then lookOf L m else none from ⟨hnd2, fun m => by
     rw [hlk2 m]
     by_cases e : m = q
     ·rw [if_pos e, if_pos (by rw [e]; exact List.mem_cons_self), e, HLK.out]; rfl
     ·rw [if_neg e, HLr.out.2 m]
      by_cases e2 : m ∈ outs
      ·rw [if_pos e2, if_pos (List.mem_cons_of_mem _ e2)]
      ·rw [if_neg e2, if_neg (by simp [e, e2])]⟩)
    have HON := Lib.hid ((HO1.out.trans (G := fun _ => False) (outB hbY) (fun _ _ h => h.elim)).trans hoT (fun _ _ h => .inl h))
    have hmeas : leftK W2 rI < leftK wr rI := by rw [HRN.out.left, HRr.out.left]; exact hn'
    go_wp2_with fail
    exact ⟨q :: outs, ⟨n', HRN⟩, l', Lib.hid hm2, HLN⟩
end Go.Proofs.YtdpniceapmikpaaGreat
