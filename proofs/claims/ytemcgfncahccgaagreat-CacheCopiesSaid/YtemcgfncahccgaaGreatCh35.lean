/-
  An Act: Evict.
  append of made noughts onto a row of bytes of the call's own.
  The reference's Disk.Fail. (Written by gen_lrfail.py.)
  The program's Disk.Fail.
-/
import Derived.Lib.AppendZerosOnto
import Derived.Test.YtemcgfncahccgaaGreatCh1
import Derived.Test.YtemcgfncahccgaaGreatCh5
import Derived.Test.YtemcgfncahccgaaGreatCh9
import Derived.Test.YtemcgfncahccgaaGreatCh10
import Derived.Test.YtemcgfncahccgaaGreatCh11
import Derived.Test.YtemcgfncahccgaaGreatCh24
import Derived.Test.YtemcgfncahccgaaGreatCh26
import Derived.Test.YtemcgfncahccgaaGreatCh34
set_option linter.unusedVariables false
set_option linter.unusedSimpArgs false
namespace Go.Proofs.YtemcgfncahccgaaGreat
open Go.RowKit Go.Shelf

set_option maxRecDepth 100000 in
set_option maxHeartbeats 4000000 in
theorem act_evict {w : World} {D : DiskP} {C : CacheP} {cv : Value} {x : CacheD} {k : Int} (H : Both w D C cv x) (O : COk x k) (a : ActD) (ha : a.ok) (h0 : a.what = 2) :
  Calls Tryz.prog 30 #[ptr D.p, ptr C.g, cv, .agg a.cells.toArray] w (ActPost D C cv (x.evict a.at_) w) := by
 obtain ⟨XV, rfl, s7, one7, st7⟩ := H.ref.agg
 have HI7 := Lib.hid (info_cache s7)
 obtain ⟨ac, eac⟩ : ∃ ac, ac = a.cells.toArray := ⟨_, rfl⟩
 have HAI := Lib.hid (act_info ha)
 have a0 : ac[0]? = some (.int .i64 2) := by rw [eac, ← h0]; rfl
 have a2 : ac[2]? = some (.int .i64 a.at_) := by rw [eac]; rfl
 rw [← eac] at HAI ⊢
 obtain ⟨W, eW⟩ : ∃ W, W = ((w.alloc (.cells XV 61)).alloc (.cells ac 49)).alloc (.cells zeroC 61) := ⟨_, rfl⟩
 have hbW : Below w.heap.size w W := by rw [eW]; exact (((Below.refl _ w).alloc (Nat.le_refl _) _).alloc (by simp) _).alloc (by simp; omega) _
 have k0 : Blk W w.heap.size 61 XV := by rw [eW]; exact ((Blk.new w _ _).alloc _).alloc _
 have k1 : Blk W (w.heap.size + 1) 49 ac := by rw [eW]; exact (Blk.new2 w _ _ _).alloc _
 have k2 : Blk W (w.heap.size + 2) 61 zeroC := by rw [eW]; exact Blk.new' (by simp)
 have HP := Lib.hid (pevict (H.below hbW) O a.at_ ha.i)
 have HB := Lib.hid hbW
 have HBo := Lib.hid H
 have hfar : ∀ i, w.heap.size ≤ i → ¬ (D.has i ∨ C.own i) := fun i hi h => by
  rcases h with h | h
  ·have := H.disk.has_lt i h; omega
  ·have := H.cache.has_lt i (.inl h); omega
 have HFAR := Lib.hid hfar
 have HRG := Lib.hid (fun X (hX : RCacheIn X X.heap.size (.agg XV) x) => revict_any (.agg XV) x a.at_ X hX O.fits ha.i)
 obtain ⟨n, en⟩ : ∃ n, n = x.evictO a.at_ := ⟨_, rfl⟩
 obtain ⟨x2, ex2⟩ : ∃ x2, x2 = x.evict a.at_ := ⟨_, rfl⟩
 rw [← ex2, ← en] at HP HRG
 rw [← ex2]
 have c0 := k1.cell_is 0 a0
 unfold ptr at *
 cases heb : x.evictB
 all_goals
  rw [heb] at HP HRG
  clear H O ha h0 eac hbW hfar en ex2 a0 s7 one7 st7 heb
  go_enter Tryz.func30, Tryz.ntmps30
  go_upto_region 1 with fail
  rw [← eW]
  clear eW
  have c2 := k1.cell_is 2 a2
  go_wp2_with fail
  refine HP.out.mono ?_; rintro e w1 ⟨rfl, hd1, C1, hc1, hs1⟩
  have P1 := Lib.hid (And.intro hd1 (And.intro hc1 hs1))
  have q0 := hs1.out.blk k0 (HFAR.out _ (Nat.le_refl _))
  have q1 := hs1.out.blk k1 (HFAR.out _ (by omega))
  have q2 := hs1.out.blk k2 (HFAR.out _ (by omega))
  have hsW := hs1.out.size
  have hkW := k2.lt
  have hr1 := (HBo.out.below HB.out).ref.outO hs1.out (fun g hg h => by rcases h with h | h; exact (HBo.out.far g hg).2.2 h; exact (HBo.out.far g hg).2.1 h)
  have HR1 := Lib.hid hr1
  clear hd1 hc1 hs1 hr1 HP c0 c2 k0 k1 k2
  have c2 := q1.cell_is 2 a2
  go_wp2_with (refine wpList_load_row rfl 61 _ rfl w.heap.size rfl 61 XV (0, 0) _ q0 Tryz.underlying61 rfl HI7.out ?_)
  refine (HRG.out w1 HR1.out).mono ?_; rintro e w3 ⟨cv', rfl, hr3, hb3, hn3⟩
  obtain ⟨XV2, rfl, s72, one72, st72⟩ := hr3.agg
  have z7 : zeroC.size = XV2.size := s72.symm
  have HI72 := Lib.hid (info_cache s72)
  have HS72 := Lib.hid s72
  have HONE := Lib.hid one72
  have HZ7 := Lib.hid z7
  have HR3 := Lib.hid (And.intro hr3 (And.intro hb3 hn3))
  have u2 := q2.below hb3 q2.lt
  have hs13 := hb3.size
  clear s72 one72 st72 z7 hr3 hb3 hn3 q0 q1 q2 c2 HRG HR1
  have hzc := Blk.new w3 61 zeroC
  go_upto_region 12 with (refine wpList_store_row rfl 61 _ _ rfl w3.heap.size XV2 rfl rfl 61 _ hzc HI72.out HZ7.out HONE.out ?_; rw [World.setRow_alloc_new])
  obtain ⟨Z, eZ⟩ : ∃ Z, Z = w3.alloc (.cells XV2 61) := ⟨_, rfl⟩
  have hbZ : Below w3.heap.size w3 Z := by rw [eZ]; exact (Below.refl _ w3).alloc (Nat.le_refl _) _
  have t19 : Blk Z w3.heap.size 61 XV2 := by rw [eZ]; exact Blk.new _ _ _
  rw [← eZ]
  clear eZ hzc
  have t8 := u2.below hbZ u2.lt
  have hs3Z := hbZ.size
  clear u2
  obtain ⟨hd1, hc1, hs1⟩ := P1.out
  obtain ⟨hr3, hb3, hn3⟩ := HR3.out
  obtain ⟨hBo, hPs⟩ := HBo.out.pr hd1 hc1 (PStep.first HB.out hs1) hb3 hr3 hn3
  have HBZ := Lib.hid (hBo.below hbZ)
  have HPS := Lib.hid (hPs.below hbZ)
  have hbw1 := (PStep.first HB.out hs1).out.size
  have HCN := Lib.hid (hn3.mono hbw1 hs3Z)
  have HN1 := Lib.hid hs1.new_
  have HN3 := Lib.hid hn3
  clear hd1 hc1 hs1 hr3 hb3 hn3 hBo hPs P1 HR3 hbZ
  go_wp2_with (first
   | (refine wpList_load_row rfl 61 _ rfl w3.heap.size rfl 61 XV2 (0, 0) _ t19 Tryz.underlying61 rfl HI72.out ?_)
   | (refine wpList_store_row rfl 61 _ _ rfl (w.heap.size + 2) XV2 rfl rfl 61 _ t8 HI72.out HZ7.out HONE.out ?_))
  have ho8 : Out (fun i => i = w.heap.size + 2) Z (Z.setRow (w.heap.size + 2) XV2) := out_row _ rfl
  refine bodyPost_ret (results_row_tmp2 Tryz.results30 _ _ _ _ _ rfl (load_cacheV HS72.out (t8.row XV2)) rfl) rfl ⟨.agg XV2, C1, rfl, HBZ.out.out ho8 (fun i hi => ?_), HPS.out.out_ ho8 (fun i hi => by omega), HCN.out.mono (Nat.le_refl _) ho8.size⟩
  subst hi
  refine ⟨fun h => ?_, fun h => ?_, fun h => ?_⟩
  ·have := HBo.out.disk.has_lt _ h; omega
  ·rcases HN1.out _ h with h | h
   ·have := HBo.out.cache.has_lt _ h; omega
   ·omega
  ·rcases HN3.out _ h with h | h
   ·have := (HBo.out.far _ h).1; omega
   ·omega
end Go.Proofs.YtemcgfncahccgaaGreat
namespace Go.Proofs.YtemcgfncahccgaaGreat
open Go.RowKit

theorem run_append_zeros (w : World) {base n : Nat} {g cap : Nat} {xs : List Value} (hown : w.ownsRow base 5 1 (.slice (some ⟨g, 0, none⟩) n cap) n xs) (ty : TypeId) (k : Nat) (hk : n + k ≤ 1000000) (hbase : base ≤ w.heap.size) :
  ∃ v' w', (Builtin.append_ #[29, 3] ty #[.slice (some ⟨g, 0, none⟩) n cap, .int .i64 (k : Int)]).run Tryz.prog w = .ok v' w' ∧ w'.ownsRow base 5 1 v' (n + k) (xs ++ List.replicate k (vu8 0)) ∧ w.grownBy w' (some g) := by
 obtain ⟨i0, hi0, hz0, hz1, hz2⟩ := info_parts info_u8
 have hwr : IntKind.i64.wrap (k : Int) = k := by rw [IntKind.wrap_i64]; omega
 have hneg : ¬ ((k : Int) < 0) := by omega
 rcases hown.2 with ⟨h0, _⟩ | ⟨g', cap', cur, h0, hbg, hg, hnc, hcm, hcs, htake⟩
 ·cases h0
 ·cases h0
  have hxl : xs.length = n := by have := hown.1; omega
  have hu := Tryz.underlying29
  have hui := Tryz.underlying3
  have h48 : ¬ (281474976710656 < (k : Int) * (1 : Int)) := by omega
  have hzc : (Builtin.zeroCells (Value.int .u8 0).cells k).toList = List.replicate k (vu8 0) := by
   simp only [Builtin.zeroCells, Value.cells]
   apply List.ext_getElem
   ·simp
   ·intro j h1 h2
    simp [vu8, Nat.mod_one]
  by_cases hk0 : k = 0
  ·subst hk0
   refine ⟨.slice (some ⟨g, 0, none⟩) n cap, w, ?_, by simpa using hown, World.grownBy.refl w _⟩
   simp [Builtin.append_, run_underlying hu, run_underlying hui, sizeOf, typeInfo, zeroValue, hi0, hz0, hz1, hz2, asInt, asIntOf, show IntKind.i64.wrap 0 = 0 from by rw [IntKind.wrap_i64]; rfl, hnc, storeCells]
  ·have hks : ¬ (k * 1 = 0) := by omega
   by_cases hroom : n + k ≤ cap
   ·have hst := run_storeCells_at Tryz.prog g n 5 (List.replicate k (vu8 0)) 0 cur w hg (by rw [List.length_replicate]; omega) (fun v hv => by rw [List.eq_of_mem_replicate hv]; rfl)
    simp only [Nat.add_zero, List.length_replicate] at hst
    refine ⟨.slice (some ⟨g, 0, none⟩) (n + k) cap, w.setRow g (cur.toList.take n ++ List.replicate k (vu8 0) ++ cur.toList.drop (n + k)).toArray, ?_, ⟨by rw [List.length_append, hxl, List.length_replicate]; omega, .inr ⟨g, cap, _, rfl, hbg, setRow_heap w g cur _ _ _ hg, hroom, hcm, ?_, ?_⟩⟩, ⟨rfl, rfl, rfl, by simp, fun j _ hj => setRow_other w g j _ (fun e => hj (by simp [e]))⟩⟩
    ·simp [Builtin.append_, run_underlying hu, run_underlying hui, sizeOf, typeInfo, zeroValue, hi0, hz0, hz1, hz2, asInt, asIntOf, hwr, hneg, h48, hks, hroom, hzc, Addr.add_lit, hst]
     rw [if_neg (show ¬ (281474976710656 : Int) < (k : Int) by omega), if_neg hk0]
    ·simp only [List.size_toArray, List.length_append, List.length_take, List.length_drop, Array.length_toList, List.length_replicate]
     omega
    ·rw [Nat.mul_one]
     have h1 : (cur.toList.take n) = xs := by have h := htake; rwa [Nat.mul_one] at h
     rw [h1]
     show List.take (n + k) (xs ++ List.replicate k (vu8 0) ++ _) = _
     rw [List.take_left' (by rw [List.length_append, hxl, List.length_replicate])]
   ·have hh : (Builtin.firstCells i0.size n (.slice (some ⟨g, 0, none⟩) n cap)).run Tryz.prog w.drew = .ok xs.toArray w.drew := by
     rw [hz1]
     exact run_firstCells_some w.drew 1 n ⟨g, 0, none⟩ n cap xs (by rw [hxl]; omega) (fun j v hj => hown.cells (g := g) rfl j v hj)
    have hr := Lib.run_append_grow_zeros (P := Tryz.prog) w 29 3 ty 5 i0 (.int .u8 0) .i64 .i64 hu hui hi0 hz0 (some ⟨g, 0, none⟩) n cap xs hh k (by omega) (by rw [hz1]; omega) (by omega) (by omega) (by rw [hz2]; omega) (by rw [hz2]; exact growslice_fits (by omega) (by omega))
    have hge := grownCap_ge w (n + k) cap 5
    have hcm2 : grownCap w (n + k) cap 5 ≤ maxLen := grownCap_le_maxLen w (n + k) cap 5 (by unfold maxLen; omega)
    refine ⟨_, _, hr, ⟨by rw [List.length_append, hxl, List.length_replicate]; omega, .inr ⟨w.heap.size, _, _, rfl, hbase, heap_alloc_new w.drew _, hge, hcm2, ?_, ?_⟩⟩, ⟨rfl, rfl, rfl, by simp, fun j hj _ => by first | exact heap_alloc_old w.drew _ j hj | exact heap_alloc_old w.drew _ hj⟩⟩
    ·simp only [Array.size_append, List.size_toArray, size_zeroCells, hxl, Value.cells]
     simp
     omega
    ·simp only [Array.toList_append, hzc]
     rw [Nat.mul_one, List.append_assoc, ← List.append_assoc]
     exact List.take_left' (by rw [List.length_append, List.length_replicate]; simp [hxl])
theorem wpList_append_zeros (w : World) {ops : Array Oper} {rest : List Oper} {o : Oper} {a : Act} {Q : Exit → Act → World → Prop} (hgd : o.guard = none) (s x : Operand)
  (ho : o.op = .call { callee := .builtin .append, args := #[s, x], argTypes := #[29, 3] })
  (base n g cap : Nat) (xs : List Value) (hs : a.eval s = .slice (some ⟨g, 0, none⟩) n cap) (hown : w.ownsRow base 5 1 (.slice (some ⟨g, 0, none⟩) n cap) n xs) (k : Nat) (hx : a.eval x = .int .i64 (k : Int))
  (hk : n + k ≤ 1000000) (hbase : base ≤ w.heap.size)
  (h : ∀ v' w', w'.ownsRow base 5 1 v' (n + k) (xs ++ List.replicate k (vu8 0)) → w.grownBy w' (some g) → wpList Tryz.prog ops Q rest (a.put o.dst v') w') : wpList Tryz.prog ops Q (o :: rest) a w := by
 refine wpList_plain hgd fun _ hK => ?_
 obtain ⟨v', w', hrun, h2, h3⟩ := run_append_zeros w hown o.type k hk hbase
 unfold Oper.wp execOp
 simp only [ho, resolve, invoke, builtin, Sem.run_bind, Sem.run_pure, Result.andThen_ok, List.map_toArray, List.map_cons, List.map_nil, hs, hx, hrun]
 exact hK _ _ (h v' w' h2 h3)
end Go.Proofs.YtemcgfncahccgaaGreat
namespace Go.Proofs.YtemcgfncahccgaaGreat
open Go.RowKit

/-- the steps that fail, counted from the disk's beginning -/
def failsL (s : Int) (l : List Int) : List Int := (l.filter fun n => decide (n ≤ 9223372036854775807 - s)).map (s + ·)
theorem failsL_snoc (s : Int) (l : List Int) (n : Int) : failsL s (l ++ [n]) = failsL s l ++ (if n ≤ 9223372036854775807 - s then [s + n] else []) := by
  unfold failsL
  rw [List.filter_append, List.map_append]
  congr 1
  by_cases h : n ≤ 9223372036854775807 - s
  · rw [if_pos h]; simp [h]
  · rw [if_neg h]; simp [h]
theorem failsL_len (s : Int) (l : List Int) : (failsL s l).length ≤ l.length := by unfold failsL; rw [List.length_map]; exact List.length_filter_le _ _
theorem take_at {α : Type} (l : List α) (j : Nat) (x : α) (h : l[j]? = some x) : l.take (j + 1) = l.take j ++ [x] := by rw [List.take_add_one, h]; rfl
set_option maxRecDepth 100000 in
set_option maxHeartbeats 4000000 in
theorem rdfail_any (s : Int) (lv wv fv v : Value) (l : List Int) (w : World) (h0 : 0 ≤ s) (h1 : s ≤ 1000000000000) (hone : (#[lv, wv, .int .i64 s, fv] : Array Value).all (·.oneCell') = true) (hone2 : lv.oneCell' = true ∧ wv.oneCell' = true) (hl : IntsIn w w.heap.size v l) (hi : ∀ n ∈ l, n ≤ 9223372036854775807) (hlen : l.length ≤ 1000) :
    Calls Tryz.prog 36 #[.agg #[lv, wv, .int .i64 s, fv], v] w fun e w' => Below w.heap.size w w' ∧
      ((l.all (fun n => decide (0 ≤ n)) = true ∧ ∃ fv', e = .returned (.tuple #[.agg #[lv, wv, .int .i64 s, fv'], .int .i64 0]) ∧ IntsIn w' w'.heap.size fv' (failsL s l) ∧ (∀ g, fv'.ownBlock = some g → w.heap.size ≤ g) ∧ ∀ g, fv'.ownBlock = some g → g < w'.heap.size) ∨
       (l.all (fun n => decide (0 ≤ n)) = false ∧ e = .returned (.tuple #[.agg #[lv, wv, .int .i64 s, fv], .int .i64 2]))) := by
  have HL := Lib.hid hl
  obtain ⟨_, a, cap, rfl, _, _⟩ := hl
  obtain ⟨i0, hi0, hz0, hz1, hz2⟩ := info_parts info_int
  obtain ⟨W, eW⟩ : ∃ W, W = (w.alloc (.cells #[lv, wv, .int .i64 s, fv] 32)).alloc (.cells zeroD 32) := ⟨_, rfl⟩
  have b0 : Below w.heap.size w W := by rw [eW]; exact ((Below.refl _ w).alloc (Nat.le_refl _) _).alloc (by simp) _
  have k0 : Blk W w.heap.size 32 #[lv, wv, .int .i64 s, fv] := by rw [eW]; exact (Blk.new w _ _).alloc _
  have k1 : Blk W (w.heap.size + 1) 32 zeroD := by rw [eW]; exact Blk.new' (by simp)
  have HI := Lib.hid hi
  have HON := Lib.hid hone
  have HO2 := Lib.hid hone2
  clear hi hone hone2
  go_enter Tryz.func36, Tryz.ntmps36
  go_upto_region 2 with fail
  rw [← eW]
  clear eW
  go_wp2_with fail
  go_loopw [6, 7] (fun u i wr => ∃ (j m : Nat) (u' : Value), u' = u ∧ j ≤ l.length ∧ m ≤ j ∧ i = .int .i64 (j : Int) ∧ Hid ((l.take j).all (fun n => decide (0 ≤ n)) = true) ∧ wr.ownsRow w.heap.size 3 1 u' m ((failsL s (l.take j)).map (Value.int .i64)) ∧ Blk wr w.heap.size 32 #[lv, wv, .int .i64 s, fv] ∧ Blk wr (w.heap.size + 1) 32 zeroD ∧ Below w.heap.size w wr) (fun _ i _ => l.length - (intOf i).toNat)
  case atStart => exact ⟨0, 0, _, rfl, Nat.zero_le _, Nat.le_refl _, rfl, Lib.hid rfl, World.ownsRow_nil _ _ _ _, k0, k1, b0⟩
  case round =>
    obtain ⟨j, m, u, rfl, hj, hm, rfl, HT, hO, hk0, hk1, hB⟩ := hrel
    have HO := Lib.hid hO
    have H0 := Lib.hid hk0
    have H1 := Lib.hid hk1
    have HB := Lib.hid hB
    have cS := hk0.cell_is 2 rfl
    clear hO hk0 hk1 hB
    by_cases hlt : j < l.length
    · have hji : (j : Int) < (l.length : Int) := by omega
      obtain ⟨n, hn⟩ : ∃ n, l[j]? = some n := ⟨_, List.getElem?_eq_getElem hlt⟩
      obtain ⟨g, off, rfl, hg, cN0⟩ := HL.out.at_ hn
      have cN := (HB.out.cell (p := ⟨g, off + j, none⟩) hg).trans cN0
      have hnm := HI.out n (List.mem_of_getElem? hn)
      have HN := Lib.hid hn
      have HTK := Lib.hid (take_at l j n hn)
      clear hn
      by_cases hneg : n < 0
      · have HNO := Lib.hid (show l.all (fun n => decide (0 ≤ n)) = false from by
          refine Bool.eq_false_iff.2 (fun h => ?_)
          have := List.all_eq_true.1 h n (List.mem_of_getElem? HN.out)
          simp at this
          omega)
        have k0 := H0.out
        have k1 := H1.out
        go_wp2_with (first
          | (refine wpList_load_row rfl 32 _ rfl w.heap.size rfl 32 #[lv, wv, .int .i64 s, fv] (0, 0) _ k0 Tryz.underlying32 rfl (size_rdisk _ _ _ _) ?_)
          | (refine wpList_store_row rfl 32 _ _ rfl (w.heap.size + 1) #[lv, wv, .int .i64 s, fv] rfl rfl 32 zeroD k1 (size_rdisk _ _ _ _) rfl HON.out ?_))
        exact bodyPost_ret (results_row_tmp2 Tryz.results36 _ _ _ _ _ (by rfl) (load_rdisk (k1.row _)) (by rfl)) rfl ⟨below_row HB.out _ (by omega), .inr ⟨HNO.out, rfl⟩⟩
      · have hn0 : 0 ≤ n := by omega
        have hsub : IntKind.i64.wrap (9223372036854775807 - s) = 9223372036854775807 - s := by rw [IntKind.wrap_i64]; omega
        have HT2 := Lib.hid (show (l.take (j + 1)).all (fun n => decide (0 ≤ n)) = true by rw [HTK.out, List.all_append, HT.out]; simp [hn0])
        go_upto_region 7 with fail
        refine wp_region_held_drew (S := (fun w' => w'.cell? ⟨g, off + j, none⟩ = some (.int .i64 n) ∧ w'.cell? ⟨w.heap.size, 2, none⟩ = some (.int .i64 s))) (by kernel_rfl) (by first | exact ⟨cN, cS⟩ | ((try dsimp only); exact ⟨cN, cS⟩)) (fun hHeld => ?_)
        refine tk 0 ?_
        refine tk 1 ?_
        refine tk 2 ?_
        refine tk 3 ?_
        refine tk 4 ?_
        refine tk 5 ?_
        refine tk 6 ?_
        refine tk 7 ?_
        refine wpAnyH_done (by kernel_rfl) ?_ _
        try simp only [Act.put, pz0, pz1, pz2, pz3, pz4, pz5]
        by_cases hle : n ≤ 9223372036854775807 - s
        · have hadd : IntKind.i64.wrap (s + n) = s + n := by rw [IntKind.wrap_i64]; omega
          have HFS := Lib.hid (show failsL s (l.take (j + 1)) = failsL s (l.take j) ++ [s + n] by rw [HTK.out, failsL_snoc, if_pos hle])
          go_upto_region 8 with fail
          refine wp_region_held_drew (S := (fun w' => w'.cell? ⟨g, off + j, none⟩ = some (.int .i64 n) ∧ w'.cell? ⟨w.heap.size, 2, none⟩ = some (.int .i64 s))) (by kernel_rfl) (by first | exact ⟨cN, cS⟩ | ((try dsimp only); exact ⟨cN, cS⟩)) (fun hHeld => ?_)
          refine tk 0 ?_
          refine tk 1 ?_
          refine tk 2 ?_
          refine tk 3 ?_
          refine tk 4 ?_
          refine tk 5 ?_
          refine tk 6 ?_
          refine tk 7 ?_
          refine rd 8 fun K hK => ?_
          try rw [if_pos (by rfl)]
          go_simp
          obtain ⟨X3, eX3⟩ : ∃ V, V = (wr.alloc (.cells #[.int .i64 (s + n)] 3)).drew.drew := ⟨_, rfl⟩
          have bl3 : Blk X3 wr.heap.size 3 #[.int .i64 (s + n)] := by rw [eX3]; exact (Blk.new wr _ _).drew.drew
          have hb3 : Below wr.heap.size wr X3 := by rw [eX3]; exact ((Below.refl _ wr).alloc (Nat.le_refl _) _).drew.drew
          try rw [← eX3]
          clear eX3
          refine hK.out _ _ (by first | exact ⟨((HB.out.trans (hb3.mono HB.out.size)).cell (p := ⟨g, off + j, none⟩) hg).trans cN0, (H0.out.below hb3 H0.out.lt).cell_is 2 rfl⟩ | ((try dsimp only); exact ⟨((HB.out.trans (hb3.mono HB.out.size)).cell (p := ⟨g, off + j, none⟩) hg).trans cN0, (H0.out.below hb3 H0.out.lt).cell_is 2 rfl⟩)) (fun hHeld => ?_)
          clear hK K
          try simp only [Act.put, pz0, pz1, pz2, pz3, pz4, pz5]
          refine rd 9 fun K hK => ?_
          try rw [if_pos (by rfl)]
          have ow3 := ownsRow_out (F := fun _ => False) (outB hb3) HO.out (fun _ _ => id)
          refine wp_append_lies _ (.tmp 28) (.tmp 36) 23 rfl w.heap.size 3 i0 _ 1 8 Tryz.underlying23 hi0 hz0 hz1 hz2 rfl (by omega) u m _ rfl ow3 ⟨wr.heap.size, 0, none⟩ 1 1 [.int .i64 (s + n)] rfl rfl (World.news_of_block (cs := #[.int .i64 (s + n)]) (t := 3) (fr := (0, 0)) bl3) (by simp [Value.oneCell']) (by omega) (by unfold maxLen; omega) (by omega) (HB.out.trans (hb3.mono HB.out.size)).size X3.heap.size rfl ?_
          intro g4 c4 X4 hO4 hg4 hat4 hlt4
          have hb4 := (HB.out.trans (hb3.mono HB.out.size)).grown hg4 (HB.out.trans (hb3.mono HB.out.size)).size (fun r hr => (ow3.lt r hr).1)
          have k03 := H0.out.below hb3 H0.out.lt
          have k13 := H1.out.below hb3 H1.out.lt
          have k04 := (hg4.block _ k03.lt (fun e => ne_own ow3 k03 (by decide) _ e.symm rfl)).trans k03
          have k14 := (hg4.block _ k13.lt (fun e => ne_own ow3 k13 (by decide) _ e.symm rfl)).trans k13
          have cN4 := (hb4.cell (p := ⟨g, off + j, none⟩) hg).trans cN0
          have cS4 := (show Blk X4 w.heap.size 32 #[lv, wv, .int .i64 s, fv] from k04).cell_is 2 rfl
          refine hK.out _ _ (by first | exact ⟨cN4, cS4⟩ | ((try dsimp only); exact ⟨cN4, cS4⟩)) (fun hHeld => ?_)
          clear hK K
          try simp only [Act.put, pz0, pz1, pz2, pz3, pz4, pz5]
          refine tk 10 ?_
          refine wpAnyH_done (by kernel_rfl) ?_ _
          try simp only [Act.put, pz0, pz1, pz2, pz3, pz4, pz5]
          go_wp2_with fail
          go_roundw
          case rel => exact ⟨j + 1, m + 1, _, rfl, by omega, by omega, by go_num, HT2, by rw [HFS.out, List.map_append]; exact hO4, k04, k14, hb4⟩
          case measure => simp [intOf]; omega
        · have HFS := Lib.hid (show failsL s (l.take (j + 1)) = failsL s (l.take j) by rw [HTK.out, failsL_snoc, if_neg hle, List.append_nil])
          go_wp2_with fail
          go_roundw
          case rel => exact ⟨j + 1, m, _, rfl, by omega, by omega, by go_num, HT2, by rw [HFS.out]; exact ownsRow_out (F := fun _ => False) (outB (Below.refl wr.heap.size wr).drew) HO.out (fun _ _ => id), H0.out.drew, H1.out.drew, HB.out.drew⟩
          case measure => simp [intOf]; omega
    · have hji : ¬ (j : Int) < (l.length : Int) := by omega
      have hje : j = l.length := by omega
      have hO := HO.out
      have hT := HT.out
      rw [hje, List.take_length] at hO hT
      have hlu : (failsL s l).length ≤ l.length := failsL_len s l
      obtain ⟨a2, cap2, rfl⟩ := slice_form hO
      have hin := ints_own hO (K := wr.heap.size) (fun g hg => (hO.lt g hg).2)
      have hown := hO.lt
      have k0 := H0.out
      have k1 := H1.out
      have z3 := k0.frozen 3
      have c3 := k0.cell_is 3 rfl
      have j0 : Blk (wr.setCell ⟨w.heap.size, 3, none⟩ (.slice a2 m cap2)) w.heap.size 32 #[lv, wv, .int .i64 s, .slice a2 m cap2] := by simpa using k0.set_ 3 (.slice a2 m cap2)
      have j1 : Blk (wr.setCell ⟨w.heap.size, 3, none⟩ (.slice a2 m cap2)) (w.heap.size + 1) 32 zeroD := (Below.heap_setCell wr _ _ _ (by show w.heap.size + 1 ≠ w.heap.size; omega)).trans k1
      have one : (#[lv, wv, .int .i64 s, .slice a2 m cap2] : Array Value).all (·.oneCell') = true := by rw [List.all_toArray]; simp only [List.all_cons, List.all_nil, HO2.out.1, HO2.out.2, Bool.true_and]; rfl
      have hbs : Below w.heap.size w (wr.setCell ⟨w.heap.size, 3, none⟩ (.slice a2 m cap2)) := HB.out.setCell (p := ⟨w.heap.size, 3, none⟩) (Nat.le_refl _) _
      have HIN := Lib.hid hin
      have HOW := Lib.hid hown
      have HTT := Lib.hid hT
      have HOO := Lib.hid hO
      clear hO hT hje hlt hin hown HT HO k1
      go_wp2_with (first
        | (refine wpList_load_row rfl 32 _ rfl w.heap.size rfl 32 #[lv, wv, .int .i64 s, .slice a2 m cap2] (0, 0) _ j0 Tryz.underlying32 rfl (size_rdisk _ _ _ _) ?_)
        | (refine wpList_store_row rfl 32 _ _ rfl (w.heap.size + 1) #[lv, wv, .int .i64 s, .slice a2 m cap2] rfl rfl 32 zeroD j1 (size_rdisk _ _ _ _) rfl one ?_))
      refine bodyPost_ret (results_row_tmp2 Tryz.results36 _ _ _ _ _ (by rfl) (load_rdisk (j1.row _)) (by rfl)) rfl ⟨below_row hbs _ (by omega), .inl ⟨by simpa using HTT.out, _, rfl, ?_, fun g hg => (HOW.out g hg).1, fun g hg => Nat.lt_of_lt_of_le (HOW.out g hg).2 ((out_set (F := fun _ => True) trivial).trans (out_row (F := fun _ => True) _ trivial) (fun _ _ h => h)).size⟩⟩
      have hox := ownsRow_out (F := fun i => i = w.heap.size ∨ i = w.heap.size + 1) (Out.trans (out_set (F := fun i => i = w.heap.size ∨ i = w.heap.size + 1) (w := wr) (g := w.heap.size) (i := 3) (v := .slice a2 m cap2) (.inl rfl)) (out_row (F := fun i => i = w.heap.size ∨ i = w.heap.size + 1) #[lv, wv, .int .i64 s, .slice a2 m cap2] (.inr rfl)) (fun _ _ h => h)) HOO.out (fun i hi h => by
        rcases h with h | h
        · exact ne_own HOO.out H0.out (by decide) i hi h
        · exact ne_own HOO.out H1.out (by decide) i hi h)
      exact ints_own hox (fun g hg => (hox.lt g hg).2)
end Go.Proofs.YtemcgfncahccgaaGreat
namespace Go.Proofs.YtemcgfncahccgaaGreat
open Go.RowKit

theorem neg_any (n : Int) (w : World) : Calls Tryz.prog 69 #[.int .i64 n] w fun e w' => e = .returned (.bool (decide (n < 0))) ∧ w = w' := by
  obtain ⟨c, hc⟩ : ∃ c, c = decide (n < 0) := ⟨_, rfl⟩
  rw [← hc]
  go_enter Tryz.func69, Tryz.ntmps69
  go_wp2_with fail
  go_ret
  exact ⟨by rw [hc]; rfl, rfl⟩
theorem containsI_any (B : Nat) (v : Value) (l : List Int) (w : World) (hv : IntsIn w B v l) (hn : l.length ≤ 1000000) :
    Calls Tryz.prog 38 #[v, .func (.func 69) #[] #[]] w fun e w' => e = .returned (.bool (l.any (fun n => decide (n < 0)))) ∧ Below w.heap.size w w' := by
  obtain ⟨h1, a, cap, rfl, h3, h4⟩ := hv
  cases l with
  | nil =>
    refine (Tryz.slices_ContainsFunc_empty (α := Int) a cap _ w).mono ?_
    rintro e w' ⟨rfl, rfl⟩
    exact ⟨rfl, Below.refl _ _⟩
  | cons x l =>
    obtain ⟨g, off, rfl, _, _⟩ := h4 0 x rfl
    refine (Tryz.slices_ContainsFunc (α := Int) (Value.int .i64) (fun n => decide (n < 0)) 69 #[] (enters_of Tryz.func69 (by kernel_rfl) rfl) g off (x :: l).length cap (x :: l) w (fun W y hb => (neg_any y W).mono ?_) (Nat.le_refl _) (by omega) (fun j hj => ?_)).mono ?_
    · rintro e w' ⟨rfl, rfl⟩
      exact ⟨rfl, 0, rfl⟩
    · have hj2 : (x :: l)[j]? = some (x :: l)[j]! := by rw [List.getElem!_eq_getElem?_getD, List.getElem?_eq_getElem hj]; rfl
      obtain ⟨g', off', e, _, hc⟩ := h4 j _ hj2
      cases e
      exact hc
    · rintro e w' ⟨rfl, q, rfl⟩
      exact ⟨by rw [List.take_length], drewN_below w q⟩
theorem lookOf_map (k : List Int) (n : Int) : lookOf (k.map fun n => (n, Value.agg #[])) n = if n ∈ k then some (.agg #[]) else none := lookOf_fails k n
theorem setOld_map (n : Int) : ∀ (k : List Int), setOld (k.map fun n => (n, Value.agg #[])) n (.agg #[]) = k.map fun n => (n, Value.agg #[])
  | [] => rfl
  | x :: k => by
    show (if n == x then (x, Value.agg #[]) :: k.map _ else (x, Value.agg #[]) :: setOld (k.map _) n (.agg #[])) = _
    rw [setOld_map n k]
    split <;> rfl
theorem set_fail (w : World) (r : Nat) (k : List Int) (hm : MapAt w r .i64 (k.map fun n => (n, Value.agg #[]))) (n : Int) :
    ∃ (w' : World) (k' : List Int), (Instr.mapUpdate 114 (.map (some r)) (.int .i64 n) (.agg #[])).run Tryz.prog w = .ok () w' ∧ MapAt w' r .i64 (k'.map fun n => (n, Value.agg #[])) ∧ (∀ m, m ∈ k' ↔ m ∈ k ∨ m = n) ∧ Turn r w w' := by
  have hl := lookOf_map k n
  by_cases h : n ∈ k
  · rw [if_pos h] at hl
    obtain ⟨w', h1, h2, h3⟩ := run_insert_old (P := Tryz.prog) (t := 114) w Tryz.underlying114 Tryz.underlying3 r _ hm n (by rw [hl]; rfl) (.agg #[])
    rw [setOld_map] at h2
    exact ⟨w', k, h1, h2, fun m => ⟨.inl, fun hm => hm.elim id (fun e => by rw [e]; exact h)⟩, h3⟩
  · rw [if_neg h] at hl
    obtain ⟨w', h1, h2, h3⟩ := run_insert_new (P := Tryz.prog) (t := 114) w Tryz.underlying114 Tryz.underlying3 r _ hm n hl (.agg #[])
    refine ⟨w', k ++ [n], h1, ?_, fun m => by simp, h3⟩
    rw [List.map_append]
    exact h2
set_option maxRecDepth 100000 in
set_option maxHeartbeats 4000000 in
theorem dfail_any (D : DiskP) (x : DiskD) (v : Value) (l : List Int) (w : World) (h : DiskAt w D x) (hx : x.ok) (hl : IntsIn w w.heap.size v l) (hfar : l ≠ [] → ∀ g, v.ownBlock = some g → ¬ D.has g) (hi : ∀ n ∈ l, n ≤ 9223372036854775807) (hlen : l.length ≤ 1000) :
    Calls Tryz.prog 35 #[ptr D.p, v] w fun e w' =>
      (l.all (fun n => decide (0 ≤ n)) = true ∧ e = .returned (.int .i64 0) ∧ ∃ D', DiskAt w' D' { x with fails := failsL x.steps l } ∧ DStep D D' w w') ∨
      (l.all (fun n => decide (0 ≤ n)) = false ∧ e = .returned (.int .i64 2) ∧ Below w.heap.size w w') := by
  have HN := Lib.hid (fun W hh => dnone_any D x W hh hx)
  have HC := Lib.hid (containsI_any w.heap.size v l w hl (by omega))
  have hany : l.any (fun n => decide (n < 0)) = !l.all (fun n => decide (0 ≤ n)) := by
    rw [List.not_all_eq_any_not]
    congr 1
    funext n
    by_cases h : n < 0
    · simp [h]
    · have : 0 ≤ n := by omega
      simp [h, this]
  rw [hany] at HC
  have HH := Lib.hid h
  have HL := Lib.hid hl
  obtain ⟨_, a, cap, rfl, _, _⟩ := hl
  have hmm := @run_makeMap Tryz.prog
  obtain ⟨s0, s1⟩ : 0 ≤ x.steps ∧ x.steps ≤ 1000000000000 := ⟨hx.2.2.2.2.1, hx.2.2.2.2.2.1⟩
  have HI := Lib.hid hi
  have HF := Lib.hid hfar
  unfold ptr at *
  clear h hx hi hfar hany
  cases hall : l.all (fun n => decide (0 ≤ n))
  · rw [hall] at HC
    go_enter Tryz.func35, Tryz.ntmps35
    go_wp2_with fail
    refine (HN.out w HH.out).mono ?_; rintro e w1 ⟨rfl, rfl⟩
    go_wp2_with fail
    refine HC.out.mono ?_; rintro e w2 ⟨rfl, hb2⟩
    go_wp2_with fail
    go_ret
    exact .inr ⟨by first | rfl | trivial, rfl, hb2⟩
  · rw [hall] at HC
    go_enter Tryz.func35, Tryz.ntmps35
    go_wp2_with fail
    refine (HN.out w HH.out).mono ?_; rintro e w1 ⟨rfl, rfl⟩
    go_wp2_with fail
    refine HC.out.mono ?_; rintro e w2 ⟨rfl, hb2⟩
    have hd2 := HH.out.below hb2
    have z4 := (hd2.blk.alloc (.map #[] 0)).frozen 4
    have c4 := (hd2.blk.alloc (.map #[] 0)).cell_is 4 rfl
    go_upto_region 6 with fail
    obtain ⟨r, er⟩ : ∃ r, r = w2.heap.size := ⟨_, rfl⟩
    obtain ⟨W, eW⟩ : ∃ W, W = (w2.alloc (.map #[] 0)).setCell ⟨D.p, 4, none⟩ (.map (some r)) := ⟨_, rfl⟩
    have hpr : D.p < r := by rw [er]; exact hd2.blk.lt
    have mb : MapAt W r .i64 (([] : List Int).map fun n => (n, Value.agg #[])) := by
      rw [eW, er]
      exact (Below.heap_setCell (w2.alloc (.map #[] 0)) _ _ _ (by show w2.heap.size ≠ D.p; omega)).trans (MapAt.new w2 .i64)
    have bb : Blk W D.p 116 #[.int .i64 x.size, .map (some D.lm), D.wv, .int .i64 x.steps, .map (some r)] := by
      rw [eW]
      simpa using (hd2.blk.alloc (.map #[] 0)).set_ 4 (.map (some r))
    have ob : Out (fun i => i = D.p) w2 W := by
      rw [eW]
      exact (outB (F := fun i => i = D.p) ((Below.refl _ w2).alloc (Nat.le_refl _) (.map #[] 0))).trans (out_set (F := fun i => i = D.p) rfl) (fun _ _ h => h)
    rw [← er, ← eW]
    have hwr : w.heap.size ≤ r := by rw [er]; exact hb2.size
    have hD2 := Lib.hid hd2
    have HB2 := Lib.hid hb2
    have HOB := Lib.hid ob
    have ER := Lib.hid er
    clear eW z4 c4 er hd2 hb2 HC hmm ob
    go_wp2_with fail
    go_loopw [18] (fun i wr => ∃ (j : Nat) (k : List Int), j ≤ l.length ∧ i = .int .i64 (j : Int) ∧ MapAt wr r .i64 (k.map fun n => (n, Value.agg #[])) ∧ Hid (∀ n, n ∈ k ↔ n ∈ failsL x.steps (l.take j)) ∧ Blk wr D.p 116 #[.int .i64 x.size, .map (some D.lm), D.wv, .int .i64 x.steps, .map (some r)] ∧ Out (fun i => i = r) W wr) (fun i _ => l.length - (intOf i).toNat)
    case atStart => exact ⟨0, [], Nat.zero_le _, rfl, mb, Lib.hid (fun n => by simp [failsL]), bb, Out.refl _ _⟩
    case round =>
      obtain ⟨j, k, hj, rfl, hm, HK, hb, ho⟩ := hrel
      by_cases hlt : j < l.length
      · have hji : (j : Int) < (l.length : Int) := by omega
        obtain ⟨n, hn⟩ : ∃ n, l[j]? = some n := ⟨_, List.getElem?_eq_getElem hlt⟩
        obtain ⟨g, off, rfl, hg, cN0⟩ := HL.out.at_ hn
        have hgp : g ≠ D.p := fun e => HF.out (fun e2 => by rw [e2] at hlt; exact absurd hlt (Nat.not_lt_zero _)) g rfl (.inl e)
        have cN : wr.cell? ⟨g, off + j, none⟩ = some (.int .i64 n) := by
          have q1 : w2.cell? ⟨g, off + j, none⟩ = some (.int .i64 n) := (HB2.out.cell (p := ⟨g, off + j, none⟩) hg).trans cN0
          have hg2 : g < w2.heap.size := World.block_lt_of_cell? _ _ q1
          have q2 : W.cell? ⟨g, off + j, none⟩ = some (.int .i64 n) := (World.cell?_of_block (a := ⟨g, off + j, none⟩) (HOB.out.block g hg2 hgp)).trans q1
          exact (World.cell?_of_block (a := ⟨g, off + j, none⟩) (ho.block g (World.block_lt_of_cell? _ _ q2) (by omega))).trans q2
        have c3 := hb.cell_is 3 rfl
        have c4 := hb.cell_is 4 rfl
        have hnm := HI.out n (List.mem_of_getElem? hn)
        have hn0 : 0 ≤ n := by
          have := List.all_eq_true.1 hall n (List.mem_of_getElem? hn)
          simpa using this
        have HTK := Lib.hid (take_at l j n hn)
        clear hn hall
        by_cases hle : n ≤ 9223372036854775807 - x.steps
        · have hadd : IntKind.i64.wrap (x.steps + n) = x.steps + n := by rw [IntKind.wrap_i64]; omega
          have hge : 0 ≤ x.steps + n := by omega
          obtain ⟨w', k', hrun, hm', hk', ht⟩ := set_fail wr r k hm (x.steps + n)
          have hb' : Blk w' D.p 116 #[.int .i64 x.size, .map (some D.lm), D.wv, .int .i64 x.steps, .map (some r)] := (ht.block D.p (by omega)).trans hb
          have ho' : Out (fun i => i = r) W w' := ho.trans (G := fun i => i = r) ⟨ht.os, ht.tape, ht.output, by rw [ht.size]; exact Nat.le_refl _, fun i _ hn => ht.block i hn⟩ (fun _ _ h => h)
          have HK' := Lib.hid (fun m => (hk' m).trans (by rw [HTK.out, failsL_snoc, if_pos hle, List.mem_append, HK.out, List.mem_singleton] : (m ∈ k ∨ m = x.steps + n) ↔ m ∈ failsL x.steps (l.take (j + 1))))
          clear hk' ho ht
          go_wp2_with (refine wpList_plain rfl (fun K hK => wp_mapUpdate_is _ w' _ _ _ _ rfl (.map (some r)) (.int .i64 (x.steps + n)) (.agg #[]) rfl rfl rfl hrun (hK _ _ ?_)))
          go_roundw
          case rel => exact ⟨j + 1, k', by omega, by go_num, hm', HK', hb', ho'⟩
          case measure => simp [intOf]; omega
        · have hadd : IntKind.i64.wrap (x.steps + n) = x.steps + n - 18446744073709551616 := by rw [IntKind.wrap_i64]; omega
          have hge : ¬ 0 ≤ x.steps + n - 18446744073709551616 := by omega
          have HK' := Lib.hid (fun m => (HK.out m).trans (by rw [HTK.out, failsL_snoc, if_neg hle, List.append_nil] : m ∈ failsL x.steps (l.take j) ↔ m ∈ failsL x.steps (l.take (j + 1))))
          go_wp2_with fail
          go_roundw
          case rel => exact ⟨j + 1, k, by omega, by go_num, hm, HK', hb, ho⟩
          case measure => simp [intOf]; omega
      · have hji : ¬ (j : Int) < (l.length : Int) := by omega
        have hje : j = l.length := by omega
        have hK := HK.out
        rw [hje, List.take_length] at hK
        have HKK := Lib.hid hK
        have HO := Lib.hid ho
        clear hK hje hlt HK ho
        go_wp2_with fail
        go_ret
        have hlm : D.lm < r := by rw [ER.out]; exact hD2.out.has_lt _ (.inr (.inl rfl))
        have hne := hD2.out.ne
        have ho1 : Out (fun i => i = D.p ∨ i = r) w2 wr := Out.trans (F := fun i => i = D.p ∨ i = r) (G := fun i => i = r) ⟨HOB.out.os, HOB.out.tape, HOB.out.output, HOB.out.size, fun i hi hn => HOB.out.block i hi (fun e => hn (.inl e))⟩ HO.out (fun _ _ h => .inr h)
        have hwv : ∀ i, D.wv.ownBlock = some i → i < r := fun i hi => by rw [ER.out]; exact hD2.out.has_lt _ (.inr (.inr (.inl hi)))
        refine ⟨rfl, ⟨D.p, D.lm, D.wv, some r⟩, ⟨hb, ?_, ?_, .inr ⟨r, k, rfl, hm, HKK.out⟩, ?_⟩, ⟨?_, rfl, ?_⟩⟩
        · obtain ⟨m, h1, h2⟩ := hD2.out.lasts
          exact ⟨m, ho1.map h1 (fun h => h.elim hne.1 (fun e => by have e2 : D.lm = r := e; omega)), h2⟩
        · exact ownsRow_out ho1 hD2.out.waits (fun i hi h => h.elim (hne.2.1 i hi) (fun e => by have := hwv i hi; omega))
        · intro e
          have : r = D.lm := by simpa using e
          omega
        · refine Out.trans (F := D.has) (G := fun i => i = D.p ∨ i = r) (outB (F := D.has) HB2.out) ho1 (fun i hi h => h.elim (fun e => .inl e) (fun e => by omega))
        · rintro i (h | h | h | h)
          · exact .inl (.inl h)
          · exact .inl (.inr (.inl h))
          · exact .inl (.inr (.inr (.inl h)))
          · exact .inr (by have : r = i := by simpa using h
                           omega)
end Go.Proofs.YtemcgfncahccgaaGreat
