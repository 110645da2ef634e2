/-
  LogsWhole: what the calls of the law come to, in one structure.
-/
import Derived.Test.YtdpniceapmikpaaGreatWh26
import Derived.Test.YtdpniceapmikpaaGreatWh36
import Derived.Test.YtdpniceapmikpaaGreatWh38
set_option linter.unusedVariables false
set_option linter.unusedSimpArgs false
namespace Go.Proofs.YtdpniceapmikpaaGreat
open Go.RowKit

/-- is a sector one that the frame wants? -/
def wantedB (N a : Nat) (f : FrameD) (s : Int) : Bool := (spotR N s).2 == 0 && ((spotR N s).1.a == (a : Int) && ((spotR N s).1.k == 2 || ((spotR N s).1.k == 4 && decide ((spotR N s).1.t < (f.oids.length : Int)) || (spotR N s).1.k == 3 && decide (512 * (spotR N s).1.t < (f.state.length : Int)))))
theorem spot_t (N i : Nat) : 0 ≤ (spotAt N i).t ∧ ((spotAt N i).k = 2 → (spotAt N i).t = 0) := by
 unfold spotAt
 (repeat' split) <;> simp <;> omega
theorem wanted_yes {N a : Nat} {f : FrameD} {s : Int} (hN : 1 ≤ N ∧ N ≤ 64) (ha : a ≤ 1) (hf : frameB N f = true) (h : wantedB N a f s = true) : ∃ p : Place, p.ok N ∧ p.a = a ∧ placeIn f p ∧ s = ((p.sec N : Nat) : Int) := by
 obtain ⟨f0, f1, f2, f3, f4, f5⟩ := frameB_facts hf
 unfold wantedB spotR at h
 by_cases hin : 0 ≤ s ∧ s < 20 + 3 * (N : Int)
 ·rw [if_pos hin] at h
  obtain ⟨n, rfl⟩ := Int.eq_ofNat_of_zero_le hin.1
  rw [Int.toNat_natCast] at h
  have hn : n < 20 + 3 * N := by omega
  obtain ⟨ht0, hk2⟩ := spot_t N n
  simp only [Bool.and_eq_true, Bool.or_eq_true, beq_iff_eq, decide_eq_true_eq] at h
  obtain ⟨-, h1, h2⟩ := h
  obtain ⟨t, et⟩ := Int.eq_ofNat_of_zero_le ht0
  rcases h2 with h2 | ⟨h2, h3⟩ | ⟨h2, h3⟩
  ·have hp : Place.ok N ⟨2, a, 0⟩ := ⟨ha, .inl ⟨rfl, rfl⟩⟩
   exact ⟨⟨2, a, 0⟩, hp, rfl, .inl rfl, congrArg Int.ofNat (Place.of_at hp hn h2 h1 (hk2 h2))⟩
  ·rw [et] at h3
   have hp : Place.ok N ⟨4, a, t⟩ := ⟨ha, .inr (.inr ⟨rfl, by show t < N; omega⟩)⟩
   exact ⟨⟨4, a, t⟩, hp, rfl, .inr (.inr ⟨rfl, by show t < f.objs.length; omega⟩), congrArg Int.ofNat (Place.of_at hp hn h2 h1 et)⟩
  ·rw [et] at h3
   have hp : Place.ok N ⟨3, a, t⟩ := ⟨ha, .inr (.inl ⟨rfl, by show t < 8; omega⟩)⟩
   exact ⟨⟨3, a, t⟩, hp, rfl, .inr (.inl ⟨rfl, by show t < chunksN f.state.length; unfold chunksN; omega⟩), congrArg Int.ofNat (Place.of_at hp hn h2 h1 et)⟩
 ·rw [if_neg hin] at h
  simp at h
theorem wanted_no {N a : Nat} {f : FrameD} {s : Int} (hf : frameB N f = true) (h : wantedB N a f s = false) (p : Place) (hp : p.ok N) (hpa : p.a = a) (hpi : placeIn f p) : s ≠ ((p.sec N : Nat) : Int) := by
 rintro rfl
 obtain ⟨f0, f1, f2, f3, f4, f5⟩ := frameB_facts hf
 have hl := Place.sec_lt hp
 unfold wantedB spotR at h
 rw [if_pos (by omega)] at h
 rw [Int.toNat_natCast, Place.at_sec hp] at h
 have hc : (p.k == 2 || (p.k == 4 && decide ((p.t : Int) < (f.oids.length : Int)) || p.k == 3 && decide (512 * (p.t : Int) < (f.state.length : Int)))) = true := by
  rcases hpi with h1 | ⟨h1, h2⟩ | ⟨h1, h2⟩
  ·rw [h1]; rfl
  ·rw [h1, decide_eq_true (show 512 * (p.t : Int) < (f.state.length : Int) by unfold chunksN at h2; omega)]
   simp
  ·rw [h1, decide_eq_true (show (p.t : Int) < (f.oids.length : Int) by omega)]
   simp
 have e2 : ∀ c : Nat, (((p.k : Nat) : Int) == (c : Int)) = (p.k == c) := fun c => by
  by_cases h : p.k = c
  ·rw [h]; simp
  ·rw [(by simpa using h : (p.k == c) = false)]
   simpa using fun e : (p.k : Int) = c => h (by omega)
 have h3 : ((((p.k : Nat) : Int) == 2) || ((((p.k : Nat) : Int) == 4) && decide ((p.t : Int) < (f.oids.length : Int)) || (((p.k : Nat) : Int) == 3) && decide (512 * (p.t : Int) < (f.state.length : Int)))) = true := by
  rw [show (((p.k : Nat) : Int) == 2) = (p.k == 2) from e2 2, show (((p.k : Nat) : Int) == 4) = (p.k == 4) from e2 4, show (((p.k : Nat) : Int) == 3) = (p.k == 3) from e2 3]
  exact hc
 simp only at h
 rw [h3, hpa] at h
 simp at h

/-- the calls of the law LogsWhole -/
structure WhGo (N a o : Nat) (fa fb : FrameD) (keep : List Bool) (torn bytes s fr : Int) (t : Nat) (x1 x2 x3 x4 xc xd z z1 z2 zs zt : DiskD) (q : Int) : Prop where
 w1 : ∀ D v w, DiskAt w D (newDisk (20 + 3 * (N : Int))) → FrameIn w w.heap.size v fa → (∀ b c, (∃ x y z, v = .agg #[x, y, z, .slice b fa.state.length c]) → c ≤ maxLen) → Calls Tryz.prog 18 #[ptr D.p, .agg #[.int .i64 (N : Int)], .int .i64 (o : Int), v] w fun e w' =>
  e = .returned (.int .i64 0) ∧ ∃ D', DiskAt w' D' x1 ∧ DStep D D' w w'
 f1 : ∀ D w, DiskAt w D x1 → Calls Tryz.prog 32 #[ptr D.p] w fun e w' => e = .returned (.int .i64 0) ∧ ∃ D', DiskAt w' D' x2 ∧ DStep D D' w w'
 w2 : ∀ D v w, DiskAt w D x2 → FrameIn w w.heap.size v fb → (∀ b c, (∃ x y z, v = .agg #[x, y, z, .slice b fb.state.length c]) → c ≤ maxLen) → Calls Tryz.prog 18 #[ptr D.p, .agg #[.int .i64 (N : Int)], .int .i64 (a : Int), v] w fun e w' =>
  e = .returned (.int .i64 0) ∧ ∃ D', DiskAt w' D' x3 ∧ DStep D D' w w'
 r3 : ∀ D w, DiskAt w D x3 → Calls Tryz.prog 20 #[ptr D.p, .agg #[.int .i64 (N : Int)], .int .i64 (a : Int)] w fun e w' => ∃ v, e = .returned (.tuple #[v, .int .i64 0]) ∧ FrameFrom w.heap.size w' v fb ∧ DiskAt w' D x4 ∧ DStep D D w w'
 c1 : ∀ D v w, DiskAt w D x4 → BoolsIn w w.heap.size v keep → Calls Tryz.prog 33 #[ptr D.p, .agg #[v, .int .i64 torn, .int .i64 bytes]] w fun e w' => ∃ D2, e = .returned (.tuple #[ptr D2.p, .int .i64 0]) ∧ DiskAt w' D2 xc ∧ (∀ i, D2.has i → w.heap.size ≤ i) ∧ Below w.heap.size w w'
 rc : ∀ D w, DiskAt w D xc → Calls Tryz.prog 20 #[ptr D.p, .agg #[.int .i64 (N : Int)], .int .i64 (o : Int)] w fun e w' => ∃ v, e = .returned (.tuple #[v, .int .i64 0]) ∧ FrameFrom w.heap.size w' v fa ∧ DStep D D w w'
 f2 : ∀ D w, DiskAt w D x4 → Calls Tryz.prog 32 #[ptr D.p] w fun e w' => e = .returned (.int .i64 0) ∧ ∃ D', DiskAt w' D' xd ∧ DStep D D' w w'
 c2 : ∀ D v w, DiskAt w D xd → BoolsIn w w.heap.size v keep → Calls Tryz.prog 33 #[ptr D.p, .agg #[v, .int .i64 torn, .int .i64 bytes]] w fun e w' => ∃ D2, e = .returned (.tuple #[ptr D2.p, .int .i64 0]) ∧ DiskAt w' D2 z ∧ (∀ i, D2.has i → w.heap.size ≤ i) ∧ Below w.heap.size w w'
 rz : ∀ D w, DiskAt w D z → Calls Tryz.prog 20 #[ptr D.p, .agg #[.int .i64 (N : Int)], .int .i64 (a : Int)] w fun e w' => ∃ v, e = .returned (.tuple #[v, .int .i64 0]) ∧ FrameFrom w.heap.size w' v fb ∧ DiskAt w' D z1 ∧ DStep D D w w'
 ro : ∀ D w, DiskAt w D z1 → Calls Tryz.prog 20 #[ptr D.p, .agg #[.int .i64 (N : Int)], .int .i64 (o : Int)] w fun e w' => ∃ v, e = .returned (.tuple #[v, .int .i64 0]) ∧ FrameFrom w.heap.size w' v fa ∧ DiskAt w' D z2 ∧ DStep D D w w'
 ok2 : z2.ok
 wt2 : z2.waits = []
 bz : zs = bitsT z2 s fr t 32
 rs : ∀ D w, DiskAt w D zs → Calls Tryz.prog 20 #[ptr D.p, .agg #[.int .i64 (N : Int)], .int .i64 (a : Int)] w fun e w' => ∃ v, e = .returned (.tuple #[v, .int .i64 q]) ∧ (if q = 0 then FrameFrom w.heap.size w' v fb else v = .agg zeroF) ∧ DiskAt w' D zt ∧ DStep D D w w'
 okt : zt.ok
 eqt : readsL zt = readsL zs
 bad : wantedB N a fb s = true → readsL zs ≠ readsL z2 → q = 170
 good : (wantedB N a fb s = false ∨ readsL zs = readsL z2) → q = 0
theorem read_calls {D : DiskP} {x : DiskD} {N a : Int} {f : FrameD} {w : World} (h : DiskAt w D x) (hx : x.ok) (hst : x.steps ≤ 900000000000) (hask : askB N x.size a = true) (hr : (readR x N a).2 = 0 ∧ frameOf x N a = f) :
  Calls Tryz.prog 20 #[ptr D.p, .agg #[.int .i64 N], .int .i64 a] w fun e w' => ∃ v, e = .returned (.tuple #[v, .int .i64 0]) ∧ FrameFrom w.heap.size w' v f ∧ DiskAt w' D (x.plus (readR x N a).1) ∧ DStep D D w w' := by
 refine (lread_any D x N a w h hx hst hask).mono ?_
 rintro e w' ⟨v, y, rfl, hv, hd, rfl, hs⟩
 rw [hr.1, if_pos rfl, hr.2] at hv
 exact ⟨v, by rw [hr.1], hv, hd, hs⟩
theorem back_all {N : Nat} {f : FrameD} (hf : frameB N f = true) (hv64 : ∀ o ∈ f.objs, ∀ x ∈ o.slots, I64 x.v) (hok : ∀ o ∈ f.objs, o.ok ∧ rightsOk o) : ∀ o ∈ f.objs, BackO N o := by
 obtain ⟨hR, p1, p2, p3, p4, p5⟩ := frameB_facts hf
 intro o ho
 obtain ⟨j, hj⟩ := List.mem_iff_getElem?.1 ho
 have hjl : j < f.objs.length := by
  rcases Nat.lt_or_ge j f.objs.length with h | h
  ·exact h
  ·rw [List.getElem?_eq_none h] at hj; cases hj
 have hoid := List.getElem?_eq_getElem (l := f.oids) (i := j) (by omega)
 exact back_obj (hok o ho).1 (rows_at _ f.oids f.objs (-1) (by omega) p5 j _ o hoid hj).2.2 (hok o ho).2 (hv64 o ho)
set_option maxHeartbeats 1000000 in
theorem whGo (N a o : Nat) (hN : 1 ≤ N ∧ N ≤ 13) (hao : (a = 0 ∧ o = 1) ∨ (a = 1 ∧ o = 0)) (fa fb : FrameD) (ha : frameB N fa = true) (hb : frameB N fb = true) (hea : fa.ed ≤ 9223372036854775807) (heb : fb.ed ≤ 9223372036854775807)
  (hba : ∀ o ∈ fa.objs, BackO N o) (hbb : ∀ o ∈ fb.objs, BackO N o) (keep : List Bool) (torn bytes s fr : Int) (t : Nat) (hy0 : 0 ≤ bytes) (hy5 : bytes ≤ 512) :
  ∃ x1 x2 x3 x4 xc xd z z1 z2 zs zt q, WhGo N a o fa fb keep torn bytes s fr t x1 x2 x3 x4 xc xd z z1 z2 zs zt q := by
 have hba2 : ∀ o ∈ fa.objs, (objL o).length ≤ 508 := fun o ho => (hba o ho).2.2
 have hbb2 : ∀ o ∈ fb.objs, (objL o).length ≤ 508 := fun o ho => (hbb o ho).2.2
 have hne : a ≠ o := by omega
 have ha1 : a ≤ 1 := by omega
 have ho1 : o ≤ 1 := by omega
 have hr : rightB (N : Int) = true := by simp [rightB]; omega
 have ask : ∀ (b : Nat), b ≤ 1 → askB N (20 + 3 * (N : Int)) b = true := fun b hb => by
  unfold askB
  rw [hr, decide_eq_true (Int.le_refl _), decide_eq_true (by omega), decide_eq_true (by omega)]
  rfl
 -- the first write
 obtain ⟨x0, e0⟩ : ∃ x, x = newDisk (20 + 3 * (N : Int)) := ⟨_, rfl⟩
 have c0 : Calm x0 := by rw [e0]; exact ⟨newDisk_ok _ (by omega) (by omega), rfl, by show (0 : Int) ≤ _; omega, by show 0 ≤ _; omega⟩
 have s0 : x0.size = 20 + 3 * (N : Int) := by rw [e0]; rfl
 have w0 : x0.waits = [] := by rw [e0]; rfl
 have st0 : x0.steps = 0 := by rw [e0]; rfl
 have k0 : askB N x0.size o = true := by rw [s0]; exact ask o ho1
 obtain ⟨g1, fr1, n1, m1⟩ := read_back c0 k0 ha hea hba
 have wr1 := writes_calm2 c0 k0 ha hba2
 have go1 := writes_go c0 k0 ha hba2
 have ln1 := allSteps_len (a := o) ha
 obtain ⟨x1, e1⟩ : ∃ x, x = writesW x0 (allSteps N o fa) := ⟨_, rfl⟩
 rw [← e1] at g1 fr1 n1 m1 wr1
 have f1 : x1.fails = [] := by rw [wr1]
 have z1 : x1.size = 20 + 3 * (N : Int) := by rw [wr1]; exact s0
 have ok1 : x1.ok := by have := g1.okk 0 (by omega); rwa [plus_zero] at this
 have st1 : 0 ≤ x1.steps ∧ x1.steps ≤ 80 := by rw [wr1]; show 0 ≤ x0.steps + _ ∧ x0.steps + _ ≤ 80; omega
 -- flushed
 have er1 : x1.err 0 = 0 := by
  unfold DiskD.err
  rw [if_neg (by omega), if_neg (by rw [f1]; simp)]
 have e2 : x1.flush = x1.stepped.flushed := by unfold DiskD.flush; rw [if_neg (by rw [f1]; simp)]
 obtain ⟨x2, ex2⟩ : ∃ x, x = x1.stepped.flushed := ⟨_, rfl⟩
 have c2 : Calm x2 := by
  rw [ex2]
  exact ⟨⟨by show 1 ≤ x1.size; omega, by show x1.size ≤ 4096; omega, fun n => x1.reads_len ok1.sound n, (fun y h => by cases h), by show 0 ≤ x1.steps + 1; omega, by show x1.steps + 1 ≤ _; omega, Nat.zero_le _⟩, f1, by show x1.steps + 1 ≤ _; omega, Nat.zero_le _⟩
 have z2 : x2.size = 20 + 3 * (N : Int) := by rw [ex2]; exact z1
 have rd2 : ∀ n, x2.reads n = x1.reads n := fun n => by rw [ex2]; rfl
 have w2 : x2.waits = [] := by rw [ex2]; rfl
 have l2 : ∀ n, x2.lasts n = x1.reads n := fun n => by rw [ex2]; rfl
 have st2 : 0 ≤ x2.steps ∧ x2.steps ≤ 81 := by rw [ex2]; show 0 ≤ x1.steps + 1 ∧ x1.steps + 1 ≤ 81; omega
 have k2 : askB N x2.size a = true := by rw [z2]; exact ask a ha1
 -- the second write
 obtain ⟨g3, fr3, n3, m3⟩ := read_back c2 k2 hb heb hbb
 have wr3 := writes_calm2 c2 k2 hb hbb2
 have go3 := writes_go c2 k2 hb hbb2
 have ln3 := allSteps_len (a := a) hb
 have oth := fun n hn => reads_elsewhere c2 k2 hb hbb2 n hn
 have mem3 := fun y hy => steps_mem (N := N) hb ha1 hbb2 y hy
 obtain ⟨x3, e3⟩ : ∃ x, x = writesW x2 (allSteps N a fb) := ⟨_, rfl⟩
 rw [← e3] at g3 fr3 n3 m3 wr3 oth
 have f3 : x3.fails = [] := by rw [wr3]
 have z3 : x3.size = 20 + 3 * (N : Int) := by rw [wr3]; exact z2
 have ok3 : x3.ok := by have := g3.okk 0 (by omega); rwa [plus_zero] at this
 have st3 : 0 ≤ x3.steps ∧ x3.steps ≤ 161 := by rw [wr3]; show 0 ≤ x2.steps + _ ∧ x2.steps + _ ≤ 161; omega
 have l3 : x3.lasts = x2.lasts := by rw [wr3]
 have k3 : askB N x3.size a = true := by rw [z3]; exact ask a ha1
 have r3 : (readR x3 N a).2 = 0 ∧ frameOf x3 N a = fb := ⟨(reads_as g3 (x' := x3) rfl f3 (fun _ _ _ => rfl)).1, fr3⟩
 have b3 := readR_le x3 N a (by omega)
 have far : ∀ q : Place, q.ok N → q.a = o → ∀ p : Place, p.ok N → p.a = a → ((q.sec N : Nat) : Int) ≠ ((p.sec N : Nat) : Int) := fun q hq hqa p hp hpa e => by
  have := (Place.sec_inj hq hp (by omega)).2.1
  omega
 have rdo : ∀ q : Place, q.ok N → q.a = o → x3.reads ((q.sec N : Nat) : Int) = x1.reads ((q.sec N : Nat) : Int) := fun q hq hqa => by
  rw [oth _ (fun p hp hpa => far q hq hqa p hp hpa), rd2]
 obtain ⟨x4, e4⟩ : ∃ x, x = x3.plus (readR x3 N a).1 := ⟨_, rfl⟩
 have ok4 : x4.ok := by rw [e4]; exact g3.okk _ (by omega)
 have st4 : 0 ≤ x4.steps ∧ x4.steps ≤ 300 := by rw [e4]; show 0 ≤ x3.steps + ((readR x3 N a).1 : Int) ∧ x3.steps + ((readR x3 N a).1 : Int) ≤ 300; omega
 have f4 : x4.fails = [] := by rw [e4]; exact f3
 have z4 : x4.size = 20 + 3 * (N : Int) := by rw [e4]; exact z3
 have er4 : x4.err 0 = 0 := by
  unfold DiskD.err
  rw [if_neg (by omega), if_neg (by rw [f4]; simp)]
 -- the crash, the area that was written first
 obtain ⟨xc, ec⟩ : ∃ x, x = x4.crash keep torn bytes := ⟨_, rfl⟩
 have okc : xc.ok := by rw [ec]; exact DiskD.crash_ok ok4 _ _ _
 have zc : xc.size = 20 + 3 * (N : Int) := by rw [ec]; exact z4
 have rc : (readR xc N o).2 = 0 ∧ frameOf xc N o = fa := by
  have h := reads_as g1 (x' := xc) (by rw [zc, z1]) (by rw [ec]; rfl) (fun q hq hqa => by
   rw [reads_nil (by rw [ec]; rfl), ec]
   show crashL _ x4.lasts x4.waits 0 _ = _
   rw [crashL_other, e4]
   ·show x3.lasts _ = _
    rw [l3, l2]
   ·intro y hy
    rw [e4] at hy
    have hy : y ∈ x3.waits := hy
    rw [wr3] at hy
    have hy : y ∈ x2.waits ++ (allSteps N a fb).map (·.1) := hy
    rw [w2, List.nil_append] at hy
    obtain ⟨y', hy', rfl⟩ := List.mem_map.1 hy
    obtain ⟨p, hp, hpa, e⟩ := mem3 y' hy'
    rw [e]
    exact fun e => far q hq hqa p hp hpa e.symm)
  rwa [fr1] at h
 -- flushed, crashed
 have e5 : x4.flush = x4.stepped.flushed := by unfold DiskD.flush; rw [if_neg (by rw [f4]; simp)]
 obtain ⟨xd, ed⟩ : ∃ x, x = x4.stepped.flushed := ⟨_, rfl⟩
 have okd : xd.ok := by
  rw [ed]
  exact ⟨by show 1 ≤ x4.size; omega, by show x4.size ≤ 4096; omega, fun n => x4.reads_len ok4.sound n, (fun y h => by cases h), by show 0 ≤ x4.steps + 1; omega, by show x4.steps + 1 ≤ _; omega, Nat.zero_le _⟩
 obtain ⟨z, ez⟩ : ∃ x, x = xd.crash keep torn bytes := ⟨_, rfl⟩
 have okz : z.ok := by rw [ez]; exact DiskD.crash_ok okd _ _ _
 have zz : z.size = 20 + 3 * (N : Int) := by rw [ez, ed]; exact z4
 have fz : z.fails = [] := by rw [ez]; rfl
 have wz : z.waits = [] := by rw [ez]; rfl
 have stz : z.steps = 0 := by rw [ez]; rfl
 have rdz : ∀ n, z.reads n = x3.reads n := fun n => by
  rw [reads_nil wz, ez, ed, e4]
  rfl
 have rz := reads_as g3 (x' := z) (by rw [zz, z3]) fz (fun p _ _ => rdz _)
 rw [fr3] at rz
 have bz := readR_le z N a (by omega)
 obtain ⟨y1, ey1⟩ : ∃ x, x = z.plus (readR z N a).1 := ⟨_, rfl⟩
 have oky1 : y1.ok := by rw [ey1]; exact plus_ok okz (by omega) _ (by omega)
 have sty1 : y1.steps ≤ 100 := by rw [ey1]; show z.steps + ((readR z N a).1 : Int) ≤ 100; omega
 have ro := reads_as g1 (x' := y1) (by rw [ey1]; show z.size = _; rw [zz, z1]) (by rw [ey1]; exact fz) (fun q hq hqa => by rw [ey1]; show z.reads _ = _; rw [rdz, rdo q hq hqa])
 rw [fr1] at ro
 have bo := readR_le y1 N o (by omega)
 obtain ⟨y2, ey2⟩ : ∃ x, x = y1.plus (readR y1 N o).1 := ⟨_, rfl⟩
 have oky2 : y2.ok := by rw [ey2]; exact plus_ok oky1 (by omega) _ (by omega)
 have sty2 : y2.steps ≤ 200 := by rw [ey2]; show y1.steps + ((readR y1 N o).1 : Int) ≤ 200; omega
 have wy2 : y2.waits = [] := by rw [ey2, ey1]; exact wz
 have fy2 : y2.fails = [] := by rw [ey2, ey1]; exact fz
 have zy2 : y2.size = 20 + 3 * (N : Int) := by rw [ey2, ey1]; exact zz
 have rdy : ∀ n, y2.reads n = x3.reads n := fun n => by rw [ey2, ey1]; exact rdz n
 -- bits
 obtain ⟨t1, t2, t3⟩ := bitsT_reads oky2 wy2 s fr t
 have t4 := bitsT_bytes oky2 wy2 s fr t
 have okb := bitsT_ok oky2 s fr t 32
 have szb := bitsT_size y2 s fr t 32
 have fzb := (bitsT_facts oky2 wy2 s fr t 32).2.1
 obtain ⟨zs, es⟩ : ∃ x, x = bitsT y2 s fr t 32 := ⟨_, rfl⟩
 rw [← es] at t1 t2 t3 t4 okb szb fzb
 have bs := readR_le zs N a (by omega)
 have hsx : zs.size = x3.size := by rw [szb.1, zy2, z3]
 have hfx : zs.fails = [] := by rw [fzb, fy2]
 have same : (∀ p : Place, p.ok N → p.a = a → placeIn fb p → zs.reads ((p.sec N : Nat) : Int) = x3.reads ((p.sec N : Nat) : Int)) → (readR zs N a).2 = 0 ∧ frameOf zs N a = fb := fun h => reads_own g3 fr3 (by rw [n3]; exact (frameB_facts hb).2.2.1) m3 hsx hfx h
 have good : (wantedB N a fb s = false ∨ readsL zs = readsL y2) → (readR zs N a).2 = 0 ∧ frameOf zs N a = fb := fun h => same (fun p hp hpa hpi => by
  rw [← rdy]
  rcases h with h | h
  ·exact t1 _ (fun e => wanted_no hb h p hp hpa hpi e.symm)
  ·by_cases e : ((p.sec N : Nat) : Int) = s
   ·rw [e]; exact t4.1 h
   ·exact t1 _ e)
 have bad : wantedB N a fb s = true → readsL zs ≠ readsL y2 → (readR zs N a).2 = 170 := fun h hd => by
  obtain ⟨p, hp, hpa, hpi, rfl⟩ := wanted_yes ⟨hN.1, by omega⟩ ha1 hb h
  have hbu := t3 (fun e => hd (t4.2 e))
  rw [rdy] at hbu
  exact reads_burst g3 (by rw [n3]; exact (frameB_facts hb).2.2.1) m3 hsx hfx p hp hpa hpi hbu (fun q hq hqp => by rw [t1 _ (fun e => hqp (by omega)), rdy])
 have hzs : (readR zs N a).2 = 0 → frameOf zs N a = fb := fun h => by
  by_cases hw : wantedB N a fb s = false ∨ readsL zs = readsL y2
  ·exact (good hw).2
  ·have h1 := bad (by cases hq : wantedB N a fb s with | true => rfl | false => exact absurd (.inl hq) hw) (fun e => hw (.inr e))
   rw [h1] at h
   cases h
 refine ⟨x1, x2, x3, x4, xc, xd, z, y1, y2, zs, zs.plus (readR zs N a).1, (readR zs N a).2, ⟨?_, ?_, ?_, ?_, ?_, ?_, ?_, ?_, ?_, ?_, oky2, wy2, es, ?_, plus_ok okb (by rw [szb.2]; omega) _ (by omega), rfl, bad, fun h => (good h).1⟩⟩
 ·intro D v w hd hv hc
  rw [← e0] at hd
  rw [e1]
  exact callsIn_wide.1 (lwrite_in 6 (Nat.le_refl _) D x0 N o fa v w hd c0.ok hv k0 ha hea hc go1)
 ·intro D w hd
  refine (dflush_any D x1 w hd ok1 (by omega)).mono ?_
  rintro e w' ⟨rfl, D', h1, h2⟩
  rw [e2, ← ex2] at h1
  exact ⟨by rw [er1], D', h1, h2⟩
 ·intro D v w hd hv hc
  rw [e3]
  exact callsIn_wide.1 (lwrite_in 6 (Nat.le_refl _) D x2 N a fb v w hd c2.ok hv k2 hb heb hc go3)
 ·intro D w hd
  rw [e4]
  exact read_calls hd ok3 (by omega) k3 r3
 ·intro D v w hd hv
  rw [ec]
  exact dcrash_any D x4 v keep torn bytes w hd ok4 hv hy0 hy5
 ·intro D w hd
  refine (read_calls hd okc (by rw [ec]; show (0 : Int) ≤ _; omega) (by rw [zc]; exact ask o ho1) rc).mono ?_
  rintro e w' ⟨v, h1, h2, _, h3⟩
  exact ⟨v, h1, h2, h3⟩
 ·intro D w hd
  refine (dflush_any D x4 w hd ok4 (by omega)).mono ?_
  rintro e w' ⟨rfl, D', h1, h2⟩
  rw [e5, ← ed] at h1
  exact ⟨by rw [er4], D', h1, h2⟩
 ·intro D v w hd hv
  rw [ez]
  exact dcrash_any D xd v keep torn bytes w hd okd hv hy0 hy5
 ·intro D w hd
  rw [ey1]
  exact read_calls hd okz (by omega) (by rw [zz]; exact ask a ha1) rz
 ·intro D w hd
  rw [ey2]
  exact read_calls hd oky1 (by omega) (by rw [ey1]; show askB N z.size o = true; rw [zz]; exact ask o ho1) ro
 ·intro D w hd
  refine (lread_any D zs N a w hd okb (by rw [szb.2]; omega) (by rw [hsx, z3]; exact ask a ha1)).mono ?_
  rintro e w' ⟨v, y, rfl, hv, hd', rfl, hs'⟩
  refine ⟨v, rfl, ?_, hd', hs'⟩
  by_cases h0 : (readR zs N a).2 = 0
  ·rw [if_pos h0] at hv ⊢
   rwa [hzs h0] at hv
  ·rw [if_neg h0] at hv ⊢
   exact hv
end Go.Proofs.YtdpniceapmikpaaGreat
