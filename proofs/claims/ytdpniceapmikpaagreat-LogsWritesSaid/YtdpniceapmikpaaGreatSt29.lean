/-
  A frame that is written on a disk none of whose steps fail is there: plain laws.
  The disk of noughts that LogsStates and LogsObjects begin with: plain facts.
-/
import Derived.Test.YtdpniceapmikpaaGreatSt26
import Derived.Test.YtdpniceapmikpaaGreatSt28
set_option linter.unusedVariables false
set_option linter.unusedSimpArgs false
namespace Go.Proofs.YtdpniceapmikpaaGreat
open Go.RowKit

/-- an object that its sector brings back -/
def BackO (N : Int) (o : ObjD) : Prop := getE (sectorL (objL o)) N = 0 ∧ objOf (padL (objL o)) = o ∧ (objL o).length ≤ 508
/-- what is at a place of an area that has the frame -/
def placeB (f : FrameD) (p : Place) : List UInt8 :=
 if p.k = 2 then sectorL (headL f) else if p.k = 3 then layL sector0 (chunkL f.state p.t) else sectorL (objL (f.objs.getD p.t objZ))
def placeIn (f : FrameD) (p : Place) : Prop := p.k = 2 ∨ (p.k = 3 ∧ p.t < chunksN f.state.length) ∨ (p.k = 4 ∧ p.t < f.objs.length)
section
variable {N a : Nat} {f : FrameD}
theorem chunks_le (h : frameB N f = true) : chunksN f.state.length ≤ 8 := by
 have := (frameB_facts h).2.2.2.2.1
 unfold chunksN
 omega
theorem steps_mem (h : frameB N f = true) (ha : a ≤ 1) (hb : ∀ o ∈ f.objs, (objL o).length ≤ 508) (y : WaitS) (hy : y ∈ allSteps N a f) : ∃ p : Place, p.ok N ∧ p.a = a ∧ y.1 = ⟨((p.sec N : Nat) : Int), placeB f p⟩ := by
 obtain ⟨h0, h1, h2, h3, h4, h5⟩ := frameB_facts h
 have hN := right_le h0
 have hN' : 1 ≤ N ∧ N ≤ 64 := by omega
 have hc := chunks_le h
 unfold allSteps at hy
 rcases List.mem_append.1 hy with hy | hy
 ·rcases List.mem_append.1 hy with hy | hy
  ·unfold objSteps at hy
   obtain ⟨⟨o, i⟩, hoi, rfl⟩ := List.mem_map.1 hy
   have hi := List.mem_zipIdx_iff_getElem?.1 hoi
   have hil : i < f.objs.length := by
    rcases Nat.lt_or_ge i f.objs.length with hh | hh
    ·exact hh
    ·simp only at hi; rw [List.getElem?_eq_none hh] at hi; cases hi
   have hp : Place.ok N ⟨4, a, i⟩ := ⟨ha, .inr (.inr ⟨rfl, by show i < N; omega⟩)⟩
   refine ⟨⟨4, a, i⟩, hp, rfl, ?_⟩
   have e : sectorN N 4 a i = (((Place.sec N ⟨4, a, i⟩ : Nat) : Int), 0) := sectorN_place N ⟨4, a, i⟩ hN' hp
   simp only at hi
   unfold stepL
   simp only
   rw [e]
   unfold placeB
   rw [if_neg (show ¬ (4 : Nat) = 2 by decide), if_neg (show ¬ (4 : Nat) = 3 by decide), List.getD_eq_getElem?_getD, hi]
   rw [secS_val _ (sectorL_len _ (hb o (List.mem_of_getElem? hi)))]
   rfl
  ·obtain ⟨q, hq, rfl⟩ := List.mem_map.1 hy
   unfold partL at hq
   obtain ⟨i, hi, rfl⟩ := List.mem_map.1 hq
   have hi := List.mem_range.1 hi
   have hp : Place.ok N ⟨3, a, i⟩ := ⟨ha, .inr (.inl ⟨rfl, by show i < 8; omega⟩)⟩
   refine ⟨⟨3, a, i⟩, hp, rfl, ?_⟩
   have e : sectorN N 3 a i = (((Place.sec N ⟨3, a, i⟩ : Nat) : Int), 0) := sectorN_place N ⟨3, a, i⟩ hN' hp
   unfold stepL
   simp only
   rw [mkIdx_val i (by omega), e]
   rfl
 ·obtain rfl : y = stepL N 2 a 0 (secS (sectorL (headL f))) := by simpa using hy
  have hp : Place.ok N ⟨2, a, 0⟩ := ⟨ha, .inl ⟨rfl, rfl⟩⟩
  refine ⟨⟨2, a, 0⟩, hp, rfl, ?_⟩
  have e := sectorN_place N ⟨2, a, 0⟩ hN' hp
  simp only at e
  unfold stepL
  simp only
  have e2 : sectorN N 2 a 0 = (((Place.sec N ⟨2, a, 0⟩ : Nat) : Int), 0) := e
  rw [e2, secS_val _ (sectorL_len _ (headL_len h).2)]
  rfl
theorem steps_has (h : frameB N f = true) (ha : a ≤ 1) (hb : ∀ o ∈ f.objs, (objL o).length ≤ 508) (p : Place) (hp : p.ok N) (hpa : p.a = a) (hi : placeIn f p) : (⟨((p.sec N : Nat) : Int), placeB f p⟩ : WaitD) ∈ (allSteps N a f).map (·.1) := by
 obtain ⟨h0, h1, h2, h3, h4, h5⟩ := frameB_facts h
 have hN := right_le h0
 have hN' : 1 ≤ N ∧ N ≤ 64 := by omega
 have hc := chunks_le h
 have e := sectorN_place N p hN' hp
 obtain ⟨k, a', t⟩ := p
 subst hpa
 unfold placeIn at hi
 unfold allSteps
 rw [List.map_append, List.map_append]
 rcases hi with hk | ⟨hk, ht⟩ | ⟨hk, ht⟩
 ·simp only at hk
  subst hk
  have ht : t = 0 := by
   have := hp.2
   simp only at this
   omega
  subst ht
  refine List.mem_append.2 (.inr ?_)
  rw [List.map_cons, List.map_nil, List.mem_singleton]
  unfold stepL
  simp only
  have e2 : sectorN N 2 a' 0 = (((Place.sec N ⟨2, a', 0⟩ : Nat) : Int), 0) := e
  rw [e2, secS_val _ (sectorL_len _ (headL_len h).2)]
  rfl
 ·simp only at hk
  subst hk
  refine List.mem_append.2 (.inl (List.mem_append.2 (.inr ?_)))
  rw [List.map_map]
  refine List.mem_map.2 ⟨(mkIdx t, secOf f.state t), ?_, ?_⟩
  ·unfold partL
   exact List.mem_map.2 ⟨t, List.mem_range.2 ht, rfl⟩
  ·simp only at ht
   show (⟨(sectorN N 3 a' (mkIdx t).1).1, (secOf f.state t).1⟩ : WaitD) = _
   rw [mkIdx_val t (by omega)]
   have e2 : sectorN N 3 a' t = (((Place.sec N ⟨3, a', t⟩ : Nat) : Int), 0) := e
   rw [e2]
   rfl
 ·simp only at hk
  subst hk
  simp only at ht
  refine List.mem_append.2 (.inl (List.mem_append.2 (.inl ?_)))
  unfold objSteps
  rw [List.map_map]
  refine List.mem_map.2 ⟨(f.objs[t], t), List.mem_zipIdx_iff_getElem?.2 (List.getElem?_eq_getElem ht), ?_⟩
  show (⟨(sectorN N 4 a' t).1, (secS (sectorL (objL f.objs[t]))).1⟩ : WaitD) = _
  have e2 : sectorN N 4 a' t = (((Place.sec N ⟨4, a', t⟩ : Nat) : Int), 0) := e
  rw [e2, secS_val _ (sectorL_len _ (hb _ (List.getElem_mem ht)))]
  unfold placeB
  simp only
  rw [if_neg (by decide), if_neg (by decide), List.getD_eq_getElem?_getD, List.getElem?_eq_getElem ht]
  rfl
theorem allSteps_len (h : frameB N f = true) : (allSteps N a f).length ≤ 80 := by
 obtain ⟨h0, h1, h2, h3, h4, h5⟩ := frameB_facts h
 have hN := right_le h0
 have hc := chunks_le h
 unfold allSteps objSteps partL
 simp only [List.length_append, List.length_map, List.length_zipIdx, List.length_range, List.length_cons, List.length_nil]
 omega
theorem askB_facts {size : Int} (h : askB N size a = true) : 1 ≤ N ∧ N ≤ 64 ∧ 20 + 3 * (N : Int) ≤ size ∧ a ≤ 1 := by
 unfold askB rightB at h
 simp only [Bool.and_eq_true, decide_eq_true_eq] at h
 omega
variable {x : DiskD}
/-- the disk behind a frame's writes -/
theorem writes_calm2 (hx : Calm x) (hask : askB N x.size a = true) (h : frameB N f = true) (hb : ∀ o ∈ f.objs, (objL o).length ≤ 508) :
  writesW x (allSteps N a f) = ⟨x.size, x.lasts, x.waits ++ (allSteps N a f).map (·.1), x.steps + (allSteps N a f).length, []⟩ := by
 obtain ⟨h1, h2, h3, h4⟩ := askB_facts hask
 refine writes_calm _ _ hx.fails (fun y hy => ?_)
 obtain ⟨p, hp, _, e⟩ := steps_mem h h4 hb y hy
 have := Place.sec_lt hp
 rw [e]
 show (0 : Int) ≤ ((p.sec N : Nat) : Int) ∧ ((p.sec N : Nat) : Int) < x.size
 omega
theorem writes_go (hx : Calm x) (hask : askB N x.size a = true) (h : frameB N f = true) (hb : ∀ o ∈ f.objs, (objL o).length ≤ 508) (k : Nat) (y : WaitS) (hy : (allSteps N a f)[k]? = some y) :
  (writesW x ((allSteps N a f).take k)).ok ∧ (writesW x ((allSteps N a f).take k)).err y.1.n = 0 := by
 obtain ⟨h1, h2, h3, h4⟩ := askB_facts hask
 have hin : ∀ y ∈ allSteps N a f, 0 ≤ y.1.n ∧ y.1.n < x.size := fun y hy => by
  obtain ⟨p, hp, _, e⟩ := steps_mem h h4 hb y hy
  have := Place.sec_lt hp
  rw [e]
  show (0 : Int) ≤ ((p.sec N : Nat) : Int) ∧ ((p.sec N : Nat) : Int) < x.size
  omega
 rw [writes_calm _ _ hx.fails (fun y hy => hin y (List.mem_of_mem_take hy))]
 have hl := allSteps_len (a := a) h
 have hok := hx.ok
 have hs := hx.steps
 have hw := hx.waits
 constructor
 ·refine ⟨hok.1, hok.2.1, hok.2.2.1, ?_, ?_, ?_, ?_⟩
  ·intro z hz
   rcases List.mem_append.1 hz with hz | hz
   ·exact hok.2.2.2.1 z hz
   ·obtain ⟨q, _, rfl⟩ := List.mem_map.1 hz
    exact q.2
  ·have := hok.2.2.2.2.1
   show 0 ≤ x.steps + ((List.take k (allSteps N a f)).length : Int)
   omega
  ·show x.steps + ((List.take k (allSteps N a f)).length : Int) ≤ 1000000000000
   rw [List.length_take]; omega
  ·show (x.waits ++ ((allSteps N a f).take k).map (·.1)).length ≤ 1000000
   rw [List.length_append, List.length_map, List.length_take]; omega
 ·have := hin y (List.mem_of_getElem? hy)
  unfold DiskD.err
  simp only
  rw [if_neg (by omega), if_neg (by simp)]
/-- what is read at a place of a frame that is written -/
theorem reads_place (hx : Calm x) (hask : askB N x.size a = true) (h : frameB N f = true) (hb : ∀ o ∈ f.objs, (objL o).length ≤ 508) (p : Place) (hp : p.ok N) (hpa : p.a = a) (hi : placeIn f p) :
  (writesW x (allSteps N a f)).reads (sectorN N p.k a p.t).1 = placeB f p := by
 obtain ⟨h1, h2, h3, h4⟩ := askB_facts hask
 have e := sectorN_place N p ⟨h1, h2⟩ hp
 rw [hpa] at e
 rw [writes_calm2 hx hask h hb, e]
 refine reads_last _ _ _ (⟨((p.sec N : Nat) : Int), placeB f p⟩ : WaitD) (steps_has h h4 hb p hp hpa hi) (fun z hz hn => ?_)
 obtain ⟨y, hy, rfl⟩ := List.mem_map.1 hz
 obtain ⟨q, hq, hqa, e2⟩ := steps_mem h h4 hb y hy
 rw [e2] at hn ⊢
 have hn : q.sec N = p.sec N := by have h : ((q.sec N : Nat) : Int) = ((p.sec N : Nat) : Int) := hn; omega
 obtain ⟨i1, i2, i3⟩ := Place.sec_inj hq hp hn
 have : q = p := by cases q; cases p; simp_all
 rw [this]
theorem chunk_zeros (st : List UInt8) (i : Nat) : ((layL sector0 (chunkL st i)).drop (st.length - 512 * i)).all (· == 0) = true := by
 unfold layL
 have hl : (chunkL st i).length = min 512 (st.length - 512 * i) := by unfold chunkL; rw [List.length_take, List.length_drop]
 rw [List.drop_append, List.all_append]
 have e1 : (chunkL st i).drop (st.length - 512 * i) = [] := List.drop_eq_nil_of_le (by omega)
 rw [e1]
 unfold sector0
 rw [List.drop_replicate, List.drop_replicate]
 simp
theorem chunk_at (st : List UInt8) (p : Nat) (hp : p < st.length) : (layL sector0 (chunkL st (p / 512)))[p % 512]?.getD 0 = st[p] := by
 unfold layL
 have hl : (chunkL st (p / 512)).length = min 512 (st.length - 512 * (p / 512)) := by unfold chunkL; rw [List.length_take, List.length_drop]
 rw [List.getElem?_append_left (by rw [hl]; omega)]
 unfold chunkL
 rw [List.getElem?_take, if_pos (by omega), List.getElem?_drop, show 512 * (p / 512) + p % 512 = p by omega, List.getElem?_eq_getElem hp]
 rfl
/-- a frame that is written is there -/
theorem read_back (hx : Calm x) (hask : askB N x.size a = true) (h : frameB N f = true) (hed : f.ed ≤ 9223372036854775807) (hb : ∀ o ∈ f.objs, BackO N o) :
  ReadGo (writesW x (allSteps N a f)) N a ∧ frameOf (writesW x (allSteps N a f)) N a = f ∧ numAt (headS (writesW x (allSteps N a f)) N a) 12 2 = f.oids.length ∧ numAt (headS (writesW x (allSteps N a f)) N a) 14 2 = f.state.length := by
 have hb2 : ∀ o ∈ f.objs, (objL o).length ≤ 508 := fun o ho => (hb o ho).2.2
 obtain ⟨h1, h2, h3, h4⟩ := askB_facts hask
 obtain ⟨f0, f1, f2, f3, f4, f5⟩ := frameB_facts h
 obtain ⟨hl, hl2⟩ := headL_len h
 have hc := chunks_le h
 have hst := allSteps_len (a := a) h
 have eH : headS (writesW x (allSteps N a f)) N a = sectorL (headL f) := reads_place hx hask h hb2 ⟨2, a, 0⟩ ⟨h4, .inl ⟨rfl, rfl⟩⟩ rfl (.inl rfl)
 have eO : ∀ i, i < f.objs.length → objS (writesW x (allSteps N a f)) N a i = sectorL (objL (f.objs.getD i objZ)) := fun i hi => reads_place hx hask h hb2 ⟨4, a, i⟩ ⟨h4, .inr (.inr ⟨rfl, by show i < N; omega⟩)⟩ rfl (.inr (.inr ⟨rfl, hi⟩))
 have eP : ∀ i, i < chunksN f.state.length → partS (writesW x (allSteps N a f)) N a i = layL sector0 (chunkL f.state i) := fun i hi => reads_place hx hask h hb2 ⟨3, a, i⟩ ⟨h4, .inr (.inl ⟨rfl, by show i < 8; omega⟩)⟩ rfl (.inr (.inl ⟨rfl, hi⟩))
 have hsz : (writesW x (allSteps N a f)).size = x.size := by rw [writes_calm2 hx hask h hb2]
 have hfl : (writesW x (allSteps N a f)).fails = [] := by rw [writes_calm2 hx hask h hb2]
 have hcalm : ∀ k : Nat, k ≤ 80 → Calm ((writesW x (allSteps N a f)).plus k) ∨ True := fun _ _ => .inr trivial
 have hok : ∀ k : Nat, k ≤ 80 → ((writesW x (allSteps N a f)).plus k).ok := by
  intro k hk
  rw [writes_calm2 hx hask h hb2]
  have hok := hx.ok
  have hs := hx.steps
  have hw := hx.waits
  refine ⟨hok.1, hok.2.1, hok.2.2.1, ?_, ?_, ?_, ?_⟩
  ·intro z hz
   rcases List.mem_append.1 hz with hz | hz
   ·exact hok.2.2.2.1 z hz
   ·obtain ⟨q, _, rfl⟩ := List.mem_map.1 hz
    exact q.2
  ·have := hok.2.2.2.2.1
   show 0 ≤ x.steps + ((allSteps N a f).length : Int) + (k : Int)
   omega
  ·show x.steps + ((allSteps N a f).length : Int) + (k : Int) ≤ 1000000000000
   omega
  ·show (x.waits ++ (allSteps N a f).map (·.1)).length ≤ 1000000
   rw [List.length_append, List.length_map]; omega
 have herr : ∀ (k : Nat) (p : Place), p.ok N → p.a = a → ((writesW x (allSteps N a f)).plus k).err (sectorN N p.k a p.t).1 = 0 := by
  intro k p hp hpa
  have e := sectorN_place N p ⟨h1, h2⟩ hp
  rw [hpa] at e
  rw [e]
  have := Place.sec_lt hp
  unfold DiskD.err DiskD.plus
  simp only
  rw [hsz, hfl, if_neg (by omega), if_neg (by simp)]
 have e := sectorL_parts (headL f)
 obtain ⟨T, eT⟩ : ∃ T, T = List.replicate (508 - (headL f).length) 0 ++ leB (crcW (padL (headL f))).toNat 4 := ⟨_, rfl⟩
 rw [← eT] at e
 obtain ⟨a1, a2, a3, a4, a5⟩ := head_nums h hed T
 have hrow := head_row h T
 rw [← e] at a1 a2 a3 a4 a5 hrow
 have eF : frameOf (writesW x (allSteps N a f)) N a = f := by
  unfold frameOf
  rw [eH, a2, a3, a4]
  have q1 : (List.range f.oids.length).map (fun i => (numAt (sectorL (headL f)) (20 + 6 * i) 2 : Int)) = f.oids := by
   apply List.ext_getElem?
   intro i
   rw [List.getElem?_map]
   by_cases hi : i < f.oids.length
   ·rw [List.getElem?_range hi, List.getElem?_eq_getElem hi]
    have := (hrow i f.oids[i] (f.objs[i]'(by omega)) (List.getElem?_eq_getElem hi) (List.getElem?_eq_getElem (by omega))).1
    simp only [Option.map_some]
    rw [this]
   ·rw [List.getElem?_eq_none (by simp; omega), List.getElem?_eq_none (by omega)]; rfl
  have q2 : (List.range f.oids.length).map (fun i => objOf ((objS (writesW x (allSteps N a f)) N a i).take 508)) = f.objs := by
   apply List.ext_getElem?
   intro i
   rw [List.getElem?_map]
   by_cases hi : i < f.oids.length
   ·have hi2 : i < f.objs.length := by omega
    rw [List.getElem?_range hi, List.getElem?_eq_getElem hi2]
    simp only [Option.map_some]
    rw [eO i hi2, List.getD_eq_getElem?_getD, List.getElem?_eq_getElem hi2]
    have := hb f.objs[i] (List.getElem_mem hi2)
    simp only [Option.getD_some]
    rw [sectorL_take _ this.2.2, this.2.1]
   ·rw [List.getElem?_eq_none (by simp; omega), List.getElem?_eq_none (by omega)]; rfl
  have q3 : stateOf (writesW x (allSteps N a f)) N a f.state.length = f.state := by
   unfold stateOf
   apply List.ext_getElem?
   intro i
   rw [List.getElem?_map]
   by_cases hi : i < f.state.length
   ·rw [List.getElem?_range hi, List.getElem?_eq_getElem hi]
    simp only [Option.map_some]
    congr 1
    unfold byteOf
    rw [eP (i / 512) (by unfold chunksN; omega), chunk_at _ _ hi]
   ·rw [List.getElem?_eq_none (by simp; omega), List.getElem?_eq_none (by omega)]; rfl
  rw [q1, q2, q3]
 refine ⟨⟨by rw [hsz]; exact hask, hok, ?_, ?_, ?_, by rw [eH]; exact head_written h hed, ?_, ?_, ?_⟩, eF, by rw [eH, a3], by rw [eH, a4]⟩
 ·have := herr 0 ⟨2, a, 0⟩ ⟨h4, .inl ⟨rfl, rfl⟩⟩ rfl
  rw [plus_zero] at this
  exact this
 ·intro i k hi _
  rw [eH, a3] at hi
  exact herr k ⟨4, a, i⟩ ⟨h4, .inr (.inr ⟨rfl, by show i < N; omega⟩)⟩ rfl
 ·intro i k hi _
  rw [eH, a4] at hi
  exact herr k ⟨3, a, i⟩ ⟨h4, .inr (.inl ⟨rfl, by show i < 8; omega⟩)⟩ rfl
 ·intro i hi
  rw [eH, a3] at hi
  have hi2 : i < f.objs.length := by omega
  have hbi := hb f.objs[i] (List.getElem_mem hi2)
  rw [eO i hi2, eH, (hrow i f.oids[i] f.objs[i] (List.getElem?_eq_getElem hi) (List.getElem?_eq_getElem hi2)).2, List.getD_eq_getElem?_getD, List.getElem?_eq_getElem hi2]
  simp only [Option.getD_some]
  rw [sectorL_take _ hbi.2.2]
  exact ⟨hbi.1, rfl⟩
 ·intro i hi
  rw [eH, a4] at hi ⊢
  rw [eP i hi]
  exact chunk_zeros _ _
 ·rw [eF, eH, a5]
end
end Go.Proofs.YtdpniceapmikpaaGreat
namespace Go.Proofs.YtdpniceapmikpaaGreat
open Go.RowKit

theorem madeL_none (s : Nat) : madeL s [] = List.replicate (512 * s) 0 := by
 unfold madeL
 rw [madeTo_none, madeTo_zero]
def blank32 : DiskD := ofDisk 32 (madeL 32 [])
theorem blank_lasts (n : Int) : blank32.lasts n = sector0 := by
 show (if 0 ≤ n ∧ n < ((32 : Nat) : Int) then ((madeL 32 []).drop (512 * n.toNat)).take 512 else sector0) = sector0
 split
 ·rename_i h
  rw [madeL_none, List.drop_replicate, List.take_replicate]
  unfold sector0
  congr 1
  omega
 ·rfl
theorem blank_reads (n : Int) : blank32.reads n = sector0 := by
 unfold DiskD.reads
 have h : blank32.waits = [] := rfl
 rw [h]
 exact blank_lasts n
theorem blank_calm : Calm blank32 := ⟨ofDisk_ok 32 _ (madeTo_len 32 [] _) (by decide) (by decide), rfl, by show (0 : Int) ≤ _; omega, by show 0 ≤ _; omega⟩
theorem blank_inR : blank32.inR := fun y hy => by cases hy
theorem blank_none : headB 4 sector0 = false := by decide +kernel
theorem blank_num : numAt sector0 12 2 = 0 := by decide +kernel
end Go.Proofs.YtdpniceapmikpaaGreat
