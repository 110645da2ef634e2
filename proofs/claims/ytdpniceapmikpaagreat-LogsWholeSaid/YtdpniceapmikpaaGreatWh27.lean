/-
  What is written of a frame on a disk none of whose steps fail, and what is read of it: plain laws.
  A frame that is written on a disk none of whose steps fail is there: plain laws.
  Maps with integer keys from which entries may be deleted: known whole; look-up, store, delete.
-/
import Derived.Test.YtdpniceapmikpaaGreatWh10
import Derived.Test.YtdpniceapmikpaaGreatWh22
import Derived.Test.YtdpniceapmikpaaGreatWh26
set_option linter.unusedVariables false
set_option linter.unusedSimpArgs false
namespace Go.Proofs.YtdpniceapmikpaaGreat
open Go.RowKit

/-- the program's sector of a place that there is -/
theorem sectorN_place (N : Nat) (p : Place) (hN : 1 ≤ N ∧ N ≤ 64) (h : p.ok N) : sectorN N p.k p.a p.t = (((p.sec N : Nat) : Int), 0) := by
  have hr : rightB (N : Int) = true := by simp [rightB]; omega
  obtain ⟨k, a, t⟩ := p
  obtain ⟨ha, h⟩ := h
  simp only at ha h ⊢
  have ha2 : a = 0 ∨ a = 1 := by omega
  unfold sectorN Place.sec
  rw [hr]
  rcases ha2 with rfl | rfl <;> rcases h with ⟨rfl, rfl⟩ | ⟨rfl, h⟩ | ⟨rfl, h⟩
  all_goals
    simp [partsL, psAt, nAt, isPart]
    try first
      | omega
      | (rw [if_neg (by omega), Prod.mk.injEq]; omega)
theorem Place.sec_inj {N : Nat} {p q : Place} (hp : p.ok N) (hq : q.ok N) (h : p.sec N = q.sec N) : p.k = q.k ∧ p.a = q.a ∧ p.t = q.t := by
  have h1 := Place.at_sec hp
  rw [h, Place.at_sec hq] at h1
  injection h1 with h1 h2 h3
  omega
/-- a disk none of whose steps fail, with room -/
structure Calm (x : DiskD) : Prop where
  ok : x.ok
  fails : x.fails = []
  steps : x.steps ≤ 999999999000
  waits : x.waits.length ≤ 999000
theorem Calm.err {x : DiskD} (h : Calm x) {n : Int} (h0 : 0 ≤ n) (h1 : n < x.size) : x.err n = 0 := by
  unfold DiskD.err
  rw [if_neg (by omega), if_neg (by rw [h.fails]; simp)]
theorem write_calm {x : DiskD} (h : x.fails = []) {n : Int} (h0 : 0 ≤ n) (h1 : n < x.size) (b : List UInt8) : x.write n b = ⟨x.size, x.lasts, x.waits ++ [⟨n, b⟩], x.steps + 1, []⟩ := by
  unfold DiskD.write
  rw [if_neg (by omega), if_neg (by rw [h]; simp)]
  unfold DiskD.put DiskD.stepped
  simp [h]
theorem writes_calm : ∀ (ys : List WaitS) (x : DiskD), x.fails = [] → (∀ y ∈ ys, 0 ≤ y.1.n ∧ y.1.n < x.size) → writesW x ys = ⟨x.size, x.lasts, x.waits ++ ys.map (·.1), x.steps + ys.length, []⟩ := by
  intro ys
  induction ys with
  | nil => intro x h _; cases x; simp [writesW] at *; exact h
  | cons y ys ih =>
    intro x h hy
    have h1 := hy y (by simp)
    have e : writesW x (y :: ys) = writesW (x.write y.1.n y.1.b) ys := rfl
    rw [e, write_calm h h1.1 h1.2, ih ⟨x.size, x.lasts, x.waits ++ ([⟨y.1.n, y.1.b⟩] : List WaitD), x.steps + 1, []⟩ rfl (fun z hz => hy z (by simp [hz]))]
    simp only [List.map_cons, List.length_cons, List.append_assoc, List.cons_append, List.nil_append]
    congr 1
    omega
theorem reads_last {x : DiskD} (ys : List WaitD) (s : Int) (fs : List Int) (y : WaitD) (hy : y ∈ ys) (hd : ∀ z ∈ ys, z.n = y.n → z = y) : (⟨x.size, x.lasts, x.waits ++ ys, s, fs⟩ : DiskD).reads y.n = y.b := by
  unfold DiskD.reads
  simp only [List.reverse_append]
  rw [List.find?_append]
  obtain ⟨z, hz⟩ : ∃ z, ys.reverse.find? (fun z => z.n == y.n) = some z := by
    cases h : ys.reverse.find? (fun z => z.n == y.n) with
    | some z => exact ⟨z, rfl⟩
    | none =>
      have := List.find?_eq_none.1 h y (by simpa using hy)
      simp at this
  rw [hz]
  have h1 := List.find?_some hz
  have h2 := List.mem_of_find?_eq_some hz
  have := hd z (by simpa using h2) (by simpa using h1)
  subst this
  rfl
theorem reads_other {x : DiskD} (ys : List WaitD) (s : Int) (fs : List Int) (n : Int) (hd : ∀ z ∈ ys, z.n ≠ n) : (⟨x.size, x.lasts, x.waits ++ ys, s, fs⟩ : DiskD).reads n = x.reads n := by
  unfold DiskD.reads
  simp only [List.reverse_append]
  rw [List.find?_append]
  have : ys.reverse.find? (fun z => z.n == n) = none := List.find?_eq_none.2 (fun z hz => by simpa using hd z (by simpa using hz))
  rw [this]
  rfl

/-! numbers of bytes -/
theorem cut_mid (a m c : List UInt8) (i k : Nat) (ha : a.length = i) (hm : m.length = k) : ((a ++ (m ++ c)).drop i).take k = m := by
  rw [List.drop_append, ← ha, List.drop_length, Nat.sub_self, List.drop_zero, List.nil_append, List.take_append_of_le_length (by omega), List.take_of_length_le (by omega)]
theorem numAt_mid (a c : List UInt8) (i k n : Nat) (ha : a.length = i) (hn : n < 256 ^ k) : numAt (a ++ (leB n k ++ c)) i k = n := by
  unfold numAt
  rw [cut_mid a _ c i k ha (leB_len n k), leN_leB, Nat.mod_eq_of_lt hn]
theorem sectorL_parts (l : List UInt8) : sectorL l = l ++ (List.replicate (508 - l.length) 0 ++ leB (crcW (padL l)).toNat 4) := by
  unfold sectorL sealOf
  rw [show padL l = l ++ List.replicate (508 - l.length) 0 from rfl, List.append_assoc]
theorem sealedB_sealOf (l : List UInt8) : sealedB (sealOf l) = true := by
  have hl := sealOf_len l
  rw [sealedB_iff _ (by omega), hl, Nat.add_sub_cancel]
  congr 1
  unfold sealOf
  rw [List.take_append_of_le_length (Nat.le_refl _), List.take_length]
theorem sealedB_sectorL (l : List UInt8) : sealedB (sectorL l) = true := sealedB_sealOf _
theorem padL_zeros (l : List UInt8) : ((padL l).drop l.length).any (· != 0) = false := by
  unfold padL
  rw [List.drop_append, List.drop_length, Nat.sub_self, List.drop_zero, List.nil_append]
  simp
theorem headRows_split : ∀ (l : List Int) (m : List ObjD) (j : Nat) (x : Int) (o : ObjD), l[j]? = some x → m[j]? = some o → ∃ A B, headRows l m = A ++ (headRow x o ++ B) ∧ A.length = 6 * j
  | [], _, _, _, _, hx, _ => by simp at hx
  | _ :: _, [], _, _, _, _, ho => by simp at ho
  | y :: l, p :: m, 0, x, o, hx, ho => by
    obtain rfl : y = x := by simpa using hx
    obtain rfl : p = o := by simpa using ho
    exact ⟨[], headRows l m, rfl, rfl⟩
  | y :: l, p :: m, j + 1, x, o, hx, ho => by
    obtain ⟨A, B, h1, h2⟩ := headRows_split l m j x o (by simpa using hx) (by simpa using ho)
    refine ⟨headRow y p ++ A, B, ?_, by rw [List.length_append, headRow_len]; omega⟩
    show headRow y p ++ headRows l m = _
    rw [h1, List.append_assoc]
theorem headRows_len2 : ∀ (l : List Int) (m : List ObjD), l.length = m.length → (headRows l m).length = 6 * l.length
  | [], _, _ => rfl
  | _ :: _, [], h => by cases h
  | x :: l, o :: m, h => by
    have := headRows_len2 l m (by simpa using h)
    show (headRow x o ++ headRows l m).length = 6 * (l.length + 1)
    rw [List.length_append, headRow_len]
    omega
/-- the order of the oids -/
theorem rows_prev (N : Int) : ∀ (l : List Int) (m : List ObjD) (last : Int), rowsB N last l m = true → ∀ (j : Nat) (x : Int), l[j]? = some x → j < m.length → (if j = 0 then last else l.getD (j - 1) 0) < x
  | [], _, _, _, _, _, hx, _ => by simp at hx
  | _ :: _, [], _, _, _, _, _, hj => by simp at hj
  | y :: l, p :: m, last, h, j, x, hx, hj => by
    have hh : (decide (last < y) && (decide (y < N) && (objB p N && rowsB N y l m))) = true := h
    simp only [Bool.and_eq_true, decide_eq_true_eq] at hh
    obtain ⟨h1, h2, h3, h4⟩ := hh
    cases j with
    | zero =>
      obtain rfl : y = x := by simpa using hx
      simpa using h1
    | succ j =>
      have := rows_prev N l m y h4 j x (by simpa using hx) (by simpa using hj)
      rw [if_neg (by omega), show j + 1 - 1 = j by omega]
      cases j with
      | zero => simpa using this
      | succ j => simpa using this
section
variable {N : Int} {f : FrameD}
theorem frameB_facts (h : frameB N f = true) : rightB N = true ∧ 0 ≤ f.ed ∧ f.oids.length = f.objs.length ∧ (f.oids.length : Int) ≤ N ∧ f.state.length ≤ 4096 ∧ rowsB N (-1) f.oids f.objs = true := by
  unfold frameB framePre at h
  simp only [Bool.and_eq_true, decide_eq_true_eq, beq_iff_eq] at h
  obtain ⟨h0, ⟨⟨⟨h1, h2⟩, h3⟩, h4⟩, h5⟩ := h
  exact ⟨h0, h1, h2, h3, h4, h5⟩
theorem right_le (h : rightB N = true) : 1 ≤ N ∧ N ≤ 64 := by unfold rightB at h; simp at h; exact h
theorem headL_len (h : frameB N f = true) : (headL f).length = 20 + 6 * f.oids.length ∧ (headL f).length ≤ 508 := by
  obtain ⟨h0, h1, h2, h3, h4, h5⟩ := frameB_facts h
  have := right_le h0
  have hl : (headL f).length = 20 + 6 * f.oids.length := by unfold headL; rw [List.length_append, headPre_len, headRows_len2 _ _ h2]
  omega
/-- the numbers of a head that is written -/
theorem head_nums (h : frameB N f = true) (hed : f.ed ≤ 9223372036854775807) (T : List UInt8) :
    (headL f ++ T).take 4 = magicB ∧ (numAt (headL f ++ T) 4 8 : Int) = f.ed ∧ numAt (headL f ++ T) 12 2 = f.oids.length ∧ numAt (headL f ++ T) 14 2 = f.state.length ∧ numAt (headL f ++ T) 16 4 = (crcW f.state).toNat := by
  obtain ⟨h0, h1, h2, h3, h4, h5⟩ := frameB_facts h
  have hN := right_le h0
  have e : headL f ++ T = [67, 72, 76, 71] ++ (leB f.ed.toNat 8 ++ (leB f.oids.length 2 ++ (leB f.state.length 2 ++ (leB (crcW f.state).toNat 4 ++ (headRows f.oids f.objs ++ T))))) := by
    unfold headL headPre
    simp only [List.append_assoc]
  refine ⟨by rw [e]; rfl, ?_, ?_, ?_, ?_⟩
  · rw [e, numAt_mid _ _ 4 8 _ rfl (by have : (256 : Nat) ^ 8 = 18446744073709551616 := by decide
                                       omega)]
    omega
  · rw [e, ← List.append_assoc, numAt_mid _ _ 12 2 _ (by simp [leB_len]) (by omega)]
  · rw [e, ← List.append_assoc, ← List.append_assoc, numAt_mid _ _ 14 2 _ (by simp [leB_len]) (by omega)]
  · rw [e, ← List.append_assoc, ← List.append_assoc, ← List.append_assoc, numAt_mid _ _ 16 4 _ (by simp [leB_len]) (by have := crcW_lt f.state; have : (256 : Nat) ^ 4 = 4294967296 := by decide
                                                                                                                       omega)]
theorem head_row (h : frameB N f = true) (T : List UInt8) (j : Nat) (x : Int) (o : ObjD) (hx : f.oids[j]? = some x) (ho : f.objs[j]? = some o) :
    (numAt (headL f ++ T) (20 + 6 * j) 2 : Int) = x ∧ numAt (headL f ++ T) (22 + 6 * j) 4 = (crcW (padL (objL o))).toNat := by
  obtain ⟨h0, h1, h2, h3, h4, h5⟩ := frameB_facts h
  have hN := right_le h0
  obtain ⟨hx0, hx1, _⟩ := rows_at N f.oids f.objs (-1) (by omega) h5 j x o hx ho
  obtain ⟨A, B, e1, e2⟩ := headRows_split f.oids f.objs j x o hx ho
  have e : headL f ++ T = (headPre f ++ A) ++ (leB x.toNat 2 ++ (leB (crcW (padL (objL o))).toNat 4 ++ (B ++ T))) := by
    unfold headL
    rw [e1]
    unfold headRow
    simp only [List.append_assoc]
  have hl : (headPre f ++ A).length = 20 + 6 * j := by rw [List.length_append, headPre_len, e2]
  constructor
  · rw [e, numAt_mid _ _ _ 2 _ hl (by omega)]
    omega
  · rw [e, ← List.append_assoc, numAt_mid _ _ _ 4 _ (by rw [List.length_append, hl, leB_len]; omega) (by have := crcW_lt (padL (objL o)); have : (256 : Nat) ^ 4 = 4294967296 := by decide
                                                                                                         omega)]
/-- a head that is written is one -/
theorem head_written (h : frameB N f = true) (hed : f.ed ≤ 9223372036854775807) : headB N (sectorL (headL f)) = true := by
  obtain ⟨h0, h1, h2, h3, h4, h5⟩ := frameB_facts h
  have hN := right_le h0
  obtain ⟨hl, hl2⟩ := headL_len h
  have e := sectorL_parts (headL f)
  obtain ⟨T, eT⟩ : ∃ T, T = List.replicate (508 - (headL f).length) 0 ++ leB (crcW (padL (headL f))).toNat 4 := ⟨_, rfl⟩
  rw [← eT] at e
  obtain ⟨a1, a2, a3, a4, a5⟩ := head_nums h hed T
  have hrow := head_row h T
  have hs := sealedB_sectorL (headL f)
  have ht := sectorL_take (headL f) hl2
  have hz := padL_zeros (headL f)
  rw [← ht, hl] at hz
  rw [e] at hs hz ⊢
  unfold headB
  rw [hs, a1, a3, a4, hz]
  have b1 : decide (numAt (headL f ++ T) 4 8 < 9223372036854775808) = true := by simp; omega
  have b2 : decide ((f.oids.length : Int) ≤ N) = true := by simpa using h3
  have b3 : decide (f.state.length ≤ 4096) = true := by simpa using h4
  have b4 : (List.range f.oids.length).all (headGo N (headL f ++ T)) = true := by
    rw [List.all_eq_true]
    intro j hj
    have hj : j < f.oids.length := List.mem_range.1 hj
    have ex : f.oids[j]? = some f.oids[j] := List.getElem?_eq_getElem hj
    have eo : f.objs[j]? = some (f.objs[j]'(by omega)) := List.getElem?_eq_getElem (by omega)
    have r1 := (hrow j _ _ ex eo).1
    have r2 := rows_at N f.oids f.objs (-1) (by omega) h5 j _ _ ex eo
    have r3 := rows_prev N f.oids f.objs (-1) h5 j _ ex (by omega)
    unfold headGo headLast
    rw [r1]
    simp only [Bool.and_eq_true, decide_eq_true_eq]
    refine ⟨?_, r2.2.1⟩
    by_cases hj0 : j = 0
    · rw [if_pos hj0] at r3 ⊢; exact r3
    · rw [if_neg hj0] at r3 ⊢
      have ex' : f.oids[j - 1]? = some (f.oids[j - 1]'(by omega)) := List.getElem?_eq_getElem (by omega)
      have eo' : f.objs[j - 1]? = some (f.objs[j - 1]'(by omega)) := List.getElem?_eq_getElem (by omega)
      rw [(hrow (j - 1) _ _ ex' eo').1]
      rw [List.getD_eq_getElem?_getD, ex'] at r3
      exact r3
  rw [b1, b2, b3, b4]
  rfl
end
end Go.Proofs.YtdpniceapmikpaaGreat
namespace Go.Proofs.YtdpniceapmikpaaGreat
open Go.RowKit

/-- an object that its sector brings back -/
def BackO (N : Int) (o : ObjD) : Prop := getE (sectorL (objL o)) N = 0 ∧ objOf (padL (objL o)) = o ∧ (objL o).length ≤ 508
/-- what is at a place of an area that has the frame -/
def placeB (f : FrameD) (p : Place) : List UInt8 :=
 if p.k = 2 then sectorL (headL f) else if p.k = 3 then layL sector0 (chunkL f.state p.t) else sectorL (objL (f.objs.getD p.t objZ))
def placeIn (f : FrameD) (p : Place) : Prop := p.k = 2 ∨ (p.k = 3 ∧ p.t < chunksN f.state.length) ∨ (p.k = 4 ∧ p.t < f.objs.length)
section
variable {N a : Nat} {f : FrameD}
theorem chunks_le (h : frameB N f = true) : chunksN f.state.length ≤ 8 := by
 have := (frameB_facts h).2.2.2.2.1
 unfold chunksN
 omega
theorem steps_mem (h : frameB N f = true) (ha : a ≤ 1) (hb : ∀ o ∈ f.objs, (objL o).length ≤ 508) (y : WaitS) (hy : y ∈ allSteps N a f) : ∃ p : Place, p.ok N ∧ p.a = a ∧ y.1 = ⟨((p.sec N : Nat) : Int), placeB f p⟩ := by
 obtain ⟨h0, h1, h2, h3, h4, h5⟩ := frameB_facts h
 have hN := right_le h0
 have hN' : 1 ≤ N ∧ N ≤ 64 := by omega
 have hc := chunks_le h
 unfold allSteps at hy
 rcases List.mem_append.1 hy with hy | hy
 ·rcases List.mem_append.1 hy with hy | hy
  ·unfold objSteps at hy
   obtain ⟨⟨o, i⟩, hoi, rfl⟩ := List.mem_map.1 hy
   have hi := List.mem_zipIdx_iff_getElem?.1 hoi
   have hil : i < f.objs.length := by
    rcases Nat.lt_or_ge i f.objs.length with hh | hh
    ·exact hh
    ·simp only at hi; rw [List.getElem?_eq_none hh] at hi; cases hi
   have hp : Place.ok N ⟨4, a, i⟩ := ⟨ha, .inr (.inr ⟨rfl, by show i < N; omega⟩)⟩
   refine ⟨⟨4, a, i⟩, hp, rfl, ?_⟩
   have e : sectorN N 4 a i = (((Place.sec N ⟨4, a, i⟩ : Nat) : Int), 0) := sectorN_place N ⟨4, a, i⟩ hN' hp
   simp only at hi
   unfold stepL
   simp only
   rw [e]
   unfold placeB
   rw [if_neg (show ¬ (4 : Nat) = 2 by decide), if_neg (show ¬ (4 : Nat) = 3 by decide), List.getD_eq_getElem?_getD, hi]
   rw [secS_val _ (sectorL_len _ (hb o (List.mem_of_getElem? hi)))]
   rfl
  ·obtain ⟨q, hq, rfl⟩ := List.mem_map.1 hy
   unfold partL at hq
   obtain ⟨i, hi, rfl⟩ := List.mem_map.1 hq
   have hi := List.mem_range.1 hi
   have hp : Place.ok N ⟨3, a, i⟩ := ⟨ha, .inr (.inl ⟨rfl, by show i < 8; omega⟩)⟩
   refine ⟨⟨3, a, i⟩, hp, rfl, ?_⟩
   have e : sectorN N 3 a i = (((Place.sec N ⟨3, a, i⟩ : Nat) : Int), 0) := sectorN_place N ⟨3, a, i⟩ hN' hp
   unfold stepL
   simp only
   rw [mkIdx_val i (by omega), e]
   rfl
 ·obtain rfl : y = stepL N 2 a 0 (secS (sectorL (headL f))) := by simpa using hy
  have hp : Place.ok N ⟨2, a, 0⟩ := ⟨ha, .inl ⟨rfl, rfl⟩⟩
  refine ⟨⟨2, a, 0⟩, hp, rfl, ?_⟩
  have e := sectorN_place N ⟨2, a, 0⟩ hN' hp
  simp only at e
  unfold stepL
  simp only
  have e2 : sectorN N 2 a 0 = (((Place.sec N ⟨2, a, 0⟩ : Nat) : Int), 0) := e
  rw [e2, secS_val _ (sectorL_len _ (headL_len h).2)]
  rfl
theorem steps_has (h : frameB N f = true) (ha : a ≤ 1) (hb : ∀ o ∈ f.objs, (objL o).length ≤ 508) (p : Place) (hp : p.ok N) (hpa : p.a = a) (hi : placeIn f p) : (⟨((p.sec N : Nat) : Int), placeB f p⟩ : WaitD) ∈ (allSteps N a f).map (·.1) := by
 obtain ⟨h0, h1, h2, h3, h4, h5⟩ := frameB_facts h
 have hN := right_le h0
 have hN' : 1 ≤ N ∧ N ≤ 64 := by omega
 have hc := chunks_le h
 have e := sectorN_place N p hN' hp
 obtain ⟨k, a', t⟩ := p
 subst hpa
 unfold placeIn at hi
 unfold allSteps
 rw [List.map_append, List.map_append]
 rcases hi with hk | ⟨hk, ht⟩ | ⟨hk, ht⟩
 ·simp only at hk
  subst hk
  have ht : t = 0 := by
   have := hp.2
   simp only at this
   omega
  subst ht
  refine List.mem_append.2 (.inr ?_)
  rw [List.map_cons, List.map_nil, List.mem_singleton]
  unfold stepL
  simp only
  have e2 : sectorN N 2 a' 0 = (((Place.sec N ⟨2, a', 0⟩ : Nat) : Int), 0) := e
  rw [e2, secS_val _ (sectorL_len _ (headL_len h).2)]
  rfl
 ·simp only at hk
  subst hk
  refine List.mem_append.2 (.inl (List.mem_append.2 (.inr ?_)))
  rw [List.map_map]
  refine List.mem_map.2 ⟨(mkIdx t, secOf f.state t), ?_, ?_⟩
  ·unfold partL
   exact List.mem_map.2 ⟨t, List.mem_range.2 ht, rfl⟩
  ·simp only at ht
   show (⟨(sectorN N 3 a' (mkIdx t).1).1, (secOf f.state t).1⟩ : WaitD) = _
   rw [mkIdx_val t (by omega)]
   have e2 : sectorN N 3 a' t = (((Place.sec N ⟨3, a', t⟩ : Nat) : Int), 0) := e
   rw [e2]
   rfl
 ·simp only at hk
  subst hk
  simp only at ht
  refine List.mem_append.2 (.inl (List.mem_append.2 (.inl ?_)))
  unfold objSteps
  rw [List.map_map]
  refine List.mem_map.2 ⟨(f.objs[t], t), List.mem_zipIdx_iff_getElem?.2 (List.getElem?_eq_getElem ht), ?_⟩
  show (⟨(sectorN N 4 a' t).1, (secS (sectorL (objL f.objs[t]))).1⟩ : WaitD) = _
  have e2 : sectorN N 4 a' t = (((Place.sec N ⟨4, a', t⟩ : Nat) : Int), 0) := e
  rw [e2, secS_val _ (sectorL_len _ (hb _ (List.getElem_mem ht)))]
  unfold placeB
  simp only
  rw [if_neg (by decide), if_neg (by decide), List.getD_eq_getElem?_getD, List.getElem?_eq_getElem ht]
  rfl
theorem allSteps_len (h : frameB N f = true) : (allSteps N a f).length ≤ 80 := by
 obtain ⟨h0, h1, h2, h3, h4, h5⟩ := frameB_facts h
 have hN := right_le h0
 have hc := chunks_le h
 unfold allSteps objSteps partL
 simp only [List.length_append, List.length_map, List.length_zipIdx, List.length_range, List.length_cons, List.length_nil]
 omega
theorem askB_facts {size : Int} (h : askB N size a = true) : 1 ≤ N ∧ N ≤ 64 ∧ 20 + 3 * (N : Int) ≤ size ∧ a ≤ 1 := by
 unfold askB rightB at h
 simp only [Bool.and_eq_true, decide_eq_true_eq] at h
 omega
variable {x : DiskD}
/-- the disk behind a frame's writes -/
theorem writes_calm2 (hx : Calm x) (hask : askB N x.size a = true) (h : frameB N f = true) (hb : ∀ o ∈ f.objs, (objL o).length ≤ 508) :
  writesW x (allSteps N a f) = ⟨x.size, x.lasts, x.waits ++ (allSteps N a f).map (·.1), x.steps + (allSteps N a f).length, []⟩ := by
 obtain ⟨h1, h2, h3, h4⟩ := askB_facts hask
 refine writes_calm _ _ hx.fails (fun y hy => ?_)
 obtain ⟨p, hp, _, e⟩ := steps_mem h h4 hb y hy
 have := Place.sec_lt hp
 rw [e]
 show (0 : Int) ≤ ((p.sec N : Nat) : Int) ∧ ((p.sec N : Nat) : Int) < x.size
 omega
theorem writes_go (hx : Calm x) (hask : askB N x.size a = true) (h : frameB N f = true) (hb : ∀ o ∈ f.objs, (objL o).length ≤ 508) (k : Nat) (y : WaitS) (hy : (allSteps N a f)[k]? = some y) :
  (writesW x ((allSteps N a f).take k)).ok ∧ (writesW x ((allSteps N a f).take k)).err y.1.n = 0 := by
 obtain ⟨h1, h2, h3, h4⟩ := askB_facts hask
 have hin : ∀ y ∈ allSteps N a f, 0 ≤ y.1.n ∧ y.1.n < x.size := fun y hy => by
  obtain ⟨p, hp, _, e⟩ := steps_mem h h4 hb y hy
  have := Place.sec_lt hp
  rw [e]
  show (0 : Int) ≤ ((p.sec N : Nat) : Int) ∧ ((p.sec N : Nat) : Int) < x.size
  omega
 rw [writes_calm _ _ hx.fails (fun y hy => hin y (List.mem_of_mem_take hy))]
 have hl := allSteps_len (a := a) h
 have hok := hx.ok
 have hs := hx.steps
 have hw := hx.waits
 constructor
 ·refine ⟨hok.1, hok.2.1, hok.2.2.1, ?_, ?_, ?_, ?_⟩
  ·intro z hz
   rcases List.mem_append.1 hz with hz | hz
   ·exact hok.2.2.2.1 z hz
   ·obtain ⟨q, _, rfl⟩ := List.mem_map.1 hz
    exact q.2
  ·have := hok.2.2.2.2.1
   show 0 ≤ x.steps + ((List.take k (allSteps N a f)).length : Int)
   omega
  ·show x.steps + ((List.take k (allSteps N a f)).length : Int) ≤ 1000000000000
   rw [List.length_take]; omega
  ·show (x.waits ++ ((allSteps N a f).take k).map (·.1)).length ≤ 1000000
   rw [List.length_append, List.length_map, List.length_take]; omega
 ·have := hin y (List.mem_of_getElem? hy)
  unfold DiskD.err
  simp only
  rw [if_neg (by omega), if_neg (by simp)]
/-- what is read at a place of a frame that is written -/
theorem reads_place (hx : Calm x) (hask : askB N x.size a = true) (h : frameB N f = true) (hb : ∀ o ∈ f.objs, (objL o).length ≤ 508) (p : Place) (hp : p.ok N) (hpa : p.a = a) (hi : placeIn f p) :
  (writesW x (allSteps N a f)).reads (sectorN N p.k a p.t).1 = placeB f p := by
 obtain ⟨h1, h2, h3, h4⟩ := askB_facts hask
 have e := sectorN_place N p ⟨h1, h2⟩ hp
 rw [hpa] at e
 rw [writes_calm2 hx hask h hb, e]
 refine reads_last _ _ _ (⟨((p.sec N : Nat) : Int), placeB f p⟩ : WaitD) (steps_has h h4 hb p hp hpa hi) (fun z hz hn => ?_)
 obtain ⟨y, hy, rfl⟩ := List.mem_map.1 hz
 obtain ⟨q, hq, hqa, e2⟩ := steps_mem h h4 hb y hy
 rw [e2] at hn ⊢
 have hn : q.sec N = p.sec N := by have h : ((q.sec N : Nat) : Int) = ((p.sec N : Nat) : Int) := hn; omega
 obtain ⟨i1, i2, i3⟩ := Place.sec_inj hq hp hn
 have : q = p := by cases q; cases p; simp_all
 rw [this]
/-- and elsewhere -/
theorem reads_elsewhere (hx : Calm x) (hask : askB N x.size a = true) (h : frameB N f = true) (hb : ∀ o ∈ f.objs, (objL o).length ≤ 508) (n : Int) (hn : ∀ p : Place, p.ok N → p.a = a → n ≠ ((p.sec N : Nat) : Int)) :
  (writesW x (allSteps N a f)).reads n = x.reads n := by
 obtain ⟨h1, h2, h3, h4⟩ := askB_facts hask
 rw [writes_calm2 hx hask h hb]
 refine reads_other _ _ _ n (fun z hz => ?_)
 obtain ⟨y, hy, rfl⟩ := List.mem_map.1 hz
 obtain ⟨q, hq, hqa, e2⟩ := steps_mem h h4 hb y hy
 rw [e2]
 exact fun e => hn q hq hqa e.symm

theorem chunk_zeros (st : List UInt8) (i : Nat) : ((layL sector0 (chunkL st i)).drop (st.length - 512 * i)).all (· == 0) = true := by
 unfold layL
 have hl : (chunkL st i).length = min 512 (st.length - 512 * i) := by unfold chunkL; rw [List.length_take, List.length_drop]
 rw [List.drop_append, List.all_append]
 have e1 : (chunkL st i).drop (st.length - 512 * i) = [] := List.drop_eq_nil_of_le (by omega)
 rw [e1]
 unfold sector0
 rw [List.drop_replicate, List.drop_replicate]
 simp
theorem chunk_at (st : List UInt8) (p : Nat) (hp : p < st.length) : (layL sector0 (chunkL st (p / 512)))[p % 512]?.getD 0 = st[p] := by
 unfold layL
 have hl : (chunkL st (p / 512)).length = min 512 (st.length - 512 * (p / 512)) := by unfold chunkL; rw [List.length_take, List.length_drop]
 rw [List.getElem?_append_left (by rw [hl]; omega)]
 unfold chunkL
 rw [List.getElem?_take, if_pos (by omega), List.getElem?_drop, show 512 * (p / 512) + p % 512 = p by omega, List.getElem?_eq_getElem hp]
 rfl
/-- a frame that is written is there -/
theorem read_back (hx : Calm x) (hask : askB N x.size a = true) (h : frameB N f = true) (hed : f.ed ≤ 9223372036854775807) (hb : ∀ o ∈ f.objs, BackO N o) :
  ReadGo (writesW x (allSteps N a f)) N a ∧ frameOf (writesW x (allSteps N a f)) N a = f ∧ numAt (headS (writesW x (allSteps N a f)) N a) 12 2 = f.oids.length ∧ numAt (headS (writesW x (allSteps N a f)) N a) 14 2 = f.state.length := by
 have hb2 : ∀ o ∈ f.objs, (objL o).length ≤ 508 := fun o ho => (hb o ho).2.2
 obtain ⟨h1, h2, h3, h4⟩ := askB_facts hask
 obtain ⟨f0, f1, f2, f3, f4, f5⟩ := frameB_facts h
 obtain ⟨hl, hl2⟩ := headL_len h
 have hc := chunks_le h
 have hst := allSteps_len (a := a) h
 have eH : headS (writesW x (allSteps N a f)) N a = sectorL (headL f) := reads_place hx hask h hb2 ⟨2, a, 0⟩ ⟨h4, .inl ⟨rfl, rfl⟩⟩ rfl (.inl rfl)
 have eO : ∀ i, i < f.objs.length → objS (writesW x (allSteps N a f)) N a i = sectorL (objL (f.objs.getD i objZ)) := fun i hi => reads_place hx hask h hb2 ⟨4, a, i⟩ ⟨h4, .inr (.inr ⟨rfl, by show i < N; omega⟩)⟩ rfl (.inr (.inr ⟨rfl, hi⟩))
 have eP : ∀ i, i < chunksN f.state.length → partS (writesW x (allSteps N a f)) N a i = layL sector0 (chunkL f.state i) := fun i hi => reads_place hx hask h hb2 ⟨3, a, i⟩ ⟨h4, .inr (.inl ⟨rfl, by show i < 8; omega⟩)⟩ rfl (.inr (.inl ⟨rfl, hi⟩))
 have hsz : (writesW x (allSteps N a f)).size = x.size := by rw [writes_calm2 hx hask h hb2]
 have hfl : (writesW x (allSteps N a f)).fails = [] := by rw [writes_calm2 hx hask h hb2]
 have hcalm : ∀ k : Nat, k ≤ 80 → Calm ((writesW x (allSteps N a f)).plus k) ∨ True := fun _ _ => .inr trivial
 have hok : ∀ k : Nat, k ≤ 80 → ((writesW x (allSteps N a f)).plus k).ok := by
  intro k hk
  rw [writes_calm2 hx hask h hb2]
  have hok := hx.ok
  have hs := hx.steps
  have hw := hx.waits
  refine ⟨hok.1, hok.2.1, hok.2.2.1, ?_, ?_, ?_, ?_⟩
  ·intro z hz
   rcases List.mem_append.1 hz with hz | hz
   ·exact hok.2.2.2.1 z hz
   ·obtain ⟨q, _, rfl⟩ := List.mem_map.1 hz
    exact q.2
  ·have := hok.2.2.2.2.1
   show 0 ≤ x.steps + ((allSteps N a f).length : Int) + (k : Int)
   omega
  ·show x.steps + ((allSteps N a f).length : Int) + (k : Int) ≤ 1000000000000
   omega
  ·show (x.waits ++ (allSteps N a f).map (·.1)).length ≤ 1000000
   rw [List.length_append, List.length_map]; omega
 have herr : ∀ (k : Nat) (p : Place), p.ok N → p.a = a → ((writesW x (allSteps N a f)).plus k).err (sectorN N p.k a p.t).1 = 0 := by
  intro k p hp hpa
  have e := sectorN_place N p ⟨h1, h2⟩ hp
  rw [hpa] at e
  rw [e]
  have := Place.sec_lt hp
  unfold DiskD.err DiskD.plus
  simp only
  rw [hsz, hfl, if_neg (by omega), if_neg (by simp)]
 have e := sectorL_parts (headL f)
 obtain ⟨T, eT⟩ : ∃ T, T = List.replicate (508 - (headL f).length) 0 ++ leB (crcW (padL (headL f))).toNat 4 := ⟨_, rfl⟩
 rw [← eT] at e
 obtain ⟨a1, a2, a3, a4, a5⟩ := head_nums h hed T
 have hrow := head_row h T
 rw [← e] at a1 a2 a3 a4 a5 hrow
 have eF : frameOf (writesW x (allSteps N a f)) N a = f := by
  unfold frameOf
  rw [eH, a2, a3, a4]
  have q1 : (List.range f.oids.length).map (fun i => (numAt (sectorL (headL f)) (20 + 6 * i) 2 : Int)) = f.oids := by
   apply List.ext_getElem?
   intro i
   rw [List.getElem?_map]
   by_cases hi : i < f.oids.length
   ·rw [List.getElem?_range hi, List.getElem?_eq_getElem hi]
    have := (hrow i f.oids[i] (f.objs[i]'(by omega)) (List.getElem?_eq_getElem hi) (List.getElem?_eq_getElem (by omega))).1
    simp only [Option.map_some]
    rw [this]
   ·rw [List.getElem?_eq_none (by simp; omega), List.getElem?_eq_none (by omega)]; rfl
  have q2 : (List.range f.oids.length).map (fun i => objOf ((objS (writesW x (allSteps N a f)) N a i).take 508)) = f.objs := by
   apply List.ext_getElem?
   intro i
   rw [List.getElem?_map]
   by_cases hi : i < f.oids.length
   ·have hi2 : i < f.objs.length := by omega
    rw [List.getElem?_range hi, List.getElem?_eq_getElem hi2]
    simp only [Option.map_some]
    rw [eO i hi2, List.getD_eq_getElem?_getD, List.getElem?_eq_getElem hi2]
    have := hb f.objs[i] (List.getElem_mem hi2)
    simp only [Option.getD_some]
    rw [sectorL_take _ this.2.2, this.2.1]
   ·rw [List.getElem?_eq_none (by simp; omega), List.getElem?_eq_none (by omega)]; rfl
  have q3 : stateOf (writesW x (allSteps N a f)) N a f.state.length = f.state := by
   unfold stateOf
   apply List.ext_getElem?
   intro i
   rw [List.getElem?_map]
   by_cases hi : i < f.state.length
   ·rw [List.getElem?_range hi, List.getElem?_eq_getElem hi]
    simp only [Option.map_some]
    congr 1
    unfold byteOf
    rw [eP (i / 512) (by unfold chunksN; omega), chunk_at _ _ hi]
   ·rw [List.getElem?_eq_none (by simp; omega), List.getElem?_eq_none (by omega)]; rfl
  rw [q1, q2, q3]
 refine ⟨⟨by rw [hsz]; exact hask, hok, ?_, ?_, ?_, by rw [eH]; exact head_written h hed, ?_, ?_, ?_⟩, eF, by rw [eH, a3], by rw [eH, a4]⟩
 ·have := herr 0 ⟨2, a, 0⟩ ⟨h4, .inl ⟨rfl, rfl⟩⟩ rfl
  rw [plus_zero] at this
  exact this
 ·intro i k hi _
  rw [eH, a3] at hi
  exact herr k ⟨4, a, i⟩ ⟨h4, .inr (.inr ⟨rfl, by show i < N; omega⟩)⟩ rfl
 ·intro i k hi _
  rw [eH, a4] at hi
  exact herr k ⟨3, a, i⟩ ⟨h4, .inr (.inl ⟨rfl, by show i < 8; omega⟩)⟩ rfl
 ·intro i hi
  rw [eH, a3] at hi
  have hi2 : i < f.objs.length := by omega
  have hbi := hb f.objs[i] (List.getElem_mem hi2)
  rw [eO i hi2, eH, (hrow i f.oids[i] f.objs[i] (List.getElem?_eq_getElem hi) (List.getElem?_eq_getElem hi2)).2, List.getD_eq_getElem?_getD, List.getElem?_eq_getElem hi2]
  simp only [Option.getD_some]
  rw [sectorL_take _ hbi.2.2]
  exact ⟨hbi.1, rfl⟩
 ·intro i hi
  rw [eH, a4] at hi ⊢
  rw [eP i hi]
  exact chunk_zeros _ _
 ·rw [eF, eH, a5]
end
end Go.Proofs.YtdpniceapmikpaaGreat
namespace Go.Proofs.YtdpniceapmikpaaGreat
open Go.RowKit

abbrev EntG := Int × Value × Nat
def entG (kd : IntKind) (l : List EntG) : Array MapEntry := (l.map fun x => ⟨.int kd x.1, x.2.1, x.2.2⟩).toArray
/-- block r is a map with these entries: no key twice -/
structure MapG (w : World) (r : Nat) (kd : IntKind) (l : List EntG) (c : Nat) : Prop where
 block : w.heap[r]? = some (.map (entG kd l) c)
 once : (l.map (·.1)).Nodup
 born : ∀ x ∈ l, x.2.2 < c
 bonce : (l.map (·.2.2)).Nodup

section
variable {w w' : World} {r c : Nat} {kd : IntKind} {l : List EntG}
theorem MapG.lt (h : MapG w r kd l c) : r < w.heap.size := by
 rcases Nat.lt_or_ge r w.heap.size with hlt | hge
 ·exact hlt
 ·have := h.block; rw [Array.getElem?_eq_none hge] at this; cases this
theorem MapG.new (w : World) (kd : IntKind) : MapG (w.alloc (.map #[] 0)) w.heap.size kd [] 0 := ⟨heap_alloc_new w _, List.nodup_nil, fun x hx => (by cases hx), List.nodup_nil⟩
theorem MapG.same (h : MapG w r kd l c) (hb : w'.heap[r]? = w.heap[r]?) : MapG w' r kd l c := ⟨hb.trans h.block, h.once, h.born, h.bonce⟩

variable {P : Program} {t k e : TypeId}
end
end Go.Proofs.YtdpniceapmikpaaGreat
