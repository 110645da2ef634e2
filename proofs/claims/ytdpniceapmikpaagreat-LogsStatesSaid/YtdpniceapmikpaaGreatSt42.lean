/-
  What the writes and the reads of a frame without objects come to on a disk that has none: the calls' contracts, all cases in one shape.
  From a walk to a law's row: a call that answers true and turns nothing that was there; for all arguments.
  Opening a frame: from its data to lists in memory.
  LogsStates: for every input the law answers true, and its arguments read as they did; without conditions.
-/
import Derived.Test.YtdpniceapmikpaaGreatRows
import Derived.WalkKit
import Derived.ProofKit
import Derived.OpenShut
import Derived.Below
import Derived.ChangeSame
import Derived.Deep.Fields
import Derived.Deep.Slices
import Derived.Test.YtdpniceapmikpaaGreatSt9
import Derived.Test.YtdpniceapmikpaaGreatSt28
import Derived.Test.YtdpniceapmikpaaGreatSt30
import Derived.Test.YtdpniceapmikpaaGreatSt31
import Derived.Test.YtdpniceapmikpaaGreatSt32
import Derived.Test.YtdpniceapmikpaaGreatSt40
import Derived.Test.YtdpniceapmikpaaGreatSt41
set_option linter.unusedVariables false
set_option linter.unusedSimpArgs false
namespace Go.Proofs.YtdpniceapmikpaaGreat
open Go.RowKit

theorem writesP_map (x : DiskD) (l : List WaitS) : writesP x (l.map (·.1)) = writesW x l := by unfold writesP writesW; rw [List.foldl_map]
theorem writesE_well : ∀ (ys : List WaitD) (x : DiskD), (∀ k y, ys[k]? = some y → (writesP x (ys.take k)).err y.n = 0) → writesE x ys = (writesP x ys, 0)
 | [], x, _ => rfl
 | y :: ys, x, h => by
  have h0 : x.err y.n = 0 := h 0 y rfl
  show (if x.err y.n = 0 then writesE (x.write y.n y.b) ys else (x.write y.n y.b, x.err y.n)) = _
  rw [if_pos h0, writesE_well ys (x.write y.n y.b) (fun k z hz => h (k + 1) z hz)]
  rfl
theorem frame_none (lo : Nat) (W : World) : FrameFrom lo W (.agg zeroF) frameZ := fun _ _ _ _ => zeroFrame _ _
theorem stGo (N : Nat) (area : Int) (f : FrameD) (x : DiskD) (hx : Calm x) (hin : x.inR) (h0 : f.oids = []) (h0b : f.objs = []) (hed : f.ed ≤ 9223372036854775807)
  (hblank : ∀ n, headB N (x.reads n) = false) (hnum : ∀ n, numAt (x.reads n) 12 2 = 0) : ∃ x1 no x2 g r, StGo N area f x x1 no x2 g r := by
 cases hgo : (askB N x.size area && frameB N f)
 ·have hw : ∀ D fr w, DiskAt w D x → FrameIn w w.heap.size fr f → (∀ a c, (∃ x y z, fr = .agg #[x, y, z, .slice a f.state.length c]) → c ≤ maxLen) → Calls Tryz.prog 18 #[ptr D.p, .agg #[.int .i64 (N : Int)], .int .i64 area, fr] w fun e w' =>
    e = .returned (.int .i64 2) ∧ ∃ D', DiskAt w' D' x ∧ DStep D D' w w' := fun D fr w hd hf _ =>
   (lwrite_no D x N area f fr w hd hx.ok hf hgo).mono fun e w' h => ⟨h.1, D, hd.below h.2, (DStep.refl D w).below h.2⟩
  have hrw : ∀ lv wv fv fr w, RDisk w w.heap.size lv wv fv x → FrameIn w w.heap.size fr f → Calls Tryz.prog 17 #[.agg #[lv, wv, .int .i64 x.steps, fv], .agg #[.int .i64 (N : Int)], .int .i64 area, fr] w fun e w' =>
    ∃ wv', e = .returned (.tuple #[.agg #[lv, wv', .int .i64 x.steps, fv], .int .i64 2]) ∧ RDisk w' w'.heap.size lv wv' fv x ∧ Below w.heap.size w w' ∧ (∀ g, wv'.ownBlock = some g → wv'.ownBlock = wv.ownBlock ∨ w.heap.size ≤ g) := fun lv wv fv fr w hr hf => by
   have h := rwrite_any x lv wv fv N area f fr [] w hr hx.ok hf (fun y hy => by cases hy) (by simp) (fun h1 h2 => by rw [h1, h2] at hgo; cases hgo) (fun k hk => by rw [List.take_nil]; exact hx.ok)
   have e : rwriteR x N area f [] = (x, 2) := by unfold rwriteR; rw [hgo]; rfl
   rw [e] at h
   exact h
  cases hask : askB N x.size area
  ·refine ⟨x, 2, x, frameZ, 2, ⟨hrw, hw, fun lv wv fv w hr => ?_, fun D w hd => ?_, fun _ _ _ _ _ h => h, hx.ok, hin⟩⟩
   ·have e : rheadR x N area = (x, frameZ, 2) := by unfold rheadR; rw [hask]; rfl
    have h := rread_stop x lv wv fv N area w hr hx.ok (fun h => by rw [hask] at h; cases h) (by rw [e]; show ¬ (2 : Int) = 0; decide)
    rw [e] at h
    exact h.mono fun e w' h => ⟨_, h.1, frame_none _ _, h.2⟩
   ·exact (lread_arg D x N area w hd hx.ok hask).mono fun e w' h => ⟨_, h.1, frame_none _ _, hd.below h.2, (DStep.refl D w).below h.2⟩
  ·obtain ⟨a, rfl⟩ : ∃ a : Nat, area = a := ⟨area.toNat, by unfold askB rightB at hask; simp at hask; omega⟩
   obtain ⟨q1, q2, q3, q4⟩ := askB_facts hask
   have hp2 : Place.ok N ⟨2, a, 0⟩ := ⟨q4, .inl ⟨rfl, rfl⟩⟩
   have hsec := Place.sec_lt hp2
   have esec : (sectorN N 2 a 0).1 = ((Place.sec N ⟨2, a, 0⟩ : Nat) : Int) := congrArg Prod.fst (sectorN_place N ⟨2, a, 0⟩ ⟨q1, q2⟩ hp2)
   have herr : x.err (sectorN N 2 a 0).1 = 0 := by rw [esec]; exact hx.err (by omega) (by omega)
   have hh : headB N (headS x N a) = false := hblank _
   have hok : x.stepped.ok := by
    obtain ⟨o1, o2, o3, o4, o5, o6, o7⟩ := hx.ok
    have := hx.steps
    exact ⟨o1, o2, o3, o4, by show (0 : Int) ≤ x.steps + 1; omega, by show x.steps + 1 ≤ _; omega, o7⟩
   refine ⟨x, 2, x.stepped, frameZ, 170, ⟨hrw, hw, fun lv wv fv w hr => ?_, fun D w hd => ?_, fun _ _ _ _ _ h => h.stepped, hok, hin⟩⟩
   ·have e : rheadR x N a = (x.stepped, frameZ, 170) := by unfold rheadR; rw [if_pos hask, if_pos herr, hh, headR_no hh]; rfl
    have h := rread_stop x lv wv fv N a w hr hx.ok (fun _ => hnum _) (by rw [e]; show ¬ (170 : Int) = 0; decide)
    rw [e] at h
    exact h.mono fun e w' h => ⟨_, h.1, frame_none _ _, h.2⟩
   ·exact (lread_none D x N a w hd hx.ok hask herr hh).mono fun e w' h => ⟨_, h.1, frame_none _ _, h.2.1, h.2.2⟩
 ·have hask : askB N x.size area = true := by cases h : askB N x.size area; rw [h] at hgo; cases hgo; rfl
  have hfr : frameB N f = true := by rw [hask] at hgo; exact hgo
  obtain ⟨a, rfl⟩ : ∃ a : Nat, area = a := ⟨area.toNat, by unfold askB rightB at hask; simp at hask; omega⟩
  obtain ⟨q1, q2, q3, q4⟩ := askB_facts hask
  have hbo : ∀ o ∈ f.objs, BackO N o := fun o ho => by rw [h0b] at ho; cases ho
  have hbl : ∀ o ∈ f.objs, (objL o).length ≤ 508 := fun o ho => (hbo o ho).2.2
  obtain ⟨hread, hfra, hn12, hn14⟩ := read_back hx hask hfr hed hbo
  have hws := writes_go hx hask hfr hbl
  have hcalm := writes_calm2 hx hask hfr hbl
  have hlen := allSteps_len (N := N) (a := a) hfr
  obtain ⟨l, el⟩ : ∃ l, l = allSteps N a f := ⟨_, rfl⟩
  have hlays : ∀ fr W, FrameIn W W.heap.size fr f → Calls Tryz.prog 49 #[.agg #[.int .i64 (N : Int)], .int .i64 (a : Int), fr] W fun e w' => ∃ v, e = .returned v ∧ WaitsIn w' w'.heap.size v (l.map (·.1)) ∧ Below W.heap.size W w' := by
   rw [el]
   exact fun fr W hf => rlays0_any N a f fr W hf hfr q4 hed h0 h0b
  have hinr : ∀ y ∈ l, 0 ≤ y.1.n ∧ y.1.n < x.size := by
   intro y hy
   rw [el] at hy
   obtain ⟨p, hp, _, e⟩ := steps_mem hfr q4 hbl y hy
   have := Place.sec_lt hp
   rw [e]
   show (0 : Int) ≤ ((p.sec N : Nat) : Int) ∧ ((p.sec N : Nat) : Int) < x.size
   omega
  have hww : ∀ D fr w, DiskAt w D x → FrameIn w w.heap.size fr f → (∀ b c, (∃ x y z, fr = .agg #[x, y, z, .slice b f.state.length c]) → c ≤ maxLen) → Calls Tryz.prog 18 #[ptr D.p, .agg #[.int .i64 (N : Int)], .int .i64 (a : Int), fr] w fun e w' =>
    e = .returned (.int .i64 0) ∧ ∃ D', DiskAt w' D' (writesW x l) ∧ DStep D D' w w' := by
   rw [el]
   exact fun D fr w hd hf hc => callsIn_wide.1 (lwrite_in 6 (Nat.le_refl _) D x N a f fr w hd hx.ok hf hask hfr hed hc hws)
  rw [← el] at hread hfra hn12 hn14 hws hcalm hlen
  obtain ⟨x1, e1⟩ : ∃ x1, x1 = writesW x l := ⟨_, rfl⟩
  rw [← e1] at hread hfra hn12 hn14 hcalm hww
  have hwp : ∀ k, writesP x ((l.map (·.1)).take k) = writesW x (l.take k) := fun k => by rw [← List.map_take, writesP_map]
  have hok1 : x1.ok := by have := hread.okk 0 (by omega); rwa [plus_zero] at this
  have hok : ∀ k, k ≤ (l.map (·.1)).length → (writesP x ((l.map (·.1)).take k)).ok := by
   intro k hk
   rw [hwp]
   rw [List.length_map] at hk
   rcases Nat.lt_or_ge k l.length with h | h
   ·exact (hws k l[k] (List.getElem?_eq_getElem h)).1
   ·rw [List.take_of_length_le h, ← e1]
    exact hok1
  have eE : rwriteR x N a f (l.map (·.1)) = (x1, 0) := by
   unfold rwriteR
   rw [hask, hfr]
   show writesE x (l.map (·.1)) = _
   rw [writesE_well, writesP_map, ← e1]
   intro k y hy
   rw [hwp]
   rw [List.getElem?_map] at hy
   obtain ⟨z, hz, rfl⟩ := Option.map_eq_some_iff.1 hy
   exact (hws k z hz).2
  have hck : chunksN f.state.length ≤ 8 := chunks_le hfr
  have hn12' : numAt (headS x1 N a) 12 2 = 0 := by rw [hn12, h0]; rfl
  have hin2 : (x1.plus (1 + chunksN f.state.length)).inR := by
   intro y hy
   have hy : y ∈ x1.waits := hy
   rw [hcalm] at hy
   have es : (x1.plus (1 + chunksN f.state.length)).size = x.size := by show x1.size = _; rw [hcalm]
   rw [es]
   rcases List.mem_append.1 hy with h | h
   ·exact hin y h
   ·obtain ⟨z, hz, rfl⟩ := List.mem_map.1 h
    exact hinr z hz
  refine ⟨x1, 0, x1.plus (1 + chunksN f.state.length), f, 0, ⟨fun lv wv fv fr w hr hf => ?_, hww, fun lv wv fv w hr => ?_, fun D w hd => ?_, fun _ _ _ _ _ h => ⟨h.lasts, h.waits, h.fails⟩, hread.okk _ (by omega), hin2⟩⟩
  ·have h := rwrite_any x lv wv fv N a f fr (l.map (·.1)) w hr hx.ok hf (fun y hy => by obtain ⟨z, _, rfl⟩ := List.mem_map.1 hy; exact z.2) (by rw [List.length_map]; omega)
    (fun _ _ W hW => hlays fr W ((hf.below hW (Nat.le_refl _)).mono hW.size)) hok
   rw [eE] at h
   exact h
  ·have h := rread0_well x1 lv wv fv N a w hr hread hn12'
   rw [hfra, hn14] at h
   exact h
  ·have h := callsIn_wide.1 (lread_well 6 (Nat.le_refl _) D x1 N a w hd hread)
   refine h.mono fun e w' h => ?_
   obtain ⟨v, y, he, hf, hd', hy, hs⟩ := h
   rw [hfra] at hf
   rw [hn12', hn14, Nat.zero_add] at hy
   subst hy
   exact ⟨v, he, hf, hd', hs⟩
end Go.Proofs.YtdpniceapmikpaaGreat
namespace Go.Proofs.YtdpniceapmikpaaGreat
open Go.ChangeShapes Go.WideShapes Go.ChangeAt Go.RowKit Go.Deep

section
variable {H : Type} {enc : TypeId × Value → H} {P : Program}

/-- arguments read as they read, behind a call that turned nothing below -/
theorem trodAll_stays (hl : laidOutB P = true) {W W' : World} (hb : Below W.heap.size W W') {sp : Nat → Bool} :
  ∀ {ts : List TypeId} {vs : List Value} {ds : List (DataW H)} {ps : List MemPlace}, (∀ t ∈ ts, P.readableRec t = true ∧ t < P.types.size) →
   DataW.TrodAll enc P W 0 (fun _ => true) true ts vs ds ps → (∀ p ∈ ps, p.block < W.heap.size) → (∀ p ∈ ps, sp p.block = true) → DataW.TrodAll enc P W' 0 sp true ts vs ds ps
 | [], vs, ds, ps, _, h, _, _ => by
  obtain ⟨rfl, rfl, rfl⟩ := trodAll_nil h
  exact trodAll_mk0
 | t :: ts, vs, ds, ps, ht, h, hlt, hsp => by
  obtain ⟨v, vs', d, ds', p, q, rfl, rfl, rfl, h1, h2⟩ := trodAll_cons h
  have hp : ∀ x ∈ p, x.block < W.heap.size := fun x hx => hlt x (List.mem_append_left _ hx)
  exact trodAll_cons_mk (WideElems.Trod_stays hl (ht t (List.mem_cons_self ..)).1 (ht t (List.mem_cons_self ..)).2 h1 (fun x hx => hb.same (hp x hx)) (fun x hx => hsp x (List.mem_append_left _ hx)))
   (trodAll_stays hl hb (fun u hu => ht u (List.mem_cons_of_mem _ hu)) h2 (fun x hx => hlt x (List.mem_append_right _ hx)) (fun x hx => hsp x (List.mem_append_right _ hx)))

theorem law_post (hl : laidOutB P = true) {f : Func} {s : ChangeSpec} {T : TypeId} (hts : ∀ t ∈ f.params.toList, P.readableRec t = true ∧ t < P.types.size) (hres : f.resultTypes = #[T]) (hT : P.underlying T = some .bool)
  (hvars : s.vars = []) {W W' : World} {args : Array Value} {ds gs : List (DataW H)} {before : List MemPlace} (hW : DataW.Whole enc P f.params.toList s.vars false W args.toList ds gs before)
  (hfn : s.fn H (ds ++ gs) = { results := [.lit (.bool true)], args := ds }) (hb : Below W.heap.size W W') : s.post enc P f false true false false W args (.bool true) W' := by
 have hlt : ∀ p ∈ before, p.block < W.heap.size := fun p hp => hW.lt p hp
 have hold : ∀ p ∈ before, (fun b => decide (b < W.heap.size)) p.block = true := fun p hp => by simpa using hlt p hp
 have hW' := hW
 obtain ⟨p, q, hA, hV, rfl, hz, hn⟩ := hW
 rw [hvars] at hV
 obtain ⟨rfl, rfl⟩ := trodVars_none hV
 refine ⟨ds, [], p ++ [], [], p, [], hW', ?_, ?_, ?_, World.keptBut_mono (fun x hx => ⟨hx, ?_⟩) (hb.frame (· ∈ p ++ [])), fun h => by cases h⟩
 ·rw [hfn, hres]
  exact trodAll_mk1 (shut_bool hT _)
 ·rw [hfn]
  exact trodAll_stays hl hb hts hA (fun x hx => hlt x (List.mem_append_left _ hx)) (fun x hx => hold x (List.mem_append_left _ hx))
 ·rw [hfn, hvars]
  exact rfl
 ·simpa using hx
end

section
variable {H : Type} {enc : TypeId × Value → H} {P : Program} {w : World} {base : Nat} {spare : Nat → Bool} {held : Bool}
theorem i64_lt {x : Int} (h : (Lit.int .i64 x).wf = true) : -9223372036854775808 ≤ x ∧ x < 9223372036854775808 := by
 simp [Lit.wf, IntKind.min, IntKind.max, IntKind.signed, IntKind.bits] at h
 omega
end

theorem own : ownKnob Tryz.prog.godebug = none := by kernel_rfl
theorem laidOut : laidOutB Tryz.prog = true := by kernel_rfl
end Go.Proofs.YtdpniceapmikpaaGreat
namespace Go.Proofs.YtdpniceapmikpaaGreat
open Go.ChangeShapes Go.WideShapes Go.ChangeAt Go.RowKit Go.Deep

section
variable {H : Type} {enc : TypeId × Value → H} {w : World} {base : Nat} {spare : Nat → Bool} {held : Bool} {n : Nat} {cs : List Value} {x : DataW H × List MemPlace}
theorem byte_trod (h : DataW.trod enc Tryz.prog w base spare held n 5 cs = some x) : ∃ c : UInt8, cs = [vu8 c] := by
 obtain ⟨k, e, _, hw⟩ := DataW.trod_int Tryz.underlying5 h
 simp [Lit.wf, IntKind.min, IntKind.max, IntKind.signed, IntKind.bits] at hw
 refine ⟨UInt8.ofNat k.toNat, ?_⟩
 rw [e]
 unfold vu8
 rw [UInt8.toNat_ofNat']
 congr 2
 omega
end
theorem pick_list {α : Type} (R : Nat → α → Prop) : ∀ (n : Nat), (∀ i, i < n → ∃ a, R i a) → ∃ l : List α, l.length = n ∧ ∀ i a, l[i]? = some a → R i a
 | 0, _ => ⟨[], rfl, fun i a h => by simp at h⟩
 | n + 1, h => by
  obtain ⟨l, h1, h2⟩ := pick_list R n (fun i hi => h i (by omega))
  obtain ⟨a, ha⟩ := h n (by omega)
  refine ⟨l ++ [a], by simp [h1], fun i b hb => ?_⟩
  rcases Nat.lt_or_ge i n with hi | hi
  ·rw [List.getElem?_append_left (by omega)] at hb
   exact h2 i b hb
  ·rw [List.getElem?_append_right (by omega), h1] at hb
   have : i = n := by
    rcases Nat.lt_or_ge (i - n) 1 with hh | hh
    ·omega
    ·rw [List.getElem?_eq_none (by simpa using hh)] at hb; cases hb
   subst this
   simp at hb
   rw [← hb]
   exact ha
section
variable {H : Type} {enc : TypeId × Value → H} {w : World} {n : Nat} {cs : List Value} {x : DataW H × List MemPlace}
set_option maxRecDepth 100000 in
theorem row_els {T e : TypeId} {C : Nat} (hu : Tryz.prog.underlying T = some (.slice e)) (hC : Tryz.prog.cellsOf e = C) (h0 : 0 < C) (h : DataW.trod enc Tryz.prog w 0 (fun _ => true) true n T cs = some x) :
  ∃ A len cap, cs = [.slice A len cap] ∧ len ≤ maxLen ∧ len ≤ cap ∧ ∀ i, i < len → ∃ g off cs' m y, A = some ⟨g, off, none⟩ ∧ g < w.heap.size ∧ (∀ j u, cs'[j]? = some u → w.cell? ⟨g, off + i * C + j, none⟩ = some u) ∧ DataW.trod enc Tryz.prog w 0 (fun _ => true) true m e cs' = some y := by
 rcases open_slice hu h with ⟨hcs, _⟩ | ⟨a, len, cap, m, k, D, Pl, hcs, hb, hl, hm, hmm, _, hi⟩
 ·exact ⟨none, 0, 0, hcs, Nat.zero_le _, Nat.le_refl _, fun i hi => absurd hi (Nat.not_lt_zero _)⟩
 ·simp at hmm
  refine ⟨some a, len, cap, hcs, by omega, hl, fun i hil => ?_⟩
  obtain ⟨cs', hc, ht⟩ := hi i (by omega)
  rw [hC] at hc
  obtain ⟨_, hlen, hat⟩ := World.cells?_some hc
  obtain ⟨b, off, spot⟩ := a
  have hspot : spot = none := by
   obtain ⟨cs0, hc0, _⟩ := hi 0 (by omega)
   rw [hC] at hc0
   obtain ⟨_, hl0, hat0⟩ := World.cells?_some hc0
   have h00 := hat0 0 h0
   rw [List.getElem?_eq_getElem (by omega)] at h00
   simpa [Addr.add] using World.cell?_spot h00
  subst hspot
  have g : ∀ j, j < C → w.cell? ⟨b, off + i * C + j, none⟩ = cs'[j]? := fun j hj => by
   rw [← hat j hj, Go.WideShapes.add_plain, Go.WideShapes.add_plain]
  have hg0 := g 0 h0
  rw [List.getElem?_eq_getElem (by omega)] at hg0
  refine ⟨b, off, cs', k, _, rfl, block_lt_of_cell hg0, fun j u hj => ?_, ht⟩
  have hjl : j < C := by
   rcases Nat.lt_or_ge j C with hh | hh
   ·exact hh
   ·rw [List.getElem?_eq_none (by omega)] at hj; cases hj
  rw [g j hjl, hj]
set_option maxRecDepth 100000 in
theorem bytes_trod (h : DataW.trod enc Tryz.prog w 0 (fun _ => true) true n 26 cs = some x) : ∃ v l, cs = [v] ∧ BytesIn w w.heap.size v l := by
 obtain ⟨A, len, cap, hcs, hm, hl, hi⟩ := row_els (C := 1) Tryz.underlying26 (by kernel_rfl) (by omega) h
 obtain ⟨l, hll, hR⟩ := pick_list (fun i (c : UInt8) => ∃ g off, A = some ⟨g, off, none⟩ ∧ g < w.heap.size ∧ w.cell? ⟨g, off + i, none⟩ = some (vu8 c)) len (fun i hil => by
  obtain ⟨g, off, cs', m, y, e1, e2, e3, e4⟩ := hi i hil
  obtain ⟨k, rfl⟩ := byte_trod e4
  exact ⟨k, g, off, e1, e2, by have := e3 0 _ rfl; simpa using this⟩)
 subst hll
 exact ⟨_, l, hcs, hm, A, cap, rfl, hl, fun j c hj => hR j c hj⟩
end
end Go.Proofs.YtdpniceapmikpaaGreat
namespace Go.Proofs.YtdpniceapmikpaaGreat
open Go.ChangeShapes Go.WideShapes Go.ChangeAt Go.RowKit Go.Deep

set_option maxRecDepth 100000 in
theorem open_bytes {H : Type} {enc : TypeId × Value → H} {w : World} {r : Reach} {b0 : Nat} {v : Value} {d : DataW H} {p : List MemPlace}
  (hv : Value.okWide Tryz.prog w r b0 26 v) (h : DataW.Trod enc Tryz.prog w 0 (fun _ => true) true 26 v d p) :
  ∃ (a : Option Addr) (l : List UInt8) (c : Nat), v = .slice a l.length c ∧ BytesIn w w.heap.size (.slice a l.length c) l ∧ c ≤ maxLen := by
 obtain ⟨a, n, c, rfl⟩ := okWide_slice Tryz.underlying26 hv
 obtain ⟨fuel, hf⟩ := h
 obtain ⟨v', l, e, hb⟩ := bytes_trod hf
 have e' : (.slice a n c : Value) = v' := by simpa [Value.cells] using e
 subst e'
 have hc : c ≤ maxLen := by
  rcases open_slice Tryz.underlying26 hf with ⟨hcs, _⟩ | ⟨a', len', cap', m, k, D, Pl, hcs, _, _, hm, _⟩
  ·simp [Value.cells] at hcs
   omega
  ·simp [Value.cells] at hcs
   obtain ⟨_, _, rfl⟩ := hcs
   exact hm
 have hn : l.length = n := by
  obtain ⟨_, a', c', e2, _⟩ := hb
  injection e2 with _ h2 _
  exact h2.symm
 subst hn
 exact ⟨a, l, c, rfl, hb, hc⟩
set_option maxRecDepth 100000 in
theorem logsStates_lifted (os : Os) (started : os.Started) (H : Type) (enc : TypeId × Value → H) :
  ReturnsInHanded {} Tryz.checked os 4 .any (Rows.logsStatesSpec.pre6 enc Tryz.prog Tryz.f4 Rows.logsStatesRow.domain false) (Rows.logsStatesSpec.post enc Tryz.prog Tryz.f4 false true false false) := by
 refine returnsInHanded_of_change (C := Tryz.checked) own started (by kernel_rfl) Tryz.func4
  (ChangeSpec.witness6 (enc := enc) (C := Tryz.checked) false ⟨#[], #[.slice none 0 0, .int .i64 0, .int .i64 0], []⟩ 8 (by kernel_rfl) (by kernel_rfl) (by kernel_rfl) (by kernel_rfl)) ?_
 intro W base args ds gs before hval0 hW hcnd _
 have hval : ∀ (j : Nat) t v, Tryz.f4.params[j]? = some t → args[j]? = some v → Value.okWide Tryz.prog W .any base t v := hval0
 have hW' := hW
 obtain ⟨p, q, hA0, hV, rfl, hfz, hnd⟩ := hW
 have hA : DataW.TrodAll enc Tryz.prog W 0 (fun _ => true) true Tryz.f4.params.toList args.toList ds p := hA0
 rw [Tryz.params4] at hA hval
 obtain ⟨v0, v1, v2, d0, d1, d2, p0, p1, p2, rfl, rfl, rfl, h0, h1, h2⟩ := trodAll_three hA
 obtain ⟨rfl, rfl⟩ := trodVars_none hV
 obtain ⟨a, st, c, rfl, hb, hc⟩ := open_bytes (hval 0 _ v0 rfl rfl) h0
 obtain ⟨ed, rfl, _, _, wx⟩ := open_int Tryz.underlying2 (hval 1 _ v1 rfl rfl) h1
 obtain ⟨area, rfl, _, _, _⟩ := open_int Tryz.underlying3 (hval 2 _ v2 rfl rfl) h2
 have hed : ed < 9223372036854775808 := (i64_lt wx).2
 clear hA0 hval0
 refine (states_any a c st ed area W hb hc (stGo 4 area ⟨ed, [], [], st⟩ blank32 blank_calm blank_inR rfl rfl (by show ed ≤ _; omega) (fun n => by rw [blank_reads]; exact blank_none) (fun n => by rw [blank_reads]; exact blank_num))).mono fun e W' ⟨he, hb⟩ => ?_
 subst he
 exact ⟨_, rfl, law_post laidOut (by rw [Tryz.params4]; intro t ht; simp at ht; rcases ht with rfl | rfl | rfl <;> exact ⟨by kernel_rfl, of_decide_eq_true (by kernel_rfl)⟩) rfl Tryz.underlying4 rfl hW' rfl hb⟩

theorem logsStates_holds : Rows.LogsStatesSaid :=
 OpenClaim.holds_of_wide 4 Tryz.f4 rfl rfl rfl rfl rfl rfl rfl ⟨rfl, rfl, rfl, rfl, rfl⟩ rfl rfl rfl rfl rfl (by kernel_rfl) Tryz.func4 (by kernel_rfl)
  (of_decide_eq_true (by kernel_rfl)) (by unfold Func.isWrapper; first | (rw [if_pos (by decide +kernel)]; kernel_rfl) | (rw [if_neg (by decide +kernel)]; exact ⟨rfl, rfl⟩))
  (fun os started H enc _ => logsStates_lifted os started H enc)

end Go.Proofs.YtdpniceapmikpaaGreat
