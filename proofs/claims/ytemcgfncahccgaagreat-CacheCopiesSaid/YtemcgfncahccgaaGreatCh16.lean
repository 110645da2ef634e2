/-
  The program's cache in memory.
  The program's cache: gone, asked.
  The program's cache: asked, Place.
  The program's cache: clean, an iterator over what is at hand and has not changed, in the order of use.
-/
import Derived.Test.YtemcgfncahccgaaGreatCh7
import Derived.Test.YtemcgfncahccgaaGreatCh15
set_option linter.unusedVariables false
set_option linter.unusedSimpArgs false
namespace Go.Proofs.YtemcgfncahccgaaGreat
open Go.RowKit Go.Shelf

/-- an item in a block of its own; it is never written again -/
def ItemAt (w : World) (b : Nat) (y : ItemD) : Prop := y.o.ok ∧ Blk w b 103 (y.o.cells ++ [Value.bool y.ch]).toArray
/-- where a cache lies: its block, its disk's, its map's, the rows of its places and of what was used, the blocks of its items -/
structure CacheP where
 g : Nat
 dp : Nat
 r : Nat
 pv : Value
 uv : Value
 bs : List Nat
/-- what is written -/
def CacheP.own (C : CacheP) (i : Nat) : Prop := i = C.g ∨ i = C.r ∨ C.pv.ownBlock = some i
def CacheP.has (C : CacheP) (i : Nat) : Prop := C.own i ∨ C.uv.ownBlock = some i ∨ i ∈ C.bs
def oidsOf (h : List ItemD) : List Int := h.map (·.oid)
/-- the map holds f, what was used is us -/
structure CacheRaw (w : World) (C : CacheP) (room : Int) (ps : List Int) (f : Int → Option ItemD) (us : List Int) : Prop where
 blk : Blk w C.g 97 #[ptr C.dp, .int .i64 room, C.pv, .map (some C.r), C.uv]
 places : w.ownsRow 0 3 1 C.pv ps.length (ps.map (Value.int .i64))
 used : w.ownsRow 0 3 1 C.uv us.length (us.map (Value.int .i64))
 apart : ∀ i, C.pv.ownBlock = some i → C.uv.ownBlock ≠ some i
 hand : ∃ l c, MapG w C.r .i64 l c ∧ ∀ m, (∃ y b, f m = some y ∧ lookG l m = some (ptr b) ∧ b ∈ C.bs ∧ ItemAt w b y) ∨ (f m = none ∧ lookG l m = none)
 items : ∀ b ∈ C.bs, ∃ cs, Blk w b 103 cs
def CacheAt (w : World) (C : CacheP) (x : CacheD) : Prop := CacheRaw w C x.room x.places (itemOf x.hand) (oidsOf x.hand)

section
variable {w w' : World} {C : CacheP} {room : Int} {ps us : List Int} {f : Int → Option ItemD} {F : Nat → Prop}
theorem Out.mapG (h : Out F w w') {r c : Nat} {kd : IntKind} {l : List EntG} (hb : MapG w r kd l c) (hg : ¬ F r) : MapG w' r kd l c := hb.same (h.block r hb.lt hg)
theorem ItemAt.out {b : Nat} {y : ItemD} (h : ItemAt w b y) (ho : Out F w w') (hF : ¬ F b) : ItemAt w' b y := ⟨h.1, ho.blk h.2 hF⟩
theorem CacheRaw.out (h : CacheRaw w C room ps f us) (ho : Out F w w') (hF : ∀ i, C.has i → ¬ F i) : CacheRaw w' C room ps f us := by
 refine ⟨ho.blk h.blk (hF _ (.inl (.inl rfl))), ownsRow_out ho h.places (fun g hg => hF g (.inl (.inr (.inr hg)))), ownsRow_out ho h.used (fun g hg => hF g (.inr (.inl hg))), h.apart, ?_, fun b hb => ?_⟩
 ·obtain ⟨l, c, hm, hl⟩ := h.hand
  refine ⟨l, c, ho.mapG hm (hF _ (.inl (.inr (.inl rfl)))), fun m => ?_⟩
  rcases hl m with ⟨y, b, h1, h2, h3, h4⟩ | h1
  ·exact .inl ⟨y, b, h1, h2, h3, h4.out ho (hF b (.inr (.inr h3)))⟩
  ·exact .inr h1
 ·obtain ⟨cs, hc⟩ := h.items b hb
  exact ⟨cs, ho.blk hc (hF b (.inr (.inr hb)))⟩
theorem CacheRaw.has_lt (h : CacheRaw w C room ps f us) (i : Nat) (hi : C.has i) : i < w.heap.size := by
 rcases hi with (rfl | rfl | hi) | hi | hi
 ·exact h.blk.lt
 ·obtain ⟨l, c, hm, _⟩ := h.hand
  exact hm.lt
 ·exact ownBlock_lt h.places hi
 ·exact ownBlock_lt h.used hi
 ·obtain ⟨cs, hc⟩ := h.items i hi
  exact hc.lt
theorem CacheRaw.below (h : CacheRaw w C room ps f us) (hb : Below w.heap.size w w') : CacheRaw w' C room ps f us := h.out (F := fun _ => False) (outB hb) (fun _ _ => id)
theorem CacheRaw.drew (h : CacheRaw w C room ps f us) : CacheRaw w.drew C room ps f us := h.out (F := fun _ => False) ⟨rfl, rfl, rfl, Nat.le_refl _, fun _ _ _ => rfl⟩ (fun _ _ => id)
/-- the block of the cache is none of the others -/
theorem CacheRaw.ne (h : CacheRaw w C room ps f us) : C.r ≠ C.g ∧ (∀ i, C.pv.ownBlock = some i → i ≠ C.g) ∧ (∀ i, C.uv.ownBlock = some i → i ≠ C.g) ∧ (∀ b ∈ C.bs, b ≠ C.g) := by
 refine ⟨fun e => ?_, fun i hi => ne_own h.places h.blk (by decide) i hi, fun i hi => ne_own h.used h.blk (by decide) i hi, fun b hb => ?_⟩
 ·obtain ⟨l, c, hm, _⟩ := h.hand
  have := hm.block
  rw [e, (show _ = _ from h.blk)] at this
  cases this
 ·obtain ⟨cs, hc⟩ := h.items b hb
  exact Blk.ne_ hc h.blk (by decide)
/-- the map's block is none of the others -/
theorem CacheRaw.neR (h : CacheRaw w C room ps f us) : (∀ i, C.pv.ownBlock = some i → i ≠ C.r) ∧ (∀ i, C.uv.ownBlock = some i → i ≠ C.r) ∧ (∀ b ∈ C.bs, b ≠ C.r) := by
 obtain ⟨l, c, hm, _⟩ := h.hand
 refine ⟨fun i hi e => ?_, fun i hi e => ?_, fun b hb e => ?_⟩
 ·obtain ⟨o, ho, hc⟩ := ownsRow_cells h.places i hi
  rw [e, hm.block] at ho; cases ho; cases hc
 ·obtain ⟨o, ho, hc⟩ := ownsRow_cells h.used i hi
  rw [e, hm.block] at ho; cases ho; cases hc
 ·obtain ⟨cs, hc⟩ := h.items b hb
  have := (show _ = _ from hc)
  rw [e, hm.block] at this
  cases this
/-- the step of a cache in memory -/
structure CStep (C C' : CacheP) (w w' : World) : Prop where
 out : Out C.own w w'
 same : C'.g = C.g ∧ C'.dp = C.dp ∧ C'.r = C.r ∧ C'.pv = C.pv
 new_ : ∀ i, C'.has i → C.has i ∨ w.heap.size ≤ i
theorem CStep.refl (C : CacheP) (w : World) : CStep C C w w := ⟨Out.refl _ _, ⟨rfl, rfl, rfl, rfl⟩, fun _ h => .inl h⟩
theorem CStep.own_ {C C' : CacheP} {w w' : World} (h : CStep C C' w w') (i : Nat) : C'.own i ↔ C.own i := by
 unfold CacheP.own
 rw [h.same.1, h.same.2.2.1, h.same.2.2.2]
theorem CStep.trans {C C1 C2 : CacheP} {w w1 w2 : World} (h : CStep C C1 w w1) (k : CStep C1 C2 w1 w2) : CStep C C2 w w2 :=
 ⟨h.out.trans k.out (fun i hi hd => (h.own_ i).1 hd), ⟨k.same.1.trans h.same.1, k.same.2.1.trans h.same.2.1, k.same.2.2.1.trans h.same.2.2.1, k.same.2.2.2.trans h.same.2.2.2⟩, fun i hi => (k.new_ i hi).elim (h.new_ i) (fun hs => .inr (by have := h.out.size; omega))⟩
theorem CStep.below {C C' : CacheP} {w w1 w2 : World} (h : CStep C C' w w1) (hb : Below w1.heap.size w1 w2) : CStep C C' w w2 := ⟨h.out.trans (G := fun _ => False) (outB hb) (fun _ _ => False.elim), h.same, h.new_⟩
theorem CStep.first {C C' : CacheP} {w0 w w1 : World} (h : CStep C C' w w1) (hb : Below w0.heap.size w0 w) : CStep C C' w0 w1 :=
 ⟨(outB hb : Out C.own w0 w).trans h.out (fun _ _ => id), h.same, fun i hi => (h.new_ i hi).imp id (fun hs => by have := hb.size; omega)⟩
/-- the field 'used' is set to a new row -/
theorem CacheRaw.use_ (h : CacheRaw w C room ps f us) (vs : List Int) (v : Value) (hv : w.ownsRow 0 3 1 v vs.length (vs.map (Value.int .i64)))
  (hn : ∀ i, v.ownBlock = some i → ¬ C.own i) : CacheRaw (w.setCell ⟨C.g, 4, none⟩ v) { C with uv := v } room ps f vs := by
 have hout : Out (fun i => i = C.g) w (w.setCell ⟨C.g, 4, none⟩ v) := out_set rfl
 obtain ⟨n1, n2, n3, n4⟩ := h.ne
 refine ⟨h.blk.set_ 4 _, ownsRow_out hout h.places (fun i hi => n2 i hi), ownsRow_out hout hv (fun i hi e => hn i hi (.inl e)), fun i hi e => hn i e (.inr (.inr hi)), ?_, fun b hb => ?_⟩
 ·obtain ⟨l, c, hm, hl⟩ := h.hand
  refine ⟨l, c, hout.mapG hm n1, fun m => ?_⟩
  rcases hl m with ⟨y, b, h1, h2, h3, h4⟩ | h1
  ·exact .inl ⟨y, b, h1, h2, h3, h4.out hout (n4 b h3)⟩
  ·exact .inr h1
 ·obtain ⟨cs, hc⟩ := h.items b hb
  exact ⟨cs, hout.blk hc (n4 b hb)⟩
theorem turn_out {r : Nat} (h : Turn r w w') : Out (fun i => i = r) w w' := ⟨h.os, h.tape, h.output, Nat.le_of_eq h.size.symm, fun i _ hn => h.block i hn⟩
/-- the map is turned: an entry is put out -/
theorem CacheRaw.drop_ (h : CacheRaw w C room ps f us) {l' : List EntG} {c' : Nat} (ht : Turn C.r w w') (hm' : MapG w' C.r .i64 l' c') (l : List EntG) (n : Int) (hl : ∀ m, (∃ y b, f m = some y ∧ lookG l m = some (ptr b) ∧ b ∈ C.bs ∧ ItemAt w b y) ∨ (f m = none ∧ lookG l m = none))
  (hl' : ∀ m, lookG l' m = if m = n then none else lookG l m) : CacheRaw w' C room ps (fun m => if m = n then none else f m) us := by
 have hout := turn_out ht
 obtain ⟨n1, n2, n3, n4⟩ := h.ne
 obtain ⟨m2, m3, m4⟩ := h.neR
 refine ⟨hout.blk h.blk (Ne.symm n1), ownsRow_out hout h.places (fun i hi => m2 i hi), ownsRow_out hout h.used (fun i hi => m3 i hi), h.apart, ⟨l', c', hm', fun m => ?_⟩, fun b hb => ?_⟩
 ·rw [hl']
  by_cases e : m = n
  ·exact .inr ⟨by rw [if_pos e], by rw [if_pos e]⟩
  ·rw [if_neg e, if_neg e]
   rcases hl m with ⟨y, b, h1, h2, h3, h4⟩ | h1
   ·exact .inl ⟨y, b, h1, h2, h3, h4.out hout (m4 b h3)⟩
   ·exact .inr h1
 ·obtain ⟨cs, hc⟩ := h.items b hb
  exact ⟨cs, hout.blk hc (m4 b hb)⟩
/-- an entry is put in -/
theorem CacheRaw.put_ (h : CacheRaw w C room ps f us) {l' : List EntG} {c' : Nat} (ht : Turn C.r w w') (hm' : MapG w' C.r .i64 l' c') (l : List EntG) (n : Int) (hl : ∀ m, (∃ y b, f m = some y ∧ lookG l m = some (ptr b) ∧ b ∈ C.bs ∧ ItemAt w b y) ∨ (f m = none ∧ lookG l m = none))
  (b0 : Nat) (y0 : ItemD) (hy : ItemAt w b0 y0) (hl' : ∀ m, lookG l' m = if m = n then some (ptr b0) else lookG l m) : CacheRaw w' { C with bs := b0 :: C.bs } room ps (fun m => if m = n then some y0 else f m) us := by
 have hout := turn_out ht
 obtain ⟨n1, n2, n3, n4⟩ := h.ne
 obtain ⟨m2, m3, m4⟩ := h.neR
 have hne : b0 ≠ C.r := fun e => by
  obtain ⟨l, c, hm, _⟩ := h.hand
  have := hm.block
  rw [← e, show _ = _ from hy.2] at this
  cases this
 refine ⟨hout.blk h.blk (Ne.symm n1), ownsRow_out hout h.places (fun i hi => m2 i hi), ownsRow_out hout h.used (fun i hi => m3 i hi), h.apart, ⟨l', c', hm', fun m => ?_⟩, fun b hb => ?_⟩
 ·rw [hl']
  by_cases e : m = n
  ·exact .inl ⟨y0, b0, by rw [if_pos e], by rw [if_pos e], List.mem_cons_self, hy.out hout hne⟩
  ·rw [if_neg e, if_neg e]
   rcases hl m with ⟨y, b, h1, h2, h3, h4⟩ | h1
   ·exact .inl ⟨y, b, h1, h2, List.mem_cons_of_mem _ h3, h4.out hout (m4 b h3)⟩
   ·exact .inr h1
 ·rcases List.mem_cons.1 hb with rfl | hb
  ·exact ⟨_, hout.blk hy.2 hne⟩
  ·obtain ⟨cs, hc⟩ := h.items b hb
   exact ⟨cs, hout.blk hc (m4 b hb)⟩
end
end Go.Proofs.YtemcgfncahccgaaGreat
namespace Go.Proofs.YtemcgfncahccgaaGreat
open Go.RowKit Go.Shelf

section
variable {P : Program} {t k e : TypeId} {kd : IntKind} {r c : Nat} {l : List EntG}
theorem wpList_dropG (w : World) {ops : Array Oper} {rest : List Oper} {o : Oper} {a : Act} {Q : Exit → Act → World → Prop}
  (hg : o.guard = none) (m x : Operand) (hop : o.op = Op.call { callee := Callee.builtin Builtin.delete, args := #[m, x], argTypes := #[t, k] })
  (ht : P.underlying t = some (.map k e)) (hk : P.underlying k = some (.int kd)) (hm : MapG w r kd l c) (hma : a.eval m = .map (some r)) (n : Int) (hx : a.eval x = .int kd n)
  (hK : ∀ w' l', MapG w' r kd l' c → (∀ m, lookG l' m = if m = n then none else lookG l m) → Turn r w w' → wpList P ops Q rest (a.put o.dst (.tuple #[])) w') :
  wpList P ops Q (o :: rest) a w := by
 refine wpList_plain hg fun K' hK' => ?_
 obtain ⟨w', l', hrun, r1, r2, _, r3⟩ := run_dropG (P := P) w ht hk hm n o.type
 unfold Oper.wp
 simp [execOp, hop, resolve, invoke, builtin, hma, hx, hrun, Result.andThen]
 exact hK' _ _ (hK w' l' r1 r2 r3)
theorem wpList_storeG (w : World) {ops : Array Oper} {rest : List Oper} {o : Oper} {a : Act} {Q : Exit → Act → World → Prop}
  (hg : o.guard = none) (m x v : Operand) (hop : o.op = Op.mapUpdate t m x v)
  (ht : P.underlying t = some (.map k e)) (hk : P.underlying k = some (.int kd)) (hm : MapG w r kd l c) (hma : a.eval m = .map (some r)) (n : Int) (hx : a.eval x = .int kd n) (y : Value) (hy : a.eval v = y)
  (hK : ∀ w' l' c', MapG w' r kd l' c' → (∀ m, lookG l' m = if m = n then some y else lookG l m) → Turn r w w' → wpList P ops Q rest (a.put o.dst undef) w') :
  wpList P ops Q (o :: rest) a w := by
 refine wpList_plain hg fun K' hK' => ?_
 obtain ⟨w', l', c', hrun, r1, r2, _, r3⟩ := run_storeG (P := P) w ht hk hm n y
 unfold Oper.wp
 simp [execOp, hop, hma, hx, hy, hrun, Result.andThen]
 exact hK' _ _ (hK w' l' c' r1 r2 r3)
end

set_option maxHeartbeats 2000000 in
theorem gone_any (C : CacheP) (room : Int) (ps us : List Int) (f : Int → Option ItemD) (oid : Int) (w : World) (h : CacheRaw w C room ps f us) (hl : us.length ≤ 1000000) :
  Calls Tryz.prog 46 #[ptr C.g, .int .i64 oid] w fun e w' => e = .returned (.tuple #[]) ∧ ∃ C', CacheRaw w' C' room ps (fun m => if m = oid then none else f m) (woL us oid) ∧ CStep C C' w w' := by
 obtain ⟨l, c, hm, hlk⟩ := h.hand
 have HLK := Lib.hid hlk
 have c3 := h.blk.cell_is 3 rfl
 have H := Lib.hid h
 unfold ptr
 clear h hlk
 go_enter Tryz.func46, Tryz.ntmps46
 go_wp2_with (at_delete; refine wpList_dropG _ rfl _ _ rfl Tryz.underlying95 Tryz.underlying3 hm rfl oid rfl ?_; intro w1 l1 hm1 hl1 ht1; have H1 := Lib.hid (H.out.drop_ ht1 hm1 l oid HLK.out hl1); have d3 := H1.out.blk.cell_is 4 rfl)
 have hrow := H1.out.used
 refine (without_any C.uv us oid w1 hl (ownsRow_ints hrow hl)).mono ?_
 rintro e w2 ⟨v2, rfl, ho, hb⟩
 have hO2 := Lib.hid ho
 have hB2 := Lib.hid hb
 have H2 := Lib.hid (H1.out.below hb)
 have c4 := H2.out.blk.cell_is 4 rfl
 have f4 := H2.out.blk.frozen 4
 obtain ⟨a2, cap2, rfl⟩ := slice_form ho
 clear ho hb hrow c3 d3
 go_wp2_with fail
 go_end0
 have hnew : ∀ i, (Value.slice a2 (woL us oid).length cap2).ownBlock = some i → w1.heap.size ≤ i := fun i hi => (hO2.out.lt i hi).1
 refine ⟨rfl, _, H2.out.use_ (woL us oid) _ (hO2.out.mono (Nat.zero_le _)) (fun i hi hC => ?_), ⟨?_, ⟨rfl, rfl, rfl, rfl⟩, fun i hi => ?_⟩⟩
 ·have := hnew i hi
  have := H1.out.has_lt i (.inl hC)
  omega
 ·exact (((Out.refl C.own w).trans (turn_out ht1) (fun i _ e => .inr (.inl e))).trans (G := fun _ => False) (outB hB2.out) (fun _ _ => False.elim)).trans (out_set (F := C.own) (.inl rfl)) (fun _ _ h => h)
 ·rcases hi with hi | hi | hi
  ·exact .inl (.inl hi)
  ·exact .inr (by have := hnew i hi; rw [ht1.size] at this; exact this)
  ·exact .inl (.inr (.inr hi))
end Go.Proofs.YtemcgfncahccgaaGreat
namespace Go.Proofs.YtemcgfncahccgaaGreat
open Go.RowKit Go.Shelf

def thereE (ps : List Int) (oid : Int) : Int := if 0 ≤ oid ∧ oid < (ps.length : Int) then 0 else 4
set_option maxHeartbeats 2000000 in
theorem askc_any (C : CacheP) (room : Int) (ps us : List Int) (f : Int → Option ItemD) (oid : Int) (w : World) (h : CacheRaw w C room ps f us) (hl : ps.length ≤ 1000000) :
  Calls Tryz.prog 41 #[ptr C.g, .int .i64 oid] w fun e w' => e = .returned (.int .i64 (thereE ps oid)) ∧ w' = w := by
 have c0 := h.blk.cell_is 0 rfl
 have c2 := h.blk.cell_is 2 rfl
 obtain ⟨a, cap, ev⟩ := slice_form h.places
 rw [ev] at c2
 have hrest : oid < 0 ∨ (¬ oid < 0 ∧ (ps.length : Int) ≤ oid) ∨ (¬ oid < 0 ∧ ¬ (ps.length : Int) ≤ oid) := by omega
 unfold ptr at *
 clear h ev
 rcases hrest with h0 | ⟨h0, h1⟩ | ⟨h0, h1⟩
 ·have e0 : decide (oid < 0) = true := by simpa using h0
  have ee : thereE ps oid = 4 := by unfold thereE; rw [if_neg (by omega)]
  rw [ee]
  clear ee
  go_enter Tryz.func41, Tryz.ntmps41
  go_wp2_with fail
  go_ret
  exact ⟨rfl, rfl⟩
 ·have e0 : decide (oid < 0) = false := by simpa using h0
  have e1 : decide ((ps.length : Int) ≤ oid) = true := by simpa using h1
  have ee : thereE ps oid = 4 := by unfold thereE; rw [if_neg (by omega)]
  rw [ee]
  clear ee
  go_enter Tryz.func41, Tryz.ntmps41
  go_wp2_with fail
  go_ret
  exact ⟨rfl, rfl⟩
 ·have e0 : decide (oid < 0) = false := by simpa using h0
  have e1 : decide ((ps.length : Int) ≤ oid) = false := by simpa using h1
  have ee : thereE ps oid = 0 := by unfold thereE; rw [if_pos (by omega)]
  rw [ee]
  clear ee
  go_enter Tryz.func41, Tryz.ntmps41
  go_wp2_with fail
  go_ret
  exact ⟨rfl, rfl⟩
end Go.Proofs.YtemcgfncahccgaaGreat
namespace Go.Proofs.YtemcgfncahccgaaGreat
open Go.RowKit Go.Shelf

attribute [local go_sem] Oper.semAt_some

theorem wpListIn_lookG {F : Fence} {nF : Nat} {P : Program} {t k e : TypeId} {kd : IntKind} {r c : Nat} {l : List EntG} (w : World) {ops : Array Oper} {rest : List Oper} {o : Oper} {a : Act} {Q : Exit → Act → World → Prop}
  (hg : o.guard = none) (m x : Operand) (hop : o.op = Op.lookup t m x false) (ht : P.underlying t = some (.map k e)) (hk : P.underlying k = some (.int kd)) (hm : MapG w r kd l c) (hma : a.eval m = .map (some r)) (n : Int) (hx : a.eval x = .int kd n)
  (v : Value) (hn : lookG l n = some v) (hK : wpListIn F nF P ops Q rest (a.put o.dst v) w) :
  wpListIn F nF P ops Q (o :: rest) a w := by
 refine wpListIn_plain hg fun K' hK' => ?_
 have hrun := run_look_yes (P := P) w ht hk hm n v hn false
 simp only [Bool.false_eq_true, if_false] at hrun
 unfold Oper.wpIn
 refine ⟨by simp [Oper.about, hop], ?_⟩
 rw [Oper.semAt_plain F _ _ (by rw [hop]; intro c hc'; cases hc')]
 simp [execOp, hop, hma, hx, hrun, Result.andThen]
 exact hK' _ _ hK

def isClean (f : Int → Option ItemD) (m : Int) : Bool := match f m with | some y => !y.ch | none => false
def cleanU (f : Int → Option ItemD) (us : List Int) : List Int := us.filter (isClean f)
theorem cleanU_next (f : Int → Option ItemD) (us : List Int) (k : Nat) (m : Int) (h : us[k]? = some m) : cleanU f (us.take (k + 1)) = cleanU f (us.take k) ++ if isClean f m then [m] else [] := by
 unfold cleanU
 rw [List.take_add_one, h, List.filter_append]
 congr 1
 by_cases e : isClean f m = true
 ·simp [e]
 ·simp [e]
theorem cleanU_prefix (f : Int → Option ItemD) (us : List Int) (k : Nat) : cleanU f (us.take k) <+: cleanU f us := (List.take_prefix k us).filter _
theorem item_ch {w : World} {b : Nat} {y : ItemD} (h : ItemAt w b y) : w.cell? ⟨b, 163, none⟩ = some (.bool y.ch) := by
 have h1 : (y.o.cells ++ [Value.bool y.ch]).toArray[163]? = some (Value.bool y.ch) := by
  rw [List.getElem?_toArray, List.getElem?_append_right (by rw [ObjD.len h.1]; exact Nat.le_refl _), ObjD.len h.1]
  rfl
 exact h.2.cell_is 163 h1

set_option maxRecDepth 100000 in
set_option maxHeartbeats 2000000 in
theorem clean1_in (n : Nat) (hn : 1 ≤ n) (l Bs : Nat) (S : Nat → Prop) (C : CacheP) (room : Int) (ps us : List Int) (f : Int → Option ItemD) (hm : us.length ≤ 1000000) (hf : ∀ m ∈ us, f m ≠ none) (J Jx : List Int → World → Prop)
  (hY : ∀ pre y W, J pre W → pre.length < (cleanU f us).length → YieldAt Fence.wide (n - 1) Tryz.prog l (vi y) W fun e W' =>
   (e = .returned (.bool true) ∧ J (pre ++ [y]) W' ∧ KeepsB S W W') ∨ (e = .returned (.bool false) ∧ Jx (pre ++ [y]) W'))
  (W : World) (hBs : W.cell? ⟨Bs, 0, none⟩ = some (ptr C.g)) (hSB : S Bs) (hBl : Bs < W.heap.size) (hD : CacheRaw W C room ps f us) (hS : ∀ i, C.has i → S i) (h0 : J [] W) :
  CallsIn Fence.wide n Tryz.prog 77 #[.func (.yield l) #[] #[], .pointer (some ⟨Bs, 0, none⟩)] W fun e W' => (∃ v, e = .returned v) ∧
   ((∃ zs, zs = cleanU f us ∧ J zs W') ∨ (∃ pre, pre <+: cleanU f us ∧ Jx pre W')) := by
 have hro : Fence.wide.round = none := rfl
 obtain ⟨_, a, cap, ev, hcap, hc⟩ := ownsRow_ints hD.used hm
 have c4 := hD.blk.cell_is 4 rfl
 rw [ev] at c4
 have HC := Lib.hid hc
 have HD := Lib.hid hD
 have HS := Lib.hid hS
 have HF := Lib.hid hf
 have EV := Lib.hid ev
 unfold ptr at *
 clear hc hD hS hf ev
 refine callsIn_of_wp Tryz.func77 rfl trivial ?_ hro
 simp only [Tryz.ntmps77, List.size_toArray, List.length_cons, List.length_nil, Nat.reduceAdd, Nat.reduceSub, Array.replicate_succ, Array.replicate_zero, List.push_toArray, List.append_toArray, List.nil_append, List.cons_append]
 gi_wp2
 gi_loopw [12] (fun i wr => ∃ k : Nat, k ≤ us.length ∧ i = .int .i64 (k : Int) ∧ J (cleanU f (us.take k)) wr ∧ KeepsB S W wr)
  (fun i _ => us.length - (intOf i).toNat)
 case atStart => exact ⟨0, Nat.zero_le _, rfl, h0, KeepsB.refl _ _⟩
 case round =>
  obtain ⟨k, hk, rfl, hJs, hnx⟩ := hrel
  by_cases hlt : k < us.length
  ·obtain ⟨g, off, rfl, hg, hrg⟩ := HC.out k (us[k]'hlt) (by rw [List.getElem?_eq_getElem hlt])
   have hlt' : (k : Int) < (us.length : Int) := by omega
   have hSg : S g := HS.out g (.inr (.inl (by rw [EV.out]; rfl)))
   have hcell := (hnx.cell (i := off + k) hSg hg).trans hrg
   have hbx := (hnx.cell (i := 0) hSB hBl).trans hBs
   have hNX := cleanU_next f us k (us[k]'hlt) (List.getElem?_eq_getElem hlt)
   have hmem : us[k]'hlt ∈ us := List.getElem_mem hlt
   have hpre := cleanU_prefix f us (k + 1)
   generalize us[k]'hlt = m at *
   obtain ⟨l0, c0, hmap, hlk⟩ := HD.out.hand
   rcases hlk m with ⟨y, b, h1, h2, h3, h4⟩ | ⟨h1, _⟩
   case inr => exact absurd h1 (HF.out m hmem)
   have c3 := (hnx.cell (i := 3) (HS.out _ (.inl (.inl rfl))) HD.out.blk.lt).trans (HD.out.blk.cell_is 3 rfl)
   have hmap2 : MapG wr C.r .i64 l0 c0 := hmap.same (hnx.block _ (HS.out _ (.inl (.inr (.inl rfl)))) hmap.lt)
   have hch := (hnx.cell (i := 163) (HS.out b (.inr (.inr h3))) h4.2.lt).trans (item_ch h4)
   have hic : isClean f m = !y.ch := by unfold isClean; rw [h1]
   have HNX := Lib.hid hNX
   unfold ptr at h2
   clear hNX hlk h1 h3 h4
   cases hy0 : y.ch
   ·rw [hy0] at hch hic
    have hNX := HNX.out
    rw [hic] at hNX
    have hlen1 : (cleanU f (us.take k)).length < (cleanU f us).length := by
     have := hpre.length_le
     rw [hNX, List.length_append] at this
     simp at this
     omega
    obtain ⟨fn, tmps, assign, body, hyy, hR⟩ := hY _ m _ hJs hlen1
    simp only [vi] at hyy
    have HNX2 := Lib.hid hNX
    clear hNX HNX hic hy0
    gi_wp2_with (refine wpListIn_lookG _ rfl _ _ rfl Tryz.underlying95 Tryz.underlying3 hmap2 rfl m rfl _ h2 ?_)
    refine hR.mono ?_
    rintro e W3 (⟨rfl, hJ3, hk3⟩ | ⟨rfl, hJx3⟩)
    ·gi_wp2
     go_roundw
     case rel => exact ⟨k + 1, by omega, by simp, by rw [HNX2.out]; exact hJ3, hnx.trans hk3⟩
     case measure => simp [intOf]; omega
    ·gi_wp2
     refine bodyPost_ret (results_none rfl _ _ _) rfl ?_
     exact ⟨⟨_, rfl⟩, .inr ⟨_, by have := HNX2.out; simp at this; rw [← this]; exact hpre, hJx3⟩⟩
   ·rw [hy0] at hch hic
    have hNX := HNX.out
    rw [hic] at hNX
    simp only [Bool.not_true, Bool.false_eq_true, if_false, List.append_nil] at hNX
    have HNX2 := Lib.hid hNX
    clear hNX HNX hic hy0
    gi_wp2_with (refine wpListIn_lookG _ rfl _ _ rfl Tryz.underlying95 Tryz.underlying3 hmap2 rfl m rfl _ h2 ?_)
    refine ⟨by simp, ?_⟩
    gi_wp2
    go_roundw
    case rel => exact ⟨k + 1, by omega, by simp, by rw [HNX2.out]; exact hJs, hnx⟩
    case measure => simp [intOf]; omega
  ·obtain rfl : k = us.length := by omega
   rw [List.take_length] at hJs
   gi_wp2
   go_end0
   exact ⟨⟨_, rfl⟩, .inl ⟨_, rfl, hJs⟩⟩

set_option maxHeartbeats 1000000 in
theorem clean_in (n : Nat) (g : Nat) (w : World) :
  CallsIn Fence.wide n Tryz.prog 45 #[ptr g] w fun e w' => e = .returned (.func (.func 77) #[] #[.pointer (some ⟨w.heap.size, 0, none⟩)]) ∧ w' = w.alloc (.cells #[ptr g] 35) := by
 have hro : Fence.wide.round = none := rfl
 unfold ptr
 refine callsIn_of_wp Tryz.func45 rfl trivial ?_ hro
 simp only [Tryz.ntmps45, List.size_toArray, List.length_cons, List.length_nil, Nat.reduceAdd, Nat.reduceSub, Array.replicate_succ, Array.replicate_zero, List.push_toArray, List.append_toArray, List.nil_append, List.cons_append]
 gi_wp2
 go_ret
 exact ⟨rfl, rfl⟩

theorem CacheRaw.keeps {W W' : World} {S : Nat → Prop} {C : CacheP} {room : Int} {ps us : List Int} {f : Int → Option ItemD} (h : CacheRaw W C room ps f us) (hk : KeepsB S W W') (hS : ∀ i, C.has i → S i) : CacheRaw W' C room ps f us := by
 refine ⟨?_, ?_, ?_, h.apart, ?_, fun b hb => ?_⟩
 ·exact (hk.block _ (hS _ (.inl (.inl rfl))) h.blk.lt).trans h.blk
 ·obtain ⟨hl, ⟨e, h0⟩ | ⟨g, cap, cur, e, hB, hg, hr⟩⟩ := h.places
  ·exact ⟨hl, .inl ⟨e, h0⟩⟩
  ·exact ⟨hl, .inr ⟨g, cap, cur, e, hB, (hk.block _ (hS _ (.inl (.inr (.inr (by rw [e]; rfl))))) (lt_of_block hg)).trans hg, hr⟩⟩
 ·obtain ⟨hl, ⟨e, h0⟩ | ⟨g, cap, cur, e, hB, hg, hr⟩⟩ := h.used
  ·exact ⟨hl, .inl ⟨e, h0⟩⟩
  ·exact ⟨hl, .inr ⟨g, cap, cur, e, hB, (hk.block _ (hS _ (.inr (.inl (by rw [e]; rfl)))) (lt_of_block hg)).trans hg, hr⟩⟩
 ·obtain ⟨l, c, hm, hl⟩ := h.hand
  refine ⟨l, c, hm.same (hk.block _ (hS _ (.inl (.inr (.inl rfl)))) hm.lt), fun m => ?_⟩
  rcases hl m with ⟨y, b, h1, h2, h3, h4⟩ | h1
  ·exact .inl ⟨y, b, h1, h2, h3, h4.1, (hk.block _ (hS _ (.inr (.inr h3))) h4.2.lt).trans h4.2⟩
  ·exact .inr h1
 ·obtain ⟨cs, hc⟩ := h.items b hb
  exact ⟨cs, (hk.block _ (hS _ (.inr (.inr hb))) hc.lt).trans hc⟩
theorem clean_stops (n : Nat) (hn : 1 ≤ n) (Bs : Nat) (S : Nat → Prop) (C : CacheP) (room : Int) (ps us : List Int) (f : Int → Option ItemD) (hm : us.length ≤ 1000000) (hf : ∀ m ∈ us, f m ≠ none) (w : World) (hBs : Bs < w.heap.size) (hSB : S Bs) (hc : w.cell? ⟨Bs, 0, none⟩ = some (ptr C.g)) (hD : CacheRaw w C room ps f us) (hS : ∀ i, C.has i → S i) :
  SeqStopsK Fence.wide n Tryz.prog 77 #[.pointer (some ⟨Bs, 0, none⟩)] vi (KeepsB S) (fun zs => zs = cleanU f us) (fun pre => pre <+: cleanU f us) (cleanU f us).length w := fun l J Jx W hW _ _ hY h0 =>
 clean1_in n hn l Bs S C room ps us f hm hf J Jx hY W ((hW.cell (p := ⟨Bs, 0, none⟩) hBs).trans hc) hSB (by have := hW.size; omega) (hD.below hW) hS h0
end Go.Proofs.YtemcgfncahccgaaGreat
