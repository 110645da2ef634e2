/-
  A range over an iterator whose rounds may panic: the laws, for the frames of one function.
  slices.Chunk of bytes where a round may panic. (Written by gen_lpartsp.py.)
-/
import Derived.RangeFuncLeaves
import Derived.Test.YtdpniceapmikpaaGreatWh1
import Derived.Test.YtdpniceapmikpaaGreatWh14
set_option linter.unusedVariables false
set_option linter.unusedSimpArgs false
namespace Go.Proofs.YtdpniceapmikpaaGreat
open Go.RowKit Go.Shelf

/-- as wpIn, for the frames of function f0 alone -/
def wpAt (f0 : FuncId) (F : Fence) (n : Nat) (P : Program) (c : Code) (Q : Exit → Act → World → Prop) (a : Act) (w : World) : Prop :=
 ∀ (b : Frame) (k : List Item) (cs : List Frame), b.roundOf = F.round → b.fn = f0 → F.fn b.fn → F.room (cs.length + 1 + n) →
  ∃ e a' w', Q e a' w' ∧ ArrivesIn (Machine.fenced P F) P (lone (b.atR a (.code c :: k)) cs w) b k cs e a' w'
section
variable {f0 : FuncId} {F : Fence} {n : Nat} {P : Program} {Q : Exit → Act → World → Prop} {a : Act} {w : World}
theorem wpAt_in {c : Code} (h : c.wpIn F n P Q a w) : wpAt f0 F n P c Q a w := fun b k cs h1 _ h3 h4 => h b k cs h1 h3 h4
theorem wpAt_seq {x y : Code} (h : wpAt f0 F n P x (Exit.then (fun a w => wpAt f0 F n P y Q a w) Q) a w) : wpAt f0 F n P (Code.seq x y) Q a w := by
 intro b k cs hro hf hb hr
 have h0 : (lone (b.atR a (.code (.seq x y) :: k)) cs w).fenced P F := fenced_calm hb hr rfl
 obtain ⟨e, a₁, w₁, hq, harr⟩ := h b (.code y :: k) cs hro hf hb hr
 cases e with
 | normal =>
  obtain ⟨e₂, a₂, w₂, hq₂, harr₂⟩ := hq b k cs hro hf hb hr
  exact ⟨e₂, a₂, w₂, hq₂, .of_steps (.head h0 stepR_seq harr) harr₂⟩
 | exit id => exact ⟨_, a₁, w₁, hq, .of_steps (.one h0 stepR_seq) (.pass (x := .code y) rfl (fun _ _ => .inl (by simp)) harr)⟩
 | goto l => exact ⟨_, a₁, w₁, hq, .of_steps (.one h0 stepR_seq) (.pass (x := .code y) rfl (fun _ _ => .inl (by simp)) harr)⟩
 | ret => exact ⟨_, a₁, w₁, hq, .of_steps (.one h0 stepR_seq) (.pass (x := .code y) rfl (fun _ _ => .inl (by simp)) harr)⟩
 | panic ch => exact ⟨_, a₁, w₁, hq, .of_steps (.one h0 stepR_seq) (.pass (x := .code y) rfl (fun _ _ => .inl (by simp)) harr)⟩
 | outgrown => exact ⟨_, a₁, w₁, hq, .of_steps (.one h0 stepR_seq) (.pass (x := .code y) rfl (fun _ _ => .inl (by simp)) harr)⟩
theorem wpAt_block {id : Nat} {c : Code} (h : wpAt f0 F n P c (Exit.inBlock id Q) a w) : wpAt f0 F n P (Code.block id c) Q a w := by
 intro b k cs hro hf hb hr
 have h0 : (lone (b.atR a (.code (.block id c) :: k)) cs w).fenced P F := fenced_calm hb hr rfl
 obtain ⟨e, a₁, w₁, hq, harr⟩ := h b (.inBlock id :: k) cs hro hf hb hr
 cases e with
 | normal => exact ⟨.normal, a₁, w₁, hq, .head h0 stepR_block (StepsIn.trans harr (.one (fenced_calm hb hr rfl) stepR_inBlock))⟩
 | exit id' =>
  by_cases hid : id' = id
  ·simp only [Exit.inBlock, hid, if_true] at hq
   exact ⟨.normal, a₁, w₁, hq, .head h0 stepR_block (harr.1 k (by simp [exitTo, hid]))⟩
  ·simp only [Exit.inBlock, hid, if_false] at hq
   have this : (id == id') = false := by simp; exact fun h => hid h.symm
   have hx : exitTo id' (.inBlock id :: k) = exitTo id' k := by simp [exitTo, this]
   exact ⟨.exit id', a₁, w₁, hq, fun k' hk => .head h0 stepR_block (harr.1 k' (by rw [hx]; exact hk)),
    fun hr' hk => let ⟨k₁, h1, h2⟩ := harr.2 hr' (by rw [hx]; exact hk); ⟨k₁, h1, .head h0 stepR_block h2⟩⟩
 | goto l =>
  have hx : gotoIn l (.inBlock id :: k) = gotoIn l k := by simp [gotoIn]
  exact ⟨_, a₁, w₁, hq, fun k' hk => .head h0 stepR_block (harr.1 k' (by rw [hx]; exact hk)),
   fun hr' hk => let ⟨k₁, h1, h2⟩ := harr.2 hr' (by rw [hx]; exact hk); ⟨k₁, h1, .head h0 stepR_block h2⟩⟩
 | ret => exact ⟨_, a₁, w₁, hq, .of_steps (.one h0 stepR_block) harr⟩
 | panic ch => exact ⟨_, a₁, w₁, hq, .of_steps (.one h0 stepR_block) harr⟩
 | outgrown => exact ⟨_, a₁, w₁, hq, .of_steps (.one h0 stepR_block) harr⟩
/-- a function's contract from its body, where ranges over functions may panic -/
theorem callsIn_of_wpAt {f : FuncId} {fn : Func} {c : Code} {args : Array Value} {R : Ending → World → Prop}
  (hf : P.funcs[f]? = some fn) (hb : fn.body = some c) (hF : F.fn f)
  (h : wpAt f F n P c (bodyPostM F n P fn R) { tmps := args ++ Array.replicate (fn.ntmps - args.size) undef, defers := [] } w) (hro : F.round = none := by rfl) : CallsIn F n P f args w R := by
 refine ⟨hF, fun cs hr => ?_⟩
 let b : Frame := { (default : Frame) with fn := f, kind := .normal, roundOf := none }
 have henter : Frame.enter P f args .normal =
   b.atR { tmps := args ++ Array.replicate (fn.ntmps - args.size) undef, defers := [] } [.code c] := by
  simp [Frame.enter, Frame.atR, hf, hb, b]
 obtain ⟨e, a', w', hq, harr⟩ := h b [] cs hro.symm rfl hF hr
 rw [← henter] at harr
 cases e with
 | normal =>
  obtain ⟨e', w'', fr', hR, hs, hfn, hl⟩ := leaves_stepsInM a'.defers .returning w' { b.atR a' [] with mode := .returning } cs rfl rfl rfl hf rfl hF hr hq
  exact ⟨e', w'', fr', hR, ComesIn.of_steps (StepsIn.trans harr (.one (fenced_calm (fr := b.atR a' []) hF hr rfl) (stepR_end rfl))) hs, hfn, hl⟩
 | ret =>
  obtain ⟨todo, hs₀⟩ := harr.1 rfl
  obtain ⟨e', w'', fr', hR, hs, hfn, hl⟩ := leaves_stepsInM a'.defers .returning w' { b.atR a' todo with mode := .returning } cs rfl rfl rfl hf rfl hF hr hq
  exact ⟨e', w'', fr', hR, ComesIn.of_steps hs₀ hs, hfn, hl⟩
 | panic chain =>
  obtain ⟨todo, hs₀⟩ := harr
  obtain ⟨e', w'', fr', hR, hs, hfn, hl⟩ := leaves_stepsInM a'.defers (.panicking chain) w' { b.atR a' todo with mode := .panicking chain } cs rfl rfl rfl hf rfl hF hr hq
  exact ⟨e', w'', fr', hR, ComesIn.of_steps hs₀ hs, hfn, hl⟩
 | exit id => exact hq.elim
 | goto l => exact hq.elim
 | outgrown => exact ⟨.outgrown, w', b, hq, harr.resolve_left (by simp [b]), rfl, trivial⟩
/-- the statement, in a frame of f0 -/
theorem wpAt_rangeFunc {g : Operand} {ps : Array Tmp} {assign body : Code}
  (h : ∃ (l : Nat) (mark : List Deferred) (w₁ : World) (d : Deferred) (w₁' : World) (f : FuncId) (args : Array Value) (w₂ : World),
   (Instr.enterLoop f0 a.tmps ps assign body F.round).run P w = .ok (l, mark) w₁ ∧
   (resolve a.eval (rangeCall g l) 0).run P w₁ = .ok d w₁' ∧
   (∀ f', Target.leads P w₁' d.target d.args = some f' → F.fn f') ∧
   (invoke d.target d.args).run P w₁' = .ok (.enter f args) w₂ ∧
   (F.depth.isSome = true → 1 ≤ n) ∧
   CallsIn F (n - 1) P f args w₂ (rangePost F n P l Q { a with defers := mark ++ a.defers })) :
  wpAt f0 F n P (Code.rangeFunc g ps assign body) Q a w := by
 intro b k cs hro hbf hb hr
 obtain ⟨l, mark, w₁, d, w₁', f, args, w₂, he, hres, hlead, hinv, hn, hF, hcall⟩ := h
 rw [← hro, ← hbf] at he
 have h0 : (lone (b.atR a (.code (.rangeFunc g ps assign body) :: k)) cs w).fenced P F := by
  refine fenced_lone (.inl hb) (fun f' hf' => hlead f' ?_) (Fence.room_le hr (by omega))
  have hev := Frame.eval_atR b a (.code (.rangeFunc g ps assign body) :: k)
  simp only [Frame.atR] at hev
  simp only [Frame.about, Frame.atR, he, hev, hres] at hf'
  exact hf'
 have henter := stepR_rangeFunc (P := P) (b := b) (a := a) (k := k) (cs := cs) (w := w) he hres hinv
 have hroom : F.room ((b.atR { a with defers := mark ++ a.defers } (.inRangeFunc l :: k) :: cs).length + 1 + (n - 1)) := Fence.room_enter hr hn
 obtain ⟨e, w₃, fr, hR, hsteps, hfn, hleave⟩ := hcall (b.atR { a with defers := mark ++ a.defers } (.inRangeFunc l :: k) :: cs) hroom
 cases e with
 | outgrown =>
  obtain ⟨a₀, w₀, hq⟩ := hR
  exact ⟨.outgrown, a₀, w₀, hq, .inr (Outgrown.of_steps (.one henter) hsteps)⟩
 | returned v =>
  have hl : (lone fr (b.atR { a with defers := mark ++ a.defers } (.inRangeFunc l :: k) :: cs) w₃).fenced P F := fenced_leaving (hfn ▸ hF) hroom hleave
  obtain ⟨jump, w₄, hend, hj⟩ := hR
  have sback : StepsIn (Machine.fenced P F) P (lone (b.atR a (.code (.rangeFunc g ps assign body) :: k)) cs w) (lone (b.atR { a with defers := mark ++ a.defers } ((jump.map Item.code).toList ++ k)) cs w₄) := by
   refine .head h0 henter (StepsIn.trans hsteps (.head hl ?_ (.one (fenced_calm (fr := b.atR { a with defers := mark ++ a.defers } (.endRangeFunc l :: k)) hb hr rfl) (stepR_endRangeFunc hend))))
   rw [← finish_atR_inRangeFunc l v]; exact step_leave_returned hleave
  cases jump with
  | none => exact ⟨.normal, _, w₄, hj, sback⟩
  | some c =>
   obtain ⟨e', a'', w₅, hq, harr⟩ := hj b k cs hro hb hr
   exact ⟨e', a'', w₅, hq, .of_steps sback harr⟩
 | panicked chain =>
  have hl : (lone fr (b.atR { a with defers := mark ++ a.defers } (.inRangeFunc l :: k) :: cs) w₃).fenced P F := fenced_leaving (hfn ▸ hF) hroom hleave
  refine ⟨.panic chain, _, w₃, hR, .inRangeFunc l :: k, .head h0 henter (StepsIn.trans hsteps (.one hl ?_))⟩
  rw [← Frame.raise_atR]; exact step_leave_panicked hleave
end
/-- what is asked at a round's end, a panic taken in -/
def roundPostP (P : Program) (l : Nat) (R : Ending → World → Prop) : Exit → Act → World → Prop
 | .panic ch, a, w => a.defers = [] ∧ R (.panicked ch) w
 | .normal, a, w => roundPost P l R .normal a w
 | .ret, a, w => roundPost P l R .ret a w
 | .exit id, a, w => roundPost P l R (.exit id) a w
 | .goto t, a, w => roundPost P l R (.goto t) a w
 | .outgrown, _, _ => False
theorem roundInP {F : Fence} {n : Nat} {P : Program} {l : Nat} {f : FuncId} {tmps : Array Value} {assign body : Code} {w : World} {R : Ending → World → Prop} (hF : F.fn f) (hfn : ∃ fn, P.funcs[f]? = some fn)
  (h : assign.wpIn (F.inRound l) n P (Exit.then (fun a₁ w₁ => ∃ w₂, (Instr.beginRound l).run P w₁ = .ok () w₂ ∧ body.wpIn (F.inRound l) n P (roundPostP P l R) a₁ w₂) (fun _ _ _ => False))
   { tmps := tmps, defers := [] } w) :
  RoundIn F n P l f tmps assign body w R := by
 refine ⟨hF, fun c cs hr => ?_⟩
 let b : Frame := { (default : Frame) with fn := f, kind := .normal, roundOf := some l }
 have hb0 : Frame.round l f tmps assign body .normal = b.atR { tmps := tmps, defers := [] } [.code assign, .beginRound, .code body] := by
  simp [Frame.round, Frame.atR, b]
 have hr' : (F.inRound l).room ((c :: cs).length + 1 + n) := hr
 have hF' : (F.inRound l).fn b.fn := hF
 obtain ⟨e, a₁, w₁, hq, harr⟩ := h b [.beginRound, .code body] (c :: cs) rfl hF' hr'
 rw [← hb0] at harr
 cases e with
 | normal =>
  obtain ⟨w₂, hbr, hbody⟩ := hq
  have s1 : StepsIn (Machine.fenced P (F.inRound l)) P (lone (b.atR a₁ [.beginRound, .code body]) (c :: cs) w₁) (lone (b.atR a₁ [.code body]) (c :: cs) w₂) :=
   .one (fenced_calm (fr := b.atR a₁ [.beginRound, .code body]) hF' hr' rfl) (stepR_beginRound rfl hbr)
  obtain ⟨e₂, a₂, w₃, hq₂, harr₂⟩ := hbody b [] (c :: cs) rfl hF' hr'
  cases e₂ with
  | normal =>
   obtain ⟨v, w₄, hend, hR⟩ := hq₂
   exact ⟨.returned v, w₄, hR, (StepsIn.trans harr s1).trans (StepsIn.trans harr₂ (.one (fenced_calm (fr := b.atR a₂ []) hF' hr' rfl) (stepR_round_end rfl rfl hend)))⟩
  | ret =>
   obtain ⟨v, w₄, hend, hR⟩ := hq₂
   obtain ⟨k₁, hs⟩ := harr₂.2 rfl
   exact ⟨.returned v, w₄, hR, (StepsIn.trans harr s1).trans (StepsIn.trans hs (.one (fenced_calm (fr := b.atR a₂ (.code .ret :: k₁)) hF' hr' rfl) (stepR_round_ret rfl rfl hend)))⟩
  | exit id =>
   obtain ⟨v, w₄, hend, hR⟩ := hq₂
   obtain ⟨k₁, hk, hs⟩ := harr₂.2 rfl rfl
   exact ⟨.returned v, w₄, hR, (StepsIn.trans harr s1).trans (StepsIn.trans hs (.one (fenced_calm (fr := b.atR a₂ (.code (.exit id) :: k₁)) hF' hr' rfl) (stepR_round_exit rfl rfl hk hend)))⟩
  | goto t =>
   obtain ⟨v, w₄, hend, hR⟩ := hq₂
   obtain ⟨k₁, hk, hs⟩ := harr₂.2 rfl rfl
   exact ⟨.returned v, w₄, hR, (StepsIn.trans harr s1).trans (StepsIn.trans hs (.one (fenced_calm (fr := b.atR a₂ (.code (.goto t) :: k₁)) hF' hr' rfl) (stepR_round_goto rfl rfl hk hend)))⟩
  | panic chain =>
   obtain ⟨hd, hR⟩ := hq₂
   obtain ⟨todo, hs⟩ := harr₂
   have hl : ({ b.atR a₂ todo with mode := .panicking chain } : Frame).leaving P w₃ (.panicked chain) := ⟨rfl, hd, hfn⟩
   exact ⟨.panicked chain, w₃, hR, (StepsIn.trans harr s1).trans (StepsIn.trans hs (.one (fenced_leaving (fr := { b.atR a₂ todo with mode := .panicking chain }) hF' hr' hl) (step_leave_panicked hl)))⟩
  | outgrown => exact hq₂.elim
 | exit id => exact hq.elim
 | goto t => exact hq.elim
 | ret => exact hq.elim
 | panic chain => exact hq.elim
 | outgrown => exact hq.elim
/-- an iterator's word, where a round may panic -/
def SeqP {α : Type} (c n : Nat) (P : Program) (g : Nat) (lb : Array Value) (encs : α → Array Value) (Kp : World → World → Prop) (S Sp : List α → Prop) (Nx : List α → α → Prop) (N : Nat) (w : World) : Prop :=
 ∀ (l : Nat) (J Jx : List α → World → Prop) (Jp : List PanicEntry → List α → World → Prop) (W : World), Below w.heap.size w W → w.heap.size + 2 ≤ W.heap.size → OwnC 0 c W.heap.size J → OwnC 0 c W.heap.size Jx → (∀ ch, OwnC 0 c W.heap.size (Jp ch)) →
  (∀ pre x W1, J pre W1 → Nx pre x → pre.length < N → W.heap.size + c ≤ W1.heap.size → YieldAt Fence.wide (n - 1) P l (encs x) W1 fun e W' =>
   (e = .returned (.bool true) ∧ J (pre ++ [x]) W' ∧ Kp W1 W') ∨ (e = .returned (.bool false) ∧ Jx (pre ++ [x]) W' ∧ KeepsFrom (w.heap.size + 2) W1 W') ∨ (∃ ch, e = .panicked ch ∧ Jp ch (pre ++ [x]) W' ∧ KeepsFrom (w.heap.size + 2) W1 W')) →
  J [] W → CallsIn Fence.wide n P g (#[.func (.yield l) #[] #[]] ++ lb) W fun e W' => ((∃ v, e = .returned v) ∧ ((∃ xs, S xs ∧ J xs W') ∨ (∃ pre, Sp pre ∧ Jx pre W'))) ∨ ∃ ch pre, e = .panicked ch ∧ Sp pre ∧ Jp ch pre W'
/-- how a round's body is left -/
def ownPostP {α : Type} (B : Nat) (Kp : World → World → Prop) (I : List α → World → Prop) (Ix : Code → List α → World → Prop) (Ip : List PanicEntry → List α → World → Prop) (xs : List α) (W : World) : Exit → Act → World → Prop
 | .normal, _, W' => KeepsFrom B W W' ∧ Kp W W' ∧ I xs W'
 | .ret, _, W' => KeepsFrom B W W' ∧ Ix .ret xs W'
 | .exit id, _, W' => KeepsFrom B W W' ∧ Ix (.exit id) xs W'
 | .goto t, _, W' => KeepsFrom B W W' ∧ Ix (.goto t) xs W'
 | .panic ch, a, W' => a.defers = [] ∧ KeepsFrom B W W' ∧ Ip ch xs W'
 | .outgrown, _, _ => False

theorem rangeP {α : Type} {P : Program} {c n : Nat} {g : Operand} {ps : Array Tmp} {assign body : Code} {Q : Exit → Act → World → Prop} {a : Act} {w : World} {gf : Nat} {lb : Array Value} {f0 : FuncId} (hf0 : ∃ fn, P.funcs[f0]? = some fn)
  (hg : a.eval g = .func (.func gf) #[] lb) (hgf : ∀ args w, (callFunc gf args).run P w = .ok (.enter gf args) w)
  {encs : α → Array Value} {Kp : World → World → Prop} {S Sp : List α → Prop} {Nx : List α → α → Prop} {N : Nat} (hseq : SeqP c (n - 1) P gf lb encs Kp S Sp Nx N w)
  (hKt : ∀ {A B C : World}, Kp A B → Kp B C → Kp A C) (hKb : ∀ (W : World) (o o' : Obj), W.heap[w.heap.size + 1]? = some o → o.isCells = false → Kp W (W.putObj (w.heap.size + 1) o')) (hps : ∀ x, (encs x).size = ps.size)
  (I : List α → World → Prop) (Ix : Code → List α → World → Prop) (Ip : List PanicEntry → List α → World → Prop) (hI : OwnC 2 c w.heap.size I) (hIx : ∀ j, OwnC 2 c w.heap.size (Ix j)) (hIp : ∀ ch, OwnC 2 c w.heap.size (Ip ch)) (h0 : I [] w) (Ax : α → Act → World → Prop) (hAx : ∀ x a', OwnFrom w.heap.size (fun (_ : Unit) W => Ax x a' W))
  (hassign : ∀ (l : Nat) (pre : List α) (x : α) (W : World) (K : Act → World → Prop), I pre W → w.heap.size + 2 + c ≤ W.heap.size → (∀ a' W', KeepsFrom w.heap.size W W' → Kp W W' → I pre W' → Ax x a' W' → K a' W') →
   assign.wpIn (Fence.wide.inRound l) (n - 1 - 1) P (Exit.then K (fun _ _ _ => False)) { tmps := (ps.zip (encs x)).foldl (fun t (p, v) => t.setIfInBounds p v) a.tmps, defers := [] } W)
  (hbody : ∀ (l : Nat) (pre : List α) (x : α) (a' : Act) (W : World), I pre W → Ax x a' W → Nx pre x → pre.length < N → w.heap.size + 2 + c ≤ W.heap.size → body.wpIn (Fence.wide.inRound l) (n - 1 - 1) P (ownPostP w.heap.size Kp I Ix Ip (pre ++ [x]) W) a' W)
  (hdone : ∀ (D : Nat) (xs : List α) (W : World), w.heap.size ≤ D → S xs → I xs W → W.heap[D]? = some (.deferred (some [])) → Q .normal { a with defers := { target := .collected D, args := #[] } :: a.defers } W)
  (hpan : ∀ (D : Nat) (ch : List PanicEntry) (pre : List α) (W : World), w.heap.size ≤ D → Sp pre → Ip ch pre W → W.heap[D]? = some (.deferred (some [])) → Q (.panic ch) { a with defers := { target := .collected D, args := #[] } :: a.defers } W)
  (hstop : ∀ (D : Nat) (c : Code) (pre : List α) (W : World), w.heap.size ≤ D → Sp pre → Ix c pre W → W.heap[D]? = some (.deferred (some [])) → c.wpIn Fence.wide n P Q { a with defers := { target := .collected D, args := #[] } :: a.defers } W) :
  wpAt f0 Fence.wide n P (Code.rangeFunc g ps assign body) Q a w := by
 refine wpAt_rangeFunc ?_
 -- the loop's record, by its state and its jump
 obtain ⟨r, hr⟩ : ∃ r : LoopState → Option Code → Loop, r = fun s j => { state := s, pending := j, fn := f0, tmps := a.tmps, params := ps, assign, body, defers := w.heap.size } := ⟨_, rfl⟩
 obtain ⟨W1, e1⟩ : ∃ W1, W1 = (w.alloc (.deferred (some []))).alloc (.loop (r .ready none)) := ⟨_, rfl⟩
 have hs1 : W1.heap.size = w.heap.size + 2 := by rw [e1]; simp
 have hB1 : Books w.heap.size (r .ready none) W1 := by
  rw [e1]
  exact ⟨by have := World.alloc_heap_new (w.alloc (.deferred (some []))) (.loop (r .ready none)); rwa [World.size_alloc] at this, (Below.heap_alloc _ _ _ (by simp)).trans (World.alloc_heap_new w _)⟩
 have hI1 : I [] W1 := by rw [e1]; exact hI.from.alloc _ (hI.from.alloc _ h0)
 have hb1 : Below w.heap.size w W1 := by rw [e1]; exact ((Below.refl _ w).alloc (Nat.le_refl _) _).alloc (by simp) _
 refine ⟨w.heap.size + 1, [{ target := .collected w.heap.size, args := #[] }], W1, { target := .fn (.func gf) lb, args := #[.func (.yield (w.heap.size + 1)) #[] #[]] }, W1, gf, #[.func (.yield (w.heap.size + 1)) #[] #[]] ++ lb, W1,
  by rw [e1, hr]; exact run_enterLoop_outer _ _ _ _ _, by simp only [resolve, hg]; simp [go_sem], fun f' _ => trivial, by simp [invoke, go_sem, hgf], (fun h => by cases h), ?_⟩
 have hput : ∀ (pre : List α) (W : World) (q q' : Loop), Books w.heap.size q W → I pre W → I pre (W.putObj (w.heap.size + 1) (.loop q')) := fun pre W q q' hb hi => hI.from.putObj _ hi (by omega) hb.loop rfl
 have hKput : ∀ (W : World) (q q' : Loop), Books w.heap.size q W → Kp W (W.putObj (w.heap.size + 1) (.loop q')) := fun W q q' hb => hKb _ _ _ hb.loop rfl
 refine (hseq (w.heap.size + 1) (fun pre W => I pre W ∧ Books w.heap.size (r .ready none) W) (fun pre W => ∃ j, Ix j pre W ∧ Books w.heap.size (r .done (some j)) W) (fun ch pre W => Ip ch pre W ∧ Books w.heap.size { r .ready none with state := .busy } W) W1 hb1 (by omega)
  (fun s A B row hs hg' hrow => ⟨hI s A B row hs.1 hg' (fun q e => ⟨by have := (hrow q e).1; omega, (hrow q e).2.imp (fun h => by omega) id⟩), hs.2.own hg' (fun q e => by have := (hrow q e).1; omega)⟩)
  (fun s A B row hs hg' hrow => by
   obtain ⟨j, hc, hbk⟩ := hs
   exact ⟨j, hIx j s A B row hc hg' (fun q e => ⟨by have := (hrow q e).1; omega, (hrow q e).2.imp (fun h => by omega) id⟩), hbk.own hg' (fun q e => by have := (hrow q e).1; omega)⟩)
  (fun ch s A B row hs hg' hrow => ⟨hIp ch s A B row hs.1 hg' (fun q e => ⟨by have := (hrow q e).1; omega, (hrow q e).2.imp (fun h => by omega) id⟩), hs.2.own hg' (fun q e => by have := (hrow q e).1; omega)⟩)
  ?_ ⟨hI1, hB1⟩).mono ?_
 ·rintro pre x W ⟨hi, hbk⟩ hnx hlen hW
  have hW2 : w.heap.size + 2 + c ≤ W.heap.size := by omega
  have hy := run_yield (P := P) (args := encs x) hbk.loop (by rw [hr]; exact hps x)
  rw [hr] at hy
  refine ⟨f0, _, assign, body, hy, roundInP trivial hf0 (hassign _ pre x W _ hi hW2 fun a' V hkV hpV hiV hxV => ?_)⟩
  have hbV := hbk.keeps hkV
  refine ⟨_, run_beginRound hbV.loop (by rw [hr]), ?_⟩
  have hb2 := hbV.put { r .ready none with state := .busy }
  have hi2 := hput pre V _ { r .ready none with state := .busy } hbV hiV
  have hx2 := (hAx x a').putObj (s := ()) (.loop { r .ready none with state := .busy }) hxV (by omega) hbV.loop rfl
  have hp2 := hKput V _ { r .ready none with state := .busy } hbV
  refine wpIn_mono (hbody _ pre x a' _ hi2 hx2 hnx hlen (by have := hkV.size; simp; omega)) ?_
  -- how a round ends
  have fin : ∀ (j : Option Code) (X : World), KeepsFrom w.heap.size (V.putObj (w.heap.size + 1) (.loop { r .ready none with state := .busy })) X →
    (Instr.endRound (w.heap.size + 1) j).run P X = .ok (.bool j.isNone) (X.putObj (w.heap.size + 1) (.loop (r (if j.isNone then .ready else .done) j))) ∧ Books w.heap.size { r .ready none with state := .busy } X := fun j X hX => by
   have hbX := hb2.keeps hX
   have := run_endRound (P := P) j hbX.loop
   rw [hr] at this ⊢
   exact ⟨this, by rw [hr] at hbX; exact hbX⟩
  have hfar : ∀ {q : Loop} (X : World), KeepsFrom w.heap.size (V.putObj (w.heap.size + 1) (.loop { r .ready none with state := .busy })) X → w.heap.size + 1 < X.heap.size → KeepsFrom (w.heap.size + 2) W (X.putObj (w.heap.size + 1) (.loop q)) := fun X hX _ =>
   ⟨by have h1 := hkV.size; have h2 := hX.size; rw [World.putObj_size] at h2 ⊢; omega, fun k o hk ho hc => (World.putObj_heap_other (by omega)).trans (hX.same k o (by omega) ((World.putObj_heap_other (by omega)).trans (hkV.same k o (by omega) ho hc)) hc)⟩
  have hfarP : ∀ (X : World), KeepsFrom w.heap.size (V.putObj (w.heap.size + 1) (.loop { r .ready none with state := .busy })) X → KeepsFrom (w.heap.size + 2) W X := fun X hX =>
   ⟨by have h1 := hkV.size; have h2 := hX.size; rw [World.putObj_size] at h2; omega, fun k o hk ho hc => hX.same k o (by omega) ((World.putObj_heap_other (by omega)).trans (hkV.same k o (by omega) ho hc)) hc⟩
  rintro e a3 X hp
  cases e with
  | normal =>
   obtain ⟨hk3, hkp3, hi3⟩ := hp
   obtain ⟨hrun, hbX⟩ := fin none X hk3
   exact ⟨_, _, hrun, .inl ⟨rfl, ⟨hput _ _ _ _ hbX hi3, hbX.put _⟩, hKt hpV (hKt (hKt hp2 hkp3) (hKput _ _ _ hbX))⟩⟩
  | ret =>
   obtain ⟨hrun, hbX⟩ := fin (some .ret) X hp.1
   exact ⟨_, _, hrun, .inr (.inl ⟨rfl, ⟨.ret, (hIx _).from.putObj _ hp.2 (by omega) hbX.loop rfl, hbX.put _⟩, hfar X hp.1 hbX.lt⟩)⟩
  | exit id =>
   obtain ⟨hrun, hbX⟩ := fin (some (.exit id)) X hp.1
   exact ⟨_, _, hrun, .inr (.inl ⟨rfl, ⟨.exit id, (hIx _).from.putObj _ hp.2 (by omega) hbX.loop rfl, hbX.put _⟩, hfar X hp.1 hbX.lt⟩)⟩
  | goto t =>
   obtain ⟨hrun, hbX⟩ := fin (some (.goto t)) X hp.1
   exact ⟨_, _, hrun, .inr (.inl ⟨rfl, ⟨.goto t, (hIx _).from.putObj _ hp.2 (by omega) hbX.loop rfl, hbX.put _⟩, hfar X hp.1 hbX.lt⟩)⟩
  | panic ch => exact ⟨hp.1, .inr (.inr ⟨ch, rfl, ⟨hp.2.2, hb2.keeps hp.2.1⟩, hfarP X hp.2.1⟩)⟩
  | outgrown => exact hp.elim
 ·rintro e W2 (⟨⟨v, rfl⟩, (⟨xs, hS, hi, hbk⟩ | ⟨pre, hSp, j, hi, hbk⟩)⟩ | ⟨ch, pre, rfl, hSp, hi, hbk⟩)
  ·have h := run_endLoop (P := P) hbk.loop (by rw [hr]; simp)
   rw [show (r .ready none).pending = none by rw [hr]] at h
   exact ⟨none, _, h, hdone _ xs _ (Nat.le_refl _) hS (hput _ _ _ _ hbk hi) (hbk.put _).shut⟩
  ·have h := run_endLoop (P := P) hbk.loop (by rw [hr]; simp)
   rw [show (r .done (some j)).pending = some j by rw [hr]] at h
   exact ⟨some j, _, h, hstop _ j pre _ (Nat.le_refl _) hSp ((hIx j).from.putObj _ hi (by omega) hbk.loop rfl) (hbk.put _).shut⟩
  ·exact hpan _ ch pre _ (Nat.le_refl _) hSp hi hbk.shut
/-- the same, where a round's variables are set, or boxed -/
theorem rangeBP {α : Type} {P : Program} {c n : Nat} {g : Operand} {ps : Array Tmp} {assign body : Code} {Q : Exit → Act → World → Prop} {a : Act} {w : World} {gf : Nat} {lb : Array Value} {f0 : FuncId} (hf0 : ∃ fn, P.funcs[f0]? = some fn) (upd : α → Array Value → Array Value)
  (hg : a.eval g = .func (.func gf) #[] lb) (hgf : ∀ args w, (callFunc gf args).run P w = .ok (.enter gf args) w)
  {encs : α → Array Value} {Kp : World → World → Prop} {S Sp : List α → Prop} {Nx : List α → α → Prop} {N : Nat} (hseq : SeqP c (n - 1) P gf lb encs Kp S Sp Nx N w)
  (hKt : ∀ {A B C : World}, Kp A B → Kp B C → Kp A C) (hKb : ∀ (W : World) (o o' : Obj), W.heap[w.heap.size + 1]? = some o → o.isCells = false → Kp W (W.putObj (w.heap.size + 1) o')) (hps : ∀ x, (encs x).size = ps.size)
  (I : List α → World → Prop) (Ix : Code → List α → World → Prop) (Ip : List PanicEntry → List α → World → Prop) (hI : OwnC 2 c w.heap.size I) (hIx : ∀ j, OwnC 2 c w.heap.size (Ix j)) (hIp : ∀ ch, OwnC 2 c w.heap.size (Ip ch)) (h0 : I [] w)
  (hassign : ∀ (l : Nat) (pre : List α) (x : α) (W : World) (K : Act → World → Prop), I pre W → w.heap.size + 2 + c ≤ W.heap.size → (∀ W', KeepsFrom w.heap.size W W' → Kp W W' → I pre W' → K { tmps := upd x a.tmps, defers := [] } W') →
   assign.wpIn (Fence.wide.inRound l) (n - 1 - 1) P (Exit.then K (fun _ _ _ => False)) { tmps := (ps.zip (encs x)).foldl (fun t (p, v) => t.setIfInBounds p v) a.tmps, defers := [] } W)
  (hbody : ∀ (l : Nat) (pre : List α) (x : α) (W : World), I pre W → Nx pre x → pre.length < N → w.heap.size + 2 + c ≤ W.heap.size → body.wpIn (Fence.wide.inRound l) (n - 1 - 1) P (ownPostP w.heap.size Kp I Ix Ip (pre ++ [x]) W) { tmps := upd x a.tmps, defers := [] } W)
  (hdone : ∀ (D : Nat) (xs : List α) (W : World), w.heap.size ≤ D → S xs → I xs W → W.heap[D]? = some (.deferred (some [])) → Q .normal { a with defers := { target := .collected D, args := #[] } :: a.defers } W)
  (hpan : ∀ (D : Nat) (ch : List PanicEntry) (pre : List α) (W : World), w.heap.size ≤ D → Sp pre → Ip ch pre W → W.heap[D]? = some (.deferred (some [])) → Q (.panic ch) { a with defers := { target := .collected D, args := #[] } :: a.defers } W)
  (hstop : ∀ (D : Nat) (c : Code) (pre : List α) (W : World), w.heap.size ≤ D → Sp pre → Ix c pre W → W.heap[D]? = some (.deferred (some [])) → c.wpIn Fence.wide n P Q { a with defers := { target := .collected D, args := #[] } :: a.defers } W) :
  wpAt f0 Fence.wide n P (Code.rangeFunc g ps assign body) Q a w :=
 rangeP hf0 hg hgf hseq hKt hKb hps I Ix Ip hI hIx hIp h0 (fun x a' _ => a' = { tmps := upd x a.tmps, defers := [] })
  (fun _ _ _ _ _ _ hs _ _ => hs)
  (fun l pre x W K h1 h2 hK => hassign l pre x W K h1 h2 (fun W' k1 k2 k3 => hK _ W' k1 k2 k3 rfl))
  (fun l pre x a' W h1 h2 hn h3 h4 => by subst h2; exact hbody l pre x W h1 hn h3 h4) hdone hpan hstop
end Go.Proofs.YtdpniceapmikpaaGreat
namespace Go.Proofs.YtdpniceapmikpaaGreat
open Go.RowKit Go.Shelf

attribute [local go_sem] Oper.semAt_some

def ChunkPost (st : List UInt8) (J Jx : List (Fin (chunksN st.length)) → World → Prop) (Jp : List PanicEntry → List (Fin (chunksN st.length)) → World → Prop) (e : Ending) (W' : World) : Prop :=
 ((∃ v, e = .returned v) ∧ ((∃ ys, ys = List.finRange (chunksN st.length) ∧ J ys W') ∨ (∃ pre, pre <+: List.finRange (chunksN st.length) ∧ Jx pre W'))) ∨ ∃ ch pre, e = .panicked ch ∧ pre <+: List.finRange (chunksN st.length) ∧ Jp ch pre W'
set_option maxRecDepth 100000 in
set_option maxHeartbeats 2000000 in
theorem chunk1p_in (n : Nat) (hn : 1 ≤ n) (l Bs Bn B C : Nat) (T : Nat → TypeId → Prop) (hT1 : ¬ T Bs 26) (hT2 : ¬ T Bn 3) (a : Option Addr) (cap : Nat) (st : List UInt8) (J Jx : List (Fin (chunksN st.length)) → World → Prop) (Jp : List PanicEntry → List (Fin (chunksN st.length)) → World → Prop)
  (hA : ∀ pre W, J pre W → J pre W.drew)
  (hY : ∀ pre x W, J pre W → pre.length < chunksN st.length → YieldAt Fence.wide (n - 1) Tryz.prog l #[chunkV a st.length x.val] W fun e W' =>
   (e = .returned (.bool true) ∧ J (pre ++ [x]) W' ∧ KeepsT T B C W W') ∨ (e = .returned (.bool false) ∧ Jx (pre ++ [x]) W') ∨ ∃ ch, e = .panicked ch ∧ Jp ch (pre ++ [x]) W')
  (W : World) (hBs : Blk W Bs 26 #[.slice a st.length cap]) (hBn : Blk W Bn 3 #[.int .i64 512]) (hst : st.length ≤ 1000000) (hcap : st.length ≤ cap) (hc : cap ≤ maxLen) (h0 : J [] W) :
  CallsIn Fence.wide n Tryz.prog 142 #[.func (.yield l) #[] #[], .pointer (some ⟨Bs, 0, none⟩), .pointer (some ⟨Bn, 0, none⟩)] W fun e W' => ChunkPost st J Jx Jp e W' := by
 have hro : Fence.wide.round = none := rfl
 refine callsIn_of_wp Tryz.func142 rfl trivial ?_ hro
 simp only [Tryz.ntmps142, List.size_toArray, List.length_cons, List.length_nil, Nat.reduceAdd, Nat.reduceSub, Array.replicate_succ, Array.replicate_zero, List.push_toArray, List.append_toArray, List.nil_append, List.cons_append]
 gi_wp2
 gi_loopw [4] (fun i wr => ∃ k : Nat, k ≤ chunksN st.length ∧ i = .int .i64 ((512 * k : Nat) : Int) ∧ J ((List.finRange (chunksN st.length)).take k) wr ∧ KeepsT T B C W wr)
  (fun i _ => 512 * chunksN st.length - (intOf i).toNat)
 case atStart => exact ⟨0, Nat.zero_le _, rfl, h0, KeepsT.refl _ _ _ _⟩
 case round =>
  obtain ⟨k, hk, rfl, hJs, hnx⟩ := hrel
  have hBs' := (hnx.blk hBs hT1).cell_is 0 rfl
  have hBn' := (hnx.blk hBn hT2).cell_is 0 rfl
  by_cases hlt : k < chunksN st.length
  ·have hlt2 : 512 * k < st.length := by unfold chunksN at hlt; omega
   have i1 : ((512 * k : Nat) : Int) < (st.length : Int) := by omega
   have i2 : (0 : Int) ≤ ((512 * k : Nat) : Int) := by omega
   have i3 : ((512 * k : Nat) : Int) ≤ (st.length : Int) := by omega
   generalize hq : 512 * k = q at *
   gi_wp2
   refine wpIn_wide.2 ?_
   refine wp_region_held_drew (S := (fun w' => w'.cell? ⟨Bs, 0, none⟩ = some (.slice a st.length cap) ∧ w'.cell? ⟨Bn, 0, none⟩ = some (.int .i64 512))) (by kernel_rfl) (by (try dsimp only); (exact ⟨hBs', hBn'⟩)) (fun hHeld => ?_)
   refine tk 0 ?_
   refine tk 1 ?_
   refine tk 2 ?_
   refine tk 3 ?_
   refine tk 4 ?_
   refine tk 5 ?_
   refine tk 6 ?_
   refine wpAnyH_done (by kernel_rfl) ?_ _
   have eE : (min 512 ((st.length - q : Nat) : Int)) = ((min 512 (st.length - q) : Nat) : Int) := by omega
   rw [eE]
   obtain ⟨E, hE⟩ : ∃ E, E = min 512 (st.length - q) := ⟨_, rfl⟩
   rw [← hE]
   have j1 : 0 < E := by omega
   have j2 : (q : Int) + (E : Int) ≤ (cap : Int) := by omega
   have j3 : IntKind.i64.wrap ((q : Int) + (E : Int)) = ((q + E : Nat) : Int) := by unfold maxLen at hc; rw [IntKind.wrap_i64]; omega
   have j4 : ((q + E : Nat) : Int) ≤ (cap : Int) := by omega
   have j5 : (q : Int) ≤ ((q + E : Nat) : Int) := by omega
   have j6 : (0 : Int) ≤ ((q + E : Nat) : Int) := by omega
   have j7 : ¬ q + E = q := by omega
   have j8 : q + E - q = E := by omega
   have hlen1 : ((List.finRange (chunksN st.length)).take k).length < chunksN st.length := by rw [List.length_take, List.length_finRange]; omega
   have hJd := hA _ _ hJs
   have hLT : (List.finRange (chunksN st.length)).take (k + 1) = (List.finRange (chunksN st.length)).take k ++ [⟨k, hlt⟩] := by
    rw [List.take_add_one, List.getElem?_eq_getElem (by rw [List.length_finRange]; exact hlt)]
    simp
   obtain ⟨fn, tmps, assign, body, hy, hR⟩ := hY _ ⟨k, hlt⟩ _ hJd hlen1
   simp only [chunkV, hq] at hy
   rw [← hE] at hy
   have HE := Lib.hid hE
   have HQ := Lib.hid hq
   have HLT := Lib.hid hLT
   clear hE hq hLT eE hY hBs' hBn'
   have hBs' := ((hnx.blk hBs hT1).drew).cell_is 0 rfl
   have hBn' := ((hnx.blk hBn hT2).drew).cell_is 0 rfl
   gi_wp2
   refine hR.mono ?_
   rintro e W3 (⟨rfl, hJ3, hk3⟩ | ⟨rfl, hJx3⟩ | ⟨ch, rfl, hJp3⟩)
   ·have hkk : KeepsT T B C W W3 := (hnx.trans (KeepsT.drew' T B C wr)).trans hk3
    have hBn3 := (hkk.blk hBn hT2).cell_is 0 rfl
    have hq2 : IntKind.i64.wrap ((q : Int) + 512) = (q : Int) + 512 := by unfold maxLen at hc; rw [IntKind.wrap_i64]; omega
    gi_wp2
    go_roundw
    case rel => exact ⟨k + 1, by omega, by have := HQ.out; congr 1; omega, by rw [HLT.out]; exact hJ3, hkk⟩
    case measure => have := HQ.out; simp [intOf]; omega
   ·gi_wp2
    refine bodyPost_ret (results_none rfl _ _ _) rfl ?_
    exact .inl ⟨⟨_, rfl⟩, .inr ⟨_, by rw [← HLT.out]; exact List.take_prefix _ _, hJx3⟩⟩
   ·gi_wp2
    exact ⟨rfl, .inr ⟨ch, _, rfl, by rw [← HLT.out]; exact List.take_prefix _ _, hJp3⟩⟩
  ·obtain rfl : k = chunksN st.length := by omega
   have i1 : ¬ ((512 * chunksN st.length : Nat) : Int) < (st.length : Int) := by unfold chunksN; omega
   gi_wp2
   go_end0
   rw [List.take_of_length_le (by rw [List.length_finRange]; exact Nat.le_refl _)] at hJs
   exact .inl ⟨⟨_, rfl⟩, .inl ⟨_, rfl, hJs⟩⟩

theorem chunkP_seq (n : Nat) (hn : 1 ≤ n) (Bs Bn B C : Nat) (T : Nat → TypeId → Prop) (hT1 : ¬ T Bs 26) (hT2 : ¬ T Bn 3) (a : Option Addr) (cap : Nat) (st : List UInt8) (w : World)
  (hBs : Blk w Bs 26 #[.slice a st.length cap]) (hBn : Blk w Bn 3 #[.int .i64 512]) (hst : st.length ≤ 1000000) (hcap : st.length ≤ cap) (hc : cap ≤ maxLen) :
  SeqP 0 n Tryz.prog 142 #[.pointer (some ⟨Bs, 0, none⟩), .pointer (some ⟨Bn, 0, none⟩)] (fun x : Fin (chunksN st.length) => #[chunkV a st.length x.val]) (KeepsT T B C) (fun ys => ys = List.finRange (chunksN st.length)) (fun pre => pre <+: List.finRange (chunksN st.length)) (fun _ _ => True) (chunksN st.length) w :=
 fun l J Jx Jp W hW _ hJ hJx hJp hY h0 =>
  (chunk1p_in n hn l Bs Bn B C T hT1 hT2 a cap st (fun pre X => J pre X ∧ W.heap.size ≤ X.heap.size) Jx Jp (fun pre X h => ⟨hJ pre X _ none h.1 ⟨rfl, rfl, rfl, Nat.le_refl _, fun _ _ _ => rfl⟩ (fun r e => by cases e), h.2⟩)
   (fun pre x X hX hl => by
    obtain ⟨fn, tm, as_, bd, hy, hR⟩ := hY pre x X hX.1 trivial hl (by have := hX.2; omega)
    refine ⟨fn, tm, as_, bd, hy, hR.mono ?_⟩
    rintro e X' (⟨h1, h2, h3⟩ | ⟨h1, h2, _⟩ | ⟨ch, h1, h2, _⟩)
    ·exact .inl ⟨h1, ⟨h2, Nat.le_trans hX.2 h3.size⟩, h3⟩
    ·exact .inr (.inl ⟨h1, h2⟩)
    ·exact .inr (.inr ⟨ch, h1, h2⟩))
   W (hBs.below hW hBs.lt) (hBn.below hW hBn.lt) hst hcap hc ⟨h0, Nat.le_refl _⟩).mono fun e X h => by
    rcases h with ⟨h1, ⟨ys, h2, h3⟩ | h3⟩ | h3
    ·exact .inl ⟨h1, .inl ⟨ys, h2, h3.1⟩⟩
    ·exact .inl ⟨h1, .inr h3⟩
    ·exact .inr h3
end Go.Proofs.YtdpniceapmikpaaGreat
