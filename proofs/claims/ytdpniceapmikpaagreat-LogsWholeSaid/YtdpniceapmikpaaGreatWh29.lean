/-
  A drawn region by what each of its operations leaves: each operation is walked once, whatever the order. For all regions without a select.
  A drawn region: two operations come up, in whatever order, and the rest is walked once.
-/
import Derived.Test.YtdpniceapmikpaaGreatWh1
import Derived.Test.YtdpniceapmikpaaGreatWh3
set_option linter.unusedVariables false
set_option linter.unusedSimpArgs false
namespace Go.Proofs.YtdpniceapmikpaaGreat
open Go.RowKit

section
variable {P : Program} {ops : Array Oper} {Q : Exit → Act → World → Prop} {md : Region.Mode} {S J : World → Prop} {k : Nat}
/-- S holds in every world of a region, J as long as operation k has not come up -/
def SJ (S J : World → Prop) (k : Nat) (listed : Array Bool) (w : World) : Prop := S w ∧ (listed.getD k false = false → J w)
def wpAnyJ (P : Program) (md : Region.Mode) (ops : Array Oper) (Q : Exit → Act → World → Prop) (S J : World → Prop) (k : Nat) : Nat → Array Bool → Act → World → Prop
 | 0, listed, a, w => Region.ready md ops listed = [] ∧ Q .normal a w
 | fuel + 1, listed, a, w =>
  (Region.ready md ops listed = [] → Q .normal a w) ∧
  ∀ i ∈ Region.ready md ops listed, wpOp P ops Q i (fun a' w' => SJ S J k (listed.setIfInBounds i true) w' ∧ wpAnyJ P md ops Q S J k fuel (listed.setIfInBounds i true) a' w') a w
theorem wpAny_of_J : ∀ (fuel : Nat) (listed : Array Bool) (a : Act) (w : World), wpAnyJ P md ops Q S J k fuel listed a w → wpAny P md ops Q fuel listed a w
 | 0, _, _, _, h => h
 | fuel + 1, _, _, _, h => ⟨h.1, fun i hi => wpOp_mono (fun a' w' h' => wpAny_of_J fuel _ a' w' h'.2) (h.2 i hi)⟩
/-- what is listed has all that it stands behind -/
def closedB (md : Region.Mode) (ops : Array Oper) (listed : Array Bool) : Bool := (List.range ops.size).all fun j => !listed.getD j false || (match ops[j]? with | some o => o.after.toList.all fun e => !Region.binds md e || listed.getD e.on false | none => true)
theorem closedB_spec {listed : Array Bool} (h : closedB md ops listed = true) {j : Nat} {o : Oper} (ho : ops[j]? = some o) (hl : listed.getD j false = true) : ∀ e ∈ o.after, Region.binds md e = true → listed.getD e.on false = true := by
 intro e he hb
 have := List.all_eq_true.1 h j (List.mem_range.2 (Array.getElem?_eq_some_iff.1 ho).1)
 rw [hl, ho] at this
 simp only [Bool.not_true, Bool.false_or] at this
 have := List.all_eq_true.1 this e (by simpa using he)
 rw [hb] at this
 simpa using this
def edgeB (md : Region.Mode) (ops : Array Oper) (k i : Nat) : Bool := match ops[k]? with | some o => o.after.toList.any fun e => Region.binds md e && e.on == i | none => false
def TJ (S J : World → Prop) (ed : Bool) (w : World) : Prop := S w ∧ (ed = true → J w)
theorem wpAnyJ_first {i : Nat} {oi : Oper} {v : Value} {ed : Bool} (hi : ops[i]? = some oi) (hsel : ∀ (j : Nat) (o : Oper) cs b, ops[j]? = some o → o.op ≠ .select cs b)
  (hQ : ∀ c a w, Q (.panic c) (a.put oi.dst v) w → Q (.panic c) a w) (hik : i ≠ k) (hed : ed = true → edgeB md ops k i = true) :
  ∀ (fuel : Nat) (listed : Array Bool) (a : Act) (w : World), (∀ j o, ops[j]? = some o → listed.getD j false = true → ∀ e ∈ o.after, Region.binds md e = true → listed.getD e.on false = true) →
   (∀ j oj, ops[j]? = some oj → j ≠ i → listed.getD j true = false → (∀ e ∈ oj.after, Region.binds md e = true → e.on ≠ i) → oi.apart ops oj = true) →
   i ∈ Region.ready md ops listed → YieldsIf P ops (TJ S J ed) oi v a → SJ S J k listed w →
   wpAnyJ P md ops Q S J k fuel (listed.setIfInBounds i true) (a.put oi.dst v) w → wpAnyJ P md ops Q S J k (fuel + 1) listed a w := by
 have key : ∀ (listed : Array Bool) (w : World), (∀ j o, ops[j]? = some o → listed.getD j false = true → ∀ e ∈ o.after, Region.binds md e = true → listed.getD e.on false = true) → i ∈ Region.ready md ops listed → SJ S J k listed w → TJ S J ed w := by
  intro listed w hc hr hS
  refine ⟨hS.1, fun h => hS.2 ?_⟩
  have h1 := hed h
  unfold edgeB at h1
  cases ho : ops[k]? with
  | none => rw [ho] at h1; cases h1
  | some o =>
   rw [ho] at h1
   obtain ⟨e, he, h2⟩ := List.any_eq_true.1 h1
   simp only [Bool.and_eq_true, beq_iff_eq] at h2
   cases hl : listed.getD k false with
   | false => rfl
   | true =>
    have h3 := hc k o ho hl e (by simpa using he) h2.1
    rw [h2.2] at h3
    have h0 := (mem_ready.1 hr).1
    rcases Nat.lt_or_ge i listed.size with h' | h'
    ·simp [h'] at h0 h3; rw [h0] at h3; cases h3
    ·simp [Array.getElem?_eq_none h'] at h3
 intro fuel
 induction fuel with
 | zero =>
  intro listed a w hcl _ hr hy hS H
  refine ⟨fun h => (by rw [h] at hr; cases hr), fun j hj => ?_⟩
  by_cases hji : j = i
  ·subst hji; exact hy.wpOp hi (key listed w hcl hr hS) ⟨⟨hS.1, fun h => hS.2 (by rwa [getD_set_ne false hik] at h)⟩, H⟩
  ·have := ready_mono hj hji
   rw [H.1] at this
   cases this
 | succ fuel ih =>
  intro listed a w hcl hfree hr hy hS H
  refine ⟨fun h => (by rw [h] at hr; cases hr), fun j hj => ?_⟩
  by_cases hji : j = i
  ·subst hji; exact hy.wpOp hi (key listed w hcl hr hS) ⟨⟨hS.1, fun h => hS.2 (by rwa [getD_set_ne false hik] at h)⟩, H⟩
  ·have h1 := H.2 j (ready_mono hj hji)
   obtain ⟨hjun, oj, hoj, hall⟩ := mem_ready.1 hj
   have hnot : ∀ e ∈ oj.after, Region.binds md e = true → e.on ≠ i := fun e he hb heq => by
    have h1 := hall e he hb
    have h0 := (mem_ready.1 hr).1
    rw [heq] at h1
    rcases Nat.lt_or_ge i listed.size with h' | h'
    ·simp [h'] at h0 h1; rw [h0] at h1; cases h1
    ·simp [Array.getElem?_eq_none h'] at h1
   have h2 := wpOp_putIf hoj (hfree j oj hoj hji hjun hnot) (fun cs b => hsel i oi cs b hi) (fun cs b => hsel j oj cs b hoj) hQ hy h1
   have hfree' : ∀ k ok, ops[k]? = some ok → k ≠ i → (listed.setIfInBounds j true).getD k true = false →
     (∀ e ∈ ok.after, Region.binds md e = true → e.on ≠ i) → oi.apart ops ok = true := fun k ok hk hki hun hno => by
    refine hfree k ok hk hki ?_ hno
    by_cases hjk : j = k
    ·subst hjk; exact hjun
    ·rw [getD_set_ne true hjk] at hun; exact hun
   have hcl' : ∀ m o, ops[m]? = some o → (listed.setIfInBounds j true).getD m false = true → ∀ e ∈ o.after, Region.binds md e = true → (listed.setIfInBounds j true).getD e.on false = true := fun m o ho hm e he hb => by
    by_cases hjm : j = m
    ·subst hjm
     rw [hoj] at ho
     cases ho
     exact getD_set_true (hall e he hb)
    ·rw [getD_set_ne false hjm] at hm
     exact getD_set_true (hcl m o ho hm e he hb)
   have hback : ∀ w', SJ S J k ((listed.setIfInBounds i true).setIfInBounds j true) w' → SJ S J k (listed.setIfInBounds j true) w' := fun w' h => by
    refine ⟨h.1, fun hl => h.2 ?_⟩
    rw [Array.setIfInBounds_comm _ _ (Ne.symm hji), getD_set_ne false hik]
    exact hl
   refine wpOp_mono (fun a' w' h3 => ⟨hback w' h3.2.1, ih (listed.setIfInBounds j true) a' w' hcl' hfree' (ready_mono hr (Ne.symm hji)) h3.1 (hback w' h3.2.1) ?_⟩) h2
   rw [Array.setIfInBounds_comm _ _ hji]
   exact h3.2.2
/-- number i is taken first, its value is known -/
theorem jy (ed : Bool) (i : Nat) {fuel : Nat} {listed : Array Bool} {a b : Act} {w : World} {oi : Oper} {v : Value} (hi : ops[i]? = some oi) (hy : YieldsIf P ops (TJ S J ed) oi v a) (h : wpAnyJ P md ops Q S J k fuel (listed.setIfInBounds i true) b w) (hik : (i != k) = true := by rfl) (hed : (!ed || edgeB md ops k i) = true := by kernel_rfl)
  (hcl : closedB md ops listed = true := by kernel_rfl) (hs : Region.noSelect ops = true := by kernel_rfl) (hf : Region.free md ops listed i = true := by kernel_rfl)
  (hr : (Region.ready md ops listed).contains i = true := by kernel_rfl) (hQ : ∀ c a w, Q (.panic c) (a.put oi.dst v) w → Q (.panic c) a w := by exact fun _ _ _ h => h) (hS : SJ S J k listed w := by first | exact ⟨hHeld, fun _ => hJ⟩ | exact ⟨hHeld, fun h => absurd h (by decide)⟩) (hb : a.put oi.dst v = b := by (simp only [Act.put, Array.toArray_toList, pz0, pz1, pz2, pz3, pz4, pz5]; rfl)) : wpAnyJ P md ops Q S J k (fuel + 1) listed a w := by
 subst hb
 exact wpAnyJ_first hi (Region.noSelect_spec hs) hQ (by simpa using hik) (fun e => by rw [e] at hed; simpa using hed) fuel listed a w (fun j o ho hl => closedB_spec hcl ho hl) (Region.free_spec hi hf) (by simpa using hr) hy hS h
/-- .. its value is what the walk finds -/
theorem jk (ed : Bool) (i : Nat) {fuel : Nat} {listed : Array Bool} {a b : Act} {w : World} {oi : Oper} {v : Value} (h : wpAnyJ P md ops Q S J k fuel (listed.setIfInBounds i true) b w) (hi : ops[i]? = some oi := by rfl) (hik : (i != k) = true := by rfl) (hed : (!ed || edgeB md ops k i) = true := by kernel_rfl)
  (hcl : closedB md ops listed = true := by kernel_rfl) (hs : Region.noSelect ops = true := by kernel_rfl) (hf : Region.free md ops listed i = true := by kernel_rfl)
  (hr : (Region.ready md ops listed).contains i = true := by kernel_rfl) (hQ : ∀ c a w, Q (.panic c) (a.put oi.dst v) w → Q (.panic c) a w := by exact fun _ _ _ h => h) (hw : Region.wanted oi (yielded ops a.tmps) = true := by rfl) (hS : SJ S J k listed w := by first | exact ⟨hHeld, fun _ => hJ⟩ | exact ⟨hHeld, fun h => absurd h (by decide)⟩)
  (hy : ∀ w, S w → (ed = true → J w) → (execOp a.eval oi).run P w = .ok (.value v) w := by (intro w hSw hJw; (try have hJw := hJw rfl); (try dsimp only at hSw); (try dsimp only at hJw); go_simp; try with_reducible rfl)) (hb : a.put oi.dst v = b := by (simp only [Act.put, pz0, pz1, pz2, pz3, pz4, pz5]; rfl)) : wpAnyJ P md ops Q S J k (fuel + 1) listed a w := by
 subst hb
 exact wpAnyJ_first hi (Region.noSelect_spec hs) hQ (by simpa using hik) (fun e => by rw [e] at hed; simpa using hed) fuel listed a w (fun j o ho hl => closedB_spec hcl ho hl) (Region.free_spec hi hf) (by simpa using hr) (Or.inl ⟨hw, fun w h => hy w h.1 h.2⟩) hS h
theorem wpAnyJ_done {listed : Array Bool} {a : Act} {w : World} (hr : Region.ready md ops listed = []) (h : Q .normal a w) :
  ∀ fuel, wpAnyJ P md ops Q S J k fuel listed a w
 | 0 => ⟨hr, h⟩
 | _ + 1 => ⟨fun _ => h, by rw [hr]; simp⟩
/-- number i alone comes up -/
theorem jr (i : Nat) {fuel : Nat} {listed : Array Bool} {a : Act} {w : World} {oi : Oper} (h : ∀ K' : Act → World → Prop, Shut (∀ a w, SJ S J k (listed.setIfInBounds i true) w → wpAnyJ P md ops Q S J k fuel (listed.setIfInBounds i true) a w → K' a w) → if Region.wanted oi (yielded ops a.tmps) = true then Oper.wp P oi a w K' Q else K' (a.put oi.dst undef) w)
  (ho : ops[i]? = some oi := by rfl) (hr : Region.ready md ops listed = [i] := by kernel_rfl) : wpAnyJ P md ops Q S J k (fuel + 1) listed a w := by
 refine ⟨fun h0 => (by rw [hr] at h0; cases h0), fun j hj => ?_⟩
 rw [hr] at hj
 obtain rfl := List.mem_singleton.1 hj
 exact wpOp_step ho fun K' hK => h K' fun a w h1 h2 => hK a w ⟨h1, h2⟩
/-- two operations come up -/
theorem jr2 (i j : Nat) {fuel : Nat} {listed : Array Bool} {a : Act} {w : World} {oi oj : Oper} 
  (h : ∀ K' : Act → World → Prop, Shut (∀ a w, SJ S J k (listed.setIfInBounds i true) w → wpAnyJ P md ops Q S J k fuel (listed.setIfInBounds i true) a w → K' a w) → if Region.wanted oi (yielded ops a.tmps) = true then Oper.wp P oi a w K' Q else K' (a.put oi.dst undef) w)
  (h2 : ∀ K' : Act → World → Prop, Shut (∀ a w, SJ S J k (listed.setIfInBounds j true) w → wpAnyJ P md ops Q S J k fuel (listed.setIfInBounds j true) a w → K' a w) → if Region.wanted oj (yielded ops a.tmps) = true then Oper.wp P oj a w K' Q else K' (a.put oj.dst undef) w)
  (ho : ops[i]? = some oi := by rfl) (ho2 : ops[j]? = some oj := by rfl) (hr : Region.ready md ops listed = [i, j] := by kernel_rfl) : wpAnyJ P md ops Q S J k (fuel + 1) listed a w := by
 refine ⟨fun h0 => (by rw [h0] at hr; cases hr), fun j' hj => ?_⟩
 rw [hr] at hj
 rcases List.mem_cons.1 hj with rfl | hj
 ·exact wpOp_step ho fun K' hK => h K' fun a w h1 h2 => hK a w ⟨h1, h2⟩
 ·obtain rfl := List.mem_singleton.1 hj
  exact wpOp_step ho2 fun K' hK => h2 K' fun a w h1 h2 => hK a w ⟨h1, h2⟩
/-- a region that draws its order, from its beginning -/
theorem jb (S J : World → Prop) (k : Nat) {id : Nat} {a : Act} {w : World} (hS : S w.drew) (hJ : J w.drew) (h : S w.drew → J w.drew → wpAnyJ P .any ops Q S J k ops.size (Array.replicate ops.size false) a w.drew) (hm : P.follows .mixedOrders = true := by kernel_rfl) : (Code.region id ops true).wp P Q a w :=
 wp_region_any hm (wpAny_of_J _ _ _ _ (h hS hJ))
end
/-- an operation, and those that it stands behind, with their temporaries -/
abbrev Dep := Nat × Option Tmp
def upd (vs : Nat → Value) (i : Nat) (v : Value) : Nat → Value := fun k => if k = i then v else vs k
theorem upd_same (vs : Nat → Value) (i : Nat) (v : Value) : upd vs i v i = v := if_pos rfl
theorem upd_ne {vs : Nat → Value} {i k : Nat} {v : Value} (h : k ≠ i) : upd vs i v k = vs k := if_neg h
def puts : List Dep → (Nat → Value) → Act → Act
 | [], _, a => a
 | p :: r, vs, a => puts r vs (a.put p.2 (vs p.1))
def AllP {α : Type} (p : α → Prop) : List α → Prop
 | [] => True
 | d :: r => p d ∧ AllP p r
theorem allP_of {α : Type} {p : α → Prop} : ∀ {l : List α}, (∀ d ∈ l, p d) → AllP p l
 | [], _ => trivial
 | _ :: _, h => ⟨h _ (List.mem_cons_self ..), allP_of fun d hd => h d (List.mem_cons_of_mem _ hd)⟩
def dstOf (ops : Array Oper) (i : Nat) : Option Tmp := (ops[i]?).bind (·.dst)
/-- the plan of a region: its operations that are not listed yet, each with those that it stands behind, and those of them whose words it asks for -/
abbrev Plan := List (Nat × List Dep × List Nat × Bool)
/-- of which operation the word holds only until one of these comes up -/
abbrev Kill := Nat → List Nat
def Plan.has (L : Plan) (i : Nat) : Bool := L.any fun p => p.1 == i
def depsOf (L : Plan) (i : Nat) : List Nat := (L.filter fun p => p.1 == i).flatMap fun p => p.2.1.map (·.1)
section
variable {P : Program} {ops : Array Oper} {Q : Exit → Act → World → Prop} {md : Region.Mode} {kj : Nat} {J : World → Prop}
/-- one operation, behind those that it stands behind: what it leaves -/
def Ob (P : Program) (ops : Array Oper) (I J : World → Prop) (kj : Nat) (E : Nat → (Nat → Value) → World → World → Prop) (post : Nat → (Nat → Value) → World → Prop) (a0 : Act) (i : Nat) (ds : List Dep) (us : List Nat) (fl : Bool) (o : Oper) : Prop :=
 ∀ (vs : Nat → Value) (w : World) (K : Act → World → Prop), I w → (fl = true → J w) → AllP (fun d => post d vs w) us →
  Shut (∀ b v w', b = (puts ds vs a0).put o.dst v → I w' → (i = kj ∨ (J w → J w')) → post i (upd vs i v) w' → E i (upd vs i v) w w' → K b w') →
  if Region.wanted o (yielded ops (puts ds vs a0).tmps) = true then Oper.wp P o (puts ds vs a0) w K (fun _ _ _ => False) else K ((puts ds vs a0).put o.dst undef) w
def Obs (P : Program) (ops : Array Oper) (I J : World → Prop) (kj : Nat) (E : Nat → (Nat → Value) → World → World → Prop) (post : Nat → (Nat → Value) → World → Prop) (a0 : Act) : Plan → Prop
 | [] => True
 | p :: r => (∃ o, ops[p.1]? = some o ∧ Ob P ops I J kj E post a0 p.1 p.2.1 p.2.2.1 p.2.2.2 o) ∧ Obs P ops I J kj E post a0 r
theorem Obs.mem {I : World → Prop} {E : Nat → (Nat → Value) → World → World → Prop} {post : Nat → (Nat → Value) → World → Prop} {a0 : Act} : ∀ {L : Plan}, Obs P ops I J kj E post a0 L → ∀ p ∈ L, ∃ o, ops[p.1]? = some o ∧ Ob P ops I J kj E post a0 p.1 p.2.1 p.2.2.1 p.2.2.2 o
 | [], _, _, h => by cases h
 | q :: r, h, p, hp => by
  rcases List.mem_cons.1 hp with rfl | hp
  ·exact h.1
  ·exact Obs.mem h.2 p hp

theorem put_size (a : Act) (d : Option Tmp) (v : Value) : (a.put d v).tmps.size = a.tmps.size := by
 cases d <;> simp [Act.put]
theorem put_get_ne {a : Act} {d : Option Tmp} {v : Value} {t : Nat} (h : d ≠ some t) : (a.put d v).tmps[t]? = a.tmps[t]? := by
 cases d with
 | none => rfl
 | some e => simp [Act.put, Array.getElem?_setIfInBounds_ne (show e ≠ t from fun x => h (by rw [x]))]
theorem put_get_eq {a : Act} {v : Value} {t : Nat} (h : t < a.tmps.size) : (a.put (some t) v).tmps[t]? = some v := by
 simp [Act.put, h]
def Congr (post : Nat → (Nat → Value) → World → Prop) : Plan → Prop
 | [] => True
 | p :: r => (∀ (vs vs' : Nat → Value) (w : World), vs p.1 = vs' p.1 → AllP (fun d => vs d.1 = vs' d.1) p.2.1 → post p.1 vs w → post p.1 vs' w) ∧ Congr post r
theorem Congr.mem {post : Nat → (Nat → Value) → World → Prop} : ∀ {L : Plan}, Congr post L → ∀ p ∈ L, ∀ (vs vs' : Nat → Value) (w : World), vs p.1 = vs' p.1 → (∀ d ∈ p.2.1, vs d.1 = vs' d.1) → post p.1 vs w → post p.1 vs' w
 | [], _, _, h => by cases h
 | q :: r, h, p, hp => by
  rcases List.mem_cons.1 hp with rfl | hp
  ·exact fun vs vs' w h1 h2 h3 => h.1 vs vs' w h1 (allP_of h2) h3
  ·exact Congr.mem h.2 p hp
structure RInv (ops : Array Oper) (S J : World → Prop) (kj : Nat) (post : Nat → (Nat → Value) → World → Prop) (kill : Kill) (L : Plan) (l0 : Array Bool) (a0 : Act) (vs : Nat → Value) (listed : Array Bool) (a : Act) (w : World) : Prop where
 defers : a.defers = a0.defers
 size : a.tmps.size = a0.tmps.size
 yes : ∀ p ∈ L, listed.getD p.1 false = true → ∀ d, dstOf ops p.1 = some d → d < a0.tmps.size → a.tmps[d]? = some (vs p.1)
 no : ∀ t, (∀ p ∈ L, listed.getD p.1 false = true → dstOf ops p.1 ≠ some t) → a.tmps[t]? = a0.tmps[t]?
 posts : ∀ p ∈ L, listed.getD p.1 false = true → (∀ k ∈ kill p.1, listed.getD k false = false) → post p.1 vs w
 shut : ∀ p ∈ L, listed.getD p.1 false = true → ∀ j ∈ depsOf L p.1, listed.getD j false = true
 held : SJ S J kj listed w
 big : listed.size = ops.size
 old : ∀ i, l0.getD i true = true → listed.getD i true = true
structure PlanOk (md : Region.Mode) (ops : Array Oper) (l0 : Array Bool) (kill : Kill) (kj : Nat) (L : Plan) : Prop where
 cover : ∀ i, i < ops.size → l0.getD i true = false → ∃ p ∈ L, p.1 = i
 fresh : ∀ p ∈ L, l0.getD p.1 true = false ∧ p.1 < ops.size
 back : ∀ i o, ops[i]? = some o → ∀ e ∈ o.after, Region.binds md e = true → e.on < i
 deps : ∀ p ∈ L, ∀ d ∈ p.2.1, d.2 = dstOf ops d.1 ∧ ∃ q ∈ L, q.1 = d.1
 alive : ∀ p ∈ L, ∀ u ∈ p.2.2.1, (∃ d ∈ p.2.1, d.1 = u) ∧ ∀ k ∈ kill u, k = p.1 ∨ p.1 ∈ depsOf L k
 kills : ∀ p ∈ L, ∀ k ∈ kill p.1, ∃ q ∈ L, q.1 = k
 flag : ∀ p ∈ L, p.2.2.2 = true → p.1 = kj ∨ ((∃ q ∈ L, q.1 = kj) ∧ p.1 ∈ depsOf L kj)
 first : l0.getD kj false = false
 via : ∀ p ∈ L, ∀ j ∈ depsOf L p.1, ∃ o, ops[p.1]? = some o ∧ ∃ e ∈ o.after, Region.binds md e = true ∧ (e.on = j ∨ j ∈ depsOf L e.on)
 dist : ∀ p ∈ L, ∀ q ∈ L, p.1 = q.1 ∨ ∀ d, dstOf ops p.1 = some d → dstOf ops q.1 ≠ some d
 look : ∀ p ∈ L, ∃ o, ops[p.1]? = some o ∧ ∀ q ∈ L, ∀ d, dstOf ops q.1 = some d → d ∈ o.looksAt ops → (∃ x ∈ p.2.1, x.1 = q.1) ∨ (q.1 ≠ p.1 ∧ p.1 ∈ depsOf L q.1)
theorem deps_mem {L : Plan} {p : Nat × List Dep × List Nat × Bool} (hp : p ∈ L) {d : Dep} (hd : d ∈ p.2.1) : d.1 ∈ depsOf L p.1 :=
 List.mem_flatMap.2 ⟨p, List.mem_filter.2 ⟨hp, by simp⟩, List.mem_map.2 ⟨d, hd, rfl⟩⟩
theorem deps_has {L : Plan} {i j : Nat} (h : j ∈ depsOf L i) : ∃ p ∈ L, p.1 = i := by
 obtain ⟨p, hp, _⟩ := List.mem_flatMap.1 h
 obtain ⟨h1, h2⟩ := List.mem_filter.1 hp
 exact ⟨p, h1, by simpa using h2⟩
theorem getD_ff {l : Array Bool} {i : Nat} (h : l.getD i true = false) : l.getD i false = false ∧ i < l.size := by
 rcases Nat.lt_or_ge i l.size with hl | hg
 ·exact ⟨by simpa [hl] using h, hl⟩
 ·simp [Array.getElem?_eq_none hg] at h
theorem getD_tt {l : Array Bool} {i : Nat} (hi : i < l.size) (h : ¬ l.getD i true = false) : l.getD i false = true := by
 simpa [hi] using h
section
variable {S J : World → Prop} {kj : Nat} {post : Nat → (Nat → Value) → World → Prop} {E : Nat → (Nat → Value) → World → World → Prop} {kill : Kill} {L : Plan} {l0 : Array Bool} {a0 : Act} {vs : Nat → Value} {listed : Array Bool} {a : Act} {w : World}
theorem RInv.behind (pk : PlanOk md ops l0 kill kj L) (h : RInv ops S J kj post kill L l0 a0 vs listed a w) {i : Nat} (hi : i ∈ Region.ready md ops listed) {j : Nat} (hj : j ∈ depsOf L i) : listed.getD j false = true := by
 obtain ⟨p, hp, rfl⟩ := deps_has hj
 obtain ⟨o, ho, e, he, hb, hx⟩ := pk.via p hp j hj
 obtain ⟨_, o', ho', hall⟩ := mem_ready.1 hi
 rw [ho] at ho'
 cases ho'
 have h1 := hall e he hb
 rcases hx with rfl | hx
 ·exact h1
 ·obtain ⟨q, hq, hqe⟩ := deps_has hx
  rw [← hqe] at h1 hx
  exact h.shut q hq h1 j hx
theorem RInv.done (pk : PlanOk md ops l0 kill kj L) (h : RInv ops S J kj post kill L l0 a0 vs listed a w) (hr : Region.ready md ops listed = []) : ∀ i, i < ops.size → listed.getD i true = true := by
 intro i
 induction i using Nat.strongRecOn with
 | ind i ih =>
  intro hi
  cases hl : listed.getD i true with
  | true => rfl
  | false =>
   obtain ⟨o, ho⟩ : ∃ o, ops[i]? = some o := ⟨_, Array.getElem?_eq_getElem hi⟩
   have : i ∈ Region.ready md ops listed := mem_ready.2 ⟨hl, o, ho, fun e he hb => by
    have h1 := pk.back i o ho e he hb
    exact getD_tt (by rw [h.big]; omega) (by rw [ih e.on h1 (by omega)]; decide)⟩
   rw [hr] at this
   cases this
theorem RInv.all (pk : PlanOk md ops l0 kill kj L) (h : RInv ops S J kj post kill L l0 a0 vs listed a w) (hr : Region.ready md ops listed = []) : ∀ p ∈ L, listed.getD p.1 false = true := fun p hp => by
 have h2 := (pk.fresh p hp).2
 exact getD_tt (by rw [h.big]; exact h2) (by rw [h.done pk hr p.1 h2]; decide)
theorem RInv.next (pk : PlanOk md ops l0 kill kj L) (hc : Congr post L) (stab : ∀ p q, p ∈ L → q ∈ L → p.1 ≠ q.1 → p.1 ∉ kill q.1 → p.1 ∉ depsOf L q.1 → ∀ vs w w', E p.1 vs w w' → S w → S w' → post q.1 vs w → post q.1 vs w') (h : RInv ops S J kj post kill L l0 a0 vs listed a w) {p : Nat × List Dep × List Nat × Bool} (hp : p ∈ L) (hi : p.1 ∈ Region.ready md ops listed) {o : Oper} (ho : ops[p.1]? = some o) {v : Value} {w' : World}
  (hS : S w') (hJ : p.1 = kj ∨ (J w → J w')) (hpo : post p.1 (upd vs p.1 v) w') (hE : E p.1 (upd vs p.1 v) w w') : RInv ops S J kj post kill L l0 a0 (upd vs p.1 v) (listed.setIfInBounds p.1 true) (a.put o.dst v) w' := by
 have hun := getD_ff (mem_ready.1 hi).1
 have hdst : dstOf ops p.1 = o.dst := by unfold dstOf; rw [ho]; rfl
 have hset : ∀ j, (listed.setIfInBounds p.1 true).getD j false = true → j ≠ p.1 → listed.getD j false = true := fun j hj hne => by rwa [getD_set_ne false (Ne.symm hne)] at hj
 have hput : ∀ (x : Act) (d : Option Tmp) (v : Value), (x.put d v).defers = x.defers := fun x d v => by cases d <;> rfl
 refine ⟨by rw [hput, h.defers], by rw [put_size, h.size], fun q hq hql d hd hl => ?_, fun t ht => ?_, fun q hq hql hk => ?_, fun q hq hql j hj => ?_, ⟨hS, fun hl => ?_⟩, by rw [Array.size_setIfInBounds, h.big], fun j hj => ?_⟩
 ·by_cases hqp : q.1 = p.1
  ·rw [hqp, hdst] at hd
   rw [hd, put_get_eq (by rw [h.size]; exact hl), hqp, upd_same]
  ·rw [put_get_ne (fun e => ((pk.dist q hq p hp).resolve_left hqp) d hd (by rw [hdst, e])), h.yes q hq (hset _ hql hqp) d hd hl, upd_ne hqp]
 ·have h1 : o.dst ≠ some t := fun e => ht p hp (by simp [hun.2]) (by rw [hdst, e])
  rw [put_get_ne h1]
  exact h.no t fun q hq hql => ht q hq (getD_set_true hql)
 ·by_cases hqp : q.1 = p.1
  ·rw [hqp]; exact hpo
  ·have hql' := hset _ hql hqp
   have hpk : p.1 ∉ kill q.1 := fun hm => by have := hk _ hm; simp [hun.2] at this
   have hpd : p.1 ∉ depsOf L q.1 := fun hm => by have := h.shut q hq hql' _ hm; rw [hun.1] at this; cases this
   refine stab p q hp hq (Ne.symm hqp) hpk hpd _ _ _ hE h.held.1 hS (hc.mem q hq vs _ w (by rw [upd_ne hqp]) (fun d hd => ?_) (h.posts q hq hql' fun k hkm => ?_))
   rotate_left 1
   ·have := hk k hkm
    by_cases hkp : p.1 = k
    ·exact absurd (hkp ▸ hkm) hpk
    ·rwa [getD_set_ne false hkp] at this
   have := h.shut q hq hql' _ (deps_mem hq hd)
   rw [upd_ne fun e => by rw [e, hun.1] at this; cases this]
 ·by_cases hqp : q.1 = p.1
  ·rw [hqp] at hj
   exact getD_set_true (h.behind pk hi hj)
  ·exact getD_set_true (h.shut q hq (hset _ hql hqp) j hj)
 ·rcases hJ with rfl | hJ
  ·simp [hun.2] at hl
  ·refine hJ (h.held.2 ?_)
   by_cases hpk : p.1 = kj
   ·rw [← hpk]; exact hun.1
   ·rwa [getD_set_ne false hpk] at hl
 ·by_cases hjp : p.1 = j
  ·subst hjp; simp [hun.2]
  ·rw [getD_set_ne true hjp]; exact h.old j hj
/-- which words one operation has to keep -/
def Stab1 (S : World → Prop) (post : Nat → (Nat → Value) → World → Prop) (Ei : (Nat → Value) → World → World → Prop) : List Nat → Prop
 | [] => True
 | q :: r => (∀ vs w w', Ei vs w w' → S w → S w' → post q vs w → post q vs w') ∧ Stab1 S post Ei r
theorem Stab1.mem {Ei : (Nat → Value) → World → World → Prop} : ∀ {l : List Nat}, Stab1 S post Ei l → ∀ q ∈ l, ∀ vs w w', Ei vs w w' → S w → S w' → post q vs w → post q vs w'
 | [], _, _, h => by cases h
 | r :: l, h, q, hq => by
  rcases List.mem_cons.1 hq with rfl | hq
  ·exact h.1
  ·exact Stab1.mem h.2 q hq
def Stabs (S : World → Prop) (post : Nat → (Nat → Value) → World → Prop) (E : Nat → (Nat → Value) → World → World → Prop) : List (Nat × List Nat) → Prop
 | [] => True
 | p :: r => Stab1 S post (E p.1) p.2 ∧ Stabs S post E r
theorem Stabs.mem : ∀ {l : List (Nat × List Nat)}, Stabs S post E l → ∀ p ∈ l, Stab1 S post (E p.1) p.2
 | [], _, _, h => by cases h
 | r :: l, h, q, hq => by
  rcases List.mem_cons.1 hq with rfl | hq
  ·exact h.1
  ·exact Stabs.mem h.2 q hq
theorem cn : Congr post [] := trivial
theorem cc {p : Nat × List Dep × List Nat × Bool} {r : Plan} (hr : Congr post r) (h : ∀ (vs vs' : Nat → Value) (w : World), vs p.1 = vs' p.1 → AllP (fun d => vs d.1 = vs' d.1) p.2.1 → post p.1 vs w → post p.1 vs' w := by (intro vs vs' w h hd hp; (try dsimp only [AllP] at h hd hp ⊢); (try simp only [h, hd] at hp); exact hp)) : Congr post (p :: r) := ⟨h, hr⟩
theorem on {E : Nat → (Nat → Value) → World → World → Prop} {a0 : Act} : Obs P ops S J kj E post a0 [] := trivial
/-- .. the move: L the plan; F: whose words are told behind the region; C: the operations that change the world, each with the words that it has to keep -/
def EC (C : List (Nat × List Nat)) (E : Nat → (Nat → Value) → World → World → Prop) (i : Nat) (vs : Nat → Value) (w w' : World) : Prop := cond (C.any fun c => c.1 == i) (E i vs w w') (w' = w)
end
end
/-- .. in a round of a range over a function -/
theorem jbR {P : Program} {ops : Array Oper} {Q : Exit → Act → World → Prop} {l n : Nat} (S J : World → Prop) (k : Nat) {id : Nat} {a : Act} {w : World} (hS : S w.drew) (hJ : J w.drew) (h : S w.drew → J w.drew → wpAnyJ P .any ops Q S J k ops.size (Array.replicate ops.size false) a w.drew)
  (hm : P.follows .mixedOrders = true := by kernel_rfl) (hd : ops.all noDefer = true := by kernel_rfl) (hQ : ¬ LetsOut Q := by (rintro ⟨_, _, h⟩; exact h)) : (Code.region id ops true).wpIn (Fence.wide.inRound l) n P Q a w :=
 region_round hm hd hQ (wpAny_of_J _ _ _ _ (h hS hJ))
end Go.Proofs.YtdpniceapmikpaaGreat
namespace Go.Proofs.YtdpniceapmikpaaGreat
open Go.RowKit

section
variable {P : Program} {ops : Array Oper} {Q : Exit → Act → World → Prop} {md : Region.Mode} {S J : World → Prop} {k : Nat}
/-- numbers i and j come up: what each leaves (Pi, Pj), what both leave (R) -/
theorem jm (i j : Nat) (Pi Pj : Value → World → Prop) (R : Value → Value → World → Prop) {fuel : Nat} {listed : Array Bool} {a : Act} {b : Value → Value → Act} {w : World} {oi oj : Oper}
  (hSi : ∀ v w, Pi v w → S w) (hSj : ∀ v w, Pj v w → S w) (hSr : ∀ v v' w, R v v' w → S w)
  (h1 : ∀ K' : Act → World → Prop, Shut (∀ v w', Pi v w' → K' (a.put oi.dst v) w') → if Region.wanted oi (yielded ops a.tmps) = true then Oper.wp P oi a w K' Q else K' (a.put oi.dst undef) w)
  (h2 : ∀ v w1, Pi v w1 → ∀ K' : Act → World → Prop, Shut (∀ v' w', R v v' w' → K' ((a.put oi.dst v).put oj.dst v') w') → if Region.wanted oj (yielded ops (a.put oi.dst v).tmps) = true then Oper.wp P oj (a.put oi.dst v) w1 K' Q else K' ((a.put oi.dst v).put oj.dst undef) w1)
  (h3 : ∀ K' : Act → World → Prop, Shut (∀ v w', Pj v w' → K' (a.put oj.dst v) w') → if Region.wanted oj (yielded ops a.tmps) = true then Oper.wp P oj a w K' Q else K' (a.put oj.dst undef) w)
  (h4 : ∀ v' w1, Pj v' w1 → ∀ K' : Act → World → Prop, Shut (∀ v w', R v v' w' → K' ((a.put oj.dst v').put oi.dst v) w') → if Region.wanted oi (yielded ops (a.put oj.dst v').tmps) = true then Oper.wp P oi (a.put oj.dst v') w1 K' Q else K' ((a.put oj.dst v').put oi.dst undef) w1)
  (hfin : ∀ v v' w', R v v' w' → S w' → wpAnyJ P md ops Q S J k fuel ((listed.setIfInBounds i true).setIfInBounds j true) (b v v') w')
  (hJ : ∀ w, J w := by exact fun _ => trivial)
  (ho : ops[i]? = some oi := by rfl) (ho2 : ops[j]? = some oj := by rfl) (hr : Region.ready md ops listed = [i, j] := by kernel_rfl) (hr1 : Region.ready md ops (listed.setIfInBounds i true) = [j] := by kernel_rfl) (hr2 : Region.ready md ops (listed.setIfInBounds j true) = [i] := by kernel_rfl)
  (hij : i ≠ j := by decide) (hd : ∀ d, oi.dst = some d → oj.dst ≠ some d := by (intro d h; cases h; decide)) (hb : ∀ v v', (a.put oi.dst v).put oj.dst v' = b v v' := by (intro v v'; simp only [Act.put, Array.toArray_toList, pz0, pz1, pz2, pz3, pz4, pz5]; rfl)) : wpAnyJ P md ops Q S J k (fuel + 1 + 1) listed a w := by
 have key1 : ∀ v w1, Pi v w1 → wpAnyJ P md ops Q S J k (fuel + 1) (listed.setIfInBounds i true) (a.put oi.dst v) w1 := fun v w1 hP =>
  ⟨fun h0 => (by rw [hr1] at h0; cases h0), fun j' hj => by
   rw [hr1] at hj
   obtain rfl := List.mem_singleton.1 hj
   exact wpOp_step ho2 fun K' hK => h2 v w1 hP K' fun v' w' hR => hK _ _ ⟨⟨hSr v v' w' hR, fun _ => hJ _⟩, by rw [hb]; exact hfin v v' w' hR (hSr v v' w' hR)⟩⟩
 have key2 : ∀ v' w1, Pj v' w1 → wpAnyJ P md ops Q S J k (fuel + 1) (listed.setIfInBounds j true) (a.put oj.dst v') w1 := fun v' w1 hP =>
  ⟨fun h0 => (by rw [hr2] at h0; cases h0), fun i' hi => by
   rw [hr2] at hi
   obtain rfl := List.mem_singleton.1 hi
   refine wpOp_step ho fun K' hK => h4 v' w1 hP K' fun v w' hR => hK _ _ ⟨⟨hSr v v' w' hR, fun _ => hJ _⟩, ?_⟩
   have h := hfin v v' w' hR (hSr v v' w' hR)
   rw [← hb, Act.put_comm a v v' hd, Array.setIfInBounds_comm _ _ hij] at h
   exact h⟩
 refine ⟨fun h0 => (by rw [hr] at h0; cases h0), fun j' hj => ?_⟩
 rw [hr] at hj
 rcases List.mem_cons.1 hj with rfl | hj
 ·exact wpOp_step ho fun K' hK => h1 K' fun v w' hP => hK _ _ ⟨⟨hSi v w' hP, fun _ => hJ _⟩, key1 v w' hP⟩
 ·obtain rfl := List.mem_singleton.1 hj
  exact wpOp_step ho2 fun K' hK => h3 K' fun v w' hP => hK _ _ ⟨⟨hSj v w' hP, fun _ => hJ _⟩, key2 v w' hP⟩
theorem jj2 {α β : Type} (b : α → β → Act) (R : α → β → World → Prop) {fuel fuel0 : Nat} {listed L0 : Array Bool} {a : Act} {w : World}
  (hall : (∀ x y w' L a', R x y w' → S w' → L = L0 → a' = b x y → wpAnyJ P md ops Q S J k fuel0 L a' w') → wpAnyJ P md ops Q S J k fuel listed a w)
  (hfin : ∀ x y w', R x y w' → S w' → wpAnyJ P md ops Q S J k fuel0 L0 (b x y) w') : wpAnyJ P md ops Q S J k fuel listed a w :=
 hall fun x y w' L a' h1 h2 h3 h4 => by subst h3 h4; exact hfin x y w' h1 h2
end
end Go.Proofs.YtdpniceapmikpaaGreat
