/-
  A drawn region by what each of its operations leaves: each operation is walked once, whatever the order. For all regions without a select.
-/
import Derived.Test.YtemcgfncahccgaaGreatCh1
import Derived.Test.YtemcgfncahccgaaGreatCh4
set_option linter.unusedVariables false
set_option linter.unusedSimpArgs false
namespace Go.Proofs.YtemcgfncahccgaaGreat
open Go.RowKit

section
variable {P : Program} {ops : Array Oper} {Q : Exit → Act → World → Prop} {md : Region.Mode} {S J : World → Prop} {k : Nat}
/-- S holds in every world of a region, J as long as operation k has not come up -/
def SJ (S J : World → Prop) (k : Nat) (listed : Array Bool) (w : World) : Prop := S w ∧ (listed.getD k false = false → J w)
def wpAnyJ (P : Program) (md : Region.Mode) (ops : Array Oper) (Q : Exit → Act → World → Prop) (S J : World → Prop) (k : Nat) : Nat → Array Bool → Act → World → Prop
 | 0, listed, a, w => Region.ready md ops listed = [] ∧ Q .normal a w
 | fuel + 1, listed, a, w =>
  (Region.ready md ops listed = [] → Q .normal a w) ∧
  ∀ i ∈ Region.ready md ops listed, wpOp P ops Q i (fun a' w' => SJ S J k (listed.setIfInBounds i true) w' ∧ wpAnyJ P md ops Q S J k fuel (listed.setIfInBounds i true) a' w') a w
theorem wpAny_of_J : ∀ (fuel : Nat) (listed : Array Bool) (a : Act) (w : World), wpAnyJ P md ops Q S J k fuel listed a w → wpAny P md ops Q fuel listed a w
 | 0, _, _, _, h => h
 | fuel + 1, _, _, _, h => ⟨h.1, fun i hi => wpOp_mono (fun a' w' h' => wpAny_of_J fuel _ a' w' h'.2) (h.2 i hi)⟩
/-- what is listed has all that it stands behind -/
def closedB (md : Region.Mode) (ops : Array Oper) (listed : Array Bool) : Bool := (List.range ops.size).all fun j => !listed.getD j false || (match ops[j]? with | some o => o.after.toList.all fun e => !Region.binds md e || listed.getD e.on false | none => true)
theorem closedB_spec {listed : Array Bool} (h : closedB md ops listed = true) {j : Nat} {o : Oper} (ho : ops[j]? = some o) (hl : listed.getD j false = true) : ∀ e ∈ o.after, Region.binds md e = true → listed.getD e.on false = true := by
 intro e he hb
 have := List.all_eq_true.1 h j (List.mem_range.2 (Array.getElem?_eq_some_iff.1 ho).1)
 rw [hl, ho] at this
 simp only [Bool.not_true, Bool.false_or] at this
 have := List.all_eq_true.1 this e (by simpa using he)
 rw [hb] at this
 simpa using this
def edgeB (md : Region.Mode) (ops : Array Oper) (k i : Nat) : Bool := match ops[k]? with | some o => o.after.toList.any fun e => Region.binds md e && e.on == i | none => false
def TJ (S J : World → Prop) (ed : Bool) (w : World) : Prop := S w ∧ (ed = true → J w)
theorem wpAnyJ_first {i : Nat} {oi : Oper} {v : Value} {ed : Bool} (hi : ops[i]? = some oi) (hsel : ∀ (j : Nat) (o : Oper) cs b, ops[j]? = some o → o.op ≠ .select cs b)
  (hQ : ∀ c a w, Q (.panic c) (a.put oi.dst v) w → Q (.panic c) a w) (hik : i ≠ k) (hed : ed = true → edgeB md ops k i = true) :
  ∀ (fuel : Nat) (listed : Array Bool) (a : Act) (w : World), (∀ j o, ops[j]? = some o → listed.getD j false = true → ∀ e ∈ o.after, Region.binds md e = true → listed.getD e.on false = true) →
   (∀ j oj, ops[j]? = some oj → j ≠ i → listed.getD j true = false → (∀ e ∈ oj.after, Region.binds md e = true → e.on ≠ i) → oi.apart ops oj = true) →
   i ∈ Region.ready md ops listed → YieldsIf P ops (TJ S J ed) oi v a → SJ S J k listed w →
   wpAnyJ P md ops Q S J k fuel (listed.setIfInBounds i true) (a.put oi.dst v) w → wpAnyJ P md ops Q S J k (fuel + 1) listed a w := by
 have key : ∀ (listed : Array Bool) (w : World), (∀ j o, ops[j]? = some o → listed.getD j false = true → ∀ e ∈ o.after, Region.binds md e = true → listed.getD e.on false = true) → i ∈ Region.ready md ops listed → SJ S J k listed w → TJ S J ed w := by
  intro listed w hc hr hS
  refine ⟨hS.1, fun h => hS.2 ?_⟩
  have h1 := hed h
  unfold edgeB at h1
  cases ho : ops[k]? with
  | none => rw [ho] at h1; cases h1
  | some o =>
   rw [ho] at h1
   obtain ⟨e, he, h2⟩ := List.any_eq_true.1 h1
   simp only [Bool.and_eq_true, beq_iff_eq] at h2
   cases hl : listed.getD k false with
   | false => rfl
   | true =>
    have h3 := hc k o ho hl e (by simpa using he) h2.1
    rw [h2.2] at h3
    have h0 := (mem_ready.1 hr).1
    rcases Nat.lt_or_ge i listed.size with h' | h'
    ·simp [h'] at h0 h3; rw [h0] at h3; cases h3
    ·simp [Array.getElem?_eq_none h'] at h3
 intro fuel
 induction fuel with
 | zero =>
  intro listed a w hcl _ hr hy hS H
  refine ⟨fun h => (by rw [h] at hr; cases hr), fun j hj => ?_⟩
  by_cases hji : j = i
  ·subst hji; exact hy.wpOp hi (key listed w hcl hr hS) ⟨⟨hS.1, fun h => hS.2 (by rwa [getD_set_ne false hik] at h)⟩, H⟩
  ·have := ready_mono hj hji
   rw [H.1] at this
   cases this
 | succ fuel ih =>
  intro listed a w hcl hfree hr hy hS H
  refine ⟨fun h => (by rw [h] at hr; cases hr), fun j hj => ?_⟩
  by_cases hji : j = i
  ·subst hji; exact hy.wpOp hi (key listed w hcl hr hS) ⟨⟨hS.1, fun h => hS.2 (by rwa [getD_set_ne false hik] at h)⟩, H⟩
  ·have h1 := H.2 j (ready_mono hj hji)
   obtain ⟨hjun, oj, hoj, hall⟩ := mem_ready.1 hj
   have hnot : ∀ e ∈ oj.after, Region.binds md e = true → e.on ≠ i := fun e he hb heq => by
    have h1 := hall e he hb
    have h0 := (mem_ready.1 hr).1
    rw [heq] at h1
    rcases Nat.lt_or_ge i listed.size with h' | h'
    ·simp [h'] at h0 h1; rw [h0] at h1; cases h1
    ·simp [Array.getElem?_eq_none h'] at h1
   have h2 := wpOp_putIf hoj (hfree j oj hoj hji hjun hnot) (fun cs b => hsel i oi cs b hi) (fun cs b => hsel j oj cs b hoj) hQ hy h1
   have hfree' : ∀ k ok, ops[k]? = some ok → k ≠ i → (listed.setIfInBounds j true).getD k true = false →
     (∀ e ∈ ok.after, Region.binds md e = true → e.on ≠ i) → oi.apart ops ok = true := fun k ok hk hki hun hno => by
    refine hfree k ok hk hki ?_ hno
    by_cases hjk : j = k
    ·subst hjk; exact hjun
    ·rw [getD_set_ne true hjk] at hun; exact hun
   have hcl' : ∀ m o, ops[m]? = some o → (listed.setIfInBounds j true).getD m false = true → ∀ e ∈ o.after, Region.binds md e = true → (listed.setIfInBounds j true).getD e.on false = true := fun m o ho hm e he hb => by
    by_cases hjm : j = m
    ·subst hjm
     rw [hoj] at ho
     cases ho
     exact getD_set_true (hall e he hb)
    ·rw [getD_set_ne false hjm] at hm
     exact getD_set_true (hcl m o ho hm e he hb)
   have hback : ∀ w', SJ S J k ((listed.setIfInBounds i true).setIfInBounds j true) w' → SJ S J k (listed.setIfInBounds j true) w' := fun w' h => by
    refine ⟨h.1, fun hl => h.2 ?_⟩
    rw [Array.setIfInBounds_comm _ _ (Ne.symm hji), getD_set_ne false hik]
    exact hl
   refine wpOp_mono (fun a' w' h3 => ⟨hback w' h3.2.1, ih (listed.setIfInBounds j true) a' w' hcl' hfree' (ready_mono hr (Ne.symm hji)) h3.1 (hback w' h3.2.1) ?_⟩) h2
   rw [Array.setIfInBounds_comm _ _ hji]
   exact h3.2.2
/-- number i is taken first, its value is known -/
theorem jy (ed : Bool) (i : Nat) {fuel : Nat} {listed : Array Bool} {a b : Act} {w : World} {oi : Oper} {v : Value} (hi : ops[i]? = some oi) (hy : YieldsIf P ops (TJ S J ed) oi v a) (h : wpAnyJ P md ops Q S J k fuel (listed.setIfInBounds i true) b w) (hik : (i != k) = true := by rfl) (hed : (!ed || edgeB md ops k i) = true := by kernel_rfl)
  (hcl : closedB md ops listed = true := by kernel_rfl) (hs : Region.noSelect ops = true := by kernel_rfl) (hf : Region.free md ops listed i = true := by kernel_rfl)
  (hr : (Region.ready md ops listed).contains i = true := by kernel_rfl) (hQ : ∀ c a w, Q (.panic c) (a.put oi.dst v) w → Q (.panic c) a w := by exact fun _ _ _ h => h) (hS : SJ S J k listed w := by first | exact ⟨hHeld, fun _ => hJ⟩ | exact ⟨hHeld, fun h => absurd h (by decide)⟩) (hb : a.put oi.dst v = b := by (simp only [Act.put, Array.toArray_toList, pz0, pz1, pz2, pz3, pz4, pz5]; rfl)) : wpAnyJ P md ops Q S J k (fuel + 1) listed a w := by
 subst hb
 exact wpAnyJ_first hi (Region.noSelect_spec hs) hQ (by simpa using hik) (fun e => by rw [e] at hed; simpa using hed) fuel listed a w (fun j o ho hl => closedB_spec hcl ho hl) (Region.free_spec hi hf) (by simpa using hr) hy hS h
/-- .. its value is what the walk finds -/
theorem jk (ed : Bool) (i : Nat) {fuel : Nat} {listed : Array Bool} {a b : Act} {w : World} {oi : Oper} {v : Value} (h : wpAnyJ P md ops Q S J k fuel (listed.setIfInBounds i true) b w) (hi : ops[i]? = some oi := by rfl) (hik : (i != k) = true := by rfl) (hed : (!ed || edgeB md ops k i) = true := by kernel_rfl)
  (hcl : closedB md ops listed = true := by kernel_rfl) (hs : Region.noSelect ops = true := by kernel_rfl) (hf : Region.free md ops listed i = true := by kernel_rfl)
  (hr : (Region.ready md ops listed).contains i = true := by kernel_rfl) (hQ : ∀ c a w, Q (.panic c) (a.put oi.dst v) w → Q (.panic c) a w := by exact fun _ _ _ h => h) (hw : Region.wanted oi (yielded ops a.tmps) = true := by rfl) (hS : SJ S J k listed w := by first | exact ⟨hHeld, fun _ => hJ⟩ | exact ⟨hHeld, fun h => absurd h (by decide)⟩)
  (hy : ∀ w, S w → (ed = true → J w) → (execOp a.eval oi).run P w = .ok (.value v) w := by (intro w hSw hJw; (try have hJw := hJw rfl); (try dsimp only at hSw); (try dsimp only at hJw); go_simp; try with_reducible rfl)) (hb : a.put oi.dst v = b := by (simp only [Act.put, pz0, pz1, pz2, pz3, pz4, pz5]; rfl)) : wpAnyJ P md ops Q S J k (fuel + 1) listed a w := by
 subst hb
 exact wpAnyJ_first hi (Region.noSelect_spec hs) hQ (by simpa using hik) (fun e => by rw [e] at hed; simpa using hed) fuel listed a w (fun j o ho hl => closedB_spec hcl ho hl) (Region.free_spec hi hf) (by simpa using hr) (Or.inl ⟨hw, fun w h => hy w h.1 h.2⟩) hS h
/-- .. it is not wanted -/
theorem ju (i : Nat) {fuel : Nat} {listed : Array Bool} {a b : Act} {w : World} {oi : Oper} (h : wpAnyJ P md ops Q S J k fuel (listed.setIfInBounds i true) b w) (hi : ops[i]? = some oi := by rfl) (hik : (i != k) = true := by rfl)
  (hcl : closedB md ops listed = true := by kernel_rfl) (hs : Region.noSelect ops = true := by kernel_rfl) (hf : Region.free md ops listed i = true := by kernel_rfl)
  (hr : (Region.ready md ops listed).contains i = true := by kernel_rfl) (hQ : ∀ c a w, Q (.panic c) (a.put oi.dst undef) w → Q (.panic c) a w := by exact fun _ _ _ h => h) (hw : Region.wanted oi (yielded ops a.tmps) = false := by rfl) (hS : SJ S J k listed w := by first | exact ⟨hHeld, fun _ => hJ⟩ | exact ⟨hHeld, fun h => absurd h (by decide)⟩)
  (hb : a.put oi.dst undef = b := by (simp only [Act.put, pz0, pz1, pz2, pz3, pz4, pz5]; rfl)) : wpAnyJ P md ops Q S J k (fuel + 1) listed a w := by
 subst hb
 exact wpAnyJ_first (ed := false) hi (Region.noSelect_spec hs) hQ (by simpa using hik) (fun e => by cases e) fuel listed a w (fun j o ho hl => closedB_spec hcl ho hl) (Region.free_spec hi hf) (by simpa using hr) (Or.inr ⟨hw, rfl⟩) hS h
theorem wpAnyJ_done {listed : Array Bool} {a : Act} {w : World} (hr : Region.ready md ops listed = []) (h : Q .normal a w) :
  ∀ fuel, wpAnyJ P md ops Q S J k fuel listed a w
 | 0 => ⟨hr, h⟩
 | _ + 1 => ⟨fun _ => h, by rw [hr]; simp⟩
/-- number i alone comes up -/
theorem jr (i : Nat) {fuel : Nat} {listed : Array Bool} {a : Act} {w : World} {oi : Oper} (h : ∀ K' : Act → World → Prop, Shut (∀ a w, SJ S J k (listed.setIfInBounds i true) w → wpAnyJ P md ops Q S J k fuel (listed.setIfInBounds i true) a w → K' a w) → if Region.wanted oi (yielded ops a.tmps) = true then Oper.wp P oi a w K' Q else K' (a.put oi.dst undef) w)
  (ho : ops[i]? = some oi := by rfl) (hr : Region.ready md ops listed = [i] := by kernel_rfl) : wpAnyJ P md ops Q S J k (fuel + 1) listed a w := by
 refine ⟨fun h0 => (by rw [hr] at h0; cases h0), fun j hj => ?_⟩
 rw [hr] at hj
 obtain rfl := List.mem_singleton.1 hj
 exact wpOp_step ho fun K' hK => h K' fun a w h1 h2 => hK a w ⟨h1, h2⟩
/-- two operations come up -/
theorem jr2 (i j : Nat) {fuel : Nat} {listed : Array Bool} {a : Act} {w : World} {oi oj : Oper} 
  (h : ∀ K' : Act → World → Prop, Shut (∀ a w, SJ S J k (listed.setIfInBounds i true) w → wpAnyJ P md ops Q S J k fuel (listed.setIfInBounds i true) a w → K' a w) → if Region.wanted oi (yielded ops a.tmps) = true then Oper.wp P oi a w K' Q else K' (a.put oi.dst undef) w)
  (h2 : ∀ K' : Act → World → Prop, Shut (∀ a w, SJ S J k (listed.setIfInBounds j true) w → wpAnyJ P md ops Q S J k fuel (listed.setIfInBounds j true) a w → K' a w) → if Region.wanted oj (yielded ops a.tmps) = true then Oper.wp P oj a w K' Q else K' (a.put oj.dst undef) w)
  (ho : ops[i]? = some oi := by rfl) (ho2 : ops[j]? = some oj := by rfl) (hr : Region.ready md ops listed = [i, j] := by kernel_rfl) : wpAnyJ P md ops Q S J k (fuel + 1) listed a w := by
 refine ⟨fun h0 => (by rw [h0] at hr; cases hr), fun j' hj => ?_⟩
 rw [hr] at hj
 rcases List.mem_cons.1 hj with rfl | hj
 ·exact wpOp_step ho fun K' hK => h K' fun a w h1 h2 => hK a w ⟨h1, h2⟩
 ·obtain rfl := List.mem_singleton.1 hj
  exact wpOp_step ho2 fun K' hK => h2 K' fun a w h1 h2 => hK a w ⟨h1, h2⟩
/-- a region that draws its order, from its beginning -/
theorem jb (S J : World → Prop) (k : Nat) {id : Nat} {a : Act} {w : World} (hS : S w.drew) (hJ : J w.drew) (h : S w.drew → J w.drew → wpAnyJ P .any ops Q S J k ops.size (Array.replicate ops.size false) a w.drew) (hm : P.follows .mixedOrders = true := by kernel_rfl) : (Code.region id ops true).wp P Q a w :=
 wp_region_any hm (wpAny_of_J _ _ _ _ (h hS hJ))
end
/-- an operation, and those that it stands behind, with their temporaries -/
abbrev Dep := Nat × Option Tmp
def upd (vs : Nat → Value) (i : Nat) (v : Value) : Nat → Value := fun k => if k = i then v else vs k
theorem upd_same (vs : Nat → Value) (i : Nat) (v : Value) : upd vs i v i = v := if_pos rfl
theorem upd_ne {vs : Nat → Value} {i k : Nat} {v : Value} (h : k ≠ i) : upd vs i v k = vs k := if_neg h
def puts : List Dep → (Nat → Value) → Act → Act
 | [], _, a => a
 | p :: r, vs, a => puts r vs (a.put p.2 (vs p.1))
def AllP {α : Type} (p : α → Prop) : List α → Prop
 | [] => True
 | d :: r => p d ∧ AllP p r
theorem allP_of {α : Type} {p : α → Prop} : ∀ {l : List α}, (∀ d ∈ l, p d) → AllP p l
 | [], _ => trivial
 | _ :: _, h => ⟨h _ (List.mem_cons_self ..), allP_of fun d hd => h d (List.mem_cons_of_mem _ hd)⟩
def dstOf (ops : Array Oper) (i : Nat) : Option Tmp := (ops[i]?).bind (·.dst)
/-- the plan of a region: its operations that are not listed yet, each with those that it stands behind, and those of them whose words it asks for -/
abbrev Plan := List (Nat × List Dep × List Nat × Bool)
/-- of which operation the word holds only until one of these comes up -/
abbrev Kill := Nat → List Nat
def Plan.has (L : Plan) (i : Nat) : Bool := L.any fun p => p.1 == i
def depsOf (L : Plan) (i : Nat) : List Nat := (L.filter fun p => p.1 == i).flatMap fun p => p.2.1.map (·.1)
def planOk (md : Region.Mode) (ops : Array Oper) (listed : Array Bool) (kill : Kill) (kj : Nat) (L : Plan) : Bool :=
 (List.range ops.size).all (fun i => listed.getD i true || L.has i) &&
 L.all (fun p => !listed.getD p.1 true && decide (p.1 < ops.size)) &&
 (List.range ops.size).all (fun i => match ops[i]? with | some o => o.after.toList.all fun e => !Region.binds md e || decide (e.on < i) | none => true) &&
 L.all (fun p => p.2.1.all fun d => d.2 == dstOf ops d.1 && L.has d.1) &&
 L.all (fun p => p.2.2.1.all fun u => (p.2.1.map (·.1)).contains u && (kill u).all fun k => k == p.1 || (depsOf L k).contains p.1) &&
 L.all (fun p => (kill p.1).all fun k => L.has k) &&
 L.all (fun p => !p.2.2.2 || p.1 == kj || (L.has kj && (depsOf L kj).contains p.1)) && !listed.getD kj false &&
 L.all (fun p => (depsOf L p.1).all fun j => match ops[p.1]? with | some o => o.after.toList.any fun e => Region.binds md e && (e.on == j || (depsOf L e.on).contains j) | none => false) &&
 L.all (fun p => L.all fun q => p.1 == q.1 || (match dstOf ops p.1 with | some d => dstOf ops q.1 != some d | none => true)) &&
 L.all (fun p => match ops[p.1]? with
  | some o => L.all fun q => (match dstOf ops q.1 with | some d => !(o.looksAt ops).contains d || (p.2.1.map (·.1)).contains q.1 || (q.1 != p.1 && (depsOf L q.1).contains p.1) | none => true)
  | none => false)
section
variable {P : Program} {ops : Array Oper} {Q : Exit → Act → World → Prop} {md : Region.Mode} {kj : Nat} {J : World → Prop}
/-- one operation, behind those that it stands behind: what it leaves -/
def Ob (P : Program) (ops : Array Oper) (I J : World → Prop) (kj : Nat) (E : Nat → (Nat → Value) → World → World → Prop) (post : Nat → (Nat → Value) → World → Prop) (a0 : Act) (i : Nat) (ds : List Dep) (us : List Nat) (fl : Bool) (o : Oper) : Prop :=
 ∀ (vs : Nat → Value) (w : World) (K : Act → World → Prop), I w → (fl = true → J w) → AllP (fun d => post d vs w) us →
  Shut (∀ b v w', b = (puts ds vs a0).put o.dst v → I w' → (i = kj ∨ (J w → J w')) → post i (upd vs i v) w' → E i (upd vs i v) w w' → K b w') →
  if Region.wanted o (yielded ops (puts ds vs a0).tmps) = true then Oper.wp P o (puts ds vs a0) w K (fun _ _ _ => False) else K ((puts ds vs a0).put o.dst undef) w
def Obs (P : Program) (ops : Array Oper) (I J : World → Prop) (kj : Nat) (E : Nat → (Nat → Value) → World → World → Prop) (post : Nat → (Nat → Value) → World → Prop) (a0 : Act) : Plan → Prop
 | [] => True
 | p :: r => (∃ o, ops[p.1]? = some o ∧ Ob P ops I J kj E post a0 p.1 p.2.1 p.2.2.1 p.2.2.2 o) ∧ Obs P ops I J kj E post a0 r
theorem Obs.mem {I : World → Prop} {E : Nat → (Nat → Value) → World → World → Prop} {post : Nat → (Nat → Value) → World → Prop} {a0 : Act} : ∀ {L : Plan}, Obs P ops I J kj E post a0 L → ∀ p ∈ L, ∃ o, ops[p.1]? = some o ∧ Ob P ops I J kj E post a0 p.1 p.2.1 p.2.2.1 p.2.2.2 o
 | [], _, _, h => by cases h
 | q :: r, h, p, hp => by
  rcases List.mem_cons.1 hp with rfl | hp
  ·exact h.1
  ·exact Obs.mem h.2 p hp

theorem puts_defers : ∀ (l : List Dep) (vs : Nat → Value) (a : Act), (puts l vs a).defers = a.defers
 | [], _, _ => rfl
 | p :: r, vs, a => by
  rw [puts, puts_defers r vs]
  cases p.2 <;> rfl
theorem put_size (a : Act) (d : Option Tmp) (v : Value) : (a.put d v).tmps.size = a.tmps.size := by
 cases d <;> simp [Act.put]
theorem put_get_ne {a : Act} {d : Option Tmp} {v : Value} {t : Nat} (h : d ≠ some t) : (a.put d v).tmps[t]? = a.tmps[t]? := by
 cases d with
 | none => rfl
 | some e => simp [Act.put, Array.getElem?_setIfInBounds_ne (show e ≠ t from fun x => h (by rw [x]))]
theorem put_get_eq {a : Act} {v : Value} {t : Nat} (h : t < a.tmps.size) : (a.put (some t) v).tmps[t]? = some v := by
 simp [Act.put, h]
theorem puts_size : ∀ (l : List Dep) (vs : Nat → Value) (a : Act), (puts l vs a).tmps.size = a.tmps.size
 | [], _, _ => rfl
 | p :: r, vs, a => by rw [puts, puts_size r vs, put_size]
theorem puts_no : ∀ (l : List Dep) (vs : Nat → Value) (a : Act) (t : Nat), (∀ p ∈ l, p.2 ≠ some t) → (puts l vs a).tmps[t]? = a.tmps[t]?
 | [], _, _, _, _ => rfl
 | p :: r, vs, a, t, h => by
  rw [puts, puts_no r vs _ t fun q hq => h q (List.mem_cons_of_mem _ hq), put_get_ne (h p (List.mem_cons_self ..))]
theorem puts_yes : ∀ (l : List Dep) (vs : Nat → Value) (a : Act) (t k : Nat), (k, some t) ∈ l → (∀ p ∈ l, p.2 = some t → p.1 = k) → t < a.tmps.size → (puts l vs a).tmps[t]? = some (vs k)
 | [], _, _, _, _, h, _, _ => by cases h
 | p :: r, vs, a, t, k, h, hu, ht => by
  rw [puts]
  by_cases hr : ∃ q ∈ r, q.2 = some t
  ·obtain ⟨q, hq, hqt⟩ := hr
   have hqk := hu q (List.mem_cons_of_mem _ hq) hqt
   have : (k, some t) ∈ r := by rw [← hqk, ← hqt]; exact hq
   exact puts_yes r vs _ t k this (fun p hp => hu p (List.mem_cons_of_mem _ hp)) (by rw [put_size]; exact ht)
  ·have hn : ∀ q ∈ r, q.2 ≠ some t := fun q hq e => hr ⟨q, hq, e⟩
   rw [puts_no r vs _ t hn]
   rcases List.mem_cons.1 h with rfl | h
   ·exact put_get_eq ht
   ·exact absurd rfl (hn _ h)
theorem eval_same {a b : Act} {x : Operand} (h : ∀ t, x = .tmp t → a.tmps[t]? = b.tmps[t]?) : a.eval x = b.eval x := by
 cases x with
 | tmp t => simp [Act.eval, h t rfl]
 | _ => rfl
theorem put_same {a b : Act} {d : Option Tmp} {v u : Value} (hs : a.tmps.size = b.tmps.size) (h : b.put d v = b.put d u) : a.put d v = a.put d u := by
 cases d with
 | none => rfl
 | some t =>
  rcases Nat.lt_or_ge t b.tmps.size with hl | hg
  ·have e := congrArg (fun x : Act => x.tmps[t]?) h
   simp only [put_get_eq hl, Option.some.injEq] at e
   rw [e]
  ·have hn : ¬ (t : Nat) < a.tmps.size := by rw [hs]; exact Nat.not_lt.2 hg
   simp [Act.put, Array.setIfInBounds, hn]
theorem wanted_same {o : Oper} {a b : Act} (h : ∀ t ∈ o.looksAt ops, a.tmps[t]? = b.tmps[t]?) : Region.wanted o (yielded ops a.tmps) = Region.wanted o (yielded ops b.tmps) := by
 unfold Region.wanted
 cases hg : o.guard with
 | none => rfl
 | some gw =>
  obtain ⟨g, want⟩ := gw
  have hy : yielded ops a.tmps g = yielded ops b.tmps g := by
   unfold yielded
   cases ht : (ops[g]?).bind (·.dst) with
   | none => rfl
   | some t =>
    have := h t (by simp [Oper.looksAt, hg, ht])
    simp [this]
  simp only [hy]
theorem exec_same {o : Oper} (hs : ∀ cs b, o.op ≠ .select cs b) {a b : Act} (h : ∀ t ∈ o.looksAt ops, a.tmps[t]? = b.tmps[t]?) : execOp a.eval o = execOp b.eval o :=
 execOp_congr o hs fun x hx => eval_same fun t ht => h t (by
  subst ht
  exact List.mem_append_left _ (List.mem_filterMap.2 ⟨.tmp t, by simpa using hx, rfl⟩))
/-- what an operation leaves where it stands is what it leaves wherever it finds the same -/
theorem op_same {o : Oper} (hs : ∀ cs b, o.op ≠ .select cs b) {a b : Act} {w : World} (h : ∀ t ∈ o.looksAt ops, a.tmps[t]? = b.tmps[t]?) (hz : a.tmps.size = b.tmps.size) {G : Value → World → Prop}
  (H : if Region.wanted o (yielded ops b.tmps) = true then Oper.wp P o b w (fun X w' => ∃ v, X = b.put o.dst v ∧ G v w') (fun _ _ _ => False) else ∃ v, b.put o.dst undef = b.put o.dst v ∧ G v w) :
  if Region.wanted o (yielded ops a.tmps) = true then Oper.wp P o a w (fun X w' => ∃ v, X = a.put o.dst v ∧ G v w') Q else ∃ v, a.put o.dst undef = a.put o.dst v ∧ G v w := by
 rw [wanted_same h]
 split
 ·rename_i hw
  rw [if_pos hw] at H
  unfold Oper.wp at *
  rw [exec_same hs h]
  generalize (execOp b.eval o).run P w = r at *
  cases r with
  | ok n w' =>
   cases n <;> simp only [Oper.upon] at H ⊢
   case value u => obtain ⟨v, e, g⟩ := H; exact ⟨v, put_same hz e, g⟩
   case skip => obtain ⟨v, e, g⟩ := H; exact ⟨v, put_same hz e, g⟩
   case defer d =>
    obtain ⟨v, e, g⟩ := H
    have h1 := congrArg (fun x : Act => x.defers.length) e
    have h2 : ∀ (x : Act) (d : Option Tmp) (v : Value), (x.put d v).defers = x.defers := fun x d v => by cases d <;> rfl
    simp only [h2, List.length_cons] at h1
    omega
   case enter f args =>
    refine Calls.mono H fun e w'' he => ?_
    cases e with
    | returned u => obtain ⟨v, e, g⟩ := he; exact ⟨v, put_same hz e, g⟩
    | panicked c => exact he.elim
    | outgrown => obtain ⟨_, _, hf⟩ := he; exact hf.elim
   case row row args => exact Rows.mono H fun u w'' he => by obtain ⟨v, e, g⟩ := he; exact ⟨v, put_same hz e, g⟩
  | halt x w' => cases x <;> simp only [Oper.upon] at H
 ·rename_i hw
  rw [if_neg hw] at H
  obtain ⟨v, e, g⟩ := H
  exact ⟨v, put_same hz e, g⟩
def Congr (post : Nat → (Nat → Value) → World → Prop) : Plan → Prop
 | [] => True
 | p :: r => (∀ (vs vs' : Nat → Value) (w : World), vs p.1 = vs' p.1 → AllP (fun d => vs d.1 = vs' d.1) p.2.1 → post p.1 vs w → post p.1 vs' w) ∧ Congr post r
theorem Congr.mem {post : Nat → (Nat → Value) → World → Prop} : ∀ {L : Plan}, Congr post L → ∀ p ∈ L, ∀ (vs vs' : Nat → Value) (w : World), vs p.1 = vs' p.1 → (∀ d ∈ p.2.1, vs d.1 = vs' d.1) → post p.1 vs w → post p.1 vs' w
 | [], _, _, h => by cases h
 | q :: r, h, p, hp => by
  rcases List.mem_cons.1 hp with rfl | hp
  ·exact fun vs vs' w h1 h2 h3 => h.1 vs vs' w h1 (allP_of h2) h3
  ·exact Congr.mem h.2 p hp
structure RInv (ops : Array Oper) (S J : World → Prop) (kj : Nat) (post : Nat → (Nat → Value) → World → Prop) (kill : Kill) (L : Plan) (l0 : Array Bool) (a0 : Act) (vs : Nat → Value) (listed : Array Bool) (a : Act) (w : World) : Prop where
 defers : a.defers = a0.defers
 size : a.tmps.size = a0.tmps.size
 yes : ∀ p ∈ L, listed.getD p.1 false = true → ∀ d, dstOf ops p.1 = some d → d < a0.tmps.size → a.tmps[d]? = some (vs p.1)
 no : ∀ t, (∀ p ∈ L, listed.getD p.1 false = true → dstOf ops p.1 ≠ some t) → a.tmps[t]? = a0.tmps[t]?
 posts : ∀ p ∈ L, listed.getD p.1 false = true → (∀ k ∈ kill p.1, listed.getD k false = false) → post p.1 vs w
 shut : ∀ p ∈ L, listed.getD p.1 false = true → ∀ j ∈ depsOf L p.1, listed.getD j false = true
 held : SJ S J kj listed w
 big : listed.size = ops.size
 old : ∀ i, l0.getD i true = true → listed.getD i true = true
structure PlanOk (md : Region.Mode) (ops : Array Oper) (l0 : Array Bool) (kill : Kill) (kj : Nat) (L : Plan) : Prop where
 cover : ∀ i, i < ops.size → l0.getD i true = false → ∃ p ∈ L, p.1 = i
 fresh : ∀ p ∈ L, l0.getD p.1 true = false ∧ p.1 < ops.size
 back : ∀ i o, ops[i]? = some o → ∀ e ∈ o.after, Region.binds md e = true → e.on < i
 deps : ∀ p ∈ L, ∀ d ∈ p.2.1, d.2 = dstOf ops d.1 ∧ ∃ q ∈ L, q.1 = d.1
 alive : ∀ p ∈ L, ∀ u ∈ p.2.2.1, (∃ d ∈ p.2.1, d.1 = u) ∧ ∀ k ∈ kill u, k = p.1 ∨ p.1 ∈ depsOf L k
 kills : ∀ p ∈ L, ∀ k ∈ kill p.1, ∃ q ∈ L, q.1 = k
 flag : ∀ p ∈ L, p.2.2.2 = true → p.1 = kj ∨ ((∃ q ∈ L, q.1 = kj) ∧ p.1 ∈ depsOf L kj)
 first : l0.getD kj false = false
 via : ∀ p ∈ L, ∀ j ∈ depsOf L p.1, ∃ o, ops[p.1]? = some o ∧ ∃ e ∈ o.after, Region.binds md e = true ∧ (e.on = j ∨ j ∈ depsOf L e.on)
 dist : ∀ p ∈ L, ∀ q ∈ L, p.1 = q.1 ∨ ∀ d, dstOf ops p.1 = some d → dstOf ops q.1 ≠ some d
 look : ∀ p ∈ L, ∃ o, ops[p.1]? = some o ∧ ∀ q ∈ L, ∀ d, dstOf ops q.1 = some d → d ∈ o.looksAt ops → (∃ x ∈ p.2.1, x.1 = q.1) ∨ (q.1 ≠ p.1 ∧ p.1 ∈ depsOf L q.1)
theorem Plan.has_iff {L : Plan} {i : Nat} : L.has i = true ↔ ∃ p ∈ L, p.1 = i := by simp [Plan.has]
theorem planOk_spec {l0 : Array Bool} {kill : Kill} {L : Plan} (h : planOk md ops l0 kill kj L = true) : PlanOk md ops l0 kill kj L := by
 unfold planOk at h
 simp only [Bool.and_eq_true] at h
 obtain ⟨⟨⟨⟨⟨⟨⟨⟨⟨⟨h1, h2⟩, h3⟩, h4⟩, h8⟩, h9⟩, hA⟩, hB⟩, h5⟩, h6⟩, h7⟩ := h
 refine ⟨fun i hi hl => ?_, fun p hp => ?_, fun i o ho e he hb => ?_, fun p hp d hd => ?_, fun p hp u hu => ?_, fun p hp k hk => ?_, fun p hp hf => ?_, by simpa using hB, fun p hp j hj => ?_, fun p hp q hq => ?_, fun p hp => ?_⟩
 ·have := List.all_eq_true.1 h1 i (List.mem_range.2 hi)
  rw [hl, Bool.false_or] at this
  exact Plan.has_iff.1 this
 ·have := List.all_eq_true.1 h2 p hp
  simp only [Bool.and_eq_true, Bool.not_eq_true', decide_eq_true_eq] at this
  exact this
 ·have := List.all_eq_true.1 h3 i (List.mem_range.2 (Array.getElem?_eq_some_iff.1 ho).1)
  rw [ho] at this
  have := List.all_eq_true.1 this e (by simpa using he)
  rw [hb] at this
  simpa using this
 ·have := List.all_eq_true.1 (List.all_eq_true.1 h4 p hp) d hd
  simp only [Bool.and_eq_true, beq_iff_eq] at this
  exact ⟨this.1, Plan.has_iff.1 this.2⟩
 ·have := List.all_eq_true.1 (List.all_eq_true.1 h8 p hp) u hu
  simp only [Bool.and_eq_true, List.contains_iff_mem, List.mem_map] at this
  refine ⟨by simpa using this.1, fun k hk => ?_⟩
  have := List.all_eq_true.1 this.2 k hk
  simp only [Bool.or_eq_true, beq_iff_eq, List.contains_iff_mem] at this
  exact this
 ·exact Plan.has_iff.1 (List.all_eq_true.1 (List.all_eq_true.1 h9 p hp) k hk)
 ·have := List.all_eq_true.1 hA p hp
  rw [hf] at this
  simp only [Bool.not_true, Bool.false_or, Bool.or_eq_true, Bool.and_eq_true, beq_iff_eq, List.contains_iff_mem] at this
  exact this.imp id fun h => ⟨Plan.has_iff.1 h.1, h.2⟩
 ·have := List.all_eq_true.1 (List.all_eq_true.1 h5 p hp) j hj
  cases ho : ops[p.1]? with
  | none => rw [ho] at this; cases this
  | some o =>
   rw [ho] at this
   obtain ⟨e, he, h⟩ := List.any_eq_true.1 this
   simp only [Bool.and_eq_true, Bool.or_eq_true, beq_iff_eq, List.contains_iff_mem] at h
   exact ⟨o, rfl, e, by simpa using he, h.1, h.2⟩
 ·have := List.all_eq_true.1 (List.all_eq_true.1 h6 p hp) q hq
  simp only [Bool.or_eq_true, beq_iff_eq] at this
  refine this.imp id fun h d hd => ?_
  rw [hd] at h
  simpa using h
 ·have := List.all_eq_true.1 h7 p hp
  cases ho : ops[p.1]? with
  | none => rw [ho] at this; cases this
  | some o =>
   rw [ho] at this
   refine ⟨o, rfl, fun q hq d hd hl => ?_⟩
   have := List.all_eq_true.1 this q hq
   rw [hd] at this
   have hc : (o.looksAt ops).contains d = true := by simpa using hl
   simp only [hc, Bool.not_true, Bool.false_or, Bool.or_eq_true, Bool.and_eq_true, bne_iff_ne, ne_eq, List.contains_iff_mem] at this
   exact this.imp (fun h => by simpa using h) id
theorem deps_mem {L : Plan} {p : Nat × List Dep × List Nat × Bool} (hp : p ∈ L) {d : Dep} (hd : d ∈ p.2.1) : d.1 ∈ depsOf L p.1 :=
 List.mem_flatMap.2 ⟨p, List.mem_filter.2 ⟨hp, by simp⟩, List.mem_map.2 ⟨d, hd, rfl⟩⟩
theorem deps_has {L : Plan} {i j : Nat} (h : j ∈ depsOf L i) : ∃ p ∈ L, p.1 = i := by
 obtain ⟨p, hp, _⟩ := List.mem_flatMap.1 h
 obtain ⟨h1, h2⟩ := List.mem_filter.1 hp
 exact ⟨p, h1, by simpa using h2⟩
theorem getD_ff {l : Array Bool} {i : Nat} (h : l.getD i true = false) : l.getD i false = false ∧ i < l.size := by
 rcases Nat.lt_or_ge i l.size with hl | hg
 ·exact ⟨by simpa [hl] using h, hl⟩
 ·simp [Array.getElem?_eq_none hg] at h
theorem getD_tt {l : Array Bool} {i : Nat} (hi : i < l.size) (h : ¬ l.getD i true = false) : l.getD i false = true := by
 simpa [hi] using h
section
variable {S J : World → Prop} {kj : Nat} {post : Nat → (Nat → Value) → World → Prop} {E : Nat → (Nat → Value) → World → World → Prop} {kill : Kill} {L : Plan} {l0 : Array Bool} {a0 : Act} {vs : Nat → Value} {listed : Array Bool} {a : Act} {w : World}
theorem RInv.behind (pk : PlanOk md ops l0 kill kj L) (h : RInv ops S J kj post kill L l0 a0 vs listed a w) {i : Nat} (hi : i ∈ Region.ready md ops listed) {j : Nat} (hj : j ∈ depsOf L i) : listed.getD j false = true := by
 obtain ⟨p, hp, rfl⟩ := deps_has hj
 obtain ⟨o, ho, e, he, hb, hx⟩ := pk.via p hp j hj
 obtain ⟨_, o', ho', hall⟩ := mem_ready.1 hi
 rw [ho] at ho'
 cases ho'
 have h1 := hall e he hb
 rcases hx with rfl | hx
 ·exact h1
 ·obtain ⟨q, hq, hqe⟩ := deps_has hx
  rw [← hqe] at h1 hx
  exact h.shut q hq h1 j hx
theorem RInv.done (pk : PlanOk md ops l0 kill kj L) (h : RInv ops S J kj post kill L l0 a0 vs listed a w) (hr : Region.ready md ops listed = []) : ∀ i, i < ops.size → listed.getD i true = true := by
 intro i
 induction i using Nat.strongRecOn with
 | ind i ih =>
  intro hi
  cases hl : listed.getD i true with
  | true => rfl
  | false =>
   obtain ⟨o, ho⟩ : ∃ o, ops[i]? = some o := ⟨_, Array.getElem?_eq_getElem hi⟩
   have : i ∈ Region.ready md ops listed := mem_ready.2 ⟨hl, o, ho, fun e he hb => by
    have h1 := pk.back i o ho e he hb
    exact getD_tt (by rw [h.big]; omega) (by rw [ih e.on h1 (by omega)]; decide)⟩
   rw [hr] at this
   cases this
theorem RInv.all (pk : PlanOk md ops l0 kill kj L) (h : RInv ops S J kj post kill L l0 a0 vs listed a w) (hr : Region.ready md ops listed = []) : ∀ p ∈ L, listed.getD p.1 false = true := fun p hp => by
 have h2 := (pk.fresh p hp).2
 exact getD_tt (by rw [h.big]; exact h2) (by rw [h.done pk hr p.1 h2]; decide)
def planDeps (ops : Array Oper) (L : Plan) : List Dep := L.map fun p => (p.1, dstOf ops p.1)
theorem RInv.end_ (pk : PlanOk md ops l0 kill kj L) (h : RInv ops S J kj post kill L l0 a0 vs listed a w) (hall : ∀ p ∈ L, listed.getD p.1 false = true) : a = puts (planDeps ops L) vs a0 := by
 have e1 : a.defers = (puts (planDeps ops L) vs a0).defers := by rw [puts_defers, h.defers]
 have e2 : a.tmps = (puts (planDeps ops L) vs a0).tmps := by
  apply Array.ext_getElem?
  intro t
  by_cases hq : ∃ q ∈ L, dstOf ops q.1 = some t
  ·obtain ⟨q, hq, hd⟩ := hq
   rcases Nat.lt_or_ge t a0.tmps.size with hl | hg
   ·have hm : (q.1, some t) ∈ planDeps ops L := List.mem_map.2 ⟨q, hq, by rw [← hd]⟩
    rw [h.yes q hq (hall q hq) t hd hl, puts_yes (planDeps ops L) vs a0 t q.1 hm (fun p hp hpt => ?_) hl]
    obtain ⟨r, hr, rfl⟩ := List.mem_map.1 hp
    exact (pk.dist r hr q hq).resolve_right fun hn => hn t hpt hd
   ·rw [Array.getElem?_eq_none (by rw [h.size]; exact hg), Array.getElem?_eq_none (by rw [puts_size]; exact hg)]
  ·rw [h.no t fun p hp _ e => hq ⟨p, hp, e⟩, puts_no _ _ _ t fun p hp e => ?_]
   obtain ⟨r, hr, rfl⟩ := List.mem_map.1 hp
   exact hq ⟨r, hr, e⟩
 cases a
 cases hp : puts (planDeps ops L) vs a0
 rw [hp] at e1 e2
 simp only at e1 e2
 rw [e1, e2]
theorem RInv.agree (pk : PlanOk md ops l0 kill kj L) (h : RInv ops S J kj post kill L l0 a0 vs listed a w) {p : Nat × List Dep × List Nat × Bool} (hp : p ∈ L) (hi : p.1 ∈ Region.ready md ops listed) {o : Oper} (ho : ops[p.1]? = some o) :
  ∀ t ∈ o.looksAt ops, a.tmps[t]? = (puts p.2.1 vs a0).tmps[t]? := by
 intro t ht
 obtain ⟨o', ho', hlook⟩ := pk.look p hp
 rw [ho] at ho'
 cases ho'
 have hun := (mem_ready.1 hi).1
 by_cases hq : ∃ q ∈ L, listed.getD q.1 false = true ∧ dstOf ops q.1 = some t
 ·obtain ⟨q, hq, hql, hd⟩ := hq
  rcases hlook q hq t hd ht with ⟨x, hx, hxq⟩ | ⟨_, hx⟩
  ·rcases Nat.lt_or_ge t a0.tmps.size with hl | hg
   ·have hx2 := (pk.deps p hp x hx).1
    rw [hxq, hd] at hx2
    rw [h.yes q hq hql t hd hl, puts_yes _ _ _ t q.1 (by rw [← hxq, ← hx2]; exact hx) (fun y hy hyt => ?_) hl]
    obtain ⟨hy2, r, hr, hry⟩ := pk.deps p hp y hy
    rw [hyt, ← hry] at hy2
    rw [← hry]
    exact (pk.dist r hr q hq).resolve_right fun hn => hn t hy2.symm hd
   ·rw [Array.getElem?_eq_none (by rw [h.size]; exact hg), Array.getElem?_eq_none (by rw [puts_size]; exact hg)]
  ·have := h.shut q hq hql _ hx
   rw [(getD_ff hun).1] at this
   cases this
 ·rw [h.no t fun q hq' hql e => hq ⟨q, hq', hql, e⟩, puts_no _ _ _ t fun d hd e => ?_]
  obtain ⟨hd2, r, hr, hrd⟩ := pk.deps p hp d hd
  have hl := h.behind pk hi (deps_mem hp hd)
  refine hq ⟨r, hr, by rw [hrd]; exact hl, ?_⟩
  rw [hrd, ← hd2, e]
theorem RInv.next (pk : PlanOk md ops l0 kill kj L) (hc : Congr post L) (stab : ∀ p q, p ∈ L → q ∈ L → p.1 ≠ q.1 → p.1 ∉ kill q.1 → p.1 ∉ depsOf L q.1 → ∀ vs w w', E p.1 vs w w' → S w → S w' → post q.1 vs w → post q.1 vs w') (h : RInv ops S J kj post kill L l0 a0 vs listed a w) {p : Nat × List Dep × List Nat × Bool} (hp : p ∈ L) (hi : p.1 ∈ Region.ready md ops listed) {o : Oper} (ho : ops[p.1]? = some o) {v : Value} {w' : World}
  (hS : S w') (hJ : p.1 = kj ∨ (J w → J w')) (hpo : post p.1 (upd vs p.1 v) w') (hE : E p.1 (upd vs p.1 v) w w') : RInv ops S J kj post kill L l0 a0 (upd vs p.1 v) (listed.setIfInBounds p.1 true) (a.put o.dst v) w' := by
 have hun := getD_ff (mem_ready.1 hi).1
 have hdst : dstOf ops p.1 = o.dst := by unfold dstOf; rw [ho]; rfl
 have hset : ∀ j, (listed.setIfInBounds p.1 true).getD j false = true → j ≠ p.1 → listed.getD j false = true := fun j hj hne => by rwa [getD_set_ne false (Ne.symm hne)] at hj
 have hput : ∀ (x : Act) (d : Option Tmp) (v : Value), (x.put d v).defers = x.defers := fun x d v => by cases d <;> rfl
 refine ⟨by rw [hput, h.defers], by rw [put_size, h.size], fun q hq hql d hd hl => ?_, fun t ht => ?_, fun q hq hql hk => ?_, fun q hq hql j hj => ?_, ⟨hS, fun hl => ?_⟩, by rw [Array.size_setIfInBounds, h.big], fun j hj => ?_⟩
 ·by_cases hqp : q.1 = p.1
  ·rw [hqp, hdst] at hd
   rw [hd, put_get_eq (by rw [h.size]; exact hl), hqp, upd_same]
  ·rw [put_get_ne (fun e => ((pk.dist q hq p hp).resolve_left hqp) d hd (by rw [hdst, e])), h.yes q hq (hset _ hql hqp) d hd hl, upd_ne hqp]
 ·have h1 : o.dst ≠ some t := fun e => ht p hp (by simp [hun.2]) (by rw [hdst, e])
  rw [put_get_ne h1]
  exact h.no t fun q hq hql => ht q hq (getD_set_true hql)
 ·by_cases hqp : q.1 = p.1
  ·rw [hqp]; exact hpo
  ·have hql' := hset _ hql hqp
   have hpk : p.1 ∉ kill q.1 := fun hm => by have := hk _ hm; simp [hun.2] at this
   have hpd : p.1 ∉ depsOf L q.1 := fun hm => by have := h.shut q hq hql' _ hm; rw [hun.1] at this; cases this
   refine stab p q hp hq (Ne.symm hqp) hpk hpd _ _ _ hE h.held.1 hS (hc.mem q hq vs _ w (by rw [upd_ne hqp]) (fun d hd => ?_) (h.posts q hq hql' fun k hkm => ?_))
   rotate_left 1
   ·have := hk k hkm
    by_cases hkp : p.1 = k
    ·exact absurd (hkp ▸ hkm) hpk
    ·rwa [getD_set_ne false hkp] at this
   have := h.shut q hq hql' _ (deps_mem hq hd)
   rw [upd_ne fun e => by rw [e, hun.1] at this; cases this]
 ·by_cases hqp : q.1 = p.1
  ·rw [hqp] at hj
   exact getD_set_true (h.behind pk hi hj)
  ·exact getD_set_true (h.shut q hq (hset _ hql hqp) j hj)
 ·rcases hJ with rfl | hJ
  ·simp [hun.2] at hl
  ·refine hJ (h.held.2 ?_)
   by_cases hpk : p.1 = kj
   ·rw [← hpk]; exact hun.1
   ·rwa [getD_set_ne false hpk] at hl
 ·by_cases hjp : p.1 = j
  ·subst hjp; simp [hun.2]
  ·rw [getD_set_ne true hjp]; exact h.old j hj
theorem count_next {L : Plan} {listed : Array Bool} {p : Nat × List Dep × List Nat × Bool} (hp : p ∈ L) (h0 : listed.getD p.1 false = false) (hl : p.1 < listed.size) {n : Nat} (h : L.countP (fun q => !listed.getD q.1 false) ≤ n + 1) :
  L.countP (fun q => !(listed.setIfInBounds p.1 true).getD q.1 false) ≤ n := by
 have key : ∀ (M : Plan), M.countP (fun q => !(listed.setIfInBounds p.1 true).getD q.1 false) ≤ M.countP (fun q => !listed.getD q.1 false) := fun M => List.countP_mono_left fun q _ hq => by
  by_cases hqp : p.1 = q.1
  ·rw [← hqp] at hq; simp [hl] at hq
  ·rwa [getD_set_ne false hqp] at hq
 have strict : ∀ (M : Plan), p ∈ M → M.countP (fun q => !(listed.setIfInBounds p.1 true).getD q.1 false) + 1 ≤ M.countP (fun q => !listed.getD q.1 false) := fun M => by
  induction M with
  | nil => intro h; cases h
  | cons q r ih =>
   intro hm
   rw [List.countP_cons, List.countP_cons]
   rcases List.mem_cons.1 hm with rfl | hm
   ·have e : (listed.setIfInBounds p.1 true).getD p.1 false = true := by simp [hl]
    rw [e, h0]
    have := key r
    simpa using this
   ·have h1 := ih hm
    by_cases hqp : p.1 = q.1
    ·have e : (listed.setIfInBounds p.1 true).getD q.1 false = true := by rw [← hqp]; simp [hl]
     rw [e]
     simp only [Bool.not_true, Bool.false_eq_true, if_false, Nat.add_zero]
     exact Nat.le_trans h1 (Nat.le_add_right _ _)
    ·rw [getD_set_ne false hqp, Nat.add_right_comm]
     exact Nat.add_le_add_right h1 _
 have := strict L hp
 omega
/-- a drawn region, each operation walked once -/
theorem posts_run (hs : Region.noSelect ops = true) (pk : PlanOk md ops l0 kill kj L) (hc : Congr post L) (stab : ∀ p q, p ∈ L → q ∈ L → p.1 ≠ q.1 → p.1 ∉ kill q.1 → p.1 ∉ depsOf L q.1 → ∀ vs w w', E p.1 vs w w' → S w → S w' → post q.1 vs w → post q.1 vs w') (obs : Obs P ops S J kj E post a0 L)
  (F : List Nat) (hF : ∀ f ∈ F, L.has f = true ∧ kill f = []) (fin : ∀ vs w', S w' → AllP (fun d => post d vs w') F → Q .normal (puts (planDeps ops L) vs a0) w') :
  ∀ (fuel : Nat) (listed : Array Bool) (a : Act) (w : World), L.countP (fun q => !listed.getD q.1 false) ≤ fuel → (∃ vs, RInv ops S J kj post kill L l0 a0 vs listed a w) → wpAnyJ P md ops Q S J kj fuel listed a w := by
 have hfin : ∀ listed a w vs, RInv ops S J kj post kill L l0 a0 vs listed a w → (∀ p ∈ L, listed.getD p.1 false = true) → Q .normal a w := fun listed a w vs h hall => by
  rw [h.end_ pk hall]
  exact fin vs w h.held.1 (allP_of fun d hd => by obtain ⟨p, hp, rfl⟩ := Plan.has_iff.1 (hF d hd).1; exact h.posts p hp (hall p hp) fun k hk => by rw [(hF _ hd).2] at hk; cases hk)
 intro fuel
 induction fuel with
 | zero =>
  rintro listed a w hn ⟨vs, h⟩
  have hall : ∀ p ∈ L, listed.getD p.1 false = true := fun p hp => by
   have := List.countP_eq_zero.1 (Nat.le_zero.1 hn) p hp
   simpa using this
  refine ⟨?_, hfin _ _ _ vs h hall⟩
  refine List.eq_nil_iff_forall_not_mem.2 fun j hj => ?_
  obtain ⟨hun, o, ho, _⟩ := mem_ready.1 hj
  have hun' := getD_ff hun
  obtain ⟨p, hp, rfl⟩ := pk.cover j (by rw [← h.big]; exact hun'.2) (by cases hl : l0.getD j true with | false => rfl | true => rw [h.old j hl] at hun; cases hun)
  rw [hall p hp] at hun'
  cases hun'.1
 | succ fuel ih =>
  rintro listed a w hn ⟨vs, h⟩
  refine ⟨fun hr => hfin _ _ _ vs h (h.all pk hr), fun i hi => ?_⟩
  obtain ⟨hun, o, ho, hall⟩ := mem_ready.1 hi
  have hun' := getD_ff hun
  obtain ⟨p, hp, rfl⟩ := pk.cover i (by rw [← h.big]; exact hun'.2) (by cases hl : l0.getD i true with | false => rfl | true => rw [h.old i hl] at hun; cases hun)
  obtain ⟨o', ho', hob⟩ := obs.mem p hp
  rw [ho] at ho'
  cases ho'
  have hdeps : AllP (fun d => post d vs w) p.2.2.1 := allP_of fun u hu => by
   obtain ⟨⟨d, hd, rfl⟩, hk⟩ := pk.alive p hp u hu
   obtain ⟨_, r, hr, hrd⟩ := pk.deps p hp d hd
   rw [← hrd] at hk ⊢
   refine h.posts r hr ?_ fun k hkm => ?_
   ·rw [hrd]
    exact h.behind pk hi (deps_mem hp hd)
   ·rcases hk k hkm with rfl | hx
    ·exact hun'.1
    ·obtain ⟨q, hq, rfl⟩ := pk.kills r hr k hkm
     cases hl : listed.getD q.1 false with
     | false => rfl
     | true => have := h.shut q hq hl _ hx; rw [hun'.1] at this; cases this
  have hjw : p.2.2.2 = true → J w := fun hf => h.held.2 (by
   rcases pk.flag p hp hf with e | ⟨⟨q, hq, hqe⟩, hx⟩
   ·rw [← e]; exact hun'.1
   ·cases hl : listed.getD kj false with
    | false => rfl
    | true =>
     rw [← hqe] at hl hx
     have := h.shut q hq hl _ hx
     rw [hun'.1] at this
     cases this)
  have hz : a.tmps.size = (puts p.2.1 vs a0).tmps.size := by rw [puts_size, h.size]
  have H := op_same (P := P) (Q := Q) (w := w) (G := fun v w' => (S w' ∧ (p.1 = kj ∨ (J w → J w'))) ∧ post p.1 (upd vs p.1 v) w' ∧ E p.1 (upd vs p.1 v) w w') (fun cs b => Region.noSelect_spec hs p.1 o cs b ho) (h.agree pk hp hi ho) hz
   (hob vs w _ h.held.1 hjw hdeps fun b v w' hb h1 hj h2 h3 => ⟨v, hb, ⟨h1, hj⟩, h2, h3⟩)
  have step : ∀ v w', (S w' ∧ (p.1 = kj ∨ (J w → J w'))) ∧ post p.1 (upd vs p.1 v) w' ∧ E p.1 (upd vs p.1 v) w w' → SJ S J kj (listed.setIfInBounds p.1 true) w' ∧ wpAnyJ P md ops Q S J kj fuel (listed.setIfInBounds p.1 true) (a.put o.dst v) w' := fun v w' ⟨h1, h2, h3⟩ =>
   have hnx := h.next pk hc stab hp hi ho h1.1 h1.2 h2 h3
   ⟨hnx.held, ih _ _ _ (count_next hp hun'.1 hun'.2 hn) ⟨_, hnx⟩⟩
  unfold wpOp
  simp only [ho]
  split
  ·rename_i hw
   rw [if_pos hw] at H
   exact .inl (Oper.wp_mono (fun X w' ⟨v, e, g⟩ => by rw [e]; exact step v w' g) H)
  ·rename_i hw
   rw [if_neg hw] at H
   obtain ⟨v, e, g⟩ := H
   rw [e]
   exact step v w g
theorem countP_all {L : Plan} (l : Array Bool) : L.countP (fun q => !l.getD q.1 false) ≤ L.length := List.countP_le_length
/-- which words one operation has to keep -/
def Stab1 (S : World → Prop) (post : Nat → (Nat → Value) → World → Prop) (Ei : (Nat → Value) → World → World → Prop) : List Nat → Prop
 | [] => True
 | q :: r => (∀ vs w w', Ei vs w w' → S w → S w' → post q vs w → post q vs w') ∧ Stab1 S post Ei r
theorem Stab1.mem {Ei : (Nat → Value) → World → World → Prop} : ∀ {l : List Nat}, Stab1 S post Ei l → ∀ q ∈ l, ∀ vs w w', Ei vs w w' → S w → S w' → post q vs w → post q vs w'
 | [], _, _, h => by cases h
 | r :: l, h, q, hq => by
  rcases List.mem_cons.1 hq with rfl | hq
  ·exact h.1
  ·exact Stab1.mem h.2 q hq
/-- those that may stand ahead of an operation, and whose words it does not end -/
def keepers (kill : Kill) (L : Plan) (i : Nat) : List Nat := (L.filter fun q => q.1 != i && !(kill q.1).contains i && !(depsOf L q.1).contains i).map (·.1)
def Stabs (S : World → Prop) (post : Nat → (Nat → Value) → World → Prop) (E : Nat → (Nat → Value) → World → World → Prop) : List (Nat × List Nat) → Prop
 | [] => True
 | p :: r => Stab1 S post (E p.1) p.2 ∧ Stabs S post E r
theorem Stabs.mem : ∀ {l : List (Nat × List Nat)}, Stabs S post E l → ∀ p ∈ l, Stab1 S post (E p.1) p.2
 | [], _, _, h => by cases h
 | r :: l, h, q, hq => by
  rcases List.mem_cons.1 hq with rfl | hq
  ·exact h.1
  ·exact Stabs.mem h.2 q hq
theorem oc {E : Nat → (Nat → Value) → World → World → Prop} {p : Nat × List Dep × List Nat × Bool} {r : Plan} {o : Oper} {a0 : Act} (h : Ob P ops S J kj E post a0 p.1 p.2.1 p.2.2.1 p.2.2.2 o) (hr : Obs P ops S J kj E post a0 r) (ho : ops[p.1]? = some o := by rfl) : Obs P ops S J kj E post a0 (p :: r) := ⟨⟨o, ho, h⟩, hr⟩
theorem cn : Congr post [] := trivial
theorem cc {p : Nat × List Dep × List Nat × Bool} {r : Plan} (hr : Congr post r) (h : ∀ (vs vs' : Nat → Value) (w : World), vs p.1 = vs' p.1 → AllP (fun d => vs d.1 = vs' d.1) p.2.1 → post p.1 vs w → post p.1 vs' w := by (intro vs vs' w h hd hp; (try dsimp only [AllP] at h hd hp ⊢); (try simp only [h, hd] at hp); exact hp)) : Congr post (p :: r) := ⟨h, hr⟩
theorem on {E : Nat → (Nat → Value) → World → World → Prop} {a0 : Act} : Obs P ops S J kj E post a0 [] := trivial
/-- .. the move: L the plan; F: whose words are told behind the region; C: the operations that change the world, each with the words that it has to keep -/
def EC (C : List (Nat × List Nat)) (E : Nat → (Nat → Value) → World → World → Prop) (i : Nat) (vs : Nat → Value) (w w' : World) : Prop := cond (C.any fun c => c.1 == i) (E i vs w w') (w' = w)
theorem rp (L : Plan) (kill : Kill) (post : Nat → (Nat → Value) → World → Prop) (E : Nat → (Nat → Value) → World → World → Prop) {fuel : Nat} {listed : Array Bool} {a : Act} {w : World} (A : List Dep) (F : List Nat) (C : List (Nat × List Nat))
  (stab : Stabs S post (EC C E) C) (hc : Congr post L) (obs : Obs P ops S J kj (EC C E) post a L)
  (fin : ∀ vs w', S w' → AllP (fun d => post d vs w') F → Q .normal (puts A vs a) w')
  (hC : L.all (fun p => C.all (fun c => c.1 != p.1) || C.any (fun c => c.1 == p.1 && (keepers kill L p.1).all fun q => c.2.contains q)) = true := by kernel_rfl)
  (hA : A = planDeps ops L := by kernel_rfl) (hF : F.all (fun f => L.has f && (kill f).isEmpty) = true := by kernel_rfl) (hs : Region.noSelect ops = true := by kernel_rfl) (hk : planOk md ops listed kill kj L = true := by kernel_rfl) (hf : decide (L.length ≤ fuel) = true := by rfl) (hz : listed.size = ops.size := by rfl) (hS : SJ S J kj listed w := by first | exact ⟨hHeld, fun _ => hJ⟩ | exact ⟨hHeld, fun h => absurd h (by decide)⟩) :
  wpAnyJ P md ops Q S J kj fuel listed a w := by
 subst hA
 have pk := planOk_spec hk
 refine posts_run (l0 := listed) hs pk hc (fun p q hp hq' hne hkq hdq vs w w' hE h1 h2 h3 => ?_) obs F (fun f hf => ?_) fin fuel listed a w (Nat.le_trans (countP_all listed) (of_decide_eq_true hf)) ⟨fun _ => undef, rfl, rfl, fun p hp h => ?_, fun _ _ => rfl, fun p hp h => ?_, fun p hp h => ?_, hS, hz, fun _ h => h⟩
 ·have := List.all_eq_true.1 hC p hp
  rcases Bool.or_eq_true _ _ ▸ this with h | h
  ·have hn : (C.any fun c => c.1 == p.1) = false := by
    rw [List.any_eq_false]
    intro c hc2
    have := List.all_eq_true.1 h c hc2
    simpa using this
   unfold EC at hE
   rw [hn] at hE
   rw [show w' = w from hE]; exact h3
  ·obtain ⟨c, hcm, hc2⟩ := List.any_eq_true.1 h
   simp only [Bool.and_eq_true, beq_iff_eq] at hc2
   have h4 := List.all_eq_true.1 hc2.2 q.1 (List.mem_map.2 ⟨q, List.mem_filter.2 ⟨hq', by
    simp only [Bool.and_eq_true, bne_iff_ne, ne_eq, Bool.not_eq_true', List.contains_eq_mem, decide_eq_false_iff_not]
    exact ⟨⟨Ne.symm hne, hkq⟩, hdq⟩⟩, rfl⟩)
   have h5 := stab.mem c hcm
   rw [hc2.1] at h5
   exact h5.mem q.1 (by simpa using h4) vs w w' hE h1 h2 h3
 ·have := List.all_eq_true.1 hF f hf
  simp only [Bool.and_eq_true, List.isEmpty_iff] at this
  exact this
 all_goals (have := (getD_ff (pk.fresh p hp).1).1; rw [this] at h; cases h)
end
end
end Go.Proofs.YtemcgfncahccgaaGreat
