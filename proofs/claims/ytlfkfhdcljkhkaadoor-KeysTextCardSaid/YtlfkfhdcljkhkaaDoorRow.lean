/-
  From a walk to a law's row: a call that answers true and turns nothing that was there; for all arguments.
-/
import Derived.Test.YtlfkfhdcljkhkaaDoorRows
import Derived.WalkKit
import Derived.ProofKit
import Derived.OpenShut
import Derived.Below
import Derived.ChangeSame
import Derived.Deep.Fields
namespace Go.Proofs.YtlfkfhdcljkhkaaDoor
open Go.ChangeShapes Go.WideShapes Go.ChangeAt Go.RowKit Go.Deep

section
variable {H : Type} {enc : TypeId × Value → H} {P : Program}

/-- arguments read as they read, behind a call that turned nothing below -/
theorem trodAll_stays (hl : laidOutB P = true) {W W' : World} (hb : Below W.heap.size W W') {sp : Nat → Bool} :
    ∀ {ts : List TypeId} {vs : List Value} {ds : List (DataW H)} {ps : List MemPlace}, (∀ t ∈ ts, P.readableRec t = true ∧ t < P.types.size) →
      DataW.TrodAll enc P W 0 (fun _ => true) true ts vs ds ps → (∀ p ∈ ps, p.block < W.heap.size) → (∀ p ∈ ps, sp p.block = true) → DataW.TrodAll enc P W' 0 sp true ts vs ds ps
  | [], vs, ds, ps, _, h, _, _ => by
    obtain ⟨rfl, rfl, rfl⟩ := trodAll_nil h
    exact trodAll_mk0
  | t :: ts, vs, ds, ps, ht, h, hlt, hsp => by
    obtain ⟨v, vs', d, ds', p, q, rfl, rfl, rfl, h1, h2⟩ := trodAll_cons h
    have hp : ∀ x ∈ p, x.block < W.heap.size := fun x hx => hlt x (List.mem_append_left _ hx)
    exact trodAll_cons_mk (WideElems.Trod_stays hl (ht t (List.mem_cons_self ..)).1 (ht t (List.mem_cons_self ..)).2 h1 (fun x hx => hb.same (hp x hx)) (fun x hx => hsp x (List.mem_append_left _ hx)))
      (trodAll_stays hl hb (fun u hu => ht u (List.mem_cons_of_mem _ hu)) h2 (fun x hx => hlt x (List.mem_append_right _ hx)) (fun x hx => hsp x (List.mem_append_right _ hx)))

theorem law_post (hl : laidOutB P = true) {f : Func} {s : ChangeSpec} {T : TypeId} (hts : ∀ t ∈ f.params.toList, P.readableRec t = true ∧ t < P.types.size) (hres : f.resultTypes = #[T]) (hT : P.underlying T = some .bool)
    (hvars : s.vars = []) {W W' : World} {args : Array Value} {ds gs : List (DataW H)} {before : List MemPlace} (hW : DataW.Whole enc P f.params.toList s.vars false W args.toList ds gs before)
    (hfn : s.fn H (ds ++ gs) = { results := [.lit (.bool true)], args := ds }) (hb : Below W.heap.size W W') : s.post enc P f false true false false W args (.bool true) W' := by
  have hlt : ∀ p ∈ before, p.block < W.heap.size := fun p hp => hW.lt p hp
  have hold : ∀ p ∈ before, (fun b => decide (b < W.heap.size)) p.block = true := fun p hp => by simpa using hlt p hp
  have hW' := hW
  obtain ⟨p, q, hA, hV, rfl, hz, hn⟩ := hW
  rw [hvars] at hV
  obtain ⟨rfl, rfl⟩ := trodVars_none hV
  refine ⟨ds, [], p ++ [], [], p, [], hW', ?_, ?_, ?_, World.keptBut_mono (fun x hx => ⟨hx, ?_⟩) (hb.frame (· ∈ p ++ [])), fun h => by cases h⟩
  · rw [hfn, hres]
    exact trodAll_mk1 (shut_bool hT _)
  · rw [hfn]
    exact trodAll_stays hl hb hts hA (fun x hx => hlt x (List.mem_append_left _ hx)) (fun x hx => hold x (List.mem_append_left _ hx))
  · rw [hfn, hvars]
    exact rfl
  · simpa using hx
end

section
variable {H : Type} {enc : TypeId × Value → H} {P : Program} {w : World} {base : Nat} {spare : Nat → Bool} {held : Bool}
theorem all_nums (kd : IntKind) : ∀ (m : Nat) (l : List Value), l.length = m → (∀ j, j < m → ∃ x, l[j]? = some (Value.int kd x) ∧ (Lit.int kd x).wf = true) → ∃ ns : List Int, ns.length = m ∧ l = ns.map (Value.int kd) ∧ ∀ x ∈ ns, (Lit.int kd x).wf = true := by
  intro m
  induction m with
  | zero => intro l hl _; exact ⟨[], rfl, List.eq_nil_of_length_eq_zero hl, fun x hx => by cases hx⟩
  | succ m ih =>
    intro l hl h
    cases l with
    | nil => cases hl
    | cons a l =>
      obtain ⟨x, hx, wx⟩ := h 0 (by omega)
      obtain ⟨ns, h1, h2, h3⟩ := ih l (by simpa using hl) (fun j hj => by simpa using h (j + 1) (by omega))
      simp only [List.getElem?_cons_zero, Option.some.injEq] at hx
      exact ⟨x :: ns, by simp [h1], by rw [hx, h2]; rfl, fun y hy => by
        cases List.mem_cons.1 hy with
        | inl e => rw [e]; exact wx
        | inr e => exact h3 y e⟩

/-- the cells of a struct of whole numbers of one kind -/
theorem nums_cells {t : TypeId} {fs : Array Field} {kd : IntKind} {n : Nat} {cs : List Value} {x : DataW H × List MemPlace} (hs : P.underlying t = some (.struct fs)) (hone : oneCellFields P fs = true) (hC : P.cellsOf t = fs.size)
    (hk : ∀ (j : Nat) (f : Field), fs[j]? = some f → P.underlying f.type = some (.int kd)) (h : DataW.trod enc P w base spare held n t cs = some x) :
    ∃ l : List Int, l.length = fs.size ∧ cs = l.map (Value.int kd) ∧ ∀ x ∈ l, (Lit.int kd x).wf = true := by
  obtain ⟨xs, n, _, _, hlen, hxl, hg⟩ := DataW.trod_struct hs h
  have hl : cs.length = fs.size := by rw [hlen, hC]
  have key : ∀ j, j < fs.size → ∃ x, cs[j]? = some (Value.int kd x) ∧ (Lit.int kd x).wf = true := by
    intro j hj
    have hfj : fs[j]? = some fs[j] := Array.getElem?_eq_getElem hj
    obtain ⟨ho, hk1⟩ := hone_of hone j _ hfj
    have h1 := hg j _ hfj
    rw [ho, hk1] at h1
    have hone' : (cs.drop j).take 1 = [cs[j]'(by omega)] := by
      rw [List.drop_eq_getElem_cons (by omega)]
      rfl
    rw [hone'] at h1
    have hx : xs[j]? = some (xs[j]'(by omega)) := List.getElem?_eq_getElem (by omega)
    rw [hx] at h1
    obtain ⟨x, hx1, _, hx3⟩ := DataW.trod_int (hk j _ hfj) h1
    simp only [List.cons.injEq, and_true] at hx1
    exact ⟨x, by rw [List.getElem?_eq_getElem (by omega), hx1], hx3⟩
  exact all_nums kd fs.size cs hl key

/-- a struct of whole numbers of one kind, by value: its cells -/
theorem open_nums {r : Reach} {b0 : Nat} {t : TypeId} {fs : Array Field} {kd : IntKind} {v : Value} {d : DataW H} {p : List MemPlace} (hs : P.underlying t = some (.struct fs)) (hone : oneCellFields P fs = true) (hC : P.cellsOf t = fs.size)
    (hk : ∀ (j : Nat) (f : Field), fs[j]? = some f → P.underlying f.type = some (.int kd)) (hv : Value.okWide P w r b0 t v) (h : DataW.Trod enc P w base spare held t v d p) :
    ∃ l : List Int, l.length = fs.size ∧ v = .agg (l.map (Value.int kd)).toArray ∧ ∀ x ∈ l, (Lit.int kd x).wf = true := by
  obtain ⟨cs, rfl, hsz⟩ := okWide_struct hs hv
  obtain ⟨fuel, hf⟩ := h
  obtain ⟨l, h1, h2, h3⟩ := nums_cells hs hone hC hk hf
  refine ⟨l, h1, ?_, h3⟩
  simp only [Value.cells] at h2
  rw [← h2]

theorem six_of {l : List Int} (h : l.length = 6) : ∃ a b c d e f, l = [a, b, c, d, e, f] := by
  match l, h with
  | [a, b, c, d, e, f], _ => exact ⟨a, b, c, d, e, f, rfl⟩
theorem seven_of {l : List Int} (h : l.length = 7) : ∃ a b c d e f g, l = [a, b, c, d, e, f, g] := by
  match l, h with
  | [a, b, c, d, e, f, g], _ => exact ⟨a, b, c, d, e, f, g, rfl⟩
theorem i64_lt {x : Int} (h : (Lit.int .i64 x).wf = true) : -9223372036854775808 ≤ x ∧ x < 9223372036854775808 := by
  simp [Lit.wf, IntKind.min, IntKind.max, IntKind.signed, IntKind.bits] at h
  omega
end

theorem own : ownKnob Tryd.prog.godebug = none := by kernel_rfl
theorem laidOut : laidOutB Tryd.prog = true := by kernel_rfl
end Go.Proofs.YtlfkfhdcljkhkaaDoor
