/-
  A drawn region: three operations come up, in whatever order they may, and the rest is walked once.
  The reference's disk as data; its Size, sector, step.
  The reference's disk: Reads, step.
  disk.Of: a disk of bytes. (Written by gen_lof.py.)
  The frame of works(), and the disk that it is laid on: plain facts.
  The contracts of some and num of the statements' package.
  The law's Disk.made: a disk and the reference's, of some bytes again and again. (Written by gen_lmade.py.)
  The reference's disk: Read.
  Rows of writes: append, in a slice of the call's own.
-/
import Derived.Test.YtdpniceapmikpaaGreatWh1
import Derived.Test.YtdpniceapmikpaaGreatWh9
import Derived.Test.YtdpniceapmikpaaGreatWh10
import Derived.Test.YtdpniceapmikpaaGreatWh18
import Derived.Test.YtdpniceapmikpaaGreatWh22
import Derived.Test.YtdpniceapmikpaaGreatWh26
import Derived.Test.YtdpniceapmikpaaGreatWh29
set_option linter.unusedVariables false
set_option linter.unusedSimpArgs false
namespace Go.Proofs.YtdpniceapmikpaaGreat
open Go.RowKit

def putO (d : Option Tmp) (o : Option Value) (a : Act) : Act := match o with | none => a | some v => a.put d v
def listO (i : Nat) (b : Bool) (l : Array Bool) : Array Bool := if b = true then l.setIfInBounds i true else l
theorem putO_comm (d d' : Option Tmp) (h : ∀ t, d = some t → d' ≠ some t) (o o' : Option Value) (a : Act) : putO d o (putO d' o' a) = putO d' o' (putO d o a) := by
 cases o with
 | none => rfl
 | some v =>
  cases o' with
  | none => rfl
  | some v' => exact (Act.put_comm a v v' h).symm
theorem listO_comm (i j : Nat) (h : i ≠ j) (b c : Bool) (l : Array Bool) : listO i b (listO j c l) = listO j c (listO i b l) := by
 unfold listO
 cases b <;> cases c <;> simp
 exact Array.setIfInBounds_comm _ _ (Ne.symm h)
section
variable {P : Program} {ops : Array Oper} {Q : Exit → Act → World → Prop} {md : Region.Mode} {S J : World → Prop} {k : Nat}
def act3 (d1 d2 d3 : Option Tmp) (o1 o2 o3 : Option Value) (a : Act) : Act := putO d3 o3 (putO d2 o2 (putO d1 o1 a))
def list3 (i1 i2 i3 : Nat) (b1 b2 b3 : Bool) (l : Array Bool) : Array Bool := listO i3 b3 (listO i2 b2 (listO i1 b1 l))
/-- whenever something is still to come, something of the three is ready, and nothing else -/
def ready3 (md : Region.Mode) (ops : Array Oper) (l : Array Bool) (i1 i2 i3 : Nat) (b1 b2 b3 : Bool) : Bool :=
 (b1 && b2 && b3) || (let rd := Region.ready md ops (list3 i1 i2 i3 b1 b2 b3 l); !rd.isEmpty && rd.all fun q => (q == i1 && !b1) || (q == i2 && !b2) || (q == i3 && !b3))
/-- operation i, of act a and world w: what it leaves -/
def Does (P : Program) (ops : Array Oper) (Q : Exit → Act → World → Prop) (o : Oper) (a : Act) (w : World) (R : Value → World → Prop) : Prop :=
 ∀ K' : Act → World → Prop, Shut (∀ v w', R v w' → K' (a.put o.dst v) w') → if Region.wanted o (yielded ops a.tmps) = true then Oper.wp P o a w K' Q else K' (a.put o.dst undef) w
theorem jm3 (i1 i2 i3 : Nat) (R : Option Value → Option Value → Option Value → World → Prop) {fuel : Nat} {listed : Array Bool} {a : Act} {w : World} {p1 p2 p3 : Oper}
  (hS : ∀ o1 o2 o3 w, R o1 o2 o3 w → S w) (h0 : R none none none w)
  (h1 : ∀ o2 o3 w1, R none o2 o3 w1 → (Region.ready md ops (list3 i1 i2 i3 false o2.isSome o3.isSome listed)).contains i1 = true → Does P ops Q p1 (act3 p1.dst p2.dst p3.dst none o2 o3 a) w1 (fun v w' => R (some v) o2 o3 w'))
  (h2 : ∀ o1 o3 w1, R o1 none o3 w1 → (Region.ready md ops (list3 i1 i2 i3 o1.isSome false o3.isSome listed)).contains i2 = true → Does P ops Q p2 (act3 p1.dst p2.dst p3.dst o1 none o3 a) w1 (fun v w' => R o1 (some v) o3 w'))
  (h3 : ∀ o1 o2 w1, R o1 o2 none w1 → (Region.ready md ops (list3 i1 i2 i3 o1.isSome o2.isSome false listed)).contains i3 = true → Does P ops Q p3 (act3 p1.dst p2.dst p3.dst o1 o2 none a) w1 (fun v w' => R o1 o2 (some v) w'))
  (hfin : ∀ v1 v2 v3 w', R (some v1) (some v2) (some v3) w' → S w' → wpAnyJ P md ops Q S J k fuel (list3 i1 i2 i3 true true true listed) (act3 p1.dst p2.dst p3.dst (some v1) (some v2) (some v3) a) w')
  (hJ : ∀ w, J w := by exact fun _ => trivial)
  (ho1 : ops[i1]? = some p1 := by rfl) (ho2 : ops[i2]? = some p2 := by rfl) (ho3 : ops[i3]? = some p3 := by rfl)
  (hr : ∀ b1 b2 b3, ready3 md ops listed i1 i2 i3 b1 b2 b3 = true := by (intro b1 b2 b3; cases b1 <;> cases b2 <;> cases b3 <;> kernel_rfl))
  (hi : i1 ≠ i2 ∧ i1 ≠ i3 ∧ i2 ≠ i3 := by decide)
  (hd12 : ∀ d, p1.dst = some d → p2.dst ≠ some d := by (intro d h; cases h; decide)) (hd13 : ∀ d, p1.dst = some d → p3.dst ≠ some d := by (intro d h; cases h; decide)) (hd23 : ∀ d, p2.dst = some d → p3.dst ≠ some d := by (intro d h; cases h; decide)) :
  wpAnyJ P md ops Q S J k (fuel + 3) listed a w := by
 have core : ∀ (n : Nat) (o1 o2 o3 : Option Value) (w1 : World), (if o1.isSome = true then 0 else 1) + (if o2.isSome = true then 0 else 1) + (if o3.isSome = true then 0 else 1) = n → R o1 o2 o3 w1 → wpAnyJ P md ops Q S J k (fuel + n) (list3 i1 i2 i3 o1.isSome o2.isSome o3.isSome listed) (act3 p1.dst p2.dst p3.dst o1 o2 o3 a) w1 := by
  intro n
  induction n with
  | zero =>
   intro o1 o2 o3 w1 hn hR
   cases o1 with
   | none => simp at hn
   | some v1 =>
    cases o2 with
    | none => simp at hn
    | some v2 =>
     cases o3 with
     | none => simp at hn
     | some v3 => exact hfin v1 v2 v3 w1 hR (hS _ _ _ _ hR)
  | succ n ih =>
   intro o1 o2 o3 w1 hn hR
   have h := hr o1.isSome o2.isSome o3.isSome
   unfold ready3 at h
   have hno : (o1.isSome && o2.isSome && o3.isSome) = false := by
    cases o1 <;> cases o2 <;> cases o3 <;> simp at hn ⊢
   rw [hno, Bool.false_or] at h
   simp only [Bool.and_eq_true] at h
   obtain ⟨hne, hall⟩ := h
   refine ⟨fun h0 => (by rw [h0] at hne; cases hne), fun q hq => ?_⟩
   have hqa := List.all_eq_true.1 hall q hq
   simp only [Bool.or_eq_true, Bool.and_eq_true, beq_iff_eq, Bool.not_eq_true'] at hqa
   rcases hqa with (⟨rfl, hb⟩ | ⟨rfl, hb⟩) | ⟨rfl, hb⟩
   ·obtain rfl : o1 = none := by cases o1 <;> simp at hb ⊢
    refine wpOp_step ho1 fun K' hK => h1 o2 o3 w1 hR (by simpa using hq) K' fun v w' hR' => ?_
    have ih' := ih (some v) o2 o3 w' (by simp at hn ⊢; omega) hR'
    have e1 : (act3 p1.dst p2.dst p3.dst none o2 o3 a).put p1.dst v = act3 p1.dst p2.dst p3.dst (some v) o2 o3 a := by
     show putO p1.dst (some v) (putO p3.dst o3 (putO p2.dst o2 a)) = putO p3.dst o3 (putO p2.dst o2 (putO p1.dst (some v) a))
     rw [putO_comm _ _ hd13, putO_comm _ _ hd12]
    have e2 : (list3 q i2 i3 false o2.isSome o3.isSome listed).setIfInBounds q true = list3 q i2 i3 true o2.isSome o3.isSome listed := by
     show listO q true (listO i3 o3.isSome (listO i2 o2.isSome listed)) = listO i3 o3.isSome (listO i2 o2.isSome (listO q true listed))
     rw [listO_comm _ _ hi.2.1, listO_comm _ _ hi.1]
    exact hK _ _ ⟨⟨hS _ _ _ _ hR', fun _ => hJ _⟩, by rw [e1]; show wpAnyJ P md ops Q S J k (fuel + n) ((list3 q i2 i3 false o2.isSome o3.isSome listed).setIfInBounds q true) _ _; rw [e2]; exact ih'⟩
   ·obtain rfl : o2 = none := by cases o2 <;> simp at hb ⊢
    refine wpOp_step ho2 fun K' hK => h2 o1 o3 w1 hR (by simpa using hq) K' fun v w' hR' => ?_
    have ih' := ih o1 (some v) o3 w' (by simp at hn ⊢; omega) hR'
    have e1 : (act3 p1.dst p2.dst p3.dst o1 none o3 a).put p2.dst v = act3 p1.dst p2.dst p3.dst o1 (some v) o3 a := by
     show putO p2.dst (some v) (putO p3.dst o3 (putO p1.dst o1 a)) = putO p3.dst o3 (putO p2.dst (some v) (putO p1.dst o1 a))
     rw [putO_comm _ _ hd23]
    have e2 : (list3 i1 q i3 o1.isSome false o3.isSome listed).setIfInBounds q true = list3 i1 q i3 o1.isSome true o3.isSome listed := by
     show listO q true (listO i3 o3.isSome (listO i1 o1.isSome listed)) = listO i3 o3.isSome (listO q true (listO i1 o1.isSome listed))
     rw [listO_comm _ _ hi.2.2]
    exact hK _ _ ⟨⟨hS _ _ _ _ hR', fun _ => hJ _⟩, by rw [e1]; show wpAnyJ P md ops Q S J k (fuel + n) ((list3 i1 q i3 o1.isSome false o3.isSome listed).setIfInBounds q true) _ _; rw [e2]; exact ih'⟩
   ·obtain rfl : o3 = none := by cases o3 <;> simp at hb ⊢
    refine wpOp_step ho3 fun K' hK => h3 o1 o2 w1 hR (by simpa using hq) K' fun v w' hR' => ?_
    have ih' := ih o1 o2 (some v) w' (by simp at hn ⊢; omega) hR'
    exact hK _ _ ⟨⟨hS _ _ _ _ hR', fun _ => hJ _⟩, ih'⟩
 have := core 3 none none none w rfl h0
 exact this
end
end Go.Proofs.YtdpniceapmikpaaGreat
namespace Go.Proofs.YtdpniceapmikpaaGreat
open Go.RowKit

theorem flat_len (f : Nat → List UInt8) (hf : ∀ n, (f n).length = 512) (k : Nat) : ((List.range k).flatMap f).length = 512 * k := by
 induction k with
 | zero => rfl
 | succ k ih => rw [List.range_succ, List.flatMap_append, List.length_append, ih]; simp [hf]; omega
theorem flat_at (f : Nat → List UInt8) (hf : ∀ n, (f n).length = 512) (k n i : Nat) (hn : n < k) (hi : i < 512) : ((List.range k).flatMap f)[512 * n + i]? = (f n)[i]? := by
 induction k with
 | zero => omega
 | succ k ih =>
  rw [List.range_succ, List.flatMap_append]
  have hl := flat_len f hf k
  by_cases h : n < k
  ·rw [List.getElem?_append_left (by omega)]; exact ih h
  ·obtain rfl : n = k := by omega
   rw [List.getElem?_append_right (by omega), hl]
   simp only [List.flatMap_cons, List.flatMap_nil, List.append_nil]
   congr 1; omega
/-- all lasting bytes -/
def flatL (x : DiskD) : List UInt8 := (List.range x.size.toNat).flatMap fun (n : Nat) => x.lasts (n : Int)
theorem flatL_len {x : DiskD} (hx : x.ok) : (flatL x).length = 512 * x.size.toNat := flat_len _ (fun n => hx.2.2.1 n) _
theorem flatL_at {x : DiskD} (hx : x.ok) (n i : Nat) (hn : (n : Int) < x.size) (hi : i < 512) : (flatL x)[512 * n + i]? = (x.lasts n)[i]? := flat_at _ (fun n => hx.2.2.1 n) _ n i (by omega) hi
/-- the fields of the reference's disk -/
structure RDisk (W : World) (B : Nat) (lv wv fv : Value) (x : DiskD) : Prop where
 lasts : BytesIn W B lv (flatL x)
 waits : WaitsIn W B wv x.waits
 fails : IntsIn W B fv x.fails
theorem RDisk.below {W W' : World} {B C : Nat} {lv wv fv : Value} {x : DiskD} (h : RDisk W B lv wv fv x) (hb : Below C W W') (hC : B ≤ C) : RDisk W' B lv wv fv x := ⟨h.lasts.below hb hC, h.waits.below hb hC, h.fails.below hb hC⟩
theorem RDisk.mono {W : World} {B C : Nat} {lv wv fv : Value} {x : DiskD} (h : RDisk W B lv wv fv x) (hC : B ≤ C) : RDisk W C lv wv fv x := ⟨h.lasts.mono hC, h.waits.more hC, h.fails.mono hC⟩
theorem RDisk.stepped {W : World} {B : Nat} {lv wv fv : Value} {x : DiskD} (h : RDisk W B lv wv fv x) : RDisk W B lv wv fv x.stepped := ⟨h.lasts, h.waits, h.fails⟩
theorem RDisk.one {W : World} {B : Nat} {lv wv fv : Value} {x : DiskD} (h : RDisk W B lv wv fv x) (s : Int) : (#[lv, wv, .int .i64 s, fv] : Array Value).all (·.oneCell') = true := by
 obtain ⟨_, _, _, rfl, _⟩ := h.lasts
 obtain ⟨_, _, _, _, rfl, _⟩ := h.waits
 obtain ⟨_, _, _, rfl, _⟩ := h.fails
 simp [Value.oneCell']
theorem size_rdisk (a b c d : Value) : (Tryz.prog.info? 40).map (·.size) = some (#[a, b, c, d] : Array Value).size := by
 show _ = some 4
 kernel_rfl
theorem load_rdisk {W : World} {g : Nat} {a b c d : Value} (h : Blk W g 40 #[a, b, c, d]) : (loadVar 40 ⟨g, 0, none⟩).run Tryz.prog W = .ok (.agg #[a, b, c, d]) W :=
 run_loadVar_row W g 40 40 #[a, b, c, d] (0, 0) _ h Tryz.underlying40 rfl (size_rdisk a b c d)
abbrev zeroD : Array Value := #[.slice none 0 0, .slice none 0 0, .int .i64 0, .slice none 0 0]
theorem rdsize_any (x : DiskD) (lv wv fv : Value) (s : Int) (w : World) (h : RDisk w w.heap.size lv wv fv x) (hx : x.ok) :
  Calls Tryz.prog 48 #[.agg #[lv, wv, .int .i64 s, fv]] w fun e w' => e = .returned (.int .i64 x.size) ∧ Below w.heap.size w w' := by
 obtain ⟨h1, a, cap, rfl, h2⟩ := h.lasts
 have hl := flatL_len hx
 have h0 := hx.1
 have e : ((flatL x).length : Int) / 512 = x.size := by omega
 have hmx : (flatL x).length ≤ 2097152 := by have := hx.2.1; omega
 have hb : Below w.heap.size w (w.alloc (.cells #[.slice a (flatL x).length cap, wv, .int .i64 s, fv] 40)) := (Below.refl _ w).alloc (Nat.le_refl _) _
 generalize (flatL x).length = L at *
 clear h hx hl h2
 go_enter Tryz.func48, Tryz.ntmps48
 go_wp2_with fail
 go_ret
 exact ⟨by rw [← e]; congr 2, hb⟩

end Go.Proofs.YtdpniceapmikpaaGreat
namespace Go.Proofs.YtdpniceapmikpaaGreat
open Go.RowKit

theorem WaitsIn.at_ {w : World} {B : Nat} {a : Option Addr} {n c : Nat} {ws : List WaitD} (h : WaitsIn w B (.slice a n c) ws) {j : Nat} {y : WaitD} (hy : ws[j]? = some y) :
  y.b.length = 512 ∧ ∃ g, a = some ⟨g, 0, none⟩ ∧ g < B ∧ w.cell? ⟨g, j * 513, none⟩ = some (.int .i64 y.n) ∧ w.rangeAt g (j * 513 + 1) (y.b.map vu8) := by
 obtain ⟨_, hws, a', c', e, h4⟩ := h
 injection e with ea _ _
 subst ea
 obtain ⟨g, e2, hg, hr⟩ := h4 j y hy
 exact ⟨hws y (List.mem_of_getElem? hy), g, e2, hg, (by have := hr 0 (.int .i64 y.n) (by unfold WaitD.cells; rfl); rwa [Nat.add_zero] at this), fun i u hi => by
  have := hr (i + 1) u (by unfold WaitD.cells; simpa using hi)
  rw [show j * 513 + 1 + i = j * 513 + (i + 1) by omega]
  exact this⟩
end Go.Proofs.YtdpniceapmikpaaGreat
namespace Go.Proofs.YtdpniceapmikpaaGreat
open Go.RowKit

end Go.Proofs.YtdpniceapmikpaaGreat
namespace Go.Proofs.YtdpniceapmikpaaGreat
open Go.RowKit

def obj0 : ObjD := ⟨2, 1, 0, slotsZ, bytesZ⟩
def obj1 : ObjD := ⟨1, 0, 0, slotsZ, bytesZ⟩
/-- the frame of some() -/
def frame0 : FrameD := ⟨7, [0, 2], [obj0, obj1], [97, 98, 99]⟩
def headB0 : List UInt8 := sectorL (headL frame0)
def disk1 : DiskD := ⟨29, fun _ => sector0, [⟨23, sectorL (objL obj0)⟩, ⟨24, sectorL (objL obj1)⟩, ⟨15, layL sector0 [97, 98, 99]⟩, ⟨14, headB0⟩], 4, []⟩
set_option maxRecDepth 100000 in
theorem disk1_is : writesW (newDisk 29) (allSteps 3 1 frame0) = disk1 := by kernel_rfl
theorem head_is : headS disk1 3 1 = headB0 := by kernel_rfl
theorem head0_is : headS disk1 3 0 = sector0 := by kernel_rfl
theorem obj0_is : objS disk1 3 1 0 = sectorL (objL obj0) := by kernel_rfl
theorem obj1_is : objS disk1 3 1 1 = sectorL (objL obj1) := by kernel_rfl
theorem part_is : partS disk1 3 1 0 = layL sector0 [97, 98, 99] := by kernel_rfl
theorem head_fine : headB 3 headB0 = true := by decide +kernel
theorem head_none : headB 3 sector0 = false := by decide +kernel
theorem head_n : numAt headB0 12 2 = 2 := by decide +kernel
theorem head_nb : numAt headB0 14 2 = 3 := by decide +kernel
theorem obj0_fine : getE (sectorL (objL obj0)) 3 = 0 ∧ (crcW ((sectorL (objL obj0)).take 508)).toNat = numAt headB0 22 4 := by decide +kernel
theorem obj1_fine : getE (sectorL (objL obj1)) 3 = 0 ∧ (crcW ((sectorL (objL obj1)).take 508)).toNat = numAt headB0 28 4 := by decide +kernel
theorem frame_is : frameOf disk1 3 1 = frame0 := by kernel_rfl
theorem sum_fine : (crcW (stateOf disk1 3 1 3)).toNat = numAt headB0 16 4 := by decide +kernel
theorem part_fine : ((layL sector0 [97, 98, 99]).drop 3).all (· == 0) = true := by decide +kernel
theorem disk1_ok (k : Nat) (h : k ≤ 80) : (disk1.plus k).ok := by
 refine ⟨by show (1 : Int) ≤ 29; decide, by show (29 : Int) ≤ 4096; decide, fun _ => List.length_replicate, ?_, ?_, ?_, by show 4 ≤ 1000000; decide⟩
 ·intro y hy
  have hy : y ∈ [(⟨23, sectorL (objL obj0)⟩ : WaitD), ⟨24, sectorL (objL obj1)⟩, ⟨15, layL sector0 [97, 98, 99]⟩, ⟨14, headB0⟩] := hy
  simp only [List.mem_cons, List.not_mem_nil, or_false] at hy
  rcases hy with rfl | rfl | rfl | rfl
  ·exact sectorL_len _ (by rw [objL_len _ ⟨rfl, rfl⟩]; decide)
  ·exact sectorL_len _ (by rw [objL_len _ ⟨rfl, rfl⟩]; decide)
  ·exact secOf_len [97, 98, 99] 0
  ·exact sectorL_len _ (by decide +kernel)
 ·show (0 : Int) ≤ 4 + (k : Int); omega
 ·show (4 : Int) + (k : Int) ≤ 1000000000000; omega
theorem disk1_err (k : Nat) (n : Int) (h0 : 0 ≤ n) (h1 : n < 29) : (disk1.plus k).err n = 0 := by
 unfold DiskD.err
 rw [if_neg (by show ¬ (n < 0 ∨ (29 : Int) ≤ n); omega), if_neg (by show ¬ (_ ∈ ([] : List Int)); simp)]
theorem works_go : ReadGo disk1 3 1 := by
 refine ⟨by kernel_rfl, disk1_ok, ?_, ?_, ?_, ?_, ?_, ?_, ?_⟩
 ·have := disk1_err 0 14 (by decide) (by decide)
  rw [plus_zero] at this
  exact this
 ·intro i k hi _
  rw [head_is, head_n] at hi
  have : i = 0 ∨ i = 1 := by omega
  rcases this with rfl | rfl
  ·exact disk1_err k 23 (by decide) (by decide)
  ·exact disk1_err k 24 (by decide) (by decide)
 ·intro i k hi _
  rw [head_is, head_nb] at hi
  have : i = 0 := by unfold chunksN at hi; omega
  subst this
  exact disk1_err k 15 (by decide) (by decide)
 ·rw [head_is]; exact head_fine
 ·intro i hi
  rw [head_is, head_n] at hi
  rw [head_is]
  have : i = 0 ∨ i = 1 := by omega
  rcases this with rfl | rfl
  ·rw [obj0_is]; exact obj0_fine
  ·rw [obj1_is]; exact obj1_fine
 ·intro i hi
  rw [head_is, head_nb] at hi ⊢
  have : i = 0 := by unfold chunksN at hi; omega
  subst this
  rw [part_is]
  exact part_fine
 ·rw [head_is]
  have : (frameOf disk1 3 1).state = stateOf disk1 3 1 3 := by
   show stateOf disk1 3 1 (numAt (headS disk1 3 1) 14 2) = _
   rw [head_is, head_nb]
  rw [this]
  exact sum_fine
/-- the disk behind its reads, spoilt -/
def disk2 (k : Nat) : DiskD := (disk1.plus k).spoil 14 5 1
theorem head2_is (k : Nat) : headS (disk2 k) 3 1 = flipL headB0 5 1 := by kernel_rfl
theorem head2_none : headB 3 (flipL headB0 5 1) = false := by decide +kernel
theorem steps_n : (allSteps 3 1 frame0).map (·.1.n) = [23, 24, 15, 14] := by kernel_rfl
def diskK (k : Nat) : DiskD := ⟨29, fun _ => sector0, disk1.waits.take k, k, []⟩
theorem diskK_ok (k : Nat) (h : k ≤ 4) : (diskK k).ok := by
 have h1 := disk1_ok 0 (by omega)
 refine ⟨by show (1 : Int) ≤ 29; decide, by show (29 : Int) ≤ 4096; decide, fun _ => List.length_replicate, fun y hy => h1.2.2.2.1 y (List.mem_of_mem_take hy), ?_, ?_, ?_⟩
 ·show (0 : Int) ≤ (k : Int); omega
 ·show (k : Int) ≤ 1000000000000; omega
 ·show (disk1.waits.take k).length ≤ 1000000
  rw [List.length_take]
  omega
theorem diskK_err (k : Nat) (n : Int) (h0 : 0 ≤ n) (h1 : n < 29) : (diskK k).err n = 0 := by
 unfold DiskD.err
 rw [if_neg (by show ¬ (n < 0 ∨ (29 : Int) ≤ n); omega), if_neg (by show ¬ (_ ∈ ([] : List Int)); simp)]
theorem write0 : writesW (newDisk 29) ((allSteps 3 1 frame0).take 0) = diskK 0 := by kernel_rfl
theorem write1 : writesW (newDisk 29) ((allSteps 3 1 frame0).take 1) = diskK 1 := by kernel_rfl
theorem write2 : writesW (newDisk 29) ((allSteps 3 1 frame0).take 2) = diskK 2 := by kernel_rfl
theorem write3 : writesW (newDisk 29) ((allSteps 3 1 frame0).take 3) = diskK 3 := by kernel_rfl
theorem works_steps (k : Nat) (y : WaitS) (hy : (allSteps 3 1 frame0)[k]? = some y) : (writesW (newDisk 29) ((allSteps 3 1 frame0).take k)).ok ∧ (writesW (newDisk 29) ((allSteps 3 1 frame0).take k)).err y.1.n = 0 := by
 have h1 : ((allSteps 3 1 frame0).map (·.1.n))[k]? = some y.1.n := by rw [List.getElem?_map, hy]; rfl
 rw [steps_n] at h1
 have hk : k < 4 := by
  rcases Nat.lt_or_ge k 4 with h | h
  ·exact h
  ·rw [List.getElem?_eq_none (by exact h)] at h1; cases h1
 have hk4 : k = 0 ∨ k = 1 ∨ k = 2 ∨ k = 3 := by omega
 rcases hk4 with rfl | rfl | rfl | rfl
 ·have h2 : (23 : Int) = y.1.n := by simpa using h1
  rw [write0, ← h2]; exact ⟨diskK_ok 0 (by decide), diskK_err 0 _ (by decide) (by decide)⟩
 ·have h2 : (24 : Int) = y.1.n := by simpa using h1
  rw [write1, ← h2]; exact ⟨diskK_ok 1 (by decide), diskK_err 1 _ (by decide) (by decide)⟩
 ·have h2 : (15 : Int) = y.1.n := by simpa using h1
  rw [write2, ← h2]; exact ⟨diskK_ok 2 (by decide), diskK_err 2 _ (by decide) (by decide)⟩
 ·have h2 : (14 : Int) = y.1.n := by simpa using h1
  rw [write3, ← h2]; exact ⟨diskK_ok 3 (by decide), diskK_err 3 _ (by decide) (by decide)⟩
theorem disk2_ok (k : Nat) (h : k ≤ 80) : (disk2 k).ok := by
 have h1 := disk1_ok k h
 refine ⟨h1.1, h1.2.1, fun m => ?_, fun y hy => ?_, h1.2.2.2.2.1, h1.2.2.2.2.2.1, by show ((disk1.plus k).waits.map _).length ≤ 1000000; rw [List.length_map]; exact h1.2.2.2.2.2.2⟩
 ·show (if m = 14 then flipL sector0 5 1 else sector0).length = 512
  split
  ·rw [flipL_len]; exact sector0_len
  ·exact sector0_len
 ·obtain ⟨z, hz, rfl⟩ := List.mem_map.1 hy
  have hz2 := h1.2.2.2.1 z hz
  unfold flipW
  split
  ·show (flipL z.b 5 1).length = 512
   rw [flipL_len]; exact hz2
  ·exact hz2
theorem disk2_err (k : Nat) (n : Int) (h0 : 0 ≤ n) (h1 : n < 29) : (disk2 k).err n = 0 := by
 unfold DiskD.err
 rw [if_neg (by show ¬ (n < 0 ∨ (29 : Int) ≤ n); omega), if_neg (by show ¬ (_ ∈ ([] : List Int)); simp)]
theorem disk2_waits (k : Nat) : (disk2 k).waits.length = 4 := by kernel_rfl
end Go.Proofs.YtdpniceapmikpaaGreat
namespace Go.Proofs.YtdpniceapmikpaaGreat
open Go.RowKit

theorem wpList_build_L {P : Program} {ops : Array Oper} {rest : List Oper} {o : Oper} {a : Act} {w : World} {Q : Exit → Act → World → Prop} (hw : Region.wanted o (yielded ops a.tmps) = true) (t : TypeId) (parts : Array (Nat × Operand)) (ho : o.op = .build t parts)
  (cells : Array Value) (hf : P.built t (parts.toList.map fun x => (x.1, a.eval x.2)) = some cells)
  (h : wpList P ops Q rest (a.put o.dst (.agg cells)) w) : wpList P ops Q (o :: rest) a w :=
 wpList_build_isG hw t parts ho cells (by rw [Array.toList_map]; exact hf) h
theorem num_any (x : Int) (w : World) : Calls Tryz.prog 11 #[.int .i64 x] w fun e w' => e = .returned (.int .i64 x) ∧ w = w' := by
 go_enter Tryz.func11, Tryz.ntmps11
 go_wp2_with fail
 go_ret
 exact ⟨rfl, rfl⟩
theorem obj_row2 (a b : Array Value) (ha : a.size = 163) (hb : b.size = 163) (i : TypeInfo) (z : Value) (h1 : i.size = 163) (h3 : z.cells.size = 163) :
  Instr.fill (fun k => some (k * i.size, i.size)) ((Array.range (2 * i.size)).map (z.cells[· % z.cells.size]!)) [(0, .agg a), (1, .agg b)] = some (a.toList ++ b.toList).toArray := by
 have ha2 : (Value.agg a).cells = a := rfl
 have hb2 : (Value.agg b).cells = b := rfl
 have hal : a.toList.length = 163 := by simpa using ha
 have hbl : b.toList.length = 163 := by simpa using hb
 rw [h1, fill_part (off := 0) (size := 163) (by simp) (by rw [ha2, ha]) (by simp), fill_part (off := 163) (size := 163) (by simp) (by rw [hb2, hb]) (by simp [ha2, hal]), fill_nil, ha2, hb2]
 congr 2
 simp only [List.take_zero, List.nil_append, List.toList_toArray]
 rw [List.take_left' hal, List.drop_eq_nil_of_le (by simp [hal]), List.append_nil]
set_option maxRecDepth 100000 in
set_option maxHeartbeats 4000000 in
theorem some_any (w : World) : Calls Tryz.prog 35 #[] w fun e w' => ∃ v, e = .returned v ∧ FrameIn w' w'.heap.size v frame0 ∧ (∀ a c, (∃ x y z, v = .agg #[x, y, z, .slice a frame0.state.length c]) → c ≤ maxLen) ∧ Below w.heap.size w w' := by
 obtain ⟨i0, z0, hi0, hz0, hz1, hz2, hz3⟩ := info_object
 have a0 : (Tryz.zeroCells62.setIfInBounds 0 (.int .i64 2)).setIfInBounds 1 (.int .i64 1) = obj0.cells.toArray := by kernel_rfl
 have a1 : Tryz.zeroCells62.setIfInBounds 0 (.int .i64 1) = obj1.cells.toArray := by kernel_rfl
 have s0 : obj0.cells.toArray.size = 163 := by kernel_rfl
 have s1 : obj1.cells.toArray.size = 163 := by kernel_rfl
 have A0 := Lib.hid a0
 have A1 := Lib.hid a1
 clear a0 a1
 go_enter Tryz.func35, Tryz.ntmps35
 go_wp2_with fail
 refine wp_buildSliceL 25 62 2 _ rfl (obj0.cells.toArray.toList ++ obj1.cells.toArray.toList).toArray i0 z0 Tryz.underlying25 hi0 hz0 (by rw [hz1]; decide) (by rw [hz1]; decide) (by
  show Instr.fill _ _ [(0, .agg ((Tryz.zeroCells62.setIfInBounds 0 (.int .i64 2)).setIfInBounds 1 (.int .i64 1))), (1, .agg (Tryz.zeroCells62.setIfInBounds 0 (.int .i64 1)))] = _
  rw [A0.out, A1.out]
  exact obj_row2 _ _ s0 s1 i0 z0 hz1 hz3) ?_
 obtain ⟨C, eC⟩ : ∃ C, C = (obj0.cells.toArray.toList ++ obj1.cells.toArray.toList).toArray := ⟨_, rfl⟩
 rw [← eC]
 have EC := Lib.hid eC
 clear eC
 have hcv := Lib.run_convert_bytes_const (P := Tryz.prog) (((w.alloc (.cells zeroF 28)).alloc (.cells #[.int .i64 0, .int .i64 2] 3)).alloc (.cells C 62)) 26 5 #[.int .u8 97, .int .u8 98, .int .u8 99] 3 3 Tryz.underlying26 Tryz.underlying5
 rw [World.size_alloc, World.size_alloc, World.size_alloc] at hcv
 obtain ⟨V, eV⟩ : ∃ V, V = ((((w.alloc (.cells zeroF 28)).alloc (.cells #[.int .i64 0, .int .i64 2] 3)).alloc (.cells C 62)).alloc (.cells #[.int .u8 97, .int .u8 98, .int .u8 99] 5 (3, 4))) := ⟨_, rfl⟩
 have hb : Below w.heap.size w V := by rw [eV]; exact ((((Below.refl _ w).alloc (Nat.le_refl _) _).alloc (by simp) _).alloc (by simp; omega) _).alloc (by simp; omega) _
 have k0 : Blk V w.heap.size 28 zeroF := by rw [eV]; exact (((Blk.new w _ _).alloc _).alloc _).alloc _
 have k1 : Blk V (w.heap.size + 1) 3 #[.int .i64 0, .int .i64 2] := by rw [eV]; exact ((Blk.new2 w _ _ _).alloc _).alloc _
 have k2 : Blk V (w.heap.size + 2) 62 C := by rw [eV]; exact (Blk.new' (by simp)).alloc _
 have k3 : V.heap[w.heap.size + 3]? = some (.cells #[.int .u8 97, .int .u8 98, .int .u8 99] 5 (3, 4)) := by
  rw [eV]
  have h := World.alloc_heap_new (((w.alloc (.cells zeroF 28)).alloc (.cells #[.int .i64 0, .int .i64 2] 3)).alloc (.cells C 62)) (.cells #[.int .u8 97, .int .u8 98, .int .u8 99] 5 (3, 4))
  rw [World.size_alloc, World.size_alloc, World.size_alloc] at h
  exact h
 have hsV : V.heap.size = w.heap.size + 4 := by rw [eV]; simp
 obtain ⟨F4, eF⟩ : ∃ F, F = (#[.int .i64 7, .slice (some ⟨w.heap.size + 1, 0, none⟩) 2 2, .slice (some ⟨w.heap.size + 1 + 1, 0, none⟩) 2 2, .slice (some ⟨w.heap.size + 1 + 1 + 1, 0, none⟩) 3 3] : Array Value) := ⟨_, rfl⟩
 have hi : (Tryz.prog.info? 28).map (·.size) = some F4.size := by rw [eF]; kernel_rfl
 have h1 : F4.all (·.oneCell') = true := by rw [eF, List.all_toArray]; rfl
 have hz : zeroF.size = F4.size := by rw [eF]; rfl
 have hbu : ∀ v1 v2 v3, Tryz.prog.built 28 [(0, .int .i64 7), (1, .slice v1 2 2), (2, .slice v2 2 2), (3, .slice v3 3 3)] = some #[.int .i64 7, .slice v1 2 2, .slice v2 2 2, .slice v3 3 3] := fun _ _ _ => by kernel_rfl
 have EF := Lib.hid eF
 have K0 := Lib.hid k0
 have K1 := Lib.hid k1
 have K2 := Lib.hid k2
 have K3 := Lib.hid k3
 have HB := Lib.hid hb
 clear k0 k1 k2 k3 hb eF
 go_wp2_with (first
  | (refine wpList_build_L rfl 28 _ rfl F4 (by rw [EF.out]; exact hbu _ _ _) ?_)
  | (refine wpList_store_row rfl 28 _ _ rfl w.heap.size F4 rfl rfl 28 _ (by rw [← eV]; exact K0.out) hi hz h1 ?_))
 rw [← eV]
 refine bodyPost_ret (v := .agg F4) (results_cell_row Tryz.results35 _ _ w.heap.size 28 F4 (0, 0) _ rfl (K0.out.row F4) Tryz.underlying28 rfl hi) rfl ?_
 have j1 := K1.out.row_far (g' := w.heap.size) F4 (by omega)
 have j2 := K2.out.row_far (g' := w.heap.size) F4 (by omega)
 have j3 := (setRow_other V w.heap.size (w.heap.size + 3) F4 (by omega)).trans K3.out
 refine ⟨.agg F4, rfl, ?_, ?_, below_row HB.out _ (Nat.le_refl _)⟩
 case refine_2 =>
  rw [EF.out]
  intro a c x y z h
  have h2 := congrArg (fun v : Value => match v with | Value.agg A => A[3]? | _ => none) h
  have h3 : 3 = c := by
   simp at h2
   first | exact h2.2.2 | exact h2.2 | omega
  rw [← h3]
  decide
 rw [EF.out] at j1 j2 j3 ⊢
 refine ⟨_, _, _, rfl, ?_, ?_, ?_⟩
 ·refine ⟨by decide, _, 2, rfl, by decide, fun j c hj => ⟨w.heap.size + 1, 0, rfl, by simp; omega, ?_⟩⟩
  refine j1.cell_is (0 + j) ?_
  have hj2 : j = 0 ∨ j = 1 := by
   rcases Nat.lt_or_ge j 2 with h | h
   ·omega
   ·rw [List.getElem?_eq_none (by exact h)] at hj; cases hj
  rcases hj2 with rfl | rfl
  ·cases hj; rfl
  ·cases hj; rfl
 ·refine ⟨by decide, _, 2, rfl, by decide, fun j o hj => ?_⟩
  have hok : ∀ x ∈ [obj0, obj1], x.ok := fun x hx => by
   simp only [List.mem_cons, List.not_mem_nil, or_false] at hx
   rcases hx with rfl | rfl <;> exact ⟨rfl, rfl⟩
  have hm : o ∈ [obj0, obj1] := List.mem_of_getElem? hj
  refine ⟨hok o hm, ?_, w.heap.size + 2, 0, rfl, by simp; omega, fun i u hu => ?_⟩
  ·have hs : o.slots = slotsZ := by
    simp only [List.mem_cons, List.not_mem_nil, or_false] at hm
    rcases hm with rfl | rfl <;> rfl
   intro y hy
   rw [hs] at hy
   obtain rfl := List.eq_of_mem_replicate hy
   decide
  ·have hi163 : i < 163 := by
    rcases Nat.lt_or_ge i 163 with h | h
    ·exact h
    ·rw [List.getElem?_eq_none (by rw [ObjD.len (hok o hm)]; exact h)] at hu; cases hu
   have h3 := objs_at [obj0, obj1] j o hok hj i hi163
   refine j2.cell_is (0 + j * 163 + i) ?_
   rw [EC.out, List.getElem?_toArray, Nat.zero_add]
   rw [hu] at h3
   have e : [obj0, obj1].flatMap ObjD.cells = obj0.cells.toArray.toList ++ obj1.cells.toArray.toList := by simp
   rw [e] at h3
   exact h3
 ·refine ⟨by decide, _, 3, rfl, by decide, fun j c hj => ⟨w.heap.size + 3, 0, rfl, by simp; omega, ?_⟩⟩
  refine (cell_of_row _ (w.heap.size + 3) (0 + j) _ _ _ j3).trans ?_
  have hj2 : j = 0 ∨ j = 1 ∨ j = 2 := by
   rcases Nat.lt_or_ge j 3 with h | h
   ·omega
   ·rw [List.getElem?_eq_none (by exact h)] at hj; cases hj
  rcases hj2 with rfl | rfl | rfl
  all_goals (cases hj; rfl)
end Go.Proofs.YtdpniceapmikpaaGreat
namespace Go.Proofs.YtdpniceapmikpaaGreat
open Go.RowKit

theorem BytesIn.outO {W W' : World} {F : Nat → Prop} {B : Nat} {v : Value} {l : List UInt8} (h : BytesIn W B v l) (ho : Out F W W') (hF : ∀ g, v.ownBlock = some g → ¬ F g) : BytesIn W' B v l := by
 obtain ⟨h1, a, cap, rfl, h3, h4⟩ := h
 refine ⟨h1, a, cap, rfl, h3, fun j c hc => ?_⟩
 obtain ⟨g, off, rfl, hg, hr⟩ := h4 j c hc
 exact ⟨g, off, rfl, hg, (World.cell?_of_block (a := ⟨g, off + j, none⟩) (ho.block g (World.block_lt_of_cell? W _ hr) (hF g rfl))).trans hr⟩
theorem IntsIn.outO {W W' : World} {F : Nat → Prop} {B : Nat} {v : Value} {l : List Int} (h : IntsIn W B v l) (ho : Out F W W') (hF : ∀ g, v.ownBlock = some g → ¬ F g) : IntsIn W' B v l := by
 obtain ⟨h1, a, cap, rfl, h3, h4⟩ := h
 refine ⟨h1, a, cap, rfl, h3, fun j c hc => ?_⟩
 obtain ⟨g, off, rfl, hg, hr⟩ := h4 j c hc
 exact ⟨g, off, rfl, hg, (World.cell?_of_block (a := ⟨g, off + j, none⟩) (ho.block g (World.block_lt_of_cell? W _ hr) (hF g rfl))).trans hr⟩
theorem WaitsIn.outO {W W' : World} {F : Nat → Prop} {B : Nat} {v : Value} {l : List WaitD} (h : WaitsIn W B v l) (ho : Out F W W') (hF : ∀ g, v.ownBlock = some g → ¬ F g) : WaitsIn W' B v l := by
 obtain ⟨h0, h1, a, cap, rfl, h2⟩ := h
 refine ⟨h0, h1, a, cap, rfl, fun i y hi => ?_⟩
 obtain ⟨g, rfl, hg, hr⟩ := h2 i y hi
 exact ⟨g, rfl, hg, fun j u hj => (World.cell?_of_block (a := ⟨g, i * 513 + j, none⟩) (ho.block g (World.block_lt_of_cell? W _ (hr j u hj)) (hF g rfl))).trans (hr j u hj)⟩
theorem RDisk.outO {W W' : World} {F : Nat → Prop} {B : Nat} {lv wv fv : Value} {x : DiskD} (h : RDisk W B lv wv fv x) (ho : Out F W W') (h1 : ∀ g, lv.ownBlock = some g → ¬ F g) (h2 : ∀ g, wv.ownBlock = some g → ¬ F g) (h3 : ∀ g, fv.ownBlock = some g → ¬ F g) : RDisk W' B lv wv fv x :=
 ⟨h.lasts.outO ho h1, h.waits.outO ho h2, h.fails.outO ho h3⟩
end Go.Proofs.YtdpniceapmikpaaGreat
namespace Go.Proofs.YtdpniceapmikpaaGreat
open Go.RowKit

theorem blk_range {W : World} {g : Nat} {t : TypeId} {cs : Array Value} (h : Blk W g t cs) : W.rangeAt g 0 cs.toList := fun j v hv => by
 rw [Nat.zero_add]
 exact h.cell_is j (by simpa using hv)
theorem RDisk.drew {W : World} {B : Nat} {lv wv fv : Value} {x : DiskD} (h : RDisk W B lv wv fv x) : RDisk W.drew B lv wv fv x := ⟨h.lasts, h.waits, h.fails⟩
end Go.Proofs.YtdpniceapmikpaaGreat
namespace Go.Proofs.YtdpniceapmikpaaGreat
open Go.RowKit

theorem rwaits_len : ∀ (ws : List WaitD), (∀ y ∈ ws, y.b.length = 512) → (waitCells ws).length = ws.length * 513
 | [], _ => rfl
 | y :: ws, h => by
  show (y.cells ++ waitCells ws).length = _
  rw [List.length_append, WaitD.len y (h y List.mem_cons_self), rwaits_len ws (fun z hz => h z (List.mem_cons_of_mem _ hz)), List.length_cons, Nat.add_mul]
  omega
theorem waitCells_split : ∀ (ws : List WaitD), (∀ y ∈ ws, y.b.length = 512) → ∀ (j : Nat) (u : Value), (waitCells ws)[j]? = some u → ∃ i y k, ws[i]? = some y ∧ j = i * 513 + k ∧ y.cells[k]? = some u
 | [], _, j, u, hj => by cases hj
 | y :: ws, h, j, u, hj => by
  have hl := WaitD.len y (h y List.mem_cons_self)
  have hj' : (y.cells ++ waitCells ws)[j]? = some u := hj
  by_cases hlt : j < 513
  ·rw [List.getElem?_append_left (by omega)] at hj'
   exact ⟨0, y, j, rfl, by omega, hj'⟩
  ·rw [List.getElem?_append_right (by omega), hl] at hj'
   obtain ⟨i, z, k, h1, h2, h3⟩ := waitCells_split ws (fun z hz => h z (List.mem_cons_of_mem _ hz)) (j - 513) u hj'
   exact ⟨i + 1, z, k, by simpa using h1, by omega, h3⟩
theorem waitCells_one (ws : List WaitD) (u : Value) (hu : u ∈ waitCells ws) : u.oneCell' = true := by
 unfold waitCells at hu
 obtain ⟨y, _, hy⟩ := List.mem_flatMap.1 hu
 exact wait_one y u hy
/-- what is asked of the types of a slice of writes -/
structure RowT (t e : TypeId) (i : TypeInfo) (z : Value) : Prop where
 ht : Tryz.prog.underlying t = some (.slice e)
 hi : Tryz.prog.info? e = some i
 hz : i.zero = some z
 h1 : i.size = 513
 h2 : i.bytes = 520
 h3 : z.cells.size = 513
theorem run_append_waits {t e : TypeId} {i0 : TypeInfo} {z0 : Value} (T : RowT t e i0 z0) (w : World) {base B n : Nat} {v : Value} {xs : List Value} (hown : w.ownsRow base e 513 v n xs) (ty : TypeId) (a : Option Addr) (cap : Nat) (l : List WaitD)
  (hu : WaitsIn w B (.slice a l.length cap) l) (hn : n ≤ 1000000) (hbase : base ≤ w.heap.size) :
  ∃ v' w', (Builtin.append_ #[t, t] ty #[v, .slice a l.length cap]).run Tryz.prog w = .ok v' w' ∧ w'.ownsRow base e 513 v' (n + l.length) (xs ++ waitCells l) ∧ w.grownBy w' v.ownBlock := by
 obtain ⟨hm, hws, a', cap', ea, hc⟩ := hu
 injection ea with e1 e2 e3
 subst e1
 have hlen := rwaits_len l hws
 cases a with
 | none =>
  have hl : l = [] := by
   cases l with
   | nil => rfl
   | cons c l =>
    obtain ⟨g, h, _⟩ := hc 0 c rfl
    cases h
  subst hl
  refine ⟨v, w, ?_, by simpa [waitCells] using hown, World.grownBy.refl w _⟩
  rcases hown.2 with ⟨rfl, rfl⟩ | ⟨g, cap2, cur, rfl, _, _, hnc, _⟩
  ·simp [Builtin.append_, run_underlying T.ht, sizeOf, typeInfo, T.hi, Builtin.lenOf, Builtin.firstCells]
  ·simp [Builtin.append_, run_underlying T.ht, sizeOf, typeInfo, T.hi, Builtin.lenOf, Builtin.firstCells, hnc, storeCells]
 | some ad =>
  have hnews : ∀ j u, (waitCells l)[j]? = some u → w.cell? (ad.add j) = some u := by
   intro j u hj
   obtain ⟨i, y, k, h1, rfl, h3⟩ := waitCells_split l hws j u hj
   obtain ⟨g, h, _, hr⟩ := hc i y h1
   obtain rfl := Option.some.inj h
   have := hr k u h3
   rw [add_at, Nat.zero_add]
   exact this
  obtain ⟨v', w', hrun, h2, h3, _, _⟩ := run_append_own_at (P := Tryz.prog) w base t ty e i0 z0 513 520 T.ht T.hi T.hz T.h1 T.h2 T.h3 (by omega) v n xs hown ad l.length cap (waitCells l) hlen hnews (waitCells_one l) (by unfold maxLen; omega) (by omega) hbase
  exact ⟨v', w', hrun, h2, h3⟩
theorem wp_append_waits {t e : TypeId} {i0 : TypeInfo} {z0 : Value} (T : RowT t e i0 z0) (w : World) {o : Oper} {a : Act} {K : Act → World → Prop} {Q : Exit → Act → World → Prop} (s x : Operand)
  (ho : o.op = .call { callee := .builtin .append, args := #[s, x], argTypes := #[t, t] })
  (base B n : Nat) (v : Value) (xs : List Value) (hs : a.eval s = v) (hown : w.ownsRow base e 513 v n xs) (A : Option Addr) (m cap : Nat) (l : List WaitD) (hx : a.eval x = .slice A m cap) (hm : l.length = m)
  (hu : WaitsIn w B (.slice A m cap) l) (hn : n ≤ 1000000) (hbase : base ≤ w.heap.size)
  (h : ∀ v' w', w'.ownsRow base e 513 v' (n + m) (xs ++ waitCells l) → w.grownBy w' v.ownBlock → K (a.put o.dst v') w') : o.wp Tryz.prog a w K Q := by
 subst hm
 obtain ⟨v', w', hrun, h2, h3⟩ := run_append_waits T w hown o.type A cap l hu hn hbase
 unfold Oper.wp execOp
 simp only [ho, resolve, invoke, builtin, Sem.run_bind, Sem.run_pure, Result.andThen_ok, List.map_toArray, List.map_cons, List.map_nil, hs, hx, hrun]
 exact h v' w' h2 h3
theorem rowT_rwait : ∃ i z, RowT 38 154 i z := by
 have h : (Tryz.prog.info? 154).map (fun i => (i.zero.map (·.cells.size), i.size, i.bytes)) = some (some 513, 513, 520) := by kernel_rfl
 obtain ⟨i, hi, he⟩ := Option.map_eq_some_iff.1 h
 injection he with h1 h2
 injection h2 with h2 h3
 obtain ⟨z, hz, h4⟩ := Option.map_eq_some_iff.1 h1
 exact ⟨i, z, ⟨Tryz.underlying38, hi, hz, h2, h3, h4⟩⟩
end Go.Proofs.YtdpniceapmikpaaGreat
