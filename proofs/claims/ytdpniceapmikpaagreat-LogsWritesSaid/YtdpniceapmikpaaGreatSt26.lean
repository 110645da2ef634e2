/-
  The frame of works(), and the disk that it is laid on: plain facts.
  The contracts of some and num of the statements' package.
  The law's Disk.made: a disk and the reference's, of some bytes again and again. (Written by gen_lmade.py.)
-/
import Derived.Test.YtdpniceapmikpaaGreatSt1
import Derived.Test.YtdpniceapmikpaaGreatSt12
import Derived.Test.YtdpniceapmikpaaGreatSt13
import Derived.Test.YtdpniceapmikpaaGreatSt21
import Derived.Test.YtdpniceapmikpaaGreatSt24
import Derived.Test.YtdpniceapmikpaaGreatSt25
set_option linter.unusedVariables false
set_option linter.unusedSimpArgs false
namespace Go.Proofs.YtdpniceapmikpaaGreat
open Go.RowKit

def obj0 : ObjD := ⟨2, 1, 0, slotsZ, bytesZ⟩
def obj1 : ObjD := ⟨1, 0, 0, slotsZ, bytesZ⟩
/-- the frame of some() -/
def frame0 : FrameD := ⟨7, [0, 2], [obj0, obj1], [97, 98, 99]⟩
def headB0 : List UInt8 := sectorL (headL frame0)
def disk1 : DiskD := ⟨29, fun _ => sector0, [⟨23, sectorL (objL obj0)⟩, ⟨24, sectorL (objL obj1)⟩, ⟨15, layL sector0 [97, 98, 99]⟩, ⟨14, headB0⟩], 4, []⟩
set_option maxRecDepth 100000 in
theorem disk1_is : writesW (newDisk 29) (allSteps 3 1 frame0) = disk1 := by kernel_rfl
theorem head_is : headS disk1 3 1 = headB0 := by kernel_rfl
theorem head0_is : headS disk1 3 0 = sector0 := by kernel_rfl
theorem obj0_is : objS disk1 3 1 0 = sectorL (objL obj0) := by kernel_rfl
theorem obj1_is : objS disk1 3 1 1 = sectorL (objL obj1) := by kernel_rfl
theorem part_is : partS disk1 3 1 0 = layL sector0 [97, 98, 99] := by kernel_rfl
theorem head_fine : headB 3 headB0 = true := by decide +kernel
theorem head_none : headB 3 sector0 = false := by decide +kernel
theorem head_n : numAt headB0 12 2 = 2 := by decide +kernel
theorem head_nb : numAt headB0 14 2 = 3 := by decide +kernel
theorem obj0_fine : getE (sectorL (objL obj0)) 3 = 0 ∧ (crcW ((sectorL (objL obj0)).take 508)).toNat = numAt headB0 22 4 := by decide +kernel
theorem obj1_fine : getE (sectorL (objL obj1)) 3 = 0 ∧ (crcW ((sectorL (objL obj1)).take 508)).toNat = numAt headB0 28 4 := by decide +kernel
theorem frame_is : frameOf disk1 3 1 = frame0 := by kernel_rfl
theorem sum_fine : (crcW (stateOf disk1 3 1 3)).toNat = numAt headB0 16 4 := by decide +kernel
theorem part_fine : ((layL sector0 [97, 98, 99]).drop 3).all (· == 0) = true := by decide +kernel
theorem disk1_ok (k : Nat) (h : k ≤ 80) : (disk1.plus k).ok := by
 refine ⟨by show (1 : Int) ≤ 29; decide, by show (29 : Int) ≤ 4096; decide, fun _ => List.length_replicate, ?_, ?_, ?_, by show 4 ≤ 1000000; decide⟩
 ·intro y hy
  have hy : y ∈ [(⟨23, sectorL (objL obj0)⟩ : WaitD), ⟨24, sectorL (objL obj1)⟩, ⟨15, layL sector0 [97, 98, 99]⟩, ⟨14, headB0⟩] := hy
  simp only [List.mem_cons, List.not_mem_nil, or_false] at hy
  rcases hy with rfl | rfl | rfl | rfl
  ·exact sectorL_len _ (by rw [objL_len _ ⟨rfl, rfl⟩]; decide)
  ·exact sectorL_len _ (by rw [objL_len _ ⟨rfl, rfl⟩]; decide)
  ·exact secOf_len [97, 98, 99] 0
  ·exact sectorL_len _ (by decide +kernel)
 ·show (0 : Int) ≤ 4 + (k : Int); omega
 ·show (4 : Int) + (k : Int) ≤ 1000000000000; omega
theorem disk1_err (k : Nat) (n : Int) (h0 : 0 ≤ n) (h1 : n < 29) : (disk1.plus k).err n = 0 := by
 unfold DiskD.err
 rw [if_neg (by show ¬ (n < 0 ∨ (29 : Int) ≤ n); omega), if_neg (by show ¬ (_ ∈ ([] : List Int)); simp)]
theorem works_go : ReadGo disk1 3 1 := by
 refine ⟨by kernel_rfl, disk1_ok, ?_, ?_, ?_, ?_, ?_, ?_, ?_⟩
 ·have := disk1_err 0 14 (by decide) (by decide)
  rw [plus_zero] at this
  exact this
 ·intro i k hi _
  rw [head_is, head_n] at hi
  have : i = 0 ∨ i = 1 := by omega
  rcases this with rfl | rfl
  ·exact disk1_err k 23 (by decide) (by decide)
  ·exact disk1_err k 24 (by decide) (by decide)
 ·intro i k hi _
  rw [head_is, head_nb] at hi
  have : i = 0 := by unfold chunksN at hi; omega
  subst this
  exact disk1_err k 15 (by decide) (by decide)
 ·rw [head_is]; exact head_fine
 ·intro i hi
  rw [head_is, head_n] at hi
  rw [head_is]
  have : i = 0 ∨ i = 1 := by omega
  rcases this with rfl | rfl
  ·rw [obj0_is]; exact obj0_fine
  ·rw [obj1_is]; exact obj1_fine
 ·intro i hi
  rw [head_is, head_nb] at hi ⊢
  have : i = 0 := by unfold chunksN at hi; omega
  subst this
  rw [part_is]
  exact part_fine
 ·rw [head_is]
  have : (frameOf disk1 3 1).state = stateOf disk1 3 1 3 := by
   show stateOf disk1 3 1 (numAt (headS disk1 3 1) 14 2) = _
   rw [head_is, head_nb]
  rw [this]
  exact sum_fine
/-- the disk behind its reads, spoilt -/
def disk2 (k : Nat) : DiskD := (disk1.plus k).spoil 14 5 1
theorem head2_is (k : Nat) : headS (disk2 k) 3 1 = flipL headB0 5 1 := by kernel_rfl
theorem head2_none : headB 3 (flipL headB0 5 1) = false := by decide +kernel
theorem steps_n : (allSteps 3 1 frame0).map (·.1.n) = [23, 24, 15, 14] := by kernel_rfl
def diskK (k : Nat) : DiskD := ⟨29, fun _ => sector0, disk1.waits.take k, k, []⟩
theorem diskK_ok (k : Nat) (h : k ≤ 4) : (diskK k).ok := by
 have h1 := disk1_ok 0 (by omega)
 refine ⟨by show (1 : Int) ≤ 29; decide, by show (29 : Int) ≤ 4096; decide, fun _ => List.length_replicate, fun y hy => h1.2.2.2.1 y (List.mem_of_mem_take hy), ?_, ?_, ?_⟩
 ·show (0 : Int) ≤ (k : Int); omega
 ·show (k : Int) ≤ 1000000000000; omega
 ·show (disk1.waits.take k).length ≤ 1000000
  rw [List.length_take]
  omega
theorem diskK_err (k : Nat) (n : Int) (h0 : 0 ≤ n) (h1 : n < 29) : (diskK k).err n = 0 := by
 unfold DiskD.err
 rw [if_neg (by show ¬ (n < 0 ∨ (29 : Int) ≤ n); omega), if_neg (by show ¬ (_ ∈ ([] : List Int)); simp)]
theorem write0 : writesW (newDisk 29) ((allSteps 3 1 frame0).take 0) = diskK 0 := by kernel_rfl
theorem write1 : writesW (newDisk 29) ((allSteps 3 1 frame0).take 1) = diskK 1 := by kernel_rfl
theorem write2 : writesW (newDisk 29) ((allSteps 3 1 frame0).take 2) = diskK 2 := by kernel_rfl
theorem write3 : writesW (newDisk 29) ((allSteps 3 1 frame0).take 3) = diskK 3 := by kernel_rfl
theorem works_steps (k : Nat) (y : WaitS) (hy : (allSteps 3 1 frame0)[k]? = some y) : (writesW (newDisk 29) ((allSteps 3 1 frame0).take k)).ok ∧ (writesW (newDisk 29) ((allSteps 3 1 frame0).take k)).err y.1.n = 0 := by
 have h1 : ((allSteps 3 1 frame0).map (·.1.n))[k]? = some y.1.n := by rw [List.getElem?_map, hy]; rfl
 rw [steps_n] at h1
 have hk : k < 4 := by
  rcases Nat.lt_or_ge k 4 with h | h
  ·exact h
  ·rw [List.getElem?_eq_none (by exact h)] at h1; cases h1
 have hk4 : k = 0 ∨ k = 1 ∨ k = 2 ∨ k = 3 := by omega
 rcases hk4 with rfl | rfl | rfl | rfl
 ·have h2 : (23 : Int) = y.1.n := by simpa using h1
  rw [write0, ← h2]; exact ⟨diskK_ok 0 (by decide), diskK_err 0 _ (by decide) (by decide)⟩
 ·have h2 : (24 : Int) = y.1.n := by simpa using h1
  rw [write1, ← h2]; exact ⟨diskK_ok 1 (by decide), diskK_err 1 _ (by decide) (by decide)⟩
 ·have h2 : (15 : Int) = y.1.n := by simpa using h1
  rw [write2, ← h2]; exact ⟨diskK_ok 2 (by decide), diskK_err 2 _ (by decide) (by decide)⟩
 ·have h2 : (14 : Int) = y.1.n := by simpa using h1
  rw [write3, ← h2]; exact ⟨diskK_ok 3 (by decide), diskK_err 3 _ (by decide) (by decide)⟩
theorem disk2_ok (k : Nat) (h : k ≤ 80) : (disk2 k).ok := by
 have h1 := disk1_ok k h
 refine ⟨h1.1, h1.2.1, fun m => ?_, fun y hy => ?_, h1.2.2.2.2.1, h1.2.2.2.2.2.1, by show ((disk1.plus k).waits.map _).length ≤ 1000000; rw [List.length_map]; exact h1.2.2.2.2.2.2⟩
 ·show (if m = 14 then flipL sector0 5 1 else sector0).length = 512
  split
  ·rw [flipL_len]; exact sector0_len
  ·exact sector0_len
 ·obtain ⟨z, hz, rfl⟩ := List.mem_map.1 hy
  have hz2 := h1.2.2.2.1 z hz
  unfold flipW
  split
  ·show (flipL z.b 5 1).length = 512
   rw [flipL_len]; exact hz2
  ·exact hz2
theorem disk2_err (k : Nat) (n : Int) (h0 : 0 ≤ n) (h1 : n < 29) : (disk2 k).err n = 0 := by
 unfold DiskD.err
 rw [if_neg (by show ¬ (n < 0 ∨ (29 : Int) ≤ n); omega), if_neg (by show ¬ (_ ∈ ([] : List Int)); simp)]
theorem disk2_waits (k : Nat) : (disk2 k).waits.length = 4 := by kernel_rfl
end Go.Proofs.YtdpniceapmikpaaGreat
namespace Go.Proofs.YtdpniceapmikpaaGreat
open Go.RowKit

theorem wpList_build_L {P : Program} {ops : Array Oper} {rest : List Oper} {o : Oper} {a : Act} {w : World} {Q : Exit → Act → World → Prop} (hw : Region.wanted o (yielded ops a.tmps) = true) (t : TypeId) (parts : Array (Nat × Operand)) (ho : o.op = .build t parts)
  (cells : Array Value) (hf : P.built t (parts.toList.map fun x => (x.1, a.eval x.2)) = some cells)
  (h : wpList P ops Q rest (a.put o.dst (.agg cells)) w) : wpList P ops Q (o :: rest) a w :=
 wpList_build_isG hw t parts ho cells (by rw [Array.toList_map]; exact hf) h
theorem num_any (x : Int) (w : World) : Calls Tryz.prog 11 #[.int .i64 x] w fun e w' => e = .returned (.int .i64 x) ∧ w = w' := by
 go_enter Tryz.func11, Tryz.ntmps11
 go_wp2_with fail
 go_ret
 exact ⟨rfl, rfl⟩
theorem obj_row2 (a b : Array Value) (ha : a.size = 163) (hb : b.size = 163) (i : TypeInfo) (z : Value) (h1 : i.size = 163) (h3 : z.cells.size = 163) :
  Instr.fill (fun k => some (k * i.size, i.size)) ((Array.range (2 * i.size)).map (z.cells[· % z.cells.size]!)) [(0, .agg a), (1, .agg b)] = some (a.toList ++ b.toList).toArray := by
 have ha2 : (Value.agg a).cells = a := rfl
 have hb2 : (Value.agg b).cells = b := rfl
 have hal : a.toList.length = 163 := by simpa using ha
 have hbl : b.toList.length = 163 := by simpa using hb
 rw [h1, fill_part (off := 0) (size := 163) (by simp) (by rw [ha2, ha]) (by simp), fill_part (off := 163) (size := 163) (by simp) (by rw [hb2, hb]) (by simp [ha2, hal]), fill_nil, ha2, hb2]
 congr 2
 simp only [List.take_zero, List.nil_append, List.toList_toArray]
 rw [List.take_left' hal, List.drop_eq_nil_of_le (by simp [hal]), List.append_nil]
set_option maxRecDepth 100000 in
set_option maxHeartbeats 4000000 in
theorem some_any (w : World) : Calls Tryz.prog 35 #[] w fun e w' => ∃ v, e = .returned v ∧ FrameIn w' w'.heap.size v frame0 ∧ (∀ a c, (∃ x y z, v = .agg #[x, y, z, .slice a frame0.state.length c]) → c ≤ maxLen) ∧ Below w.heap.size w w' := by
 obtain ⟨i0, z0, hi0, hz0, hz1, hz2, hz3⟩ := info_object
 have a0 : (Tryz.zeroCells62.setIfInBounds 0 (.int .i64 2)).setIfInBounds 1 (.int .i64 1) = obj0.cells.toArray := by kernel_rfl
 have a1 : Tryz.zeroCells62.setIfInBounds 0 (.int .i64 1) = obj1.cells.toArray := by kernel_rfl
 have s0 : obj0.cells.toArray.size = 163 := by kernel_rfl
 have s1 : obj1.cells.toArray.size = 163 := by kernel_rfl
 have A0 := Lib.hid a0
 have A1 := Lib.hid a1
 clear a0 a1
 go_enter Tryz.func35, Tryz.ntmps35
 go_wp2_with fail
 refine wp_buildSliceL 25 62 2 _ rfl (obj0.cells.toArray.toList ++ obj1.cells.toArray.toList).toArray i0 z0 Tryz.underlying25 hi0 hz0 (by rw [hz1]; decide) (by rw [hz1]; decide) (by
  show Instr.fill _ _ [(0, .agg ((Tryz.zeroCells62.setIfInBounds 0 (.int .i64 2)).setIfInBounds 1 (.int .i64 1))), (1, .agg (Tryz.zeroCells62.setIfInBounds 0 (.int .i64 1)))] = _
  rw [A0.out, A1.out]
  exact obj_row2 _ _ s0 s1 i0 z0 hz1 hz3) ?_
 obtain ⟨C, eC⟩ : ∃ C, C = (obj0.cells.toArray.toList ++ obj1.cells.toArray.toList).toArray := ⟨_, rfl⟩
 rw [← eC]
 have EC := Lib.hid eC
 clear eC
 have hcv := Lib.run_convert_bytes_const (P := Tryz.prog) (((w.alloc (.cells zeroF 28)).alloc (.cells #[.int .i64 0, .int .i64 2] 3)).alloc (.cells C 62)) 26 5 #[.int .u8 97, .int .u8 98, .int .u8 99] 3 3 Tryz.underlying26 Tryz.underlying5
 rw [World.size_alloc, World.size_alloc, World.size_alloc] at hcv
 obtain ⟨V, eV⟩ : ∃ V, V = ((((w.alloc (.cells zeroF 28)).alloc (.cells #[.int .i64 0, .int .i64 2] 3)).alloc (.cells C 62)).alloc (.cells #[.int .u8 97, .int .u8 98, .int .u8 99] 5 (3, 4))) := ⟨_, rfl⟩
 have hb : Below w.heap.size w V := by rw [eV]; exact ((((Below.refl _ w).alloc (Nat.le_refl _) _).alloc (by simp) _).alloc (by simp; omega) _).alloc (by simp; omega) _
 have k0 : Blk V w.heap.size 28 zeroF := by rw [eV]; exact (((Blk.new w _ _).alloc _).alloc _).alloc _
 have k1 : Blk V (w.heap.size + 1) 3 #[.int .i64 0, .int .i64 2] := by rw [eV]; exact ((Blk.new2 w _ _ _).alloc _).alloc _
 have k2 : Blk V (w.heap.size + 2) 62 C := by rw [eV]; exact (Blk.new' (by simp)).alloc _
 have k3 : V.heap[w.heap.size + 3]? = some (.cells #[.int .u8 97, .int .u8 98, .int .u8 99] 5 (3, 4)) := by
  rw [eV]
  have h := World.alloc_heap_new (((w.alloc (.cells zeroF 28)).alloc (.cells #[.int .i64 0, .int .i64 2] 3)).alloc (.cells C 62)) (.cells #[.int .u8 97, .int .u8 98, .int .u8 99] 5 (3, 4))
  rw [World.size_alloc, World.size_alloc, World.size_alloc] at h
  exact h
 have hsV : V.heap.size = w.heap.size + 4 := by rw [eV]; simp
 obtain ⟨F4, eF⟩ : ∃ F, F = (#[.int .i64 7, .slice (some ⟨w.heap.size + 1, 0, none⟩) 2 2, .slice (some ⟨w.heap.size + 1 + 1, 0, none⟩) 2 2, .slice (some ⟨w.heap.size + 1 + 1 + 1, 0, none⟩) 3 3] : Array Value) := ⟨_, rfl⟩
 have hi : (Tryz.prog.info? 28).map (·.size) = some F4.size := by rw [eF]; kernel_rfl
 have h1 : F4.all (·.oneCell') = true := by rw [eF, List.all_toArray]; rfl
 have hz : zeroF.size = F4.size := by rw [eF]; rfl
 have hbu : ∀ v1 v2 v3, Tryz.prog.built 28 [(0, .int .i64 7), (1, .slice v1 2 2), (2, .slice v2 2 2), (3, .slice v3 3 3)] = some #[.int .i64 7, .slice v1 2 2, .slice v2 2 2, .slice v3 3 3] := fun _ _ _ => by kernel_rfl
 have EF := Lib.hid eF
 have K0 := Lib.hid k0
 have K1 := Lib.hid k1
 have K2 := Lib.hid k2
 have K3 := Lib.hid k3
 have HB := Lib.hid hb
 clear k0 k1 k2 k3 hb eF
 go_wp2_with (first
  | (refine wpList_build_L rfl 28 _ rfl F4 (by rw [EF.out]; exact hbu _ _ _) ?_)
  | (refine wpList_store_row rfl 28 _ _ rfl w.heap.size F4 rfl rfl 28 _ (by rw [← eV]; exact K0.out) hi hz h1 ?_))
 rw [← eV]
 refine bodyPost_ret (v := .agg F4) (results_cell_row Tryz.results35 _ _ w.heap.size 28 F4 (0, 0) _ rfl (K0.out.row F4) Tryz.underlying28 rfl hi) rfl ?_
 have j1 := K1.out.row_far (g' := w.heap.size) F4 (by omega)
 have j2 := K2.out.row_far (g' := w.heap.size) F4 (by omega)
 have j3 := (setRow_other V w.heap.size (w.heap.size + 3) F4 (by omega)).trans K3.out
 refine ⟨.agg F4, rfl, ?_, ?_, below_row HB.out _ (Nat.le_refl _)⟩
 case refine_2 =>
  rw [EF.out]
  intro a c x y z h
  have h2 := congrArg (fun v : Value => match v with | Value.agg A => A[3]? | _ => none) h
  have h3 : 3 = c := by
   simp at h2
   first | exact h2.2.2 | exact h2.2 | omega
  rw [← h3]
  decide
 rw [EF.out] at j1 j2 j3 ⊢
 refine ⟨_, _, _, rfl, ?_, ?_, ?_⟩
 ·refine ⟨by decide, _, 2, rfl, by decide, fun j c hj => ⟨w.heap.size + 1, 0, rfl, by simp; omega, ?_⟩⟩
  refine j1.cell_is (0 + j) ?_
  have hj2 : j = 0 ∨ j = 1 := by
   rcases Nat.lt_or_ge j 2 with h | h
   ·omega
   ·rw [List.getElem?_eq_none (by exact h)] at hj; cases hj
  rcases hj2 with rfl | rfl
  ·cases hj; rfl
  ·cases hj; rfl
 ·refine ⟨by decide, _, 2, rfl, by decide, fun j o hj => ?_⟩
  have hok : ∀ x ∈ [obj0, obj1], x.ok := fun x hx => by
   simp only [List.mem_cons, List.not_mem_nil, or_false] at hx
   rcases hx with rfl | rfl <;> exact ⟨rfl, rfl⟩
  have hm : o ∈ [obj0, obj1] := List.mem_of_getElem? hj
  refine ⟨hok o hm, ?_, w.heap.size + 2, 0, rfl, by simp; omega, fun i u hu => ?_⟩
  ·have hs : o.slots = slotsZ := by
    simp only [List.mem_cons, List.not_mem_nil, or_false] at hm
    rcases hm with rfl | rfl <;> rfl
   intro y hy
   rw [hs] at hy
   obtain rfl := List.eq_of_mem_replicate hy
   decide
  ·have hi163 : i < 163 := by
    rcases Nat.lt_or_ge i 163 with h | h
    ·exact h
    ·rw [List.getElem?_eq_none (by rw [ObjD.len (hok o hm)]; exact h)] at hu; cases hu
   have h3 := objs_at [obj0, obj1] j o hok hj i hi163
   refine j2.cell_is (0 + j * 163 + i) ?_
   rw [EC.out, List.getElem?_toArray, Nat.zero_add]
   rw [hu] at h3
   have e : [obj0, obj1].flatMap ObjD.cells = obj0.cells.toArray.toList ++ obj1.cells.toArray.toList := by simp
   rw [e] at h3
   exact h3
 ·refine ⟨by decide, _, 3, rfl, by decide, fun j c hj => ⟨w.heap.size + 3, 0, rfl, by simp; omega, ?_⟩⟩
  refine (cell_of_row _ (w.heap.size + 3) (0 + j) _ _ _ j3).trans ?_
  have hj2 : j = 0 ∨ j = 1 ∨ j = 2 := by
   rcases Nat.lt_or_ge j 3 with h | h
   ·omega
   ·rw [List.getElem?_eq_none (by exact h)] at hj; cases hj
  rcases hj2 with rfl | rfl | rfl
  all_goals (cases hj; rfl)
end Go.Proofs.YtdpniceapmikpaaGreat
namespace Go.Proofs.YtdpniceapmikpaaGreat
open Go.RowKit

/-- bytes again and again, the first j of them, noughts behind -/
def madeTo (s : Nat) (bl : List UInt8) (j : Nat) : List UInt8 := (List.range (512 * s)).map fun i => if i < j ∧ 0 < bl.length then bl.getD (i % bl.length) 0 else 0
def madeL (s : Nat) (bl : List UInt8) : List UInt8 := madeTo s bl (512 * s)
theorem madeTo_len (s : Nat) (bl : List UInt8) (j : Nat) : (madeTo s bl j).length = 512 * s := by simp [madeTo]
theorem madeTo_at (s : Nat) (bl : List UInt8) (j i : Nat) (h : i < 512 * s) : (madeTo s bl j)[i]? = some (if i < j ∧ 0 < bl.length then bl.getD (i % bl.length) 0 else 0) := by simp [madeTo, h]
theorem madeTo_zero (s : Nat) (bl : List UInt8) : madeTo s bl 0 = List.replicate (512 * s) 0 := by
 apply List.ext_getElem?
 intro i
 by_cases h : i < 512 * s
 ·rw [madeTo_at _ _ _ _ h, if_neg (by omega)]; simp [h]
 ·rw [List.getElem?_eq_none (by rw [madeTo_len]; omega), List.getElem?_eq_none (by simp; omega)]
theorem madeTo_none (s j : Nat) : madeTo s [] j = madeTo s [] 0 := by
 apply List.ext_getElem?
 intro i
 by_cases h : i < 512 * s
 ·rw [madeTo_at _ _ _ _ h, madeTo_at _ _ _ _ h, if_neg (by simp), if_neg (by simp)]
 ·rw [List.getElem?_eq_none (by rw [madeTo_len]; omega), List.getElem?_eq_none (by rw [madeTo_len]; omega)]
theorem madeTo_set (s : Nat) (bl : List UInt8) (j : Nat) (hj : j < 512 * s) (h0 : 0 < bl.length) (c : UInt8) (hc : bl[j % bl.length]? = some c) : ((madeTo s bl j).map vu8).toArray.setIfInBounds j (vu8 c) = ((madeTo s bl (j + 1)).map vu8).toArray := by
 rw [List.setIfInBounds_toArray, ← List.map_set]
 congr 2
 apply List.ext_getElem?
 intro i
 rw [List.getElem?_set]
 by_cases hi : i < 512 * s
 ·rw [madeTo_at _ _ _ _ hi, madeTo_at _ _ _ _ hi]
  by_cases h1 : j = i
  ·subst h1
   rw [if_pos rfl, if_pos (by rw [madeTo_len]; omega), if_pos (by omega), List.getD_eq_getElem?_getD, hc]
   rfl
  ·rw [if_neg h1]
   by_cases h2 : i < j
   ·rw [if_pos (by omega), if_pos (by omega)]
   ·rw [if_neg (by omega), if_neg (by omega)]
 ·by_cases h1 : j = i
  ·omega
  ·rw [if_neg h1, List.getElem?_eq_none (by rw [madeTo_len]; omega), List.getElem?_eq_none (by rw [madeTo_len]; omega)]
theorem flatMap_congr' {α β : Type} {l : List α} {f g : α → List β} (h : ∀ x ∈ l, f x = g x) : l.flatMap f = l.flatMap g := by
 induction l with
 | nil => rfl
 | cons x l ih => rw [List.flatMap_cons, List.flatMap_cons, h x (by simp), ih (fun y hy => h y (by simp [hy]))]
theorem flat_cut : ∀ (s : Nat) (l : List UInt8), l.length = 512 * s → ((List.range s).flatMap fun n => (l.drop (512 * n)).take 512) = l := by
 intro s l hl
 apply List.ext_getElem?
 intro p
 by_cases hp : p < 512 * s
 ·have hf : ∀ n, n < s → ((l.drop (512 * n)).take 512).length = 512 := fun n hn => by rw [List.length_take, List.length_drop]; omega
  have e : ((List.range s).flatMap fun n => (l.drop (512 * n)).take 512) = (List.range s).flatMap fun n => if n < s then (l.drop (512 * n)).take 512 else sector0 := by
   apply flatMap_congr'
   intro n hn
   rw [if_pos (List.mem_range.1 hn)]
  have hg : ∀ n, (if n < s then (l.drop (512 * n)).take 512 else sector0).length = 512 := fun n => by
   split
   ·rename_i h; exact hf n h
   ·exact List.length_replicate
  rw [e]
  have r := flat_at (fun n => if n < s then (l.drop (512 * n)).take 512 else sector0) hg s (p / 512) (p % 512) (by omega) (by omega)
  rw [show 512 * (p / 512) + p % 512 = p by omega] at r
  rw [r, if_pos (by omega), List.getElem?_take, if_pos (by omega), List.getElem?_drop, show 512 * (p / 512) + p % 512 = p by omega]
 ·have e : ((List.range s).flatMap fun n => (l.drop (512 * n)).take 512) = (List.range s).flatMap fun n => if n < s then (l.drop (512 * n)).take 512 else sector0 := by
   apply flatMap_congr'
   intro n hn
   rw [if_pos (List.mem_range.1 hn)]
  have hg : ∀ n, (if n < s then (l.drop (512 * n)).take 512 else sector0).length = 512 := fun n => by
   split
   ·rename_i h; rw [List.length_take, List.length_drop]; omega
   ·exact List.length_replicate
  rw [e, List.getElem?_eq_none (by rw [flat_len _ hg]; omega), List.getElem?_eq_none (by omega)]
theorem flatL_of (s : Nat) (l : List UInt8) (hl : l.length = 512 * s) : flatL (ofDisk s l) = l := by
 have e : flatL (ofDisk s l) = (List.range s).flatMap fun n => (l.drop (512 * n)).take 512 := by
  unfold flatL ofDisk ofK
  simp only [Int.toNat_natCast]
  apply flatMap_congr'
  intro n hn
  have := List.mem_range.1 hn
  rw [if_pos (by omega)]
 rw [e]
 exact flat_cut s l hl
theorem ofDisk_ok (s : Nat) (l : List UInt8) (hl : l.length = 512 * s) (h1 : 1 ≤ s) (h2 : s ≤ 4096) : (ofDisk s l).ok := by
 refine ⟨by show (1 : Int) ≤ (s : Int); omega, by show (s : Int) ≤ 4096; omega, fun n => ?_, fun y hy => (by cases hy), by show (0 : Int) ≤ 0; omega, by show (0 : Int) ≤ 1000000000000; omega, by show 0 ≤ 1000000; omega⟩
 show (if 0 ≤ n ∧ n < (s : Int) then (l.drop (512 * n.toNat)).take 512 else sector0).length = 512
 split
 ·rw [List.length_take, List.length_drop]; omega
 ·exact List.length_replicate
theorem BytesIn.outO {W W' : World} {F : Nat → Prop} {B : Nat} {v : Value} {l : List UInt8} (h : BytesIn W B v l) (ho : Out F W W') (hF : ∀ g, v.ownBlock = some g → ¬ F g) : BytesIn W' B v l := by
 obtain ⟨h1, a, cap, rfl, h3, h4⟩ := h
 refine ⟨h1, a, cap, rfl, h3, fun j c hc => ?_⟩
 obtain ⟨g, off, rfl, hg, hr⟩ := h4 j c hc
 exact ⟨g, off, rfl, hg, (World.cell?_of_block (a := ⟨g, off + j, none⟩) (ho.block g (World.block_lt_of_cell? W _ hr) (hF g rfl))).trans hr⟩
theorem IntsIn.outO {W W' : World} {F : Nat → Prop} {B : Nat} {v : Value} {l : List Int} (h : IntsIn W B v l) (ho : Out F W W') (hF : ∀ g, v.ownBlock = some g → ¬ F g) : IntsIn W' B v l := by
 obtain ⟨h1, a, cap, rfl, h3, h4⟩ := h
 refine ⟨h1, a, cap, rfl, h3, fun j c hc => ?_⟩
 obtain ⟨g, off, rfl, hg, hr⟩ := h4 j c hc
 exact ⟨g, off, rfl, hg, (World.cell?_of_block (a := ⟨g, off + j, none⟩) (ho.block g (World.block_lt_of_cell? W _ hr) (hF g rfl))).trans hr⟩
theorem WaitsIn.outO {W W' : World} {F : Nat → Prop} {B : Nat} {v : Value} {l : List WaitD} (h : WaitsIn W B v l) (ho : Out F W W') (hF : ∀ g, v.ownBlock = some g → ¬ F g) : WaitsIn W' B v l := by
 obtain ⟨h0, h1, a, cap, rfl, h2⟩ := h
 refine ⟨h0, h1, a, cap, rfl, fun i y hi => ?_⟩
 obtain ⟨g, rfl, hg, hr⟩ := h2 i y hi
 exact ⟨g, rfl, hg, fun j u hj => (World.cell?_of_block (a := ⟨g, i * 513 + j, none⟩) (ho.block g (World.block_lt_of_cell? W _ (hr j u hj)) (hF g rfl))).trans (hr j u hj)⟩
theorem RDisk.outO {W W' : World} {F : Nat → Prop} {B : Nat} {lv wv fv : Value} {x : DiskD} (h : RDisk W B lv wv fv x) (ho : Out F W W') (h1 : ∀ g, lv.ownBlock = some g → ¬ F g) (h2 : ∀ g, wv.ownBlock = some g → ¬ F g) (h3 : ∀ g, fv.ownBlock = some g → ¬ F g) : RDisk W' B lv wv fv x :=
 ⟨h.lasts.outO ho h1, h.waits.outO ho h2, h.fails.outO ho h3⟩
theorem results_tmp_row_tmp {P : Program} {fn : Func} {p q r : Tmp} {ty : TypeId} (h : fn.results = #[.tmp p, .cell q ty, .tmp r]) (tmps : Array Value) (w : World) (a b c : Value) (g : Nat)
  (hp : tmps.getD p undef = a) (hq : tmps.getD q undef = .pointer (some ⟨g, 0, none⟩)) (hb : (loadVar ty ⟨g, 0, none⟩).run P w = .ok b w) (hr : tmps.getD r undef = c) :
  (results fn tmps).run P w = .ok (.tuple #[a, b, c]) w := by
 have hp' : tmps[p]?.getD undef = a := by simpa using hp
 have hq' : tmps[q]?.getD undef = .pointer (some ⟨g, 0, none⟩) := by simpa using hq
 have hr' : tmps[r]?.getD undef = c := by simpa using hr
 simp [results, h, hp', hq', hr', asAddr, hb]
set_option maxRecDepth 100000 in
set_option maxHeartbeats 4000000 in
theorem made_any (s : Nat) (vb vf : Value) (bl : List UInt8) (w : World) (hv : BytesIn w w.heap.size vb bl) (h1 : 1 ≤ s) (h2 : s ≤ 4096) :
  Calls Tryz.prog 16 #[.agg #[.int .i64 s, vb, vf]] w fun e w' => ∃ D lv B, e = .returned (.tuple #[ptr D.p, .agg #[lv, .slice none 0 0, .int .i64 0, .slice none 0 0], .bool true]) ∧ DiskAt w' D (ofDisk s (madeL s bl)) ∧
   RDisk w' B lv (.slice none 0 0) (.slice none 0 0) (ofDisk s (madeL s bl)) ∧ w.heap.size ≤ B ∧ (∀ i, D.has i → B ≤ i) ∧ Below w.heap.size w w' := by
 obtain ⟨i0, hi0, hz0, hz1, hz2⟩ := info_parts info_u8
 have HV := Lib.hid hv
 obtain ⟨_, ab, cb, rfl, _, _⟩ := hv
 obtain ⟨W, eW⟩ : ∃ W, W = ((w.alloc (.cells #[.int .i64 s, .slice ab bl.length cb, vf] 43)).alloc (.cells zeroD 40)).alloc (.cells (Array.replicate (512 * s) (vu8 0)) 5) := ⟨_, rfl⟩
 have hbW : Below w.heap.size w W := by rw [eW]; exact (((Below.refl _ w).alloc (Nat.le_refl _) _).alloc (by simp) _).alloc (by simp; omega) _
 have k0 : Blk W w.heap.size 43 #[.int .i64 s, .slice ab bl.length cb, vf] := by rw [eW]; exact ((Blk.new w _ _).alloc _).alloc _
 have k1 : Blk W (w.heap.size + 1) 40 zeroD := by rw [eW]; exact (Blk.new2 w _ _ _).alloc _
 have k2 : Blk W (w.heap.size + 2) 5 ((madeTo s bl 0).map vu8).toArray := by
  rw [eW, madeTo_zero, List.map_replicate, ← Array.toList_replicate, Array.toArray_toList]
  exact Blk.new' (by simp)
 have hset := Lib.hid (madeTo_set s bl)
 have hlen := Lib.hid (madeTo_len s bl)
 have hnone := Lib.hid (fun (h : bl = []) j => by rw [h]; exact madeTo_none s j : bl = [] → ∀ j, madeTo s bl j = madeTo s bl 0)
 obtain ⟨G, hG⟩ : ∃ G, G = w.heap.size + 2 := ⟨_, rfl⟩
 rw [← hG] at k2
 have HMS := Lib.hid (show 512 * (s : Int) = ((512 * s : Nat) : Int) by push_cast; rfl)
 unfold ptr
 go_enter Tryz.func16, Tryz.ntmps16
 go_wp2_with (refine wpList_make_row _ rfl _ _ _ rfl 5 i0 _ Tryz.underlying26 hi0 hz0 hz1 rfl .i64 .i64 (512 * s) (congrArg (Value.int .i64) HMS.out) (congrArg (Value.int .i64) HMS.out) (by rw [hz2]; omega) (by omega) ?_)
 rw [made_nought, ← eW]
 clear eW hi0 hz0 hz1 hz2
 have HW := Lib.hid hbW
 have HK0 := Lib.hid k0
 have HK1 := Lib.hid k1
 have HK2 := Lib.hid k2
 have HG := Lib.hid hG
 have eG : w.heap.size + 1 + 1 = G := by omega
 clear hbW k0 k1 k2 hG
 rw [eG]
 go_loopw [6] (fun i wr => ∃ j : Nat, j ≤ 512 * s ∧ i = .int .i64 (j : Int) ∧ Blk wr G 5 ((madeTo s bl j).map vu8).toArray ∧ Blk wr w.heap.size 43 #[.int .i64 s, .slice ab bl.length cb, vf] ∧ Blk wr (w.heap.size + 1) 40 zeroD ∧ Below w.heap.size w wr) (fun i _ => 512 * s - (intOf i).toNat)
 case atStart => exact ⟨0, by omega, rfl, HK2.out, HK0.out, HK1.out, HW.out⟩
 case round =>
  obtain ⟨j, hj, rfl, hO, hK, hZ, hB⟩ := hrel
  have c1 := hK.cell_is 1 rfl
  by_cases hlt : j < 512 * s ∧ 0 < bl.length
  ·obtain ⟨hlt1, hlt2⟩ := hlt
   have hmod : j % bl.length < bl.length := Nat.mod_lt _ hlt2
   obtain ⟨c, hc⟩ : ∃ c, bl[j % bl.length]? = some c := ⟨_, List.getElem?_eq_getElem hmod⟩
   obtain ⟨gb, ob, rfl, hgb, q2⟩ := (HV.out.below hB (Nat.le_refl _)).at_ hc
   have q1 := c1
   have hbx : ((madeTo s bl j).map vu8).toArray.size = 512 * s := by rw [List.size_toArray, List.length_map, hlen.out]
   obtain ⟨u, hu⟩ : ∃ u, ((madeTo s bl j).map vu8).toArray[j]? = some u := ⟨_, Array.getElem?_eq_getElem (by omega)⟩
   have cO := hO.cell_is j hu
   have fO := hO.frozen j
   have HO1 := Lib.hid (hO.set_ j (vu8 c))
   rw [hset.out j hlt1 hlt2 c hc] at HO1
   have HK1 := Lib.hid (hK.far (p := ⟨G, j, none⟩) (by show w.heap.size ≠ G; have := HG.out; omega) (vu8 c))
   have HZ1 := Lib.hid (hZ.far (p := ⟨G, j, none⟩) (by show w.heap.size + 1 ≠ G; have := HG.out; omega) (vu8 c))
   have HB1 := Lib.hid (hB.setCell (p := ⟨G, j, none⟩) (by show w.heap.size ≤ G; have := HG.out; omega) (vu8 c))
   have i1 : (j : Int) < 512 * (s : Int) := by omega
   have i3 : (0 : Int) < (bl.length : Int) := by omega
   have i4 : ((j : Int) % (bl.length : Int)).toNat = j % bl.length := by omega
   have i5 : (j : Int) % (bl.length : Int) < (bl.length : Int) := by omega
   have i6 : 0 ≤ (j : Int) % (bl.length : Int) := by omega
   have i7 : (j : Int).tmod (bl.length : Int) = (j : Int) % (bl.length : Int) := Int.tmod_eq_emod_of_nonneg (by omega)
   have i8 : ¬ bl = [] := by rintro rfl; simp at hlt2
   have hGn := HG.out
   have HGN := Lib.hid hGn
   clear hO hK hZ hB c1 hGn hbx
   go_upto_region 5 with fail
   refine wp_region_held_drew (S := (fun w' => w'.cell? ⟨w.heap.size, 1, none⟩ = some (.slice (some ⟨gb, ob, none⟩) bl.length cb) ∧ w'.cell? ⟨gb, ob + j % bl.length, none⟩ = some (vu8 c))) (by kernel_rfl) (by first | exact ⟨q1, q2⟩ | ((try dsimp only); exact ⟨q1, q2⟩)) (fun hHeld => ?_)
   refine tk 0 ?_
   refine tk 1 ?_
   refine tk 2 ?_
   refine tk 4 ?_
   refine tk 5 ?_
   refine tk 3 ?_
   refine tk 6 ?_
   refine tk 7 ?_
   refine tk 8 ?_
   refine tk 9 ?_
   refine tk 10 ?_
   refine tk 11 ?_
   refine rd 12 fun K hK => ?_
   go_simp
   refine hK.out _ _ (by first | exact ⟨(World.cell?_setCell_far wr.drew ⟨G, j, none⟩ ⟨w.heap.size, 1, none⟩ _ (by show G ≠ w.heap.size; have := HGN.out; omega)).trans q1, (World.cell?_setCell_far wr.drew ⟨G, j, none⟩ ⟨gb, ob + j % bl.length, none⟩ _ (by show G ≠ gb; have := HGN.out; omega)).trans q2⟩ | ((try dsimp only); exact ⟨(World.cell?_setCell_far wr.drew ⟨G, j, none⟩ ⟨w.heap.size, 1, none⟩ _ (by show G ≠ w.heap.size; have := HGN.out; omega)).trans q1, (World.cell?_setCell_far wr.drew ⟨G, j, none⟩ ⟨gb, ob + j % bl.length, none⟩ _ (by show G ≠ gb; have := HGN.out; omega)).trans q2⟩)) (fun hHeld => ?_)
   clear hK K
   try simp only [Act.put, pz0, pz1, pz2, pz3, pz4, pz5]
   refine wpAnyH_done (by kernel_rfl) ?_ _
   try simp only [Act.put, pz0, pz1, pz2, pz3, pz4, pz5]
   go_wp2_with fail
   go_roundw
   case rel => exact ⟨j + 1, by omega, by go_num, HO1.out, HK1.out, HZ1.out, HB1.out.drew⟩
   case measure => simp [intOf]; omega
  ·have hend : madeTo s bl j = madeL s bl := by
    by_cases hj2 : j = 512 * s
    ·rw [hj2]; rfl
    ·have hb0 : bl = [] := by
      cases bl with
      | nil => rfl
      | cons c bl => exact absurd ⟨by omega, by simp⟩ hlt
     unfold madeL
     rw [hnone.out hb0 j, hnone.out hb0 (512 * s)]
   rw [hend] at hO
   have hml : (madeL s bl).length = 512 * s := hlen.out _
   have hal : BytesIn wr (G + 1) (.slice (some ⟨G, 0, none⟩) (512 * s) (512 * s)) (madeL s bl) := by
    have h := blk_bytes hO (512 * s) (by omega) (by rw [hml]; unfold maxLen; omega)
    rw [hml] at h
    have ht : (madeL s bl).take (512 * s) = madeL s bl := List.take_of_length_le (by omega)
    rw [ht] at h
    refine ⟨h.1, some ⟨G, 0, none⟩, 512 * s, by rw [hml], by omega, fun i c hc => ?_⟩
    obtain ⟨g', off', e, _, hr⟩ := h.at_ hc
    cases e
    exact ⟨G, 0, rfl, by omega, hr⟩
   have hGl := hO.lt
   have HOF := Lib.hid (dof_any _ (madeL s bl) s wr (hal.mono (by omega)) hml h1 h2)
   have HAL := Lib.hid hal
   have HFL := Lib.hid (flatL_of s (madeL s bl) hml)
   have HZ := Lib.hid hZ
   have HB := Lib.hid hB
   have HGN := Lib.hid HG.out
   have fin : ∀ (tmps : Array Value), True := fun _ => trivial
   clear fin hO hZ hB hal
   by_cases hj1 : j < 512 * s
   ·have hb0 : bl = [] := by
     cases bl with
     | nil => rfl
     | cons c bl => exact absurd ⟨by omega, by simp⟩ hlt
    subst hb0
    have i1 : (j : Int) < 512 * (s : Int) := by omega
    simp only [List.length_nil] at c1
    go_wp2_with fail
    refine HOF.out.mono ?_; rintro e w2 ⟨D, rfl, hD, hhas, hb2⟩
    have HD := Lib.hid hD
    have hZ2 := HZ.out.below hb2 HZ.out.lt
    have hB2 := HB.out.trans (hb2.mono HB.out.size)
    have hAL2 := HAL.out.below hb2 (by omega)
    clear hD
    go_wp2_with fail
    refine (num_any 0 _).mono ?_; rintro e w3 ⟨rfl, rfl⟩
    go_wp2_with (refine wpList_store_row rfl 40 _ _ rfl (w.heap.size + 1) #[.slice (some ⟨G, 0, none⟩) (512 * s) (512 * s), .slice none 0 0, .int .i64 0, .slice none 0 0] rfl rfl 40 zeroD hZ2 (size_rdisk _ _ _ _) rfl (by simp [Value.oneCell']) ?_)
    refine bodyPost_ret (results_tmp_row_tmp Tryz.results16 _ _ _ _ _ _ (by rfl) (by rfl) (load_rdisk (hZ2.row _)) (by rfl)) rfl ⟨D, _, G + 1, rfl, ?_, ⟨?_, ?_, IntsIn.nil _ _⟩, by have := HGN.out; omega, fun i hi => by have := hhas i hi; omega, below_row hB2 _ (by omega)⟩
    ·exact HD.out.out (F := fun i => i = w.heap.size + 1) (out_row _ rfl) (fun i hi e => by have := hhas i hi; have := HGN.out; omega)
    ·rw [HFL.out]
     exact hAL2.outO (F := fun i => i = w.heap.size + 1) (out_row _ rfl) (fun g hg e => by
      have e2 : G = g := by simpa [Value.ownBlock] using hg
      have := HGN.out
      omega)
    ·exact ⟨by show 0 ≤ 1000000; omega, fun y hy => (by cases hy), none, 0, rfl, fun i y hi => by cases hi⟩
   ·have i1 : ¬ (j : Int) < 512 * (s : Int) := by omega
    go_wp2_with fail
    refine HOF.out.mono ?_; rintro e w2 ⟨D, rfl, hD, hhas, hb2⟩
    have HD := Lib.hid hD
    have hZ2 := HZ.out.below hb2 HZ.out.lt
    have hB2 := HB.out.trans (hb2.mono HB.out.size)
    have hAL2 := HAL.out.below hb2 (by omega)
    clear hD
    go_wp2_with fail
    refine (num_any 0 _).mono ?_; rintro e w3 ⟨rfl, rfl⟩
    go_wp2_with (refine wpList_store_row rfl 40 _ _ rfl (w.heap.size + 1) #[.slice (some ⟨G, 0, none⟩) (512 * s) (512 * s), .slice none 0 0, .int .i64 0, .slice none 0 0] rfl rfl 40 zeroD hZ2 (size_rdisk _ _ _ _) rfl (by simp [Value.oneCell']) ?_)
    refine bodyPost_ret (results_tmp_row_tmp Tryz.results16 _ _ _ _ _ _ (by rfl) (by rfl) (load_rdisk (hZ2.row _)) (by rfl)) rfl ⟨D, _, G + 1, rfl, ?_, ⟨?_, ?_, IntsIn.nil _ _⟩, by have := HGN.out; omega, fun i hi => by have := hhas i hi; omega, below_row hB2 _ (by omega)⟩
    ·exact HD.out.out (F := fun i => i = w.heap.size + 1) (out_row _ rfl) (fun i hi e => by have := hhas i hi; have := HGN.out; omega)
    ·rw [HFL.out]
     exact hAL2.outO (F := fun i => i = w.heap.size + 1) (out_row _ rfl) (fun g hg e => by
      have e2 : G = g := by simpa [Value.ownBlock] using hg
      have := HGN.out
      omega)
    ·exact ⟨by show 0 ≤ 1000000; omega, fun y hy => (by cases hy), none, 0, rfl, fun i y hi => by cases hi⟩
end Go.Proofs.YtdpniceapmikpaaGreat
