/-
  A disk as data, and where it lies; none, Size, right.
  disk.New; step.
  logs.parts: the sectors of a state.
  The program's cache: asked, Place.
  The program's cache: Place, Hand.
  logs.says: what a head says.
  The program's New: its closure; arguments that may not be.
  The law CacheEvicts. (Written by gen_claw.py.)
  The law CacheSettles. (Written by gen_cset.py.)
  Opening numbers within 64 bits, an object, calls.
  The cache's calls where there is no cache (for CacheMakes).
  The reference's Disk.Spoil where nothing waits.
  The program's Spoil, where both caches stand alike; the act Spoil.
  The law CachePlays.
  For CacheMakes: append of any numbers; a new disk's bytes.
  The reference's cache: New where none may be.
  The law CacheMakes.
  CacheMakes: for every input the law answers true, and its arguments read as they did; without conditions.
-/
import Derived.Deep.RegionHeld3
import Derived.Laws.IdiomStrings
import Derived.Test.YtemcgfncahccgaaGreatCa1
import Derived.Test.YtemcgfncahccgaaGreatCa10
import Derived.Test.YtemcgfncahccgaaGreatCa11
import Derived.Test.YtemcgfncahccgaaGreatCa15
import Derived.Test.YtemcgfncahccgaaGreatCa16
import Derived.Test.YtemcgfncahccgaaGreatCa20
import Derived.Test.YtemcgfncahccgaaGreatCa22
import Derived.Test.YtemcgfncahccgaaGreatCa23
import Derived.Test.YtemcgfncahccgaaGreatCa25
import Derived.Test.YtemcgfncahccgaaGreatCa31
import Derived.Test.YtemcgfncahccgaaGreatCa33
import Derived.Test.YtemcgfncahccgaaGreatCa34
import Derived.Test.YtemcgfncahccgaaGreatCa35
import Derived.Test.YtemcgfncahccgaaGreatCa36
import Derived.Test.YtemcgfncahccgaaGreatCa37
import Derived.Test.YtemcgfncahccgaaGreatCa38
import Derived.Test.YtemcgfncahccgaaGreatCa4
import Derived.Test.YtemcgfncahccgaaGreatCa6
set_option linter.unusedVariables false
set_option linter.unusedSimpArgs false
namespace Go.Proofs.YtemcgfncahccgaaGreat
open Go.RowKit

theorem dnone_nil (w : World) : Calls Tryz.prog 62 #[.pointer none] w fun e w' => e = .returned (.bool true) ∧ w = w' := by
 go_enter Tryz.func62, Tryz.ntmps62
 go_wp2_with fail
 go_ret
 exact ⟨rfl, rfl⟩
theorem dsize_nil (w : World) : Calls Tryz.prog 37 #[.pointer none] w fun e w' => e = .returned (.int .i64 0) ∧ w = w' := by
 go_enter Tryz.func37, Tryz.ntmps37
 go_wp2_with fail
 refine (dnone_nil _).mono ?_; rintro e w1 ⟨rfl, rfl⟩
 go_wp2_with fail
 go_ret
 exact ⟨rfl, rfl⟩
end Go.Proofs.YtemcgfncahccgaaGreat
namespace Go.Proofs.YtemcgfncahccgaaGreat
open Go.RowKit

theorem newDisk_ok (n : Int) (h1 : 1 ≤ n) (h2 : n ≤ 4096) : (newDisk n).ok := ⟨h1, h2, fun _ => List.length_replicate, (by intro y hy; cases hy), by show (0 : Int) ≤ 0; omega, by show (0 : Int) ≤ 1000000000000; omega, by show 0 ≤ 1000000; omega⟩
end Go.Proofs.YtemcgfncahccgaaGreat
namespace Go.Proofs.YtemcgfncahccgaaGreat
open Go.RowKit Go.Shelf

attribute [local go_sem] Oper.semAt_some

/-- a number of a part -/
abbrev IdxS := { k : Nat // k < 4294967296 }
abbrev SecS := { b : List UInt8 // b.length = 512 }
def vp (x : IdxS × SecS) : Array Value := #[.int .i64 x.1.1, .agg (x.2.1.map vu8).toArray]
end Go.Proofs.YtemcgfncahccgaaGreat
namespace Go.Proofs.YtemcgfncahccgaaGreat
open Go.RowKit Go.Shelf

set_option maxHeartbeats 2000000 in
theorem askc_nil (oid : Int) (w : World) : Calls Tryz.prog 41 #[.pointer none, .int .i64 oid] w fun e w' => e = .returned (.int .i64 1) ∧ w' = w := by
 go_enter Tryz.func41, Tryz.ntmps41
 go_wp2_with fail
 go_ret
 exact ⟨rfl, rfl⟩
end Go.Proofs.YtemcgfncahccgaaGreat
namespace Go.Proofs.YtemcgfncahccgaaGreat
open Go.RowKit Go.Shelf

set_option maxHeartbeats 2000000 in
theorem place_nil (oid : Int) (w : World) : Calls Tryz.prog 21 #[.pointer none, .int .i64 oid] w fun e w' => e = .returned (.tuple #[.int .i64 0, .int .i64 1]) ∧ w' = w := by
 have HA := Lib.hid (askc_nil oid w)
 go_enter Tryz.func21, Tryz.ntmps21
 go_wp2_with fail
 refine HA.out.mono ?_; rintro e w1 ⟨rfl, rfl⟩
 go_wp2_with fail
 exact bodyPost_ret (results_tmp2 Tryz.results21 _ _ _) rfl ⟨rfl, rfl⟩

theorem hand_nil (w : World) : Calls Tryz.prog 26 #[.pointer none] w fun e w' => e = .returned (.slice none 0 0) ∧ w' = w := by
 go_enter Tryz.func26, Tryz.ntmps26
 go_wp2_with fail
 go_ret
 exact ⟨rfl, rfl⟩
end Go.Proofs.YtemcgfncahccgaaGreat
namespace Go.Proofs.YtemcgfncahccgaaGreat
open Go.RowKit

section
variable {D : DiskP} {x : DiskD} {w W W' : World} {N : Int} {pl gs B : Nat} {v : Value} {rest : List UInt8} {S : Array Value}
end
theorem made_nought (n : Nat) : madeCells #[.int .u8 0] n = Array.replicate n (vu8 0) := by
 apply Array.ext'
 rw [toList_madeCells_one, Array.toList_replicate]
 rfl
section
variable {D : DiskP} {x : DiskD} {w W W' : World} {N : Int} {pl gs B : Nat} {v : Value} {b : List UInt8} {S : Array Value}
end
section
variable {D : DiskP} {x : DiskD} {w W W' : World} {N : Int} {pl gs B g1 nb : Nat} {v vo vm : Value} {b : List UInt8} {S : Array Value} {i jo jm : Nat}
end
end Go.Proofs.YtemcgfncahccgaaGreat
namespace Go.Proofs.YtemcgfncahccgaaGreat
open Go.RowKit Go.Shelf

set_option maxHeartbeats 2000000 in
/-- a disk that is none -/
theorem newc_nil (room : Int) (v : Value) (w : World) :
  Calls Tryz.prog 14 #[.pointer none, .int .i64 room, v] w fun e w' => e = .returned (.tuple #[.pointer none, .int .i64 1]) ∧ Below w.heap.size w w' := by
 have HS := Lib.hid (fun X => dsize_nil X)
 go_enter Tryz.func14, Tryz.ntmps14
 go_wp2_with fail
 refine (HS.out _).mono ?_; rintro e w1 ⟨rfl, rfl⟩
 go_wp2_with fail
 exact bodyPost_ret (results_tmp2 Tryz.results14 _ _ _) rfl ⟨rfl, (Below.refl _ w).alloc (Nat.le_refl _) _⟩
set_option maxHeartbeats 4000000 in
/-- numbers that may not be -/
theorem newc_arg (D : DiskP) (x : DiskD) (room : Int) (a : Option Addr) (n c : Nat) (w : World) (hD : DiskAt w D x) (hx : x.ok) (hbad : room < 1 ∨ 64 < room ∨ n < 1 ∨ 64 < n) :
  Calls Tryz.prog 14 #[ptr D.p, .int .i64 room, .slice a n c] w fun e w' => e = .returned (.tuple #[.pointer none, .int .i64 2]) ∧ Below w.heap.size w w' := by
 have hb : Below w.heap.size w (w.alloc (.cells #[ptr D.p] 28)) := (Below.refl _ w).alloc (Nat.le_refl _) _
 have HS := Lib.hid (dsize_any D x _ (hD.below hb) hx)
 have s0 : (x.size == 0) = false := by simpa using (by have := hx.1; omega : x.size ≠ 0)
 obtain ⟨sz, esz⟩ : ∃ sz, sz = x.size := ⟨_, rfl⟩
 rw [← esz] at HS s0
 have HB := Lib.hid hb
 unfold ptr at *
 clear hD hx esz hb
 have key : decide (room < 1) = true ∨ (decide (room < 1) = false ∧ decide (64 < room) = true) ∨ (decide (room < 1) = false ∧ decide (64 < room) = false ∧ decide ((n : Int) < 1) = true) ∨ (decide (room < 1) = false ∧ decide (64 < room) = false ∧ decide ((n : Int) < 1) = false ∧ decide (64 < (n : Int)) = true) := by
  simp only [decide_eq_true_eq, decide_eq_false_iff_not]
  omega
 clear hbad
 rcases key with k1 | ⟨k1, k2⟩ | ⟨k1, k2, k3⟩ | ⟨k1, k2, k3, k4⟩
 all_goals
  go_enter Tryz.func14, Tryz.ntmps14
  go_wp2_with fail
  refine HS.out.mono ?_; rintro e w1 ⟨rfl, rfl⟩
  go_wp2_with fail
  exact bodyPost_ret (results_tmp2 Tryz.results14 _ _ _) rfl ⟨rfl, HB.out⟩
set_option maxHeartbeats 4000000 in
/-- a place that is not on the disk -/
theorem newc_range (D : DiskP) (x : DiskD) (room : Int) (v : Value) (l : List Int) (w : World) (hD : DiskAt w D x) (hx : x.ok) (hv : IntsIn w w.heap.size v l) (h1 : 1 ≤ room ∧ room ≤ 64) (h2 : 1 ≤ l.length ∧ l.length ≤ 64) (hbad : l.any (fun p => decide (p < 0) || decide (x.size ≤ p)) = true) :
  Calls Tryz.prog 14 #[ptr D.p, .int .i64 room, v] w fun e w' => e = .returned (.tuple #[.pointer none, .int .i64 4]) ∧ Below w.heap.size w w' := by
 have hb : Below w.heap.size w (w.alloc (.cells #[ptr D.p] 28)) := (Below.refl _ w).alloc (Nat.le_refl _) _
 have HS := Lib.hid (dsize_any D x _ (hD.below hb) hx)
 have hv2 := hv.below hb (Nat.le_refl _)
 obtain ⟨_, a, c, rfl, hcap, hc⟩ := hv2
 obtain ⟨g, off, rfl, -, -⟩ := hc 0 (l[0]'(by omega)) (List.getElem?_eq_getElem _)
 have hcx : (w.alloc (.cells #[ptr D.p] 28)).cell? ⟨w.heap.size, 0, none⟩ = some (ptr D.p) := (Blk.new w 28 #[ptr D.p]).cell_is 0 rfl
 have hCF := Tryz.slices_ContainsFunc (α := Int) (Value.int .i64) (fun p => decide (p < 0) || decide (x.size ≤ p)) 39 #[.pointer (some ⟨w.heap.size, 0, none⟩)] (enters_of Tryz.func39 rfl rfl) g off l.length c l (w.alloc (.cells #[ptr D.p] 28))
  (fun W y hW => new1_gives D x W w.heap.size y ((hD.below hb).below hW) hx ((hW.cell (p := ⟨w.heap.size, 0, none⟩) (by simp)).trans hcx)) (Nat.le_refl _) (by omega) (fun j hj => by
   obtain ⟨g', off', e, _, hr⟩ := hc j (l[j]'hj) (List.getElem?_eq_getElem hj)
   cases e
   rw [hr, getElem!_pos l j hj])
 rw [List.take_length, hbad] at hCF
 have HCF := Lib.hid hCF
 have s0 : (x.size == 0) = false := by simpa using (by have := hx.1; omega : x.size ≠ 0)
 obtain ⟨sz, esz⟩ : ∃ sz, sz = x.size := ⟨_, rfl⟩
 rw [← esz] at HS s0
 have HB := Lib.hid hb
 obtain ⟨L, eL⟩ : ∃ L, L = l.length := ⟨_, rfl⟩
 have k1 : decide (room < 1) = false := by simp; omega
 have k2 : decide (64 < room) = false := by simp; omega
 have k3 : decide ((L : Int) < 1) = false := by simp; omega
 have k4 : decide (64 < (L : Int)) = false := by simp; omega
 rw [← eL] at HCF ⊢
 unfold ptr at *
 clear hD hx esz hb hv hc hcx hCF h1 h2 hbad hcap eL
 go_enter Tryz.func14, Tryz.ntmps14
 go_wp2_with fail
 refine HS.out.mono ?_; rintro e w1 ⟨rfl, rfl⟩
 go_wp2_with fail
 refine HCF.out.mono ?_; rintro e w1 ⟨rfl, q, rfl⟩
 go_wp2_with fail
 exact bodyPost_ret (results_tmp2 Tryz.results14 _ _ _) rfl ⟨rfl, below_drewN' HB.out q⟩
end Go.Proofs.YtemcgfncahccgaaGreat
namespace Go.Proofs.YtemcgfncahccgaaGreat
open Go.RowKit Go.Shelf

end Go.Proofs.YtemcgfncahccgaaGreat
namespace Go.Proofs.YtemcgfncahccgaaGreat
open Go.RowKit Go.Shelf

/-- a slice of calls that is read -/
def ActsIn (W : World) (B : Nat) (v : Value) (l : List ActD) : Prop :=
 l.length ≤ maxLen ∧ ∃ a cap, v = .slice a l.length cap ∧ l.length ≤ cap ∧ ∀ j (o : ActD), l[j]? = some o → o.ok ∧ ∃ g off, a = some ⟨g, off, none⟩ ∧ g < B ∧ W.rangeAt g (off + j * 167) o.cells
theorem ActsIn.below {W W' : World} {B C : Nat} {v : Value} {l : List ActD} (h : ActsIn W B v l) (hb : Below C W W') (hC : B ≤ C) : ActsIn W' B v l := by
 obtain ⟨h1, a, cap, h2, h3, h4⟩ := h
 refine ⟨h1, a, cap, h2, h3, fun j o hj => ?_⟩
 obtain ⟨ho, g, off, e, hg, hr⟩ := h4 j o hj
 exact ⟨ho, g, off, e, hg, range_below hr hb (by omega)⟩
theorem ActsIn.at_ {W : World} {B : Nat} {a : Option Addr} {n c : Nat} {l : List ActD} (h : ActsIn W B (.slice a n c) l) {j : Nat} {x : ActD} (hx : l[j]? = some x) :
  x.ok ∧ ∃ g off, a = some ⟨g, off, none⟩ ∧ g < B ∧ W.rangeAt g (off + j * 167) x.cells := by
 obtain ⟨_, a', c', e, _, h4⟩ := h
 injection e with ea _ _
 subst ea
 exact h4 j x hx
end Go.Proofs.YtemcgfncahccgaaGreat
namespace Go.Proofs.YtemcgfncahccgaaGreat
open Go.ChangeShapes Go.WideShapes Go.ChangeAt Go.RowKit Go.Deep

section
variable {H : Type} {enc : TypeId × Value → H} {w : World} {n : Nat} {cs : List Value} {x : DataW H × List MemPlace}
set_option maxRecDepth 100000 in
theorem open_intI {r : Reach} {b0 : Nat} {v : Value} {d : DataW H} {p : List MemPlace} (hv : Value.okWide Tryz.prog w r b0 3 v) (h : DataW.Trod enc Tryz.prog w 0 (fun _ => true) true 3 v d p) : ∃ k, v = .int .i64 k ∧ I64 k := by
 obtain ⟨k, rfl, _, _, hw⟩ := open_int Tryz.underlying3 hv h
 have h1 := i64_lt hw
 exact ⟨k, rfl, by omega, by omega⟩
end
end Go.Proofs.YtemcgfncahccgaaGreat
namespace Go.Proofs.YtemcgfncahccgaaGreat
open Go.RowKit Go.Shelf

set_option maxHeartbeats 2000000 in
theorem put_nil (oid : Int) (ocs : Array Value) (w : World) : Calls Tryz.prog 15 #[.pointer none, .int .i64 oid, .agg ocs] w fun e w' => e = .returned (.int .i64 1) ∧ Below w.heap.size w w' := by
  have HS := Lib.hid (fun X => askc_nil oid X)
  go_enter Tryz.func15, Tryz.ntmps15
  go_wp2_with fail
  refine (HS.out _).mono ?_; rintro e w1 ⟨rfl, rfl⟩
  go_wp2_with fail
  go_ret
  exact ⟨rfl, (Below.refl _ w).alloc (Nat.le_refl _) _⟩
set_option maxHeartbeats 2000000 in
theorem move_nil (oid s : Int) (w : World) : Calls Tryz.prog 24 #[.pointer none, .int .i64 oid, .int .i64 s] w fun e w' => e = .returned (.int .i64 1) ∧ w' = w := by
  have HS := Lib.hid (fun X => askc_nil oid X)
  go_enter Tryz.func24, Tryz.ntmps24
  go_wp2_with fail
  refine (HS.out _).mono ?_; rintro e w1 ⟨rfl, rfl⟩
  go_wp2_with fail
  go_ret
  exact ⟨rfl, rfl⟩
set_option maxHeartbeats 2000000 in
theorem settle_nil (oid s : Int) (w : World) : Calls Tryz.prog 23 #[.pointer none, .int .i64 oid, .int .i64 s] w fun e w' => e = .returned (.int .i64 1) ∧ w' = w := by
  have HS := Lib.hid (fun X => move_nil oid s X)
  go_enter Tryz.func23, Tryz.ntmps23
  go_wp2_with fail
  refine (HS.out _).mono ?_; rintro e w1 ⟨rfl, rfl⟩
  go_wp2_with fail
  go_ret
  exact ⟨rfl, rfl⟩
set_option maxHeartbeats 2000000 in
theorem copyc_nil (d : Value) (w : World) : Calls Tryz.prog 27 #[.pointer none, d] w fun e w' => e = .returned (.pointer none) ∧ w' = w := by
  go_enter Tryz.func27, Tryz.ntmps27
  go_wp2_with fail
  go_ret
  exact ⟨rfl, rfl⟩
set_option maxHeartbeats 2000000 in
theorem copyc_none {w : World} {C : CacheP} {x : CacheD} (h : CacheAt w C x) : Calls Tryz.prog 27 #[ptr C.g, .pointer none] w fun e w' => e = .returned (.pointer none) ∧ w' = w := by
  have HS := Lib.hid (fun X => dsize_nil X)
  have c0 := h.blk.cell_is 0 rfl
  unfold ptr at *
  clear h
  go_enter Tryz.func27, Tryz.ntmps27
  go_wp2_with fail
  refine (HS.out _).mono ?_; rintro e w1 ⟨rfl, rfl⟩
  go_wp2_with fail
  go_ret
  exact ⟨rfl, rfl⟩
set_option maxRecDepth 100000 in
set_option maxHeartbeats 4000000 in
theorem gett_nil (oid : Int) (w : World) : Calls Tryz.prog 18 #[.pointer none, .int .i64 oid] w fun e w' => e = .returned (.tuple #[.agg objZ.cells.toArray, .int .i64 1]) ∧ Below w.heap.size w w' := by
  obtain ⟨W, eW⟩ : ∃ W, W = ((w.alloc (.cells #[.pointer none] 35)).alloc (.cells #[.int .i64 oid] 3)).alloc (.cells Tryz.zeroCells47 47) := ⟨_, rfl⟩
  have hbW : Below w.heap.size w W := by rw [eW]; exact (((Below.refl _ w).alloc (Nat.le_refl _) _).alloc (by simp) _).alloc (by simp; omega) _
  have k0 : Blk W w.heap.size 35 #[.pointer none] := by rw [eW]; exact ((Blk.new w _ _).alloc _).alloc _
  have k1 : Blk W (w.heap.size + 1) 3 #[.int .i64 oid] := by rw [eW]; exact (Blk.new2 w _ _ _).alloc _
  have k2 : Blk W (w.heap.size + 2) 47 objZ.cells.toArray := by rw [eW, ← zeroObj]; exact Blk.new' (by simp)
  have HA := Lib.hid (askc_nil oid W)
  have HB := Lib.hid hbW
  have c0 := k0.cell_is 0 rfl
  have c1 := k1.cell_is 0 rfl
  clear hbW
  go_enter Tryz.func18, Tryz.ntmps18
  go_upto_region 1 with fail
  rw [← eW]
  clear eW
  go_wp2_with fail
  refine HA.out.mono ?_; rintro e w1 ⟨rfl, rfl⟩
  go_wp2_with (first
    | (refine wpList_build_is rfl 47 _ rfl objZ.cells.toArray (by kernel_rfl) ?_)
    | (refine wpList_store_row rfl 47 _ _ rfl (w.heap.size + 2) objZ.cells.toArray rfl rfl 47 _ k2 (obj_info objZ objZ_ok) rfl (obj_ones objZ) ?_))
  exact bodyPost_ret (results_row_tmp2 Tryz.results18 _ _ _ _ _ rfl (load_obj objZ_ok (k2.row _)) rfl) rfl ⟨rfl, below_row HB.out _ (by omega)⟩
set_option maxHeartbeats 2000000 in
theorem changed_nil (w : World) : Calls Tryz.prog 25 #[.pointer none] w fun e w' => e = .returned (.slice none 0 0) ∧ Below w.heap.size w w' := by
  obtain ⟨W, eW⟩ : ∃ W, W = w.alloc (.cells #[.pointer none] 35) := ⟨_, rfl⟩
  have hbW : Below w.heap.size w W := by rw [eW]; exact (Below.refl _ w).alloc (Nat.le_refl _) _
  have k0 : Blk W w.heap.size 35 #[.pointer none] := by rw [eW]; exact Blk.new w _ _
  have c0 := k0.cell_is 0 rfl
  have HB := Lib.hid hbW
  have HH := Lib.hid (fun X => hand_nil X)
  clear hbW
  go_enter Tryz.func25, Tryz.ntmps25
  go_upto_region 1 with fail
  rw [← eW]
  clear eW
  go_wp2_with fail
  refine (HH.out _).mono ?_; rintro e w1 ⟨rfl, rfl⟩
  go_wp2_with fail
  refine (del_none 0 51 #[.pointer (some ⟨w.heap.size, 0, none⟩)] _).mono ?_; rintro e w2 ⟨rfl, rfl⟩
  go_wp2_with fail
  go_ret
  exact ⟨rfl, HB.out⟩
theorem clean_none (n : Nat) (hn : 1 ≤ n) (Bs : Nat) (S : Nat → Prop) (w : World) (hBs : Bs < w.heap.size) (hc : w.cell? ⟨Bs, 0, none⟩ = some (.pointer none)) :
    SeqStopsK Fence.wide n Tryz.prog 77 #[.pointer (some ⟨Bs, 0, none⟩)] vi (KeepsB S) (fun zs => zs = []) (fun pre => pre <+: []) 0 w := fun l J Jx W hW _ _ hY h0 => by
  have hro : Fence.wide.round = none := rfl
  have c0 := (hW.cell (p := ⟨Bs, 0, none⟩) hBs).trans hc
  clear hY hW hc
  refine callsIn_of_wp Tryz.func77 rfl trivial ?_ hro
  simp only [Tryz.ntmps77, List.size_toArray, List.length_cons, List.length_nil, Nat.reduceAdd, Nat.reduceSub, Array.replicate_succ, Array.replicate_zero, List.push_toArray, List.append_toArray, List.nil_append, List.cons_append]
  gi_wp2
  refine bodyPost_ret (results_none rfl _ _ _) rfl ?_
  exact ⟨⟨_, rfl⟩, .inl ⟨[], rfl, h0⟩⟩
set_option maxHeartbeats 2000000 in
theorem clean_sorted_none (w : World) (Bs : Nat) (hBs : Bs < w.heap.size) (hc : w.cell? ⟨Bs, 0, none⟩ = some (.pointer none)) :
    Calls Tryz.prog 44 #[.func (.func 77) #[] #[.pointer (some ⟨Bs, 0, none⟩)]] w fun e w' => ∃ v, e = .returned v ∧ w'.ownsRow w.heap.size 3 1 v (List.length ([] : List Int)) ((sortI []).map (Value.int .i64)) ∧ Below w.heap.size w w' := by
  have hb : Below w.heap.size w (w.alloc (.cells #[.slice none 0 0] 23)) := (Below.refl _ w).alloc (Nat.le_refl _) _
  refine callsIn_wide.1 (sorted_in 5 (by omega) _ _ [] w (enters_of Tryz.func77 rfl rfl) (by simp) ?_)
  exact clean_none 2 (by omega) Bs _ _ (by have := hb.size; omega) ((hb.cell (p := ⟨Bs, 0, none⟩) hBs).trans hc)
theorem cleanc_nil (w : World) : Calls Tryz.prog 45 #[.pointer none] w fun e w' => e = .returned (.func (.func 77) #[] #[.pointer (some ⟨w.heap.size, 0, none⟩)]) ∧ w' = w.alloc (.cells #[.pointer none] 35) := by
  go_enter Tryz.func45, Tryz.ntmps45
  go_wp2_with fail
  go_ret
  exact ⟨rfl, rfl⟩
set_option maxHeartbeats 2000000 in
theorem evict_nil (p : Int) (w : World) : Calls Tryz.prog 17 #[.pointer none, .int .i64 p] w fun e w' => e = .returned (.tuple #[.int .i64 0, .bool false]) ∧ Below w.heap.size w w' := by
  have HC := Lib.hid (cleanc_nil w)
  have hb : Below w.heap.size w (w.alloc (.cells #[.pointer none] 35)) := (Below.refl _ w).alloc (Nat.le_refl _) _
  have HK := Lib.hid (clean_sorted_none (w.alloc (.cells #[.pointer none] 35)) w.heap.size (by simp) ((Blk.new w 35 #[.pointer none]).cell_is 0 rfl))
  have HB := Lib.hid hb
  clear hb
  go_enter Tryz.func17, Tryz.ntmps17
  go_wp2_with fail
  refine HC.out.mono ?_; rintro e w1 ⟨rfl, rfl⟩
  go_wp2_with fail
  refine HK.out.mono ?_; rintro e w2 ⟨v, rfl, ho, hb2⟩
  obtain ⟨a2, cap2, rfl⟩ := slice_form ho
  go_wp2_with fail
  exact bodyPost_ret (results_tmp2 Tryz.results17 _ _ _) rfl ⟨rfl, HB.out.trans (hb2.mono HB.out.size)⟩
/-- New of the program's cache, of any disk that is one -/
theorem newc_all (D : DiskP) (x : DiskD) (room : Int) (v : Value) (l : List Int) (w : World) (hD : DiskAt w D x) (hx : x.ok) (hv : IntsIn w w.heap.size v l) :
    Calls Tryz.prog 14 #[ptr D.p, .int .i64 room, v] w fun e w' => Below w.heap.size w w' ∧
      ((newE x room l = 0 ∧ ∃ C : CacheP, e = .returned (.tuple #[ptr C.g, .int .i64 0]) ∧ C.dp = D.p ∧ CacheRaw w' C room l (fun _ => none) [] ∧ ∀ i, C.has i → w.heap.size ≤ i) ∨
       (newE x room l ≠ 0 ∧ e = .returned (.tuple #[.pointer none, .int .i64 (newE x room l)]))) := by
  by_cases hb : room < 1 ∨ 64 < room ∨ l.length < 1 ∨ 64 < l.length
  · have hE : newE x room l = 2 := by unfold newE; rw [if_pos (by omega)]
    obtain ⟨_, a, c, rfl, _, _⟩ := hv
    refine (newc_arg D x room a l.length c w hD hx hb).mono fun e w' ⟨h1, h2⟩ => ⟨h2, .inr ⟨by rw [hE]; decide, by rw [hE]; exact h1⟩⟩
  · by_cases hr : l.any (fun p => decide (p < 0) || decide (x.size ≤ p)) = true
    · have hE : newE x room l = 4 := by unfold newE; rw [if_neg (by omega), if_pos hr]
      refine (newc_range D x room v l w hD hx hv (by omega) (by omega) hr).mono fun e w' ⟨h1, h2⟩ => ⟨h2, .inr ⟨by rw [hE]; decide, by rw [hE]; exact h1⟩⟩
    · have hE : newE x room l = 0 := by unfold newE; rw [if_neg (by omega), if_neg hr]
      refine (newc_ok D x room v l w hD hx hv (by omega) (by omega) (by simpa using hr)).mono fun e w' ⟨C, h1, h2, h3, h4, h5⟩ => ⟨h4, .inl ⟨hE, C, h1, h2, h3, h5⟩⟩
end Go.Proofs.YtemcgfncahccgaaGreat
namespace Go.Proofs.YtemcgfncahccgaaGreat
open Go.RowKit

end Go.Proofs.YtemcgfncahccgaaGreat
namespace Go.Proofs.YtemcgfncahccgaaGreat
open Go.RowKit Go.Shelf

theorem DStep.pstep {D : DiskP} {w w' : World} (h : DStep D D w w') (C : CacheP) : PStep D C C w w' := ⟨h.out.sub (fun _ h => .inl h), ⟨rfl, rfl, rfl, rfl⟩, fun _ h => .inl h⟩
section
variable {w : World} {D : DiskP} {C : CacheP} {cv : Value} {x : CacheD} {k : Int}
end
end Go.Proofs.YtemcgfncahccgaaGreat
namespace Go.Proofs.YtemcgfncahccgaaGreat
open Go.RowKit Go.Shelf

end Go.Proofs.YtemcgfncahccgaaGreat
namespace Go.Proofs.YtemcgfncahccgaaGreat
open Go.RowKit Go.Shelf

theorem flat_new (n : Int) : flatL (newDisk n) = List.replicate (512 * n.toNat) 0 := by
 have h : ∀ k : Nat, (List.range k).flatMap (fun _ : Nat => sector0) = List.replicate (512 * k) (0 : UInt8) := by
  intro k
  induction k with
  | zero => rfl
  | succ k ih =>
   rw [List.range_succ, List.flatMap_append, ih, show 512 * (k + 1) = 512 * k + 512 by omega, ← List.replicate_append_replicate]
   rw [List.flatMap_cons, List.flatMap_nil, List.append_nil]
   rfl
 exact h n.toNat
theorem run_append_noints (w : World) {B : Nat} {v : Value} {n : Nat} {xs : List Value} (hown : w.ownsRow B 3 1 v n xs) (ty : TypeId) (a : Option Addr) (cap : Nat) :
  (Builtin.append_ #[23, 23] ty #[v, .slice a 0 cap]).run Tryz.prog w = .ok v w := by
 obtain ⟨i0, z0, T⟩ := rowG_int
 rcases hown.2 with ⟨rfl, rfl⟩ | ⟨g, cap2, cur, rfl, _, _, hnc, _⟩
 ·cases a <;> simp [Builtin.append_, run_underlying T.ht, sizeOf, typeInfo, T.hi, Builtin.lenOf, Builtin.firstCells, loadCells, loadCellsFrom]
 ·cases a <;> simp [Builtin.append_, run_underlying T.ht, sizeOf, typeInfo, T.hi, Builtin.lenOf, Builtin.firstCells, hnc, storeCells, loadCells, loadCellsFrom]
theorem wpList_append_intsA {w : World} {ops : Array Oper} {rest : List Oper} {o : Oper} {a : Act} {Q : Exit → Act → World → Prop} (hgd : o.guard = none) (hw : Region.wanted o (yielded ops a.tmps) = true) (s x : Operand)
  (ho : o.op = .call { callee := .builtin .append, args := #[s, x], argTypes := #[23, 23] })
  (base n : Nat) (v : Value) (xs : List Value) (hs : a.eval s = v) (hown : w.ownsRow base 3 1 v n xs) (B : Nat) (vx : Value) (l : List Int) (hx : a.eval x = vx) (hu : IntsIn w B vx l) (hn : n + l.length ≤ 1000000) (hbase : base ≤ w.heap.size)
  (h : ∀ v' w', w'.ownsRow base 3 1 v' (n + l.length) (xs ++ l.map (Value.int .i64)) → w.grownBy w' v.ownBlock → wpList Tryz.prog ops Q rest (a.put o.dst v') w') : wpList Tryz.prog ops Q (o :: rest) a w := by
 obtain ⟨h1, ad, cap, rfl, h3, h4⟩ := hu
 by_cases hne : l = []
 ·subst hne
  refine wpList_plain hgd fun K hK => ?_
  have hr := run_append_noints w hown o.type ad cap
  unfold Oper.wp execOp
  simp only [ho, resolve, invoke, builtin, Sem.run_bind, Sem.run_pure, Result.andThen_ok, List.map_toArray, List.map_cons, List.map_nil, hs, hx, List.length_nil, hr]
  exact hK _ _ (h v w (by simpa using hown) (World.grownBy.refl w _))
 ·exact wpList_append_ints hw s x ho base n v xs hs hown B ad l.length cap l hx rfl ⟨h1, ad, cap, rfl, h3, h4⟩ hne hn hbase h
end Go.Proofs.YtemcgfncahccgaaGreat
namespace Go.Proofs.YtemcgfncahccgaaGreat
open Go.RowKit

set_option maxRecDepth 100000 in
set_option maxHeartbeats 2000000 in
theorem rnew_no (dv : Value) (x : DiskD) (room : Int) (pv : Value) (l : List Int) (w : World) (hd : RDiskIn w w.heap.size dv x) (hx : x.ok) (hp : IntsIn w w.heap.size pv l) (hne : newE x room l ≠ 0) :
  Calls Tryz.prog 20 #[dv, .int .i64 room, pv] w fun r w' => r = .returned (.tuple #[.agg zeroC, .int .i64 (newE x room l)]) ∧ Below w.heap.size w w' := by
 obtain ⟨lv, wv, fv, rfl, h1⟩ := hd
 have HNE0 := Lib.hid hne
 clear hne
 have HD := Lib.hid h1
 have HP := Lib.hid hp
 have HONE := Lib.hid h1.one
 have hones := h1.ones
 obtain ⟨ad, pc, rfl⟩ : ∃ ad pc, pv = .slice ad l.length pc := by obtain ⟨_, a, c, e, _⟩ := hp; exact ⟨a, c, e⟩
 have HONE7 := Lib.hid (rc_one (A := undef) (s := x.steps) (room := room) hones (show (Value.slice ad l.length pc).oneCell' = true from rfl) (show (Value.slice none 0 0).oneCell' = true from rfl))
 have HSZ := Lib.hid (fun X (hX : RDisk X X.heap.size lv wv fv x) => rdsize_any x lv wv fv x.steps X hX hx)
 have HCB := Lib.hid (cache_built lv wv (.int .i64 x.steps) fv room (.slice ad l.length pc) rfl)
 obtain ⟨W, eW⟩ : ∃ W, W = (w.alloc (.cells #[lv, wv, .int .i64 x.steps, fv] 32)).alloc (.cells zeroC 61) := ⟨_, rfl⟩
 have hbW : Below w.heap.size w W := by rw [eW]; exact ((Below.refl _ w).alloc (Nat.le_refl _) _).alloc (by simp) _
 have k0 : Blk W w.heap.size 32 #[lv, wv, .int .i64 x.steps, fv] := by rw [eW]; exact (Blk.new w _ _).alloc _
 have k1 : Blk W (w.heap.size + 1) 61 zeroC := by rw [eW]; exact Blk.new2 w _ _ _
 clear h1 hp hones
 go_enter Tryz.func20, Tryz.ntmps20
 go_upto_region 1 with fail
 rw [← eW]
 clear eW
 by_cases hc : room < 1 ∨ 64 < room ∨ l.length < 1 ∨ 64 < l.length
 ·have HE := Lib.hid (show newE x room l = 2 by unfold newE; rw [if_pos hc])
  have hz : (zeroC.all (·.oneCell') : Bool) = true := by simp [Value.oneCell']
  have hs : room < 1 ∨ (¬ room < 1 ∧ 64 < room) ∨ (¬ room < 1 ∧ ¬ 64 < room ∧ (l.length : Int) < 1) ∨ (¬ room < 1 ∧ ¬ 64 < room ∧ ¬ (l.length : Int) < 1 ∧ 64 < (l.length : Int)) := by omega
  clear hc
  generalize hL : (l.length : Int) = L at *
  have hfin : ∀ tmps : Array Value, tmps.getD 6 undef = .pointer (some ⟨w.heap.size + 1, 0, none⟩) → tmps.getD 7 undef = .int .i64 2 → bodyPost Tryz.prog Tryz.f20 (fun r w' => r = .returned (.tuple #[.agg zeroC, .int .i64 (newE x room l)]) ∧ Below w.heap.size w w') Exit.ret ⟨tmps, []⟩ (W.setRow (w.heap.size + 1) zeroC) := fun tmps h6 h7 =>
   rc_end Tryz.results20 w _ _ (w.heap.size + 1) zeroC 2 61 (k1.row _) rfl h6 h7 _ ⟨by rw [HE.out], below_row hbW _ (by omega)⟩
  have HFIN := Lib.hid hfin
  clear hfin
  rcases hs with h1 | ⟨h1, h2⟩ | ⟨h1, h2, h3⟩ | ⟨h1, h2, h3, h4⟩
  all_goals
   go_wp2_with (first
    | (refine wpList_build_is rfl 61 _ rfl zeroC (by kernel_rfl) ?_)
    | (refine wpList_store_row rfl 61 _ _ rfl (w.heap.size + 1) zeroC rfl rfl 61 _ k1 (size_rcache _ _ _ _ _ _ _) rfl hz ?_))
   exact HFIN.out _ rfl rfl
 ·have g1 : ¬ room < 1 := by omega
  have g2 : ¬ 64 < room := by omega
  have g3 : ¬ (l.length : Int) < 1 := by omega
  have g4 : ¬ (64 : Int) < (l.length : Int) := by omega
  have HNE := Lib.hid (show newE x room l = if l.any (fun p => decide (p < 0) || decide (x.size ≤ p)) then 4 else 0 by unfold newE; rw [if_neg hc])
  have hz : (zeroC.all (·.oneCell') : Bool) = true := by simp [Value.oneCell']
  clear hc
  go_wp2_with fail
  go_loopw [8] (fun i wr => ∃ j : Nat, j ≤ l.length ∧ i = .int .i64 j ∧ ((l.take j).any (fun p => decide (p < 0) || decide (x.size ≤ p))) = false ∧ Blk wr w.heap.size 32 #[lv, wv, .int .i64 x.steps, fv] ∧ Blk wr (w.heap.size + 1) 61 zeroC ∧ Below w.heap.size w wr) (fun i _ => l.length - (intOf i).toNat)
  case atStart => exact ⟨0, by omega, rfl, rfl, k0, k1, hbW⟩
  case round =>
   obtain ⟨j, hj, rfl, hno, q0, q1, qB⟩ := hrel
   have HNO := Lib.hid hno
   clear hno k0 k1 hbW
   by_cases hlt : j < l.length
   ·have i2 : (j : Int) < (l.length : Int) := by omega
    obtain ⟨p, hpj⟩ : ∃ p, l[j]? = some p := ⟨_, List.getElem?_eq_getElem hlt⟩
    obtain ⟨g, off, rfl, hg, hcell⟩ := (HP.out.below qB (Nat.le_refl _)).at_ hpj
    have HPJ := Lib.hid hpj
    have hany : ∀ b : Bool, (decide (p < 0) || decide (x.size ≤ p)) = b → l.any (fun p => decide (p < 0) || decide (x.size ≤ p)) = false → b = false := fun b hb hf => by
     rw [← hb]
     exact List.any_eq_false.1 hf p (List.mem_of_getElem? hpj) |> (by simpa using ·)
    have hyes : (decide (p < 0) || decide (x.size ≤ p)) = true → newE x room l = 4 := fun hb => by
     rw [HNE.out, if_pos (List.any_eq_true.2 ⟨p, List.mem_of_getElem? hpj, hb⟩)]
    have HYES := Lib.hid hyes
    clear hpj hany hyes
    have hgw : g < wr.heap.size := by have := qB.size; omega
    go_wp2_with fail
    refine jb (fun X => Below wr.heap.size wr X) (fun _ => True) 100 (Below.refl _ _).drew trivial fun hHeld hJ => ?_
    refine jk false 0 ?_
    refine jk false 1 ?_
    refine jk false 2 ?_
    refine jk false 3 ?_ (hy := by intro X hX _; have hc := (Below.cell hX (p := ⟨g, off + j, none⟩) hgw).trans hcell; go_simp; try with_reducible rfl)
    refine jk false 4 ?_
    refine jk false 5 ?_
    by_cases hneg : p < 0
    ·have hd : decide (p < 0) = true := by simpa using hneg
     have HE := Lib.hid (HYES.out (by rw [hd]; rfl))
     simp only [hd]
     refine ju 6 ?_
     refine ju 7 ?_
     refine ju 8 ?_
     refine ju 9 ?_
     refine ju 10 ?_
     refine ju 11 ?_
     refine ju 12 ?_
     refine jk false 13 ?_
     refine wpAnyJ_done (by kernel_rfl) ?_ _
     clear hneg hd
     go_wp2_with (first
      | (refine wpList_build_is rfl 61 _ rfl zeroC (by kernel_rfl) ?_)
      | (refine wpList_store_row rfl 61 _ _ rfl (w.heap.size + 1) zeroC rfl rfl 61 _ q1.drew (size_rcache _ _ _ _ _ _ _) rfl hz ?_))
     exact rc_end Tryz.results20 w _ _ (w.heap.size + 1) zeroC 4 61 (q1.drew.row _) rfl rfl rfl _ ⟨by rw [HE.out], below_row qB.drew _ (by omega)⟩
    ·have hd : decide (p < 0) = false := by simpa using hneg
     simp only [hd]
     refine jk false 6 ?_
     refine jk false 7 ?_
     refine jk false 8 ?_
     refine jk false 9 ?_ (hy := by intro X hX _; have hc := (Below.cell hX (p := ⟨g, off + j, none⟩) hgw).trans hcell; go_simp; try with_reducible rfl)
     refine jy false 10 rfl (yieldsIf_load_mid (by rfl) 32 _ rfl w.heap.size 0 rfl [lv, wv, .int .i64 x.steps, fv] _ (fun w' h => blk_range (q0.below h.1 q0.lt)) Tryz.underlying32 rfl (size_rdisk _ _ _ _)) ?_
     refine jr 11 fun K hK => ?_
     go_simp
     refine (HSZ.out wr.drew ((HD.out.below qB (Nat.le_refl _)).mono qB.size).drew).mono ?_; rintro r w2 ⟨rfl, hb2⟩
     go_wp2_with fail
     refine hK.out _ _ ⟨hHeld.trans hb2, fun _ => trivial⟩ ?_
     clear hK K
     have hHeld2 := hHeld.trans hb2
     clear hHeld
     have hHeld := hHeld2
     refine jk false 12 ?_
     refine jk false 13 ?_
     refine wpAnyJ_done (by kernel_rfl) ?_ _
     have r0 := q0.drew.below hb2 q0.lt
     have r1 := q1.drew.below hb2 q1.lt
     have rB := qB.drew.trans (hb2.mono qB.size)
     by_cases hbig : x.size ≤ p
     ·have hd2 : decide (x.size ≤ p) = true := by simpa using hbig
      have HE := Lib.hid (HYES.out (by rw [hd2, Bool.or_true]))
      clear hd hd2
      go_wp2_with (first
       | (refine wpList_build_is rfl 61 _ rfl zeroC (by kernel_rfl) ?_)
       | (refine wpList_store_row rfl 61 _ _ rfl (w.heap.size + 1) zeroC rfl rfl 61 _ r1 (size_rcache _ _ _ _ _ _ _) rfl hz ?_))
      exact rc_end Tryz.results20 w _ _ (w.heap.size + 1) zeroC 4 61 (r1.row _) rfl rfl rfl _ ⟨by rw [HE.out], below_row rB _ (by omega)⟩
     ·have hd2 : decide (x.size ≤ p) = false := by simpa using hbig
      have HN2 := Lib.hid (show (l.take (j + 1)).any (fun p => decide (p < 0) || decide (x.size ≤ p)) = false by rw [List.take_add_one, HPJ.out, List.any_append, HNO.out]; simp [hd, hd2])
      clear hd hd2
      go_wp2_with fail
      exact ⟨⟨j + 1, by omega, by go_num, HN2.out, r0, r1, rB⟩, by simp [intOf]; omega⟩
   ·obtain rfl : j = l.length := by omega
    have hf := HNO.out
    rw [List.take_length] at hf
    have HE := Lib.hid (show newE x room l = 0 by rw [HNE.out, hf]; rfl)
    exact absurd HE.out HNE0.out
end Go.Proofs.YtemcgfncahccgaaGreat
namespace Go.Proofs.YtemcgfncahccgaaGreat
open Go.RowKit Go.Shelf

theorem newE_zero {x : DiskD} {room : Int} {l : List Int} (h : newE x room l = 0) : (1 ≤ room ∧ room ≤ 64) ∧ 1 ≤ l.length ∧ l.length ≤ 64 := by
 unfold newE at h
 by_cases hc : room < 1 ∨ 64 < room ∨ l.length < 1 ∨ 64 < l.length
 ·rw [if_pos hc] at h; cases h
 ·omega
theorem ints_own_lt {W : World} {B : Nat} {v : Value} {l : List Int} (h : IntsIn W B v l) (hn : 0 < l.length) {g : Nat} (hg : v.ownBlock = some g) : g < B := by
 obtain ⟨y, hy⟩ : ∃ y, l[0]? = some y := ⟨_, List.getElem?_eq_getElem hn⟩
 obtain ⟨_, a, c, rfl, _, hc⟩ := h
 obtain ⟨g', o', rfl, hg', _⟩ := hc 0 y hy
 have e : g' = g := Option.some.inj hg
 omega
theorem rnew_all (dv : Value) (x : DiskD) (room : Int) (pv : Value) (l : List Int) (w : World) (hd : RDiskIn w w.heap.size dv x) (hx : x.ok) (hp : IntsIn w w.heap.size pv l) :
  Calls Tryz.prog 20 #[dv, .int .i64 room, pv] w fun r w' => ∃ CV : Array Value, r = .returned (.tuple #[.agg CV, .int .i64 (newE x room l)]) ∧ (CV.size = 7 ∧ CV.all (·.oneCell') = true) ∧ (newE x room l = 0 → RCacheIn w' w'.heap.size (.agg CV) (newC x room l) ∧ ∀ g, g ∈ footV (.agg CV) → g ∈ footV dv ∨ pv.ownBlock = some g) ∧ Below w.heap.size w w' := by
 by_cases h0 : newE x room l = 0
 ·refine (rnew_any dv x room pv l w hd hx hp).mono ?_
  rintro r w' ⟨cv, h1, h2, h3⟩
  obtain ⟨CV, rfl, s7, one7, _⟩ := (h2 h0).1.agg
  exact ⟨CV, h1, ⟨s7, one7⟩, h2, h3⟩
 ·refine (rnew_no dv x room pv l w hd hx hp h0).mono ?_
  rintro r w' ⟨h1, h3⟩
  exact ⟨zeroC, h1, ⟨rfl, by simp [Value.oneCell']⟩, fun h => absurd h h0, h3⟩
set_option maxRecDepth 100000 in
set_option maxHeartbeats 8000000 in
theorem makes17_any (n room : Int) (vp : Value) (l : List Int) (w : World) (hp : IntsIn w w.heap.size vp l) :
  Calls Tryz.prog 4 #[.int .i64 n, .int .i64 room, vp] w fun e w' => e = .returned (.bool true) ∧ Below w.heap.size w w' := by
 have HP := Lib.hid hp
 obtain ⟨-, ap, cp, evp, -, -⟩ := hp
 have HVP := Lib.hid evp
 go_enter Tryz.func4, Tryz.ntmps4
 by_cases hbad : n < 1 ∨ 20 < n ∨ 100 < l.length
 ·subst evp
  have hs : n < 1 ∨ (¬ n < 1 ∧ 20 < n) ∨ (¬ n < 1 ∧ ¬ 20 < n ∧ 100 < (l.length : Int)) := by omega
  clear hbad
  rcases hs with hs | ⟨h1, hs⟩ | ⟨h1, h2, hs⟩ <;>
  ·go_wp2_with fail
   refine (works17_any _).mono ?_; rintro e w2 ⟨rfl, hb2⟩
   go_wp2_with fail
   go_ret
   exact ⟨rfl, hb2⟩
 ·have h1 : ¬ n < 1 := by omega
  have h2 : ¬ 20 < n := by omega
  have h3 : ¬ 100 < (l.length : Int) := by omega
  have hlen : l.length ≤ 100 := by omega
  clear hbad
  have HND := Lib.hid (dnew_yes n w (by omega) (by omega))
  subst evp
  go_upto_region 3 with fail
  have HNN := Lib.hid (show 1 ≤ n ∧ n ≤ 20 by omega)
  have hx : (newDisk n).ok := newDisk_ok n (by omega) (by omega)
  clear h1 h2 h3
  obtain ⟨vp, evp⟩ : ∃ v, v = Value.slice ap l.length cp := ⟨_, rfl⟩
  rw [← evp] at HP ⊢
  clear evp HVP
  go_upto_region 4 with fail
  refine HND.out.mono ?_; rintro e w1 ⟨rfl, hd1, hb1⟩
  obtain ⟨D, eD⟩ : ∃ D, D = newAt w.heap.size := ⟨_, rfl⟩
  rw [← eD] at hd1 ⊢
  have HDge := Lib.hid (show ∀ i, D.has i → w.heap.size ≤ i from fun i hi => by
   rw [eD] at hi
   unfold DiskP.has newAt at hi
   rcases hi with h | h | h | h
   ·have h9 : i = w.heap.size + 1 := h
    omega
   ·have h9 : i = w.heap.size := h
    omega
   ·cases h
   ·cases h)
  have hd2 := hd1.below ((Below.refl _ w1).alloc (Nat.le_refl _) (.cells #[] 3))
  have HD1 := Lib.hid hd1
  have HLT2 := Lib.hid (fun i hi => hd1.has_lt i hi)
  have hb2 : Below w.heap.size w (w1.alloc (.cells #[] 3)) := hb1.alloc hb1.size _
  have HB2 := Lib.hid hb2
  have ow2 : (w1.alloc (.cells #[] 3)).ownsRow w1.heap.size 3 1 (.slice (some ⟨w1.heap.size, 0, none⟩) 0 0) 0 [] := ⟨rfl, .inr ⟨_, 0, #[], rfl, Nat.le_refl _, heap_alloc_new w1 _, Nat.le_refl _, by simp, rfl, rfl⟩⟩
  have HX := Lib.hid hx
  have HW1 := Lib.hid hb1
  clear hd1 hd2 HND eD hx hb1
  go_wp2_with (at_builtin; refine wpList_append_intsA rfl rfl _ _ rfl w1.heap.size 0 _ [] rfl ow2 w.heap.size vp l rfl (HP.out.below hb2 (Nat.le_refl _)) (by omega) (by simp) ?_; intro v3 w3 hO3 hg3; rw [Nat.zero_add, List.nil_append] at hO3)
  have hb3 : Below w1.heap.size w1 w3 := ((Below.refl _ w1).alloc (Nat.le_refl _) _).grown hg3 (by simp) (fun r hr => by cases hr; exact Nat.le_refl _)
  have hd3 := HD1.out.below hb3
  have hi3 := ints_own (K := w3.heap.size) hO3 (fun g hg => ownBlock_lt hO3 hg)
  have HB3 := Lib.hid (HW1.out.trans (hb3.mono HW1.out.size))
  have HO3 := Lib.hid hO3
  have HD3 := Lib.hid hd3
  clear hg3 ow2 hb2
  refine (newc_all D (newDisk n) room v3 l w3 hd3 HX.out hi3).mono ?_; rintro e w4 ⟨hb4, hc⟩
  have HI3 := Lib.hid hi3
  have HB4 := Lib.hid (HB3.out.trans (hb4.mono HB3.out.size))
  have HD4 := Lib.hid (HD3.out.below hb4)
  have HI4 := Lib.hid ((hi3.below hb4 (Nat.le_refl _)))
  have hs34 := hb4.size
  have HB34 := Lib.hid hb4
  clear hO3 hd3 hi3 hb3 hb4
  obtain ⟨E, eE⟩ : ∃ E, E = newE (newDisk n) room l := ⟨_, rfl⟩
  rw [← eE] at hc
  obtain ⟨cpv, ecp, hcc⟩ : ∃ cpv, e = .returned (.tuple #[cpv, .int .i64 E]) ∧ ((E = 0 ∧ ∃ C : CacheP, cpv = ptr C.g ∧ C.dp = D.p ∧ CacheRaw w4 C room l (fun _ => none) [] ∧ ∀ i, C.has i → w3.heap.size ≤ i) ∨ (E ≠ 0 ∧ cpv = .pointer none)) := by
   rcases hc with ⟨h0, C, h1, h2, h3, h4⟩ | ⟨h0, h1⟩
   ·exact ⟨_, by rw [h1, h0], .inl ⟨h0, C, rfl, h2, h3, h4⟩⟩
   ·exact ⟨_, h1, .inr ⟨h0, rfl⟩⟩
  subst ecp
  have HCC := Lib.hid hcc
  have HEE := Lib.hid eE
  clear hc hcc eE
  obtain ⟨k, ek⟩ : ∃ k : Nat, k = 512 * n.toNat := ⟨_, rfl⟩
  have hk : (k : Int) = 512 * n ∧ k ≤ 10240 := by have := HNN.out; omega
  have hmul : IntKind.i64.wrap (512 * n) = (k : Int) := by rw [IntKind.wrap_i64]; omega
  have hmk : ∀ W : World, (Instr.makeSlice 29 (.int .i64 (k : Int)) (.int .i64 (k : Int))).run Tryz.prog W = .ok (.slice (some ⟨W.heap.size, 0, none⟩) k k) (W.alloc (.cells (Array.replicate k (vu8 0)) 5)) := fun W => by
   have h := run_make_row' (P := Tryz.prog) 29 5 (.int .u8 0) 1 Tryz.underlying29 (by kernel_rfl) rfl .i64 .i64 k (by omega) (by omega) W
   rwa [made_nought] at h
  obtain ⟨w5, e5⟩ : ∃ w5, w5 = w4.alloc (.cells (Array.replicate k (vu8 0)) 5) := ⟨_, rfl⟩
  have hb5 : Below w4.heap.size w4 w5 := by rw [e5]; exact (Below.refl _ _).alloc (Nat.le_refl _) _
  have k5 : Blk w5 w4.heap.size 5 (Array.replicate k (vu8 0)) := by rw [e5]; exact Blk.new _ _ _
  have HRD := Lib.hid (show RDiskIn w5 w5.heap.size (.agg #[.slice (some ⟨w4.heap.size, 0, none⟩) k k, .slice none 0 0, .int .i64 0, .slice none 0 0]) (newDisk n) from by
   refine ⟨_, _, _, rfl, ⟨?_, ?_, ?_⟩⟩
   ·rw [flat_new, ← ek]
    have h9 := own_bytes (B := 0) (n := k) (g := w4.heap.size) (l := List.replicate k (0 : UInt8)) k5 (Nat.zero_le _) (by simp) (by simp) (by unfold maxLen; omega)
    exact BytesIn.own h9
   ·exact ⟨Nat.zero_le _, (fun _ h => by cases h), none, 0, rfl, fun i y h => by cases h⟩
   ·exact ⟨Nat.zero_le _, none, 0, rfl, Nat.le_refl _, fun i y h => by cases h⟩)
  have HRN := Lib.hid (rnew_all _ (newDisk n) room vp l w5 HRD.out HX.out ((HP.out.below (HB4.out.trans (hb5.mono HB4.out.size)) (Nat.le_refl _)).mono (by have := HB4.out.size; have := hb5.size; omega)))
  rw [← HEE.out] at HRN
  have HB5 := Lib.hid hb5
  have HK5 := Lib.hid k5
  have HKK := Lib.hid hk
  clear hb5 k5 hk ek
  go_upto_region 7 with (first
   | (refine wpList_build_is rfl 32 _ rfl #[.slice (some ⟨w4.heap.size, 0, none⟩) k k, .slice none 0 0, .int .i64 0, .slice none 0 0] (by kernel_rfl) ?_)
   | fail)
  rw [← e5]
  clear e5
  refine HRN.out.mono ?_; rintro e w6 ⟨CV, rfl, ⟨s7, one7⟩, hcv, hb6⟩
  have HI7 := Lib.hid (info_cache s7)
  have HZ7 := Lib.hid (show zeroC.size = CV.size from s7.symm)
  have HON := Lib.hid one7
  have HCV := Lib.hid hcv
  have hzc := Blk.new w6 61 zeroC
  have HB6 := Lib.hid hb6
  clear hcv hb6 hmul hmk
  go_upto_region 7 with (refine wpList_store_row rfl 61 _ _ rfl w6.heap.size CV rfl rfl 61 _ hzc HI7.out HZ7.out HON.out ?_; rw [World.setRow_alloc_new])
  obtain ⟨w7, e7⟩ : ∃ w7, w7 = w6.alloc (.cells CV 61) := ⟨_, rfl⟩
  have hb7 : Below w6.heap.size w6 w7 := by rw [e7]; exact (Below.refl _ _).alloc (Nat.le_refl _) _
  have k12 : Blk w7 w6.heap.size 61 CV := by rw [e7]; exact Blk.new _ _ _
  rw [← e7]
  have HB7 := Lib.hid hb7
  clear e7 hzc hb7
  go_wp2_with fail
  refine (newc_nil room vp w7).mono ?_; rintro e w8 ⟨rfl, hb8⟩
  have l12 := k12.below hb8 k12.lt
  have HB8 := Lib.hid hb8
  clear hb8 k12
  go_wp2_with fail
  refine (gett_nil 0 w8).mono ?_; rintro e w9 ⟨rfl, hb9⟩
  have m12 := l12.below hb9 l12.lt
  have HB9 := Lib.hid hb9
  clear hb9 l12
  have hzo := Blk.new w9 47 Tryz.zeroCells47
  rw [zeroObj] at hzo
  obtain ⟨oc, eoc⟩ : ∃ oc, oc = objZ.cells.toArray := ⟨_, rfl⟩
  have HOI := Lib.hid (obj_info objZ objZ_ok)
  have HO1 := Lib.hid (obj_ones objZ)
  have HOS := Lib.hid (show objZ.cells.toArray.size = oc.size by rw [eoc])
  rw [← eoc] at HOI HO1 ⊢
  have HOC := Lib.hid eoc
  clear eoc
  go_upto_region 10 with (refine wpList_store_row rfl 47 _ _ rfl w9.heap.size oc rfl rfl 47 _ hzo HOI.out HOS.out HO1.out ?_; rw [World.setRow_alloc_new])
  obtain ⟨w10, e10⟩ : ∃ v, v = w9.alloc (.cells oc 47) := ⟨_, rfl⟩
  have hb10 : Below w9.heap.size w9 w10 := by rw [e10]; exact (Below.refl _ _).alloc (Nat.le_refl _) _
  rw [← e10]
  have n12 := m12.below hb10 m12.lt
  have HB10 := Lib.hid hb10
  clear e10 hzo hb10 m12
  go_wp2_with fail
  refine (place_nil 0 w10).mono ?_; rintro e w11 ⟨rfl, rfl⟩
  go_wp2_with fail
  refine (evict_nil 0 w11).mono ?_; rintro e w12 ⟨rfl, hb12⟩
  have p12 := n12.below hb12 n12.lt
  have HB12 := Lib.hid hb12
  clear hb12 n12
  have HS12 := Lib.hid (show Below w4.heap.size w4 w12 from by
   have q5 := HB5.out
   have q6 := q5.trans (HB6.out.mono q5.size)
   have q7 := q6.trans (HB7.out.mono q6.size)
   have q8 := q7.trans (HB8.out.mono q7.size)
   have q9 := q8.trans (HB9.out.mono q8.size)
   have q10 := q9.trans (HB10.out.mono q9.size)
   exact q10.trans (HB12.out.mono q10.size))
  have HI12 := Lib.hid ((HI4.out.below HS12.out hs34).mono (show w3.heap.size ≤ w12.heap.size by have := HS12.out.size; omega))
  have HBn := Lib.hid (HB4.out.trans (HS12.out.mono HB4.out.size))
  have HP12 := Lib.hid ((HP.out.below HBn.out (Nat.le_refl _)).mono HBn.out.size)
  go_wp2_with fail
  refine (num17_any _ _).mono ?_; rintro e wn ⟨rfl, rfl⟩
  go_wp2_with fail
  refine (num17_any _ _).mono ?_; rintro e wn ⟨rfl, rfl⟩
  go_wp2_with fail
  refine (ints_same l v3 vp _ HI12.out HP12.out).mono ?_; rintro e w13 ⟨rfl, hb13⟩
  have HB13 := Lib.hid hb13
  have r12 := p12.below hb13 p12.lt
  clear hb13 p12
  go_wp2_with fail
  refine (num17_any _ _).mono ?_; rintro e wn ⟨rfl, rfl⟩
  go_wp2_with fail
  refine (num17_any _ _).mono ?_; rintro e wn ⟨rfl, rfl⟩
  go_wp2_with fail
  refine (num17_any _ _).mono ?_; rintro e wn ⟨rfl, rfl⟩
  go_wp2_with fail
  refine (put_nil 0 _ _).mono ?_; rintro e w14 ⟨rfl, hb14⟩
  have HB14 := Lib.hid hb14
  have s12 := r12.below hb14 r12.lt
  clear hb14 r12
  go_wp2_with fail
  refine (num17_any _ _).mono ?_; rintro e wn ⟨rfl, rfl⟩
  go_wp2_with fail
  refine (settle_nil 0 0 _).mono ?_; rintro e wn ⟨rfl, rfl⟩
  go_wp2_with fail
  refine (num17_any _ _).mono ?_; rintro e wn ⟨rfl, rfl⟩
  go_wp2_with fail
  refine (move_nil 0 0 _).mono ?_; rintro e wn ⟨rfl, rfl⟩
  go_wp2_with fail
  refine (num17_any _ _).mono ?_; rintro e wn ⟨rfl, rfl⟩
  go_wp2_with fail
  refine (changed_nil _).mono ?_; rintro e w15 ⟨rfl, hb15⟩
  have HB15 := Lib.hid hb15
  have t12 := s12.below hb15 s12.lt
  clear hb15 s12
  go_wp2_with fail
  refine (hand_nil _).mono ?_; rintro e wn ⟨rfl, rfl⟩
  go_wp2_with fail
  refine (copyc_nil _ _).mono ?_; rintro e wn ⟨rfl, rfl⟩
  have HBW := Lib.hid (show Below w.heap.size w wn from by
   have q1 := HBn.out
   have q2 := q1.trans (HB13.out.mono q1.size)
   have q3 := q2.trans (HB14.out.mono q2.size)
   exact q3.trans (HB15.out.mono q3.size))
  rcases HCC.out with ⟨h0, C, hcp, hdp, hraw, hge⟩ | ⟨h0, hcp⟩
  ·have HRW := Lib.hid (And.intro hdp (And.intro hraw hge))
   clear hdp hraw hge HCC
   subst hcp
   subst h0
   go_upto_region 16 with fail
   have HN0 := Lib.hid (newE_zero HEE.out.symm)
   obtain ⟨g, cap3, rfl, -, -⟩ := World.ownsRow.form HO3.out (by have := HN0.out; omega)
   have hg3 : g < w3.heap.size := ownBlock_lt HO3.out rfl
   have hg1 := (World.ownsRow.lt HO3.out g rfl).1
   have hb4n : Below w4.heap.size w4 wn := by
    have q3 := HS12.out
    have q4 := q3.trans (HB13.out.mono q3.size)
    have q5 := q4.trans (HB14.out.mono q4.size)
    exact q5.trans (HB15.out.mono q5.size)
   have hb3n : Below w3.heap.size w3 wn := HB34.out.trans (hb4n.mono HB34.out.size)
   have hs45 := HK5.out.lt
   have hs56 := HB6.out.size
   have hs01 := HW1.out.size
   have hs34' := HB34.out.size
   obtain ⟨hrc, hft⟩ := HCV.out trivial
   have hbo : Both wn D C (.agg CV) (newC (newDisk n) room l) := by
    obtain ⟨hdp, hraw, hge⟩ := HRW.out
    have hr6 : Below w6.heap.size w6 wn := by
     have q7 := HB7.out
     have q8 := q7.trans (HB8.out.mono q7.size)
     have q9 := q8.trans (HB9.out.mono q8.size)
     have q10 := q9.trans (HB10.out.mono q9.size)
     have q12 := q10.trans (HB12.out.mono q10.size)
     have q13 := q12.trans (HB13.out.mono q12.size)
     have q14 := q13.trans (HB14.out.mono q13.size)
     exact q14.trans (HB15.out.mono q14.size)
    refine ⟨HD4.out.below hb4n, hraw.below hb4n, hdp, hrc.up hr6, fun i hi hc => ?_, fun i hi => ?_⟩
    ·have := HLT2.out i hi; have := hge i hc; have := hb3n.size; omega
    ·have hn4 := hb4n.size
     rcases hft i hi with h | h
     ·obtain rfl : i = w4.heap.size := by
       rcases foot4 h with h | h | h
       ·exact (Option.some.inj h).symm
       ·cases h
       ·cases h
      exact ⟨by have := hr6.size; omega, fun hc => by have := hraw.has_lt _ (.inl hc); omega, fun hd => by have := HD4.out.has_lt _ hd; omega⟩
     ·have hlt := ints_own_lt HP.out (by have := HN0.out; omega) h
      exact ⟨by omega, fun hc => by have := hge i (.inl hc); omega, fun hd => by have := HDge.out i hd; omega⟩
   have HBO := Lib.hid hbo
   have HOK := Lib.hid (show COk (newC (newDisk n) room l) 0 from ⟨⟨List.nodup_nil, fun m hm => by cases hm⟩, by show (0 : Int) ≤ room; have := HN0.out; omega, HN0.out.2.2, HX.out, by show (0 : Int) ≤ 0; omega, rfl⟩)
   have hng : ¬ D.has g ∧ ¬ C.has g ∧ ¬ g ∈ footV (.agg CV) ∧ w6.heap.size ≠ g := by
    obtain ⟨hdp, hraw, hge⟩ := HRW.out
    refine ⟨fun h => by have := HLT2.out g h; omega, fun h => by have := hge g h; omega, fun h => ?_, by omega⟩
    rcases hft g h with h | h
    ·have e : g = w4.heap.size := by
      rcases foot4 h with h | h | h
      ·exact (Option.some.inj h).symm
      ·cases h
      ·cases h
     have := HB34.out.size
     omega
    ·have := ints_own_lt HP.out (by have := HN0.out; omega) h
     omega
   have HNG := Lib.hid hng
   have HO3n := Lib.hid (ownsRow_out (F := fun _ => False) (outB hb3n) HO3.out (fun _ _ h => h))
   clear hbo hng hrc hft hg3 hg1 hb4n hb3n hs45 hs56 hs01 hs34'
   obtain ⟨Z0, eZ0⟩ : ∃ Z0, Z0 = wn := ⟨_, rfl⟩
   have HS2 := Lib.hid (show (∃ l2 : List Int, l2.length = l.length ∧ wn.ownsRow w1.heap.size 3 1 (.slice (some ⟨g, 0, none⟩) l.length cap3) l.length (l2.map (.int .i64))) ∧ Out (fun i => i = g) Z0 wn from ⟨⟨l, rfl, HO3n.out⟩, by rw [eZ0]; exact Out.refl _ _⟩)
   rw [← eZ0] at HBO HBW t12
   clear eZ0
   go_upto_region 17 with fail
   go_loopw [23] (fun i wr => ∃ j : Nat, j ≤ l.length ∧ i = .int .i64 j ∧ Hid ((∃ l2 : List Int, l2.length = l.length ∧ wr.ownsRow w1.heap.size 3 1 (.slice (some ⟨g, 0, none⟩) l.length cap3) l.length (l2.map (.int .i64))) ∧ Out (fun i => i = g) Z0 wr)) (fun i _ => l.length - (intOf i).toNat)
   case atStart => exact ⟨0, by omega, rfl, HS2⟩
   case round =>
    obtain ⟨j, hj, rfl, HR⟩ := hrel
    by_cases hlt : j < l.length
    ·obtain ⟨⟨l2, hl2, hrow⟩, hout⟩ := HR.out
     have i2 : (j : Int) < (l.length : Int) := by omega
     obtain ⟨y, hy⟩ : ∃ y, l2[j]? = some y := ⟨_, List.getElem?_eq_getElem (by omega)⟩
     have ck : wr.cell? ⟨g, j, none⟩ = some (.int .i64 y) := by rw [World.ownsRow.cellAt hrow j (by omega), List.getElem?_map, hy]; rfl
     have fk : wr.frozen? ⟨g, j, none⟩ = false := by
      rcases hrow.2 with ⟨e, _⟩ | ⟨g', cap', cur, e, hB, hg, _⟩
      ·cases e
      ·cases e
       exact (show Blk wr _ _ cur from hg).frozen j
     have HR2 := Lib.hid (fun u : Int => (show (∃ l2 : List Int, l2.length = l.length ∧ (wr.setCell ⟨g, j, none⟩ (.int .i64 u)).ownsRow w1.heap.size 3 1 (.slice (some ⟨g, 0, none⟩) l.length cap3) l.length (l2.map (.int .i64))) ∧ Out (fun i => i = g) Z0 (wr.setCell ⟨g, j, none⟩ (.int .i64 u)) from
      ⟨⟨l2.set j u, by rw [List.length_set]; exact hl2, by rw [List.map_set]; exact ownsRow_put hrow j hlt _⟩, hout.trans (out_set (F := fun i => i = g) rfl) (fun _ _ h => h)⟩))
     clear hrow hout hl2 hy HR HS2 HO3n
     go_wp2_with fail
     exact ⟨⟨j + 1, by omega, by go_num, Lib.hid (HR2.out _)⟩, by simp [intOf]; omega⟩
    ·obtain rfl : j = l.length := by omega
     have i2 : ¬ (l.length : Int) < (l.length : Int) := by omega
     have hout := HR.out.2
     have hgw := (World.ownsRow.lt HO3n.out g rfl).1
     have hw1 := HW1.out.size
     have HBZ := Lib.hid (HBW.out.trans (hout.below HBW.out.size (fun i hi h => by omega)))
     have hbz := HBO.out.out hout (fun i hi => by subst hi; exact ⟨HNG.out.1, HNG.out.2.1, HNG.out.2.2.1⟩)
     have tk := hout.blk t12 HNG.out.2.2.2
     have HPL := Lib.hid (place_any C room l (oidsOf []) (itemOf []) (l.length : Int) wr hbz.cache (by omega))
     rw [show thereE l (l.length : Int) = 4 by unfold thereE; rw [if_neg (by omega)]] at HPL
     have HBT := Lib.hid hbz
     obtain ⟨-, ap2, cp2, rfl, -, -⟩ := HP.out
     clear hbz hout hgw hw1 HR HS2 HO3n HBO t12
     go_wp2_with fail
     refine HPL.out.mono ?_; rintro e wq ⟨rfl, rfl⟩
     go_wp2_with (refine wpList_load_row rfl 61 _ rfl w6.heap.size rfl 61 CV (0, 0) _ tk Tryz.underlying61 rfl HI7.out ?_)
     refine (stands_any HBT.out HOK.out).mono ?_; rintro e w16 ⟨rfl, hb16⟩
     have HB16 := Lib.hid hb16
     have HBT2 := Lib.hid (HBT.out.below hb16)
     clear hb16 tk
     go_wp2_with fail
     refine (num17_any _ _).mono ?_; rintro e wq ⟨rfl, rfl⟩
     go_wp2_with fail
     refine (copyc_none HBT2.out.cache).mono ?_; rintro e wq ⟨rfl, rfl⟩
     go_wp2_with fail
     refine (works17_any _).mono ?_; rintro e wz ⟨rfl, hbz⟩
     go_wp2_with fail
     go_ret
     have q1 := HBZ.out.trans (HB16.out.mono HBZ.out.size)
     exact ⟨rfl, q1.trans (hbz.mono q1.size)⟩
  ·clear HCC
   subst hcp
   have hE : (E != 0) = true := by simpa using h0
   go_wp2_with fail
   refine (works17_any _).mono ?_; rintro e wz ⟨rfl, hbz⟩
   go_wp2_with fail
   go_ret
   exact ⟨rfl, HBW.out.trans (hbz.mono HBW.out.size)⟩
end Go.Proofs.YtemcgfncahccgaaGreat
namespace Go.Proofs.YtemcgfncahccgaaGreat
open Go.ChangeShapes Go.WideShapes Go.ChangeAt Go.RowKit Go.Deep

set_option maxRecDepth 100000 in
theorem cacheMakes_lifted (os : Os) (started : os.Started) (H : Type) (enc : TypeId × Value → H) :
  ReturnsInHanded {} Tryz.checked os 4 .any (Rows.cacheMakesSpec.pre6 enc Tryz.prog Tryz.f4 Rows.cacheMakesRow.domain false) (Rows.cacheMakesSpec.post enc Tryz.prog Tryz.f4 false true false false) := by
 refine returnsInHanded_of_change (C := Tryz.checked) own started (by kernel_rfl) Tryz.func4
  (ChangeSpec.witness6 (enc := enc) (C := Tryz.checked) false ⟨#[], #[.int .i64 0, .int .i64 0, .slice none 0 0], []⟩ 8 (by kernel_rfl) (by kernel_rfl) (by kernel_rfl) (by kernel_rfl)) ?_
 intro W base args ds gs before hval0 hW hcnd _
 have hval : ∀ (j : Nat) t v, Tryz.f4.params[j]? = some t → args[j]? = some v → Value.okWide Tryz.prog W .any base t v := hval0
 have hW' := hW
 obtain ⟨p, q, hA0, hV, rfl, hfz, hnd⟩ := hW
 have hA : DataW.TrodAll enc Tryz.prog W 0 (fun _ => true) true Tryz.f4.params.toList args.toList ds p := hA0
 rw [Tryz.params4] at hA hval
 obtain ⟨v0, vs0, d0, ds0, p0, q0, hargs, rfl, rfl, h0, hA1⟩ := trodAll_cons hA
 obtain ⟨v1, vs1, d1, ds1, p1, q1, rfl, rfl, rfl, h1, hA2⟩ := trodAll_cons hA1
 obtain ⟨v2, vs2, d2, ds2, p2, q2, rfl, rfl, rfl, h2, hA3⟩ := trodAll_cons hA2
 obtain ⟨rfl, rfl, rfl⟩ : vs2 = [] ∧ ds2 = [] ∧ q2 = [] := by
  cases vs2 <;> cases ds2 <;> simp [DataW.TrodAll] at hA3
  exact ⟨rfl, rfl, hA3⟩
 obtain rfl : args = #[v0, v1, v2] := Array.ext' hargs
 obtain ⟨rfl, rfl⟩ := trodVars_none hV
 obtain ⟨n, rfl, _⟩ := open_intI (hval 0 _ v0 rfl rfl) h0
 obtain ⟨room, rfl, _⟩ := open_intI (hval 1 _ v1 rfl rfl) h1
 obtain ⟨l, hl, _⟩ := open_ints (hval 2 _ v2 rfl rfl) h2
 clear hA0 hval0
 refine (makes17_any n room v2 l W hl).mono fun e W' ⟨he, hb⟩ => ?_
 subst he
 exact ⟨_, rfl, law_post laidOut (by rw [Tryz.params4]; intro t ht; simp at ht; rcases ht with rfl | rfl | rfl <;> exact ⟨by kernel_rfl, of_decide_eq_true (by kernel_rfl)⟩) rfl Tryz.underlying4 rfl hW' rfl hb⟩

theorem cacheMakes_holds : Rows.CacheMakesSaid :=
 OpenClaim.holds_of_wide 4 Tryz.f4 rfl rfl rfl rfl rfl rfl rfl ⟨rfl, rfl, rfl, rfl, rfl⟩ rfl rfl rfl rfl rfl (by kernel_rfl) Tryz.func4 (by kernel_rfl)
  (of_decide_eq_true (by kernel_rfl)) (by unfold Func.isWrapper; first | (rw [if_pos (by decide +kernel)]; kernel_rfl) | (rw [if_neg (by decide +kernel)]; exact ⟨rfl, rfl⟩))
  (fun os started H enc _ => cacheMakes_lifted os started H enc)

end Go.Proofs.YtemcgfncahccgaaGreat
