/-
  The sums of half bytes: sums.table.
  The iterator over half bytes: sums.halves.
  A region within a round of a range over a function, at the wide fence: walked as everywhere. For all regions without a defer.
  The contracts of sums.Update and sums.Crc, for all bytes.
  Words for maps with integer keys that are known whole: stores of new keys, look-ups; for all worlds.
-/
import Derived.RangeFuncNested
import Derived.RangeFuncBound
import Derived.RangeFuncCalls
import Derived.RangeFuncLeaves
import Derived.RangeFuncFrom
import Derived.RangeFuncBox
import Derived.Shelf.Abstract
import Derived.Shelf.RegionOpen
import Derived.WalkKit
import Derived.OwnWalkIn
import Derived.TacticsInMore
import Derived.LoopNIn
import Derived.LoopIn
import Derived.OrdersIn
import Derived.ControlIn
import Derived.Deep.RegionHeld3
import Derived.TacticsIn
import Derived.Test.YtdpniceapmikpaaGreatWh1
set_option linter.unusedVariables false
set_option linter.unusedSimpArgs false
namespace Go.Proofs.YtdpniceapmikpaaGreat
open Go.RowKit

def tabAt (i : Nat) : BitVec 32 := crcBits 4 (BitVec.ofNat 32 i)
def tabV (k : Nat) : Array Value := (Array.range 16).map fun i => vu32 (if i < k then tabAt i else 0#32)

theorem tabV_size (k : Nat) : (tabV k).size = 16 := by simp [tabV]
theorem tabV_at (k i : Nat) (h : i < 16) : (tabV k)[i]? = some (vu32 (if i < k then tabAt i else 0#32)) := by
 simp [tabV, h]
theorem tabV_zero : tabV 0 = #[.int .u32 0, .int .u32 0, .int .u32 0, .int .u32 0, .int .u32 0, .int .u32 0, .int .u32 0, .int .u32 0, .int .u32 0, .int .u32 0, .int .u32 0, .int .u32 0, .int .u32 0, .int .u32 0, .int .u32 0, .int .u32 0] := by
 apply Array.ext_getElem?
 intro i
 by_cases hi : i < 16
 ·rw [tabV_at _ _ hi, if_neg (by omega)]
  have : i = 0 ∨ i = 1 ∨ i = 2 ∨ i = 3 ∨ i = 4 ∨ i = 5 ∨ i = 6 ∨ i = 7 ∨ i = 8 ∨ i = 9 ∨ i = 10 ∨ i = 11 ∨ i = 12 ∨ i = 13 ∨ i = 14 ∨ i = 15 := by omega
  rcases this with rfl | rfl | rfl | rfl | rfl | rfl | rfl | rfl | rfl | rfl | rfl | rfl | rfl | rfl | rfl | rfl <;> rfl
 ·rw [Array.getElem?_eq_none (by rw [tabV_size]; omega), Array.getElem?_eq_none (by simp; omega)]
theorem tabV_set (k : Nat) (h : k < 16) : (tabV k).setIfInBounds k (vu32 (tabAt k)) = tabV (k + 1) := by
 apply Array.ext_getElem?
 intro i
 rw [Array.getElem?_setIfInBounds]
 by_cases hi : i < 16
 ·rw [tabV_at _ _ hi, tabV_at _ _ hi]
  by_cases hik : k = i
  ·subst hik; simp [tabV_size, hi]
  ·rw [if_neg hik]
   by_cases h1 : i < k
   ·rw [if_pos h1, if_pos (by omega)]
   ·rw [if_neg h1, if_neg (by omega)]
 ·rw [Array.getElem?_eq_none (by rw [tabV_size]; omega), Array.getElem?_eq_none (by rw [tabV_size]; omega), if_neg (by omega)]
theorem tabV_one (k : Nat) : (tabV k).all (·.oneCell') = true := by
 rw [Array.all_eq_true]
 intro i hi
 have h := tabV_at k i (by rw [tabV_size] at hi; exact hi)
 rw [Array.getElem?_eq_getElem hi] at h
 rw [Option.some.inj h]; rfl
theorem info_tab16 : (Tryz.prog.info? 242).map (·.size) = some 16 := by kernel_rfl
theorem info_tab (k : Nat) : (Tryz.prog.info? 242).map (·.size) = some (tabV k).size := info_tab16.trans (congrArg some (tabV_size k).symm)

set_option maxHeartbeats 1000000 in
theorem table_any (w : World) : Calls Tryz.prog 138 #[] w fun e w' => e = .returned (.agg (tabV 16)) ∧ Below w.heap.size w w' := by
 go_enter Tryz.func138, Tryz.ntmps138
 go_wp2_with fail
 rw [← tabV_zero]
 go_loopw [4] (fun i wr => ∃ k : Nat, k ≤ 16 ∧ i = .int .i64 k ∧ Blk wr w.heap.size 242 (tabV 0) ∧ Blk wr (w.heap.size + 1) 242 (tabV k) ∧ Below w.heap.size w wr) (fun i _ => 16 - (intOf i).toNat)
 case atStart => exact ⟨0, by omega, rfl, (Blk.new w _ _).alloc _, Blk.new2 w _ _ _, ((Below.refl _ _).alloc (Nat.le_refl _) _).alloc (by simp) _⟩
 case round =>
  obtain ⟨k, hk, rfl, hA, hT, hB⟩ := hrel
  by_cases hlt : k < 16
  ·go_wp2_with fail
   go_loop [3, 9] (fun n j => ∃ q : Nat, q ≤ 4 ∧ j = .int .i64 q ∧ n = vu32 (crcBits q (BitVec.ofNat 32 k))) (fun _ j => 4 - (intOf j).toNat)
   case atStart => 
    refine ⟨0, by omega, rfl, ?_⟩
    have e : (BitVec.ofNat 32 k).toNat = k := by rw [BitVec.toNat_ofNat]; exact Nat.mod_eq_of_lt (by omega)
    simp [crcBits, vu32]
    omega
   case round =>
    obtain ⟨q, hq, rfl, rfl⟩ := hrel
    by_cases hq4 : q < 4
    ·generalize hX : crcBits q (BitVec.ofNat 32 k) = X
     go_wp2_with fail
     exact ⟨⟨q + 1, by omega, by go_num, by rw [bit_step, crcBits_succ, hX]⟩, by simp [intOf]; omega⟩
    ·obtain rfl : q = 4 := by omega
     have hc := hT.cell_is k (tabV_at k k hlt)
     have hf := hT.frozen k
     have hS := Lib.hid (hT.set_ k (vu32 (tabAt k)))
     rw [tabV_set k hlt] at hS
     have hA2 := Lib.hid (hA.far (p := ⟨w.heap.size + 1, k, none⟩) (by simp) (vu32 (tabAt k)))
     have hB2 := Lib.hid (hB.setCell (p := ⟨w.heap.size + 1, k, none⟩) (by simp) (vu32 (tabAt k)))
     clear hT hA hB
     go_wp2_with fail
     exact ⟨⟨k + 1, by omega, by go_num, hA2.out, hS.out, hB2.out⟩, by simp [intOf]; omega⟩
  ·obtain rfl : k = 16 := by omega
   go_wp2_with (first
    | (refine wpList_load_row rfl 242 _ rfl (w.heap.size + 1) rfl 242 (tabV 16) (0, 0) _ hT Tryz.underlying242 rfl (info_tab 16) ?_)
    | (refine wpList_store_row rfl 242 _ _ rfl w.heap.size (tabV 16) rfl rfl 242 (tabV 0) hA (info_tab 16) (by rw [tabV_size, tabV_size]) (tabV_one 16) ?_))
   exact bodyPost_ret (v := .agg (tabV 16)) (results_cell_row Tryz.results138 _ _ w.heap.size 242 (tabV 16) (0, 0) _ rfl (hA.row _) Tryz.underlying242 rfl (info_tab 16)) rfl ⟨rfl, below_row hB _ (by omega)⟩

end Go.Proofs.YtdpniceapmikpaaGreat
namespace Go.Proofs.YtdpniceapmikpaaGreat
open Go.RowKit Go.Shelf

attribute [local go_sem] Oper.semAt_some

/-- the half bytes of bytes -/
abbrev vh (x : Fin 16) : Value := .int .u32 (x.val : Int)
def lowH (c : UInt8) : Fin 16 := ⟨c.toNat % 16, by omega⟩
def highH (c : UInt8) : Fin 16 := ⟨c.toNat / 16, by have := UInt8.toNat_lt c; omega⟩
def halvesOf (c : UInt8) : List (Fin 16) := [lowH c, highH c]
def halvesL (l : List UInt8) : List (Fin 16) := l.flatMap halvesOf
theorem halvesL_take (l : List UInt8) (k : Nat) (c : UInt8) (h : l[k]? = some c) : halvesL (l.take (k + 1)) = halvesL (l.take k) ++ [lowH c] ++ [highH c] := by
 rw [List.take_add_one, h]
 simp [halvesL, halvesOf]
theorem halvesL_len (l : List UInt8) : (halvesL l).length = 2 * l.length := by
 induction l with
 | nil => rfl
 | cons c l ih => simp [halvesL, halvesOf] at ih ⊢; omega

set_option maxRecDepth 100000 in
set_option maxHeartbeats 2000000 in
theorem halves1_in (F : Fence) (n : Nat) (h7 : F.fn 152) (hro : F.round = none) (hn : 1 ≤ n) (l Bs n₀ : Nat) (v : Value) (bs : List UInt8) (J Jx : List (Fin 16) → World → Prop)
  (hY : ∀ pre x W, J pre W → pre.length < 2 * bs.length → YieldAt F (n - 1) Tryz.prog l #[vh x] W fun e W' =>
   (e = .returned (.bool true) ∧ J (pre ++ [x]) W' ∧ Below n₀ W W') ∨ (e = .returned (.bool false) ∧ Jx (pre ++ [x]) W'))
  (W : World) (hBs : W.cell? ⟨Bs, 0, none⟩ = some v) (hv : BytesIn W n₀ v bs) (h0 : J [] W) :
  CallsIn F n Tryz.prog 152 #[.func (.yield l) #[] #[], .pointer (some ⟨Bs, 0, none⟩)] W fun e W' => (∃ v, e = .returned v) ∧
   ((∃ ys, ys = halvesL bs ∧ J ys W') ∨ (∃ pre, True ∧ Jx pre W')) := by
 obtain ⟨hmax, a, cap, rfl, hcap, hc⟩ := hv
 unfold maxLen at hmax
 refine callsIn_of_wp Tryz.func152 rfl h7 ?_ hro
 simp only [Tryz.ntmps152, List.size_toArray, List.length_cons, List.length_nil, Nat.reduceAdd, Nat.reduceSub, Array.replicate_succ, Array.replicate_zero, List.push_toArray, List.append_toArray, List.nil_append, List.cons_append]
 gi_wp2
 gi_loopw [7] (fun i wr => ∃ k : Nat, k ≤ bs.length ∧ i = .int .i64 k ∧ J (halvesL (bs.take k)) wr ∧ Below n₀ W wr)
  (fun i _ => bs.length - (intOf i).toNat)
 case atStart => exact ⟨0, Nat.zero_le _, rfl, h0, Below.refl _ _⟩
 case round =>
  obtain ⟨k, hk, rfl, hJs, hnx⟩ := hrel
  by_cases hlt : k < bs.length
  ·have hbk : bs[k]? = some (bs[k]'hlt) := List.getElem?_eq_getElem hlt
   obtain ⟨g, off, rfl, hg, hcell⟩ := hc k _ hbk
   have hlen1 : (halvesL (bs.take k)).length < 2 * bs.length := by rw [halvesL_len, List.length_take]; omega
   obtain ⟨fn, tmps, assign, body, hy, hR⟩ := hY _ (lowH (bs[k]'hlt)) wr hJs hlen1
   have hcx : wr.cell? ⟨g, off + k, none⟩ = some (vu8 (bs[k]'hlt)) := (hnx.cell (p := ⟨g, off + k, none⟩) hg).trans hcell
   have hHL := halvesL_take bs k _ hbk
   generalize bs[k]'hlt = c at *
   have hc256 := u8_lt c
   have e1 : ((lowH c).val : Int) = (c.toNat : Int) % 16 := by simp [lowH]
   have e2 : ((highH c).val : Int) = (c.toNat : Int) / 16 := by simp [highH]
   simp only [vh, e1] at hy
   gi_wp2
   refine hR.mono ?_
   rintro e W3 (⟨rfl, hJ3, hk3⟩ | ⟨rfl, hJx3⟩)
   ·have hlen2 : (halvesL (bs.take k) ++ [lowH c]).length < 2 * bs.length := by
     rw [List.length_append, halvesL_len, List.length_take]; simp; omega
    obtain ⟨fn', tmps', assign', body', hy', hR'⟩ := hY _ (highH c) W3 hJ3 hlen2
    simp only [vh, e2] at hy'
    clear hY hy hR
    gi_wp2
    refine hR'.mono ?_
    rintro e W4 (⟨rfl, hJ4, hk4⟩ | ⟨rfl, hJx4⟩)
    ·gi_wp2
     go_roundw
     case rel => exact ⟨k + 1, by omega, by simp, by rw [hHL]; exact hJ4, hnx.trans (hk3.trans hk4)⟩
     case measure => simp [intOf]; omega
    ·gi_wp2
     refine bodyPost_ret (results_none rfl _ _ _) rfl ?_
     exact ⟨⟨_, rfl⟩, .inr ⟨_, trivial, hJx4⟩⟩
   ·gi_wp2
    refine ⟨fun _ h => (by cases h), ?_⟩
    gi_wp2
    refine bodyPost_ret (results_none rfl _ _ _) rfl ?_
    exact ⟨⟨_, rfl⟩, .inr ⟨_, trivial, hJx3⟩⟩
  ·obtain rfl : k = bs.length := by omega
   rw [List.take_length] at hJs
   gi_wp2
   go_end0
   exact ⟨⟨_, rfl⟩, .inl ⟨_, rfl, hJs⟩⟩

set_option maxHeartbeats 1000000 in
theorem halves_in (F : Fence) (n : Nat) (h5 : F.fn 139) (hro : F.round = none) (a : Option Addr) (len cap : Nat) (w : World) :
  CallsIn F n Tryz.prog 139 #[.slice a len cap] w fun e w' => e = .returned (.func (.func 152) #[] #[.pointer (some ⟨w.heap.size, 0, none⟩)]) ∧ w' = w.alloc (.cells #[.slice a len cap] 26) := by
 refine callsIn_of_wp Tryz.func139 rfl h5 ?_ hro
 simp only [Tryz.ntmps139, List.size_toArray, List.length_cons, List.length_nil, Nat.reduceAdd, Nat.reduceSub, Array.replicate_succ, Array.replicate_zero, List.push_toArray, List.append_toArray, List.nil_append, List.cons_append]
 gi_wp2
 go_ret
 exact ⟨rfl, rfl⟩

theorem halves_stops (F : Fence) (n : Nat) (h7 : F.fn 152) (hro : F.round = none) (hn : 1 ≤ n) (Bs n₀ : Nat) (v : Value) (bs : List UInt8) (w : World) (hBs : Bs < w.heap.size) (hn₀ : n₀ ≤ w.heap.size)
  (hc : w.cell? ⟨Bs, 0, none⟩ = some v) (hv : BytesIn w n₀ v bs) :
  SeqStopsK F n Tryz.prog 152 #[.pointer (some ⟨Bs, 0, none⟩)] (fun x : Fin 16 => #[vh x]) (Below n₀) (fun ys => ys = halvesL bs) (fun _ => True) (2 * bs.length) w := fun l J Jx W hW _ _ hY h0 =>
 halves1_in F n h7 hro hn l Bs n₀ v bs J Jx hY W ((hW.cell (p := ⟨Bs, 0, none⟩) hBs).trans hc) (hv.below hW hn₀) h0

end Go.Proofs.YtdpniceapmikpaaGreat
namespace Go.Proofs.YtdpniceapmikpaaGreat
open Go.RowKit

variable {P : Program} {ops : Array Oper} {Q : Exit → Act → World → Prop} {l n : Nat}

def noDefer (o : Oper) : Bool := match o.op with | .defer _ => false | _ => true
theorem noDefer_ne {o : Oper} (h : noDefer o = true) : ∀ c, o.op ≠ .defer c := by
  intro c e
  unfold noDefer at h
  rw [e] at h
  cases h
theorem upon_round {o : Oper} {a : Act} {next : Act → World → Prop} {r : Result Next} (h : o.upon P a next Q r) : o.uponIn (Fence.wide.inRound l) n P a next Q r := by
  cases r with
  | ok x w' =>
    cases x <;> simp only [Oper.upon, Oper.uponIn] at h ⊢ <;> first
      | exact h
      | exact ⟨fun e => (by cases e), CallsIn.inRound l (callsIn_wide.2 h)⟩
      | (refine ⟨fun e => (by cases e), fun c cs _ => ?_⟩
         obtain ⟨v, w2, h1, h2⟩ := h c cs
         exact ⟨v, w2, h1, stepsIn_wide.2 h2⟩)
  | halt x w' => cases x <;> simp only [Oper.upon, Oper.uponIn] at h ⊢ <;> exact h
theorem op_round {o : Oper} {a : Act} {w : World} {K : Act → World → Prop} (hd : noDefer o = true) (h : o.wp P a w K Q) : o.wpIn (Fence.wide.inRound l) n P a w K Q := by
  refine ⟨fun _ _ => trivial, ?_⟩
  rw [Oper.semAt_eq _ _ _ (noDefer_ne hd)]
  exact upon_round h
theorem any_round {md : Region.Mode} (hd : ops.all noDefer = true) (hQ : ¬ LetsOut Q) : ∀ (fuel : Nat) (listed : Array Bool) (a : Act) (w : World), wpAny P md ops Q fuel listed a w → wpAnyIn (Fence.wide.inRound l) n P md ops Q fuel listed a w := by
  intro fuel
  induction fuel with
  | zero => intro listed a w h; exact h
  | succ fuel ih =>
    intro listed a w h
    refine ⟨h.1, fun i hi => ?_⟩
    have h2 := h.2 i hi
    unfold wpOp at h2
    unfold wpOpIn
    cases ho : ops[i]? with
    | none => rw [ho] at h2; exact ih _ _ _ h2
    | some o =>
      rw [ho] at h2
      simp only at h2 ⊢
      have hdo : noDefer o = true := by
        obtain ⟨hl, e⟩ := Array.getElem?_eq_some_iff.1 ho
        have := Array.all_eq_true.1 hd i hl
        rw [e] at this
        exact this
      split
      · rename_i hw
        rw [if_pos hw] at h2
        rcases h2 with h2 | h2
        · exact Oper.wpIn_mono (fun a w => ih _ a w) (op_round hdo h2)
        · exact absurd h2.2 hQ
      · rename_i hw
        rw [if_neg hw] at h2
        exact ⟨fun _ _ => trivial, ih _ _ _ h2⟩
/-- a region that draws its order, in a round -/
theorem region_round {id : Nat} {a : Act} {w : World} (hm : P.follows .mixedOrders = true) (hd : ops.all noDefer = true) (hQ : ¬ LetsOut Q)
    (h : wpAny P .any ops Q ops.size (Array.replicate ops.size false) a w.drew) : (Code.region id ops true).wpIn (Fence.wide.inRound l) n P Q a w :=
  wpIn_region_any hm (any_round hd hQ _ _ _ _ h)
/-- .. with a word on every world within it -/
theorem region_round_held {S : World → Prop} {id : Nat} {a : Act} {w : World} (hm : P.follows .mixedOrders = true) (hd : ops.all noDefer = true) (hQ : ¬ LetsOut Q) (hS : S w.drew)
    (h : S w.drew → wpAnyH P .any ops Q S ops.size (Array.replicate ops.size false) a w.drew) : (Code.region id ops true).wpIn (Fence.wide.inRound l) n P Q a w :=
  region_round hm hd hQ (wpAny_of_held _ _ _ _ (h hS))
end Go.Proofs.YtdpniceapmikpaaGreat
namespace Go.Proofs.YtdpniceapmikpaaGreat
open Go.RowKit Go.Shelf

attribute [local go_sem] Oper.semAt_some

/-- going on with half bytes -/
def halfOn (n : BitVec 32) (h : Fin 16) : BitVec 32 := crcBits 4 (n ^^^ BitVec.ofNat 32 h.val)
def halfs (n : BitVec 32) (l : List (Fin 16)) : BitVec 32 := l.foldl halfOn n
theorem halfs_snoc (n : BitVec 32) (l : List (Fin 16)) (h : Fin 16) : halfs n (l ++ [h]) = crcBits 4 (halfs n l ^^^ BitVec.ofNat 32 h.val) := by simp [halfs, halfOn]
theorem halfs_bytes (n : BitVec 32) (l : List UInt8) : halfs n (halvesL l) = crcOn n l := by
 induction l generalizing n with
 | nil => rfl
 | cons c l ih =>
  have e : halvesL (c :: l) = halvesOf c ++ halvesL l := by simp [halvesL]
  rw [e]
  have e2 : halfs n (halvesOf c ++ halvesL l) = halfs (halfs n (halvesOf c)) (halvesL l) := by simp [halfs]
  rw [e2, ih]
  show crcOn (crcBits 4 (crcBits 4 (n ^^^ _) ^^^ _)) l = crcOn (crcByte n c) l
  rw [crcByte, crcByte_halves n c.toNat (u8_lt c)]
  rfl

theorem half_val {X Y : BitVec 32} {x : Fin 16} {i : Nat} (hY : Y = X ^^^ BitVec.ofNat 32 x.val) (hi : i = (Y &&& 15#32).toNat) : bits .xor .u32 ((X.toNat : Int) / 16) ((tabAt i).toNat : Int) = ((crcBits 4 (X ^^^ BitVec.ofNat 32 x.val)).toNat : Int) := by
 have e : (X.toNat : Int) / (16 : Int) = ((X >>> 4).toNat : Int) := shr_u32 X 4
 have hx : X >>> 4 = Y >>> 4 := by
  rw [hY, BitVec.ushiftRight_xor_distrib]
  have : BitVec.ofNat 32 x.val >>> 4 = 0#32 := by
   have : ∀ x : Fin 16, BitVec.ofNat 32 x.val >>> 4 = 0#32 := by decide
   exact this x
  rw [this, BitVec.xor_zero]
 have ht : tabAt i = crcBits 4 (Y &&& 15#32) := by
  unfold tabAt
  rw [hi, BitVec.ofNat_toNat]
  simp
 rw [e, hx, ht, xor_u32, ← hY, crc_half Y]

/-- a block of cells stands where what is turned is none of cells -/
theorem Blk.own {W W' : World} {row : Option Nat} {g : Nat} {t : TypeId} {cs : Array Value} (h : Blk W g t cs) (hg : W.grownBy W' row) (hr : ∀ r, row = some r → ∃ o : Obj, W.heap[r]? = some o ∧ o.isCells = false) : Blk W' g t cs := by
 refine (hg.block g h.lt (fun e => ?_)).trans h
 obtain ⟨o, ho, hc⟩ := hr g e.symm
 unfold Blk at h
 rw [h] at ho
 cases ho
 cases hc

set_option maxRecDepth 100000 in
set_option maxHeartbeats 4000000 in
theorem update_in (n : Nat) (hn : 3 ≤ n) (s : BitVec 32) (a : Option Addr) (cap : Nat) (bs : List UInt8) (w : World) (hv : BytesIn w w.heap.size (.slice a bs.length cap) bs) :
  CallsIn Fence.wide n Tryz.prog 102 #[vu32 s, .slice a bs.length cap] w fun e w' => e = .returned (vu32 (~~~ (crcOn (~~~ s) bs))) ∧ Below w.heap.size w w' := by
 have h1 : 1 ≤ n := by omega
 have hro : Fence.wide.round = none := rfl
 refine callsIn_of_wp_marks Tryz.func102 rfl trivial ?_ hro
 simp only [Tryz.ntmps102, List.size_toArray, List.length_cons, List.length_nil, Nat.reduceAdd, Nat.reduceSub, Array.replicate_succ, Array.replicate_zero, List.push_toArray, List.append_toArray, List.nil_append, List.cons_append]
 refine wpIn_wide.2 ?_
 go_wp2_with fail
 refine (table_any _).mono ?_; rintro e w1 ⟨rfl, hb1⟩
 have hT0 : Blk ((w1.alloc (.cells (tabV 0) 242)).alloc (.cells #[.int .u32 0] 70)) w1.heap.size 242 (tabV 0) := (Blk.new w1 _ _).alloc _
 have hN0 : Blk (((w1.alloc (.cells (tabV 0) 242)).alloc (.cells #[.int .u32 0] 70)).setRow w1.heap.size (tabV 16)) (w1.heap.size + 1) 70 #[.int .u32 0] :=
  (setRow_other _ w1.heap.size (w1.heap.size + 1) _ (by omega)).trans (Blk.new2 w1 _ _ _)
 have hT1 := hT0.row (tabV 16)
 have hB1 : Below w.heap.size w (((w1.alloc (.cells (tabV 0) 242)).alloc (.cells #[.int .u32 0] 70)).setRow w1.heap.size (tabV 16)) := below_row ((hb1.alloc hb1.size _).alloc (by have := hb1.size; simp; omega) _) _ hb1.size
 rw [tabV_zero] at hT0 hN0 hT1 hB1
 have hNc := hN0.cell_is 0 rfl
 have hNf := hN0.frozen 0
 have hNs : ∀ x, Blk (((w1.alloc (.cells _ 242)).alloc (.cells #[.int .u32 0] 70)).setRow w1.heap.size (tabV 16) |>.setCell ⟨w1.heap.size + 1, 0, none⟩ x) (w1.heap.size + 1) 70 #[x] := fun x => hN0.set_ 0 x
 have hTs : ∀ x, Blk (((w1.alloc (.cells _ 242)).alloc (.cells #[.int .u32 0] 70)).setRow w1.heap.size (tabV 16) |>.setCell ⟨w1.heap.size + 1, 0, none⟩ x) w1.heap.size 242 (tabV 16) := fun x => hT1.far (p := ⟨w1.heap.size + 1, 0, none⟩) (by simp) x
 have hBs : ∀ x, Below w.heap.size w (((w1.alloc (.cells _ 242)).alloc (.cells #[.int .u32 0] 70)).setRow w1.heap.size (tabV 16) |>.setCell ⟨w1.heap.size + 1, 0, none⟩ x) := fun x => hB1.setCell (p := ⟨w1.heap.size + 1, 0, none⟩) (by have := hb1.size; simp; omega) x
 have HNs := Lib.hid hNs
 have HTs := Lib.hid hTs
 have HBs := Lib.hid hBs
 clear hNs hTs hBs hN0 hT1 hB1
 go_upto_region 2 with (refine wpList_store_row rfl 242 _ _ rfl w1.heap.size (tabV 16) rfl rfl 242 _ hT0 (info_tab 16) (by rw [tabV_size]; rfl) (tabV_one 16) ?_)
 have HN1 := HNs.out (.int .u32 (bits BinOp.xor IntKind.u32 IntKind.u32.max s.toNat))
 have HT1 := HTs.out (.int .u32 (bits BinOp.xor IntKind.u32 IntKind.u32.max s.toNat))
 have HB1 := HBs.out (.int .u32 (bits BinOp.xor IntKind.u32 IntKind.u32.max s.toNat))
 have es : bits BinOp.xor IntKind.u32 IntKind.u32.max s.toNat = ((~~~ s).toNat : Int) := not_u32 s
 have ei : (if IntKind.u32.signed = true then (-1 : Int) else IntKind.u32.max) = IntKind.u32.max := rfl
 rw [ei, es]
 rw [es] at HN1 HT1 HB1
 clear HNs HTs HBs hNc hNf hT0 es ei
 have hge := hb1.size
 generalize World.setCell _ _ _ = W1 at *
 generalize w1.heap.size = m at *
 obtain ⟨S, hS⟩ : ∃ S, S = ~~~ s := ⟨_, rfl⟩
 rw [← hS] at HN1 ⊢
 have HS := Lib.hid hS
 clear hS
 go_wp2_with fail
 refine (callsIn_wide.1 (halves_in Fence.wide 5 trivial rfl _ _ _ _)).mono ?_; rintro e w2 ⟨rfl, rfl⟩
 go_wp2_with fail
 have hv2 : BytesIn (W1.alloc (.cells #[.slice a bs.length cap] 26)) w.heap.size (.slice a bs.length cap) bs := hv.below (HB1.alloc HB1.size _) (Nat.le_refl _)
 have hsz := HB1.size
 have hmlt := HN1.lt
 refine (wpIn_wide (n := n)).1 ?_
 refine wpIn_rangeFunc_ownF hro h1 (gf := 152) (lb := #[.pointer (some ⟨W1.heap.size, 0, none⟩)]) rfl trivial (enters_of Tryz.func152 (by kernel_rfl) rfl)
  (halves_stops Fence.wide (n - 1) trivial rfl (by omega) W1.heap.size w.heap.size (.slice a bs.length cap) bs _ (by simp) (by simp; omega) (cell_of_one (heap_alloc_new W1 _)) hv2) belowK_t (belowK_b (by simp; omega)) (Below.refl _ _) (fun _ => rfl)
  (fun pre W => (Blk W m 242 (tabV 16) ∧ Blk W (m + 1) 70 #[vu32 (halfs S pre)]) ∧ Below w.heap.size w W)
  (fun _ _ _ => False)
  (OwnFrom.and (Own.from (fun s A B row hs hg hr => ⟨hs.1.own hg hr, hs.2.own hg hr⟩) _) (ownFrom_below (Nat.le_refl _) (by simp; omega)))
  (fun _ _ _ _ _ hs _ _ => hs)
  ⟨⟨HT1.alloc _, HN1.alloc _⟩, HB1.alloc HB1.size _⟩
  (fun x => { tmps := #[vu32 s, .slice a bs.length cap, undef, undef, .int .u32 0, .pointer (some ⟨m, 0, none⟩), .pointer (some ⟨m + 1, 0, none⟩), vh x, .agg (tabV 16), vu32 s, .int .u32 S.toNat, .slice a bs.length cap, .func (.func 152) #[] #[.pointer (some ⟨W1.heap.size, 0, none⟩)], vh x, undef, undef, undef, undef, undef, undef, undef, undef, undef, undef, undef], defers := [] }) ?assign ?body ?done ?stop
 case assign =>
  intro l x W K hK
  gi_wp2
  exact hK
 case body =>
  rintro l pre x W ⟨⟨hT, hN⟩, hB⟩ _
  have HH := Lib.hid (halfs_snoc S pre x)
  generalize hX : halfs S pre = X at *
  obtain ⟨Y, hY⟩ : ∃ Y, Y = X ^^^ BitVec.ofNat 32 x.val := ⟨_, rfl⟩
  have e1 : bits .xor .u32 (X.toNat : Int) (x.val : Int) = (Y.toNat : Int) := by
   have ex : ((BitVec.ofNat 32 x.val).toNat : Int) = (x.val : Int) := by rw [BitVec.toNat_ofNat]; omega
   rw [hY, ← ex]; exact xor_u32 X _
  obtain ⟨i, hi⟩ : ∃ i, i = (Y &&& 15#32).toNat := ⟨_, rfl⟩
  have e2 : bits .and .u32 (Y.toNat : Int) 15 = (i : Int) := by rw [hi]; exact and_u32 Y 15#32
  have h16 : i < 16 := by rw [hi]; exact and15_lt _
  have HY := Lib.hid hY
  have HI := Lib.hid hi
  clear hY hi
  have h16' : (i : Int) < 16 := by omega
  have h0' : (0 : Int) ≤ (i : Int) := by omega
  have c1 := hN.cell_is 0 rfl
  have f1 := hN.frozen 0
  have c2 := hT.cell_is i (tabV_at 16 i h16)
  rw [if_pos h16] at c2
  gi_wp2
  refine region_round_held (S := fun w' => w'.cell? ⟨m, i, none⟩ = some (vu32 (tabAt i))) (by kernel_rfl) (by kernel_rfl) (fun ⟨_, _, h⟩ => h) c2 (fun hHeld => ?_)
  refine tk 3 ?_
  refine wpAnyH_ready (rs := [0, 2]) (by kernel_rfl) (by simp) ?_
  refine AllReadyH.cons rfl (fun K hK => ?_) (AllReadyH.cons rfl (fun K hK => ?_) AllReadyH.nil)
  ·go_simp
   refine hK.out _ _ (by (try dsimp only); first | assumption | (exact hHeld) | exact ((cell_drew_own _ _).trans (World.cell?_setCell_far _ _ _ _ (by simp))).trans c2) (fun hHeld => ?_)
   clear hK K
   try simp only [Act.put, pz0, pz1, pz2, pz3, pz4, pz5]
   refine tk 1 ?_
   refine rd 2 fun K hK => ?_
   go_simp
   refine hK.out _ _ (by (try dsimp only); first | assumption | (exact hHeld) | exact ((cell_drew_own _ _).trans (World.cell?_setCell_far _ _ _ _ (by simp))).trans c2) (fun hHeld => ?_)
   clear hK K
   try simp only [Act.put, pz0, pz1, pz2, pz3, pz4, pz5]
   refine tk 4 ?_
   refine tk 5 ?_
   refine tk 6 ?_
   refine tk 7 ?_
   refine tk 8 ?_
   refine rd 9 fun K hK => ?_
   go_simp
   refine hK.out _ _ (by (try dsimp only); first | assumption | (exact hHeld) | exact ((cell_drew_own _ _).trans (World.cell?_setCell_far _ _ _ _ (by simp))).trans c2) (fun hHeld => ?_)
   clear hK K
   try simp only [Act.put, pz0, pz1, pz2, pz3, pz4, pz5]
   refine wpAnyH_done (by kernel_rfl) ?_ _
   have hval : bits .xor .u32 ((X.toNat : Int) / 16) ((tabAt i).toNat : Int) = ((crcBits 4 (X ^^^ BitVec.ofNat 32 x.val)).toNat : Int) := half_val HY.out HI.out
   rw [hval, ← HH.out]
   exact ⟨(KeepsOthers.setCell _ _ _).trans (KeepsOthers.drew _), ((Below.refl w.heap.size W).setCell (p := ⟨m + 1, 0, none⟩) (by simp; omega) _).drew, ⟨(hT.far (p := ⟨m + 1, 0, none⟩) (by simp) _).drew, (hN.set_ 0 _).drew⟩, (hB.setCell (p := ⟨m + 1, 0, none⟩) (by simp; omega) _).drew⟩
  ·go_simp
   refine hK.out _ _ (by (try dsimp only); first | assumption | (exact hHeld) | exact ((cell_drew_own _ _).trans (World.cell?_setCell_far _ _ _ _ (by simp))).trans c2) (fun hHeld => ?_)
   clear hK K
   try simp only [Act.put, pz0, pz1, pz2, pz3, pz4, pz5]
   refine tk 4 ?_
   refine tk 5 ?_
   refine tk 6 ?_
   refine tk 7 ?_
   refine rd 0 fun K hK => ?_
   go_simp
   refine hK.out _ _ (by (try dsimp only); first | assumption | (exact hHeld) | exact ((cell_drew_own _ _).trans (World.cell?_setCell_far _ _ _ _ (by simp))).trans c2) (fun hHeld => ?_)
   clear hK K
   try simp only [Act.put, pz0, pz1, pz2, pz3, pz4, pz5]
   refine tk 1 ?_
   refine tk 8 ?_
   refine rd 9 fun K hK => ?_
   go_simp
   refine hK.out _ _ (by (try dsimp only); first | assumption | (exact hHeld) | exact ((cell_drew_own _ _).trans (World.cell?_setCell_far _ _ _ _ (by simp))).trans c2) (fun hHeld => ?_)
   clear hK K
   try simp only [Act.put, pz0, pz1, pz2, pz3, pz4, pz5]
   refine wpAnyH_done (by kernel_rfl) ?_ _
   have hval : bits .xor .u32 ((X.toNat : Int) / 16) ((tabAt i).toNat : Int) = ((crcBits 4 (X ^^^ BitVec.ofNat 32 x.val)).toNat : Int) := half_val HY.out HI.out
   rw [hval, ← HH.out]
   exact ⟨(KeepsOthers.setCell _ _ _).trans (KeepsOthers.drew _), ((Below.refl w.heap.size W).setCell (p := ⟨m + 1, 0, none⟩) (by simp; omega) _).drew, ⟨(hT.far (p := ⟨m + 1, 0, none⟩) (by simp) _).drew, (hN.set_ 0 _).drew⟩, (hB.setCell (p := ⟨m + 1, 0, none⟩) (by simp; omega) _).drew⟩
 case done =>
  rintro D ys W hD rfl ⟨⟨hT, hN⟩, hB⟩ hK
  have c1 := hN.cell_is 0 rfl
  have hbytes := Lib.hid (halfs_bytes S bs)
  have hnot := Lib.hid (not_u32 (halfs S (halvesL bs)))
  generalize halfs S (halvesL bs) = Z at *
  go_wp2_with fail
  rw [hnot.out, hbytes.out, HS.out]
  refine ⟨by simp, .inl ⟨_, _, rfl, run_takeDeferred hK, ?_⟩⟩
  exact ⟨_, results_tmp rfl _ _ _, rfl, hB.trans (belowK_b (w := w) (Nat.le_refl _) W D _ _ (by simp at hD; omega) hK rfl rfl)⟩
 case stop =>
  rintro D c pre W _ _ h _
  exact h.elim

theorem update_any (s : BitVec 32) (v : Value) (bs : List UInt8) (w : World) (hv : BytesIn w w.heap.size v bs) :
  Calls Tryz.prog 102 #[vu32 s, v] w fun e w' => e = .returned (vu32 (~~~ (crcOn (~~~ s) bs))) ∧ Below w.heap.size w w' := by
 obtain ⟨h1, a, cap, rfl, h2⟩ := hv
 exact callsIn_wide.1 (update_in 5 (by omega) s a cap bs w ⟨h1, a, cap, rfl, h2⟩)

/-- the sum of bytes, as 32 bits -/
def crcW (bs : List UInt8) : BitVec 32 := ~~~ (crcOn (~~~ 0#32) bs)
theorem crc_any (v : Value) (bs : List UInt8) (w : World) (hv : BytesIn w w.heap.size v bs) :
  Calls Tryz.prog 56 #[v] w fun e w' => e = .returned (vu32 (crcW bs)) ∧ Below w.heap.size w w' := by
 obtain ⟨h1, a, cap, rfl, h2⟩ := hv
 go_enter Tryz.func56, Tryz.ntmps56
 go_wp2_with fail
 refine (update_any 0#32 _ bs _ ⟨h1, a, cap, rfl, h2⟩).mono ?_; rintro e w1 ⟨rfl, hb⟩
 go_wp2_with fail
 go_ret
 exact ⟨rfl, hb⟩

end Go.Proofs.YtdpniceapmikpaaGreat
namespace Go.Proofs.YtdpniceapmikpaaGreat
open Go.RowKit

/-- only block r has turned, and nothing is new -/
structure Turn (r : Nat) (w w' : World) : Prop where
 os : w'.os = w.os
 tape : w'.tape = w.tape
 output : w'.output = w.output
 size : w'.heap.size = w.heap.size
 block : ∀ i, i ≠ r → w'.heap[i]? = w.heap[i]?

theorem Turn.below {r B : Nat} {a w w' : World} (h : Turn r w w') (hb : Below B a w) (hr : B ≤ r) : Below B a w' :=
 hb.trans ⟨h.os, h.tape, h.output, by rw [h.size]; exact Nat.le_refl _, fun i hi => h.block i (by omega)⟩
theorem Turn.blk {r : Nat} {w w' : World} (h : Turn r w w') {g : Nat} {t : TypeId} {cs : Array Value} (hb : Blk w g t cs) (hg : g ≠ r) : Blk w' g t cs := (h.block g hg).trans hb
theorem Blk.ne_ {w : World} {g g' : Nat} {t t' : TypeId} {cs cs' : Array Value} (h : Blk w g t cs) (h' : Blk w g' t' cs') (hne : t ≠ t') : g ≠ g' := by
 rintro rfl
 unfold Blk at h h'
 rw [h] at h'
 injection h' with h'
 injection h' with _ ht
 exact hne ht

/-- the entries of a map whose keys were stored in this order, none twice -/
def entriesOf (kd : IntKind) (l : List (Int × Value)) : Array MapEntry := (l.zipIdx.map fun x => ⟨.int kd x.1.1, x.1.2, x.2⟩).toArray
def MapAt (w : World) (r : Nat) (kd : IntKind) (l : List (Int × Value)) : Prop := w.heap[r]? = some (.map (entriesOf kd l) l.length)

theorem MapAt.lt {w : World} {r : Nat} {kd : IntKind} {l : List (Int × Value)} (h : MapAt w r kd l) : r < w.heap.size := by
 rcases Nat.lt_or_ge r w.heap.size with hlt | hge
 ·exact hlt
 ·unfold MapAt at h; rw [Array.getElem?_eq_none hge] at h; cases h
theorem MapAt.new (w : World) (kd : IntKind) : MapAt (w.alloc (.map #[] 0)) w.heap.size kd [] := heap_alloc_new w _
theorem MapAt.alloc {w : World} {r : Nat} {kd : IntKind} {l : List (Int × Value)} (h : MapAt w r kd l) (o : Obj) : MapAt (w.alloc o) r kd l := (Below.heap_alloc w o r h.lt).trans h
theorem MapAt.drew {w : World} {r : Nat} {kd : IntKind} {l : List (Int × Value)} (h : MapAt w r kd l) : MapAt w.drew r kd l := h
theorem MapAt.below {w w' : World} {r B : Nat} {kd : IntKind} {l : List (Int × Value)} (h : MapAt w r kd l) (hb : Below B w w') (hr : r < B) : MapAt w' r kd l := (hb.block r hr).trans h

theorem entriesOf_push (kd : IntKind) (l : List (Int × Value)) (n : Int) (v : Value) : entriesOf kd (l ++ [(n, v)]) = (entriesOf kd l).push ⟨.int kd n, v, l.length⟩ := by
 unfold entriesOf
 rw [List.zipIdx_append, List.map_append]
 simp

theorem findNow_entries (kd : IntKind) (n : Int) : ∀ (l : List (Int × Value)) (i j : Nat),
  Instr.findNow (.int kd) (.int kd n) ((l.zipIdx j).map fun x => (⟨.int kd x.1.1, x.1.2, x.2⟩ : MapEntry)) i =
   some ((l.zipIdx i).find? (fun x => n == x.1.1) |>.map fun x => (x.2, x.1.2))
 | [], i, j => rfl
 | x :: l, i, j => by
  simp only [List.zipIdx_cons, List.map_cons, Instr.findNow, Instr.sameNow, if_true, List.find?_cons]
  cases h : (n == x.1)
  ·simp only [findNow_entries kd n l (i + 1) (j + 1)]
  ·simp

/-- what a look-up finds -/
def lookOf (l : List (Int × Value)) (n : Int) : Option Value := (l.find? fun x => n == x.1).map (·.2)

theorem find_zipIdx (n : Int) : ∀ (l : List (Int × Value)) (i : Nat), ((l.zipIdx i).find? (fun x => n == x.1.1)).map (fun x => x.1.2) = lookOf l n
 | [], _ => rfl
 | x :: l, i => by
  simp only [List.zipIdx_cons, List.find?_cons, lookOf]
  cases h : (n == x.1)
  ·simpa [lookOf] using find_zipIdx n l (i + 1)
  ·simp

section
variable {P : Program} {t k e : TypeId} {kd : IntKind}

theorem run_findKey (w : World) (hk : P.underlying k = some (.int kd)) (l : List (Int × Value)) (n : Int) :
  (Instr.findKey k (.int kd n) (entriesOf kd l).toList).run P w = .ok (((l.zipIdx 0).find? (fun x => n == x.1.1)).map fun x => (x.2, x.1.2)) w := by
 unfold Instr.findKey entriesOf
 simp only [Sem.run_bind, run_underlying hk, Result.andThen, findNow_entries kd n l 0 0]
 rfl

theorem run_checkKey_int (w : World) (b : Bool) (n : Nat) (hk : P.underlying k = some (.int kd)) (v : Value) : (Instr.checkKey b (n + 1) k v).run P w = .ok () w := by
 unfold Instr.checkKey
 simp only [Sem.run_bind, run_underlying hk, Result.andThen]
 cases v <;> rfl

theorem run_insert_new (w : World) (ht : P.underlying t = some (.map k e)) (hk : P.underlying k = some (.int kd)) (r : Nat) (l : List (Int × Value)) (hm : MapAt w r kd l) (n : Int) (hn : lookOf l n = none) (v : Value) :
  ∃ w', (Instr.mapUpdate t (.map (some r)) (.int kd n) v).run P w = .ok () w' ∧ MapAt w' r kd (l ++ [(n, v)]) ∧ Turn r w w' := by
 have hf : (((l.zipIdx 0).find? (fun x => n == x.1.1)).map fun x => (x.2, x.1.2)) = none := by
  have := find_zipIdx n l 0
  rw [hn] at this
  simpa using this
 refine ⟨{ w with heap := w.heap.setIfInBounds r (.map ((entriesOf kd l).push ⟨.int kd n, v, l.length⟩) (l.length + 1)) }, ?_, ?_, ?_⟩
 ·unfold Instr.mapUpdate
  simp only [Sem.run_bind, run_underlying ht, Result.andThen, MapKept.run_getObj_map hm, run_checkKey_int w false 9999 hk, run_findKey w hk, hf]
  exact MapKept.run_setObj_map _ hm
 ·unfold MapAt
  rw [entriesOf_push]
  simp [hm.lt]
 ·exact ⟨rfl, rfl, rfl, by simp, fun i hi => by simp [Array.getElem?_setIfInBounds_ne (fun e => hi e.symm)]⟩

theorem run_lookup_ok (w : World) (ht : P.underlying t = some (.map k e)) (hk : P.underlying k = some (.int kd)) (r : Nat) (l : List (Int × Value)) (hm : MapAt w r kd l) (n : Int) (v : Value) (hn : lookOf l n = some v) (ok : Bool) :
  (Instr.lookup t (.map (some r)) (.int kd n) ok).run P w = .ok (if ok then .tuple #[v, .bool true] else v) w := by
 have hf := find_zipIdx n l 0
 rw [hn] at hf
 obtain ⟨x, hx, hv⟩ := Option.map_eq_some_iff.1 hf
 unfold Instr.lookup
 simp only [Sem.run_bind, run_underlying ht, Result.andThen, MapKept.run_getObj_map hm, run_checkKey_int w _ 9999 hk, run_findKey w hk, hx, Option.map_some, Sem.run_pure, hv]

theorem run_lookup_none (w : World) (ht : P.underlying t = some (.map k e)) (hk : P.underlying k = some (.int kd)) (r : Nat) (l : List (Int × Value)) (hm : MapAt w r kd l) (n : Int) (z : Value) (hz : (zeroValue e).run P w = .ok z w) (hn : lookOf l n = none) (ok : Bool) :
  (Instr.lookup t (.map (some r)) (.int kd n) ok).run P w = .ok (if ok then .tuple #[z, .bool false] else z) w := by
 have hf : (((l.zipIdx 0).find? (fun x => n == x.1.1)).map fun x => (x.2, x.1.2)) = none := by
  have := find_zipIdx n l 0
  rw [hn] at this
  simpa using this
 unfold Instr.lookup
 simp only [Sem.run_bind, run_underlying ht, Result.andThen, MapKept.run_getObj_map hm, run_checkKey_int w _ 9999 hk, run_findKey w hk, hf, Sem.run_pure, hz]

theorem wpList_insert_new (w : World) {ops : Array Oper} {rest : List Oper} {o : Oper} {a : Act} {Q : Exit → Act → World → Prop}
  (hg : o.guard = none) (m x y : Operand) (hop : o.op = Op.insert t m x y)
  (ht : P.underlying t = some (.map k e)) (hk : P.underlying k = some (.int kd)) (r : Nat) (l : List (Int × Value)) (hma : a.eval m = .map (some r)) (hm : MapAt w r kd l) (n : Int) (hx : a.eval x = .int kd n) (hn : lookOf l n = none) (v : Value) (hv : a.eval y = v)
  (hK : ∀ w', MapAt w' r kd (l ++ [(n, v)]) → Turn r w w' → wpList P ops Q rest (a.put o.dst undef) w') :
  wpList P ops Q (o :: rest) a w := by
 refine wpList_plain hg fun K' hK' => ?_
 obtain ⟨w', hrun, r1, r2⟩ := run_insert_new (P := P) w ht hk r l hm n hn v
 unfold Oper.wp
 simp [execOp, hop, hma, hx, hv, hrun, Result.andThen]
 exact hK' _ _ (hK w' r1 r2)
end
end Go.Proofs.YtdpniceapmikpaaGreat
