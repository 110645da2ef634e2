/-
  The program's cache: Get's closure.
  The program's cache keeps what the reference's keeps: Put, Evict, Move, Settle, Hand, Place.
  slices.ContainsFunc of bytes, as the shelf has it, and what logs.says asks of it. (The first part is the shelf's laying at another instance.)
  A drawn region whose condition hangs on what has come up already: a load may be taken first though an operation that waits for it writes its cell. (The kit's laws of OrdersHeld, with S by the listing.)
  logs.says: what a head says.
-/
import Derived.Shelf.SlicesE.IndexFunc
import Derived.Deep.RegionHeld
import Derived.Laws.IdiomStrings
import Derived.Test.YtemcgfncahccgaaGreatCh8
import Derived.Test.YtemcgfncahccgaaGreatCh12
import Derived.Test.YtemcgfncahccgaaGreatCh22
import Derived.Test.YtemcgfncahccgaaGreatCh23
set_option linter.unusedVariables false
set_option linter.unusedSimpArgs false
namespace Go.Proofs.YtemcgfncahccgaaGreat
open Go.RowKit Go.Shelf

set_option maxRecDepth 100000 in
set_option maxHeartbeats 4000000 in
theorem get1_any (C : CacheP) (room : Int) (ps us : List Int) (f : Int → Option ItemD) (oid : Int) (o : ObjD) (OB CB IB : Nat) (old : Array Value) (w : World) (h : CacheRaw w C room ps f us) (ho : o.ok) (hu : us.length ≤ 100000) (hf : ∀ m ∈ us, f m ≠ none) (hroom : 0 ≤ room)
  (hO : Blk w OB 47 old) (hold : old.size = 163) (hC : Blk w CB 35 #[ptr C.g]) (hI : Blk w IB 3 #[.int .i64 oid]) (hnO : ¬ C.has OB) :
  Calls Tryz.prog 48 #[.agg o.cells.toArray, ptr OB, ptr CB, ptr IB] w fun e w' => e = .returned (.tuple #[]) ∧ Blk w' OB 47 o.cells.toArray ∧
   ∃ C', CacheRaw w' C' room ps (useF room f us oid ⟨oid, o, false⟩) (useU room f us oid ⟨oid, o, false⟩) ∧ Out (fun i => C.own i ∨ i = OB) w w' ∧ (C'.g = C.g ∧ C'.dp = C.dp ∧ C'.r = C.r ∧ C'.pv = C.pv) ∧ ∀ i, C'.has i → C.has i ∨ w.heap.size ≤ i := by
 have nCO : CB ≠ OB := Blk.ne_ hC hO (by decide)
 have nIO : IB ≠ OB := Blk.ne_ hI hO (by decide)
 have hbt := citem_built0 o ho
 have hone : o.cells.toArray.all (·.oneCell') = true := by rw [Array.all_eq_true']; intro v hv; exact obj_one o v (by simpa using hv)
 have hol := ObjD.len ho
 have hIt := Lib.hid (fun X => ItemAt.new X oid o false ho)
 obtain ⟨ics, eics⟩ : ∃ ics, ics = (o.cells ++ [Value.bool false]).toArray := ⟨_, rfl⟩
 obtain ⟨cs, ecs⟩ : ∃ cs, cs = o.cells.toArray := ⟨_, rfl⟩
 have scs : (Tryz.prog.info? 47).map (·.size) = some cs.size := by rw [ecs, List.size_toArray, hol]; kernel_rfl
 have hcs : cs.size = old.size := by rw [ecs, List.size_toArray, hol, hold]
 rw [← ecs, ← eics] at hbt
 rw [← eics] at hIt
 rw [← ecs] at hone ⊢
 have HBT := Lib.hid hbt
 have HONE := Lib.hid hone
 have HCS := Lib.hid hcs
 obtain ⟨W, eW⟩ : ∃ W, W = w.alloc (.cells cs 47) := ⟨_, rfl⟩
 have hb0 : Below w.heap.size w W := by rw [eW]; exact (Below.refl _ w).alloc (Nat.le_refl _) _
 have k0 : Blk W w.heap.size 47 cs := by rw [eW]; exact Blk.new w _ _
 have kO := hO.below hb0 hO.lt
 have nO : OB ≠ w.heap.size := Nat.ne_of_lt hO.lt
 -- the row is stored
 obtain ⟨W2, eW2⟩ : ∃ W2, W2 = W.setRow OB cs := ⟨_, rfl⟩
 have hout : Out (fun i => i = OB) W W2 := by rw [eW2]; exact out_row cs rfl
 have H2 := Lib.hid ((h.below hb0).out hout (fun i hi e => hnO (e ▸ hi)))
 have kC := hout.blk (hC.below hb0 hC.lt) nCO
 have kI := hout.blk (hI.below hb0 hI.lt) nIO
 have kS := hout.blk k0 (Ne.symm nO)
 have cC := kC.cell_is 0 rfl
 have cI := kI.cell_is 0 rfl
 have hb3 : Below W2.heap.size W2 (W2.alloc (.cells ics 103)) := (Below.refl _ W2).alloc (Nat.le_refl _) _
 have HU := Lib.hid (use_any C room ps us f oid W2.heap.size ⟨oid, o, false⟩ _ (H2.out.below hb3) (hIt.out W2) hu hf hroom)
 have EW := Lib.hid eW
 have EW2 := Lib.hid eW2
 have HB0 := Lib.hid hb0
 have HOUT := Lib.hid hout
 have HB3 := Lib.hid hb3
 have HH := Lib.hid h
 have hcs2 : old.size = cs.size := hcs.symm
 unfold ptr at *
 clear eW eW2 hb0 hout hb3 h hbt hone hcs hol hold ecs eics kC kI hC hI hO
 go_enter Tryz.func48, Tryz.ntmps48
 go_upto_region 1 with fail
 rw [← EW.out]
 go_upto_region 2 with (first
  | (refine wpList_load_row rfl 47 _ rfl w.heap.size rfl 47 cs (0, 0) _ k0 Tryz.underlying47 rfl scs ?_)
  | (refine wpList_store_row rfl 47 _ _ rfl OB cs rfl rfl 47 old kO scs hcs2 HONE.out ?_))
 rw [← EW2.out]
 go_wp2_with (first
  | (refine wpList_load_row rfl 47 _ rfl w.heap.size rfl 47 cs (0, 0) _ kS Tryz.underlying47 rfl scs ?_)
  | (refine wpList_buildL rfl 103 _ rfl ics HBT.out ?_))
 refine HU.out.mono ?_; rintro r w3 ⟨rfl, C3, h3, s3⟩
 have H3 := Lib.hid h3
 have S3 := Lib.hid (s3.item HB3.out (Nat.le_refl _))
 clear h3 s3
 go_wp2_with fail
 go_end0
 have hsz : w.heap.size ≤ W2.heap.size := Nat.le_trans HB0.out.size HOUT.out.size
 refine ⟨rfl, ?_, C3, H3.out, ?_, S3.out.same, fun i hi => ?_⟩
 ·have k1 : Blk W2 OB 47 cs := by rw [EW2.out]; exact kO.row cs
  exact S3.out.out.blk k1 (fun h => hnO (.inl h))
 ·exact ((Out.refl (fun i => C.own i ∨ i = OB) w).trans ((outB HB0.out : Out (fun i => i = OB) w W).trans HOUT.out (fun _ _ h => h)) (fun i _ e => .inr e)).trans S3.out.out (fun i _ h => .inl h)
 ·rcases S3.out.new_ i hi with h | h
  ·exact .inl h
  ·exact .inr (by omega)
end Go.Proofs.YtemcgfncahccgaaGreat
namespace Go.Proofs.YtemcgfncahccgaaGreat
open Go.RowKit Go.Shelf

/-- what holds of a cache throughout -/
structure CacheOk (x : CacheD) : Prop where
 hand : HandOk x.n x.hand
 room : 0 ≤ x.room
 len : x.places.length ≤ 1000 ∧ x.hand.length ≤ 1000
 disk : x.disk.ok
theorem oids_len (h : List ItemD) : (oidsOf h).length = h.length := List.length_map _
section
variable {w : World} {C : CacheP} {x : CacheD}
theorem cput_any (h : CacheAt w C x) (H : CacheOk x) (oid : Int) (o : ObjD) (ho : o.ok) :
  Calls Tryz.prog 15 #[ptr C.g, .int .i64 oid, .agg o.cells.toArray] w fun e w' => e = .returned (.int .i64 (x.putE oid o)) ∧ ∃ C', CacheAt w' C' (x.put oid o) ∧ CStep C C' w w' := by
 have hl := H.len
 refine (put_any C x.room x.places (oidsOf x.hand) (itemOf x.hand) oid o w h ho (by omega) (by rw [oids_len]; omega) (fun m hm => itemOf_ne hm) H.room).mono ?_
 rintro e w' ⟨rfl, C', h', s'⟩
 have eE : putE_ x.places oid o = x.putE oid o := by
  unfold putE_ CacheD.putE CacheD.there
  by_cases ht : 0 ≤ oid ∧ oid < (x.places.length : Int)
  ·rw [if_pos ht, show decide (0 ≤ oid ∧ oid < (x.places.length : Int)) = true by simpa using ht]; rfl
  ·rw [if_neg ht, show decide (0 ≤ oid ∧ oid < (x.places.length : Int)) = false by simpa using ht]; rfl
 refine ⟨by rw [eE], C', ?_, s'⟩
 unfold putFF putUU at h'
 unfold CacheAt CacheD.put
 rw [eE] at h'
 by_cases h0 : x.putE oid o = 0
 ·rw [if_pos h0, if_pos h0] at h'
  rw [if_pos h0]
  have hth : 0 ≤ oid ∧ oid < (x.n : Int) := by
   unfold CacheD.putE CacheD.there at h0
   by_cases ht : 0 ≤ oid ∧ oid < (x.places.length : Int)
   ·exact ht
   ·rw [if_neg (by simpa using ht)] at h0; cases h0
  obtain ⟨_, w2, w3⟩ := with_use H.hand x.room H.room ⟨oid, o, true⟩ hth
  unfold CacheD.with_
  dsimp only at w2 w3 ⊢
  rw [w2, w3]
  exact h'
 ·rw [if_neg h0, if_neg h0] at h'
  rw [if_neg h0]
  exact h'
theorem cevict_any (h : CacheAt w C x) (H : CacheOk x) (pick : Int) (hi : -9223372036854775808 ≤ pick ∧ pick ≤ 9223372036854775807) :
  Calls Tryz.prog 17 #[ptr C.g, .int .i64 pick] w fun e w' => e = .returned (.tuple #[.int .i64 (x.evictO pick), .bool x.evictB]) ∧ ∃ C', CacheAt w' C' (x.evict pick) ∧ CStep C C' w w' := by
 have hl := H.len
 refine (evict_any C x.room x.places (oidsOf x.hand) (itemOf x.hand) pick hi w h (by rw [oids_len]; omega) (fun m hm => itemOf_ne hm)).mono ?_
 rintro e w' ⟨rfl, C', h', s'⟩
 obtain ⟨e1, e2, e3, e4, _⟩ := evict_law H.hand pick
 refine ⟨by rw [e1, e2], C', ?_, s'⟩
 rw [e3, e4] at h'
 unfold CacheAt
 have r1 : (x.evict pick).room = x.room := by unfold CacheD.evict; split <;> rfl
 have r2 : (x.evict pick).places = x.places := by unfold CacheD.evict; split <;> rfl
 rw [r1, r2]
 exact h'
theorem move_law (oid s : Int) : moveE_ x.disk.size x.places oid s = x.moveE oid s ∧ moveL x.disk.size x.places oid s = (x.move oid s).places := by
 have e1 : moveE_ x.disk.size x.places oid s = x.moveE oid s := by
  unfold moveE_ CacheD.moveE CacheD.there
  by_cases ht : (0 ≤ oid ∧ oid < (x.places.length : Int)) ∧ 0 ≤ s ∧ s < x.disk.size
  ·rw [if_pos ht, if_pos ⟨by simpa using ht.1, ht.2⟩]
  ·rw [if_neg ht, if_neg (fun h => ht ⟨by simpa using h.1, h.2⟩)]
 refine ⟨e1, ?_⟩
 unfold CacheD.move
 rw [← e1]
 unfold moveL moveE_
 by_cases ht : (0 ≤ oid ∧ oid < (x.places.length : Int)) ∧ 0 ≤ s ∧ s < x.disk.size
 ·rw [if_pos ht, if_pos ht]; rfl
 ·rw [if_neg ht, if_neg ht]; rfl
theorem cmove_any (h : CacheAt w C x) (H : CacheOk x) (D : DiskP) (hD : DiskAt w D x.disk) (hp : C.dp = D.p) (oid s : Int) :
  Calls Tryz.prog 24 #[ptr C.g, .int .i64 oid, .int .i64 s] w fun e w' => e = .returned (.int .i64 (x.moveE oid s)) ∧ CacheAt w' C (x.move oid s) ∧ CStep C C w w' := by
 have hl := H.len
 obtain ⟨e1, e2⟩ := move_law (x := x) oid s
 refine (move_any C x.room x.places (oidsOf x.hand) (itemOf x.hand) D x.disk oid s w h hD H.disk hp (by omega)).mono ?_
 rintro e w' ⟨rfl, h', s'⟩
 rw [e2] at h'
 refine ⟨by rw [e1], ?_, s'⟩
 have r1 : (x.move oid s).room = x.room := by unfold CacheD.move; split <;> rfl
 have r2 : (x.move oid s).hand = x.hand := by unfold CacheD.move; split <;> rfl
 unfold CacheAt
 rw [r1, r2]
 exact h'
theorem chand_any (h : CacheAt w C x) (H : CacheOk x) :
  Calls Tryz.prog 26 #[ptr C.g] w fun e w' => ∃ v, e = .returned v ∧ w'.ownsRow w.heap.size 3 1 v (risingL x.n (handB true x.hand)).length ((risingL x.n (handB true x.hand)).map (Value.int .i64)) ∧ Below w.heap.size w w' := by
 have hl := H.len
 refine (hand_any C x.room x.places (oidsOf x.hand) (itemOf x.hand) w h (by rw [oids_len]; omega)).mono ?_
 rintro e w' ⟨v, rfl, h1, h2⟩
 rw [← sortI_len, hand_rising H.hand] at h1
 exact ⟨v, rfl, h1, h2⟩
theorem move_same (oid s : Int) : (x.move oid s).room = x.room ∧ (x.move oid s).hand = x.hand ∧ (x.move oid s).n = x.n := by
 unfold CacheD.n CacheD.move
 split
 ·exact ⟨rfl, rfl, by simp⟩
 ·exact ⟨rfl, rfl, rfl⟩
theorem csettle_any (h : CacheAt w C x) (H : CacheOk x) (D : DiskP) (hD : DiskAt w D x.disk) (hp : C.dp = D.p) (oid s : Int) :
  Calls Tryz.prog 23 #[ptr C.g, .int .i64 oid, .int .i64 s] w fun e w' => e = .returned (.int .i64 (x.moveE oid s)) ∧ ∃ C', CacheAt w' C' (x.settle oid s) ∧ CStep C C' w w' := by
 have hl := H.len
 obtain ⟨e1, e2⟩ := move_law (x := x) oid s
 refine (settle_any C x.room x.places (oidsOf x.hand) (itemOf x.hand) D x.disk oid s w h hD H.disk hp (by omega) (by rw [oids_len]; omega) (fun m hm => itemOf_ne hm) H.room).mono ?_
 rintro e w' ⟨rfl, C', h', s'⟩
 rw [e2] at h'
 refine ⟨by rw [e1], C', ?_, s'⟩
 obtain ⟨r1, r2, r3⟩ := move_same (x := x) oid s
 unfold setlF setlU at h'
 rw [e1] at h'
 unfold CacheD.settle
 dsimp only
 rw [r2]
 by_cases h0 : x.moveE oid s = 0
 ·rw [if_pos h0, if_pos h0] at h'
  rw [if_pos h0]
  have hth : 0 ≤ oid ∧ oid < (x.n : Int) := by
   unfold CacheD.moveE CacheD.there at h0
   by_cases ht : 0 ≤ oid ∧ oid < (x.places.length : Int)
   ·exact ht
   ·rw [if_neg (fun h => ht (by simpa using h.1))] at h0; cases h0
  cases hi : itemOf x.hand oid with
  | none =>
   rw [hi] at h'
   unfold CacheAt
   rw [r1, r2]
   exact h'
  | some it =>
   rw [hi] at h'
   dsimp only at h' ⊢
   cases hc : it.ch
   ·rw [hc] at h'
    simp only [Bool.false_eq_true, if_false] at h' ⊢
    unfold CacheAt
    rw [r1, r2]
    exact h'
   ·rw [hc] at h'
    simp only [if_true] at h' ⊢
    obtain ⟨_, w2, w3⟩ := with_use H.hand x.room H.room ⟨oid, it.o, false⟩ hth
    unfold CacheAt CacheD.with_
    dsimp only at w2 w3 ⊢
    rw [r1, r2, r3, w2, w3]
    exact h'
 ·rw [if_neg h0, if_neg h0] at h'
  rw [if_neg h0]
  unfold CacheAt
  rw [r1, r2]
  exact h'
end
end Go.Proofs.YtemcgfncahccgaaGreat
namespace Go.Proofs
open Go.Shelf
end Go.Proofs
namespace Go.Proofs.YtemcgfncahccgaaGreat
open Go.RowKit Go.Shelf Go.Lib
theorem drewN_below (w : World) (q : Nat) : Below w.heap.size w (w.drewN q) := below_drewN' (Below.refl _ w) q
end Go.Proofs.YtemcgfncahccgaaGreat
namespace Go

section
variable {P : Program} {ops : Array Oper} {Q : Exit → Act → World → Prop} {md : Region.Mode} {S : Array Bool → World → Prop}

def wpAnyL (P : Program) (md : Region.Mode) (ops : Array Oper) (Q : Exit → Act → World → Prop) (S : Array Bool → World → Prop) : Nat → Array Bool → Act → World → Prop
 | 0, listed, a, w => Region.ready md ops listed = [] ∧ Q .normal a w
 | fuel + 1, listed, a, w =>
  (Region.ready md ops listed = [] → Q .normal a w) ∧
  ∀ i ∈ Region.ready md ops listed, wpOp P ops Q i (fun a' w' => S (listed.setIfInBounds i true) w' ∧ wpAnyL P md ops Q S fuel (listed.setIfInBounds i true) a' w') a w

/-- each of ks waits for i, or for another one of ks -/
def Region.waits (md : Region.Mode) (ops : Array Oper) (i : Nat) (ks : List Nat) : Bool :=
 ks.all fun k => k != i && ((ops[k]?).map fun o => o.after.any fun e => Region.binds md e && (e.on == i || ks.contains e.on)).getD false
def Unlisted (ks : List Nat) (l : Array Bool) : Prop := ∀ k ∈ ks, l.getD k true = false
theorem unlisted_false {l : Array Bool} {k : Nat} (h : l.getD k true = false) : l.getD k false = false := by
 rcases Nat.lt_or_ge k l.size with h' | h'
 ·simp [h'] at h ⊢; exact h
 ·simp [Array.getElem?_eq_none h'] at h
theorem Unlisted.step {ks : List Nat} {l : Array Bool} {i j : Nat} (hw : Region.waits md ops i ks = true) (hu : Unlisted ks l) (hi : l.getD i true = false) (hj : j ∈ Region.ready md ops l) (hne : j ≠ i) : Unlisted ks (l.setIfInBounds j true) := by
 intro k hk
 by_cases hjk : j = k
 ·subst hjk
  have h1 := List.all_eq_true.1 hw j hk
  obtain ⟨_, o, ho, hall⟩ := mem_ready.1 hj
  rw [ho] at h1
  simp only [Bool.and_eq_true, Option.map_some, Option.getD_some, Array.any_eq_true, Bool.or_eq_true, beq_iff_eq, List.contains_iff_mem] at h1
  obtain ⟨_, n, hn, hb, hon⟩ := h1
  have h2 := hall _ (Array.getElem_mem hn) hb
  rcases hon with he | he
  ·rw [he, unlisted_false hi] at h2; cases h2
  ·rw [unlisted_false (hu _ he)] at h2; cases h2
 ·rw [getD_set_ne true hjk]; exact hu k hk

def AllReadyL (P : Program) (md : Region.Mode) (ops : Array Oper) (Q : Exit → Act → World → Prop) (S : Array Bool → World → Prop) (fuel : Nat) (listed : Array Bool) (a : Act) (w : World) (rs : List Nat) : Prop :=
 ∀ i ∈ rs, wpOp P ops Q i (fun a' w' => S (listed.setIfInBounds i true) w' ∧ wpAnyL P md ops Q S fuel (listed.setIfInBounds i true) a' w') a w
theorem AllReadyL.nil {fuel : Nat} {listed : Array Bool} {a : Act} {w : World} : AllReadyL P md ops Q S fuel listed a w [] := fun _ h => by cases h
theorem AllReadyL.cons {fuel : Nat} {listed : Array Bool} {a : Act} {w : World} {i : Nat} {o : Oper} {rs : List Nat} (ho : ops[i]? = some o)
  (h : ∀ K' : Act → World → Prop, Shut (∀ a w, S (listed.setIfInBounds i true) w → (S (listed.setIfInBounds i true) w → wpAnyL P md ops Q S fuel (listed.setIfInBounds i true) a w) → K' a w) → if Region.wanted o (yielded ops a.tmps) = true then Oper.wp P o a w K' Q else K' (a.put o.dst undef) w)
  (hs : AllReadyL P md ops Q S fuel listed a w rs) : AllReadyL P md ops Q S fuel listed a w (i :: rs) := fun j hj => by
 rcases List.mem_cons.1 hj with rfl | hj
 ·exact wpOp_step ho (fun K' hK => h K' (fun a w hS hW => hK a w ⟨hS, hW hS⟩))
 ·exact hs j hj
end
end Go
namespace Go.Proofs.YtemcgfncahccgaaGreat
open Go.RowKit

def magicB : List UInt8 := [67, 72, 76, 71]
/-- the number that k bytes from i on tell -/
def numAt (b : List UInt8) (i k : Nat) : Nat := leN ((b.drop i).take k)
def headLast (b : List UInt8) (i : Nat) : Int := if i = 0 then -1 else (numAt b (20 + 6 * (i - 1)) 2 : Int)
def headGo (N : Int) (b : List UInt8) (i : Nat) : Bool := decide (headLast b i < (numAt b (20 + 6 * i) 2 : Int)) && decide ((numAt b (20 + 6 * i) 2 : Int) < N)
def headB (N : Int) (b : List UInt8) : Bool :=
 sealedB b && ((b.take 4 == magicB) && (decide (numAt b 4 8 < 9223372036854775808) && (decide ((numAt b 12 2 : Int) ≤ N) && (decide (numAt b 14 2 ≤ 4096) &&
  ((List.range (numAt b 12 2)).all (headGo N b) && !((b.take 508).drop (20 + 6 * numAt b 12 2)).any (· != 0))))))

section
variable {D : DiskP} {x : DiskD} {w W W' : World} {N : Int} {pl gs B : Nat} {v : Value} {rest : List UInt8} {S : Array Value}
end
theorem BytesIn.room {W : World} {B : Nat} {a : Option Addr} {n c : Nat} {l : List UInt8} (h : BytesIn W B (.slice a n c) l) : l.length = n ∧ n ≤ c := by
 obtain ⟨_, a', c', e, h3, _⟩ := h
 injection e with ea el ec
 subst ea ec el
 exact ⟨rfl, h3⟩
section
variable {D : DiskP} {x : DiskD} {w W W' : World} {N : Int} {pl gs B : Nat} {v : Value} {b : List UInt8} {S : Array Value}
end
theorem all_range_false {p : Nat → Bool} {j n : Nat} (hj : j < n) (h : p j = false) : (List.range n).all p = false := by
 rw [List.all_eq_false]
 exact ⟨j, List.mem_range.2 hj, by simp [h]⟩
theorem info_int : (Tryz.prog.info? 3).map (fun i => (i.zero, i.size, i.bytes)) = some (some (.int .i64 0), 1, 8) := by kernel_rfl
/-- what the loop's drawn region reads -/
def LS (gs : Nat) (vo vm : Value) (l : Array Bool) (w' : World) : Prop := (l.getD 14 true = false → w'.cell? ⟨gs, 1, none⟩ = some vo) ∧ (l.getD 16 true = false → w'.cell? ⟨gs, 5, none⟩ = some vm)
theorem LS.of {w' : World} {gs : Nat} {t : TypeId} {S : Array Value} {vo vm : Value} (hb : Blk w' gs t S) (h1 : S[1]? = some vo) (h5 : S[5]? = some vm) (l : Array Bool) : LS gs vo vm l w' := ⟨fun _ => hb.cell_is 1 h1, fun _ => hb.cell_is 5 h5⟩
theorem LS.other {gs : Nat} {vo vm : Value} {i : Nat} (h14 : i ≠ 14) (h16 : i ≠ 16) (l : Array Bool) (w' : World) : LS gs vo vm (l.setIfInBounds i true) w' ↔ LS gs vo vm l w' := by
 unfold LS
 rw [getD_set_ne true h14, getD_set_ne true h16]
section
variable {D : DiskP} {x : DiskD} {w W W' : World} {N : Int} {pl gs B g1 nb : Nat} {v vo vm : Value} {b : List UInt8} {S : Array Value} {i jo jm : Nat}
end
end Go.Proofs.YtemcgfncahccgaaGreat
