/-
  LogsWhole, the plain law: frames that are written, flushed, crashed, spoiled.
  The program's disk: Bytes, Steps.
  LogsWhole, the plain law: bits that are turned.
-/
import Derived.Test.YtdpniceapmikpaaGreatWh13
import Derived.Test.YtdpniceapmikpaaGreatWh25
import Derived.Test.YtdpniceapmikpaaGreatWh27
import Derived.Test.YtdpniceapmikpaaGreatWh30
import Derived.Test.YtdpniceapmikpaaGreatWh33
import Derived.Test.YtdpniceapmikpaaGreatWh34
import Derived.Test.YtdpniceapmikpaaGreatWh35
set_option linter.unusedVariables false
set_option linter.unusedSimpArgs false
namespace Go.Proofs.YtdpniceapmikpaaGreat
open Go.RowKit

theorem goE_le (e : Nat → Int) : ∀ n, (goE e n).1 ≤ n
 | 0 => Nat.le_refl _
 | n + 1 => by
  show (if (goE e n).2 = 0 then (n + 1, e n) else goE e n).1 ≤ n + 1
  split
  ·exact Nat.le_refl _
  ·exact Nat.le_succ_of_le (goE_le e n)
theorem readR_le (x : DiskD) (N area : Int) (hN : N ≤ 64) : (readR x N area).1 ≤ 73 := by
 unfold readR
 split
 ·split
  ·rename_i hh
   have hb : numAt (headS x N area) 12 2 ≤ 64 ∧ chunksN (numAt (headS x N area) 14 2) ≤ 8 := by
    unfold headB at hh
    simp only [Bool.and_eq_true, decide_eq_true_eq] at hh
    exact ⟨by have := hh.2.2.2.1; omega, by have := hh.2.2.2.2.1; unfold chunksN; omega⟩
   have h1 := goE_le (fun i => objE x N area (1 + i) i) (numAt (headS x N area) 12 2)
   have h2 := goE_le (fun i => partE x N area (numAt (headS x N area) 14 2) (1 + (numAt (headS x N area) 12 2 + i)) i) (chunksN (numAt (headS x N area) 14 2))
   unfold objsR partsR
   split
   ·split
    ·show 1 + (_ + _) ≤ 73
     omega
    ·show 1 + (_ + _) ≤ 73
     omega
   ·show 1 + _ ≤ 73
    omega
  ·show 1 ≤ 73
   omega
 ·show 1 ≤ 73
  omega
section
variable {N a : Nat} {x x' : DiskD} {f : FrameD}
theorem near_calm (h : ReadGo x N a) (hs : x'.size = x.size) (hf : x'.fails = []) : Near x x' N a := by
 have hask := h.ask
 have hhd := h.head
 unfold headB at hhd
 simp only [Bool.and_eq_true, decide_eq_true_eq] at hhd
 have hN := (ask_facts hask).2.1
 have err : ∀ (k : Nat) (n : Int), 0 ≤ n ∧ n < x.size → (x'.plus k).err n = 0 := fun k n hn => by
  unfold DiskD.err
  rw [if_neg (by show ¬ _; rw [show (x'.plus k).size = x.size from hs]; omega), if_neg (by rw [show (x'.plus k).fails = [] from hf]; simp)]
 have h2 := place_there hask 2 0 (.inl ⟨rfl, rfl⟩)
 refine ⟨h, hs, ?_, fun i k hi hk => err k _ (place_there hask 4 i (.inr (.inr ⟨rfl, by omega, by have := hhd.2.2.2.1; omega⟩))), fun i k hi hk => err k _ (place_there hask 3 i (.inr (.inl ⟨rfl, by omega, by have := hhd.2.2.2.2.1; unfold chunksN at hi; omega⟩)))⟩
 have := err 0 _ h2
 rwa [plus_zero] at this
/-- an area's sectors, as places -/
theorem sector_at (h : ReadGo x N a) : (sectorN N 2 a 0).1 = ((Place.sec N ⟨2, a, 0⟩ : Nat) : Int) ∧ Place.ok N ⟨2, a, 0⟩ ∧ (∀ i, i < numAt (headS x N a) 12 2 → (sectorN N 4 a i).1 = ((Place.sec N ⟨4, a, i⟩ : Nat) : Int) ∧ Place.ok N ⟨4, a, i⟩) ∧
  ∀ i, i < chunksN (numAt (headS x N a) 14 2) → (sectorN N 3 a i).1 = ((Place.sec N ⟨3, a, i⟩ : Nat) : Int) ∧ Place.ok N ⟨3, a, i⟩ := by
 obtain ⟨h1, h2, h3, h4⟩ := askB_facts h.ask
 have hhd := h.head
 unfold headB at hhd
 simp only [Bool.and_eq_true, decide_eq_true_eq] at hhd
 have hn := hhd.2.2.2.1
 have hb := hhd.2.2.2.2.1
 have o2 : Place.ok N ⟨2, a, 0⟩ := ⟨h4, .inl ⟨rfl, rfl⟩⟩
 have o4 : ∀ i, i < numAt (headS x N a) 12 2 → Place.ok N ⟨4, a, i⟩ := fun i hi => ⟨h4, .inr (.inr ⟨rfl, by show i < N; omega⟩)⟩
 have o3 : ∀ i, i < chunksN (numAt (headS x N a) 14 2) → Place.ok N ⟨3, a, i⟩ := fun i hi => ⟨h4, .inr (.inl ⟨rfl, by show i < 8; unfold chunksN at hi; omega⟩)⟩
 exact ⟨congrArg Prod.fst (sectorN_place N ⟨2, a, 0⟩ ⟨h1, h2⟩ o2), o2, fun i hi => ⟨congrArg Prod.fst (sectorN_place N ⟨4, a, i⟩ ⟨h1, h2⟩ (o4 i hi)), o4 i hi⟩, fun i hi => ⟨congrArg Prod.fst (sectorN_place N ⟨3, a, i⟩ ⟨h1, h2⟩ (o3 i hi)), o3 i hi⟩⟩
/-- what reads alike is the same frame -/
theorem reads_as (h : ReadGo x N a) (hs : x'.size = x.size) (hf : x'.fails = []) (hr : ∀ p : Place, p.ok N → p.a = a → x'.reads ((p.sec N : Nat) : Int) = x.reads ((p.sec N : Nat) : Int)) : (readR x' N a).2 = 0 ∧ frameOf x' N a = frameOf x N a := by
 obtain ⟨s1, s2, s3, s4⟩ := sector_at h
 refine near_same (near_calm h hs hf) ?_ (fun i hi => ?_) (fun i hi => ?_)
 ·unfold headS
  rw [s1]
  exact hr _ s2 rfl
 ·unfold objS
  rw [(s3 i hi).1]
  exact hr _ (s3 i hi).2 rfl
 ·unfold partS
  rw [(s4 i hi).1]
  exact hr _ (s4 i hi).2 rfl
/-- .. also where only the frame's own places do -/
theorem reads_own (h : ReadGo x N a) (hfr : frameOf x N a = f) (h12 : numAt (headS x N a) 12 2 = f.objs.length) (h14 : numAt (headS x N a) 14 2 = f.state.length) (hs : x'.size = x.size) (hf : x'.fails = []) (hr : ∀ p : Place, p.ok N → p.a = a → placeIn f p → x'.reads ((p.sec N : Nat) : Int) = x.reads ((p.sec N : Nat) : Int)) : (readR x' N a).2 = 0 ∧ frameOf x' N a = f := by
 obtain ⟨s1, s2, s3, s4⟩ := sector_at h
 rw [← hfr]
 refine near_same (near_calm h hs hf) ?_ (fun i hi => ?_) (fun i hi => ?_)
 ·unfold headS
  rw [s1]
  exact hr _ s2 rfl (.inl rfl)
 ·unfold objS
  rw [(s3 i hi).1]
  exact hr _ (s3 i hi).2 rfl (.inr (.inr ⟨rfl, by show i < _; omega⟩))
 ·unfold partS
  rw [(s4 i hi).1]
  exact hr _ (s4 i hi).2 rfl (.inr (.inl ⟨rfl, by show i < _; rw [← h14]; exact hi⟩))
/-- a burst in a sector that the frame wants -/
theorem reads_burst (h : ReadGo x N a) (h12 : numAt (headS x N a) 12 2 = f.objs.length) (h14 : numAt (headS x N a) 14 2 = f.state.length) (hs : x'.size = x.size) (hf : x'.fails = []) (p : Place) (hp : p.ok N) (hpa : p.a = a) (hpi : placeIn f p)
  (hb : Burst (x.reads ((p.sec N : Nat) : Int)) (x'.reads ((p.sec N : Nat) : Int))) (hr : ∀ q : Place, q.ok N → q.sec N ≠ p.sec N → x'.reads ((q.sec N : Nat) : Int) = x.reads ((q.sec N : Nat) : Int)) : (readR x' N a).2 = 170 := by
 obtain ⟨s1, s2, s3, s4⟩ := sector_at h
 have hn := near_calm h hs hf
 obtain ⟨k, b, t⟩ := p
 obtain rfl : b = a := hpa
 have hne : ∀ q : Place, q.ok N → (q.k ≠ k ∨ q.t ≠ t) → q.sec N ≠ Place.sec N ⟨k, b, t⟩ := fun q hq hd he => by
  obtain ⟨e1, _, e3⟩ := Place.sec_inj hq hp he
  have e1 : q.k = k := e1
  have e3 : q.t = t := e3
  omega
 have hh : k ≠ 2 → headS x' N b = headS x N b := fun hk => by
  unfold headS
  rw [s1]
  exact hr _ s2 (hne _ s2 (.inl (fun e => hk e.symm)))
 rcases hpi with hk | ⟨hk, ht⟩ | ⟨hk, ht⟩
 ·have hk : k = 2 := hk
  subst hk
  have ht : t = 0 := by
   have h1 := hp.2
   simp at h1
   exact h1
  subst ht
  rw [near_head hn (by unfold headS; rw [s1]; exact hb)]
 ·have hk : k = 3 := hk
  have ht : t < chunksN f.state.length := ht
  subst hk
  rw [← h14] at ht
  refine near_part hn (hh (by decide)) ht (fun i hi => ?_) (fun i hij hi => ?_) ?_
  ·unfold objS
   rw [(s3 i hi).1]
   exact hr _ (s3 i hi).2 (hne _ (s3 i hi).2 (.inl (show (4 : Nat) ≠ 3 by decide)))
  ·unfold partS
   rw [(s4 i hi).1]
   exact hr _ (s4 i hi).2 (hne _ (s4 i hi).2 (.inr hij))
  ·unfold partS
   rw [(s4 t ht).1]
   exact hb
 ·have hk : k = 4 := hk
  have ht : t < f.objs.length := ht
  subst hk
  rw [← h12] at ht
  have h1 := near_obj hn (hh (by decide)) ht (fun i hi => by
   unfold objS
   rw [(s3 i (by omega)).1]
   exact hr _ (s3 i (by omega)).2 (hne _ (s3 i (by omega)).2 (.inr (Nat.ne_of_lt hi)))) (by
   unfold objS
   rw [(s3 t ht).1]
   exact hb)
  rw [h1]
end
/-- where nothing is written, a crash changes nothing -/
theorem crashL_other (kp : Nat → Nat) : ∀ (ys : List WaitD) (f : Int → List UInt8) (i : Nat) (m : Int), (∀ y ∈ ys, y.n ≠ m) → crashL kp f ys i m = f m
 | [], f, i, m, _ => rfl
 | y :: ys, f, i, m, h => by
  show crashL kp (laidK (kp i) y f) ys (i + 1) m = f m
  rw [crashL_other kp ys _ _ m (fun z hz => h z (List.mem_cons_of_mem _ hz))]
  unfold laidK
  rw [if_neg (fun e => h y List.mem_cons_self e.symm)]
theorem reads_nil {x : DiskD} (h : x.waits = []) (n : Int) : x.reads n = x.lasts n := by
 unfold DiskD.reads
 rw [h]
 rfl
end Go.Proofs.YtdpniceapmikpaaGreat
namespace Go.Proofs.YtdpniceapmikpaaGreat
open Go.RowKit

/-- all that is read -/
def readsL (x : DiskD) : List UInt8 := (List.range x.size.toNat).flatMap fun (n : Nat) => x.reads (n : Int)
def readsTo (x : DiskD) (k : Nat) : List UInt8 := (List.range k).flatMap fun (n : Nat) => x.reads (n : Int)
theorem readsTo_succ (x : DiskD) (k : Nat) : readsTo x (k + 1) = readsTo x k ++ x.reads k := by
 unfold readsTo
 rw [List.range_succ, List.flatMap_append]
 simp
theorem readsTo_len {x : DiskD} (hx : x.sound) (k : Nat) : (readsTo x k).length = 512 * k := flat_len _ (fun n => DiskD.reads_len x hx n) _
set_option maxRecDepth 100000 in
set_option maxHeartbeats 4000000 in
theorem dbytes_any (D : DiskP) (x : DiskD) (w : World) (h : DiskAt w D x) (hx : x.ok) :
  Calls Tryz.prog 24 #[ptr D.p] w fun e w' => ∃ u, e = .returned u ∧ w'.ownsRow w.heap.size 5 1 u (readsL x).length ((readsL x).map vu8) ∧ Below w.heap.size w w' := by
 have HS := Lib.hid (dsize_any D x w h hx)
 have HR := Lib.hid (fun (n : Nat) W hh => reads_any D x n W hh hx.sound)
 have HH := Lib.hid h
 have HL := Lib.hid (readsTo_len hx.sound)
 have HLR := Lib.hid (fun n => x.reads_len hx.sound n)
 have HSU := Lib.hid (readsTo_succ x)
 have hl0 : sector0.length = 512 := List.length_replicate
 obtain ⟨hx1, hx2, _⟩ := hx
 obtain ⟨s, hs⟩ : ∃ s : Nat, x.size = s := ⟨x.size.toNat, by omega⟩
 have eR : readsL x = readsTo x s := by unfold readsL readsTo; rw [hs]; rfl
 rw [eR]
 rw [hs] at HS hx1 hx2
 clear eR h hs
 unfold ptr at *
 go_enter Tryz.func24, Tryz.ntmps24
 go_wp2_with fail
 refine HS.out.mono ?_; rintro e w1 ⟨rfl, rfl⟩
 go_wp2_with fail
 go_loopw [3, 8] (fun o i wr => ∃ k : Nat, k ≤ s ∧ i = .int .i64 (k : Int) ∧ wr.ownsRow w.heap.size 5 1 o (512 * k) ((readsTo x k).map vu8) ∧ Below w.heap.size w wr) (fun _ i _ => s - (intOf i).toNat)
 case atStart => exact ⟨0, by omega, rfl, World.ownsRow_nil _ _ _ _, Below.refl _ _⟩
 case round =>
  obtain ⟨k, hk, rfl, hO, hB⟩ := hrel
  by_cases hlt : k < s
  ·have hli : (k : Int) < (s : Int) := by omega
   have HO := Lib.hid hO
   have HB := Lib.hid hB
   have hsz := hB.size
   clear hO hB
   go_wp2_with fail
   refine (HR.out k wr (HH.out.below HB.out)).mono ?_; rintro e w2 ⟨rfl, hb2⟩
   have hbl := HLR.out k
   have hnx := HSU.out k
   have hlk := HL.out k
   obtain ⟨b, eb⟩ : ∃ b, b = x.reads k := ⟨_, rfl⟩
   rw [← eb] at hbl hnx ⊢
   have HNX := Lib.hid hnx
   clear eb hnx
   have hO2 := ownsRow_out (F := fun _ => False) (outB hb2) HO.out (fun _ _ => id)
   have hB2 := HB.out.trans (hb2.mono hsz)
   have hs2 := hb2.size
   have z1 : Blk (w2.alloc (.cells Tryz.zeroCells111 111)) w2.heap.size 111 (sector0.map vu8).toArray := by rw [← zero111]; exact Blk.new w2 _ _
   have z2 := z1.row (b.map vu8).toArray
   have hO3 := ownsRow_out (F := fun i => i = w2.heap.size) (out_row (w := w2.alloc (.cells Tryz.zeroCells111 111)) (b.map vu8).toArray rfl) (hO2.alloc (.cells Tryz.zeroCells111 111)) (fun i hi e => by have := (hO2.lt i hi).2; omega)
   have hB3 := below_row (hB2.alloc hB2.size (.cells Tryz.zeroCells111 111)) (b.map vu8).toArray (g := w2.heap.size) (by omega)
   have hs3 : ((w2.alloc (.cells Tryz.zeroCells111 111)).setRow w2.heap.size (b.map vu8).toArray).heap.size = w2.heap.size + 1 := by simp
   have HV := Lib.hid (blk_bytes z2 512 (by omega) (by rw [hbl]; decide))
   have hszb := sector_size b hbl
   have hseb := sector_eq _ _ hl0 hbl
   have honeb := sector_all b
   have Z1 := Lib.hid z1
   have HO3 := Lib.hid hO3
   have HB3 := Lib.hid hB3
   have hbt : b.take 512 = b := List.take_of_length_le (by omega)
   rw [hbt, hbl] at HV
   clear z1 z2 hO2 hB2 hO3 hB3 hb2 HO HB
   unfold sectorV
   obtain ⟨W3, eW3⟩ : ∃ W3, W3 = (w2.alloc (.cells Tryz.zeroCells111 111)).setRow w2.heap.size (b.map vu8).toArray := ⟨_, rfl⟩
   rw [← eW3] at HV HO3 HB3 hs3
   go_upto_region 6 with (refine wpList_store_row rfl 111 _ _ rfl w2.heap.size (b.map vu8).toArray rfl rfl 111 _ Z1.out hszb hseb honeb ?_)
   rw [← eW3]
   clear eW3
   go_wp2_with (at_builtin; refine wpList_append_bytes _ rfl (.tmp 14) (.tmp 15) rfl w.heap.size W3.heap.size (512 * k) _ _ rfl HO3.out (some ⟨w2.heap.size, 0, none⟩) 512 512 b rfl hbl HV.out (by omega) (by omega) ?_; intro u4 w4 hO4 hg4)
   go_roundw
   case rel =>
    refine ⟨k + 1, by omega, by go_num, ?_, HB3.out.grown hg4 (by omega) (fun r hr => (HO3.out.lt r hr).1)⟩
    rw [HNX.out, List.map_append, show 512 * (k + 1) = 512 * k + 512 by omega]
    exact hO4
   case measure => simp [intOf]; omega
  ·have hnl : ¬ ((k : Int) < (s : Int)) := by omega
   have hks : k = s := by omega
   go_wp2_with fail
   go_ret
   have hl := HL.out k
   rw [← hks, hl]
   exact ⟨_, rfl, hO, hB⟩
end Go.Proofs.YtdpniceapmikpaaGreat
namespace Go.Proofs.YtdpniceapmikpaaGreat
open Go.RowKit

theorem one_bit : ∀ b : Nat, b < 8 → ∀ j : Nat, j < 8 → j ≠ b → (UInt8.ofNat (2 ^ b)).toNat.testBit j = false := by decide
theorem flip_bits (l : List UInt8) (o b i : Nat) (hb : b < 8) (hi : i ≠ 8 * o + b) : (bitsOf (flipL l o (UInt8.ofNat (2 ^ b))))[i]? = (bitsOf l)[i]? := by
 rw [bitsOf_at, bitsOf_at]
 unfold flipL
 by_cases h : i / 8 = o
 ·have hj : i % 8 ≠ b := by omega
  have hj8 : i % 8 < 8 := Nat.mod_lt _ (by decide)
  rw [h, List.getElem?_set, if_pos rfl]
  by_cases hl : o < l.length
  ·rw [if_pos hl, List.getElem?_eq_getElem hl, Option.map_some, Option.map_some, List.getD_eq_getElem?_getD, List.getElem?_eq_getElem hl, Option.getD_some, UInt8.toNat_xor, Nat.testBit_xor, one_bit b hb _ hj8 hj, Bool.xor_false]
  ·rw [if_neg hl, List.getElem?_eq_none (by omega)]
 ·rw [List.getElem?_set, if_neg (fun e => h e.symm)]
section
variable {x : DiskD}
/-- what turned bits leave -/
theorem bitsT_facts (hx : x.ok) (hw : x.waits = []) (s fr : Int) (t : Nat) : ∀ k, (bitsT x s fr t k).waits = [] ∧ (bitsT x s fr t k).fails = x.fails ∧ (∀ n, n ≠ s → (bitsT x s fr t k).lasts n = x.lasts n) ∧
  (¬ (0 ≤ s ∧ s < x.size) → (bitsT x s fr t k).lasts = x.lasts) ∧ ∃ p : Nat, (fr < 0 → (bitsT x s fr t k).lasts = x.lasts) ∧ (0 ≤ fr → p = fr.toNat) ∧ ∀ i, (i < p ∨ p + k ≤ i) → (bitsOf ((bitsT x s fr t k).lasts s))[i]? = (bitsOf (x.lasts s))[i]?
 | 0 => ⟨hw, rfl, fun _ _ => rfl, fun _ => rfl, fr.toNat, fun _ => rfl, fun _ => rfl, fun _ _ => rfl⟩
 | k + 1 => by
  obtain ⟨h1, h2, h3, h4, p, h5, h6, h7⟩ := bitsT_facts hx hw s fr t k
  cases hb : bitAt fr t k with
  | false =>
   rw [bitsT_no x s hb]
   exact ⟨h1, h2, h3, h4, p, h5, h6, fun i hi => h7 i (by omega)⟩
  | true =>
   have hf : 0 ≤ fr ∧ fr < 4096 ∧ fr + k < 4096 := by
    unfold bitAt at hb
    simp only [Bool.and_eq_true, decide_eq_true_eq] at hb
    exact hb.1
   obtain ⟨f, rfl⟩ : ∃ f : Nat, fr = f := ⟨fr.toNat, by omega⟩
   rw [bitsT_yes x s hb]
   obtain ⟨y, ey⟩ : ∃ y, y = bitsT x s f t k := ⟨_, rfl⟩
   have hs := (bitsT_size x s f t k).1
   rw [← ey] at h1 h2 h3 h4 h5 h7 hs ⊢
   obtain ⟨q, eq⟩ : ∃ q, q = (f + k) / 8 := ⟨_, rfl⟩
   obtain ⟨r, er⟩ : ∃ q, q = (f + k) % 8 := ⟨_, rfl⟩
   rw [← eq, ← er]
   obtain ⟨c, ec⟩ : ∃ c, c = UInt8.ofNat (2 ^ r) := ⟨_, rfl⟩
   rw [← ec]
   have hp : p = f := by rw [h6 (by omega)]; rfl
   unfold DiskD.spoilT
   by_cases hsp : y.spoils s q = true
   ·rw [if_pos hsp]
    have hh := of_decide_eq_true hsp
    refine ⟨by show y.waits.map _ = []; rw [h1]; rfl, h2, fun n hn => ?_, fun hn => absurd hn (by rw [← hs]; omega), p, fun h => absurd h (by omega), h6, fun i hi => ?_⟩
    ·show (if n = s then _ else y.lasts n) = _
     rw [if_neg hn]
     exact h3 n hn
    ·show (bitsOf (if s = s then flipL (y.lasts s) (q : Int).toNat c else y.lasts s))[i]? = _
     rw [if_pos rfl, Int.toNat_natCast, ec, flip_bits _ _ _ _ (by omega) (by omega)]
     exact h7 i (by omega)
   ·rw [if_neg hsp]
    exact ⟨h1, h2, h3, h4, p, h5, h6, fun i hi => h7 i (by omega)⟩
/-- .. as reads: at one sector a burst, or nothing -/
theorem bitsT_reads (hx : x.ok) (hw : x.waits = []) (s fr : Int) (t : Nat) : (∀ n, n ≠ s → (bitsT x s fr t 32).reads n = x.reads n) ∧ (¬ (0 ≤ s ∧ s < x.size) → (bitsT x s fr t 32).reads s = x.reads s) ∧
  ((bitsT x s fr t 32).reads s ≠ x.reads s → Burst (x.reads s) ((bitsT x s fr t 32).reads s)) := by
 obtain ⟨h1, h2, h3, h4, p, h5, h6, h7⟩ := bitsT_facts hx hw s fr t 32
 have ho := bitsT_ok hx s fr t 32
 refine ⟨fun n hn => ?_, fun hn => ?_, fun hn => ?_⟩
 ·rw [reads_nil h1, reads_nil hw]; exact h3 n hn
 ·rw [reads_nil h1, reads_nil hw, h4 hn]
 ·rw [reads_nil h1, reads_nil hw] at hn ⊢
  exact ⟨by rw [hx.2.2.1, ho.2.2.1], fun e => hn e.symm, p, fun i hi => (h7 i hi).symm⟩
theorem bitsT_bytes (hx : x.ok) (hw : x.waits = []) (s fr : Int) (t : Nat) : readsL (bitsT x s fr t 32) = readsL x ↔ (bitsT x s fr t 32).reads s = x.reads s := by
 obtain ⟨h1, h2, _⟩ := bitsT_reads hx hw s fr t
 have hs := (bitsT_size x s fr t 32).1
 have ho := bitsT_ok hx s fr t 32
 constructor
 ·intro h
  by_cases hin : 0 ≤ s ∧ s < x.size
  ·obtain ⟨n, rfl⟩ := Int.eq_ofNat_of_zero_le hin.1
   have hn : n < x.size.toNat := by omega
   apply List.ext_getElem?
   intro i
   rcases Nat.lt_or_ge i 512 with hi | hi
   ·have e1 := flat_at (fun m : Nat => (bitsT x n fr t 32).reads m) (fun m => DiskD.reads_len _ ho.sound m) x.size.toNat n i hn hi
    have e2 := flat_at (fun m : Nat => x.reads m) (fun m => DiskD.reads_len _ hx.sound m) x.size.toNat n i hn hi
    rw [← e1, ← e2]
    unfold readsL at h
    rw [hs] at h
    exact congrArg (fun l => l[512 * n + i]?) h
   ·rw [List.getElem?_eq_none (by rw [DiskD.reads_len _ ho.sound]; exact hi), List.getElem?_eq_none (by rw [DiskD.reads_len _ hx.sound]; exact hi)]
  ·exact h2 hin
 ·intro h
  have e : (fun n : Int => (bitsT x s fr t 32).reads n) = fun n => x.reads n := by
   funext n
   by_cases hn : n = s
   ·rw [hn, h]
   ·exact h1 n hn
  unfold readsL
  rw [hs]
  congr 1
  funext n
  exact congrFun e (n : Int)
end
end Go.Proofs.YtdpniceapmikpaaGreat
