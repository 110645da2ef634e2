/-
  The program's cache: Evict.
  The plain law of the cache: a use, an eviction.
  The program's cache: Move.
  The program's cache: an item is built.
  The program's cache: Put.
  The program's cache: Settle.
-/
import Derived.Test.YtemcgfncahccgaaGreatCh3
import Derived.Test.YtemcgfncahccgaaGreatCh17
import Derived.Test.YtemcgfncahccgaaGreatCh19
import Derived.Test.YtemcgfncahccgaaGreatCh20
import Derived.Test.YtemcgfncahccgaaGreatCh22
set_option linter.unusedVariables false
set_option linter.unusedSimpArgs false
namespace Go.Proofs.YtemcgfncahccgaaGreat
open Go.RowKit Go.Shelf

theorem tmod_tmod (p n : Int) (hn : 0 < n) : (p.tmod n + n).tmod n = p % n := by
 have h1 := Int.emod_nonneg p (show n ≠ 0 by omega)
 have h2 := Int.emod_lt_of_pos p hn
 have h3 := tmod_emod p n hn
 by_cases h : p.tmod n < 0
 ·rw [h3.1 h, Int.tmod_eq_emod_of_nonneg h1, Int.emod_emod_of_dvd p (Int.dvd_refl n)]
 ·rw [h3.2 h, Int.tmod_eq_emod_of_nonneg (by omega), Int.add_emod_right, Int.emod_emod_of_dvd p (Int.dvd_refl n)]
theorem tmod_low (p n : Int) (hn : 0 < n) : -n ≤ p.tmod n ∧ p.tmod n < n := by
 have h1 := Int.emod_nonneg p (show n ≠ 0 by omega)
 have h2 := Int.emod_lt_of_pos p hn
 have h3 := tmod_emod p n hn
 by_cases h : p.tmod n < 0
 ·have := h3.1 h; omega
 ·have := h3.2 h; omega

def evO (cl : List Int) (pick : Int) : Int := if cl = [] then 0 else pickL cl pick
def evB (cl : List Int) : Bool := decide (cl ≠ [])
def evF (f : Int → Option ItemD) (cl : List Int) (pick : Int) : Int → Option ItemD := if cl = [] then f else dropF f (pickL cl pick)
def evU (us cl : List Int) (pick : Int) : List Int := if cl = [] then us else woL us (pickL cl pick)
set_option maxHeartbeats 4000000 in
theorem evict_any (C : CacheP) (room : Int) (ps us : List Int) (f : Int → Option ItemD) (pick : Int) (hi : -9223372036854775808 ≤ pick ∧ pick ≤ 9223372036854775807) (w : World) (h : CacheRaw w C room ps f us) (hl : us.length ≤ 100000) (hf : ∀ m ∈ us, f m ≠ none) :
  Calls Tryz.prog 17 #[ptr C.g, .int .i64 pick] w fun e w' => e = .returned (.tuple #[.int .i64 (evO (sortI (cleanU f us)) pick), .bool (evB (sortI (cleanU f us)))]) ∧ ∃ C', CacheRaw w' C' room ps (evF f (sortI (cleanU f us)) pick) (evU us (sortI (cleanU f us)) pick) ∧ CStep C C' w w' := by
 have hb1 : Below w.heap.size w (w.alloc (.cells #[ptr C.g] 35)) := (Below.refl _ w).alloc (Nat.le_refl _) _
 have HS := Lib.hid (clean_sorted C room ps us f (by omega) hf _ w.heap.size (by simp) ((Blk.new w 35 #[ptr C.g]).cell_is 0 rfl) (h.below hb1))
 have hcl0 := cleanU_len f us
 have hcl1 := sortI_len (cleanU f us)
 obtain ⟨cl, ecl⟩ : ∃ cl, cl = sortI (cleanU f us) := ⟨_, rfl⟩
 rw [← ecl] at hcl1 HS ⊢
 rw [← hcl1] at HS
 have hcl : cl.length ≤ 100000 := by omega
 have H := Lib.hid h
 have HC := Lib.hid (callsIn_wide.1 (clean_in 0 C.g w))
 have HB1 := Lib.hid hb1
 unfold ptr at *
 clear h hb1 hcl0 hcl1 ecl
 by_cases hn : cl = []
 ·subst hn
  rw [show evO [] pick = 0 from rfl, show evB [] = false from rfl, show evF f [] pick = f from rfl, show evU us [] pick = us from rfl]
  go_enter Tryz.func17, Tryz.ntmps17
  go_wp2_with fail
  refine HC.out.mono ?_; rintro e w1 ⟨rfl, rfl⟩
  go_wp2_with fail
  refine HS.out.mono ?_; rintro e w1 ⟨v1, rfl, ho, hb⟩
  obtain ⟨a1, cap1, rfl⟩ := slice_form ho
  have HB := Lib.hid hb
  clear ho hb
  go_wp2_with fail
  have hbw : Below w.heap.size w w1 := HB1.out.trans (HB.out.mono (by simp))
  exact bodyPost_ret (results_tmp2 Tryz.results17 _ _ _) rfl ⟨rfl, C, H.out.below hbw, (CStep.refl C w).below hbw⟩
 ·have hL0 : 0 < cl.length := List.length_pos_iff.2 hn
  obtain ⟨o, eo⟩ : ∃ o, o = pickL cl pick := ⟨_, rfl⟩
  rw [show evO cl pick = o by unfold evO; rw [if_neg hn, eo], show evB cl = true by simpa [evB] using hn, show evF f cl pick = dropF f o by unfold evF; rw [if_neg hn, eo], show evU us cl pick = woL us o by unfold evU; rw [if_neg hn, eo]]
  obtain ⟨L, eL⟩ : ∃ L, L = cl.length := ⟨_, rfl⟩
  obtain ⟨j, ej⟩ : ∃ j : Nat, (j : Int) = pick % (L : Int) := ⟨(pick % (L : Int)).toNat, by have := Int.emod_nonneg pick (show (L : Int) ≠ 0 by omega); omega⟩
  have hjL : j < L := by have := Int.emod_lt_of_pos pick (show (0 : Int) < (L : Int) by omega); omega
  have hcj : cl[j]? = some o := by
   rw [eo]
   unfold pickL
   rw [← eL, ← ej, Int.toNat_natCast, List.getD_eq_getElem?_getD, List.getElem?_eq_getElem (by omega)]
   rfl
  have hT2 := tmod_tmod pick (L : Int) (by omega)
  have hT3 := tmod_low pick (L : Int) (by omega)
  obtain ⟨T, eT⟩ : ∃ T, T = Int.tmod pick (L : Int) := ⟨_, rfl⟩
  rw [← eT] at hT2 hT3
  rw [← ej] at hT2
  have eT' : Int.tmod pick (L : Int) = T := eT.symm
  have l0 : ((L : Int) == 0) = false := by simp; omega
  have l1 : (0 : Int) < (L : Int) := by omega
  have lL : (L : Int) ≤ 100000 := by omega
  have jl : (j : Int) < (L : Int) := by omega
  obtain ⟨hb2, hb3⟩ := hT3
  obtain ⟨hi0, hi1⟩ := hi
  have HCJ := Lib.hid hcj
  have HCL := Lib.hid hcl
  have EL := Lib.hid eL
  rw [← eL] at HS
  have hL0 : 0 < L := by omega
  clear eo ej eT hcj hn hcl eL
  go_enter Tryz.func17, Tryz.ntmps17
  go_wp2_with fail
  refine HC.out.mono ?_; rintro e w1 ⟨rfl, rfl⟩
  go_wp2_with fail
  refine HS.out.mono ?_; rintro e w1 ⟨v1, rfl, ho, hb⟩
  obtain ⟨a1, cap1, rfl⟩ := slice_form ho
  have hin := ownsRow_ints (l := cl) (by rw [← EL.out]; exact ho) (by have := HCL.out; omega)
  obtain ⟨g1, off1, rfl, hg1, hc1⟩ := hin.at_ HCJ.out
  have HB := Lib.hid hb
  have hbw := Lib.hid (show Below w.heap.size w w1 from HB1.out.trans (HB.out.mono (by simp)))
  have HGo := Lib.hid (gone_any C room ps us f o w1 (H.out.below hbw.out) (by omega))
  unfold ptr at HGo
  clear ho hb hin
  go_wp2_with fail
  refine HGo.out.mono ?_; rintro e w8 ⟨rfl, C8, h8, s8⟩
  have H8 := Lib.hid h8
  have S8 := Lib.hid s8
  clear h8 s8
  go_wp2_with fail
  exact bodyPost_ret (results_tmp2 Tryz.results17 _ _ _) rfl ⟨rfl, C8, H8.out, S8.out.first hbw.out⟩
end Go.Proofs.YtemcgfncahccgaaGreat
namespace Go.Proofs.YtemcgfncahccgaaGreat
open Go.RowKit

theorem cleanB_mem {h : List ItemD} {m : Int} (e : cleanB h m = true) : m ∈ oidsOf h := by
 unfold cleanB at e
 cases hi : itemOf h m with
 | none => rw [hi] at e; cases e
 | some x =>
  obtain ⟨h1, h2⟩ := itemOf_some hi
  exact List.mem_map.2 ⟨x, h1, h2⟩
theorem clean_rising {n : Nat} {h : List ItemD} (H : HandOk n h) : sortI (cleanU (itemOf h) (oidsOf h)) = risingL n (cleanB h) := by
 refine sortI_rising (H.once.filter _) fun m => ?_
 unfold cleanU
 rw [List.mem_filter, isClean_cleanB]
 exact ⟨fun ⟨h1, h2⟩ => ⟨H.inn m h1, h2⟩, fun ⟨_, h2⟩ => ⟨cleanB_mem h2, h2⟩⟩
theorem clean_len {n : Nat} {h : List ItemD} (H : HandOk n h) : (cleanU (itemOf h) (oidsOf h)).length = (risingL n (cleanB h)).length := by
 rw [← clean_rising H, sortI_len]
theorem hand_rising {n : Nat} {h : List ItemD} (H : HandOk n h) : sortI (oidsOf h) = risingL n (handB true h) := by
 refine sortI_rising H.once fun m => ⟨fun h1 => ⟨H.inn m h1, ?_⟩, fun ⟨_, h2⟩ => ?_⟩
 ·unfold handB
  cases hi : itemOf h m with
  | none => exact absurd hi (itemOf_ne h1)
  | some x => rfl
 ·unfold handB at h2
  cases hi : itemOf h m with
  | none => rw [hi] at h2; cases h2
  | some x =>
   obtain ⟨h1, h3⟩ := itemOf_some hi
   exact List.mem_map.2 ⟨x, h1, h3⟩
theorem HandOk.drop {n : Nat} {h : List ItemD} (H : HandOk n h) (oid : Int) : HandOk n (dropI h oid) := by
 refine ⟨?_, fun m hm => ?_⟩
 ·rw [oids_drop]; exact H.once.filter _
 ·rw [oids_drop] at hm; exact H.inn m (woL_mem hm).1
theorem HandOk.put {n : Nat} {h : List ItemD} (H : HandOk n h) (x : ItemD) (hx : 0 ≤ x.oid ∧ x.oid < (n : Int)) : HandOk n (dropI h x.oid ++ [x]) := by
 refine ⟨?_, fun m hm => ?_⟩
 ·rw [oids_put, List.nodup_append]
  refine ⟨H.once.filter _, by simp, fun a ha b hb => ?_⟩
  rw [List.mem_singleton.1 hb]
  exact (woL_mem ha).2
 ·rw [oids_put] at hm
  rcases List.mem_append.1 hm with hm | hm
  ·exact H.inn m (woL_mem hm).1
  ·rw [List.mem_singleton.1 hm]; exact hx
theorem find_filter (h : List ItemD) : h.find? (fun y => !y.ch) = (h.filter fun y => !y.ch).head? := by
 rw [List.head?_filter]
/-- a use: the program's is the reference's -/
theorem with_use {n : Nat} {h : List ItemD} (H : HandOk n h) (room : Int) (hroom : 0 ≤ room) (x : ItemD) (hx : 0 ≤ x.oid ∧ x.oid < (n : Int)) :
  HandOk n (withD room n h x) ∧ oidsOf (withD room n h x) = useU room (itemOf h) (oidsOf h) x.oid x ∧ itemOf (withD room n h x) = useF room (itemOf h) (oidsOf h) x.oid x := by
 have H1 := H.put x hx
 have e1 : setF (itemOf h) x.oid x = itemOf (dropI h x.oid ++ [x]) := funext fun m => (itemOf_put h x m).symm
 have e2 : woL (oidsOf h) x.oid ++ [x.oid] = oidsOf (dropI h x.oid ++ [x]) := (oids_put h x).symm
 unfold useU useF withD
 rw [e1, e2]
 obtain ⟨h1, eh1⟩ : ∃ h1, h1 = dropI h x.oid ++ [x] := ⟨_, rfl⟩
 rw [← eh1] at H1 ⊢
 dsimp only
 have hlen := clean_len H1
 have hcu := cleanU_hand H1.once
 rw [hlen]
 by_cases hr : room < ((risingL n (cleanB h1)).length : Int)
 ·rw [if_pos hr, if_pos hr, if_pos hr, find_filter]
  cases hf : h1.filter (fun y => !y.ch) with
  | nil =>
   rw [hf] at hcu
   rw [hcu] at hlen
   rw [← hlen] at hr
   simp [oidsOf] at hr
   omega
  | cons y t =>
   rw [hf] at hcu
   have e3 : (cleanU (itemOf h1) (oidsOf h1)).getD 0 0 = y.oid := by rw [hcu]; rfl
   rw [e3]
   exact ⟨H1.drop _, oids_drop _ _, funext fun m => itemOf_drop _ _ _⟩
 ·rw [if_neg hr, if_neg hr, if_neg hr]
  exact ⟨H1, rfl, rfl⟩
/-- an eviction -/
theorem evict_law {x : CacheD} (H : HandOk x.n x.hand) (pick : Int) :
  evO (sortI (cleanU (itemOf x.hand) (oidsOf x.hand))) pick = x.evictO pick ∧ evB (sortI (cleanU (itemOf x.hand) (oidsOf x.hand))) = x.evictB ∧
  evF (itemOf x.hand) (sortI (cleanU (itemOf x.hand) (oidsOf x.hand))) pick = itemOf (x.evict pick).hand ∧ evU (oidsOf x.hand) (sortI (cleanU (itemOf x.hand) (oidsOf x.hand))) pick = oidsOf (x.evict pick).hand ∧ HandOk x.n (x.evict pick).hand := by
 rw [clean_rising H]
 have e : risingL x.n (cleanB x.hand) = x.cleanL := rfl
 rw [e]
 unfold evO evB evF evU CacheD.evictO CacheD.evictB CacheD.evict
 by_cases hc : x.cleanL = []
 ·simp only [hc, if_true]
  exact ⟨trivial, trivial, trivial, trivial, H⟩
 ·simp only [hc, if_false]
  exact ⟨trivial, trivial, (funext fun m => itemOf_drop _ _ _).symm, (oids_drop _ _).symm, H.drop _⟩
end Go.Proofs.YtemcgfncahccgaaGreat
namespace Go.Proofs.YtemcgfncahccgaaGreat
open Go.RowKit Go.Shelf

/-- a cell of an own row is set -/
theorem ownsRow_put {w : World} {B e g cap n : Nat} {xs : List Value} (h : w.ownsRow B e 1 (.slice (some ⟨g, 0, none⟩) n cap) n xs) (k : Nat) (hk : k < n) (u : Value) : (w.setCell ⟨g, k, none⟩ u).ownsRow B e 1 (.slice (some ⟨g, 0, none⟩) n cap) n (xs.set k u) := by
 rcases h.2 with ⟨e, _⟩ | ⟨g', cap', cur, e, hB, hg, h1, h2, h3, h4⟩
 ·cases e
 ·cases e
  refine ⟨by rw [List.length_set]; exact h.1, .inr ⟨_, _, cur.setIfInBounds k u, rfl, hB, ?_, h1, h2, by simpa using h3, ?_⟩⟩
  ·exact (show Blk w _ _ cur from hg).set_ k u
  ·rw [← h4, Array.toList_setIfInBounds, List.take_set]
/-- a place is set -/
theorem CacheRaw.place_ {w : World} {C : CacheP} {room : Int} {ps us : List Int} {f : Int → Option ItemD} (h : CacheRaw w C room ps f us) (g cap : Nat) (hp : C.pv = .slice (some ⟨g, 0, none⟩) ps.length cap) (k : Nat) (hk : k < ps.length) (s : Int) :
  CacheRaw (w.setCell ⟨g, k, none⟩ (.int .i64 s)) C room (ps.set k s) f us := by
 have ho : C.pv.ownBlock = some g := by rw [hp]; rfl
 have hout : Out (fun i => i = g) w (w.setCell ⟨g, k, none⟩ (.int .i64 s)) := out_set rfl
 obtain ⟨n1, n2, n3, n4⟩ := h.ne
 obtain ⟨m2, m3, m4⟩ := h.neR
 refine ⟨hout.blk h.blk (fun e => n2 g ho e.symm), ?_, ownsRow_out hout h.used (fun i hi e => h.apart g ho (by rw [← e]; exact hi)), h.apart, ?_, fun b hb => ?_⟩
 ·have hP := h.places
  rw [hp] at hP ⊢
  rw [List.length_set, List.map_set]
  exact ownsRow_put hP k hk _
 ·obtain ⟨l, c, hm, hl⟩ := h.hand
  refine ⟨l, c, hout.mapG hm (fun e => m2 g ho e.symm), fun m => ?_⟩
  rcases hl m with ⟨y, b, h1, h2, h3, h4⟩ | h1
  ·refine .inl ⟨y, b, h1, h2, h3, h4.out hout (fun e => ?_)⟩
   obtain ⟨cs, hc⟩ := h.items b h3
   exact ne_own h.places hc (by decide) g ho e.symm
  ·exact .inr h1
 ·obtain ⟨cs, hc⟩ := h.items b hb
  exact ⟨cs, hout.blk hc (fun e => ne_own h.places hc (by decide) g ho e.symm)⟩

def moveE_ (size : Int) (ps : List Int) (oid s : Int) : Int := if (0 ≤ oid ∧ oid < (ps.length : Int)) ∧ 0 ≤ s ∧ s < size then 0 else 4
def moveL (size : Int) (ps : List Int) (oid s : Int) : List Int := if (0 ≤ oid ∧ oid < (ps.length : Int)) ∧ 0 ≤ s ∧ s < size then ps.set oid.toNat s else ps
set_option maxHeartbeats 4000000 in
theorem move_any (C : CacheP) (room : Int) (ps us : List Int) (f : Int → Option ItemD) (D : DiskP) (x : DiskD) (oid s : Int) (w : World) (h : CacheRaw w C room ps f us) (hD : DiskAt w D x) (hx : x.ok) (hp : C.dp = D.p) (hl : ps.length ≤ 1000000) :
  Calls Tryz.prog 24 #[ptr C.g, .int .i64 oid, .int .i64 s] w fun e w' => e = .returned (.int .i64 (moveE_ x.size ps oid s)) ∧ CacheRaw w' C room (moveL x.size ps oid s) f us ∧ CStep C C w w' := by
 have HA := Lib.hid (askc_any C room ps us f oid w h hl)
 have HS := Lib.hid (dsize_any D x w hD hx)
 have c2 := h.blk.cell_is 2 rfl
 have c0 := h.blk.cell_is 0 rfl
 rw [hp] at c0
 have H := Lib.hid h
 clear hp
 by_cases ht : 0 ≤ oid ∧ oid < (ps.length : Int)
 ·have e1 : thereE ps oid = 0 := by unfold thereE; rw [if_pos ht]
  rw [e1] at HA
  obtain ⟨k, rfl⟩ : ∃ k : Nat, oid = (k : Int) := ⟨oid.toNat, by omega⟩
  have hk : k < ps.length := by omega
  obtain ⟨g, cap, ev, -, -⟩ := World.ownsRow.form H.out.places (by omega)
  rw [ev] at c2
  obtain ⟨sz, esz⟩ : ∃ sz, sz = x.size := ⟨_, rfl⟩
  rw [← esz] at HS ⊢
  have hk1 : (k : Int) < (ps.length : Int) := by omega
  have hs : s < 0 ∨ (¬ s < 0 ∧ sz ≤ s) ∨ (¬ s < 0 ∧ ¬ sz ≤ s) := by omega
  have EV := Lib.hid ev
  have fz := (show Blk w C.g _ _ from H.out.blk)
  unfold ptr at *
  clear h hD hx e1 esz ev fz
  rcases hs with h0 | ⟨h0, h1⟩ | ⟨h0, h1⟩
  ·have e0 : decide (s < 0) = true := by simpa using h0
   rw [show moveE_ sz ps (k : Int) s = 4 by unfold moveE_; rw [if_neg (by omega)], show moveL sz ps (k : Int) s = ps by unfold moveL; rw [if_neg (by omega)]]
   clear ht
   go_enter Tryz.func24, Tryz.ntmps24
   go_wp2_with fail
   refine HA.out.mono ?_; rintro e w1 ⟨rfl, rfl⟩
   go_wp2_with fail
   go_ret
   exact ⟨rfl, H.out, CStep.refl _ _⟩
  ·have e0 : decide (s < 0) = false := by simpa using h0
   have e1 : decide (sz ≤ s) = true := by simpa using h1
   rw [show moveE_ sz ps (k : Int) s = 4 by unfold moveE_; rw [if_neg (by omega)], show moveL sz ps (k : Int) s = ps by unfold moveL; rw [if_neg (by omega)]]
   clear ht
   go_enter Tryz.func24, Tryz.ntmps24
   go_wp2_with fail
   refine HA.out.mono ?_; rintro e w1 ⟨rfl, rfl⟩
   go_wp2_with fail
   refine HS.out.mono ?_; rintro e w1 ⟨rfl, rfl⟩
   go_wp2_with fail
   go_ret
   exact ⟨rfl, H.out, CStep.refl _ _⟩
  ·have e0 : decide (s < 0) = false := by simpa using h0
   have e1 : decide (sz ≤ s) = false := by simpa using h1
   rw [show moveE_ sz ps (k : Int) s = 0 by unfold moveE_; rw [if_pos (by omega)], show moveL sz ps (k : Int) s = ps.set k s by unfold moveL; rw [if_pos (by omega), Int.toNat_natCast]]
   obtain ⟨y, hy⟩ : ∃ y, ps[k]? = some y := ⟨_, List.getElem?_eq_getElem hk⟩
   have hP := H.out.places
   rw [EV.out] at hP
   have ck : w.cell? ⟨g, k, none⟩ = some (.int .i64 y) := by rw [World.ownsRow.cellAt hP k (by omega), List.getElem?_map, hy]; rfl
   have fk : w.frozen? ⟨g, k, none⟩ = false := by
    rcases hP.2 with ⟨e, _⟩ | ⟨g', cap', cur, e, hB, hg, _⟩
    ·cases e
    ·cases e
     exact (show Blk w _ _ cur from hg).frozen k
   clear ht hy hP
   go_enter Tryz.func24, Tryz.ntmps24
   go_wp2_with fail
   refine HA.out.mono ?_; rintro e w1 ⟨rfl, rfl⟩
   go_wp2_with fail
   refine HS.out.mono ?_; rintro e w1 ⟨rfl, rfl⟩
   go_wp2_with fail
   go_ret
   exact ⟨rfl, H.out.place_ g cap EV.out k hk s, ⟨out_set (.inr (.inr (by rw [EV.out]; rfl))), ⟨rfl, rfl, rfl, rfl⟩, fun _ h => .inl h⟩⟩
 ·have e1 : thereE ps oid = 4 := by unfold thereE; rw [if_neg ht]
  rw [e1] at HA
  rw [show moveE_ x.size ps oid s = 4 by unfold moveE_; rw [if_neg (fun h => ht h.1)], show moveL x.size ps oid s = ps by unfold moveL; rw [if_neg (fun h => ht h.1)]]
  unfold ptr at *
  clear h hD hx e1 ht
  go_enter Tryz.func24, Tryz.ntmps24
  go_wp2_with fail
  refine HA.out.mono ?_; rintro e w1 ⟨rfl, rfl⟩
  go_wp2_with fail
  go_ret
  exact ⟨rfl, H.out, CStep.refl _ _⟩
end Go.Proofs.YtemcgfncahccgaaGreat
namespace Go.Proofs.YtemcgfncahccgaaGreat
open Go.RowKit Go.Shelf

theorem citem_info : ∃ i z, Tryz.prog.info? 103 = some i ∧ i.zero = some z ∧ z.cells.size = 164 ∧ z.cells[163]? = some (Value.bool false) := by
 have h : (Tryz.prog.info? 103).map (fun i => i.zero.map (fun z => (z.cells.size, z.cells[163]?))) = some (some (164, some (Value.bool false))) := by kernel_rfl
 obtain ⟨i, hi, he⟩ := Option.map_eq_some_iff.1 h
 obtain ⟨z, hz, h4⟩ := Option.map_eq_some_iff.1 he
 injection h4 with h4 h5
 exact ⟨i, z, hi, hz, h4, h5⟩
set_option maxRecDepth 100000 in
theorem citem_built (o : ObjD) (ch : Bool) (ho : o.ok) : Tryz.prog.built 103 [(0, .agg o.cells.toArray), (1, .bool ch)] = some (o.cells ++ [Value.bool ch]).toArray := by
 obtain ⟨i, z, hi, hz, h3, _⟩ := citem_info
 have hu := Tryz.underlying103
 have hol := ObjD.len ho
 unfold Program.built
 rw [hi, hu]
 simp only [hz]
 rw [show (List.mapM (fun f : Field => Option.map (fun i => (f.offset, i.size)) (Tryz.prog.info? f.type)) _ : Option (List (Nat × Nat))) = some [(0, 163), (163, 1)] from by kernel_rfl]
 simp only []
 have hd : z.cells.toList.length = 164 := by simpa using h3
 generalize z.cells = zc at *
 generalize o.cells = oc at *
 obtain ⟨zl, ezl⟩ : ∃ zl, zl = zc.toList := ⟨_, rfl⟩
 have hz : zc = zl.toArray := by rw [ezl]
 rw [← ezl] at hd
 subst hz
 rw [fill_part (off := 0) (size := 163) rfl (by simpa [Value.cells] using hol) (by simp; omega), fill_part (off := 163) (size := 1) rfl rfl (by simp [Value.cells, hol]; omega)]
 rw [fill_nil]
 apply congrArg some
 apply congrArg List.toArray
 simp only [Value.cells, List.take_zero, List.nil_append]
 have hX : (oc ++ zl.drop (0 + 163)).take 163 = oc := List.take_left' hol
 have hX2 : (oc ++ zl.drop (0 + 163)).drop (163 + 1) = [] := List.drop_eq_nil_of_le (by simp; omega)
 rw [hX, hX2, List.append_nil]
set_option maxRecDepth 100000 in
theorem citem_built0 (o : ObjD) (ho : o.ok) : Tryz.prog.built 103 [(0, .agg o.cells.toArray)] = some (o.cells ++ [Value.bool false]).toArray := by
 obtain ⟨i, z, hi, hz, h3, h4⟩ := citem_info
 have hu := Tryz.underlying103
 have hol := ObjD.len ho
 unfold Program.built
 rw [hi, hu]
 simp only [hz]
 rw [show (List.mapM (fun f : Field => Option.map (fun i => (f.offset, i.size)) (Tryz.prog.info? f.type)) _ : Option (List (Nat × Nat))) = some [(0, 163), (163, 1)] from by kernel_rfl]
 simp only []
 have hd : z.cells.toList.length = 164 := by simpa using h3
 have h4' : z.cells.toList[163]? = some (Value.bool false) := by simpa using h4
 generalize z.cells = zc at *
 generalize o.cells = oc at *
 obtain ⟨zl, ezl⟩ : ∃ zl, zl = zc.toList := ⟨_, rfl⟩
 have hz : zc = zl.toArray := by rw [ezl]
 rw [← ezl] at hd h4'
 subst hz
 rw [fill_part (off := 0) (size := 163) rfl (by simpa [Value.cells] using hol) (by simp; omega)]
 rw [fill_nil]
 apply congrArg some
 apply congrArg List.toArray
 simp only [Value.cells, List.take_zero, List.nil_append, Nat.zero_add]
 congr 1
 apply List.ext_getElem?
 intro j
 rw [List.getElem?_drop]
 cases j with
 | zero => rw [h4']; rfl
 | succ j => rw [List.getElem?_eq_none (by omega), List.getElem?_eq_none (by simp)]
/-- an item in a new block -/
theorem ItemAt.new (w : World) (oid : Int) (o : ObjD) (ch : Bool) (ho : o.ok) : ItemAt (w.alloc (.cells (o.cells ++ [Value.bool ch]).toArray 103)) w.heap.size ⟨oid, o, ch⟩ := ⟨ho, Blk.new w _ _⟩
end Go.Proofs.YtemcgfncahccgaaGreat
namespace Go.Proofs.YtemcgfncahccgaaGreat
open Go.RowKit Go.Shelf

def putE_ (ps : List Int) (oid : Int) (o : ObjD) : Int := if 0 ≤ oid ∧ oid < (ps.length : Int) then (if objB o ps.length then 0 else 2) else 4
def putFF (room : Int) (ps us : List Int) (f : Int → Option ItemD) (oid : Int) (o : ObjD) : Int → Option ItemD := if putE_ ps oid o = 0 then useF room f us oid ⟨oid, o, true⟩ else f
def putUU (room : Int) (ps us : List Int) (f : Int → Option ItemD) (oid : Int) (o : ObjD) : List Int := if putE_ ps oid o = 0 then useU room f us oid ⟨oid, o, true⟩ else us
theorem CStep.item {C C' : CacheP} {w W w' : World} {b : Nat} (h : CStep { C with bs := b :: C.bs } C' W w') (hb : Below w.heap.size w W) (hn : w.heap.size ≤ b) : CStep C C' w w' := by
 refine ⟨(outB hb : Out C.own w W).trans h.out (fun _ _ h => h), h.same, fun i hi => ?_⟩
 rcases h.new_ i hi with hi | hi
 ·rcases hi with hi | hi | hi
  ·exact .inl (.inl hi)
  ·exact .inl (.inr (.inl hi))
  ·rcases List.mem_cons.1 hi with rfl | hi
   ·exact .inr hn
   ·exact .inl (.inr (.inr hi))
 ·exact .inr (by have := hb.size; omega)
set_option maxRecDepth 100000 in
set_option maxHeartbeats 4000000 in
theorem put_any (C : CacheP) (room : Int) (ps us : List Int) (f : Int → Option ItemD) (oid : Int) (o : ObjD) (w : World) (h : CacheRaw w C room ps f us) (ho : o.ok) (hl : ps.length ≤ 1000000) (hu : us.length ≤ 100000) (hf : ∀ m ∈ us, f m ≠ none) (hroom : 0 ≤ room) :
  Calls Tryz.prog 15 #[ptr C.g, .int .i64 oid, .agg o.cells.toArray] w fun e w' => e = .returned (.int .i64 (putE_ ps oid o)) ∧ ∃ C', CacheRaw w' C' room ps (putFF room ps us f oid o) (putUU room ps us f oid o) ∧ CStep C C' w w' := by
 obtain ⟨cs, ecs⟩ : ∃ cs, cs = o.cells.toArray := ⟨_, rfl⟩
 have scs : (Tryz.prog.info? 47).map (·.size) = some cs.size := by rw [ecs, List.size_toArray, ObjD.len ho]; kernel_rfl
 obtain ⟨W, eW⟩ : ∃ W, W = w.alloc (.cells cs 47) := ⟨_, rfl⟩
 have hb0 : Below w.heap.size w W := by rw [eW]; exact (Below.refl _ w).alloc (Nat.le_refl _) _
 have k0 : Blk W w.heap.size 47 cs := by rw [eW]; exact Blk.new w _ _
 have HW := Lib.hid (h.below hb0)
 have HA := Lib.hid (askc_any C room ps us f oid W HW.out hl)
 have HCK := Lib.hid (fun X => ocheck_any o ho (ps.length : Int) X)
 have hbt := citem_built o true ho
 rw [← ecs] at HCK hbt ⊢
 have HBT := Lib.hid hbt
 have HB0 := Lib.hid hb0
 have hws : w.heap.size < W.heap.size := k0.lt
 obtain ⟨pa, pc, ev, -, -⟩ : ∃ a cap, C.pv = .slice a ps.length cap ∧ True ∧ True := by obtain ⟨a, cap, e⟩ := slice_form h.places; exact ⟨a, cap, e, trivial, trivial⟩
 have EV := Lib.hid ev
 have c2 := HW.out.blk.cell_is 2 rfl
 rw [ev] at c2
 have hgl : C.g < W.heap.size := HW.out.blk.lt
 clear h ecs hbt hb0 ev
 unfold ptr at HA ⊢
 go_enter Tryz.func15, Tryz.ntmps15
 go_upto_region 1 with fail
 rw [← eW]
 clear eW
 go_wp2_with fail
 refine HA.out.mono ?_; rintro e w1 ⟨rfl, rfl⟩
 by_cases ht : 0 ≤ oid ∧ oid < (ps.length : Int)
 ·have e1 : thereE ps oid = 0 := by unfold thereE; rw [if_pos ht]
  have HT := Lib.hid ht
  rw [e1]
  clear e1 ht
  go_upto_region 4 with fail
  refine jb (fun X => Below w1.heap.size w1 X) (fun _ => True) 100 (Below.refl _ _).drew trivial fun hHeld hJ => ?_
  refine jy false 0 rfl (yieldsIf_load_mid (by rfl) 47 _ rfl w.heap.size 0 rfl cs.toList _ (fun w' h => blk_range (k0.below h.1 k0.lt)) Tryz.underlying47 rfl (by simpa using scs)) ?_
  refine jk false 1 ?_
  refine jk false 2 ?_
  refine jk false 3 ?_
  refine jk false 4 ?_ (hy := by intro X hX _; have hc := (Below.cell hX (p := ⟨C.g, 2, none⟩) hgl).trans c2; go_simp; try with_reducible rfl)
  refine jk false 5 ?_
  refine jr 6 fun K hK => ?_
  go_simp
  refine (HCK.out w1.drew).mono ?_; rintro r w2 ⟨rfl, hb2⟩
  go_wp2_with fail
  refine hK.out _ _ ⟨hHeld.trans hb2, fun _ => trivial⟩ ?_
  clear hK K
  have hHeld2 := hHeld.trans hb2
  clear hHeld
  have hHeld := hHeld2
  have H2 := Lib.hid (HW.out.drew.below hb2)
  have k2 := k0.drew.below hb2 k0.lt
  have HB2 := Lib.hid (HB0.out.trans (hHeld2.mono HB0.out.size))
  cases hob : objB o (ps.length : Int)
  ·have HE := Lib.hid (show putE_ ps oid o = 2 by unfold putE_; rw [if_pos HT.out, hob]; rfl)
   clear hob
   unfold errB
   simp only [Bool.false_eq_true, if_false]
   refine jk false 7 ?_
   refine wpAnyJ_done (by kernel_rfl) ?_ _
   go_wp2_with fail
   go_ret
   refine ⟨by rw [HE.out]; rfl, C, ?_, (CStep.refl C w).below HB2.out⟩
   rw [show putFF room ps us f oid o = f by unfold putFF; rw [HE.out]; rfl, show putUU room ps us f oid o = us by unfold putUU; rw [HE.out]; rfl]
   exact H2.out
  ·have HE := Lib.hid (show putE_ ps oid o = 0 by unfold putE_; rw [if_pos HT.out, hob]; rfl)
   clear hob
   unfold errB
   simp only [if_true]
   refine jk false 7 ?_
   refine wpAnyJ_done (by kernel_rfl) ?_ _
   have hb3 : Below w2.heap.size w2 (w2.alloc (.cells (o.cells ++ [Value.bool true]).toArray 103)) := (Below.refl _ w2).alloc (Nat.le_refl _) _
   have HU := Lib.hid (use_any C room ps us f oid w2.heap.size ⟨oid, o, true⟩ _ (H2.out.below hb3) (ItemAt.new w2 oid o true ho) hu hf hroom)
   have HB3 := Lib.hid hb3
   unfold ptr at HU
   obtain ⟨ics, eics⟩ : ∃ ics, ics = (o.cells ++ [Value.bool true]).toArray := ⟨_, rfl⟩
   rw [← eics] at HBT HU HB3
   clear hb3 eics
   go_wp2_with (first
    | (refine wpList_load_row rfl 47 _ rfl w.heap.size rfl 47 cs (0, 0) _ k2 Tryz.underlying47 rfl scs ?_)
    | (refine wpList_buildL rfl 103 _ rfl ics HBT.out ?_))
   refine HU.out.mono ?_; rintro r w3 ⟨rfl, C3, h3, s3⟩
   have H3 := Lib.hid h3
   have S3 := Lib.hid s3
   clear h3 s3
   go_wp2_with fail
   go_ret
   refine ⟨by rw [HE.out]; rfl, C3, ?_, S3.out.item (HB2.out.trans (HB3.out.mono HB2.out.size)) HB2.out.size⟩
   rw [show putFF room ps us f oid o = useF room f us oid ⟨oid, o, true⟩ by unfold putFF; rw [HE.out]; rfl, show putUU room ps us f oid o = useU room f us oid ⟨oid, o, true⟩ by unfold putUU; rw [HE.out]; rfl]
   exact H3.out
 ·have e1 : thereE ps oid = 4 := by unfold thereE; rw [if_neg ht]
  have HE := Lib.hid (show putE_ ps oid o = 4 by unfold putE_; rw [if_neg ht])
  rw [e1]
  clear e1 ht
  go_wp2_with fail
  go_ret
  refine ⟨by rw [HE.out]; rfl, C, ?_, (CStep.refl C w).below HB0.out⟩
  rw [show putFF room ps us f oid o = f by unfold putFF; rw [HE.out]; rfl, show putUU room ps us f oid o = us by unfold putUU; rw [HE.out]; rfl]
  exact HW.out
end Go.Proofs.YtemcgfncahccgaaGreat
namespace Go.Proofs.YtemcgfncahccgaaGreat
open Go.RowKit Go.Shelf

theorem wpList_lookG {P : Program} {t k e : TypeId} {kd : IntKind} {r c : Nat} {l : List EntG} (w : World) {ops : Array Oper} {rest : List Oper} {o : Oper} {a : Act} {Q : Exit → Act → World → Prop}
  (hg : o.guard = none) (m x : Operand) (ok : Bool) (hop : o.op = Op.lookup t m x ok) (ht : P.underlying t = some (.map k e)) (hk : P.underlying k = some (.int kd)) (hm : MapG w r kd l c) (hma : a.eval m = .map (some r)) (n : Int) (hx : a.eval x = .int kd n)
  (v : Value) (hn : lookG l n = some v) (hK : wpList P ops Q rest (a.put o.dst (if ok then .tuple #[v, .bool true] else v)) w) :
  wpList P ops Q (o :: rest) a w := by
 refine wpList_plain hg fun K' hK' => ?_
 have hrun := run_look_yes (P := P) w ht hk hm n v hn ok
 unfold Oper.wp
 simp [execOp, hop, hma, hx, hrun, Result.andThen]
 exact hK' _ _ hK
theorem wpList_lookG_no {P : Program} {t k e : TypeId} {kd : IntKind} {r c : Nat} {l : List EntG} (w : World) {ops : Array Oper} {rest : List Oper} {o : Oper} {a : Act} {Q : Exit → Act → World → Prop}
  (hg : o.guard = none) (m x : Operand) (ok : Bool) (hop : o.op = Op.lookup t m x ok) (ht : P.underlying t = some (.map k e)) (hk : P.underlying k = some (.int kd)) (hm : MapG w r kd l c) (hma : a.eval m = .map (some r)) (n : Int) (hx : a.eval x = .int kd n)
  (z : Value) (hz : (zeroValue e).run P w = .ok z w) (hn : lookG l n = none) (hK : wpList P ops Q rest (a.put o.dst (if ok then .tuple #[z, .bool false] else z)) w) :
  wpList P ops Q (o :: rest) a w := by
 refine wpList_plain hg fun K' hK' => ?_
 have hrun := run_look_no (P := P) w ht hk hm n z hz hn ok
 unfold Oper.wp
 simp [execOp, hop, hma, hx, hrun, Result.andThen]
 exact hK' _ _ hK
theorem zero_item (w : World) : (zeroValue 101).run Tryz.prog w = .ok (.pointer none) w := by
 rw [Tryz.zeroValue101]
theorem item_row {w : World} {b : Nat} {y : ItemD} (h : ItemAt w b y) : w.rangeAt b 0 y.o.cells := by
 have := blk_range h.2
 intro j v hj
 have h1 := this j v (by rw [List.getElem?_append_left (List.getElem?_eq_some_iff.1 hj).1]; exact hj)
 exact h1

def setlF (size room : Int) (ps us : List Int) (f : Int → Option ItemD) (oid s : Int) : Int → Option ItemD :=
 if moveE_ size ps oid s = 0 then (match f oid with | some y => if y.ch then useF room f us oid ⟨oid, y.o, false⟩ else f | none => f) else f
def setlU (size room : Int) (ps us : List Int) (f : Int → Option ItemD) (oid s : Int) : List Int :=
 if moveE_ size ps oid s = 0 then (match f oid with | some y => if y.ch then useU room f us oid ⟨oid, y.o, false⟩ else us | none => us) else us
set_option maxRecDepth 100000 in
set_option maxHeartbeats 4000000 in
theorem settle_any (C : CacheP) (room : Int) (ps us : List Int) (f : Int → Option ItemD) (D : DiskP) (x : DiskD) (oid s : Int) (w : World) (h : CacheRaw w C room ps f us) (hD : DiskAt w D x) (hx : x.ok) (hp : C.dp = D.p) (hl : ps.length ≤ 1000000) (hu : us.length ≤ 100000) (hf : ∀ m ∈ us, f m ≠ none) (hroom : 0 ≤ room) :
  Calls Tryz.prog 23 #[ptr C.g, .int .i64 oid, .int .i64 s] w fun e w' => e = .returned (.int .i64 (moveE_ x.size ps oid s)) ∧ ∃ C', CacheRaw w' C' room (moveL x.size ps oid s) (setlF x.size room ps us f oid s) (setlU x.size room ps us f oid s) ∧ CStep C C' w w' := by
 have HM := Lib.hid (move_any C room ps us f D x oid s w h hD hx hp hl)
 obtain ⟨E, eE⟩ : ∃ E, E = moveE_ x.size ps oid s := ⟨_, rfl⟩
 obtain ⟨ml, eml⟩ : ∃ ml, ml = moveL x.size ps oid s := ⟨_, rfl⟩
 rw [← eE, ← eml] at HM
 rw [← eE, ← eml]
 have hEE : E = 0 ∨ E = 4 := by rw [eE]; unfold moveE_; split <;> simp
 have HF := Lib.hid (show setlF x.size room ps us f oid s = if E = 0 then (match f oid with | some y => if y.ch then useF room f us oid ⟨oid, y.o, false⟩ else f | none => f) else f by rw [eE]; rfl)
 have HU := Lib.hid (show setlU x.size room ps us f oid s = if E = 0 then (match f oid with | some y => if y.ch then useU room f us oid ⟨oid, y.o, false⟩ else us | none => us) else us by rw [eE]; rfl)
 unfold ptr at *
 clear h hD hx hp eE eml
 rcases hEE with rfl | rfl
 ·go_enter Tryz.func23, Tryz.ntmps23
  go_wp2_with fail
  refine HM.out.mono ?_; rintro r w1 ⟨rfl, h1, s1⟩
  have H1 := Lib.hid h1
  have S1 := Lib.hid s1
  obtain ⟨l, c, hm, hlk⟩ := h1.hand
  have c3 := h1.blk.cell_is 3 rfl
  rcases hlk oid with ⟨y, b, e1, e2, e3, e4⟩ | ⟨e1, e2⟩
  ·have HF2 := Lib.hid (show setlF x.size room ps us f oid s = if y.ch then useF room f us oid ⟨oid, y.o, false⟩ else f by rw [HF.out]; simp only [if_true, e1])
   have HU2 := Lib.hid (show setlU x.size room ps us f oid s = if y.ch then useU room f us oid ⟨oid, y.o, false⟩ else us by rw [HU.out]; simp only [if_true, e1])
   have cch := item_ch e4
   have HI := Lib.hid e4
   have HE2 := Lib.hid e2
   unfold ptr at HE2
   clear h1 s1 hlk e1 e2 e3 e4
   cases hch : y.ch
   ·have HF3 := Lib.hid (show setlF x.size room ps us f oid s = f by rw [HF2.out, hch]; rfl)
    have HU3 := Lib.hid (show setlU x.size room ps us f oid s = us by rw [HU2.out, hch]; rfl)
    rw [hch] at cch
    clear hch HF2 HU2
    go_wp2_with (at_lookup; refine wpList_lookG _ rfl _ _ true rfl Tryz.underlying95 Tryz.underlying3 hm rfl oid rfl _ HE2.out ?_)
    go_ret
    exact ⟨rfl, C, by rw [HF3.out, HU3.out]; exact H1.out, S1.out⟩
   ·have HF3 := Lib.hid (show setlF x.size room ps us f oid s = useF room f us oid ⟨oid, y.o, false⟩ by rw [HF2.out, hch]; rfl)
    have HU3 := Lib.hid (show setlU x.size room ps us f oid s = useU room f us oid ⟨oid, y.o, false⟩ by rw [HU2.out, hch]; rfl)
    rw [hch] at cch
    clear hch HF2 HU2
    have hb3 : Below w1.heap.size w1 (w1.alloc (.cells (y.o.cells ++ [Value.bool false]).toArray 103)) := (Below.refl _ w1).alloc (Nat.le_refl _) _
    have HUS := Lib.hid (use_any C room ml us f oid w1.heap.size ⟨oid, y.o, false⟩ _ (H1.out.below hb3) (ItemAt.new w1 oid y.o false HI.out.1) hu hf hroom)
    have HB3 := Lib.hid hb3
    have hbt := citem_built0 y.o HI.out.1
    have HBT := Lib.hid hbt
    have hrow := item_row HI.out
    have hsz : (Tryz.prog.info? 47).map (·.size) = some y.o.cells.length := by rw [ObjD.len HI.out.1]; kernel_rfl
    unfold ptr at HUS
    obtain ⟨oc, eoc⟩ : ∃ oc, oc = y.o.cells := ⟨_, rfl⟩
    rw [← eoc] at HBT HUS HB3 hrow hsz
    clear hb3 eoc hbt
    go_wp2_with (first
     | (at_lookup; refine wpList_lookG _ rfl _ _ true rfl Tryz.underlying95 Tryz.underlying3 hm rfl oid rfl _ HE2.out ?_)
     | (refine wpList_load_mid rfl 47 _ rfl b 0 rfl oc _ hrow Tryz.underlying47 rfl hsz ?_)
     | (refine wpList_buildL rfl 103 _ rfl _ HBT.out ?_))
    refine HUS.out.mono ?_; rintro r w3 ⟨rfl, C3, h3, s3⟩
    have H3 := Lib.hid h3
    have S3 := Lib.hid s3
    clear h3 s3
    go_wp2_with fail
    go_ret
    exact ⟨rfl, C3, by rw [HF3.out, HU3.out]; exact H3.out, S1.out.trans (S3.out.item HB3.out (Nat.le_refl _))⟩
  ·have HF2 := Lib.hid (show setlF x.size room ps us f oid s = f by rw [HF.out]; simp only [if_true, e1])
   have HU2 := Lib.hid (show setlU x.size room ps us f oid s = us by rw [HU.out]; simp only [if_true, e1])
   have HE2 := Lib.hid e2
   clear h1 s1 hlk e1 e2
   go_wp2_with (at_lookup; refine wpList_lookG_no _ rfl _ _ true rfl Tryz.underlying95 Tryz.underlying3 hm rfl oid rfl _ (zero_item _) HE2.out ?_)
   go_ret
   exact ⟨rfl, C, by rw [HF2.out, HU2.out]; exact H1.out, S1.out⟩
 ·have HF2 := Lib.hid (show setlF x.size room ps us f oid s = f by rw [HF.out, if_neg (by decide)])
  have HU2 := Lib.hid (show setlU x.size room ps us f oid s = us by rw [HU.out, if_neg (by decide)])
  go_enter Tryz.func23, Tryz.ntmps23
  go_wp2_with fail
  refine HM.out.mono ?_; rintro r w1 ⟨rfl, h1, s1⟩
  have H1 := Lib.hid h1
  have S1 := Lib.hid s1
  clear h1 s1
  go_wp2_with fail
  go_ret
  exact ⟨rfl, C, by rw [HF2.out, HU2.out]; exact H1.out, S1.out⟩
end Go.Proofs.YtemcgfncahccgaaGreat
