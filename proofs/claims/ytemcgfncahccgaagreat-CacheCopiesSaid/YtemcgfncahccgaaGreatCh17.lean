/-
  The program's cache: use.
  The plain law of the cache: what the program keeps (a map and a list of what was used) is what the reference keeps (a list of items).
  The program's cache: Place, Hand.
  The reference's cache: find, without, Clean, Oids, there.
-/
import Derived.Test.YtemcgfncahccgaaGreatCh14
import Derived.Test.YtemcgfncahccgaaGreatCh16
set_option linter.unusedVariables false
set_option linter.unusedSimpArgs false
namespace Go.Proofs.YtemcgfncahccgaaGreat
open Go.RowKit Go.Shelf

def setF (f : Int → Option ItemD) (oid : Int) (y : ItemD) : Int → Option ItemD := fun m => if m = oid then some y else f m
def dropF (f : Int → Option ItemD) (oid : Int) : Int → Option ItemD := fun m => if m = oid then none else f m
/-- what is at hand behind a use -/
def useF (room : Int) (f : Int → Option ItemD) (us : List Int) (oid : Int) (y : ItemD) : Int → Option ItemD :=
 if room < ((cleanU (setF f oid y) (woL us oid ++ [oid])).length : Int) then dropF (setF f oid y) ((cleanU (setF f oid y) (woL us oid ++ [oid])).getD 0 0) else setF f oid y
def useU (room : Int) (f : Int → Option ItemD) (us : List Int) (oid : Int) (y : ItemD) : List Int :=
 if room < ((cleanU (setF f oid y) (woL us oid ++ [oid])).length : Int) then woL (woL us oid ++ [oid]) ((cleanU (setF f oid y) (woL us oid ++ [oid])).getD 0 0) else woL us oid ++ [oid]
theorem woL_len (l : List Int) (x : Int) : (woL l x).length ≤ l.length := List.length_filter_le _ _
theorem cleanU_len (f : Int → Option ItemD) (l : List Int) : (cleanU f l).length ≤ l.length := List.length_filter_le _ _
theorem woL_mem {l : List Int} {x m : Int} (h : m ∈ woL l x) : m ∈ l ∧ m ≠ x := by
 unfold woL at h
 obtain ⟨h1, h2⟩ := List.mem_filter.1 h
 exact ⟨h1, fun e => by subst e; simp at h2⟩

theorem grown_out {w w' : World} {row : Option Nat} (h : w.grownBy w' row) : Out (fun i => row = some i) w w' := ⟨h.os, h.tape, h.output, h.size, fun i hi hn => h.block i hi (fun e => hn e.symm)⟩
/-- Collect over the clean ones -/
theorem clean_collect (C : CacheP) (room : Int) (ps us : List Int) (f : Int → Option ItemD) (hm : us.length ≤ 1000000) (hf : ∀ m ∈ us, f m ≠ none) (w : World) (Bs : Nat) (hBs : Bs < w.heap.size) (hc : w.cell? ⟨Bs, 0, none⟩ = some (ptr C.g)) (hD : CacheRaw w C room ps f us) :
  Calls Tryz.prog 75 #[.func (.func 77) #[] #[.pointer (some ⟨Bs, 0, none⟩)]] w fun e w' => ∃ v, e = .returned v ∧ w'.ownsRow w.heap.size 3 1 v (cleanU f us).length ((cleanU f us).map (Value.int .i64)) ∧ Below w.heap.size w w' := by
 have hb : Below w.heap.size w (w.alloc (.cells #[.slice none 0 0] 23)) := (Below.refl _ w).alloc (Nat.le_refl _) _
 have hle := cleanU_len f us
 refine callsIn_wide.1 (collect_in 4 (by omega) _ _ (cleanU f us) w (enters_of Tryz.func77 rfl rfl) (by omega) ?_)
 exact clean_stops 2 (by omega) Bs _ C room ps us f hm hf _ (by have := hb.size; omega) (by exact hBs) ((hb.cell (p := ⟨Bs, 0, none⟩) hBs).trans hc) (hD.below hb) (fun i hi => hD.has_lt i hi)
/-- .. and Sorted -/
theorem clean_sorted (C : CacheP) (room : Int) (ps us : List Int) (f : Int → Option ItemD) (hm : us.length ≤ 1000000) (hf : ∀ m ∈ us, f m ≠ none) (w : World) (Bs : Nat) (hBs : Bs < w.heap.size) (hc : w.cell? ⟨Bs, 0, none⟩ = some (ptr C.g)) (hD : CacheRaw w C room ps f us) :
  Calls Tryz.prog 44 #[.func (.func 77) #[] #[.pointer (some ⟨Bs, 0, none⟩)]] w fun e w' => ∃ v, e = .returned v ∧ w'.ownsRow w.heap.size 3 1 v (cleanU f us).length ((sortI (cleanU f us)).map (Value.int .i64)) ∧ Below w.heap.size w w' := by
 have hb : Below w.heap.size w (w.alloc (.cells #[.slice none 0 0] 23)) := (Below.refl _ w).alloc (Nat.le_refl _) _
 have hle := cleanU_len f us
 refine callsIn_wide.1 (sorted_in 5 (by omega) _ _ (cleanU f us) w (enters_of Tryz.func77 rfl rfl) (by omega) ?_)
 exact clean_stops 2 (by omega) Bs _ C room ps us f hm hf _ (by have := hb.size; omega) (by exact hBs) ((hb.cell (p := ⟨Bs, 0, none⟩) hBs).trans hc) (hD.below hb) (fun i hi => hD.has_lt i hi)

set_option maxHeartbeats 4000000 in
theorem use_any (C : CacheP) (room : Int) (ps us : List Int) (f : Int → Option ItemD) (oid : Int) (b0 : Nat) (y0 : ItemD) (w : World) (h : CacheRaw w C room ps f us) (hy : ItemAt w b0 y0) (hl : us.length ≤ 100000) (hf : ∀ m ∈ us, f m ≠ none) (hroom : 0 ≤ room) :
  Calls Tryz.prog 43 #[ptr C.g, .int .i64 oid, ptr b0] w fun e w' => e = .returned (.tuple #[]) ∧ ∃ C', CacheRaw w' C' room ps (useF room f us oid y0) (useU room f us oid y0) ∧ CStep { C with bs := b0 :: C.bs } C' w w' := by
 obtain ⟨l, c, hm, hlk⟩ := h.hand
 have HLK := Lib.hid hlk
 have c3 := h.blk.cell_is 3 rfl
 have H := Lib.hid h
 have HY := Lib.hid hy
 have HU := Lib.hid (show ∀ P : (Int → Option ItemD) → List Int → Prop, (if room < ((cleanU (setF f oid y0) (woL us oid ++ [oid])).length : Int) then P (dropF (setF f oid y0) ((cleanU (setF f oid y0) (woL us oid ++ [oid])).getD 0 0)) (woL (woL us oid ++ [oid]) ((cleanU (setF f oid y0) (woL us oid ++ [oid])).getD 0 0)) else P (setF f oid y0) (woL us oid ++ [oid])) → P (useF room f us oid y0) (useU room f us oid y0) by
  intro P hP
  unfold useF useU
  by_cases hr : room < ((cleanU (setF f oid y0) (woL us oid ++ [oid])).length : Int)
  ·rw [if_pos hr] at hP ⊢; rw [if_pos hr]; exact hP
  ·rw [if_neg hr] at hP ⊢; rw [if_neg hr]; exact hP)
 obtain ⟨i0, z0, hT⟩ := rowG_int
 have HT := Lib.hid hT
 have hf1 : ∀ m ∈ woL us oid ++ [oid], setF f oid y0 m ≠ none := by
  intro m hm
  unfold setF
  by_cases e : m = oid
  ·rw [if_pos e]; simp
  ·rw [if_neg e]
   rcases List.mem_append.1 hm with hm | hm
   ·exact hf m (woL_mem hm).1
   ·exact absurd (List.mem_singleton.1 hm) e
 have HF1 := Lib.hid hf1
 have hw1 : (woL us oid).length ≤ 100000 := Nat.le_trans (woL_len us oid) hl
 obtain ⟨f1, ef1⟩ : ∃ f1, f1 = setF f oid y0 := ⟨_, rfl⟩
 obtain ⟨u0, eu0⟩ : ∃ u0, u0 = woL us oid := ⟨_, rfl⟩
 have EF1 := Lib.hid ef1
 have EU0 := Lib.hid eu0
 rw [← ef1, ← eu0] at HU HF1
 rw [← eu0] at hw1
 unfold ptr
 clear h hlk hy hT hf1 hf ef1 eu0
 go_enter Tryz.func43, Tryz.ntmps43
 go_wp2_with (at_mapUpdate; refine wpList_storeG _ rfl _ _ _ rfl Tryz.underlying95 Tryz.underlying3 hm rfl oid rfl (.pointer (some ⟨b0, 0, none⟩)) rfl ?_; intro w1 l1 c1 hm1 hl1 ht1; have H1 := Lib.hid (H.out.put_ ht1 hm1 l oid HLK.out b0 y0 HY.out hl1); have d3 := H1.out.blk.cell_is 4 rfl; have hl1 := Lib.hid hl1)
 have H1' := Lib.hid (show CacheRaw w1 { C with bs := b0 :: C.bs } room ps f1 us by rw [EF1.out]; exact H1.out)
 clear H1
 have hrow := H1'.out.used
 refine (without_any C.uv us oid w1 (by omega) (ownsRow_ints hrow (by omega))).mono ?_
 rintro e w2 ⟨v2, rfl, ho, hb⟩
 rw [← EU0.out] at ho
 have HB2 := Lib.hid hb
 have H2 := Lib.hid (H1'.out.below hb)
 obtain ⟨a2, cap2, rfl⟩ := slice_form ho
 have hnew := blk_range (Blk.new w2 3 #[.int .i64 oid])
 have hO2 := ho.alloc (.cells #[.int .i64 oid] 3)
 have hsz2 : w1.heap.size ≤ (w2.alloc (.cells #[.int .i64 oid] 3)).heap.size := by have := hb.size; simp; omega
 clear ho hb hrow c3 d3
 go_wp2_with (at_builtin; go_loud (refine wpList_append_one HT.out (by decide) (by decide) (w2.alloc (.cells #[.int .i64 oid] 3)) rfl (.tmp 19) (.tmp 21) rfl w1.heap.size u0.length _ _ rfl hO2 w2.heap.size 1 [.int .i64 oid] rfl rfl (by simp [Value.oneCell']) hnew (by omega) hsz2 ?_; intro u4 w4 hO4 hg4; obtain ⟨a4, cap4, rfl⟩ := slice_form hO4; have hO4 := Lib.hid hO4; have hg4 := Lib.hid hg4; have H4 := Lib.hid ((H2.out.below ((Below.refl _ w2).alloc (Nat.le_refl _) _)).out (grown_out hg4.out) (fun i hi e => by have h1 := (hO2.lt i e).1; have h2 := H1'.out.has_lt i hi; omega)); have c4 := H4.out.blk.cell_is 4 rfl; have f4 := H4.out.blk.frozen 4))
 obtain ⟨w5, e5⟩ : ∃ w5, w5 = w4.setCell ⟨C.g, 4, none⟩ (.slice a4 (u0.length + 1) cap4) := ⟨_, rfl⟩
 rw [← e5]
 have hnew4 : ∀ i, (Value.slice a4 (u0.length + 1) cap4).ownBlock = some i → w1.heap.size ≤ i := fun i hi => (hO4.out.lt i hi).1
 have H5 := Lib.hid (show CacheRaw w5 { C with bs := b0 :: C.bs, uv := .slice a4 (u0.length + 1) cap4 } room ps f1 (u0 ++ [oid]) by
  rw [e5]
  refine H4.out.use_ (u0 ++ [oid]) _ ?_ (fun i hi hC => by have := hnew4 i hi; have := H1'.out.has_lt i (.inl hC); omega)
  rw [ints_snoc', List.length_append]
  exact hO4.out.mono (Nat.zero_le _))
 have hws : w1.heap.size = w.heap.size := ht1.size
 have S5 := Lib.hid (show CStep { C with bs := b0 :: C.bs } { C with bs := b0 :: C.bs, uv := .slice a4 (u0.length + 1) cap4 } w w5 by
  refine ⟨?_, ⟨rfl, rfl, rfl, rfl⟩, fun i hi => ?_⟩
  ·rw [e5]
   refine ((((Out.refl C.own w).trans (turn_out ht1) (fun i _ e => .inr (.inl e))).trans (G := fun _ => False) (outB (HB2.out.trans ((Below.refl _ w2).alloc HB2.out.size _))) (fun _ _ => False.elim)).trans (grown_out hg4.out) (fun i hi e => ?_)).trans (out_set (F := C.own) (.inl rfl)) (fun _ _ h => h)
   have := (hO2.lt i e).1
   omega
  ·rcases hi with hi | hi | hi
   ·exact .inl (.inl hi)
   ·exact .inr (by have := hnew4 i hi; omega)
   ·exact .inl (.inr (.inr hi)))
 clear hnew4 e5 c4 f4 hO2 hsz2 hnew hws
 obtain ⟨C5, eC5, eg5⟩ : ∃ C5 : CacheP, C5 = { C with bs := b0 :: C.bs, uv := .slice a4 (u0.length + 1) cap4 } ∧ C5.g = C.g := ⟨_, rfl, rfl⟩
 rw [← eC5] at H5 S5
 clear eC5
 have hb6 : Below w5.heap.size w5 (w5.alloc (.cells #[ptr C.g] 35)) := (Below.refl _ w5).alloc (Nat.le_refl _) _
 have H6 := Lib.hid (H5.out.below hb6)
 have hul : (u0 ++ [oid]).length ≤ 1000000 := by simp; omega
 have HCc := Lib.hid (clean_collect C5 room ps (u0 ++ [oid]) f1 hul HF1.out _ w5.heap.size (by simp) (by rw [eg5]; exact (Blk.new w5 35 #[ptr C.g]).cell_is 0 rfl) H6.out)
 have S6 := Lib.hid (S5.out.below hb6)
 obtain ⟨cl, ecl⟩ : ∃ cl, cl = cleanU f1 (u0 ++ [oid]) := ⟨_, rfl⟩
 have hcll : cl.length ≤ 1000000 := by have := cleanU_len f1 (u0 ++ [oid]); rw [← ecl] at this; omega
 rw [← ecl] at HCc HU
 have HG := Lib.hid eg5
 clear hb6 hul ecl eg5
 have HCl := Lib.hid (callsIn_wide.1 (clean_in 0 C.g w5))
 unfold ptr at HCl HCc H6 S6
 refine HCl.out.mono ?_; rintro e w6 ⟨rfl, rfl⟩
 go_wp2_with fail
 refine HCc.out.mono ?_; rintro e w7 ⟨v7, rfl, ho7, hb7⟩
 obtain ⟨a7, cap7, rfl⟩ := slice_form ho7
 have H7 := Lib.hid (H6.out.below hb7)
 have S7 := Lib.hid (S6.out.below hb7)
 have c1 := H7.out.blk.cell_is 1 rfl
 rw [HG.out] at c1
 have hin := ownsRow_ints ho7 hcll
 clear ho7 hb7
 by_cases hr : room < (cl.length : Int)
 ·obtain ⟨m0, tl, rfl⟩ : ∃ m0 tl, cl = m0 :: tl := by
   cases cl with
   | nil => simp at hr; omega
   | cons a b => exact ⟨a, b, rfl⟩
  obtain ⟨g7, off7, rfl, _, hc7⟩ := hin.at_ (j := 0) (x := m0) rfl
  rw [Nat.add_zero] at hc7
  have hr1 : room < (tl.length : Int) + 1 := by simpa using hr
  have e0 : decide (room < (tl.length : Int) + 1) = true := by simpa using hr1
  have HGo := Lib.hid (gone_any C5 room ps (u0 ++ [oid]) f1 m0 w7 H7.out (by simp; omega))
  rw [HG.out] at HGo
  have HR := Lib.hid hr
  have hlen : (0 : Int) < ((m0 :: tl).length : Int) := by simp
  unfold ptr at HGo
  clear hin hr
  go_wp2_with fail
  refine HGo.out.mono ?_; rintro e w8 ⟨rfl, C8, h8, s8⟩
  have H8 := Lib.hid h8
  have S8 := Lib.hid s8
  clear h8 s8
  go_wp2_with fail
  go_end0
  refine ⟨rfl, HU.out (fun f2 u2 => ∃ C', CacheRaw _ C' room ps f2 u2 ∧ CStep _ C' w _) ?_⟩
  rw [if_pos (by have := HR.out; simpa using this)]
  exact ⟨C8, H8.out, S7.out.trans S8.out⟩
 ·have e0 : decide (room < (cl.length : Int)) = false := by simpa using hr
  have HR := Lib.hid hr
  clear hin hr
  go_wp2_with fail
  go_end0
  refine ⟨rfl, HU.out (fun f2 u2 => ∃ C', CacheRaw _ C' room ps f2 u2 ∧ CStep _ C' w _) ?_⟩
  rw [if_neg (by have := HR.out; omega)]
  exact ⟨C5, H7.out, S7.out⟩
end Go.Proofs.YtemcgfncahccgaaGreat
namespace Go.Proofs.YtemcgfncahccgaaGreat
open Go.RowKit

theorem oids_drop (h : List ItemD) (oid : Int) : oidsOf (dropI h oid) = woL (oidsOf h) oid := by
 unfold oidsOf dropI woL
 rw [List.filter_map]
 congr 1
 apply List.filter_congr
 intro x _
 simp only [Function.comp, bne]
 rw [Bool.beq_comm]
theorem itemOf_cons (x : ItemD) (h : List ItemD) (m : Int) : itemOf (x :: h) m = if m = x.oid then some x else itemOf h m := by
 unfold itemOf
 rw [List.find?_cons]
 by_cases e : m = x.oid
 ·subst e; simp
 ·have : (x.oid == m) = false := by simpa using fun h => e h.symm
  rw [this, if_neg e]
theorem itemOf_append (a b : List ItemD) (m : Int) : itemOf (a ++ b) m = (itemOf a m).or (itemOf b m) := by
 unfold itemOf
 rw [List.find?_append]
theorem itemOf_drop (h : List ItemD) (oid m : Int) : itemOf (dropI h oid) m = dropF (itemOf h) oid m := by
 induction h with
 | nil => unfold dropF dropI itemOf; simp
 | cons x h ih =>
  unfold dropI at ih ⊢
  rw [List.filter_cons]
  unfold dropF at ih ⊢
  by_cases e : x.oid = oid
  ·have h1 : (x.oid != oid) = false := by simpa using e
   rw [h1]
   simp only [Bool.false_eq_true, if_false]
   rw [ih, itemOf_cons, e]
   by_cases e2 : m = oid
   ·simp [e2]
   ·simp [e2]
  ·have h1 : (x.oid != oid) = true := by simpa using e
   rw [h1]
   simp only [if_true]
   rw [itemOf_cons, ih, itemOf_cons]
   by_cases e2 : m = oid
   ·subst e2
    rw [if_neg (fun h => e h.symm), if_pos rfl, if_pos rfl]
   ·simp [e2]
theorem oids_put (h : List ItemD) (x : ItemD) : oidsOf (dropI h x.oid ++ [x]) = woL (oidsOf h) x.oid ++ [x.oid] := by
 rw [← oids_drop]
 unfold oidsOf
 rw [List.map_append]
 rfl
theorem itemOf_put (h : List ItemD) (x : ItemD) (m : Int) : itemOf (dropI h x.oid ++ [x]) m = setF (itemOf h) x.oid x m := by
 rw [itemOf_append, itemOf_drop, itemOf_cons]
 unfold dropF setF
 by_cases e : m = x.oid
 ·simp [e]
 ·simp [e, itemOf]
/-- the oids of a hand are different and all of 0 .. n - 1 -/
structure HandOk (n : Nat) (h : List ItemD) : Prop where
 once : (oidsOf h).Nodup
 inn : ∀ m ∈ oidsOf h, 0 ≤ m ∧ m < (n : Int)
theorem itemOf_mem {h : List ItemD} (hn : (oidsOf h).Nodup) {x : ItemD} (hx : x ∈ h) : itemOf h x.oid = some x := by
 induction h with
 | nil => cases hx
 | cons y h ih =>
  unfold oidsOf at hn ih
  rw [List.map_cons, List.nodup_cons] at hn
  rw [itemOf_cons]
  rcases List.mem_cons.1 hx with rfl | hx
  ·rw [if_pos rfl]
  ·rw [if_neg (fun e => hn.1 (by rw [← e]; exact List.mem_map_of_mem hx)), ih hn.2 hx]
theorem itemOf_some {h : List ItemD} {m : Int} {x : ItemD} (e : itemOf h m = some x) : x ∈ h ∧ x.oid = m := by
 unfold itemOf at e
 exact ⟨List.mem_of_find?_eq_some e, by simpa using List.find?_some e⟩
theorem itemOf_ne {h : List ItemD} {m : Int} : m ∈ oidsOf h → itemOf h m ≠ none := by
 intro hm e
 unfold itemOf at e
 rw [List.find?_eq_none] at e
 obtain ⟨x, hx, rfl⟩ := List.mem_map.1 hm
 exact e x hx (by simp)
theorem cleanU_hand {h : List ItemD} (hn : (oidsOf h).Nodup) : cleanU (itemOf h) (oidsOf h) = oidsOf (h.filter fun y => !y.ch) := by
 unfold cleanU
 conv => lhs; arg 2; unfold oidsOf
 rw [List.filter_map]
 unfold oidsOf
 congr 1
 apply List.filter_congr
 intro x hx
 simp only [Function.comp, isClean]
 rw [itemOf_mem hn hx]
theorem isClean_cleanB (h : List ItemD) (m : Int) : isClean (itemOf h) m = cleanB h m := rfl
theorem mem_rising {n : Nat} {p : Int → Bool} {m : Int} : m ∈ risingL n p ↔ (0 ≤ m ∧ m < (n : Int)) ∧ p m = true := by
 unfold risingL
 simp only [List.mem_map, List.mem_filter, List.mem_range]
 constructor
 ·rintro ⟨k, ⟨hk, hp⟩, rfl⟩
  exact ⟨⟨by omega, by omega⟩, hp⟩
 ·rintro ⟨⟨h1, h2⟩, hp⟩
  have e : ((m.toNat : Nat) : Int) = m := by omega
  exact ⟨m.toNat, ⟨by omega, by rw [e]; exact hp⟩, e⟩
theorem rising_sorted (n : Nat) (p : Int → Bool) : (risingL n p).Pairwise (· < ·) := by
 unfold risingL
 rw [List.pairwise_map]
 exact (List.pairwise_lt_range.filter _).imp (by intro a b h; omega)
theorem rising_nodup (n : Nat) (p : Int → Bool) : (risingL n p).Nodup := (rising_sorted n p).imp (by intro a b h; omega)
theorem sorted_perm_eq : ∀ (a b : List Int), a.Pairwise (· < ·) → b.Pairwise (· ≤ ·) → a.Perm b → a = b := by
 intro a b ha hb hp
 exact List.Perm.eq_of_pairwise (le := (· ≤ ·)) (fun x y _ _ h1 h2 => by omega) (ha.imp (by intro a b h; omega)) hb hp
/-- a list of different numbers, sorted, is the rising list of its members -/
theorem sortI_rising {n : Nat} {l : List Int} {p : Int → Bool} (hn : l.Nodup) (hm : ∀ m, m ∈ l ↔ (0 ≤ m ∧ m < (n : Int)) ∧ p m = true) : sortI l = risingL n p := by
 have h1 : (risingL n p).Perm l := (List.perm_ext_iff_of_nodup (rising_nodup n p) hn).2 fun m => by rw [mem_rising, hm]
 have h2 : (sortI l).Perm l := List.mergeSort_perm _ _
 have h3 : (sortI l).Pairwise (· ≤ ·) := by
  have := List.pairwise_mergeSort (le := fun x y : Int => decide (x ≤ y)) (fun a b c h1 h2 => by simp at *; omega) (fun a b => by simp; omega) l
  exact this.imp (by intro a b h; simpa using h)
 exact (sorted_perm_eq _ _ (rising_sorted n p) h3 (h1.trans h2.symm)).symm
end Go.Proofs.YtemcgfncahccgaaGreat
namespace Go.Proofs.YtemcgfncahccgaaGreat
open Go.RowKit Go.Shelf

def placeV (ps : List Int) (oid : Int) : Int := if 0 ≤ oid ∧ oid < (ps.length : Int) then ps.getD oid.toNat 0 else 0
set_option maxHeartbeats 2000000 in
theorem place_any (C : CacheP) (room : Int) (ps us : List Int) (f : Int → Option ItemD) (oid : Int) (w : World) (h : CacheRaw w C room ps f us) (hl : ps.length ≤ 1000000) :
  Calls Tryz.prog 21 #[ptr C.g, .int .i64 oid] w fun e w' => e = .returned (.tuple #[.int .i64 (placeV ps oid), .int .i64 (thereE ps oid)]) ∧ w' = w := by
 have HA := Lib.hid (askc_any C room ps us f oid w h hl)
 have hin := ownsRow_ints h.places hl
 have c2 := h.blk.cell_is 2 rfl
 obtain ⟨a, cap, ev⟩ := slice_form h.places
 rw [ev] at c2 hin
 unfold ptr at *
 clear h ev
 by_cases ht : 0 ≤ oid ∧ oid < (ps.length : Int)
 ·have e1 : thereE ps oid = 0 := by unfold thereE; rw [if_pos ht]
  have e2 : placeV ps oid = ps.getD oid.toNat 0 := by unfold placeV; rw [if_pos ht]
  obtain ⟨k, rfl⟩ : ∃ k : Nat, oid = (k : Int) := ⟨oid.toNat, by omega⟩
  have hk : k < ps.length := by omega
  obtain ⟨g, off, rfl, hg, hc⟩ := hin.at_ (List.getElem?_eq_getElem hk)
  have e3 : ps.getD ((k : Int)).toNat 0 = ps[k]'hk := by rw [Int.toNat_natCast, List.getD_eq_getElem?_getD, List.getElem?_eq_getElem hk]; rfl
  rw [e1] at HA ⊢
  rw [e2, e3]
  generalize ps[k]'hk = y at *
  have hk1 : (k : Int) < (ps.length : Int) := by omega
  clear e1 e2 e3 hin ht
  go_enter Tryz.func21, Tryz.ntmps21
  go_wp2_with fail
  refine HA.out.mono ?_; rintro e w1 ⟨rfl, rfl⟩
  go_wp2_with fail
  exact bodyPost_ret (results_tmp2 Tryz.results21 _ _ _) rfl ⟨rfl, rfl⟩
 ·have e1 : thereE ps oid = 4 := by unfold thereE; rw [if_neg ht]
  have e2 : placeV ps oid = 0 := by unfold placeV; rw [if_neg ht]
  rw [e1] at HA ⊢
  rw [e2]
  clear e1 e2 hin ht
  go_enter Tryz.func21, Tryz.ntmps21
  go_wp2_with fail
  refine HA.out.mono ?_; rintro e w1 ⟨rfl, rfl⟩
  go_wp2_with fail
  exact bodyPost_ret (results_tmp2 Tryz.results21 _ _ _) rfl ⟨rfl, rfl⟩
set_option maxHeartbeats 2000000 in
theorem hand_any (C : CacheP) (room : Int) (ps us : List Int) (f : Int → Option ItemD) (w : World) (h : CacheRaw w C room ps f us) (hl : us.length ≤ 100000) :
  Calls Tryz.prog 26 #[ptr C.g] w fun e w' => ∃ v, e = .returned v ∧ w'.ownsRow w.heap.size 3 1 v us.length ((sortI us).map (Value.int .i64)) ∧ Below w.heap.size w w' := by
 have hin := ownsRow_ints h.used (by omega)
 have c4 := h.blk.cell_is 4 rfl
 obtain ⟨a, cap, ev⟩ := slice_form h.used
 rw [ev] at c4 hin
 have hb1 : Below w.heap.size w (w.alloc (.cells #[.slice a us.length cap] 23)) := (Below.refl _ w).alloc (Nat.le_refl _) _
 have hb2 : Below w.heap.size w ((w.alloc (.cells #[.slice a us.length cap] 23)).alloc (.cells #[.slice none 0 0] 23)) := hb1.alloc (by simp) _
 have hbx : Below (w.alloc (.cells #[.slice a us.length cap] 23)).heap.size (w.alloc (.cells #[.slice a us.length cap] 23)) ((w.alloc (.cells #[.slice a us.length cap] 23)).alloc (.cells #[.slice none 0 0] 23)) := (Below.refl _ _).alloc (Nat.le_refl _) _
 have hcx : (w.alloc (.cells #[.slice a us.length cap] 23)).cell? ⟨w.heap.size, 0, none⟩ = some (.slice a us.length cap) := (Blk.new w 23 #[.slice a us.length cap]).cell_is 0 rfl
 have HS := Lib.hid (callsIn_wide.1 (sorted_in 5 (by omega) 80 #[.pointer (some ⟨w.heap.size, 0, none⟩)] us (w.alloc (.cells #[.slice a us.length cap] 23)) (enters_of Tryz.func80 rfl rfl) (by omega)
  (vals_stops 2 (by omega) w.heap.size w.heap.size _ _ us (by omega) _ (by simp; omega) ((hbx.cell (p := ⟨w.heap.size, 0, none⟩) (by simp)).trans hcx) (hin.below hb2 (Nat.le_refl _)) (by simp; omega) (fun g hg => by simp; omega))))
 have HV := Lib.hid (callsIn_wide.1 (vals_in 0 a us.length cap w))
 have HB1 := Lib.hid hb1
 unfold ptr at *
 clear h ev hin hb1 hb2 hbx hcx
 go_enter Tryz.func26, Tryz.ntmps26
 go_wp2_with fail
 refine HV.out.mono ?_; rintro e w1 ⟨rfl, rfl⟩
 go_wp2_with fail
 refine HS.out.mono ?_; rintro e w1 ⟨v1, rfl, ho, hb⟩
 obtain ⟨a1, cap1, rfl⟩ := slice_form ho
 have HO := Lib.hid ho
 have HB := Lib.hid hb
 clear ho hb
 go_wp2_with fail
 go_ret
 exact ⟨_, rfl, HO.out.mono (by simp), HB1.out.trans (HB.out.mono (by simp))⟩
end Go.Proofs.YtemcgfncahccgaaGreat
namespace Go.Proofs.YtemcgfncahccgaaGreat
open Go.RowKit

theorem size_rcache (a b c d e f g : Value) : (Tryz.prog.info? 61).map (·.size) = some (#[a, b, c, d, e, f, g] : Array Value).size := by
 show _ = some 7
 kernel_rfl
set_option maxRecDepth 100000 in
set_option maxHeartbeats 1000000 in
theorem rfind_any (a b c d e p hv : Value) (h : List ItemD) (oid : Int) (w : World) (hh : HandIn w w.heap.size hv h) :
  Calls Tryz.prog 81 #[.agg #[a, b, c, d, e, p, hv], .int .i64 oid] w fun x w' => x = .returned (.int .i64 (findI h oid)) ∧ Below w.heap.size w w' := by
 obtain ⟨A, cap, rfl⟩ : ∃ A cap, hv = .slice A h.length cap := by obtain ⟨_, _, A, cap, e, _⟩ := hh; exact ⟨A, cap, e⟩
 have hl := hh.1
 have HH := Lib.hid hh
 obtain ⟨W, eW⟩ : ∃ W, W = w.alloc (.cells #[a, b, c, d, e, p, .slice A h.length cap] 61) := ⟨_, rfl⟩
 have hbW : Below w.heap.size w W := by rw [eW]; exact (Below.refl _ w).alloc (Nat.le_refl _) _
 have k0 : Blk W w.heap.size 61 #[a, b, c, d, e, p, .slice A h.length cap] := by rw [eW]; exact Blk.new w _ _
 have c6 := k0.cell_is 6 rfl
 have HW := Lib.hid hbW
 clear hh k0 hbW
 go_enter Tryz.func81, Tryz.ntmps81
 go_upto_region 1 with fail
 rw [← eW]
 clear eW
 go_wp2_with fail
 go_loopw [5] (fun i wr => ∃ j : Nat, j ≤ h.length ∧ i = .int .i64 j ∧ (∀ y ∈ h.take j, y.oid ≠ oid) ∧ wr = W) (fun i _ => h.length - (intOf i).toNat)
 case atStart => exact ⟨0, by omega, rfl, by simp, rfl⟩
 case round =>
  obtain ⟨j, hj, rfl, hno, rfl⟩ := hrel
  have HNO := Lib.hid hno
  clear hno
  by_cases hlt : j < h.length
  ·obtain ⟨x, hx⟩ : ∃ x, h[j]? = some x := ⟨_, List.getElem?_eq_getElem hlt⟩
   obtain ⟨g, rfl, hg, _, ho, _⟩ := (HH.out.below HW.out (Nat.le_refl _)).at_ hx
   have HX := Lib.hid hx
   have i2 : (j : Int) < (h.length : Int) := by omega
   clear hx
   by_cases he : x.oid = oid
   ·have hd : (x.oid == oid) = true := by simpa using he
    have HF := Lib.hid (findI_yes HX.out he HNO.out).1
    clear he
    go_wp2_with fail
    go_ret
    exact ⟨by rw [HF.out]; rfl, HW.out⟩
   ·have hd : (x.oid == oid) = false := by simpa using he
    have HN2 := Lib.hid (show ∀ y ∈ h.take (j + 1), y.oid ≠ oid from fun y hy => by
     rw [List.take_add_one, HX.out] at hy
     rcases List.mem_append.1 hy with hy | hy
     ·exact HNO.out y hy
     ·obtain rfl : y = x := by simpa using hy
      exact he)
    clear he
    go_wp2_with fail
    exact ⟨⟨j + 1, by omega, by go_num, HN2.out, trivial⟩, by simp [intOf]; omega⟩
  ·obtain rfl : j = h.length := by omega
   have HF := Lib.hid (findI_no (h := h) (oid := oid) (by have := HNO.out; rwa [List.take_length] at this)).1
   go_wp2_with fail
   go_ret
   exact ⟨by rw [HF.out]; rfl, HW.out⟩
theorem dropI_next {h : List ItemD} {j : Nat} {x : ItemD} (hx : h[j]? = some x) (oid : Int) : dropI (h.take (j + 1)) oid = if x.oid = oid then dropI (h.take j) oid else dropI (h.take j) oid ++ [x] := by
 unfold dropI
 rw [List.take_add_one, hx, List.filter_append]
 by_cases he : x.oid = oid
 ·simp [he]
 ·simp [he]
theorem dropI_len (h : List ItemD) (oid : Int) : (dropI h oid).length ≤ h.length := List.length_filter_le _ _
theorem dropI_ok {h : List ItemD} (hk : ∀ x ∈ h, x.o.ok) (oid : Int) : ∀ x ∈ dropI h oid, x.o.ok := fun x hx => hk x (List.mem_filter.1 hx).1
set_option maxRecDepth 100000 in
set_option maxHeartbeats 1000000 in
theorem rwithout_any (a b c d e p hv : Value) (h : List ItemD) (oid : Int) (w : World) (hh : HandIn w w.heap.size hv h) :
  Calls Tryz.prog 87 #[.agg #[a, b, c, d, e, p, hv], .int .i64 oid] w fun x w' => ∃ v, x = .returned v ∧ w'.ownsRow w.heap.size 149 165 v (dropI h oid).length (itemCells (dropI h oid)) ∧ Below w.heap.size w w' := by
 obtain ⟨A, cap, rfl⟩ : ∃ A cap, hv = .slice A h.length cap := by obtain ⟨_, _, A, cap, e, _⟩ := hh; exact ⟨A, cap, e⟩
 have hl := hh.1
 have hok := hh.2.1
 have HH := Lib.hid hh
 obtain ⟨i0, z0, hT⟩ := rowG_item
 have HT := Lib.hid hT
 obtain ⟨W, eW⟩ : ∃ W, W = w.alloc (.cells #[a, b, c, d, e, p, .slice A h.length cap] 61) := ⟨_, rfl⟩
 have hbW : Below w.heap.size w W := by rw [eW]; exact (Below.refl _ w).alloc (Nat.le_refl _) _
 have k0 : Blk W w.heap.size 61 #[a, b, c, d, e, p, .slice A h.length cap] := by rw [eW]; exact Blk.new w _ _
 have sz : (Tryz.prog.info? 149).map (·.size) = some 165 := by kernel_rfl
 clear hh hT
 go_enter Tryz.func87, Tryz.ntmps87
 go_upto_region 2 with fail
 rw [← eW]
 clear eW
 go_wp2_with fail
 go_loopw [5, 6] (fun u i wr => ∃ (j : Nat) (u' : Value), u' = u ∧ j ≤ h.length ∧ i = .int .i64 j ∧ wr.ownsRow w.heap.size 149 165 u' (dropI (h.take j) oid).length (itemCells (dropI (h.take j) oid)) ∧ Blk wr w.heap.size 61 #[a, b, c, d, e, p, .slice A h.length cap] ∧ Below w.heap.size w wr) (fun _ i _ => h.length - (intOf i).toNat)
 case atStart => exact ⟨0, _, rfl, by omega, rfl, ⟨rfl, .inl ⟨rfl, rfl⟩⟩, k0, hbW⟩
 case round =>
  obtain ⟨j, u, rfl, hj, rfl, hO, hK, hB⟩ := hrel
  have c6 := hK.cell_is 6 rfl
  have HO := Lib.hid hO
  have HK := Lib.hid hK
  have HB := Lib.hid hB
  clear hO hK hB
  by_cases hlt : j < h.length
  ·obtain ⟨x, hx⟩ : ∃ x, h[j]? = some x := ⟨_, List.getElem?_eq_getElem hlt⟩
   obtain ⟨g, rfl, hg, hr, ho, _⟩ := (HH.out.below HB.out (Nat.le_refl _)).at_ hx
   have hnx := dropI_next hx oid
   have hxl := ItemD.len x (hok x (List.mem_of_getElem? hx))
   have hx1 := item_one x
   have HR := Lib.hid hr
   have hdl := dropI_len (h.take j) oid
   have i2 : (j : Int) < (h.length : Int) := by omega
   by_cases he : x.oid = oid
   ·have hd : (x.oid != oid) = false := by simpa using he
    rw [if_pos he] at hnx
    have HN := Lib.hid hnx
    clear he hnx hx hr
    go_wp2_with fail
    exact ⟨⟨j + 1, _, rfl, by omega, by go_num, by rw [HN.out]; exact HO.out, HK.out, HB.out⟩, by simp [intOf]; omega⟩
   ·have hd : (x.oid != oid) = true := by simpa using he
    rw [if_neg he] at hnx
    have HN := Lib.hid hnx
    have hsl : (Tryz.prog.info? 149).map (·.size) = some x.cells.length := by rw [hxl]; exact sz
    have hax : x.cells.toArray.size = 165 := by simpa using hxl
    have hnew := blk_range (Blk.new wr 149 x.cells.toArray)
    have hO2 := HO.out.alloc (.cells x.cells.toArray 149)
    have hB2 := HB.out.alloc HB.out.size (.cells x.cells.toArray 149)
    have hK2 := HK.out.alloc (.cells x.cells.toArray 149)
    have htl : (h.take j).length ≤ 1000000 := by rw [List.length_take]; omega
    clear he hnx hx hr
    go_wp2_with (first
     | (refine wpList_load_mid rfl 149 _ rfl g (j * 165) rfl x.cells _ HR.out Tryz.underlying149 rfl hsl ?_)
     | (refine wpList_build1 HT.out (by decide) (by decide) rfl _ rfl x.cells.toArray hax rfl ?_)
     | (at_builtin; refine wpList_append_one HT.out (by decide) (by decide) (wr.alloc (.cells x.cells.toArray 149)) rfl (.tmp 22) (.tmp 28) rfl w.heap.size (dropI (h.take j) oid).length u _ rfl hO2 wr.heap.size 1 x.cells rfl hxl hx1 hnew (by omega) hB2.size ?_; intro u4 w4 hO4 hg4))
    go_roundw
    case rel =>
     refine ⟨j + 1, _, rfl, by omega, by go_num, ?_, (hg4.block _ hK2.lt (fun e => ne_own hO2 hK2 (by decide) _ e.symm rfl)).trans hK2, hB2.grown hg4 hB2.size (fun r hr => (hO2.lt r hr).1)⟩
     rw [HN.out, itemCells_snoc, List.length_append]
     exact hO4
    case measure => simp [intOf]; omega
  ·obtain rfl : j = h.length := by omega
   have hO := HO.out
   rw [List.take_length] at hO
   have HO2 := Lib.hid hO
   clear hO HO
   go_wp2_with fail
   go_ret
   exact ⟨u, rfl, HO2.out, HB.out⟩
end Go.Proofs.YtemcgfncahccgaaGreat
