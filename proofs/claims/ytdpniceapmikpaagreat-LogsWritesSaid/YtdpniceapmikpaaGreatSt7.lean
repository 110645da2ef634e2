/-
  The contracts of slices.Concat and sums.joined, for slices of bytes.
  The contracts of sums.Seal and sums.Sealed, for all bytes.
  The contracts of the reference's Seal and Sealed, for all bytes.
  The contracts of volume.right, of the closure of volume.parts, and of volume.parts.
-/
import Derived.Laws.IdiomStrings
import Derived.Lib.BufferRead
import Derived.Test.YtdpniceapmikpaaGreatSt6
set_option linter.unusedVariables false
set_option linter.unusedSimpArgs false
namespace Go.Proofs.YtdpniceapmikpaaGreat
open Go.RowKit

/-- a slice of slices of bytes that is read -/
def SlicesIn (W : World) (B : Nat) (v : Value) (ls : List (List UInt8)) : Prop :=
 ∃ g off cap, v = .slice (some ⟨g, off, none⟩) ls.length cap ∧ g < B ∧ ∀ i l, ls[i]? = some l → ∃ a c, W.cell? ⟨g, off + i, none⟩ = some (.slice a l.length c) ∧ BytesIn W B (.slice a l.length c) l
theorem BytesIn.len_le {W : World} {B : Nat} {a : Option Addr} {n c : Nat} {l : List UInt8} (h : BytesIn W B (.slice a n c) l) : l.length = n ∧ n ≤ c := by
 obtain ⟨_, a', c', e, h3, _⟩ := h
 injection e with e1 e2 e3
 omega
theorem lenAll_take (ls : List (List UInt8)) (i : Nat) (l : List UInt8) (h : ls[i]? = some l) : (ls.take (i + 1)).flatten = (ls.take i).flatten ++ l := by
 rw [List.take_add_one, h]
 simp
theorem lenAll_le (ls : List (List UInt8)) (i : Nat) : (ls.take i).flatten.length ≤ ls.flatten.length := by
 have h : ls.flatten = (ls.take i).flatten ++ (ls.drop i).flatten := by rw [← List.flatten_append, List.take_append_drop]
 rw [h, List.length_append]
 omega

theorem grow_nil (n : Nat) (w : World) (hn : n ≤ 140737488355328) : Calls Tryz.prog 166 #[.slice none 0 0, .int .i64 n] w fun e w' =>
  ∃ v, e = .returned v ∧ w'.ownsRow w.heap.size 5 1 v 0 [] ∧ Below w.heap.size w w' := by
 obtain ⟨i0, hi0, hz0, hz1, hz2⟩ := info_parts info_u8
 by_cases h0 : n = 0
 ·subst h0
  refine (Tryz.slices_Grow_room none 0 0 0 w (by omega) (by omega) (by omega) (by omega)).mono ?_
  rintro e w' ⟨rfl, rfl⟩
  exact ⟨_, rfl, World.ownsRow_nil _ _ _ _, Below.refl _ _⟩
 ·refine (Tryz.slices_Grow_grow i0 _ hi0 hz0 (by omega) none 0 0 n [] w (by omega) (by omega) (by rw [hz2]; omega) (by omega) (by simp) (fun _ => rfl) (fun a h => by cases h)).mono ?_
  rintro e w' ⟨rfl, rfl⟩
  have hg := grownCap_ge w (0 + n) 0 5
  have hg2 := grownCap_le_maxLen w (0 + n) 0 5 (by unfold maxLen; omega)
  refine ⟨_, rfl, ?_, (Below.refl _ _).drew.alloc (Nat.le_refl _) _⟩
  refine ⟨rfl, .inr ⟨w.heap.size, grownCap w (0 + n) 0 5, _, rfl, Nat.le_refl _, heap_alloc_new w.drew _, by omega, hg2, ?_, by simp⟩⟩
  simp only [Nat.zero_add] at hg ⊢
  simp [size_zeroCells, Value.cells]
  omega

set_option maxRecDepth 100000 in
set_option maxHeartbeats 2000000 in
theorem concat_any (v : Value) (ls : List (List UInt8)) (w : World) (hv : SlicesIn w w.heap.size v ls) (ht : ls.flatten.length ≤ 1073741824) (hn : ls.length ≤ 1073741824) :
  Calls Tryz.prog 165 #[v] w fun e w' => ∃ u, e = .returned u ∧ w'.ownsRow w.heap.size 5 1 u ls.flatten.length (ls.flatten.map vu8) ∧ Below w.heap.size w w' := by
 obtain ⟨g, off, cap, rfl, hg, hc⟩ := hv
 go_enter Tryz.func165, Tryz.ntmps165
 go_wp2_with fail
 go_loopw [3, 11] (fun s i wr => ∃ j : Nat, j ≤ ls.length ∧ i = .int .i64 j ∧ s = .int .i64 (((ls.take j).flatten.length : Nat) : Int) ∧ w = wr) (fun _ i _ => ls.length - (intOf i).toNat)
 case atStart => exact ⟨0, by omega, rfl, rfl, rfl⟩
 case round =>
  obtain ⟨j, hj, rfl, rfl, rfl⟩ := hrel
  by_cases hlt : j < ls.length
  ·obtain ⟨a, c, hcell, hb⟩ := hc j _ (List.getElem?_eq_getElem hlt)
   have hT := lenAll_take ls j _ (List.getElem?_eq_getElem hlt)
   have hle := lenAll_le ls (j + 1)
   rw [hT, List.length_append] at hle
   have HT := Lib.hid (show (ls.take (j + 1)).flatten.length = (ls.take j).flatten.length + (ls[j]'hlt).length by rw [hT, List.length_append])
   clear hT hc
   generalize ls[j]'hlt = l at *
   generalize (ls.take j).flatten.length = N at *
   go_wp2_with fail
   refine ⟨⟨j + 1, by omega, by go_num, ?_, trivial⟩, by simp [intOf] <;> omega⟩
   rw [HT.out]; congr 1
  ·obtain rfl : j = ls.length := by omega
   rw [List.take_length]
   obtain ⟨T, hT⟩ : ∃ T, T = ls.flatten.length := ⟨_, rfl⟩
   rw [← hT] at ht ⊢
   have HT := Lib.hid hT
   clear hT
   go_wp2_with fail
   refine (grow_nil T w (by omega)).mono ?_; rintro e w1 ⟨u0, rfl, hO, hB⟩
   have HO := Lib.hid hO
   clear hO
   have hc1 : ∀ i l, ls[i]? = some l → ∃ a c, w1.cell? ⟨g, off + i, none⟩ = some (.slice a l.length c) ∧ BytesIn w1 w.heap.size (.slice a l.length c) l := by
    intro i l h
    obtain ⟨a, c, h1, h2⟩ := hc i l h
    exact ⟨a, c, (hB.cell (p := ⟨g, off + i, none⟩) hg).trans h1, h2.below hB (Nat.le_refl _)⟩
   have HC0 := Lib.hid hc
   have HC := Lib.hid hc1
   clear hc hc1
   go_wp2_with fail
   go_loopw [6, 27] (fun u i wx => ∃ j : Nat, j ≤ ls.length ∧ i = .int .i64 j ∧ wx.ownsRow w.heap.size 5 1 u (ls.take j).flatten.length ((ls.take j).flatten.map vu8) ∧ Below w.heap.size w wx) (fun _ i _ => ls.length - (intOf i).toNat)
   case atStart => exact ⟨0, by omega, rfl, by simpa using HO.out, hB⟩
   case round =>
    clear hB HO HC
    obtain ⟨j, hj, rfl, hO, hB⟩ := hrel
    by_cases hlt : j < ls.length
    ·obtain ⟨a, c, hcell0, hb0⟩ := HC0.out j _ (List.getElem?_eq_getElem hlt)
     have hcell := (hB.cell (p := ⟨g, off + j, none⟩) hg).trans hcell0
     have hb := hb0.below hB (Nat.le_refl _)
     have hT := lenAll_take ls j _ (List.getElem?_eq_getElem hlt)
     have hle := lenAll_le ls (j + 1)
     rw [hT, List.length_append] at hle
     have HTL := Lib.hid (show (ls.take (j + 1)).flatten.length = (ls.take j).flatten.length + (ls[j]'hlt).length by rw [hT, List.length_append])
     have HTM := Lib.hid (show (ls.take (j + 1)).flatten.map vu8 = (ls.take j).flatten.map vu8 ++ (ls[j]'hlt).map vu8 by rw [hT, List.map_append])
     rw [← HT.out] at hle
     have hsz := hB.size
     have HO := Lib.hid hO
     clear hT hcell0 hb0 hO
     generalize ls[j]'hlt = l at *
     generalize (ls.take j).flatten.length = N at *
     have hbl := Lib.hid hb
     clear hb
     go_wp2_with (at_builtin; refine wpList_append_bytes _ rfl _ _ rfl w.heap.size w.heap.size N _ _ rfl HO.out a l.length c l rfl rfl hbl.out (by omega) hsz ?_; intro u2 w3 hO3 hg3)
     refine ⟨⟨j + 1, by omega, by go_num, ?_, ?_⟩, by simp [intOf] <;> omega⟩
     ·rw [HTL.out, HTM.out]; exact hO3
     ·exact hB.grown hg3 hsz (fun r hr => (HO.out.lt r hr).1)
    ·obtain rfl : j = ls.length := by omega
     rw [List.take_length] at hO
     go_wp2_with fail
     go_ret
     exact ⟨_, rfl, hO, hB⟩

/-- sums.joined of one slice, of two -/
theorem joined_any (v : Value) (ls : List (List UInt8)) (w : World) (hv : SlicesIn w w.heap.size v ls) (ht : ls.flatten.length ≤ 1073741824) (hn : ls.length ≤ 1073741824) :
  Calls Tryz.prog 141 #[v] w fun e w' => ∃ u, e = .returned u ∧ w'.ownsRow w.heap.size 5 1 u ls.flatten.length (ls.flatten.map vu8) ∧ Below w.heap.size w w' := by
 have hv2 := hv
 obtain ⟨g, off, cap, rfl, hg, hc⟩ := hv
 have HV := Lib.hid hv2
 clear hv2 hc
 go_enter Tryz.func141, Tryz.ntmps141
 go_wp2_with fail
 refine (concat_any _ ls w HV.out ht hn).mono ?_; rintro e w1 ⟨u, rfl, hO, hB⟩
 have HO := Lib.hid hO
 clear hO
 go_wp2_with fail
 go_ret
 exact ⟨_, rfl, HO.out, hB⟩

end Go.Proofs.YtdpniceapmikpaaGreat
namespace Go.Proofs.YtdpniceapmikpaaGreat
open Go.RowKit

def sealOf (l : List UInt8) : List UInt8 := l ++ leB (crcW l).toNat 4
theorem sealOf_len (l : List UInt8) : (sealOf l).length = l.length + 4 := by simp [sealOf, leB_len]
theorem leB_leN (r : List UInt8) : leB (leN r) r.length = r := by
 apply List.ext_getElem?
 intro i
 by_cases hi : i < r.length
 ·rw [List.getElem?_eq_getElem hi]
  have h : ∀ (r : List UInt8) (i : Nat) (hi : i < r.length), byteAt (leN r) i = r[i] := by
   intro r
   induction r with
   | nil => intro i hi; simp at hi
   | cons c r ih =>
    intro i hi
    have hc := u8_lt c
    cases i with
    | zero =>
     unfold byteAt leN
     have : (c.toNat + 256 * leN r) / 256 ^ 0 % 256 = c.toNat := by simp <;> omega
     rw [this]
     simp
    | succ i =>
     have := ih i (by simpa using hi)
     simp only [List.getElem_cons_succ]
     rw [← this]
     unfold byteAt
     have e : (leN (c :: r)) / 256 ^ (i + 1) = leN r / 256 ^ i := by
      rw [Nat.pow_succ, Nat.mul_comm, ← Nat.div_div_eq_div_mul]
      congr 1
      simp [leN]
      try omega
     rw [e]
  simp [leB, hi, h r i hi]
 ·rw [List.getElem?_eq_none (by rw [leB_len]; omega), List.getElem?_eq_none (by omega)]
theorem leN_leB (n k : Nat) : leN (leB n k) = n % 256 ^ k := by
 induction k with
 | zero => simp [leB, leN, Nat.mod_one]
 | succ k ih =>
  have hs : leB n (k + 1) = leB n k ++ [byteAt n k] := by simp [leB, List.range_succ]
  rw [hs, leN_snoc, leB_len, ih]
  have hb : (byteAt n k).toNat = n / 256 ^ k % 256 := by
   have := byteAt_int n k
   omega
  rw [hb, Nat.pow_succ, Nat.mod_mul, Nat.mul_comm]
theorem crcW_lt (l : List UInt8) : (crcW l).toNat < 4294967296 := (crcW l).isLt
/-- whether bytes are sealed -/
def sealedB (l : List UInt8) : Bool := decide (4 ≤ l.length) && (leN (l.drop (l.length - 4)) == (crcW (l.take (l.length - 4))).toNat)
theorem sealedB_iff (l : List UInt8) (h : 4 ≤ l.length) : sealedB l = true ↔ sealOf (l.take (l.length - 4)) = l := by
 have hd : (l.drop (l.length - 4)).length = 4 := by rw [List.length_drop]; omega
 unfold sealedB sealOf
 rw [decide_eq_true h, Bool.true_and, beq_iff_eq]
 constructor
 ·intro e
  rw [← e]
  have := leB_leN (l.drop (l.length - 4))
  rw [hd] at this
  rw [this, List.take_append_drop]
 ·intro e
  have e2 : l.take (l.length - 4) ++ leB (crcW (l.take (l.length - 4))).toNat 4 = l.take (l.length - 4) ++ l.drop (l.length - 4) := by rw [e, List.take_append_drop]
  have e3 := List.append_cancel_left e2
  rw [← e3, leN_leB]
  exact Nat.mod_eq_of_lt (crcW_lt _)

theorem own_base {W : World} {B C n : Nat} {e : TypeId} {v : Value} {xs : List Value} (h : W.ownsRow B e 1 v n xs) (hC : C ≤ B) : W.ownsRow C e 1 v n xs := by
 refine ⟨h.1, ?_⟩
 rcases h.2 with hn | ⟨g, cap, cur, h1, h2, h3⟩
 ·exact .inl hn
 ·exact .inr ⟨g, cap, cur, h1, by omega, h3⟩

set_option maxHeartbeats 1000000 in
theorem seal_any (v : Value) (l : List UInt8) (w : World) (hv : BytesIn w w.heap.size v l) (hl : l.length ≤ 536870912) :
  Calls Tryz.prog 105 #[v] w fun e w' => ∃ u, e = .returned u ∧ w'.ownsRow w.heap.size 5 1 u (l.length + 4) ((sealOf l).map vu8) ∧ Below w.heap.size w w' := by
 have hv2 := hv
 obtain ⟨h1, a, cap, rfl, h2⟩ := hv
 have HV := Lib.hid hv2
 clear hv2 h2
 go_enter Tryz.func105, Tryz.ntmps105
 go_wp2_with fail
 refine (crc_any _ l w HV.out).mono ?_; rintro e w1 ⟨rfl, hb1⟩
 have hc := crcW_lt l
 obtain ⟨C, hC⟩ : ∃ C, C = (crcW l).toNat := ⟨_, rfl⟩
 unfold vu32
 rw [← hC] at hc ⊢
 have HC := Lib.hid hC
 clear hC
 go_wp2_with fail
 refine (put_yes C 4 w1 (by omega) (by intro _; exact Nat.div_eq_of_lt (by omega)) (by omega)).mono ?_; rintro e w2 ⟨u, rfl, hO, hb2⟩
 have hu := BytesIn.own hO
 obtain ⟨hu1, a2, c2, rfl, hu2⟩ := id hu
 have hb12 := hb1.trans (hb2.mono hb1.size)
 have HU := Lib.hid hu
 have hvw := Lib.hid (HV.out.below hb12 (Nat.le_refl _))
 clear hO hu hu2
 have hlen4 : (leB C 4).length = 4 := leB_len _ _
 rw [hlen4] at HU ⊢
 go_wp2_with fail
 have hsz := hb12.size
 have HS : SlicesIn (w2.alloc (.cells #[.slice a l.length cap, .slice a2 4 c2] 26)) (w2.alloc (.cells #[.slice a l.length cap, .slice a2 4 c2] 26)).heap.size (.slice (some ⟨w2.heap.size, 0, none⟩) 2 2) [l, leB C 4] := by
  have hbk := Blk.new w2 26 #[.slice a l.length cap, .slice a2 4 c2]
  refine ⟨w2.heap.size, 0, 2, rfl, hbk.lt, fun i x hx => ?_⟩
  have hnew : Below w2.heap.size w2 (w2.alloc (.cells #[.slice a l.length cap, .slice a2 4 c2] 26)) := (Below.refl _ _).alloc (Nat.le_refl _) _
  match i, hx with
  | 0, hx =>
   obtain rfl : l = x := by simpa using hx
   exact ⟨a, cap, hbk.cell_is 0 rfl, (hvw.out.below hnew hsz).mono (by simp; omega)⟩
  | 1, hx =>
   obtain rfl : leB C 4 = x := by simpa using hx
   rw [hlen4]
   exact ⟨a2, c2, hbk.cell_is 1 rfl, (HU.out.below hnew (Nat.le_refl _)).mono (by simp)⟩
  | i + 2, hx => simp at hx
 refine (joined_any _ _ _ HS (by simp [hlen4]; omega) (by simp)).mono ?_; rintro e w3 ⟨u3, rfl, hO3, hb3⟩
 have HO := Lib.hid hO3
 have hsz2 : w.heap.size ≤ (w2.alloc (.cells #[.slice a l.length cap, .slice a2 4 c2] 26)).heap.size := by simp; omega
 clear hO3 HS
 go_wp2_with fail
 go_ret
 refine ⟨_, rfl, ?_, ?_⟩
 ·have h := HO.out
  have e1 : [l, leB C 4].flatten = sealOf l := by simp [sealOf, HC.out]
  rw [e1, sealOf_len] at h
  exact own_base h hsz2
 ·exact (hb12.alloc hsz _).trans (hb3.mono (by simp; omega))

theorem sealed_short (v : Value) (l : List UInt8) (w : World) (hv : BytesIn w w.heap.size v l) (hl : l.length < 4) :
  Calls Tryz.prog 114 #[v] w fun e w' => e = .returned (.tuple #[.slice none 0 0, .bool false]) ∧ w = w' := by
 obtain ⟨h1, a, cap, rfl, h2⟩ := hv
 have hlt : (l.length : Int) - 4 < 0 := by omega
 go_enter Tryz.func114, Tryz.ntmps114
 go_wp2_with fail
 go_ret2
 exact ⟨rfl, rfl⟩

/-- what sums.Sealed hands back: the bytes ahead of the seal, or nil -/
def SealedAt (w w' : World) (u : Value) (l : List UInt8) : Prop := if sealedB l then w'.ownsRow w.heap.size 5 1 u (l.length - 4) ((l.take (l.length - 4)).map vu8) else u = .slice none 0 0
theorem SealedAt.yes {w w' : World} {u : Value} {l : List UInt8} (h : sealedB l = true) (ho : w'.ownsRow w.heap.size 5 1 u (l.length - 4) ((l.take (l.length - 4)).map vu8)) : SealedAt w w' u l := by unfold SealedAt; rw [if_pos h]; exact ho
theorem SealedAt.no {w w' : World} {l : List UInt8} (h : sealedB l = false) : SealedAt w w' (.slice none 0 0) l := by unfold SealedAt; rw [h]; rfl

set_option maxHeartbeats 1000000 in
theorem sealed_long (v : Value) (l : List UInt8) (w : World) (hv : BytesIn w w.heap.size v l) (hl : 4 ≤ l.length) (hl2 : l.length ≤ 536870912) :
  Calls Tryz.prog 114 #[v] w fun e w' => ∃ u, e = .returned (.tuple #[u, .bool (sealedB l)]) ∧
   SealedAt w w' u l ∧ Below w.heap.size w w' := by
 have hv2 := hv
 obtain ⟨h1, a, cap, rfl, hcap, h2⟩ := hv
 have HD := Lib.hid (hv2.from_ (l.length - 4) (by omega) hcap)
 have HT := Lib.hid (hv2.upto (l.length - 4) (by omega) hcap)
 obtain ⟨k, hk⟩ : ∃ k : Nat, k = l.length - 4 := ⟨_, rfl⟩
 have hkl : l.length = k + 4 := by omega
 rw [← hk] at HD HT
 have hsb : sealedB l = (leN (l.drop k) == (crcW (l.take k)).toNat) := by unfold sealedB; rw [decide_eq_true hl, Bool.true_and, ← hk]
 have hdl : (l.drop k).length = 4 := by rw [List.length_drop]; omega
 have htl : (l.take k).length = k := by rw [List.length_take]; omega
 have hgd : getB (l.drop k) = true := by
  unfold getB
  have := leN_lt (l.drop k)
  rw [hdl] at this ⊢
  have hp : (256 : Nat) ^ 4 = 4294967296 := by decide
  rw [hp] at this
  rw [decide_eq_true (by omega)]; rfl
 have hld : leN (l.drop k) < 4294967296 := by
  have := leN_lt (l.drop k)
  rw [hdl] at this
  have hp : (256 : Nat) ^ 4 = 4294967296 := by decide
  omega
 have e4 : l.length - k = 4 := by omega
 rw [e4] at HD
 have hne : ¬ cap = k := by omega
 have HV := Lib.hid hv2
 have hik : (l.length : Int) - 4 = (k : Int) := by omega
 have hk0 : ¬ (k : Int) < 0 := by omega
 have hk1 : (k : Int) ≤ (l.length : Int) := by omega
 have hk2 : (k : Int) ≤ (cap : Int) := by omega
 rw [if_neg hne] at HD
 have HSB := Lib.hid hsb
 have HGD := Lib.hid hgd
 clear hv2 h2 hk hsb hgd e4
 go_enter Tryz.func114, Tryz.ntmps114
 go_wp2_with fail
 refine (get_any _ (l.drop k) w HD.out).mono ?_; rintro e w1 ⟨rfl, hb1⟩
 rw [HGD.out]
 have HT1 := Lib.hid (HT.out.below hb1 (Nat.le_refl _))
 have hs1 := hb1.size
 obtain ⟨N, hN⟩ : ∃ N, N = leN (l.drop k) := ⟨_, rfl⟩
 rw [← hN] at hld
 simp only [if_true, ← hN]
 have HN := Lib.hid hN
 clear hN
 go_wp2_with fail
 refine (crc_any _ (l.take k) w1 (HT1.out.mono hs1)).mono ?_; rintro e w2 ⟨rfl, hb2⟩
 obtain ⟨C, hC⟩ : ∃ C, C = (crcW (l.take k)).toNat := ⟨_, rfl⟩
 unfold vu32
 have hc := crcW_lt (l.take k)
 rw [← hC] at hc ⊢
 have HC := Lib.hid hC
 clear hC
 have hb12 := hb1.trans (hb2.mono hs1)
 have hs2 := hb12.size
 have hm : (N : Int) % 4294967296 = (N : Int) := by omega
 by_cases hNC : N = C
 ·have hsb : sealedB l = true := by rw [HSB.out, ← HN.out, ← HC.out, hNC]; simp
  have hi : ((N : Int) == (C : Int)) = true := by simp [hNC]
  have HSb := Lib.hid hsb
  clear hsb
  subst hNC
  have HT2 := Lib.hid (HT1.out.below hb2 hs1)
  go_wp2_with fail
  have HS : SlicesIn (w2.alloc (.cells #[.slice a k cap] 26)) (w2.alloc (.cells #[.slice a k cap] 26)).heap.size (.slice (some ⟨w2.heap.size, 0, none⟩) 1 1) [l.take k] := by
   have hbk := Blk.new w2 26 #[.slice a k cap]
   refine ⟨w2.heap.size, 0, 1, rfl, hbk.lt, fun i x hx => ?_⟩
   have hnew : Below w2.heap.size w2 (w2.alloc (.cells #[.slice a k cap] 26)) := (Below.refl _ _).alloc (Nat.le_refl _) _
   match i, hx with
   | 0, hx =>
    obtain rfl : l.take k = x := by simpa using hx
    rw [htl]
    exact ⟨a, cap, hbk.cell_is 0 rfl, (HT2.out.below hnew hs2).mono (by simp; omega)⟩
   | i + 1, hx => simp at hx
  refine (joined_any _ _ _ HS (by simp; omega) (by simp)).mono ?_; rintro e w3 ⟨u3, rfl, hO3, hb3⟩
  have hsz2 : w.heap.size ≤ (w2.alloc (.cells #[.slice a k cap] 26)).heap.size := by simp; omega
  have HO := Lib.hid hO3
  clear hO3 HS
  go_wp2_with fail
  go_ret2
  refine ⟨u3, (by first | rfl | (rw [HSb.out]; rfl)), .yes HSb.out ?_, (hb12.alloc hs2 _).trans (hb3.mono hsz2)⟩
  have ek : l.length - 4 = k := by omega
  rw [ek]
  have h := HO.out
  have e1 : [l.take k].flatten = l.take k := by simp
  rw [e1, htl] at h
  first | exact own_base h hsz2 | (rw [← List.map_take]; exact own_base h hsz2)
 ·have hsb : sealedB l = false := by rw [HSB.out, ← HN.out, ← HC.out]; simp [hNC]
  have hi : ((N : Int) == (C : Int)) = false := by simp; omega
  have HSb := Lib.hid hsb
  clear hsb
  go_wp2_with fail
  go_ret2
  exact ⟨.slice none 0 0, (by first | rfl | (rw [HSb.out]; rfl)), .no HSb.out, hb12⟩

theorem sealed_any (v : Value) (l : List UInt8) (w : World) (hv : BytesIn w w.heap.size v l) (hl2 : l.length ≤ 536870912) :
  Calls Tryz.prog 114 #[v] w fun e w' => ∃ u, e = .returned (.tuple #[u, .bool (sealedB l)]) ∧ SealedAt w w' u l ∧ Below w.heap.size w w' := by
 by_cases hl : 4 ≤ l.length
 ·exact sealed_long v l w hv hl hl2
 ·have e : sealedB l = false := by unfold sealedB; rw [decide_eq_false hl]; rfl
  refine (sealed_short v l w hv (by omega)).mono ?_
  rintro e' w' ⟨rfl, rfl⟩
  exact ⟨_, by rw [e], .no e, Below.refl _ _⟩

end Go.Proofs.YtdpniceapmikpaaGreat
namespace Go.Proofs.YtdpniceapmikpaaGreat
open Go.RowKit

/-- bytes as a string -/
def bStr (l : List UInt8) : ByteArray := ⟨l.toArray⟩
theorem bStr_list (l : List UInt8) : (bStr l).toList = l := ByteArray.toList_mk l
theorem run_str (w : World) {B : Nat} {v : Value} {l : List UInt8} (h : BytesIn w B v l) : (convert 26 9 v).run Tryz.prog w = .ok (.string (bStr l)) w := by
 obtain ⟨h1, a, cap, rfl, hcap, hc⟩ := h
 cases a with
 | none =>
  have hl : l = [] := by
   cases l with
   | nil => rfl
   | cons c l =>
    obtain ⟨g, off, h, _⟩ := hc 0 c rfl
    cases h
  subst hl
  exact Lib.run_convert_nil_bytes w 26 9 5 cap Tryz.underlying26 Tryz.underlying5 Tryz.underlying9
 | some ad =>
  refine run_convert_bytes_back (P := Tryz.prog) w 26 9 5 ad cap l Tryz.underlying26 Tryz.underlying5 Tryz.underlying9 (fun j hj => ?_)
  obtain ⟨g, off, h, _, hcell⟩ := hc j _ (List.getElem?_eq_getElem hj)
  obtain rfl := Option.some.inj h
  rw [add_at]
  exact hcell

/-- bytes read stand behind an append to another row -/
theorem grown_bytes {W W' : World} {B C n : Nat} {e : TypeId} {u v : Value} {l : List UInt8} {xs : List Value} (h : BytesIn W B v l) (hg : W.grownBy W' u.ownBlock) (ho : W.ownsRow C e 1 u n xs) (hBC : ∀ r, u.ownBlock = some r → B ≤ r) : BytesIn W' B v l := by
 obtain ⟨h1, a, cap, h2, h3, h4⟩ := h
 refine ⟨h1, a, cap, h2, h3, fun j c hc => ?_⟩
 obtain ⟨g, off, e1, hgB, hr⟩ := h4 j c hc
 exact ⟨g, off, e1, hgB, hg.cell hr (fun e2 => by have := hBC g e2.symm; omega)⟩
theorem putB4 (C : Nat) (h : C < 4294967296) : (C / 256 ^ 4 == 0) = true := by
 have hp : (256 : Nat) ^ 4 = 4294967296 := by decide
 rw [hp, Nat.div_eq_of_lt h]; rfl

set_option maxHeartbeats 1000000 in
theorem rseal_any (v : Value) (l : List UInt8) (w : World) (hv : BytesIn w w.heap.size v l) (hl : l.length ≤ 536870912) :
  Calls Tryz.prog 135 #[v] w fun e w' => ∃ u, e = .returned u ∧ w'.ownsRow w.heap.size 5 1 u (l.length + 4) ((sealOf l).map vu8) ∧ Below w.heap.size w w' := by
 have hv2 := hv
 obtain ⟨h1, a, cap, rfl, h2⟩ := hv
 have HV := Lib.hid hv2
 clear hv2 h2
 go_enter Tryz.func135, Tryz.ntmps135
 go_wp2_with fail
 refine (rcrc_any _ l w HV.out).mono ?_; rintro e w1 ⟨rfl, hw1⟩
 subst hw1
 have hc := crcW_lt l
 obtain ⟨C, hC⟩ : ∃ C, C = (crcW l).toNat := ⟨_, rfl⟩
 unfold vu32
 rw [← hC] at hc ⊢
 have HC := Lib.hid hC
 clear hC
 go_wp2_with fail
 refine (rput_yes C 4 w rfl (by omega)).mono ?_; rintro e w2 ⟨u, rfl, hO, hb2⟩
 have hu := BytesIn.own hO
 obtain ⟨hu1, a2, c2, rfl, hu2⟩ := id hu
 have hlen4 : (leB C 4).length = 4 := leB_len _ _
 rw [hlen4] at hu ⊢
 have HU := Lib.hid hu
 have hvw := Lib.hid (HV.out.below hb2 (Nat.le_refl _))
 have hsz := hb2.size
 clear hO hu hu2
 rw [putB4 C hc]
 have hE : (w2.alloc (.cells #[] 5)).ownsRow w.heap.size 5 1 (.slice (some ⟨w2.heap.size, 0, none⟩) 0 0) 0 [] := ⟨rfl, .inr ⟨w2.heap.size, 0, #[], rfl, hsz, heap_alloc_new w2 _, Nat.le_refl _, by simp, rfl, rfl⟩⟩
 have HE := Lib.hid hE
 have hnew : Below w2.heap.size w2 (w2.alloc (.cells #[] 5)) := (Below.refl _ _).alloc (Nat.le_refl _) _
 have HV3 := Lib.hid (hvw.out.below hnew hsz)
 have HU3 := Lib.hid (HU.out.below hnew (Nat.le_refl _))
 have hb3 : Below w.heap.size w (w2.alloc (.cells #[] 5)) := hb2.alloc hsz _
 clear hE
 go_wp2_with (first
  | (at_builtin; refine wpList_append_bytes _ rfl (.tmp 12) (.tmp 13) rfl w.heap.size w.heap.size 0 _ _ rfl HE.out a l.length cap l rfl rfl HV3.out (by omega) (by simp; omega) ?_; intro u4 w4 hO4 hg4; have hb4 := hb3.grown hg4 (by simp; omega) (fun r hr => (HE.out.lt r hr).1); have HO4 := Lib.hid hO4; have HU4 := Lib.hid (grown_bytes HU3.out hg4 HE.out (fun r hr => Nat.le_of_eq (Option.some.inj hr))))
  | (at_builtin; refine wpList_append_bytes _ rfl (.tmp 14) (.tmp 15) rfl w.heap.size w2.heap.size (0 + l.length) _ _ rfl HO4.out a2 4 c2 (leB C 4) rfl hlen4 HU4.out (by omega) (by have := hb4.size; omega) ?_; intro u5 w5 hO5 hg5; have hb5 := hb4.grown hg5 hb4.size (fun r hr => (HO4.out.lt r hr).1); have HO5 := Lib.hid hO5))
 go_ret
 refine ⟨_, rfl, ?_, hb5⟩
 have h := HO5.out
 have e1 : ([] ++ l.map vu8) ++ (leB C 4).map vu8 = (sealOf l).map vu8 := by simp [sealOf, HC.out]
 rw [e1, Nat.zero_add] at h
 exact h

set_option maxRecDepth 100000 in
set_option maxHeartbeats 1000000 in
theorem rsealed_any (v : Value) (l : List UInt8) (w : World) (hv : BytesIn w w.heap.size v l) (hl2 : l.length ≤ 536870912) :
  Calls Tryz.prog 110 #[v] w fun e w' => ∃ u, e = .returned (.tuple #[u, .bool (sealedB l)]) ∧ Below w.heap.size w w' := by
 by_cases hl : 4 ≤ l.length
 ·have hv2 := hv
  obtain ⟨h1, a, cap, rfl, hcap, h2⟩ := hv
  have HT := Lib.hid (hv2.upto (l.length - 4) (by omega) hcap)
  obtain ⟨k, hk⟩ : ∃ k : Nat, k = l.length - 4 := ⟨_, rfl⟩
  have hkl : l.length = k + 4 := by omega
  rw [← hk] at HT
  have hsb := sealedB_iff l hl
  rw [← hk] at hsb
  have htl : (l.take k).length = k := by rw [List.length_take]; omega
  have HV := Lib.hid hv2
  have hik : (l.length : Int) - 4 = (k : Int) := by omega
  have hk0 : ¬ (l.length : Int) < 4 := by omega
  have hk2 : (k : Int) ≤ (cap : Int) := by omega
  have HSB := Lib.hid hsb
  clear hv2 h2 hk hsb
  go_enter Tryz.func110, Tryz.ntmps110
  go_wp2_with fail
  refine (rseal_any _ (l.take k) w HT.out (by omega)).mono ?_; rintro e w1 ⟨u, rfl, hO, hb1⟩
  rw [htl] at hO
  have hu := (BytesIn.own hO)
  have hul : (sealOf (l.take k)).length = k + 4 := by rw [sealOf_len, htl]
  obtain ⟨hu1, a2, c2, rfl, hc2, hu2⟩ := id hu
  rw [hul] at hu hc2 ⊢
  have hs1 : (convert 26 9 (.slice a2 (k + 4) c2)).run Tryz.prog w1 = .ok (.string (bStr (sealOf (l.take k)))) w1 := run_str w1 hu
  have hs2 : (convert 26 9 (.slice a (k + 4) cap)).run Tryz.prog w1 = .ok (.string (bStr l)) w1 := by
   have := run_str w1 (HV.out.below hb1 (Nat.le_refl _))
   rw [hkl] at this
   exact this
  clear hO hu hu2
  have hkc : (k : Int) ≤ (c2 : Int) := by omega
  by_cases hS : sealedB l = true
  ·have HS := Lib.hid hS
   clear hS
   rw [HSB.out.1 HS.out] at hs1
   go_wp2_with fail
   go_ret2
   exact ⟨_, by rw [HS.out]; rfl, hb1⟩
  ·have he : ((bStr (sealOf (l.take k))).toList == (bStr l).toList) = false := by
    rw [beq_eq_false_iff_ne, bStr_list, bStr_list]
    exact fun h => hS (HSB.out.2 h)
   generalize bStr (sealOf (l.take k)) = s1 at *
   generalize bStr l = s2 at *
   have HS := Lib.hid (show sealedB l = false by simpa using hS)
   clear hS
   go_wp2_with fail
   go_ret2
   exact ⟨_, by rw [HS.out]; rfl, hb1⟩
 ·have e : sealedB l = false := by unfold sealedB; rw [decide_eq_false hl]; rfl
  obtain ⟨h1, a, cap, rfl, h2⟩ := hv
  have hlt : (l.length : Int) < 4 := by omega
  rw [e]
  clear e
  go_enter Tryz.func110, Tryz.ntmps110
  go_wp2_with fail
  go_ret2
  exact ⟨_, rfl, Below.refl _ _⟩

end Go.Proofs.YtdpniceapmikpaaGreat
namespace Go.Proofs.YtdpniceapmikpaaGreat
open Go.RowKit

def rightB (n : Int) : Bool := decide (1 ≤ n) && decide (n ≤ 64)
theorem right_any (n : Int) (w : World) : Calls Tryz.prog 88 #[.agg #[.int .i64 n]] w fun e w' => e = .returned (.bool (rightB n)) ∧ Below w.heap.size w w' := by
 by_cases h1 : 1 ≤ n
 ·have e : rightB n = decide (n ≤ 64) := by simp [rightB, h1]
  rw [e]
  go_enter Tryz.func88, Tryz.ntmps88
  go_wp2
  all_goals go_ret
  all_goals exact ⟨by simp, (Below.refl _ _).alloc (Nat.le_refl _) _⟩
 ·have e : rightB n = false := by simp [rightB, h1]
  rw [e]
  go_enter Tryz.func88, Tryz.ntmps88
  go_wp2
  all_goals go_ret
  all_goals exact ⟨by simp, (Below.refl _ _).alloc (Nat.le_refl _) _⟩

/-- places one behind the other: kind, area, from, how many -/
structure Part where
 k : Int
 a : Int
 f : Int
 m : Int
abbrev Part.cells (p : Part) : List Value := [.int .i64 p.k, .int .i64 p.a, .int .i64 p.f, .int .i64 p.m]
def partCells (ps : List Part) : List Value := ps.flatMap Part.cells
theorem partCells_snoc (ps : List Part) (p : Part) : partCells (ps ++ [p]) = partCells ps ++ p.cells := by simp [partCells]

/-- the parts that are owned: variable out in block O, the next sector in block X -/
structure Parts (B O X : Nat) (ps : List Part) (n : Int) (w : World) : Prop where
 has : ∃ v, w.heap[O]? = some (.cells #[v] 171 (0, 0)) ∧ w.ownsRow B 174 4 v ps.length (partCells ps)
 next : Blk w X 3 #[.int .i64 n]
theorem info_part : (Tryz.prog.info? 174).map (fun i => (i.zero, i.size, i.bytes)) = some (some (.agg #[.int .i64 0, .int .i64 0, .int .i64 0, .int .i64 0]), 4, 32) := by kernel_rfl
theorem tag_neS {w : World} {B L n size : Nat} {v u : Value} {e t : TypeId} {xs : List Value} (h : w.ownsRow B e size v n xs) (hL : w.heap[L]? = some (.cells #[u] t (0, 0))) (het : e ≠ t) : v.ownBlock ≠ some L := by
 rcases h.2 with ⟨rfl, _⟩ | ⟨g, cap, cur, rfl, h2, h3, h4⟩
 ·intro h; cases h
 ·intro h
  obtain rfl : g = L := by simpa [Value.ownBlock] using h
  rw [hL] at h3
  injection h3 with h3
  injection h3 with _ h3
  exact het h3.symm

theorem obj_kept {w w2 : World} {L : Nat} {X o : Obj} {row : Option Nat} (hL : w.heap[L]? = some X) (hg : (w.alloc o).grownBy w2 row) (hne : row ≠ some L) : w2.heap[L]? = some X := by
 have h2 : (w.alloc o).heap[L]? = some X := (Below.heap_alloc w o L (lt_of_block hL)).trans hL
 exact (hg.block L (lt_of_block h2) (Ne.symm hne)).trans h2

set_option maxHeartbeats 1000000 in
theorem addp_any (B O X : Nat) (ps : List Part) (n k a m : Int) (w : World) (h : Parts B O X ps n w) (hBO : B ≤ O) (hBX : B ≤ X) (hps : ps.length ≤ 100) (hn : 0 ≤ n) (hn2 : n ≤ 1000000) (hm : 0 ≤ m) (hm2 : m ≤ 1000000) :
  Calls Tryz.prog 129 #[.int .i64 k, .int .i64 a, .int .i64 m, .pointer (some ⟨O, 0, none⟩), .pointer (some ⟨X, 0, none⟩)] w fun e w' =>
   e = .returned (.tuple #[]) ∧ Parts B O X (ps ++ [⟨k, a, n, m⟩]) (n + m) w' ∧ Below B w w' := by
 obtain ⟨⟨v, hO, hown⟩, hX⟩ := h
 obtain ⟨i0, hi0, hz0, hz1, hz2⟩ := info_parts info_part
 have hOlt := lt_of_block hO
 have hXlt := hX.lt
 have hOX : O ≠ X := by
  rintro rfl
  unfold Blk at hX
  rw [hO] at hX
  injection hX with hX
  injection hX with _ hX
  exact absurd hX (by decide)
 have c1 := cell_of_one hO
 have c2 := hX.cell_is 0 rfl
 have hneO : v.ownBlock ≠ some O := tag_neS hown hO (by decide)
 have hneX : v.ownBlock ≠ some X := tag_neS hown hX (by decide)
 have HO := Lib.hid hO
 have HX := Lib.hid hX
 have HW := Lib.hid hown
 have HI := Lib.hid (And.intro hi0 (And.intro hz0 (And.intro hz1 hz2)))
 clear hO hX hown hi0 hz0 hz1 hz2
 go_enter Tryz.func129, Tryz.ntmps129
 go_wp2_with (at_builtin; refine wpList_append_lies _ rfl _ _ _ rfl B 174 i0 _ 4 32 Tryz.underlying171 HI.out.1 HI.out.2.1 HI.out.2.2.1 HI.out.2.2.2 rfl (by omega) v ps.length (partCells ps) rfl (HW.out.alloc _) ⟨w.heap.size, 0, none⟩ 1 1 [.int .i64 k, .int .i64 a, .int .i64 n, .int .i64 m] rfl rfl (World.news_of_block (cs := #[.int .i64 k, .int .i64 a, .int .i64 n, .int .i64 m]) (t := 174) (fr := (0, 0)) (heap_alloc_new w _)) (by simp [Value.oneCell']) (by omega) (by unfold maxLen; omega) (by omega) (by simp; omega) (w.heap.size + 1) (by simp) ?_; intro g cap w3 hO3 hg3 hat3 hlt3; have hOk := obj_kept HO.out hg3 hneO; have hXk := obj_kept HX.out hg3 hneX; have d1 := cell_of_one hOk; have d2 := free_of_one hOk; have d3 := cell_of_one hXk; have d4 := free_of_one hXk; have HOk := Lib.hid hOk; have HXk := Lib.hid hXk; clear hOk hXk)
 have hb3 : Below B w w3 := ((Below.refl B w).alloc (by omega) _).grown hg3 (by simp; omega) (fun r hr => (HW.out.lt r hr).1)
 refine bodyPost_end (v := .tuple #[]) (by simp [results, Tryz.results129, go_sem]) rfl ⟨rfl, ⟨⟨.slice (some ⟨g, 0, none⟩) (ps.length + 1) cap, ?_, ?_⟩, ?_⟩, ?_⟩
 ·exact (Below.heap_setCell _ _ _ _ hOX).trans (one_setCell HOk.out)
 ·have h1 := ownsRow_setCell_other hO3 (tag_neS hO3 HOk.out (by decide)) (a := ⟨O, 0, none⟩) (.slice (some ⟨g, 0, none⟩) (ps.length + 1) cap)
  have h2 := ownsRow_setCell_other h1 (by have := tag_neS hO3 HXk.out (by decide); exact this) (a := ⟨X, 0, none⟩) (.int .i64 (n + m))
  rw [List.length_append, partCells_snoc]
  exact h2
 ·exact one_setCell ((Below.heap_setCell _ _ _ _ (Ne.symm hOX)).trans HXk.out)
 ·exact (hb3.setCell (p := ⟨O, 0, none⟩) hBO _).setCell (p := ⟨X, 0, none⟩) hBX _

/-- the parts ahead of an area, and the sector behind them -/
def nAt (N : Int) : Nat → Int
 | 0 => 2
 | j + 1 => nAt N j + 1 + 8 + N
def psAt (N : Int) : Nat → List Part
 | 0 => [⟨1, 0, 0, 2⟩]
 | j + 1 => psAt N j ++ [⟨2, j, nAt N j, 1⟩] ++ [⟨3, j, nAt N j + 1, 8⟩] ++ [⟨4, j, nAt N j + 1 + 8, N⟩]
/-- the parts of a plan -/
def partsL (N : Int) : List Part := psAt N 2 ++ [⟨5, 0, nAt N 2, N⟩]
theorem psAt_len (N : Int) (j : Nat) : (psAt N j).length = 1 + 3 * j := by
 induction j with
 | zero => rfl
 | succ j ih => simp [psAt, ih]; omega

theorem own_baseS {W : World} {B C n size : Nat} {e : TypeId} {v : Value} {xs : List Value} (h : W.ownsRow B e size v n xs) (hC : C ≤ B) : W.ownsRow C e size v n xs := by
 refine ⟨h.1, ?_⟩
 rcases h.2 with hn | ⟨g, cap, cur, h1, h2, h3⟩
 ·exact .inl hn
 ·exact .inr ⟨g, cap, cur, h1, by omega, h3⟩

set_option maxHeartbeats 2000000 in
theorem parts_any (N : Int) (w : World) (h0 : 0 ≤ N) (h1 : N ≤ 1000) :
  Calls Tryz.prog 89 #[.agg #[.int .i64 N]] w fun e w' => ∃ v, e = .returned v ∧ w'.ownsRow w.heap.size 174 4 v 8 (partCells (partsL N)) ∧ Below w.heap.size w w' := by
 go_enter Tryz.func89, Tryz.ntmps89
 go_upto_region 4 with fail
 obtain ⟨W0, hW0⟩ : ∃ W0, W0 = ((((w.alloc (.cells #[.int .i64 N] 23)).alloc (.cells #[.slice none 0 0] 171)).alloc (.cells #[.int .i64 0] 3))) := ⟨_, rfl⟩
 have hP0 : Blk W0 w.heap.size 23 #[.int .i64 N] := by rw [hW0]; exact ((Blk.new w _ _).alloc _).alloc _
 have hO0 : Blk W0 (w.heap.size + 1) 171 #[.slice none 0 0] := by rw [hW0]; exact (Blk.new2 w _ _ _).alloc _
 have hX0 : Blk W0 (w.heap.size + 1 + 1) 3 #[.int .i64 0] := by
  rw [hW0]
  have h := Blk.new2 (w.alloc (.cells #[.int .i64 N] 23)) (.cells #[.slice none 0 0] 171) 3 #[.int .i64 0]
  rw [size_alloc] at h
  exact h
 have hB0 : Below w.heap.size w W0 := by rw [hW0]; exact (((Below.refl _ _).alloc (Nat.le_refl _) _).alloc (by simp) _).alloc (by simp; omega) _
 rw [← hW0]
 clear hW0
 have hPa : Parts (w.heap.size + 1) (w.heap.size + 1) (w.heap.size + 1 + 1) [] 0 W0 := ⟨⟨_, hO0, World.ownsRow_nil _ _ _ _⟩, hX0⟩
 clear hO0 hX0
 go_wp2_with fail
 refine (addp_any _ _ _ [] 0 1 0 2 W0 hPa (by omega) (by omega) (by simp) (by omega) (by omega) (by omega) (by omega)).mono ?_; rintro e W1 ⟨rfl, hP1, hb1⟩
 have hL1 := hP0.below hb1 (by omega)
 have hB1 := hB0.trans (hb1.mono (by omega))
 have HP1 := Lib.hid hP1
 clear hPa hP1 hP0 hB0 hb1
 go_wp2_with fail
 go_loopw [10] (fun i wr => ∃ j : Nat, j ≤ 2 ∧ i = .int .i64 j ∧ Parts (w.heap.size + 1) (w.heap.size + 1) (w.heap.size + 1 + 1) (psAt N j) (nAt N j) wr ∧ Blk wr w.heap.size 23 #[.int .i64 N] ∧ Below w.heap.size w wr) (fun i _ => 2 - (intOf i).toNat)
 case atStart => exact ⟨0, by omega, rfl, HP1.out, hL1, hB1⟩
 case round =>
  clear HP1 hL1 hB1
  obtain ⟨j, hj, rfl, hP, hL, hB⟩ := hrel
  have hlen := psAt_len N j
  have hnn : 0 ≤ nAt N j ∧ nAt N j ≤ 10000 := by
   have : j = 0 ∨ j = 1 ∨ j = 2 := by omega
   rcases this with rfl | rfl | rfl <;> simp [nAt] <;> omega
  have HP := Lib.hid hP
  clear hP
  have c0 := hL.cell_is 0 rfl
  by_cases hlt : j < 2
  ·go_wp2_with fail
   refine (addp_any _ _ _ _ _ 2 j 1 wr HP.out (by omega) (by omega) (by omega) (by omega) (by omega) (by omega) (by omega)).mono ?_; rintro e W2 ⟨rfl, hP2, hb2⟩
   have HP2 := Lib.hid hP2
   clear hP2
   go_wp2_with fail
   refine (addp_any _ _ _ _ _ 3 j 8 W2 HP2.out (by omega) (by omega) (by simp; omega) (by omega) (by omega) (by omega) (by omega)).mono ?_; rintro e W3 ⟨rfl, hP3, hb3⟩
   have HP3 := Lib.hid hP3
   have hL3 := hL.below (hb2.trans hb3) (by omega)
   have c3 := hL3.cell_is 0 rfl
   clear hP3
   go_wp2_with fail
   refine (addp_any _ _ _ _ _ 4 j N W3 HP3.out (by omega) (by omega) (by simp; omega) (by omega) (by omega) (by omega) (by omega)).mono ?_; rintro e W4 ⟨rfl, hP4, hb4⟩
   have HP4 := Lib.hid hP4
   have hL4 := hL3.below hb4 (by omega)
   have hB4 := hB.trans (((hb2.trans hb3).trans hb4).mono (by omega))
   clear hP4
   go_wp2_with fail
   exact ⟨⟨j + 1, by omega, by go_num, HP4.out, hL4, hB4⟩, by simp [intOf] <;> omega⟩
  ·obtain rfl : j = 2 := by omega
   go_wp2_with fail
   refine (addp_any _ _ _ _ _ 5 0 N wr HP.out (by omega) (by omega) (by omega) (by omega) (by omega) (by omega) (by omega)).mono ?_; rintro e W2 ⟨rfl, hP2, hb2⟩
   obtain ⟨⟨u, hOu, hown⟩, _⟩ := hP2
   have c5 := cell_of_one hOu
   have HW := Lib.hid hown
   have hB2 := hB.trans (hb2.mono (by omega))
   clear hOu hown
   go_wp2_with fail
   go_ret
   exact ⟨u, rfl, own_baseS HW.out (by omega), hB2⟩

end Go.Proofs.YtdpniceapmikpaaGreat
