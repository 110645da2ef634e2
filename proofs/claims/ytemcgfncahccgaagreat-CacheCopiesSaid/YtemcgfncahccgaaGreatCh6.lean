/-
  The contracts of sums.Seal and sums.Sealed, for all bytes.
  The contracts of the reference's Seal and Sealed, for all bytes.
  The contracts of volume.right, of the closure of volume.parts, and of volume.parts.
  The contracts of volume.Size and volume.Sector.
  The contracts of the reference's Right and All (volume).
  The contract of the reference's Sector (volume), at the places of an area that there are; and what the program's Sector says of these.
  The contract of the reference's Sector (volume), at the places of an area that there are; and what the program's Sector says of these.
  Frames as data: lists of numbers, of objects, and bytes that are read.
  A disk as data, and where it lies; none, Size, right.
  disk.New; step.
-/
import Derived.Laws.IdiomStrings
import Derived.Lib.BufferRead
import Derived.Deep.RegionHeld3
import Derived.Test.YtemcgfncahccgaaGreatCh3
import Derived.Test.YtemcgfncahccgaaGreatCh4
import Derived.Test.YtemcgfncahccgaaGreatCh5
set_option linter.unusedVariables false
set_option linter.unusedSimpArgs false
namespace Go.Proofs.YtemcgfncahccgaaGreat
open Go.RowKit

def sealOf (l : List UInt8) : List UInt8 := l ++ leB (crcW l).toNat 4
theorem sealOf_len (l : List UInt8) : (sealOf l).length = l.length + 4 := by simp [sealOf, leB_len]
theorem leB_leN (r : List UInt8) : leB (leN r) r.length = r := by
 apply List.ext_getElem?
 intro i
 by_cases hi : i < r.length
 ·rw [List.getElem?_eq_getElem hi]
  have h : ∀ (r : List UInt8) (i : Nat) (hi : i < r.length), byteAt (leN r) i = r[i] := by
   intro r
   induction r with
   | nil => intro i hi; simp at hi
   | cons c r ih =>
    intro i hi
    have hc := u8_lt c
    cases i with
    | zero =>
     unfold byteAt leN
     have : (c.toNat + 256 * leN r) / 256 ^ 0 % 256 = c.toNat := by simp <;> omega
     rw [this]
     simp
    | succ i =>
     have := ih i (by simpa using hi)
     simp only [List.getElem_cons_succ]
     rw [← this]
     unfold byteAt
     have e : (leN (c :: r)) / 256 ^ (i + 1) = leN r / 256 ^ i := by
      rw [Nat.pow_succ, Nat.mul_comm, ← Nat.div_div_eq_div_mul]
      congr 1
      simp [leN]
      try omega
     rw [e]
  simp [leB, hi, h r i hi]
 ·rw [List.getElem?_eq_none (by rw [leB_len]; omega), List.getElem?_eq_none (by omega)]
theorem leN_leB (n k : Nat) : leN (leB n k) = n % 256 ^ k := by
 induction k with
 | zero => simp [leB, leN, Nat.mod_one]
 | succ k ih =>
  have hs : leB n (k + 1) = leB n k ++ [byteAt n k] := by simp [leB, List.range_succ]
  rw [hs, leN_snoc, leB_len, ih]
  have hb : (byteAt n k).toNat = n / 256 ^ k % 256 := by
   have := byteAt_int n k
   omega
  rw [hb, Nat.pow_succ, Nat.mod_mul, Nat.mul_comm]
theorem crcW_lt (l : List UInt8) : (crcW l).toNat < 4294967296 := (crcW l).isLt
/-- whether bytes are sealed -/
def sealedB (l : List UInt8) : Bool := decide (4 ≤ l.length) && (leN (l.drop (l.length - 4)) == (crcW (l.take (l.length - 4))).toNat)
theorem sealedB_iff (l : List UInt8) (h : 4 ≤ l.length) : sealedB l = true ↔ sealOf (l.take (l.length - 4)) = l := by
 have hd : (l.drop (l.length - 4)).length = 4 := by rw [List.length_drop]; omega
 unfold sealedB sealOf
 rw [decide_eq_true h, Bool.true_and, beq_iff_eq]
 constructor
 ·intro e
  rw [← e]
  have := leB_leN (l.drop (l.length - 4))
  rw [hd] at this
  rw [this, List.take_append_drop]
 ·intro e
  have e2 : l.take (l.length - 4) ++ leB (crcW (l.take (l.length - 4))).toNat 4 = l.take (l.length - 4) ++ l.drop (l.length - 4) := by rw [e, List.take_append_drop]
  have e3 := List.append_cancel_left e2
  rw [← e3, leN_leB]
  exact Nat.mod_eq_of_lt (crcW_lt _)

theorem own_base {W : World} {B C n : Nat} {e : TypeId} {v : Value} {xs : List Value} (h : W.ownsRow B e 1 v n xs) (hC : C ≤ B) : W.ownsRow C e 1 v n xs := by
 refine ⟨h.1, ?_⟩
 rcases h.2 with hn | ⟨g, cap, cur, h1, h2, h3⟩
 ·exact .inl hn
 ·exact .inr ⟨g, cap, cur, h1, by omega, h3⟩

theorem sealed_short (v : Value) (l : List UInt8) (w : World) (hv : BytesIn w w.heap.size v l) (hl : l.length < 4) :
  Calls Tryz.prog 101 #[v] w fun e w' => e = .returned (.tuple #[.slice none 0 0, .bool false]) ∧ w = w' := by
 obtain ⟨h1, a, cap, rfl, h2⟩ := hv
 have hlt : (l.length : Int) - 4 < 0 := by omega
 go_enter Tryz.func101, Tryz.ntmps101
 go_wp2_with fail
 go_ret2
 exact ⟨rfl, rfl⟩

/-- what sums.Sealed hands back: the bytes ahead of the seal, or nil -/
def SealedAt (w w' : World) (u : Value) (l : List UInt8) : Prop := if sealedB l then w'.ownsRow w.heap.size 5 1 u (l.length - 4) ((l.take (l.length - 4)).map vu8) else u = .slice none 0 0
theorem SealedAt.yes {w w' : World} {u : Value} {l : List UInt8} (h : sealedB l = true) (ho : w'.ownsRow w.heap.size 5 1 u (l.length - 4) ((l.take (l.length - 4)).map vu8)) : SealedAt w w' u l := by unfold SealedAt; rw [if_pos h]; exact ho
theorem SealedAt.no {w w' : World} {l : List UInt8} (h : sealedB l = false) : SealedAt w w' (.slice none 0 0) l := by unfold SealedAt; rw [h]; rfl

set_option maxHeartbeats 1000000 in
theorem sealed_long (v : Value) (l : List UInt8) (w : World) (hv : BytesIn w w.heap.size v l) (hl : 4 ≤ l.length) (hl2 : l.length ≤ 536870912) :
  Calls Tryz.prog 101 #[v] w fun e w' => ∃ u, e = .returned (.tuple #[u, .bool (sealedB l)]) ∧
   SealedAt w w' u l ∧ Below w.heap.size w w' := by
 have hv2 := hv
 obtain ⟨h1, a, cap, rfl, hcap, h2⟩ := hv
 have HD := Lib.hid (hv2.from_ (l.length - 4) (by omega) hcap)
 have HT := Lib.hid (hv2.upto (l.length - 4) (by omega) hcap)
 obtain ⟨k, hk⟩ : ∃ k : Nat, k = l.length - 4 := ⟨_, rfl⟩
 have hkl : l.length = k + 4 := by omega
 rw [← hk] at HD HT
 have hsb : sealedB l = (leN (l.drop k) == (crcW (l.take k)).toNat) := by unfold sealedB; rw [decide_eq_true hl, Bool.true_and, ← hk]
 have hdl : (l.drop k).length = 4 := by rw [List.length_drop]; omega
 have htl : (l.take k).length = k := by rw [List.length_take]; omega
 have hgd : getB (l.drop k) = true := by
  unfold getB
  have := leN_lt (l.drop k)
  rw [hdl] at this ⊢
  have hp : (256 : Nat) ^ 4 = 4294967296 := by decide
  rw [hp] at this
  rw [decide_eq_true (by omega)]; rfl
 have hld : leN (l.drop k) < 4294967296 := by
  have := leN_lt (l.drop k)
  rw [hdl] at this
  have hp : (256 : Nat) ^ 4 = 4294967296 := by decide
  omega
 have e4 : l.length - k = 4 := by omega
 rw [e4] at HD
 have hne : ¬ cap = k := by omega
 have HV := Lib.hid hv2
 have hik : (l.length : Int) - 4 = (k : Int) := by omega
 have hk0 : ¬ (k : Int) < 0 := by omega
 have hk1 : (k : Int) ≤ (l.length : Int) := by omega
 have hk2 : (k : Int) ≤ (cap : Int) := by omega
 rw [if_neg hne] at HD
 have HSB := Lib.hid hsb
 have HGD := Lib.hid hgd
 clear hv2 h2 hk hsb hgd e4
 go_enter Tryz.func101, Tryz.ntmps101
 go_wp2_with fail
 refine (get_any _ (l.drop k) w HD.out).mono ?_; rintro e w1 ⟨rfl, hb1⟩
 rw [HGD.out]
 have HT1 := Lib.hid (HT.out.below hb1 (Nat.le_refl _))
 have hs1 := hb1.size
 obtain ⟨N, hN⟩ : ∃ N, N = leN (l.drop k) := ⟨_, rfl⟩
 rw [← hN] at hld
 simp only [if_true, ← hN]
 have HN := Lib.hid hN
 clear hN
 go_wp2_with fail
 refine (crc_any _ (l.take k) w1 (HT1.out.mono hs1)).mono ?_; rintro e w2 ⟨rfl, hb2⟩
 obtain ⟨C, hC⟩ : ∃ C, C = (crcW (l.take k)).toNat := ⟨_, rfl⟩
 unfold vu32
 have hc := crcW_lt (l.take k)
 rw [← hC] at hc ⊢
 have HC := Lib.hid hC
 clear hC
 have hb12 := hb1.trans (hb2.mono hs1)
 have hs2 := hb12.size
 have hm : (N : Int) % 4294967296 = (N : Int) := by omega
 by_cases hNC : N = C
 ·have hsb : sealedB l = true := by rw [HSB.out, ← HN.out, ← HC.out, hNC]; simp
  have hi : ((N : Int) == (C : Int)) = true := by simp [hNC]
  have HSb := Lib.hid hsb
  clear hsb
  subst hNC
  have HT2 := Lib.hid (HT1.out.below hb2 hs1)
  go_wp2_with fail
  have HS : SlicesIn (w2.alloc (.cells #[.slice a k cap] 29)) (w2.alloc (.cells #[.slice a k cap] 29)).heap.size (.slice (some ⟨w2.heap.size, 0, none⟩) 1 1) [l.take k] := by
   have hbk := Blk.new w2 29 #[.slice a k cap]
   refine ⟨w2.heap.size, 0, 1, rfl, hbk.lt, fun i x hx => ?_⟩
   have hnew : Below w2.heap.size w2 (w2.alloc (.cells #[.slice a k cap] 29)) := (Below.refl _ _).alloc (Nat.le_refl _) _
   match i, hx with
   | 0, hx =>
    obtain rfl : l.take k = x := by simpa using hx
    rw [htl]
    exact ⟨a, cap, hbk.cell_is 0 rfl, (HT2.out.below hnew hs2).mono (by simp; omega)⟩
   | i + 1, hx => simp at hx
  refine (joined_any _ _ _ HS (by simp; omega) (by simp)).mono ?_; rintro e w3 ⟨u3, rfl, hO3, hb3⟩
  have hsz2 : w.heap.size ≤ (w2.alloc (.cells #[.slice a k cap] 29)).heap.size := by simp; omega
  have HO := Lib.hid hO3
  clear hO3 HS
  go_wp2_with fail
  go_ret2
  refine ⟨u3, (by first | rfl | (rw [HSb.out]; rfl)), .yes HSb.out ?_, (hb12.alloc hs2 _).trans (hb3.mono hsz2)⟩
  have ek : l.length - 4 = k := by omega
  rw [ek]
  have h := HO.out
  have e1 : [l.take k].flatten = l.take k := by simp
  rw [e1, htl] at h
  first | exact own_base h hsz2 | (rw [← List.map_take]; exact own_base h hsz2)
 ·have hsb : sealedB l = false := by rw [HSB.out, ← HN.out, ← HC.out]; simp [hNC]
  have hi : ((N : Int) == (C : Int)) = false := by simp; omega
  have HSb := Lib.hid hsb
  clear hsb
  go_wp2_with fail
  go_ret2
  exact ⟨.slice none 0 0, (by first | rfl | (rw [HSb.out]; rfl)), .no HSb.out, hb12⟩

theorem sealed_any (v : Value) (l : List UInt8) (w : World) (hv : BytesIn w w.heap.size v l) (hl2 : l.length ≤ 536870912) :
  Calls Tryz.prog 101 #[v] w fun e w' => ∃ u, e = .returned (.tuple #[u, .bool (sealedB l)]) ∧ SealedAt w w' u l ∧ Below w.heap.size w w' := by
 by_cases hl : 4 ≤ l.length
 ·exact sealed_long v l w hv hl hl2
 ·have e : sealedB l = false := by unfold sealedB; rw [decide_eq_false hl]; rfl
  refine (sealed_short v l w hv (by omega)).mono ?_
  rintro e' w' ⟨rfl, rfl⟩
  exact ⟨_, by rw [e], .no e, Below.refl _ _⟩

end Go.Proofs.YtemcgfncahccgaaGreat
namespace Go.Proofs.YtemcgfncahccgaaGreat
open Go.RowKit

/-- bytes as a string -/
def bStr (l : List UInt8) : ByteArray := ⟨l.toArray⟩
theorem bStr_list (l : List UInt8) : (bStr l).toList = l := ByteArray.toList_mk l
theorem run_str (w : World) {B : Nat} {v : Value} {l : List UInt8} (h : BytesIn w B v l) : (convert 29 9 v).run Tryz.prog w = .ok (.string (bStr l)) w := by
 obtain ⟨h1, a, cap, rfl, hcap, hc⟩ := h
 cases a with
 | none =>
  have hl : l = [] := by
   cases l with
   | nil => rfl
   | cons c l =>
    obtain ⟨g, off, h, _⟩ := hc 0 c rfl
    cases h
  subst hl
  exact Lib.run_convert_nil_bytes w 29 9 5 cap Tryz.underlying29 Tryz.underlying5 Tryz.underlying9
 | some ad =>
  refine run_convert_bytes_back (P := Tryz.prog) w 29 9 5 ad cap l Tryz.underlying29 Tryz.underlying5 Tryz.underlying9 (fun j hj => ?_)
  obtain ⟨g, off, h, _, hcell⟩ := hc j _ (List.getElem?_eq_getElem hj)
  obtain rfl := Option.some.inj h
  rw [add_at]
  exact hcell

/-- bytes read stand behind an append to another row -/
theorem grown_bytes {W W' : World} {B C n : Nat} {e : TypeId} {u v : Value} {l : List UInt8} {xs : List Value} (h : BytesIn W B v l) (hg : W.grownBy W' u.ownBlock) (ho : W.ownsRow C e 1 u n xs) (hBC : ∀ r, u.ownBlock = some r → B ≤ r) : BytesIn W' B v l := by
 obtain ⟨h1, a, cap, h2, h3, h4⟩ := h
 refine ⟨h1, a, cap, h2, h3, fun j c hc => ?_⟩
 obtain ⟨g, off, e1, hgB, hr⟩ := h4 j c hc
 exact ⟨g, off, e1, hgB, hg.cell hr (fun e2 => by have := hBC g e2.symm; omega)⟩
theorem putB4 (C : Nat) (h : C < 4294967296) : (C / 256 ^ 4 == 0) = true := by
 have hp : (256 : Nat) ^ 4 = 4294967296 := by decide
 rw [hp, Nat.div_eq_of_lt h]; rfl

set_option maxHeartbeats 1000000 in
theorem rseal_any (v : Value) (l : List UInt8) (w : World) (hv : BytesIn w w.heap.size v l) (hl : l.length ≤ 536870912) :
  Calls Tryz.prog 68 #[v] w fun e w' => ∃ u, e = .returned u ∧ w'.ownsRow w.heap.size 5 1 u (l.length + 4) ((sealOf l).map vu8) ∧ Below w.heap.size w w' := by
 have hv2 := hv
 obtain ⟨h1, a, cap, rfl, h2⟩ := hv
 have HV := Lib.hid hv2
 clear hv2 h2
 go_enter Tryz.func68, Tryz.ntmps68
 go_wp2_with fail
 refine (rcrc_any _ l w HV.out).mono ?_; rintro e w1 ⟨rfl, hw1⟩
 subst hw1
 have hc := crcW_lt l
 obtain ⟨C, hC⟩ : ∃ C, C = (crcW l).toNat := ⟨_, rfl⟩
 unfold vu32
 rw [← hC] at hc ⊢
 have HC := Lib.hid hC
 clear hC
 go_wp2_with fail
 refine (rput_yes C 4 w rfl (by omega)).mono ?_; rintro e w2 ⟨u, rfl, hO, hb2⟩
 have hu := BytesIn.own hO
 obtain ⟨hu1, a2, c2, rfl, hu2⟩ := id hu
 have hlen4 : (leB C 4).length = 4 := leB_len _ _
 rw [hlen4] at hu ⊢
 have HU := Lib.hid hu
 have hvw := Lib.hid (HV.out.below hb2 (Nat.le_refl _))
 have hsz := hb2.size
 clear hO hu hu2
 rw [putB4 C hc]
 have hE : (w2.alloc (.cells #[] 5)).ownsRow w.heap.size 5 1 (.slice (some ⟨w2.heap.size, 0, none⟩) 0 0) 0 [] := ⟨rfl, .inr ⟨w2.heap.size, 0, #[], rfl, hsz, heap_alloc_new w2 _, Nat.le_refl _, by simp, rfl, rfl⟩⟩
 have HE := Lib.hid hE
 have hnew : Below w2.heap.size w2 (w2.alloc (.cells #[] 5)) := (Below.refl _ _).alloc (Nat.le_refl _) _
 have HV3 := Lib.hid (hvw.out.below hnew hsz)
 have HU3 := Lib.hid (HU.out.below hnew (Nat.le_refl _))
 have hb3 : Below w.heap.size w (w2.alloc (.cells #[] 5)) := hb2.alloc hsz _
 clear hE
 go_wp2_with (first
  | (at_builtin; refine wpList_append_bytes _ rfl (.tmp 12) (.tmp 13) rfl w.heap.size w.heap.size 0 _ _ rfl HE.out a l.length cap l rfl rfl HV3.out (by omega) (by simp; omega) ?_; intro u4 w4 hO4 hg4; have hb4 := hb3.grown hg4 (by simp; omega) (fun r hr => (HE.out.lt r hr).1); have HO4 := Lib.hid hO4; have HU4 := Lib.hid (grown_bytes HU3.out hg4 HE.out (fun r hr => Nat.le_of_eq (Option.some.inj hr))))
  | (at_builtin; refine wpList_append_bytes _ rfl (.tmp 14) (.tmp 15) rfl w.heap.size w2.heap.size (0 + l.length) _ _ rfl HO4.out a2 4 c2 (leB C 4) rfl hlen4 HU4.out (by omega) (by have := hb4.size; omega) ?_; intro u5 w5 hO5 hg5; have hb5 := hb4.grown hg5 hb4.size (fun r hr => (HO4.out.lt r hr).1); have HO5 := Lib.hid hO5))
 go_ret
 refine ⟨_, rfl, ?_, hb5⟩
 have h := HO5.out
 have e1 : ([] ++ l.map vu8) ++ (leB C 4).map vu8 = (sealOf l).map vu8 := by simp [sealOf, HC.out]
 rw [e1, Nat.zero_add] at h
 exact h

set_option maxRecDepth 100000 in
set_option maxHeartbeats 1000000 in
theorem rsealed_any (v : Value) (l : List UInt8) (w : World) (hv : BytesIn w w.heap.size v l) (hl2 : l.length ≤ 536870912) :
  Calls Tryz.prog 111 #[v] w fun e w' => ∃ u, e = .returned (.tuple #[u, .bool (sealedB l)]) ∧ Below w.heap.size w w' := by
 by_cases hl : 4 ≤ l.length
 ·have hv2 := hv
  obtain ⟨h1, a, cap, rfl, hcap, h2⟩ := hv
  have HT := Lib.hid (hv2.upto (l.length - 4) (by omega) hcap)
  obtain ⟨k, hk⟩ : ∃ k : Nat, k = l.length - 4 := ⟨_, rfl⟩
  have hkl : l.length = k + 4 := by omega
  rw [← hk] at HT
  have hsb := sealedB_iff l hl
  rw [← hk] at hsb
  have htl : (l.take k).length = k := by rw [List.length_take]; omega
  have HV := Lib.hid hv2
  have hik : (l.length : Int) - 4 = (k : Int) := by omega
  have hk0 : ¬ (l.length : Int) < 4 := by omega
  have hk2 : (k : Int) ≤ (cap : Int) := by omega
  have HSB := Lib.hid hsb
  clear hv2 h2 hk hsb
  go_enter Tryz.func111, Tryz.ntmps111
  go_wp2_with fail
  refine (rseal_any _ (l.take k) w HT.out (by omega)).mono ?_; rintro e w1 ⟨u, rfl, hO, hb1⟩
  rw [htl] at hO
  have hu := (BytesIn.own hO)
  have hul : (sealOf (l.take k)).length = k + 4 := by rw [sealOf_len, htl]
  obtain ⟨hu1, a2, c2, rfl, hc2, hu2⟩ := id hu
  rw [hul] at hu hc2 ⊢
  have hs1 : (convert 29 9 (.slice a2 (k + 4) c2)).run Tryz.prog w1 = .ok (.string (bStr (sealOf (l.take k)))) w1 := run_str w1 hu
  have hs2 : (convert 29 9 (.slice a (k + 4) cap)).run Tryz.prog w1 = .ok (.string (bStr l)) w1 := by
   have := run_str w1 (HV.out.below hb1 (Nat.le_refl _))
   rw [hkl] at this
   exact this
  clear hO hu hu2
  have hkc : (k : Int) ≤ (c2 : Int) := by omega
  by_cases hS : sealedB l = true
  ·have HS := Lib.hid hS
   clear hS
   rw [HSB.out.1 HS.out] at hs1
   go_wp2_with fail
   go_ret2
   exact ⟨_, by rw [HS.out]; rfl, hb1⟩
  ·have he : ((bStr (sealOf (l.take k))).toList == (bStr l).toList) = false := by
    rw [beq_eq_false_iff_ne, bStr_list, bStr_list]
    exact fun h => hS (HSB.out.2 h)
   generalize bStr (sealOf (l.take k)) = s1 at *
   generalize bStr l = s2 at *
   have HS := Lib.hid (show sealedB l = false by simpa using hS)
   clear hS
   go_wp2_with fail
   go_ret2
   exact ⟨_, by rw [HS.out]; rfl, hb1⟩
 ·have e : sealedB l = false := by unfold sealedB; rw [decide_eq_false hl]; rfl
  obtain ⟨h1, a, cap, rfl, h2⟩ := hv
  have hlt : (l.length : Int) < 4 := by omega
  rw [e]
  clear e
  go_enter Tryz.func111, Tryz.ntmps111
  go_wp2_with fail
  go_ret2
  exact ⟨_, rfl, Below.refl _ _⟩

end Go.Proofs.YtemcgfncahccgaaGreat
namespace Go.Proofs.YtemcgfncahccgaaGreat
open Go.RowKit

def rightB (n : Int) : Bool := decide (1 ≤ n) && decide (n ≤ 64)
/-- places one behind the other: kind, area, from, how many -/
structure Part where
 k : Int
 a : Int
 f : Int
 m : Int
abbrev Part.cells (p : Part) : List Value := [.int .i64 p.k, .int .i64 p.a, .int .i64 p.f, .int .i64 p.m]
/-- the parts ahead of an area, and the sector behind them -/
def nAt (N : Int) : Nat → Int
 | 0 => 2
 | j + 1 => nAt N j + 1 + 8 + N
def psAt (N : Int) : Nat → List Part
 | 0 => [⟨1, 0, 0, 2⟩]
 | j + 1 => psAt N j ++ [⟨2, j, nAt N j, 1⟩] ++ [⟨3, j, nAt N j + 1, 8⟩] ++ [⟨4, j, nAt N j + 1 + 8, N⟩]
/-- the parts of a plan -/
def partsL (N : Int) : List Part := psAt N 2 ++ [⟨5, 0, nAt N 2, N⟩]
end Go.Proofs.YtemcgfncahccgaaGreat
namespace Go.Proofs.YtemcgfncahccgaaGreat
open Go.RowKit

/-- whether a part is of a kind and an area -/
def isPart (k a : Int) (p : Part) : Bool := (p.k == k) && (p.a == a)
def sectorN (N k a t : Int) : Int × Int :=
 if rightB N && !((k == 2) && !(t == 0)) then
  match (partsL N).find? (isPart k a) with
  | some p => if t < 0 ∨ p.m ≤ t then (0, 4) else (p.f + t, 0)
  | none => (0, 2)
 else (0, 2)
end Go.Proofs.YtemcgfncahccgaaGreat
namespace Go.Proofs.YtemcgfncahccgaaGreat
open Go.RowKit

/-- a place -/
structure Spot3 where
 k : Int
 a : Int
 t : Int
abbrev Spot3.cells (p : Spot3) : List Value := [.int .i64 p.k, .int .i64 p.a, .int .i64 p.t]
end Go.Proofs.YtemcgfncahccgaaGreat
namespace Go.Proofs.YtemcgfncahccgaaGreat
open Go.RowKit

/-- a place of an area that there is, and its sector -/
structure Place where
 k : Nat
 a : Nat
 t : Nat
def Place.ok (N : Nat) (p : Place) : Prop := p.a ≤ 1 ∧ ((p.k = 2 ∧ p.t = 0) ∨ (p.k = 3 ∧ p.t < 8) ∨ (p.k = 4 ∧ p.t < N))
end Go.Proofs.YtemcgfncahccgaaGreat
namespace Go.Proofs.YtemcgfncahccgaaGreat
open Go.RowKit

end Go.Proofs.YtemcgfncahccgaaGreat
namespace Go.Proofs.YtemcgfncahccgaaGreat
open Go.RowKit

def IntsIn (W : World) (B : Nat) (v : Value) (l : List Int) : Prop :=
 l.length ≤ maxLen ∧ ∃ a cap, v = .slice a l.length cap ∧ l.length ≤ cap ∧ ∀ j (c : Int), l[j]? = some c → ∃ g off, a = some ⟨g, off, none⟩ ∧ g < B ∧ W.cell? ⟨g, off + j, none⟩ = some (.int .i64 c)
theorem IntsIn.below {W W' : World} {B C : Nat} {v : Value} {l : List Int} (h : IntsIn W B v l) (hb : Below C W W') (hC : B ≤ C) : IntsIn W' B v l := by
 obtain ⟨h1, a, cap, h2, h3, h4⟩ := h
 refine ⟨h1, a, cap, h2, h3, fun j c hc => ?_⟩
 obtain ⟨g, off, e, hg, hr⟩ := h4 j c hc
 exact ⟨g, off, e, hg, (hb.cell (p := ⟨g, off + j, none⟩) (show g < C by omega)).trans hr⟩
theorem IntsIn.mono {W : World} {B C : Nat} {v : Value} {l : List Int} (h : IntsIn W B v l) (hC : B ≤ C) : IntsIn W C v l := by
 obtain ⟨h1, a, cap, h2, h3, h4⟩ := h
 refine ⟨h1, a, cap, h2, h3, fun j c hc => ?_⟩
 obtain ⟨g, off, e, hg, hr⟩ := h4 j c hc
 exact ⟨g, off, e, by omega, hr⟩
theorem IntsIn.nil (W : World) (B : Nat) : IntsIn W B (.slice none 0 0) [] := ⟨by simp, none, 0, rfl, by simp, fun j c hc => by simp at hc⟩
def ObjsIn (W : World) (B : Nat) (v : Value) (l : List ObjD) : Prop :=
 l.length ≤ maxLen ∧ ∃ a cap, v = .slice a l.length cap ∧ l.length ≤ cap ∧ ∀ j (o : ObjD), l[j]? = some o → o.ok ∧ rightsOk o ∧ ∃ g off, a = some ⟨g, off, none⟩ ∧ g < B ∧ W.rangeAt g (off + j * 163) o.cells
theorem range_below {W W' : World} {C g p : Nat} {cs : List Value} (h : W.rangeAt g p cs) (hb : Below C W W') (hg : g < C) : W'.rangeAt g p cs := fun j v hv => (hb.cell (p := ⟨g, p + j, none⟩) hg).trans (h j v hv)
theorem ObjsIn.below {W W' : World} {B C : Nat} {v : Value} {l : List ObjD} (h : ObjsIn W B v l) (hb : Below C W W') (hC : B ≤ C) : ObjsIn W' B v l := by
 obtain ⟨h1, a, cap, h2, h3, h4⟩ := h
 refine ⟨h1, a, cap, h2, h3, fun j c hc => ?_⟩
 obtain ⟨ho, hr, g, off, e, hg, hr'⟩ := h4 j c hc
 exact ⟨ho, hr, g, off, e, hg, range_below hr' hb (show g < C by omega)⟩
theorem ObjsIn.mono {W : World} {B C : Nat} {v : Value} {l : List ObjD} (h : ObjsIn W B v l) (hC : B ≤ C) : ObjsIn W C v l := by
 obtain ⟨h1, a, cap, h2, h3, h4⟩ := h
 refine ⟨h1, a, cap, h2, h3, fun j c hc => ?_⟩
 obtain ⟨ho, hr, g, off, e, hg, hr'⟩ := h4 j c hc
 exact ⟨ho, hr, g, off, e, by omega, hr'⟩
theorem ObjsIn.nil (W : World) (B : Nat) : ObjsIn W B (.slice none 0 0) [] := ⟨by simp, none, 0, rfl, by simp, fun j c hc => by simp at hc⟩

theorem IntsIn.at_ {W : World} {B : Nat} {a : Option Addr} {n c : Nat} {l : List Int} (h : IntsIn W B (.slice a n c) l) {j : Nat} {x : Int} (hx : l[j]? = some x) :
  ∃ g off, a = some ⟨g, off, none⟩ ∧ g < B ∧ W.cell? ⟨g, off + j, none⟩ = some (.int .i64 x) := by
 obtain ⟨_, a', c', e, _, h4⟩ := h
 injection e with ea _ _
 subst ea
 exact h4 j x hx
theorem ObjsIn.at_ {W : World} {B : Nat} {a : Option Addr} {n c : Nat} {l : List ObjD} (h : ObjsIn W B (.slice a n c) l) {j : Nat} {x : ObjD} (hx : l[j]? = some x) :
  x.ok ∧ rightsOk x ∧ ∃ g off, a = some ⟨g, off, none⟩ ∧ g < B ∧ W.rangeAt g (off + j * 163) x.cells := by
 obtain ⟨_, a', c', e, _, h4⟩ := h
 injection e with ea _ _
 subst ea
 exact h4 j x hx
theorem BytesIn.at_ {W : World} {B : Nat} {a : Option Addr} {n c : Nat} {l : List UInt8} (h : BytesIn W B (.slice a n c) l) {j : Nat} {x : UInt8} (hx : l[j]? = some x) :
  ∃ g off, a = some ⟨g, off, none⟩ ∧ g < B ∧ W.cell? ⟨g, off + j, none⟩ = some (vu8 x) := by
 obtain ⟨_, a', c', e, _, h4⟩ := h
 injection e with ea _ _
 subst ea
 exact h4 j x hx
/-- a frame -/
structure FrameD where
 ed : Int
 oids : List Int
 objs : List ObjD
 state : List UInt8
def FrameIn (W : World) (B : Nat) (v : Value) (f : FrameD) : Prop :=
 ∃ vo vb vs, v = .agg #[.int .i64 f.ed, vo, vb, vs] ∧ IntsIn W B vo f.oids ∧ ObjsIn W B vb f.objs ∧ BytesIn W B vs f.state
theorem FrameIn.below {W W' : World} {B C : Nat} {v : Value} {f : FrameD} (h : FrameIn W B v f) (hb : Below C W W') (hC : B ≤ C) : FrameIn W' B v f := by
 obtain ⟨vo, vb, vs, e, h1, h2, h3⟩ := h
 exact ⟨vo, vb, vs, e, h1.below hb hC, h2.below hb hC, h3.below hb hC⟩
theorem FrameIn.mono {W : World} {B C : Nat} {v : Value} {f : FrameD} (h : FrameIn W B v f) (hC : B ≤ C) : FrameIn W C v f := by
 obtain ⟨vo, vb, vs, e, h1, h2, h3⟩ := h
 exact ⟨vo, vb, vs, e, h1.mono hC, h2.mono hC, h3.mono hC⟩

end Go.Proofs.YtemcgfncahccgaaGreat
namespace Go.Proofs.YtemcgfncahccgaaGreat
open Go.RowKit

/-- all blocks are as they were, but for those of F -/
structure Out (F : Nat → Prop) (w w' : World) : Prop where
 os : w'.os = w.os
 tape : w'.tape = w.tape
 output : w'.output = w.output
 size : w.heap.size ≤ w'.heap.size
 block : ∀ i, i < w.heap.size → ¬ F i → w'.heap[i]? = w.heap[i]?
theorem Out.refl (F : Nat → Prop) (w : World) : Out F w w := ⟨rfl, rfl, rfl, Nat.le_refl _, fun _ _ _ => rfl⟩
theorem Out.trans {F G : Nat → Prop} {w w1 w2 : World} (h : Out F w w1) (h2 : Out G w1 w2) (hFG : ∀ i, i < w.heap.size → G i → F i) : Out F w w2 :=
 ⟨h2.os.trans h.os, h2.tape.trans h.tape, h2.output.trans h.output, Nat.le_trans h.size h2.size, fun i hi hn => (h2.block i (by have := h.size; omega) (fun g => hn (hFG i hi g))).trans (h.block i hi hn)⟩
theorem outB {F : Nat → Prop} {w w' : World} (h : Below w.heap.size w w') : Out F w w' := ⟨h.os, h.tape, h.output, h.size, fun i hi _ => h.block i hi⟩
theorem Out.below {F : Nat → Prop} {B : Nat} {w w' : World} (h : Out F w w') (hB : B ≤ w.heap.size) (hF : ∀ i, i < B → ¬ F i) : Below B w w' := ⟨h.os, h.tape, h.output, h.size, fun i hi => h.block i (by omega) (hF i hi)⟩
theorem Out.blk {F : Nat → Prop} {w w' : World} (h : Out F w w') {g : Nat} {t : TypeId} {cs : Array Value} (hb : Blk w g t cs) (hg : ¬ F g) : Blk w' g t cs := (h.block g hb.lt hg).trans hb
theorem Out.map {F : Nat → Prop} {w w' : World} (h : Out F w w') {g : Nat} {kd : IntKind} {l : List (Int × Value)} (hb : MapAt w g kd l) (hg : ¬ F g) : MapAt w' g kd l := (h.block g hb.lt hg).trans hb

/-- a write that waits -/
structure WaitD where
 n : Int
 b : List UInt8
def WaitD.cells (x : WaitD) : List Value := .int .i64 x.n :: x.b.map vu8
def waitCells (l : List WaitD) : List Value := l.flatMap WaitD.cells
/-- a disk -/
structure DiskD where
 size : Int
 lasts : Int → List UInt8
 waits : List WaitD
 steps : Int
 fails : List Int
def sector0 : List UInt8 := List.replicate 512 0
def DiskD.ok (x : DiskD) : Prop := 1 ≤ x.size ∧ x.size ≤ 4096 ∧ (∀ n, (x.lasts n).length = 512) ∧ (∀ y ∈ x.waits, y.b.length = 512) ∧ 0 ≤ x.steps ∧ x.steps ≤ 1000000000000 ∧ x.waits.length ≤ 1000000
/-- where a disk lies -/
structure DiskP where
 p : Nat
 lm : Nat
 wv : Value
 fv : Option Nat
def DiskP.has (D : DiskP) (i : Nat) : Prop := i = D.p ∨ i = D.lm ∨ D.wv.ownBlock = some i ∨ D.fv = some i
def sectorV (b : List UInt8) : Value := .agg (b.map vu8).toArray
def LastsAt (w : World) (r : Nat) (f : Int → List UInt8) : Prop := ∃ l, MapAt w r .i64 l ∧ (l.map (·.1)).Nodup ∧ ∀ n, (∃ v, lookOf l n = some v ∧ v = sectorV (f n)) ∨ (lookOf l n = none ∧ f n = sector0)
def FailsAt (w : World) (v : Option Nat) (l : List Int) : Prop := (v = none ∧ l = []) ∨ ∃ (r : Nat) (k : List Int), v = some r ∧ MapAt w r .i64 (k.map fun n => (n, Value.agg #[])) ∧ ∀ n, n ∈ k ↔ n ∈ l
structure DiskAt (w : World) (D : DiskP) (x : DiskD) : Prop where
 blk : Blk w D.p 116 #[.int .i64 x.size, .map (some D.lm), D.wv, .int .i64 x.steps, .map D.fv]
 lasts : LastsAt w D.lm x.lasts
 waits : w.ownsRow 0 130 513 D.wv x.waits.length (waitCells x.waits)
 fails : FailsAt w D.fv x.fails
 apart : D.fv ≠ some D.lm
def ptr (g : Nat) : Value := .pointer (some ⟨g, 0, none⟩)

theorem ownBlock_lt {w : World} {B k : Nat} {e : TypeId} {v : Value} {n g : Nat} {xs : List Value} (h : w.ownsRow B e k v n xs) (hv : v.ownBlock = some g) : g < w.heap.size := by
 obtain ⟨_, ⟨rfl, _⟩ | ⟨g', cap, cur, rfl, _, hg, _⟩⟩ := h
 ·simp [Value.ownBlock] at hv
 ·simp [Value.ownBlock] at hv
  subst hv
  exact lt_of_block hg
theorem ownsRow_out {F : Nat → Prop} {w w' : World} (ho : Out F w w') {B k : Nat} {e : TypeId} {v : Value} {n : Nat} {xs : List Value} (h : w.ownsRow B e k v n xs) (hF : ∀ g, v.ownBlock = some g → ¬ F g) : w'.ownsRow B e k v n xs := by
 obtain ⟨hl, ⟨rfl, h0⟩ | ⟨g, cap, cur, rfl, hB, hg, hr⟩⟩ := h
 ·exact ⟨hl, .inl ⟨rfl, h0⟩⟩
 ·exact ⟨hl, .inr ⟨g, cap, cur, rfl, hB, (ho.block g (lt_of_block hg) (hF g rfl)).trans hg, hr⟩⟩
theorem DiskAt.out {F : Nat → Prop} {w w' : World} {D : DiskP} {x : DiskD} (h : DiskAt w D x) (ho : Out F w w') (hF : ∀ i, D.has i → ¬ F i) : DiskAt w' D x := by
 refine ⟨ho.blk h.blk (hF _ (.inl rfl)), ?_, ownsRow_out ho h.waits (fun g hg => hF g (.inr (.inr (.inl hg)))), ?_, h.apart⟩
 ·obtain ⟨l, hm, hl⟩ := h.lasts
  exact ⟨l, ho.map hm (hF _ (.inr (.inl rfl))), hl⟩
 ·rcases h.fails with ⟨e, h1⟩ | ⟨r, k, e, h1, h2⟩
  ·exact .inl ⟨e, h1⟩
  ·exact .inr ⟨r, k, e, ho.map h1 (hF r (.inr (.inr (.inr e)))), h2⟩
theorem DiskAt.has_lt {w : World} {D : DiskP} {x : DiskD} (h : DiskAt w D x) (i : Nat) (hi : D.has i) : i < w.heap.size := by
 rcases hi with rfl | rfl | hi | hi
 ·exact h.blk.lt
 ·obtain ⟨l, hm, _⟩ := h.lasts
  exact hm.lt
 ·exact ownBlock_lt h.waits hi
 ·rcases h.fails with ⟨e, _⟩ | ⟨r, k, e, h1, _⟩
  ·rw [e] at hi; cases hi
  ·rw [e] at hi; cases hi; exact h1.lt
theorem DiskAt.below {w w' : World} {D : DiskP} {x : DiskD} (h : DiskAt w D x) (hb : Below w.heap.size w w') : DiskAt w' D x := h.out (F := fun _ => False) (outB hb) (fun _ _ => id)
theorem DiskAt.drew {w : World} {D : DiskP} {x : DiskD} (h : DiskAt w D x) : DiskAt w.drew D x := ⟨h.blk, h.lasts, h.waits, h.fails, h.apart⟩

theorem dnone_any (D : DiskP) (x : DiskD) (w : World) (h : DiskAt w D x) (hx : x.ok) : Calls Tryz.prog 62 #[ptr D.p] w fun e w' => e = .returned (.bool false) ∧ w = w' := by
 have c0 := h.blk.cell_is 0 rfl
 have ne : (x.size == 0) = false := by simpa using (by have := hx.1; omega : x.size ≠ 0)
 unfold ptr
 clear h hx
 go_enter Tryz.func62, Tryz.ntmps62
 go_wp2_with fail
 go_ret
 exact ⟨rfl, rfl⟩
theorem dsize_any (D : DiskP) (x : DiskD) (w : World) (h : DiskAt w D x) (hx : x.ok) : Calls Tryz.prog 37 #[ptr D.p] w fun e w' => e = .returned (.int .i64 x.size) ∧ w = w' := by
 have c0 := h.blk.cell_is 0 rfl
 have HN := Lib.hid (dnone_any D x w h hx)
 unfold ptr at *
 clear h hx
 go_enter Tryz.func37, Tryz.ntmps37
 go_wp2_with fail
 refine HN.out.mono ?_; rintro e w1 ⟨rfl, rfl⟩
 go_wp2_with fail
 go_ret
 exact ⟨rfl, rfl⟩
theorem dright_yes (D : DiskP) (x : DiskD) (n q : Int) (w : World) (h : DiskAt w D x) (hx : x.ok) (hn : 0 ≤ n ∧ n < x.size) (hq : 0 ≤ q ∧ q < 512) : Calls Tryz.prog 88 #[ptr D.p, .int .i64 n, .int .i64 q] w fun e w' => e = .returned (.int .i64 0) ∧ w = w' := by
 have c0 := h.blk.cell_is 0 rfl
 have HN := Lib.hid (dnone_any D x w h hx)
 unfold ptr at *
 obtain ⟨h1, h2⟩ := hn
 obtain ⟨h3, h4⟩ := hq
 have n1 : ¬ n < 0 := by omega
 have n2 : ¬ x.size ≤ n := by omega
 have n3 : ¬ q < 0 := by omega
 have n4 : ¬ 512 ≤ q := by omega
 clear h hx
 go_enter Tryz.func88, Tryz.ntmps88
 go_wp2_with fail
 refine HN.out.mono ?_; rintro e w1 ⟨rfl, rfl⟩
 go_wp2_with fail
 go_ret
 exact ⟨rfl, rfl⟩
theorem dright_no (D : DiskP) (x : DiskD) (n q : Int) (w : World) (h : DiskAt w D x) (hx : x.ok) (hn : n < 0 ∨ x.size ≤ n ∨ q < 0 ∨ 512 ≤ q) : Calls Tryz.prog 88 #[ptr D.p, .int .i64 n, .int .i64 q] w fun e w' => e = .returned (.int .i64 4) ∧ w = w' := by
 have c0 := h.blk.cell_is 0 rfl
 have HN := Lib.hid (dnone_any D x w h hx)
 unfold ptr at *
 have hs : n < 0 ∨ (¬ n < 0 ∧ x.size ≤ n) ∨ (¬ n < 0 ∧ ¬ x.size ≤ n ∧ q < 0) ∨ (¬ n < 0 ∧ ¬ x.size ≤ n ∧ ¬ q < 0 ∧ 512 ≤ q) := by omega
 clear h hx hn
 rcases hs with h1 | ⟨h1, h2⟩ | ⟨h1, h2, h3⟩ | ⟨h1, h2, h3, h4⟩
 all_goals
  go_enter Tryz.func88, Tryz.ntmps88
  go_wp2_with fail
  refine HN.out.mono ?_; rintro e w1 ⟨rfl, rfl⟩
  go_wp2_with fail
  go_ret
  exact ⟨rfl, rfl⟩
end Go.Proofs.YtemcgfncahccgaaGreat
namespace Go.Proofs.YtemcgfncahccgaaGreat
open Go.RowKit

def newDisk (n : Int) : DiskD := ⟨n, fun _ => sector0, [], 0, []⟩
def newAt (s : Nat) : DiskP := ⟨s + 1, s, .slice none 0 0, none⟩
set_option maxHeartbeats 1000000 in
theorem dnew_yes (n : Int) (w : World) (h1 : 1 ≤ n) (h2 : n ≤ 4096) : Calls Tryz.prog 19 #[.int .i64 n] w fun e w' => e = .returned (.tuple #[ptr (newAt w.heap.size).p, .int .i64 0]) ∧ DiskAt w' (newAt w.heap.size) (newDisk n) ∧ Below w.heap.size w w' := by
 have n1 : ¬ n < 1 := by omega
 have n2 : ¬ 4096 < n := by omega
 have hmm := @run_makeMap Tryz.prog
 go_enter Tryz.func19, Tryz.ntmps19
 go_wp2_with fail
 go_ret2
 refine ⟨by simp [ptr, newAt], ⟨?_, ⟨[], ?_, List.nodup_nil, fun _ => .inr ⟨rfl, rfl⟩⟩, World.ownsRow_nil _ _ _ _, .inl ⟨rfl, rfl⟩, by simp [newAt]⟩, ((Below.refl _ _).alloc (Nat.le_refl _) _).alloc (by simp) _⟩
 ·exact Blk.new2 w _ _ _
 ·exact (MapAt.new w .i64).alloc _
def DiskD.stepped (x : DiskD) : DiskD := { x with steps := x.steps + 1 }
theorem dstep_range (D : DiskP) (x : DiskD) (n : Int) (f : Value) (w : World) (h : DiskAt w D x) (hx : x.ok) (hn : n < 0 ∨ x.size ≤ n) : Calls Tryz.prog 98 #[ptr D.p, .int .i64 n, f] w fun e w' => e = .returned (.int .i64 4) ∧ w = w' := by
 have HR := Lib.hid (dright_no D x n 0 w h hx (by omega))
 unfold ptr at *
 clear h hx
 go_enter Tryz.func98, Tryz.ntmps98
 go_wp2_with fail
 refine HR.out.mono ?_; rintro e w1 ⟨rfl, rfl⟩
 go_wp2_with fail
 go_ret
 exact ⟨rfl, rfl⟩
theorem lookOf_fails (k : List Int) (n : Int) : lookOf (k.map fun n => (n, Value.agg #[])) n = if n ∈ k then some (.agg #[]) else none := by
 induction k with
 | nil => rfl
 | cons y k ih =>
  unfold lookOf at ih ⊢
  rw [List.map_cons, List.find?_cons]
  by_cases h : n = y
  ·subst h; simp
  ·rw [show (n == y) = false by simpa using h]
   simp only [ih, List.mem_cons, h, false_or]
theorem run_lookup_nil {P : Program} {t k e : TypeId} {kd : IntKind} (w : World) (ht : P.underlying t = some (.map k e)) (hk : P.underlying k = some (.int kd)) (n : Int) (z : Value) (hz : (zeroValue e).run P w = .ok z w) (ok : Bool) :
  (Instr.lookup t (.map none) (.int kd n) ok).run P w = .ok (if ok then .tuple #[z, .bool false] else z) w := by
 have hf : (Instr.findKey k (.int kd n) (#[] : Array MapEntry).toList).run P w = .ok none w := run_findKey w hk [] n
 unfold Instr.lookup
 simp only [Sem.run_bind, run_underlying ht, Result.andThen, Sem.run_pure, run_checkKey_int w _ 9999 hk, hf, hz]
theorem look_fails {w : World} {D : DiskP} {x : DiskD} (h : DiskAt w D x) (n : Int) : (Instr.lookup 114 (.map D.fv) (.int .i64 n) true).run Tryz.prog w = .ok (.tuple #[.agg #[], .bool (decide (n ∈ x.fails))]) w := by
 have hz : (zeroValue 131).run Tryz.prog w = .ok (.agg #[]) w := by kernel_rfl
 rcases h.fails with ⟨e, h1⟩ | ⟨r, k, e, h1, h2⟩
 ·rw [e, h1]
  exact run_lookup_nil w Tryz.underlying114 Tryz.underlying3 n _ hz true
 ·rw [e]
  by_cases hn : n ∈ x.fails
  ·rw [decide_eq_true hn]
   exact run_lookup_ok w Tryz.underlying114 Tryz.underlying3 r _ h1 n _ (by rw [lookOf_fails, if_pos ((h2 n).2 hn)]) true
  ·rw [decide_eq_false hn]
   exact run_lookup_none w Tryz.underlying114 Tryz.underlying3 r _ h1 n _ hz (by rw [lookOf_fails, if_neg (fun hh => hn ((h2 n).1 hh))]) true
end Go.Proofs.YtemcgfncahccgaaGreat
