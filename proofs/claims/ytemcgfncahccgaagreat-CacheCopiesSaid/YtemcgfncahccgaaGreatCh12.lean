/-
  logs.take.
  codec's reader: take, number; blank.
-/
import Derived.Test.YtemcgfncahccgaaGreatCh11
set_option linter.unusedVariables false
set_option linter.unusedSimpArgs false
namespace Go.Proofs.YtemcgfncahccgaaGreat
open Go.RowKit

theorem leN_small (l : List UInt8) (k : Nat) (hk : l.length ≤ k) (h8 : k ≤ 8) : leN l < 18446744073709551616 := by
 have h1 := leN_lt l
 have h2 : 256 ^ l.length ≤ 256 ^ 8 := Nat.pow_le_pow_right (by omega) (by omega)
 have h3 : (256 : Nat) ^ 8 = 18446744073709551616 := by decide
 omega
end Go.Proofs.YtemcgfncahccgaaGreat
namespace Go.Proofs.YtemcgfncahccgaaGreat
open Go.RowKit

/-- the block that a slice lies in -/
def blockOf : Value → Option Nat
 | .slice (some a) _ _ => some a.block
 | _ => none
theorem blockOf_add (a : Option Addr) (i n m c d : Nat) : blockOf (.slice (a.map (·.add i)) n c) = blockOf (.slice a m d) := by
 cases a with
 | none => rfl
 | some a =>
  show some (a.add i).block = some a.block
  unfold Addr.add
  split <;> rfl
theorem BytesIn.out {F : Nat → Prop} {W W' : World} {B : Nat} {v : Value} {l : List UInt8} (h : BytesIn W B v l) (ho : Out F W W') (hB : B ≤ W.heap.size) (hF : ∀ g, blockOf v = some g → ¬ F g) : BytesIn W' B v l := by
 obtain ⟨h1, a, cap, rfl, h3, h4⟩ := h
 refine ⟨h1, a, cap, rfl, h3, fun j c hc => ?_⟩
 obtain ⟨g, off, rfl, hg, hr⟩ := h4 j c hc
 exact ⟨g, off, rfl, hg, (World.cell?_of_block (a := ⟨g, off + j, none⟩) (ho.block g (by omega) (hF g rfl))).trans hr⟩
set_option maxRecDepth 100000 in
set_option maxHeartbeats 1000000 in
theorem rtake_yes (pb B : Nat) (v : Value) (l : List UInt8) (k : Nat) (hkl : k ≤ l.length) (w : World) (hb : Blk w pb 181 #[v]) (hv : BytesIn w B v l) (hB : B ≤ pb) :
  Calls Tryz.prog 106 #[ptr pb, .int .i64 (k : Int)] w fun e w' => ∃ a cap, e = .returned (.slice a k cap) ∧ BytesIn w' B (.slice a k cap) (l.take k) ∧ (∃ v', Blk w' pb 181 #[v'] ∧ BytesIn w' B v' (l.drop k) ∧ blockOf v' = blockOf v) ∧ Out (fun i => i = pb) w w' := by
 obtain ⟨hl0, a, cap, rfl, hlc, hcs⟩ := hv
 have hv : BytesIn w B (.slice a l.length cap) l := ⟨hl0, a, cap, rfl, hlc, hcs⟩
 have hcell := hb.cell_is 0 rfl
 have hfr := hb.frozen 0
 have hlt := hb.lt
 have HU := Lib.hid (hv.upto k hkl hlc)
 have hf := hv.from_ k hkl hlc
 have HB := Lib.hid hb
 have i1 : (0 : Int) ≤ (k : Int) := by omega
 have i2 : (k : Int) ≤ (cap : Int) := by omega
 have i3 : (k : Int) ≤ (l.length : Int) := by omega
 unfold ptr
 clear hcs hv
 have fin : ∀ u, BytesIn w B u (l.drop k) → Blk (w.setCell ⟨pb, 0, none⟩ u) pb 181 #[u] ∧ BytesIn (w.setCell ⟨pb, 0, none⟩ u) B u (l.drop k) ∧ BytesIn (w.setCell ⟨pb, 0, none⟩ u) B (.slice a k cap) (l.take k) ∧ Out (fun i => i = pb) w (w.setCell ⟨pb, 0, none⟩ u) := fun u hF =>
  have hh : Below B w (w.setCell ⟨pb, 0, none⟩ u) := (out_set (F := fun i => i = pb) rfl).below (by omega) (fun i hi e => by omega)
  ⟨HB.out.set_ 0 _, hF.below hh (Nat.le_refl _), HU.out.below hh (Nat.le_refl _), out_set rfl⟩
 have FIN := Lib.hid fin
 clear fin hb
 go_enter Tryz.func106, Tryz.ntmps106
 go_wp2_with fail
 refine (cmust_yes _).mono ?_; rintro e w2 ⟨rfl, rfl⟩
 by_cases hck : cap = k
 ·rw [if_pos hck] at hf
  have FF := Lib.hid hf
  clear hf
  go_wp2_with fail
  go_ret
  obtain ⟨f1, f2, f3, f4⟩ := FIN.out _ FF.out
  rw [show cap - k = 0 by omega] at f1 f2 f3 f4
  exact ⟨a, k, rfl, by rw [hck] at f3; exact f3, ⟨_, f1, f2, by cases a <;> rfl⟩, f4⟩
 ·rw [if_neg hck] at hf
  have FF := Lib.hid hf
  clear hf
  go_wp2_with fail
  go_ret
  obtain ⟨f1, f2, f3, f4⟩ := FIN.out _ FF.out
  exact ⟨_, _, rfl, f3, ⟨_, f1, f2, blockOf_add _ _ _ _ _ _⟩, f4⟩
set_option maxRecDepth 100000 in
set_option maxHeartbeats 1000000 in
theorem rnumber_any (pb B : Nat) (v : Value) (l : List UInt8) (k : Nat) (hk : k ≤ 8) (hkl : k ≤ l.length) (w : World) (hb : Blk w pb 181 #[v]) (hv : BytesIn w B v l) (hB : B ≤ pb) :
  Calls Tryz.prog 104 #[ptr pb, .int .i64 (k : Int)] w fun e w' => e = .returned (.int .u64 (leN (l.take k) : Nat)) ∧ (∃ v', Blk w' pb 181 #[v'] ∧ BytesIn w' B v' (l.drop k) ∧ blockOf v' = blockOf v) ∧ Out (fun i => i = pb) w w' := by
 have HT := Lib.hid (rtake_yes pb B v l k hkl w hb hv hB)
 have hlk : (l.take k).length = k := by rw [List.length_take]; omega
 obtain ⟨bs, ebs⟩ : ∃ bs, bs = l.take k := ⟨_, rfl⟩
 rw [← ebs] at HT hlk ⊢
 have HLK := Lib.hid hlk
 have hlk1 : bs.length ≤ k := Nat.le_of_eq hlk
 have hlk2 : k ≤ bs.length := Nat.le_of_eq hlk.symm
 unfold ptr at *
 clear hb hv ebs hlk
 go_enter Tryz.func104, Tryz.ntmps104
 go_wp2_with fail
 refine HT.out.mono ?_; rintro e w1 ⟨a, cap, rfl, hv1, hr1, ho1⟩
 obtain ⟨h1, a', cap', he, hcap, h2⟩ := hv1
 injection he with e1 e2 e3
 subst e1 e3
 clear e2
 have HR := Lib.hid (And.intro hr1 ho1)
 clear hr1 ho1
 go_wp2_with fail
 go_loopw [12, 5] (fun i n wr => ∃ j : Nat, j ≤ k ∧ i = .int .i64 j ∧ n = .int .u64 ((leN (bs.take j) : Nat) : Int) ∧ wr = w1) (fun i _ _ => k - (intOf i).toNat)
 case atStart => exact ⟨0, by omega, rfl, rfl, rfl⟩
 case round =>
  obtain ⟨j, hj, rfl, rfl, rfl⟩ := hrel
  by_cases hlt : j < k
  ·have hbj : bs[j]? = some (bs[j]'(by omega)) := List.getElem?_eq_getElem (by omega)
   obtain ⟨g, off, rfl, hg, hcx⟩ := h2 j _ hbj
   have hT := Lib.hid (leN_take bs j _ hbj)
   have hN := leN_lt (bs.take j)
   rw [List.length_take, Nat.min_eq_left (by omega)] at hN
   generalize bs[j]'(by omega : j < bs.length) = c at *
   generalize leN (bs.take j) = N at *
   have hc256 := u8_lt c
   have hst := step64 N c.toNat j (by omega) hN hc256
   go_wp2_with fail
   exact ⟨⟨j + 1, by omega, by go_num, by rw [hT.out]; push_cast; rfl, trivial⟩, by simp [intOf]; omega⟩
  ·obtain rfl : j = k := by omega
   rw [List.take_of_length_le hlk1]
   go_wp2_with fail
   go_ret
   exact ⟨rfl, HR.out.1, HR.out.2⟩
set_option maxRecDepth 100000 in
set_option maxHeartbeats 1000000 in
theorem blank_any (B : Nat) (v : Value) (l : List UInt8) (w : World) (hv : BytesIn w B v l) :
  Calls Tryz.prog 108 #[v] w fun e w' => e = .returned (.bool (l.all (· == 0))) ∧ w = w' := by
 obtain ⟨h1, a, cap, rfl, hcap, h2⟩ := hv
 unfold maxLen at h1
 obtain ⟨q, eq⟩ : ∃ q, q = l.all (· == 0) := ⟨_, rfl⟩
 rw [← eq]
 have HQ := Lib.hid eq
 clear eq
 go_enter Tryz.func108, Tryz.ntmps108
 go_wp2_with fail
 go_loopw [8] (fun i wr => ∃ j : Nat, j ≤ l.length ∧ i = .int .i64 j ∧ (l.take j).all (· == 0) = true ∧ wr = w) (fun i _ => l.length - (intOf i).toNat)
 case atStart => exact ⟨0, by omega, rfl, by simp, rfl⟩
 case round =>
  obtain ⟨j, hj, rfl, hall, rfl⟩ := hrel
  by_cases hlt : j < l.length
  ·have hbj : l[j]? = some (l[j]'hlt) := List.getElem?_eq_getElem hlt
   obtain ⟨g, off, rfl, hg, hcx⟩ := h2 j _ hbj
   by_cases hz : l[j]'hlt = 0
   ·have hnext : (l.take (j + 1)).all (· == 0) = true := by
     rw [List.take_add_one, hbj, List.all_append, hall, hz]; rfl
    have hz0 : (((l[j]'hlt).toNat : Int) != 0) = false := by rw [hz]; rfl
    have HX := Lib.hid (And.intro hnext hz0)
    clear hall hnext hbj hz
    generalize l[j]'hlt = c at *
    have hz0 := HX.out.2
    go_wp2_with fail
    exact ⟨⟨j + 1, by omega, by go_num, HX.out.1, trivial⟩, by simp [intOf]; omega⟩
   ·have hz0 : (((l[j]'hlt).toNat : Int) != 0) = true := by
     rw [bne_iff_ne]
     intro e
     exact hz (UInt8.toNat_inj.1 (by simpa using e))
    have hq : q = false := by
     rw [HQ.out, List.all_eq_false]
     exact ⟨_, List.getElem_mem hlt, by simpa using hz⟩
    clear hbj hz hall
    generalize l[j]'hlt = c at *
    subst hq
    go_wp2_with fail
    go_ret
    exact ⟨rfl, rfl⟩
  ·obtain rfl : j = l.length := by omega
   rw [List.take_length] at hall
   have hq : q = true := by rw [HQ.out, hall]
   subst hq
   go_wp2_with fail
   go_ret
   exact ⟨rfl, rfl⟩
end Go.Proofs.YtemcgfncahccgaaGreat
