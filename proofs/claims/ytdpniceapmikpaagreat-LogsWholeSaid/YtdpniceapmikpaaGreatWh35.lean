/-
  Bits of a sector are turned by both (the law's Bits.spoil).
  An object that its bytes bring back: plain laws.
-/
import Derived.Test.YtdpniceapmikpaaGreatWh27
import Derived.Test.YtdpniceapmikpaaGreatWh29
import Derived.Test.YtdpniceapmikpaaGreatWh30
import Derived.Test.YtdpniceapmikpaaGreatWh34
set_option linter.unusedVariables false
set_option linter.unusedSimpArgs false
namespace Go.Proofs.YtdpniceapmikpaaGreat
open Go.RowKit

/-- is bit i turned? -/
def bitAt (fr : Int) (t i : Nat) : Bool := decide (0 ≤ fr ∧ fr < 4096 ∧ fr + i < 4096) && decide (t / 2 ^ i % 2 = 1)
def bitsT (x : DiskD) (s fr : Int) (t : Nat) : Nat → DiskD
 | 0 => x
 | k + 1 => if bitAt fr t k = true then (bitsT x s fr t k).spoilT s ((fr + k) / 8) (UInt8.ofNat (2 ^ ((fr + k) % 8).toNat)) else bitsT x s fr t k
theorem bit_int (t k : Nat) : (((t : Int) / 2 ^ k).tmod 2 == 1) = decide (t / 2 ^ k % 2 = 1) := by
 have e : ((t : Int) / 2 ^ k) = ((t / 2 ^ k : Nat) : Int) := by rw [Int.natCast_ediv, Int.natCast_pow]; rfl
 rw [e]
 generalize t / 2 ^ k = m
 have e2 : ((m : Int)).tmod 2 = ((m % 2 : Nat) : Int) := rfl
 rw [e2]
 by_cases h : m % 2 = 1
 ·rw [h]; rfl
 ·rw [decide_eq_false h]
  have h0 : m % 2 = 0 := by omega
  rw [h0]; rfl
theorem bitsT_size (x : DiskD) (s fr : Int) (t : Nat) : ∀ k, (bitsT x s fr t k).size = x.size ∧ (bitsT x s fr t k).steps = x.steps
 | 0 => ⟨rfl, rfl⟩
 | k + 1 => by
  have h := bitsT_size x s fr t k
  show (if bitAt fr t k = true then _ else _ : DiskD).size = _ ∧ (if bitAt fr t k = true then _ else _ : DiskD).steps = _
  split
  ·obtain ⟨h1, h2, _⟩ := spoilT_keeps (bitsT x s fr t k) s ((fr + k) / 8) (UInt8.ofNat (2 ^ ((fr + k) % 8).toNat))
   exact ⟨h1.trans h.1, h2.trans h.2⟩
  ·exact h
theorem bitsT_ok {x : DiskD} (hx : x.ok) (s fr : Int) (t : Nat) : ∀ k, (bitsT x s fr t k).ok
 | 0 => hx
 | k + 1 => by
  have h := bitsT_ok hx s fr t k
  show (if bitAt fr t k = true then _ else _ : DiskD).ok
  split
  ·exact spoilT_ok h _ _ _
  ·exact h
theorem bitsT_no {fr : Int} {t k : Nat} (x : DiskD) (s : Int) (h : bitAt fr t k = false) : bitsT x s fr t (k + 1) = bitsT x s fr t k := by
 show (if bitAt fr t k = true then _ else _ : DiskD) = _
 rw [h]
 rfl
theorem bitsT_yes {f t k : Nat} (x : DiskD) (s : Int) (h : bitAt f t k = true) : bitsT x s f t (k + 1) = (bitsT x s f t k).spoilT s (((f + k) / 8 : Nat) : Int) (UInt8.ofNat (2 ^ ((f + k) % 8))) := by
 show (if bitAt f t k = true then (bitsT x s f t k).spoilT s (((f : Int) + k) / 8) (UInt8.ofNat (2 ^ (((f : Int) + k) % 8).toNat)) else _ : DiskD) = _
 rw [h, if_pos rfl, ← Int.natCast_add]
 rfl
theorem shl_u8 (r : Nat) (h : r < 8) : IntKind.u8.wrap ((2 : Int) ^ r) = ((UInt8.ofNat (2 ^ r)).toNat : Int) := by
 have : r = 0 ∨ r = 1 ∨ r = 2 ∨ r = 3 ∨ r = 4 ∨ r = 5 ∨ r = 6 ∨ r = 7 := by omega
 rcases this with rfl | rfl | rfl | rfl | rfl | rfl | rfl | rfl <;> decide
theorem spoilE_same {x y : DiskD} (h : x.size = y.size) (n q : Int) : x.spoilE n q = y.spoilE n q := by
 unfold DiskD.spoilE DiskD.spoils
 rw [h]
/-- what the rounds have -/
structure BIn (w : World) (D : DiskP) (X Y : DiskD) (s fr : Int) (t : Nat) (fv : Value) (st : Int) (W : World) : Prop where
 disk : DiskAt W D X
 ref : ∃ lv wv, Blk W (w.heap.size + 1) 40 #[lv, wv, .int .i64 st, fv] ∧ RDisk W W.heap.size lv wv fv Y ∧ (∀ g, lv.ownBlock = some g → ¬ D.has g ∧ (g < w.heap.size ∨ w.heap.size + 3 ≤ g) ∧ g < W.heap.size) ∧ (∀ g, wv.ownBlock = some g → ¬ D.has g ∧ (g < w.heap.size ∨ w.heap.size + 3 ≤ g) ∧ g < W.heap.size)
 b3 : Blk W w.heap.size 72 #[.int .i64 s, .int .i64 fr, .int .u32 t]
 b6 : Blk W (w.heap.size + 2) 40 zeroD
 step : DStep D D w W
set_option maxRecDepth 100000 in
set_option maxHeartbeats 4000000 in
theorem lbits_any (s fr : Int) (t : Nat) (D : DiskP) (x y : DiskD) (lv wv fv : Value) (w : World) (h : DiskAt w D x) (hx : x.ok) (hR : RDisk w w.heap.size lv wv fv y) (hy : y.ok) (hsz : x.size = y.size)
  (hl : ∀ g, lv.ownBlock = some g → ¬ D.has g ∧ g < w.heap.size) (hw : ∀ g, wv.ownBlock = some g → ¬ D.has g ∧ g < w.heap.size) (hf : ∀ g, fv.ownBlock = some g → ¬ D.has g ∧ g < w.heap.size) (hS : ∀ k, k ≤ 32 → RSpl (bitsT y s fr t k)) :
  Calls Tryz.prog 29 #[.agg #[.int .i64 s, .int .i64 fr, .int .u32 t], ptr D.p, .agg #[lv, wv, .int .i64 y.steps, fv]] w fun e w' => ∃ lv' wv', e = .returned (.tuple #[.agg #[lv', wv', .int .i64 y.steps, fv], .bool true]) ∧
   RDisk w' w'.heap.size lv' wv' fv (bitsT y s fr t 32) ∧ DiskAt w' D (bitsT x s fr t 32) ∧ DStep D D w w' := by
 have HLT := Lib.hid h.has_lt
 obtain ⟨W, eW⟩ : ∃ W, W = ((w.alloc (.cells #[.int .i64 s, .int .i64 fr, .int .u32 t] 72)).alloc (.cells #[lv, wv, .int .i64 y.steps, fv] 40)).alloc (.cells zeroD 40) := ⟨_, rfl⟩
 have b0 : Below w.heap.size w W := by rw [eW]; exact (((Below.refl _ w).alloc (Nat.le_refl _) _).alloc (by simp) _).alloc (by simp; omega) _
 have k3 : Blk W w.heap.size 72 #[.int .i64 s, .int .i64 fr, .int .u32 t] := by rw [eW]; exact ((Blk.new w _ _).alloc _).alloc _
 have k5 : Blk W (w.heap.size + 1) 40 #[lv, wv, .int .i64 y.steps, fv] := by rw [eW]; exact (Blk.new2 w _ _ _).alloc _
 have k6 : Blk W (w.heap.size + 2) 40 zeroD := by rw [eW]; exact Blk.new' (by simp)
 have HB := Lib.hid (show BIn w D (bitsT x s fr t 0) (bitsT y s fr t 0) s fr t fv y.steps W from ⟨h.below b0, ⟨lv, wv, k5, (hR.below b0 (Nat.le_refl _)).mono b0.size, fun g hg => ⟨(hl g hg).1, .inl (hl g hg).2, Nat.lt_of_lt_of_le (hl g hg).2 b0.size⟩, fun g hg => ⟨(hw g hg).1, .inl (hw g hg).2, Nat.lt_of_lt_of_le (hw g hg).2 b0.size⟩⟩, k3, k6, (DStep.refl D w).below b0⟩)
 have HOX := Lib.hid (bitsT_ok hx s fr t)
 have HOY := Lib.hid (bitsT_ok hy s fr t)
 have HSX := Lib.hid (fun k => (bitsT_size x s fr t k).1)
 have HSY := Lib.hid (fun k => (bitsT_size y s fr t k))
 have HSZ := Lib.hid hsz
 have HSS := Lib.hid hS
 have HF := Lib.hid hf
 have hW3 : W.heap.size = w.heap.size + 3 := by rw [eW]; simp
 obtain ⟨st, est⟩ : ∃ q, q = y.steps := ⟨_, rfl⟩
 have HST := Lib.hid est
 rw [← est] at HB eW ⊢
 clear h hx hR hy hsz hl hw hf hS b0 k3 k5 k6 est
 unfold ptr at *
 go_enter Tryz.func29, Tryz.ntmps29
 go_wp2_with fail
 rw [← eW]
 clear eW
 go_loopw [8, 9] (fun o i wr => ∃ k : Nat, k ≤ 32 ∧ i = .int .i64 (k : Int) ∧ o = .bool true ∧ w.heap.size + 3 ≤ wr.heap.size ∧ Hid (BIn w D (bitsT x s fr t k) (bitsT y s fr t k) s fr t fv st wr)) (fun _ i _ => 32 - (intOf i).toNat)
 case atStart => exact ⟨0, by omega, rfl, rfl, by omega, HB⟩
 case round =>
  obtain ⟨k, hk, rfl, rfl, hwz, HI⟩ := hrel
  clear hW3 HB
  obtain ⟨wo, rfl⟩ : ∃ v, v = wr := ⟨_, rfl⟩
  by_cases hlt : k < 32
  ·have hli : (k : Int) < 32 := by omega
   have c30 := HI.out.b3.cell_is 0 rfl
   have c31 := HI.out.b3.cell_is 1 rfl
   have c32 := HI.out.b3.cell_is 2 rfl
   have none_ : bitAt fr t k = false → Hid (BIn w D (bitsT x s fr t (k + 1)) (bitsT y s fr t (k + 1)) s fr t fv st wo) := fun h => by
    rw [bitsT_no x s h, bitsT_no y s h]
    exact HI
   have HNO := Lib.hid none_
   clear none_
   by_cases h1 : 0 ≤ fr ∧ fr < 4096
   case neg =>
    have HNX := HNO.out (by unfold bitAt; rw [decide_eq_false (by omega)]; rfl)
    have h2 : fr < 0 ∨ (¬ fr < 0 ∧ ¬ fr < 4096) := by omega
    clear h1
    rcases h2 with h2 | ⟨h1, h2⟩
    all_goals
     have h3 : ¬ 0 ≤ fr ∨ ¬ fr < 0 := by omega
     try have h4 : ¬ 0 ≤ fr := by omega
     try have h5 : 0 ≤ fr := by omega
     go_wp2_with fail
     exact ⟨⟨k + 1, by omega, by simp, rfl, hwz, HNX⟩, by simp [intOf]; omega⟩
   obtain ⟨h1, h2⟩ := h1
   obtain ⟨f, rfl⟩ : ∃ f : Nat, fr = f := ⟨fr.toNat, by omega⟩
   have hwr : IntKind.i64.wrap ((f : Int) + k) = (f : Int) + k := by rw [IntKind.wrap_i64]; omega
   by_cases h3 : (f : Int) + k < 4096
   case neg =>
    have HNX := HNO.out (by unfold bitAt; rw [decide_eq_false (by omega)]; rfl)
    go_wp2_with fail
    exact ⟨⟨k + 1, by omega, by simp, rfl, hwz, HNX⟩, by simp [intOf]; omega⟩
   cases hb : (((t : Int) / 2 ^ k).tmod 2 == 1)
   ·have HNX := HNO.out (by unfold bitAt; rw [← bit_int, hb, Bool.and_false])
    go_wp2_with fail
    exact ⟨⟨k + 1, by omega, by simp, rfl, hwz, HNX⟩, by simp [intOf]; omega⟩
   ·have HBT := Lib.hid (show bitAt f t k = true by unfold bitAt; rw [← bit_int, hb, decide_eq_true (by omega)]; rfl)
    have hq0 : ((f : Int) + k).tdiv 8 = ((f + k) / 8 : Nat) := by rw [← Int.natCast_add]; rfl
    have hr0 : ((f : Int) + k).tmod 8 = ((f + k) % 8 : Nat) := by rw [← Int.natCast_add]; rfl
    have HXN := Lib.hid (bitsT_yes x s HBT.out)
    have HYN := Lib.hid (bitsT_yes y s HBT.out)
    obtain ⟨q8, eq8⟩ : ∃ q : Nat, q = (f + k) / 8 := ⟨_, rfl⟩
    obtain ⟨r8, er8⟩ : ∃ q : Nat, q = (f + k) % 8 := ⟨_, rfl⟩
    rw [← eq8] at hq0 HXN HYN
    rw [← er8] at hr0 HXN HYN
    have hq5 : q8 < 512 := by omega
    have hr7 : r8 < 8 := by omega
    have hwq : IntKind.i64.wrap (q8 : Int) = q8 := by rw [IntKind.wrap_i64]; omega
    have hsh := shl_u8 r8 hr7
    obtain ⟨c8, ec8⟩ : ∃ c, c = UInt8.ofNat (2 ^ r8) := ⟨_, rfl⟩
    rw [← ec8] at hsh HXN HYN
    clear eq8 er8 ec8 HNO
    obtain ⟨lv1, wv1, k5, hR, hl1, hw1⟩ := HI.out.ref
    have HR := Lib.hid hR
    have HL1 := Lib.hid hl1
    have HW1 := Lib.hid hw1
    have K5 := Lib.hid k5
    have HE := Lib.hid (spoilE_same (x := bitsT x s f t k) (y := bitsT y s f t k) (by rw [HSX.out, (HSY.out k).1, HSZ.out]) s q8)
    obtain ⟨X, eX⟩ : ∃ X, X = bitsT x s f t k := ⟨_, rfl⟩
    obtain ⟨Y, eY⟩ : ∃ X, X = bitsT y s f t k := ⟨_, rfl⟩
    have hXo : X.ok := by rw [eX]; exact HOX.out k
    have hYo : Y.ok := by rw [eY]; exact HOY.out k
    have hSp := HSS.out k (by omega)
    have hYs : Y.steps = st := by rw [eY, (HSY.out k).2, HST.out]
    rw [← eY] at hSp
    rw [← eX, ← eY] at HE HI
    rw [← eY] at HR HYN
    rw [← eX] at HXN
    clear hR hl1 hw1 k5 eX eY
    obtain ⟨e8, ee8⟩ : ∃ q, q = Y.spoilE s q8 := ⟨_, rfl⟩
    have HCR := Lib.hid (show ∀ W', Below wo.heap.size wo W' → Calls Tryz.prog 80 #[.agg #[lv1, wv1, .int .i64 st, fv], .int .i64 s, .int .i64 q8, .int .u8 (c8.toNat : Int)] W' fun e w' => Below W'.heap.size W' w' ∧ ∃ lv' wv', e = .returned (.tuple #[.agg #[lv', wv', .int .i64 st, fv], .int .i64 e8]) ∧
      RDisk w' w'.heap.size lv' wv' fv (Y.spoilT s q8 c8) ∧ NewOr W'.heap.size w'.heap.size lv1 lv' ∧ NewOr W'.heap.size w'.heap.size wv1 wv' from fun W' hb => by
     have h := hSp s q8 c8 lv1 wv1 fv W' ((HR.out.below hb (Nat.le_refl _)).mono hb.size) hYo
     rw [hYs, ← ee8] at h
     exact h)
    have HCD := Lib.hid (show ∀ W', DiskAt W' D X → Calls Tryz.prog 37 #[.pointer (some ⟨D.p, 0, none⟩), .int .i64 s, .int .i64 q8, .int .u8 (c8.toNat : Int)] W' fun e w' => e = .returned (.int .i64 e8) ∧ DiskAt w' D (X.spoilT s q8 c8) ∧ DStep D D W' w' from fun W' hh => by
     have h := dspoil_all D X s q8 c8 W' hh hXo
     rw [HE.out, ← ee8] at h
     exact h)
    have hone := HR.out.one st
    have HONE := Lib.hid hone
    clear hSp hYs hXo hYo ee8 hone HE
    go_upto_region 7 with fail
    clear hb
    refine jb (fun X => Below wo.heap.size wo X) (fun _ => True) 100 (Below.refl _ _).drew trivial fun hHeld hJ => ?_
    refine jk false 1 ?_
    refine jk false 2 ?_ (hy := by intro X hX _; have hc := (HI.out.b3.below hX HI.out.b3.lt).cell_is 0 rfl; go_simp; try with_reducible rfl)
    refine jk false 3 ?_
    refine jk false 4 ?_
    refine jk false 5 ?_
    refine jk false 6 ?_
    refine jk false 7 ?_
    refine jy false 0 rfl (yieldsIf_load_mid (by rfl) 40 _ rfl (w.heap.size + 1) 0 rfl [lv1, wv1, .int .i64 st, fv] _ (fun w' h => blk_range (K5.out.below h.1 K5.out.lt)) Tryz.underlying40 rfl (size_rdisk _ _ _ _)) ?_
    obtain ⟨wd, ewd⟩ : ∃ X, X = wo.drew := ⟨_, rfl⟩
    rw [← ewd] at hHeld ⊢
    clear ewd
    have hsd := hHeld.size
    refine' jj2 (_ : Value → Nat → Act) (fun V G Z => Blk Z G 40 zeroD ∧ wo.heap.size ≤ G ∧ ∃ lv2 wv2, V = .agg #[lv2, wv2, .int .i64 st, fv] ∧ RDisk Z Z.heap.size lv2 wv2 fv (Y.spoilT s q8 c8) ∧ (∀ g, lv2.ownBlock = some g → ¬ D.has g ∧ (g < w.heap.size ∨ w.heap.size + 3 ≤ g) ∧ g ≠ G ∧ g < Z.heap.size) ∧ (∀ g, wv2.ownBlock = some g → ¬ D.has g ∧ (g < w.heap.size ∨ w.heap.size + 3 ≤ g) ∧ g ≠ G ∧ g < Z.heap.size)) ?_ ?_
    rotate_left 3
    ·skip
     intro hF
     refine jr2 8 12 (fun K hK => ?_) (fun K hK => ?_)
     ·go_simp
      refine (HCR.out wd hHeld).mono ?_; rintro e w2 ⟨hb2, lv2, wv2, rfl, hR2, hn1, hn2⟩
      obtain ⟨V, eV⟩ : ∃ V, V = Value.agg #[lv2, wv2, .int .i64 st, fv] := ⟨_, rfl⟩
      dsimp only
      rw [← eV]
      have HEV := Lib.hid eV
      clear eV
      have hHeld2 := hHeld.trans (hb2.mono hsd)
      refine hK.out _ _ ⟨hHeld2, fun _ => trivial⟩ ?_
      clear hK K
      have hHeld := hHeld2
      refine jk false 9 ?_
      refine jk false 10 ?_
      refine jk false 11 ?_
      refine jr 12 fun K hK => ?_
      go_simp
      have hsz2 := hb2.size
      obtain ⟨G, eG⟩ : ∃ G, G = w2.heap.size := ⟨_, rfl⟩
      obtain ⟨Z, eZ⟩ : ∃ Z, Z = w2.alloc (.cells zeroD 40) := ⟨_, rfl⟩
      have hbz : Below w2.heap.size w2 Z := by rw [eZ]; exact (Below.refl _ _).alloc (Nat.le_refl _) _
      have bz : Blk Z G 40 zeroD := by rw [eZ, eG]; exact Blk.new _ _ _
      rw [← eZ, ← eG]
      clear eZ
      have hzZ := hbz.size
      have hzG := bz.lt
      have hHeld3 := hHeld2.trans (hbz.mono hHeld2.size)
      refine hK.out _ _ ⟨hHeld3, fun _ => trivial⟩ ?_
      refine hF V G _ _ _ ?_ ?_ ?_ ?_
      ·refine ⟨bz, by rw [eG]; omega, lv2, wv2, HEV.out, (hR2.below hbz (Nat.le_refl _)).mono hbz.size, fun g hg => ?_, fun g hg => ?_⟩
       ·rcases hn1 g hg with h | h
        ·have h2 := HL1.out g h
         exact ⟨h2.1, h2.2.1, by omega, by omega⟩
        ·exact ⟨fun hd => by have := HLT.out g hd; omega, .inr (by omega), by omega, by omega⟩
       ·rcases hn2 g hg with h | h
        ·have h2 := HW1.out g h
         exact ⟨h2.1, h2.2.1, by omega, by omega⟩
        ·exact ⟨fun hd => by have := HLT.out g hd; omega, .inr (by omega), by omega, by omega⟩
      ·exact hHeld3
      ·rfl
      ·with_reducible rfl
     ·go_simp
      obtain ⟨G, eG⟩ : ∃ G, G = wd.heap.size := ⟨_, rfl⟩
      obtain ⟨Z, eZ⟩ : ∃ Z, Z = wd.alloc (.cells zeroD 40) := ⟨_, rfl⟩
      have hbz : Below wd.heap.size wd Z := by rw [eZ]; exact (Below.refl _ _).alloc (Nat.le_refl _) _
      have bz : Blk Z G 40 zeroD := by rw [eZ, eG]; exact Blk.new _ _ _
      have hGs : G < Z.heap.size := bz.lt
      rw [← eZ, ← eG]
      have HEG := Lib.hid eG
      have hGw : wd.heap.size ≤ G := by omega
      clear eZ eG
      have hHeld2 := hHeld.trans (hbz.mono hsd)
      refine hK.out _ _ ⟨hHeld2, fun _ => trivial⟩ ?_
      clear hK K
      have hHeld := hHeld2
      refine jr 8 fun K hK => ?_
      go_simp
      refine (HCR.out Z hHeld2).mono ?_; rintro e w2 ⟨hb2, lv2, wv2, rfl, hR2, hn1, hn2⟩
      obtain ⟨V, eV⟩ : ∃ V, V = Value.agg #[lv2, wv2, .int .i64 st, fv] := ⟨_, rfl⟩
      dsimp only
      rw [← eV]
      have HEV := Lib.hid eV
      clear eV
      have hHeld3 := hHeld2.trans (hb2.mono hHeld2.size)
      have hz2 := hHeld2.size
      have hz3 := hb2.size
      refine hK.out _ _ ⟨hHeld3, fun _ => trivial⟩ ?_
      clear hK K
      have hHeld := hHeld3
      refine jk false 9 ?_
      refine jk false 10 ?_
      refine jk false 11 ?_
      refine hF V G _ _ _ ?_ ?_ ?_ ?_
      ·refine ⟨bz.below hb2 bz.lt, by omega, lv2, wv2, HEV.out, hR2, fun g hg => ?_, fun g hg => ?_⟩
       ·rcases hn1 g hg with h | h
        ·have h2 := HL1.out g h
         exact ⟨h2.1, h2.2.1, by omega, by omega⟩
        ·exact ⟨fun hd => by have := HLT.out g hd; omega, .inr (by omega), by omega, by omega⟩
       ·rcases hn2 g hg with h | h
        ·have h2 := HW1.out g h
         exact ⟨h2.1, h2.2.1, by omega, by omega⟩
        ·exact ⟨fun hd => by have := HLT.out g hd; omega, .inr (by omega), by omega, by omega⟩
      ·exact hHeld3
      ·kernel_rfl
      ·with_reducible rfl
    rintro V G Z ⟨bz, hGl, lv2, wv2, rfl, hR2, hn1, hn2⟩ hHeld2
    have HR2 := Lib.hid hR2
    have HN1 := Lib.hid hn1
    have HN2 := Lib.hid hn2
    have hon2 := HR2.out.one st
    have HON2 := Lib.hid hon2
    have HHZ := Lib.hid hHeld2
    clear hR2 hn1 hn2 hon2
    have hHeld := hHeld2
    refine jr 13 fun K hK => ?_
    rw [if_pos (show Region.wanted _ _ = true from rfl)]
    refine wp_store_row 40 _ _ rfl G #[lv2, wv2, .int .i64 st, fv] rfl rfl 40 _ bz (size_rdisk _ _ _ _) rfl HON2.out ?_
    obtain ⟨X1, eX1⟩ : ∃ X, X = Z.setRow G #[lv2, wv2, .int .i64 st, fv] := ⟨_, rfl⟩
    have bG : Blk X1 G 40 #[lv2, wv2, .int .i64 st, fv] := by rw [eX1]; exact bz.row _
    have O1 : Out (fun i => i = G) Z X1 := by rw [eX1]; exact out_row _ rfl
    rw [← eX1]
    clear eX1
    have hHeld3 : Below wo.heap.size wo X1 := hHeld2.trans (O1.below hHeld2.size (fun i hi e => by omega))
    refine hK.out _ _ ⟨hHeld3, fun _ => trivial⟩ ?_
    clear hK K
    have hHeld := hHeld3
    refine jk false 14 ?_
    refine wpAnyJ_done (by kernel_rfl) ?_ _
    have hb5 := K5.out.below hHeld3 K5.out.lt
    have hI3 := HI.out.b3.below hHeld3 HI.out.b3.lt
    have hI6 := HI.out.b6.below hHeld3 HI.out.b6.lt
    have cp : X1.cell? ⟨w.heap.size, 0, none⟩ = some (.int .i64 s) := hI3.cell_is 0 rfl
    obtain ⟨X2, eX2⟩ : ∃ X, X = X1.setRow (w.heap.size + 1) #[lv2, wv2, .int .i64 st, fv] := ⟨_, rfl⟩
    have O2 : Out (fun i => i = w.heap.size + 1) X1 X2 := by rw [eX2]; exact out_row _ rfl
    have b52 : Blk X2 (w.heap.size + 1) 40 #[lv2, wv2, .int .i64 st, fv] := by rw [eX2]; exact hb5.row _
    have hD2 : DiskAt X2 D X := (HI.out.disk.below hHeld3).out O2 (fun i hi e => by have := HLT.out i hi; omega)
    have hR3 : RDisk X2 X2.heap.size lv2 wv2 fv (Y.spoilT s q8 c8) := ((HR2.out.outO O1 (fun g hg e => (HN1.out g hg).2.2.1 e) (fun g hg e => (HN2.out g hg).2.2.1 e) (fun g hg e => by have := (HF.out g hg).2; omega)).outO O2 (fun g hg e => by have := (HN1.out g hg).2.1; omega) (fun g hg e => by have := (HN2.out g hg).2.1; omega) (fun g hg e => by have := (HF.out g hg).2; omega)).mono (by have := O1.size; have := O2.size; omega)
    have k32 := O2.blk hI3 (by omega)
    have k62 := O2.blk hI6 (by omega)
    have hS2 : DStep D D w X2 := ⟨(HI.out.step.below hHeld3).out.trans O2 (fun i hi e => by omega), rfl, fun i hi => .inl hi⟩
    have HD2 := Lib.hid hD2
    have HR3 := Lib.hid hR3
    have HN3 := Lib.hid (show Z.heap.size ≤ X2.heap.size by have := O1.size; have := O2.size; omega)
    have K32 := Lib.hid k32
    have K52 := Lib.hid b52
    have K62 := Lib.hid k62
    have HS2 := Lib.hid hS2
    have BG := Lib.hid bG
    have HB5 := Lib.hid hb5
    have hz2 : wo.heap.size ≤ X2.heap.size := by have := hHeld3.size; have := O2.size; omega
    clear hI3 hI6 hD2 hR3 k32 k62 b52 hS2 bG hb5 O1 O2 cp c30 c31 c32 HI
    go_upto_region 9 with (first
     | (refine wpList_load_midG rfl 40 _ rfl G 0 rfl #[lv2, wv2, .int .i64 st, fv] (load_rdisk BG.out) ?_)
     | (refine wpList_store_row rfl 40 _ _ rfl (w.heap.size + 1) #[lv2, wv2, .int .i64 st, fv] rfl rfl 40 _ HB5.out (size_rdisk _ _ _ _) rfl HON2.out ?_))
    rw [← eX2]
    clear eX2
    have hnb : ¬ D.has w.heap.size := fun hd => by have := HLT.out _ hd; omega
    refine jb (fun X => Out (fun i => D.has i) X2 X) (fun _ => True) 100 (outB (Below.refl _ _).drew) trivial fun hHeld hJ => ?_
    refine jk false 0 ?_
    refine jk false 1 ?_
    refine jk false 2 ?_
    refine jk false 3 ?_
    refine jk false 4 ?_ (hy := by intro X hX _; have hc := (hX.blk K32.out hnb).cell_is 0 rfl; go_simp; try with_reducible rfl)
    refine jk false 5 ?_
    refine jk false 6 ?_
    refine jk false 7 ?_
    refine jk false 8 ?_
    refine jk false 9 ?_
    refine jk false 12 ?_
    refine jr 10 fun K hK => ?_
    go_simp
    refine (HCD.out X2.drew HD2.out.drew).mono ?_; rintro e w4 ⟨rfl, hd4, hs4⟩
    have O4 : Out (fun i => D.has i) X2 w4 := (outB (Below.refl _ _).drew : Out (fun i => D.has i) X2 X2.drew).trans hs4.out (fun _ _ h => h)
    dsimp only
    refine hK.out _ _ ⟨O4, fun _ => trivial⟩ ?_
    clear hK K
    have hHeld := O4
    refine jr 11 fun K hK => ?_
    go_simp
    refine (num_any e8 w4).mono ?_; rintro e w5 ⟨rfl, rfl⟩
    dsimp only
    refine hK.out _ _ ⟨O4, fun _ => trivial⟩ ?_
    clear hK K
    refine jk false 13 ?_
    refine jk false 14 ?_
    refine jk false 15 ?_
    refine wpAnyJ_done (by kernel_rfl) ?_ _
    have HNX := Lib.hid (show BIn w D (bitsT x s f t (k + 1)) (bitsT y s f t (k + 1)) s f t fv st w4 by
     rw [HXN.out, HYN.out]
     have hz4 := O4.size
     have hn3 := HN3.out
     refine ⟨hd4, ⟨lv2, wv2, O4.blk K52.out (fun hd => by have := HLT.out _ hd; omega), (HR3.out.outO O4 (fun g hg => (HN1.out g hg).1) (fun g hg => (HN2.out g hg).1) (fun g hg => (HF.out g hg).1)).mono hz4, fun g hg => ⟨(HN1.out g hg).1, (HN1.out g hg).2.1, by have := (HN1.out g hg).2.2.2; omega⟩, fun g hg => ⟨(HN2.out g hg).1, (HN2.out g hg).2.1, by have := (HN2.out g hg).2.2.2; omega⟩⟩, O4.blk K32.out hnb, O4.blk K62.out (fun hd => by have := HLT.out _ hd; omega), ⟨HS2.out.out.trans O4 (fun i _ hd => hd), rfl, fun i hi => .inl hi⟩⟩)
    have hz4 : w.heap.size + 3 ≤ w4.heap.size := by have := O4.size; omega
    clear hd4 hs4 hnb
    go_wp2_with fail
    exact ⟨⟨k + 1, by omega, by simp, rfl, hz4, HNX⟩, by simp [intOf]; omega⟩
  ·obtain rfl : k = 32 := by omega
   obtain ⟨lv1, wv1, k5, hR, hl1, hw1⟩ := HI.out.ref
   have hon := hR.one st
   have K5 := Lib.hid k5
   have K6 := Lib.hid HI.out.b6
   have O1 : Out (fun i => i = w.heap.size + 2) wo (wo.setRow (w.heap.size + 2) #[lv1, wv1, .int .i64 st, fv]) := out_row _ rfl
   have HRES := Lib.hid (show RDisk (wo.setRow (w.heap.size + 2) #[lv1, wv1, .int .i64 st, fv]) (wo.setRow (w.heap.size + 2) #[lv1, wv1, .int .i64 st, fv]).heap.size lv1 wv1 fv (bitsT y s fr t 32) ∧ DiskAt (wo.setRow (w.heap.size + 2) #[lv1, wv1, .int .i64 st, fv]) D (bitsT x s fr t 32) ∧ DStep D D w (wo.setRow (w.heap.size + 2) #[lv1, wv1, .int .i64 st, fv]) from
    ⟨(hR.outO O1 (fun g hg e => by have := (hl1 g hg).2.1; omega) (fun g hg e => by have := (hw1 g hg).2.1; omega) (fun g hg e => by have := (HF.out g hg).2; omega)).mono O1.size, HI.out.disk.out O1 (fun i hi e => by have := HLT.out i hi; omega), ⟨HI.out.step.out.trans O1 (fun i hi e => by omega), rfl, fun i hi => .inl hi⟩⟩)
   have HON := Lib.hid hon
   clear hR hl1 hw1 k5 HI O1 hon
   go_wp2_with (first
    | (refine wpList_load_midG rfl 40 _ rfl (w.heap.size + 1) 0 rfl #[lv1, wv1, .int .i64 st, fv] (load_rdisk K5.out) ?_)
    | (refine wpList_store_row rfl 40 _ _ rfl (w.heap.size + 2) #[lv1, wv1, .int .i64 st, fv] rfl rfl 40 _ K6.out (size_rdisk _ _ _ _) rfl HON.out ?_))
   exact bodyPost_ret (results_row_tmp2 Tryz.results29 _ _ _ _ _ (by rfl) (load_rdisk (K6.out.row _)) (by rfl)) rfl ⟨lv1, wv1, rfl, HRES.out⟩
end Go.Proofs.YtdpniceapmikpaaGreat
namespace Go.Proofs.YtdpniceapmikpaaGreat
open Go.RowKit

/-- a key whose numbers fit their bytes -/
structure KeyFits (x : KeyD) : Prop where
 k : 0 ≤ x.k ∧ x.k < 256
 r : 0 ≤ x.r ∧ x.r < 256
 o : 0 ≤ x.o ∧ x.o < 65536
 c : 0 ≤ x.c ∧ x.c < 4294967296
 a : 0 ≤ x.a ∧ x.a < 4294967296
 v : I64 x.v
theorem u64_small {n : Int} (h0 : 0 ≤ n) (h1 : n < 18446744073709551616) : (u64 n : Int) = n := by unfold u64; omega
theorem keyB_eq (x : KeyD) : keyB x = leB (u64 x.k) 1 ++ (leB (u64 x.r) 1 ++ (leB (u64 x.o) 2 ++ (leB (u64 x.c) 4 ++ (leB (u64 x.a) 4 ++ leB (u64 x.v) 8)))) := rfl
theorem wrap_u64 {v : Int} (h : I64 v) : IntKind.i64.wrap ((u64 v : Nat) : Int) = v := by
 rw [IntKind.wrap_i64]
 unfold I64 at h
 unfold u64
 omega
theorem keyOf_keyB (x : KeyD) (hx : KeyFits x) (T : List UInt8) : keyOf (keyB x ++ T) = x := by
 obtain ⟨k, o, c, a, r, v⟩ := x
 obtain ⟨hk, hr, ho, hc, ha, hv⟩ := hx
 simp only at hk hr ho hc ha hv
 have p1 : (256 : Nat) ^ 1 = 256 := by decide
 have p2 : (256 : Nat) ^ 2 = 65536 := by decide
 have p4 : (256 : Nat) ^ 4 = 4294967296 := by decide
 have p8 : (256 : Nat) ^ 8 = 18446744073709551616 := by decide
 have uk := u64_small hk.1 (by omega)
 have ur := u64_small hr.1 (by omega)
 have uo := u64_small ho.1 (by omega)
 have uc := u64_small hc.1 (by omega)
 have ua := u64_small ha.1 (by omega)
 have uv : u64 v < 18446744073709551616 := by unfold u64; omega
 have e : keyB ⟨k, o, c, a, r, v⟩ ++ T = leB (u64 k) 1 ++ (leB (u64 r) 1 ++ (leB (u64 o) 2 ++ (leB (u64 c) 4 ++ (leB (u64 a) 4 ++ (leB (u64 v) 8 ++ T))))) := by
  rw [keyB_eq]
  simp only [List.append_assoc]
 have n0 : numAt (keyB ⟨k, o, c, a, r, v⟩ ++ T) 0 1 = u64 k := by rw [e]; exact numAt_mid [] _ 0 1 _ rfl (by omega)
 have n1 : numAt (keyB ⟨k, o, c, a, r, v⟩ ++ T) 1 1 = u64 r := by rw [e]; exact numAt_mid (leB (u64 k) 1) _ 1 1 _ (leB_len _ _) (by omega)
 have n2 : numAt (keyB ⟨k, o, c, a, r, v⟩ ++ T) 2 2 = u64 o := by rw [e, ← List.append_assoc]; exact numAt_mid (leB (u64 k) 1 ++ leB (u64 r) 1) _ 2 2 _ (by simp [leB_len]) (by omega)
 have n3 : numAt (keyB ⟨k, o, c, a, r, v⟩ ++ T) 4 4 = u64 c := by rw [e, ← List.append_assoc, ← List.append_assoc]; exact numAt_mid (leB (u64 k) 1 ++ leB (u64 r) 1 ++ leB (u64 o) 2) _ 4 4 _ (by simp [leB_len]) (by omega)
 have n4 : numAt (keyB ⟨k, o, c, a, r, v⟩ ++ T) 8 4 = u64 a := by rw [e, ← List.append_assoc, ← List.append_assoc, ← List.append_assoc]; exact numAt_mid (leB (u64 k) 1 ++ leB (u64 r) 1 ++ leB (u64 o) 2 ++ leB (u64 c) 4) _ 8 4 _ (by simp [leB_len]) (by omega)
 have n5 : numAt (keyB ⟨k, o, c, a, r, v⟩ ++ T) 12 8 = u64 v := by rw [e, ← List.append_assoc, ← List.append_assoc, ← List.append_assoc, ← List.append_assoc]; exact numAt_mid (leB (u64 k) 1 ++ leB (u64 r) 1 ++ leB (u64 o) 2 ++ leB (u64 c) 4 ++ leB (u64 a) 4) _ 12 8 _ (by simp [leB_len]) (by omega)
 unfold numAt at n0 n1 n2 n3 n4 n5
 unfold keyOf
 rw [n0, n1, n2, n3, n4, n5, uk, ur, uo, uc, ua, wrap_u64 hv]
theorem keys_drop : ∀ (l : List KeyD) (i : Nat) (x : KeyD), l[i]? = some x → ∃ R, (l.flatMap keyB).drop (20 * i) = keyB x ++ R
 | [], i, x, h => by simp at h
 | y :: l, 0, x, h => by
  obtain rfl : y = x := by simpa using h
  exact ⟨l.flatMap keyB, by simp⟩
 | y :: l, i + 1, x, h => by
  obtain ⟨R, hR⟩ := keys_drop l i x (by simpa using h)
  refine ⟨R, ?_⟩
  rw [List.flatMap_cons, List.drop_append, keyB_len, List.drop_eq_nil_of_le (by rw [keyB_len]; omega), List.nil_append, show 20 * (i + 1) - 20 = 20 * i by omega]
  exact hR
/-- an object whose numbers fit is what its bytes say -/
theorem objOf_objL (o : ObjD) (ho : o.ok) (hk : 0 ≤ o.kd ∧ o.kd < 4294967296) (hct : 0 ≤ o.ct ∧ o.ct < 4294967296) (hcl : 0 ≤ o.cl ∧ o.cl < 4294967296) (hs : ∀ x ∈ o.slots, KeyFits x) : objOf (padL (objL o)) = o := by
 obtain ⟨kd, ct, cl, slots, bytes⟩ := o
 obtain ⟨h16, h64⟩ := ho
 simp only at h16 h64 hk hct hcl hs
 have p4 : (256 : Nat) ^ 4 = 4294967296 := by decide
 have uk := u64_small hk.1 (by omega)
 have uc := u64_small hct.1 (by omega)
 have ul := u64_small hcl.1 (by omega)
 have hkl : (slots.flatMap keyB).length = 320 := by
  have : ∀ l : List KeyD, (l.flatMap keyB).length = 20 * l.length := by
   intro l
   induction l with
   | nil => rfl
   | cons y l ih => rw [List.flatMap_cons, List.length_append, keyB_len, ih, List.length_cons]; omega
  rw [this, h16]
 obtain ⟨Z, eZ⟩ : ∃ Z, Z = List.replicate (508 - (objL ⟨kd, ct, cl, slots, bytes⟩).length) (0 : UInt8) := ⟨_, rfl⟩
 have e : padL (objL ⟨kd, ct, cl, slots, bytes⟩) = leB (u64 kd) 4 ++ (leB (u64 ct) 4 ++ (leB (u64 cl) 4 ++ (slots.flatMap keyB ++ (bytes ++ Z)))) := by
  unfold padL
  rw [← eZ]
  unfold objL
  simp only [List.append_assoc]
 rw [e]
 obtain ⟨A, eA⟩ : ∃ A, A = leB (u64 kd) 4 ++ leB (u64 ct) 4 ++ leB (u64 cl) 4 := ⟨_, rfl⟩
 have hA : A.length = 12 := by rw [eA]; simp [leB_len]
 have e2 : leB (u64 kd) 4 ++ (leB (u64 ct) 4 ++ (leB (u64 cl) 4 ++ (slots.flatMap keyB ++ (bytes ++ Z)))) = A ++ (slots.flatMap keyB ++ (bytes ++ Z)) := by rw [eA]; simp only [List.append_assoc]
 have n0 : numAt (A ++ (slots.flatMap keyB ++ (bytes ++ Z))) 0 4 = u64 kd := by rw [← e2]; exact numAt_mid [] _ 0 4 _ rfl (by omega)
 have n1 : numAt (A ++ (slots.flatMap keyB ++ (bytes ++ Z))) 4 4 = u64 ct := by rw [← e2]; exact numAt_mid (leB (u64 kd) 4) _ 4 4 _ (leB_len _ _) (by omega)
 have n2 : numAt (A ++ (slots.flatMap keyB ++ (bytes ++ Z))) 8 4 = u64 cl := by rw [← e2, ← List.append_assoc]; exact numAt_mid (leB (u64 kd) 4 ++ leB (u64 ct) 4) _ 8 4 _ (by simp [leB_len]) (by omega)
 have hkeys : (List.range 16).map (fun i => keyOf ((A ++ (slots.flatMap keyB ++ (bytes ++ Z))).drop (12 + 20 * i))) = slots := by
  apply List.ext_getElem?
  intro i
  rw [List.getElem?_map]
  by_cases hi : i < 16
  ·have ex : slots[i]? = some (slots[i]'(by omega)) := List.getElem?_eq_getElem (by omega)
   rw [List.getElem?_range hi, ex]
   simp only [Option.map_some]
   congr 1
   obtain ⟨R, hR⟩ := keys_drop slots i _ ex
   have ed : (A ++ (slots.flatMap keyB ++ (bytes ++ Z))).drop (12 + 20 * i) = keyB (slots[i]'(by omega)) ++ (R ++ (bytes ++ Z)) := by
    rw [List.drop_append, hA, List.drop_eq_nil_of_le (by omega), List.nil_append, show 12 + 20 * i - 12 = 20 * i by omega, List.drop_append, hR, hkl, show 20 * i - 320 = 0 by omega, List.drop_zero, List.append_assoc]
   rw [ed]
   exact keyOf_keyB _ (hs _ (List.getElem_mem _)) _
  ·rw [List.getElem?_eq_none (by simp; omega), List.getElem?_eq_none (by omega)]
   rfl
 have hby : ((A ++ (slots.flatMap keyB ++ (bytes ++ Z))).drop 332).take 64 = bytes := by
  rw [← List.append_assoc]
  exact cut_mid (A ++ slots.flatMap keyB) bytes Z 332 64 (by rw [List.length_append, hA, hkl]) h64
 unfold numAt at n0 n1 n2
 rw [e2]
 unfold objOf
 rw [n0, n1, n2, hkeys, hby, uk, uc, ul]
theorem within_le {has : Bool} {n m : Int} (h : withinB has n m = true) (hm : 0 ≤ m) : 0 ≤ n ∧ n ≤ m := by
 unfold withinB at h
 cases has
 ·simp at h; omega
 ·simp at h; omega
theorem fits_of {x : KeyD} (h : ofB x.k x.o x.c x.a x.r x.v = true) (hr : x.r < 9223372036854775808) (hv : I64 x.v) : KeyFits x := by
 unfold ofB at h
 simp only [Bool.and_eq_true, decide_eq_true_eq, beq_iff_eq] at h
 obtain ⟨⟨⟨⟨⟨⟨⟨h1, h2⟩, h3⟩, h4⟩, h5⟩, h6⟩, h7⟩, h8⟩ := h
 have b1 := within_le h3 (by omega)
 have b2 := within_le h4 (by omega)
 have b3 := within_le h5 (by omega)
 have b4 := (andNot_most x.k x.r h6 hr).1 h7
 have b5 : mostOf x.k ≤ 7 := by unfold mostOf; split <;> (try split) <;> omega
 exact ⟨by omega, by omega, by omega, by omega, by omega, hv⟩
theorem objB_facts {o : ObjD} {N : Int} (h : objB o N = true) : (0 ≤ o.kd ∧ o.kd ≤ 3) ∧ (0 ≤ o.ct ∧ o.ct ≤ 4294967295) ∧ (0 ≤ o.cl ∧ o.cl ≤ 4294967295) ∧ 1 ≤ N ∧ N ≤ 64 ∧ ∀ x ∈ o.slots, ofB x.k x.o x.c x.a x.r x.v = true := by
 unfold objB preB at h
 simp only [Bool.and_eq_true, decide_eq_true_eq] at h
 obtain ⟨⟨⟨⟨⟨⟨n1, n2⟩, c1⟩, c2⟩, l1⟩, l2⟩, h⟩ := h
 have hz : slots0 o = true → ∀ x ∈ o.slots, ofB x.k x.o x.c x.a x.r x.v = true := by
  intro hs x hx
  unfold slots0 at hs
  rw [(keysEq_iff _ _).1 hs] at hx
  have : x = keyZ := by unfold slotsZ at hx; exact (List.mem_replicate.1 hx).2
  subst this
  show ofB 0 0 0 0 0 0 = true
  decide +kernel
 refine ⟨?_, ⟨c1, c2⟩, ⟨l1, l2⟩, n1, n2, ?_⟩
 ·by_cases k0 : o.kd = 0
  ·omega
  ·rw [if_neg k0] at h
   by_cases k3 : o.kd = 3
   ·omega
   ·rw [if_neg k3] at h
    by_cases k2 : o.kd = 2
    ·omega
    ·rw [if_neg k2] at h
     by_cases k1 : o.kd = 1
     ·omega
     ·rw [if_neg k1] at h; cases h
 ·by_cases k0 : o.kd = 0
  ·rw [if_pos k0] at h
   unfold bareB at h
   simp only [Bool.and_eq_true] at h
   exact hz h.1
  ·rw [if_neg k0] at h
   by_cases k3 : o.kd = 3
   ·rw [if_pos k3] at h
    unfold bareB at h
    simp only [Bool.and_eq_true] at h
    exact hz h.1
   ·rw [if_neg k3] at h
    by_cases k2 : o.kd = 2
    ·rw [if_pos k2] at h
     unfold bareB at h
     simp only [Bool.and_eq_true] at h
     exact hz h.1
    ·rw [if_neg k2] at h
     by_cases k1 : o.kd = 1
     ·rw [if_pos k1] at h
      intro x hx
      have := List.all_eq_true.1 h x hx
      unfold slotB at this
      simp only [Bool.and_eq_true] at this
      exact this.1
     ·rw [if_neg k1] at h; cases h
/-- an object that may be is brought back by its sector -/
theorem back_obj {o : ObjD} {N : Int} (ho : o.ok) (h : objB o N = true) (hr : rightsOk o) (hv : ∀ x ∈ o.slots, I64 x.v) : BackO N o := by
 obtain ⟨hk, hc, hl, n1, n2, hs⟩ := objB_facts h
 have hb := objOf_objL o ho (by omega) (by omega) (by omega) (fun x hx => fits_of (hs x hx) (hr x hx) (hv x hx))
 have hlen : (objL o).length = 396 := objL_len o ho
 refine ⟨?_, hb, by omega⟩
 unfold getE
 rw [if_neg (by omega), sealedB_sectorL, if_pos rfl, sectorL_take _ (by omega)]
 have hcode : codeB (padL (objL o)) N = true := by
  unfold codeB
  rw [hb, h]
  have z := padL_zeros (objL o)
  rw [hlen] at z
  have z2 : ((padL (objL o)).drop 396).all (· == 0) = true := by
   rw [List.all_eq_true]
   intro c hcm
   have := List.any_eq_false.1 z c hcm
   simpa using this
  rw [z2, Bool.and_true, Bool.and_true, List.all_eq_true]
  intro i hi
  have e : (objOf (padL (objL o))).slots = o.slots := by rw [hb]
  have hm : keyOf ((padL (objL o)).drop (12 + 20 * i)) ∈ o.slots := by
   rw [← e]
   exact List.mem_map.2 ⟨i, hi, rfl⟩
  exact hs _ hm
 rw [hcode]
 rfl
end Go.Proofs.YtdpniceapmikpaaGreat
