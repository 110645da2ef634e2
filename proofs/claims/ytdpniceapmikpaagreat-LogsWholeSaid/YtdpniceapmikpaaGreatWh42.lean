/-
  The law LogsWhole. (Written by gen_lwhole.py.)
-/
import Derived.Test.YtdpniceapmikpaaGreatWh11
import Derived.Test.YtdpniceapmikpaaGreatWh20
import Derived.Test.YtdpniceapmikpaaGreatWh39
import Derived.Test.YtdpniceapmikpaaGreatWh41
set_option linter.unusedVariables false
set_option linter.unusedSimpArgs false
namespace Go.Proofs.YtdpniceapmikpaaGreat
open Go.RowKit

/-- []byte(string) -/
theorem bytes_of_str (w : World) (l : List UInt8) (hl : l.length ≤ maxLen) : ∃ v W, (convert 9 26 (.string (bStr l))).run Tryz.prog w = .ok v W ∧ BytesIn W W.heap.size v l ∧ Below w.heap.size w W ∧ (∀ g, v.ownBlock = some g → g = w.heap.size) ∧ W.heap.size = w.heap.size + 1 := by
 have hr := run_bytes_of_string (P := Tryz.prog) w 9 26 5 (bStr l) Tryz.underlying9 Tryz.underlying26 Tryz.underlying5
 have hsz : (bStr l).size = l.length := by simp [bStr, ByteArray.size]
 have hb : Below w.heap.size w (w.drew.alloc (.cells (bytesRow (bStr l) (grownCap w (bStr l).size 0 5)) 5 ((bytesRow (bStr l) (grownCap w (bStr l).size 0 5)).size, (bytesRow (bStr l) (grownCap w (bStr l).size 0 5)).size + 1))) :=
  (Below.refl _ w).drew.alloc (Nat.le_refl _) _
 refine ⟨_, _, hr, ⟨hl, _, _, by rw [hsz], ?_, fun j c hc => ?_⟩, hb, fun g hg => by simpa [Value.ownBlock] using hg.symm, by simp⟩
 ·rw [← hsz]; exact grownCap_ge _ _ _ _
 ·refine ⟨w.heap.size, 0, rfl, by simp, ?_⟩
  have hj : j < (bStr l).data.size := by
   rcases Nat.lt_or_ge j l.length with h | h
   ·simpa [bStr] using h
   ·rw [List.getElem?_eq_none h] at hc; cases hc
  have h1 := bytesRow_at (bStr l) (grownCap w (bStr l).size 0 5) j hj
  have h2 : (bStr l).data[j] = c := by
   have : l[j]? = some ((bStr l).data[j]) := by
    have hj2 : j < l.length := by simpa [bStr] using hj
    rw [List.getElem?_eq_getElem hj2]
    simp [bStr]
   rw [this] at hc
   exact Option.some.inj hc
  rw [h2] at h1
  have h3 : (w.drew.alloc (.cells (bytesRow (bStr l) (grownCap w (bStr l).size 0 5)) 5 ((bytesRow (bStr l) (grownCap w (bStr l).size 0 5)).size, (bytesRow (bStr l) (grownCap w (bStr l).size 0 5)).size + 1))).heap[w.heap.size]? = some (.cells (bytesRow (bStr l) (grownCap w (bStr l).size 0 5)) 5 ((bytesRow (bStr l) (grownCap w (bStr l).size 0 5)).size, (bytesRow (bStr l) (grownCap w (bStr l).size 0 5)).size + 1)) := by
   have := World.alloc_heap_new w.drew (.cells (bytesRow (bStr l) (grownCap w (bStr l).size 0 5)) 5 ((bytesRow (bStr l) (grownCap w (bStr l).size 0 5)).size, (bytesRow (bStr l) (grownCap w (bStr l).size 0 5)).size + 1))
   simpa using this
  simp only [World.cell?, h3, Nat.zero_add]
  rw [h1]
  rfl
theorem BoolsIn.mono {W : World} {B C : Nat} {v : Value} {l : List Bool} (h : BoolsIn W B v l) (hC : B ≤ C) : BoolsIn W C v l := by
 obtain ⟨h1, a, cap, h2, h3, h4⟩ := h
 refine ⟨h1, a, cap, h2, h3, fun j c hc => ?_⟩
 obtain ⟨g, off, e, hg, hr⟩ := h4 j c hc
 exact ⟨g, off, e, by omega, hr⟩
theorem load_crash {W : World} {g : Nat} {a b c d e f h : Value} (k : Blk W g 83 #[a, b, c, d, e, f, h]) : (loadVar 81 ⟨g, 1, none⟩).run Tryz.prog W = .ok (.agg #[b, c, d]) W := by
 refine run_loadVar_mid W g 1 _ [b, c, d] _ ?_ Tryz.underlying81 rfl (by show _ = some 3; kernel_rfl)
 intro j v hj
 rcases j with _ | _ | _ | j
 ·cases hj; exact k.cell_is 1 rfl
 ·cases hj; exact k.cell_is 2 rfl
 ·cases hj; exact k.cell_is 3 rfl
 ·simp at hj
theorem load_bits {W : World} {g : Nat} {a b c d e f h : Value} (k : Blk W g 83 #[a, b, c, d, e, f, h]) : (loadVar 72 ⟨g, 4, none⟩).run Tryz.prog W = .ok (.agg #[e, f, h]) W := by
 refine run_loadVar_mid W g 4 _ [e, f, h] _ ?_ Tryz.underlying72 rfl (by show _ = some 3; kernel_rfl)
 intro j v hj
 rcases j with _ | _ | _ | j
 ·cases hj; exact k.cell_is 4 rfl
 ·cases hj; exact k.cell_is 5 rfl
 ·cases hj; exact k.cell_is 6 rfl
 ·simp at hj
theorem same_self (f : FrameD) : sameB f f = true := (sameB_iff f f).2 rfl
theorem spot_le (N i : Nat) : (spotAt N i).t ≤ i := by
 unfold spotAt
 (repeat' split) <;> simp <;> omega
theorem spotR_t (N : Nat) (s : Int) : 0 ≤ (spotR N s).1.t ∧ (spotR N s).1.t ≤ 20 + 3 * N := by
 unfold spotR
 split
 ·rename_i h
  exact ⟨(spot_t N s.toNat).1, by have := spot_le N s.toNat; show (spotAt N s.toNat).t ≤ _; omega⟩
 ·exact ⟨Int.le_refl _, by show (0 : Int) ≤ _; omega⟩
theorem waits_no (W : World) (B : Nat) : WaitsIn W B (.slice none 0 0) [] := ⟨by simp, fun y hy => (by cases hy), none, 0, rfl, fun i y hi => (by simp at hi)⟩
/-- what the law keeps -/
structure WhI (w : World) (N : Int) (VA VB : Array Value) (ar : Int) (vk : Value) (torn bytes s fr : Int) (t : Nat) (W : World) : Prop where
 below : Below w.heap.size w W
 k0 : Blk W w.heap.size 23 #[.int .i64 N]
 k1 : Blk W (w.heap.size + 1) 28 VA
 k2 : Blk W (w.heap.size + 2) 28 VB
 k3 : Blk W (w.heap.size + 3) 83 #[.int .i64 ar, vk, .int .i64 torn, .int .i64 bytes, .int .i64 s, .int .i64 fr, .int .u32 t]
 lo : w.heap.size + 4 ≤ W.heap.size
theorem WhI.out {w W W' : World} {N : Int} {VA VB : Array Value} {ar : Int} {vk : Value} {torn bytes s fr : Int} {t : Nat} {F : Nat → Prop} (h : WhI w N VA VB ar vk torn bytes s fr t W) (ho : Out F W W') (hF : ∀ i, F i → w.heap.size + 4 ≤ i) : WhI w N VA VB ar vk torn bytes s fr t W' := by
 have hl := h.lo
 have hn : ∀ i, i < w.heap.size + 4 → ¬ F i := fun i hi hf => by have := hF i hf; omega
 exact ⟨h.below.trans (ho.below h.below.size (fun i hi => hn i (by omega))), ho.blk h.k0 (hn _ (by omega)), ho.blk h.k1 (hn _ (by omega)), ho.blk h.k2 (hn _ (by omega)), ho.blk h.k3 (hn _ (by omega)), by have := ho.size; omega⟩
theorem WhI.next {w W W' : World} {N : Int} {VA VB : Array Value} {ar : Int} {vk : Value} {torn bytes s fr : Int} {t : Nat} (h : WhI w N VA VB ar vk torn bytes s fr t W) (hb : Below W.heap.size W W') : WhI w N VA VB ar vk torn bytes s fr t W' := h.out (F := fun _ => False) (outB hb) (fun _ h => h.elim)
/-- a frame that was read stands behind what does not touch it -/
theorem FrameFrom.move {lo : Nat} {W W' : World} {v : Value} {f : FrameD} {F : Nat → Prop} (h : FrameFrom lo W v f) (ho : Out F W W') (hF : ∀ i, lo ≤ i → i < W.heap.size → ¬ F i) : FrameFrom lo W' v f := by
 intro G W2 hg hG
 have h2 := h (fun i => F i ∨ (W.heap.size ≤ i) ∨ G i) W2 (Out.trans (F := fun i => F i ∨ (W.heap.size ≤ i) ∨ G i) ⟨ho.os, ho.tape, ho.output, ho.size, fun i hi hn => ho.block i hi (fun hf => hn (.inl hf))⟩ hg (fun i _ hi => .inr (.inr hi))) (fun i hi hl hf => by
  rcases hf with hf | hf | hf
  ·exact hF i hi hl hf
  ·omega
  ·exact hG i hi (by have := ho.size; omega) hf)
 obtain ⟨vo, vb, vs, e, a, b, c⟩ := h2
 exact ⟨vo, vb, vs, e, a.mono ho.size, b.mono ho.size, c.mono ho.size⟩
theorem frame_one {W : World} {B : Nat} {F : Array Value} {f : FrameD} (h : FrameIn W B (.agg F) f) : F.all (·.oneCell') = true := by
 obtain ⟨vo, vb, vs, e, ⟨_, _, _, rfl, _⟩, ⟨_, _, _, rfl, _⟩, ⟨_, _, _, rfl, _⟩⟩ := h
 injection e with e
 rw [e, List.all_toArray]
 rfl
theorem frame_size {F : Array Value} (h : (Tryz.prog.info? 28).map (·.size) = some F.size) : F.size = 4 := by
 have h2 : (Tryz.prog.info? 28).map (·.size) = some 4 := by kernel_rfl
 rw [h2] at h
 exact (Option.some.inj h).symm

set_option maxRecDepth 100000 in
set_option maxHeartbeats 8000000 in
theorem whole_any (N : Int) (fa fb : FrameD) (va vb vk : Value) (ar torn bytes s fr : Int) (t : Nat) (keep : List Bool) (w : World) (ha : FrameIn w w.heap.size va fa) (hb : FrameIn w w.heap.size vb fb) (hk : BoolsIn w w.heap.size vk keep)
  (hca : ∀ b c, (∃ x y z, va = .agg #[x, y, z, .slice b fa.state.length c]) → c ≤ maxLen) (hcb : ∀ b c, (∃ x y z, vb = .agg #[x, y, z, .slice b fb.state.length c]) → c ≤ maxLen) (hea : fa.ed ≤ 9223372036854775807) (heb : fb.ed ≤ 9223372036854775807)
  (hoa : ∀ o ∈ fa.objs, o.ok ∧ rightsOk o ∧ ∀ x ∈ o.slots, I64 x.v) (hob : ∀ o ∈ fb.objs, o.ok ∧ rightsOk o ∧ ∀ x ∈ o.slots, I64 x.v) :
  Calls Tryz.prog 8 #[.agg #[.int .i64 N], va, vb, .agg #[.int .i64 ar, vk, .int .i64 torn, .int .i64 bytes, .int .i64 s, .int .i64 fr, .int .u32 t]] w fun e w' => e = .returned (.bool true) ∧ Below w.heap.size w w' := by
 obtain ⟨VA, rfl, hiA⟩ := frame_fit ha
 obtain ⟨VB, rfl, hiB⟩ := frame_fit hb
 obtain ⟨hkl, ak, ck, rfl, hkc, hkj⟩ := hk
 have HKB := Lib.hid (show ∀ W, Below w.heap.size w W → BoolsIn W W.heap.size (.slice ak keep.length ck) keep from fun W h => (show BoolsIn W w.heap.size _ keep from BoolsIn.below ⟨hkl, ak, ck, rfl, hkc, hkj⟩ h (Nat.le_refl _)).mono h.size)
 have HFA := Lib.hid (show ∀ W, Below w.heap.size w W → FrameIn W W.heap.size (.agg VA) fa from fun W h => (ha.below h (Nat.le_refl _)).mono h.size)
 have HFB := Lib.hid (show ∀ W, Below w.heap.size w W → FrameIn W W.heap.size (.agg VB) fb from fun W h => (hb.below h (Nat.le_refl _)).mono h.size)
 have HCA := Lib.hid hca
 have HCB := Lib.hid hcb
 have HOA := Lib.hid hoa
 have HOB := Lib.hid hob
 have HIA := Lib.hid hiA
 have HIB := Lib.hid hiB
 obtain ⟨W0, eW0⟩ : ∃ W, W = (((w.alloc (.cells #[.int .i64 N] 23)).alloc (.cells VA 28)).alloc (.cells VB 28)).alloc (.cells #[.int .i64 ar, .slice ak keep.length ck, .int .i64 torn, .int .i64 bytes, .int .i64 s, .int .i64 fr, .int .u32 t] 83) := ⟨_, rfl⟩
 have hw0 : Below w.heap.size w W0 := by rw [eW0]; exact ((((Below.refl _ w).alloc (Nat.le_refl _) _).alloc (by simp) _).alloc (by simp; omega) _).alloc (by simp; omega) _
 have I0 := Lib.hid (show WhI w N VA VB ar (.slice ak keep.length ck) torn bytes s fr t W0 from ⟨hw0, by rw [eW0]; exact (((Blk.new w _ _).alloc _).alloc _).alloc _, by rw [eW0]; exact ((Blk.new2 w _ _ _).alloc _).alloc _, by rw [eW0]; exact (Blk.new' (by simp)).alloc _, by rw [eW0]; exact Blk.new' (by simp), by rw [eW0]; simp⟩)
 have c00 := I0.out.k0.cell_is 0 rfl
 have c30 := I0.out.k3.cell_is 0 rfl
 have c31 := I0.out.k3.cell_is 1 rfl
 have c33 := I0.out.k3.cell_is 3 rfl
 have hkl2 : keep.length ≤ maxLen := hkl
 clear ha hb hkj hkc hca hcb hoa hob hiA hiB hw0 hkl
 unfold ptr at *
 by_cases h1 : N < 1
 case pos =>
  go_enter Tryz.func8, Tryz.ntmps8
  go_upto_region 1 with fail
  rw [← eW0]
  clear eW0

  go_wp2_with fail
  refine (works_any _).mono ?_; rintro e wz ⟨rfl, hbz⟩
  go_wp2_with fail
  go_ret
  exact ⟨rfl, (I0.out.next hbz).below⟩
 by_cases h2 : 13 < N
 case pos =>
  go_enter Tryz.func8, Tryz.ntmps8
  go_upto_region 1 with fail
  rw [← eW0]
  clear eW0

  go_wp2_with fail
  refine (works_any _).mono ?_; rintro e wz ⟨rfl, hbz⟩
  go_wp2_with fail
  go_ret
  exact ⟨rfl, (I0.out.next hbz).below⟩
 cases qa : fewB fa
 case false =>
  go_enter Tryz.func8, Tryz.ntmps8
  go_upto_region 1 with fail
  rw [← eW0]
  clear eW0

  have l1 := load_frame _ _ _ I0.out.k1 HIA.out
  go_wp2_with (refine wpList_load_midG rfl 28 _ rfl (w.heap.size + 1) 0 rfl VA l1 ?_)
  refine (few_any fa _ _ _ (HFA.out _ I0.out.below)).mono ?_; rintro e w1 ⟨rfl, hb1⟩
  rw [qa]
  have I1 := Lib.hid (I0.out.next hb1)
  clear hb1 l1

  go_wp2_with fail
  refine (works_any _).mono ?_; rintro e wz ⟨rfl, hbz⟩
  go_wp2_with fail
  go_ret
  exact ⟨rfl, (I1.out.next hbz).below⟩
 cases qb : fewB fb
 case false =>
  go_enter Tryz.func8, Tryz.ntmps8
  go_upto_region 1 with fail
  rw [← eW0]
  clear eW0

  have l1 := load_frame _ _ _ I0.out.k1 HIA.out
  go_wp2_with (refine wpList_load_midG rfl 28 _ rfl (w.heap.size + 1) 0 rfl VA l1 ?_)
  refine (few_any fa _ _ _ (HFA.out _ I0.out.below)).mono ?_; rintro e w1 ⟨rfl, hb1⟩
  rw [qa]
  have I1 := Lib.hid (I0.out.next hb1)
  clear hb1 l1

  have l2 := load_frame _ _ _ I1.out.k2 HIB.out
  go_wp2_with (refine wpList_load_midG rfl 28 _ rfl (w.heap.size + 2) 0 rfl VB l2 ?_)
  refine (few_any fb _ _ _ (HFB.out _ I1.out.below)).mono ?_; rintro e w2 ⟨rfl, hb2⟩
  rw [qb]
  have I2 := Lib.hid (I1.out.next hb2)
  clear hb2 l2 c00 c30 c31 c33
  have c00 := I2.out.k0.cell_is 0 rfl
  have c30 := I2.out.k3.cell_is 0 rfl
  have c31 := I2.out.k3.cell_is 1 rfl
  have c33 := I2.out.k3.cell_is 3 rfl

  go_wp2_with fail
  refine (works_any _).mono ?_; rintro e wz ⟨rfl, hbz⟩
  go_wp2_with fail
  go_ret
  exact ⟨rfl, (I2.out.next hbz).below⟩
 have hkI : ∀ n : Nat, ((keep.length : Int) ≤ n ↔ keep.length ≤ n) := fun n => Int.ofNat_le
 by_cases h3 : ar < 0
 case pos =>
  go_enter Tryz.func8, Tryz.ntmps8
  go_upto_region 1 with fail
  rw [← eW0]
  clear eW0

  have l1 := load_frame _ _ _ I0.out.k1 HIA.out
  go_wp2_with (refine wpList_load_midG rfl 28 _ rfl (w.heap.size + 1) 0 rfl VA l1 ?_)
  refine (few_any fa _ _ _ (HFA.out _ I0.out.below)).mono ?_; rintro e w1 ⟨rfl, hb1⟩
  rw [qa]
  have I1 := Lib.hid (I0.out.next hb1)
  clear hb1 l1

  have l2 := load_frame _ _ _ I1.out.k2 HIB.out
  go_wp2_with (refine wpList_load_midG rfl 28 _ rfl (w.heap.size + 2) 0 rfl VB l2 ?_)
  refine (few_any fb _ _ _ (HFB.out _ I1.out.below)).mono ?_; rintro e w2 ⟨rfl, hb2⟩
  rw [qb]
  have I2 := Lib.hid (I1.out.next hb2)
  clear hb2 l2 c00 c30 c31 c33
  have c00 := I2.out.k0.cell_is 0 rfl
  have c30 := I2.out.k3.cell_is 0 rfl
  have c31 := I2.out.k3.cell_is 1 rfl
  have c33 := I2.out.k3.cell_is 3 rfl

  go_wp2_with fail
  refine (works_any _).mono ?_; rintro e wz ⟨rfl, hbz⟩
  go_wp2_with fail
  go_ret
  exact ⟨rfl, (I2.out.next hbz).below⟩
 by_cases h4 : 1 < ar
 case pos =>
  go_enter Tryz.func8, Tryz.ntmps8
  go_upto_region 1 with fail
  rw [← eW0]
  clear eW0

  have l1 := load_frame _ _ _ I0.out.k1 HIA.out
  go_wp2_with (refine wpList_load_midG rfl 28 _ rfl (w.heap.size + 1) 0 rfl VA l1 ?_)
  refine (few_any fa _ _ _ (HFA.out _ I0.out.below)).mono ?_; rintro e w1 ⟨rfl, hb1⟩
  rw [qa]
  have I1 := Lib.hid (I0.out.next hb1)
  clear hb1 l1

  have l2 := load_frame _ _ _ I1.out.k2 HIB.out
  go_wp2_with (refine wpList_load_midG rfl 28 _ rfl (w.heap.size + 2) 0 rfl VB l2 ?_)
  refine (few_any fb _ _ _ (HFB.out _ I1.out.below)).mono ?_; rintro e w2 ⟨rfl, hb2⟩
  rw [qb]
  have I2 := Lib.hid (I1.out.next hb2)
  clear hb2 l2 c00 c30 c31 c33
  have c00 := I2.out.k0.cell_is 0 rfl
  have c30 := I2.out.k3.cell_is 0 rfl
  have c31 := I2.out.k3.cell_is 1 rfl
  have c33 := I2.out.k3.cell_is 3 rfl

  go_wp2_with fail
  refine (works_any _).mono ?_; rintro e wz ⟨rfl, hbz⟩
  go_wp2_with fail
  go_ret
  exact ⟨rfl, (I2.out.next hbz).below⟩
 by_cases h5 : (300 : Int) < (keep.length : Int)
 case pos =>
  have h5n : 300 < keep.length := by omega
  go_enter Tryz.func8, Tryz.ntmps8
  go_upto_region 1 with fail
  rw [← eW0]
  clear eW0

  have l1 := load_frame _ _ _ I0.out.k1 HIA.out
  go_wp2_with (refine wpList_load_midG rfl 28 _ rfl (w.heap.size + 1) 0 rfl VA l1 ?_)
  refine (few_any fa _ _ _ (HFA.out _ I0.out.below)).mono ?_; rintro e w1 ⟨rfl, hb1⟩
  rw [qa]
  have I1 := Lib.hid (I0.out.next hb1)
  clear hb1 l1

  have l2 := load_frame _ _ _ I1.out.k2 HIB.out
  go_wp2_with (refine wpList_load_midG rfl 28 _ rfl (w.heap.size + 2) 0 rfl VB l2 ?_)
  refine (few_any fb _ _ _ (HFB.out _ I1.out.below)).mono ?_; rintro e w2 ⟨rfl, hb2⟩
  rw [qb]
  have I2 := Lib.hid (I1.out.next hb2)
  clear hb2 l2 c00 c30 c31 c33
  have c00 := I2.out.k0.cell_is 0 rfl
  have c30 := I2.out.k3.cell_is 0 rfl
  have c31 := I2.out.k3.cell_is 1 rfl
  have c33 := I2.out.k3.cell_is 3 rfl

  go_wp2_with fail
  refine (works_any _).mono ?_; rintro e wz ⟨rfl, hbz⟩
  go_wp2_with fail
  go_ret
  exact ⟨rfl, (I2.out.next hbz).below⟩
 have h5n : ¬ 300 < keep.length := by omega
 by_cases h6 : bytes < 0
 case pos =>
  go_enter Tryz.func8, Tryz.ntmps8
  go_upto_region 1 with fail
  rw [← eW0]
  clear eW0

  have l1 := load_frame _ _ _ I0.out.k1 HIA.out
  go_wp2_with (refine wpList_load_midG rfl 28 _ rfl (w.heap.size + 1) 0 rfl VA l1 ?_)
  refine (few_any fa _ _ _ (HFA.out _ I0.out.below)).mono ?_; rintro e w1 ⟨rfl, hb1⟩
  rw [qa]
  have I1 := Lib.hid (I0.out.next hb1)
  clear hb1 l1

  have l2 := load_frame _ _ _ I1.out.k2 HIB.out
  go_wp2_with (refine wpList_load_midG rfl 28 _ rfl (w.heap.size + 2) 0 rfl VB l2 ?_)
  refine (few_any fb _ _ _ (HFB.out _ I1.out.below)).mono ?_; rintro e w2 ⟨rfl, hb2⟩
  rw [qb]
  have I2 := Lib.hid (I1.out.next hb2)
  clear hb2 l2 c00 c30 c31 c33
  have c00 := I2.out.k0.cell_is 0 rfl
  have c30 := I2.out.k3.cell_is 0 rfl
  have c31 := I2.out.k3.cell_is 1 rfl
  have c33 := I2.out.k3.cell_is 3 rfl

  go_wp2_with fail
  refine (works_any _).mono ?_; rintro e wz ⟨rfl, hbz⟩
  go_wp2_with fail
  go_ret
  exact ⟨rfl, (I2.out.next hbz).below⟩
 by_cases h7 : 512 < bytes
 case pos =>
  go_enter Tryz.func8, Tryz.ntmps8
  go_upto_region 1 with fail
  rw [← eW0]
  clear eW0

  have l1 := load_frame _ _ _ I0.out.k1 HIA.out
  go_wp2_with (refine wpList_load_midG rfl 28 _ rfl (w.heap.size + 1) 0 rfl VA l1 ?_)
  refine (few_any fa _ _ _ (HFA.out _ I0.out.below)).mono ?_; rintro e w1 ⟨rfl, hb1⟩
  rw [qa]
  have I1 := Lib.hid (I0.out.next hb1)
  clear hb1 l1

  have l2 := load_frame _ _ _ I1.out.k2 HIB.out
  go_wp2_with (refine wpList_load_midG rfl 28 _ rfl (w.heap.size + 2) 0 rfl VB l2 ?_)
  refine (few_any fb _ _ _ (HFB.out _ I1.out.below)).mono ?_; rintro e w2 ⟨rfl, hb2⟩
  rw [qb]
  have I2 := Lib.hid (I1.out.next hb2)
  clear hb2 l2 c00 c30 c31 c33
  have c00 := I2.out.k0.cell_is 0 rfl
  have c30 := I2.out.k3.cell_is 0 rfl
  have c31 := I2.out.k3.cell_is 1 rfl
  have c33 := I2.out.k3.cell_is 3 rfl

  go_wp2_with fail
  refine (works_any _).mono ?_; rintro e wz ⟨rfl, hbz⟩
  go_wp2_with fail
  go_ret
  exact ⟨rfl, (I2.out.next hbz).below⟩

 obtain ⟨n, rfl⟩ : ∃ n : Nat, N = n := ⟨N.toNat, by omega⟩
 obtain ⟨a, rfl⟩ : ∃ a : Nat, ar = a := ⟨ar.toNat, by omega⟩
 obtain ⟨o, hoI⟩ : ∃ o : Nat, IntKind.i64.wrap (1 - (a : Int)) = o := ⟨1 - a, by rw [IntKind.wrap_i64]; omega⟩
 have hao : (a = 0 ∧ o = 1) ∨ (a = 1 ∧ o = 0) := by rw [IntKind.wrap_i64] at hoI; omega
 have hn : 1 ≤ n ∧ n ≤ 13 := by omega
 have hw3 : IntKind.i64.wrap (3 * (n : Int)) = 3 * n := by rw [IntKind.wrap_i64]; omega
 have hw20 : IntKind.i64.wrap (20 + 3 * (n : Int)) = 20 + 3 * n := by rw [IntKind.wrap_i64]; omega
 have HNW := Lib.hid (fun W => dnew_yes (20 + 3 * (n : Int)) W (by omega) (by omega))
 unfold ptr at HNW

 go_enter Tryz.func8, Tryz.ntmps8
 go_upto_region 1 with fail
 rw [← eW0]
 clear eW0

 have l1 := load_frame _ _ _ I0.out.k1 HIA.out
 go_wp2_with (refine wpList_load_midG rfl 28 _ rfl (w.heap.size + 1) 0 rfl VA l1 ?_)
 refine (few_any fa _ _ _ (HFA.out _ I0.out.below)).mono ?_; rintro e w1 ⟨rfl, hb1⟩
 rw [qa]
 have I1 := Lib.hid (I0.out.next hb1)
 clear hb1 l1

 have l2 := load_frame _ _ _ I1.out.k2 HIB.out
 go_wp2_with (refine wpList_load_midG rfl 28 _ rfl (w.heap.size + 2) 0 rfl VB l2 ?_)
 refine (few_any fb _ _ _ (HFB.out _ I1.out.below)).mono ?_; rintro e w2 ⟨rfl, hb2⟩
 rw [qb]
 have I2 := Lib.hid (I1.out.next hb2)
 clear hb2 l2 c00 c30 c31 c33
 have c00 := I2.out.k0.cell_is 0 rfl
 have c30 := I2.out.k3.cell_is 0 rfl
 have c31 := I2.out.k3.cell_is 1 rfl
 have c33 := I2.out.k3.cell_is 3 rfl

 go_upto_region 3 with fail
 go_wp2_with fail
 refine (HNW.out _).mono ?_; rintro e w3 ⟨rfl, hd3, hb3⟩
 have I3 := Lib.hid (I2.out.next hb3)
 obtain ⟨D, eD⟩ : ∃ D, D = newAt w2.heap.size := ⟨_, rfl⟩
 have hDl : ∀ i, D.has i → w2.heap.size ≤ i := by
  rw [eD]
  rintro i (rfl | rfl | h | h)
  ·exact Nat.le_succ _
  ·exact Nat.le_refl _
  ·cases h
  ·cases h
 rw [← eD] at hd3 ⊢
 have HD3 := Lib.hid hd3
 have HL3 := Lib.hid (show ∀ i, D.has i → w.heap.size + 4 ≤ i from fun i hi => by have := hDl i hi; have := I2.out.lo; omega)
 clear hd3 hb3 hDl eD c00 c30 c31 c33 HNW
 go_wp2_with fail
 refine (num_any 0 _).mono ?_; rintro e wn ⟨rfl, rfl⟩
 have c00 := I3.out.k0.cell_is 0 rfl
 have l1 := load_frame _ _ _ I3.out.k1 HIA.out
 go_wp2_with (refine wpList_load_midG rfl 28 _ rfl (w.heap.size + 1) 0 rfl VA l1 ?_)
 refine (lcheck_any (n : Int) fa _ _ (HFA.out _ I3.out.below)).mono ?_; rintro e w4 ⟨rfl, hb4⟩
 have I4 := Lib.hid (I3.out.next hb4)
 have HD4 := Lib.hid (HD3.out.below hb4)
 clear hb4 l1 c00
 cases ga : frameB (n : Int) fa
 case false =>
  rw [show errB false = 2 from rfl]
  go_wp2_with fail
  refine (num_any 2 _).mono ?_; rintro e wn ⟨rfl, rfl⟩
  go_wp2_with fail
  refine (num_any 0 _).mono ?_; rintro e wn ⟨rfl, rfl⟩
  go_wp2_with fail
  refine (works_any _).mono ?_; rintro e wz ⟨rfl, hbz⟩
  go_wp2_with fail
  go_ret
  exact ⟨rfl, (I4.out.next hbz).below⟩
 rw [show errB true = 0 from rfl]
 go_wp2_with fail
 refine (num_any 0 _).mono ?_; rintro e wn ⟨rfl, rfl⟩
 have c00 := I4.out.k0.cell_is 0 rfl
 have l2 := load_frame _ _ _ I4.out.k2 HIB.out
 go_wp2_with (refine wpList_load_midG rfl 28 _ rfl (w.heap.size + 2) 0 rfl VB l2 ?_)
 refine (lcheck_any (n : Int) fb _ _ (HFB.out _ I4.out.below)).mono ?_; rintro e w5 ⟨rfl, hb5⟩
 have I5 := Lib.hid (I4.out.next hb5)
 have HD5 := Lib.hid (HD4.out.below hb5)
 clear hb5 l2 c00
 cases gb : frameB (n : Int) fb
 case false =>
  rw [show errB false = 2 from rfl]
  go_wp2_with fail
  refine (num_any 2 _).mono ?_; rintro e wn ⟨rfl, rfl⟩
  go_wp2_with fail
  refine (num_any 0 _).mono ?_; rintro e wn ⟨rfl, rfl⟩
  go_wp2_with fail
  refine (works_any _).mono ?_; rintro e wz ⟨rfl, hbz⟩
  go_wp2_with fail
  go_ret
  exact ⟨rfl, (I5.out.next hbz).below⟩
 rw [show errB true = 0 from rfl]
 obtain ⟨x1, x2, x3, x4, xc, xd, z, z1, z2, zs, zt, q, hG⟩ := whGo n a o hn hao fa fb ga gb hea heb (back_all ga (fun o ho => (HOA.out o ho).2.2) (fun o ho => ⟨(HOA.out o ho).1, (HOA.out o ho).2.1⟩)) (back_all gb (fun o ho => (HOB.out o ho).2.2) (fun o ho => ⟨(HOB.out o ho).1, (HOB.out o ho).2.1⟩)) keep torn bytes s fr t (by omega) (by omega)
 have HG := Lib.hid hG
 unfold ptr at HG
 clear hG
 go_wp2_with fail
 refine (num_any 0 _).mono ?_; rintro e wn ⟨rfl, rfl⟩
 have c30 := I5.out.k3.cell_is 0 rfl
 have c00 := I5.out.k0.cell_is 0 rfl
 have l1 := load_frame _ _ _ I5.out.k1 HIA.out
 go_wp2_with (refine wpList_load_midG rfl 28 _ rfl (w.heap.size + 1) 0 rfl VA l1 ?_)
 refine (HG.out.w1 D (.agg VA) w5 HD5.out (HFA.out _ I5.out.below) HCA.out).mono ?_; rintro e w6 ⟨rfl, D6, hd, hs⟩
 have HL5 := HL3
 have HP5 := Lib.hid (show D.p = D.p from rfl)
 have I6 := Lib.hid (I5.out.out hs.out HL5.out)
 have HL6 := Lib.hid (show ∀ k, D6.has k → w.heap.size + 4 ≤ k from fun k hk => (hs.new_ k hk).elim (HL5.out k) (fun h => by have := I5.out.lo; omega))
 have HD6 := Lib.hid hd
 have HP6 := Lib.hid (show D6.p = D.p from hs.same.trans HP5.out)
 clear hd hs l1 c00 c30
 go_wp2_with fail
 have hc := HG.out.f1 D6 w6 HD6.out
 rw [HP6.out] at hc
 unfold ptr at hc
 refine hc.mono ?_; rintro e w7 ⟨rfl, D7, hd, hs⟩
 have I7 := Lib.hid (I6.out.out hs.out HL6.out)
 have HL7 := Lib.hid (show ∀ k, D7.has k → w.heap.size + 4 ≤ k from fun k hk => (hs.new_ k hk).elim (HL6.out k) (fun h => by have := I6.out.lo; omega))
 have HD7 := Lib.hid hd
 have HP7 := Lib.hid (show D7.p = D.p from hs.same.trans HP6.out)
 clear hd hs hc
 have c30 := I7.out.k3.cell_is 0 rfl
 have c00 := I7.out.k0.cell_is 0 rfl
 have l2 := load_frame _ _ _ I7.out.k2 HIB.out
 go_wp2_with (refine wpList_load_midG rfl 28 _ rfl (w.heap.size + 2) 0 rfl VB l2 ?_)
 have hc := HG.out.w2 D7 (.agg VB) w7 HD7.out (HFB.out _ I7.out.below) HCB.out
 rw [HP7.out] at hc
 unfold ptr at hc
 refine hc.mono ?_; rintro e w8 ⟨rfl, D8, hd, hs⟩
 have I8 := Lib.hid (I7.out.out hs.out HL7.out)
 have HL8 := Lib.hid (show ∀ k, D8.has k → w.heap.size + 4 ≤ k from fun k hk => (hs.new_ k hk).elim (HL7.out k) (fun h => by have := I7.out.lo; omega))
 have HD8 := Lib.hid hd
 have HP8 := Lib.hid (show D8.p = D.p from hs.same.trans HP7.out)
 clear hd hs hc l2 c00 c30
 have c30 := I8.out.k3.cell_is 0 rfl
 have c00 := I8.out.k0.cell_is 0 rfl
 go_wp2_with fail
 have hc := HG.out.r3 D8 w8 HD8.out
 rw [HP8.out] at hc
 unfold ptr at hc
 refine hc.mono ?_; rintro e w9 ⟨v, rfl, hv, hd, hs⟩
 have I9 := Lib.hid (I8.out.out hs.out HL8.out)
 have HL9 := Lib.hid (show ∀ k, D8.has k → w.heap.size + 4 ≤ k from fun k hk => (hs.new_ k hk).elim (HL8.out k) (fun h => by have := I8.out.lo; omega))
 have HD9 := Lib.hid hd
 have HP9 := Lib.hid (show D8.p = D.p from hs.same.trans HP8.out)
 have HLT8 := Lib.hid (show ∀ k, D8.has k → k < w8.heap.size from HD8.out.has_lt)
 have HZ9 := Lib.hid hs.out.size
 clear hd hs hc c00 c30
 obtain ⟨VY, rfl, hiY⟩ := frame_fit hv.in_
 have hY4 := frame_size hiY
 have oY := frame_one hv.in_
 have HY4 := Lib.hid hY4
 have HIY := Lib.hid hiY
 have HOY := Lib.hid oY
 have HV9 := Lib.hid hv
 clear hv hiY hY4 oY
 go_upto_region 10 with (refine wpList_store_row rfl 28 _ _ rfl w9.heap.size VY rfl rfl 28 _ (heap_alloc_new w9 _) HIY.out (by rw [HY4.out]; rfl) HOY.out ?_; rw [World.setRow_alloc_new])
 obtain ⟨gy, egy⟩ : ∃ k, k = w9.heap.size := ⟨_, rfl⟩
 obtain ⟨W10, eW10⟩ : ∃ W, W = w9.alloc (.cells VY 28) := ⟨_, rfl⟩
 have hb : Below w9.heap.size w9 W10 := by rw [eW10]; exact (Below.refl _ _).alloc (Nat.le_refl _) _
 have KY := Lib.hid (show Blk W10 gy 28 VY by rw [eW10, egy]; exact Blk.new _ _ _)
 have FY := Lib.hid (show FrameIn W10 W10.heap.size (.agg VY) fb from (HV9.out.move (F := fun _ => False) (outB hb) (fun _ _ _ h => h)).in_)
 have I10 := Lib.hid (I9.out.next hb)
 have HD10 := Lib.hid (HD9.out.below hb)
 have HGY := Lib.hid (show w8.heap.size ≤ gy ∧ gy < W10.heap.size ∧ w.heap.size + 4 ≤ gy from ⟨by have := HZ9.out; omega, KY.out.lt, by have := I9.out.lo; omega⟩)
 rw [← eW10, ← egy]
 clear eW10 egy hb HV9 I9 HD9 I8 HD8
 have lc := Lib.hid (load_crash I10.out.k3)
 go_wp2_with (refine wpList_load_midG rfl 81 _ rfl (w.heap.size + 3) 1 rfl #[.slice ak keep.length ck, .int .i64 torn, .int .i64 bytes] lc.out ?_)
 have hc := HG.out.c1 D8 (.slice ak keep.length ck) W10 HD10.out (HKB.out _ I10.out.below)
 rw [HP8.out] at hc
 unfold ptr at hc
 refine hc.mono ?_; rintro e w11 ⟨D11, rfl, hd, hn11, hb⟩
 have I11 := Lib.hid (I10.out.next hb)
 have HD11 := Lib.hid hd
 have HN11 := Lib.hid hn11
 have HB11 := Lib.hid hb
 clear hd hn11 hb hc lc
 have c30 := I11.out.k3.cell_is 0 rfl
 have c00 := I11.out.k0.cell_is 0 rfl
 go_wp2_with fail
 have hc := HG.out.rc D11 w11 HD11.out
 unfold ptr at hc
 refine hc.mono ?_; rintro e w12 ⟨v, rfl, hv, hs⟩
 have HB12 := Lib.hid (HB11.out.trans (hs.out.below HB11.out.size (fun k hk hf => by have := HN11.out k hf; omega)))
 have I12 := Lib.hid (I10.out.next HB12.out)
 have HD12 := Lib.hid (HD10.out.below HB12.out)
 have HZ12 := Lib.hid hs.out.size
 clear hs hc c00 c30 I11 HD11 HD10
 obtain ⟨VX, rfl, hiX⟩ := frame_fit hv.in_
 have hX4 := frame_size hiX
 have oX := frame_one hv.in_
 have HX4 := Lib.hid hX4
 have HIX := Lib.hid hiX
 have HOX := Lib.hid oX
 have HV12 := Lib.hid hv
 clear hv hiX hX4 oX
 go_upto_region 12 with (refine wpList_store_row rfl 28 _ _ rfl w12.heap.size VX rfl rfl 28 _ (heap_alloc_new w12 _) HIX.out (by rw [HX4.out]; rfl) HOX.out ?_; rw [World.setRow_alloc_new])
 obtain ⟨gx, egx⟩ : ∃ k, k = w12.heap.size := ⟨_, rfl⟩
 obtain ⟨W13, eW13⟩ : ∃ W, W = w12.alloc (.cells VX 28) := ⟨_, rfl⟩
 have hb : Below w12.heap.size w12 W13 := by rw [eW13]; exact (Below.refl _ _).alloc (Nat.le_refl _) _
 have KX := Lib.hid (show Blk W13 gx 28 VX by rw [eW13, egx]; exact Blk.new _ _ _)
 have FX := Lib.hid (show FrameIn W13 W13.heap.size (.agg VX) fa from (HV12.out.move (F := fun _ => False) (outB hb) (fun _ _ _ h => h)).in_)
 have HB13 := Lib.hid (HB12.out.trans (hb.mono HB12.out.size))
 have KY13 := Lib.hid (KY.out.below HB13.out KY.out.lt)
 have FY13 := Lib.hid ((FY.out.below HB13.out (Nat.le_refl _)).mono HB13.out.size)
 have I13 := Lib.hid (I12.out.next hb)
 have HD13 := Lib.hid (HD12.out.below hb)
 have HGX := Lib.hid (show W10.heap.size ≤ gx ∧ gx < W13.heap.size from ⟨by have := HB12.out.size; omega, KX.out.lt⟩)
 rw [← eW13, ← egx]
 clear eW13 egx hb HV12 I12 HD12 KY FY I10
 go_wp2_with fail
 refine (num_any 0 _).mono ?_; rintro e wn ⟨rfl, rfl⟩
 go_wp2_with fail
 refine (num_any 0 _).mono ?_; rintro e wn ⟨rfl, rfl⟩
 go_wp2_with fail
 refine (num_any 0 _).mono ?_; rintro e wn ⟨rfl, rfl⟩
 go_wp2_with fail
 refine (num_any 0 _).mono ?_; rintro e wn ⟨rfl, rfl⟩
 go_wp2_with fail
 refine (num_any 0 _).mono ?_; rintro e wn ⟨rfl, rfl⟩
 go_wp2_with fail
 refine (num_any 0 _).mono ?_; rintro e wn ⟨rfl, rfl⟩
 have l1 := load_frame _ _ _ KX.out HIX.out
 have l2 := load_frame _ _ _ I13.out.k1 HIA.out
 go_wp2_with (first
  | (refine wpList_load_midG rfl 28 _ rfl gx 0 rfl VX l1 ?_)
  | (refine wpList_load_midG rfl 28 _ rfl (w.heap.size + 1) 0 rfl VA l2 ?_))
 refine (lsame_any fa fa _ _ _ FX.out (HFA.out _ I13.out.below)).mono ?_; rintro e w14 ⟨rfl, hb⟩
 rw [same_self]
 have KX14 := Lib.hid (KX.out.below hb KX.out.lt)
 have KY14 := Lib.hid (KY13.out.below hb KY13.out.lt)
 have FY14 := Lib.hid ((FY13.out.below hb (Nat.le_refl _)).mono hb.size)
 have HZ14 := Lib.hid hb.size
 have I14 := Lib.hid (I13.out.next hb)
 have HD14 := Lib.hid (HD13.out.below hb)
 clear hb l1 l2 I13 HD13
 have l1 := load_frame _ _ _ KY14.out HIY.out
 have l2 := load_frame _ _ _ I14.out.k2 HIB.out
 go_wp2_with (first
  | (refine wpList_load_midG rfl 28 _ rfl gy 0 rfl VY l1 ?_)
  | (refine wpList_load_midG rfl 28 _ rfl (w.heap.size + 2) 0 rfl VB l2 ?_))
 refine (lsame_any fb fb _ _ _ FY14.out (HFB.out _ I14.out.below)).mono ?_; rintro e w15 ⟨rfl, hb⟩
 rw [same_self]
 have KX15 := Lib.hid (KX14.out.below hb KX14.out.lt)
 have KY15 := Lib.hid (KY14.out.below hb KY14.out.lt)
 have HZ15 := Lib.hid hb.size
 have I15 := Lib.hid (I14.out.next hb)
 have HD15 := Lib.hid (HD14.out.below hb)
 clear hb l1 l2 I14 HD14
 go_wp2_with fail
 have hc := HG.out.f2 D8 w15 HD15.out
 rw [HP8.out] at hc
 unfold ptr at hc
 refine hc.mono ?_; rintro e w16 ⟨rfl, D16, hd, hs⟩
 have hy : ¬ D8.has gy := fun hf => by have := HLT8.out gy hf; have := HGY.out; omega
 have hx : ¬ D8.has gx := fun hf => by have := HLT8.out gx hf; have := HGX.out; have := HGY.out; omega
 have I16 := Lib.hid (I15.out.out hs.out HL8.out)
 have HD16 := Lib.hid hd
 have HP16 := Lib.hid (show D16.p = D.p from hs.same.trans HP8.out)
 have KX16 := Lib.hid (hs.out.blk KX15.out hx)
 have KY16 := Lib.hid (hs.out.blk KY15.out hy)
 clear hd hs hc hy hx I15 HD15 KX15 KY15 KX14 KY14 KX KY13
 have lc := Lib.hid (load_crash I16.out.k3)
 go_wp2_with (refine wpList_load_midG rfl 81 _ rfl (w.heap.size + 3) 1 rfl #[.slice ak keep.length ck, .int .i64 torn, .int .i64 bytes] lc.out ?_)
 have hc := HG.out.c2 D16 (.slice ak keep.length ck) w16 HD16.out (HKB.out _ I16.out.below)
 rw [HP16.out] at hc
 unfold ptr at hc
 refine hc.mono ?_; rintro e w17 ⟨Z, rfl, hd, hn17, hb⟩
 have I17 := Lib.hid (I16.out.next hb)
 have HD17 := Lib.hid hd
 have HLZ := Lib.hid (show ∀ k, Z.has k → gy < k ∧ gx < k ∧ w.heap.size + 4 ≤ k ∧ k < w17.heap.size from fun k hk => by have h1 := hn17 k hk; have h2 := KX16.out.lt; have h3 := KY16.out.lt; have h4 := I16.out.lo; have h5 := hd.has_lt k hk; omega)
 have KX17 := Lib.hid (KX16.out.below hb KX16.out.lt)
 have KY17 := Lib.hid (KY16.out.below hb KY16.out.lt)
 clear hd hn17 hb hc lc I16 HD16 KX16 KY16
 have c30 := I17.out.k3.cell_is 0 rfl
 have c00 := I17.out.k0.cell_is 0 rfl
 have hoX : (VX.size = 4) := HX4.out
 have HOX4 := Lib.hid hoX
 clear hoX
 go_wp2_with fail
 have hc := HG.out.rz Z w17 HD17.out
 unfold ptr at hc
 refine hc.mono ?_; rintro e w18 ⟨v, rfl, hv, hd, hs⟩
 have I18 := Lib.hid (I17.out.out hs.out (fun k hk => (HLZ.out k hk).2.2.1))
 have HD18 := Lib.hid hd
 have HZ18 := Lib.hid hs.out.size
 have KX18 := Lib.hid (hs.out.blk KX17.out (fun hf => by have := HLZ.out gx hf; omega))
 have KY18 := Lib.hid (hs.out.blk KY17.out (fun hf => by have := HLZ.out gy hf; omega))
 clear hd hs hc c30 c00 I17 HD17
 obtain ⟨VY2, rfl, hi2⟩ := frame_fit hv.in_
 have hz4 := frame_size hi2
 have o2 := frame_one hv.in_
 have HY24 := Lib.hid hz4
 have HIY2 := Lib.hid hi2
 have HOY2 := Lib.hid o2
 have HV18 := Lib.hid hv
 clear hv hi2 hz4 o2
 go_upto_region 17 with (refine wpList_store_row rfl 28 _ _ rfl gy VY2 rfl rfl 28 _ KY18.out HIY2.out (by rw [HY24.out, HY4.out]) HOY2.out ?_)
 obtain ⟨W19, eW19⟩ : ∃ W, W = w18.setRow gy VY2 := ⟨_, rfl⟩
 have ho : Out (fun k => k = gy) w18 W19 := by rw [eW19]; exact out_row _ rfl
 have hgy17 : gy < w17.heap.size := KY17.out.lt
 have hgx17 : gx < w17.heap.size := KX17.out.lt
 have hgne : gx ≠ gy := by have := HGX.out; have := HGY.out; omega
 have KY19 := Lib.hid (show Blk W19 gy 28 VY2 by rw [eW19]; exact KY18.out.row _)
 have KX19 := Lib.hid (ho.blk KX18.out hgne)
 have I19 := Lib.hid (I18.out.out ho (fun k hk => by have := HGY.out; omega))
 have HD19 := Lib.hid (HD18.out.out ho (fun k hk hf => by have := HLZ.out k hk; omega))
 have FY19 := Lib.hid (HV18.out.move ho (fun k h1 h2 hf => by omega))
 have HS19 := Lib.hid (show w17.heap.size ≤ W19.heap.size by have := I19.out.lo; have h1 := ho.size; have h2 := HZ18.out; omega)
 rw [← eW19]
 clear eW19 ho I18 HD18 KX17 KY17 KX18 KY18 HV18
 have c30 := I19.out.k3.cell_is 0 rfl
 have c00 := I19.out.k0.cell_is 0 rfl
 go_wp2_with fail
 have hc := HG.out.ro Z W19 HD19.out
 unfold ptr at hc
 refine hc.mono ?_; rintro e w20 ⟨v, rfl, hv, hd, hs⟩
 have I20 := Lib.hid (I19.out.out hs.out (fun k hk => (HLZ.out k hk).2.2.1))
 have HD20 := Lib.hid hd
 have KX20 := Lib.hid (hs.out.blk KX19.out (fun hf => by have := HLZ.out gx hf; omega))
 have KY20 := Lib.hid (hs.out.blk KY19.out (fun hf => by have := HLZ.out gy hf; omega))
 have FY20 := Lib.hid (FY19.out.move hs.out (fun k h1 h2 hf => by have := HLZ.out k hf; omega))
 clear hd hs hc c30 c00 I19 HD19 KX19 KY19 FY19
 obtain ⟨VX2, rfl, hi2⟩ := frame_fit hv.in_
 have hz4 := frame_size hi2
 have o2 := frame_one hv.in_
 have HX24 := Lib.hid hz4
 have HIX2 := Lib.hid hi2
 have HOX2 := Lib.hid o2
 have HV20 := Lib.hid hv
 clear hv hi2 hz4 o2
 go_upto_region 18 with (refine wpList_store_row rfl 28 _ _ rfl gx VX2 rfl rfl 28 _ KX20.out HIX2.out (by rw [HX24.out, HX4.out]) HOX2.out ?_)
 obtain ⟨W21, eW21⟩ : ∃ W, W = w20.setRow gx VX2 := ⟨_, rfl⟩
 have ho : Out (fun k => k = gx) w20 W21 := by rw [eW21]; exact out_row _ rfl
 have KX21 := Lib.hid (show Blk W21 gx 28 VX2 by rw [eW21]; exact KX20.out.row _)
 have KY21 := Lib.hid (ho.blk KY20.out (fun e => hgne e.symm))
 have I21 := Lib.hid (I20.out.out ho (fun k hk => by have := HGX.out; have := HGY.out; omega))
 have HD21 := Lib.hid (HD20.out.out ho (fun k hk hf => by have := HLZ.out k hk; omega))
 have FY21 := Lib.hid (show FrameIn W21 W21.heap.size (.agg VY2) fb from (FY20.out.move ho (fun k h1 h2 hf => by omega)).in_)
 have FX21 := Lib.hid (show FrameIn W21 W21.heap.size (.agg VX2) fa from (HV20.out.move ho (fun k h1 h2 hf => by have := HS19.out; omega)).in_)
 rw [← eW21]
 clear eW21 ho I20 HD20 KX20 KY20 HV20 FY20
 go_wp2_with fail
 refine (num_any 0 _).mono ?_; rintro e wn ⟨rfl, rfl⟩
 go_wp2_with fail
 refine (num_any 0 _).mono ?_; rintro e wn ⟨rfl, rfl⟩
 go_wp2_with fail
 refine (num_any 0 _).mono ?_; rintro e wn ⟨rfl, rfl⟩
 go_wp2_with fail
 refine (num_any 0 _).mono ?_; rintro e wn ⟨rfl, rfl⟩
 have l1 := load_frame _ _ _ KY21.out HIY2.out
 have l2 := load_frame _ _ _ I21.out.k2 HIB.out
 go_wp2_with (first
  | (refine wpList_load_midG rfl 28 _ rfl gy 0 rfl VY2 l1 ?_)
  | (refine wpList_load_midG rfl 28 _ rfl (w.heap.size + 2) 0 rfl VB l2 ?_))
 refine (lsame_any fb fb _ _ _ FY21.out (HFB.out _ I21.out.below)).mono ?_; rintro e w22 ⟨rfl, hb⟩
 rw [same_self]
 have KX22 := Lib.hid (KX21.out.below hb KX21.out.lt)
 have KY22 := Lib.hid (KY21.out.below hb KY21.out.lt)
 have FX22 := Lib.hid ((FX21.out.below hb (Nat.le_refl _)).mono hb.size)
 have I22 := Lib.hid (I21.out.next hb)
 have HD22 := Lib.hid (HD21.out.below hb)
 clear hb l1 l2 I21 HD21
 have l1 := load_frame _ _ _ KX22.out HIX2.out
 have l2 := load_frame _ _ _ I22.out.k1 HIA.out
 go_wp2_with (first
  | (refine wpList_load_midG rfl 28 _ rfl gx 0 rfl VX2 l1 ?_)
  | (refine wpList_load_midG rfl 28 _ rfl (w.heap.size + 1) 0 rfl VA l2 ?_))
 refine (lsame_any fa fa _ _ _ FX22.out (HFA.out _ I22.out.below)).mono ?_; rintro e w23 ⟨rfl, hb⟩
 rw [same_self]
 have KY23 := Lib.hid (KY22.out.below hb KY22.out.lt)
 have I23 := Lib.hid (I22.out.next hb)
 have HD23 := Lib.hid (HD22.out.below hb)
 clear hb l1 l2 I22 HD22
 clear KX21 KX22 KY21 KY22 FX21 FX22 FY21
 go_wp2_with fail
 have hc := dbytes_any Z z2 w23 HD23.out HG.out.ok2
 unfold ptr at hc
 refine hc.mono ?_; rintro e w24 ⟨u, rfl, hO, hb⟩
 have hu := BytesIn.own hO
 have hs1 := run_str w24 hu
 have I24 := Lib.hid (I23.out.next hb)
 have HD24 := Lib.hid (HD23.out.below hb)
 have KY24 := Lib.hid (KY23.out.below hb KY23.out.lt)
 have HLR := Lib.hid hu.1
 obtain ⟨LZ, eLZ⟩ : ∃ l, l = readsL z2 := ⟨_, rfl⟩
 rw [← eLZ] at hs1 hu HLR
 have HLZ2 := Lib.hid eLZ
 clear hc hO hb I23 HD23 KY23 hu eLZ
 go_upto_region 21 with fail
 clear hs1
 have lb := Lib.hid (load_bits I24.out.k3)
 obtain ⟨vs, WS, hcv, hbS, hbb, hown, hszS⟩ := bytes_of_str w24 LZ HLR.out
 have HBS := Lib.hid hbS
 obtain ⟨_, aS, cS, rfl, _, _⟩ := hbS
 have HOWN := Lib.hid hown
 have IS := Lib.hid (I24.out.next hbb)
 have HDS := Lib.hid (HD24.out.below hbb)
 have KYS := Lib.hid (KY24.out.below hbb KY24.out.lt)
 have HSS := Lib.hid hszS
 have HZ24 := Lib.hid (HD24.out.has_lt)
 clear hbb hown hszS
 go_wp2_with (first
  | (refine wpList_load_midG rfl 72 _ rfl (w.heap.size + 3) 4 rfl #[.int .i64 s, .int .i64 fr, .int .u32 t] lb.out ?_)
  | (refine wpList_build_L rfl 40 _ rfl #[.slice aS LZ.length cS, .slice none 0 0, .int .i64 0, .slice none 0 0] (by kernel_rfl) ?_))
 obtain ⟨y, ey⟩ : ∃ y : DiskD, y = { size := z2.size, lasts := z2.lasts, waits := [], steps := 0, fails := [] } := ⟨_, rfl⟩
 have hyo : y.ok := by
  have h := HG.out.ok2
  rw [ey]
  exact ⟨h.1, h.2.1, h.2.2.1, (fun q hq => by cases hq), Int.le_refl _, (by show (0 : Int) ≤ _; omega), Nat.zero_le _⟩
 have hyw : y.waits = [] := by rw [ey]
 have hfl : flatL y = LZ := by
  rw [HLZ2.out, ey]
  unfold flatL readsL
  congr 1
  funext k
  exact (reads_nil HG.out.wt2 _).symm
 have hyR : RDisk WS WS.heap.size (.slice aS LZ.length cS) (.slice none 0 0) (.slice none 0 0) y := ⟨by rw [hfl]; exact HBS.out, by rw [hyw]; exact waits_no _ _, by rw [ey]; exact IntsIn.nil _ _⟩
 have hc := lbits_any s fr t Z z2 y _ _ _ WS HDS.out HG.out.ok2 hyR hyo (by rw [ey]) (fun k hk => ⟨fun hf => by have h1 := HOWN.out k hk; have h2 := HZ24.out k hf; omega, by have h1 := HOWN.out k hk; have := HSS.out; omega⟩) (fun k hk => by cases hk) (fun k hk => by cases hk) (fun k _ => rspl_none (bitsT_facts hyo hyw s fr t k).1)
 rw [show y.steps = 0 by rw [ey]] at hc
 unfold ptr at hc
 refine hc.mono ?_; rintro e w25 ⟨lv2, wv2, rfl, -, hd, hs⟩
 rw [← HG.out.bz] at hd
 have I25 := Lib.hid (IS.out.out hs.out (fun k hk => (HLZ.out k hk).2.2.1))
 have HD25 := Lib.hid hd
 have KY25 := Lib.hid (hs.out.blk KYS.out (fun hf => by have := HLZ.out gy hf; omega))
 clear hc hd hs hyR hfl hyw hyo ey IS HDS KYS I24 HD24 KY24 hcv lb HBS HOWN HSS
 go_upto_region 22 with fail
 have c00 := I25.out.k0.cell_is 0 rfl
 have c34 := I25.out.k3.cell_is 4 rfl
 go_wp2_with fail
 refine (rspot_any n s w25 ⟨hn.1, by omega⟩).mono ?_; rintro e w26 ⟨rfl, hb⟩
 have hst := spotR_t n s
 have hWB : wantedB n a fb s = ((spotR n s).2 == 0 && ((spotR n s).1.a == (a : Int) && ((spotR n s).1.k == 2 || ((spotR n s).1.k == 4 && decide ((spotR n s).1.t < (fb.oids.length : Int)) || (spotR n s).1.k == 3 && decide (512 * (spotR n s).1.t < (fb.state.length : Int)))))) := rfl
 generalize spotR n s = sp at *
 obtain ⟨⟨sk, sa, st⟩, no⟩ := sp
 dsimp only at hst hWB
 have HWB := Lib.hid hWB
 have I26 := Lib.hid (I25.out.next hb)
 have HD26 := Lib.hid (HD25.out.below hb)
 have KY26 := Lib.hid (KY25.out.below hb KY25.out.lt)
 clear hb hWB c00 c34 I25 HD25 KY25
 go_upto_region 23 with (refine wpList_store_row rfl 88 _ _ rfl w26.heap.size (⟨sk, sa, st⟩ : Spot3).cells.toArray rfl rfl 88 _ (heap_alloc_new w26 _) (spot_fit ⟨sk, sa, st⟩) rfl (spot_all ⟨sk, sa, st⟩) ?_; rw [World.setRow_alloc_new])
 obtain ⟨gs, egs⟩ : ∃ k, k = w26.heap.size := ⟨_, rfl⟩
 obtain ⟨W27, eW27⟩ : ∃ W, W = w26.alloc (.cells (⟨sk, sa, st⟩ : Spot3).cells.toArray 88) := ⟨_, rfl⟩
 have hb : Below w26.heap.size w26 W27 := by rw [eW27]; exact (Below.refl _ _).alloc (Nat.le_refl _) _
 have KS := Lib.hid (show Blk W27 gs 88 #[.int .i64 sk, .int .i64 sa, .int .i64 st] by rw [eW27, egs]; exact Blk.new _ _ _)
 have I27 := Lib.hid (I26.out.next hb)
 have HD27 := Lib.hid (HD26.out.below hb)
 have KY27 := Lib.hid (KY26.out.below hb KY26.out.lt)
 rw [← eW27, ← egs]
 clear eW27 egs hb I26 HD26 KY26
 obtain ⟨vo2, vb2, vs2, eVB0, ⟨_, a1, q1, rfl, _⟩, -, ⟨_, a3, q3, rfl, _⟩⟩ := HFB.out _ I27.out.below
 have eVB : VB = #[.int .i64 fb.ed, .slice a1 fb.oids.length q1, vb2, .slice a3 fb.state.length q3] := by injection eVB0
 clear eVB0
 have kB := I27.out.k2
 rw [eVB] at kB
 have cb1 := kB.cell_is 1 rfl
 have cb3 := kB.cell_is 3 rfl
 have cs0 := KS.out.cell_is 0 rfl
 have cs1 := KS.out.cell_is 1 rfl
 have cs2 := KS.out.cell_is 2 rfl
 have c30 := I27.out.k3.cell_is 0 rfl
 have hwst : IntKind.i64.wrap (512 * st) = 512 * st := by rw [IntKind.wrap_i64]; omega
 clear kB eVB
 have c00 := I27.out.k0.cell_is 0 rfl
 cases e0 : (no == 0)
 ·have HW := Lib.hid (show wantedB n a fb s = false by rw [HWB.out, e0]; rfl)
  have hq : q = 0 := HG.out.good (.inl HW.out)
  subst hq
  go_upto_region 24 with fail
  clear cb1 cb3 cs0 cs1 cs2
  go_wp2_with fail
  have hc := HG.out.rs Z W27 HD27.out
  unfold ptr at hc
  refine hc.mono ?_; rintro e w28 ⟨v, rfl, hv, hd, hs⟩
  rw [if_pos rfl] at hv
  have I28 := Lib.hid (I27.out.out hs.out (fun k hk => (HLZ.out k hk).2.2.1))
  have HD28 := Lib.hid hd
  have KY28 := Lib.hid (hs.out.blk KY27.out (fun hf => by have := HLZ.out gy hf; omega))
  have HG27 := Lib.hid KY27.out.lt
  clear hd hs hc c30 c00
  obtain ⟨VZ, rfl, hi2⟩ := frame_fit hv.in_
  have hz4 := frame_size hi2
  have o2 := frame_one hv.in_
  have HZ4 := Lib.hid hz4
  have HIZ := Lib.hid hi2
  have HOZ := Lib.hid o2
  have HV28 := Lib.hid hv
  clear hv hi2 hz4 o2
  go_upto_region 25 with (refine wpList_store_row rfl 28 _ _ rfl gy VZ rfl rfl 28 _ KY28.out HIZ.out (by rw [HZ4.out, HY24.out]) HOZ.out ?_)
  obtain ⟨W29, eW29⟩ : ∃ W, W = w28.setRow gy VZ := ⟨_, rfl⟩
  have ho : Out (fun k => k = gy) w28 W29 := by rw [eW29]; exact out_row _ rfl
  have KY29 := Lib.hid (show Blk W29 gy 28 VZ by rw [eW29]; exact KY28.out.row _)
  have I29 := Lib.hid (I28.out.out ho (fun k hk => by have := HGY.out; omega))
  have HD29 := Lib.hid (HD28.out.out ho (fun k hk hf => by have := HLZ.out k hk; omega))
  have FZ29 := Lib.hid (show FrameIn W29 W29.heap.size (.agg VZ) fb from (HV28.out.move ho (fun k h1 h2 hf => by have := HG27.out; omega)).in_)
  rw [← eW29]
  clear eW29 ho I28 HD28 KY28 HV28 I27 HD27 KY27
  go_wp2_with fail
  refine (num_any 0 _).mono ?_; rintro e wn ⟨rfl, rfl⟩
  have l1 := load_frame _ _ _ KY29.out HIZ.out
  have l2 := load_frame _ _ _ I29.out.k2 HIB.out
  go_wp2_with (first
   | (refine wpList_load_midG rfl 28 _ rfl gy 0 rfl VZ l1 ?_)
   | (refine wpList_load_midG rfl 28 _ rfl (w.heap.size + 2) 0 rfl VB l2 ?_))
  refine (lsame_any fb fb _ _ _ FZ29.out (HFB.out _ I29.out.below)).mono ?_; rintro e w31 ⟨rfl, hb⟩
  rw [same_self]
  have I31 := Lib.hid (I29.out.next hb)
  clear hb l1 l2
  go_wp2_with fail
  refine (works_any _).mono ?_; rintro e wz ⟨rfl, hbz⟩
  go_wp2_with fail
  go_ret
  exact ⟨rfl, (I31.out.next hbz).below⟩
 cases e1 : (sa == (a : Int))
 ·have HW := Lib.hid (show wantedB n a fb s = false by rw [HWB.out, e0, e1]; rfl)
  have hq : q = 0 := HG.out.good (.inl HW.out)
  subst hq
  go_upto_region 24 with fail
  clear cb1 cb3 cs0 cs1 cs2
  go_wp2_with fail
  have hc := HG.out.rs Z W27 HD27.out
  unfold ptr at hc
  refine hc.mono ?_; rintro e w28 ⟨v, rfl, hv, hd, hs⟩
  rw [if_pos rfl] at hv
  have I28 := Lib.hid (I27.out.out hs.out (fun k hk => (HLZ.out k hk).2.2.1))
  have HD28 := Lib.hid hd
  have KY28 := Lib.hid (hs.out.blk KY27.out (fun hf => by have := HLZ.out gy hf; omega))
  have HG27 := Lib.hid KY27.out.lt
  clear hd hs hc c30 c00
  obtain ⟨VZ, rfl, hi2⟩ := frame_fit hv.in_
  have hz4 := frame_size hi2
  have o2 := frame_one hv.in_
  have HZ4 := Lib.hid hz4
  have HIZ := Lib.hid hi2
  have HOZ := Lib.hid o2
  have HV28 := Lib.hid hv
  clear hv hi2 hz4 o2
  go_upto_region 25 with (refine wpList_store_row rfl 28 _ _ rfl gy VZ rfl rfl 28 _ KY28.out HIZ.out (by rw [HZ4.out, HY24.out]) HOZ.out ?_)
  obtain ⟨W29, eW29⟩ : ∃ W, W = w28.setRow gy VZ := ⟨_, rfl⟩
  have ho : Out (fun k => k = gy) w28 W29 := by rw [eW29]; exact out_row _ rfl
  have KY29 := Lib.hid (show Blk W29 gy 28 VZ by rw [eW29]; exact KY28.out.row _)
  have I29 := Lib.hid (I28.out.out ho (fun k hk => by have := HGY.out; omega))
  have HD29 := Lib.hid (HD28.out.out ho (fun k hk hf => by have := HLZ.out k hk; omega))
  have FZ29 := Lib.hid (show FrameIn W29 W29.heap.size (.agg VZ) fb from (HV28.out.move ho (fun k h1 h2 hf => by have := HG27.out; omega)).in_)
  rw [← eW29]
  clear eW29 ho I28 HD28 KY28 HV28 I27 HD27 KY27
  go_wp2_with fail
  refine (num_any 0 _).mono ?_; rintro e wn ⟨rfl, rfl⟩
  have l1 := load_frame _ _ _ KY29.out HIZ.out
  have l2 := load_frame _ _ _ I29.out.k2 HIB.out
  go_wp2_with (first
   | (refine wpList_load_midG rfl 28 _ rfl gy 0 rfl VZ l1 ?_)
   | (refine wpList_load_midG rfl 28 _ rfl (w.heap.size + 2) 0 rfl VB l2 ?_))
  refine (lsame_any fb fb _ _ _ FZ29.out (HFB.out _ I29.out.below)).mono ?_; rintro e w31 ⟨rfl, hb⟩
  rw [same_self]
  have I31 := Lib.hid (I29.out.next hb)
  clear hb l1 l2
  go_wp2_with fail
  refine (works_any _).mono ?_; rintro e wz ⟨rfl, hbz⟩
  go_wp2_with fail
  go_ret
  exact ⟨rfl, (I31.out.next hbz).below⟩
 cases e2 : (sk == 2)
 case true =>
  have HW := Lib.hid (show wantedB n a fb s = true by rw [HWB.out, e0, e1, e2]; rfl)
  obtain ⟨LS, eLS⟩ : ∃ l, l = readsL zs := ⟨_, rfl⟩
  have HLS := Lib.hid eLS
  clear eLS
  by_cases hbe : LZ = LS
  case pos =>
   have hq : q = 0 := HG.out.good (.inr (by rw [← HLS.out, ← HLZ2.out]; exact hbe.symm))
   subst hbe
   subst hq
   go_upto_region 24 with fail
   clear cb1 cb3 cs0 cs1 cs2
   go_wp2_with fail
   have hc := HG.out.rs Z W27 HD27.out
   unfold ptr at hc
   refine hc.mono ?_; rintro e w28 ⟨v, rfl, hv, hd, hs⟩
   rw [if_pos rfl] at hv
   have I28 := Lib.hid (I27.out.out hs.out (fun k hk => (HLZ.out k hk).2.2.1))
   have HD28 := Lib.hid hd
   have KY28 := Lib.hid (hs.out.blk KY27.out (fun hf => by have := HLZ.out gy hf; omega))
   have HG27 := Lib.hid KY27.out.lt
   clear hd hs hc c30 c00
   obtain ⟨VZ, rfl, hi2⟩ := frame_fit hv.in_
   have hz4 := frame_size hi2
   have o2 := frame_one hv.in_
   have HZ4 := Lib.hid hz4
   have HIZ := Lib.hid hi2
   have HOZ := Lib.hid o2
   have HV28 := Lib.hid hv
   clear hv hi2 hz4 o2
   go_upto_region 25 with (refine wpList_store_row rfl 28 _ _ rfl gy VZ rfl rfl 28 _ KY28.out HIZ.out (by rw [HZ4.out, HY24.out]) HOZ.out ?_)
   obtain ⟨W29, eW29⟩ : ∃ W, W = w28.setRow gy VZ := ⟨_, rfl⟩
   have ho : Out (fun k => k = gy) w28 W29 := by rw [eW29]; exact out_row _ rfl
   have KY29 := Lib.hid (show Blk W29 gy 28 VZ by rw [eW29]; exact KY28.out.row _)
   have I29 := Lib.hid (I28.out.out ho (fun k hk => by have := HGY.out; omega))
   have HD29 := Lib.hid (HD28.out.out ho (fun k hk hf => by have := HLZ.out k hk; omega))
   have FZ29 := Lib.hid (show FrameIn W29 W29.heap.size (.agg VZ) fb from (HV28.out.move ho (fun k h1 h2 hf => by have := HG27.out; omega)).in_)
   rw [← eW29]
   clear eW29 ho I28 HD28 KY28 HV28 I27 HD27 KY27
   go_wp2_with fail
   have hc := dbytes_any Z zt W29 HD29.out HG.out.okt
   unfold ptr at hc
   refine hc.mono ?_; rintro e w30 ⟨u, rfl, hO, hb⟩
   have hu := BytesIn.own hO
   have hs2 := run_str w30 hu
   rw [HG.out.eqt, ← HLS.out] at hs2
   have I30 := Lib.hid (I29.out.next hb)
   have KY30 := Lib.hid (KY29.out.below hb KY29.out.lt)
   have FZ30 := Lib.hid ((FZ29.out.below hb (Nat.le_refl _)).mono hb.size)
   clear hc hO hu hb
   go_wp2_with fail
   refine (num_any 0 _).mono ?_; rintro e wn ⟨rfl, rfl⟩
   have l1 := load_frame _ _ _ KY30.out HIZ.out
   have l2 := load_frame _ _ _ I30.out.k2 HIB.out
   go_wp2_with (first
    | (refine wpList_load_midG rfl 28 _ rfl gy 0 rfl VZ l1 ?_)
    | (refine wpList_load_midG rfl 28 _ rfl (w.heap.size + 2) 0 rfl VB l2 ?_))
   refine (lsame_any fb fb _ _ _ FZ30.out (HFB.out _ I30.out.below)).mono ?_; rintro e w31 ⟨rfl, hb⟩
   rw [same_self]
   have I31 := Lib.hid (I30.out.next hb)
   clear hb l1 l2
   go_wp2_with fail
   refine (works_any _).mono ?_; rintro e wz ⟨rfl, hbz⟩
   go_wp2_with fail
   go_ret
   exact ⟨rfl, (I31.out.next hbz).below⟩
  case neg =>
   have hq : q = 170 := HG.out.bad HW.out (fun e => by rw [← HLS.out, ← HLZ2.out] at e; exact hbe e.symm)
   have hbs : ((bStr LZ).toList == (bStr LS).toList) = false := by rw [bStr_list, bStr_list]; simpa using hbe
   clear hbe
   subst hq
   go_upto_region 24 with fail
   clear cb1 cb3 cs0 cs1 cs2
   go_wp2_with fail
   have hc := HG.out.rs Z W27 HD27.out
   unfold ptr at hc
   refine hc.mono ?_; rintro e w28 ⟨v, rfl, hv, hd, hs⟩
   rw [if_neg (by decide)] at hv
   subst hv
   have I28 := Lib.hid (I27.out.out hs.out (fun k hk => (HLZ.out k hk).2.2.1))
   have HD28 := Lib.hid hd
   have KY28 := Lib.hid (hs.out.blk KY27.out (fun hf => by have := HLZ.out gy hf; omega))
   have HG27 := Lib.hid KY27.out.lt
   clear hd hs hc c30 c00
   go_upto_region 25 with (refine wpList_store_row rfl 28 _ _ rfl gy zeroF rfl rfl 28 _ KY28.out (by kernel_rfl) (by rw [HY24.out]; rfl) (by kernel_rfl) ?_)
   obtain ⟨W29, eW29⟩ : ∃ W, W = w28.setRow gy zeroF := ⟨_, rfl⟩
   have ho : Out (fun k => k = gy) w28 W29 := by rw [eW29]; exact out_row _ rfl
   have KY29 := Lib.hid (show Blk W29 gy 28 zeroF by rw [eW29]; exact KY28.out.row _)
   have I29 := Lib.hid (I28.out.out ho (fun k hk => by have := HGY.out; omega))
   have HD29 := Lib.hid (HD28.out.out ho (fun k hk hf => by have := HLZ.out k hk; omega))
   rw [← eW29]
   clear eW29 ho I28 HD28 KY28 I27 HD27 KY27
   go_wp2_with fail
   have hc := dbytes_any Z zt W29 HD29.out HG.out.okt
   unfold ptr at hc
   refine hc.mono ?_; rintro e w30 ⟨u, rfl, hO, hb⟩
   have hu := BytesIn.own hO
   have hs2 := run_str w30 hu
   rw [HG.out.eqt, ← HLS.out] at hs2
   have I30 := Lib.hid (I29.out.next hb)
   clear hc hO hu hb
   go_wp2_with fail
   refine (num_any 170 _).mono ?_; rintro e wn ⟨rfl, rfl⟩
   go_wp2_with fail
   refine (works_any _).mono ?_; rintro e wz ⟨rfl, hbz⟩
   go_wp2_with fail
   go_ret
   exact ⟨rfl, (I30.out.next hbz).below⟩
 cases e4 : (sk == 4)
 case true =>
  have e3 : (sk == 3) = false := by
   have : sk = 4 := by simpa using e4
   rw [this]; rfl
  cases e5 : decide (st < (fb.oids.length : Int))
  ·have HW := Lib.hid (show wantedB n a fb s = false by rw [HWB.out, e0, e1, e2, e4, e5, e3]; rfl)
   have hq : q = 0 := HG.out.good (.inl HW.out)
   subst hq
   go_upto_region 24 with fail
   clear cb1 cb3 cs0 cs1 cs2
   go_wp2_with fail
   have hc := HG.out.rs Z W27 HD27.out
   unfold ptr at hc
   refine hc.mono ?_; rintro e w28 ⟨v, rfl, hv, hd, hs⟩
   rw [if_pos rfl] at hv
   have I28 := Lib.hid (I27.out.out hs.out (fun k hk => (HLZ.out k hk).2.2.1))
   have HD28 := Lib.hid hd
   have KY28 := Lib.hid (hs.out.blk KY27.out (fun hf => by have := HLZ.out gy hf; omega))
   have HG27 := Lib.hid KY27.out.lt
   clear hd hs hc c30 c00
   obtain ⟨VZ, rfl, hi2⟩ := frame_fit hv.in_
   have hz4 := frame_size hi2
   have o2 := frame_one hv.in_
   have HZ4 := Lib.hid hz4
   have HIZ := Lib.hid hi2
   have HOZ := Lib.hid o2
   have HV28 := Lib.hid hv
   clear hv hi2 hz4 o2
   go_upto_region 25 with (refine wpList_store_row rfl 28 _ _ rfl gy VZ rfl rfl 28 _ KY28.out HIZ.out (by rw [HZ4.out, HY24.out]) HOZ.out ?_)
   obtain ⟨W29, eW29⟩ : ∃ W, W = w28.setRow gy VZ := ⟨_, rfl⟩
   have ho : Out (fun k => k = gy) w28 W29 := by rw [eW29]; exact out_row _ rfl
   have KY29 := Lib.hid (show Blk W29 gy 28 VZ by rw [eW29]; exact KY28.out.row _)
   have I29 := Lib.hid (I28.out.out ho (fun k hk => by have := HGY.out; omega))
   have HD29 := Lib.hid (HD28.out.out ho (fun k hk hf => by have := HLZ.out k hk; omega))
   have FZ29 := Lib.hid (show FrameIn W29 W29.heap.size (.agg VZ) fb from (HV28.out.move ho (fun k h1 h2 hf => by have := HG27.out; omega)).in_)
   rw [← eW29]
   clear eW29 ho I28 HD28 KY28 HV28 I27 HD27 KY27
   go_wp2_with fail
   refine (num_any 0 _).mono ?_; rintro e wn ⟨rfl, rfl⟩
   have l1 := load_frame _ _ _ KY29.out HIZ.out
   have l2 := load_frame _ _ _ I29.out.k2 HIB.out
   go_wp2_with (first
    | (refine wpList_load_midG rfl 28 _ rfl gy 0 rfl VZ l1 ?_)
    | (refine wpList_load_midG rfl 28 _ rfl (w.heap.size + 2) 0 rfl VB l2 ?_))
   refine (lsame_any fb fb _ _ _ FZ29.out (HFB.out _ I29.out.below)).mono ?_; rintro e w31 ⟨rfl, hb⟩
   rw [same_self]
   have I31 := Lib.hid (I29.out.next hb)
   clear hb l1 l2
   go_wp2_with fail
   refine (works_any _).mono ?_; rintro e wz ⟨rfl, hbz⟩
   go_wp2_with fail
   go_ret
   exact ⟨rfl, (I31.out.next hbz).below⟩
  ·have HW := Lib.hid (show wantedB n a fb s = true by rw [HWB.out, e0, e1, e2, e4, e5]; rfl)
   obtain ⟨LS, eLS⟩ : ∃ l, l = readsL zs := ⟨_, rfl⟩
   have HLS := Lib.hid eLS
   clear eLS
   by_cases hbe : LZ = LS
   case pos =>
    have hq : q = 0 := HG.out.good (.inr (by rw [← HLS.out, ← HLZ2.out]; exact hbe.symm))
    subst hbe
    subst hq
    go_upto_region 24 with fail
    clear cb1 cb3 cs0 cs1 cs2
    go_wp2_with fail
    have hc := HG.out.rs Z W27 HD27.out
    unfold ptr at hc
    refine hc.mono ?_; rintro e w28 ⟨v, rfl, hv, hd, hs⟩
    rw [if_pos rfl] at hv
    have I28 := Lib.hid (I27.out.out hs.out (fun k hk => (HLZ.out k hk).2.2.1))
    have HD28 := Lib.hid hd
    have KY28 := Lib.hid (hs.out.blk KY27.out (fun hf => by have := HLZ.out gy hf; omega))
    have HG27 := Lib.hid KY27.out.lt
    clear hd hs hc c30 c00
    obtain ⟨VZ, rfl, hi2⟩ := frame_fit hv.in_
    have hz4 := frame_size hi2
    have o2 := frame_one hv.in_
    have HZ4 := Lib.hid hz4
    have HIZ := Lib.hid hi2
    have HOZ := Lib.hid o2
    have HV28 := Lib.hid hv
    clear hv hi2 hz4 o2
    go_upto_region 25 with (refine wpList_store_row rfl 28 _ _ rfl gy VZ rfl rfl 28 _ KY28.out HIZ.out (by rw [HZ4.out, HY24.out]) HOZ.out ?_)
    obtain ⟨W29, eW29⟩ : ∃ W, W = w28.setRow gy VZ := ⟨_, rfl⟩
    have ho : Out (fun k => k = gy) w28 W29 := by rw [eW29]; exact out_row _ rfl
    have KY29 := Lib.hid (show Blk W29 gy 28 VZ by rw [eW29]; exact KY28.out.row _)
    have I29 := Lib.hid (I28.out.out ho (fun k hk => by have := HGY.out; omega))
    have HD29 := Lib.hid (HD28.out.out ho (fun k hk hf => by have := HLZ.out k hk; omega))
    have FZ29 := Lib.hid (show FrameIn W29 W29.heap.size (.agg VZ) fb from (HV28.out.move ho (fun k h1 h2 hf => by have := HG27.out; omega)).in_)
    rw [← eW29]
    clear eW29 ho I28 HD28 KY28 HV28 I27 HD27 KY27
    go_wp2_with fail
    have hc := dbytes_any Z zt W29 HD29.out HG.out.okt
    unfold ptr at hc
    refine hc.mono ?_; rintro e w30 ⟨u, rfl, hO, hb⟩
    have hu := BytesIn.own hO
    have hs2 := run_str w30 hu
    rw [HG.out.eqt, ← HLS.out] at hs2
    have I30 := Lib.hid (I29.out.next hb)
    have KY30 := Lib.hid (KY29.out.below hb KY29.out.lt)
    have FZ30 := Lib.hid ((FZ29.out.below hb (Nat.le_refl _)).mono hb.size)
    clear hc hO hu hb
    go_wp2_with fail
    refine (num_any 0 _).mono ?_; rintro e wn ⟨rfl, rfl⟩
    have l1 := load_frame _ _ _ KY30.out HIZ.out
    have l2 := load_frame _ _ _ I30.out.k2 HIB.out
    go_wp2_with (first
     | (refine wpList_load_midG rfl 28 _ rfl gy 0 rfl VZ l1 ?_)
     | (refine wpList_load_midG rfl 28 _ rfl (w.heap.size + 2) 0 rfl VB l2 ?_))
    refine (lsame_any fb fb _ _ _ FZ30.out (HFB.out _ I30.out.below)).mono ?_; rintro e w31 ⟨rfl, hb⟩
    rw [same_self]
    have I31 := Lib.hid (I30.out.next hb)
    clear hb l1 l2
    go_wp2_with fail
    refine (works_any _).mono ?_; rintro e wz ⟨rfl, hbz⟩
    go_wp2_with fail
    go_ret
    exact ⟨rfl, (I31.out.next hbz).below⟩
   case neg =>
    have hq : q = 170 := HG.out.bad HW.out (fun e => by rw [← HLS.out, ← HLZ2.out] at e; exact hbe e.symm)
    have hbs : ((bStr LZ).toList == (bStr LS).toList) = false := by rw [bStr_list, bStr_list]; simpa using hbe
    clear hbe
    subst hq
    go_upto_region 24 with fail
    clear cb1 cb3 cs0 cs1 cs2
    go_wp2_with fail
    have hc := HG.out.rs Z W27 HD27.out
    unfold ptr at hc
    refine hc.mono ?_; rintro e w28 ⟨v, rfl, hv, hd, hs⟩
    rw [if_neg (by decide)] at hv
    subst hv
    have I28 := Lib.hid (I27.out.out hs.out (fun k hk => (HLZ.out k hk).2.2.1))
    have HD28 := Lib.hid hd
    have KY28 := Lib.hid (hs.out.blk KY27.out (fun hf => by have := HLZ.out gy hf; omega))
    have HG27 := Lib.hid KY27.out.lt
    clear hd hs hc c30 c00
    go_upto_region 25 with (refine wpList_store_row rfl 28 _ _ rfl gy zeroF rfl rfl 28 _ KY28.out (by kernel_rfl) (by rw [HY24.out]; rfl) (by kernel_rfl) ?_)
    obtain ⟨W29, eW29⟩ : ∃ W, W = w28.setRow gy zeroF := ⟨_, rfl⟩
    have ho : Out (fun k => k = gy) w28 W29 := by rw [eW29]; exact out_row _ rfl
    have KY29 := Lib.hid (show Blk W29 gy 28 zeroF by rw [eW29]; exact KY28.out.row _)
    have I29 := Lib.hid (I28.out.out ho (fun k hk => by have := HGY.out; omega))
    have HD29 := Lib.hid (HD28.out.out ho (fun k hk hf => by have := HLZ.out k hk; omega))
    rw [← eW29]
    clear eW29 ho I28 HD28 KY28 I27 HD27 KY27
    go_wp2_with fail
    have hc := dbytes_any Z zt W29 HD29.out HG.out.okt
    unfold ptr at hc
    refine hc.mono ?_; rintro e w30 ⟨u, rfl, hO, hb⟩
    have hu := BytesIn.own hO
    have hs2 := run_str w30 hu
    rw [HG.out.eqt, ← HLS.out] at hs2
    have I30 := Lib.hid (I29.out.next hb)
    clear hc hO hu hb
    go_wp2_with fail
    refine (num_any 170 _).mono ?_; rintro e wn ⟨rfl, rfl⟩
    go_wp2_with fail
    refine (works_any _).mono ?_; rintro e wz ⟨rfl, hbz⟩
    go_wp2_with fail
    go_ret
    exact ⟨rfl, (I30.out.next hbz).below⟩
 cases e3 : (sk == 3)
 ·have HW := Lib.hid (show wantedB n a fb s = false by rw [HWB.out, e0, e1, e2, e4, e3]; rfl)
  have hq : q = 0 := HG.out.good (.inl HW.out)
  subst hq
  go_upto_region 24 with fail
  clear cb1 cb3 cs0 cs1 cs2
  go_wp2_with fail
  have hc := HG.out.rs Z W27 HD27.out
  unfold ptr at hc
  refine hc.mono ?_; rintro e w28 ⟨v, rfl, hv, hd, hs⟩
  rw [if_pos rfl] at hv
  have I28 := Lib.hid (I27.out.out hs.out (fun k hk => (HLZ.out k hk).2.2.1))
  have HD28 := Lib.hid hd
  have KY28 := Lib.hid (hs.out.blk KY27.out (fun hf => by have := HLZ.out gy hf; omega))
  have HG27 := Lib.hid KY27.out.lt
  clear hd hs hc c30 c00
  obtain ⟨VZ, rfl, hi2⟩ := frame_fit hv.in_
  have hz4 := frame_size hi2
  have o2 := frame_one hv.in_
  have HZ4 := Lib.hid hz4
  have HIZ := Lib.hid hi2
  have HOZ := Lib.hid o2
  have HV28 := Lib.hid hv
  clear hv hi2 hz4 o2
  go_upto_region 25 with (refine wpList_store_row rfl 28 _ _ rfl gy VZ rfl rfl 28 _ KY28.out HIZ.out (by rw [HZ4.out, HY24.out]) HOZ.out ?_)
  obtain ⟨W29, eW29⟩ : ∃ W, W = w28.setRow gy VZ := ⟨_, rfl⟩
  have ho : Out (fun k => k = gy) w28 W29 := by rw [eW29]; exact out_row _ rfl
  have KY29 := Lib.hid (show Blk W29 gy 28 VZ by rw [eW29]; exact KY28.out.row _)
  have I29 := Lib.hid (I28.out.out ho (fun k hk => by have := HGY.out; omega))
  have HD29 := Lib.hid (HD28.out.out ho (fun k hk hf => by have := HLZ.out k hk; omega))
  have FZ29 := Lib.hid (show FrameIn W29 W29.heap.size (.agg VZ) fb from (HV28.out.move ho (fun k h1 h2 hf => by have := HG27.out; omega)).in_)
  rw [← eW29]
  clear eW29 ho I28 HD28 KY28 HV28 I27 HD27 KY27
  go_wp2_with fail
  refine (num_any 0 _).mono ?_; rintro e wn ⟨rfl, rfl⟩
  have l1 := load_frame _ _ _ KY29.out HIZ.out
  have l2 := load_frame _ _ _ I29.out.k2 HIB.out
  go_wp2_with (first
   | (refine wpList_load_midG rfl 28 _ rfl gy 0 rfl VZ l1 ?_)
   | (refine wpList_load_midG rfl 28 _ rfl (w.heap.size + 2) 0 rfl VB l2 ?_))
  refine (lsame_any fb fb _ _ _ FZ29.out (HFB.out _ I29.out.below)).mono ?_; rintro e w31 ⟨rfl, hb⟩
  rw [same_self]
  have I31 := Lib.hid (I29.out.next hb)
  clear hb l1 l2
  go_wp2_with fail
  refine (works_any _).mono ?_; rintro e wz ⟨rfl, hbz⟩
  go_wp2_with fail
  go_ret
  exact ⟨rfl, (I31.out.next hbz).below⟩
 cases e6 : decide (512 * st < (fb.state.length : Int))
 ·have HW := Lib.hid (show wantedB n a fb s = false by rw [HWB.out, e0, e1, e2, e4, e3, e6]; rfl)
  have hq : q = 0 := HG.out.good (.inl HW.out)
  subst hq
  go_upto_region 24 with fail
  clear cb1 cb3 cs0 cs1 cs2
  go_wp2_with fail
  have hc := HG.out.rs Z W27 HD27.out
  unfold ptr at hc
  refine hc.mono ?_; rintro e w28 ⟨v, rfl, hv, hd, hs⟩
  rw [if_pos rfl] at hv
  have I28 := Lib.hid (I27.out.out hs.out (fun k hk => (HLZ.out k hk).2.2.1))
  have HD28 := Lib.hid hd
  have KY28 := Lib.hid (hs.out.blk KY27.out (fun hf => by have := HLZ.out gy hf; omega))
  have HG27 := Lib.hid KY27.out.lt
  clear hd hs hc c30 c00
  obtain ⟨VZ, rfl, hi2⟩ := frame_fit hv.in_
  have hz4 := frame_size hi2
  have o2 := frame_one hv.in_
  have HZ4 := Lib.hid hz4
  have HIZ := Lib.hid hi2
  have HOZ := Lib.hid o2
  have HV28 := Lib.hid hv
  clear hv hi2 hz4 o2
  go_upto_region 25 with (refine wpList_store_row rfl 28 _ _ rfl gy VZ rfl rfl 28 _ KY28.out HIZ.out (by rw [HZ4.out, HY24.out]) HOZ.out ?_)
  obtain ⟨W29, eW29⟩ : ∃ W, W = w28.setRow gy VZ := ⟨_, rfl⟩
  have ho : Out (fun k => k = gy) w28 W29 := by rw [eW29]; exact out_row _ rfl
  have KY29 := Lib.hid (show Blk W29 gy 28 VZ by rw [eW29]; exact KY28.out.row _)
  have I29 := Lib.hid (I28.out.out ho (fun k hk => by have := HGY.out; omega))
  have HD29 := Lib.hid (HD28.out.out ho (fun k hk hf => by have := HLZ.out k hk; omega))
  have FZ29 := Lib.hid (show FrameIn W29 W29.heap.size (.agg VZ) fb from (HV28.out.move ho (fun k h1 h2 hf => by have := HG27.out; omega)).in_)
  rw [← eW29]
  clear eW29 ho I28 HD28 KY28 HV28 I27 HD27 KY27
  go_wp2_with fail
  refine (num_any 0 _).mono ?_; rintro e wn ⟨rfl, rfl⟩
  have l1 := load_frame _ _ _ KY29.out HIZ.out
  have l2 := load_frame _ _ _ I29.out.k2 HIB.out
  go_wp2_with (first
   | (refine wpList_load_midG rfl 28 _ rfl gy 0 rfl VZ l1 ?_)
   | (refine wpList_load_midG rfl 28 _ rfl (w.heap.size + 2) 0 rfl VB l2 ?_))
  refine (lsame_any fb fb _ _ _ FZ29.out (HFB.out _ I29.out.below)).mono ?_; rintro e w31 ⟨rfl, hb⟩
  rw [same_self]
  have I31 := Lib.hid (I29.out.next hb)
  clear hb l1 l2
  go_wp2_with fail
  refine (works_any _).mono ?_; rintro e wz ⟨rfl, hbz⟩
  go_wp2_with fail
  go_ret
  exact ⟨rfl, (I31.out.next hbz).below⟩
 ·have HW := Lib.hid (show wantedB n a fb s = true by rw [HWB.out, e0, e1, e2, e4, e3, e6]; rfl)
  obtain ⟨LS, eLS⟩ : ∃ l, l = readsL zs := ⟨_, rfl⟩
  have HLS := Lib.hid eLS
  clear eLS
  by_cases hbe : LZ = LS
  case pos =>
   have hq : q = 0 := HG.out.good (.inr (by rw [← HLS.out, ← HLZ2.out]; exact hbe.symm))
   subst hbe
   subst hq
   go_upto_region 24 with fail
   clear cb1 cb3 cs0 cs1 cs2
   go_wp2_with fail
   have hc := HG.out.rs Z W27 HD27.out
   unfold ptr at hc
   refine hc.mono ?_; rintro e w28 ⟨v, rfl, hv, hd, hs⟩
   rw [if_pos rfl] at hv
   have I28 := Lib.hid (I27.out.out hs.out (fun k hk => (HLZ.out k hk).2.2.1))
   have HD28 := Lib.hid hd
   have KY28 := Lib.hid (hs.out.blk KY27.out (fun hf => by have := HLZ.out gy hf; omega))
   have HG27 := Lib.hid KY27.out.lt
   clear hd hs hc c30 c00
   obtain ⟨VZ, rfl, hi2⟩ := frame_fit hv.in_
   have hz4 := frame_size hi2
   have o2 := frame_one hv.in_
   have HZ4 := Lib.hid hz4
   have HIZ := Lib.hid hi2
   have HOZ := Lib.hid o2
   have HV28 := Lib.hid hv
   clear hv hi2 hz4 o2
   go_upto_region 25 with (refine wpList_store_row rfl 28 _ _ rfl gy VZ rfl rfl 28 _ KY28.out HIZ.out (by rw [HZ4.out, HY24.out]) HOZ.out ?_)
   obtain ⟨W29, eW29⟩ : ∃ W, W = w28.setRow gy VZ := ⟨_, rfl⟩
   have ho : Out (fun k => k = gy) w28 W29 := by rw [eW29]; exact out_row _ rfl
   have KY29 := Lib.hid (show Blk W29 gy 28 VZ by rw [eW29]; exact KY28.out.row _)
   have I29 := Lib.hid (I28.out.out ho (fun k hk => by have := HGY.out; omega))
   have HD29 := Lib.hid (HD28.out.out ho (fun k hk hf => by have := HLZ.out k hk; omega))
   have FZ29 := Lib.hid (show FrameIn W29 W29.heap.size (.agg VZ) fb from (HV28.out.move ho (fun k h1 h2 hf => by have := HG27.out; omega)).in_)
   rw [← eW29]
   clear eW29 ho I28 HD28 KY28 HV28 I27 HD27 KY27
   go_wp2_with fail
   have hc := dbytes_any Z zt W29 HD29.out HG.out.okt
   unfold ptr at hc
   refine hc.mono ?_; rintro e w30 ⟨u, rfl, hO, hb⟩
   have hu := BytesIn.own hO
   have hs2 := run_str w30 hu
   rw [HG.out.eqt, ← HLS.out] at hs2
   have I30 := Lib.hid (I29.out.next hb)
   have KY30 := Lib.hid (KY29.out.below hb KY29.out.lt)
   have FZ30 := Lib.hid ((FZ29.out.below hb (Nat.le_refl _)).mono hb.size)
   clear hc hO hu hb
   go_wp2_with fail
   refine (num_any 0 _).mono ?_; rintro e wn ⟨rfl, rfl⟩
   have l1 := load_frame _ _ _ KY30.out HIZ.out
   have l2 := load_frame _ _ _ I30.out.k2 HIB.out
   go_wp2_with (first
    | (refine wpList_load_midG rfl 28 _ rfl gy 0 rfl VZ l1 ?_)
    | (refine wpList_load_midG rfl 28 _ rfl (w.heap.size + 2) 0 rfl VB l2 ?_))
   refine (lsame_any fb fb _ _ _ FZ30.out (HFB.out _ I30.out.below)).mono ?_; rintro e w31 ⟨rfl, hb⟩
   rw [same_self]
   have I31 := Lib.hid (I30.out.next hb)
   clear hb l1 l2
   go_wp2_with fail
   refine (works_any _).mono ?_; rintro e wz ⟨rfl, hbz⟩
   go_wp2_with fail
   go_ret
   exact ⟨rfl, (I31.out.next hbz).below⟩
  case neg =>
   have hq : q = 170 := HG.out.bad HW.out (fun e => by rw [← HLS.out, ← HLZ2.out] at e; exact hbe e.symm)
   have hbs : ((bStr LZ).toList == (bStr LS).toList) = false := by rw [bStr_list, bStr_list]; simpa using hbe
   clear hbe
   subst hq
   go_upto_region 24 with fail
   clear cb1 cb3 cs0 cs1 cs2
   go_wp2_with fail
   have hc := HG.out.rs Z W27 HD27.out
   unfold ptr at hc
   refine hc.mono ?_; rintro e w28 ⟨v, rfl, hv, hd, hs⟩
   rw [if_neg (by decide)] at hv
   subst hv
   have I28 := Lib.hid (I27.out.out hs.out (fun k hk => (HLZ.out k hk).2.2.1))
   have HD28 := Lib.hid hd
   have KY28 := Lib.hid (hs.out.blk KY27.out (fun hf => by have := HLZ.out gy hf; omega))
   have HG27 := Lib.hid KY27.out.lt
   clear hd hs hc c30 c00
   go_upto_region 25 with (refine wpList_store_row rfl 28 _ _ rfl gy zeroF rfl rfl 28 _ KY28.out (by kernel_rfl) (by rw [HY24.out]; rfl) (by kernel_rfl) ?_)
   obtain ⟨W29, eW29⟩ : ∃ W, W = w28.setRow gy zeroF := ⟨_, rfl⟩
   have ho : Out (fun k => k = gy) w28 W29 := by rw [eW29]; exact out_row _ rfl
   have KY29 := Lib.hid (show Blk W29 gy 28 zeroF by rw [eW29]; exact KY28.out.row _)
   have I29 := Lib.hid (I28.out.out ho (fun k hk => by have := HGY.out; omega))
   have HD29 := Lib.hid (HD28.out.out ho (fun k hk hf => by have := HLZ.out k hk; omega))
   rw [← eW29]
   clear eW29 ho I28 HD28 KY28 I27 HD27 KY27
   go_wp2_with fail
   have hc := dbytes_any Z zt W29 HD29.out HG.out.okt
   unfold ptr at hc
   refine hc.mono ?_; rintro e w30 ⟨u, rfl, hO, hb⟩
   have hu := BytesIn.own hO
   have hs2 := run_str w30 hu
   rw [HG.out.eqt, ← HLS.out] at hs2
   have I30 := Lib.hid (I29.out.next hb)
   clear hc hO hu hb
   go_wp2_with fail
   refine (num_any 170 _).mono ?_; rintro e wn ⟨rfl, rfl⟩
   go_wp2_with fail
   refine (works_any _).mono ?_; rintro e wz ⟨rfl, hbz⟩
   go_wp2_with fail
   go_ret
   exact ⟨rfl, (I30.out.next hbz).below⟩
end Go.Proofs.YtdpniceapmikpaaGreat
