/-
  The contract of the reference's Text, for all keys that may be.
-/
import Derived.Test.YtlfkfhdcljkhkaaDoorTText
import Derived.Test.YtlfkfhdcljkhkaaDoorRef2
import Derived.Deep.RegionHeld3
namespace Go.Proofs.YtlfkfhdcljkhkaaDoor
open Go.RowKit

/-- one word more -/
def glue (s : ByteArray) (n : Int) : ByteArray := ⟨(s.data.toList ++ 32 :: Lib.itoa n).toArray⟩
def glueB (b : Bool) (s : ByteArray) (n : Int) : ByteArray := if b then glue s n else s
theorem glueB_t (s : ByteArray) (n : Int) : glueB true s n = glue s n := rfl
theorem glueB_f (s : ByteArray) (n : Int) : glueB false s n = s := rfl
theorem glue_eq (s : ByteArray) (n : Int) : s ++ ⟨#[32]⟩ ++ numS n = glue s n := by
  apply ByteArray.ext
  simp [glue, numS, ByteArray.data_append]
theorem joinTail_app (x y : List (List UInt8)) : Lib.joinTail [32] (x ++ y) = Lib.joinTail [32] x ++ Lib.joinTail [32] y := by simp [Lib.joinTail]
def joinS (x : ByteArray) (r : List ByteArray) : ByteArray := ⟨(Lib.join ((x :: r).map (·.data.toList)) [32]).toArray⟩
theorem joinS_nil (x : ByteArray) : joinS x [] = x := by
  apply ByteArray.ext
  simp [joinS, Lib.join_one]
theorem joinS_glue (x : ByteArray) (r : List ByteArray) (b : Bool) (n : Int) : joinS x (r ++ optS b n) = glueB b (joinS x r) n := by
  cases b
  · simp [optS, glueB]
  · apply ByteArray.ext
    simp [optS, glueB, glue, joinS, Lib.join_cons, joinTail_app]
    simp [Lib.joinTail, numS]
theorem textOf_eq (k o c a r v : Int) : textOf k o c a r v = glueB (valueB k) (glueB (callB k) (glueB (rightsB k) (glueB (oidB k) (glueB (oidB k) (nameOf k) o) c) r) a) v := by
  have e : textOf k o c a r v = joinS (nameOf k) ([] ++ optS (oidB k) o ++ optS (oidB k) c ++ optS (rightsB k) r ++ optS (callB k) a ++ optS (valueB k) v) := by
    simp [textOf, joinS, wordsOf]
  rw [e, joinS_glue, joinS_glue, joinS_glue, joinS_glue, joinS_glue, joinS_nil]

theorem name_at (k : Int) (h0 : 0 ≤ k) (h1 : k ≤ 10) : (#[Value.string { data := #[118, 111, 105, 100] }, Value.string { data := #[110, 117, 109, 98, 101, 114] },
          Value.string { data := #[110, 111, 100, 101] }, Value.string { data := #[112, 97, 103, 101] },
          Value.string { data := #[98, 97, 110, 107] }, Value.string { data := #[112, 114, 111, 99] },
          Value.string { data := #[115, 116, 97, 114, 116] }, Value.string { data := #[114, 101, 115, 117, 109, 101] },
          Value.string { data := #[100, 105, 115, 99, 114, 105, 109] },
          Value.string { data := #[99, 108, 111, 99, 107] }, Value.string { data := #[99, 104, 101, 99, 107] }] : Array Value)[k.toNat]? = some (.string (nameOf k)) := by
  have h : k = 0 ∨ k = 1 ∨ k = 2 ∨ k = 3 ∨ k = 4 ∨ k = 5 ∨ k = 6 ∨ k = 7 ∨ k = 8 ∨ k = 9 ∨ k = 10 := by omega
  rcases h with rfl | rfl | rfl | rfl | rfl | rfl | rfl | rfl | rfl | rfl | rfl
  all_goals rfl

def spc (s : ByteArray) : ByteArray := s ++ ⟨#[32]⟩
theorem spc_size (s : ByteArray) : (spc s).size = s.size + 1 := by simp [spc, ByteArray.size_append]; rfl
theorem numS_size (n : Int) (hn : I64 n) : (numS n).size ≤ 100 := by
  have := numS_len n hn
  simpa using this
theorem glue_spc (s : ByteArray) (n : Int) : spc s ++ numS n = glue s n := glue_eq s n
theorem glue_size (s : ByteArray) (n : Int) (hn : I64 n) : (glue s n).size ≤ s.size + 101 := by
  rw [← glue_spc, ByteArray.size_append, spc_size]
  have := numS_size n hn
  omega
theorem glueB_size (b : Bool) (s : ByteArray) (n : Int) (hn : I64 n) : (glueB b s n).size ≤ s.size + 101 := by
  cases b
  · simp [glueB]
  · exact glue_size s n hn
theorem nameOf_size (k : Int) : (nameOf k).size ≤ 100 := by
  have := nameOf_short k
  simpa using this
theorem add_spc (s : ByteArray) (h : s.size ≤ 10000) (W : World) : (Op.stringOp .add s ⟨#[32]⟩).run Tryd.prog W = .ok (.string (spc s)) W := by
  rw [run_string_add_sum W _ _ (by have e : (⟨#[32]⟩ : ByteArray).size = 1 := rfl; rw [e]; omega)]
  rfl
theorem add_num (s : ByteArray) (n : Int) (hn : I64 n) (h : s.size ≤ 10000) (W : World) : (Op.stringOp .add (spc s) (numS n)).run Tryd.prog W = .ok (.string (glue s n)) W := by
  rw [run_string_add_sum W _ _ (by rw [spc_size]; have := numS_size n hn; omega), glue_spc]

/-- the key's block, what was there, and the library's table -/
def KeyS (B0 : Nat) (w : World) (k o c a r v : Int) (W : World) : Prop := Blk W w.heap.size 30 (keyV k o c a r v) ∧ Below w.heap.size w W ∧ Tab B0 W
theorem KeyS.step {B0 : Nat} {w W w' : World} {k o c a r v : Int} (hB : B0 ≤ w.heap.size) (h : KeyS B0 w k o c a r v W) (hn : Below W.heap.size W w') : KeyS B0 w k o c a r v w' :=
  ⟨h.1.below hn h.1.lt, h.2.1.trans (hn.mono h.2.1.size), h.2.2.at (Nat.le_trans hB h.2.1.size) hn⟩
theorem KeyS.two {B0 : Nat} {w W : World} {k o c a r v : Int} (h : KeyS B0 w k o c a r v W) : KeyS B0 w k o c a r v W ∧ W.cell? ⟨w.heap.size, 1, none⟩ = some (.int .i64 o) ∧ W.cell? ⟨w.heap.size, 2, none⟩ = some (.int .i64 c) :=
  ⟨h, h.1.cell_is 1 rfl, h.1.cell_is 2 rfl⟩
theorem KeyS.drew {B0 : Nat} {w W : World} {k o c a r v : Int} (h : KeyS B0 w k o c a r v W) : KeyS B0 w k o c a r v W.drew := ⟨h.1, h.2.1.drew, h.2.2.on (Below.refl _ _).drew⟩

set_option maxHeartbeats 1000000 in
theorem rtext_any (k o c a r v : Int) (B0 : Nat) (w : World) (hk0 : 0 ≤ k) (hk1 : k ≤ 10) (hF : Fits o c a r v) (hT : Tab B0 w) (hB0 : B0 ≤ w.heap.size) :
    Calls Tryd.prog 7 #[.agg #[.int .i64 k, .int .i64 o, .int .i64 c, .int .i64 a, .int .i64 r, .int .i64 v]] w fun e w' =>
      e = .returned (.string (textOf k o c a r v)) ∧ Below w.heap.size w w' := by
  have HTX := Lib.hid (textOf_eq k o c a r v)
  have HNM := Lib.hid (name_at k hk0 hk1)
  obtain ⟨ho, hc, ha, hr, hv⟩ := hF
  have HO := Lib.hid ho
  have HC := Lib.hid hc
  have HA := Lib.hid ha
  have HR := Lib.hid hr
  have HV := Lib.hid hv
  have HT := Lib.hid hT
  clear ho hc ha hr hv hT
  go_enter Tryd.func7, Tryd.ntmps7
  go_upto_region 2 with fail
  obtain ⟨W0, hW0⟩ : ∃ W0, W0 = (w.alloc (.cells (keyV k o c a r v) 30)).alloc (.cells (#[Value.string { data := #[118, 111, 105, 100] }, Value.string { data := #[110, 117, 109, 98, 101, 114] },
          Value.string { data := #[110, 111, 100, 101] }, Value.string { data := #[112, 97, 103, 101] },
          Value.string { data := #[98, 97, 110, 107] }, Value.string { data := #[112, 114, 111, 99] },
          Value.string { data := #[115, 116, 97, 114, 116] }, Value.string { data := #[114, 101, 115, 117, 109, 101] },
          Value.string { data := #[100, 105, 115, 99, 114, 105, 109] },
          Value.string { data := #[99, 108, 111, 99, 107] }, Value.string { data := #[99, 104, 101, 99, 107] }] : Array Value) 9) := ⟨_, rfl⟩
  have hK : Blk W0 w.heap.size 30 (keyV k o c a r v) := by rw [hW0]; exact (Blk.new w _ _).alloc _
  have hN : Blk W0 (w.heap.size + 1) 9 (#[Value.string { data := #[118, 111, 105, 100] }, Value.string { data := #[110, 117, 109, 98, 101, 114] },
          Value.string { data := #[110, 111, 100, 101] }, Value.string { data := #[112, 97, 103, 101] },
          Value.string { data := #[98, 97, 110, 107] }, Value.string { data := #[112, 114, 111, 99] },
          Value.string { data := #[115, 116, 97, 114, 116] }, Value.string { data := #[114, 101, 115, 117, 109, 101] },
          Value.string { data := #[100, 105, 115, 99, 114, 105, 109] },
          Value.string { data := #[99, 108, 111, 99, 107] }, Value.string { data := #[99, 104, 101, 99, 107] }] : Array Value) := by rw [hW0]; exact Blk.new2 w _ _ _
  have hb : Below w.heap.size w W0 := by rw [hW0]; exact ((Below.refl _ _).alloc (Nat.le_refl _) _).alloc (by simp) _
  rw [← hW0]
  clear hW0
  have x0 := hK.cell_is 0 rfl
  have xn := hN.cell_is k.toNat HNM.out
  clear hN
  have hS : KeyS B0 w k o c a r v W0 := ⟨hK, hb, HT.out.at hB0 hb⟩
  clear hK hb
  go_wp2_with fail
  refine (names4_any _ _).mono ?_; rintro e w1 ⟨rfl, rfl⟩
  clear x0 xn
  have hK1 : (w.heap.size : Nat) = w.heap.size := rfl
  clear hK1
  go_upto_if 23 with fail
  go_cut [1, 4, 5, 6, 7, 8] (fun s1 s4 s5 s6 s7 s8 wx => s1 = .pointer (some ⟨w.heap.size, 0, none⟩) ∧ s4 = .string (glueB (oidB k) (glueB (oidB k) (nameOf k) o) c) ∧ s6 = .bool (rightsB k) ∧ s7 = .bool (callB k) ∧ s8 = .bool (valueB k) ∧ KeyS B0 w k o c a r v wx)
  case first =>
    cases hO : oidB k
    · go_wp2_with fail
      go_meet
      exact ⟨rfl, by rw [hO]; rfl, rfl, rfl, rfl, by assumption⟩
    · go_wp2_with fail
      have hS' := hS.drew
      have z0 := nameOf_size k
      have z1 := glue_size (nameOf k) o HO.out
      have a1 := add_spc (nameOf k) (by omega)
      have a2 := add_num (nameOf k) o HO.out (by omega)
      have a3 := add_spc (glue (nameOf k) o) (by omega)
      have a4 := add_num (glue (nameOf k) o) c HC.out (by omega)
      clear z0 z1
      go_region_held3 (fun w' => KeyS B0 w k o c a r v w' ∧ w'.cell? ⟨w.heap.size, 1, none⟩ = some (.int .i64 o) ∧ w'.cell? ⟨w.heap.size, 2, none⟩ = some (.int .i64 c))
        ((first | exact KeyS.two (by assumption)))
        (first
          | (go_at_call 17; refine (itoa_any (B := B0) _ _ (by first | exact hS.2.2 | exact hS'.2.2 | (rename_i q; exact q.2.2)) HO.out).mono ?_; rintro e w' ⟨rfl, hn⟩; have hS := KeyS.step hB0 (by assumption) hn; clear hn)
          | (go_at_call 14; refine (fmt_any (B := B0) _ _ (by first | exact hS.2.2 | exact hS'.2.2) HC.out).mono ?_; rintro e w' ⟨rfl, hn⟩; have hS := KeyS.step hB0 (by assumption) hn; clear hn))
      all_goals go_wp2_with fail
      all_goals go_meet
      all_goals exact ⟨rfl, by rw [hO]; rfl, rfl, rfl, rfl, by assumption⟩
  case rest =>
    obtain ⟨rfl, rfl, rfl, rfl, rfl, hS0⟩ := hcut
    have z0 := nameOf_size k
    have z1 := glueB_size (oidB k) (nameOf k) o HO.out
    have z2 := glueB_size (oidB k) (glueB (oidB k) (nameOf k) o) c HC.out
    have a1 := add_spc (glueB (oidB k) (glueB (oidB k) (nameOf k) o) c) (by omega)
    have a2 := add_num (glueB (oidB k) (glueB (oidB k) (nameOf k) o) c) r HR.out (by omega)
    have xc : wc.cell? ⟨w.heap.size, 4, none⟩ = some (.int .i64 r) := hS0.1.cell_is 4 rfl
    clear z0 z1 z2
    go_upto_if 35 with fail
    go_cut [1, 4, 6, 7, 8] (fun s1 s4 s6 s7 s8 wx => s1 = .pointer (some ⟨w.heap.size, 0, none⟩) ∧ s4 = .string (glueB (rightsB k) (glueB (oidB k) (glueB (oidB k) (nameOf k) o) c) r) ∧ s7 = .bool (callB k) ∧ s8 = .bool (valueB k) ∧ KeyS B0 w k o c a r v wx)
    case first =>
      cases hO : rightsB k
      · go_wp2_with fail
        go_meet
        exact ⟨rfl, by rw [hO]; rfl, rfl, rfl, by assumption⟩
      · go_wp2_with fail
        refine (itoa_any (B := B0) _ _ hS0.2.2 HR.out).mono ?_; rintro e w' ⟨rfl, hn⟩; have hS := KeyS.step hB0 hS0 hn; clear hn
        go_wp2_with fail
        go_meet
        exact ⟨rfl, by rw [hO]; rfl, rfl, rfl, by assumption⟩
    case rest =>
      obtain ⟨rfl, rfl, rfl, rfl, hS1⟩ := hcut
      have z0 := nameOf_size k
      have z1 := glueB_size (oidB k) (nameOf k) o HO.out
      have z2 := glueB_size (oidB k) (glueB (oidB k) (nameOf k) o) c HC.out
      have z3 := glueB_size (rightsB k) (glueB (oidB k) (glueB (oidB k) (nameOf k) o) c) r HR.out
      have a1 := add_spc (glueB (rightsB k) (glueB (oidB k) (glueB (oidB k) (nameOf k) o) c) r) (by omega)
      have a2 := add_num (glueB (rightsB k) (glueB (oidB k) (glueB (oidB k) (nameOf k) o) c) r) a HA.out (by omega)
      have xc : wc.cell? ⟨w.heap.size, 3, none⟩ = some (.int .i64 a) := hS1.1.cell_is 3 rfl
      clear z0 z1 z2 z3
      go_upto_if 42 with fail
      go_cut [1, 4, 7, 8] (fun s1 s4 s7 s8 wx => s1 = .pointer (some ⟨w.heap.size, 0, none⟩) ∧ s4 = .string (glueB (callB k) (glueB (rightsB k) (glueB (oidB k) (glueB (oidB k) (nameOf k) o) c) r) a) ∧ s8 = .bool (valueB k) ∧ KeyS B0 w k o c a r v wx)
      case first =>
        cases hO : callB k
        · go_wp2_with fail
          go_meet
          exact ⟨rfl, by rw [hO]; rfl, rfl, by assumption⟩
        · go_wp2_with fail
          refine (fmt_any (B := B0) _ _ hS1.2.2 HA.out).mono ?_; rintro e w' ⟨rfl, hn⟩; have hS := KeyS.step hB0 hS1 hn; clear hn
          go_wp2_with fail
          go_meet
          exact ⟨rfl, by rw [hO]; rfl, rfl, by assumption⟩
      case rest =>
        obtain ⟨rfl, rfl, rfl, hS2⟩ := hcut
        have z0 := nameOf_size k
        have z1 := glueB_size (oidB k) (nameOf k) o HO.out
        have z2 := glueB_size (oidB k) (glueB (oidB k) (nameOf k) o) c HC.out
        have z3 := glueB_size (rightsB k) (glueB (oidB k) (glueB (oidB k) (nameOf k) o) c) r HR.out
        have z4 := glueB_size (callB k) (glueB (rightsB k) (glueB (oidB k) (glueB (oidB k) (nameOf k) o) c) r) a HA.out
        have a1 := add_spc (glueB (callB k) (glueB (rightsB k) (glueB (oidB k) (glueB (oidB k) (nameOf k) o) c) r) a) (by omega)
        have a2 := add_num (glueB (callB k) (glueB (rightsB k) (glueB (oidB k) (glueB (oidB k) (nameOf k) o) c) r) a) v HV.out (by omega)
        have xc : wc.cell? ⟨w.heap.size, 5, none⟩ = some (.int .i64 v) := hS2.1.cell_is 5 rfl
        clear z0 z1 z2 z3 z4
        go_upto_if 49 with fail
        go_cut [1, 4, 8] (fun s1 s4 s8 wx => s1 = .pointer (some ⟨w.heap.size, 0, none⟩) ∧ s4 = .string (glueB (valueB k) (glueB (callB k) (glueB (rightsB k) (glueB (oidB k) (glueB (oidB k) (nameOf k) o) c) r) a) v) ∧ KeyS B0 w k o c a r v wx)
        case first =>
          cases hO : valueB k
          · go_wp2_with fail
            go_meet
            exact ⟨rfl, by rw [hO]; rfl, by assumption⟩
          · go_wp2_with fail
            refine (fmt_any (B := B0) _ _ hS2.2.2 HV.out).mono ?_; rintro e w' ⟨rfl, hn⟩; have hS := KeyS.step hB0 hS2 hn; clear hn
            go_wp2_with fail
            go_meet
            exact ⟨rfl, by rw [hO]; rfl, by assumption⟩
        case rest =>
          obtain ⟨rfl, rfl, hS⟩ := hcut
          go_wp2_with fail
          go_ret
          exact ⟨by rw [HTX.out]; rfl, hS.2.1⟩

end Go.Proofs.YtlfkfhdcljkhkaaDoor
