/-
  The contract of keys.Text, for all keys.
-/
import Derived.Test.YtlfkfhdcljkhkaaDoorTAdd
namespace Go.Proofs.YtlfkfhdcljkhkaaDoor
open Go.RowKit

def wordsOf (k o c a r v : Int) : List ByteArray := [nameOf k] ++ optS (oidB k) o ++ optS (oidB k) c ++ optS (rightsB k) r ++ optS (callB k) a ++ optS (valueB k) v
def textOf (k o c a r v : Int) : ByteArray := ⟨(Lib.join ((wordsOf k o c a r v).map (·.data.toList)) [32]).toArray⟩
/-- each of a key's numbers is an int64's -/
def Fits (o c a r v : Int) : Prop := I64 o ∧ I64 c ∧ I64 a ∧ I64 r ∧ I64 v

theorem Words.new {w : World} {x : ByteArray} : Words w.heap.size (w.heap.size + 1) [x] ((w.alloc (.cells #[.string x] 9)).alloc (.cells #[.slice (some ⟨w.heap.size, 0, none⟩) 1 1] 45)) := by
  refine ⟨_, heap_alloc2_new w _ _, ?_⟩
  exact ⟨rfl, .inr ⟨w.heap.size, 1, #[.string x], rfl, Nat.le_refl _, (Below.heap_alloc _ _ _ (by simp)).trans (heap_alloc_new w _), by simp, by simp [maxLen], rfl, rfl⟩⟩
theorem optS_len (b : Bool) (n : Int) : (optS b n).length ≤ 1 := by cases b <;> simp [optS]
theorem optS_short (b : Bool) (n : Int) (hn : I64 n) : ∀ y ∈ optS b n, y.data.toList.length ≤ 100 := by
  cases b
  · intro y hy; cases hy
  · intro y hy
    obtain rfl : y = numS n := by simpa [optS] using hy
    exact numS_len n hn
theorem nameOf_short (k : Int) : (nameOf k).data.toList.length ≤ 100 := by
  unfold nameOf
  repeat' split
  all_goals decide

theorem words_short {k o c a r v : Int} (ho : I64 o) (hc : I64 c) (hr : I64 r) (ha : I64 a) (hv : I64 v) : (Lib.join ((wordsOf k o c a r v).map (·.data.toList)) [32]).length ≤ 140737488355328 := by
  have e : wordsOf k o c a r v = nameOf k :: (optS (oidB k) o ++ optS (oidB k) c ++ optS (rightsB k) r ++ optS (callB k) a ++ optS (valueB k) v) := by simp [wordsOf]
  rw [e]
  refine join_ok _ _ (nameOf_short k) ?_ ?_
  · intro y hy
    simp only [List.mem_append] at hy
    rcases hy with (((hy | hy) | hy) | hy) | hy
    · exact optS_short _ _ ho y hy
    · exact optS_short _ _ hc y hy
    · exact optS_short _ _ hr y hy
    · exact optS_short _ _ ha y hy
    · exact optS_short _ _ hv y hy
  · have := optS_len (oidB k) o; have := optS_len (oidB k) c; have := optS_len (rightsB k) r; have := optS_len (callB k) a; have := optS_len (valueB k) v
    simp only [List.length_append]; omega

theorem text_no (k o c a r v : Int) (w : World) (hB : ofB k o c a r v = false) :
    Calls Tryd.prog 5 #[.agg #[.int .i64 k, .int .i64 o, .int .i64 c, .int .i64 a, .int .i64 r, .int .i64 v]] w fun e w' =>
      e = .returned (.tuple #[.string ⟨#[]⟩, .int .i64 2]) ∧ Below w.heap.size w w' := by
  go_enter Tryd.func5, Tryd.ntmps5
  go_wp2_with fail
  refine (of_any _ _ _ _ _ _ _).mono ?_; rintro e w1 ⟨rfl, hb⟩
  have hbb : Below w.heap.size w w1 := ((Below.refl _ _).alloc (Nat.le_refl _) _).trans (hb.mono (by simp))
  have hz : w.heap.size < w1.heap.size := by have := hb.size; simp at this; omega
  clear hb
  rw [hB]
  go_wp2_with fail
  go_ret2
  exact ⟨rfl, hbb.alloc (by omega) _⟩

set_option maxHeartbeats 1000000 in
theorem text_yes (k o c a r v : Int) (B0 : Nat) (w : World) (hB : ofB k o c a r v = true) (hF : Fits o c a r v) (hT : Tab B0 w) (hB0 : B0 ≤ w.heap.size) :
    Calls Tryd.prog 5 #[.agg #[.int .i64 k, .int .i64 o, .int .i64 c, .int .i64 a, .int .i64 r, .int .i64 v]] w fun e w' =>
      e = .returned (.tuple #[.string (textOf k o c a r v), .int .i64 0]) ∧ Below w.heap.size w w' := by
  obtain ⟨ho, hc, ha, hr, hv⟩ := hF
  have HO := Lib.hid ho
  have HC := Lib.hid hc
  have HA := Lib.hid ha
  have HR := Lib.hid hr
  have HV := Lib.hid hv
  have HT := Lib.hid hT
  clear ho hc ha hr hv hT
  go_enter Tryd.func5, Tryd.ntmps5
  go_wp2_with fail
  refine (of_any _ _ _ _ _ _ _).mono ?_; rintro e w1 ⟨rfl, hb⟩
  have K1 : Blk w1 w.heap.size 30 (keyV k o c a r v) := (Blk.new w _ _).below hb (by simp)
  have hbb : Below w.heap.size w w1 := ((Below.refl _ _).alloc (Nat.le_refl _) _).trans (hb.mono (by simp))
  have hz : w.heap.size < w1.heap.size := by have := hb.size; simp at this; omega
  clear hb
  obtain ⟨x0, x1, x2, x3, x4, x5⟩ := K1.key
  have hW0 : Words (w1.heap.size + 1) (w1.heap.size + 1 + 1) [nameOf k] (((w1.alloc (.cells (kindV k) 42)).alloc (.cells #[.string (nameOf k)] 9)).alloc (.cells #[.slice (some ⟨w1.heap.size + 1, 0, none⟩) 1 1] 45)) := by
    have h := Words.new (w := w1.alloc (.cells (kindV k) 42)) (x := nameOf k)
    rwa [size_alloc] at h
  have hX0 : Blk (((w1.alloc (.cells (kindV k) 42)).alloc (.cells #[.string (nameOf k)] 9)).alloc (.cells #[.slice (some ⟨w1.heap.size + 1, 0, none⟩) 1 1] 45)) w1.heap.size 42 (kindV k) := ((Blk.new w1 _ _).alloc _).alloc _
  have hK0 := ((K1.alloc (.cells (kindV k) 42)).alloc (.cells #[.string (nameOf k)] 9)).alloc (.cells #[.slice (some ⟨w1.heap.size + 1, 0, none⟩) 1 1] 45)
  have hb0 := ((hbb.alloc (Nat.le_of_lt hz) (.cells (kindV k) 42)).alloc (by simp; omega) (.cells #[.string (nameOf k)] 9)).alloc (by simp; omega) (.cells #[.slice (some ⟨w1.heap.size + 1, 0, none⟩) 1 1] 45)
  have hS0 : w1.heap.size + 1 + 1 < (((w1.alloc (.cells (kindV k) 42)).alloc (.cells #[.string (nameOf k)] 9)).alloc (.cells #[.slice (some ⟨w1.heap.size + 1, 0, none⟩) 1 1] 45)).heap.size := by simp
  clear hbb K1
  rw [hB]
  go_upto_region 6 with fail
  unfold kindV at hW0 hX0 hK0 hb0 hS0
  generalize ((w1.alloc _).alloc _).alloc _ = W0 at *
  generalize w1.heap.size = m at *
  have HS := Lib.hid hS0
  clear x0 x1 x2 x3 x4 x5
  have hx := hK0.cell_is 1 rfl
  have hy := hX0.cell_is 1 rfl
  go_wp2_with fail
  refine (add_any (oidB k) o B0 (m + 1) (m + 1 + 1) ([nameOf k]) W0 HO.out (HT.out.at hB0 hb0) (by omega) (by omega) hW0 (by simp)).mono ?_
  rintro e W1 ⟨rfl, hn, hW1⟩
  have hX1 := hX0.below hn (by omega)
  have hK1 := hK0.below hn (by omega)
  have hb1 := hb0.trans (hn.mono (by omega))
  clear hx hy hn hW0 hX0 hK0 hb0
  have hx := hK1.cell_is 2 rfl
  have hy := hX1.cell_is 1 rfl
  go_wp2_with fail
  refine (add_any (oidB k) c B0 (m + 1) (m + 1 + 1) ([nameOf k] ++ optS (oidB k) o) W1 HC.out (HT.out.at hB0 hb1) (by omega) (by omega) hW1 (by simp; have := optS_len (oidB k) o; have := optS_len (oidB k) c; have := optS_len (rightsB k) r; have := optS_len (callB k) a; omega)).mono ?_
  rintro e W2 ⟨rfl, hn, hW2⟩
  have hX2 := hX1.below hn (by omega)
  have hK2 := hK1.below hn (by omega)
  have hb2 := hb1.trans (hn.mono (by omega))
  clear hx hy hn hW1 hX1 hK1 hb1
  have hx := hK2.cell_is 4 rfl
  have hy := hX2.cell_is 2 rfl
  go_wp2_with fail
  refine (add_any (rightsB k) r B0 (m + 1) (m + 1 + 1) ([nameOf k] ++ optS (oidB k) o ++ optS (oidB k) c) W2 HR.out (HT.out.at hB0 hb2) (by omega) (by omega) hW2 (by simp; have := optS_len (oidB k) o; have := optS_len (oidB k) c; have := optS_len (rightsB k) r; have := optS_len (callB k) a; omega)).mono ?_
  rintro e W3 ⟨rfl, hn, hW3⟩
  have hX3 := hX2.below hn (by omega)
  have hK3 := hK2.below hn (by omega)
  have hb3 := hb2.trans (hn.mono (by omega))
  clear hx hy hn hW2 hX2 hK2 hb2
  have hx := hK3.cell_is 3 rfl
  have hy := hX3.cell_is 3 rfl
  go_wp2_with fail
  refine (add_any (callB k) a B0 (m + 1) (m + 1 + 1) ([nameOf k] ++ optS (oidB k) o ++ optS (oidB k) c ++ optS (rightsB k) r) W3 HA.out (HT.out.at hB0 hb3) (by omega) (by omega) hW3 (by simp; have := optS_len (oidB k) o; have := optS_len (oidB k) c; have := optS_len (rightsB k) r; have := optS_len (callB k) a; omega)).mono ?_
  rintro e W4 ⟨rfl, hn, hW4⟩
  have hX4 := hX3.below hn (by omega)
  have hK4 := hK3.below hn (by omega)
  have hb4 := hb3.trans (hn.mono (by omega))
  clear hx hy hn hW3 hX3 hK3 hb3
  have hx := hK4.cell_is 5 rfl
  have hy := hX4.cell_is 4 rfl
  go_wp2_with fail
  refine (add_any (valueB k) v B0 (m + 1) (m + 1 + 1) ([nameOf k] ++ optS (oidB k) o ++ optS (oidB k) c ++ optS (rightsB k) r ++ optS (callB k) a) W4 HV.out (HT.out.at hB0 hb4) (by omega) (by omega) hW4 (by simp; have := optS_len (oidB k) o; have := optS_len (oidB k) c; have := optS_len (rightsB k) r; have := optS_len (callB k) a; omega)).mono ?_
  rintro e W5 ⟨rfl, hn, hW5⟩
  have hX5 := hX4.below hn (by omega)
  have hK5 := hK4.below hn (by omega)
  have hb5 := hb4.trans (hn.mono (by omega))
  clear hx hy hn hW4 hX4 hK4 hb4
  obtain ⟨u, hL, hown⟩ := hW5
  have hc := cell_of_one hL
  have hwd : ([nameOf k] ++ optS (oidB k) o ++ optS (oidB k) c ++ optS (rightsB k) r ++ optS (callB k) a ++ optS (valueB k) v) = wordsOf k o c a r v := rfl
  rw [hwd] at hown
  have hl : 0 < (wordsOf k o c a r v).length := by simp [wordsOf]
  obtain ⟨g, cap, rfl, hg1, hg2⟩ := hown.form hl
  have hcap : (wordsOf k o c a r v).length ≤ cap := by
    rcases hown.2 with ⟨h1, _⟩ | ⟨g', cap', cur, h1, h2, h3, h4, h5⟩
    · cases h1
    · injection h1 with h1 h1' h1''; omega
  have HC5 := Lib.hid (hown.cells (g := g) rfl)
  have hwl : (wordsOf k o c a r v).length ≤ 6 := by
    have := optS_len (oidB k) o; have := optS_len (oidB k) c; have := optS_len (rightsB k) r; have := optS_len (callB k) a; have := optS_len (valueB k) v
    simp only [wordsOf, List.length_append, List.length_cons, List.length_nil]; omega
  have hsh := words_short (k := k) HO.out HC.out HR.out HA.out HV.out
  have hTL : textOf k o c a r v = ⟨(Lib.join ((wordsOf k o c a r v).map (·.data.toList)) (⟨#[32]⟩ : ByteArray).data.toList).toArray⟩ := rfl
  clear hown hwd
  generalize hWs : wordsOf k o c a r v = ws at *
  have HTL := Lib.hid hTL
  clear hTL hWs
  go_wp2_with fail
  refine (Tryd.strings_Join g 0 cap ws ⟨#[32]⟩ W5 (fun j x hx => ?c1) hg2 (by omega) hcap hsh).mono ?_
  case c1 =>
    have := HC5.out j (.string x) (by simp [hx])
    rw [Go.WideShapes.add_plain] at this
    exact this
  rintro e W6 ⟨rfl, hn⟩
  have hb6 := hb5.trans (hn.mono (by omega))
  go_wp2_with fail
  go_ret2
  exact ⟨by rw [HTL.out]; rfl, hb6⟩

end Go.Proofs.YtlfkfhdcljkhkaaDoor
