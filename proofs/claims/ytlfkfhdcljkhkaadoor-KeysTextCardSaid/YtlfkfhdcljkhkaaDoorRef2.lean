/-
  The contract of the reference's Check, for all keys.
-/
import Derived.Test.YtlfkfhdcljkhkaaDoorRef1
namespace Go.Proofs.YtlfkfhdcljkhkaaDoor
open Go.RowKit

def most0 (k : Int) : Int := if rightsB k then 7 else 0
def t1B (k r v : Int) : Bool := decide (k < 0) || decide (10 < k) || decide (r < 0) || decide (mostOf k < r) || (!valueB k && !(v == 0))
def t2B (k o c : Int) : Bool := (oidB k && (decide (o < 0) || decide (64 ≤ o) || decide (c < 0) || decide (4294967295 < c))) || (!oidB k && (!(o == 0) || !(c == 0)))
def t3B (k a : Int) : Bool := (callB k && (decide (a < 0) || decide (4294967295 < a))) || (!callB k && !(a == 0))

set_option maxRecDepth 100000 in
set_option maxHeartbeats 1000000 in
theorem rcheck_raw0 (k o c a r v : Int) (w : World) (ho : o ≠ 0) :
    Calls Tryd.prog 6 #[.agg #[.int .i64 k, .int .i64 o, .int .i64 c, .int .i64 a, .int .i64 r, .int .i64 v]] w fun e w' =>
      e = .returned (.int .i64 (if t1B k r v then 2 else if t2B k o c then 2 else if t3B k a then 2 else 0)) ∧ Below w.heap.size w w' := by
  go_enter Tryd.func6, Tryd.ntmps6
  go_wp2_with fail
  refine (names4_any _ _).mono ?_; rintro e w1 ⟨rfl, rfl⟩
  go_upto_if 18 with fail
  go_cut [4, 5, 6, 7, 8] (fun s4 s5 s6 s7 s8 wx => s4 = .bool (oidB k) ∧ s5 = .bool (rightsB k) ∧ s6 = .bool (callB k) ∧ s7 = .bool (valueB k) ∧ s8 = .int .i64 (most0 k) ∧ wx = w.alloc (.cells (keyV k o c a r v) 30))
  case first =>
    cases hR : rightsB k
    all_goals
      go_wp2_with fail
      go_meet
      refine ⟨?_, ?_, ?_, ?_, ?_, rfl⟩
      all_goals go_light
      all_goals simp [most0, *]
  case rest =>
    obtain ⟨rfl, rfl, rfl, rfl, rfl, rfl⟩ := hcut
    go_upto_if 20 with fail
    go_cut [4, 5, 6, 7, 8] (fun s4 s5 s6 s7 s8 wx => s4 = .bool (oidB k) ∧ s5 = .bool (rightsB k) ∧ s6 = .bool (callB k) ∧ s7 = .bool (valueB k) ∧ s8 = .int .i64 (mostOf k) ∧ wx = w.alloc (.cells (keyV k o c a r v) 30))
    case first =>
      cases h3 : (k == 3)
      all_goals
        go_wp2_with fail
        go_meet
        refine ⟨rfl, rfl, rfl, rfl, ?_, rfl⟩
        go_light
        cases h2 : (k == 2)
        all_goals simp at h3 h2
        all_goals first | omega | simp [mostOf, most0, rightsB, h2, h3]
    case rest =>
      obtain ⟨rfl, rfl, rfl, rfl, rfl, rfl⟩ := hcut
      go_upto_region 8 with fail
      go_cut [4, 5, 6, 7, 46] (fun s4 s5 s6 s7 s wx => s4 = .bool (oidB k) ∧ s5 = .bool (rightsB k) ∧ s6 = .bool (callB k) ∧ s7 = .bool (valueB k) ∧ s = .bool (t1B k r v) ∧ wx = w.alloc (.cells (keyV k o c a r v) 30))
      case first =>
        cases hV : valueB k
        all_goals go_wp2_with fail
        all_goals go_meet
        all_goals refine ⟨?_, ?_, ?_, ?_, ?_, rfl⟩
        all_goals go_light
        all_goals simp [t1B, bne, *]
      case rest =>
        obtain ⟨rfl, rfl, rfl, rfl, rfl, rfl⟩ := hcut
        cases h1 : t1B k r v
        · go_upto_region 10 with fail
          go_cut [4, 5, 6, 7, 81] (fun s4 s5 s6 s7 s wx => s4 = .bool (oidB k) ∧ s5 = .bool (rightsB k) ∧ s6 = .bool (callB k) ∧ s7 = .bool (valueB k) ∧ s = .bool (t2B k o c) ∧ wx = w.alloc (.cells (keyV k o c a r v) 30))
          case first =>
            cases hO : oidB k
            all_goals go_wp2_with fail
            all_goals go_meet
            all_goals refine ⟨?_, ?_, ?_, ?_, ?_, rfl⟩
            all_goals go_light
            all_goals simp [t2B, *]
          case rest =>
            obtain ⟨rfl, rfl, rfl, rfl, rfl, rfl⟩ := hcut
            cases h2 : t2B k o c
            · go_upto_region 12 with fail
              go_cut [4, 5, 6, 7, 101] (fun s4 s5 s6 s7 s wx => s4 = .bool (oidB k) ∧ s5 = .bool (rightsB k) ∧ s6 = .bool (callB k) ∧ s7 = .bool (valueB k) ∧ s = .bool (t3B k a) ∧ wx = w.alloc (.cells (keyV k o c a r v) 30))
              case first =>
                cases hC : callB k
                all_goals go_wp2_with fail
                all_goals go_meet
                all_goals refine ⟨?_, ?_, ?_, ?_, ?_, rfl⟩
                all_goals go_light
                all_goals simp [t3B, bne, *]
              case rest =>
                obtain ⟨rfl, rfl, rfl, rfl, rfl, rfl⟩ := hcut
                cases h3 : t3B k a
                all_goals go_wp2_with fail
                all_goals go_ret
                all_goals exact ⟨rfl, (Below.refl _ _).alloc (Nat.le_refl _) _⟩
            · go_wp2_with fail
              all_goals go_ret
              all_goals exact ⟨rfl, (Below.refl _ _).alloc (Nat.le_refl _) _⟩
        · go_wp2_with fail
          go_ret
          exact ⟨rfl, (Below.refl _ _).alloc (Nat.le_refl _) _⟩

set_option maxRecDepth 100000 in
set_option maxHeartbeats 1000000 in
theorem rcheck_raw1 (k c a r v : Int) (w : World) :
    Calls Tryd.prog 6 #[.agg #[.int .i64 k, .int .i64 0, .int .i64 c, .int .i64 a, .int .i64 r, .int .i64 v]] w fun e w' =>
      e = .returned (.int .i64 (if t1B k r v then 2 else if t2B k 0 c then 2 else if t3B k a then 2 else 0)) ∧ Below w.heap.size w w' := by
  go_enter Tryd.func6, Tryd.ntmps6
  go_wp2_with fail
  refine (names4_any _ _).mono ?_; rintro e w1 ⟨rfl, rfl⟩
  go_upto_if 18 with fail
  go_cut [4, 5, 6, 7, 8] (fun s4 s5 s6 s7 s8 wx => s4 = .bool (oidB k) ∧ s5 = .bool (rightsB k) ∧ s6 = .bool (callB k) ∧ s7 = .bool (valueB k) ∧ s8 = .int .i64 (most0 k) ∧ wx = w.alloc (.cells (keyV k 0 c a r v) 30))
  case first =>
    cases hR : rightsB k
    all_goals
      go_wp2_with fail
      go_meet
      refine ⟨?_, ?_, ?_, ?_, ?_, rfl⟩
      all_goals go_light
      all_goals simp [most0, *]
  case rest =>
    obtain ⟨rfl, rfl, rfl, rfl, rfl, rfl⟩ := hcut
    go_upto_if 20 with fail
    go_cut [4, 5, 6, 7, 8] (fun s4 s5 s6 s7 s8 wx => s4 = .bool (oidB k) ∧ s5 = .bool (rightsB k) ∧ s6 = .bool (callB k) ∧ s7 = .bool (valueB k) ∧ s8 = .int .i64 (mostOf k) ∧ wx = w.alloc (.cells (keyV k 0 c a r v) 30))
    case first =>
      cases h3 : (k == 3)
      all_goals
        go_wp2_with fail
        go_meet
        refine ⟨rfl, rfl, rfl, rfl, ?_, rfl⟩
        go_light
        cases h2 : (k == 2)
        all_goals simp at h3 h2
        all_goals first | omega | simp [mostOf, most0, rightsB, h2, h3]
    case rest =>
      obtain ⟨rfl, rfl, rfl, rfl, rfl, rfl⟩ := hcut
      go_upto_region 8 with fail
      go_cut [4, 5, 6, 7, 46] (fun s4 s5 s6 s7 s wx => s4 = .bool (oidB k) ∧ s5 = .bool (rightsB k) ∧ s6 = .bool (callB k) ∧ s7 = .bool (valueB k) ∧ s = .bool (t1B k r v) ∧ wx = w.alloc (.cells (keyV k 0 c a r v) 30))
      case first =>
        cases hV : valueB k
        all_goals go_wp2_with fail
        all_goals go_meet
        all_goals refine ⟨?_, ?_, ?_, ?_, ?_, rfl⟩
        all_goals go_light
        all_goals simp [t1B, bne, *]
      case rest =>
        obtain ⟨rfl, rfl, rfl, rfl, rfl, rfl⟩ := hcut
        cases h1 : t1B k r v
        · go_upto_region 10 with fail
          go_cut [4, 5, 6, 7, 81] (fun s4 s5 s6 s7 s wx => s4 = .bool (oidB k) ∧ s5 = .bool (rightsB k) ∧ s6 = .bool (callB k) ∧ s7 = .bool (valueB k) ∧ s = .bool (t2B k 0 c) ∧ wx = w.alloc (.cells (keyV k 0 c a r v) 30))
          case first =>
            cases hO : oidB k
            all_goals go_wp2_with fail
            all_goals go_meet
            all_goals refine ⟨?_, ?_, ?_, ?_, ?_, rfl⟩
            all_goals go_light
            all_goals simp [t2B, bne, *]
          case rest =>
            obtain ⟨rfl, rfl, rfl, rfl, rfl, rfl⟩ := hcut
            cases h2 : t2B k 0 c
            · go_upto_region 12 with fail
              go_cut [4, 5, 6, 7, 101] (fun s4 s5 s6 s7 s wx => s4 = .bool (oidB k) ∧ s5 = .bool (rightsB k) ∧ s6 = .bool (callB k) ∧ s7 = .bool (valueB k) ∧ s = .bool (t3B k a) ∧ wx = w.alloc (.cells (keyV k 0 c a r v) 30))
              case first =>
                cases hC : callB k
                all_goals go_wp2_with fail
                all_goals go_meet
                all_goals refine ⟨?_, ?_, ?_, ?_, ?_, rfl⟩
                all_goals go_light
                all_goals simp [t3B, bne, *]
              case rest =>
                obtain ⟨rfl, rfl, rfl, rfl, rfl, rfl⟩ := hcut
                cases h3 : t3B k a
                all_goals go_wp2_with fail
                all_goals go_ret
                all_goals exact ⟨rfl, (Below.refl _ _).alloc (Nat.le_refl _) _⟩
            · go_wp2_with fail
              all_goals go_ret
              all_goals exact ⟨rfl, (Below.refl _ _).alloc (Nat.le_refl _) _⟩
        · go_wp2_with fail
          go_ret
          exact ⟨rfl, (Below.refl _ _).alloc (Nat.le_refl _) _⟩

theorem rcheck_raw (k o c a r v : Int) (w : World) :
    Calls Tryd.prog 6 #[.agg #[.int .i64 k, .int .i64 o, .int .i64 c, .int .i64 a, .int .i64 r, .int .i64 v]] w fun e w' =>
      e = .returned (.int .i64 (if t1B k r v then 2 else if t2B k o c then 2 else if t3B k a then 2 else 0)) ∧ Below w.heap.size w w' := by
  by_cases ho : o = 0
  · subst ho; exact rcheck_raw1 k c a r v w
  · exact rcheck_raw0 k o c a r v w ho

end Go.Proofs.YtlfkfhdcljkhkaaDoor
