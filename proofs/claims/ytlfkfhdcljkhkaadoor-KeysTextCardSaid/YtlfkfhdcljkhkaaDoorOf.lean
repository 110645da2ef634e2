/-
  keys.of answers the row of a key's kind, and whether the key may be; for all keys.
-/
import Derived.Test.YtlfkfhdcljkhkaaDoorKinds
namespace Go.Proofs.YtlfkfhdcljkhkaaDoor
open Go.RowKit

def withinB (has : Bool) (n most : Int) : Bool := (has && decide (0 ≤ n) && decide (n ≤ most)) || (!has && (n == 0))

set_option maxHeartbeats 400000 in
theorem within_any (has : Bool) (n most : Int) (w : World) :
    Calls Tryd.prog 20 #[.bool has, .int .i64 n, .int .i64 most] w fun e w' => e = .returned (.bool (withinB has n most)) ∧ w = w' := by
  cases has
  · go_enter Tryd.func20, Tryd.ntmps20
    go_wp2
    go_ret
    exact ⟨by simp [withinB], rfl⟩
  · by_cases h0 : 0 ≤ n
    · go_enter Tryd.func20, Tryd.ntmps20
      go_wp2
      all_goals go_ret
      all_goals exact ⟨by simp [withinB, *], rfl⟩
    · have h1 : n < 0 := by omega
      have h2 : ¬ (0 ≤ n ∧ n ≤ most) := by omega
      go_enter Tryd.func20, Tryd.ntmps20
      go_wp2
      all_goals go_ret
      all_goals exact ⟨by simp [withinB]; omega, rfl⟩

def nameOf (k : Int) : ByteArray := ⟨(if k = 0 then [118, 111, 105, 100] else if k = 1 then [110, 117, 109, 98, 101, 114] else if k = 2 then [110, 111, 100, 101] else if k = 3 then [112, 97, 103, 101] else if k = 4 then [98, 97, 110, 107]
  else if k = 5 then [112, 114, 111, 99] else if k = 6 then [115, 116, 97, 114, 116] else if k = 7 then [114, 101, 115, 117, 109, 101] else if k = 8 then [100, 105, 115, 99, 114, 105, 109] else if k = 9 then [99, 108, 111, 99, 107]
  else if k = 10 then [99, 104, 101, 99, 107] else [] : List UInt8).toArray⟩
def oidB (k : Int) : Bool := decide (2 ≤ k) && decide (k ≤ 7)
def rightsB (k : Int) : Bool := (k == 2) || (k == 3)
def callB (k : Int) : Bool := k == 7
def valueB (k : Int) : Bool := (k == 1) || (k == 6)
def mostOf (k : Int) : Int := if k = 2 then 7 else if k = 3 then 1 else 0
def wantsOf (k : Int) : Int := if k = 3 then 2 else if oidB k then 1 else 0
def kindV (k : Int) : Array Value := #[.string (nameOf k), .bool (oidB k), .bool (rightsB k), .bool (callB k), .bool (valueB k), .int .i64 (mostOf k), .int .i64 (wantsOf k)]
theorem row_at (k : Int) (h0 : 0 ≤ k) (h1 : k ≤ 10) (w : World) : (Instr.index 56 (.agg kindCells) (.int .i64 k)).run Tryd.prog w = .ok (.agg (kindV k)) w := by
  have h : k = 0 ∨ k = 1 ∨ k = 2 ∨ k = 3 ∨ k = 4 ∨ k = 5 ∨ k = 6 ∨ k = 7 ∨ k = 8 ∨ k = 9 ∨ k = 10 := by omega
  rcases h with rfl | rfl | rfl | rfl | rfl | rfl | rfl | rfl | rfl | rfl | rfl
  all_goals exact (by kernel_rfl : Sem.run _ _ _ = Result.ok _ _)

def ofB (k o c a r v : Int) : Bool := decide (0 ≤ k) && decide (k ≤ 10) && withinB (oidB k) o 63 && withinB (oidB k) c 4294967295 && withinB (callB k) a 4294967295 && decide (0 ≤ r) && (bits .andNot .i64 r (mostOf k) == 0) && (valueB k || (v == 0))

theorem ofB_in (k o c a r v : Int) (h0 : 0 ≤ k) (h1 : k ≤ 10) : ofB k o c a r v = (withinB (oidB k) o 63 && withinB (oidB k) c 4294967295 && withinB (callB k) a 4294967295 && decide (0 ≤ r) && (bits .andNot .i64 r (mostOf k) == 0) && (valueB k || (v == 0))) := by
  unfold ofB
  rw [decide_eq_true h0, decide_eq_true h1]
  simp only [Bool.true_and]
theorem kindV_one (k : Int) : (kindV k).all (·.oneCell') = true := by unfold kindV; simp [Value.oneCell']
abbrev keyV (k o c a r v : Int) : Array Value := #[.int .i64 k, .int .i64 o, .int .i64 c, .int .i64 a, .int .i64 r, .int .i64 v]
theorem info_kind : (Tryd.prog.info? 42).map (·.size) = some 7 := by kernel_rfl

set_option maxHeartbeats 800000 in
theorem of_in (k o c a r v : Int) (w : World) (h0 : 0 ≤ k) (h1 : k ≤ 10) :
    Calls Tryd.prog 12 #[.agg #[.int .i64 k, .int .i64 o, .int .i64 c, .int .i64 a, .int .i64 r, .int .i64 v]] w fun e w' =>
      e = .returned (.tuple #[.agg (kindV k), .bool (ofB k o c a r v)]) ∧ Below w.heap.size w w' := by
  have hx := row_at k h0 h1
  unfold kindV at hx
  go_enter Tryd.func12, Tryd.ntmps12
  go_upto_region 3 with fail
  go_cut [4] (fun s4 wx => ∃ g : Nat, s4 = .pointer (some ⟨g, 0, none⟩) ∧ Blk wx w.heap.size 30 (keyV k o c a r v) ∧ (∃ cs, cs.size = 7 ∧ Blk wx (w.heap.size + 1) 42 cs) ∧ Blk wx g 42 (kindV k) ∧ Below w.heap.size w wx)
  case first =>
    go_region_with (go_at_call 19; refine (kinds_any _).mono ?_; rintro e w' ⟨rfl, rfl⟩)
    all_goals go_wp2_with fail
    all_goals go_meet
    all_goals refine ⟨_, rfl, (((Blk.new _ _ _).alloc _).alloc _).alloc _, ⟨_, ?_, ((Blk.new' ?_).alloc _).alloc _⟩, ?_, ?_⟩
    all_goals first
      | exact (((((Below.refl _ _).alloc (Nat.le_refl _) _).alloc (by simp) _).alloc (by simp; omega) _).alloc (by simp; omega) _).drew
      | exact (Blk.new' (by simp)).drew
      | exact ((Blk.new' (by simp)).alloc _).drew
      | rfl
      | (simp; done)
  case rest =>
    obtain ⟨g, rfl, hk, ⟨cs, hcs, hr⟩, hrow, hb⟩ := hcut
    have k1 := hk.cell_is 1 rfl
    have k2 := hk.cell_is 2 rfl
    have k3 := hk.cell_is 3 rfl
    have k4 := hk.cell_is 4 rfl
    have k5 := hk.cell_is 5 rfl
    have r1 : wc.cell? ⟨g, 1, none⟩ = some (.bool (oidB k)) := hrow.cell_is 1 rfl
    have r3 : wc.cell? ⟨g, 3, none⟩ = some (.bool (callB k)) := hrow.cell_is 3 rfl
    have r4 : wc.cell? ⟨g, 4, none⟩ = some (.bool (valueB k)) := hrow.cell_is 4 rfl
    have r5 : wc.cell? ⟨g, 5, none⟩ = some (.int .i64 (mostOf k)) := hrow.cell_is 5 rfl
    have HF := Lib.hid (ofB_in k o c a r v h0 h1)
    go_upto_region 5 with fail
    go_cut [6] (fun s6 wx => s6 = .bool (ofB k o c a r v) ∧ wx = wc)
    case first =>
      go_wp2_with (go_at_call 20; refine (within_any _ _ _ _).mono ?_; rintro e w' ⟨rfl, rfl⟩)
      all_goals go_meet
      all_goals refine ⟨?_, rfl⟩
      all_goals rw [HF.out]
      all_goals (go_light; first | (simp [*]; done) | (rw [decide_eq_false (by omega : ¬ 0 ≤ r)]; simp))
    case rest =>
      obtain ⟨rfl, rfl⟩ := hcut
      clear HF
      go_wp2_with (first
        | (refine wpList_load_row rfl 42 _ rfl g rfl 42 (kindV k) (0, 0) _ hrow Tryd.underlying42 rfl info_kind ?_)
        | (refine wpList_store_row rfl 42 _ _ rfl (w.heap.size + 1) (kindV k) rfl rfl 42 cs hr info_kind hcs (kindV_one k) ?_))
      exact bodyPost_ret (results_row_tmp Tryd.results12 _ _ (w.heap.size + 1) 42 (kindV k) (0, 0) _ rfl (hr.row _) Tryd.underlying42 rfl info_kind _ rfl) rfl ⟨rfl, below_row hb _ (by omega)⟩

end Go.Proofs.YtlfkfhdcljkhkaaDoor
