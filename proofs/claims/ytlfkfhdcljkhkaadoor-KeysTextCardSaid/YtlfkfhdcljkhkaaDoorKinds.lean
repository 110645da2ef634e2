/-
  keys.kinds answers the fixed table of the eleven kinds of keys; without conditions.
-/
import Derived.Test.YtlfkfhdcljkhkaaDoorMem
namespace Go.Proofs.YtlfkfhdcljkhkaaDoor
open Go.RowKit

def str (l : List UInt8) : Value := .string ⟨l.toArray⟩
def kindRow (nm : List UInt8) (oid rights call value : Bool) (most wants : Int) : List Value :=
  [str nm, .bool oid, .bool rights, .bool call, .bool value, .int .i64 most, .int .i64 wants]
def kindCells : Array Value := (
  kindRow [118, 111, 105, 100] false false false false 0 0 ++
  kindRow [110, 117, 109, 98, 101, 114] false false false true 0 0 ++
  kindRow [110, 111, 100, 101] true true false false 7 1 ++
  kindRow [112, 97, 103, 101] true true false false 1 2 ++
  kindRow [98, 97, 110, 107] true false false false 0 1 ++
  kindRow [112, 114, 111, 99] true false false false 0 1 ++
  kindRow [115, 116, 97, 114, 116] true false false true 0 1 ++
  kindRow [114, 101, 115, 117, 109, 101] true false true false 0 1 ++
  kindRow [100, 105, 115, 99, 114, 105, 109] false false false false 0 0 ++
  kindRow [99, 108, 111, 99, 107] false false false false 0 0 ++
  kindRow [99, 104, 101, 99, 107] false false false false 0 0).toArray
def zeroRow : List Value := kindRow [] false false false false 0 0
def zero72 : Array Value := (zeroRow ++ zeroRow ++ zeroRow ++ zeroRow ++ zeroRow ++ zeroRow ++ zeroRow ++ zeroRow ++ zeroRow ++ zeroRow ++ zeroRow).toArray
theorem zeroV72 (w : World) : (zeroValue 56).run Tryd.prog w = .ok (.agg zero72) w := by kernel_rfl
theorem zero72_size : zero72.size = 77 := by kernel_rfl
theorem zero72_ne : ¬ zero72 = #[] := by intro h; have := zero72_size; rw [h] at this; cases this
theorem wpList_build_is {P : Program} {ops : Array Oper} {rest : List Oper} {o : Oper} {a : Act} {w : World} {Q : Exit → Act → World → Prop} (hg : o.guard = none) (t : TypeId) (parts : Array (Nat × Operand)) (ho : o.op = .build t parts)
    (cells : Array Value) (hf : P.built t (parts.map fun (i, x) => (i, a.eval x)).toList = some cells)
    (h : wpList P ops Q rest (a.put o.dst (.agg cells)) w) : wpList P ops Q (o :: rest) a w :=
  wpList_build hg t parts ho (by rw [hf]; rfl) (by rw [hf]; exact h)
theorem kind_info : (Tryd.prog.info? 56).map (·.size) = some kindCells.size := by kernel_rfl
theorem kind_size : zero72.size = kindCells.size := by kernel_rfl
theorem kind_one : kindCells.all (·.oneCell') = true := by kernel_rfl

set_option maxHeartbeats 400000 in
theorem kinds_any (w : World) :
    Calls Tryd.prog 19 #[] w fun e w' => e = .returned (.agg kindCells) ∧ w.alloc (.cells kindCells 56) = w' := by
  have hz := zeroV72
  have hn := zero72_ne
  go_enter Tryd.func19, Tryd.ntmps19
  go_wp2_with (first
    | (refine wpList_build_is rfl 56 _ rfl kindCells (by kernel_rfl) ?_)
    | (refine wpList_store_row rfl 56 _ _ rfl w.heap.size kindCells rfl rfl 56 zero72 (heap_alloc_last _ _) kind_info kind_size kind_one ?_; rw [World.setRow_alloc_new]))
  exact bodyPost_ret (v := .agg kindCells) (results_cell_row Tryd.results19 _ _ w.heap.size 56 kindCells (0, 0) _ rfl (heap_alloc_last _ _) Tryd.underlying56 rfl kind_info) rfl ⟨rfl, rfl⟩

end Go.Proofs.YtlfkfhdcljkhkaaDoor
