/-
  Opening an object; the zero object.
-/
import Derived.Test.YtlfkfhdcljkhkaaCounts
import Derived.Test.YtlfkfhdcljkhkaaOpen
namespace Go.Proofs.Ytlfkfhdcljkhkaa
open Go.ChangeShapes Go.WideShapes Go.ChangeAt Go.RowKit Go.Deep

def zeroObject : Array Value := (List.replicate 99 (Value.int .i64 0) ++ List.replicate 64 (Value.int .u8 0)).toArray

theorem open_object {H : Type} {enc : TypeId × Value → H} {w : World} {base : Nat} {spare : Nat → Bool} {held : Bool} {r : Reach} {b0 : Nat} {v : Value} {d : DataW H} {p : List MemPlace}
    (hv : Value.okWide Try.prog w r b0 50 v) (h : DataW.Trod enc Try.prog w base spare held 50 v d p) :
    ∃ (cs : Array Value) (kd ct cl : Int), v = .agg cs ∧ ObjOk cs kd ct cl := by
  obtain ⟨cs, rfl, hsz⟩ := okWide_struct Try.underlying50 hv
  obtain ⟨fuel, hf⟩ := h
  obtain ⟨xs, n, _, _, hlen, hxl, hg⟩ := DataW.trod_struct Try.underlying50 hf
  have h163 : cs.size = 163 := hsz.trans (by kernel_rfl)
  have c0 : Try.prog.cellsOf 33 = 1 := by kernel_rfl
  have c1 : Try.prog.cellsOf 2 = 1 := by kernel_rfl
  have g0 : DataW.trod enc Try.prog w base spare held n 33 ((cs.toList.drop 0).take (Try.prog.cellsOf 33)) = xs[0]? := hg 0 _ rfl
  have g1 : DataW.trod enc Try.prog w base spare held n 2 ((cs.toList.drop 1).take (Try.prog.cellsOf 2)) = xs[1]? := hg 1 _ rfl
  have g2 : DataW.trod enc Try.prog w base spare held n 2 ((cs.toList.drop 2).take (Try.prog.cellsOf 2)) = xs[2]? := hg 2 _ rfl
  have len : 5 = xs.length := by rw [hxl]; rfl
  obtain ⟨x0, e0⟩ : ∃ x, xs[0]? = some x := ⟨_, List.getElem?_eq_getElem (by omega)⟩
  obtain ⟨x1, e1⟩ : ∃ x, xs[1]? = some x := ⟨_, List.getElem?_eq_getElem (by omega)⟩
  obtain ⟨x2, e2⟩ : ∃ x, xs[2]? = some x := ⟨_, List.getElem?_eq_getElem (by omega)⟩
  rw [e0, c0] at g0
  rw [e1, c1] at g1
  rw [e2, c1] at g2
  obtain ⟨kd, hk, _, _⟩ := DataW.trod_int Try.underlying33 g0
  obtain ⟨ct, ht, _, _⟩ := DataW.trod_int Try.underlying2 g1
  obtain ⟨cl, hl, _, _⟩ := DataW.trod_int Try.underlying2 g2
  have pick : ∀ (j : Nat) (u : Value), (cs.toList.drop j).take 1 = [u] → cs[j]? = some u := fun j u hu => by
    have e : ((cs.toList.drop j).take 1)[0]? = some u := by rw [hu]; rfl
    rw [List.getElem?_take_of_lt (by omega), List.getElem?_drop] at e
    simpa using e
  exact ⟨cs, kd, ct, cl, rfl, h163, pick 0 _ hk, pick 1 _ ht, pick 2 _ hl⟩

end Go.Proofs.Ytlfkfhdcljkhkaa
