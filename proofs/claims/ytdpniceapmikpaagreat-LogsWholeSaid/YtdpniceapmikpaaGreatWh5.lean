/-
  DERIVED: THE SHELF's CONTRACTS AT THIS DUMP, IN PLAIN WORDS (tools/lay-plain.mjs out of 'TryzShelf.lean', which tools/lay-shelf.mjs wrote): THE SAME DECLARATIONS UNDER THE SAME NAMES: 'import', 'namespace', 'open', 'def', 'theorem' AND NOTHING ELSE: no command of the shelf's: FOR A HAND-IN. Each laying: the table of numbers ('.._ren') and one theorem, a field a fact of the dump's own or the kernel's comparison; each contract: ONE APPLICATION.
  append of bytes that are read to a slice of the call's own, empty or not, nil or not.
  The contracts of slices.Concat and sums.joined, for slices of bytes.
  The contracts of sums.Seal and sums.Sealed, for all bytes.
  The contracts of the reference's Seal and Sealed, for all bytes.
-/
import Derived.Ground.SlgnProg
import Derived.Shelf.SlicesE.Equal
import Derived.Shelf.Spec.SlicesGrow
import Derived.Ground.Names8Prog
import Derived.Ground.SlgfProg
import Derived.Shelf.SlicesE.IndexFunc
import Derived.Shelf.Bytes.SlEqualAll
import Derived.Shelf.Bytes.Small
import Derived.Test.YtdpniceapmikpaaGreatProg
import Derived.Maps.AppendAt
import Derived.Deep.AppendLies
import Derived.Laws.IdiomStrings
import Derived.Lib.BufferRead
import Derived.Test.YtdpniceapmikpaaGreatWh4
set_option linter.unusedVariables false
set_option linter.unusedSimpArgs false
namespace Go.Proofs
open Go.Shelf
def Tryz.laysSlE33_f43_ren : Go.Shelf.Ren := ⟨fun | 33 => 43 | n => n, fun | 22 => 24 | 23 => 3 | 4 => 4 | 3 => 3 | 0 => 0 | n => n, fun | n => n⟩
theorem Tryz.laysSlE33_f43 : Go.Proofs.SlLaysE.n33 Tryz.prog Tryz.laysSlE33_f43_ren := {
 mixed := by kernel_rfl
 f33 := ⟨Tryz.f43.name, by decide, Tryz.func43.trans (congrArg some (by kernel_rfl))⟩
 t0 := Tryz.underlying0
 a0 := Tryz.isAgg0
 z0 := Tryz.sizeOf0
 v0 := Tryz.zeroValue0
 t3 := Tryz.underlying3
 a3 := Tryz.isAgg3
 z3 := Tryz.sizeOf3
 v3 := Tryz.zeroValue3
 t4 := Tryz.underlying4
 a4 := Tryz.isAgg4
 z4 := Tryz.sizeOf4
 v4 := Tryz.zeroValue4
 t22 := Tryz.underlying24
 a22 := Tryz.isAgg24
 z22 := Tryz.sizeOf24
 v22 := Tryz.zeroValue24
 a23 := Tryz.isAgg3
 z23 := Tryz.sizeOf3 }
open Go.RowKit Go.Lib in
/-- slices.Equal: "Equal reports whether two slices are equal: the same length and all elements equal. .. Empty and nil slices are considered equal. Floating point NaNs are not considered equal.": IT RETURNS 'Lib.allEq eq (the one's elements) (the other's)'; the world is as it was but for the count of draws. (LAID AT THE INSTANCE 'slices.Equal[[]int,int]': no walk: one application.) -/
theorem Tryz.slices_Equal {α : Type} [Inhabited α] (enc : α → Value) (eq : α → α → Bool) (hne : NeqAt Tryz.prog 3 enc eq) (b1 o1 n c b2 o2 m d : Nat) (xs ys : List α) (w : World) (hx : n ≤ xs.length) (hy : m ≤ ys.length) (hbig : n ≤ 9223372036854775807) (hbig2 : m ≤ 9223372036854775807) (hc1 : ∀ j, j < xs.length → w.cell? ⟨b1, o1 + j, none⟩ = some (enc xs[j]!)) (hc2 : ∀ j, j < ys.length → w.cell? ⟨b2, o2 + j, none⟩ = some (enc ys[j]!)) :
  Calls Tryz.prog 43 #[.slice (some ⟨b1, o1, none⟩) n c, .slice (some ⟨b2, o2, none⟩) m d] w fun e w' => e = .returned (.bool (Lib.allEq eq (xs.take n) (ys.take m))) ∧ ∃ q, w' = w.drewN q := AnyE.slices_Equal Tryz.laysSlE33_f43 enc eq hne b1 o1 n c b2 o2 m d xs ys w hx hy hbig hbig2 hc1 hc2
def Tryz.laysSlH6_f127_ren : Go.Shelf.Ren := ⟨fun | 6 => 127 | n => n, fun | 22 => 24 | 23 => 3 | 25 => 156 | 3 => 3 | 0 => 0 | 4 => 4 | n => n, fun | n => n⟩
theorem Tryz.laysSlH6_f127 : Go.Proofs.SlLaysH.n6 Tryz.prog Tryz.laysSlH6_f127_ren := {
 mixed := by kernel_rfl
 f6 := ⟨Tryz.f127.name, by decide, Tryz.func127.trans (congrArg some (by kernel_rfl))⟩
 t0 := Tryz.underlying0
 a0 := Tryz.isAgg0
 z0 := Tryz.sizeOf0
 v0 := Tryz.zeroValue0
 t3 := Tryz.underlying3
 a3 := Tryz.isAgg3
 z3 := Tryz.sizeOf3
 v3 := Tryz.zeroValue3
 t4 := Tryz.underlying4
 a4 := Tryz.isAgg4
 z4 := Tryz.sizeOf4
 v4 := Tryz.zeroValue4
 t22 := Tryz.underlying24
 a22 := Tryz.isAgg24
 z22 := Tryz.sizeOf24
 v22 := Tryz.zeroValue24
 a23 := Tryz.isAgg3
 z23 := Tryz.sizeOf3
 t25 := Tryz.underlying156
 a25 := Tryz.isAgg156
 z25 := Tryz.sizeOf156
 v25 := Tryz.zeroValue156 }
open Go.RowKit Go.Lib in
/-- slices.IndexFunc: "IndexFunc returns the first index i satisfying f(s[i]), or -1 if none do." (LAID AT THE INSTANCE 'slices.IndexFunc[[]int,int]': no walk: one application.) -/
theorem Tryz.slices_IndexFunc {α : Type} [Inhabited α] (enc : α → Value) (p : α → Bool) (g : Nat) (lb : Array Value) (eg : ∀ args w, (callFunc g args).run Tryz.prog w = .ok (.enter g args) w) (b off n c : Nat) (zs : List α) (w : World) (hp : PredAt Tryz.prog g lb enc p w) (hz : n ≤ zs.length) (hbig : n ≤ 9223372036854775807) (hc : ∀ j, j < zs.length → w.cell? ⟨b, off + j, none⟩ = some (enc zs[j]!)) :
  Calls Tryz.prog 127 #[.slice (some ⟨b, off, none⟩) n c, .func (.func g) #[] lb] w fun e w' => e = .returned (.int .i64 (Lib.idxBy (fun _ y => p y) (zs.take n) default)) ∧ ∃ q, w' = w.drewN q := AnyE.slices_IndexFunc Tryz.laysSlH6_f127 enc p g lb eg b off n c zs w hp hz hbig hc
open Go.RowKit Go.Lib in
/-- The same at a slice of length 0, a nil one too: the predicate is not called: nothing is asked of it. (LAID AT THE INSTANCE 'slices.IndexFunc[[]int,int]': no walk: one application.) -/
theorem Tryz.slices_IndexFunc_empty {α : Type} [Inhabited α] (a : Option Addr) (c : Nat) (fv : Value) (w : World) :
  Calls Tryz.prog 127 #[.slice a 0 c, fv] w fun e w' => e = .returned (.int .i64 (-1)) ∧ w' = w := AnyE.slices_IndexFunc_empty Tryz.laysSlH6_f127 a c fv w
def Tryz.laysSlH8_f78_ren : Go.Shelf.Ren := ⟨fun | 8 => 78 | 6 => 127 | n => n, fun | 22 => 24 | 23 => 3 | 25 => 156 | 4 => 4 | 3 => 3 | 0 => 0 | n => n, fun | n => n⟩
theorem Tryz.laysSlH8_f78 : Go.Proofs.SlLaysH.n8 Tryz.prog Tryz.laysSlH8_f78_ren := {
 mixed := by kernel_rfl
 f6 := ⟨Tryz.f127.name, by decide, Tryz.func127.trans (congrArg some (by kernel_rfl))⟩
 f8 := ⟨Tryz.f78.name, by decide, Tryz.func78.trans (congrArg some (by kernel_rfl))⟩
 t0 := Tryz.underlying0
 a0 := Tryz.isAgg0
 z0 := Tryz.sizeOf0
 v0 := Tryz.zeroValue0
 t3 := Tryz.underlying3
 a3 := Tryz.isAgg3
 z3 := Tryz.sizeOf3
 v3 := Tryz.zeroValue3
 t4 := Tryz.underlying4
 a4 := Tryz.isAgg4
 z4 := Tryz.sizeOf4
 v4 := Tryz.zeroValue4
 t22 := Tryz.underlying24
 a22 := Tryz.isAgg24
 z22 := Tryz.sizeOf24
 v22 := Tryz.zeroValue24
 a23 := Tryz.isAgg3
 z23 := Tryz.sizeOf3
 t25 := Tryz.underlying156
 a25 := Tryz.isAgg156
 z25 := Tryz.sizeOf156
 v25 := Tryz.zeroValue156 }
open Go.RowKit Go.Lib in
/-- slices.ContainsFunc: "ContainsFunc reports whether at least one element e of s satisfies f(e).": ITS CALLEE slices.IndexFunc IS MET BY ITS OWN CONTRACT. (LAID AT THE INSTANCE 'slices.ContainsFunc[[]int,int]': no walk: one application.) -/
theorem Tryz.slices_ContainsFunc {α : Type} [Inhabited α] (enc : α → Value) (p : α → Bool) (g : Nat) (lb : Array Value) (eg : ∀ args w, (callFunc g args).run Tryz.prog w = .ok (.enter g args) w) (b off n c : Nat) (zs : List α) (w : World) (hp : PredAt Tryz.prog g lb enc p w) (hz : n ≤ zs.length) (hbig : n ≤ 9223372036854775807) (hc : ∀ j, j < zs.length → w.cell? ⟨b, off + j, none⟩ = some (enc zs[j]!)) :
  Calls Tryz.prog 78 #[.slice (some ⟨b, off, none⟩) n c, .func (.func g) #[] lb] w fun e w' => e = .returned (.bool ((zs.take n).any p)) ∧ ∃ q, w' = w.drewN q := AnyE.slices_ContainsFunc Tryz.laysSlH8_f78 enc p g lb eg b off n c zs w hp hz hbig hc
open Go.RowKit Go.Lib in
/-- The same at a slice of length 0, a nil one too. (LAID AT THE INSTANCE 'slices.ContainsFunc[[]int,int]': no walk: one application.) -/
theorem Tryz.slices_ContainsFunc_empty {α : Type} [Inhabited α] (a : Option Addr) (c : Nat) (fv : Value) (w : World) :
  Calls Tryz.prog 78 #[.slice a 0 c, fv] w fun e w' => e = .returned (.bool false) ∧ w' = w := AnyE.slices_ContainsFunc_empty Tryz.laysSlH8_f78 a c fv w
def Tryz.laysnb115_ren : Go.Shelf.Ren := ⟨fun | 115 => 45 | n => n, fun | 37 => 26 | 4 => 4 | 9 => 9 | 5 => 5 | n => n, fun | n => n⟩
theorem Tryz.laysnb115 : Go.Proofs.Lays.nb115 Tryz.prog Tryz.laysnb115_ren := {
 mixed := by kernel_rfl
 f115 := Tryz.func45.trans (congrArg some (by kernel_rfl))
 t4 := Tryz.underlying4
 a4 := Tryz.isAgg4
 z4 := Tryz.sizeOf4
 v4 := Tryz.zeroValue4
 t9 := Tryz.underlying9
 a9 := Tryz.isAgg9
 z9 := Tryz.sizeOf9
 v9 := Tryz.zeroValue9
 t37 := Tryz.underlying26
 a37 := Tryz.isAgg26
 z37 := Tryz.sizeOf26
 v37 := Tryz.zeroValue26
 t5 := Tryz.underlying5
 a5 := Tryz.isAgg5
 z5 := Tryz.sizeOf5
 v5 := Tryz.zeroValue5 }
/-- bytes.Equal: WHOLE. (LAID: no walk: one application.) -/
theorem Tryz.bytes_Equal_all (p1 p2 : Option Addr) (n c m d : Nat) (xs ys : List Int) (w : World) (hx : xs.length = n) (hy : ys.length = m) (h1 : Lib.BytesIn w p1 n xs) (h2 : Lib.BytesIn w p2 m ys) :
  Calls Tryz.prog 45 #[.slice p1 n c, .slice p2 m d] w fun e w' => e = .returned (.bool (Lib.bytesOf xs == Lib.bytesOf ys)) ∧ w' = w := Any.bytes_Equal_all Tryz.laysnb115 p1 p2 n c m d xs ys w hx hy h1 h2
def Tryz.lays115_ren : Go.Shelf.Ren := ⟨fun | 115 => 45 | n => n, fun | 37 => 26 | 4 => 4 | 9 => 9 | 5 => 5 | n => n, fun | n => n⟩
theorem Tryz.lays115 : Go.Proofs.Lays.n115 Tryz.prog Tryz.lays115_ren := {
 mixed := by kernel_rfl
 f115 := Tryz.func45.trans (congrArg some (by kernel_rfl))
 t4 := Tryz.underlying4
 a4 := Tryz.isAgg4
 z4 := Tryz.sizeOf4
 v4 := Tryz.zeroValue4
 t9 := Tryz.underlying9
 a9 := Tryz.isAgg9
 z9 := Tryz.sizeOf9
 v9 := Tryz.zeroValue9
 t37 := Tryz.underlying26
 a37 := Tryz.isAgg26
 z37 := Tryz.sizeOf26
 v37 := Tryz.zeroValue26 }
/-- bytes.Equal: "Equal reports whether a and b are the same length and contain the same bytes. A nil argument is equivalent to an empty slice.": IT RETURNS 'the bytes of the one == the bytes of the other'; the world is as it was. THE TWO ARGUMENTS COME AS WHATEVER VALUES, each with the one fact that the walk wants of it: what 'string(..)' of it gives: for a slice whose cells you know: 'run_convert_bytes_arg' (Derived/Laws/BytesArg.lean) hands that fact; for a nil one: 'run_convert_bytes_nil' (with xs := []). (LAID: no walk: one application.) -/
theorem Tryz.bytes_Equal (v1 v2 : Value) (xs ys : List Int) (w : World) (h1 : (convert 26 9 v1).run Tryz.prog w = .ok (.string (strOfNums xs)) w) (h2 : (convert 26 9 v2).run Tryz.prog w = .ok (.string (strOfNums ys)) w) :
  Calls Tryz.prog 45 #[v1, v2] w fun e w' => e = .returned (.bool (Lib.bytesOf xs == Lib.bytesOf ys)) ∧ w' = w := Any.bytes_Equal Tryz.lays115 v1 v2 xs ys w h1 h2
def Tryz.lays84_f166_ren : Go.Shelf.Ren := ⟨fun | 4 => 166 | n => n, fun | 22 => 26 | 25 => 5 | 3 => 3 | 4 => 4 | 9 => 9 | 20 => 20 | 0 => 0 | n => n, fun | n => n⟩
theorem Tryz.lays84_f166 : Go.Proofs.Lays8.n4 Tryz.prog Tryz.lays84_f166_ren := {
 mixed := by kernel_rfl
 f4 := ⟨Tryz.f166.name, by decide, Tryz.func166.trans (congrArg some (by kernel_rfl))⟩
 t0 := Tryz.underlying0
 a0 := Tryz.isAgg0
 z0 := Tryz.sizeOf0
 v0 := Tryz.zeroValue0
 t3 := Tryz.underlying3
 a3 := Tryz.isAgg3
 z3 := Tryz.sizeOf3
 v3 := Tryz.zeroValue3
 t4 := Tryz.underlying4
 a4 := Tryz.isAgg4
 z4 := Tryz.sizeOf4
 v4 := Tryz.zeroValue4
 t9 := Tryz.underlying9
 a9 := Tryz.isAgg9
 z9 := Tryz.sizeOf9
 v9 := Tryz.zeroValue9
 t20 := Tryz.underlying20
 a20 := Tryz.isAgg20
 z20 := Tryz.sizeOf20
 v20 := Tryz.zeroValue20
 t22 := Tryz.underlying26
 a22 := Tryz.isAgg26
 z22 := Tryz.sizeOf26
 v22 := Tryz.zeroValue26 }
open Go.RowKit Go.Lib in
/-- slices.Grow: NO ROOM. -/
theorem Tryz.slices_Grow_grow (i0 : TypeInfo) (z : Value) (hi0 : Tryz.prog.info? 5 = some i0) (hz0 : i0.zero = some z) (hs0 : 0 < i0.size) (base : Option Addr) (l c n : Nat) (cs : List Value) (w : World) (hlc : l ≤ c) (hroom : c < l + n) (hbig : (l + n) * i0.bytes ≤ 140737488355328) (h63 : l + n ≤ 4611686018427387904) (hcl : cs.length = c * i0.size) (hnil : base = none → c = 0) (hcs : ∀ a, base = some a → ∀ j v, cs[j]? = some v → w.cell? (a.add j) = some v) :
  Calls Tryz.prog 166 #[.slice base l c, .int .i64 n] w fun e w' => e = .returned (.slice (some ⟨w.heap.size, 0, none⟩) l (grownCap w (l + n) c 5)) ∧ w' = w.drew.alloc (.cells (cs.toArray ++ Builtin.zeroCells z.cells (l + n - c) ++ Builtin.zeroCells z.cells (grownCap w (l + n) c 5 - (l + n))) 5) := Any8.slices_Grow_grow Tryz.lays84_f166 i0 z hi0 hz0 hs0 base l c n cs w hlc hroom hbig h63 hcl hnil hcs
open Go.RowKit Go.Lib in
/-- slices.Grow: THERE IS ROOM. -/
theorem Tryz.slices_Grow_room (base : Option Addr) (l c n : Nat) (w : World) (hlc : l ≤ c) (hc63 : c ≤ 9223372036854775807) (hn63 : n ≤ 9223372036854775807) (hroom : l + n ≤ c) :
  Calls Tryz.prog 166 #[.slice base l c, .int .i64 n] w fun e w' => e = .returned (.slice base l c) ∧ w' = w := Any8.slices_Grow_room Tryz.lays84_f166 base l c n w hlc hc63 hn63 hroom
end Go.Proofs
namespace Go.Proofs.YtdpniceapmikpaaGreat
open Go.RowKit

theorem run_append_empty (w : World) {base n : Nat} {v : Value} {xs : List Value} (hown : w.ownsRow base 5 1 v n xs) (ty : TypeId) (c : Nat) :
  (Builtin.append_ #[26, 26] ty #[v, .slice none 0 c]).run Tryz.prog w = .ok v w := by
 obtain ⟨i0, hi0, hz0, hz1, hz2⟩ := info_parts info_u8
 rcases hown.2 with ⟨rfl, rfl⟩ | ⟨g, cap, cur, rfl, _, _, hnc, _⟩
 ·simp [Builtin.append_, run_underlying Tryz.underlying26, sizeOf, typeInfo, hi0, Builtin.lenOf, Builtin.firstCells]
 ·simp [Builtin.append_, run_underlying Tryz.underlying26, sizeOf, typeInfo, hi0, Builtin.lenOf, Builtin.firstCells, hnc, storeCells]

theorem run_append_bytes (w : World) {base B n : Nat} {v : Value} {xs : List Value} (hown : w.ownsRow base 5 1 v n xs) (ty : TypeId) (a : Option Addr) (cap : Nat) (l : List UInt8)
  (hu : BytesIn w B (.slice a l.length cap) l) (hbytes : n + l.length ≤ 140737488355328) (hbase : base ≤ w.heap.size) :
  ∃ v' w', (Builtin.append_ #[26, 26] ty #[v, .slice a l.length cap]).run Tryz.prog w = .ok v' w' ∧ w'.ownsRow base 5 1 v' (n + l.length) (xs ++ l.map vu8) ∧ w.grownBy w' v.ownBlock := by
 obtain ⟨i0, hi0, hz0, hz1, hz2⟩ := info_parts info_u8
 obtain ⟨hm, a', cap', e, hcap, hc⟩ := hu
 injection e with e1 e2 e3
 subst e1
 cases a with
 | none =>
  have hl : l = [] := by
   cases l with
   | nil => rfl
   | cons c l =>
    obtain ⟨g, off, h, _⟩ := hc 0 c rfl
    cases h
  subst hl
  exact ⟨v, w, run_append_empty w hown ty cap, by simpa using hown, World.grownBy.refl w _⟩
 | some ad =>
  have hnews : ∀ j u, (l.map vu8)[j]? = some u → w.cell? (ad.add j) = some u := by
   intro j u hj
   rw [List.getElem?_map] at hj
   obtain ⟨c, hcj, rfl⟩ := Option.map_eq_some_iff.1 hj
   obtain ⟨g, off, h, _, hcell⟩ := hc j c hcj
   obtain rfl := Option.some.inj h
   rw [add_at]
   exact hcell
  obtain ⟨v', w', hrun, h2, h3, _, _⟩ := run_append_own_at (P := Tryz.prog) w base 26 ty 5 i0 (.int .u8 0) 1 1 Tryz.underlying26 hi0 hz0 hz1 hz2 rfl (by omega) v n xs hown ad l.length cap (l.map vu8) (by simp) hnews
   (by intro u hu; obtain ⟨c, _, rfl⟩ := List.mem_map.1 hu; rfl) (by unfold maxLen; omega) (by omega) hbase
  exact ⟨v', w', hrun, h2, h3⟩

theorem wpList_append_bytes (w : World) {ops : Array Oper} {rest : List Oper} {o : Oper} {a : Act} {Q : Exit → Act → World → Prop} (hgd : o.guard = none) (s x : Operand)
  (ho : o.op = .call { callee := .builtin .append, args := #[s, x], argTypes := #[26, 26] })
  (base B n : Nat) (v : Value) (xs : List Value) (hs : a.eval s = v) (hown : w.ownsRow base 5 1 v n xs) (A : Option Addr) (m cap : Nat) (l : List UInt8) (hx : a.eval x = .slice A m cap) (hm : l.length = m)
  (hu : BytesIn w B (.slice A m cap) l) (hbytes : n + m ≤ 140737488355328) (hbase : base ≤ w.heap.size)
  (h : ∀ v' w', w'.ownsRow base 5 1 v' (n + m) (xs ++ l.map vu8) → w.grownBy w' v.ownBlock → wpList Tryz.prog ops Q rest (a.put o.dst v') w') : wpList Tryz.prog ops Q (o :: rest) a w := by
 subst hm
 refine wpList_plain hgd fun _ hK => ?_
 obtain ⟨v', w', hrun, h2, h3⟩ := run_append_bytes w hown o.type A cap l hu hbytes hbase
 unfold Oper.wp execOp
 simp only [ho, resolve, invoke, builtin, Sem.run_bind, Sem.run_pure, Result.andThen_ok, List.map_toArray, List.map_cons, List.map_nil, hs, hx, hrun]
 exact hK _ _ (h v' w' h2 h3)

end Go.Proofs.YtdpniceapmikpaaGreat
namespace Go.Proofs.YtdpniceapmikpaaGreat
open Go.RowKit

/-- a slice of slices of bytes that is read -/
def SlicesIn (W : World) (B : Nat) (v : Value) (ls : List (List UInt8)) : Prop :=
 ∃ g off cap, v = .slice (some ⟨g, off, none⟩) ls.length cap ∧ g < B ∧ ∀ i l, ls[i]? = some l → ∃ a c, W.cell? ⟨g, off + i, none⟩ = some (.slice a l.length c) ∧ BytesIn W B (.slice a l.length c) l
theorem lenAll_take (ls : List (List UInt8)) (i : Nat) (l : List UInt8) (h : ls[i]? = some l) : (ls.take (i + 1)).flatten = (ls.take i).flatten ++ l := by
 rw [List.take_add_one, h]
 simp
theorem lenAll_le (ls : List (List UInt8)) (i : Nat) : (ls.take i).flatten.length ≤ ls.flatten.length := by
 have h : ls.flatten = (ls.take i).flatten ++ (ls.drop i).flatten := by rw [← List.flatten_append, List.take_append_drop]
 rw [h, List.length_append]
 omega

theorem grow_nil (n : Nat) (w : World) (hn : n ≤ 140737488355328) : Calls Tryz.prog 166 #[.slice none 0 0, .int .i64 n] w fun e w' =>
  ∃ v, e = .returned v ∧ w'.ownsRow w.heap.size 5 1 v 0 [] ∧ Below w.heap.size w w' := by
 obtain ⟨i0, hi0, hz0, hz1, hz2⟩ := info_parts info_u8
 by_cases h0 : n = 0
 ·subst h0
  refine (Tryz.slices_Grow_room none 0 0 0 w (by omega) (by omega) (by omega) (by omega)).mono ?_
  rintro e w' ⟨rfl, rfl⟩
  exact ⟨_, rfl, World.ownsRow_nil _ _ _ _, Below.refl _ _⟩
 ·refine (Tryz.slices_Grow_grow i0 _ hi0 hz0 (by omega) none 0 0 n [] w (by omega) (by omega) (by rw [hz2]; omega) (by omega) (by simp) (fun _ => rfl) (fun a h => by cases h)).mono ?_
  rintro e w' ⟨rfl, rfl⟩
  have hg := grownCap_ge w (0 + n) 0 5
  have hg2 := grownCap_le_maxLen w (0 + n) 0 5 (by unfold maxLen; omega)
  refine ⟨_, rfl, ?_, (Below.refl _ _).drew.alloc (Nat.le_refl _) _⟩
  refine ⟨rfl, .inr ⟨w.heap.size, grownCap w (0 + n) 0 5, _, rfl, Nat.le_refl _, heap_alloc_new w.drew _, by omega, hg2, ?_, by simp⟩⟩
  simp only [Nat.zero_add] at hg ⊢
  simp [size_zeroCells, Value.cells]
  omega

set_option maxRecDepth 100000 in
set_option maxHeartbeats 2000000 in
theorem concat_any (v : Value) (ls : List (List UInt8)) (w : World) (hv : SlicesIn w w.heap.size v ls) (ht : ls.flatten.length ≤ 1073741824) (hn : ls.length ≤ 1073741824) :
  Calls Tryz.prog 165 #[v] w fun e w' => ∃ u, e = .returned u ∧ w'.ownsRow w.heap.size 5 1 u ls.flatten.length (ls.flatten.map vu8) ∧ Below w.heap.size w w' := by
 obtain ⟨g, off, cap, rfl, hg, hc⟩ := hv
 go_enter Tryz.func165, Tryz.ntmps165
 go_wp2_with fail
 go_loopw [3, 11] (fun s i wr => ∃ j : Nat, j ≤ ls.length ∧ i = .int .i64 j ∧ s = .int .i64 (((ls.take j).flatten.length : Nat) : Int) ∧ w = wr) (fun _ i _ => ls.length - (intOf i).toNat)
 case atStart => exact ⟨0, by omega, rfl, rfl, rfl⟩
 case round =>
  obtain ⟨j, hj, rfl, rfl, rfl⟩ := hrel
  by_cases hlt : j < ls.length
  ·obtain ⟨a, c, hcell, hb⟩ := hc j _ (List.getElem?_eq_getElem hlt)
   have hT := lenAll_take ls j _ (List.getElem?_eq_getElem hlt)
   have hle := lenAll_le ls (j + 1)
   rw [hT, List.length_append] at hle
   have HT := Lib.hid (show (ls.take (j + 1)).flatten.length = (ls.take j).flatten.length + (ls[j]'hlt).length by rw [hT, List.length_append])
   clear hT hc
   generalize ls[j]'hlt = l at *
   generalize (ls.take j).flatten.length = N at *
   go_wp2_with fail
   refine ⟨⟨j + 1, by omega, by go_num, ?_, trivial⟩, by simp [intOf] <;> omega⟩
   rw [HT.out]; congr 1
  ·obtain rfl : j = ls.length := by omega
   rw [List.take_length]
   obtain ⟨T, hT⟩ : ∃ T, T = ls.flatten.length := ⟨_, rfl⟩
   rw [← hT] at ht ⊢
   have HT := Lib.hid hT
   clear hT
   go_wp2_with fail
   refine (grow_nil T w (by omega)).mono ?_; rintro e w1 ⟨u0, rfl, hO, hB⟩
   have HO := Lib.hid hO
   clear hO
   have hc1 : ∀ i l, ls[i]? = some l → ∃ a c, w1.cell? ⟨g, off + i, none⟩ = some (.slice a l.length c) ∧ BytesIn w1 w.heap.size (.slice a l.length c) l := by
    intro i l h
    obtain ⟨a, c, h1, h2⟩ := hc i l h
    exact ⟨a, c, (hB.cell (p := ⟨g, off + i, none⟩) hg).trans h1, h2.below hB (Nat.le_refl _)⟩
   have HC0 := Lib.hid hc
   have HC := Lib.hid hc1
   clear hc hc1
   go_wp2_with fail
   go_loopw [6, 27] (fun u i wx => ∃ j : Nat, j ≤ ls.length ∧ i = .int .i64 j ∧ wx.ownsRow w.heap.size 5 1 u (ls.take j).flatten.length ((ls.take j).flatten.map vu8) ∧ Below w.heap.size w wx) (fun _ i _ => ls.length - (intOf i).toNat)
   case atStart => exact ⟨0, by omega, rfl, by simpa using HO.out, hB⟩
   case round =>
    clear hB HO HC
    obtain ⟨j, hj, rfl, hO, hB⟩ := hrel
    by_cases hlt : j < ls.length
    ·obtain ⟨a, c, hcell0, hb0⟩ := HC0.out j _ (List.getElem?_eq_getElem hlt)
     have hcell := (hB.cell (p := ⟨g, off + j, none⟩) hg).trans hcell0
     have hb := hb0.below hB (Nat.le_refl _)
     have hT := lenAll_take ls j _ (List.getElem?_eq_getElem hlt)
     have hle := lenAll_le ls (j + 1)
     rw [hT, List.length_append] at hle
     have HTL := Lib.hid (show (ls.take (j + 1)).flatten.length = (ls.take j).flatten.length + (ls[j]'hlt).length by rw [hT, List.length_append])
     have HTM := Lib.hid (show (ls.take (j + 1)).flatten.map vu8 = (ls.take j).flatten.map vu8 ++ (ls[j]'hlt).map vu8 by rw [hT, List.map_append])
     rw [← HT.out] at hle
     have hsz := hB.size
     have HO := Lib.hid hO
     clear hT hcell0 hb0 hO
     generalize ls[j]'hlt = l at *
     generalize (ls.take j).flatten.length = N at *
     have hbl := Lib.hid hb
     clear hb
     go_wp2_with (at_builtin; refine wpList_append_bytes _ rfl _ _ rfl w.heap.size w.heap.size N _ _ rfl HO.out a l.length c l rfl rfl hbl.out (by omega) hsz ?_; intro u2 w3 hO3 hg3)
     refine ⟨⟨j + 1, by omega, by go_num, ?_, ?_⟩, by simp [intOf] <;> omega⟩
     ·rw [HTL.out, HTM.out]; exact hO3
     ·exact hB.grown hg3 hsz (fun r hr => (HO.out.lt r hr).1)
    ·obtain rfl : j = ls.length := by omega
     rw [List.take_length] at hO
     go_wp2_with fail
     go_ret
     exact ⟨_, rfl, hO, hB⟩

/-- sums.joined of one slice, of two -/
theorem joined_any (v : Value) (ls : List (List UInt8)) (w : World) (hv : SlicesIn w w.heap.size v ls) (ht : ls.flatten.length ≤ 1073741824) (hn : ls.length ≤ 1073741824) :
  Calls Tryz.prog 141 #[v] w fun e w' => ∃ u, e = .returned u ∧ w'.ownsRow w.heap.size 5 1 u ls.flatten.length (ls.flatten.map vu8) ∧ Below w.heap.size w w' := by
 have hv2 := hv
 obtain ⟨g, off, cap, rfl, hg, hc⟩ := hv
 have HV := Lib.hid hv2
 clear hv2 hc
 go_enter Tryz.func141, Tryz.ntmps141
 go_wp2_with fail
 refine (concat_any _ ls w HV.out ht hn).mono ?_; rintro e w1 ⟨u, rfl, hO, hB⟩
 have HO := Lib.hid hO
 clear hO
 go_wp2_with fail
 go_ret
 exact ⟨_, rfl, HO.out, hB⟩

end Go.Proofs.YtdpniceapmikpaaGreat
namespace Go.Proofs.YtdpniceapmikpaaGreat
open Go.RowKit

def sealOf (l : List UInt8) : List UInt8 := l ++ leB (crcW l).toNat 4
theorem sealOf_len (l : List UInt8) : (sealOf l).length = l.length + 4 := by simp [sealOf, leB_len]
theorem leB_leN (r : List UInt8) : leB (leN r) r.length = r := by
 apply List.ext_getElem?
 intro i
 by_cases hi : i < r.length
 ·rw [List.getElem?_eq_getElem hi]
  have h : ∀ (r : List UInt8) (i : Nat) (hi : i < r.length), byteAt (leN r) i = r[i] := by
   intro r
   induction r with
   | nil => intro i hi; simp at hi
   | cons c r ih =>
    intro i hi
    have hc := u8_lt c
    cases i with
    | zero =>
     unfold byteAt leN
     have : (c.toNat + 256 * leN r) / 256 ^ 0 % 256 = c.toNat := by simp <;> omega
     rw [this]
     simp
    | succ i =>
     have := ih i (by simpa using hi)
     simp only [List.getElem_cons_succ]
     rw [← this]
     unfold byteAt
     have e : (leN (c :: r)) / 256 ^ (i + 1) = leN r / 256 ^ i := by
      rw [Nat.pow_succ, Nat.mul_comm, ← Nat.div_div_eq_div_mul]
      congr 1
      simp [leN]
      try omega
     rw [e]
  simp [leB, hi, h r i hi]
 ·rw [List.getElem?_eq_none (by rw [leB_len]; omega), List.getElem?_eq_none (by omega)]
theorem leN_leB (n k : Nat) : leN (leB n k) = n % 256 ^ k := by
 induction k with
 | zero => simp [leB, leN, Nat.mod_one]
 | succ k ih =>
  have hs : leB n (k + 1) = leB n k ++ [byteAt n k] := by simp [leB, List.range_succ]
  rw [hs, leN_snoc, leB_len, ih]
  have hb : (byteAt n k).toNat = n / 256 ^ k % 256 := by
   have := byteAt_int n k
   omega
  rw [hb, Nat.pow_succ, Nat.mod_mul, Nat.mul_comm]
theorem crcW_lt (l : List UInt8) : (crcW l).toNat < 4294967296 := (crcW l).isLt
/-- whether bytes are sealed -/
def sealedB (l : List UInt8) : Bool := decide (4 ≤ l.length) && (leN (l.drop (l.length - 4)) == (crcW (l.take (l.length - 4))).toNat)
theorem sealedB_iff (l : List UInt8) (h : 4 ≤ l.length) : sealedB l = true ↔ sealOf (l.take (l.length - 4)) = l := by
 have hd : (l.drop (l.length - 4)).length = 4 := by rw [List.length_drop]; omega
 unfold sealedB sealOf
 rw [decide_eq_true h, Bool.true_and, beq_iff_eq]
 constructor
 ·intro e
  rw [← e]
  have := leB_leN (l.drop (l.length - 4))
  rw [hd] at this
  rw [this, List.take_append_drop]
 ·intro e
  have e2 : l.take (l.length - 4) ++ leB (crcW (l.take (l.length - 4))).toNat 4 = l.take (l.length - 4) ++ l.drop (l.length - 4) := by rw [e, List.take_append_drop]
  have e3 := List.append_cancel_left e2
  rw [← e3, leN_leB]
  exact Nat.mod_eq_of_lt (crcW_lt _)

theorem own_base {W : World} {B C n : Nat} {e : TypeId} {v : Value} {xs : List Value} (h : W.ownsRow B e 1 v n xs) (hC : C ≤ B) : W.ownsRow C e 1 v n xs := by
 refine ⟨h.1, ?_⟩
 rcases h.2 with hn | ⟨g, cap, cur, h1, h2, h3⟩
 ·exact .inl hn
 ·exact .inr ⟨g, cap, cur, h1, by omega, h3⟩

set_option maxHeartbeats 1000000 in
theorem seal_any (v : Value) (l : List UInt8) (w : World) (hv : BytesIn w w.heap.size v l) (hl : l.length ≤ 536870912) :
  Calls Tryz.prog 105 #[v] w fun e w' => ∃ u, e = .returned u ∧ w'.ownsRow w.heap.size 5 1 u (l.length + 4) ((sealOf l).map vu8) ∧ Below w.heap.size w w' := by
 have hv2 := hv
 obtain ⟨h1, a, cap, rfl, h2⟩ := hv
 have HV := Lib.hid hv2
 clear hv2 h2
 go_enter Tryz.func105, Tryz.ntmps105
 go_wp2_with fail
 refine (crc_any _ l w HV.out).mono ?_; rintro e w1 ⟨rfl, hb1⟩
 have hc := crcW_lt l
 obtain ⟨C, hC⟩ : ∃ C, C = (crcW l).toNat := ⟨_, rfl⟩
 unfold vu32
 rw [← hC] at hc ⊢
 have HC := Lib.hid hC
 clear hC
 go_wp2_with fail
 refine (put_yes C 4 w1 (by omega) (by intro _; exact Nat.div_eq_of_lt (by omega)) (by omega)).mono ?_; rintro e w2 ⟨u, rfl, hO, hb2⟩
 have hu := BytesIn.own hO
 obtain ⟨hu1, a2, c2, rfl, hu2⟩ := id hu
 have hb12 := hb1.trans (hb2.mono hb1.size)
 have HU := Lib.hid hu
 have hvw := Lib.hid (HV.out.below hb12 (Nat.le_refl _))
 clear hO hu hu2
 have hlen4 : (leB C 4).length = 4 := leB_len _ _
 rw [hlen4] at HU ⊢
 go_wp2_with fail
 have hsz := hb12.size
 have HS : SlicesIn (w2.alloc (.cells #[.slice a l.length cap, .slice a2 4 c2] 26)) (w2.alloc (.cells #[.slice a l.length cap, .slice a2 4 c2] 26)).heap.size (.slice (some ⟨w2.heap.size, 0, none⟩) 2 2) [l, leB C 4] := by
  have hbk := Blk.new w2 26 #[.slice a l.length cap, .slice a2 4 c2]
  refine ⟨w2.heap.size, 0, 2, rfl, hbk.lt, fun i x hx => ?_⟩
  have hnew : Below w2.heap.size w2 (w2.alloc (.cells #[.slice a l.length cap, .slice a2 4 c2] 26)) := (Below.refl _ _).alloc (Nat.le_refl _) _
  match i, hx with
  | 0, hx =>
   obtain rfl : l = x := by simpa using hx
   exact ⟨a, cap, hbk.cell_is 0 rfl, (hvw.out.below hnew hsz).mono (by simp; omega)⟩
  | 1, hx =>
   obtain rfl : leB C 4 = x := by simpa using hx
   rw [hlen4]
   exact ⟨a2, c2, hbk.cell_is 1 rfl, (HU.out.below hnew (Nat.le_refl _)).mono (by simp)⟩
  | i + 2, hx => simp at hx
 refine (joined_any _ _ _ HS (by simp [hlen4]; omega) (by simp)).mono ?_; rintro e w3 ⟨u3, rfl, hO3, hb3⟩
 have HO := Lib.hid hO3
 have hsz2 : w.heap.size ≤ (w2.alloc (.cells #[.slice a l.length cap, .slice a2 4 c2] 26)).heap.size := by simp; omega
 clear hO3 HS
 go_wp2_with fail
 go_ret
 refine ⟨_, rfl, ?_, ?_⟩
 ·have h := HO.out
  have e1 : [l, leB C 4].flatten = sealOf l := by simp [sealOf, HC.out]
  rw [e1, sealOf_len] at h
  exact own_base h hsz2
 ·exact (hb12.alloc hsz _).trans (hb3.mono (by simp; omega))

theorem sealed_short (v : Value) (l : List UInt8) (w : World) (hv : BytesIn w w.heap.size v l) (hl : l.length < 4) :
  Calls Tryz.prog 114 #[v] w fun e w' => e = .returned (.tuple #[.slice none 0 0, .bool false]) ∧ w = w' := by
 obtain ⟨h1, a, cap, rfl, h2⟩ := hv
 have hlt : (l.length : Int) - 4 < 0 := by omega
 go_enter Tryz.func114, Tryz.ntmps114
 go_wp2_with fail
 go_ret2
 exact ⟨rfl, rfl⟩

/-- what sums.Sealed hands back: the bytes ahead of the seal, or nil -/
def SealedAt (w w' : World) (u : Value) (l : List UInt8) : Prop := if sealedB l then w'.ownsRow w.heap.size 5 1 u (l.length - 4) ((l.take (l.length - 4)).map vu8) else u = .slice none 0 0
theorem SealedAt.yes {w w' : World} {u : Value} {l : List UInt8} (h : sealedB l = true) (ho : w'.ownsRow w.heap.size 5 1 u (l.length - 4) ((l.take (l.length - 4)).map vu8)) : SealedAt w w' u l := by unfold SealedAt; rw [if_pos h]; exact ho
theorem SealedAt.no {w w' : World} {l : List UInt8} (h : sealedB l = false) : SealedAt w w' (.slice none 0 0) l := by unfold SealedAt; rw [h]; rfl

set_option maxHeartbeats 1000000 in
theorem sealed_long (v : Value) (l : List UInt8) (w : World) (hv : BytesIn w w.heap.size v l) (hl : 4 ≤ l.length) (hl2 : l.length ≤ 536870912) :
  Calls Tryz.prog 114 #[v] w fun e w' => ∃ u, e = .returned (.tuple #[u, .bool (sealedB l)]) ∧
   SealedAt w w' u l ∧ Below w.heap.size w w' := by
 have hv2 := hv
 obtain ⟨h1, a, cap, rfl, hcap, h2⟩ := hv
 have HD := Lib.hid (hv2.from_ (l.length - 4) (by omega) hcap)
 have HT := Lib.hid (hv2.upto (l.length - 4) (by omega) hcap)
 obtain ⟨k, hk⟩ : ∃ k : Nat, k = l.length - 4 := ⟨_, rfl⟩
 have hkl : l.length = k + 4 := by omega
 rw [← hk] at HD HT
 have hsb : sealedB l = (leN (l.drop k) == (crcW (l.take k)).toNat) := by unfold sealedB; rw [decide_eq_true hl, Bool.true_and, ← hk]
 have hdl : (l.drop k).length = 4 := by rw [List.length_drop]; omega
 have htl : (l.take k).length = k := by rw [List.length_take]; omega
 have hgd : getB (l.drop k) = true := by
  unfold getB
  have := leN_lt (l.drop k)
  rw [hdl] at this ⊢
  have hp : (256 : Nat) ^ 4 = 4294967296 := by decide
  rw [hp] at this
  rw [decide_eq_true (by omega)]; rfl
 have hld : leN (l.drop k) < 4294967296 := by
  have := leN_lt (l.drop k)
  rw [hdl] at this
  have hp : (256 : Nat) ^ 4 = 4294967296 := by decide
  omega
 have e4 : l.length - k = 4 := by omega
 rw [e4] at HD
 have hne : ¬ cap = k := by omega
 have HV := Lib.hid hv2
 have hik : (l.length : Int) - 4 = (k : Int) := by omega
 have hk0 : ¬ (k : Int) < 0 := by omega
 have hk1 : (k : Int) ≤ (l.length : Int) := by omega
 have hk2 : (k : Int) ≤ (cap : Int) := by omega
 rw [if_neg hne] at HD
 have HSB := Lib.hid hsb
 have HGD := Lib.hid hgd
 clear hv2 h2 hk hsb hgd e4
 go_enter Tryz.func114, Tryz.ntmps114
 go_wp2_with fail
 refine (get_any _ (l.drop k) w HD.out).mono ?_; rintro e w1 ⟨rfl, hb1⟩
 rw [HGD.out]
 have HT1 := Lib.hid (HT.out.below hb1 (Nat.le_refl _))
 have hs1 := hb1.size
 obtain ⟨N, hN⟩ : ∃ N, N = leN (l.drop k) := ⟨_, rfl⟩
 rw [← hN] at hld
 simp only [if_true, ← hN]
 have HN := Lib.hid hN
 clear hN
 go_wp2_with fail
 refine (crc_any _ (l.take k) w1 (HT1.out.mono hs1)).mono ?_; rintro e w2 ⟨rfl, hb2⟩
 obtain ⟨C, hC⟩ : ∃ C, C = (crcW (l.take k)).toNat := ⟨_, rfl⟩
 unfold vu32
 have hc := crcW_lt (l.take k)
 rw [← hC] at hc ⊢
 have HC := Lib.hid hC
 clear hC
 have hb12 := hb1.trans (hb2.mono hs1)
 have hs2 := hb12.size
 have hm : (N : Int) % 4294967296 = (N : Int) := by omega
 by_cases hNC : N = C
 ·have hsb : sealedB l = true := by rw [HSB.out, ← HN.out, ← HC.out, hNC]; simp
  have hi : ((N : Int) == (C : Int)) = true := by simp [hNC]
  have HSb := Lib.hid hsb
  clear hsb
  subst hNC
  have HT2 := Lib.hid (HT1.out.below hb2 hs1)
  go_wp2_with fail
  have HS : SlicesIn (w2.alloc (.cells #[.slice a k cap] 26)) (w2.alloc (.cells #[.slice a k cap] 26)).heap.size (.slice (some ⟨w2.heap.size, 0, none⟩) 1 1) [l.take k] := by
   have hbk := Blk.new w2 26 #[.slice a k cap]
   refine ⟨w2.heap.size, 0, 1, rfl, hbk.lt, fun i x hx => ?_⟩
   have hnew : Below w2.heap.size w2 (w2.alloc (.cells #[.slice a k cap] 26)) := (Below.refl _ _).alloc (Nat.le_refl _) _
   match i, hx with
   | 0, hx =>
    obtain rfl : l.take k = x := by simpa using hx
    rw [htl]
    exact ⟨a, cap, hbk.cell_is 0 rfl, (HT2.out.below hnew hs2).mono (by simp; omega)⟩
   | i + 1, hx => simp at hx
  refine (joined_any _ _ _ HS (by simp; omega) (by simp)).mono ?_; rintro e w3 ⟨u3, rfl, hO3, hb3⟩
  have hsz2 : w.heap.size ≤ (w2.alloc (.cells #[.slice a k cap] 26)).heap.size := by simp; omega
  have HO := Lib.hid hO3
  clear hO3 HS
  go_wp2_with fail
  go_ret2
  refine ⟨u3, (by first | rfl | (rw [HSb.out]; rfl)), .yes HSb.out ?_, (hb12.alloc hs2 _).trans (hb3.mono hsz2)⟩
  have ek : l.length - 4 = k := by omega
  rw [ek]
  have h := HO.out
  have e1 : [l.take k].flatten = l.take k := by simp
  rw [e1, htl] at h
  first | exact own_base h hsz2 | (rw [← List.map_take]; exact own_base h hsz2)
 ·have hsb : sealedB l = false := by rw [HSB.out, ← HN.out, ← HC.out]; simp [hNC]
  have hi : ((N : Int) == (C : Int)) = false := by simp; omega
  have HSb := Lib.hid hsb
  clear hsb
  go_wp2_with fail
  go_ret2
  exact ⟨.slice none 0 0, (by first | rfl | (rw [HSb.out]; rfl)), .no HSb.out, hb12⟩

theorem sealed_any (v : Value) (l : List UInt8) (w : World) (hv : BytesIn w w.heap.size v l) (hl2 : l.length ≤ 536870912) :
  Calls Tryz.prog 114 #[v] w fun e w' => ∃ u, e = .returned (.tuple #[u, .bool (sealedB l)]) ∧ SealedAt w w' u l ∧ Below w.heap.size w w' := by
 by_cases hl : 4 ≤ l.length
 ·exact sealed_long v l w hv hl hl2
 ·have e : sealedB l = false := by unfold sealedB; rw [decide_eq_false hl]; rfl
  refine (sealed_short v l w hv (by omega)).mono ?_
  rintro e' w' ⟨rfl, rfl⟩
  exact ⟨_, by rw [e], .no e, Below.refl _ _⟩

end Go.Proofs.YtdpniceapmikpaaGreat
namespace Go.Proofs.YtdpniceapmikpaaGreat
open Go.RowKit

/-- bytes as a string -/
def bStr (l : List UInt8) : ByteArray := ⟨l.toArray⟩
theorem bStr_list (l : List UInt8) : (bStr l).toList = l := ByteArray.toList_mk l
theorem run_str (w : World) {B : Nat} {v : Value} {l : List UInt8} (h : BytesIn w B v l) : (convert 26 9 v).run Tryz.prog w = .ok (.string (bStr l)) w := by
 obtain ⟨h1, a, cap, rfl, hcap, hc⟩ := h
 cases a with
 | none =>
  have hl : l = [] := by
   cases l with
   | nil => rfl
   | cons c l =>
    obtain ⟨g, off, h, _⟩ := hc 0 c rfl
    cases h
  subst hl
  exact Lib.run_convert_nil_bytes w 26 9 5 cap Tryz.underlying26 Tryz.underlying5 Tryz.underlying9
 | some ad =>
  refine run_convert_bytes_back (P := Tryz.prog) w 26 9 5 ad cap l Tryz.underlying26 Tryz.underlying5 Tryz.underlying9 (fun j hj => ?_)
  obtain ⟨g, off, h, _, hcell⟩ := hc j _ (List.getElem?_eq_getElem hj)
  obtain rfl := Option.some.inj h
  rw [add_at]
  exact hcell

end Go.Proofs.YtdpniceapmikpaaGreat
