/-
  The shelf's contracts at this dump, in plain words (lay-shelf.mjs, lay-plain.mjs; slices.Grow by hand).
  The reference's disk as data; its Size, sector, step.
-/
import Derived.Shelf.Small.Bits
import Derived.Shelf.Small.Wraps
import Derived.Shelf.Strconv.Itoa0
import Derived.Shelf.Sort.Plain
import Derived.Ground.Names2Prog
import Derived.Shelf.Slices.Clone
import Derived.Shelf.Slices.SearchI
import Derived.Shelf.Slices.In.SortNone
import Derived.Ground.SlgnProg
import Derived.Shelf.SlicesE.Clone
import Derived.Ground.SlgfProg
import Derived.Shelf.SlicesE.IndexFunc
import Derived.Shelf.SlicesE.DeleteFunc
import Derived.Ground.Names8Prog
import Derived.Test.YtemcgfncahccgaaGreatProg
import Derived.Test.YtemcgfncahccgaaGreatCh8
set_option linter.unusedVariables false
set_option linter.unusedSimpArgs false
namespace Go.Proofs
open Go.Shelf
def Tryz.lays128_ren : Go.Shelf.Ren := ⟨fun | 128 => 126 | n => n, fun | 51 => 163 | 3 => 3 | 4 => 4 | 46 => 172 | 5 => 5 | 9 => 9 | n => n, fun | n => n⟩
theorem Tryz.lays128 : Go.Proofs.Lays.n128 Tryz.prog Tryz.lays128_ren := {
 mixed := by kernel_rfl
 f128 := Tryz.func126.trans (congrArg some (by kernel_rfl))
 t3 := Tryz.underlying3
 a3 := Tryz.isAgg3
 z3 := Tryz.sizeOf3
 v3 := Tryz.zeroValue3
 t4 := Tryz.underlying4
 a4 := Tryz.isAgg4
 z4 := Tryz.sizeOf4
 v4 := Tryz.zeroValue4
 t5 := Tryz.underlying5
 a5 := Tryz.isAgg5
 z5 := Tryz.sizeOf5
 v5 := Tryz.zeroValue5
 t9 := Tryz.underlying9
 a9 := Tryz.isAgg9
 z9 := Tryz.sizeOf9
 v9 := Tryz.zeroValue9
 t46 := Tryz.underlying172
 a46 := Tryz.isAgg172
 z46 := Tryz.sizeOf172
 v46 := Tryz.zeroValue172
 t51 := Tryz.underlying163
 a51 := Tryz.isAgg163
 z51 := Tryz.sizeOf163
 v51 := Tryz.zeroValue163 }
/-- bits.Len32: "Len32 returns the minimum number of bits required to represent x; the result is 0 for x == 0.": IT RETURNS 'Lib.bitLen x'; the world is as it was. ('h0', 'h1': x is a uint32.) (LAID: no walk: one application.) -/
theorem Tryz.bits_Len32 (x : Int) (w : World) (h0 : 0 ≤ x) (h1 : x ≤ 4294967295) :
  Calls Tryz.prog 126 #[.int .u32 x] w fun e w' => e = .returned (.int .i64 (Lib.bitLen x.toNat)) ∧ w' = w := Any.bits_Len32 Tryz.lays128 x w h0 h1
def Tryz.lays125_ren : Go.Shelf.Ren := ⟨fun | 125 => 97 | 128 => 126 | 129 => 127 | n => n, fun | 46 => 172 | 3 => 3 | 51 => 163 | 53 => 134 | 4 => 4 | 5 => 5 | 9 => 9 | n => n, fun | n => n⟩
theorem Tryz.lays125 : Go.Proofs.Lays.n125 Tryz.prog Tryz.lays125_ren := {
 mixed := by kernel_rfl
 f125 := Tryz.func97.trans (congrArg some (by kernel_rfl))
 f128 := Tryz.func126.trans (congrArg some (by kernel_rfl))
 f129 := Tryz.func127.trans (congrArg some (by kernel_rfl))
 t3 := Tryz.underlying3
 a3 := Tryz.isAgg3
 z3 := Tryz.sizeOf3
 v3 := Tryz.zeroValue3
 t4 := Tryz.underlying4
 a4 := Tryz.isAgg4
 z4 := Tryz.sizeOf4
 v4 := Tryz.zeroValue4
 t5 := Tryz.underlying5
 a5 := Tryz.isAgg5
 z5 := Tryz.sizeOf5
 v5 := Tryz.zeroValue5
 t9 := Tryz.underlying9
 a9 := Tryz.isAgg9
 z9 := Tryz.sizeOf9
 v9 := Tryz.zeroValue9
 t46 := Tryz.underlying172
 a46 := Tryz.isAgg172
 z46 := Tryz.sizeOf172
 v46 := Tryz.zeroValue172
 t51 := Tryz.underlying163
 a51 := Tryz.isAgg163
 z51 := Tryz.sizeOf163
 v51 := Tryz.zeroValue163
 t53 := Tryz.underlying134
 a53 := Tryz.isAgg134
 z53 := Tryz.sizeOf134
 v53 := Tryz.zeroValue134 }
/-- bits.Len: "Len returns the minimum number of bits required to represent x; the result is 0 for x == 0.": IT RETURNS 'Lib.bitLen x'; the world is as it was. (A uint has 64 bits in the model.) ITS CALLEE bits.Len64 IS MET BY ITS OWN CONTRACT OFF THE SHELF (lay that first). (LAID: no walk: one application.) -/
theorem Tryz.bits_Len (x : Int) (w : World) (h0 : 0 ≤ x) (h1 : x ≤ 18446744073709551615) :
  Calls Tryz.prog 97 #[.int .u64 x] w fun e w' => e = .returned (.int .i64 (Lib.bitLen x.toNat)) ∧ w' = w := Any.bits_Len Tryz.lays125 x w h0 h1
def Tryz.lays215_ren : Go.Shelf.Ren := ⟨fun | 215 => 140 | n => n, fun | 3 => 3 | 4 => 4 | n => n, fun | n => n⟩
theorem Tryz.lays215 : Go.Proofs.Lays.n215 Tryz.prog Tryz.lays215_ren := {
 mixed := by kernel_rfl
 f215 := Tryz.func140.trans (congrArg some (by kernel_rfl))
 t3 := Tryz.underlying3
 a3 := Tryz.isAgg3
 z3 := Tryz.sizeOf3
 v3 := Tryz.zeroValue3
 t4 := Tryz.underlying4
 a4 := Tryz.isAgg4
 z4 := Tryz.sizeOf4
 v4 := Tryz.zeroValue4 }
open Go.RowKit in
/-- cmp.isNaN at int: 'x != x': false. (LAID: no walk: one application.) -/
theorem Tryz.cmp_isNaN_int (x : Int) (w : World) :
  Calls Tryz.prog 140 #[.int .i64 x] w fun e w' => e = .returned (.bool false) ∧ w' = w := Any.cmp_isNaN_int Tryz.lays215 x w
def Tryz.lays129_ren : Go.Shelf.Ren := ⟨fun | 129 => 127 | n => n, fun | 53 => 134 | 3 => 3 | 4 => 4 | 46 => 172 | 5 => 5 | 9 => 9 | n => n, fun | n => n⟩
theorem Tryz.lays129 : Go.Proofs.Lays.n129 Tryz.prog Tryz.lays129_ren := {
 mixed := by kernel_rfl
 f129 := Tryz.func127.trans (congrArg some (by kernel_rfl))
 t3 := Tryz.underlying3
 a3 := Tryz.isAgg3
 z3 := Tryz.sizeOf3
 v3 := Tryz.zeroValue3
 t4 := Tryz.underlying4
 a4 := Tryz.isAgg4
 z4 := Tryz.sizeOf4
 v4 := Tryz.zeroValue4
 t5 := Tryz.underlying5
 a5 := Tryz.isAgg5
 z5 := Tryz.sizeOf5
 v5 := Tryz.zeroValue5
 t9 := Tryz.underlying9
 a9 := Tryz.isAgg9
 z9 := Tryz.sizeOf9
 v9 := Tryz.zeroValue9
 t46 := Tryz.underlying172
 a46 := Tryz.isAgg172
 z46 := Tryz.sizeOf172
 v46 := Tryz.zeroValue172
 t53 := Tryz.underlying134
 a53 := Tryz.isAgg134
 z53 := Tryz.sizeOf134
 v53 := Tryz.zeroValue134 }
/-- bits.Len64: "Len64 returns the minimum number of bits required to represent x; the result is 0 for x == 0.": IT RETURNS 'Lib.bitLen x'; the world is as it was. ('h0', 'h1': x is a uint64.) (LAID: no walk: one application.) -/
theorem Tryz.bits_Len64 (x : Int) (w : World) (h0 : 0 ≤ x) (h1 : x ≤ 18446744073709551615) :
  Calls Tryz.prog 127 #[.int .u64 x] w fun e w' => e = .returned (.int .i64 (Lib.bitLen x.toNat)) ∧ w' = w := Any.bits_Len64 Tryz.lays129 x w h0 h1
def Tryz.lays189_ren : Go.Shelf.Ren := ⟨fun | 189 => 76 | 125 => 97 | 257 => 96 | 128 => 126 | 129 => 127 | 294 => 117 | 295 => 118 | 296 => 119 | 297 => 120 | 298 => 121 | 299 => 122 | 216 => 123 | 300 => 124 | 301 => 125 | 328 => 135 | 329 => 136 | 330 => 137 | 331 => 138 | 332 => 139 | 215 => 140 | 343 => 157 | n => n, fun | 28 => 23 | 3 => 3 | 46 => 172 | 0 => 0 | 51 => 163 | 53 => 134 | 4 => 4 | 183 => 197 | 182 => 196 | 131 => 52 | 5 => 5 | 9 => 9 | 218 => 222 | 222 => 226 | 228 => 231 | 229 => 232 | n => n, fun | n => n⟩
theorem Tryz.lays189 : Go.Proofs.Lays.n189 Tryz.prog Tryz.lays189_ren := {
 mixed := by kernel_rfl
 f125 := Tryz.func97.trans (congrArg some (by kernel_rfl))
 f128 := Tryz.func126.trans (congrArg some (by kernel_rfl))
 f129 := Tryz.func127.trans (congrArg some (by kernel_rfl))
 f189 := Tryz.func76.trans (congrArg some (by kernel_rfl))
 f215 := Tryz.func140.trans (congrArg some (by kernel_rfl))
 f216 := Tryz.func123.trans (congrArg some (by kernel_rfl))
 f257 := Tryz.func96.trans (congrArg some (by kernel_rfl))
 f294 := Tryz.func117.trans (congrArg some (by kernel_rfl))
 f295 := Tryz.func118.trans (congrArg some (by kernel_rfl))
 f296 := Tryz.func119.trans (congrArg some (by kernel_rfl))
 f297 := Tryz.func120.trans (congrArg some (by kernel_rfl))
 f298 := Tryz.func121.trans (congrArg some (by kernel_rfl))
 f299 := Tryz.func122.trans (congrArg some (by kernel_rfl))
 f300 := Tryz.func124.trans (congrArg some (by kernel_rfl))
 f301 := Tryz.func125.trans (congrArg some (by kernel_rfl))
 f328 := Tryz.func135.trans (congrArg some (by kernel_rfl))
 f329 := Tryz.func136.trans (congrArg some (by kernel_rfl))
 f330 := Tryz.func137.trans (congrArg some (by kernel_rfl))
 f331 := Tryz.func138.trans (congrArg some (by kernel_rfl))
 f332 := Tryz.func139.trans (congrArg some (by kernel_rfl))
 f343 := Tryz.func157.trans (congrArg some (by kernel_rfl))
 t0 := Tryz.underlying0
 a0 := Tryz.isAgg0
 z0 := Tryz.sizeOf0
 v0 := Tryz.zeroValue0
 t3 := Tryz.underlying3
 a3 := Tryz.isAgg3
 z3 := Tryz.sizeOf3
 v3 := Tryz.zeroValue3
 t4 := Tryz.underlying4
 a4 := Tryz.isAgg4
 z4 := Tryz.sizeOf4
 v4 := Tryz.zeroValue4
 t5 := Tryz.underlying5
 a5 := Tryz.isAgg5
 z5 := Tryz.sizeOf5
 v5 := Tryz.zeroValue5
 t9 := Tryz.underlying9
 a9 := Tryz.isAgg9
 z9 := Tryz.sizeOf9
 v9 := Tryz.zeroValue9
 t28 := Tryz.underlying23
 a28 := Tryz.isAgg23
 z28 := Tryz.sizeOf23
 v28 := Tryz.zeroValue23
 t46 := Tryz.underlying172
 a46 := Tryz.isAgg172
 z46 := Tryz.sizeOf172
 v46 := Tryz.zeroValue172
 t51 := Tryz.underlying163
 a51 := Tryz.isAgg163
 z51 := Tryz.sizeOf163
 v51 := Tryz.zeroValue163
 t53 := Tryz.underlying134
 a53 := Tryz.isAgg134
 z53 := Tryz.sizeOf134
 v53 := Tryz.zeroValue134
 t131 := Tryz.underlying52
 a131 := Tryz.isAgg52
 z131 := Tryz.sizeOf52
 v131 := Tryz.zeroValue52
 t182 := Tryz.underlying196
 a182 := Tryz.isAgg196
 z182 := Tryz.sizeOf196
 v182 := Tryz.zeroValue196
 t183 := Tryz.underlying197
 a183 := Tryz.isAgg197
 z183 := Tryz.sizeOf197
 v183 := Tryz.zeroValue197
 t218 := Tryz.underlying222
 a218 := Tryz.isAgg222
 z218 := Tryz.sizeOf222
 v218 := Tryz.zeroValue222
 t222 := Tryz.underlying226
 a222 := Tryz.isAgg226
 z222 := Tryz.sizeOf226
 v222 := Tryz.zeroValue226
 t228 := Tryz.underlying231
 a228 := Tryz.isAgg231
 z228 := Tryz.sizeOf231
 v228 := Tryz.zeroValue231
 t229 := Tryz.underlying232
 a229 := Tryz.isAgg232
 z229 := Tryz.sizeOf232
 v229 := Tryz.zeroValue232 }
open Go.Sort Go.RowKit in
theorem Tryz.slices_Sort_int (blk off cap : Nat) (zs : List Int) (w : World) (hH : Holds (Value.int .i64) w blk off zs.toArray) (hblk : blk < w.heap.size) (hsz : zs.length < 4611686018427387904) :
  Calls Tryz.prog 76 #[.slice (some ⟨blk, off, none⟩) zs.length cap] w fun e w' =>
   e = .returned (.tuple #[]) ∧ ∃ n os, w' = grow (putRow (Value.int .i64) (Sort.ahead w n) blk off (zs.mergeSort fun x y => decide (x ≤ y)).toArray) os := Any.slices_Sort_int Tryz.lays189 blk off cap zs w hH hblk hsz
def Tryz.laysNm215_ren : Go.Shelf.Ren := ⟨fun | 15 => 40 | n => n, fun | 22 => 23 | 3 => 3 | 4 => 4 | n => n, fun | n => n⟩
theorem Tryz.laysNm215 : Go.Proofs.Lays2.n15 Tryz.prog Tryz.laysNm215_ren := {
 mixed := by kernel_rfl
 f15 := Tryz.func40.trans (congrArg some (by kernel_rfl))
 t3 := Tryz.underlying3
 a3 := Tryz.isAgg3
 z3 := Tryz.sizeOf3
 v3 := Tryz.zeroValue3
 t4 := Tryz.underlying4
 a4 := Tryz.isAgg4
 z4 := Tryz.sizeOf4
 v4 := Tryz.zeroValue4
 t22 := Tryz.underlying23
 a22 := Tryz.isAgg23
 z22 := Tryz.sizeOf23
 v22 := Tryz.zeroValue23
 i3 := by kernel_rfl }
open Go.RowKit Go.Lib in
/-- slices.Clone at []int: "Clone returns a copy of the slice. The elements are copied using assignment, so this is a shallow clone. The result may have additional unused capacity. The result preserves the nilness of s.": OF A SLICE THAT IS NOT nil IT RETURNS A SLICE THAT IS NOT nil, OF THE SAME ELEMENTS, IN MEMORY OF THE CALL's OWN: in the how-to's words (6f): 'w'.ownsRow B e 1 v' n cells': v' begins at the head of a row among the blocks from B on (B: the heap's size at the call), not frozen, whose first cells are the elements · 'Below B w w'': below B all is as it was. The capacity is whatever the run-time gives. 'zs': what the cells behind the slice's address hold; 'zs.take n': its elements. (LAID: no walk: one application.) -/
theorem Tryz.slices_Clone_int (b off n c : Nat) (zs : List Int) (w : World) (hz : n ≤ zs.length) (hbig : n * 8 ≤ 140737488355328) (hc : ∀ j, j < zs.length → w.cell? ⟨b, off + j, none⟩ = some (.int .i64 (zs.getD j 0))) :
  Calls Tryz.prog 40 #[.slice (some ⟨b, off, none⟩) n c] w fun e w' => ∃ v', e = .returned v' ∧ w'.ownsRow w.heap.size 3 1 v' n ((zs.take n).map (Value.int .i64)) ∧ v' ≠ .slice none 0 0 ∧ Below w.heap.size w w' := Any.slices_Clone_int Tryz.laysNm215 b off n c zs w hz hbig hc
open Go.RowKit Go.Lib in
/-- The same at nil: nil comes back; the world is as it was. (LAID: no walk: one application.) -/
theorem Tryz.slices_Clone_int_nil (n c : Nat) (w : World) :
  Calls Tryz.prog 40 #[.slice none n c] w fun e w' => e = .returned (.slice none 0 0) ∧ w' = w := Any.slices_Clone_int_nil Tryz.laysNm215 n c w
open Go.RowKit Go.Lib in
/-- The same at a slice of length 0 that is not nil, WHATEVER ITS ADDRESS (no cell is asked for): a slice that is not nil and owns nothing comes back. (LAID: no walk: one application.) -/
theorem Tryz.slices_Clone_int_zero (a : Addr) (c : Nat) (w : World) :
  Calls Tryz.prog 40 #[.slice (some a) 0 c] w fun e w' => ∃ v', e = .returned v' ∧ w'.ownsRow w.heap.size 3 1 v' 0 [] ∧ v' ≠ .slice none 0 0 ∧ Below w.heap.size w w' := Any.slices_Clone_int_zero Tryz.laysNm215 a c w
def Tryz.laysNm237_ren : Go.Shelf.Ren := ⟨fun | 37 => 140 | n => n, fun | 3 => 3 | 4 => 4 | n => n, fun | n => n⟩
theorem Tryz.laysNm237 : Go.Proofs.Lays2.n37 Tryz.prog Tryz.laysNm237_ren := {
 mixed := by kernel_rfl
 f37 := Tryz.func140.trans (congrArg some (by kernel_rfl))
 t3 := Tryz.underlying3
 a3 := Tryz.isAgg3
 z3 := Tryz.sizeOf3
 v3 := Tryz.zeroValue3
 t4 := Tryz.underlying4
 a4 := Tryz.isAgg4
 z4 := Tryz.sizeOf4
 v4 := Tryz.zeroValue4 }
open Go.RowKit Go.Lib in
/-- cmp.isNaN[int]: 'x != x': false. (LAID: no walk: one application.) -/
theorem Tryz.cmp_isNaN_int2 (x : Int) (w : World) :
  Calls Tryz.prog 140 #[.int .i64 x] w fun e w' => e = .returned (.bool false) ∧ w' = w := Any.cmp_isNaN_int2 Tryz.laysNm237 x w
def Tryz.laysNm231_ren : Go.Shelf.Ren := ⟨fun | 31 => 123 | 37 => 140 | n => n, fun | 3 => 3 | 4 => 4 | n => n, fun | n => n⟩
theorem Tryz.laysNm231 : Go.Proofs.Lays2.n31 Tryz.prog Tryz.laysNm231_ren := {
 mixed := by kernel_rfl
 f31 := Tryz.func123.trans (congrArg some (by kernel_rfl))
 f37 := Tryz.func140.trans (congrArg some (by kernel_rfl))
 t3 := Tryz.underlying3
 a3 := Tryz.isAgg3
 z3 := Tryz.sizeOf3
 v3 := Tryz.zeroValue3
 t4 := Tryz.underlying4
 a4 := Tryz.isAgg4
 z4 := Tryz.sizeOf4
 v4 := Tryz.zeroValue4 }
open Go.RowKit Go.Lib in
/-- cmp.Less[int]: "Less reports whether x is less than y.": 'x < y'; the world is as it was. (LAID: no walk: one application.) -/
theorem Tryz.cmp_Less_int2 (x y : Int) (w : World) :
  Calls Tryz.prog 123 #[.int .i64 x, .int .i64 y] w fun e w' => e = .returned (.bool (decide (x < y))) ∧ w' = w := Any.cmp_Less_int2 Tryz.laysNm231 x y w
open Go.RowKit Go.Sort in
/-- .. and plain. (LAID: no walk: one application.) -/
theorem Tryz.slices_Sort_int_none (p : Option Addr) (cap : Nat) (w : World) :
  Calls Tryz.prog 76 #[.slice p 0 cap] w fun e w' => e = .returned (.tuple #[]) ∧ w' = w := Any.slices_Sort_int_none Tryz.lays189 p cap w
def Tryz.laysSlE041_f40_ren : Go.Shelf.Ren := ⟨fun | 41 => 40 | n => n, fun | 22 => 23 | 23 => 3 | 4 => 4 | n => n, fun | n => n⟩
theorem Tryz.laysSlE041_f40 : Go.Proofs.SlLaysE0.n41 Tryz.prog Tryz.laysSlE041_f40_ren := {
 mixed := by kernel_rfl
 f41 := ⟨Tryz.f40.name, by decide, Tryz.func40.trans (congrArg some (by kernel_rfl))⟩
 t4 := Tryz.underlying4
 a4 := Tryz.isAgg4
 z4 := Tryz.sizeOf4
 v4 := Tryz.zeroValue4
 t22 := Tryz.underlying23
 a22 := Tryz.isAgg23
 z22 := Tryz.sizeOf23
 v22 := Tryz.zeroValue23 }
open Go.RowKit Go.Lib in
/-- slices.Clone: "Clone returns a copy of the slice. The elements are copied using assignment, so this is a shallow clone. The result may have additional unused capacity. The result preserves the nilness of s.": OF A SLICE THAT IS NOT nil IT RETURNS A SLICE THAT IS NOT nil, OF THE SAME CELLS, IN MEMORY OF THE CALL's OWN ('ownsRow': the how-to's 6f); below the heap's size at the call all is as it was. (LAID AT THE INSTANCE 'slices.Clone[[]int,int]': no walk: one application.) -/
theorem Tryz.slices_Clone (i0 : TypeInfo) (z : Value) (size bytes : Nat) (hi : Tryz.prog.info? 3 = some i0) (hz0 : i0.zero = some z) (hz1 : i0.size = size) (hz2 : i0.bytes = bytes) (hzs : z.cells.size = size) (hsz : 0 < size) (z23 : ∀ w, (Go.sizeOf 3).run Tryz.prog w = .ok size w) (b off n c : Nat) (news : List Value) (w : World) (hl : news.length = n * size) (hn : n ≤ maxLen) (hbig : n * bytes ≤ 140737488355328) (hc : ∀ j u, news[j]? = some u → w.cell? ⟨b, off + j, none⟩ = some u) (h1 : ∀ u ∈ news, u.oneCell' = true) :
  Calls Tryz.prog 40 #[.slice (some ⟨b, off, none⟩) n c] w fun e w' => ∃ v', e = .returned v' ∧ w'.ownsRow w.heap.size 3 size v' n news ∧ v' ≠ .slice none 0 0 ∧ Below w.heap.size w w' := AnyE.slices_Clone Tryz.laysSlE041_f40 i0 z size bytes hi hz0 hz1 hz2 hzs hsz z23 b off n c news w hl hn hbig hc h1
open Go.RowKit Go.Lib in
/-- The same at nil: nil comes back; the world is as it was; nothing is asked of the element's type. (LAID AT THE INSTANCE 'slices.Clone[[]int,int]': no walk: one application.) -/
theorem Tryz.slices_Clone_nil (n c : Nat) (w : World) :
  Calls Tryz.prog 40 #[.slice none n c] w fun e w' => e = .returned (.slice none 0 0) ∧ w' = w := AnyE.slices_Clone_nil Tryz.laysSlE041_f40 n c w
def Tryz.laysSlH6_f70_ren : Go.Shelf.Ren := ⟨fun | 6 => 70 | n => n, fun | 22 => 23 | 23 => 3 | 25 => 93 | 3 => 3 | 0 => 0 | 4 => 4 | n => n, fun | n => n⟩
theorem Tryz.laysSlH6_f70 : Go.Proofs.SlLaysH.n6 Tryz.prog Tryz.laysSlH6_f70_ren := {
 mixed := by kernel_rfl
 f6 := ⟨Tryz.f70.name, by decide, Tryz.func70.trans (congrArg some (by kernel_rfl))⟩
 t0 := Tryz.underlying0
 a0 := Tryz.isAgg0
 z0 := Tryz.sizeOf0
 v0 := Tryz.zeroValue0
 t3 := Tryz.underlying3
 a3 := Tryz.isAgg3
 z3 := Tryz.sizeOf3
 v3 := Tryz.zeroValue3
 t4 := Tryz.underlying4
 a4 := Tryz.isAgg4
 z4 := Tryz.sizeOf4
 v4 := Tryz.zeroValue4
 t22 := Tryz.underlying23
 a22 := Tryz.isAgg23
 z22 := Tryz.sizeOf23
 v22 := Tryz.zeroValue23
 a23 := Tryz.isAgg3
 z23 := Tryz.sizeOf3
 t25 := Tryz.underlying93
 a25 := Tryz.isAgg93
 z25 := Tryz.sizeOf93
 v25 := Tryz.zeroValue93 }
open Go.RowKit Go.Lib in
/-- slices.IndexFunc: "IndexFunc returns the first index i satisfying f(s[i]), or -1 if none do." (LAID AT THE INSTANCE 'slices.IndexFunc[[]int,int]': no walk: one application.) -/
theorem Tryz.slices_IndexFunc {α : Type} [Inhabited α] (enc : α → Value) (p : α → Bool) (g : Nat) (lb : Array Value) (eg : ∀ args w, (callFunc g args).run Tryz.prog w = .ok (.enter g args) w) (b off n c : Nat) (zs : List α) (w : World) (hp : PredAt Tryz.prog g lb enc p w) (hz : n ≤ zs.length) (hbig : n ≤ 9223372036854775807) (hc : ∀ j, j < zs.length → w.cell? ⟨b, off + j, none⟩ = some (enc zs[j]!)) :
  Calls Tryz.prog 70 #[.slice (some ⟨b, off, none⟩) n c, .func (.func g) #[] lb] w fun e w' => e = .returned (.int .i64 (Lib.idxBy (fun _ y => p y) (zs.take n) default)) ∧ ∃ q, w' = w.drewN q := AnyE.slices_IndexFunc Tryz.laysSlH6_f70 enc p g lb eg b off n c zs w hp hz hbig hc
open Go.RowKit Go.Lib in
/-- The same at a slice of length 0, a nil one too: the predicate is not called: nothing is asked of it. (LAID AT THE INSTANCE 'slices.IndexFunc[[]int,int]': no walk: one application.) -/
theorem Tryz.slices_IndexFunc_empty {α : Type} [Inhabited α] (a : Option Addr) (c : Nat) (fv : Value) (w : World) :
  Calls Tryz.prog 70 #[.slice a 0 c, fv] w fun e w' => e = .returned (.int .i64 (-1)) ∧ w' = w := AnyE.slices_IndexFunc_empty Tryz.laysSlH6_f70 a c fv w
def Tryz.laysSlH8_f38_ren : Go.Shelf.Ren := ⟨fun | 8 => 38 | 6 => 70 | n => n, fun | 22 => 23 | 23 => 3 | 25 => 93 | 4 => 4 | 3 => 3 | 0 => 0 | n => n, fun | n => n⟩
theorem Tryz.laysSlH8_f38 : Go.Proofs.SlLaysH.n8 Tryz.prog Tryz.laysSlH8_f38_ren := {
 mixed := by kernel_rfl
 f6 := ⟨Tryz.f70.name, by decide, Tryz.func70.trans (congrArg some (by kernel_rfl))⟩
 f8 := ⟨Tryz.f38.name, by decide, Tryz.func38.trans (congrArg some (by kernel_rfl))⟩
 t0 := Tryz.underlying0
 a0 := Tryz.isAgg0
 z0 := Tryz.sizeOf0
 v0 := Tryz.zeroValue0
 t3 := Tryz.underlying3
 a3 := Tryz.isAgg3
 z3 := Tryz.sizeOf3
 v3 := Tryz.zeroValue3
 t4 := Tryz.underlying4
 a4 := Tryz.isAgg4
 z4 := Tryz.sizeOf4
 v4 := Tryz.zeroValue4
 t22 := Tryz.underlying23
 a22 := Tryz.isAgg23
 z22 := Tryz.sizeOf23
 v22 := Tryz.zeroValue23
 a23 := Tryz.isAgg3
 z23 := Tryz.sizeOf3
 t25 := Tryz.underlying93
 a25 := Tryz.isAgg93
 z25 := Tryz.sizeOf93
 v25 := Tryz.zeroValue93 }
open Go.RowKit Go.Lib in
/-- slices.ContainsFunc: "ContainsFunc reports whether at least one element e of s satisfies f(e).": ITS CALLEE slices.IndexFunc IS MET BY ITS OWN CONTRACT. (LAID AT THE INSTANCE 'slices.ContainsFunc[[]int,int]': no walk: one application.) -/
theorem Tryz.slices_ContainsFunc {α : Type} [Inhabited α] (enc : α → Value) (p : α → Bool) (g : Nat) (lb : Array Value) (eg : ∀ args w, (callFunc g args).run Tryz.prog w = .ok (.enter g args) w) (b off n c : Nat) (zs : List α) (w : World) (hp : PredAt Tryz.prog g lb enc p w) (hz : n ≤ zs.length) (hbig : n ≤ 9223372036854775807) (hc : ∀ j, j < zs.length → w.cell? ⟨b, off + j, none⟩ = some (enc zs[j]!)) :
  Calls Tryz.prog 38 #[.slice (some ⟨b, off, none⟩) n c, .func (.func g) #[] lb] w fun e w' => e = .returned (.bool ((zs.take n).any p)) ∧ ∃ q, w' = w.drewN q := AnyE.slices_ContainsFunc Tryz.laysSlH8_f38 enc p g lb eg b off n c zs w hp hz hbig hc
open Go.RowKit Go.Lib in
/-- The same at a slice of length 0, a nil one too. (LAID AT THE INSTANCE 'slices.ContainsFunc[[]int,int]': no walk: one application.) -/
theorem Tryz.slices_ContainsFunc_empty {α : Type} [Inhabited α] (a : Option Addr) (c : Nat) (fv : Value) (w : World) :
  Calls Tryz.prog 38 #[.slice a 0 c, fv] w fun e w' => e = .returned (.bool false) ∧ w' = w := AnyE.slices_ContainsFunc_empty Tryz.laysSlH8_f38 a c fv w
def Tryz.laysSlH10_f50_ren : Go.Shelf.Ren := ⟨fun | 10 => 50 | 6 => 70 | n => n, fun | 22 => 23 | 23 => 3 | 25 => 93 | 3 => 3 | 4 => 4 | 0 => 0 | n => n, fun | n => n⟩
theorem Tryz.laysSlH10_f50 : Go.Proofs.SlLaysH.n10 Tryz.prog Tryz.laysSlH10_f50_ren := {
 mixed := by kernel_rfl
 f6 := ⟨Tryz.f70.name, by decide, Tryz.func70.trans (congrArg some (by kernel_rfl))⟩
 f10 := ⟨Tryz.f50.name, by decide, Tryz.func50.trans (congrArg some (by kernel_rfl))⟩
 t0 := Tryz.underlying0
 a0 := Tryz.isAgg0
 z0 := Tryz.sizeOf0
 v0 := Tryz.zeroValue0
 t3 := Tryz.underlying3
 a3 := Tryz.isAgg3
 z3 := Tryz.sizeOf3
 v3 := Tryz.zeroValue3
 t4 := Tryz.underlying4
 a4 := Tryz.isAgg4
 z4 := Tryz.sizeOf4
 v4 := Tryz.zeroValue4
 t22 := Tryz.underlying23
 a22 := Tryz.isAgg23
 z22 := Tryz.sizeOf23
 v22 := Tryz.zeroValue23
 a23 := Tryz.isAgg3
 z23 := Tryz.sizeOf3
 t25 := Tryz.underlying93
 a25 := Tryz.isAgg93
 z25 := Tryz.sizeOf93
 v25 := Tryz.zeroValue93 }
open Go.RowKit Go.Lib Go.Sort in
theorem Tryz.slices_DeleteFunc {α : Type} [Inhabited α] (enc : α → Value) (hO : OneCell enc) (p : α → Bool) (g : Nat) (lb : Array Value) (eg : ∀ args w, (callFunc g args).run Tryz.prog w = .ok (.enter g args) w) (zr : α) (v23 : ∀ w, (zeroValue 3).run Tryz.prog w = .ok (enc zr) w) (blk off cap : Nat) (d : Array α) (w : World) (hp : PredAt Tryz.prog g lb enc p w) (hpo : PredOver Tryz.prog g lb enc p blk off d.size w) (hH : Holds enc w blk off d) (hsz : d.size ≤ 9223372036854775807) (hcap : d.size ≤ cap) :
  Calls Tryz.prog 50 #[.slice (some ⟨blk, off, none⟩) d.size cap, .func (.func g) #[] lb] w fun e w' => e = .returned (.slice (some ⟨blk, off, none⟩) (d.toList.filter fun x => !p x).length cap) ∧ ∃ q, w' = putRow enc (Sort.ahead w q) blk off ((d.toList.filter fun x => !p x) ++ List.replicate (d.size - (d.toList.filter fun x => !p x).length) zr).toArray := AnyE.slices_DeleteFunc Tryz.laysSlH10_f50 enc hO p g lb eg zr v23 blk off cap d w hp hpo hH hsz hcap
end Go.Proofs
namespace Go.Proofs.YtemcgfncahccgaaGreat
open Go.RowKit

theorem flat_len (f : Nat → List UInt8) (hf : ∀ n, (f n).length = 512) (k : Nat) : ((List.range k).flatMap f).length = 512 * k := by
 induction k with
 | zero => rfl
 | succ k ih => rw [List.range_succ, List.flatMap_append, List.length_append, ih]; simp [hf]; omega
theorem flat_at (f : Nat → List UInt8) (hf : ∀ n, (f n).length = 512) (k n i : Nat) (hn : n < k) (hi : i < 512) : ((List.range k).flatMap f)[512 * n + i]? = (f n)[i]? := by
 induction k with
 | zero => omega
 | succ k ih =>
  rw [List.range_succ, List.flatMap_append]
  have hl := flat_len f hf k
  by_cases h : n < k
  ·rw [List.getElem?_append_left (by omega)]; exact ih h
  ·obtain rfl : n = k := by omega
   rw [List.getElem?_append_right (by omega), hl]
   simp only [List.flatMap_cons, List.flatMap_nil, List.append_nil]
   congr 1; omega
/-- all lasting bytes -/
def flatL (x : DiskD) : List UInt8 := (List.range x.size.toNat).flatMap fun (n : Nat) => x.lasts (n : Int)
theorem flatL_len {x : DiskD} (hx : x.ok) : (flatL x).length = 512 * x.size.toNat := flat_len _ (fun n => hx.2.2.1 n) _
theorem flatL_at {x : DiskD} (hx : x.ok) (n i : Nat) (hn : (n : Int) < x.size) (hi : i < 512) : (flatL x)[512 * n + i]? = (x.lasts n)[i]? := flat_at _ (fun n => hx.2.2.1 n) _ n i (by omega) hi
/-- the fields of the reference's disk -/
structure RDisk (W : World) (B : Nat) (lv wv fv : Value) (x : DiskD) : Prop where
 lasts : BytesIn W B lv (flatL x)
 waits : WaitsIn W B wv x.waits
 fails : IntsIn W B fv x.fails
theorem RDisk.below {W W' : World} {B C : Nat} {lv wv fv : Value} {x : DiskD} (h : RDisk W B lv wv fv x) (hb : Below C W W') (hC : B ≤ C) : RDisk W' B lv wv fv x := ⟨h.lasts.below hb hC, h.waits.below hb hC, h.fails.below hb hC⟩
theorem RDisk.mono {W : World} {B C : Nat} {lv wv fv : Value} {x : DiskD} (h : RDisk W B lv wv fv x) (hC : B ≤ C) : RDisk W C lv wv fv x := ⟨h.lasts.mono hC, h.waits.more hC, h.fails.mono hC⟩
theorem RDisk.stepped {W : World} {B : Nat} {lv wv fv : Value} {x : DiskD} (h : RDisk W B lv wv fv x) : RDisk W B lv wv fv x.stepped := ⟨h.lasts, h.waits, h.fails⟩
theorem RDisk.one {W : World} {B : Nat} {lv wv fv : Value} {x : DiskD} (h : RDisk W B lv wv fv x) (s : Int) : (#[lv, wv, .int .i64 s, fv] : Array Value).all (·.oneCell') = true := by
 obtain ⟨_, _, _, rfl, _⟩ := h.lasts
 obtain ⟨_, _, _, _, rfl, _⟩ := h.waits
 obtain ⟨_, _, _, rfl, _⟩ := h.fails
 simp [Value.oneCell']
theorem size_rdisk (a b c d : Value) : (Tryz.prog.info? 32).map (·.size) = some (#[a, b, c, d] : Array Value).size := by
 show _ = some 4
 kernel_rfl
theorem load_rdisk {W : World} {g : Nat} {a b c d : Value} (h : Blk W g 32 #[a, b, c, d]) : (loadVar 32 ⟨g, 0, none⟩).run Tryz.prog W = .ok (.agg #[a, b, c, d]) W :=
 run_loadVar_row W g 32 32 #[a, b, c, d] (0, 0) _ h Tryz.underlying32 rfl (size_rdisk a b c d)
abbrev zeroD : Array Value := #[.slice none 0 0, .slice none 0 0, .int .i64 0, .slice none 0 0]
/-- the reference's disk, as a value -/
def RDiskIn (W : World) (B : Nat) (v : Value) (x : DiskD) : Prop := ∃ lv wv fv, v = .agg #[lv, wv, .int .i64 x.steps, fv] ∧ RDisk W B lv wv fv x

/-- bytes of which the first j are others -/
def secTo (b c : List UInt8) (j : Nat) : List UInt8 := b.take j ++ c.drop j
theorem secTo_zero (b c : List UInt8) : secTo b c 0 = c := by simp [secTo]
theorem secTo_len {b c : List UInt8} (h : b.length = c.length) (j : Nat) : (secTo b c j).length = c.length := by simp [secTo]; omega
theorem secTo_all {b c : List UInt8} {j : Nat} (h : b.length = j) (hc : c.length = j) : secTo b c j = b := by
 unfold secTo
 rw [List.take_of_length_le (by omega), List.drop_eq_nil_of_le (by omega), List.append_nil]
theorem secTo_set {b c : List UInt8} (h : b.length = c.length) {j : Nat} {x : UInt8} (hx : b[j]? = some x) : ((secTo b c j).map vu8).toArray.setIfInBounds j (vu8 x) = ((secTo b c (j + 1)).map vu8).toArray := by
 have hj : j < b.length := by
  rcases Nat.lt_or_ge j b.length with hh | hh
  ·exact hh
  ·rw [List.getElem?_eq_none hh] at hx; cases hx
 rw [List.setIfInBounds_toArray]
 congr 1
 rw [← List.map_set]
 congr 1
 unfold secTo
 rw [List.set_append, if_neg (by rw [List.length_take]; omega), List.length_take, Nat.min_eq_left (by omega), Nat.sub_self]
 have e : c.drop j = c[j] :: c.drop (j + 1) := List.drop_eq_getElem_cons (by omega)
 rw [e, List.set_cons_zero, List.take_add_one, hx]
 simp
theorem secTo_at {b c : List UInt8} (h : b.length = c.length) {j : Nat} (hj : j < c.length) : ∃ u, ((secTo b c j).map vu8).toArray[j]? = some u := by
 refine ⟨((secTo b c j).map vu8).toArray[j]'(by simp [secTo_len h]; exact hj), Array.getElem?_eq_getElem _⟩

theorem blk_row_far {w : World} {g g' : Nat} {t : TypeId} {cs : Array Value} (h : Blk w g t cs) (cs' : Array Value) (hg : g ≠ g') : Blk (w.setRow g' cs') g t cs := (setRow_other w g' g cs' hg).trans h
theorem rdsize_any (x : DiskD) (lv wv fv : Value) (s : Int) (w : World) (h : RDisk w w.heap.size lv wv fv x) (hx : x.ok) :
  Calls Tryz.prog 49 #[.agg #[lv, wv, .int .i64 s, fv]] w fun e w' => e = .returned (.int .i64 x.size) ∧ Below w.heap.size w w' := by
 obtain ⟨h1, a, cap, rfl, h2⟩ := h.lasts
 have hl := flatL_len hx
 have h0 := hx.1
 have e : ((flatL x).length : Int) / 512 = x.size := by omega
 have hmx : (flatL x).length ≤ 2097152 := by have := hx.2.1; omega
 have hb : Below w.heap.size w (w.alloc (.cells #[.slice a (flatL x).length cap, wv, .int .i64 s, fv] 32)) := (Below.refl _ w).alloc (Nat.le_refl _) _
 generalize (flatL x).length = L at *
 clear h hx hl h2
 go_enter Tryz.func49, Tryz.ntmps49
 go_wp2_with fail
 go_ret
 exact ⟨by rw [← e]; congr 2, hb⟩

set_option maxRecDepth 100000 in
set_option maxHeartbeats 1000000 in
theorem rdsector_any (x : DiskD) (lv wv fv : Value) (s : Int) (n : Nat) (w : World) (h : RDisk w w.heap.size lv wv fv x) (hx : x.ok) (hn : (n : Int) < x.size) :
  Calls Tryz.prog 133 #[.agg #[lv, wv, .int .i64 s, fv], .int .i64 n] w fun e w' => e = .returned (sectorV (x.lasts n)) ∧ Below w.heap.size w w' := by
 have HL := Lib.hid h.lasts
 obtain ⟨h1, a, cap, rfl, hcap, h2⟩ := h.lasts
 have hl := flatL_len hx
 have h0 := hx.1
 have h4 := hx.2.1
 have hat := Lib.hid (fun i hi => flatL_at hx n i hn hi)
 have hbl := hx.2.2.1 n
 obtain ⟨b, eb⟩ : ∃ b, b = x.lasts n := ⟨_, rfl⟩
 rw [← eb] at hbl hat ⊢
 clear eb
 have hn5 : 512 * n + 512 ≤ (flatL x).length := by omega
 have hmx : (flatL x).length ≤ 2097152 := by omega
 generalize flatL x = L at *
 clear h hx h2 h1 hl h0 h4
 have hl0 : sector0.length = 512 := List.length_replicate
 have hbe : b.length = sector0.length := by rw [hl0, hbl]
 obtain ⟨W, eW⟩ : ∃ W, W = ((w.alloc (.cells #[.slice a L.length cap, wv, .int .i64 s, fv] 32)).alloc (.cells Tryz.zeroCells84 84)).alloc (.cells Tryz.zeroCells84 84) := ⟨_, rfl⟩
 have hbW : Below w.heap.size w W := by rw [eW]; exact (((Below.refl _ w).alloc (Nat.le_refl _) _).alloc (by simp) _).alloc (by simp; omega) _
 have k0 : Blk W w.heap.size 32 #[.slice a L.length cap, wv, .int .i64 s, fv] := by rw [eW]; exact ((Blk.new w _ _).alloc _).alloc _
 have k1 : Blk W (w.heap.size + 1) 84 (sector0.map vu8).toArray := by rw [eW, ← zero111]; exact (Blk.new2 w _ _ _).alloc _
 have k2 : Blk W (w.heap.size + 2) 84 (sector0.map vu8).toArray := by rw [eW, ← zero111]; exact Blk.new' (by simp)
 have HLW := Lib.hid (HL.out.below hbW (Nat.le_refl _))
 go_enter Tryz.func133, Tryz.ntmps133
 go_upto_region 2 with fail
 rw [← eW]
 clear eW
 go_wp2_with fail
 go_loopw [6] (fun i wr => ∃ j : Nat, j ≤ 512 ∧ i = .int .i64 j ∧ Blk wr (w.heap.size + 2) 84 ((secTo b sector0 j).map vu8).toArray ∧ Blk wr (w.heap.size + 1) 84 (sector0.map vu8).toArray ∧ Blk wr w.heap.size 32 #[.slice a L.length cap, wv, .int .i64 s, fv] ∧ Below w.heap.size w wr) (fun i _ => 512 - (intOf i).toNat)
 case atStart => exact ⟨0, by omega, rfl, by rw [secTo_zero]; exact k2, k1, k0, hbW⟩
 case round =>
  obtain ⟨j, hj, rfl, hO, hR, hD, hB⟩ := hrel
  by_cases hlt : j < 512
  ·obtain ⟨c, hc⟩ : ∃ c, b[j]? = some c := ⟨_, List.getElem?_eq_getElem (by omega)⟩
   obtain ⟨g, off, rfl, hg, hcell⟩ := (HL.out.below hB (Nat.le_refl _)).at_ ((hat.out j hlt).trans hc)
   have cD := hD.cell_is 0 rfl
   obtain ⟨u, hu⟩ := secTo_at hbe (j := j) (by omega)
   have cO := hO.cell_is j hu
   have fO := hO.frozen j
   have HO := Lib.hid (hO.set_ j (vu8 c))
   rw [secTo_set hbe hc] at HO
   have HR := Lib.hid (hR.far (p := ⟨w.heap.size + 2, j, none⟩) (by simp) (vu8 c))
   have HD := Lib.hid (hD.far (p := ⟨w.heap.size + 2, j, none⟩) (by simp) (vu8 c))
   have HB := Lib.hid (hB.setCell (p := ⟨w.heap.size + 2, j, none⟩) (by simp) (vu8 c))
   have i1 : ¬ (512 * (n : Int) + (j : Int)) < 0 := by omega
   have i2 : (512 * (n : Int) + (j : Int)) < (L.length : Int) := by omega
   clear hO hR hD hB
   go_wp2_with fail
   exact ⟨⟨j + 1, by omega, by go_num, HO.out, HR.out, HD.out, HB.out⟩, by simp [intOf]; omega⟩
  ·obtain rfl : j = 512 := by omega
   rw [secTo_all hbl hl0] at hO
   have hone := sector_all b
   have hsz := sector_size _ hbl
   have hse := sector_eq _ _ hl0 hbl
   go_wp2_with (first
    | (refine wpList_load_row rfl 84 _ rfl (w.heap.size + 2) rfl 84 (b.map vu8).toArray (0, 0) _ hO Tryz.underlying84 rfl hsz ?_)
    | (refine wpList_store_row rfl 84 _ _ rfl (w.heap.size + 1) (b.map vu8).toArray rfl rfl 84 _ hR hsz hse hone ?_))
   exact bodyPost_ret (results_cell_row Tryz.results133 _ _ (w.heap.size + 1) 84 (b.map vu8).toArray (0, 0) _ rfl (hR.row _) Tryz.underlying84 rfl hsz) rfl ⟨rfl, below_row hB _ (by omega)⟩
end Go.Proofs.YtemcgfncahccgaaGreat
