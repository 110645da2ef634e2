/-
  A list of bytes that grows: number.
  The contract of codec's writer.number. (Written by gen_lwnum.py.)
  The contracts of codec.fields and writer.key. (Written by gen_lwkey.py.)
  copy of bytes to a sector; head.sector. (Written by gen_lhead.py.)
  The contract of codec.Put. (Written by gen_lcput.py.)
  slices.Chunk of bytes, by 512.
  A range over an iterator that has loops over iterators of its own: the law, for all loops of a function outside a round, at the wide fence.
  logs.parts: the sectors of a state.
  must, read, take: what logs.Read is made of.
  logs.take.
  codec's reader: take, number; blank.
-/
import Derived.Laws.CopyRow
import Derived.Lib.SlBuf
import Derived.Test.YtemcgfncahccgaaGreatCa1
import Derived.Test.YtemcgfncahccgaaGreatCa3
import Derived.Test.YtemcgfncahccgaaGreatCa5
import Derived.Test.YtemcgfncahccgaaGreatCa6
import Derived.Test.YtemcgfncahccgaaGreatCa10
set_option linter.unusedVariables false
set_option linter.unusedSimpArgs false
namespace Go.Proofs.YtemcgfncahccgaaGreat
open Go.RowKit

/-- what an append to the list in block g may turn -/
structure RowStep (g : Nat) (v v' : Value) (w w' : World) : Prop where
 out : Out (fun i => i = g ∨ v.ownBlock = some i) w w'
 new_ : ∀ i, v'.ownBlock = some i → v.ownBlock = some i ∨ w.heap.size ≤ i
theorem RowStep.refl (g : Nat) (v : Value) (w : World) : RowStep g v v w w := ⟨Out.refl _ _, fun _ h => .inl h⟩
theorem RowStep.trans {g : Nat} {v v1 v2 : Value} {w w1 w2 : World} (h : RowStep g v v1 w w1) (k : RowStep g v1 v2 w1 w2) : RowStep g v v2 w w2 :=
 ⟨h.out.trans k.out (fun i hi hd => hd.elim .inl (fun hd => (h.new_ i hd).elim .inr (fun hs => absurd hs (by omega)))), fun i hi => (k.new_ i hi).elim (h.new_ i) (fun hs => .inr (by have := h.out.size; omega))⟩
theorem RowStep.first {g : Nat} {v v' : Value} {w0 w w1 : World} (h : RowStep g v v' w w1) (hb : Below w0.heap.size w0 w) : RowStep g v v' w0 w1 :=
 ⟨(outB hb : Out (fun i => i = g ∨ v.ownBlock = some i) w0 w).trans h.out (fun _ _ => id), fun i hi => (h.new_ i hi).imp id (fun hs => by have := hb.size; omega)⟩
/-- a block of another kind than the list's is as it was -/
theorem RowStep.blk {g : Nat} {v v' : Value} {w w' : World} (h : RowStep g v v' w w') {B n : Nat} {xs : List Value} {t : TypeId} {c : Value} (hg : Blk w g t #[c]) (ho : w.ownsRow B 5 1 v n xs) {j : Nat} {t' : TypeId} {cs : Array Value} (hb : Blk w j t' cs) (h1 : j ≠ g) (h2 : t' ≠ 5) : Blk w' j t' cs :=
 h.out.blk hb (fun hd => hd.elim h1 (fun e => ne_own ho hb (Ne.symm h2) j e rfl))
theorem RowStep.below {g B : Nat} {v v' : Value} {w w' : World} (h : RowStep g v v' w w') (hg : B ≤ g) (hv : ∀ i, v.ownBlock = some i → B ≤ i) : ∀ i, i < B → i < w.heap.size → w'.heap[i]? = w.heap[i]? :=
 fun i hi hl => h.out.block i hl (fun hd => hd.elim (fun e => by omega) (fun e => by have := hv i e; omega))
theorem slice_form {w : World} {B k : Nat} {e : TypeId} {v : Value} {n : Nat} {xs : List Value} (h : w.ownsRow B e k v n xs) : ∃ a cap, v = .slice a n cap := by
 rcases h.2 with ⟨rfl, h0⟩ | ⟨g, cap, cur, rfl, _⟩
 ·exact ⟨none, 0, by rw [h0]⟩
 ·exact ⟨_, _, rfl⟩
end Go.Proofs.YtemcgfncahccgaaGreat
namespace Go.Proofs.YtemcgfncahccgaaGreat
open Go.RowKit
end Go.Proofs.YtemcgfncahccgaaGreat
namespace Go.Proofs.YtemcgfncahccgaaGreat
open Go.RowKit

/-- an int64 as an uint64 -/
def u64 (n : Int) : Nat := (n % 18446744073709551616).toNat
def keyPre (x : KeyD) (j : Nat) : List UInt8 := (if 0 < j then leB (u64 x.k) 1 else []) ++ ((if 1 < j then leB (u64 x.r) 1 else []) ++ ((if 2 < j then leB (u64 x.o) 2 else []) ++ ((if 3 < j then leB (u64 x.c) 4 else []) ++ ((if 4 < j then leB (u64 x.a) 4 else []) ++ (if 5 < j then leB (u64 x.v) 8 else [])))))
def keyB (x : KeyD) : List UInt8 := keyPre x 6
theorem keyB_len (x : KeyD) : (keyB x).length = 20 := by simp [keyB, keyPre, leB_len]
def fieldsV : Array Value := #[.int .i64 1, .func (.func 145) #[] #[], .func (.func 146) #[] #[], .int .i64 1, .func (.func 147) #[] #[], .func (.func 148) #[] #[], .int .i64 2, .func (.func 149) #[] #[], .func (.func 150) #[] #[], .int .i64 4, .func (.func 151) #[] #[], .func (.func 152) #[] #[], .int .i64 4, .func (.func 153) #[] #[], .func (.func 154) #[] #[], .int .i64 8, .func (.func 155) #[] #[], .func (.func 156) #[] #[]]
set_option maxRecDepth 100000 in
theorem fields_any (w : World) : Calls Tryz.prog 132 #[] w fun e w' => e = .returned (.agg fieldsV) ∧ Below w.heap.size w w' := by
 have hi : (Tryz.prog.info? 218).map (·.size) = some fieldsV.size := by kernel_rfl
 have h1 : fieldsV.all (·.oneCell') = true := by kernel_rfl
 go_enter Tryz.func132, Tryz.ntmps132
 go_wp2_with (refine wpList_store_row rfl 218 _ _ rfl w.heap.size fieldsV rfl rfl 218 _ (heap_alloc_new w _) hi rfl h1 ?_; rw [World.setRow_alloc_new])
 exact bodyPost_ret (v := .agg fieldsV) (results_cell_row Tryz.results132 _ _ w.heap.size 218 fieldsV (0, 0) _ rfl (heap_alloc_last _ _) Tryz.underlying218 rfl (by kernel_rfl)) rfl ⟨rfl, (Below.refl _ w).alloc (Nat.le_refl _) _⟩
theorem index_0 (w : World) : (Instr.index 218 (.agg fieldsV) (.int .i64 0)).run Tryz.prog w = .ok (.agg #[.int .i64 1, .func (.func 145) #[] #[], .func (.func 146) #[] #[]]) w := by kernel_rfl
theorem index_1 (w : World) : (Instr.index 218 (.agg fieldsV) (.int .i64 1)).run Tryz.prog w = .ok (.agg #[.int .i64 1, .func (.func 147) #[] #[], .func (.func 148) #[] #[]]) w := by kernel_rfl
theorem index_2 (w : World) : (Instr.index 218 (.agg fieldsV) (.int .i64 2)).run Tryz.prog w = .ok (.agg #[.int .i64 2, .func (.func 149) #[] #[], .func (.func 150) #[] #[]]) w := by kernel_rfl
theorem index_3 (w : World) : (Instr.index 218 (.agg fieldsV) (.int .i64 3)).run Tryz.prog w = .ok (.agg #[.int .i64 4, .func (.func 151) #[] #[], .func (.func 152) #[] #[]]) w := by kernel_rfl
theorem index_4 (w : World) : (Instr.index 218 (.agg fieldsV) (.int .i64 4)).run Tryz.prog w = .ok (.agg #[.int .i64 4, .func (.func 153) #[] #[], .func (.func 154) #[] #[]]) w := by kernel_rfl
theorem index_5 (w : World) : (Instr.index 218 (.agg fieldsV) (.int .i64 5)).run Tryz.prog w = .ok (.agg #[.int .i64 8, .func (.func 155) #[] #[], .func (.func 156) #[] #[]]) w := by kernel_rfl
theorem info_field : (Tryz.prog.info? 217).map (·.size) = some 3 := by kernel_rfl
end Go.Proofs.YtemcgfncahccgaaGreat
namespace Go.Proofs.YtemcgfncahccgaaGreat
open Go.RowKit

def padL (l : List UInt8) : List UInt8 := l ++ List.replicate (508 - l.length) 0
theorem padL_len (l : List UInt8) (h : l.length ≤ 508) : (padL l).length = 508 := by simp [padL]; omega
/-- a sector that is sealed -/
def sectorL (l : List UInt8) : List UInt8 := sealOf (padL l)
theorem sectorL_len (l : List UInt8) (h : l.length ≤ 508) : (sectorL l).length = 512 := by rw [sectorL, sealOf_len, padL_len l h]
/-- a sector's block as bytes -/
theorem blk_bytes {w : World} {g : Nat} {t : TypeId} {b : List UInt8} (h : Blk w g t (b.map vu8).toArray) (n : Nat) (hn : n ≤ b.length) (hb : b.length ≤ maxLen) : BytesIn w w.heap.size (.slice (some ⟨g, 0, none⟩) n b.length) (b.take n) := by
 have hl : (b.take n).length = n := by rw [List.length_take]; omega
 refine ⟨by omega, _, b.length, by rw [hl], by omega, fun j c hj => ⟨g, 0, rfl, h.lt, h.cell_is (0 + j) ?_⟩⟩
 rw [List.getElem?_toArray, Nat.zero_add, List.getElem?_map]
 rw [List.getElem?_take] at hj
 split at hj
 ·rw [hj]; rfl
 ·cases hj

end Go.Proofs.YtemcgfncahccgaaGreat
namespace Go.Proofs.YtemcgfncahccgaaGreat
open Go.RowKit

/-- an object's bytes -/
def objL (o : ObjD) : List UInt8 := leB (u64 o.kd) 4 ++ leB (u64 o.ct) 4 ++ leB (u64 o.cl) 4 ++ o.slots.flatMap keyB ++ o.bytes
theorem keys_len (l : List KeyD) : (l.flatMap keyB).length = 20 * l.length := by
 induction l with
 | nil => rfl
 | cons x l ih => rw [List.flatMap_cons, List.length_append, keyB_len, ih, List.length_cons]; omega
theorem objL_len (o : ObjD) (ho : o.ok) : (objL o).length = 396 := by
 unfold objL
 simp only [List.length_append, leB_len, keys_len, ho.1, ho.2]
theorem keys_take (l : List KeyD) (j : Nat) (h : j < l.length) : (l.take (j + 1)).flatMap keyB = (l.take j).flatMap keyB ++ keyB (l[j]'h) := by
 rw [List.take_add_one, List.getElem?_eq_getElem h, List.flatMap_append]
 simp
end Go.Proofs.YtemcgfncahccgaaGreat
namespace Go.Proofs.YtemcgfncahccgaaGreat
open Go.RowKit Go.Shelf

attribute [local go_sem] Oper.semAt_some

/-- blocks below B, those from C on that hold no cells, and those whose cells are not of the types T, are as they were -/
structure KeepsT (T : Nat → TypeId → Prop) (B C : Nat) (W W' : World) : Prop where
 os : W'.os = W.os
 tape : W'.tape = W.tape
 output : W'.output = W.output
 size : W.heap.size ≤ W'.heap.size
 low : ∀ i, i < B → W'.heap[i]? = W.heap[i]?
 others : ∀ (k : Nat) (o : Obj), C ≤ k → W.heap[k]? = some o → o.isCells = false → W'.heap[k]? = some o
 typed : ∀ (i : Nat) (cs : Array Value) (t : TypeId) (fr : Nat × Nat), ¬ T i t → W.heap[i]? = some (.cells cs t fr) → W'.heap[i]? = some (.cells cs t fr)
theorem KeepsT.refl (T : Nat → TypeId → Prop) (B C : Nat) (W : World) : KeepsT T B C W W := ⟨rfl, rfl, rfl, Nat.le_refl _, fun _ _ => rfl, fun _ _ _ h _ => h, fun _ _ _ _ _ h => h⟩
theorem KeepsT.trans {T : Nat → TypeId → Prop} {B C : Nat} {X Y Z : World} (h : KeepsT T B C X Y) (k : KeepsT T B C Y Z) : KeepsT T B C X Z :=
 ⟨k.os.trans h.os, k.tape.trans h.tape, k.output.trans h.output, Nat.le_trans h.size k.size, fun i hi => (k.low i hi).trans (h.low i hi), fun i o hi ho hc => k.others i o hi (h.others i o hi ho hc) hc, fun i cs t fr ht hi => k.typed i cs t fr ht (h.typed i cs t fr ht hi)⟩
theorem keepsT_b {T : Nat → TypeId → Prop} {B C l : Nat} (hB : B ≤ l) (hC : l < C) (W : World) (o o' : Obj) (h : W.heap[l]? = some o) (hc : o.isCells = false) : KeepsT T B C W (W.putObj l o') :=
 ⟨rfl, rfl, rfl, by simp, fun i hi => World.putObj_heap_other (by omega), fun i x hi hx _ => (World.putObj_heap_other (by omega)).trans hx, fun i cs t fr _ hi => (World.putObj_heap_other (fun e => by rw [e, h] at hi; cases hi; cases hc)).trans hi⟩
theorem KeepsT.of {T : Nat → TypeId → Prop} {B C : Nat} {W W' : World} (h : Below W.heap.size W W') (hB : B ≤ W.heap.size) : KeepsT T B C W W' :=
 ⟨h.os, h.tape, h.output, h.size, fun i hi => h.block i (by omega), fun i o _ ho _ => (h.block i (Array.getElem?_eq_some_iff.1 ho).1).trans ho, fun i cs t fr _ hi => (h.block i (lt_of_block hi)).trans hi⟩
theorem KeepsT.blk {T : Nat → TypeId → Prop} {B C : Nat} {W W' : World} (h : KeepsT T B C W W') {g : Nat} {t : TypeId} {cs : Array Value} (hb : Blk W g t cs) (ht : ¬ T g t) : Blk W' g t cs := h.typed g cs t _ ht hb
theorem KeepsT.bytes {T : Nat → TypeId → Prop} {B C : Nat} {W W' : World} (h : KeepsT T B C W W') {v : Value} {l : List UInt8} (hb : BytesIn W B v l) : BytesIn W' B v l := by
 obtain ⟨h1, a, cap, h2, h3, h4⟩ := hb
 refine ⟨h1, a, cap, h2, h3, fun j c hc => ?_⟩
 obtain ⟨g, off, e, hg, hr⟩ := h4 j c hc
 exact ⟨g, off, e, hg, (World.cell?_of_block (a := ⟨g, off + j, none⟩) (h.low g hg)).trans hr⟩

/-- how many sectors bytes take -/
def chunksN (n : Nat) : Nat := (n + 511) / 512
end Go.Proofs.YtemcgfncahccgaaGreat
namespace Go.Proofs.YtemcgfncahccgaaGreat
open Go.RowKit Go.Shelf

/-- an invariant that abides what an iterator does to blocks from B on: to c of them from the d-th on, and to those that hold no cells -/
def OwnC {β : Type} (d c B : Nat) (J : β → World → Prop) : Prop :=
 ∀ s W W' row, J s W → W.grownBy W' row → (∀ r, row = some r → B ≤ r ∧ ((B + d ≤ r ∧ r < B + d + c) ∨ ∃ o : Obj, W.heap[r]? = some o ∧ o.isCells = false)) → J s W'
theorem OwnFrom.zero {β : Type} {d B : Nat} {J : β → World → Prop} (h : OwnFrom B J) : OwnC d 0 B J := fun s W W' row hs hg hr => h s W W' row hs hg (fun r e => ⟨(hr r e).1, (hr r e).2.resolve_left (by omega)⟩)
theorem OwnC.from {β : Type} {d c B : Nat} {J : β → World → Prop} (h : OwnC d c B J) : OwnFrom B J := fun s W W' row hs hg hr => h s W W' row hs hg (fun r e => ⟨(hr r e).1, .inr (hr r e).2⟩)
/-- the two blocks that a loop keeps its books in -/
structure Books (K : Nat) (r : Loop) (W : World) : Prop where
 loop : W.heap[K + 1]? = some (.loop r)
 shut : W.heap[K]? = some (.deferred (some []))
theorem Books.lt {K : Nat} {r : Loop} {W : World} (h : Books K r W) : K + 1 < W.heap.size := (Array.getElem?_eq_some_iff.1 h.loop).1
theorem Books.keeps {K : Nat} {r : Loop} {W W' : World} (h : Books K r W) (k : KeepsFrom K W W') : Books K r W' := ⟨k.same _ _ (by omega) h.loop rfl, k.same _ _ (Nat.le_refl _) h.shut rfl⟩
theorem Books.put {K : Nat} {r : Loop} {W : World} (h : Books K r W) (r' : Loop) : Books K r' (W.putObj (K + 1) (.loop r')) := ⟨World.putObj_heap_same h.lt, (World.putObj_heap_other (by omega)).trans h.shut⟩
theorem Books.own {K : Nat} {r : Loop} {W W' : World} {row : Option Nat} (h : Books K r W) (hg : W.grownBy W' row) (hr : ∀ q, row = some q → K + 2 ≤ q) : Books K r W' :=
 ⟨(hg.block _ h.lt (fun e => by have := hr _ e.symm; omega)).trans h.loop, (hg.block _ (Nat.lt_of_succ_lt h.lt) (fun e => by have := hr _ e.symm; omega)).trans h.shut⟩

end Go.Proofs.YtemcgfncahccgaaGreat
namespace Go.Proofs.YtemcgfncahccgaaGreat
open Go.RowKit Go.Shelf

attribute [local go_sem] Oper.semAt_some

end Go.Proofs.YtemcgfncahccgaaGreat
namespace Go.Proofs.YtemcgfncahccgaaGreat
open Go.RowKit

/-- the panic that codec.must gives up with -/
def cfailC : List PanicEntry := [{ v := .iface 212 (.agg #[]), recovered := false }]
theorem cmust_yes (w : World) : Calls Tryz.prog 107 #[.bool true] w fun e w' => e = .returned (.tuple #[]) ∧ w = w' := by
 go_enter Tryz.func107, Tryz.ntmps107
 go_wp2_with fail
 exact bodyPost_end (v := .tuple #[]) (by simp [results, Tryz.results107, go_sem]) rfl ⟨rfl, rfl⟩
theorem cmust_no (w : World) : Calls Tryz.prog 107 #[.bool false] w fun e w' => e = .panicked cfailC ∧ w = w' := by
 go_enter Tryz.func107, Tryz.ntmps107
 go_wp2_with fail
 exact ⟨rfl, rfl, rfl⟩
end Go.Proofs.YtemcgfncahccgaaGreat
namespace Go.Proofs.YtemcgfncahccgaaGreat
open Go.RowKit

theorem leN_small (l : List UInt8) (k : Nat) (hk : l.length ≤ k) (h8 : k ≤ 8) : leN l < 18446744073709551616 := by
 have h1 := leN_lt l
 have h2 : 256 ^ l.length ≤ 256 ^ 8 := Nat.pow_le_pow_right (by omega) (by omega)
 have h3 : (256 : Nat) ^ 8 = 18446744073709551616 := by decide
 omega
end Go.Proofs.YtemcgfncahccgaaGreat
namespace Go.Proofs.YtemcgfncahccgaaGreat
open Go.RowKit

/-- the block that a slice lies in -/
def blockOf : Value → Option Nat
 | .slice (some a) _ _ => some a.block
 | _ => none
theorem blockOf_add (a : Option Addr) (i n m c d : Nat) : blockOf (.slice (a.map (·.add i)) n c) = blockOf (.slice a m d) := by
 cases a with
 | none => rfl
 | some a =>
  show some (a.add i).block = some a.block
  unfold Addr.add
  split <;> rfl
theorem BytesIn.out {F : Nat → Prop} {W W' : World} {B : Nat} {v : Value} {l : List UInt8} (h : BytesIn W B v l) (ho : Out F W W') (hB : B ≤ W.heap.size) (hF : ∀ g, blockOf v = some g → ¬ F g) : BytesIn W' B v l := by
 obtain ⟨h1, a, cap, rfl, h3, h4⟩ := h
 refine ⟨h1, a, cap, rfl, h3, fun j c hc => ?_⟩
 obtain ⟨g, off, rfl, hg, hr⟩ := h4 j c hc
 exact ⟨g, off, rfl, hg, (World.cell?_of_block (a := ⟨g, off + j, none⟩) (ho.block g (by omega) (hF g rfl))).trans hr⟩
set_option maxRecDepth 100000 in
set_option maxHeartbeats 1000000 in
theorem rtake_yes (pb B : Nat) (v : Value) (l : List UInt8) (k : Nat) (hkl : k ≤ l.length) (w : World) (hb : Blk w pb 181 #[v]) (hv : BytesIn w B v l) (hB : B ≤ pb) :
  Calls Tryz.prog 106 #[ptr pb, .int .i64 (k : Int)] w fun e w' => ∃ a cap, e = .returned (.slice a k cap) ∧ BytesIn w' B (.slice a k cap) (l.take k) ∧ (∃ v', Blk w' pb 181 #[v'] ∧ BytesIn w' B v' (l.drop k) ∧ blockOf v' = blockOf v) ∧ Out (fun i => i = pb) w w' := by
 obtain ⟨hl0, a, cap, rfl, hlc, hcs⟩ := hv
 have hv : BytesIn w B (.slice a l.length cap) l := ⟨hl0, a, cap, rfl, hlc, hcs⟩
 have hcell := hb.cell_is 0 rfl
 have hfr := hb.frozen 0
 have hlt := hb.lt
 have HU := Lib.hid (hv.upto k hkl hlc)
 have hf := hv.from_ k hkl hlc
 have HB := Lib.hid hb
 have i1 : (0 : Int) ≤ (k : Int) := by omega
 have i2 : (k : Int) ≤ (cap : Int) := by omega
 have i3 : (k : Int) ≤ (l.length : Int) := by omega
 unfold ptr
 clear hcs hv
 have fin : ∀ u, BytesIn w B u (l.drop k) → Blk (w.setCell ⟨pb, 0, none⟩ u) pb 181 #[u] ∧ BytesIn (w.setCell ⟨pb, 0, none⟩ u) B u (l.drop k) ∧ BytesIn (w.setCell ⟨pb, 0, none⟩ u) B (.slice a k cap) (l.take k) ∧ Out (fun i => i = pb) w (w.setCell ⟨pb, 0, none⟩ u) := fun u hF =>
  have hh : Below B w (w.setCell ⟨pb, 0, none⟩ u) := (out_set (F := fun i => i = pb) rfl).below (by omega) (fun i hi e => by omega)
  ⟨HB.out.set_ 0 _, hF.below hh (Nat.le_refl _), HU.out.below hh (Nat.le_refl _), out_set rfl⟩
 have FIN := Lib.hid fin
 clear fin hb
 go_enter Tryz.func106, Tryz.ntmps106
 go_wp2_with fail
 refine (cmust_yes _).mono ?_; rintro e w2 ⟨rfl, rfl⟩
 by_cases hck : cap = k
 ·rw [if_pos hck] at hf
  have FF := Lib.hid hf
  clear hf
  go_wp2_with fail
  go_ret
  obtain ⟨f1, f2, f3, f4⟩ := FIN.out _ FF.out
  rw [show cap - k = 0 by omega] at f1 f2 f3 f4
  exact ⟨a, k, rfl, by rw [hck] at f3; exact f3, ⟨_, f1, f2, by cases a <;> rfl⟩, f4⟩
 ·rw [if_neg hck] at hf
  have FF := Lib.hid hf
  clear hf
  go_wp2_with fail
  go_ret
  obtain ⟨f1, f2, f3, f4⟩ := FIN.out _ FF.out
  exact ⟨_, _, rfl, f3, ⟨_, f1, f2, blockOf_add _ _ _ _ _ _⟩, f4⟩
set_option maxRecDepth 100000 in
set_option maxHeartbeats 1000000 in
theorem rnumber_any (pb B : Nat) (v : Value) (l : List UInt8) (k : Nat) (hk : k ≤ 8) (hkl : k ≤ l.length) (w : World) (hb : Blk w pb 181 #[v]) (hv : BytesIn w B v l) (hB : B ≤ pb) :
  Calls Tryz.prog 104 #[ptr pb, .int .i64 (k : Int)] w fun e w' => e = .returned (.int .u64 (leN (l.take k) : Nat)) ∧ (∃ v', Blk w' pb 181 #[v'] ∧ BytesIn w' B v' (l.drop k) ∧ blockOf v' = blockOf v) ∧ Out (fun i => i = pb) w w' := by
 have HT := Lib.hid (rtake_yes pb B v l k hkl w hb hv hB)
 have hlk : (l.take k).length = k := by rw [List.length_take]; omega
 obtain ⟨bs, ebs⟩ : ∃ bs, bs = l.take k := ⟨_, rfl⟩
 rw [← ebs] at HT hlk ⊢
 have HLK := Lib.hid hlk
 have hlk1 : bs.length ≤ k := Nat.le_of_eq hlk
 have hlk2 : k ≤ bs.length := Nat.le_of_eq hlk.symm
 unfold ptr at *
 clear hb hv ebs hlk
 go_enter Tryz.func104, Tryz.ntmps104
 go_wp2_with fail
 refine HT.out.mono ?_; rintro e w1 ⟨a, cap, rfl, hv1, hr1, ho1⟩
 obtain ⟨h1, a', cap', he, hcap, h2⟩ := hv1
 injection he with e1 e2 e3
 subst e1 e3
 clear e2
 have HR := Lib.hid (And.intro hr1 ho1)
 clear hr1 ho1
 go_wp2_with fail
 go_loopw [12, 5] (fun i n wr => ∃ j : Nat, j ≤ k ∧ i = .int .i64 j ∧ n = .int .u64 ((leN (bs.take j) : Nat) : Int) ∧ wr = w1) (fun i _ _ => k - (intOf i).toNat)
 case atStart => exact ⟨0, by omega, rfl, rfl, rfl⟩
 case round =>
  obtain ⟨j, hj, rfl, rfl, rfl⟩ := hrel
  by_cases hlt : j < k
  ·have hbj : bs[j]? = some (bs[j]'(by omega)) := List.getElem?_eq_getElem (by omega)
   obtain ⟨g, off, rfl, hg, hcx⟩ := h2 j _ hbj
   have hT := Lib.hid (leN_take bs j _ hbj)
   have hN := leN_lt (bs.take j)
   rw [List.length_take, Nat.min_eq_left (by omega)] at hN
   generalize bs[j]'(by omega : j < bs.length) = c at *
   generalize leN (bs.take j) = N at *
   have hc256 := u8_lt c
   have hst := step64 N c.toNat j (by omega) hN hc256
   go_wp2_with fail
   exact ⟨⟨j + 1, by omega, by go_num, by rw [hT.out]; push_cast; rfl, trivial⟩, by simp [intOf]; omega⟩
  ·obtain rfl : j = k := by omega
   rw [List.take_of_length_le hlk1]
   go_wp2_with fail
   go_ret
   exact ⟨rfl, HR.out.1, HR.out.2⟩
set_option maxRecDepth 100000 in
set_option maxHeartbeats 1000000 in
theorem blank_any (B : Nat) (v : Value) (l : List UInt8) (w : World) (hv : BytesIn w B v l) :
  Calls Tryz.prog 108 #[v] w fun e w' => e = .returned (.bool (l.all (· == 0))) ∧ w = w' := by
 obtain ⟨h1, a, cap, rfl, hcap, h2⟩ := hv
 unfold maxLen at h1
 obtain ⟨q, eq⟩ : ∃ q, q = l.all (· == 0) := ⟨_, rfl⟩
 rw [← eq]
 have HQ := Lib.hid eq
 clear eq
 go_enter Tryz.func108, Tryz.ntmps108
 go_wp2_with fail
 go_loopw [8] (fun i wr => ∃ j : Nat, j ≤ l.length ∧ i = .int .i64 j ∧ (l.take j).all (· == 0) = true ∧ wr = w) (fun i _ => l.length - (intOf i).toNat)
 case atStart => exact ⟨0, by omega, rfl, by simp, rfl⟩
 case round =>
  obtain ⟨j, hj, rfl, hall, rfl⟩ := hrel
  by_cases hlt : j < l.length
  ·have hbj : l[j]? = some (l[j]'hlt) := List.getElem?_eq_getElem hlt
   obtain ⟨g, off, rfl, hg, hcx⟩ := h2 j _ hbj
   by_cases hz : l[j]'hlt = 0
   ·have hnext : (l.take (j + 1)).all (· == 0) = true := by
     rw [List.take_add_one, hbj, List.all_append, hall, hz]; rfl
    have hz0 : (((l[j]'hlt).toNat : Int) != 0) = false := by rw [hz]; rfl
    have HX := Lib.hid (And.intro hnext hz0)
    clear hall hnext hbj hz
    generalize l[j]'hlt = c at *
    have hz0 := HX.out.2
    go_wp2_with fail
    exact ⟨⟨j + 1, by omega, by go_num, HX.out.1, trivial⟩, by simp [intOf]; omega⟩
   ·have hz0 : (((l[j]'hlt).toNat : Int) != 0) = true := by
     rw [bne_iff_ne]
     intro e
     exact hz (UInt8.toNat_inj.1 (by simpa using e))
    have hq : q = false := by
     rw [HQ.out, List.all_eq_false]
     exact ⟨_, List.getElem_mem hlt, by simpa using hz⟩
    clear hbj hz hall
    generalize l[j]'hlt = c at *
    subst hq
    go_wp2_with fail
    go_ret
    exact ⟨rfl, rfl⟩
  ·obtain rfl : j = l.length := by omega
   rw [List.take_length] at hall
   have hq : q = true := by rw [HQ.out, hall]
   subst hq
   go_wp2_with fail
   go_ret
   exact ⟨rfl, rfl⟩
end Go.Proofs.YtemcgfncahccgaaGreat
