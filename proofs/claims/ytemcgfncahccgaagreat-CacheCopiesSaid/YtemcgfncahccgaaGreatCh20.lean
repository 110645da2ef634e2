/-
  The reference's cache: with.
  The reference's cache as a value; Put.
-/
import Derived.Deep.Onto
import Derived.Test.YtemcgfncahccgaaGreatCh3
import Derived.Test.YtemcgfncahccgaaGreatCh18
import Derived.Test.YtemcgfncahccgaaGreatCh19
set_option linter.unusedVariables false
set_option linter.unusedSimpArgs false
namespace Go.Proofs.YtemcgfncahccgaaGreat
open Go.RowKit

theorem size_item (x : ItemD) (h : x.o.ok) : (Tryz.prog.info? 149).map (·.size) = some x.cells.length := by rw [ItemD.len x h]; kernel_rfl
abbrev zeroC : Array Value := #[.slice none 0 0, .slice none 0 0, .int .i64 0, .slice none 0 0, .int .i64 0, .slice none 0 0, .slice none 0 0]
set_option maxRecDepth 100000 in
set_option maxHeartbeats 2000000 in
theorem rwith_any (a b c hv : Value) (s room : Int) (ad : Option Addr) (n pc : Nat) (h : List ItemD) (x : ItemD) (w : World) (hh : HandIn w w.heap.size hv h) (hx : x.o.ok) (hn : n ≤ 1000) (hl : h.length ≤ 1000) (ho : a.oneCell' = true ∧ b.oneCell' = true ∧ c.oneCell' = true) :
    Calls Tryz.prog 83 #[.agg #[a, b, .int .i64 s, c, .int .i64 room, .slice ad n pc, hv], .agg x.cells.toArray] w fun r w' => ∃ hv', r = .returned (.agg #[a, b, .int .i64 s, c, .int .i64 room, .slice ad n pc, hv']) ∧ (w'.ownsRow w.heap.size 149 165 hv' (withD room n h x).length (itemCells (withD room n h x)) ∧ (∀ y ∈ withD room n h x, y.o.ok) ∧ (withD room n h x).length ≤ 1000000) ∧ Below w.heap.size w w' := by
  have HWO := Lib.hid (fun X (hX : HandIn X X.heap.size hv h) (oid : Int) => rwithout_any a b (.int .i64 s) c (.int .i64 room) (.slice ad n pc) hv h oid X hX)
  obtain ⟨i0, z0, hT⟩ := rowG_item
  have HT := Lib.hid hT
  have hsx := size_item x hx
  have hxl := ItemD.len x hx
  have hx1 := item_one x
  obtain ⟨W, eW⟩ : ∃ W, W = ((w.alloc (.cells #[a, b, .int .i64 s, c, .int .i64 room, .slice ad n pc, hv] 61)).alloc (.cells x.cells.toArray 149)).alloc (.cells zeroC 61) := ⟨_, rfl⟩
  have hbW : Below w.heap.size w W := by rw [eW]; exact (((Below.refl _ w).alloc (Nat.le_refl _) _).alloc (by simp) _).alloc (by simp; omega) _
  have k0 : Blk W w.heap.size 61 #[a, b, .int .i64 s, c, .int .i64 room, .slice ad n pc, hv] := by rw [eW]; exact ((Blk.new w _ _).alloc _).alloc _
  have k1 : Blk W (w.heap.size + 1) 149 x.cells.toArray := by rw [eW]; exact (Blk.new2 w _ _ _).alloc _
  have k2 : Blk W (w.heap.size + 2) 61 zeroC := by rw [eW]; exact Blk.new' (by simp)
  have hWs : W.heap.size = w.heap.size + 3 := by rw [eW]; simp
  have HH := Lib.hid hh
  clear hh hT
  go_enter Tryz.func83, Tryz.ntmps83
  go_upto_region 1 with fail
  rw [← eW]
  clear eW
  refine jb (fun X => Below w.heap.size w X ∧ w.heap.size + 3 ≤ X.heap.size ∧ Blk X (w.heap.size + 1) 149 x.cells.toArray ∧ Blk X (w.heap.size + 2) 61 zeroC) (fun X => Blk X w.heap.size 61 #[a, b, .int .i64 s, c, .int .i64 room, .slice ad n pc, hv]) 8 ⟨hbW.drew, Nat.le_of_eq hWs.symm, k1.drew, k2.drew⟩ k0.drew fun hHeld hJ => ?_
  refine jy true 0 rfl (yieldsIf_load_mid (by rfl) 61 _ rfl w.heap.size 0 rfl [a, b, .int .i64 s, c, .int .i64 room, .slice ad n pc, hv] _ (fun w' h => blk_range (h.2 rfl)) Tryz.underlying61 rfl (size_rcache _ _ _ _ _ _ _)) ?_
  refine jk false 1 ?_
  refine jk false 2 ?_ (hy := by intro w hSw _; have hc := (hSw.2.2.1).cell_is 0 (v := .int .i64 x.oid) rfl; go_simp; try with_reducible rfl)
  refine jy false 4 rfl (yieldsIf_load_mid (by rfl) 149 _ rfl (w.heap.size + 1) 0 rfl x.cells _ (fun w' h => blk_range h.1.2.2.1) Tryz.underlying149 rfl hsx) ?_
  refine rp [(3, [], [], false), (5, [], [], false), (6, [(3, some 10), (5, some 12)], [3, 5], false), (7, [(3, some 10), (5, some 12), (6, some 13)], [], false), (8, [(3, some 10), (5, some 12), (6, some 13), (7, some 14)], [6, 7], true)]
    (fun | 3 => [6, 8] | 5 => [6, 8] | _ => [])
    (fun | 3 => fun vs X => X.ownsRow (w.heap.size + 3) 149 165 (vs 3) (dropI h x.oid).length (itemCells (dropI h x.oid))
         | 5 => fun vs X => ∃ g, vs 5 = .slice (some ⟨g, 0, none⟩) 1 1 ∧ g < X.heap.size ∧ X.rangeAt g 0 x.cells
         | 6 => fun vs X => X.ownsRow (w.heap.size + 3) 149 165 (vs 6) ((dropI h x.oid).length + 1) (itemCells (dropI h x.oid ++ [x]))
         | 7 => fun vs _ => vs 7 = .pointer (some ⟨w.heap.size, 6, none⟩)
         | 8 => fun vs X => Blk X w.heap.size 61 #[a, b, .int .i64 s, c, .int .i64 room, .slice ad n pc, vs 6]
         | _ => fun _ _ => True)
    (fun | 3 => fun _ X Y => Below X.heap.size X Y | 5 => fun _ X Y => Below X.heap.size X Y | 8 => fun _ X Y => Out (fun i => i = w.heap.size) X Y | _ => fun _ _ _ => True)
    [(3, some 10), (5, some 12), (6, some 13), (7, some 14), (8, none)] [6, 8] [(3, [5]), (5, [3]), (6, []), (8, [6, 7])] ?_ ?_ ?_ ?_
  · refine ⟨⟨fun vs X Y hE _ _ hp => ?_, trivial⟩, ⟨fun vs X Y hE _ _ hp => ?_, trivial⟩, trivial, ⟨fun vs X Y hE _ _ hp => ?_, fun vs X Y hE _ _ hp => hp, trivial⟩, trivial⟩
    · have hE : Below X.heap.size X Y := hE
      obtain ⟨g, h1, h2, h3⟩ := hp
      exact ⟨g, h1, by have := hE.size; omega, range_below h3 hE h2⟩
    · have hE : Below X.heap.size X Y := hE
      exact ownsRow_out (F := fun _ => False) (outB hE) hp (fun _ _ => id)
    · have hE : Out (fun i => i = w.heap.size) X Y := hE
      exact ownsRow_out hE hp (fun g hg e => by have := (World.ownsRow.lt hp g hg).1; omega)
  · exact cc (cc (cc (cc (cc cn))))
  · refine oc ?_ (oc ?_ (oc ?_ (oc ?_ (oc ?_ on))))
    · intro vs X K hS hJ hP hK
      simp only [puts, Act.put, pz0, pz1, pz2, pz3, pz4, pz5]
      go_simp
      refine (HWO.out X (HH.out.below hS.1 (Nat.le_refl _) |>.mono hS.1.size) x.oid).mono ?_; rintro r Y ⟨v, rfl, hO, hb⟩
      exact hK.out _ _ _ rfl ⟨hS.1.trans (hb.mono hS.1.size), by have := hb.size; omega, hS.2.2.1.below hb hS.2.2.1.lt, hS.2.2.2.below hb hS.2.2.2.lt⟩ (.inr fun hj => Blk.below hj hb (Blk.lt hj)) (World.ownsRow.mono hO hS.2.1) hb
    · intro vs X K hS hJ hP hK
      simp only [puts, Act.put, pz0, pz1, pz2, pz3, pz4, pz5]
      rw [if_pos (by rfl)]
      refine wp_build1 HT.out (by decide) (by decide) _ rfl x.cells.toArray (by simpa using hxl) rfl ?_
      have hb := (Below.refl X.heap.size X).alloc (Nat.le_refl _) (.cells x.cells.toArray 149)
      exact hK.out _ _ _ rfl ⟨hS.1.alloc hS.1.size _, by have := hS.2.1; simp; omega, hS.2.2.1.alloc _, hS.2.2.2.alloc _⟩ (.inr fun hj => Blk.alloc hj _) ⟨X.heap.size, rfl, by simp, blk_range (Blk.new X _ _)⟩ hb
    · intro vs X K hS hJ hP hK
      obtain ⟨hO, ⟨g, e5, hg, hr⟩, -⟩ := hP
      have hO : X.ownsRow (w.heap.size + 3) 149 165 (vs 3) (dropI h x.oid).length (itemCells (dropI h x.oid)) := hO
      have e5 : vs 5 = .slice (some ⟨g, 0, none⟩) 1 1 := e5
      simp only [puts, Act.put, pz0, pz1, pz2, pz3, pz4, pz5]
      rw [if_pos (by rfl)]
      refine wp_append_one HT.out (by decide) (by decide) X (.tmp 10) (.tmp 12) rfl (w.heap.size + 3) (dropI h x.oid).length (vs 3) _ rfl hO g 1 x.cells e5 hxl hx1 hr (by have := dropI_len h x.oid; omega) hS.2.1 ?_
      intro v Y hO2 hgr
      have hne : ∀ g0, g0 < w.heap.size + 3 → some g0 ≠ (vs 3).ownBlock := fun g0 hg0 e => by have := (World.ownsRow.lt hO g0 e.symm).1; omega
      refine hK.out _ _ _ rfl ⟨hS.1.grown hgr hS.1.size (fun r hr => by have := (World.ownsRow.lt hO r hr).1; omega), by have := hgr.size; have := hS.2.1; omega, (hgr.block _ hS.2.2.1.lt (hne _ (by omega))).trans hS.2.2.1, (hgr.block _ hS.2.2.2.lt (hne _ (by omega))).trans hS.2.2.2⟩ (.inr fun hj => (hgr.block _ (Blk.lt hj) (hne _ (by omega))).trans hj) ?_ trivial
      show Y.ownsRow (w.heap.size + 3) 149 165 (upd vs 6 v 6) ((dropI h x.oid).length + 1) (itemCells (dropI h x.oid ++ [x]))
      rw [itemCells_snoc]
      exact hO2
    · intro vs X K hS hJ hP hK
      simp only [puts, Act.put, pz0, pz1, pz2, pz3, pz4, pz5]
      go_simp
      exact hK.out _ _ _ rfl hS (.inr id) rfl rfl
    · intro vs X K hS hJ hP hK
      obtain ⟨hO, e7, -⟩ := hP
      have hO : X.ownsRow (w.heap.size + 3) 149 165 (vs 6) ((dropI h x.oid).length + 1) (itemCells (dropI h x.oid ++ [x])) := hO
      have e7 : vs 7 = .pointer (some ⟨w.heap.size, 6, none⟩) := e7
      have hJ := hJ rfl
      have c6 := Blk.cell_is hJ 6 rfl
      have f6 := Blk.frozen hJ 6
      have h8 := Blk.set_ hJ 6 (vs 6)
      have hfar : ∀ g0 t cs, g0 ≠ w.heap.size → Blk X g0 t cs → Blk (X.setCell ⟨w.heap.size, 6, none⟩ (vs 6)) g0 t cs := fun g0 t cs hne hb => hb.far (p := ⟨w.heap.size, 6, none⟩) hne _
      have HS := Lib.hid hS
      obtain ⟨A6, n6, C6, e6⟩ : ∃ A n C, vs 6 = .slice A n C := by obtain ⟨A, C, e⟩ := slice_form hO; exact ⟨A, _, C, e⟩
      rw [e6] at h8 hfar
      simp only [puts, Act.put, pz0, pz1, pz2, pz3, pz4, pz5, e7, e6]
      clear hO hJ hS
      go_simp
      refine hK.out _ undef _ (by simp only [puts, Act.put, pz0, pz1, pz2, pz3, pz4, pz5, e7, e6]) ⟨HS.out.1.setCell (p := ⟨w.heap.size, 6, none⟩) (Nat.le_refl _) _, by simpa using HS.out.2.1, hfar _ _ _ (by omega) HS.out.2.2.1, hfar _ _ _ (by omega) HS.out.2.2.2⟩ (.inl rfl) ?_ (out_set rfl)
      show Blk _ w.heap.size _ #[a, b, .int .i64 s, c, .int .i64 room, .slice ad n pc, upd vs 8 undef 6]
      rw [upd_ne (by decide), e6]
      exact h8
  · intro vs X hS hP
    obtain ⟨hO0, hB0, -⟩ := hP
    have hO : X.ownsRow (w.heap.size + 3) 149 165 (vs 6) ((dropI h x.oid).length + 1) (itemCells (dropI h x.oid ++ [x])) := hO0
    have hB : Blk X w.heap.size 61 #[a, b, .int .i64 s, c, .int .i64 room, .slice ad n pc, vs 6] := hB0
    obtain ⟨h1, eh1⟩ : ∃ h1, h1 = dropI h x.oid ++ [x] := ⟨_, rfl⟩
    have hl1 : h1.length = (dropI h x.oid).length + 1 := by rw [eh1]; simp
    have hl2 : h1.length ≤ 1001 := by have := dropI_len h x.oid; omega
    have hok1 : ∀ y ∈ h1, y.o.ok := by
      rw [eh1]
      intro y hy
      rcases List.mem_append.1 hy with hy | hy
      · exact dropI_ok HH.out.2.1 _ y hy
      · rw [List.mem_singleton.1 hy]; exact hx
    rw [← eh1, ← hl1] at hO
    have hH1 := HandIn.own hO hok1 (by omega)
    have hW : withD room n h x = if room < ((risingL n (cleanB h1)).length : Int) then (match h1.find? (fun y => !y.ch) with | some y => dropI h1 y.oid | none => h1) else h1 := by rw [eh1]; rfl
    have HW := Lib.hid hW
    obtain ⟨A6, C6, e6⟩ := slice_form hO
    simp only [puts, Act.put, pz0, pz1, pz2, pz3, pz4, pz5, e6]
    rw [e6] at hB hH1 hO
    generalize vs 3 = v3
    generalize vs 5 = v5
    generalize vs 7 = v7
    have hk2 := hS.2.2.2
    have hbX := hS.1
    have hX3 := hS.2.1
    have HO := Lib.hid hO
    clear hO hW eh1 hl1 hHeld hJ hS hO0 hB0 vs e6
    have hK0 := hB
    have hbC := rclean_any a b (.int .i64 s) c (.int .i64 room) (.slice A6 h1.length C6) ad n pc h1 X hH1 hn
    have HCL := Lib.hid hbC
    have HH1 := Lib.hid hH1
    have HOK := Lib.hid hok1
    clear hbC hH1 hok1
    go_wp2_with (refine wpList_load_row rfl 61 _ rfl w.heap.size rfl 61 _ (0, 0) _ hK0 Tryz.underlying61 rfl (size_rcache _ _ _ _ _ _ _) ?_)
    refine HCL.out.mono ?_; rintro r Y ⟨v, rfl, hOv, hbY⟩
    obtain ⟨L, eL⟩ : ∃ L, L = (risingL n (cleanB h1)).length := ⟨_, rfl⟩
    rw [← eL] at HW hOv
    obtain ⟨Av, Cv, rfl⟩ := slice_form hOv
    have q0 := hK0.below hbY hK0.lt
    have q2 := hk2.below hbY hk2.lt
    have qB := hbX.trans (hbY.mono hbX.size)
    have q4 := q0.cell_is 4 rfl
    have hLn : L ≤ 1000 := by rw [eL]; exact Nat.le_trans (risingL_len _ _) hn
    have HQ := Lib.hid (HH1.out.up hbY)
    have HONE := Lib.hid (show ∀ (A : Option Addr) (m C : Nat), (#[a, b, .int .i64 s, c, .int .i64 room, .slice ad n pc, .slice A m C] : Array Value).all (·.oneCell') = true from fun A m C => by simp [ho.1, ho.2.1, ho.2.2, show ∀ k n, (Value.int k n).oneCell' = true from fun _ _ => rfl, show ∀ a n c, (Value.slice a n c).oneCell' = true from fun _ _ _ => rfl])
    have hone := HONE.out A6 h1.length C6
    have HO2 := Lib.hid (ownsRow_out (F := fun _ => False) (outB hbY) HO.out (fun _ _ => id))
    clear hOv eL hk2 hbX HCL ho
    have fin : ∀ (Z : World) (v : Value) (hh : List ItemD) (B : Nat), Below w.heap.size w Z → Blk Z (w.heap.size + 2) 61 zeroC → Z.ownsRow (w.heap.size + 3) 149 165 v hh.length (itemCells hh) → (∀ y ∈ hh, y.o.ok) → hh.length ≤ 1000000 → withD room n h x = hh → ∀ tmps : Array Value, tmps.getD 4 undef = .pointer (some ⟨w.heap.size + 2, 0, none⟩) →
        bodyPost Tryz.prog Tryz.f83 (fun r w' => ∃ hv', r = .returned (.agg #[a, b, .int .i64 s, c, .int .i64 room, .slice ad n pc, hv']) ∧ (w'.ownsRow w.heap.size 149 165 hv' (withD room n h x).length (itemCells (withD room n h x)) ∧ (∀ y ∈ withD room n h x, y.o.ok) ∧ (withD room n h x).length ≤ 1000000) ∧ Below w.heap.size w w') Exit.ret ⟨tmps, []⟩ (Z.setRow (w.heap.size + 2) #[a, b, .int .i64 s, c, .int .i64 room, .slice ad n pc, v]) := by
      intro Z v hh B hbZ hk hO hok hlen he tmps ht
      exact bodyPost_ret (results_cell_row Tryz.results83 tmps _ (w.heap.size + 2) 61 #[a, b, .int .i64 s, c, .int .i64 room, .slice ad n pc, v] (0, 0) _ ht (hk.row _) Tryz.underlying61 rfl (size_rcache _ _ _ _ _ _ _)) rfl ⟨v, rfl, by
        rw [he]
        exact ⟨World.ownsRow.mono (ownsRow_out (F := fun i => i = w.heap.size + 2) (out_row _ rfl) hO (fun g hg e => by have := (World.ownsRow.lt hO g hg).1; omega)) (by omega), hok, hlen⟩, below_row hbZ _ (by omega)⟩
    have FIN := Lib.hid fin
    clear fin
    by_cases hr : room < (L : Int)
    · have hW2 := HW.out
      rw [if_pos hr] at hW2
      have HW2 := Lib.hid hW2
      have hd : decide (room < (L : Int)) = true := by simpa using hr
      clear hW2 HW hr
      go_wp2_with fail
      go_loopw [6] (fun i wr => ∃ j : Nat, j ≤ h1.length ∧ i = .int .i64 j ∧ h1.find? (fun y => !y.ch) = (h1.drop j).find? (fun y => !y.ch) ∧ wr = Y) (fun i _ => h1.length - (intOf i).toNat)
      case atStart => exact ⟨0, by omega, rfl, rfl, rfl⟩
      case round =>
        obtain ⟨j, hj, rfl, hno, rfl⟩ := hrel
        have HNO := Lib.hid hno
        clear hno
        have q6 := q0.cell_is 6 rfl
        by_cases hlt : j < h1.length
        · obtain ⟨y, hy⟩ : ∃ y, h1[j]? = some y := ⟨_, List.getElem?_eq_getElem hlt⟩
          obtain ⟨g, e6, hg, _, hoid, hch⟩ := HQ.out.at_ hy
          have hgl : w.heap.size + 3 ≤ g := by
            have := (World.ownsRow.lt HO2.out g (by rw [e6]; rfl)).1
            omega
          have i2 : (j : Int) < (h1.length : Int) := by omega
          have hdrop : h1.drop j = y :: h1.drop (j + 1) := by
            obtain ⟨hj2, e⟩ := List.getElem?_eq_some_iff.1 hy
            rw [← e, ← List.drop_eq_getElem_cons hj2]
          subst e6
          cases hyc : y.ch
          · rw [hyc] at hch
            have hf : h1.find? (fun y => !y.ch) = some y := by rw [HNO.out, hdrop, List.find?_cons]; simp [hyc]
            have hW3 := HW2.out
            rw [hf] at hW3
            have HW3 := Lib.hid hW3
            have HWO2 := Lib.hid (fun X (hX : HandIn X X.heap.size (.slice (some ⟨g, 0, none⟩) h1.length C6) h1) => rwithout_any a b (.int .i64 s) c (.int .i64 room) (.slice ad n pc) _ h1 y.oid X hX)
            have hgj : g < wr.heap.size := hg
            clear hf hW3 hdrop hy HW2
            go_wp2_with fail
            refine jb (fun X => True) (fun X => Below wr.heap.size wr X) 9 trivial (Below.refl _ _).drew fun hHeld hJ => ?_
            refine jy true 0 rfl (yieldsIf_load_mid (by rfl) 61 _ rfl w.heap.size 0 rfl [a, b, .int .i64 s, c, .int .i64 room, .slice ad n pc, .slice (some ⟨g, 0, none⟩) h1.length C6] _ (fun w' h => blk_range (q0.below (h.2 rfl) q0.lt)) Tryz.underlying61 rfl (size_rcache _ _ _ _ _ _ _)) ?_
            refine jk false 1 ?_
            refine jk true 2 ?_ (hy := by intro X _ hJX; have hb := hJX rfl; have hc := (q0.below hb q0.lt).cell_is 6 rfl; go_simp; try with_reducible rfl)
            refine jk false 3 ?_
            refine jk false 4 ?_
            refine jk false 5 ?_
            refine jk true 6 ?_ (hy := by intro X _ hJX; have hb := hJX rfl; have hc := (hb.cell (p := ⟨g, j * 165, none⟩) hgj).trans hoid; go_simp; try with_reducible rfl)
            refine jr 7 fun K hK => ?_
            go_simp
            refine (HWO2.out wr.drew HQ.out.drew).mono ?_; rintro r Z ⟨v, rfl, hOZ, hbZ⟩
            obtain ⟨Az, Cz, rfl⟩ := slice_form hOZ
            go_wp2_with fail
            refine hK.out _ _ ⟨trivial, fun _ => Below.trans hJ hbZ⟩ ?_
            clear hK K
            have hJ2 := Below.trans hJ hbZ
            clear hJ
            have hJ := hJ2
            have hHeld : True := trivial
            refine jk false 8 ?_
            refine jr 9 fun K hK => ?_
            have z0 := q0.below hJ q0.lt
            have z2 := q2.below hJ q2.lt
            have zB := qB.trans (hJ.mono qB.size)
            have cz := z0.cell_is 6 rfl
            have fz := z0.frozen 6
            have HOZ := Lib.hid (hOZ.mono (base' := w.heap.size + 3) (by show _ ≤ wr.heap.size; have := HO2.out; have := q2.lt; omega))
            have z8 := z0.set_ 6 (.slice Az (dropI h1 y.oid).length Cz)
            have z9 := z2.far (p := ⟨w.heap.size, 6, none⟩) (by show w.heap.size + 2 ≠ w.heap.size; omega) (.slice Az (dropI h1 y.oid).length Cz)
            have zC := zB.setCell (p := ⟨w.heap.size, 6, none⟩) (Nat.le_refl _) (.slice Az (dropI h1 y.oid).length Cz)
            have HO9 := Lib.hid (ownsRow_out (F := fun i => i = w.heap.size) (out_set (w := Z) (g := w.heap.size) (i := 6) (v := .slice Az (dropI h1 y.oid).length Cz) rfl) HOZ.out (fun g hg e => by have := (World.ownsRow.lt HOZ.out g hg).1; omega))
            have hdl := dropI_len h1 y.oid
            have hone2 : (#[a, b, .int .i64 s, c, .int .i64 room, .slice ad n pc, .slice Az (dropI h1 y.oid).length Cz] : Array Value).all (·.oneCell') = true := HONE.out _ _ _
            have HDL := Lib.hid hdl
            clear hOZ hbZ hdl hJ2 hJ z0 z2 zB
            go_simp
            refine hK.out _ _ ⟨trivial, fun h => absurd h (by decide)⟩ ?_
            clear hK K
            refine wpAnyJ_done (by kernel_rfl) ?_ _
            have Z8 := Lib.hid z8
            simp only [List.setIfInBounds_toArray, List.set_cons_succ, List.set_cons_zero] at z8
            clear cz fz
            go_wp2_with (first
              | (refine wpList_load_row rfl 61 _ rfl w.heap.size rfl 61 _ (0, 0) _ z8 Tryz.underlying61 rfl (size_rcache _ _ _ _ _ _ _) ?_)
              | (refine wpList_store_row rfl 61 _ _ rfl (w.heap.size + 2) _ rfl rfl 61 _ z9 (size_rcache _ _ _ _ _ _ _) rfl hone2 ?_))
            exact FIN.out _ _ (dropI h1 y.oid) 0 zC z9 HO9.out (dropI_ok HOK.out _) (by have := HDL.out; omega) HW3.out _ rfl
          · rw [hyc] at hch
            have HF := Lib.hid (show h1.find? (fun y => !y.ch) = (h1.drop (j + 1)).find? (fun y => !y.ch) by rw [HNO.out, hdrop, List.find?_cons]; simp [hyc])
            clear hdrop hy
            go_wp2_with fail
            exact ⟨⟨j + 1, by omega, by go_num, HF.out, trivial⟩, by simp [intOf]; omega⟩
        · obtain rfl : j = h1.length := by omega
          have hW3 := HW2.out
          rw [show h1.find? (fun y => !y.ch) = none by rw [HNO.out]; simp] at hW3
          have HW3 := Lib.hid hW3
          clear hW3
          go_wp2_with (first
            | (refine wpList_load_row rfl 61 _ rfl w.heap.size rfl 61 _ (0, 0) _ q0 Tryz.underlying61 rfl (size_rcache _ _ _ _ _ _ _) ?_)
            | (refine wpList_store_row rfl 61 _ _ rfl (w.heap.size + 2) _ rfl rfl 61 _ q2 (size_rcache _ _ _ _ _ _ _) rfl hone ?_))
          exact FIN.out wr _ h1 0 qB q2 HO2.out HOK.out (by omega) HW3.out _ rfl
    · have hW2 := HW.out
      rw [if_neg hr] at hW2
      have HW2 := Lib.hid hW2
      have hd : decide (room < (L : Int)) = false := by simpa using hr
      clear hW2 HW hr
      go_wp2_with (first
        | (refine wpList_load_row rfl 61 _ rfl w.heap.size rfl 61 _ (0, 0) _ q0 Tryz.underlying61 rfl (size_rcache _ _ _ _ _ _ _) ?_)
        | (refine wpList_store_row rfl 61 _ _ rfl (w.heap.size + 2) _ rfl rfl 61 _ q2 (size_rcache _ _ _ _ _ _ _) rfl hone ?_))
      exact FIN.out Y _ h1 0 qB q2 HO2.out HOK.out (by omega) HW2.out _ rfl
end Go.Proofs.YtemcgfncahccgaaGreat
namespace Go.Proofs.YtemcgfncahccgaaGreat
open Go.RowKit

set_option maxRecDepth 100000 in
theorem item_built (oid : Int) (o : ObjD) (ch : Bool) (ho : o.ok) : Tryz.prog.built 149 [(0, .int .i64 oid), (1, .agg o.cells.toArray), (2, .bool ch)] = some (ItemD.cells ⟨oid, o, ch⟩).toArray := by
 obtain ⟨i, z, T⟩ := rowG_item
 have hu := Tryz.underlying149
 have h3 := T.h3
 have hol := ObjD.len ho
 unfold Program.built
 rw [T.hi, hu]
 simp only [T.hz]
 rw [show (List.mapM (fun f : Field => Option.map (fun i => (f.offset, i.size)) (Tryz.prog.info? f.type)) _ : Option (List (Nat × Nat))) = some [(0, 1), (1, 163), (164, 1)] from by kernel_rfl]
 simp only []
 have hd : z.cells.toList.length = 165 := by simpa using h3
 generalize z.cells = zc at *
 obtain ⟨oc, eoc⟩ : ∃ oc, oc = o.cells := ⟨_, rfl⟩
 have e1 : (ItemD.cells ⟨oid, o, ch⟩) = .int .i64 oid :: (oc ++ [.bool ch]) := by rw [eoc]; rfl
 rw [e1, ← eoc]
 rw [← eoc] at hol
 clear e1 eoc
 obtain ⟨zl, ezl⟩ : ∃ zl, zl = zc.toList := ⟨_, rfl⟩
 have hz : zc = zl.toArray := by rw [ezl]
 rw [← ezl] at hd
 subst hz
 rw [fill_part (off := 0) (size := 1) rfl rfl (by simp; omega), fill_part (off := 1) (size := 163) rfl (by simpa [Value.cells] using hol) (by simp [Value.cells]; omega), fill_part (off := 164) (size := 1) rfl rfl (by simp [Value.cells, hol]; omega)]
 rw [fill_nil]
 apply congrArg some
 apply congrArg List.toArray
 simp only [Value.cells, List.take_zero, List.nil_append]
 obtain ⟨Y, eY⟩ : ∃ Y, Y = [Value.int .i64 oid] ++ zl.drop (0 + 1) := ⟨_, rfl⟩
 have hY : Y.length = 165 := by rw [eY]; simp; omega
 have hY1 : Y.take 1 = [.int .i64 oid] := by rw [eY]; rfl
 have hX : (([Value.int .i64 oid] ++ oc) ++ Y.drop (1 + 163)).take 164 = [Value.int .i64 oid] ++ oc := List.take_left' (by simp; omega)
 have hX2 : (([Value.int .i64 oid] ++ oc) ++ Y.drop (1 + 163)).drop (164 + 1) = [] := List.drop_eq_nil_of_le (by simp; omega)
 rw [← eY, hY1, hX, hX2, List.append_nil]
 rfl
/-- the blocks of a value's slices -/
def footV (v : Value) : List Nat := match v with | .agg cs => cs.toList.filterMap Value.ownBlock | _ => []
/-- its slices are the old one's, or new -/
def CNew (B T : Nat) (cv cv' : Value) : Prop := ∀ g, g ∈ footV cv' → g ∈ footV cv ∨ (B ≤ g ∧ g < T)
def VNew (B T : Nat) (v v' : Value) : Prop := ∀ g, v'.ownBlock = some g → v.ownBlock = some g ∨ (B ≤ g ∧ g < T)
theorem CNew.refl (B T : Nat) (v : Value) : CNew B T v v := fun _ h => .inl h
theorem VNew.refl (B T : Nat) (v : Value) : VNew B T v v := fun _ h => .inl h
theorem VNew.own {w : World} {B B' e k n : Nat} {v v' : Value} {xs : List Value} {T : Nat} (h : w.ownsRow B' e k v' n xs) (hB : B ≤ B') (hT : w.heap.size ≤ T) : VNew B T v v' := fun g hg => .inr ⟨Nat.le_trans hB (World.ownsRow.lt h g hg).1, Nat.lt_of_lt_of_le (ownBlock_lt h hg) hT⟩
theorem VNew.mono {B T T' : Nat} {v v' : Value} (h : VNew B T v v') (hT : T ≤ T') : VNew B T' v v' := fun g hg => (h g hg).imp id (fun h => ⟨h.1, Nat.lt_of_lt_of_le h.2 hT⟩)
theorem foot7 {a b d f g : Value} {s r : Int} {i : Nat} : i ∈ footV (.agg #[a, b, .int .i64 s, d, .int .i64 r, f, g]) ↔ (a.ownBlock = some i ∨ b.ownBlock = some i ∨ d.ownBlock = some i ∨ f.ownBlock = some i ∨ g.ownBlock = some i) := by
 unfold footV
 simp only [List.mem_filterMap, List.mem_cons, List.not_mem_nil, or_false]
 constructor
 ·rintro ⟨u, rfl | rfl | rfl | rfl | rfl | rfl | rfl, h⟩
  ·exact .inl h
  ·exact .inr (.inl h)
  ·cases h
  ·exact .inr (.inr (.inl h))
  ·cases h
  ·exact .inr (.inr (.inr (.inl h)))
  ·exact .inr (.inr (.inr (.inr h)))
 ·rintro (h | h | h | h | h)
  ·exact ⟨_, .inl rfl, h⟩
  ·exact ⟨_, .inr (.inl rfl), h⟩
  ·exact ⟨_, .inr (.inr (.inr (.inl rfl))), h⟩
  ·exact ⟨_, .inr (.inr (.inr (.inr (.inr (.inl rfl))))), h⟩
  ·exact ⟨_, .inr (.inr (.inr (.inr (.inr (.inr rfl))))), h⟩
theorem CNew.mk7 {B T : Nat} {a b d f g f' g' : Value} {s r s' r' : Int} (h1 : VNew B T f f') (h2 : VNew B T g g') : CNew B T (.agg #[a, b, .int .i64 s, d, .int .i64 r, f, g]) (.agg #[a, b, .int .i64 s', d, .int .i64 r', f', g']) := by
 intro i hi
 rw [foot7] at hi ⊢
 rcases hi with h | h | h | h | h
 ·exact .inl (.inl h)
 ·exact .inl (.inr (.inl h))
 ·exact .inl (.inr (.inr (.inl h)))
 ·exact (h1 i h).imp (fun h => .inr (.inr (.inr (.inl h)))) id
 ·exact (h2 i h).imp (fun h => .inr (.inr (.inr (.inr h)))) id
/-- what is at hand, in new memory or the old one -/
def HandN (B : Nat) (u : Value) (X : World) (v : Value) (h : List ItemD) : Prop := HandIn X X.heap.size v h ∧ VNew B X.heap.size u v
/-- the reference's cache, as a value -/
def RCacheIn (W : World) (B : Nat) (cv : Value) (x : CacheD) : Prop :=
 ∃ lv wv fv pv hv, cv = .agg #[lv, wv, .int .i64 x.disk.steps, fv, .int .i64 x.room, pv, hv] ∧ RDisk W B lv wv fv x.disk ∧ IntsIn W B pv x.places ∧ HandIn W B hv x.hand
theorem RCacheIn.up {w w' : World} {cv : Value} {x : CacheD} (h : RCacheIn w w.heap.size cv x) (hb : Below w.heap.size w w') : RCacheIn w' w'.heap.size cv x := by
 obtain ⟨lv, wv, fv, pv, hv, e, h1, h2, h3⟩ := h
 exact ⟨lv, wv, fv, pv, hv, e, (h1.below hb (Nat.le_refl _)).mono hb.size, (h2.below hb (Nat.le_refl _)).mono hb.size, h3.up hb⟩
theorem RDisk.ones {W : World} {B : Nat} {lv wv fv : Value} {x : DiskD} (h : RDisk W B lv wv fv x) : lv.oneCell' = true ∧ wv.oneCell' = true ∧ fv.oneCell' = true := by
 obtain ⟨_, _, _, rfl, _⟩ := h.lasts
 obtain ⟨_, _, _, _, rfl, _⟩ := h.waits
 obtain ⟨_, _, _, rfl, _⟩ := h.fails
 exact ⟨rfl, rfl, rfl⟩
def CacheD.n (x : CacheD) : Nat := x.places.length
def CacheD.there (x : CacheD) (oid : Int) : Bool := decide (0 ≤ oid ∧ oid < (x.places.length : Int))
/-- lengths that hold throughout -/
def CacheD.fits (x : CacheD) : Prop := x.places.length ≤ 1000 ∧ x.hand.length ≤ 1000
def CacheD.with_ (x : CacheD) (y : ItemD) : CacheD := { x with hand := withD x.room x.n x.hand y }
def CacheD.putE (x : CacheD) (oid : Int) (o : ObjD) : Int := if x.there oid then (if objB o x.n then 0 else 2) else 4
def CacheD.put (x : CacheD) (oid : Int) (o : ObjD) : CacheD := if x.putE oid o = 0 then x.with_ ⟨oid, o, true⟩ else x
theorem rc_one {a b c A hv : Value} {s room : Int} {pv : Value} (ho : a.oneCell' = true ∧ b.oneCell' = true ∧ c.oneCell' = true) (hp : pv.oneCell' = true) (hh : hv.oneCell' = true) : (#[a, b, .int .i64 s, c, .int .i64 room, pv, hv] : Array Value).all (·.oneCell') = true := by
 simp [ho.1, ho.2.1, ho.2.2, hp, hh, show ∀ k n, (Value.int k n).oneCell' = true from fun _ _ => rfl]
theorem IntsIn.one {W : World} {B : Nat} {v : Value} {l : List Int} (h : IntsIn W B v l) : v.oneCell' = true := by
 obtain ⟨_, _, _, rfl, _⟩ := h
 rfl
theorem HandIn.one {W : World} {B : Nat} {v : Value} {l : List ItemD} (h : HandIn W B v l) : v.oneCell' = true := by
 obtain ⟨_, _, _, _, rfl, _⟩ := h
 rfl
/-- where a function with results (a cache, a number) ends -/
theorem rc_end {fn : Func} {p q : Tmp} (hr : fn.results = #[.cell p 61, .tmp q]) (w0 W : World) (tmps : Array Value) (g : Nat) (cs : Array Value) (k : Int) (t : Nat) (hg : Blk W g t cs) (h7 : cs.size = 7) (hp : tmps.getD p undef = .pointer (some ⟨g, 0, none⟩)) (hq : tmps.getD q undef = .int .i64 k)
  (R : Ending → World → Prop) (h : R (.returned (.tuple #[.agg cs, .int .i64 k])) W) : bodyPost Tryz.prog fn R Exit.ret ⟨tmps, []⟩ W :=
 bodyPost_ret (results_row_tmp hr tmps _ g t cs (0, 0) _ hp hg Tryz.underlying61 rfl (by rw [h7]; kernel_rfl) _ hq) rfl h
set_option maxRecDepth 100000 in
set_option maxHeartbeats 2000000 in
theorem rput_any (cv : Value) (x : CacheD) (oid : Int) (o : ObjD) (w : World) (hx : RCacheIn w w.heap.size cv x) (hf : x.fits) (ho : o.ok) (hr : rightsOk o) :
  Calls Tryz.prog 56 #[cv, .int .i64 oid, .agg o.cells.toArray] w fun r w' => ∃ cv', r = .returned (.tuple #[cv', .int .i64 (x.putE oid o)]) ∧ RCacheIn w' w'.heap.size cv' (x.put oid o) ∧ Below w.heap.size w w' ∧ CNew w.heap.size w'.heap.size cv cv' := by
 have HX := Lib.hid hx
 obtain ⟨lv, wv, fv, pv, hv, rfl, h1, h2, h3⟩ := hx
 have hones := h1.ones
 have HD := Lib.hid h1
 have HP := Lib.hid h2
 have HH := Lib.hid h3
 obtain ⟨ad, pc, rfl⟩ : ∃ ad pc, pv = .slice ad x.places.length pc := by obtain ⟨_, a, c, e, _⟩ := h2; exact ⟨a, c, e⟩
 obtain ⟨hA, hC, rfl⟩ : ∃ A cap, hv = .slice A x.hand.length cap := by obtain ⟨_, _, A, cap, e, _⟩ := h3; exact ⟨A, cap, e⟩
 have ho1 := rc_one (A := undef) (s := x.disk.steps) (room := x.room) hones (show (Value.slice ad x.places.length pc).oneCell' = true from rfl) (show (Value.slice hA x.hand.length hC).oneCell' = true from rfl)
 have HONE := Lib.hid ho1
 have HONEV := Lib.hid (fun (A : Option Addr) (m C : Nat) => rc_one (A := undef) (s := x.disk.steps) (room := x.room) hones (show (Value.slice ad x.places.length pc).oneCell' = true from rfl) (show (Value.slice A m C).oneCell' = true from rfl))
 have HTH := Lib.hid (fun X => rthere_any lv wv (.int .i64 x.disk.steps) fv (.int .i64 x.room) undef (.slice hA x.hand.length hC) ad x.places.length pc oid X)
 have HCK := Lib.hid (fun X => rocheck_any o ho hr x.places.length X)
 have HW := Lib.hid (fun X hX => rwith_any lv wv fv (.slice hA x.hand.length hC) x.disk.steps x.room ad x.places.length pc x.hand ⟨oid, o, true⟩ X hX ho hf.1 hf.2 hones)
 obtain ⟨cs, ecs⟩ : ∃ cs, cs = o.cells.toArray := ⟨_, rfl⟩
 have scs : (Tryz.prog.info? 47).map (·.size) = some cs.size := by rw [ecs, List.size_toArray, ObjD.len ho]; kernel_rfl
 have hbt := item_built oid o true ho
 rw [← ecs] at HCK hbt ⊢
 have HBT := Lib.hid hbt
 obtain ⟨W, eW⟩ : ∃ W, W = ((w.alloc (.cells #[lv, wv, .int .i64 x.disk.steps, fv, .int .i64 x.room, .slice ad x.places.length pc, .slice hA x.hand.length hC] 61)).alloc (.cells cs 47)).alloc (.cells zeroC 61) := ⟨_, rfl⟩
 have hbW : Below w.heap.size w W := by rw [eW]; exact (((Below.refl _ w).alloc (Nat.le_refl _) _).alloc (by simp) _).alloc (by simp; omega) _
 have k0 : Blk W w.heap.size 61 #[lv, wv, .int .i64 x.disk.steps, fv, .int .i64 x.room, .slice ad x.places.length pc, .slice hA x.hand.length hC] := by rw [eW]; exact ((Blk.new w _ _).alloc _).alloc _
 have k1 : Blk W (w.heap.size + 1) 47 cs := by rw [eW]; exact (Blk.new2 w _ _ _).alloc _
 have k2 : Blk W (w.heap.size + 2) 61 zeroC := by rw [eW]; exact Blk.new' (by simp)
 clear h1 h2 h3 hones ecs hbt ho1
 go_enter Tryz.func56, Tryz.ntmps56
 go_upto_region 1 with fail
 rw [← eW]
 clear eW
 go_wp2_with (refine wpList_load_row rfl 61 _ rfl w.heap.size rfl 61 _ (0, 0) _ k0 Tryz.underlying61 rfl (size_rcache _ _ _ _ _ _ _) ?_)
 refine (HTH.out W).mono ?_; rintro r w1 ⟨rfl, hb1⟩
 have q0 := k0.below hb1 k0.lt
 have q1 := k1.below hb1 k1.lt
 have q2 := k2.below hb1 k2.lt
 have qB := hbW.trans (hb1.mono hbW.size)
 clear k0 k1 k2 hbW hb1
 cases hth : decide (0 ≤ oid ∧ oid < (x.places.length : Int))
 ·have HE := Lib.hid (show x.putE oid o = 4 by unfold CacheD.putE CacheD.there; rw [hth]; rfl)
  clear hth
  go_wp2_with (first
   | (refine wpList_load_row rfl 61 _ rfl w.heap.size rfl 61 _ (0, 0) _ q0 Tryz.underlying61 rfl (size_rcache _ _ _ _ _ _ _) ?_)
   | (refine wpList_store_row rfl 61 _ _ rfl (w.heap.size + 2) _ rfl rfl 61 _ q2 (size_rcache _ _ _ _ _ _ _) rfl HONE.out ?_))
  exact rc_end Tryz.results56 w _ _ (w.heap.size + 2) _ 4 61 (q2.row _) rfl rfl rfl _ ⟨_, by rw [HE.out], by rw [show x.put oid o = x by unfold CacheD.put; rw [HE.out]; rfl]; exact HX.out.up (below_row qB _ (by omega)), below_row qB _ (by omega), CNew.refl _ _ _⟩
 ·have c2 := q0.cell_is 5 rfl
  have HTH2 := Lib.hid hth
  have HXN := Lib.hid (show ((x.places.length : Nat) : Int) = ((x.n : Nat) : Int) from rfl)
  clear hth
  go_wp2_with (refine wpList_load_row rfl 47 _ rfl (w.heap.size + 1) rfl 47 cs (0, 0) _ q1 Tryz.underlying47 rfl scs ?_)
  refine (HCK.out w1).mono ?_; rintro r w2 ⟨rfl, hb2⟩
  have r0 := q0.below hb2 q0.lt
  have r1 := q1.below hb2 q1.lt
  have r2 := q2.below hb2 q2.lt
  have rB := qB.trans (hb2.mono qB.size)
  clear q0 q1 q2 qB hb2 c2
  cases hob : objB o (x.places.length : Int)
  ·have HE := Lib.hid (show x.putE oid o = 2 by unfold CacheD.putE CacheD.there CacheD.n; rw [HTH2.out, hob]; rfl)
   clear hob
   unfold errB
   simp only [Bool.false_eq_true, if_false]
   go_wp2_with (first
    | (refine wpList_load_row rfl 61 _ rfl w.heap.size rfl 61 _ (0, 0) _ r0 Tryz.underlying61 rfl (size_rcache _ _ _ _ _ _ _) ?_)
    | (refine wpList_store_row rfl 61 _ _ rfl (w.heap.size + 2) _ rfl rfl 61 _ r2 (size_rcache _ _ _ _ _ _ _) rfl HONE.out ?_))
   exact rc_end Tryz.results56 w _ _ (w.heap.size + 2) _ 2 61 (r2.row _) rfl rfl rfl _ ⟨_, by rw [HE.out], by rw [show x.put oid o = x by unfold CacheD.put; rw [HE.out]; rfl]; exact HX.out.up (below_row rB _ (by omega)), below_row rB _ (by omega), CNew.refl _ _ _⟩
  ·have HE := Lib.hid (show x.putE oid o = 0 by unfold CacheD.putE CacheD.there CacheD.n; rw [HTH2.out, hob]; rfl)
   have HWX := Lib.hid (HW.out w2 (HH.out.below rB (Nat.le_refl _) |>.mono rB.size))
   clear hob
   unfold errB
   simp only [if_true]
   go_wp2_with (first
    | (refine wpList_load_row rfl 61 _ rfl w.heap.size rfl 61 _ (0, 0) _ r0 Tryz.underlying61 rfl (size_rcache _ _ _ _ _ _ _) ?_)
    | (refine wpList_load_row rfl 47 _ rfl (w.heap.size + 1) rfl 47 cs (0, 0) _ r1 Tryz.underlying47 rfl scs ?_)
    | (refine wpList_buildL rfl 149 _ rfl (ItemD.cells ⟨oid, o, true⟩).toArray HBT.out ?_))
   refine HWX.out.mono ?_; rintro r w3 ⟨hv', rfl, ⟨hO, hok, hlen⟩, hb3⟩
   have s2 := r2.below hb3 r2.lt
   have sB := rB.trans (hb3.mono rB.size)
   obtain ⟨A3, C3, rfl⟩ := slice_form hO
   have HO := Lib.hid hO
   have HONE3 := Lib.hid (HONEV.out A3 (withD x.room x.places.length x.hand ⟨oid, o, true⟩).length C3)
   clear hO HWX
   go_wp2_with (refine wpList_store_row rfl 61 _ _ rfl (w.heap.size + 2) _ rfl rfl 61 _ s2 (size_rcache _ _ _ _ _ _ _) rfl HONE3.out ?_)
   exact rc_end Tryz.results56 w _ _ (w.heap.size + 2) _ 0 61 (s2.row _) rfl rfl rfl _ ⟨_, by rw [HE.out], by
    rw [show x.put oid o = x.with_ ⟨oid, o, true⟩ by unfold CacheD.put; rw [HE.out]; rfl]
    have hbf := below_row sB #[lv, wv, .int .i64 x.disk.steps, fv, .int .i64 x.room, .slice ad x.places.length pc, .slice A3 (withD x.room x.places.length x.hand ⟨oid, o, true⟩).length C3] (g := w.heap.size + 2) (by omega)
    exact ⟨lv, wv, fv, _, _, rfl, (HD.out.below hbf (Nat.le_refl _)).mono hbf.size, (HP.out.below hbf (Nat.le_refl _)).mono hbf.size, HandIn.own (ownsRow_out (F := fun i => i = w.heap.size + 2) (out_row _ rfl) HO.out (fun g hg e => by have := (World.ownsRow.lt HO.out g hg).1; have := r2.lt; omega)) hok hlen⟩, below_row sB _ (by omega), CNew.mk7 (VNew.refl _ _ _) (VNew.own HO.out rB.size (out_row (F := fun _ => True) _ trivial).size)⟩
end Go.Proofs.YtemcgfncahccgaaGreat
