/-
  Words for memory: a block that is known
-/
import Derived.Test.YtdpniceapmikpaaGreatRows
import Derived.WalkKit
import Derived.WalkSpells
import Derived.WalkLawsBesides
import Derived.Deep.RegionWith
import Derived.Deep.WholeRow
import Derived.Deep.DeepCutAuto
import Derived.Deep.Draws
import Derived.Laws.OwnMore
import Derived.Laws.Rows
import Derived.Lib.Hide
import Derived.Deep.Light
import Derived.Deep.RegionHeld3
import Derived.Laws.Tables
import Derived.Tactics
import Derived.Below
import Derived.RangeFuncRecord
import Derived.Deep.AppendLies
import Derived.Laws.AppendOwn
import Derived.Laws.BitsAllLaws
import Derived.Laws.BitsLemmas
import Derived.ChangeKeysEq
import Derived.Stop.BytesEq
import Derived.Deep.MidRow
import Derived.RangeFuncNested
import Derived.RangeFuncBound
import Derived.RangeFuncCalls
import Derived.RangeFuncLeaves
import Derived.RangeFuncFrom
import Derived.RangeFuncBox
import Derived.Shelf.Abstract
import Derived.Shelf.RegionOpen
import Derived.OwnWalkIn
import Derived.TacticsInMore
import Derived.LoopNIn
import Derived.LoopIn
import Derived.OrdersIn
import Derived.ControlIn
import Derived.TacticsIn
set_option linter.unusedVariables false
set_option linter.unusedSimpArgs false
set_option maxRecDepth 100000
set_option maxHeartbeats 32000000
namespace Go.Proofs.YtdpniceapmikpaaGreat
open Go.RowKit
theorem ae {p:Prop} (h:p):RowKit.Hid p:=Lib.hid h
theorem aT {P:Program} {ops:Array Oper} {Q:Exit→Act→World→Prop} {md:Region.Mode} {S:World→Prop} {fuel:Nat} {listed:Array Bool} {a:Act} {w:World} (h:Q .normal a w) (hr:Region.ready md ops listed=[]:=by kernel_rfl):wpAnyH P md ops Q S fuel listed a w:=wpAnyH_done hr h fuel
abbrev ai:=@Nat.le_refl
abbrev ax:=@Below.refl
abbrev aY:=@List.getElem?_eq_getElem
abbrev aQ:=@wpList_store_row
abbrev bF:=@wp_region_held_drew
abbrev bt:=@wpList_load_row
abbrev bD:=@List.length_take
abbrev bV:=@Tryz.underlying40
abbrev aB:=@if_pos
abbrev dh:=@List.getElem?_eq_none
abbrev bX:=@List.length_append
abbrev bc:=@bodyPost_ret
abbrev bC:=@heap_alloc_new
abbrev dg:=@List.take_of_length_le
abbrev di:=@World.setRow_alloc_new
abbrev b':=@List.size_toArray
abbrev ee:=@Array.getElem?_eq_some_iff
abbrev aG:=@if_neg
abbrev cx:=@List.all_eq_true
abbrev cz:=@IntKind.wrap_i64
abbrev cY:=@yieldsIf_load_mid
abbrev dj:=@Tryz.underlying111
abbrev cB:=@decide_eq_false
abbrev ca:=@AllReadyH.cons
abbrev cK:=@List.map_append
abbrev gl:=@List.getElem?_append_right
abbrev cR:=@List.length_map
abbrev et:=@List.length_replicate
abbrev c_:=@List.length_drop
abbrev bZ:=@Nat.lt_or_ge
abbrev cT:=@decide_eq_true
abbrev dU:=@List.getElem?_take
abbrev dH:=@Tryz.underlying62
abbrev iC:=@List.getElem?_append_left
abbrev dV:=@List.getElem?_map
abbrev eU:=@Tryz.underlying26
abbrev iD:=@World.putObj_heap_other
abbrev cW:=@Nat.zero_add
abbrev ew:=@Tryz.underlying3
abbrev fw:=@Tryz.underlying28
abbrev iE:=@Option.map_eq_some_iff
abbrev fS:=@List.append_assoc
abbrev gE:=@Below.heap_setCell
abbrev ia:=@World.news_of_block
abbrev jd:=@List.getElem?_toArray
abbrev gG:=@List.take_add_one
abbrev jD:=@List.drop_eq_nil_of_le
abbrev je:=@List.mem_of_getElem?
abbrev dI:=@List.mem_map
abbrev kJ:=@World.cell?_setCell_far
abbrev gH:=@Option.some.inj
abbrev ez:=@wp_store_row
abbrev fx:=@Bool.true_and
abbrev lK:=@Array.getElem?_eq_none
abbrev iF:=@World.size_alloc
abbrev iG:=@List.take_length
abbrev fT:=@AllReadyH.nil
abbrev lL:=@World.cell?_of_block
abbrev jf:=@List.all_toArray
abbrev fh:=@wpAnyH_take
abbrev fi:=@Nat.zero_le
abbrev fU:=@wpAnyH_ready
abbrev kK:=@Nat.lt_of_lt_of_le
abbrev kL:=@List.getElem?_drop
abbrev km:=@World.ownsRow_nil
abbrev pg:=@List.drop_eq_getElem_cons
abbrev od:=@World.block_lt_of_cell?
abbrev rO:=@List.eq_nil_of_length_eq_zero
abbrev lM:=@World.ownsRow.form
abbrev dz:=@congrArg
abbrev kM:=@Oper.semAt_some
abbrev mZ:=@List.mem_singleton
abbrev ph:=@List.mem_cons_of_mem
abbrev mo:=@results_cell_row
abbrev m_:=@List.ext_getElem?
abbrev fV:=@wpIn_wide
abbrev m':=@run_takeDeferred
abbrev na:=@World.ownsRow.lt
abbrev mq:=@List.mem_append
abbrev jE:=@bodyPost_end
abbrev jF:=@Nat.le_trans
abbrev rP:=@List.take_append_drop
abbrev rQ:=@Array.getElem?_toList
abbrev nc:=@List.range_succ
abbrev iH:=@info_parts
abbrev pj:=@Tryz.underlying58
abbrev lN:=@List.mem_cons
abbrev rR:=@Nat.pow_le_pow_right
abbrev uZ:=@Array.getElem?_eq_getElem
abbrev kO:=@setRow_other
abbrev pX:=@List.mem_cons_self
abbrev ng:=@List.mem_range
abbrev pY:=@wp_region_noPanic
abbrev lO:=@Nat.ne_of_gt
abbrev fj:=@Ne.symm
abbrev oe:=@wp_append_lies
abbrev tq:=@List.length_finRange
abbrev og:=@List.drop_drop
abbrev nh:=@StepsIn.trans
abbrev mr:=@callsIn_wide
abbrev nv:=@Tryz.underlying2
abbrev nw:=@IntKind.wrap_u64
abbrev wi:=@List.take_append_of_le_length
abbrev kP:=@wpList_plain
abbrev nx:=@List.nil_append
abbrev ny:=@List.append_nil
abbrev pZ:=@wpList_append_lies
abbrev jU:=@getD_set_ne
abbrev sd:=@World.cell?_alloc_lt
abbrev oK:=@Tryz.underlying5
abbrev oL:=@Tryz.underlying4
abbrev p_:=@Tryz.underlying24
abbrev nz:=@NoPanic.normal
abbrev wj:=@List.getD_eq_getElem?_getD
abbrev kQ:=@lt_of_block
abbrev oM:=@Tryz.zeroValue4
abbrev oN:=@Nat.min_eq_left
abbrev se:=@Tryz.underlying267
abbrev sf:=@BitVec.toNat_ofNat
abbrev mK:=@Nat.le_of_eq
abbrev nA:=@Nat.add_assoc
abbrev wm:=@Array.setIfInBounds_comm
abbrev oO:=@Bool.and_false
abbrev p':=@Nat.not_lt_zero
abbrev kR:=@Below.size
abbrev tK:=@List.flatMap_append
abbrev wy:=@Nat.div_div_eq_div_mul
abbrev mL:=@cell_of_row
abbrev oP:=@callsIn_of_wp
abbrev sg:=@Nat.mod_eq_of_lt
abbrev si:=@Below.heap_alloc
abbrev qb:=@Tryz.results82
abbrev qd:=@List.drop_zero
abbrev tL:=@Array.ext_getElem?
abbrev zn:=@List.getElem?_eq_some_iff
abbrev oS:=@results_none
abbrev tM:=@of_decide_eq_true
abbrev oT:=@Nat.le_of_lt
abbrev tN:=@DataW.trod_struct
abbrev wz:=@List.toList_toArray
abbrev wH:=@List.getElem?_range
abbrev sj:=@run_loadAt_mid
abbrev lS:=@mem_ready
abbrev sk:=@Tryz.results19
abbrev zo:=@Nat.add_sub_cancel_left
abbrev zp:=@Int.eq_ofNat_of_zero_le
abbrev oU:=@fenced_calm
abbrev wI:=@Tryz.underlying150
abbrev qe:=@Tryz.sizeOf4
abbrev qf:=@Tryz.sizeOf3
abbrev qg:=@Nat.mul_comm
abbrev tO:=@run_loadVar_row
abbrev tP:=@Option.map_some
abbrev zq:=@ownsRow_setCell_other
abbrev wJ:=@Tryz.underlying59
abbrev wK:=@Tryz.underlying25
abbrev wL:=@List.all_eq_false
abbrev qh:=@stepR_block
abbrev qi:=@leaves_cons
abbrev zr:=@World.alloc_heap_new
abbrev tQ:=@Tryz.results17
abbrev qj:=@Tryz.isAgg4
abbrev ql:=@Tryz.isAgg3
abbrev zt:=@Region.noSelect_spec
abbrev Dn:=@List.setIfInBounds_toArray
abbrev zu:=@List.mem_of_mem_take
abbrev zv:=@List.mem_append_left
abbrev zw:=@BitVec.ofInt_natCast
abbrev nB:=@wpOp_step
abbrev wM:=@Tryz.underlying9
abbrev wO:=@Tryz.underlying0
abbrev wP:=@List.length_cons
abbrev zx:=@callsIn_of_wp_marks
abbrev wQ:=@Tryz.zeroValue3
abbrev wR:=@Tryz.zeroValue0
abbrev zy:=@Tryz.underlying149
abbrev zz:=@Tryz.underlying148
abbrev zA:=@World.putObj_size
abbrev zB:=@Tryz.underlying60
abbrev wV:=@Tryz.results64
abbrev tR:=@Nat.pow_succ
abbrev tS:=@Nat.add_comm
abbrev tT:=@List.map_map
abbrev zC:=@List.getElem?_set
abbrev zD:=@List.flatMap_cons
abbrev wY:=@Bool.false_and
abbrev Dp:=@List.set_append_right
abbrev Dq:=@List.mem_iff_getElem?
abbrev zE:=@Tryz.zeroValue26
abbrev zG:=@Nat.div_eq_of_lt
abbrev zH:=@List.take_prefix
abbrev zI:=@List.mem_flatMap
abbrev zJ:=@run_loadVar_mid
abbrev zK:=@UInt8.toNat_inj
abbrev zL:=@Nat.div_le_self
abbrev zM:=@List.take_left'
abbrev zN:=@List.all_append
abbrev zO:=@Bool.eq_iff_iff
abbrev Ir:=@Array.getElem?_setIfInBounds
abbrev wZ:=@Tryz.sizeOf0
abbrev xb:=@Nat.zero_mul
abbrev xc:=@Nat.ne_of_lt
abbrev Is:=@Array.getD_eq_getD_getElem?
abbrev tU:=@beq_iff_eq
abbrev zP:=@UInt8.toNat_lt
abbrev Dr:=@Tryz.underlying161
abbrev zQ:=@Tryz.results20
abbrev Ds:=@List.find?_eq_none
abbrev zS:=@DataW.trod_int
abbrev It:=@BitVec.getLsbD_ushiftRight
abbrev xd:=@results_tmp
abbrev Dt:=@Tryz.underlying43
abbrev xe:=@Tryz.isAgg0
abbrev Du:=@Int.toNat_natCast
abbrev zT:=@getD_set_true
abbrev zU:=@Tryz.sizeOf26
abbrev Dv:=@Region.free_spec
abbrev Dw:=@Nat.lt_add_right
abbrev Dx:=@List.any_eq_true
abbrev Iu:=@Go.WideShapes.add_plain
abbrev Iv:=@BitVec.eq_of_getLsbD_eq
abbrev Dy:=@Array.toList_map
abbrev xf:=@ready_mono
abbrev zW:=@Tryz.isAgg26
abbrev zX:=@Tryz.func107
abbrev zY:=@List.map_set
abbrev xg:=@Array.ext'
abbrev Dz:=@Nat.testBit_and
abbrev DD:=@List.find?_cons
abbrev Iw:=@List.length_singleton
abbrev DE:=@wpListIn_plain
abbrev zZ:=@cell_of_one
abbrev DF:=@Tryz.results31
abbrev DG:=@Tryz.results23
abbrev z_:=@Tryz.func20
abbrev DH:=@List.nodup_nil
abbrev Iy:=@List.getElem?_zipIdx
abbrev Iz:=@List.getElem?_of_mem
abbrev Aa:=@Below.trans
abbrev IA:=@Array.toList_extract
abbrev xh:=@stepR_seq
abbrev IB:=@beq_eq_false_iff_ne
abbrev IC:=@World.grownBy_alloc
abbrev ID:=@List.map_congr_left
abbrev DI:=@callsD_of_wpS
abbrev DJ:=@Tryz.ntmps113
abbrev Ab:=@decide_not
abbrev IE:=@World.grownBy.refl
abbrev IF:=@BitVec.getLsbD_and
abbrev IG:=@run_append_own_at
abbrev DK:=@Tryz.ntmps40
abbrev DL:=@Tryz.ntmps23
abbrev DM:=@Tryz.func142
abbrev DN:=@Tryz.func113
abbrev DO:=@Nat.sub_self
abbrev IH:=@List.length_range
abbrev II:=@Tryz.zeroValue24
abbrev Rn:=@Nat.and_two_pow_sub_one_eq_mod
abbrev IJ:=@List.getElem_mem
abbrev Ro:=@List.getElem!_eq_getElem?_getD
abbrev IK:=@List.drop_length
abbrev IL:=@ComesIn.of_steps
abbrev IM:=@Bool.and_eq_true
abbrev Rp:=@BitVec.ushiftRight_xor_distrib
abbrev IP:=@Array.toList_inj
abbrev DP:=@wpList_step
abbrev DQ:=@run_endLoop
abbrev DR:=@Tryz.func68
abbrev DS:=@Tryz.func40
abbrev DT:=@Tryz.func23
abbrev DU:=@Below.alloc
abbrev IU:=@wpList_load_mid
abbrev IV:=@leaves_stepsInM
abbrev IW:=@heap_alloc_last
abbrev IX:=@Tryz.zeroValue9
abbrev Rq:=@Nat.testBit_two_pow_sub_succ
abbrev IY:=@List.mem_filter
abbrev I_:=@Int.natCast_add
abbrev DV:=@wpS_region
abbrev I':=@fenced_leaving
abbrev Ja:=@Tryz.results71
abbrev DW:=@Nat.mod_lt
abbrev Jb:=@List.take_zero
abbrev Jc:=@Bool.and_assoc
abbrev Jd:=@Tryz.sizeOf24
abbrev Je:=@Tryz.ntmps150
abbrev Jf:=@Tryz.ntmps145
abbrev Jg:=@Tryz.ntmps144
abbrev Jh:=@Tryz.ntmps130
abbrev Ji:=@Tryz.ntmps101
abbrev Jj:=@List.map_take
abbrev Rr:=@List.eq_of_mem_replicate
abbrev DX:=@wpS_of_wp
abbrev DY:=@wpOp_mono
abbrev DZ:=@wpIn_mono
abbrev Jk:=@run_copy_row
abbrev Rs:=@run_convert_bytes_back
abbrev Jl:=@Tryz.sizeOf9
abbrev Jm:=@Tryz.sizeOf5
abbrev Jn:=@Tryz.ntmps83
abbrev Jo:=@Tryz.ntmps71
abbrev Jq:=@Tryz.ntmps64
abbrev Jr:=@Tryz.ntmps20
abbrev Js:=@Tryz.ntmps13
abbrev Jt:=@Tryz.ntmps12
abbrev Ju:=@Tryz.isAgg24
abbrev Jv:=@Tryz.func150
abbrev Jw:=@Tryz.func145
abbrev Jy:=@Tryz.func144
abbrev Jz:=@Tryz.func130
abbrev JA:=@Tryz.func101
abbrev Rt:=@Option.map_eq_none_iff
abbrev Ru:=@Nat.testBit_lt_two_pow
abbrev JC:=@Nat.add_zero
abbrev Rv:=@MapKept.run_setObj_map
abbrev Rw:=@Array.toList_replicate
abbrev Rx:=@List.mem_append_right
abbrev Ry:=@List.eq_replicate_iff
abbrev Rz:=@Bool.and_eq_false_iff
abbrev JD:=@Tryz.isAgg9
abbrev JE:=@Tryz.isAgg5
abbrev JG:=@Tryz.func83
abbrev JH:=@Tryz.func71
abbrev JI:=@Tryz.func64
abbrev JJ:=@Tryz.func13
abbrev JK:=@Tryz.func12
abbrev RA:=@Nat.mul_le_mul_right
abbrev RB:=@Nat.eq_of_testBit_eq
abbrev RG:=@List.replicate_succ'
abbrev RH:=@List.mem_of_mem_drop
abbrev RI:=@Array.toArray_toList
abbrev RJ:=@step_leave_panicked
abbrev RL:=@run_enterLoop_outer
abbrev RM:=@List.take_succ_cons
abbrev RN:=@List.drop_replicate
abbrev RO:=@Array.length_toList
abbrev RP:=@run_equalIn_struct
abbrev JL:=@bne_iff_ne
abbrev RR:=@UInt8.toNat_ofNat'
abbrev RS:=@Tryz.underlying242
abbrev RT:=@Tryz.underlying231
abbrev RU:=@Tryz.underlying215
abbrev RW:=@Tryz.underlying156
abbrev RX:=@Tryz.underlying154
abbrev RY:=@Tryz.underlying142
abbrev JM:=@Tryz.func7
abbrev RZ:=@Nat.pos_of_ne_zero
abbrev R6:=@List.zipIdx_append
abbrev R7:=@List.set_cons_succ
abbrev R8:=@BitVec.ofNat_toNat
abbrev R_:=@BitVec.getLsbD_not
def ah (w:World) (g:Nat) (t:TypeId) (cs:Array Value):Prop:=w.heap[g]? = some (.cells cs t (0,0))
section
variable {w w':World} {g:Nat} {t:TypeId} {cs:Array Value}
theorem ah.lt (h:ah w g t cs):g<w.heap.size:=by
 rcases bZ g w.heap.size with hlt | hge
 ·exact hlt
 ·unfold ah at h;rw[lK hge]at h;cases h
theorem ah.cell (h:ah w g t cs) (i:Nat):w.cell? ⟨g,i,none⟩=cs[i]? :=mL w g i cs t (0,0) h
theorem ah.ag (h:ah w g t cs) (i:Nat) {v:Value} (hv:cs[i]? = some v):w.cell? ⟨g,i,none⟩=some v:=(h.cell i).trans hv
theorem ah.frozen (h:ah w g t cs) (i:Nat):w.frozen? ⟨g,i,none⟩=false:=by
 unfold ah at h;simp[World.frozen?,h]
theorem ah.new (w:World) (t:TypeId) (cs:Array Value):ah (w.alloc (.cells cs t)) w.heap.size t cs:=bC w _
theorem ah.drew (h:ah w g t cs):ah w.drew g t cs:=h
theorem ah.drewN (h:ah w g t cs) (n:Nat):ah (w.drewN n) g t cs:=h
theorem ah.alloc (h:ah w g t cs) (o:Obj):ah (w.alloc o) g t cs:=(si w o g h.lt).trans h
theorem ah.br (h:ah w g t cs) (i:Nat) (u:Value):ah (w.setCell ⟨g,i,none⟩ u) g t (cs.setIfInBounds i u):=by
 unfold ah at h ⊢;simp[World.setCell,Array.getElem?_modify,h]
theorem ah.far (h:ah w g t cs) {p:Addr} (hp:g≠p.block) (u:Value):ah (w.setCell p u) g t cs:=(gE w p u g hp).trans h
theorem ah.below {B:Nat} (h:ah w g t cs) (hb:Below B w w') (hg:g<B):ah w' g t cs:=(hb.block g hg).trans h
theorem ah.row (h:ah w g t cs) (cs':Array Value):ah (w.setRow g cs') g t cs':=setRow_heap w g cs _ t _ h
end
theorem ah.new2 (w:World) (o:Obj) (t:TypeId) (cs:Array Value):ah ((w.alloc o).alloc (.cells cs t)) (w.heap.size+1) t cs:=heap_alloc2_new w _ _
theorem size_alloc (w:World) (o:Obj):(w.alloc o).heap.size=w.heap.size+1:=by simp
theorem ah.new' {w:World} {t:TypeId} {cs:Array Value} {n:Nat} (h:n=w.heap.size):ah (w.alloc (.cells cs t)) n t cs:=by subst h;exact ah.new w t cs
theorem aA {B:Nat} {w w':World} (h:Below B w w') {g:Nat} (cs:Array Value) (hg:B≤g):Below B w (w'.setRow g cs) :=
 ⟨h.os,h.tape,h.output,by simpa using h.size,fun i hi=>(kO w' g i cs (by omega)).trans (h.block i hi)⟩
theorem dm {P:Program} {fn:Func} {p u:Tmp} {ty:TypeId} (h:fn.results=#[.cell p ty,.tmp u]) (tmps:Array Value) (w:World) (g:Nat) (t:TypeId) (cs:Array Value) (fr:Nat×Nat) (d:TypeDesc)
 (hp:tmps.getD p undef=.pointer (some ⟨g,0,none⟩)) (hg:w.heap[g]? = some (.cells cs t fr))
 (hu:P.underlying ty=some d) (hd:(match d with | .struct _ | .array _ _=>true | _=>false)=true) (hi:(P.info? ty).map (·.size)=some cs.size) (v:Value) (hv:tmps.getD u undef=v) :
 (results fn tmps).run P w=.ok (.tuple #[.agg cs,v]) w:=by
 have hp':tmps[p]?.getD undef=.pointer (some ⟨g,0,none⟩):=by simpa using hp
 have hv':tmps[u]?.getD undef=v:=by simpa using hv
 simp[results,h,hp',hv',asAddr,run_loadVar_row w g t ty cs fr d hg hu hd hi]
theorem l_ {α:Type} {l:List α} {i:Nat} (h:i<l.toArray.size):l.toArray[i]=l[i]'(by simpa using h):=rfl
theorem me {α:Type} (a:α) (r:List α) (i:Nat) (h:i+1<(a::r).length):(a::r)[i+1]=r[i]'(by simpa using h):=rfl
theorem mf {α:Type} (a:α) (r:List α) (h:0<(a::r).length):(a::r)[0]=a:=rfl
theorem mh {α:Type} (l:List α) (i:Nat) (a:α):l.toArray.setIfInBounds i a=(l.set i a).toArray:=Dn l i a
theorem mi {α:Type} (a b:α) (l:List α):(a::l).set 0 b=b::l:=rfl
theorem mj {α:Type} (a:α) (l:List α) (n:Nat) (b:α):(a::l).set (n+1) b=a::l.set n b:=rfl
section
variable {P:Program} {ops:Array Oper} {Q:Exit→Act→World→Prop} {md:Region.Mode} {S:World→Prop} {fuel:Nat} {listed:Array Bool} {a b:Act} {w:World} {oi:Oper} {v:Value}
theorem ty (i:Nat) (hi:ops[i]? = some oi) (hy:YieldsIf P ops S oi v a) (h:wpAnyH P md ops Q S fuel (listed.setIfInBounds i true) b w) (hs:Region.noSelect ops=true:=by kernel_rfl) (hf:Region.free md ops listed i=true:=by kernel_rfl)
 (hr:(Region.ready md ops listed).contains i=true:=by kernel_rfl) (hQ:∀c a w,Q (.panic c) (a.put oi.dst v) w→Q (.panic c) a w:=by exact fun _ _ _ h=>h) (hS:S w:=by assumption) (hb:a.put oi.dst v=b:=by(simp only[Act.put,Array.toArray_toList,l_,me,mf,mh,mi,mj];rfl)):wpAnyH P md ops Q S (fuel+1) listed a w:=by
 subst hb;exact fh hi hs hf hr hQ hy hS h
theorem tk (i:Nat) (h:wpAnyH P md ops Q S fuel (listed.setIfInBounds i true) b w) (hi:ops[i]? = some oi:=by rfl) (hs:Region.noSelect ops=true:=by kernel_rfl) (hf:Region.free md ops listed i=true:=by kernel_rfl)
 (hr:(Region.ready md ops listed).contains i=true:=by kernel_rfl) (hQ:∀c a w,Q (.panic c) (a.put oi.dst v) w→Q (.panic c) a w:=by exact fun _ _ _ h=>h) (hw:Region.wanted oi (yielded ops a.tmps)=true:=by rfl) (hS:S w:=by assumption)
 (hy:∀w,S w→(execOp a.eval oi).run P w=.ok (.value v) w:=by(intro w hSw;(try dsimp only at hSw);go_simp;try with_reducible rfl)) (hb:a.put oi.dst v=b:=by(simp only[Act.put,l_,me,mf,mh,mi,mj];rfl)):wpAnyH P md ops Q S (fuel+1) listed a w:=by
 subst hb;exact fh hi hs hf hr hQ (Or.inl ⟨hw,hy⟩) hS h
theorem tu (i:Nat) (h:wpAnyH P md ops Q S fuel (listed.setIfInBounds i true) b w) (hi:ops[i]? = some oi:=by rfl) (hs:Region.noSelect ops=true:=by kernel_rfl) (hf:Region.free md ops listed i=true:=by kernel_rfl)
 (hr:(Region.ready md ops listed).contains i=true:=by kernel_rfl) (hQ:∀c a w,Q (.panic c) (a.put oi.dst undef) w→Q (.panic c) a w:=by exact fun _ _ _ h=>h) (hw:Region.wanted oi (yielded ops a.tmps)=false:=by rfl) (hS:S w:=by assumption)
 (hb:a.put oi.dst undef=b:=by(simp only[Act.put,l_,me,mf,mh,mi,mj];rfl)):wpAnyH P md ops Q S (fuel+1) listed a w:=by
 subst hb;exact fh hi hs hf hr hQ (Or.inr ⟨hw,rfl⟩) hS h
theorem rd (i:Nat) (h:∀K':Act→World→Prop,Shut (∀a w,S w→(S w→wpAnyH P md ops Q S fuel (listed.setIfInBounds i true) a w)→K' a w)→if Region.wanted oi (yielded ops a.tmps)=true then Oper.wp P oi a w K' Q else K' (a.put oi.dst undef) w)
 (ho:ops[i]? = some oi:=by rfl) (hr:Region.ready md ops listed=[i]:=by kernel_rfl):wpAnyH P md ops Q S (fuel+1) listed a w:=fU hr (by simp) (ca ho h fT)
end
end Go.Proofs.YtdpniceapmikpaaGreat
namespace Go.Proofs.YtdpniceapmikpaaGreat
def jv (n:BitVec 32):BitVec 32:=(n >>> 1) ^^^ (if n.getLsbD 0 then 0xedb88320#32 else 0#32)
def b8:Nat→BitVec 32→BitVec 32
 | 0,n=>n
 | k+1,n=>b8 k (jv n)
theorem Ac (k:Nat) (n:BitVec 32):b8 (k+1) n=jv (b8 k n):=by
 induction k generalizing n with
 | zero=>rfl
 | succ k ih=>exact ih (jv n)
theorem Mx (j k:Nat) (n:BitVec 32):b8 (j+k) n=b8 k (b8 j n):=by
 induction j generalizing n with
 | zero=>simp[b8]
 | succ j ih=>rw[Nat.succ_add];exact ih (jv n)
theorem OE (a b:BitVec 32):jv (a ^^^ b)=jv a ^^^ jv b:=by
 unfold jv;rw[BitVec.getLsbD_xor,Rp];cases a.getLsbD 0<;>cases b.getLsbD 0<;>simp
 ·ac_rfl
 ·ac_rfl
 ·rw[show ∀x y p:BitVec 32,x ^^^ p ^^^ (y ^^^ p)=x ^^^ y ^^^ (p ^^^ p)from fun x y p=>by ac_rfl,BitVec.xor_self,BitVec.xor_zero]
theorem B7 (k:Nat) (a b:BitVec 32):b8 k (a ^^^ b)=b8 k a ^^^ b8 k b:=by
 induction k generalizing a b with
 | zero=>rfl
 | succ k ih=>simp only[b8];rw[OE,ih]
theorem My (n:BitVec 32) (h:n.getLsbD 0=false):jv n=n >>> 1:=by
 unfold jv;rw[h];simp
theorem JN (k:Nat) (n:BitVec 32) (h:∀i,i<k→n.getLsbD i=false):b8 k n=n >>> k:=by
 induction k generalizing n with
 | zero=>simp[b8]
 | succ k ih =>
  rw[b8,My n (h 0 (by omega)),ih (n >>> 1) (fun i hi=>by
   rw[It];have:=h (1+i) (by omega);exact this)]
  rw[BitVec.shiftRight_add n 1 k |>.symm,tS]
theorem Sa (n:BitVec 32):(n &&& 15#32) ^^^ (n &&& ~~~(15#32))=n:=by
 apply Iv;intro i hi;simp only[BitVec.getLsbD_xor,BitVec.getLsbD_and,BitVec.getLsbD_not,hi,decide_true,Bool.true_and];cases n.getLsbD i<;>cases (15#32).getLsbD i<;>rfl
theorem Vl (n:BitVec 32):b8 4 n=(n >>> 4) ^^^ b8 4 (n &&& 15#32):=by
 have h1:b8 4 (n &&& ~~~(15#32))=n >>> 4:=by
  rw[JN 4 _ (fun i hi=>by
   rw[IF,R_];have:(15#32).getLsbD i=true:=by
    match i,hi with
    | 0,_=>rfl
    | 1,_=>rfl
    | 2,_=>rfl
    | 3,_=>rfl
   rw[this];simp)]
  apply Iv;intro i hi;rw[It,It,IF,R_];by_cases h:4+i<32
  ·have:(15#32).getLsbD (4+i)=false:=by
    rw[BitVec.getLsbD_ofNat];rw[Ru (kK (by decide:15<2^4) (rR (by omega) (by omega)))];simp
   rw[this];simp[h]
  ·rw[BitVec.getLsbD_of_ge n _ (by omega)];simp
 have h2:=B7 4 (n &&& 15#32) (n &&& ~~~(15#32));rw[Sa,h1]at h2;rw[h2,BitVec.xor_comm]
def BA (n:BitVec 32) (c:UInt8):BitVec 32:=b8 8 (n ^^^ BitVec.ofNat 32 c.toNat)
def ni (n:BitVec 32) (l:List UInt8):BitVec 32:=l.foldl BA n
theorem FE (n:BitVec 32) (c:Nat) (h:c<256) :
 b8 8 (n ^^^ BitVec.ofNat 32 c)=b8 4 (b8 4 (n ^^^ BitVec.ofNat 32 (c % 16)) ^^^ BitVec.ofNat 32 (c/16)):=by
 have e:BitVec.ofNat 32 c=BitVec.ofNat 32 (c % 16) ^^^ (BitVec.ofNat 32 (c/16) <<< 4):=by
  have:∀c:Fin 256,BitVec.ofNat 32 c.val=BitVec.ofNat 32 (c.val % 16) ^^^ (BitVec.ofNat 32 (c.val/16) <<< 4):=by decide +kernel
  exact this ⟨c,h⟩
 have e2:b8 4 (BitVec.ofNat 32 (c/16) <<< 4)=BitVec.ofNat 32 (c/16):=by
  have:∀c:Fin 16,b8 4 (BitVec.ofNat 32 c.val <<< 4)=BitVec.ofNat 32 c.val:=by decide +kernel
  exact this ⟨c/16,by omega⟩
 rw[show(8:Nat)=4+4 from rfl,Mx,e,←BitVec.xor_assoc,B7 4 _ (BitVec.ofNat 32 (c/16) <<< 4),e2]
end Go.Proofs.YtdpniceapmikpaaGreat
namespace Go.Proofs.YtdpniceapmikpaaGreat
open Go.RowKit
def ix (n:Int):Prop := -9223372036854775808≤n∧n≤9223372036854775807
abbrev gM (x:BitVec 32):Value:=.int .u32 (x.toNat:Int)
theorem wrap_u32 (x:BitVec 32):IntKind.u32.wrap (x.toNat:Int)=(x.toNat:Int):=by
 have:=x.isLt;rw[IntKind.wrap_u32];omega
theorem ofInt_u32 (x:BitVec 32):BitVec.ofInt 32 (x.toNat:Int)=x:=by rw[zw,R8];simp
theorem q_ (x y:BitVec 32):bits .xor .u32 (x.toNat:Int) (y.toNat:Int)=((x ^^^ y).toNat:Int):=by
 show IntKind.u32.wrap ((BitVec.ofInt 32 (x.toNat:Int) ^^^ BitVec.ofInt 32 (y.toNat:Int)).toNat:Int)=_;rw[ofInt_u32,ofInt_u32];exact wrap_u32 _
theorem BB (x y:BitVec 32):bits .and .u32 (x.toNat:Int) (y.toNat:Int)=((x &&& y).toNat:Int):=by
 show IntKind.u32.wrap ((BitVec.ofInt 32 (x.toNat:Int) &&& BitVec.ofInt 32 (y.toNat:Int)).toNat:Int)=_;rw[ofInt_u32,ofInt_u32];exact wrap_u32 _
theorem BD (x:BitVec 32) (k:Nat):(x.toNat:Int)/((2^k:Nat):Int)=((x >>> k).toNat:Int):=by
 rw[BitVec.toNat_ushiftRight,Nat.shiftRight_eq_div_pow];rfl
theorem NG (x:BitVec 32):bits .xor .u32 IntKind.u32.max (x.toNat:Int)=((~~~ x).toNat:Int):=by
 have e:(IntKind.u32.max:Int)=((BitVec.allOnes 32).toNat:Int):=by decide
 rw[e,q_,BitVec.allOnes_xor]
theorem Vm (x:BitVec 32):(x &&& 15#32).toNat<16:=by
 rw[BitVec.toNat_and];exact Nat.lt_of_le_of_lt Nat.and_le_right (by decide)
theorem Vn (X:BitVec 32):bits .xor .u32 ((X.toNat:Int)/(2:Int)) (bits .and .u32 3988292384 (-bits .and .u32 (X.toNat:Int) 1 % 4294967296))=((jv X).toNat:Int):=by
 have e1:bits .and .u32 (X.toNat:Int) 1=((X &&& 1#32).toNat:Int):=BB X 1#32;have e2:(X.toNat:Int)/(2:Int)=((X >>> 1).toNat:Int):=BD X 1;rw[e1,e2];unfold jv;have hb:X &&& 1#32=if X.getLsbD 0 then 1#32 else 0#32:=by
  apply Iv;intro i hi;rw[IF];by_cases h0:i=0
  ·subst h0;cases X.getLsbD 0<;>rfl
  ·have h1:(1#32).getLsbD i=false:=by
    rw[BitVec.getLsbD_one];simp[h0]
   rw[h1,oO];cases X.getLsbD 0
   ·simp
   ·simp[h1]
 rw[hb];cases X.getLsbD 0
 ·have e3:bits .and .u32 3988292384 0=(0#32).toNat:=BB 0xedb88320#32 0#32;simp only[Bool.false_eq_true,if_false];rw[show(-((0#32:BitVec 32).toNat:Int) % 4294967296)=0 from by decide,e3];exact q_ _ _
 ·have e3:bits .and .u32 3988292384 4294967295=((0xedb88320#32).toNat:Int):=BB 0xedb88320#32 0xffffffff#32;simp only[if_true];rw[show(-((1#32:BitVec 32).toNat:Int) % 4294967296)=4294967295 from by decide,e3];exact q_ _ _
abbrev aj (c:UInt8):Value:=.int .u8 (c.toNat:Int)
def BytesIn (W:World) (B:Nat) (v:Value) (l:List UInt8):Prop :=
 l.length≤maxLen∧∃a cap,v=.slice a l.length cap∧l.length≤cap∧∀j (c:UInt8),l[j]? = some c→∃g off,a=some ⟨g,off,none⟩∧g<B∧W.cell? ⟨g,off+j,none⟩=some (aj c)
theorem BytesIn.below {W W':World} {B C:Nat} {v:Value} {l:List UInt8} (h:BytesIn W B v l) (hb:Below C W W') (hC:B≤C):BytesIn W' B v l:=by
 obtain⟨h1,a,cap,h2,h3,h4⟩:=h;refine⟨h1,a,cap,h2,h3,fun j c hc=>?_⟩;obtain⟨g,off,e,hg,hr⟩:=h4 j c hc;exact⟨g,off,e,hg,(hb.cell (p:=⟨g,off+j,none⟩) (show g<C by omega)).trans hr⟩
theorem BytesIn.mono {W:World} {B C:Nat} {v:Value} {l:List UInt8} (h:BytesIn W B v l) (hC:B≤C):BytesIn W C v l:=by
 obtain⟨h1,a,cap,h2,h3,h4⟩:=h;refine⟨h1,a,cap,h2,h3,fun j c hc=>?_⟩;obtain⟨g,off,e,hg,hr⟩:=h4 j c hc;exact⟨g,off,e,by omega,hr⟩
theorem BytesIn.nil (W:World) (B:Nat):BytesIn W B (.slice none 0 0) []:=⟨by simp,none,0,rfl,by simp,fun j c hc=>by simp at hc⟩
theorem BytesIn.own {W:World} {B n:Nat} {v:Value} {e:TypeId} {l:List UInt8} (h:W.ownsRow B e 1 v n (l.map aj)):BytesIn W W.heap.size v l:=by
 have hn:l.length=n:=by have:=h.1;simpa using this
 subst hn;obtain⟨hl,h2⟩:=h;rcases h2 with ⟨rfl,h0⟩ | ⟨g,cap,cur,rfl,hB,hg,hc,hm,hs,ht⟩
 ·have:l=[]:=rO h0;subst this;exact BytesIn.nil W _
 ·refine⟨by omega,_,cap,rfl,hc,fun j c hj=>⟨g,0,rfl,kQ hg,?_⟩⟩;rw[mL W g (0+j) cur e (0,0) hg];have h1:(cur.toList.take (l.length*1))[j]? = some (aj c):=by rw[ht];simp[hj]
  have hjl:j<l.length:=by
   rcases bZ j l.length with h | h
   ·exact h
   ·rw[dh h]at hj;cases hj
  rw[dU,aB (by omega)]at h1;simpa using h1
theorem mu (c:UInt8):c.toNat<256:=zP c
structure bx where
 k:Int
 o:Int
 c:Int
 a:Int
 r:Int
 v:Int
theorem bx.ext {x y:bx} (h1:x.k=y.k) (h2:x.o=y.o) (h3:x.c=y.c) (h4:x.a=y.a) (h5:x.r=y.r) (h6:x.v=y.v):x=y:=by
 cases x;cases y;simp_all
def bx.cells (x:bx):List Value:=[.int .i64 x.k,.int .i64 x.o,.int .i64 x.c,.int .i64 x.a,.int .i64 x.r,.int .i64 x.v]
theorem bx.nC (x:bx):x.cells.length=6:=rfl
def rS (x y:bx):Bool:=(x.k == y.k)&&((x.o == y.o)&&((x.c == y.c)&&((x.a == y.a)&&((x.r == y.r)&&((x.v == y.v)&&true)))))
theorem Ga (x y:bx):rS x y=true↔x=y:=by
 unfold rS;simp only[Bool.and_eq_true,beq_iff_eq,Bool.and_true];constructor
 ·rintro⟨h1,h2,h3,h4,h5,h6⟩;exact bx.ext h1 h2 h3 h4 h5 h6
 ·rintro rfl;simp
def mw:bx:=⟨0,0,0,0,0,0⟩
def bw (l:List bx):List Value:=l.flatMap bx.cells
theorem cq (l:List bx):(bw l).length=6*l.length:=by
 induction l with
 | nil=>rfl
 | cons x l ih =>
  have:bw (x::l)=x.cells++bw l:=rfl;rw[this,bX,ih,bx.nC,wP];omega
theorem Ad:∀ (l:List bx) (j:Nat) (x:bx),l[j]? = some x→∀i,i<6→(bw l)[j*6+i]? = x.cells[i]? :=by
 intro l;induction l with
 | nil=>intro j x h;simp at h
 | cons y l ih =>
  intro j x h i hi;have e:bw (y::l)=y.cells++bw l:=rfl;rw[e];cases j with
  | zero =>
   obtain rfl:y=x:=by simpa using h
   rw[xb,cW,iC (by rw[bx.nC];exact hi)]
  | succ j =>
   have h':l[j]? = some x:=by simpa using h
   rw[gl (by rw[bx.nC];omega)];have e2:(j+1)*6+i-y.cells.length=j*6+i:=by rw[bx.nC];omega
   rw[e2];exact ih j x h' i hi
theorem Hu (l:List bx) (j:Nat) (x:bx) (h:l[j]? = some x):((bw l).drop (j*6)).take 6=x.cells:=by
 apply m_;intro i;by_cases hi:i<6
 ·rw[List.getElem?_take_of_lt hi,kL,Ad l j x h i hi]
 ·rw[dh (by simp;omega),dh (by rw[bx.nC];omega)]
theorem iU {P : Program} (w : World) (d : Nat) (f : Field) (fs : List Field) (xs ys : Array Value) {q : IntKind} (hn : f.name ≠ "_") (hp : P.plainKey f.type = true) (hu : P.underlying f.type = some (.int q)) {a b : Int}
 (hx:xs[f.offset]? = some (.int q a)) (hy:ys[f.offset]? = some (.int q b)) {r:Bool} (h:(Op.eqFields (d+1) xs ys fs).run P w=.ok r w):(Op.eqFields (d+1) xs ys (f::fs)).run P w=.ok ((a == b)&&r) w:=by
 rw[Op.eqFields,aB hn];simp only[Sem.run_bind,run_part_plain w hp hx,run_part_plain w hp hy,Result.andThen_ok,run_equalIn_int w d f.type q q a b hu];cases hh:(a == b)
 ·simp
 ·simpa using h
theorem D3 {P : Program} (w : World) (d : Nat) (f : Field) (fs : List Field) (xs ys : Array Value) (hn : f.name ≠ "_") {a b : Value} (hx : (part f.type xs f.offset).run P w = .ok a w) (hy : (part f.type ys f.offset).run P w = .ok b w) {q : Bool}
 (he:(Op.equalIn d f.type a b).run P w=.ok q w) {r:Bool} (h:(Op.eqFields d xs ys fs).run P w=.ok r w):(Op.eqFields d xs ys (f::fs)).run P w=.ok (q&&r) w:=by
 rw[Op.eqFields,aB hn];simp only[Sem.run_bind,hx,hy,Result.andThen_ok,he];cases q
 ·simp
 ·simpa using h
theorem D5 {P:Program} (w:World) (d:Nat) (xs ys:Array Value):(Op.eqFields d xs ys []).run P w=.ok true w:=by simp[Op.eqFields]
theorem B8 (d:Nat) (x y:bx) (w:World):(Op.equalIn (d+2) 58 (.agg x.cells.toArray) (.agg y.cells.toArray)).run Tryz.prog w=.ok (rS x y) w:=by
 rw[RP w (d+1) _ _ _ (by kernel_rfl) (by kernel_rfl)];simp only[Program.fieldsOf,Tryz.underlying58];exact iU w d _ _ _ _ (by decide) (by kernel_rfl) Tryz.underlying55 rfl rfl
  (iU w d _ _ _ _ (by decide) (by kernel_rfl) ew rfl rfl
  (iU w d _ _ _ _ (by decide) (by kernel_rfl) nv rfl rfl
  (iU w d _ _ _ _ (by decide) (by kernel_rfl) nv rfl rfl
  (iU w d _ _ _ _ (by decide) (by kernel_rfl) Tryz.underlying56 rfl rfl
  (iU w d _ _ _ _ (by decide) (by kernel_rfl) nv rfl rfl (D5 _ _ _ _))))))
theorem tV {P:Program} (w:World) {t:TypeId} {d:TypeDesc} (hu:P.underlying t=some d) (hd:(match d with | .struct _ | .array _ _=>true | _=>false)=true) {n:Nat} (hi:(P.info? t).map (·.size)=some n) (xs:Array Value) (off:Nat) :
 (part t xs off).run P w=.ok (.agg (xs.extract off (off+n))) w:=by
 obtain⟨i,hi',hn⟩:=iE.1 hi;cases d<;>simp at hd<;>simp[part,isAgg,run_underlying hu,run_sizeOf w hi',Program.cellsOf,hi',hn]
theorem xK:(Tryz.prog.info? 58).map (·.size)=some 6:=by kernel_rfl
theorem tr:(Tryz.prog.info? 59).map (·.size)=some 96:=by kernel_rfl
theorem Ae:(Tryz.prog.info? 60).map (·.size)=some 64:=by kernel_rfl
theorem rT:Tryz.prog.cellsOf 58=6:=by kernel_rfl
theorem xL (l:List bx) (j:Nat) (x:bx) (h:l[j]? = some x) (w:World):(part 58 (bw l).toArray (j*6)).run Tryz.prog w=.ok (.agg x.cells.toArray) w:=by
 rw[tV w pj rfl xK];congr 2
 apply IP.1;rw[IA];simpa[List.extract]using Hu l j x h
def mM:List bx→List bx→Bool
 | [],[]=>true
 | x::l,y::m=>rS x y&&mM l m
 | _,_=>false
theorem tt:∀ (l m:List bx),mM l m=true↔l=m
 | [],[]=>by simp[mM]
 | x::l,y::m=>by simp[mM,Ga,tt l m]
 | [],_::_=>by simp[mM]
 | _::_,[]=>by simp[mM]
theorem D6 (d:Nat) (w:World) (l m:List bx):∀ (n j:Nat),(∀i,j≤i→i<j+n→i<l.length∧i<m.length) →
 (Op.eqItems (d+2) 58 6 (bw l).toArray (bw m).toArray (List.range' j n)).run Tryz.prog w=.ok (mM ((l.drop j).take n) ((m.drop j).take n)) w
 | 0,j,_=>by simp[Op.eqItems,mM]
 | n+1,j,h=>by
  obtain⟨h1,h2⟩:=h j (by omega) (by omega);have ih:=D6 d w l m n (j+1) (fun i hi hi2=>h i (by omega) (by omega));rw[List.range'_succ,Op.eqItems];simp only[Sem.run_bind,xL l j _ (List.getElem?_eq_getElem h1) w,xL m j _ (List.getElem?_eq_getElem h2) w,Result.andThen_ok,B8 d _ _ w];rw[pg h1,pg h2,RM,RM,mM];cases hh:rS l[j] m[j]
  ·simp
  ·simpa using ih
theorem yM (d:Nat) (l m:List bx) (hl:l.length=16) (hm:m.length=16) (w:World):(Op.equalIn (d+3) 59 (.agg (bw l).toArray) (.agg (bw m).toArray)).run Tryz.prog w=.ok (mM l m) w:=by
 obtain⟨i,hi,_⟩:=iE.1 xK;rw[run_equalIn_array w (d+2) _ _ wJ hi,rT,List.range_eq_range'];have:=D6 d w l m 16 0 (fun i _ hi=>by omega);rw[this,qd,qd,dg (by omega),dg (by omega)]
structure aK where
 kd:Int
 ct:Int
 cl:Int
 slots:List bx
 bytes:List UInt8
def aK.ok (o:aK):Prop:=o.slots.length=16∧o.bytes.length=64
def aK.cells (o:aK):List Value:=[.int .i64 o.kd,.int .i64 o.ct,.int .i64 o.cl]++(bw o.slots++o.bytes.map aj)
theorem aK.len {o:aK} (h:o.ok):o.cells.length=163:=by
 unfold aK.cells;rw[bX,bX,cq,cR,h.1,h.2];rfl
def BE (x y:aK):Bool:=(x.kd == y.kd)&&((x.ct == y.ct)&&((x.cl == y.cl)&&(mM x.slots y.slots&&((x.bytes == y.bytes)&&true))))
theorem Af (x y:aK):BE x y=true↔x=y:=by
 cases x;cases y
 unfold BE;simp only[Bool.and_eq_true,beq_iff_eq,tt,Bool.and_true,aK.mk.injEq]
theorem Gb {o:aK} (h:o.ok):o.cells.toArray.extract 3 (3+96)=(bw o.slots).toArray:=by
 apply IP.1;rw[IA];simp only[List.extract];unfold aK.cells;rw[List.drop_append_of_le_length (by simp)];rw[show List.drop 3 ([Value.int .i64 o.kd,Value.int .i64 o.ct,Value.int .i64 o.cl])=[]by rfl,nx,wi (by rw[cq,h.1];omega),dg (by rw[cq,h.1];omega)]
theorem Gc {o:aK} (h:o.ok):o.cells.toArray.extract 99 (99+64)=(o.bytes.map aj).toArray:=by
 apply IP.1;rw[IA];simp only[List.extract];unfold aK.cells;rw[←fS,List.drop_append,jD (by rw[bX,cq,h.1];simp),nx,bX,cq,h.1];rw[show 99-(List.length [Value.int .i64 o.kd,Value.int .i64 o.ct,Value.int .i64 o.cl]+6*16)=0 by rfl,qd,dg (by rw[cR,h.2];omega)]
theorem yN (d:Nat) (l m:List UInt8) (hl:l.length=64) (hm:m.length=64) (w:World):(Op.equalIn (d+2) 60 (.agg (l.map aj).toArray) (.agg (m.map aj).toArray)).run Tryz.prog w=.ok (l == m) w :=
 run_equalIn_bytes w d _ _ 64 zB oK (fun w=>by kernel_rfl) l m hl hm
theorem B_ (d:Nat) (x y:aK) (hx:x.ok) (hy:y.ok) (w:World):(Op.equalIn (d+4) 62 (.agg x.cells.toArray) (.agg y.cells.toArray)).run Tryz.prog w=.ok (BE x y) w:=by
 rw[RP w (d+3) _ _ _ (by kernel_rfl) (by kernel_rfl)];simp only[Program.fieldsOf,Tryz.underlying62];exact iU w (d+2) _ _ _ _ (by decide) (by kernel_rfl) Tryz.underlying54 rfl rfl
  (iU w (d+2) _ _ _ _ (by decide) (by kernel_rfl) nv rfl rfl
  (iU w (d+2) _ _ _ _ (by decide) (by kernel_rfl) nv rfl rfl
  (D3 w (d+3) _ _ _ _ (by decide) ((tV w wJ rfl tr _ _).trans (by rw[Gb hx])) ((tV w wJ rfl tr _ _).trans (by rw[Gb hy])) (yM d _ _ hx.1 hy.1 w)
  (D3 w (d+3) _ _ _ _ (by decide) ((tV w zB rfl Ae _ _).trans (by rw[Gc hx])) ((tV w zB rfl Ae _ _).trans (by rw[Gc hy])) (yN (d+1) _ _ hx.2 hy.2 w) (D5 _ _ _ _)))))
def str (l:List UInt8):Value:=.string ⟨l.toArray⟩
def kG (nm:List UInt8) (dy rights call value:Bool) (most wants:Int):List Value :=
 [str nm,.bool dy,.bool rights,.bool call,.bool value,.int .i64 most,.int .i64 wants]
def jI:Array Value:=(
 kG [118,111,105,100] false false false false 0 0 ++
 kG [110,117,109,98,101,114] false false false true 0 0 ++
 kG [110,111,100,101] true true false false 7 1 ++
 kG [112,97,103,101] true true false false 1 2 ++
 kG [98,97,110,107] true false false false 0 1 ++
 kG [112,114,111,99] true false false false 0 1 ++
 kG [115,116,97,114,116] true false false true 0 1 ++
 kG [114,101,115,117,109,101] true false true false 0 1 ++
 kG [100,105,115,99,114,105,109] false false false false 0 0 ++
 kG [99,108,111,99,107] false false false false 0 0 ++
 kG [99,104,101,99,107] false false false false 0 0).toArray
def lT:List Value:=kG [] false false false false 0 0
def Ag:Array Value:=(lT++lT++lT++lT++lT++lT++lT++lT++lT++lT++lT).toArray
theorem ZN (w:World):(zeroValue 263).run Tryz.prog w=.ok (.agg Ag) w:=by kernel_rfl
theorem Mz:Ag.size=77:=by kernel_rfl
theorem Sb:¬Ag=#[]:=by intro h;have:=Mz;rw[h]at this;cases this
theorem bO {P:Program} {ops:Array Oper} {rest:List Oper} {o:Oper} {a:Act} {w:World} {Q:Exit→Act→World→Prop} (hg:o.guard=none) (t:TypeId) (parts:Array (Nat×Operand)) (ho:o.op=.build t parts)
 (cells:Array Value) (hf:P.built t (parts.map fun(i,x)=>(i,a.eval x)).toList=some cells)
 (h:wpList P ops Q rest (a.put o.dst (.agg cells)) w):wpList P ops Q (o::rest) a w :=
 wpList_build hg t parts ho (by rw[hf];rfl) (by rw[hf];exact h)
theorem Gd:(Tryz.prog.info? 263).map (·.size)=some jI.size:=by kernel_rfl
theorem Sc:Ag.size=jI.size:=by kernel_rfl
theorem Vo:jI.all (·.oneCell')=true:=by kernel_rfl
theorem Sd (w:World) :
 Calls Tryz.prog 149 #[] w fun e w'=>e=.returned (.agg jI)∧w.alloc (.cells jI 263)=w':=by
 have hz:=ZN;have hn:=Sb;go_enter Tryz.func149,Tryz.ntmps149
 go_wp2_with (first
  | (refine bO rfl 263 _ rfl jI (by kernel_rfl) ?_)
  | (refine aQ rfl 263 _ _ rfl w.heap.size jI rfl rfl 263 Ag (IW _ _) Gd Sc Vo ?_;rw[di]))
 exact bc (v:=.agg jI) (mo Tryz.results149 _ _ w.heap.size 263 jI (0,0) _ rfl (IW _ _) Tryz.underlying263 rfl Gd) rfl ⟨rfl,rfl⟩
def jP (has:Bool) (n most:Int):Bool:=(has&&decide (0≤n)&&decide (n≤most)) || (!has&&(n == 0))
theorem OG (has:Bool) (n most:Int) (w:World) :
 Calls Tryz.prog 150 #[.bool has,.int .i64 n,.int .i64 most] w fun e w'=>e=.returned (.bool (jP has n most))∧w=w':=by
 cases has
 ·go_enter Jv,Je
  go_wp2
  go_ret
  exact⟨by simp[jP],rfl⟩
 ·by_cases h0:0≤n
  ·go_enter Jv,Je
   go_wp2
   all_goals go_ret
   all_goals exact⟨by simp[jP, *],rfl⟩
  ·have h1:n<0:=by omega
   have h2:¬ (0≤n∧n≤most):=by omega
   go_enter Jv,Je
   go_wp2
   all_goals go_ret
   all_goals exact⟨by simp[jP];omega,rfl⟩
def nameOf (k:Int):ByteArray:=⟨(if k=0 then [118,111,105,100] else if k=1 then [110,117,109,98,101,114] else if k=2 then [110,111,100,101] else if k=3 then [112,97,103,101] else if k=4 then [98,97,110,107]
 else if k=5 then [112,114,111,99] else if k=6 then [115,116,97,114,116] else if k=7 then [114,101,115,117,109,101] else if k=8 then [100,105,115,99,114,105,109] else if k=9 then [99,108,111,99,107]
 else if k=10 then [99,104,101,99,107] else []:List UInt8).toArray⟩
def gO (k:Int):Bool:=decide (2≤k)&&decide (k≤7)
def fm (k:Int):Bool:=(k == 2) || (k == 3)
def gX (k:Int):Bool:=k == 7
def fF (k:Int):Bool:=(k == 1) || (k == 6)
def gS (k:Int):Int:=if k=2 then 7 else if k=3 then 1 else 0
def BF (k:Int):Int:=if k=3 then 2 else if gO k then 1 else 0
def oo (k:Int):Array Value:=#[.string (nameOf k),.bool (gO k),.bool (fm k),.bool (gX k),.bool (fF k),.int .i64 (gS k),.int .i64 (BF k)]
theorem aao (k:Int) (h0:0≤k) (h1:k≤10) (w:World):(Instr.index 263 (.agg jI) (.int .i64 k)).run Tryz.prog w=.ok (.agg (oo k)) w:=by
 have h:k=0∨k=1∨k=2∨k=3∨k=4∨k=5∨k=6∨k=7∨k=8∨k=9∨k=10:=by omega
 rcases h with rfl | rfl | rfl | rfl | rfl | rfl | rfl | rfl | rfl | rfl | rfl
 all_goals exact(by kernel_rfl:Sem.run _ _ _=Result.ok _ _)
def iI (k o c a r v:Int):Bool:=decide (0≤k)&&decide (k≤10)&&jP (gO k) o 63&&jP (gO k) c 4294967295&&jP (gX k) a 4294967295&&decide (0≤r)&&(bits .andNot .i64 r (gS k) == 0)&&(fF k || (v == 0))
theorem aap (k o c a r v:Int) (h0:0≤k) (h1:k≤10):iI k o c a r v=(jP (gO k) o 63&&jP (gO k) c 4294967295&&jP (gX k) a 4294967295&&decide (0≤r)&&(bits .andNot .i64 r (gS k) == 0)&&(fF k || (v == 0))):=by
 unfold iI;rw[cT h0,cT h1];simp only[Bool.true_and]
theorem Se (k:Int):(oo k).all (·.oneCell')=true:=by unfold oo;simp[Value.oneCell']
abbrev qm (k o c a r v:Int):Array Value:=#[.int .i64 k,.int .i64 o,.int .i64 c,.int .i64 a,.int .i64 r,.int .i64 v]
theorem Ah:(Tryz.prog.info? 231).map (·.size)=some 7:=by kernel_rfl
theorem aed (k o c a r v:Int) (w:World) (h0:0≤k) (h1:k≤10) :
 Calls Tryz.prog 130 #[.agg #[.int .i64 k,.int .i64 o,.int .i64 c,.int .i64 a,.int .i64 r,.int .i64 v]] w fun e w' =>
  e=.returned (.tuple #[.agg (oo k),.bool (iI k o c a r v)])∧Below w.heap.size w w':=by
 have hx:=aao k h0 h1;unfold oo at hx;go_enter Jz,Jh
 go_upto_region 3 with fail;go_cut [4] (fun s4 wx=>∃g:Nat,s4=.pointer (some ⟨g,0,none⟩)∧ah wx w.heap.size 58 (qm k o c a r v)∧(∃cs,cs.size=7∧ah wx (w.heap.size+1) 231 cs)∧ah wx g 231 (oo k)∧Below w.heap.size w wx)
 case first =>
  go_region_with (go_at_call 149;refine(Sd _).mono ?_;rintro e w' ⟨rfl,rfl⟩)
  all_goals go_wp2_with fail
  all_goals go_meet
  all_goals refine⟨_,rfl,(((ah.new _ _ _).alloc _).alloc _).alloc _,⟨_,?_,((ah.new' ?_).alloc _).alloc _⟩,?_,?_⟩
  all_goals first
   | exact(((((ax _ _).alloc (ai _) _).alloc (by simp) _).alloc (by simp;omega) _).alloc (by simp;omega) _).drew
   | exact(ah.new' (by simp)).drew
   | exact((ah.new' (by simp)).alloc _).drew
   | rfl
   | (simp;done)
 case rest =>
  obtain⟨g,rfl,hk,⟨cs,hcs,hr⟩,hrow,hb⟩:=hcut;have k1:=hk.ag 1 rfl;have k2:=hk.ag 2 rfl;have k3:=hk.ag 3 rfl;have k4:=hk.ag 4 rfl;have k5:=hk.ag 5 rfl;have r1:wc.cell? ⟨g,1,none⟩=some (.bool (gO k)):=hrow.ag 1 rfl;have r3:wc.cell? ⟨g,3,none⟩=some (.bool (gX k)):=hrow.ag 3 rfl;have r4:wc.cell? ⟨g,4,none⟩=some (.bool (fF k)):=hrow.ag 4 rfl;have r5:wc.cell? ⟨g,5,none⟩=some (.int .i64 (gS k)):=hrow.ag 5 rfl;have HF:=ae (aap k o c a r v h0 h1);go_upto_region 5 with fail;go_cut [6] (fun s6 wx=>s6=.bool (iI k o c a r v)∧wx=wc)
  case first =>
   go_wp2_with (go_at_call 150;refine(OG _ _ _ _).mono ?_;rintro e w' ⟨rfl,rfl⟩)
   all_goals go_meet
   all_goals refine⟨?_,rfl⟩
   all_goals rw[HF.out]
   all_goals (go_light;first | (simp[*];done) | (rw[cB (by omega:¬0≤r)];simp))
  case rest =>
   obtain⟨rfl,rfl⟩:=hcut;clear HF;go_wp2_with (first
    | (refine bt rfl 231 _ rfl g rfl 231 (oo k) (0,0) _ hrow RT rfl Ah ?_)
    | (refine aQ rfl 231 _ _ rfl (w.heap.size+1) (oo k) rfl rfl 231 cs hr Ah hcs (Se k) ?_))
   exact bc (dm Tryz.results130 _ _ (w.heap.size+1) 231 (oo k) (0,0) _ rfl (hr.row _) RT rfl Ah _ rfl) rfl ⟨rfl,aA hb _ (by omega)⟩
theorem aee {W w1:World} (hb:Below W.heap.size W w1):(∀b o,b<W.heap.size→w1.cell? ⟨b,o,none⟩=W.cell? ⟨b,o,none⟩)∧(∀b o,b<W.heap.size→w1.frozen? ⟨b,o,none⟩=W.frozen? ⟨b,o,none⟩) :=
 ⟨fun b o h=>hb.cell (p:=⟨b,o,none⟩) h,fun b o h=>hb.frozen (p:=⟨b,o,none⟩) h⟩
theorem ah.key {w:World} {g:Nat} {t:TypeId} {k o c a r v:Int} (h:ah w g t (qm k o c a r v)) :
 w.cell? ⟨g,0,none⟩=some (.int .i64 k)∧w.cell? ⟨g,1,none⟩=some (.int .i64 o)∧w.cell? ⟨g,2,none⟩=some (.int .i64 c)∧w.cell? ⟨g,3,none⟩=some (.int .i64 a)∧w.cell? ⟨g,4,none⟩=some (.int .i64 r)∧w.cell? ⟨g,5,none⟩=some (.int .i64 v) :=
 ⟨h.ag 0 rfl,h.ag 1 rfl,h.ag 2 rfl,h.ag 3 rfl,h.ag 4 rfl,h.ag 5 rfl⟩
theorem ah.kind {w:World} {g:Nat} {t:TypeId} {k:Int} (h:ah w g t (oo k)) :
 w.cell? ⟨g,0,none⟩=some (.string (nameOf k))∧w.cell? ⟨g,1,none⟩=some (.bool (gO k))∧w.cell? ⟨g,2,none⟩=some (.bool (fm k))∧w.cell? ⟨g,3,none⟩=some (.bool (gX k))∧w.cell? ⟨g,4,none⟩=some (.bool (fF k))∧w.cell? ⟨g,5,none⟩=some (.int .i64 (gS k))∧w.cell? ⟨g,6,none⟩=some (.int .i64 (BF k)) :=
 ⟨h.ag 0 rfl,h.ag 1 rfl,h.ag 2 rfl,h.ag 3 rfl,h.ag 4 rfl,h.ag 5 rfl,h.ag 6 rfl⟩
theorem Sf (k:Int) (h:k<0∨10<k):oo k=#[.string ⟨#[]⟩,.bool false,.bool false,.bool false,.bool false,.int .i64 0,.int .i64 0]:=by
 have e:k≠0∧k≠1∧k≠2∧k≠3∧k≠4∧k≠5∧k≠6∧k≠7∧k≠8∧k≠9∧k≠10:=by omega
 obtain⟨e0,e1,e2,e3,e4,e5,e6,e7,e8,e9,e10⟩:=e;have ho:¬ (2≤k∧k≤7):=by omega
 have ho':gO k=false:=by unfold gO;rw[Rz];simp;omega
 simp[oo,nameOf,fm,gX,fF,gS,BF, *]
theorem ZO (k o c a r v:Int) (h:k<0∨10<k):iI k o c a r v=false:=by
 unfold iI;rcases h with h | h
 ·rw[cB (by omega:¬0≤k)];rfl
 ·rw[cB (by omega:¬k≤10),oO];rfl
theorem aaq (k o c a r v:Int) (w:World) (h:k<0∨10<k) :
 Calls Tryz.prog 130 #[.agg #[.int .i64 k,.int .i64 o,.int .i64 c,.int .i64 a,.int .i64 r,.int .i64 v]] w fun e w' =>
  e=.returned (.tuple #[.agg (oo k),.bool (iI k o c a r v)])∧Below w.heap.size w w':=by
 rw[Sf k h,ZO k o c a r v h];rcases h with h | h
 ·go_enter Jz,Jh
  go_wp2
  exact bc (v:=.tuple #[.agg #[.string ⟨#[]⟩,.bool false,.bool false,.bool false,.bool false,.int .i64 0,.int .i64 0],.bool false]) (by simp[results,Tryz.results130,go_sem]) rfl ⟨rfl,((ax _ _).alloc (ai _) _).alloc (by simp) _⟩
 ·have h':¬k<0:=by omega
  go_enter Jz,Jh
  go_wp2
  exact bc (v:=.tuple #[.agg #[.string ⟨#[]⟩,.bool false,.bool false,.bool false,.bool false,.int .i64 0,.int .i64 0],.bool false]) (by simp[results,Tryz.results130,go_sem]) rfl ⟨rfl,((ax _ _).alloc (ai _) _).alloc (by simp) _⟩
theorem Sg (k o c a r v:Int) (w:World) :
 Calls Tryz.prog 130 #[.agg #[.int .i64 k,.int .i64 o,.int .i64 c,.int .i64 a,.int .i64 r,.int .i64 v]] w fun e w' =>
  e=.returned (.tuple #[.agg #[.string (nameOf k),.bool (gO k),.bool (fm k),.bool (gX k),.bool (fF k),.int .i64 (gS k),.int .i64 (BF k)],.bool (iI k o c a r v)])∧Below w.heap.size w w':=by
 by_cases h:0≤k∧k≤10
 ·exact aed k o c a r v w h.1 h.2
 ·exact aaq k o c a r v w (by omega)
def dr (b:Bool):Int:=if b then 0 else 2
theorem u6 (k o c a r v:Int) (w:World) :
 Calls Tryz.prog 92 #[.agg #[.int .i64 k,.int .i64 o,.int .i64 c,.int .i64 a,.int .i64 r,.int .i64 v]] w fun e w' =>
  e=.returned (.int .i64 (dr (iI k o c a r v)))∧Below w.heap.size w w':=by
 cases hB:iI k o c a r v
 all_goals
  go_enter Tryz.func92,Tryz.ntmps92
  go_wp2_with (go_at_call 130;refine(Sg _ _ _ _ _ _ _).mono ?_;rintro e w1 ⟨rfl,hb⟩)
  go_ret
  exact⟨rfl,(((ax _ _).alloc (ai _) _).trans (hb.mono (by simp))).alloc (by have:=hb.size;simp at this;omega) _⟩
def gT (k o c a r v:Int):Bool:=iI k o c a r v&&gO k
theorem Sh (k o c a r v:Int) (w:World) :
 Calls Tryz.prog 91 #[.agg #[.int .i64 k,.int .i64 o,.int .i64 c,.int .i64 a,.int .i64 r,.int .i64 v]] w fun e w' =>
  e=.returned (.tuple #[.int .i64 (if gT k o c a r v then o else 0),.bool (gT k o c a r v)])∧Below w.heap.size w w':=by
 unfold gT;cases hB:iI k o c a r v<;>cases hO:gO k
 all_goals
  go_enter Tryz.func91,Tryz.ntmps91
  go_wp2_with (go_at_call 130;refine(Sg _ _ _ _ _ _ _).mono ?_;rintro e w1 ⟨rfl,hb⟩;obtain⟨hc,hf⟩:=aee hb;have hz:w.heap.size<w1.heap.size:=(by have:=hb.size;simp at this;omega))
  go_ret2
  exact⟨rfl,(((ax _ _).alloc (ai _) _).trans (hb.mono (by simp))).alloc (by have:=hb.size;simp at this;omega) _⟩
theorem JO {fn:Func} {t u v x:Tmp} (h:fn.results=#[.tmp t,.tmp u,.tmp v,.tmp x]) (tmps:Array Value) (P:Program) (w:World) :
 (results fn tmps).run P w=.ok (.tuple #[tmps.getD t undef,tmps.getD u undef,tmps.getD v undef,tmps.getD x undef]) w:=by simp[results,h]
theorem xM (k:Int) (w:World) :
 Calls Tryz.prog 131 #[.int .i64 k] w fun e w' =>
  e=.returned (.tuple #[.bool (gO k),.bool (fm k),.bool (gX k),.bool (fF k)])∧w=w':=by
 go_enter Tryz.func131,Tryz.ntmps131
 go_wp2
 all_goals refine bc (JO rfl _ _ _) rfl ?_
 all_goals refine⟨?_,rfl⟩
 all_goals go_light
 all_goals (simp[gO,fm,gX,fF, *]<;>omega)
def BH (k:Int):Int:=if fm k then 7 else 0
def u7 (k r v:Int):Bool:=decide (k<0) || decide (10<k) || decide (r<0) || decide (gS k<r) || (!fF k && !(v == 0))
def xi (k o c:Int):Bool:=(gO k&&(decide (o<0) || decide (64≤o) || decide (c<0) || decide (4294967295<c))) || (!gO k&&(!(o == 0) || !(c == 0)))
def xj (k a:Int):Bool:=(gX k&&(decide (a<0) || decide (4294967295<a))) || (!gX k && !(a == 0))
theorem MA (k o c a r v:Int) (w:World) (ho:o≠0) :
 Calls Tryz.prog 93 #[.agg #[.int .i64 k,.int .i64 o,.int .i64 c,.int .i64 a,.int .i64 r,.int .i64 v]] w fun e w' =>
  e=.returned (.int .i64 (if u7 k r v then 2 else if xi k o c then 2 else if xj k a then 2 else 0))∧Below w.heap.size w w':=by
 go_enter Tryz.func93,Tryz.ntmps93
 go_wp2_with fail;refine(xM _ _).mono ?_;rintro e w1 ⟨rfl,rfl⟩;go_upto_if 18 with fail
 go_cut [4,5,6,7,8] (fun s4 s5 s6 s7 s8 wx=>s4=.bool (gO k)∧s5=.bool (fm k)∧s6=.bool (gX k)∧s7=.bool (fF k)∧s8=.int .i64 (BH k)∧wx=w.alloc (.cells (qm k o c a r v) 58))
 case first =>
  cases hR:fm k
  all_goals
   go_wp2_with fail;go_meet
   refine⟨?_,?_,?_,?_,?_,rfl⟩
   all_goals go_light
   all_goals simp[BH, *]
 case rest =>
  obtain⟨rfl,rfl,rfl,rfl,rfl,rfl⟩:=hcut;go_upto_if 20 with fail
  go_cut [4,5,6,7,8] (fun s4 s5 s6 s7 s8 wx=>s4=.bool (gO k)∧s5=.bool (fm k)∧s6=.bool (gX k)∧s7=.bool (fF k)∧s8=.int .i64 (gS k)∧wx=w.alloc (.cells (qm k o c a r v) 58))
  case first =>
   cases h3:(k == 3)
   all_goals
    go_wp2_with fail;go_meet
    refine⟨rfl,rfl,rfl,rfl,?_,rfl⟩;go_light
    cases h2:(k == 2)
    all_goals simp at h3 h2
    all_goals first | omega | simp[gS,BH,fm,h2,h3]
  case rest =>
   obtain⟨rfl,rfl,rfl,rfl,rfl,rfl⟩:=hcut;go_upto_region 8 with fail;go_cut [4,5,6,7,46] (fun s4 s5 s6 s7 s wx=>s4=.bool (gO k)∧s5=.bool (fm k)∧s6=.bool (gX k)∧s7=.bool (fF k)∧s=.bool (u7 k r v)∧wx=w.alloc (.cells (qm k o c a r v) 58))
   case first =>
    cases hV:fF k
    all_goals go_wp2_with fail
    all_goals go_meet
    all_goals refine⟨?_,?_,?_,?_,?_,rfl⟩
    all_goals go_light
    all_goals simp[u7,bne, *]
   case rest =>
    obtain⟨rfl,rfl,rfl,rfl,rfl,rfl⟩:=hcut;cases h1:u7 k r v
    ·go_upto_region 10 with fail;go_cut [4,5,6,7,81] (fun s4 s5 s6 s7 s wx=>s4=.bool (gO k)∧s5=.bool (fm k)∧s6=.bool (gX k)∧s7=.bool (fF k)∧s=.bool (xi k o c)∧wx=w.alloc (.cells (qm k o c a r v) 58))
     case first =>
      cases hO:gO k
      all_goals go_wp2_with fail
      all_goals go_meet
      all_goals refine⟨?_,?_,?_,?_,?_,rfl⟩
      all_goals go_light
      all_goals simp[xi, *]
     case rest =>
      obtain⟨rfl,rfl,rfl,rfl,rfl,rfl⟩:=hcut;cases h2:xi k o c
      ·go_upto_region 12 with fail;go_cut [4,5,6,7,101] (fun s4 s5 s6 s7 s wx=>s4=.bool (gO k)∧s5=.bool (fm k)∧s6=.bool (gX k)∧s7=.bool (fF k)∧s=.bool (xj k a)∧wx=w.alloc (.cells (qm k o c a r v) 58))
       case first =>
        cases hC:gX k
        all_goals go_wp2_with fail
        all_goals go_meet
        all_goals refine⟨?_,?_,?_,?_,?_,rfl⟩
        all_goals go_light
        all_goals simp[xj,bne, *]
       case rest =>
        obtain⟨rfl,rfl,rfl,rfl,rfl,rfl⟩:=hcut;cases h3:xj k a
        all_goals go_wp2_with fail
        all_goals go_ret
        all_goals exact⟨rfl,(ax _ _).alloc (ai _) _⟩
      ·go_wp2_with fail
       all_goals go_ret
       all_goals exact⟨rfl,(ax _ _).alloc (ai _) _⟩
    ·go_wp2_with fail;go_ret
     exact⟨rfl,(ax _ _).alloc (ai _) _⟩
theorem MC (k c a r v:Int) (w:World) :
 Calls Tryz.prog 93 #[.agg #[.int .i64 k,.int .i64 0,.int .i64 c,.int .i64 a,.int .i64 r,.int .i64 v]] w fun e w' =>
  e=.returned (.int .i64 (if u7 k r v then 2 else if xi k 0 c then 2 else if xj k a then 2 else 0))∧Below w.heap.size w w':=by
 go_enter Tryz.func93,Tryz.ntmps93
 go_wp2_with fail;refine(xM _ _).mono ?_;rintro e w1 ⟨rfl,rfl⟩;go_upto_if 18 with fail
 go_cut [4,5,6,7,8] (fun s4 s5 s6 s7 s8 wx=>s4=.bool (gO k)∧s5=.bool (fm k)∧s6=.bool (gX k)∧s7=.bool (fF k)∧s8=.int .i64 (BH k)∧wx=w.alloc (.cells (qm k 0 c a r v) 58))
 case first =>
  cases hR:fm k
  all_goals
   go_wp2_with fail;go_meet
   refine⟨?_,?_,?_,?_,?_,rfl⟩
   all_goals go_light
   all_goals simp[BH, *]
 case rest =>
  obtain⟨rfl,rfl,rfl,rfl,rfl,rfl⟩:=hcut;go_upto_if 20 with fail
  go_cut [4,5,6,7,8] (fun s4 s5 s6 s7 s8 wx=>s4=.bool (gO k)∧s5=.bool (fm k)∧s6=.bool (gX k)∧s7=.bool (fF k)∧s8=.int .i64 (gS k)∧wx=w.alloc (.cells (qm k 0 c a r v) 58))
  case first =>
   cases h3:(k == 3)
   all_goals
    go_wp2_with fail;go_meet
    refine⟨rfl,rfl,rfl,rfl,?_,rfl⟩;go_light
    cases h2:(k == 2)
    all_goals simp at h3 h2
    all_goals first | omega | simp[gS,BH,fm,h2,h3]
  case rest =>
   obtain⟨rfl,rfl,rfl,rfl,rfl,rfl⟩:=hcut;go_upto_region 8 with fail;go_cut [4,5,6,7,46] (fun s4 s5 s6 s7 s wx=>s4=.bool (gO k)∧s5=.bool (fm k)∧s6=.bool (gX k)∧s7=.bool (fF k)∧s=.bool (u7 k r v)∧wx=w.alloc (.cells (qm k 0 c a r v) 58))
   case first =>
    cases hV:fF k
    all_goals go_wp2_with fail
    all_goals go_meet
    all_goals refine⟨?_,?_,?_,?_,?_,rfl⟩
    all_goals go_light
    all_goals simp[u7,bne, *]
   case rest =>
    obtain⟨rfl,rfl,rfl,rfl,rfl,rfl⟩:=hcut;cases h1:u7 k r v
    ·go_upto_region 10 with fail;go_cut [4,5,6,7,81] (fun s4 s5 s6 s7 s wx=>s4=.bool (gO k)∧s5=.bool (fm k)∧s6=.bool (gX k)∧s7=.bool (fF k)∧s=.bool (xi k 0 c)∧wx=w.alloc (.cells (qm k 0 c a r v) 58))
     case first =>
      cases hO:gO k
      all_goals go_wp2_with fail
      all_goals go_meet
      all_goals refine⟨?_,?_,?_,?_,?_,rfl⟩
      all_goals go_light
      all_goals simp[xi,bne, *]
     case rest =>
      obtain⟨rfl,rfl,rfl,rfl,rfl,rfl⟩:=hcut;cases h2:xi k 0 c
      ·go_upto_region 12 with fail;go_cut [4,5,6,7,101] (fun s4 s5 s6 s7 s wx=>s4=.bool (gO k)∧s5=.bool (fm k)∧s6=.bool (gX k)∧s7=.bool (fF k)∧s=.bool (xj k a)∧wx=w.alloc (.cells (qm k 0 c a r v) 58))
       case first =>
        cases hC:gX k
        all_goals go_wp2_with fail
        all_goals go_meet
        all_goals refine⟨?_,?_,?_,?_,?_,rfl⟩
        all_goals go_light
        all_goals simp[xj,bne, *]
       case rest =>
        obtain⟨rfl,rfl,rfl,rfl,rfl,rfl⟩:=hcut;cases h3:xj k a
        all_goals go_wp2_with fail
        all_goals go_ret
        all_goals exact⟨rfl,(ax _ _).alloc (ai _) _⟩
      ·go_wp2_with fail
       all_goals go_ret
       all_goals exact⟨rfl,(ax _ _).alloc (ai _) _⟩
    ·go_wp2_with fail;go_ret
     exact⟨rfl,(ax _ _).alloc (ai _) _⟩
theorem OH (k o c a r v:Int) (w:World) :
 Calls Tryz.prog 93 #[.agg #[.int .i64 k,.int .i64 o,.int .i64 c,.int .i64 a,.int .i64 r,.int .i64 v]] w fun e w' =>
  e=.returned (.int .i64 (if u7 k r v then 2 else if xi k o c then 2 else if xj k a then 2 else 0))∧Below w.heap.size w w':=by
 by_cases ho:o=0
 ·subst ho;exact MC k c a r v w
 ·exact MA k o c a r v w ho
theorem Ge (a:Nat) (ha:a<9223372036854775808):(BitVec.ofInt 64 (a:Int)).toNat=a:=by
 rw[zw,sf];exact sg (by omega)
theorem wrap_small (n:Nat) (h:n<9223372036854775808):IntKind.i64.wrap (n:Int)=(n:Int):=by
 rw[cz];omega
theorem OI (a b:Nat) (ha:a<9223372036854775808) (hb:b<9223372036854775808):bits .andNot .i64 (a:Int) (b:Int)=((a &&& (2^64-(b+1)):Nat):Int):=by
 have hx:a &&& (2^64-(b+1))≤a:=Nat.and_le_left;show IntKind.i64.wrap ((BitVec.ofInt 64 (a:Int) &&& ~~~BitVec.ofInt 64 (b:Int)).toNat:Int)=_;rw[BitVec.toNat_and,BitVec.toNat_not,Ge a ha,Ge b hb];have e:2^64-1-b=2^64-(b+1):=by omega
 rw[e];exact wrap_small _ (by omega)
theorem JP (a b:Nat) (ha:a<2^64) (hb:b<2^64):a &&& (2^64-(b+1))=0↔a &&& b=a:=by
 constructor
 ·intro h;apply RB;intro i;have h1:(a &&& (2^64-(b+1))).testBit i=false:=by rw[h];simp
  rw[Dz,Rq hb]at h1;rw[Dz];cases h2:a.testBit i
  ·rfl
  ·rw[h2]at h1;have hi:i<64:=by
    rcases bZ i 64 with h3 | h3
    ·exact h3
    ·rw[Ru (kK ha (rR (by omega) h3))]at h2;cases h2
   simpa[hi]using h1
 ·intro h;apply RB;intro i;rw[Dz,Rq hb,Nat.zero_testBit];have h1:(a &&& b).testBit i=a.testBit i:=by rw[h]
  rw[Dz]at h1;cases h2:a.testBit i
  ·rfl
  ·rw[h2]at h1;simp at h1;simp[h1]
theorem xN (a b:Int) (ha:0≤a) (ha1:a<9223372036854775808) (hb:0≤b) (hb1:b<9223372036854775808):(bits .andNot .i64 a b=0)↔a.toNat &&& b.toNat=a.toNat:=by
 obtain⟨A,rfl⟩:=zp ha;obtain⟨B,rfl⟩:=zp hb;rw[OI A B (by omega) (by omega)];simp only[Int.toNat_natCast];rw[←JP A B (by omega) (by omega)];omega
theorem Vp (a:Int) (ha:0≤a) (ha1:a<9223372036854775808):(bits .andNot .i64 a 7=0)↔a≤7:=by
 rw[xN a 7 ha ha1 (by omega) (by omega)];have e:a.toNat &&& (7:Int).toNat=a.toNat % 8:=Rn a.toNat 3;rw[e];omega
theorem Vq (a:Int) (ha:0≤a) (ha1:a<9223372036854775808):(bits .andNot .i64 a 1=0)↔a≤1:=by
 rw[xN a 1 ha ha1 (by omega) (by omega)];have e:a.toNat &&& (1:Int).toNat=a.toNat % 2:=Rn a.toNat 1;rw[e];omega
theorem Vr (a:Int) (ha:0≤a) (ha1:a<9223372036854775808):(bits .andNot .i64 a 0=0)↔a≤0:=by
 rw[xN a 0 ha ha1 (by omega) (by omega)];have e:a.toNat &&& (0:Int).toNat=0:=Nat.and_zero _;rw[e];omega
theorem Ca (k r:Int) (ha:0≤r) (ha1:r<9223372036854775808):(bits .andNot .i64 r (gS k)=0)↔r≤gS k:=by
 unfold gS;split
 ·exact Vp r ha ha1
 ·split
  ·exact Vq r ha ha1
  ·exact Vr r ha ha1
theorem OJ (k o c a r v:Int) (hr:r<9223372036854775808) :
 (if u7 k r v then (2:Int) else if xi k o c then 2 else if xj k a then 2 else 0)=dr (iI k o c a r v):=by
 have key:iI k o c a r v=(!u7 k r v && !xi k o c && !xj k a):=by
  by_cases h0:0≤r
  ·have hm:(bits .andNot .i64 r (gS k) == 0)=decide (r≤gS k):=by
    rw[zO];simpa using Ca k r h0 hr
   unfold iI u7 xi xj jP;rw[hm];generalize gS k=m;cases gO k<;>cases gX k<;>cases fF k<;>(rw[zO];simp;omega)
  ·unfold iI u7;rw[cB h0,cT (by omega:r<0)];simp
 rw[key];cases u7 k r v<;>cases xi k o c<;>cases xj k a<;>rfl
theorem tv (k o c a r v:Int) (w:World) (hr:r<9223372036854775808) :
 Calls Tryz.prog 93 #[.agg #[.int .i64 k,.int .i64 o,.int .i64 c,.int .i64 a,.int .i64 r,.int .i64 v]] w fun e w' =>
  e=.returned (.int .i64 (dr (iI k o c a r v)))∧Below w.heap.size w w':=by
 rw[←OJ k o c a r v hr];exact OH k o c a r v w
theorem OK (k o c a r v:Int) (w:World) (hr:r<9223372036854775808) :
 Calls Tryz.prog 94 #[.agg #[.int .i64 k,.int .i64 o,.int .i64 c,.int .i64 a,.int .i64 r,.int .i64 v]] w fun e w' =>
  e=.returned (.int .i64 (if gT k o c a r v then o else -1))∧Below w.heap.size w w':=by
 have hc:=fun W=>tv k o c a r v W hr
 unfold gT;have HC:=ae hc;clear hc hr;cases hB:iI k o c a r v<;>cases hO:gO k
 all_goals
  go_enter Tryz.func94,Tryz.ntmps94
  go_wp2_with fail;refine(xM _ _).mono ?_;rintro e w1 ⟨rfl,rfl⟩;go_wp2_with fail;refine(HC.out _).mono ?_;rintro e w1 ⟨rfl,hb⟩;have K1:ah w1 w.heap.size 58 (qm k o c a r v):=(ah.new w _ _).below hb (by simp);have k1:=K1.ag 1 rfl;have hbb:Below w.heap.size w w1:=((ax _ _).alloc (ai _) _).trans (hb.mono (by simp));clear hb K1;rw[hB];have he:dr true=0:=rfl;have he2:dr false=2:=rfl;go_wp2_with fail;go_ret
  exact⟨rfl,hbb⟩
def kT:List bx:=List.replicate 16 mw
def kU:List UInt8:=List.replicate 64 0
def nD (o:aK):Bool:=mM o.slots kT
def sm (o:aK):Bool:=o.bytes == kU
def pn (o:aK) (b:Bool):Bool:=nD o&&((b || sm o)&&(o.cl == 0))
theorem b9 {W:World} {g:Nat} {o:aK} {cs:Array Value} (hb:ah W g 62 cs) (hc:cs=o.cells.toArray):∀i,W.cell? ⟨g,i,none⟩=o.cells[i]? :=by
 intro i;rw[hb.cell i,hc];simp
theorem D9 {W:World} {g:Nat} {o:aK} {cs:Array Value} (ho:o.ok) (hb:ah W g 62 cs) (hc:cs=o.cells.toArray) :
 (loadVar 59 ⟨g,3,none⟩).run Tryz.prog W=.ok (.agg (bw o.slots).toArray) W:=by
 refine zJ W g 3 _ (bw o.slots) _ ?_ wJ rfl (by rw[cq,ho.1];exact tr);intro j v hv;rw[b9 hb hc (3+j)];have hj:j<96:=by
  rcases bZ j 96 with h | h
  ·exact h
  ·rw[dh (by rw[cq,ho.1];omega)]at hv;cases hv
 unfold aK.cells;rw[gl (by simp),iC (by rw[cq,ho.1];simp;omega)];simpa[Nat.add_comm 3 j]using hv
theorem Si {W:World} {g:Nat} {o:aK} {cs:Array Value} (ho:o.ok) (hb:ah W g 62 cs) (hc:cs=o.cells.toArray) :
 (loadVar 60 ⟨g,99,none⟩).run Tryz.prog W=.ok (.agg (o.bytes.map aj).toArray) W:=by
 refine zJ W g 99 _ (o.bytes.map aj) _ ?_ zB rfl (by rw[cR,ho.2];exact Ae);intro j v hv;rw[b9 hb hc (99+j)];unfold aK.cells;rw[←fS,gl (by rw[bX,cq,ho.1];simp)];rw[bX,cq,ho.1];simpa[Nat.add_comm 99 j]using hv
section
variable {P:Program} {ops:Array Oper} {rest:List Oper} {o:Oper} {a:Act} {w:World} {Q:Exit→Act→World→Prop}
theorem aS (hw:Region.wanted o (yielded ops a.tmps)=true) (ty:TypeId) (x:Operand) (ho:o.op=.load ty x)
 (b off:Nat) (hx:a.eval x=.pointer (some ⟨b,off,none⟩)) (cs:Array Value) (hr:(loadVar ty ⟨b,off,none⟩).run P w=.ok (.agg cs) w)
 (h:wpList P ops Q rest (a.put o.dst (.agg cs)) w):wpList P ops Q (o::rest) a w :=
 DP fun K hK=>by
  simp only[hw,if_true];unfold Oper.wp execOp;simp only[ho,hx,Instr.loadAt,Instr.sureAddr,Sem.run_bind,Sem.run_pure,Result.andThen_ok,hr];exact hK _ _ h
theorem CN (hw:Region.wanted o (yielded ops a.tmps)=true) (t:TypeId) (parts:Array (Nat×Operand)) (ho:o.op=.build t parts)
 (cells:Array Value) (hf:P.built t (parts.map fun(i,x)=>(i,a.eval x)).toList=some cells)
 (h:wpList P ops Q rest (a.put o.dst (.agg cells)) w):wpList P ops Q (o::rest) a w :=
 DP fun K hK=>by
  simp only[hw,if_true];exact wp_build t parts ho (by rw[hf];rfl) (by rw[hf];exact hK _ _ h)
theorem FG (hw:Region.wanted o (yielded ops a.tmps)=true) (t t':TypeId) (x y:Operand) (ho:o.op=.binOp .eql t x y t') (xs ys:Array Value) (hx:a.eval x=.agg xs) (hy:a.eval y=.agg ys)
 (hm:P.eqGuardType P.depth t=false) (b:Bool) (he:(Op.equalIn 10000 t (.agg xs) (.agg ys)).run P w=.ok b w)
 (h:wpList P ops Q rest (a.put o.dst (.bool b)) w):wpList P ops Q (o::rest) a w :=
 DP fun K hK=>by
  simp only[hw,if_true];unfold Oper.wp execOp;simp only[ho,hx,hy,Sem.run_bind,run_eqGuard_agg _ _ _ _ _ _ _ hm,run_eql_struct,he,Sem.run_pure,Result.andThen_ok];exact hK _ _ h
end
theorem Vs (o:aK) (ho:o.ok) (b:Bool) (w:World):Calls Tryz.prog 90 #[.agg o.cells.toArray,.bool b] w fun e w'=>e=.returned (.bool (pn o b))∧Below w.heap.size w w':=by
 obtain⟨cs,hc⟩:∃cs,cs=o.cells.toArray:=⟨_,rfl⟩;rw[←hc];have K:=ah.new w 62 cs;have c2:(w.alloc (.cells cs 62)).cell? ⟨w.heap.size,2,none⟩=some (.int .i64 o.cl):=(b9 K hc 2).trans rfl;have l1:=ae (D9 ho K hc);have l2:=ae (Si ho K hc);have zc1:Tryz.zeroCells59=(bw kT).toArray:=by kernel_rfl
 have e1:(Op.equalIn 10000 59 (.agg (bw o.slots).toArray) (.agg Tryz.zeroCells59)).run Tryz.prog (w.alloc (.cells cs 62))=.ok (nD o) (w.alloc (.cells cs 62)):=by
  rw[zc1];exact yM 9997 _ _ ho.1 rfl _
 have E2:=ae (yN 9998 o.bytes kU ho.2 rfl (w.alloc (.cells cs 62)));unfold pn;clear K hc ho zc1;generalize nD o=b1 at *;have hb2:(o.bytes == kU)=sm o:=rfl;rw[hb2]at E2;clear hb2;generalize sm o=b2 at *;generalize (bw o.slots).toArray=S at *;generalize (o.bytes.map aj).toArray=B at *;cases b1<;>cases b<;>cases b2
 all_goals
  go_enter Tryz.func90,Tryz.ntmps90
  go_wp2_with (first
   | (refine aS rfl 59 _ rfl w.heap.size 3 rfl S l1.out ?_)
   | (refine aS rfl 60 _ rfl w.heap.size 99 rfl B l2.out ?_)
   | (refine FG rfl 60 _ _ _ rfl B (kU.map aj).toArray rfl (by kernel_rfl) (by kernel_rfl) _ E2.out ?_))
  go_ret
  exact⟨rfl,(ax _ _).alloc (ai _) _⟩
theorem Cb (l:List bx) (hl:l.length=16) (j:Nat) (x:bx) (h:l[j]? = some x) (w:World) :
 (Instr.index 59 (.agg (bw l).toArray) (.int .i64 (j:Int))).run Tryz.prog w=.ok (.agg #[.int .i64 x.k,.int .i64 x.o,.int .i64 x.c,.int .i64 x.a,.int .i64 x.r,.int .i64 x.v]) w:=by
 have hj:j<16:=by
  rcases bZ j 16 with hh | hh
  ·exact hh
  ·rw[dh (by omega)]at h;cases h
 have hn:(0:Int)≤j∧(j:Int)<16:=by omega
 obtain⟨i,hi,hs⟩:=iE.1 xK;have hp:=xL l j x h w;have hcs:=rT;simp[Instr.index,run_underlying Tryz.underlying59,asIntOf,run_sizeOf w hi,hcs,hp,hj];rfl
def preB (n ct cl:Int):Bool:=decide (1≤n)&&decide (n≤64)&&decide (0≤ct)&&decide (ct≤4294967295)&&decide (0≤cl)&&decide (cl≤4294967295)
def ib (n:Int) (x:bx):Bool:=iI x.k x.o x.c x.a x.r x.v&&(!gT x.k x.o x.c x.a x.r x.v || decide (x.o<n))
def fH (o:aK) (n:Int):Bool:=preB n o.ct o.cl&&(if o.kd=0 then pn o false else if o.kd=3 then pn o false else if o.kd=2 then pn o true else if o.kd=1 then o.slots.all (ib n) else false)
theorem OL (o:aK) (n:Int) (w:World) (h:preB n o.ct o.cl=false):Calls Tryz.prog 40 #[.agg o.cells.toArray,.int .i64 n] w fun e w'=>e=.returned (.int .i64 2)∧Below w.heap.size w w':=by
 obtain⟨cs,hc⟩:∃cs,cs=o.cells.toArray:=⟨_,rfl⟩;rw[←hc];have K:=ah.new w 62 cs;have c1:(w.alloc (.cells cs 62)).cell? ⟨w.heap.size,1,none⟩=some (.int .i64 o.ct):=(b9 K hc 1).trans rfl;have c2:(w.alloc (.cells cs 62)).cell? ⟨w.heap.size,2,none⟩=some (.int .i64 o.cl):=(b9 K hc 2).trans rfl;clear K hc;generalize o.ct=ct at *;generalize o.cl=cl at *;have hs:n<1∨(¬n<1∧64<n)∨(¬n<1∧¬64<n∧ct<0)∨(¬n<1∧¬64<n∧¬ct<0∧4294967295<ct)∨(¬n<1∧¬64<n∧¬ct<0∧¬4294967295<ct∧cl<0)∨(¬n<1∧¬64<n∧¬ct<0∧¬4294967295<ct∧¬cl<0∧4294967295<cl):=by
  simp[preB]at h;omega
 clear h;rcases hs with h1 | ⟨h1,h2⟩ | ⟨h1,h2,h3⟩ | ⟨h1,h2,h3,h4⟩ | ⟨h1,h2,h3,h4,h5⟩ | ⟨h1,h2,h3,h4,h5,h6⟩
 all_goals
  go_enter DS,DK
  go_wp2_with fail;go_ret
  exact⟨rfl,(ax _ _).alloc (ai _) _⟩
theorem FH {n ct cl:Int} (h:preB n ct cl=true):¬n<1∧¬64<n∧¬ct<0∧¬4294967295<ct∧¬cl<0∧¬4294967295<cl:=by
 simp[preB]at h;omega
theorem vK (o:aK) (ho:o.ok) (n:Int) (b:Bool) (w:World) (h:preB n o.ct o.cl=true) (hk:(b=false∧(o.kd=0∨o.kd=3))∨(b=true∧o.kd=2)):Calls Tryz.prog 40 #[.agg o.cells.toArray,.int .i64 n] w fun e w'=>e=.returned (.int .i64 (dr (pn o b)))∧Below w.heap.size w w':=by
 have HB:=ae (fun W=>Vs o ho b W);obtain⟨cs,hc⟩:∃cs,cs=o.cells.toArray:=⟨_,rfl⟩;rw[←hc]at HB ⊢;have K:=ah.new w 62 cs;have vL:cs.size=163:=by rw[hc];simpa using aK.len ho
 have c0:(w.alloc (.cells cs 62)).cell? ⟨w.heap.size,0,none⟩=some (.int .i64 o.kd):=(b9 K hc 0).trans rfl;have c1:(w.alloc (.cells cs 62)).cell? ⟨w.heap.size,1,none⟩=some (.int .i64 o.ct):=(b9 K hc 1).trans rfl;have c2:(w.alloc (.cells cs 62)).cell? ⟨w.heap.size,2,none⟩=some (.int .i64 o.cl):=(b9 K hc 2).trans rfl;have hr:(loadVar 62 ⟨w.heap.size,0,none⟩).run Tryz.prog (w.alloc (.cells cs 62))=.ok (.agg cs) (w.alloc (.cells cs 62)) :=
  tO _ _ _ _ cs _ _ K dH rfl (by rw[vL];kernel_rfl)
 have HR:=ae hr;clear K hc vL hr;generalize pn o b=q at *;generalize o.ct=ct at *;generalize o.cl=cl at *;generalize o.kd=kd at *;clear ho;obtain⟨h1,h2,h3,h4,h5,h6⟩:=FH h;clear h;have he:dr true=0:=rfl;have he2:dr false=2:=rfl;rcases hk with ⟨rfl,rfl | rfl⟩ | ⟨rfl,rfl⟩
 all_goals
  go_enter DS,DK
  go_wp2_with (refine aS rfl 62 _ rfl w.heap.size 0 rfl cs HR.out ?_)
  refine(HB.out _).mono ?_;rintro e w1 ⟨rfl,hb⟩;have hbb:=((ax w.heap.size w).alloc (ai _) (.cells cs 62)).trans (hb.mono (by simp));cases q
  all_goals
   go_wp2_with fail;go_ret
   exact⟨rfl,hbb⟩
theorem MD (o:aK) (n:Int) (w:World) (h:preB n o.ct o.cl=true) (k0:o.kd≠0) (k1:o.kd≠1) (k2:o.kd≠2) (k3:o.kd≠3):Calls Tryz.prog 40 #[.agg o.cells.toArray,.int .i64 n] w fun e w'=>e=.returned (.int .i64 2)∧Below w.heap.size w w':=by
 obtain⟨cs,hc⟩:∃cs,cs=o.cells.toArray:=⟨_,rfl⟩;rw[←hc];have K:=ah.new w 62 cs;have c0:(w.alloc (.cells cs 62)).cell? ⟨w.heap.size,0,none⟩=some (.int .i64 o.kd):=(b9 K hc 0).trans rfl;have c1:(w.alloc (.cells cs 62)).cell? ⟨w.heap.size,1,none⟩=some (.int .i64 o.ct):=(b9 K hc 1).trans rfl;have c2:(w.alloc (.cells cs 62)).cell? ⟨w.heap.size,2,none⟩=some (.int .i64 o.cl):=(b9 K hc 2).trans rfl;clear K hc;generalize o.ct=ct at *;generalize o.cl=cl at *;generalize o.kd=kd at *;obtain⟨h1,h2,h3,h4,h5,h6⟩:=FH h;clear h;go_enter DS,DK
 go_wp2_with fail;go_ret
 exact⟨rfl,(ax _ _).alloc (ai _) _⟩
theorem JQ (l:List bx) (p:bx→Bool) (j:Nat) (x:bx) (h:l[j]? = some x):(l.take (j+1)).all p=((l.take j).all p&&p x):=by
 rw[gG,h];simp
theorem JR {n:Int} {x:bx} (h:iI x.k x.o x.c x.a x.r x.v=false):ib n x=false:=by unfold ib;rw[h];rfl
theorem D_ {n:Int} {x:bx} (h:iI x.k x.o x.c x.a x.r x.v=true) (h2:gT x.k x.o x.c x.a x.r x.v=false):ib n x=true:=by unfold ib;rw[h,h2];rfl
theorem vM {n:Int} {x:bx} (h:iI x.k x.o x.c x.a x.r x.v=true) (h2:gT x.k x.o x.c x.a x.r x.v=true):ib n x=decide (x.o<n):=by unfold ib;rw[h,h2];simp
theorem ME (o:aK) (ho:o.ok) (n:Int) (w:World) (h:preB n o.ct o.cl=true) (hk:o.kd=1):Calls Tryz.prog 40 #[.agg o.cells.toArray,.int .i64 n] w fun e w'=>e=.returned (.int .i64 (dr (o.slots.all (ib n))))∧Below w.heap.size w w':=by
 obtain⟨cs,hc⟩:∃cs,cs=o.cells.toArray:=⟨_,rfl⟩;rw[←hc];have K:=ah.new w 62 cs;have c0:(w.alloc (.cells cs 62)).cell? ⟨w.heap.size,0,none⟩=some (.int .i64 1):=(b9 K hc 0).trans (by rw[←hk];rfl);have c1:(w.alloc (.cells cs 62)).cell? ⟨w.heap.size,1,none⟩=some (.int .i64 o.ct):=(b9 K hc 1).trans rfl;have c2:(w.alloc (.cells cs 62)).cell? ⟨w.heap.size,2,none⟩=some (.int .i64 o.cl):=(b9 K hc 2).trans rfl;have l1:=ae (D9 ho K hc);have hl:o.slots.length=16:=ho.1;have HX:=ae (fun j x hx W=>Cb o.slots hl j x hx W);clear K hc ho hk;generalize o.ct=ct at *;generalize o.cl=cl at *;generalize o.slots=l at *;generalize (bw l).toArray=S at *;obtain⟨h1,h2,h3,h4,h5,h6⟩:=FH h;clear h;have HL:=ae hl;obtain⟨q,hq⟩:∃q,q=l.all (ib n):=⟨_,rfl⟩;rw[←hq];have HQ:=ae hq;clear hq;go_enter DS,DK
 go_wp2_with (refine aS rfl 59 _ rfl w.heap.size 3 rfl S l1.out ?_)
 have hB0:=(ax w.heap.size w).alloc (ai _) (.cells cs 62);clear c0 c1 c2 l1;go_loopw [5,52] (fun f i wr=>∃j:Nat,j≤16∧i=.int .i64 j∧f=.bool ((l.take j).all (ib n))∧Below w.heap.size w wr) (fun _ i _=>16-(intOf i).toNat)
 case atStart=>exact⟨0,by omega,rfl,rfl,hB0⟩
 case round =>
  clear hB0;obtain⟨j,hj,rfl,rfl,hB⟩:=hrel;have he:dr true=0:=rfl;have he2:dr false=2:=rfl;by_cases hlt:j<16
  ·obtain⟨x,hx⟩:∃x,l[j]? = some x:=⟨_,aY (by omega)⟩;have hidx:=HX.out j x hx wr;have hT:=JQ l (ib n) j x hx;have HF0:=ae (@JR n x);have Sj:=ae (@D_ n x);have cJ:=ae (@vM n x);obtain⟨f0,hf0⟩:∃f0,f0=(l.take j).all (ib n):=⟨_,rfl⟩;rw[←hf0]at hT ⊢;have HT:=ae hT;clear hT hf0 hx;obtain⟨kk,ko,kc,ka,kr,kv⟩:=x;simp only at hidx HF0 Sj cJ;have hz:=hB.size;go_wp2_with fail;have K1:ah (wr.alloc (.cells #[.int .i64 kk,.int .i64 ko,.int .i64 kc,.int .i64 ka,.int .i64 kr,.int .i64 kv] 58)) wr.heap.size 58 (qm kk ko kc ka kr kv):=ah.new wr _ _;refine(Sh kk ko kc ka kr kv _).mono ?_;rintro e w1 ⟨rfl,hb⟩;have K2:=K1.below hb (by simp);have hB2:=(hB.alloc hz (.cells #[.int .i64 kk,.int .i64 ko,.int .i64 kc,.int .i64 ka,.int .i64 kr,.int .i64 kv] 58)).trans (hb.mono (by simp;omega));obtain⟨x0,x1,x2,x3,x4,x5⟩:=K2.key;clear hidx K1 K2 hb hB;cases f0
   ·have kq:(l.take (j+1)).all (ib n)=false:=HT.out;have HT2:=ae kq;clear kq;cases hN:gT kk ko kc ka kr kv
    all_goals
     go_wp2_with fail;exact⟨⟨j+1,by omega,by go_num,by rw[HT2.out],hB2⟩,by simp[intOf]<;>omega⟩
   ·cases hB:iI kk ko kc ka kr kv
    ·have kq:(l.take (j+1)).all (ib n)=false:=HT.out.trans (by rw[HF0.out hB];rfl);have HT2:=ae kq;clear kq;cases hN:gT kk ko kc ka kr kv
     all_goals
      go_wp2_with fail;refine(u6 kk ko kc ka kr kv _).mono ?_;rintro e w2 ⟨rfl,hb⟩;have hB3:=hB2.trans (hb.mono hB2.size);rw[hB];go_wp2_with fail;exact⟨⟨j+1,by omega,by go_num,by rw[HT2.out],hB3⟩,by simp[intOf]<;>omega⟩
    ·cases hN:gT kk ko kc ka kr kv
     ·have kq:(l.take (j+1)).all (ib n)=true:=HT.out.trans (by rw[Sj.out hB hN];rfl);have HT2:=ae kq;clear kq;go_wp2_with fail;refine(u6 kk ko kc ka kr kv _).mono ?_;rintro e w2 ⟨rfl,hb⟩;have hB3:=hB2.trans (hb.mono hB2.size);rw[hB];go_wp2_with fail;exact⟨⟨j+1,by omega,by go_num,by rw[HT2.out],hB3⟩,by simp[intOf]<;>omega⟩
     ·have kq:(l.take (j+1)).all (ib n)=decide (ko<n):=HT.out.trans (by rw[cJ.out hB hN];rfl);have HT2:=ae kq;clear kq;go_wp2_with fail;refine(u6 kk ko kc ka kr kv _).mono ?_;rintro e w2 ⟨rfl,hb⟩;have hB3:=hB2.trans (hb.mono hB2.size);rw[hB];go_wp2_with fail;exact⟨⟨j+1,by omega,by go_num,by rw[HT2.out],hB3⟩,by simp[intOf]<;>omega⟩
  ·obtain rfl:j=16:=by omega
   have hT:(l.take 16).all (ib n)=q:=by rw[dg (by rw[HL.out];omega),HQ.out]
   rw[hT];clear hT;cases q
   all_goals
    go_wp2_with fail;go_ret
    exact⟨rfl,hB⟩
theorem tw (o:aK) (ho:o.ok) (n:Int) (w:World):Calls Tryz.prog 40 #[.agg o.cells.toArray,.int .i64 n] w fun e w'=>e=.returned (.int .i64 (dr (fH o n)))∧Below w.heap.size w w':=by
 unfold fH;cases h:preB n o.ct o.cl
 ·exact OL o n w h
 ·rw[fx];by_cases k0:o.kd=0
  ·rw[aB k0];exact vK o ho n false w h (.inl ⟨rfl,.inl k0⟩)
  by_cases k3:o.kd=3
  ·rw[aG k0,aB k3];exact vK o ho n false w h (.inl ⟨rfl,.inr k3⟩)
  by_cases k2:o.kd=2
  ·rw[aG k0,aG k3,aB k2];exact vK o ho n true w h (.inr ⟨rfl,k2⟩)
  by_cases k1:o.kd=1
  ·rw[aG k0,aG k3,aG k2,aB k1];exact ME o ho n w h k1
  rw[aG k0,aG k3,aG k2,aG k1];exact MD o n w h k0 k1 k2 k3
def u_ (n kd ct cl:Int):Bool:=preB n ct cl&&(decide (0≤kd)&&decide (kd≤3)&&((kd == 1) || (cl == 0)))
def ic (n kd:Int) (x:bx):Bool:=ib n x&&((kd == 1) || rS x mw)
def gy (kd:Int) (c:UInt8):Bool:=(kd == 1) || ((kd == 2) || (c == 0))
def Ib (o:aK) (n:Int):Bool:=u_ n o.kd o.ct o.cl&&(o.slots.all (ic n o.kd)&&o.bytes.all (gy o.kd))
section
variable {P:Program} {ops:Array Oper} {rest:List Oper} {o:Oper} {a:Act} {w:World} {Q:Exit→Act→World→Prop}
theorem oq (hw:Region.wanted o (yielded ops a.tmps)=true) (t t':TypeId) (x y:Operand) (ho:o.op=.binOp .neq t x y t') (xs ys:Array Value) (hx:a.eval x=.agg xs) (hy:a.eval y=.agg ys)
 (hm:P.eqGuardType P.depth t=false) (b:Bool) (he:(Op.equalIn 10000 t (.agg xs) (.agg ys)).run P w=.ok b w)
 (h:wpList P ops Q rest (a.put o.dst (.bool (!b))) w):wpList P ops Q (o::rest) a w :=
 DP fun K hK=>by
  simp only[hw,if_true];unfold Oper.wp execOp;simp only[ho,hx,hy,Sem.run_bind,run_eqGuard_agg _ _ _ _ _ _ _ hm,run_neq_struct,he,Sem.run_pure,Result.andThen_ok];exact hK _ _ h
end
theorem MF (o:aK) (n:Int) (w:World) (h:u_ n o.kd o.ct o.cl=false):Calls Tryz.prog 42 #[.agg o.cells.toArray,.int .i64 n] w fun e w'=>e=.returned (.int .i64 2)∧Below w.heap.size w w':=by
 obtain⟨cs,hc⟩:∃cs,cs=o.cells.toArray:=⟨_,rfl⟩;rw[←hc];have K:=ah.new w 62 cs;have c0:(w.alloc (.cells cs 62)).cell? ⟨w.heap.size,0,none⟩=some (.int .i64 o.kd):=(b9 K hc 0).trans rfl;have c1:(w.alloc (.cells cs 62)).cell? ⟨w.heap.size,1,none⟩=some (.int .i64 o.ct):=(b9 K hc 1).trans rfl;have c2:(w.alloc (.cells cs 62)).cell? ⟨w.heap.size,2,none⟩=some (.int .i64 o.cl):=(b9 K hc 2).trans rfl;clear K hc;generalize o.ct=ct at *;generalize o.cl=cl at *;generalize o.kd=kd at *;have hs:n<1∨(¬n<1∧64<n)∨(¬n<1∧¬64<n∧kd<0)∨(¬n<1∧¬64<n∧¬kd<0∧3<kd)∨(¬n<1∧¬64<n∧¬kd<0∧¬3<kd∧ct<0)∨(¬n<1∧¬64<n∧¬kd<0∧¬3<kd∧¬ct<0∧4294967295<ct)∨(¬n<1∧¬64<n∧¬kd<0∧¬3<kd∧¬ct<0∧¬4294967295<ct∧cl<0)∨(¬n<1∧¬64<n∧¬kd<0∧¬3<kd∧¬ct<0∧¬4294967295<ct∧¬cl<0∧4294967295<cl)∨(¬n<1∧¬64<n∧¬kd<0∧¬3<kd∧¬ct<0∧¬4294967295<ct∧¬cl<0∧¬4294967295<cl∧¬kd=1∧¬cl=0):=by
  simp[u_,preB]at h;omega
 clear h;rcases hs with h1 | ⟨h1,h2⟩ | ⟨h1,h2,h3⟩ | ⟨h1,h2,h3,h4⟩ | ⟨h1,h2,h3,h4,h5⟩ | ⟨h1,h2,h3,h4,h5,h6⟩ | ⟨h1,h2,h3,h4,h5,h6,h7⟩ | ⟨h1,h2,h3,h4,h5,h6,h7,h8⟩ | ⟨h1,h2,h3,h4,h5,h6,h7,h8,h9,h10⟩
 all_goals
  try have h11:(kd != 1)=true:=by simpa using h9
  try have h12:(cl != 0)=true:=by simpa using h10
  go_enter Tryz.func42,Tryz.ntmps42
  go_wp2_with fail;go_ret
  exact⟨rfl,(ax _ _).alloc (ai _) _⟩
theorem Vt {n kd ct cl:Int} (h:u_ n kd ct cl=true):¬n<1∧¬64<n∧¬kd<0∧¬3<kd∧¬ct<0∧¬4294967295<ct∧¬cl<0∧¬4294967295<cl∧(kd=1∨(¬kd=1∧cl=0)):=by
 simp[u_,preB]at h;omega
theorem Ea (l:List bx) (p:bx→Bool) (j:Nat) (x:bx) (h:l[j]? = some x) (h1:(l.take j).all p=true) (h2:p x=true):(l.take (j+1)).all p=true:=by
 rw[JQ l p j x h,h1,h2];rfl
theorem ZP (l:List bx) (p:bx→Bool) (j:Nat) (x:bx) (h:l[j]? = some x) (h2:p x=false):l.all p=false:=by
 rw[wL];exact⟨x,je h,by simp[h2]⟩
theorem ZQ (l:List UInt8) (p:UInt8→Bool) (j:Nat) (x:UInt8) (h:l[j]? = some x) (h2:p x=false):l.all p=false:=by
 rw[wL];exact⟨x,je h,by simp[h2]⟩
theorem Ai (l:List UInt8) (p:UInt8→Bool) (j:Nat) (x:UInt8) (h:l[j]? = some x) (h1:(l.take j).all p=true) (h2:p x=true):(l.take (j+1)).all p=true:=by
 rw[gG,h];simp[h1,h2]
theorem JS {W:World} {g:Nat} {o:aK} {cs:Array Value} (ho:o.ok) (hb:ah W g 62 cs) (hc:cs=o.cells.toArray) (j:Nat) (x:bx) (h:o.slots[j]? = some x) :
 (loadVar 58 ⟨g,3+j*6,none⟩).run Tryz.prog W=.ok (.agg #[.int .i64 x.k,.int .i64 x.o,.int .i64 x.c,.int .i64 x.a,.int .i64 x.r,.int .i64 x.v]) W:=by
 have hj:j<16:=by
  rcases bZ j 16 with hh | hh
  ·exact hh
  ·rw[dh (by have:=ho.1;omega)]at h;cases h
 refine zJ W g (3+j*6) _ x.cells _ ?_ pj rfl (by rw[bx.nC];exact xK);intro i v hv;have hi:i<6:=by
  rcases bZ i 6 with hh | hh
  ·exact hh
  ·rw[dh (by rw[bx.nC];omega)]at hv;cases hv
 rw[b9 hb hc (3+j*6+i)];unfold aK.cells;rw[gl (by simp;omega),iC (by rw[cq,ho.1];simp;omega)];have e:3+j*6+i - [Value.int .i64 o.kd,Value.int .i64 o.ct,Value.int .i64 o.cl].length=j*6+i:=by simp;omega
 rw[e,Ad _ j x h i hi];exact hv
theorem Gf {W:World} {g:Nat} {o:aK} {cs:Array Value} (ho:o.ok) (hb:ah W g 62 cs) (hc:cs=o.cells.toArray) (j:Nat) (c:UInt8) (h:o.bytes[j]? = some c) :
 W.cell? ⟨g,99+j,none⟩=some (aj c):=by
 rw[b9 hb hc (99+j)];unfold aK.cells;rw[←fS,gl (by rw[bX,cq,ho.1];simp)];rw[bX,cq,ho.1];have e:99+j-(List.length [Value.int IntKind.i64 o.kd,Value.int IntKind.i64 o.ct,Value.int IntKind.i64 o.cl]+6*16)=j:=by simp
 rw[e,dV,h];rfl
def iM (o:aK):Prop:=∀x∈o.slots,x.r<9223372036854775808
theorem JT {q:Bool} {l:List bx} {bs:List UInt8} {p:bx→Bool} {r:UInt8→Bool} (hq:q=(l.all p&&bs.all r)) {j:Nat} {x:bx} (hx:l[j]? = some x) (h:p x=false):q=false:=by
 rw[hq,ZP l p j x hx h];rfl
theorem ZR {q:Bool} {l:List bx} {bs:List UInt8} {p:bx→Bool} {r:UInt8→Bool} (hq:q=(l.all p&&bs.all r)) {j:Nat} {x:UInt8} (hx:bs[j]? = some x) (h:r x=false):q=false:=by
 rw[hq,ZQ bs r j x hx h];simp
theorem Sk {n kd:Int} {x:bx} (h:iI x.k x.o x.c x.a x.r x.v=false):ic n kd x=false:=by unfold ic;rw[JR h];rfl
theorem Sl {n kd:Int} {x:bx} (h:iI x.k x.o x.c x.a x.r x.v=true) (h2:gT x.k x.o x.c x.a x.r x.v=true) (h3:¬x.o<n):ic n kd x=false:=by unfold ic;rw[vM h h2,cB h3];rfl
theorem Sm {n kd:Int} {x:bx} (hk:(kd != 1)=true) (h:rS x mw=false):ic n kd x=false:=by
 unfold ic;rw[h,(by simpa using hk:(kd == 1)=false)];simp
theorem Gg {n kd:Int} {x:bx} (h:iI x.k x.o x.c x.a x.r x.v=true) (h2:gT x.k x.o x.c x.a x.r x.v=false∨(gT x.k x.o x.c x.a x.r x.v=true∧x.o<n)) (h3:(kd != 1)=false∨((kd != 1)=true∧rS x mw=true)):ic n kd x=true:=by
 unfold ic;have h4:ib n x=true:=by
  rcases h2 with h2 | ⟨h2,h5⟩
  ·exact D_ h h2
  ·rw[vM h h2];exact cT h5
 rw[h4];rcases h3 with h3 | ⟨_,h3⟩
 ·rw[(by simpa using h3:kd=1)];rfl
 ·rw[h3];simp
theorem MG (o:aK) (ho:o.ok) (hrs:iM o) (n:Int) (w:World) (h:u_ n o.kd o.ct o.cl=true):Calls Tryz.prog 42 #[.agg o.cells.toArray,.int .i64 n] w fun e w' =>
 e=.returned (.int .i64 (dr (o.slots.all (ic n o.kd)&&o.bytes.all (gy o.kd))))∧Below w.heap.size w w':=by
 obtain⟨cs,hc⟩:∃cs,cs=o.cells.toArray:=⟨_,rfl⟩;rw[←hc];have K:=ah.new w 62 cs;have c0:(w.alloc (.cells cs 62)).cell? ⟨w.heap.size,0,none⟩=some (.int .i64 o.kd):=(b9 K hc 0).trans rfl;have c1:(w.alloc (.cells cs 62)).cell? ⟨w.heap.size,1,none⟩=some (.int .i64 o.ct):=(b9 K hc 1).trans rfl;have c2:(w.alloc (.cells cs 62)).cell? ⟨w.heap.size,2,none⟩=some (.int .i64 o.cl):=(b9 K hc 2).trans rfl;have tW:=ae (fun W (hb:ah W w.heap.size 62 cs) j x hx=>JS ho hb hc j x hx);have f_:=ae (fun W (hb:ah W w.heap.size 62 cs) j x hx=>Gf ho hb hc j x hx);have Aj:=ae hrs;unfold iM at Aj;have hl:o.slots.length=16:=ho.1;have hm:o.bytes.length=64:=ho.2;clear hc ho hrs;generalize o.ct=ct at *;generalize o.cl=cl at *;generalize o.kd=kd at *;generalize o.slots=l at *;generalize o.bytes=bs at *;obtain⟨h1,h2,h3,h4,h5,h6,h7,h8,h9⟩:=Vt h;clear h;have HL:=ae hl;have HM:=ae hm;obtain⟨q,hq⟩:∃q,q=(l.all (ic n kd)&&bs.all (gy kd)):=⟨_,rfl⟩;rw[←hq];have HQ:=ae hq;clear hq;have hB0:=(ax w.heap.size w).alloc (ai _) (.cells cs 62);have hcl:(kd != 1)=false∨((kd != 1)=true∧(cl != 0)=false):=by
  rcases h9 with h9 | ⟨h8,h9⟩
  ·left;simpa using h9
  ·right;exact⟨by simpa using h8,by simpa using h9⟩
 clear h9;go_enter Tryz.func42,Tryz.ntmps42
 rcases hcl with hb1 | ⟨hb1,hcl⟩
 all_goals
  go_wp2_with fail;clear c0 c1 c2;go_loopw [6] (fun i wr=>∃j:Nat,j≤16∧i=.int .i64 j∧Hid ((l.take j).all (ic n kd)=true)∧ah wr w.heap.size 62 cs∧Below w.heap.size w wr) (fun i _=>16-(intOf i).toNat)
  case atStart=>exact⟨0,by omega,rfl,ae rfl,K,hB0⟩
  case round =>
   clear hB0 K;obtain⟨j,hj,rfl,HT,K,hB⟩:=hrel;have he:dr true=0:=rfl;have he2:dr false=2:=rfl;have hz:=hB.size;by_cases hlt:j<16
   ·obtain⟨x,hx⟩:∃x,l[j]? = some x:=⟨_,aY (by omega)⟩;have HRX:=ae (Aj.out x (je hx));have HX:=ae hx;clear hx;go_wp2_with (refine aS rfl 58 _ rfl w.heap.size (3+j*6) rfl _ (tW.out _ K j x HX.out) ?_)
    refine(tv x.k x.o x.c x.a x.r x.v _ HRX.out).mono ?_;rintro e w1 ⟨rfl,hb⟩;have K1:=K.below hb K.lt;have hB1:=hB.trans (hb.mono hz);clear K hB hb;cases hO:iI x.k x.o x.c x.a x.r x.v
    ·have HN:=ae (JT HQ.out HX.out (Sk hO));go_wp2_with fail;go_ret
     exact⟨by rw[HN.out];rfl,hB1⟩
    ·go_wp2_with (refine aS rfl 58 _ rfl w.heap.size (3+j*6) rfl _ (tW.out _ K1 j x HX.out) ?_)
     refine(OK x.k x.o x.c x.a x.r x.v _ HRX.out).mono ?_;rintro e w2 ⟨rfl,hb⟩;have K2:=K1.below hb K1.lt;have hz1:=hB1.size;have hB2:=hB1.trans (hb.mono hz1);clear K1 hB1 hb hz1;obtain⟨nm,hnm⟩:∃nm:Int,nm=(if gT x.k x.o x.c x.a x.r x.v then x.o else -1):=⟨_,rfl⟩;rw[←hnm];by_cases hge:n≤nm
     ·have hno:gT x.k x.o x.c x.a x.r x.v=true∧¬x.o<n:=by
       cases hN:gT x.k x.o x.c x.a x.r x.v
       ·rw[hN]at hnm;simp at hnm;omega
       ·rw[hN]at hnm;simp at hnm;exact⟨rfl,by omega⟩
      have HN:=ae (JT HQ.out HX.out (Sl hO hno.1 hno.2));have hnlt:¬nm<n:=by omega
      clear hno hnm;go_wp2_with fail;go_ret
      exact⟨by rw[HN.out];rfl,hB2⟩
     ·have hyes:gT x.k x.o x.c x.a x.r x.v=false∨(gT x.k x.o x.c x.a x.r x.v=true∧x.o<n):=by
       cases hN:gT x.k x.o x.c x.a x.r x.v
       ·exact .inl rfl
       ·rw[hN]at hnm;simp at hnm;exact .inr ⟨rfl,by omega⟩
      have hnlt:nm<n:=by omega
      have HY:=ae hyes;clear hyes hnm;have HO:=ae hO;clear hO;first
      | (have hbf:(kd != 1)=false:=hb1
         have HS:=ae (Ea l (ic n kd) j x HX.out HT.out (Gg HO.out HY.out (.inl hb1)));clear hbf;go_wp2_with fail;exact⟨⟨j+1,by omega,by go_num,HS,K2,hB2⟩,by simp[intOf]<;>omega⟩)
      | (have hbt:(kd != 1)=true:=hb1
         have E:=ae (B8 9998 x mw w2);cases hk:rS x mw
         ·have HN:=ae (JT HQ.out HX.out (Sm (n:=n) hb1 hk));rw[hk]at E;clear hk;go_wp2_with (first
           | (refine aS rfl 58 _ rfl w.heap.size (3+j*6) rfl _ (tW.out _ K2 j x HX.out) ?_)
           | (refine oq rfl 58 _ _ _ rfl x.cells.toArray mw.cells.toArray rfl rfl (by kernel_rfl) _ E.out ?_))
          go_ret
          exact⟨by rw[HN.out];rfl,hB2⟩
         ·have HS:=ae (Ea l (ic n kd) j x HX.out HT.out (Gg HO.out HY.out (.inr ⟨hb1,hk⟩)));rw[hk]at E;clear hk;go_wp2_with (first
           | (refine aS rfl 58 _ rfl w.heap.size (3+j*6) rfl _ (tW.out _ K2 j x HX.out) ?_)
           | (refine oq rfl 58 _ _ _ rfl x.cells.toArray mw.cells.toArray rfl rfl (by kernel_rfl) _ E.out ?_))
          exact⟨⟨j+1,by omega,by go_num,HS,K2,hB2⟩,by simp[intOf]<;>omega⟩)
   ·obtain rfl:j=16:=by omega
    have hA:l.all (ic n kd)=true:=by
     have:=HT.out;rwa [dg (by rw[HL.out];omega)]at this
    have HA:=ae hA;clear hA HT tW Aj hj hlt;go_wp2_with fail;go_loopw [7] (fun i wx=>∃j:Nat,j≤64∧i=.int .i64 j∧Hid ((bs.take j).all (gy kd)=true)∧ah wx w.heap.size 62 cs∧Below w.heap.size w wx) (fun i _=>64-(intOf i).toNat)
    case atStart=>exact⟨0,by omega,rfl,ae rfl,K,hB⟩
    case round =>
     clear K hB hz;obtain⟨j,hj,rfl,HT,K,hB⟩:=hrel;by_cases hlt:j<64
     ·obtain⟨c,hc⟩:∃c,bs[j]? = some c:=⟨_,aY (by omega)⟩;have HC:=ae hc;have x0:=f_.out _ K j c hc;clear hc;first
      | (have hbf:(kd != 1)=false:=hb1
         have hr:gy kd c=true:=by unfold gy;rw[(by simpa using hb1:kd=1)];rfl
         have HS:=ae (Ai bs (gy kd) j c HC.out HT.out hr);clear hbf hr;go_wp2_with fail;exact⟨⟨j+1,by omega,by go_num,HS,K,hB⟩,by simp[intOf]<;>omega⟩)
      | (have hbt:(kd != 1)=true:=hb1
         cases hb2:(kd != 2)
         ·have hr:gy kd c=true:=by unfold gy;rw[(by simpa using hb2:kd=2)];rfl
          have HS:=ae (Ai bs (gy kd) j c HC.out HT.out hr);clear hr;go_wp2_with fail;exact⟨⟨j+1,by omega,by go_num,HS,K,hB⟩,by simp[intOf]<;>omega⟩
         ·by_cases hc0:c=0
          ·have hr:gy kd c=true:=by unfold gy;rw[hc0];simp
           have HS:=ae (Ai bs (gy kd) j c HC.out HT.out hr);have hcn:((c.toNat:Int) != 0)=false:=by rw[hc0];rfl
           clear hr hc0;go_wp2_with fail;exact⟨⟨j+1,by omega,by go_num,HS,K,hB⟩,by simp[intOf]<;>omega⟩
          ·have hr:gy kd c=false:=by
            unfold gy;rw[(by simpa using hb1:(kd == 1)=false),(by simpa using hb2:(kd == 2)=false)];simpa using hc0
           have HN:=ae (ZR HQ.out HC.out hr);have hcn:((c.toNat:Int) != 0)=true:=by
            simp;intro h0;exact hc0 (zK.1 (by simpa using h0))
           clear hr hc0;go_wp2_with fail;go_ret
           exact⟨by rw[HN.out];rfl,hB⟩)
     ·obtain rfl:j=64:=by omega
      have hq:q=true:=by
       rw[HQ.out,HA.out];have:=HT.out;rw[dg (by rw[HM.out];omega)]at this;rw[this];rfl
      have HN:=ae hq;clear hq;go_wp2_with fail;go_ret
      exact⟨by rw[HN.out];rfl,hB⟩
theorem MH (o:aK) (ho:o.ok) (hrs:iM o) (n:Int) (w:World):Calls Tryz.prog 42 #[.agg o.cells.toArray,.int .i64 n] w fun e w'=>e=.returned (.int .i64 (dr (Ib o n)))∧Below w.heap.size w w':=by
 unfold Ib;cases h:u_ n o.kd o.ct o.cl
 ·exact MF o n w h
 ·rw[fx];exact MG o ho hrs n w h
theorem ZS (n:Int):ib n mw=true:=by kernel_rfl
theorem JU {α:Type} (p:α→Bool) (z:α) (hp:∀x,p x=true↔x=z) (l:List α):l.all p=true↔l=List.replicate l.length z:=by
 rw[cx,Ry];simp[hp]
theorem Sn (o:aK) (ho:o.ok) (n:Int):(o.slots.all fun x=>ib n x&&rS x mw)=nD o:=by
 rw[zO,JU _ mw,nD,tt,ho.1]
 ·rfl
 ·intro x;constructor
  ·intro h;exact(Ga x mw).1 (by simp at h;exact h.2)
  ·rintro rfl;rw[ZS];rfl
theorem Sq (o:aK) (ho:o.ok):(o.bytes.all fun c=>c == 0)=sm o:=by
 rw[zO,JU _ (0:UInt8),sm,tU,ho.2]
 ·rfl
 ·intro x;simp
theorem Sr (o:aK) (ho:o.ok) (n:Int):Ib o n=fH o n:=by
 unfold Ib fH u_;cases hp:preB n o.ct o.cl
 ·simp
 rw[fx,fx];by_cases k1:o.kd=1
 ·have e1:(o.slots.all (ic n o.kd))=o.slots.all (ib n):=by
   congr 1;funext x;unfold ic;rw[k1];simp
  have e2:o.bytes.all (gy o.kd)=true:=by
   rw[cx];intro c _;unfold gy;rw[k1];rfl
  rw[e1,e2,k1];simp
 ·have Ss:(o.kd == 1)=false:=by simpa using k1
  have e1:(o.slots.all (ic n o.kd))=nD o:=by
   rw[←Sn o ho n];congr 1;funext x;unfold ic;rw[Ss];simp
  rw[e1,Ss];by_cases k2:o.kd=2
  ·have e2:o.bytes.all (gy o.kd)=true:=by
    rw[cx];intro c _;unfold gy;rw[k2];rfl
   rw[e2,k2];unfold pn;cases nD o<;>cases h:(o.cl == 0)<;>simp
  ·have k2b:(o.kd == 2)=false:=by simpa using k2
   have e2:o.bytes.all (gy o.kd)=sm o:=by
    rw[←Sq o ho];congr 1;funext c;unfold gy;rw[Ss,k2b];simp
   rw[e2,aG k2,aG k1];unfold pn;by_cases k0:o.kd=0
   ·rw[k0];cases nD o<;>cases sm o<;>cases h:(o.cl == 0)<;>simp
   ·by_cases k3:o.kd=3
    ·rw[k3];cases nD o<;>cases sm o<;>cases h:(o.cl == 0)<;>simp
    ·rw[aG k0,aG k3];have:(decide (0≤o.kd)&&decide (o.kd≤3))=false:=by
      rw[Rz];simp;omega
     rw[this];simp
theorem mU (o:aK) (ho:o.ok) (hrs:iM o) (n:Int) (w:World):Calls Tryz.prog 42 #[.agg o.cells.toArray,.int .i64 n] w fun e w'=>e=.returned (.int .i64 (dr (fH o n)))∧Below w.heap.size w w':=by
 rw[←Sr o ho n];exact MH o ho hrs n w
def po (i:Nat):BitVec 32:=b8 4 (BitVec.ofNat 32 i)
def gP (k:Nat):Array Value:=(Array.range 16).map fun i=>gM (if i<k then po i else 0#32)
theorem kV (k:Nat):(gP k).size=16:=by simp[gP]
theorem tH (k i:Nat) (h:i<16):(gP k)[i]? = some (gM (if i<k then po i else 0#32)):=by
 simp[gP,h]
theorem Gh:gP 0=#[.int .u32 0,.int .u32 0,.int .u32 0,.int .u32 0,.int .u32 0,.int .u32 0,.int .u32 0,.int .u32 0,.int .u32 0,.int .u32 0,.int .u32 0,.int .u32 0,.int .u32 0,.int .u32 0,.int .u32 0,.int .u32 0]:=by
 apply tL;intro i;by_cases hi:i<16
 ·rw[tH _ _ hi,aG (by omega)];have:i=0∨i=1∨i=2∨i=3∨i=4∨i=5∨i=6∨i=7∨i=8∨i=9∨i=10∨i=11∨i=12∨i=13∨i=14∨i=15:=by omega
  rcases this with rfl | rfl | rfl | rfl | rfl | rfl | rfl | rfl | rfl | rfl | rfl | rfl | rfl | rfl | rfl | rfl<;>rfl
 ·rw[lK (by rw[kV];omega),lK (by simp;omega)]
theorem Vu (k:Nat) (h:k<16):(gP k).setIfInBounds k (gM (po k))=gP (k+1):=by
 apply tL;intro i;rw[Ir];by_cases hi:i<16
 ·rw[tH _ _ hi,tH _ _ hi];by_cases hik:k=i
  ·subst hik;simp[kV,hi]
  ·rw[aG hik];by_cases h1:i<k
   ·rw[aB h1,aB (by omega)]
   ·rw[aG h1,aG (by omega)]
 ·rw[lK (by rw[kV];omega),lK (by rw[kV];omega),aG (by omega)]
theorem JV (k:Nat):(gP k).all (·.oneCell')=true:=by
 rw[Array.all_eq_true];intro i hi;have h:=tH k i (by rw[kV]at hi;exact hi);rw[uZ hi]at h;rw[gH h];rfl
theorem OM:(Tryz.prog.info? 242).map (·.size)=some 16:=by kernel_rfl
theorem xO (k:Nat):(Tryz.prog.info? 242).map (·.size)=some (gP k).size:=OM.trans (dz some (kV k).symm)
theorem St (w:World):Calls Tryz.prog 138 #[] w fun e w'=>e=.returned (.agg (gP 16))∧Below w.heap.size w w':=by
 go_enter Tryz.func138,Tryz.ntmps138
 go_wp2_with fail;rw[←Gh];go_loopw [4] (fun i wr=>∃k:Nat,k≤16∧i=.int .i64 k∧ah wr w.heap.size 242 (gP 0)∧ah wr (w.heap.size+1) 242 (gP k)∧Below w.heap.size w wr) (fun i _=>16-(intOf i).toNat)
 case atStart=>exact⟨0,by omega,rfl,(ah.new w _ _).alloc _,ah.new2 w _ _ _,((ax _ _).alloc (ai _) _).alloc (by simp) _⟩
 case round =>
  obtain⟨k,hk,rfl,hA,hT,hB⟩:=hrel;by_cases hlt:k<16
  ·go_wp2_with fail;go_loop [3,9] (fun n j=>∃q:Nat,q≤4∧j=.int .i64 q∧n=gM (b8 q (BitVec.ofNat 32 k))) (fun _ j=>4-(intOf j).toNat)
   case atStart =>
    refine⟨0,by omega,rfl,?_⟩;have e:(BitVec.ofNat 32 k).toNat=k:=by rw[sf];exact sg (by omega)
    simp[b8,gM];omega
   case round =>
    obtain⟨q,hq,rfl,rfl⟩:=hrel;by_cases hq4:q<4
    ·generalize hX:b8 q (BitVec.ofNat 32 k)=X;go_wp2_with fail;exact⟨⟨q+1,by omega,by go_num,by rw[Vn,Ac,hX]⟩,by simp[intOf];omega⟩
    ·obtain rfl:q=4:=by omega
     have hc:=hT.ag k (tH k k hlt);have hf:=hT.frozen k;have hS:=ae (hT.br k (gM (po k)));rw[Vu k hlt]at hS;have hA2:=ae (hA.far (p:=⟨w.heap.size+1,k,none⟩) (by simp) (gM (po k)));have hB2:=ae (hB.setCell (p:=⟨w.heap.size+1,k,none⟩) (by simp) (gM (po k)));clear hT hA hB;go_wp2_with fail;exact⟨⟨k+1,by omega,by go_num,hA2.out,hS.out,hB2.out⟩,by simp[intOf];omega⟩
  ·obtain rfl:k=16:=by omega
   go_wp2_with (first
    | (refine bt rfl 242 _ rfl (w.heap.size+1) rfl 242 (gP 16) (0,0) _ hT RS rfl (xO 16) ?_)
    | (refine aQ rfl 242 _ _ rfl w.heap.size (gP 16) rfl rfl 242 (gP 0) hA (xO 16) (by rw[kV,kV]) (JV 16) ?_))
   exact bc (v:=.agg (gP 16)) (mo Tryz.results138 _ _ w.heap.size 242 (gP 16) (0,0) _ rfl (hA.row _) RS rfl (xO 16)) rfl ⟨rfl,aA hB _ (by omega)⟩
end Go.Proofs.YtdpniceapmikpaaGreat
namespace Go.Proofs.YtdpniceapmikpaaGreat
open Go.RowKit Go.Shelf
attribute [local go_sem] kM
abbrev vh (x:Fin 16):Value:=.int .u32 (x.val:Int)
def FI (c:UInt8):Fin 16:=⟨c.toNat % 16,by omega⟩
def Eb (c:UInt8):Fin 16:=⟨c.toNat/16,by have:=zP c;omega⟩
def re (c:UInt8):List (Fin 16):=[FI c,Eb c]
def gr (l:List UInt8):List (Fin 16):=l.flatMap re
theorem JW (l:List UInt8) (k:Nat) (c:UInt8) (h:l[k]? = some c):gr (l.take (k+1))=gr (l.take k)++[FI c]++[Eb c]:=by
 rw[gG,h];simp[gr,re]
theorem Cc (l:List UInt8):(gr l).length=2*l.length:=by
 induction l with
 | nil=>rfl
 | cons c l ih=>simp[gr,re]at ih ⊢;omega
theorem ON (F:Fence) (n:Nat) (h7:F.fn 152) (hro:F.round=none) (hn:1≤n) (l Bs n₀:Nat) (v:Value) (bs:List UInt8) (J Jx:List (Fin 16)→World→Prop)
 (hY:∀pre x W,J pre W→pre.length<2*bs.length→YieldAt F (n-1) Tryz.prog l #[vh x] W fun e W' =>
  (e=.returned (.bool true)∧J (pre++[x]) W'∧Below n₀ W W')∨(e=.returned (.bool false)∧Jx (pre++[x]) W'))
 (W:World) (iy:W.cell? ⟨Bs,0,none⟩=some v) (hv:BytesIn W n₀ v bs) (h0:J [] W) :
 CallsIn F n Tryz.prog 152 #[.func (.yield l) #[] #[],.pointer (some ⟨Bs,0,none⟩)] W fun e W'=>(∃v,e=.returned v) ∧
  ((∃ys,ys=gr bs∧J ys W')∨(∃pre,True∧Jx pre W')):=by
 obtain⟨hmax,a,cap,rfl,hcap,hc⟩:=hv;unfold maxLen at hmax;refine oP Tryz.func152 rfl h7 ?_ hro;simp only[Tryz.ntmps152,List.size_toArray,List.length_cons,List.length_nil,Nat.reduceAdd,Nat.reduceSub,Array.replicate_succ,Array.replicate_zero,List.push_toArray,List.append_toArray,List.nil_append,List.cons_append];gi_wp2
 gi_loopw [7] (fun i wr=>∃k:Nat,k≤bs.length∧i=.int .i64 k∧J (gr (bs.take k)) wr∧Below n₀ W wr)
  (fun i _=>bs.length-(intOf i).toNat)
 case atStart=>exact⟨0,fi _,rfl,h0,ax _ _⟩
 case round =>
  obtain⟨k,hk,rfl,hJs,hnx⟩:=hrel;by_cases hlt:k<bs.length
  ·have hbk:bs[k]? = some (bs[k]'hlt):=aY hlt;obtain⟨g,off,rfl,hg,hcell⟩:=hc k _ hbk;have hlen1:(gr (bs.take k)).length<2*bs.length:=by rw[Cc,bD];omega
   obtain⟨fn,tmps,assign,body,hy,hR⟩:=hY _ (FI (bs[k]'hlt)) wr hJs hlen1;have hcx:wr.cell? ⟨g,off+k,none⟩=some (aj (bs[k]'hlt)):=(hnx.cell (p:=⟨g,off+k,none⟩) hg).trans hcell;have hHL:=JW bs k _ hbk;generalize bs[k]'hlt=c at *;have hc256:=mu c;have e1:((FI c).val:Int)=(c.toNat:Int) % 16:=by simp[FI]
   have e2:((Eb c).val:Int)=(c.toNat:Int)/16:=by simp[Eb]
   simp only[vh,e1]at hy;gi_wp2
   refine hR.mono ?_;rintro e W3 (⟨rfl,hJ3,hk3⟩ | ⟨rfl,hJx3⟩)
   ·have aef:(gr (bs.take k)++[FI c]).length<2*bs.length:=by
     rw[bX,Cc,bD];simp;omega
    obtain⟨fn',amf,assign',body',hy',hR'⟩:=hY _ (Eb c) W3 hJ3 aef;simp only[vh,e2]at hy';clear hY hy hR;gi_wp2
    refine hR'.mono ?_;rintro e W4 (⟨rfl,hJ4,hk4⟩ | ⟨rfl,ahF⟩)
    ·gi_wp2
     go_roundw
     case rel=>exact⟨k+1,by omega,by simp,by rw[hHL];exact hJ4,hnx.trans (hk3.trans hk4)⟩
     case measure=>simp[intOf];omega
    ·gi_wp2
     refine bc (oS rfl _ _ _) rfl ?_;exact⟨⟨_,rfl⟩,.inr ⟨_,trivial,ahF⟩⟩
   ·gi_wp2
    refine⟨fun _ h=>(by cases h),?_⟩;gi_wp2
    refine bc (oS rfl _ _ _) rfl ?_;exact⟨⟨_,rfl⟩,.inr ⟨_,trivial,hJx3⟩⟩
  ·obtain rfl:k=bs.length:=by omega
   rw[iG]at hJs;gi_wp2
   go_end0
   exact⟨⟨_,rfl⟩,.inl ⟨_,rfl,hJs⟩⟩
theorem Su (F:Fence) (n:Nat) (h5:F.fn 139) (hro:F.round=none) (a:Option Addr) (len cap:Nat) (w:World) :
 CallsIn F n Tryz.prog 139 #[.slice a len cap] w fun e w'=>e=.returned (.func (.func 152) #[] #[.pointer (some ⟨w.heap.size,0,none⟩)])∧w'=w.alloc (.cells #[.slice a len cap] 26):=by
 refine oP Tryz.func139 rfl h5 ?_ hro;simp only[Tryz.ntmps139,List.size_toArray,List.length_cons,List.length_nil,Nat.reduceAdd,Nat.reduceSub,Array.replicate_succ,Array.replicate_zero,List.push_toArray,List.append_toArray,List.nil_append,List.cons_append];gi_wp2
 go_ret
 exact⟨rfl,rfl⟩
theorem JX (F:Fence) (n:Nat) (h7:F.fn 152) (hro:F.round=none) (hn:1≤n) (Bs n₀:Nat) (v:Value) (bs:List UInt8) (w:World) (iy:Bs<w.heap.size) (hn₀:n₀≤w.heap.size)
 (hc:w.cell? ⟨Bs,0,none⟩=some v) (hv:BytesIn w n₀ v bs) :
 SeqStopsK F n Tryz.prog 152 #[.pointer (some ⟨Bs,0,none⟩)] (fun x:Fin 16=>#[vh x]) (Below n₀) (fun ys=>ys=gr bs) (fun _=>True) (2*bs.length) w:=fun l J Jx W hW _ _ hY h0 =>
 ON F n h7 hro hn l Bs n₀ v bs J Jx hY W ((hW.cell (p:=⟨Bs,0,none⟩) iy).trans hc) (hv.below hW hn₀) h0
end Go.Proofs.YtdpniceapmikpaaGreat
namespace Go.Proofs.YtdpniceapmikpaaGreat
open Go.RowKit
variable {P:Program} {ops:Array Oper} {Q:Exit→Act→World→Prop} {l n:Nat}
def ot (o:Oper):Bool:=match o.op with | .defer _=>false | _=>true
theorem OO {o:Oper} (h:ot o=true):∀c,o.op≠.defer c:=by
 intro c e;unfold ot at h;rw[e]at h;cases h
theorem OP {o:Oper} {a:Act} {next:Act→World→Prop} {r:Result Next} (h:o.upon P a next Q r):o.uponIn (Fence.wide.inRound l) n P a next Q r:=by
 cases r with
 | ok x w' =>
  cases x<;>simp only[Oper.upon,Oper.uponIn]at h ⊢ <;> first
   | exact h
   | exact⟨fun e=>(by cases e),CallsIn.inRound l (mr.2 h)⟩
   | (refine⟨fun e=>(by cases e),fun c cs _=>?_⟩
      obtain⟨v,w2,h1,h2⟩:=h c cs;exact⟨v,w2,h1,stepsIn_wide.2 h2⟩)
 | halt x w'=>cases x<;>simp only[Oper.upon,Oper.uponIn]at h ⊢ <;> exact h
theorem xP {o:Oper} {a:Act} {w:World} {K:Act→World→Prop} (hd:ot o=true) (h:o.wp P a w K Q):o.wpIn (Fence.wide.inRound l) n P a w K Q:=by
 refine⟨fun _ _=>trivial,?_⟩;rw[Oper.semAt_eq _ _ _ (OO hd)];exact OP h
theorem Sv {md:Region.Mode} (hd:ops.all ot=true) (hQ:¬LetsOut Q):∀ (fuel:Nat) (listed:Array Bool) (a:Act) (w:World),wpAny P md ops Q fuel listed a w→wpAnyIn (Fence.wide.inRound l) n P md ops Q fuel listed a w:=by
 intro fuel;induction fuel with
 | zero=>intro listed a w h;exact h
 | succ fuel ih =>
  intro listed a w h;refine⟨h.1,fun i hi=>?_⟩;have h2:=h.2 i hi;unfold wpOp at h2;unfold wpOpIn;cases ho:ops[i]? with
  | none=>rw[ho]at h2;exact ih _ _ _ h2
  | some o =>
   rw[ho]at h2;simp only at h2 ⊢;have hdo:ot o=true:=by
    obtain⟨hl,e⟩:=ee.1 ho;have:=Array.all_eq_true.1 hd i hl;rw[e]at this;exact this
   split
   ·rename_i hw
    rw[aB hw]at h2;rcases h2 with h2 | h2
    ·exact Oper.wpIn_mono (fun a w=>ih _ a w) (xP hdo h2)
    ·exact absurd h2.2 hQ
   ·rename_i hw
    rw[aG hw]at h2;exact⟨fun _ _=>trivial,ih _ _ _ h2⟩
theorem Ak {id:Nat} {a:Act} {w:World} (hm:P.follows .mixedOrders=true) (hd:ops.all ot=true) (hQ:¬LetsOut Q)
 (h:wpAny P .any ops Q ops.size (Array.replicate ops.size false) a w.drew):(Code.region id ops true).wpIn (Fence.wide.inRound l) n P Q a w :=
 wpIn_region_any hm (Sv hd hQ _ _ _ _ h)
theorem iv {S:World→Prop} {id:Nat} {a:Act} {w:World} (hm:P.follows .mixedOrders=true) (hd:ops.all ot=true) (hQ:¬LetsOut Q) (hS:S w.drew)
 (h:S w.drew→wpAnyH P .any ops Q S ops.size (Array.replicate ops.size false) a w.drew):(Code.region id ops true).wpIn (Fence.wide.inRound l) n P Q a w :=
 Ak hm hd hQ (wpAny_of_held _ _ _ _ (h hS))
end Go.Proofs.YtdpniceapmikpaaGreat
