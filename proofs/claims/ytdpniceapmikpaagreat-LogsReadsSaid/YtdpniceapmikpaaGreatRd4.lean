/-
  Waits: as many as
-/
import Derived.Test.YtdpniceapmikpaaGreatRd3
import Derived.Test.YtdpniceapmikpaaGreatRd2
import Derived.Test.YtdpniceapmikpaaGreatRd1
import Derived.Deep.RegionHeld3
import Derived.Laws.CopyRow
import Derived.Lib.SlBuf
set_option linter.unusedVariables false
set_option linter.unusedSimpArgs false
set_option maxRecDepth 100000
set_option maxHeartbeats 32000000
namespace Go.Proofs.YtdpniceapmikpaaGreat
open Go.RowKit Go.Shelf
attribute [local go_sem] kM
theorem vQ {W W':World} {row:Option Nat} {B k:Nat} {e:TypeId} {v:Value} {n:Nat} {xs:List Value} (h:W.ownsRow B e k v n xs) (hg:W.grownBy W' row) (hr:∀r,row=some r→∃o:Obj,W.heap[r]? = some o∧o.isCells=false):W'.ownsRow B e k v n xs:=by
 obtain⟨hl,⟨rfl,h0⟩ | ⟨g,cap,cur,rfl,hB,hgg,hrest⟩⟩:=h
 ·exact⟨hl,.inl ⟨rfl,h0⟩⟩
 ·refine⟨hl,.inr ⟨g,cap,cur,rfl,hB,(hg.block g (kQ hgg) (fun e=>?_)).trans hgg,hrest⟩⟩;obtain⟨o,ho,hc⟩:=hr g e.symm;rw[hgg]at ho;cases ho
  cases hc
theorem B6 {W W':World} {row:Option Nat} (h:W.grownBy W' row) (hr:∀r,row=some r→∃o:Obj,W.heap[r]? = some o∧o.isCells=true):KeepsOthers W W' :=
 ⟨h.size,fun k o hk hc=>(h.block k (ee.1 hk).1 (fun e=>by obtain⟨o',ho,hc'⟩:=hr k e.symm;rw[hk]at ho;cases ho;rw[hc]at hc';cases hc')).trans hk⟩
theorem s3 {w:World} {B k:Nat} {e:TypeId} {v:Value} {n:Nat} {xs:List Value} (h:w.ownsRow B e k v n xs) (r:Nat) (hr:v.ownBlock=some r):∃o:Obj,w.heap[r]? = some o∧o.isCells=true:=by
 rcases h.2 with ⟨rfl,_⟩ | ⟨g,cap,cur,rfl,_,h3,_⟩
 ·cases hr
 ·obtain rfl:g=r:=by simpa[Value.ownBlock]using hr
  exact⟨_,h3,rfl⟩
theorem Kk:(Tryz.prog.info? 3).map (fun i=>(i.zero,i.size,i.bytes))=some (some (.int .i64 0),1,8):=by kernel_rfl
theorem VO (n:Nat) (hn:3≤n) (D:aX) (x:ak) (w:World) (h:aE w D x) (hx:x.ok) :
 CallsIn Fence.wide n Tryz.prog 38 #[ptr D.p] w fun e w'=>(∃a cap,e=.returned (.slice a x.waits.length cap))∧Below w.heap.size w w':=by
 have h1:1≤n:=by omega
 have hro:Fence.wide.round=none:=rfl;have hlt:=h.has_lt;obtain⟨ws,Gu⟩:=CW x.waits hx.2.2.2.1;have hb0:Below w.heap.size w ((w.alloc (.cells #[.slice none 0 0] 24)).alloc (.cells #[ptr D.p] 37)):=((ax _ w).alloc (ai _) _).alloc (by simp) _;have hS:=all_stops (n-1) (by omega) (w.heap.size+1) (fun i=>i<w.heap.size) D x ws Gu ((w.alloc (.cells #[.slice none 0 0] 24)).alloc (.cells #[ptr D.p] 37)) (by simp) ((ah.new2 w _ _ _).ag 0 rfl) (h.below hb0) hx (fun g hg=>hlt g (.inr (.inr (.inl hg))));have HS:=ae hS;have el:x.waits.length=ws.length:=by rw[Gu,cR]
 have hmax:ws.length≤1000000:=by rw[←el];exact hx.2.2.2.2.2.2
 rw[el];clear hS h hx Gu el hlt;unfold ptr at *;refine zx Tryz.func38 rfl trivial ?_ hro;simp only[Tryz.ntmps38,List.size_toArray,List.length_cons,List.length_nil,Nat.reduceAdd,Nat.reduceSub,Array.replicate_succ,Array.replicate_zero,List.push_toArray,List.append_toArray,List.nil_append,List.cons_append];refine fV.2 ?_;go_wp2_with fail;refine(mr.1 (all_in 5 D.p _)).mono ?_;rintro e w2 ⟨rfl,rfl⟩;go_wp2_with fail;refine(fV (n:=n)).1 ?_;refine wpIn_rangeFunc_ownH hro h1 (gf:=128) (lb:=#[.pointer (some ⟨w.heap.size+1,0,none⟩)]) rfl trivial (enters_of Tryz.func128 (by kernel_rfl) rfl)
  HS.out VL (VM (fun i hi=>by simp;omega)) (ax _ _) (fun _=>rfl)
  (fun pre W=>(∃v,ah W w.heap.size 24 #[v]∧W.ownsRow (w.heap.size+2) 3 1 v pre.length (pre.map fun y=>.int .i64 y.1.n))∧Below w.heap.size ((w.alloc (.cells #[.slice none 0 0] 24)).alloc (.cells #[.pointer (some ⟨D.p,0,none⟩)] 37)) W)
  (fun c pre W=>False)
  (OwnFrom.and (fun s A B row hs hg hr=>by obtain⟨v,hb,ho⟩:=hs;exact⟨v,hb.own hg (fun r e=>(hr r e).2),vQ ho hg (fun r e=>(hr r e).2)⟩) (ownFrom_below (by simp;omega) (by simp;omega)))
  (fun _ _ _ _ _ hs _ _=>hs)
  ⟨⟨_,(ah.new w _ _).alloc _,km _ _ _ _⟩,ax _ _⟩
  (fun y a' W=>∃g,a' = {tmps:=#[.pointer (some ⟨D.p,0,none⟩),undef,.slice none 0 0,.pointer (some ⟨w.heap.size,0,none⟩),.pointer (some ⟨g,0,none⟩),.pointer (some ⟨D.p,0,none⟩),.func (.func 128) #[] #[.pointer (some ⟨w.heap.size+1,0,none⟩)],.agg y.1.cells.toArray,undef,undef,undef,undef,undef,undef],defers:=[]}∧w.heap.size+2≤g∧ah W g 161 y.1.cells.toArray)
  (fun y a'=>(fun s A B row hs hg hr=>by obtain⟨g,e,hgg,hb⟩:=hs;exact⟨g,e,hgg,hb.own hg (fun r e=>(hr r e).2)⟩)) ?assign ?body ?done ?stop
 case assign =>
  intro l pre y W K hI hK;have Kj:(#[7].zip (vw y)).foldl (fun t (p:Nat×Value)=>t.setIfInBounds p.1 p.2) #[.pointer (some ⟨D.p,0,none⟩),undef,.slice none 0 0,.pointer (some ⟨w.heap.size,0,none⟩),undef,.pointer (some ⟨D.p,0,none⟩),.func (.func 128) #[] #[.pointer (some ⟨w.heap.size+1,0,none⟩)],undef,undef,undef,undef,undef,undef,undef]=#[.pointer (some ⟨D.p,0,none⟩),undef,.slice none 0 0,.pointer (some ⟨w.heap.size,0,none⟩),undef,.pointer (some ⟨D.p,0,none⟩),.func (.func 128) #[] #[.pointer (some ⟨w.heap.size+1,0,none⟩)],.agg y.1.cells.toArray,undef,undef,undef,undef,undef,undef]:=by kernel_rfl
  dsimp only;rw[Kj];clear Kj;gi_wp2_with (refine k7 rfl rfl 161 _ _ rfl W.heap.size y.1.cells.toArray rfl rfl 161 Tryz.zeroCells161 (bC W _) (Gy y) (by rw[FU,b',aI.len _ y.2]) (CX y.1) ?_;rw[di])
  have hsz:=hI.2.size;rw[iF,iF]at hsz;obtain⟨v,hv,ho⟩:=hI.1;exact hK _ _ ((KeepsOthers.alloc W _).from _) (fy.alloc _ _ _) ⟨⟨v,hv.alloc _,vQ ho (IC _ _ none) (fun r e=>by cases e)⟩,hI.2.alloc (by omega) _⟩ ⟨_,rfl,by omega,ah.new W _ _⟩
 case body =>
  rintro l pre y a' W hl hr ⟨⟨v,hv,ho⟩,hB⟩ ⟨g,rfl,hg,hG⟩ hlen;obtain⟨i0,hi0,hz0,hz1,hz2⟩:=iH Kk;have cG:W.cell? ⟨g,0,none⟩=some (.int .i64 y.1.n):=hG.ag 0 rfl;have cV:=hv.ag 0 rfl;have hsz:=hB.size;rw[iF,iF]at hsz;have hO:=ae (vQ ho (IC W (.cells #[.int .i64 y.1.n] 3) none) (fun r e=>by cases e));have hV:=ae hv;have hHB:=ae hB;have hHG:=ae hG;have hne:∀i,v.ownBlock=some i→i≠w.heap.size:=aR ho hv (by decide);have hlt2:=hv.lt;clear ho hv hB hG;obtain⟨q,hq⟩:∃q,y.1.n=q:=⟨_,rfl⟩;rw[hq]at cG hO;have HQ:=ae hq;clear hq;gi_wp2_with (refine wpListIn_append_own _ rfl _ _ _ rfl (w.heap.size+2) 3 i0 _ 1 8 p_ hi0 hz0 hz1 hz2 rfl (by omega) v pre.length _ rfl hO.out ⟨W.heap.size,0,none⟩ 1 1 [.int .i64 q] rfl rfl (ia (cs:=#[.int .i64 q]) (t:=3) (fr:=(0,0)) (bC W _)) (by simp[Value.oneCell']) (by unfold maxLen;omega) (by omega) (by simp;omega) ?_;intro v2 w2 hO2 hg2 hn2;obtain⟨g3,pB,rfl,hg3,hlt3⟩:=hO2.form (by omega);have hV2:ah w2 w.heap.size 24 #[v]:=(hg2.block _ (by simp;omega) (fun e=>hne _ e.symm rfl)).trans (hV.out.alloc _);have cV2:=hV2.ag 0 rfl;have fV2:=hV2.frozen 0)
  have hE:∀i,(Value.slice (some ⟨g3,0,none⟩) (pre.length+1) pB).ownBlock=some i→i≠w.heap.size:=aR hO2 hV2 (by decide);refine⟨((KeepsOthers.alloc W (.cells #[.int .i64 q] 3)).trans ((B6 hg2 (s3 hO.out)).trans (KeepsOthers.setCell w2 _ _))).from _,?_,⟨_,hV2.br 0 _,?_⟩,?_⟩
  ·refine(fy.alloc _ W (.cells #[.int .i64 q] 3)).trans (fy.trans (B:=w2) ⟨hg2.size,fun i hi hl=>hg2.block i hl (fun e=>?_)⟩ ⟨by simp,fun i hi hl=>gE w2 _ _ _ (xc hi)⟩);have:=(hO.out.lt i e.symm).1;omega
  ·have e1:(pre++[y]).length=pre.length+1:=by simp
   have e2:(pre++[y]).map (fun y:cg=>Value.int .i64 y.1.n)=pre.map (fun y:cg=>Value.int .i64 y.1.n)++[.int .i64 q]:=by rw[cK,←HQ.out];rfl
   rw[e1,e2];exact aq (F:=fun i=>i=w.heap.size) (bk rfl) hO2 (fun i hi=>hE i hi)
  ·exact((hHB.out.alloc (by omega) _).grown hg2 (by simp;omega) (fun r hr=>by have:=(hO.out.lt r hr).1;omega)).setCell (p:=⟨w.heap.size,0,none⟩) (ai _) _
 case done =>
  rintro Dd ys W hD rfl ⟨⟨v,hv,ho⟩,hB⟩ hK;have cV:=hv.ag 0 rfl;have hv2:∃a cap,v=.slice a ys.length cap:=by
   rcases ho.2 with ⟨rfl,h0⟩ | ⟨g,cap,cur,rfl,_⟩
   ·exact⟨none,0,by rw[h0]⟩
   ·exact⟨_,_,rfl⟩
  obtain⟨a,cap,rfl⟩:=hv2;go_wp2_with fail;refine⟨by simp,.inl ⟨_,_,rfl,m' hK,?_⟩⟩;exact⟨_,xd rfl _ _ _,⟨_,_,rfl⟩,(hb0.trans hB).trans (belowK_b (w:=w) (ai _) W Dd _ _ (by simp at hD;omega) hK rfl rfl)⟩
 case stop =>
  rintro Dd c pre W _ _ h _;exact h.elim
theorem Gz (D:aX) (x:ak) (w:World) (h:aE w D x) (hx:x.ok):Calls Tryz.prog 38 #[ptr D.p] w fun e w'=>(∃a cap,e=.returned (.slice a x.waits.length cap))∧Below w.heap.size w w' :=
 mr.1 (VO 5 (by omega) D x w h hx)
end Go.Proofs.YtdpniceapmikpaaGreat
namespace Go.Proofs.YtdpniceapmikpaaGreat
open Go.RowKit
def jY:List (Int×Value)→Int→Value→List (Int×Value)
 | [],_,_=>[]
 | x::l,n,v=>if n == x.1 then (x.1,v)::l else x::jY l n v
theorem Pa (l:List (Int×Value)) (n:Int) (v:Value):(jY l n v).length=l.length:=by
 induction l with
 | nil=>rfl
 | cons x l ih=>unfold jY;split<;>simp[ih]
theorem yQ (n:Int) (v:Value):∀ (l:List (Int×Value)) (i:Nat) (x:(Int×Value)×Nat),(l.zipIdx i).find? (fun x=>n == x.1.1)=some x→i≤x.2∧l[x.2-i]? = some x.1∧x.1.1=n∧jY l n v=l.modify (x.2-i) (fun y=>(y.1,v))
 | [],_,_,h=>by cases h
 | y::l,i,x,h=>by
  simp only[List.zipIdx_cons,List.find?_cons]at h;cases hh:(n == y.1)
  ·rw[hh]at h;obtain⟨h1,h2,h3,h4⟩:=yQ n v l (i+1) x h;have e:x.2-i=(x.2-(i+1))+1:=by omega
   refine⟨by omega,by rw[e];exact h2,h3,?_⟩;unfold jY;rw[hh,e,h4];simp
  ·rw[hh]at h;cases h
   refine⟨ai _,by simp,by simpa using (tU.1 hh).symm,?_⟩;unfold jY;rw[hh];simp
theorem MO (l:List (Int×Value)) (n:Int) (v:Value) (m:Int):bW (jY l n v) m=if m=n∧(bW l n).isSome=true then some v else bW l m:=by
 induction l with
 | nil=>simp[jY,bW]
 | cons x l ih =>
  unfold jY;cases hh:(n == x.1)
  ·have hn:n≠x.1:=by simpa using hh
   simp only[Bool.false_eq_true,if_false];unfold bW at ih ⊢;simp only[List.find?_cons,hh];cases hm:(m == x.1)
   ·exact ih
   ·have:m≠n:=by rw[tU.1 hm];exact fj hn
    simp[this]
  ·obtain rfl:n=x.1:=by simpa using hh
   simp only[if_true];unfold bW;simp only[List.find?_cons,beq_self_eq_true];by_cases hm:m=x.1
   ·subst hm;simp
   ·have:(m == x.1)=false:=by simpa using hm
    simp[this,hm]
theorem SP (l:List (Int×Value)) (n:Int) (v:Value) (hn:bW l n=none) (m:Int):bW (l++[(n,v)]) m=if m=n then some v else bW l m:=by
 induction l with
 | nil =>
  by_cases h:m=n
  ·subst h;simp[bW]
  ·have:(m == n)=false:=by simpa using h
   simp[bW,this,h]
 | cons x l ih =>
  unfold bW at hn ih ⊢;simp only[List.find?_cons,List.cons_append]at hn ⊢;cases h1:(n == x.1)
  ·rw[h1]at hn;cases h2:(m == x.1)
   ·exact ih hn
   ·have:m≠n:=by rw[tU.1 h2];intro e;rw[e]at h1;simp at h1
    simp[this]
  ·rw[h1]at hn;cases hn
theorem ug (kd:IntKind) (l:List (Int×Value)) (k:Nat):(entriesOf kd l)[k]? = l[k]?.map fun x=>⟨.int kd x.1,x.2,k⟩:=by
 unfold entriesOf;rw[jd,dV,Iy];cases l[k]? <;> simp
section
variable {P:Program} {t k e:TypeId} {kd:IntKind}
theorem MP {P:Program} (w:World) (kd:IntKind) (n:Int):(Instr.keyThatStays (.int kd n) (.int kd n)).run P w=.ok (.int kd n) w:=by
 unfold Instr.keyThatStays;simp[Instr.sameBits]
theorem xr (w:World) (ht:P.underlying t=some (.map k e)) (hk:P.underlying k=some (.int kd)) (r:Nat) (l:List (Int×Value)) (hm:MapAt w r kd l) (n:Int) (hn:(bW l n).isSome=true) (v:Value) :
 ∃w',(Instr.mapUpdate t (.map (some r)) (.int kd n) v).run P w=.ok () w'∧MapAt w' r kd (jY l n v)∧Turn r w w':=by
 have hf:=oW n l 0;obtain⟨u,hu⟩:=Option.isSome_iff_exists.1 hn;rw[hu]at hf;obtain⟨x,hx,hv⟩:=iE.1 hf;obtain⟨_,h2,h3,h4⟩:=yQ n v l 0 x hx;rw[Nat.sub_zero]at h2 h4;have hkey:(((entriesOf kd l)[x.2]?).map (·.key)).getD (.int kd n)=.int kd n:=by rw[ug,h2];simp[h3]
 refine⟨{w with heap:=w.heap.setIfInBounds r (.map ((entriesOf kd l).modify x.2 fun e => {e with key:=.int kd n,val:=v}) l.length)},?_,?_,?_⟩
 ·unfold Instr.mapUpdate;simp only[Sem.run_bind,run_underlying ht,Result.andThen,MapKept.run_getObj_map hm,jV w false 9999 hk,run_findKey w hk,hx,Option.map_some,hkey,MP];exact Rv _ hm
 ·unfold MapAt;have e1:entriesOf kd (jY l n v)=(entriesOf kd l).modify x.2 fun e => {e with key:=.int kd n,val:=v}:=by
   apply tL;intro j;rw[ug,Array.getElem?_modify,ug,h4,List.getElem?_modify];by_cases hj:x.2=j
   ·subst hj;simp[h2,h3]
   ·simp[hj]
  rw[e1,Pa];simp[hm.lt]
 ·exact⟨rfl,rfl,rfl,by simp,fun i hi=>by simp[Array.getElem?_setIfInBounds_ne (fun e=>hi e.symm)]⟩
theorem MQ (l:List (Int×Value)) (n:Int) (v:Value):(jY l n v).map (·.1)=l.map (·.1):=by
 induction l with
 | nil=>rfl
 | cons x l ih=>unfold jY;split<;>simp[ih]
theorem SQ {l:List (Int×Value)} {n:Int} (h:bW l n=none):n∉l.map (·.1):=by
 intro hm;obtain⟨x,hx,rfl⟩:=dI.1 hm;unfold bW at h;rw[Rt,Ds]at h;exact h x hx (by simp)
theorem Ch (w:World) (ht:P.underlying t=some (.map k e)) (hk:P.underlying k=some (.int kd)) (r:Nat) (l:List (Int×Value)) (hm:MapAt w r kd l) (hnd:(l.map (·.1)).Nodup) (n:Int) (v:Value) :
 ∃w' l',(Instr.mapUpdate t (.map (some r)) (.int kd n) v).run P w=.ok () w'∧MapAt w' r kd l'∧(l'.map (·.1)).Nodup∧(∀m,bW l' m=if m=n then some v else bW l m)∧Turn r w w':=by
 cases h:bW l n with
 | none =>
  obtain⟨w',h1,h2,h3⟩:=ri (P:=P) w ht hk r l hm n h v;refine⟨w',_,h1,h2,?_,SP l n v h,h3⟩;rw[cK,List.nodup_append];refine⟨hnd,by simp,fun a ha b hb=>?_⟩;simp only[List.map_cons,List.map_nil,List.mem_singleton]at hb;rintro rfl;exact SQ h (by rw[←hb];exact ha)
 | some u =>
  obtain⟨w',h1,h2,h3⟩:=xr (P:=P) w ht hk r l hm n (by rw[h];rfl) v;exact⟨w',_,h1,h2,by rw[MQ];exact hnd,fun m=>by rw[MO,h];simp,h3⟩
end
theorem ofInt_u8 (n:Nat):BitVec.ofInt 8 (n:Int)=BitVec.ofNat 8 n:=by rw[zw]
theorem El (x y:UInt8):bits .xor .u8 (x.toNat:Int) (y.toNat:Int)=((x ^^^ y).toNat:Int):=by
 show IntKind.u8.wrap ((BitVec.ofInt 8 (x.toNat:Int) ^^^ BitVec.ofInt 8 (y.toNat:Int)).toNat:Int)=_;rw[ofInt_u8,ofInt_u8,IntKind.wrap_u8',UInt8.toNat_xor,BitVec.toNat_xor,sf,sf,sg (zP x),sg (zP y)];have h:=zP (x ^^^ y);rw[UInt8.toNat_xor]at h;omega
def gJ (b:List UInt8) (o:Nat) (c:UInt8):List UInt8:=b.set o (b.getD o 0 ^^^ c)
theorem nH (b:List UInt8) (o:Nat) (c:UInt8):(gJ b o c).length=b.length:=by simp[gJ]
def fY (n:Int) (o:Nat) (c:UInt8) (y:aI):aI:=if y.n=n then ⟨y.n,gJ y.b o c⟩ else y
def ak.dX (x:ak) (n:Int) (o:Nat) (c:UInt8) (k:Nat):ak := {x with lasts:=fun m=>if m=n then gJ (x.lasts n) o c else x.lasts m,waits:=(x.waits.take k).map (fY n o c)++x.waits.drop k}
def ak.ov (x:ak) (n:Int) (o:Nat) (c:UInt8):ak := {x with lasts:=fun m=>if m=n then gJ (x.lasts n) o c else x.lasts m,waits:=x.waits.map (fY n o c)}
theorem NL (b:List UInt8) (o:Nat) (c:UInt8) (ho:o<b.length):b[o]? = some (b.getD o 0):=by
 rw[aY ho,wj,aY ho];rfl
theorem x6 (b:List UInt8) (o:Nat) (c:UInt8):((gJ b o c).map aj)=(b.map aj).set o (aj (b.getD o 0 ^^^ c)):=by simp[gJ,List.map_set]
theorem pC (A B:List aI):aL (A++B)=aL A++aL B:=by simp[aL]
theorem kH:∀ (A:List aI),(∀y∈A,y.b.length=512)→(aL A).length=A.length*513
 | [],_=>rfl
 | y::A,h=>by
  have:=kH A (fun z hz=>h z (ph _ hz));have h2:=aI.len y (h y pX);show(y.cells++aL A).length=(A.length+1)*513;rw[bX,this,h2];omega
theorem yR (A R:List aI) (hA:∀y∈A,y.b.length=512) (y y':aI) (j:Nat) (u:Value) (hj:j<y.cells.length) (e:y'.cells=y.cells.set j u):(aL (A++y::R)).set (A.length*513+j) u=aL (A++y'::R):=by
 rw[pC,pC,←kH A hA];rw[Dp _ _ (by omega),show(aL A).length+j-(aL A).length=j by omega];congr 1
 show(y.cells++aL R).set j u=y'.cells++aL R;rw[List.set_append_left _ _ hj,e]
theorem rW {w:World} {B k:Nat} {e:TypeId} {n g cap:Nat} {xs:List Value} (h:w.ownsRow B e k (.slice (some ⟨g,0,none⟩) n cap) n xs) (j:Nat) (u:Value) (hj:j<xs.length):(w.setCell ⟨g,j,none⟩ u).ownsRow B e k (.slice (some ⟨g,0,none⟩) n cap) n (xs.set j u):=by
 rcases h.2 with ⟨h0,_⟩ | ⟨g',cap',cur,h0,hB,hg,h1,h2,h3,h4⟩
 ·cases h0
 ·cases h0
  refine⟨by rw[List.length_set];exact h.1,.inr ⟨g,cap,cur.setIfInBounds j u,rfl,hB,?_,h1,h2,by simpa using h3,?_⟩⟩
  ·have:=ah.br (w:=w) (g:=g) (t:=e) (cs:=cur) hg j u;exact this
  ·rw[←h4];apply m_;intro i;rw[dU,zC,dU];have hlen:(List.take (n*k) cur.toList).length=xs.length:=by rw[h4]
   rw[hlen];have hc:cur.toList.length=cap*k:=by simpa using h3
   have hxs:=h.1;by_cases hi:i<n*k
   ·simp only[hi,if_true];rw[rQ,Ir];by_cases he:j=i
    ·subst he;have hjc:j<cur.size:=by
      have:(List.take (n*k) cur.toList).length≤cur.toList.length:=by rw[bD];exact Nat.min_le_right _ _
      rw[hlen]at this;simp at this;omega
     simp[hj,hjc]
    ·simp[he]
   ·have:j≠i:=by omega
    simp[hi,this]
theorem Hx {w:World} {D:aX} {x:ak} (h:aE w D x) {g cap:Nat} (ev:D.wv=.slice (some ⟨g,0,none⟩) x.waits.length cap) (j:Nat) (u:Value) (ws:List aI) (hl:ws.length=x.waits.length) (hj:j<(aL x.waits).length) (hs:(aL x.waits).set j u=aL ws) :
 aE (w.setCell ⟨g,j,none⟩ u) D {x with waits:=ws}∧DStep D D w (w.setCell ⟨g,j,none⟩ u):=by
 have ho:D.wv.ownBlock=some g:=by rw[ev];rfl
 obtain⟨n1,n2,n3⟩:=h.ne;refine⟨⟨h.blk.far (p:=⟨g,j,none⟩) (fun e=>n2 g ho e.symm) u,?_,?_,?_,h.apart⟩,⟨bk (.inr (.inr (.inl ho))),rfl,fun i hi=>.inl hi⟩⟩
 ·obtain⟨l,hm,hl⟩:=h.lasts;exact⟨l,(gE w _ _ _ (fun e=>mx h.waits hm g ho e.symm)).trans hm,hl⟩
 ·show World.ownsRow _ 0 _ 513 D.wv ws.length (aL ws);have hw:=h.waits;rw[ev]at hw ⊢;rw[hl,←hs];exact rW hw j u hj
 ·rcases h.fails with hn | ⟨r,k,e,h1,h2⟩
  ·exact .inl hn
  ·exact .inr ⟨r,k,e,(gE w _ _ _ (fun e=>mx h.waits h1 g ho e.symm)).trans h1,h2⟩
theorem yS {w:World} {D:aX} {x:ak} (h:aE w D x) (n:Int) (b:List UInt8) :
 ∃w',(Instr.mapUpdate 148 (.map (some D.lm)) (.int .i64 n) (aV b)).run Tryz.prog w=.ok () w'∧Turn D.lm w w'∧aE w' D {x with lasts:=fun m=>if m=n then b else x.lasts m}∧DStep D D w w':=by
 obtain⟨l,hm,hl⟩:=h.lasts;obtain⟨w',l',h1,h2,hnd,h3,h4⟩:=Ch (P:=Tryz.prog) w zz ew D.lm l hm hl.1 n (aV b);obtain⟨n1,n2,n3⟩:=h.ne;have ho:Out (fun i=>i=D.lm) w w':=⟨h4.os,h4.tape,h4.output,mK h4.size.symm,fun i _ hi=>h4.block i hi⟩;refine⟨w',h1,h4,⟨ho.blk h.blk (fun e=>n1 e.symm),⟨l',h2,hnd,fun m=>?_⟩,aq ho h.waits (fun i hi=>mx h.waits hm i hi),?_,h.apart⟩,⟨⟨ho.os,ho.tape,ho.output,ho.size,fun i hi hn=>ho.block i hi (fun e=>hn (.inr (.inl e)))⟩,rfl,fun i hi=>.inl hi⟩⟩
 ·rw[h3 m];by_cases e:m=n
  ·simp only[if_pos e];exact .inl ⟨_,rfl,rfl⟩
  ·simp only[if_neg e];exact hl.2 m
 ·rcases h.fails with hn | ⟨r,k,e,h1,h2⟩
  ·exact .inl hn
  ·refine .inr ⟨r,k,e,?_,h2⟩;by_cases hr:r=D.lm
   ·exact absurd (by rw[e,hr]) h.apart
   ·exact(h4.block r hr).trans h1
theorem k8 {P:Program} {o:Oper} {a:Act} {K:Act→World→Prop} {Q:Exit→Act→World→Prop} (w w':World) (t:TypeId) (m k v:Operand) (ho:o.op=.mapUpdate t m k v) (mv kv vv:Value) (hm:a.eval m=mv) (hk:a.eval k=kv) (hv:a.eval v=vv)
 (hr:(Instr.mapUpdate t mv kv vv).run P w=.ok () w') (h:K (a.put o.dst undef) w'):o.wp P a w K Q:=by
 unfold Oper.wp execOp;simp only[ho,hm,hk,hv,hr,Sem.run_bind,Sem.run_pure,Result.andThen_ok];exact h
theorem VP (b:List UInt8) (o:Nat) (c:UInt8) (ho:o<b.length):((b.map aj).set o (.int .u8 (bits .xor .u8 ((b[o]'ho).toNat:Int) (c.toNat:Int)))).toArray=((gJ b o c).map aj).toArray:=by
 rw[x6,El];have e:b.getD o 0=b[o]'ho:=by rw[wj,aY ho];rfl
 rw[e]
theorem At (x:ak) (n:Int) (o:Nat) (c:UInt8) (k:Nat) (hk:k<x.waits.length):(x.dX n o c k).waits=(x.waits.take k).map (fY n o c)++(x.waits[k]'hk)::x.waits.drop (k+1):=by
 show(x.waits.take k).map (fY n o c)++x.waits.drop k=_;rw[pg hk]
theorem Ci (x:ak) (n:Int) (o:Nat) (c:UInt8) (k:Nat) (hk:k<x.waits.length):(x.dX n o c (k+1)).waits=(x.waits.take k).map (fY n o c)++fY n o c (x.waits[k]'hk)::x.waits.drop (k+1):=by
 show(x.waits.take (k+1)).map (fY n o c)++x.waits.drop (k+1)=_;have e:x.waits.take (k+1)=x.waits.take k++[x.waits[k]'hk]:=by rw[gG,aY hk];rfl
 rw[e,cK,fS];rfl
theorem ow {w:World} {B k:Nat} {e:TypeId} {n g cap:Nat} {xs:List Value} (h:w.ownsRow B e k (.slice (some ⟨g,0,none⟩) n cap) n xs) (j:Nat):w.frozen? ⟨g,j,none⟩=false:=by
 rcases h.2 with ⟨h0,_⟩ | ⟨g',cap',cur,h0,hB,hg,_⟩
 ·cases h0
 ·cases h0
  exact ah.frozen (t:=e) (cs:=cur) hg j
theorem k9 (x:ak) (n:Int) (o:Nat) (c:UInt8) (k:Nat):(x.dX n o c k).waits.length=x.waits.length:=by
 simp[ak.dX];omega
theorem sx (n:Int) (o:Nat) (c:UInt8) (y:aI) (hy:y.b.length=512):(fY n o c y).b.length=512:=by
 unfold fY;split
 ·rw[nH];exact hy
 ·exact hy
theorem uh (x:ak) (hx:x.sound) (n:Int) (o:Nat) (c:UInt8) (k:Nat):(x.dX n o c k).sound:=by
 refine⟨fun m=>?_,fun y hy=>?_,by rw[k9];exact hx.2.2⟩
 ·show(if m=n then gJ (x.lasts n) o c else x.lasts m).length=512;split
  ·rw[nH];exact hx.1 n
  ·exact hx.1 m
 ·have hy':y∈(x.waits.take k).map (fY n o c)++x.waits.drop k:=hy;rcases mq.1 hy' with h | h
  ·obtain⟨z,hz,rfl⟩:=dI.1 h;exact sx n o c z (hx.2.1 z (zu hz))
  ·exact hx.2.1 y (RH h)
theorem Em (x:ak) (n:Int) (o:Nat) (c:UInt8):x.dX n o c x.waits.length=x.ov n o c:=by
 unfold ak.dX ak.ov;rw[iG,IK,ny]
theorem GA (x:ak) (n:Int) (o:Nat) (c:UInt8) (k k':Nat) (h:(x.dX n o c k).waits=(x.dX n o c k').waits):x.dX n o c k=x.dX n o c k':=by
 have e:(x.waits.take k).map (fY n o c)++x.waits.drop k=(x.waits.take k').map (fY n o c)++x.waits.drop k':=h;unfold ak.dX;rw[e]
theorem En (D:aX) (x:ak) (n:Int) (o:Nat) (c:UInt8) (w:World) (h:aE w D x) (hx:x.ok) (hn:0≤n∧n<x.size) (ho:o<512) :
 Calls Tryz.prog 37 #[ptr D.p,.int .i64 n,.int .i64 o,.int .u8 (c.toNat:Int)] w fun e w'=>e=.returned (.int .i64 0)∧aE w' D (x.ov n o c)∧DStep D D w w':=by
 have HR:=ae (xY D x n o w h hx hn (by omega));have c1:=h.blk.ag 1 rfl;have k1:=Ej h n;have hl:=hx.2.2.1 n;have HL:=ae hl;have hlt:=h.blk.lt;have hoi:(o:Int)<512:=by omega
 have HH:=ae h;obtain⟨hmax,hws,a,cap,ev,hcc⟩:=h.xq hx.sound;clear hcc;unfold ptr aV at *;go_enter Tryz.func37,Tryz.ntmps37
 go_wp2_with fail;refine HR.out.mono ?_;rintro e w1 ⟨rfl,rfl⟩;go_upto_region 4 with fail;have hK:=ah.new w 111 Tryz.zeroCells111;go_wp2_with (first
  | (refine aQ rfl 111 _ _ rfl w.heap.size ((x.lasts n).map aj).toArray rfl rfl 111 _ hK (aO _ HL.out) (by rw[bE];exact bT _ _ et HL.out) (bq _) ?_;rw[di])
  | fail)
 rw[VP (x.lasts n) o c (by omega)];obtain⟨W,eW⟩:∃W,W=w.alloc (.cells ((gJ (x.lasts n) o c).map aj).toArray 111):=⟨_,rfl⟩;have hbW:Below w.heap.size w W:=by rw[eW];exact(ax _ w).alloc (ai _) _
 have hG2:ah W w.heap.size 111 ((gJ (x.lasts n) o c).map aj).toArray:=by rw[eW];exact ah.new _ _ _
 rw[←eW];clear eW hK;have XY:=(HH.out.below hbW).drew;have c1b:=XY.blk.ag 1 rfl;have VQ:(Tryz.prog.info? 111).map (·.size)=some ((gJ (x.lasts n) o c).map aj).length:=by rw[cR,nH,HL.out];exact fQ
 obtain⟨W2,hrun,hT,hD2,hS2⟩:=yS XY n (gJ (x.lasts n) o c);have Ao:DStep D D w W2:=hS2.first hbW.drew HH.out.has_lt;have HD2:=ae hD2;have xt:=ae Ao;have HHW:=ae XY;have hlm:D.lm≠w.heap.size:=fun e=>by have:=HH.out.has_lt D.lm (.inr (.inl rfl));omega
 clear XY hD2 hS2 Ao h;refine bF (S:=(fun w'=>w'.cell? ⟨D.p,1,none⟩=some (.map (some D.lm))∧ah w' w.heap.size 111 ((gJ (x.lasts n) o c).map aj).toArray)) (by kernel_rfl) (by(try dsimp only);(exact⟨c1b,hG2.drew⟩)) (fun hHeld=>?_);refine tk 0 ?_;refine tk 1 ?_;refine tk 2 ?_;refine tk 3 ?_;refine tk 4 ?_;refine ty 5 rfl (cY (by rfl) 111 _ rfl w.heap.size 0 rfl ((gJ (x.lasts n) o c).map aj) _ (fun w' h j v hj=>h.2.ag (0+j) (by rw[jd,cW];exact hj)) dj rfl VQ) ?_;refine rd 6 fun K hK=>?_;rw[aB (by rfl)];refine k8 _ W2 148 _ _ _ rfl _ _ _ rfl rfl rfl hrun ?_;refine hK.out _ _ ⟨HD2.out.blk.ag 1 rfl,(hT.block _ hlm.symm).trans hG2⟩ (fun hHeld=>?_);clear hK K;refine aT ?_;have c2:=HD2.out.blk.ag 2 rfl;rw[ev]at c2;go_wp2_with fail;go_loopw [42] (fun i wr=>∃k:Nat,k≤x.waits.length∧i=.int .i64 (k:Int)∧aE wr D (x.dX n o c k)∧DStep D D w wr) (fun i _=>x.waits.length-(intOf i).toNat)
 case atStart=>exact⟨0,fi _,rfl,HD2.out,xt.out⟩
 case round =>
  obtain⟨k,hk,rfl,hD,hS⟩:=hrel;by_cases hlt:k<x.waits.length
  ·obtain⟨hm2,VN,a2,cap2,Au,hc2⟩:=hD.xq (uh x hx.sound n o c k);rw[k9,ev]at Au;cases Au
   obtain⟨g,rfl,hg,hrg⟩:=hc2 k (x.waits[k]'hlt) (by rw[At x n o c k hlt,gl (by simp;omega)];simp[Nat.min_eq_left (Nat.le_of_lt hlt)]);have hy:=hx.2.2.2.1 _ (IJ hlt);have hAt:=At x n o c k hlt;have hNx:=Ci x n o c k hlt;have c2w:wr.cell? ⟨D.p,2,none⟩=some (.slice (some ⟨g,0,none⟩) x.waits.length cap):=(hD.blk.ag 2 rfl).trans (by rw[ev];rfl);have cn:wr.cell? ⟨g,k*513,none⟩=some (.int .i64 (x.waits[k]'hlt).n):=hrg 0 _ rfl;have cb:wr.cell? ⟨g,k*513+1+o,none⟩=some (aj ((x.waits[k]'hlt).b.getD o 0)):=by
    have:=hrg (1+o) (aj ((x.waits[k]'hlt).b.getD o 0)) (by rw[tS];show((x.waits[k]'hlt).b.map aj)[o]? = _;rw[dV,NL _ o c (by omega)];rfl);rw[←nA]at this;exact this
   have hlt':(k:Int)<(x.waits.length:Int):=by omega
   generalize x.waits[k]'hlt=y at *;have HA:=ae hAt;have HN:=ae hNx;have HD:=ae hD;have Av:=ae hS;clear hAt hNx hD hS hc2 hrg VN;obtain⟨t,ht⟩:∃t:Int,y.n=t:=⟨_,rfl⟩;rw[ht]at cn;have SR:=ae ht;clear ht;cases hh:(t == n)
   ·go_wp2_with fail;go_roundw
    case rel =>
     refine⟨k+1,by omega,by simp,?_,Av.out⟩;have e:x.dX n o c (k+1)=x.dX n o c k:=by
      have h1:(x.dX n o c (k+1)).waits=(x.dX n o c k).waits:=by
       rw[HN.out,HA.out];unfold fY;rw[SR.out,aG (by simpa using hh)]
      exact GA x n o c _ _ h1
     rw[e];exact HD.out
    case measure=>simp[intOf];omega
   ·have f2w:=ow (by have:=HD.out.waits;rw[ev,k9]at this;exact this) (k*513+1+o);have htn:t=n:=by simpa using hh
    subst htn;have GC:o<y.b.length:=by omega
    have eD:y.b.getD o 0=y.b[o]'GC:=by rw[wj,aY GC];rfl
    have hcells:(fY t o c y).cells=y.cells.set (1+o) (.int .u8 (bits .xor .u8 ((y.b[o]'GC).toNat:Int) (c.toNat:Int))):=by
     unfold fY;rw[aB SR.out];show(Value.int .i64 y.n::(gJ y.b o c).map aj)=(Value.int .i64 y.n::y.b.map aj).set (1+o) _;rw[x6,tS,R7,eD,El]
    have Eo:((x.waits.take k).map (fY t o c)).length=k:=by simp;omega
    have HQ:=ae (Hx HD.out (by rw[ev,k9]) (k*513+1+o) (.int .u8 (bits .xor .u8 ((y.b[o]'GC).toNat:Int) (c.toNat:Int))) (x.dX t o c (k+1)).waits (by rw[k9,k9])
     (by rw[kH _ (uh x hx.sound t o c k).2.1,k9];omega)
     (by rw[HA.out,HN.out,←yR _ _ (fun z hz=>by obtain⟨z',hz',rfl⟩:=dI.1 hz;exact sx t o c z' (hx.2.2.2.1 z' (zu hz'))) y _ (1+o) _ (by rw[aI.len y hy];omega) hcells,Eo,nA]))
    have HNE:=ae (show g≠D.p from HD.out.ne.2.1 g (by rw[ev];rfl));clear eD hcells Eo;go_wp2_with fail;have c2:=c2w;refine bF (S:=(fun w'=>w'.cell? ⟨D.p,2,none⟩=some (Value.slice (some ⟨g,0,none⟩) x.waits.length cap))) (by kernel_rfl) (by(try dsimp only);(exact c2)) (fun hHeld=>?_);refine tk 0 ?_;refine tk 1 ?_;refine tk 2 ?_;refine tk 3 ?_;refine tk 4 ?_;refine tk 5 ?_;refine tk 6 ?_;refine tk 7 ?_;refine tk 8 ?_;refine tk 10 ?_;refine tk 12 ?_;refine tk 13 ?_;refine rd 9 fun K hK=>?_;go_simp;refine hK.out _ _ hHeld (fun hHeld=>?_);clear hK K;refine tk 11 ?_;refine tk 14 ?_;refine rd 15 fun K hK=>?_;go_simp;refine hK.out _ _ ((kJ _ ⟨g,k*513+1+o,none⟩ ⟨D.p,2,none⟩ _ (HNE.out)).trans c2w) (fun hHeld=>?_);clear hK K;refine aT ?_;go_wp2_with fail;obtain⟨q1,q2⟩:=HQ.out;go_roundw
    case rel=>exact⟨k+1,by omega,by simp,q1.drew,(Av.out.trans q2).below (ax _ _).drew⟩
    case measure=>simp[intOf];omega
  ·obtain rfl:k=x.waits.length:=by omega
   rw[Em]at hD;go_wp2_with fail;go_ret
   exact⟨rfl,hD,hS⟩
theorem ui (N:Int) (w:World):Calls Tryz.prog 39 #[.agg #[.int .i64 N]] w fun e w'=>e=.returned (.tuple #[.int .i64 (if aZ N then 20+3*N else 0),.int .i64 (dr (aZ N))])∧Below w.heap.size w w':=by
 cases h:aZ N
 ·exact ZX N w h
 ·exact VE N w h
theorem Kl {w W w':World} {N ed:Int} {vo vb vs:Value}
 (h:(Below w.heap.size w W∧ah W w.heap.size 23 #[.int .i64 N]∧ah W (w.heap.size+1) 28 #[.int .i64 ed,vo,vb,vs])∧W.cell? ⟨w.heap.size,0,none⟩=some (.int .i64 N)∧W.cell? ⟨w.heap.size+1,2,none⟩=some vb) (hb:Below W.heap.size W w') :
 (Below w.heap.size w w'∧ah w' w.heap.size 23 #[.int .i64 N]∧ah w' (w.heap.size+1) 28 #[.int .i64 ed,vo,vb,vs])∧w'.cell? ⟨w.heap.size,0,none⟩=some (.int .i64 N)∧w'.cell? ⟨w.heap.size+1,2,none⟩=some vb :=
 ⟨⟨h.1.1.trans (hb.mono h.1.1.size),h.1.2.1.below hb h.1.2.1.lt,h.1.2.2.below hb h.1.2.2.lt⟩,(h.1.2.1.below hb h.1.2.1.lt).ag 0 rfl,(h.1.2.2.below hb h.1.2.2.lt).ag 2 rfl⟩
theorem Pb (N ed:Int) (l:List Int) (m:List aK) (sl:Nat) (ao ab aw:Option Addr) (co cb cs:Nat) (w:World)
 (hl:IntsIn w w.heap.size (.slice ao l.length co) l) (hm:gA w w.heap.size (.slice ab m.length cb) m) (hpre:(aZ N&&fu N ed l.length m.length sl)=true) :
 Calls Tryz.prog 12 #[.agg #[.int .i64 N],.agg #[.int .i64 ed,.slice ao l.length co,.slice ab m.length cb,.slice aw sl cs]] w fun e w' =>
 e=.returned (.int .i64 (dr (gI N (-1) l m)))∧Below w.heap.size w w':=by
 obtain⟨hR,hp⟩:aZ N=true∧fu N ed l.length m.length sl=true:=by simpa using hpre
 have hN:1≤N∧N≤64:=by simpa[aZ]using hR
 obtain⟨h1,h2,h3,h4⟩:0≤ed∧l.length=m.length∧(l.length:Int)≤N∧sl≤4096:=by
  simp[fu]at hp;omega
 obtain⟨q,hq⟩:∃q,gI N (-1) l m=q:=⟨_,rfl⟩;rw[hq];have HQ:=ae hq;have Km:=ae h2;have ne1:¬ed<0:=by omega
 have ne2:¬ (sl:Int)>4096:=by omega
 have ne3:((l.length:Int) != (m.length:Int))=false:=by rw[h2];simp
 have ne4:¬ (l.length:Int)>N:=by omega
 clear hq hpre hp h2;go_enter JK,Jt
 go_wp2_with fail;refine(ui N _).mono ?_;rintro e w1 ⟨rfl,hb⟩;have K1:ah w1 w.heap.size 23 #[.int .i64 N]:=((ah.new w _ _).alloc _).below hb (by simp;omega);have K2:ah w1 (w.heap.size+1) 28 #[.int .i64 ed,.slice ao l.length co,.slice ab m.length cb,.slice aw sl cs]:=(ah.new2 w _ _ _).below hb (by simp);have hB:=(((ax w.heap.size w).alloc (ai _) (.cells #[.int .i64 N] 23)).alloc (by simp) (.cells #[.int .i64 ed,.slice ao l.length co,.slice ab m.length cb,.slice aw sl cs] 28)).trans (hb.mono (by simp;omega));have c0:=K1.ag 0 rfl;have d0:=K2.ag 0 rfl;have d1:=K2.ag 1 rfl;have d2:=K2.ag 2 rfl;have d3:=K2.ag 3 rfl;have he:dr true=0:=rfl;have he2:dr false=2:=rfl;rw[hR];clear hb;go_wp2_with fail;clear c0 d0 d1 d2 d3;go_loopw [7,46] (fun last i wr=>∃ (j:Nat) (la:Int),j≤l.length∧i=.int .i64 j∧last=.int .i64 la∧Hid (gI N la (l.drop j) (m.drop j)=q)∧ah wr w.heap.size 23 #[.int .i64 N]∧ah wr (w.heap.size+1) 28 #[.int .i64 ed,.slice ao l.length co,.slice ab m.length cb,.slice aw sl cs]∧Below w.heap.size w wr) (fun _ i _=>l.length-(intOf i).toNat)
 case atStart=>exact⟨0, -1,by omega,rfl,rfl,ae HQ.out,K1,K2,hB⟩
 case round =>
  clear K1 K2 hB;obtain⟨j,la,hj,rfl,rfl,HT,K1,K2,hB⟩:=hrel;have hz:=hB.size;by_cases hlt:j<l.length
  ·obtain⟨dy,vR⟩:∃c,l[j]? = some c:=⟨_,aY hlt⟩;obtain⟨x,hx⟩:∃c,m[j]? = some c:=⟨_,aY (by have:=Km.out;omega)⟩;have hlt2:(j:Int)<(m.length:Int):=by have:=Km.out;omega
   have hT:=HT.out;rw[Eh N la l m j dy x vR hx]at hT;have HT2:=ae hT;clear hT HT;obtain⟨g1,o1,rfl,hg1,hcell1⟩:=hl.at_ vR;obtain⟨hxo,SS,g2,o2,rfl,hgo,hrg⟩:=hm.at_ hx;have x0:=(hB.cell (p:=⟨g1,o1+j,none⟩) hg1).trans hcell1;have c0:=K1.ag 0 rfl;have d2:=K2.ag 2 rfl;have d1:=K2.ag 1 rfl;have HX:=ae hx;have HOI:=ae vR;have HR:=ae hrg;clear hx vR hcell1 hm hl;by_cases hc1:dy≤la
   ·have hq:q=false:=by rw[←HT2.out,cB (by omega:¬la<dy)];rfl
    have HN:=ae hq;have f1:decide (dy≤la)=true:=cT hc1;clear hq hrg hc1;go_upto_region 10 with fail;have k1:=hB.drew;have k2:=K1.drew;have k3:=K2.drew;refine bF (S:=(fun w'=>(Below w.heap.size w w'∧ah w' w.heap.size 23 #[.int .i64 N]∧ah w' (w.heap.size+1) 28 #[.int .i64 ed,.slice (some ⟨g1,o1,none⟩) l.length co,.slice (some ⟨g2,o2,none⟩) m.length cb,.slice aw sl cs])∧w'.cell? ⟨w.heap.size,0,none⟩=some (.int .i64 N)∧w'.cell? ⟨w.heap.size+1,2,none⟩=some (.slice (some ⟨g2,o2,none⟩) m.length cb))) (by kernel_rfl) (by(try dsimp only);(refine⟨⟨?_,?_,?_⟩,?_,?_⟩<;>assumption)) (fun hHeld=>?_);refine tk 0 ?_;refine tk 1 ?_;refine tk 2 ?_;refine tk 3 ?_;refine tu 4 ?_;refine tu 5 ?_;refine tu 6 ?_;refine tu 7 ?_;refine tk 8 ?_;refine tk 9 ?_;refine tu 10 ?_;refine tu 11 ?_;refine tu 12 ?_;refine tu 13 ?_;refine tu 14 ?_;refine tu 15 ?_;refine tu 16 ?_;refine tu 17 ?_;refine tu 18 ?_;refine tk 19 ?_;refine aT ?_;go_wp2_with fail;go_ret
    exact⟨by rw[HN.out];rfl,by assumption⟩
   ·by_cases hc2:N≤dy
    ·have hq:q=false:=by rw[←HT2.out,cB (by omega:¬dy<N)];simp
     have HN:=ae hq;have f1:decide (dy≤la)=false:=cB hc1;have f2:decide (N≤dy)=true:=cT hc2;clear hq hrg hc1 hc2;go_upto_region 10 with fail;have k1:=hB.drew;have k2:=K1.drew;have k3:=K2.drew;refine bF (S:=(fun w'=>(Below w.heap.size w w'∧ah w' w.heap.size 23 #[.int .i64 N]∧ah w' (w.heap.size+1) 28 #[.int .i64 ed,.slice (some ⟨g1,o1,none⟩) l.length co,.slice (some ⟨g2,o2,none⟩) m.length cb,.slice aw sl cs])∧w'.cell? ⟨w.heap.size,0,none⟩=some (.int .i64 N)∧w'.cell? ⟨w.heap.size+1,2,none⟩=some (.slice (some ⟨g2,o2,none⟩) m.length cb))) (by kernel_rfl) (by(try dsimp only);(refine⟨⟨?_,?_,?_⟩,?_,?_⟩<;>assumption)) (fun hHeld=>?_);refine tk 0 ?_;refine tk 1 ?_;refine tk 2 ?_;refine tk 3 ?_;refine tk 4 ?_;refine tk 5 ?_;refine tk 6 ?_;refine tk 7 ?_;refine tk 8 ?_;refine tk 9 ?_;refine tu 10 ?_;refine tu 11 ?_;refine tu 12 ?_;refine tu 13 ?_;refine tu 14 ?_;refine tu 15 ?_;refine tu 16 ?_;refine tu 17 ?_;refine tu 18 ?_;refine tk 19 ?_;refine aT ?_;go_wp2_with fail;go_ret
     exact⟨by rw[HN.out];rfl,by assumption⟩
    ·have yT:(fH x N&&gI N dy (l.drop (j+1)) (m.drop (j+1)))=q:=by
      have:=HT2.out;rwa [cT (by omega:la<dy),cT (by omega:dy<N),fx,fx]at this
     have HT3:=ae yT;have f1:decide (dy≤la)=false:=cB hc1;have f2:decide (N≤dy)=false:=cB hc2;clear yT HT2 hc1 hc2;cases hO:fH x N
     ·have hq:q=false:=by rw[←HT3.out,hO];rfl
      have HN:=ae hq;clear hq;have SU:dr (fH x N)=2:=by rw[hO];rfl
      go_upto_region 10 with fail;have k1:=hB.drew;have k2:=K1.drew;have k3:=K2.drew;refine bF (S:=(fun w'=>(Below w.heap.size w w'∧ah w' w.heap.size 23 #[.int .i64 N]∧ah w' (w.heap.size+1) 28 #[.int .i64 ed,.slice (some ⟨g1,o1,none⟩) l.length co,.slice (some ⟨g2,o2,none⟩) m.length cb,.slice aw sl cs])∧w'.cell? ⟨w.heap.size,0,none⟩=some (.int .i64 N)∧w'.cell? ⟨w.heap.size+1,2,none⟩=some (.slice (some ⟨g2,o2,none⟩) m.length cb))) (by kernel_rfl) (by(try dsimp only);(refine⟨⟨?_,?_,?_⟩,?_,?_⟩<;>assumption)) (fun hHeld=>?_);refine tk 0 ?_;refine tk 1 ?_;refine tk 2 ?_;refine tk 3 ?_;refine tk 4 ?_;refine tk 5 ?_;refine tk 6 ?_;refine tk 7 ?_;refine tk 8 ?_;refine tk 9 ?_;refine tk 10 ?_;refine tk 11 ?_;refine tk 12 ?_;refine tk 13 ?_;refine ty 14 rfl (cY (by rfl) 62 _ rfl _ _ rfl x.cells _ (fun w' h=>dE hrg h.1.1 hgo) dH rfl (by rw[aK.len hxo];kernel_rfl)) ?_;refine tk 15 ?_;refine tk 16 ?_;refine rd 17 fun K hK=>?_;go_simp
      (refine(tw x hxo N _).mono ?_;rintro e w' ⟨rfl,hb⟩;obtain⟨⟨z1,z2,z3⟩,z4,z5⟩:=Kl hHeld hb;clear hb)
      go_wp2_with fail;refine hK.out _ _ (by(try dsimp only);(refine⟨⟨?_,?_,?_⟩,?_,?_⟩<;>assumption)) (fun hHeld=>?_);clear hK K;refine tk 18 ?_;refine tk 19 ?_;refine aT ?_;go_wp2_with fail;go_ret
      exact⟨by rw[HN.out];rfl,by assumption⟩
     ·have Aw:=HT3.out;rw[hO,fx]at Aw;have GD:=ae Aw;clear Aw;have SU:dr (fH x N)=0:=by rw[hO];rfl
      go_upto_region 10 with fail;have k1:=hB.drew;have k2:=K1.drew;have k3:=K2.drew;refine bF (S:=(fun w'=>(Below w.heap.size w w'∧ah w' w.heap.size 23 #[.int .i64 N]∧ah w' (w.heap.size+1) 28 #[.int .i64 ed,.slice (some ⟨g1,o1,none⟩) l.length co,.slice (some ⟨g2,o2,none⟩) m.length cb,.slice aw sl cs])∧w'.cell? ⟨w.heap.size,0,none⟩=some (.int .i64 N)∧w'.cell? ⟨w.heap.size+1,2,none⟩=some (.slice (some ⟨g2,o2,none⟩) m.length cb))) (by kernel_rfl) (by(try dsimp only);(refine⟨⟨?_,?_,?_⟩,?_,?_⟩<;>assumption)) (fun hHeld=>?_);refine tk 0 ?_;refine tk 1 ?_;refine tk 2 ?_;refine tk 3 ?_;refine tk 4 ?_;refine tk 5 ?_;refine tk 6 ?_;refine tk 7 ?_;refine tk 8 ?_;refine tk 9 ?_;refine tk 10 ?_;refine tk 11 ?_;refine tk 12 ?_;refine tk 13 ?_;refine ty 14 rfl (cY (by rfl) 62 _ rfl _ _ rfl x.cells _ (fun w' h=>dE hrg h.1.1 hgo) dH rfl (by rw[aK.len hxo];kernel_rfl)) ?_;refine tk 15 ?_;refine tk 16 ?_;refine rd 17 fun K hK=>?_;go_simp
      (refine(tw x hxo N _).mono ?_;rintro e w' ⟨rfl,hb⟩;obtain⟨⟨z1,z2,z3⟩,z4,z5⟩:=Kl hHeld hb;clear hb)
      go_wp2_with fail;refine hK.out _ _ (by(try dsimp only);(refine⟨⟨?_,?_,?_⟩,?_,?_⟩<;>assumption)) (fun hHeld=>?_);clear hK K;refine tk 18 ?_;refine tk 19 ?_;refine aT ?_;go_wp2_with fail;exact⟨⟨j+1,dy,by omega,by go_num,rfl,GD,by assumption,by assumption,by assumption⟩,by simp[intOf]<;>omega⟩
  ·obtain rfl:j=l.length:=by omega
   have hq:q=true:=by
    rw[←HT.out];exact Gp N la l m l.length rfl Km.out.symm
   have HN:=ae hq;clear hq;go_wp2_with fail;go_ret
   exact⟨by rw[HN.out];rfl,hB⟩
theorem SV (N ed:Int) (n m sl:Nat) (ao ab aw:Option Addr) (co cb cs:Nat) (w:World) (hpre:(aZ N&&fu N ed n m sl)=false) :
 Calls Tryz.prog 12 #[.agg #[.int .i64 N],.agg #[.int .i64 ed,.slice ao n co,.slice ab m cb,.slice aw sl cs]] w fun e w' =>
 e=.returned (.int .i64 2)∧Below w.heap.size w w':=by
 have hs:aZ N=false∨(aZ N=true∧(ed<0∨(¬ed<0∧((n:Int) != (m:Int))=true)∨(¬ed<0∧((n:Int) != (m:Int))=false∧(n:Int)>N)∨(¬ed<0∧((n:Int) != (m:Int))=false∧¬ (n:Int)>N∧(sl:Int)>4096))):=by
  cases hR:aZ N
  ·exact .inl rfl
  ·right
   rw[hR,fx]at hpre;refine⟨rfl,?_⟩;simp[fu]at hpre;simp;omega
 clear hpre;rcases hs with hR | ⟨hR,hs⟩
 ·go_enter JK,Jt
  go_wp2_with fail;refine(ui N _).mono ?_;rintro e w1 ⟨rfl,hb⟩;have hB:=(((ax w.heap.size w).alloc (ai _) (.cells #[.int .i64 N] 23)).alloc (by simp) (.cells #[.int .i64 ed,.slice ao n co,.slice ab m cb,.slice aw sl cs] 28)).trans (hb.mono (by simp;omega));have he2:dr false=2:=rfl;rw[hR];go_wp2_with fail;go_ret
  exact⟨rfl,hB⟩
 ·rcases hs with h1 | ⟨h1,h2⟩ | ⟨h1,h2,h3⟩ | ⟨h1,h2,h3,h4⟩
  all_goals
   go_enter JK,Jt
   go_wp2_with fail;refine(ui N _).mono ?_;rintro e w1 ⟨rfl,hb⟩;have K1:ah w1 w.heap.size 23 #[.int .i64 N]:=((ah.new w _ _).alloc _).below hb (by simp;omega);have K2:ah w1 (w.heap.size+1) 28 #[.int .i64 ed,.slice ao n co,.slice ab m cb,.slice aw sl cs]:=(ah.new2 w _ _ _).below hb (by simp);have hB:=(((ax w.heap.size w).alloc (ai _) (.cells #[.int .i64 N] 23)).alloc (by simp) (.cells #[.int .i64 ed,.slice ao n co,.slice ab m cb,.slice aw sl cs] 28)).trans (hb.mono (by simp;omega));have c0:=K1.ag 0 rfl;have d0:=K2.ag 0 rfl;have d1:=K2.ag 1 rfl;have d2:=K2.ag 2 rfl;have d3:=K2.ag 3 rfl;have he:dr true=0:=rfl;rw[hR];clear hb K1 K2;go_wp2_with fail;go_ret
   exact⟨rfl,hB⟩
theorem Ep (N:Int) (f:bY) (v:Value) (w:World) (h:cL w w.heap.size v f):Calls Tryz.prog 12 #[.agg #[.int .i64 N],v] w fun e w'=>e=.returned (.int .i64 (dr (gh N f)))∧Below w.heap.size w w':=by
 obtain⟨vo,vb,vs,rfl,h1,h2,h3⟩:=h;obtain⟨_,ao,co,e1,_,_⟩:=id h1;obtain⟨_,ab,cb,e2,_,_⟩:=id h2;obtain⟨_,aw,cs,e3,_,_⟩:=id h3;subst e1 e2 e3;have e:gh N f=((aZ N&&fu N f.ed f.bj.length f.objs.length f.state.length)&&gI N (-1) f.bj f.objs):=by
  unfold gh;rw[Jc]
 rw[e];cases hp:(aZ N&&fu N f.ed f.bj.length f.objs.length f.state.length)
 ·exact SV N f.ed _ _ _ ao ab aw co cb cs w hp
 ·rw[fx];exact Pb N f.ed f.bj f.objs _ ao ab aw co cb cs w h1 h2 hp
def da (N size area:Int):Bool:=aZ N&&decide (20+3*N≤size)&&decide (0≤area)&&decide (area≤1)
theorem jL (D:aX) (x:ak) (N area:Int) (w:World) (h:aE w D x) (hx:x.ok) :
 Calls Tryz.prog 51 #[ptr D.p,.agg #[.int .i64 N],.int .i64 area] w fun e w'=>e=.returned (.int .i64 (dr (da N x.size area)))∧Below w.heap.size w w':=by
 have HH:=ae h;have hs1:=hx.1;have HX:=ae hx;unfold ptr at *;clear h hx;go_enter Tryz.func51,Tryz.ntmps51
 go_wp2_with fail;refine(ui N _).mono ?_;rintro e w1 ⟨rfl,hb⟩;have hb1:Below w.heap.size w w1:=((ax _ w).alloc (ai _) _).trans (hb.mono (by simp));have HN:=ae (Gq D x w1 (HH.out.below hb1) HX.out);have ne:(x.size == 0)=false:=by simpa using (by omega:x.size≠0)
 unfold ptr at *;cases hR:aZ N
 ·go_wp2_with fail;refine HN.out.mono ?_;rintro e w2 ⟨rfl,rfl⟩;go_wp2_with fail;go_ret
  exact⟨by unfold da;rw[hR];rfl,hb1⟩
 ·have eA:da N x.size area=(!decide (x.size<20+3*N) && !decide (area<0) && !decide (1<area)):=by
   unfold da;rw[hR];have g1:decide (20+3*N≤x.size) = !decide (x.size<20+3*N):=by rw[←Ab];congr 1;simp[Int.not_lt]
   have g2:decide (0≤area) = !decide (area<0):=by rw[←Ab];congr 1;simp[Int.not_lt]
   have g3:decide (area≤1) = !decide (1<area):=by rw[←Ab];congr 1;simp[Int.not_lt]
   rw[g1,g2,g3,fx]
  have HA:=ae eA;clear eA;cases q1:decide (x.size<20+3*N)<;>cases q2:decide (area<0)<;>cases q3:decide (1<area)
  all_goals
   have Q1:=ae q1;have Q2:=ae q2;have Q3:=ae q3;go_wp2_with fail;refine HN.out.mono ?_;rintro e w2 ⟨rfl,rfl⟩;go_wp2_with fail;refine HN.out.mono ?_;rintro e w2 ⟨rfl,rfl⟩;go_wp2_with fail;go_ret
   exact⟨by rw[HA.out,Q1.out,Q2.out,Q3.out];rfl,hb1⟩
theorem GF (N area:Int) (w:World):Calls Tryz.prog 51 #[.pointer none,.agg #[.int .i64 N],.int .i64 area] w fun e w'=>e=.returned (.int .i64 1)∧Below w.heap.size w w':=by
 go_enter Tryz.func51,Tryz.ntmps51
 go_wp2_with fail;refine(ui N _).mono ?_;rintro e w1 ⟨rfl,hb⟩;have hb1:Below w.heap.size w w1:=((ax _ w).alloc (ai _) _).trans (hb.mono (by simp));go_wp2_with fail
 all_goals
  refine(SI _).mono ?_;rintro e w2 ⟨rfl,rfl⟩;go_wp2_with fail;go_ret
  exact⟨rfl,hb1⟩
theorem lV (N k a t:Int) (w:World) (ht:ix t):Calls Tryz.prog 58 #[.agg #[.int .i64 N],.int .i64 k,.int .i64 a,.int .i64 t] w fun e w'=>e=.returned (.int .i64 (aJ N k a t).1)∧Below w.heap.size w w':=by
 go_enter Tryz.func58,Tryz.ntmps58
 go_wp2_with fail;refine(OY N k a t _ ht).mono ?_;rintro e w1 ⟨rfl,hb⟩;have hb1:Below w.heap.size w w1:=((ax _ w).alloc (ai _) _).trans (hb.mono (by simp));go_wp2_with fail;go_ret
 exact⟨rfl,hb1⟩
theorem zk (w:World) {base B n:Nat} {v:Value} {xs:List Value} (hown:w.ownsRow base 5 1 v n xs) (ty:TypeId) (a:Option Addr) (cap:Nat) (l:List UInt8)
 (hu:BytesIn w B (.slice a l.length cap) l) (hbytes:n+l.length≤140737488355328) (hbase:base≤w.heap.size) :
 ∃v' w',(Builtin.append_ #[26,26] ty #[v,.slice a l.length cap]).run Tryz.prog w=.ok v' w'∧w'.ownsRow base 5 1 v' (n+l.length) (xs++l.map aj)∧w.grownBy w' v.ownBlock∧(∀i,v'.ownBlock=some i→v.ownBlock=some i∨i=w.heap.size):=by
 obtain⟨i0,hi0,hz0,hz1,hz2⟩:=iH jg;obtain⟨hm,a',cap',e,hcap,hc⟩:=hu;injection e with e1 e2 e3
 subst e1;cases a with
 | none =>
  have hl:l=[]:=by
   cases l with
   | nil=>rfl
   | cons c l =>
    obtain⟨g,off,h,_⟩:=hc 0 c rfl;cases h
  subst hl;exact⟨v,w,tZ w hown ty cap,by simpa using hown,IE w _,fun i hi=>.inl hi⟩
 | some ad =>
  have hnews:∀j u,(l.map aj)[j]? = some u→w.cell? (ad.add j)=some u:=by
   intro j u hj;rw[dV]at hj;obtain⟨c,hcj,rfl⟩:=iE.1 hj;obtain⟨g,off,h,_,hcell⟩:=hc j c hcj;obtain rfl:=gH h;rw[eP];exact hcell
  obtain⟨v',w',hrun,h2,h3,_,h5⟩:=IG (P:=Tryz.prog) w base 26 ty 5 i0 (.int .u8 0) 1 1 eU hi0 hz0 hz1 hz2 rfl (by omega) v n xs hown ad l.length cap (l.map aj) (by simp) hnews
   (by intro u hu;obtain⟨c,_,rfl⟩:=dI.1 hu;rfl) (by unfold maxLen;omega) (by omega) hbase
  refine⟨v',w',hrun,h2,h3,fun i hi=>?_⟩;rcases h5 with h5 | h5
  ·exact .inl (by rw[←h5];exact hi)
  ·exact .inr (by rw[h5]at hi;exact(gH hi).symm)
theorem sy (w:World) {o:Oper} {a:Act} {K:Act→World→Prop} {Q:Exit→Act→World→Prop} (s x:Operand)
 (ho:o.op=.call {callee:=.builtin .append,args:=#[s,x],argTypes:=#[26,26]})
 (base B n:Nat) (v:Value) (xs:List Value) (hs:a.eval s=v) (hown:w.ownsRow base 5 1 v n xs) (A:Option Addr) (m cap:Nat) (l:List UInt8) (hx:a.eval x=.slice A m cap) (hm:l.length=m)
 (hu:BytesIn w B (.slice A m cap) l) (hbytes:n+m≤140737488355328) (hbase:base≤w.heap.size)
 (h:∀v' w',w'.ownsRow base 5 1 v' (n+m) (xs++l.map aj)→w.grownBy w' v.ownBlock→(∀i,v'.ownBlock=some i→v.ownBlock=some i∨i=w.heap.size)→K (a.put o.dst v') w'):o.wp Tryz.prog a w K Q:=by
 subst hm;obtain⟨v',w',hrun,h2,h3,h4⟩:=zk w hown o.type A cap l hu hbytes hbase;unfold Oper.wp execOp;simp only[ho,resolve,invoke,builtin,Sem.run_bind,Sem.run_pure,Result.andThen_ok,List.map_toArray,List.map_cons,List.map_nil,hs,hx,hrun];exact h v' w' h2 h3 h4
theorem oX (w:World) {ops:Array Oper} {rest:List Oper} {o:Oper} {a:Act} {Q:Exit→Act→World→Prop} (hgd:o.guard=none) (s x:Operand)
 (ho:o.op=.call {callee:=.builtin .append,args:=#[s,x],argTypes:=#[26,26]})
 (base B n:Nat) (v:Value) (xs:List Value) (hs:a.eval s=v) (hown:w.ownsRow base 5 1 v n xs) (A:Option Addr) (m cap:Nat) (l:List UInt8) (hx:a.eval x=.slice A m cap) (hm:l.length=m)
 (hu:BytesIn w B (.slice A m cap) l) (hbytes:n+m≤140737488355328) (hbase:base≤w.heap.size)
 (h:∀v' w',w'.ownsRow base 5 1 v' (n+m) (xs++l.map aj)→w.grownBy w' v.ownBlock→(∀i,v'.ownBlock=some i→v.ownBlock=some i∨i=w.heap.size)→wpList Tryz.prog ops Q rest (a.put o.dst v') w'):wpList Tryz.prog ops Q (o::rest) a w :=
 kP hgd fun _ hK=>sy w s x ho base B n v xs hs hown A m cap l hx hm hu hbytes hbase (fun v' w' h1 h2 h3=>hK _ _ (h v' w' h1 h2 h3))
structure cM (g:Nat) (v v':Value) (w w':World):Prop where
 out:Out (fun i=>i=g∨v.ownBlock=some i) w w'
 lr:∀i,v'.ownBlock=some i→v.ownBlock=some i∨w.heap.size≤i
theorem cM.refl (g:Nat) (v:Value) (w:World):cM g v v w w:=⟨Out.refl _ _,fun _ h=>.inl h⟩
theorem cM.trans {g:Nat} {v v1 v2:Value} {w w1 w2:World} (h:cM g v v1 w w1) (k:cM g v1 v2 w1 w2):cM g v v2 w w2 :=
 ⟨h.out.trans k.out (fun i hi hd=>hd.elim .inl (fun hd=>(h.lr i hd).elim .inr (fun hs=>absurd hs (by omega)))),fun i hi=>(k.lr i hi).elim (h.lr i) (fun hs=>.inr (by have:=h.out.size;omega))⟩
theorem cM.first {g:Nat} {v v':Value} {w0 w w1:World} (h:cM g v v' w w1) (hb:Below w0.heap.size w0 w):cM g v v' w0 w1 :=
 ⟨(aN hb:Out (fun i=>i=g∨v.ownBlock=some i) w0 w).trans h.out (fun _ _=>id),fun i hi=>(h.lr i hi).imp id (fun hs=>by have:=hb.size;omega)⟩
theorem cM.last {g:Nat} {v v':Value} {w w1 w2:World} (h:cM g v v' w w1) (hb:Below w1.heap.size w1 w2):cM g v v' w w2 :=
 ⟨h.out.trans (G:=fun _=>False) (aN hb) (fun _ _=>False.elim),h.lr⟩
theorem cM.blk {g:Nat} {v v':Value} {w w':World} (h:cM g v v' w w') {B n:Nat} {xs:List Value} {t:TypeId} {c:Value} (hg:ah w g t #[c]) (ho:w.ownsRow B 5 1 v n xs) {j:Nat} {t':TypeId} {cs:Array Value} (hb:ah w j t' cs) (h1:j≠g) (h2:t'≠5):ah w' j t' cs :=
 h.out.blk hb (fun hd=>hd.elim h1 (fun e=>aR ho hb (fj h2) j e rfl))
theorem cM.below {g B:Nat} {v v':Value} {w w':World} (h:cM g v v' w w') (hg:B≤g) (hv:∀i,v.ownBlock=some i→B≤i):∀i,i<B→i<w.heap.size→w'.heap[i]? = w.heap[i]? :=
 fun i hi hl=>h.out.block i hl (fun hd=>hd.elim (fun e=>by omega) (fun e=>by have:=hv i e;omega))
theorem sB {w w1 w2:World} {g:Nat} {v v':Value} {t:TypeId} {c:Value} (hb:Below w.heap.size w w1) (hg:w1.grownBy w2 v.ownBlock) (hc:ah w g t #[c]) (hvg:v.ownBlock≠some g) (hv:∀i,v'.ownBlock=some i→v.ownBlock=some i∨i=w1.heap.size) :
 ah (w2.setCell ⟨g,0,none⟩ v') g t #[v']∧cM g v v' w (w2.setCell ⟨g,0,none⟩ v'):=by
 have hlt:=hc.lt;have k2:ah w2 g t #[c]:=(hg.block g (by have:=hb.size;omega) (fj hvg)).trans ((hb.block g hlt).trans hc);refine⟨k2.br 0 v',⟨⟨hg.os.trans hb.os,hg.tape.trans hb.tape,hg.output.trans hb.output,by have:=hg.size;have:=hb.size;simp;omega,fun i hi hn=>?_⟩,fun i hi=>(hv i hi).imp id (fun e=>by have:=hb.size;omega)⟩⟩;exact(gE w2 _ _ _ (fun e=>hn (.inl e))).trans ((hg.block i (by have:=hb.size;omega) (fun e=>hn (.inr e.symm))).trans (hb.block i hi))
theorem slice_form {w:World} {B k:Nat} {e:TypeId} {v:Value} {n:Nat} {xs:List Value} (h:w.ownsRow B e k v n xs):∃a cap,v=.slice a n cap:=by
 rcases h.2 with ⟨rfl,h0⟩ | ⟨g,cap,cur,rfl,_⟩
 ·exact⟨none,0,by rw[h0]⟩
 ·exact⟨_,_,rfl⟩
theorem oY (g B n k:Nat) (t:TypeId) (v:Value) (l:List UInt8) (w:World) (hk:k=2∨k=4∨k=8) (hf:k<8→n/2^(8*k)=0) (hn:(n:Int)≤9223372036854775807)
 (hc:ah w g t #[v]) (ht:t≠5) (ho:w.ownsRow B 5 1 v l.length (l.map aj)) (hl:l.length≤100000) (hB:B≤w.heap.size) :
 Calls Tryz.prog 55 #[ptr g,.int .i64 n,.int .i64 k] w fun e w'=>e=.returned (.tuple #[])∧∃v',ah w' g t #[v']∧w'.ownsRow B 5 1 v' (l++leB n k).length ((l++leB n k).map aj)∧cM g v v' w w':=by
 have HP:=ae (FK n k w hk hf hn);have hne:∀i,v.ownBlock=some i→i≠g:=aR ho hc (fj ht);have HO:=ae ho;have HC:=ae hc;have hk8:k≤8:=by omega
 have hke:(leB n k).length=k:=bJ n k;unfold ptr;clear ho hc hk hf hn;go_enter Tryz.func55,Tryz.ntmps55
 go_wp2_with fail;refine HP.out.mono ?_;rintro e w1 ⟨v1,rfl,hv1,hb⟩;have hu:=BytesIn.own hv1;obtain⟨_,a1,uj,e1,_⟩:=id hu;rw[hke]at e1;subst e1;have HU:=ae hu;have ig:=ae (aq (F:=fun _=>False) (aN hb) HO.out (fun _ _=>id));have Er:=ae (HC.out.below hb HC.out.lt);have c1:=Er.out.ag 0 rfl;have hlt:=Er.out.lt;have hsz:=hb.size;clear hu hv1;go_wp2_with (at_builtin;refine oX w1 rfl _ _ rfl B w1.heap.size l.length v _ rfl ig.out a1 k uj (leB n k) rfl hke HU.out (by omega) (by omega) ?_;intro v2 w2 hO2 hg2 hn2;obtain⟨a2,cap2,rfl⟩:=slice_form hO2;obtain⟨q1,q2⟩:=sB hb hg2 HC.out (fun e=>hne g e rfl) hn2;have cc:ah w2 g t #[v]:=(hg2.block g hlt (fun e=>hne g e.symm rfl)).trans Er.out;have c2:=cc.ag 0 rfl;have f2:=cc.frozen 0)
 have hO3:=aq (F:=fun i=>i=g) (bk (v:=.slice a2 (l.length+k) cap2) (i:=0) rfl) hO2 (aR hO2 cc (fj ht));exact jE (v:=.tuple #[]) (by simp[results,Tryz.results55,go_sem]) rfl ⟨rfl,_,q1,by rw[bX,hke,cK];exact hO3,q2⟩
theorem iW (g B n k:Nat) (t:TypeId) (v:Value) (l:List UInt8) (w:World) (hk:k≤8) (hn:n<18446744073709551616)
 (hc:ah w g t #[v]) (ht:t≠5) (ho:w.ownsRow B 5 1 v l.length (l.map aj)) (hl:l.length≤100000) (hB:B≤w.heap.size) :
 Calls Tryz.prog 103 #[ptr g,.int .u64 n,.int .i64 k] w fun e w'=>e=.returned (.tuple #[])∧∃v',ah w' g t #[v']∧w'.ownsRow B 5 1 v' (l++leB n k).length ((l++leB n k).map aj)∧cM g v v' w w':=by
 have HO:=ae ho;have HC:=ae hc;unfold ptr;clear ho hc;go_enter Tryz.func103,Tryz.ntmps103
 go_wp2_with fail;go_loopw [8] (fun i wr=>∃ (j:Nat) (v':Value),j≤k∧i=.int .i64 (j:Int)∧ah wr g t #[v']∧wr.ownsRow B 5 1 v' (l++leB n j).length ((l++leB n j).map aj)∧cM g v v' w wr) (fun i _=>k-(intOf i).toNat)
 case atStart=>exact⟨0,v,fi _,rfl,HC.out,by simpa[leB]using HO.out,cM.refl _ _ _⟩
 case round =>
  obtain⟨j,v1,hj,rfl,fJ,fz,hS1⟩:=hrel;by_cases hlt:j<k
  ·have h8:(j:Int)<(k:Int):=by omega
   have hw8:IntKind.i64.wrap (8*(j:Int))=8*(j:Int):=by rw[cz];omega
   have pJ:=fW n j;have f_:=ae (CS n j);have hbyte:IntKind.u8.wrap ((n:Int)/2^(8*(j:Int)).toNat)=((bQ n j).toNat:Int):=by
    rw[pJ,IntKind.wrap_u8',show(8*(j:Int)).toNat=8*j by omega,Int.natCast_ediv,show(256:Nat)^j=2^(8*j)by rw[Nat.pow_mul]];simp
   clear pJ;go_upto_region 3 with fail;refine bF (S:=(fun _=>True)) (by kernel_rfl) (by(try dsimp only);skip) (fun hHeld=>?_);refine tk 0 ?_;refine tk 1 ?_;refine tk 2 ?_;refine tk 3 ?_;refine tk 4 ?_;refine tk 6 ?_;refine tk 7 ?_;refine tk 8 ?_;refine tk 9 ?_;refine tk 10 ?_;have c1:=fJ.ag 0 rfl;have hlt1:=fJ.lt;have hne:∀i,v1.ownBlock=some i→i≠g:=aR fz fJ (fj ht);obtain⟨i0,hi0,hz0,hz1,hz2⟩:=iH jg;have hlen:(l++leB n j).length≤200000:=by rw[bX,bJ];omega
   obtain⟨N,hN⟩:∃N,(l++leB n j).length=N:=⟨_,rfl⟩;rw[hN]at fz hlen;have HNN:=ae hN;clear hN;have hsz:B≤wr.heap.size:=by have:=hS1.out.size;omega
   have hbW:Below wr.heap.size wr (wr.drew.alloc (.cells #[aj (bQ n j)] 5)):=((ax _ wr).drew.alloc (ai _) _);have HW:=ae (aq (F:=fun _=>False) (aN hbW) fz (fun _ _=>id));have xu:=ae fJ;have nI:=ae hS1;have fC:=ae hbW;have c1a:=(sd wr (.cells #[aj (bQ n j)] 5) ⟨g,0,none⟩ hlt1).trans c1;clear fz fJ hS1 hbW;refine fU (rs:=[5,11]) (by kernel_rfl) (by simp) ?_;refine ca rfl (fun K hK=>?_) (ca rfl (fun K hK=>?_) fT)
   ·go_simp;refine hK.out _ _ trivial (fun hHeld=>?_);clear hK K;refine rd 11 fun K hK=>?_;go_simp;refine hK.out _ _ trivial (fun hHeld=>?_);clear hK K;refine rd 12 fun K hK=>?_;rw[aB (by rfl)];refine oe _ (.tmp 16) (.tmp 22) 26 rfl B 5 i0 _ 1 1 eU hi0 hz0 hz1 hz2 rfl (by omega) v1 N _ rfl HW.out ⟨wr.drew.heap.size,0,none⟩ 1 1 [aj (bQ n j)] rfl rfl (ia (cs:=#[aj (bQ n j)]) (t:=5) (fr:=(0,0)) (bC wr.drew _)) (by simp[Value.oneCell'])
     (by omega) (by unfold maxLen;omega) (by omega) (by simp;omega) (wr.heap.size+1) (size_alloc _ _) ?_
    intro g3 pB w2 hO2 hg2 ue hlt2;obtain⟨q1,q2⟩:=sB fC.out hg2 xu.out (fun e=>hne g e rfl) (v':=.slice (some ⟨g3,0,none⟩) (N+1) pB) (fun i hi=>by
     have hi2:g3=i:=by simpa[Value.ownBlock]using hi
     subst hi2;exact ue.imp id (fun e=>e.trans (size_alloc _ _).symm))
    have cc:ah w2 g t #[v1]:=(hg2.block g (kK hlt1 fC.out.size) (fun e=>hne g e.symm rfl)).trans ((fC.out.block g hlt1).trans xu.out);have c2:=cc.ag 0 rfl;have f2:=cc.frozen 0;have hO3:=ae (aq (F:=fun i=>i=g) (bk (v:=.slice (some ⟨g3,0,none⟩) (N+1) pB) (i:=0) rfl) hO2 (aR hO2 cc (fj ht)));refine hK.out _ _ trivial (fun hHeld=>?_);clear hK K;refine tk 13 ?_;refine tk 14 ?_;refine tk 15 ?_;refine rd 16 fun K hK=>?_;go_simp;refine hK.out _ _ trivial (fun hHeld=>?_);clear hK K;refine aT ?_;go_wp2_with fail;go_roundw
    case rel =>
     refine⟨j+1,_,by omega,by simp,q1,?_,nI.out.trans q2⟩;have h:=hO3.out;rw[f_.out,←fS,bX (bs:=[bQ n j]),HNN.out,cK (l₂:=[bQ n j])];exact h
    case measure=>simp[intOf];omega
   ·go_simp;refine hK.out _ _ trivial (fun hHeld=>?_);clear hK K;refine rd 5 fun K hK=>?_;go_simp;refine hK.out _ _ trivial (fun hHeld=>?_);clear hK K;refine rd 12 fun K hK=>?_;rw[aB (by rfl)];refine oe _ (.tmp 16) (.tmp 22) 26 rfl B 5 i0 _ 1 1 eU hi0 hz0 hz1 hz2 rfl (by omega) v1 N _ rfl HW.out ⟨wr.drew.heap.size,0,none⟩ 1 1 [aj (bQ n j)] rfl rfl (ia (cs:=#[aj (bQ n j)]) (t:=5) (fr:=(0,0)) (bC wr.drew _)) (by simp[Value.oneCell'])
     (by omega) (by unfold maxLen;omega) (by omega) (by simp;omega) (wr.heap.size+1) (size_alloc _ _) ?_
    intro g3 pB w2 hO2 hg2 ue hlt2;obtain⟨q1,q2⟩:=sB fC.out hg2 xu.out (fun e=>hne g e rfl) (v':=.slice (some ⟨g3,0,none⟩) (N+1) pB) (fun i hi=>by
     have hi2:g3=i:=by simpa[Value.ownBlock]using hi
     subst hi2;exact ue.imp id (fun e=>e.trans (size_alloc _ _).symm))
    have cc:ah w2 g t #[v1]:=(hg2.block g (kK hlt1 fC.out.size) (fun e=>hne g e.symm rfl)).trans ((fC.out.block g hlt1).trans xu.out);have c2:=cc.ag 0 rfl;have f2:=cc.frozen 0;have hO3:=ae (aq (F:=fun i=>i=g) (bk (v:=.slice (some ⟨g3,0,none⟩) (N+1) pB) (i:=0) rfl) hO2 (aR hO2 cc (fj ht)));refine hK.out _ _ trivial (fun hHeld=>?_);clear hK K;refine tk 13 ?_;refine tk 14 ?_;refine tk 15 ?_;refine rd 16 fun K hK=>?_;go_simp;refine hK.out _ _ trivial (fun hHeld=>?_);clear hK K;refine aT ?_;go_wp2_with fail;go_roundw
    case rel =>
     refine⟨j+1,_,by omega,by simp,q1,?_,nI.out.trans q2⟩;have h:=hO3.out;rw[f_.out,←fS,bX (bs:=[bQ n j]),HNN.out,cK (l₂:=[bQ n j])];exact h
    case measure=>simp[intOf];omega
  ·obtain rfl:j=k:=by omega
   go_wp2_with fail;exact jE (v:=.tuple #[]) (by simp[results,Tryz.results103,go_sem]) rfl ⟨rfl,v1,fJ,fz,hS1⟩
def u64 (n:Int):Nat:=(n % 18446744073709551616).toNat
theorem ox (n:Int):((u64 n:Nat):Int)=n % 18446744073709551616:=by unfold u64;omega
theorem qv (n:Int):u64 n<18446744073709551616:=by unfold u64;omega
def cE (x:bx) (j:Nat):List UInt8:=(if 0<j then leB (u64 x.k) 1 else [])++((if 1<j then leB (u64 x.r) 1 else [])++((if 2<j then leB (u64 x.o) 2 else [])++((if 3<j then leB (u64 x.c) 4 else [])++((if 4<j then leB (u64 x.a) 4 else [])++(if 5<j then leB (u64 x.v) 8 else [])))))
def ly (x:bx):List UInt8:=cE x 6
theorem Kn (x:bx):(ly x).length=20:=by simp[ly,cE,bJ]
def kI:Array Value:=#[.int .i64 1,.func (.func 153) #[] #[],.func (.func 154) #[] #[],.int .i64 1,.func (.func 155) #[] #[],.func (.func 156) #[] #[],.int .i64 2,.func (.func 157) #[] #[],.func (.func 158) #[] #[],.int .i64 4,.func (.func 159) #[] #[],.func (.func 160) #[] #[],.int .i64 4,.func (.func 161) #[] #[],.func (.func 162) #[] #[],.int .i64 8,.func (.func 163) #[] #[],.func (.func 164) #[] #[]]
theorem Es (w:World):Calls Tryz.prog 140 #[] w fun e w'=>e=.returned (.agg kI)∧Below w.heap.size w w':=by
 have hi:(Tryz.prog.info? 252).map (·.size)=some kI.size:=by kernel_rfl
 have h1:kI.all (·.oneCell')=true:=by kernel_rfl
 go_enter Tryz.func140,Tryz.ntmps140
 go_wp2_with (refine aQ rfl 252 _ _ rfl w.heap.size kI rfl rfl 252 _ (bC w _) hi rfl h1 ?_;rw[di])
 exact bc (v:=.agg kI) (mo Tryz.results140 _ _ w.heap.size 252 kI (0,0) _ rfl (IW _ _) Tryz.underlying252 rfl (by kernel_rfl)) rfl ⟨rfl,(ax _ w).alloc (ai _) _⟩
theorem NM (w:World):(Instr.index 252 (.agg kI) (.int .i64 0)).run Tryz.prog w=.ok (.agg #[.int .i64 1,.func (.func 153) #[] #[],.func (.func 154) #[] #[]]) w:=by kernel_rfl
theorem NN (w:World):(Instr.index 252 (.agg kI) (.int .i64 1)).run Tryz.prog w=.ok (.agg #[.int .i64 1,.func (.func 155) #[] #[],.func (.func 156) #[] #[]]) w:=by kernel_rfl
theorem NO (w:World):(Instr.index 252 (.agg kI) (.int .i64 2)).run Tryz.prog w=.ok (.agg #[.int .i64 2,.func (.func 157) #[] #[],.func (.func 158) #[] #[]]) w:=by kernel_rfl
theorem NP (w:World):(Instr.index 252 (.agg kI) (.int .i64 3)).run Tryz.prog w=.ok (.agg #[.int .i64 4,.func (.func 159) #[] #[],.func (.func 160) #[] #[]]) w:=by kernel_rfl
theorem NQ (w:World):(Instr.index 252 (.agg kI) (.int .i64 4)).run Tryz.prog w=.ok (.agg #[.int .i64 4,.func (.func 161) #[] #[],.func (.func 162) #[] #[]]) w:=by kernel_rfl
theorem NR (w:World):(Instr.index 252 (.agg kI) (.int .i64 5)).run Tryz.prog w=.ok (.agg #[.int .i64 8,.func (.func 163) #[] #[],.func (.func 164) #[] #[]]) w:=by kernel_rfl
theorem ahL (x:bx) (g:Nat) (t:TypeId) (w:World) (h:ah w g t x.cells.toArray):Calls Tryz.prog 153 #[ptr g] w fun e w'=>e=.returned (.int .u64 (u64 x.k))∧w=w':=by
 have c:w.cell? ⟨g,0,none⟩=some (.int .i64 x.k):=h.ag 0 rfl;have hw:IntKind.u64.wrap x.k=(u64 x.k:Int):=by rw[nw,ox]
 unfold ptr;clear h;go_enter Tryz.func153,Tryz.ntmps153
 go_wp2_with fail;go_ret
 exact⟨rfl,rfl⟩
theorem ahM (x:bx) (g:Nat) (t:TypeId) (w:World) (h:ah w g t x.cells.toArray):Calls Tryz.prog 155 #[ptr g] w fun e w'=>e=.returned (.int .u64 (u64 x.r))∧w=w':=by
 have c:w.cell? ⟨g,4,none⟩=some (.int .i64 x.r):=h.ag 4 rfl;have hw:IntKind.u64.wrap x.r=(u64 x.r:Int):=by rw[nw,ox]
 unfold ptr;clear h;go_enter Tryz.func155,Tryz.ntmps155
 go_wp2_with fail;go_ret
 exact⟨rfl,rfl⟩
theorem ahN (x:bx) (g:Nat) (t:TypeId) (w:World) (h:ah w g t x.cells.toArray):Calls Tryz.prog 157 #[ptr g] w fun e w'=>e=.returned (.int .u64 (u64 x.o))∧w=w':=by
 have c:w.cell? ⟨g,1,none⟩=some (.int .i64 x.o):=h.ag 1 rfl;have hw:IntKind.u64.wrap x.o=(u64 x.o:Int):=by rw[nw,ox]
 unfold ptr;clear h;go_enter Tryz.func157,Tryz.ntmps157
 go_wp2_with fail;go_ret
 exact⟨rfl,rfl⟩
theorem ahO (x:bx) (g:Nat) (t:TypeId) (w:World) (h:ah w g t x.cells.toArray):Calls Tryz.prog 159 #[ptr g] w fun e w'=>e=.returned (.int .u64 (u64 x.c))∧w=w':=by
 have c:w.cell? ⟨g,2,none⟩=some (.int .i64 x.c):=h.ag 2 rfl;have hw:IntKind.u64.wrap x.c=(u64 x.c:Int):=by rw[nw,ox]
 unfold ptr;clear h;go_enter Tryz.func159,Tryz.ntmps159
 go_wp2_with fail;go_ret
 exact⟨rfl,rfl⟩
theorem ahP (x:bx) (g:Nat) (t:TypeId) (w:World) (h:ah w g t x.cells.toArray):Calls Tryz.prog 161 #[ptr g] w fun e w'=>e=.returned (.int .u64 (u64 x.a))∧w=w':=by
 have c:w.cell? ⟨g,3,none⟩=some (.int .i64 x.a):=h.ag 3 rfl;have hw:IntKind.u64.wrap x.a=(u64 x.a:Int):=by rw[nw,ox]
 unfold ptr;clear h;go_enter Tryz.func161,Tryz.ntmps161
 go_wp2_with fail;go_ret
 exact⟨rfl,rfl⟩
theorem ahQ (x:bx) (g:Nat) (t:TypeId) (w:World) (h:ah w g t x.cells.toArray):Calls Tryz.prog 163 #[ptr g] w fun e w'=>e=.returned (.int .u64 (u64 x.v))∧w=w':=by
 have c:w.cell? ⟨g,5,none⟩=some (.int .i64 x.v):=h.ag 5 rfl;have hw:IntKind.u64.wrap x.v=(u64 x.v:Int):=by rw[nw,ox]
 unfold ptr;clear h;go_enter Tryz.func163,Tryz.ntmps163
 go_wp2_with fail;go_ret
 exact⟨rfl,rfl⟩
theorem gK:(Tryz.prog.info? 251).map (·.size)=some 3:=by kernel_rfl
theorem VR (g B:Nat) (x:bx) (t:TypeId) (v:Value) (l:List UInt8) (w:World) (hc:ah w g t #[v]) (ht:t≠5) (ht2:t≠251) (ho:w.ownsRow B 5 1 v l.length (l.map aj)) (hl:l.length≤50000) (hB:B≤w.heap.size) :
 Calls Tryz.prog 104 #[ptr g,.agg x.cells.toArray] w fun e w'=>e=.returned (.tuple #[])∧∃v',ah w' g t #[v']∧w'.ownsRow B 5 1 v' (l++ly x).length ((l++ly x).map aj)∧cM g v v' w w':=by
 have HO:=ae ho;have HC:=ae hc;have hlt:=hc.lt;have hne:g≠w.heap.size:=xc hlt;unfold ptr;clear ho hc;obtain⟨X,eX⟩:∃X,X=x.cells.toArray:=⟨_,rfl⟩;rw[←eX];have oZ:=ae eX;clear eX;go_enter Tryz.func104,Tryz.ntmps104
 go_wp2_with fail;refine(Es _).mono ?_;rintro e w1 ⟨rfl,hb⟩;have hb1:Below w.heap.size w w1:=((ax _ w).alloc (ai _) _).trans (hb.mono (by simp));have hK:ah w1 w.heap.size 58 X:=(ah.new w _ _).below hb (by simp);go_wp2_with fail;go_loopw [7] (fun i wr=>∃ (j:Nat) (v':Value),j≤6∧i=.int .i64 (j:Int)∧ah wr g t #[v']∧wr.ownsRow B 5 1 v' (l++cE x j).length ((l++cE x j).map aj)∧cM g v v' w wr∧ah wr w.heap.size 58 X) (fun i _=>6-(intOf i).toNat)
 case atStart=>exact⟨0,v,fi _,rfl,HC.out.below hb1 hlt,by simpa[cE]using aq (F:=fun _=>False) (aN hb1) HO.out (fun _ _=>id),(cM.refl _ _ _).last hb1,hK⟩
 case round =>
  obtain⟨j,v1,hj,rfl,fJ,fz,hS1,hK1⟩:=hrel;by_cases ahR:j<6
  ·have hcs:j=0∨j=1∨j=2∨j=3∨j=4∨j=5:=by omega
   rcases hcs with rfl | rfl | rfl | rfl | rfl | rfl
   ·have hix:=NM;have h1:(#[.int .i64 1,.func (.func 153) #[] #[],.func (.func 154) #[] #[]]:Array Value).all (·.oneCell')=true:=by kernel_rfl
    go_upto_region 4 with (refine aQ rfl 251 _ _ rfl wr.heap.size #[.int .i64 1,.func (.func 153) #[] #[],.func (.func 154) #[] #[]] rfl rfl 251 _ (bC wr _) gK rfl h1 ?_;rw[di])
    have iZ:=fJ.lt;have fK:=ae (ah.new wr 251 #[.int .i64 1,.func (.func 153) #[] #[],.func (.func 154) #[] #[]]);have i_:=ae (fJ.alloc (.cells #[.int .i64 1,.func (.func 153) #[] #[],.func (.func 154) #[] #[]] 251));have k_:=ae (hK1.alloc (.cells #[.int .i64 1,.func (.func 153) #[] #[],.func (.func 154) #[] #[]] 251));have HOW:=ae (aq (F:=fun _=>False) (aN ((ax _ wr).alloc (ai _) (.cells #[.int .i64 1,.func (.func 153) #[] #[],.func (.func 154) #[] #[]] 251)).drew) fz (fun _ _=>id));have fC:=ae ((ax _ wr).alloc (ai _) (.cells #[.int .i64 1,.func (.func 153) #[] #[],.func (.func 154) #[] #[]] 251)).drew;have fg:=ae (And.intro (fK.out.drew.ag 0 rfl) (fK.out.drew.ag 1 rfl));have ti:=ae (show(l++cE x 0).length≤100000 by simp[cE,bJ];omega);have jw:=ae (show B≤(wr.alloc (.cells #[.int .i64 1,.func (.func 153) #[] #[],.func (.func 154) #[] #[]] 251)).drew.heap.size by have:=hS1.out.size;have:=fC.out.size;omega);have nI:=ae hS1;have Ay:=ae (show l++cE x 1=(l++cE x 0)++leB (u64 x.k) 1 by simp[cE]);clear fJ fz hS1 hK1 h1;refine bF (S:=(fun w'=>w'.cell? ⟨wr.heap.size,0,none⟩=some (.int .i64 1)∧w'.cell? ⟨wr.heap.size,1,none⟩=some (.func (.func 153) #[] #[]))) (by kernel_rfl) (by(try dsimp only);(first | exact fg.out | exact⟨dK.ag 0 rfl,dK.ag 1 rfl⟩)) (fun hHeld=>?_);refine tk 0 ?_;refine tk 1 ?_;refine tk 2 ?_;refine tk 4 ?_;refine tk 5 ?_;refine rd 3 fun K hK=>?_;go_simp
    (refine(ahL x w.heap.size _ _ (by rw[←oZ.out];exact k_.out.drew)).mono ?_;rintro e w' ⟨rfl,rfl⟩)
    go_wp2_with fail;refine hK.out _ _ (by(try dsimp only);(first | exact fg.out | exact⟨dK.ag 0 rfl,dK.ag 1 rfl⟩)) (fun hHeld=>?_);clear hK K;refine rd 6 fun K hK=>?_;go_simp
    (refine(iW g B (u64 x.k) 1 t v1 (l++cE x 0) _ (by omega) (qv _) i_.out.drew ht HOW.out ti.out jw.out).mono ?_;rintro e w2 ⟨rfl,v2,hC2,hO2,hS2⟩;have dK:=hS2.blk i_.out.drew HOW.out fK.out.drew (lO iZ) (by decide))
    go_wp2_with fail;refine hK.out _ _ (by(try dsimp only);(first | exact fg.out | exact⟨dK.ag 0 rfl,dK.ag 1 rfl⟩)) (fun hHeld=>?_);clear hK K;refine aT ?_;go_wp2_with fail;go_roundw
    case rel=>exact⟨1,v2,by omega,rfl,hC2,by rw[Ay.out];exact hO2,nI.out.trans (hS2.first fC.out),hS2.blk i_.out.drew HOW.out k_.out.drew (by omega) (by decide)⟩
    case measure=>simp[intOf]
   ·have hix:=NN;have h1:(#[.int .i64 1,.func (.func 155) #[] #[],.func (.func 156) #[] #[]]:Array Value).all (·.oneCell')=true:=by kernel_rfl
    go_upto_region 4 with (refine aQ rfl 251 _ _ rfl wr.heap.size #[.int .i64 1,.func (.func 155) #[] #[],.func (.func 156) #[] #[]] rfl rfl 251 _ (bC wr _) gK rfl h1 ?_;rw[di])
    have iZ:=fJ.lt;have fK:=ae (ah.new wr 251 #[.int .i64 1,.func (.func 155) #[] #[],.func (.func 156) #[] #[]]);have i_:=ae (fJ.alloc (.cells #[.int .i64 1,.func (.func 155) #[] #[],.func (.func 156) #[] #[]] 251));have k_:=ae (hK1.alloc (.cells #[.int .i64 1,.func (.func 155) #[] #[],.func (.func 156) #[] #[]] 251));have HOW:=ae (aq (F:=fun _=>False) (aN ((ax _ wr).alloc (ai _) (.cells #[.int .i64 1,.func (.func 155) #[] #[],.func (.func 156) #[] #[]] 251)).drew) fz (fun _ _=>id));have fC:=ae ((ax _ wr).alloc (ai _) (.cells #[.int .i64 1,.func (.func 155) #[] #[],.func (.func 156) #[] #[]] 251)).drew;have fg:=ae (And.intro (fK.out.drew.ag 0 rfl) (fK.out.drew.ag 1 rfl));have ti:=ae (show(l++cE x 1).length≤100000 by simp[cE,bJ];omega);have jw:=ae (show B≤(wr.alloc (.cells #[.int .i64 1,.func (.func 155) #[] #[],.func (.func 156) #[] #[]] 251)).drew.heap.size by have:=hS1.out.size;have:=fC.out.size;omega);have nI:=ae hS1;have Ay:=ae (show l++cE x 2=(l++cE x 1)++leB (u64 x.r) 1 by simp[cE]);clear fJ fz hS1 hK1 h1;refine bF (S:=(fun w'=>w'.cell? ⟨wr.heap.size,0,none⟩=some (.int .i64 1)∧w'.cell? ⟨wr.heap.size,1,none⟩=some (.func (.func 155) #[] #[]))) (by kernel_rfl) (by(try dsimp only);(first | exact fg.out | exact⟨dK.ag 0 rfl,dK.ag 1 rfl⟩)) (fun hHeld=>?_);refine tk 0 ?_;refine tk 1 ?_;refine tk 2 ?_;refine tk 4 ?_;refine tk 5 ?_;refine rd 3 fun K hK=>?_;go_simp
    (refine(ahM x w.heap.size _ _ (by rw[←oZ.out];exact k_.out.drew)).mono ?_;rintro e w' ⟨rfl,rfl⟩)
    go_wp2_with fail;refine hK.out _ _ (by(try dsimp only);(first | exact fg.out | exact⟨dK.ag 0 rfl,dK.ag 1 rfl⟩)) (fun hHeld=>?_);clear hK K;refine rd 6 fun K hK=>?_;go_simp
    (refine(iW g B (u64 x.r) 1 t v1 (l++cE x 1) _ (by omega) (qv _) i_.out.drew ht HOW.out ti.out jw.out).mono ?_;rintro e w2 ⟨rfl,v2,hC2,hO2,hS2⟩;have dK:=hS2.blk i_.out.drew HOW.out fK.out.drew (lO iZ) (by decide))
    go_wp2_with fail;refine hK.out _ _ (by(try dsimp only);(first | exact fg.out | exact⟨dK.ag 0 rfl,dK.ag 1 rfl⟩)) (fun hHeld=>?_);clear hK K;refine aT ?_;go_wp2_with fail;go_roundw
    case rel=>exact⟨2,v2,by omega,rfl,hC2,by rw[Ay.out];exact hO2,nI.out.trans (hS2.first fC.out),hS2.blk i_.out.drew HOW.out k_.out.drew (by omega) (by decide)⟩
    case measure=>simp[intOf]
   ·have hix:=NO;have h1:(#[.int .i64 2,.func (.func 157) #[] #[],.func (.func 158) #[] #[]]:Array Value).all (·.oneCell')=true:=by kernel_rfl
    go_upto_region 4 with (refine aQ rfl 251 _ _ rfl wr.heap.size #[.int .i64 2,.func (.func 157) #[] #[],.func (.func 158) #[] #[]] rfl rfl 251 _ (bC wr _) gK rfl h1 ?_;rw[di])
    have iZ:=fJ.lt;have fK:=ae (ah.new wr 251 #[.int .i64 2,.func (.func 157) #[] #[],.func (.func 158) #[] #[]]);have i_:=ae (fJ.alloc (.cells #[.int .i64 2,.func (.func 157) #[] #[],.func (.func 158) #[] #[]] 251));have k_:=ae (hK1.alloc (.cells #[.int .i64 2,.func (.func 157) #[] #[],.func (.func 158) #[] #[]] 251));have HOW:=ae (aq (F:=fun _=>False) (aN ((ax _ wr).alloc (ai _) (.cells #[.int .i64 2,.func (.func 157) #[] #[],.func (.func 158) #[] #[]] 251)).drew) fz (fun _ _=>id));have fC:=ae ((ax _ wr).alloc (ai _) (.cells #[.int .i64 2,.func (.func 157) #[] #[],.func (.func 158) #[] #[]] 251)).drew;have fg:=ae (And.intro (fK.out.drew.ag 0 rfl) (fK.out.drew.ag 1 rfl));have ti:=ae (show(l++cE x 2).length≤100000 by simp[cE,bJ];omega);have jw:=ae (show B≤(wr.alloc (.cells #[.int .i64 2,.func (.func 157) #[] #[],.func (.func 158) #[] #[]] 251)).drew.heap.size by have:=hS1.out.size;have:=fC.out.size;omega);have nI:=ae hS1;have Ay:=ae (show l++cE x 3=(l++cE x 2)++leB (u64 x.o) 2 by simp[cE]);clear fJ fz hS1 hK1 h1;refine bF (S:=(fun w'=>w'.cell? ⟨wr.heap.size,0,none⟩=some (.int .i64 2)∧w'.cell? ⟨wr.heap.size,1,none⟩=some (.func (.func 157) #[] #[]))) (by kernel_rfl) (by(try dsimp only);(first | exact fg.out | exact⟨dK.ag 0 rfl,dK.ag 1 rfl⟩)) (fun hHeld=>?_);refine tk 0 ?_;refine tk 1 ?_;refine tk 2 ?_;refine tk 4 ?_;refine tk 5 ?_;refine rd 3 fun K hK=>?_;go_simp
    (refine(ahN x w.heap.size _ _ (by rw[←oZ.out];exact k_.out.drew)).mono ?_;rintro e w' ⟨rfl,rfl⟩)
    go_wp2_with fail;refine hK.out _ _ (by(try dsimp only);(first | exact fg.out | exact⟨dK.ag 0 rfl,dK.ag 1 rfl⟩)) (fun hHeld=>?_);clear hK K;refine rd 6 fun K hK=>?_;go_simp
    (refine(iW g B (u64 x.o) 2 t v1 (l++cE x 2) _ (by omega) (qv _) i_.out.drew ht HOW.out ti.out jw.out).mono ?_;rintro e w2 ⟨rfl,v2,hC2,hO2,hS2⟩;have dK:=hS2.blk i_.out.drew HOW.out fK.out.drew (lO iZ) (by decide))
    go_wp2_with fail;refine hK.out _ _ (by(try dsimp only);(first | exact fg.out | exact⟨dK.ag 0 rfl,dK.ag 1 rfl⟩)) (fun hHeld=>?_);clear hK K;refine aT ?_;go_wp2_with fail;go_roundw
    case rel=>exact⟨3,v2,by omega,rfl,hC2,by rw[Ay.out];exact hO2,nI.out.trans (hS2.first fC.out),hS2.blk i_.out.drew HOW.out k_.out.drew (by omega) (by decide)⟩
    case measure=>simp[intOf]
   ·have hix:=NP;have h1:(#[.int .i64 4,.func (.func 159) #[] #[],.func (.func 160) #[] #[]]:Array Value).all (·.oneCell')=true:=by kernel_rfl
    go_upto_region 4 with (refine aQ rfl 251 _ _ rfl wr.heap.size #[.int .i64 4,.func (.func 159) #[] #[],.func (.func 160) #[] #[]] rfl rfl 251 _ (bC wr _) gK rfl h1 ?_;rw[di])
    have iZ:=fJ.lt;have fK:=ae (ah.new wr 251 #[.int .i64 4,.func (.func 159) #[] #[],.func (.func 160) #[] #[]]);have i_:=ae (fJ.alloc (.cells #[.int .i64 4,.func (.func 159) #[] #[],.func (.func 160) #[] #[]] 251));have k_:=ae (hK1.alloc (.cells #[.int .i64 4,.func (.func 159) #[] #[],.func (.func 160) #[] #[]] 251));have HOW:=ae (aq (F:=fun _=>False) (aN ((ax _ wr).alloc (ai _) (.cells #[.int .i64 4,.func (.func 159) #[] #[],.func (.func 160) #[] #[]] 251)).drew) fz (fun _ _=>id));have fC:=ae ((ax _ wr).alloc (ai _) (.cells #[.int .i64 4,.func (.func 159) #[] #[],.func (.func 160) #[] #[]] 251)).drew;have fg:=ae (And.intro (fK.out.drew.ag 0 rfl) (fK.out.drew.ag 1 rfl));have ti:=ae (show(l++cE x 3).length≤100000 by simp[cE,bJ];omega);have jw:=ae (show B≤(wr.alloc (.cells #[.int .i64 4,.func (.func 159) #[] #[],.func (.func 160) #[] #[]] 251)).drew.heap.size by have:=hS1.out.size;have:=fC.out.size;omega);have nI:=ae hS1;have Ay:=ae (show l++cE x 4=(l++cE x 3)++leB (u64 x.c) 4 by simp[cE]);clear fJ fz hS1 hK1 h1;refine bF (S:=(fun w'=>w'.cell? ⟨wr.heap.size,0,none⟩=some (.int .i64 4)∧w'.cell? ⟨wr.heap.size,1,none⟩=some (.func (.func 159) #[] #[]))) (by kernel_rfl) (by(try dsimp only);(first | exact fg.out | exact⟨dK.ag 0 rfl,dK.ag 1 rfl⟩)) (fun hHeld=>?_);refine tk 0 ?_;refine tk 1 ?_;refine tk 2 ?_;refine tk 4 ?_;refine tk 5 ?_;refine rd 3 fun K hK=>?_;go_simp
    (refine(ahO x w.heap.size _ _ (by rw[←oZ.out];exact k_.out.drew)).mono ?_;rintro e w' ⟨rfl,rfl⟩)
    go_wp2_with fail;refine hK.out _ _ (by(try dsimp only);(first | exact fg.out | exact⟨dK.ag 0 rfl,dK.ag 1 rfl⟩)) (fun hHeld=>?_);clear hK K;refine rd 6 fun K hK=>?_;go_simp
    (refine(iW g B (u64 x.c) 4 t v1 (l++cE x 3) _ (by omega) (qv _) i_.out.drew ht HOW.out ti.out jw.out).mono ?_;rintro e w2 ⟨rfl,v2,hC2,hO2,hS2⟩;have dK:=hS2.blk i_.out.drew HOW.out fK.out.drew (lO iZ) (by decide))
    go_wp2_with fail;refine hK.out _ _ (by(try dsimp only);(first | exact fg.out | exact⟨dK.ag 0 rfl,dK.ag 1 rfl⟩)) (fun hHeld=>?_);clear hK K;refine aT ?_;go_wp2_with fail;go_roundw
    case rel=>exact⟨4,v2,by omega,rfl,hC2,by rw[Ay.out];exact hO2,nI.out.trans (hS2.first fC.out),hS2.blk i_.out.drew HOW.out k_.out.drew (by omega) (by decide)⟩
    case measure=>simp[intOf]
   ·have hix:=NQ;have h1:(#[.int .i64 4,.func (.func 161) #[] #[],.func (.func 162) #[] #[]]:Array Value).all (·.oneCell')=true:=by kernel_rfl
    go_upto_region 4 with (refine aQ rfl 251 _ _ rfl wr.heap.size #[.int .i64 4,.func (.func 161) #[] #[],.func (.func 162) #[] #[]] rfl rfl 251 _ (bC wr _) gK rfl h1 ?_;rw[di])
    have iZ:=fJ.lt;have fK:=ae (ah.new wr 251 #[.int .i64 4,.func (.func 161) #[] #[],.func (.func 162) #[] #[]]);have i_:=ae (fJ.alloc (.cells #[.int .i64 4,.func (.func 161) #[] #[],.func (.func 162) #[] #[]] 251));have k_:=ae (hK1.alloc (.cells #[.int .i64 4,.func (.func 161) #[] #[],.func (.func 162) #[] #[]] 251));have HOW:=ae (aq (F:=fun _=>False) (aN ((ax _ wr).alloc (ai _) (.cells #[.int .i64 4,.func (.func 161) #[] #[],.func (.func 162) #[] #[]] 251)).drew) fz (fun _ _=>id));have fC:=ae ((ax _ wr).alloc (ai _) (.cells #[.int .i64 4,.func (.func 161) #[] #[],.func (.func 162) #[] #[]] 251)).drew;have fg:=ae (And.intro (fK.out.drew.ag 0 rfl) (fK.out.drew.ag 1 rfl));have ti:=ae (show(l++cE x 4).length≤100000 by simp[cE,bJ];omega);have jw:=ae (show B≤(wr.alloc (.cells #[.int .i64 4,.func (.func 161) #[] #[],.func (.func 162) #[] #[]] 251)).drew.heap.size by have:=hS1.out.size;have:=fC.out.size;omega);have nI:=ae hS1;have Ay:=ae (show l++cE x 5=(l++cE x 4)++leB (u64 x.a) 4 by simp[cE]);clear fJ fz hS1 hK1 h1;refine bF (S:=(fun w'=>w'.cell? ⟨wr.heap.size,0,none⟩=some (.int .i64 4)∧w'.cell? ⟨wr.heap.size,1,none⟩=some (.func (.func 161) #[] #[]))) (by kernel_rfl) (by(try dsimp only);(first | exact fg.out | exact⟨dK.ag 0 rfl,dK.ag 1 rfl⟩)) (fun hHeld=>?_);refine tk 0 ?_;refine tk 1 ?_;refine tk 2 ?_;refine tk 4 ?_;refine tk 5 ?_;refine rd 3 fun K hK=>?_;go_simp
    (refine(ahP x w.heap.size _ _ (by rw[←oZ.out];exact k_.out.drew)).mono ?_;rintro e w' ⟨rfl,rfl⟩)
    go_wp2_with fail;refine hK.out _ _ (by(try dsimp only);(first | exact fg.out | exact⟨dK.ag 0 rfl,dK.ag 1 rfl⟩)) (fun hHeld=>?_);clear hK K;refine rd 6 fun K hK=>?_;go_simp
    (refine(iW g B (u64 x.a) 4 t v1 (l++cE x 4) _ (by omega) (qv _) i_.out.drew ht HOW.out ti.out jw.out).mono ?_;rintro e w2 ⟨rfl,v2,hC2,hO2,hS2⟩;have dK:=hS2.blk i_.out.drew HOW.out fK.out.drew (lO iZ) (by decide))
    go_wp2_with fail;refine hK.out _ _ (by(try dsimp only);(first | exact fg.out | exact⟨dK.ag 0 rfl,dK.ag 1 rfl⟩)) (fun hHeld=>?_);clear hK K;refine aT ?_;go_wp2_with fail;go_roundw
    case rel=>exact⟨5,v2,by omega,rfl,hC2,by rw[Ay.out];exact hO2,nI.out.trans (hS2.first fC.out),hS2.blk i_.out.drew HOW.out k_.out.drew (by omega) (by decide)⟩
    case measure=>simp[intOf]
   ·have hix:=NR;have h1:(#[.int .i64 8,.func (.func 163) #[] #[],.func (.func 164) #[] #[]]:Array Value).all (·.oneCell')=true:=by kernel_rfl
    go_upto_region 4 with (refine aQ rfl 251 _ _ rfl wr.heap.size #[.int .i64 8,.func (.func 163) #[] #[],.func (.func 164) #[] #[]] rfl rfl 251 _ (bC wr _) gK rfl h1 ?_;rw[di])
    have iZ:=fJ.lt;have fK:=ae (ah.new wr 251 #[.int .i64 8,.func (.func 163) #[] #[],.func (.func 164) #[] #[]]);have i_:=ae (fJ.alloc (.cells #[.int .i64 8,.func (.func 163) #[] #[],.func (.func 164) #[] #[]] 251));have k_:=ae (hK1.alloc (.cells #[.int .i64 8,.func (.func 163) #[] #[],.func (.func 164) #[] #[]] 251));have HOW:=ae (aq (F:=fun _=>False) (aN ((ax _ wr).alloc (ai _) (.cells #[.int .i64 8,.func (.func 163) #[] #[],.func (.func 164) #[] #[]] 251)).drew) fz (fun _ _=>id));have fC:=ae ((ax _ wr).alloc (ai _) (.cells #[.int .i64 8,.func (.func 163) #[] #[],.func (.func 164) #[] #[]] 251)).drew;have fg:=ae (And.intro (fK.out.drew.ag 0 rfl) (fK.out.drew.ag 1 rfl));have ti:=ae (show(l++cE x 5).length≤100000 by simp[cE,bJ];omega);have jw:=ae (show B≤(wr.alloc (.cells #[.int .i64 8,.func (.func 163) #[] #[],.func (.func 164) #[] #[]] 251)).drew.heap.size by have:=hS1.out.size;have:=fC.out.size;omega);have nI:=ae hS1;have Ay:=ae (show l++cE x 6=(l++cE x 5)++leB (u64 x.v) 8 by simp[cE]);clear fJ fz hS1 hK1 h1;refine bF (S:=(fun w'=>w'.cell? ⟨wr.heap.size,0,none⟩=some (.int .i64 8)∧w'.cell? ⟨wr.heap.size,1,none⟩=some (.func (.func 163) #[] #[]))) (by kernel_rfl) (by(try dsimp only);(first | exact fg.out | exact⟨dK.ag 0 rfl,dK.ag 1 rfl⟩)) (fun hHeld=>?_);refine tk 0 ?_;refine tk 1 ?_;refine tk 2 ?_;refine tk 4 ?_;refine tk 5 ?_;refine rd 3 fun K hK=>?_;go_simp
    (refine(ahQ x w.heap.size _ _ (by rw[←oZ.out];exact k_.out.drew)).mono ?_;rintro e w' ⟨rfl,rfl⟩)
    go_wp2_with fail;refine hK.out _ _ (by(try dsimp only);(first | exact fg.out | exact⟨dK.ag 0 rfl,dK.ag 1 rfl⟩)) (fun hHeld=>?_);clear hK K;refine rd 6 fun K hK=>?_;go_simp
    (refine(iW g B (u64 x.v) 8 t v1 (l++cE x 5) _ (by omega) (qv _) i_.out.drew ht HOW.out ti.out jw.out).mono ?_;rintro e w2 ⟨rfl,v2,hC2,hO2,hS2⟩;have dK:=hS2.blk i_.out.drew HOW.out fK.out.drew (lO iZ) (by decide))
    go_wp2_with fail;refine hK.out _ _ (by(try dsimp only);(first | exact fg.out | exact⟨dK.ag 0 rfl,dK.ag 1 rfl⟩)) (fun hHeld=>?_);clear hK K;refine aT ?_;go_wp2_with fail;go_roundw
    case rel=>exact⟨6,v2,by omega,rfl,hC2,by rw[Ay.out];exact hO2,nI.out.trans (hS2.first fC.out),hS2.blk i_.out.drew HOW.out k_.out.drew (by omega) (by decide)⟩
    case measure=>simp[intOf]
  ·obtain rfl:j=6:=by omega
   go_wp2_with fail;exact jE (v:=.tuple #[]) (by simp[results,Tryz.results104,go_sem]) rfl ⟨rfl,v1,fJ,fz,hS1⟩
def js (b l:List UInt8):List UInt8:=l++b.drop l.length
theorem iP (b l:List UInt8) (h:l.length≤b.length):(js b l).length=b.length:=by simp[js];omega
def fA (l:List UInt8):List UInt8:=l++List.replicate (508-l.length) 0
theorem nJ (l:List UInt8) (h:l.length≤508):(fA l).length=508:=by simp[fA];omega
def bM (l:List UInt8):List UInt8:=dQ (fA l)
theorem eJ (l:List UInt8) (h:l.length≤508):(bM l).length=512:=by rw[bM,qo,nJ l h]
theorem NS (l:List UInt8) (h:l.length≤508):(js az l).take 508=fA l:=by
 unfold js fA az;rw[RN,List.take_append,dg h,List.take_replicate];congr 2
 omega
theorem GG (b l:List UInt8) (h:b.length=l.length):js b l=l:=by
 unfold js;rw[←h,IK,ny]
theorem lW (w:World) (g:Nat) (t:TypeId) (b0:List UInt8) (hg:ah w g t (b0.map aj).toArray) (B:Nat) (a:Option Addr) (m cap cap':Nat) (l:List UInt8) (hv:BytesIn w B (.slice a m cap) l) (hl:l.length≤b0.length) (ty:TypeId) :
 ∃w',(Builtin.copy_ #[26,26] ty #[.slice (some ⟨g,0,none⟩) b0.length cap',.slice a m cap]).run Tryz.prog w=.ok (goInt l.length) w'∧ah w' g t ((js b0 l).map aj).toArray∧Out (fun i=>i=g) w w':=by
 obtain⟨hm,a',cap2,e,hcap,hc⟩:=hv;injection e with e1 e2 e3
 subst e1;subst e2;cases a with
 | none =>
  have hl0:l=[]:=by
   cases l with
   | nil=>rfl
   | cons c l =>
    obtain⟨g,off,h,_⟩:=hc 0 c rfl;cases h
  subst hl0;refine⟨w,?_,by simpa[js]using hg,Out.refl _ _⟩;have:=run_copy_none (P:=Tryz.prog) w 26 26 ty 5 (some ⟨g,0,none⟩) none b0.length cap' 0 cap eU (by kernel_rfl) (by simp);exact this
 | some ad =>
  have hsrc:∀j u,(l.map aj)[j]? = some u→w.cell? (ad.add j)=some u:=by
   intro j u hj;rw[dV]at hj;obtain⟨c,hcj,rfl⟩:=iE.1 hj;obtain⟨g,off,h,_,hcell⟩:=hc j c hcj;obtain rfl:=gH h;rw[eP];exact hcell
  have hr:=Jk (P:=Tryz.prog) w 26 26 ty 5 g 0 b0.length cap' ad l.length cap (b0.map aj).toArray t (l.map aj) eU (by kernel_rfl) hg (by rw[cR];exact(oN hl).symm) hsrc (by simp;omega) (iV l);refine⟨_,by rw[cR]at hr;exact hr,?_,bL _ rfl⟩;have e:(js b0 l).map aj=(b0.map aj).toArray.toList.take 0++l.map aj++(b0.map aj).toArray.toList.drop (0+(l.map aj).length):=by
   simp[js,List.map_drop]
  rw[cR]at e;rw[e];exact hg.row _
theorem fq {w:World} {g:Nat} {t:TypeId} {b:List UInt8} (h:ah w g t (b.map aj).toArray) (n:Nat) (hn:n≤b.length) (hb:b.length≤maxLen):BytesIn w w.heap.size (.slice (some ⟨g,0,none⟩) n b.length) (b.take n):=by
 have hl:(b.take n).length=n:=by rw[bD];omega
 refine⟨by omega,_,b.length,by rw[hl],by omega,fun j c hj=>⟨g,0,rfl,h.lt,h.ag (0+j) ?_⟩⟩;rw[jd,cW,dV];rw[dU]at hj;split at hj
 ·rw[hj];rfl
 ·cases hj
theorem MR (g B:Nat) (t:TypeId) (v:Value) (l:List UInt8) (w:World) (hc:ah w g t #[v]) (ho:w.ownsRow B 5 1 v l.length (l.map aj)) (hl:l.length≤508) :
 Calls Tryz.prog 60 #[ptr g] w fun e w'=>e=.returned (aV (bM l))∧Below w.heap.size w w':=by
 obtain⟨a,cap,rfl⟩:=slice_form ho;have hU:=BytesIn.own ho;have HC:=ae hc;have hlt:=hc.lt;unfold ptr aV;clear hc ho;obtain⟨W,eW⟩:∃W,W=(w.alloc (.cells Tryz.zeroCells111 111)).alloc (.cells Tryz.zeroCells111 111):=⟨_,rfl⟩;have hbW:Below w.heap.size w W:=by rw[eW];exact((ax _ w).alloc (ai _) _).alloc (by simp) _
 have k0:ah W w.heap.size 111 (az.map aj).toArray:=by rw[eW,←bE];exact(ah.new w _ _).alloc _
 have k1:ah W (w.heap.size+1) 111 (az.map aj).toArray:=by rw[eW,←bE];exact ah.new2 w _ _ _
 have c1:=(HC.out.below hbW hlt).ag 0 rfl;have ft:=ae k0;have iT:=ae k1;have fC:=ae hbW;have HU:=ae (hU.below hbW (ai _));have hlc:l.length≤cap:=by
  obtain⟨_,a',cap',e,h,_⟩:=hU;cases e
  exact h
 clear k0 k1 hbW hU;go_enter Tryz.func60,Tryz.ntmps60
 go_upto_region 2 with fail;rw[←eW];clear eW;refine bF (S:=(fun w'=>w'.cell? ⟨g,0,none⟩=some (.slice a l.length cap))) (by kernel_rfl) (by(try dsimp only);(exact c1)) (fun hHeld=>?_);refine tk 0 ?_;refine tk 1 ?_;refine tk 2 ?_;refine tk 3 ?_;refine tk 4 ?_;refine tk 5 ?_;refine rd 6 fun K hK=>?_;rw[aB (by rfl)];obtain⟨W2,hr2,hk2,ho2⟩:=lW W.drew (w.heap.size+1) 111 az iT.out.drew w.heap.size a l.length cap 512 l HU.out (by show _≤512;omega) 3;refine Lib.wp_copy_run _ (.tmp 4) (.tmp 9) 26 26 rfl _ _ rfl rfl hr2 ?_;have hcg:ah W2 g t #[.slice a l.length cap]:=ho2.blk (HC.out.below fC.out hlt).drew (by omega);refine hK.out _ _ (hcg.ag 0 rfl) (fun hHeld=>?_);clear hK K;refine aT ?_;have iS:=ae hk2;have Ko:=ae (nJ l hl);have Kq:=fq hk2.drew 508 (by rw[iP _ _ (by show _≤512;omega)];decide) (by rw[iP _ _ (by show _≤512;omega)];decide);rw[NS l hl,iP _ _ (by show _≤512;omega)]at Kq;have Ee:=ae Kq;have ij:=ae ho2;clear hcg hk2 ho2 Kq;go_upto_region 3 with fail;refine bF (S:=(fun _=>True)) (by kernel_rfl) trivial (fun hHeld=>?_);refine tk 0 ?_;refine tk 1 ?_;refine rd 2 fun K hK=>?_;go_simp
 (refine(J9 _ (fA l) _ Ee.out (by rw[Ko.out];omega)).mono ?_;rintro e w4 ⟨u,rfl,hO4,hb4⟩;rw[Ko.out]at hO4;obtain⟨a4,cap4,rfl⟩:=slice_form hO4)
 go_wp2_with fail;refine hK.out _ _ trivial (fun hHeld=>?_);clear hK K;have hk4:=iS.out.drew.below hb4 iS.out.lt;have hs4:=qo (fA l);rw[Ko.out]at hs4;obtain⟨W5,vd,hk5,jh⟩:=lW w4 (w.heap.size+1) 111 (js az l) hk4 w4.heap.size a4 512 cap4 512 (dQ (fA l)) (BytesIn.own hO4) (by rw[hs4,iP _ _ (by show _≤512;omega)];decide) 3;rw[iP _ _ (by show _≤512;omega)]at vd;rw[GG _ _ (by rw[hs4,iP _ _ (by show _≤512;omega)];rfl)]at hk5;refine rd 3 fun K hK=>?_;rw[aB (by rfl)];refine Lib.wp_copy_run _ (.tmp 11) (.tmp 13) 26 26 rfl _ _ rfl rfl vd ?_;refine hK.out _ _ trivial (fun hHeld=>?_);clear hK K;refine aT ?_;have k0:ah W5 w.heap.size 111 (az.map aj).toArray:=jh.blk ((ij.out.blk ft.out.drew (by omega)).drew.below hb4 (ij.out.blk ft.out.drew (by omega)).lt) (by omega);have ve:=ae hk5;have hsl:(dQ (fA l)).length=512:=hs4;have Az:Below w.heap.size w W5:=by
  have h1:Below w.heap.size w W2:=fC.out.drew.trans (ij.out.below (by have:=fC.out.size;exact this) (fun i hi e=>by omega));have h2:Below w.heap.size w w4:=h1.drew.trans (hb4.mono (by have:=h1.size;exact this));exact h2.trans (jh.below (by have:=h2.size;exact this) (fun i hi e=>by omega))
 have uk:=ae Az;clear Az jh hk5;go_wp2_with (first
  | (refine bt rfl 111 _ rfl (w.heap.size+1) rfl 111 ((dQ (fA l)).map aj).toArray (0,0) _ ve.out dj rfl (aO _ hsl) ?_)
  | (refine aQ rfl 111 _ _ rfl w.heap.size ((dQ (fA l)).map aj).toArray rfl rfl 111 _ k0 (aO _ hsl) (bT _ _ et hsl) (bq _) ?_))
 exact bc (mo Tryz.results60 _ _ w.heap.size 111 _ (0,0) _ rfl (k0.row _) dj rfl (aO _ hsl)) rfl ⟨rfl,aA uk.out _ (ai _)⟩
def dL (o:aK):List UInt8:=leB (u64 o.kd) 4++leB (u64 o.ct) 4++leB (u64 o.cl) 4++o.slots.flatMap ly++o.bytes
theorem CY (l:List bx):(l.flatMap ly).length=20*l.length:=by
 induction l with
 | nil=>rfl
 | cons x l ih=>rw[zD,bX,Kn,ih,wP];omega
theorem my (o:aK) (ho:o.ok):(dL o).length=396:=by
 unfold dL;simp only[List.length_append,bJ,CY,ho.1,ho.2]
theorem xv {P:Program} {ops:Array Oper} {rest:List Oper} {o:Oper} {a:Act} {Q:Exit→Act→World→Prop} (w:World) (hgd:o.guard=none) (ty:TypeId) (x:Operand) (ho:o.op=.load ty x) (p v:Value) (hx:a.eval x=p)
 (hl:(Instr.loadAt ty p).run P w=.ok v w) (h:wpList P ops Q rest (a.put o.dst v) w):wpList P ops Q (o::rest) a w :=
 kP hgd fun _ hK=>by
  unfold Oper.wp execOp;simp only[ho,hx,hl,Sem.run_bind,Sem.run_pure,Result.andThen_ok];exact hK _ _ h
theorem GH (l:List bx) (j:Nat) (h:j<l.length):(l.take (j+1)).flatMap ly=(l.take j).flatMap ly++ly (l[j]'h):=by
 rw[gG,aY h,tK];simp
structure o_ (G:Nat) (w W:World) (cs:Array Value) (v:Value) (l:List UInt8):Prop where
 obj:ah W w.heap.size 62 cs
 res:ah W (w.heap.size+1) 111 (az.map aj).toArray
 out:ah W (w.heap.size+1+1) 111 (az.map aj).toArray
 box:ah W G 193 #[v]
 row:W.ownsRow G 5 1 v l.length (l.map aj)
 below:Below w.heap.size w W
 big:w.heap.size+3≤G
theorem o_.lt {G:Nat} {w W:World} {cs:Array Value} {v:Value} {l:List UInt8} (h:o_ G w W cs v l):G<W.heap.size:=h.box.lt
theorem o_.step {G:Nat} {w W W':World} {cs:Array Value} {v v':Value} {l l':List UInt8} (h:o_ G w W cs v l) (hs:cM G v v' W W') (hb:ah W' G 193 #[v']) (ho:W'.ownsRow G 5 1 v' l'.length (l'.map aj)):o_ G w W' cs v' l':=by
 have hg:=h.big;have hsz:=h.below.size;refine⟨hs.blk h.box h.row h.obj (by omega) (by decide),hs.blk h.box h.row h.res (by omega) (by decide),hs.blk h.box h.row h.out (by omega) (by decide),hb,ho,?_,hg⟩;exact h.below.trans (hs.out.below (by omega) (fun i hi hd=>hd.elim (fun e=>by omega) (fun e=>by have:=(h.row.lt i e).1;omega)))
theorem o_.far {G:Nat} {w W W':World} {cs:Array Value} {v:Value} {l:List UInt8} (h:o_ G w W cs v l) (hb:Below W.heap.size W W'):o_ G w W' cs v l :=
 ⟨h.obj.below hb h.obj.lt,h.res.below hb h.res.lt,h.out.below hb h.out.lt,h.box.below hb h.box.lt,aq (F:=fun _=>False) (aN hb) h.row (fun _ _=>id),h.below.trans (hb.mono h.below.size),h.big⟩
theorem Pc {w:World} {g:Nat} {o:aK} (ho:o.ok) (h:ah w g 62 o.cells.toArray):BytesIn w w.heap.size (.slice (some ⟨g,99,none⟩) 64 64) o.bytes:=by
 refine⟨by rw[ho.2];decide,_,64,by rw[ho.2],by rw[ho.2];exact ai _,fun j c hj=>⟨g,99,rfl,h.lt,h.ag (99+j) ?_⟩⟩;rw[jd];unfold aK.cells;rw[gl (by simp;omega),gl (by rw[cq,ho.1];simp;omega),cq,ho.1];rw[show 99+j - [Value.int IntKind.i64 o.kd,.int .i64 o.ct,.int .i64 o.cl].length-6*16=j by simp;omega,dV,hj];rfl
theorem VS (o:aK) (ho:o.ok) (n:Int) (w:World) (hy:fH o n=true) :
 Calls Tryz.prog 57 #[.agg o.cells.toArray,.int .i64 n] w fun e w'=>e=.returned (.tuple #[aV (bM (dL o)),.int .i64 0])∧Below w.heap.size w w':=by
 obtain⟨cs,ec⟩:∃cs,cs=o.cells.toArray:=⟨_,rfl⟩;rw[←ec];have HC:=ae (fun w=>tw o ho n w);rw[←ec]at HC;have qw:=ae ec;have hsz:(Tryz.prog.info? 62).map (·.size)=some cs.size:=by rw[ec,b',aK.len ho];kernel_rfl
 clear ec;go_enter Tryz.func57,Tryz.ntmps57
 go_upto_region 2 with fail;obtain⟨W,eW⟩:∃W,W=((w.alloc (.cells cs 62)).alloc (.cells Tryz.zeroCells111 111)).alloc (.cells Tryz.zeroCells111 111):=⟨_,rfl⟩;rw[←eW];have hbW:Below w.heap.size w W:=by rw[eW];exact(((ax _ w).alloc (ai _) _).alloc (by simp) _).alloc (by simp;omega) _
 have k0:ah W w.heap.size 62 cs:=by rw[eW];exact((ah.new w _ _).alloc _).alloc _
 have k1:ah W (w.heap.size+1) 111 (az.map aj).toArray:=by rw[eW,←bE];exact(ah.new2 w _ _ _).alloc _
 have k2:ah W (w.heap.size+1+1) 111 (az.map aj).toArray:=by rw[eW,←bE];exact ah.new' (by simp)
 clear eW;go_wp2_with (refine bt rfl 62 _ rfl w.heap.size rfl 62 cs (0,0) _ k0 dH rfl hsz ?_)
 refine(HC.out W).mono ?_;rintro e w1 ⟨rfl,hb1⟩;rw[hy];obtain⟨W1,Et⟩:∃W1,W1=w1.alloc (.cells #[.slice none 0 0] 193):=⟨_,rfl⟩;obtain⟨G,eG⟩:∃G,G=w1.heap.size:=⟨_,rfl⟩;have hWs:w.heap.size+3≤W.heap.size:=by have:=k2.lt;omega
 have hbb:Below w.heap.size w w1:=hbW.trans (hb1.mono hbW.size);have H1:o_ G w W1 cs (.slice none 0 0) []:=by
  rw[Et,eG];exact⟨(k0.below hb1 k0.lt).alloc _,(k1.below hb1 k1.lt).alloc _,(k2.below hb1 k2.lt).alloc _,ah.new w1 _ _,km _ _ _ _,hbb.alloc hbb.size _,by have:=hb1.size;omega⟩
 have H1:=ae H1;have d1:W1.cell? ⟨w.heap.size,0,none⟩=some (.int .i64 o.kd):=(b9 H1.out.obj qw.out 0).trans rfl;have f1:W1.cell? ⟨w.heap.size,1,none⟩=some (.int .i64 o.ct):=(b9 H1.out.obj qw.out 1).trans rfl;have g1:W1.cell? ⟨w.heap.size,2,none⟩=some (.int .i64 o.cl):=(b9 H1.out.obj qw.out 2).trans rfl;have u1:IntKind.u64.wrap o.kd=(u64 o.kd:Int):=by rw[nw,ox]
 have u2:IntKind.u64.wrap o.ct=(u64 o.ct:Int):=by rw[nw,ox]
 have u3:IntKind.u64.wrap o.cl=(u64 o.cl:Int):=by rw[nw,ox]
 clear k0 k1 k2 hb1 hbW hbb;go_upto_region 5 with fail;rw[←Et,←eG];clear Et eG;go_wp2_with fail;refine(iW G G (u64 o.kd) 4 193 _ [] _ (by omega) (qv _) H1.out.box (by decide) H1.out.row (by simp[bJ]) (oT H1.out.lt)).mono ?_;rintro e w2 ⟨rfl,v2,hb2,ho2,hs2⟩;have H2:=ae (H1.out.step hs2 hb2 ho2);have d2:w2.cell? ⟨w.heap.size,0,none⟩=some (.int .i64 o.kd):=by rw[H2.out.obj.cell 0,qw.out];rfl
 have f2:w2.cell? ⟨w.heap.size,1,none⟩=some (.int .i64 o.ct):=by rw[H2.out.obj.cell 1,qw.out];rfl
 have g2:w2.cell? ⟨w.heap.size,2,none⟩=some (.int .i64 o.cl):=by rw[H2.out.obj.cell 2,qw.out];rfl
 clear hb2 ho2 hs2;go_wp2_with fail;refine(iW G G (u64 o.ct) 4 193 _ ([]++leB (u64 o.kd) 4) _ (by omega) (qv _) H2.out.box (by decide) H2.out.row (by simp[bJ]) (oT H2.out.lt)).mono ?_;rintro e w3 ⟨rfl,v3,hb3,ho3,hs3⟩;have H3:=ae (H2.out.step hs3 hb3 ho3);have d3:w3.cell? ⟨w.heap.size,0,none⟩=some (.int .i64 o.kd):=by rw[H3.out.obj.cell 0,qw.out];rfl
 have f3:w3.cell? ⟨w.heap.size,1,none⟩=some (.int .i64 o.ct):=by rw[H3.out.obj.cell 1,qw.out];rfl
 have g3:w3.cell? ⟨w.heap.size,2,none⟩=some (.int .i64 o.cl):=by rw[H3.out.obj.cell 2,qw.out];rfl
 clear hb3 ho3 hs3;go_wp2_with fail;refine(iW G G (u64 o.cl) 4 193 _ ([]++leB (u64 o.kd) 4++leB (u64 o.ct) 4) _ (by omega) (qv _) H3.out.box (by decide) H3.out.row (by simp[bJ]) (oT H3.out.lt)).mono ?_;rintro e w4 ⟨rfl,v4,hb4,mm,hs4⟩;have H4:=ae (H3.out.step hs4 hb4 mm);have d4:w4.cell? ⟨w.heap.size,0,none⟩=some (.int .i64 o.kd):=by rw[H4.out.obj.cell 0,qw.out];rfl
 have f4:w4.cell? ⟨w.heap.size,1,none⟩=some (.int .i64 o.ct):=by rw[H4.out.obj.cell 1,qw.out];rfl
 have g4:w4.cell? ⟨w.heap.size,2,none⟩=some (.int .i64 o.cl):=by rw[H4.out.obj.cell 2,qw.out];rfl
 clear hb4 mm hs4;obtain⟨l3,el3⟩:∃l3,l3=[]++leB (u64 o.kd) 4++leB (u64 o.ct) 4++leB (u64 o.cl) 4:=⟨_,rfl⟩;rw[←el3]at H4;have hl3:l3.length=12:=by rw[el3];simp[bJ]
 have HL3:=ae el3;clear el3 d1 f1 g1 d2 f2 g2 d3 f3 g3 u1 u2 u3 H1 H2 H3 d4 f4 g4;have HSL:=ae (sj (P:=Tryz.prog) w4 w.heap.size 3 59 (bw o.slots) _ (fun j v hv=>by
  rw[b9 H4.out.obj qw.out (3+j)];unfold aK.cells;rw[gl (by simp),iC (by rw[wP,wP,wP,List.length_nil];have:=(zn.1 hv).1;omega)];rw[show 3+j - [Value.int IntKind.i64 o.kd,.int .i64 o.ct,.int .i64 o.cl].length=j by simp];exact hv) wJ rfl (by rw[cq,ho.1];exact tr))
 go_wp2_with (refine xv _ rfl 59 _ rfl _ _ rfl HSL.out ?_)
 have amh:=ho.1;obtain⟨X,eX⟩:∃X,X=(bw o.slots).toArray:=⟨_,rfl⟩;rw[←eX];have AA:=ae (fun j x hx W=>Cb o.slots ho.1 j x hx W);rw[←eX]at AA;clear eX HSL;go_loopw [29] (fun i wr=>∃ (j:Nat) (v':Value),j≤16∧i=.int .i64 (j:Int)∧o_ G w wr cs v' (l3++(o.slots.take j).flatMap ly)) (fun i _=>16-(intOf i).toNat)
 case atStart=>exact⟨0,v4,fi _,rfl,by simpa using H4.out⟩
 case round =>
  obtain⟨j,v5,hj,rfl,hI⟩:=hrel;by_cases hlt:j<16
  ·have hjl:j<o.slots.length:=by omega
   have hix:=AA.out j (o.slots[j]'hjl) (aY hjl);have HT:=ae (GH o.slots j hjl);have hlt':(j:Int)<16:=by omega
   generalize o.slots[j]'hjl=x at *;have iZ:=hI.lt;have HI:=ae (hI.far ((ax _ wr).alloc (ai _) (.cells #[.int .i64 x.k,.int .i64 x.o,.int .i64 x.c,.int .i64 x.a,.int .i64 x.r,.int .i64 x.v] 58)));have ti:=ae (show(l3++(o.slots.take j).flatMap ly).length≤50000 by rw[bX,CY,bD];omega);clear hI;go_wp2_with fail;refine(VR G G x 193 v5 _ _ HI.out.box (by decide) (by decide) HI.out.row ti.out (oT HI.out.lt)).mono ?_;rintro e w6 ⟨rfl,v6,hb6,qy,hs6⟩;go_wp2_with fail;go_roundw
   case rel=>exact⟨j+1,v6,by omega,by simp,by rw[HT.out,←fS];exact HI.out.step hs6 hb6 qy⟩
   case measure=>simp[intOf];omega
  ·obtain rfl:j=16:=by omega
   rw[dg (by omega)]at hI;have hgv:=hI.box.ag 0 rfl;go_upto_region 13 with fail;obtain⟨L4,XZ⟩:∃L4,L4=l3++o.slots.flatMap ly:=⟨_,rfl⟩;rw[←XZ]at hI;have hL4:L4.length≤400:=by rw[XZ,bX,CY];omega
   have HL4:=ae XZ;clear XZ;have HI:=ae hI;have aaD:=hI.lt;have hPB:=Pc ho (w:=wr.drew) (g:=w.heap.size) (by rw[←qw.out];exact hI.obj.drew);have HPB:=ae hPB;have hROW:=ae (aq (F:=fun _=>False) (aN (ax _ wr).drew) hI.row (fun _ _=>id));have ky:=ho.2;have hnG:∀i,v5.ownBlock=some i→i≠G:=aR hI.row hI.box (by decide);clear hI hPB;refine bF (S:=(fun _=>True)) (by kernel_rfl) trivial (fun hHeld=>?_);refine tk 0 ?_;refine tk 1 ?_;refine tk 3 ?_;refine tk 4 ?_;refine rd 2 fun K hK=>?_;go_simp;refine hK.out _ _ trivial (fun hHeld=>?_);clear hK K;refine rd 5 fun K hK=>?_;rw[aB (by rfl)];refine sy wr.drew (.tmp 37) (.tmp 39) rfl G wr.drew.heap.size L4.length v5 _ rfl hROW.out (some ⟨w.heap.size,99,none⟩) 64 64 o.bytes rfl ky HPB.out (by omega) (oT aaD) ?_;intro v7 w7 Kr Gi hn7;obtain⟨a7,Pf,rfl⟩:=slice_form Kr;obtain⟨q1,q2⟩:=sB (ax _ wr).drew Gi HI.out.box (fun e=>hnG G e rfl) hn7;have cc:ah w7 G 193 #[v5]:=(Gi.block G aaD (fun e=>hnG G e.symm rfl)).trans HI.out.box.drew;have c7:=cc.ag 0 rfl;have f7:=cc.frozen 0;have SW:=ae (aq (F:=fun i=>i=G) (bk (v:=.slice a7 (L4.length+64) Pf) (i:=0) rfl) Kr (aR Kr cc (by decide)));refine hK.out _ _ trivial (fun hHeld=>?_);clear hK K;refine tk 6 ?_;refine tk 7 ?_;refine rd 8 fun K hK=>?_;go_simp;refine hK.out _ _ trivial (fun hHeld=>?_);clear hK K;refine aT ?_;obtain⟨L5,X8⟩:∃L5,L5=L4++o.bytes:=⟨_,rfl⟩;have hL5:L5.length=L4.length+64:=by rw[X8,bX,ky]
   have H8:=ae (HI.out.step q2 (l':=L5) q1 (by rw[hL5,X8,cK];exact SW.out));have HL5:=ae (show dL o=L5 by rw[X8,HL4.out,HL3.out];unfold dL;simp);have oy:L5.length≤508:=by omega
   rw[←hL5]at H8 ⊢;clear q1 q2 Kr X8 cc c7 f7 SW hL5;generalize World.setCell _ _ _=w8 at *;have hc8:=H8.out.box.ag 0 rfl;have HU8:=ae ((BytesIn.own H8.out.row));go_upto_region 14 with fail;obtain⟨a8,e8⟩:∃a,a=a7:=⟨_,rfl⟩;obtain⟨lX,X_⟩:∃a,a=Pf:=⟨_,rfl⟩;subst e8;subst X_;refine bF (S:=(fun w'=>w'.cell? ⟨G,0,none⟩=some (.slice a8 L5.length lX))) (by kernel_rfl) (by(try dsimp only);(exact hc8)) (fun hHeld=>?_);refine tk 0 ?_;refine tk 1 ?_;refine tk 2 ?_;refine tk 3 ?_;obtain⟨W2,hr2,hk2,ho2⟩:=lW w8.drew (w.heap.size+1+1) 111 az H8.out.out.drew w8.heap.size _ L5.length _ 512 L5 HU8.out (by show _≤512;omega) 3;refine rd 4 fun K hK=>?_;rw[aB (by rfl)];refine Lib.wp_copy_run _ (.tmp 43) (.tmp 46) 26 26 rfl _ _ rfl rfl hr2 ?_;have hbig:=H8.out.big;have hcg:ah W2 G 193 _:=ho2.blk H8.out.box.drew (by omega);refine hK.out _ _ (hcg.ag 0 rfl) (fun hHeld=>?_);clear hK K;refine aT ?_;have iS:=ae hk2;have Ko:=ae (nJ L5 oy);have Kq:=fq hk2.drew 508 (by rw[iP _ _ (by show _≤512;omega)];decide) (by rw[iP _ _ (by show _≤512;omega)];decide);rw[NS L5 oy,iP _ _ (by show _≤512;omega)]at Kq;have Ee:=ae Kq;have ij:=ae ho2;clear hcg hk2 ho2 Kq;go_upto_region 15 with fail;refine bF (S:=(fun _=>True)) (by kernel_rfl) trivial (fun hHeld=>?_);refine tk 0 ?_;refine tk 1 ?_;refine rd 2 fun K hK=>?_;go_simp
   (refine(J9 _ (fA L5) _ Ee.out (by rw[Ko.out];omega)).mono ?_;rintro e w4 ⟨u,rfl,hO4,hb4⟩;rw[Ko.out]at hO4;obtain⟨a4,cap4,rfl⟩:=slice_form hO4)
   go_wp2_with fail;refine hK.out _ _ trivial (fun hHeld=>?_);clear hK K;have hk4:=iS.out.drew.below hb4 iS.out.lt;have hs4:=qo (fA L5);rw[Ko.out]at hs4;obtain⟨W5,vd,hk5,jh⟩:=lW w4 (w.heap.size+1+1) 111 (js az L5) hk4 w4.heap.size a4 512 cap4 512 (dQ (fA L5)) (BytesIn.own hO4) (by rw[hs4,iP _ _ (by show _≤512;omega)];decide) 3;rw[iP _ _ (by show _≤512;omega)]at vd;rw[GG _ _ (by rw[hs4,iP _ _ (by show _≤512;omega)];rfl)]at hk5;refine rd 3 fun K hK=>?_;rw[aB (by rfl)];refine Lib.wp_copy_run _ (.tmp 48) (.tmp 50) 26 26 rfl _ _ rfl rfl vd ?_;refine hK.out _ _ trivial (fun hHeld=>?_);clear hK K;refine aT ?_;have k0:ah W5 (w.heap.size+1) 111 (az.map aj).toArray:=jh.blk ((ij.out.blk H8.out.res.drew (by omega)).drew.below hb4 (ij.out.blk H8.out.res.drew (by omega)).lt) (by omega);have ve:=ae hk5;have hsl:(dQ (fA L5)).length=512:=hs4;have Az:Below w.heap.size w W5:=by
    have h0:Below w.heap.size w w8.drew:=H8.out.below.drew;have h1:Below w.heap.size w W2:=h0.trans (ij.out.below h0.size (fun i hi e=>by omega));have h2:Below w.heap.size w w4:=h1.drew.trans (hb4.mono h1.size);exact h2.trans (jh.below h2.size (fun i hi e=>by omega))
   have uk:=ae Az;clear Az jh hk5;go_wp2_with (first
    | (refine bt rfl 111 _ rfl (w.heap.size+1+1) rfl 111 ((dQ (fA L5)).map aj).toArray (0,0) _ ve.out dj rfl (aO _ hsl) ?_)
    | (refine aQ rfl 111 _ _ rfl (w.heap.size+1) ((dQ (fA L5)).map aj).toArray rfl rfl 111 _ k0 (aO _ hsl) (bT _ _ et hsl) (bq _) ?_))
   refine bc (dm Tryz.results57 _ _ (w.heap.size+1) 111 ((dQ (fA L5)).map aj).toArray (0,0) _ rfl (k0.row _) dj rfl (aO _ hsl) _ rfl) rfl ?_;refine⟨?_,aA uk.out _ (by omega)⟩;rw[HL5.out];rfl
end Go.Proofs.YtdpniceapmikpaaGreat
