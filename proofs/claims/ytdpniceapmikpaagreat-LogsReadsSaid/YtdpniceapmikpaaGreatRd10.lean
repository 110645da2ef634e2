/-
  logs.Write and logs.Read
-/
import Derived.Test.YtdpniceapmikpaaGreatRd5
import Derived.Test.YtdpniceapmikpaaGreatRd8
import Derived.Test.YtdpniceapmikpaaGreatRd4
import Derived.Test.YtdpniceapmikpaaGreatRd6
import Derived.Test.YtdpniceapmikpaaGreatRd1
import Derived.Test.YtdpniceapmikpaaGreatRd2
import Derived.Test.YtdpniceapmikpaaGreatRd9
import Derived.Test.YtdpniceapmikpaaGreatRd7
import Derived.Test.YtdpniceapmikpaaGreatRd3
import Derived.RangeFuncLeaves
set_option linter.unusedVariables false
set_option linter.unusedSimpArgs false
set_option maxRecDepth 100000
set_option maxHeartbeats 32000000
namespace Go.Proofs.YtdpniceapmikpaaGreat
open Go.RowKit
theorem TO (D:aX) (x:ak) (N area:Int) (f:bY) (fv:Value) (w:World) (h:aE w D x) (hx:x.ok) (hf:cL w w.heap.size fv f) (hno:(da N x.size area&&gh N f)=false) :
 Calls Tryz.prog 18 #[ptr D.p,.agg #[.int .i64 N],.int .i64 area,fv] w fun e w'=>e=.returned (.int .i64 2)∧Below w.heap.size w w':=by
 have HA:=ae (fun w' h'=>jL D x N area w' h' hx);have HF:=ae (fun w' h'=>Ep N f fv w' h');have HD:=ae h;have NU:=ae hf;obtain⟨vo,vb,vs,ev,i1,i2,i3⟩:=hf;subst ev;unfold ptr at *;clear h i1 i2 i3;go_enter_defers Tryz.func18,Tryz.ntmps18
 go_wp2_with fail;go_step3
 go_wp2_with fail;obtain⟨V,eV⟩:∃V,V=(((w.alloc (.cells #[.pointer (some ⟨D.p,0,none⟩)] 37)).alloc (.cells #[.int .i64 N] 23)).alloc (.cells #[.int .i64 area] 3)).alloc (.cells #[.int .i64 f.ed,vo,vb,vs] 28):=⟨_,rfl⟩;have hV:Below w.heap.size w V:=by rw[eV];exact((((ax _ w).alloc (ai _) _).alloc (by simp) _).alloc (by simp;omega) _).alloc (by simp;omega) _
 have b1:ah V (w.heap.size+1) 23 #[.int .i64 N]:=by rw[eV];exact((ah.new2 w _ _ _).alloc _).alloc _
 have b3:ah V (w.heap.size+3) 28 #[.int .i64 f.ed,vo,vb,vs]:=by rw[eV];exact ah.new' (by simp)
 rw[←eV];clear eV;refine(HA.out V (HD.out.below hV)).mono ?_;rintro e w1 ⟨rfl,hb1⟩;have HB1:=ae (hV.trans (hb1.mono hV.size));cases bU:da N x.size area
 ·unfold dr;simp only[Bool.false_eq_true,if_false];go_wp2_with fail;rw[Exit.noGoto_ret];exact⟨_,xd rfl _ _ _,rfl,HB1.out⟩
 ·rw[bU,fx]at hno;rw[hno]at HF;have c3:=(b3.below hb1 b3.lt).ag 0 rfl;have NV:=(b3.below hb1 b3.lt).ag 1 rfl;have c3c:=(b3.below hb1 b3.lt).ag 2 rfl;have c3d:=(b3.below hb1 b3.lt).ag 3 rfl;have c1:=(b1.below hb1 b1.lt).ag 0 rfl;unfold dr at *;simp only[Bool.false_eq_true,if_false,if_true]at *;go_wp2_with fail;refine(HF.out w1 ((NU.out.below HB1.out (ai _)).mono HB1.out.size)).mono ?_;rintro e w2 ⟨rfl,hb2⟩;have hbb:=HB1.out.trans (hb2.mono HB1.out.size);go_wp2_with fail;rw[Exit.noGoto_ret];exact⟨_,xd rfl _ _ _,rfl,hbb⟩
theorem G9 (pa:Option Addr) (N area c:Int) (hc:(c != 0)=true) (w:World) (hA:∀W,Below w.heap.size w W→Calls Tryz.prog 51 #[.pointer pa,.agg #[.int .i64 N],.int .i64 area] W fun e w'=>e=.returned (.int .i64 c)∧Below W.heap.size W w') :
 Calls Tryz.prog 20 #[.pointer pa,.agg #[.int .i64 N],.int .i64 area] w fun e w'=>e=.returned (.tuple #[.agg aF,.int .i64 c])∧Below w.heap.size w w':=by
 have HA:=ae hA;obtain⟨W0,a_⟩:∃W,W=((((w.alloc (.cells #[.pointer pa] 37)).alloc (.cells #[.int .i64 N] 23)).alloc (.cells #[.int .i64 area] 3)).alloc (.cells aF 28)).alloc (.cells #[.int .i64 0] 32):=⟨_,rfl⟩;have hw0:Below w.heap.size w W0:=by rw[a_];exact(((((ax _ w).alloc (ai _) _).alloc (by simp) _).alloc (by simp;omega) _).alloc (by simp;omega) _).alloc (by simp;omega) _
 have k0:ah W0 w.heap.size 37 #[.pointer pa]:=by rw[a_];exact((((ah.new w _ _).alloc _).alloc _).alloc _).alloc _
 have k1:ah W0 (w.heap.size+1) 23 #[.int .i64 N]:=by rw[a_];exact(((ah.new2 w _ _ _).alloc _).alloc _).alloc _
 have k2:ah W0 (w.heap.size+2) 3 #[.int .i64 area]:=by rw[a_];exact((ah.new' (by simp)).alloc _).alloc _
 have k3:ah W0 (w.heap.size+3) 28 aF:=by rw[a_];exact(ah.new' (by simp)).alloc _
 have k4:ah W0 (w.heap.size+4) 32 #[.int .i64 0]:=by rw[a_];exact ah.new' (by simp)
 have c0:=k0.ag 0 rfl;have c1:=k1.ag 0 rfl;have c2:=k2.ag 0 rfl;have K3:=ae k3;have K4:=ae k4;have HB0:=ae hw0;clear hA hw0 k0 k1 k2 k3 k4;go_enter_defers z_,Jr
 go_upto_region 1 with fail;rw[←a_];clear a_;go_wp2_with fail;refine(HA.out W0 HB0.out).mono ?_;rintro e w1 ⟨rfl,hb1⟩;have b3:=K3.out.below hb1 K3.out.lt;have b4:=K4.out.below hb1 K4.out.lt;have c4:=b4.ag 0 rfl;have f4:=b4.frozen 0;have B1:=HB0.out.trans (hb1.mono HB0.out.size);have d0:=b3.ag 0 rfl;have d1:=b3.ag 1 rfl;have d2:=b3.ag 2 rfl;have d3:=b3.ag 3 rfl;have g0:=b3.frozen 0;have g1:=b3.frozen 1;have g2:=b3.frozen 2;have g3:=b3.frozen 3;have r0:=b3.br 0 (.int .i64 0);have r1:=r0.br 1 (.slice none 0 0);have r2:=r1.br 2 (.slice none 0 0);have r3:=r2.br 3 (.slice none 0 0);have n4:w.heap.size+4≠w.heap.size+3:=by omega
 have q4:=((((b4.far (p:=⟨w.heap.size+3,0,none⟩) n4 (.int .i64 0)).far (p:=⟨w.heap.size+3,1,none⟩) n4 (.slice none 0 0)).far (p:=⟨w.heap.size+3,2,none⟩) n4 (.slice none 0 0)).far (p:=⟨w.heap.size+3,3,none⟩) n4 (.slice none 0 0)).br 0 (.int .i64 c);have r4:=r3.far (p:=⟨w.heap.size+4,0,none⟩) n4.symm (.int .i64 c);have B5:=((((B1.setCell (p:=⟨w.heap.size+3,0,none⟩) (by show w.heap.size≤w.heap.size+3;omega) (.int .i64 0)).setCell (p:=⟨w.heap.size+3,1,none⟩) (by show w.heap.size≤w.heap.size+3;omega) (.slice none 0 0)).setCell (p:=⟨w.heap.size+3,2,none⟩) (by show w.heap.size≤w.heap.size+3;omega) (.slice none 0 0)).setCell (p:=⟨w.heap.size+3,3,none⟩) (by show w.heap.size≤w.heap.size+3;omega) (.slice none 0 0)).setCell (p:=⟨w.heap.size+4,0,none⟩) (by show w.heap.size≤w.heap.size+4;omega) (.int .i64 c);have HR4:=ae r4;have GZ:=ae q4;have uk:=ae B5;clear r0 r1 r2 r3 r4 q4 B5 B1 b3 b4;go_wp2_with (refine bO rfl 28 _ rfl aF (by kernel_rfl) ?_)
 exact⟨_,dq zQ _ _ (w.heap.size+3) 28 aF (0,0) _ rfl HR4.out fw rfl (by kernel_rfl) _ _ rfl (gL _ (w.heap.size+4) _ _ GZ.out),rfl,uk.out⟩
theorem TP (D:aX) (x:ak) (N area:Int) (w:World) (h:aE w D x) (hx:x.ok) (bU:da N x.size area=false) :
 Calls Tryz.prog 20 #[ptr D.p,.agg #[.int .i64 N],.int .i64 area] w fun e w'=>e=.returned (.tuple #[.agg aF,.int .i64 2])∧Below w.heap.size w w' :=
 G9 _ N area 2 rfl w fun W hb=>by have ha:=jL D x N area W (h.below hb) hx;rw[bU]at ha;exact ha
theorem TQ (N area:Int) (w:World):Calls Tryz.prog 20 #[.pointer none,.agg #[.int .i64 N],.int .i64 area] w fun e w'=>e=.returned (.tuple #[.agg aF,.int .i64 1])∧Below w.heap.size w w' :=
 G9 none N area 1 rfl w fun W _=>GF N area W
def pc (x:ak):List UInt8:=(List.range x.size.toNat).flatMap fun(n:Nat)=>x.reads (n:Int)
def rM (x:ak) (k:Nat):List UInt8:=(List.range k).flatMap fun(n:Nat)=>x.reads (n:Int)
theorem LH (x:ak) (k:Nat):rM x (k+1)=rM x k++x.reads k:=by
 unfold rM;rw[nc,tK];simp
theorem Nh {x:ak} (hx:x.sound) (k:Nat):(rM x k).length=512*k:=mA _ (fun n=>ak.dS x hx n) _
theorem Qk (D:aX) (x:ak) (w:World) (h:aE w D x) (hx:x.ok) :
 Calls Tryz.prog 24 #[ptr D.p] w fun e w'=>∃u,e=.returned u∧w'.ownsRow w.heap.size 5 1 u (pc x).length ((pc x).map aj)∧Below w.heap.size w w':=by
 have HS:=ae (Gq D x w h hx);have HR:=ae (fun(n:Nat) W hh=>Gw D x n W hh hx.sound);have HH:=ae h;have HL:=ae (Nh hx.sound);have HLR:=ae (fun n=>x.dS hx.sound n);have HSU:=ae (LH x);have hl0:az.length=512:=et;obtain⟨hx1,hx2,_⟩:=hx;obtain⟨s,hs⟩:∃s:Nat,x.size=s:=⟨x.size.toNat,by omega⟩;have eR:pc x=rM x s:=by unfold pc rM;rw[hs];rfl
 rw[eR];rw[hs]at HS hx1 hx2;clear eR h hs;unfold ptr at *;go_enter Tryz.func24,Tryz.ntmps24
 go_wp2_with fail;refine HS.out.mono ?_;rintro e w1 ⟨rfl,rfl⟩;go_wp2_with fail;go_loopw [3,8] (fun o i wr=>∃k:Nat,k≤s∧i=.int .i64 (k:Int)∧wr.ownsRow w.heap.size 5 1 o (512*k) ((rM x k).map aj)∧Below w.heap.size w wr) (fun _ i _=>s-(intOf i).toNat)
 case atStart=>exact⟨0,by omega,rfl,km _ _ _ _,ax _ _⟩
 case round =>
  obtain⟨k,hk,rfl,hO,hB⟩:=hrel;by_cases hlt:k<s
  ·have Cv:(k:Int)<(s:Int):=by omega
   have HO:=ae hO;have HB:=ae hB;have hsz:=hB.size;clear hO hB;go_wp2_with fail;refine(HR.out k wr (HH.out.below HB.out)).mono ?_;rintro e w2 ⟨rfl,hb2⟩;have hbl:=HLR.out k;have hnx:=HSU.out k;have hlk:=HL.out k;obtain⟨b,eb⟩:∃b,b=x.reads k:=⟨_,rfl⟩;rw[←eb]at hbl hnx ⊢;have uJ:=ae hnx;clear eb hnx;have hO2:=aq (F:=fun _=>False) (aN hb2) HO.out (fun _ _=>id);have hB2:=HB.out.trans (hb2.mono hsz);have hs2:=hb2.size;have z1:ah (w2.alloc (.cells Tryz.zeroCells111 111)) w2.heap.size 111 (az.map aj).toArray:=by rw[←bE];exact ah.new w2 _ _
   have z2:=z1.row (b.map aj).toArray;have hO3:=aq (F:=fun i=>i=w2.heap.size) (bL (w:=w2.alloc (.cells Tryz.zeroCells111 111)) (b.map aj).toArray rfl) (hO2.alloc (.cells Tryz.zeroCells111 111)) (fun i hi e=>by have:=(hO2.lt i hi).2;omega);have hB3:=aA (hB2.alloc hB2.size (.cells Tryz.zeroCells111 111)) (b.map aj).toArray (g:=w2.heap.size) (by omega);have hs3:((w2.alloc (.cells Tryz.zeroCells111 111)).setRow w2.heap.size (b.map aj).toArray).heap.size=w2.heap.size+1:=by simp
   have HV:=ae (fq z2 512 (by omega) (by rw[hbl];decide));have aix:=aO b hbl;have aiy:=bT _ _ hl0 hbl;have aez:=bq b;have Z1:=ae z1;have ub:=ae hO3;have HB3:=ae hB3;have hbt:b.take 512=b:=dg (by omega);rw[hbt,hbl]at HV;clear z1 z2 hO2 hB2 hO3 hB3 hb2 HO HB;unfold aV;obtain⟨W3,mP⟩:∃W3,W3=(w2.alloc (.cells Tryz.zeroCells111 111)).setRow w2.heap.size (b.map aj).toArray:=⟨_,rfl⟩;rw[←mP]at HV ub HB3 hs3;go_upto_region 6 with (refine aQ rfl 111 _ _ rfl w2.heap.size (b.map aj).toArray rfl rfl 111 _ Z1.out aix aiy aez ?_)
   rw[←mP];clear mP;go_wp2_with (at_builtin;refine bm _ rfl (.tmp 14) (.tmp 15) rfl w.heap.size W3.heap.size (512*k) _ _ rfl ub.out (some ⟨w2.heap.size,0,none⟩) 512 512 b rfl hbl HV.out (by omega) (by omega) ?_;intro u4 w4 hO4 hg4)
   go_roundw
   case rel =>
    refine⟨k+1,by omega,by go_num,?_,HB3.out.grown hg4 (by omega) (fun r hr=>(ub.out.lt r hr).1)⟩;rw[uJ.out,cK,show 512*(k+1)=512*k+512 by omega];exact hO4
   case measure=>simp[intOf];omega
  ·have hnl:¬ ((k:Int)<(s:Int)):=by omega
   have hks:k=s:=by omega
   go_wp2_with fail;go_ret
   have hl:=HL.out k;rw[←hks,hl];exact⟨_,rfl,hO,hB⟩
theorem Ql (D:aX) (x:ak) (w:World) (h:aE w D x) (hx:x.ok):Calls Tryz.prog 73 #[ptr D.p] w fun e w'=>e=.returned (.int .i64 x.steps)∧w=w':=by
 have c3:=h.blk.ag 3 rfl;have HN:=ae (nF D x w h hx);unfold ptr at *;clear h hx;go_enter Tryz.func73,Tryz.ntmps73
 go_wp2_with fail;refine HN.out.mono ?_;rintro e w1 ⟨rfl,rfl⟩;go_wp2_with fail;go_ret
 exact⟨rfl,rfl⟩
def nt (l:List UInt8) (i:Nat) (b:List UInt8):List UInt8:=l.take i++b++l.drop (i+b.length)
theorem Bd (l:List UInt8) (i:Nat):nt l i []=l:=by simp[nt]
theorem Be (l:List UInt8) (i:Nat) (b:List UInt8) (h:i+b.length≤l.length):(nt l i b).length=l.length:=by simp[nt];omega
theorem De (l:List UInt8) (i:Nat) (b:List UInt8) (h:i+b.length≤l.length) (p:Nat):(nt l i b)[p]? = if i≤p∧p<i+b.length then b[p-i]? else l[p]? :=by
 unfold nt;have ht:(l.take i).length=i:=by rw[bD];omega
 by_cases h1:p<i
 ·rw[aG (by omega),fS,iC (by omega),dU,aB h1]
 ·by_cases h2:p<i+b.length
  ·rw[aB (by omega),fS,gl (by omega),ht,iC (by omega)]
  ·rw[aG (by omega),gl (by rw[bX];omega),kL,bX,ht];congr 1;omega
theorem TR (l:List UInt8) (i:Nat) (b:List UInt8) (h:i+b.length≤l.length) (j:Nat) (c:UInt8) (hc:b[j]? = some c):((nt l i (b.take j)).map aj).set (i+j) (aj c)=(nt l i (b.take (j+1))).map aj:=by
 have hj:j<b.length:=by
  rcases bZ j b.length with hh | hh
  ·exact hh
  ·rw[dh hh]at hc;cases hc
 have l1:(b.take j).length=j:=by rw[bD];omega
 have l2:(b.take (j+1)).length=j+1:=by rw[bD];omega
 rw[←zY];congr 1
 apply m_;intro p;rw[zC,De l i _ (by omega) p,De l i _ (by omega) p,Be l i _ (by omega),l1,l2];by_cases hp:i+j=p
 ·subst hp;rw[aB rfl,aB (by omega),aB (by omega),dU,aB (by omega),show i+j-i=j by omega,hc]
 ·rw[aG hp];by_cases h1:i≤p∧p<i+j
  ·rw[aB h1,aB (by omega),dU,dU,aB (by omega),aB (by omega)]
  ·rw[aG h1,aG (by omega)]
theorem WU (f:Nat→List UInt8) (hf:∀n,(f n).length=512) (s m:Nat) (hm:m<s) (b:List UInt8) (hb:b.length=512):nt ((List.range s).flatMap f) (512*m) b=(List.range s).flatMap fun n=>if m=n then b else f n:=by
 have hg:∀n,(if m=n then b else f n).length=512:=fun n=>by split;exact hb;exact hf n
 have hl:=mA f hf s;have hl2:=mA (fun n=>if m=n then b else f n) hg s;apply m_;intro p;rw[De _ _ _ (by omega),hb];by_cases hp:p<512*s
 ·have e:p=512*(p/512)+p % 512:=by omega
  have r:=pO (fun n=>if m=n then b else f n) hg s (p/512) (p % 512) (by omega) (by omega);rw[←e]at r;have r2:=pO f hf s (p/512) (p % 512) (by omega) (by omega);rw[←e]at r2;rw[r,r2];by_cases h1:m=p/512
  ·rw[aB (by omega),aB h1];congr 1;omega
  ·rw[aG (by omega),aG h1]
 ·rw[aG (by omega),dh (by omega),dh (by omega)]
def ak.pU (x:ak):Prop:=∀y∈x.waits,0≤y.n∧y.n<x.size
def pz (x:ak) (k:Nat):List UInt8:=(List.range x.size.toNat).flatMap fun(n:Nat)=>x.nM (n:Int) k
theorem Qm (x:ak):pz x 0=fe x:=by
 exact dz (fun f=>(List.range x.size.toNat).flatMap f) (funext fun(n:Nat)=>Cs x n)
theorem TS (x:ak):pz x x.waits.length=pc x:=by
 exact dz (fun f=>(List.range x.size.toNat).flatMap f) (funext fun(n:Nat)=>EI x n)
theorem TT {x:ak} (hx:x.ok) (k:Nat):(pz x k).length=512*x.size.toNat:=mA _ (fun n=>yg hx.sound n k) _
theorem Qn {x:ak} (hx:x.ok) (hr:x.pU) (k:Nat) (y:aI) (hy:x.waits[k]? = some y):pz x (k+1)=nt (pz x k) (512*y.n.toNat) y.b:=by
 have hm:=je hy;have h1:=hr y hm;unfold pz;rw[WU _ (fun n=>yg hx.sound n k) _ _ (by omega) _ (hx.2.2.2.1 y hm)];refine dz (fun f=>(List.range x.size.toNat).flatMap f) (funext fun(n:Nat)=>?_);rw[Ct x n k y hy];by_cases h:y.n=(n:Int)
 ·rw[aB h,aB (by omega)]
 ·rw[aG h,aG (by omega)]
theorem TU (v:Value) (l:List UInt8) (n:Nat) (b:List UInt8) (w:World) (hv:BytesIn w w.heap.size v l) (hb:b.length=512) (hn:512*n+512≤l.length) (hm:l.length≤2097152) :
 Calls Tryz.prog 76 #[v,.agg (aI.cells ⟨n,b⟩).toArray,.int .i64 512] w fun e w'=>∃u,e=.returned u∧w'.ownsRow w.heap.size 5 1 u l.length ((nt l (512*n) b).map aj)∧Below w.heap.size w w':=by
 have HV:=ae hv;obtain⟨_,a,cap,rfl,_,_⟩:=hv;obtain⟨W,eW⟩:∃W,W=(w.alloc (.cells (aI.cells ⟨n,b⟩).toArray 154)).alloc (.cells #[] 5):=⟨_,rfl⟩;have hbW:Below w.heap.size w W:=by rw[eW];exact((ax _ w).alloc (ai _) _).alloc (by simp) _
 have k0:ah W w.heap.size 154 (aI.cells ⟨n,b⟩).toArray:=by rw[eW];exact(ah.new w _ _).alloc _
 have hE:W.ownsRow w.heap.size 5 1 (.slice (some ⟨w.heap.size+1,0,none⟩) 0 0) 0 []:=by
  rw[eW];exact⟨rfl,.inr ⟨w.heap.size+1,0,#[],rfl,by omega,by have:=bC (w.alloc (.cells (aI.cells ⟨n,b⟩).toArray 154)) (.cells #[] 5);simpa using this,ai _,by simp,rfl,rfl⟩⟩
 have xA:=ae (HV.out.below hbW (ai _));have HE:=ae hE;have HW:=ae hbW;have HK:=ae k0;have TV:=hbW.size;have hbe:∀j,j<512→∃c,b[j]? = some c:=fun j hj=>⟨_,aY (by omega)⟩
 clear hbW k0 hE;go_enter Tryz.func76,Tryz.ntmps76
 go_upto_region 1 with fail;go_wp2_with (rw[←eW];at_builtin;refine bm _ rfl (.tmp 9) (.tmp 10) rfl w.heap.size w.heap.size 0 (.slice (some ⟨w.heap.size+1,0,none⟩) 0 0) [] rfl HE.out a l.length cap l rfl rfl xA.out (by omega) TV ?_;intro u1 w1 fz hg1)
 rw[cW,nx]at fz;have hB1:=HW.out.grown hg1 TV (fun r hr=>(HE.out.lt r hr).1);have K1:ah w1 w.heap.size 154 (aI.cells ⟨n,b⟩).toArray:=(hg1.block _ HK.out.lt (by simp[Value.ownBlock])).trans HK.out;obtain⟨g,uj,rfl,hgB⟩:∃g uj,u1=.slice (some ⟨g,0,none⟩) l.length uj∧w.heap.size≤g:=by
  rcases fz.2 with ⟨_,h0⟩ | ⟨g,uj,cur,e,hB,_⟩
  ·omega
  ·exact⟨g,uj,e,hB⟩
 have hgw:g≠w.heap.size:=by
  rintro rfl;exact aR fz K1 (by decide) _ rfl rfl
 have hla:=ae (TR l (512*n) b (by omega));have hln:=ae (fun c hc=>Be l (512*n) c hc);rw[←Bd l (512*n)]at fz;rw[Bd]at fz;go_wp2_with fail;go_loopw [8] (fun i wr=>∃j:Nat,j≤512∧i=.int .i64 (j:Int)∧wr.ownsRow w.heap.size 5 1 (.slice (some ⟨g,0,none⟩) l.length uj) l.length ((nt l (512*n) (b.take j)).map aj)∧ah wr w.heap.size 154 (aI.cells ⟨n,b⟩).toArray∧Below w.heap.size w wr) (fun i _=>512-(intOf i).toNat)
 case atStart=>exact⟨0,by omega,rfl,by rw[Jb,Bd];exact fz,K1,hB1⟩
 case round =>
  obtain⟨j,hj,rfl,hO,hK,hB⟩:=hrel;by_cases hlt:j<512
  ·obtain⟨c,hc⟩:=hbe j hlt;have Cv:(j:Int)<512:=by omega
   have q1:=hK.ag 0 (v:=.int .i64 (n:Int)) (by unfold aI.cells;rfl);have q2:wr.cell? ⟨w.heap.size,1+j,none⟩=some (aj c):=hK.ag (1+j) (by
    unfold aI.cells;rw[jd,tS 1 j,List.getElem?_cons_succ,dV,hc];rfl)
   have hxl:((nt l (512*n) (b.take j)).map aj).length=l.length:=by rw[cR];exact hln.out _ (by rw[bD];omega)
   obtain⟨u0,hu0⟩:∃u0,((nt l (512*n) (b.take j)).map aj)[512*n+j]? = some u0:=⟨_,aY (by omega)⟩;have cO:=hO.cells (g:=g) rfl (512*n+j) u0 hu0;rw[eP,cW]at cO;have fO:=ow hO (512*n+j);have ig:=ae (rW hO (512*n+j) (aj c) (by omega));rw[hla.out j c hc]at ig;have iT:=ae (hK.far (p:=⟨g,512*n+j,none⟩) (fj hgw) (aj c));have HB1:=ae (hB.setCell (p:=⟨g,512*n+j,none⟩) hgB (aj c));have y1:IntKind.i64.wrap (512*(n:Int))=512*(n:Int):=by rw[cz];omega
   have y2:IntKind.i64.wrap (512*(n:Int)+(j:Int))=512*(n:Int)+(j:Int):=by rw[cz];omega
   have y3:(512*(n:Int)+(j:Int)).toNat=512*n+j:=by omega
   have i1:0≤512*(n:Int)+(j:Int):=by omega
   have i2:(512*(n:Int)+(j:Int))<(l.length:Int):=by omega
   clear hO hB;go_upto_region 5 with fail;refine bF (S:=(fun w'=>w'.cell? ⟨w.heap.size,0,none⟩=some (.int .i64 (n:Int))∧w'.cell? ⟨w.heap.size,1+j,none⟩=some (aj c))) (by kernel_rfl) (by(try dsimp only);exact⟨q1,q2⟩) (fun hHeld=>?_);refine tk 0 ?_;refine tk 1 ?_;refine tk 4 ?_;refine tk 6 ?_;refine tk 7 ?_;refine tk 2 ?_;refine tk 8 ?_;refine tk 3 ?_;refine tk 9 ?_;refine tk 5 ?_;refine tk 10 ?_;refine rd 11 fun K hK=>?_;go_simp;refine hK.out _ _ (by(try dsimp only);exact⟨(kJ wr.drew ⟨g,512*n+j,none⟩ ⟨w.heap.size,0,none⟩ _ hgw).trans q1,(kJ wr.drew ⟨g,512*n+j,none⟩ ⟨w.heap.size,1+j,none⟩ _ hgw).trans q2⟩) (fun hHeld=>?_);clear hK K;refine aT ?_;go_wp2_with fail;go_roundw
   case rel=>exact⟨j+1,by omega,by go_num,ig.out,iT.out,HB1.out.drew⟩
   case measure=>simp[intOf];omega
  ·have ku:j=512:=by omega
   have hnl:¬ (j:Int)<512:=by omega
   have HJ:=ae ku;clear ku hlt;go_wp2_with fail;go_ret
   have hbt:b.take j=b:=dg (by have:=HJ.out;omega);rw[hbt]at hO;exact⟨_,rfl,hO,hB⟩
theorem aiz {w:World} {B:Nat} {e:TypeId} {u:Value} {l l2:List UInt8} (h:l2.length=l.length) (hO:w.ownsRow B e 1 u l.length (l2.map aj)):w.ownsRow B e 1 u l2.length (l2.map aj):=by rw[h];exact hO
theorem Ni (x:ak) (lv wv fv:Value) (st:Int) (w:World) (h:bu w w.heap.size lv wv fv x) (hx:x.ok) (hr:x.pU) :
 Calls Tryz.prog 25 #[.agg #[lv,wv,.int .i64 st,fv]] w fun e w'=>∃u,e=.returned u∧w'.ownsRow w.heap.size 5 1 u (pc x).length ((pc x).map aj)∧Below w.heap.size w w':=by
 have Yp:=ae h.lasts;have HWA:=ae h.waits;obtain⟨_,TW,TX,rfl,_,_⟩:=h.lasts;obtain⟨hwl,hws,aw,cw,rfl,_⟩:=h.waits;have hll:=ae (fun k=>TT hx k);have hl0:=Qm x;have hla:=ae (TS x);have hsu:=ae (fun k y hy=>Qn hx hr k y hy);have Od:=ae (fun k y (hy:x.waits[k]? = some y)=>hr y (je hy));obtain⟨hx1,hx2,_⟩:=hx;have k0:ah (w.alloc (.cells #[.slice TW (fe x).length TX,.slice aw x.waits.length cw,.int .i64 st,fv] 40)) w.heap.size 40 #[.slice TW (fe x).length TX,.slice aw x.waits.length cw,.int .i64 st,fv]:=ah.new w _ _;have hbW:Below w.heap.size w (w.alloc (.cells #[.slice TW (fe x).length TX,.slice aw x.waits.length cw,.int .i64 st,fv] 40)):=(ax _ w).alloc (ai _) _;clear h;go_enter Tryz.func25,Tryz.ntmps25
 go_wp2_with fail;have hsz1:(w.alloc (.cells #[.slice TW (fe x).length TX,.slice aw x.waits.length cw,.int .i64 st,fv] 40)).heap.size=w.heap.size+1:=by simp
 generalize w.alloc _=W at *;have XX:=Yp.out.below hbW (ai _);rw[←hl0]at XX;go_loopw [3,4] (fun o i wr=>∃k:Nat,k≤x.waits.length∧i=.int .i64 (k:Int)∧BytesIn wr wr.heap.size o (pz x k)∧ah wr w.heap.size 40 #[.slice TW (fe x).length TX,.slice aw x.waits.length cw,.int .i64 st,fv]∧Below w.heap.size w wr) (fun _ i _=>x.waits.length-(intOf i).toNat)
 case atStart=>exact⟨0,by omega,rfl,by rw[←hl0]at *;exact XX.mono (by omega),k0,hbW⟩
 case round =>
  obtain⟨k,hk,rfl,hV,hK,hB⟩:=hrel;have c1:=hK.ag 1 rfl;by_cases hlt:k<x.waits.length
  ·have Cv:(k:Int)<(x.waits.length:Int):=by omega
   obtain⟨y,hy⟩:∃y,x.waits[k]? = some y:=⟨_,aY hlt⟩;obtain⟨hyb,g,rfl,hg,hc1,hc2⟩:=(HWA.out.below hB (ai _)).at_ hy;have hrow:wr.rangeAt g (k*513) y.cells:=by
    intro i u hi;cases i with
    | zero =>
     have e:u=.int .i64 y.n:=by unfold aI.cells at hi;simpa using hi.symm
     rw[e,JC];exact hc1
    | succ i =>
     have:=hc2 i u (by unfold aI.cells at hi;simpa using hi);rw[show k*513+(i+1)=k*513+1+i by omega];exact this
   have hin:=Od.out k y hy;have hnx:=hsu.out k y hy;have hlk:=hll.out k;obtain⟨yn,yb⟩:=y;simp only at hin hnx hyb;obtain⟨m,rfl⟩:∃m:Nat,yn=m:=⟨yn.toNat,by omega⟩;rw[Du]at hnx;have HC:=ae (fun W' (hW':Below wr.heap.size wr W') v (hv:BytesIn wr wr.heap.size v (pz x k))=>TU v (pz x k) m yb wr hv hyb (by omega) (by omega));have F3:=ae hrow;have uJ:=ae hnx;have HB:=ae hB;have HV:=ae hV;have HK:=ae hK;have hlen:(Tryz.prog.info? 154).map (·.size)=some (aI.cells ⟨(m:Int),yb⟩).length:=by rw[aI.len _ hyb];exact PB
   clear hrow hnx hB hc1 hc2;go_wp2_with (refine IU rfl 154 _ rfl g (k*513) rfl (aI.cells ⟨(m:Int),yb⟩) _ F3.out RX rfl hlen ?_)
   refine(HC.out wr (ax _ _) _ HV.out).mono ?_;rintro e w2 ⟨u,rfl,hO,hb2⟩;have hVn:=BytesIn.own (aiz (Be (pz x k) (512*m) yb (by omega)) hO);rw[←uJ.out]at hVn;have hle:(pz x (k+1)).length=(pz x k).length:=by rw[hll.out,hll.out]
   have hB2:=HB.out.trans (hb2.mono HB.out.size);have hK2:=HK.out.below hb2 HK.out.lt;go_wp2_with fail;exact⟨⟨k+1,by omega,by go_num,hVn,hK2,hB2⟩,by simp[intOf];omega⟩
  ·have hnl:¬ (k:Int)<(x.waits.length:Int):=by omega
   have ku:k=x.waits.length:=by omega
   rw[ku,hla.out]at hV;have hlR:(pc x).length≤2097152:=by rw[←hla.out,hll.out];omega
   obtain⟨_,av,cv,rfl,_,_⟩:=id hV;have HJ:=ae ku;have HV:=ae hV;have hsr:=hB.size;have hE:(wr.alloc (.cells #[] 5)).ownsRow w.heap.size 5 1 (.slice (some ⟨wr.heap.size,0,none⟩) 0 0) 0 []:=⟨rfl,.inr ⟨wr.heap.size,0,#[],rfl,hsr,bC wr _,ai _,by simp,rfl,rfl⟩⟩;have hA:Below wr.heap.size wr (wr.alloc (.cells #[] 5)):=(ax _ _).alloc (ai _) _;have Ee:=ae (HV.out.below hA (ai _));have HE:=ae hE;have HB3:=ae (hB.alloc hsr (.cells #[] 5));clear ku hlt hV hE hA hB;go_wp2_with (at_builtin;refine bm _ rfl (.tmp 21) (.tmp 22) rfl w.heap.size wr.heap.size 0 (.slice (some ⟨wr.heap.size,0,none⟩) 0 0) [] rfl HE.out av (pc x).length cv (pc x) rfl rfl Ee.out (by omega) (by simp;omega) ?_;intro u4 w4 hO4 hg4)
   have hb4:=HB3.out.grown hg4 (by simp;omega) (fun r hr=>(HE.out.lt r hr).1);rw[cW,nx]at hO4;go_ret
   exact⟨_,rfl,hO4,hb4⟩
theorem CB:∀ (l:List cg) (x:ak),ji x (l.map (·.1))=dY x l
 | [],_=>rfl
 | y::l,x=>by
  show(if x.err y.1.n=0 then ji (x.write y.1.n y.1.b) (l.map (·.1)) else _)=(if x.err y.1.n=0 then dY (x.write y.1.n y.1.b) l else _);rw[CB l]
theorem CC:∀ (l:List cg) (x:ak), ∃k,k≤l.length∧(dY x l).1=dn x (l.take k)
 | [],x=>⟨0,ai _,rfl⟩
 | y::l,x=>by
  by_cases h:x.err y.1.n=0
  ·obtain⟨k,hk,e⟩:=CC l (x.write y.1.n y.1.b);refine⟨k+1,by simpa using hk,?_⟩;show(if x.err y.1.n=0 then dY (x.write y.1.n y.1.b) l else _).1=_;rw[aB h,e];rfl
  ·refine⟨1,by simp,?_⟩;show(if x.err y.1.n=0 then dY (x.write y.1.n y.1.b) l else _).1=_;rw[aG h];rfl
structure lR (x:ak) (k:Nat):Prop where
 ok:x.ok
 steps:x.steps≤k
 waits:x.waits.length≤k
 pU:x.pU
theorem lR.write {x:ak} {k:Nat} (h:lR x k) (hk:k≤1000) (y:cg):lR (x.write y.1.n y.1.b) (k+1):=by
 obtain⟨⟨o1,o2,o3,o4,o5,o6,o7⟩,h2,h3,h4⟩:=h;unfold ak.write;by_cases ho:y.1.n<0∨x.size≤y.1.n
 ·rw[aB ho];exact⟨⟨o1,o2,o3,o4,o5,o6,o7⟩,by omega,by omega,h4⟩
 ·rw[aG ho];by_cases hf:x.steps∈x.fails
  ·rw[aB hf];exact⟨⟨o1,o2,o3,o4,by show(0:Int)≤x.steps+1;omega,by show x.steps+1≤_;omega,o7⟩,by show x.steps+1≤_;omega,by show x.waits.length≤_;omega,h4⟩
  ·rw[aG hf];have hl:(x.waits++[(⟨y.1.n,y.1.b⟩:aI)]).length=x.waits.length+1:=by simp
   refine⟨⟨o1,o2,o3,?_,by show(0:Int)≤x.steps+1;omega,by show x.steps+1≤_;omega,?_⟩,by show x.steps+1≤_;omega,?_,?_⟩
   ·intro z hz;rcases mq.1 hz with hz | hz
    ·exact o4 z hz
    ·rw[mZ.1 hz];exact y.2
   ·show(x.waits++[(⟨y.1.n,y.1.b⟩:aI)]).length≤_;omega
   ·show(x.waits++[(⟨y.1.n,y.1.b⟩:aI)]).length≤_;omega
   ·intro z hz;rcases mq.1 hz with hz | hz
    ·exact h4 z hz
    ·rw[mZ.1 hz];show 0≤y.1.n∧y.1.n<x.size;omega
theorem lR.writes:∀ (l:List cg) (x:ak) (k:Nat),lR x k→k+l.length≤1000→lR (dn x l) (k+l.length)
 | [],x,k,h,_=>h
 | y::l,x,k,h,hk=>by
  have hk':k+(l.length+1)≤1000:=by simpa using hk
  have h2:=lR.writes l (x.write y.1.n y.1.b) (k+1) (h.write (by omega) y) (by omega);show lR (dn (x.write y.1.n y.1.b) l) (k+(l.length+1));rw[show k+(l.length+1)=k+1+l.length by omega];exact h2
theorem lR.mono {x:ak} {k m:Nat} (h:lR x k) (hk:k≤m):lR x m:=⟨h.ok,by have:=h.steps;omega,by have:=h.waits;omega,h.pU⟩
structure aiA (N area:Int) (f:bY) (x x1:ak) (no:Int):Prop where
 rw_:∀lv wv fv fr w,bu w w.heap.size lv wv fv x→cL w w.heap.size fr f→Calls Tryz.prog 17 #[.agg #[lv,wv,.int .i64 x.steps,fv],.agg #[.int .i64 N],.int .i64 area,fr] w fun e w' =>
  ∃wv',e=.returned (.tuple #[.agg #[lv,wv',.int .i64 x1.steps,fv],.int .i64 no])∧bu w' w'.heap.size lv wv' fv x1∧Below w.heap.size w w'∧(∀g,wv'.ownBlock=some g→wv'.ownBlock=wv.ownBlock∨w.heap.size≤g)
 w_:∀D fr w,aE w D x→cL w w.heap.size fr f→(∀a c,(∃x y z,fr=.agg #[x,y,z,.slice a f.state.length c])→c≤maxLen)→Calls Tryz.prog 18 #[ptr D.p,.agg #[.int .i64 N],.int .i64 area,fr] w fun e w' =>
  e=.returned (.int .i64 no)∧∃D',aE w' D' x1∧DStep D D' w w'
 ok1:x1.ok
 in1:x1.pU
theorem YC (N area:Int) (f:bY) (x:ak) (k0:Nat) (hk0:k0≤500) (hy:lR x k0) (hed:f.ed≤9223372036854775807) (hok:∀o∈f.objs,o.ok∧∀x∈o.slots,ix x.v):∃x1 no,aiA N area f x x1 no∧lR x1 (k0+100):=by
 have hx:=hy.ok;cases hgo:(da N x.size area&&gh N f)
 ·refine⟨x,2,⟨fun lv wv fv fr w hr hf=>?_,fun D fr w hd hf _=>?_,hx,hy.pU⟩,hy.mono (by omega)⟩
  ·have h:=E5 x lv wv fv N area f fr [] w hr hx hf (fun y hy=>by cases hy) (by simp) (fun h1 h2=>by rw[h1,h2]at hgo;cases hgo) (fun k hk=>by rw[List.take_nil];exact hx);have e:gW x N area f []=(x,2):=by unfold gW;rw[hgo];rfl
   rw[e]at h;exact h
  ·exact(TO D x N area f fr w hd hx hf hgo).mono fun e w' h=>⟨h.1,D,hd.below h.2,(DStep.refl D w).below h.2⟩
 ·have bU:da N x.size area=true:=by cases h:da N x.size area;rw[h]at hgo;cases hgo;rfl
  have hfr:gh N f=true:=by rw[bU]at hgo;exact hgo
  obtain⟨N,rfl⟩:∃M:Nat,N=M:=⟨N.toNat,by unfold da aZ at bU;simp at bU;omega⟩;obtain⟨a,rfl⟩:∃a:Nat,area=a:=⟨area.toNat,by unfold da aZ at bU;simp at bU;omega⟩;obtain⟨q1,q2,q3,q4⟩:=yw bU;have hlen:=Lr (N:=N) (a:=a) hfr;obtain⟨l,el⟩:∃l,l=cu (N:Int) (a:Int) f:=⟨_,rfl⟩;have Ii:∀fr W,cL W W.heap.size fr f→Calls Tryz.prog 49 #[.agg #[.int .i64 (N:Int)],.int .i64 (a:Int),fr] W fun e w'=>∃v,e=.returned v∧cC w' w'.heap.size v (l.map (·.1))∧Below W.heap.size W w':=by
   rw[el];exact fun fr W hf=>TK N a f fr W hf hfr q4 hed (fun o ho=>(hok o ho).2)
  have hyk:∀k,k≤l.length→lR (dn x (l.take k)) (k0+k):=fun k hk=>by
   have h:=lR.writes (l.take k) x k0 hy (by rw[bD,el];omega);rw[bD,oN hk]at h;exact h
  have hww:∀D fr w,aE w D x→cL w w.heap.size fr f→(∀b c,(∃x y z,fr=.agg #[x,y,z,.slice b f.state.length c])→c≤maxLen)→Calls Tryz.prog 18 #[ptr D.p,.agg #[.int .i64 (N:Int)],.int .i64 (a:Int),fr] w fun e w' =>
   e=.returned (.int .i64 (dY x l).2)∧∃D',aE w' D' (dY x l).1∧DStep D D' w w':=by
   rw[el];exact fun D fr w hd hf hc=>mr.1 (Ey 6 (ai _) D x N a f fr w hd hx hf bU hfr hed hc (fun k hk=>by rw[←el]at hk ⊢;exact(hyk k hk).ok))
  obtain⟨k,hk,ek⟩:=CC l x;have hwp:∀k,fp x ((l.map (·.1)).take k)=dn x (l.take k):=fun k=>by rw[←Jj];unfold fp dn;rw[List.foldl_map]
  refine⟨(dY x l).1,(dY x l).2,⟨fun lv wv fv fr w hr hf=>?_,hww,by rw[ek];exact(hyk k hk).ok,by rw[ek];exact(hyk k hk).pU⟩,by rw[ek];exact(hyk k hk).mono (by rw[el]at hk;omega)⟩;have h:=E5 x lv wv fv N a f fr (l.map (·.1)) w hr hx hf (fun y hy=>by obtain⟨z,_,rfl⟩:=dI.1 hy;exact z.2) (by rw[cR,el];omega)
   (fun _ _ W hW=>Ii fr W ((hf.below hW (ai _)).mono hW.size)) (fun k hk=>by rw[hwp];rw[cR]at hk;exact(hyk k hk).ok)
  have eE:gW x (N:Int) (a:Int) f (l.map (·.1))=dY x l:=by
   unfold gW;rw[bU,hfr];exact CB l x
  rw[eE]at h;exact h
def iu (s:Int) (l:List Int):List Int:=(l.filter fun n=>decide (n≤9223372036854775807-s)).map (s + ·)
theorem r9 (s:Int) (l:List Int) (n:Int):iu s (l++[n])=iu s l++(if n≤9223372036854775807-s then [s+n] else []):=by
 unfold iu;rw[List.filter_append,cK];congr 1
 by_cases h:n≤9223372036854775807-s
 ·rw[aB h];simp[h]
 ·rw[aG h];simp[h]
theorem Qo (s:Int) (l:List Int):(iu s l).length≤l.length:=by unfold iu;rw[cR];exact List.length_filter_le _ _
theorem take_at {α:Type} (l:List α) (j:Nat) (x:α) (h:l[j]? = some x):l.take (j+1)=l.take j++[x]:=by rw[gG,h];rfl
theorem Qp (s:Int) (lv wv fv v:Value) (l:List Int) (w:World) (h0:0≤s) (h1:s≤1000000000000) (hone:(#[lv,wv,.int .i64 s,fv]:Array Value).all (·.oneCell')=true) (Il:lv.oneCell'=true∧wv.oneCell'=true) (hl:IntsIn w w.heap.size v l) (hi:∀n∈l,n≤9223372036854775807) (hlen:l.length≤1000) :
 Calls Tryz.prog 28 #[.agg #[lv,wv,.int .i64 s,fv],v] w fun e w'=>Below w.heap.size w w' ∧
  ((l.all (fun n=>decide (0≤n))=true∧∃tp,e=.returned (.tuple #[.agg #[lv,wv,.int .i64 s,tp],.int .i64 0])∧IntsIn w' w'.heap.size tp (iu s l)∧(∀g,tp.ownBlock=some g→w.heap.size≤g)∧∀g,tp.ownBlock=some g→g<w'.heap.size) ∨
   (l.all (fun n=>decide (0≤n))=false∧e=.returned (.tuple #[.agg #[lv,wv,.int .i64 s,fv],.int .i64 2]))):=by
 have HL:=ae hl;obtain⟨_,a,cap,rfl,_,_⟩:=hl;obtain⟨i0,hi0,hz0,hz1,hz2⟩:=iH K_;obtain⟨W,eW⟩:∃W,W=(w.alloc (.cells #[lv,wv,.int .i64 s,fv] 40)).alloc (.cells aM 40):=⟨_,rfl⟩;have b0:Below w.heap.size w W:=by rw[eW];exact((ax _ w).alloc (ai _) _).alloc (by simp) _
 have k0:ah W w.heap.size 40 #[lv,wv,.int .i64 s,fv]:=by rw[eW];exact(ah.new w _ _).alloc _
 have k1:ah W (w.heap.size+1) 40 aM:=by rw[eW];exact ah.new' (by simp)
 have HI:=ae hi;have Fc:=ae hone;have ij:=ae Il;clear hi hone Il;go_enter Tryz.func28,Tryz.ntmps28
 go_upto_region 2 with fail;rw[←eW];clear eW;go_wp2_with fail;go_loopw [6,7] (fun u i wr=>∃ (j m:Nat) (u':Value),u'=u∧j≤l.length∧m≤j∧i=.int .i64 (j:Int)∧Hid ((l.take j).all (fun n=>decide (0≤n))=true)∧wr.ownsRow w.heap.size 3 1 u' m ((iu s (l.take j)).map (Value.int .i64))∧ah wr w.heap.size 40 #[lv,wv,.int .i64 s,fv]∧ah wr (w.heap.size+1) 40 aM∧Below w.heap.size w wr) (fun _ i _=>l.length-(intOf i).toNat)
 case atStart=>exact⟨0,0,_,rfl,fi _,ai _,rfl,ae rfl,km _ _ _ _,k0,k1,b0⟩
 case round =>
  obtain⟨j,m,u,rfl,hj,hm,rfl,HT,hO,hk0,hk1,hB⟩:=hrel;have HO:=ae hO;have H0:=ae hk0;have H1:=ae hk1;have HB:=ae hB;have cS:=hk0.ag 2 rfl;clear hO hk0 hk1 hB;by_cases hlt:j<l.length
  ·have hji:(j:Int)<(l.length:Int):=by omega
   obtain⟨n,hn⟩:∃n,l[j]? = some n:=⟨_,aY hlt⟩;obtain⟨g,off,rfl,hg,TY⟩:=HL.out.at_ hn;have cN:=(HB.out.cell (p:=⟨g,off+j,none⟩) hg).trans TY;have hnm:=HI.out n (je hn);have HN:=ae hn;have GN:=ae (take_at l j n hn);clear hn;by_cases hneg:n<0
   ·have jA:=ae (show l.all (fun n=>decide (0≤n))=false from by
     refine Bool.eq_false_iff.2 (fun h=>?_);have:=cx.1 h n (je HN.out);simp at this;omega)
    have k0:=H0.out;have k1:=H1.out;go_wp2_with (first
     | (refine bt rfl 40 _ rfl w.heap.size rfl 40 #[lv,wv,.int .i64 s,fv] (0,0) _ k0 bV rfl (au _ _ _ _) ?_)
     | (refine aQ rfl 40 _ _ rfl (w.heap.size+1) #[lv,wv,.int .i64 s,fv] rfl rfl 40 aM k1 (au _ _ _ _) rfl Fc.out ?_))
    exact bc (bn Tryz.results28 _ _ _ _ _ (by rfl) (bB (k1.row _)) (by rfl)) rfl ⟨aA HB.out _ (by omega),.inr ⟨jA.out,rfl⟩⟩
   ·have hn0:0≤n:=by omega
    have hsub:IntKind.i64.wrap (9223372036854775807-s)=9223372036854775807-s:=by rw[cz];omega
    have HT2:=ae (show(l.take (j+1)).all (fun n=>decide (0≤n))=true by rw[GN.out,zN,HT.out];simp[hn0]);go_upto_region 7 with fail;refine bF (S:=(fun w'=>w'.cell? ⟨g,off+j,none⟩=some (.int .i64 n)∧w'.cell? ⟨w.heap.size,2,none⟩=some (.int .i64 s))) (by kernel_rfl) (by(try dsimp only);exact⟨cN,cS⟩) (fun hHeld=>?_);refine tk 0 ?_;refine tk 1 ?_;refine tk 2 ?_;refine tk 3 ?_;refine tk 4 ?_;refine tk 5 ?_;refine tk 6 ?_;refine tk 7 ?_;refine aT ?_;by_cases hle:n≤9223372036854775807-s
    ·have hadd:IntKind.i64.wrap (s+n)=s+n:=by rw[cz];omega
     have Bf:=ae (show iu s (l.take (j+1))=iu s (l.take j)++[s+n]by rw[GN.out,r9,aB hle]);go_upto_region 8 with fail;refine bF (S:=(fun w'=>w'.cell? ⟨g,off+j,none⟩=some (.int .i64 n)∧w'.cell? ⟨w.heap.size,2,none⟩=some (.int .i64 s))) (by kernel_rfl) (by(try dsimp only);exact⟨cN,cS⟩) (fun hHeld=>?_);refine tk 0 ?_;refine tk 1 ?_;refine tk 2 ?_;refine tk 3 ?_;refine tk 4 ?_;refine tk 5 ?_;refine tk 6 ?_;refine tk 7 ?_;refine rd 8 fun K hK=>?_;try rw[aB (by rfl)]
     go_simp;obtain⟨X3,nP⟩:∃V,V=(wr.alloc (.cells #[.int .i64 (s+n)] 3)).drew.drew:=⟨_,rfl⟩;have yZ:ah X3 wr.heap.size 3 #[.int .i64 (s+n)]:=by rw[nP];exact(ah.new wr _ _).drew.drew
     have hb3:Below wr.heap.size wr X3:=by rw[nP];exact((ax _ wr).alloc (ai _) _).drew.drew
     try rw[←nP]
     clear nP;refine hK.out _ _ (by(try dsimp only);exact⟨((HB.out.trans (hb3.mono HB.out.size)).cell (p:=⟨g,off+j,none⟩) hg).trans TY,(H0.out.below hb3 H0.out.lt).ag 2 rfl⟩) (fun hHeld=>?_);clear hK K;refine rd 9 fun K hK=>?_;try rw[aB (by rfl)]
     have kA:=aq (F:=fun _=>False) (aN hb3) HO.out (fun _ _=>id);refine oe _ (.tmp 28) (.tmp 36) 24 rfl w.heap.size 3 i0 _ 1 8 p_ hi0 hz0 hz1 hz2 rfl (by omega) u m _ rfl kA ⟨wr.heap.size,0,none⟩ 1 1 [.int .i64 (s+n)] rfl rfl (ia (cs:=#[.int .i64 (s+n)]) (t:=3) (fr:=(0,0)) yZ) (by simp[Value.oneCell']) (by omega) (by unfold maxLen;omega) (by omega) (HB.out.trans (hb3.mono HB.out.size)).size X3.heap.size rfl ?_;intro g4 c4 X4 hO4 hg4 WR F1;have hb4:=(HB.out.trans (hb3.mono HB.out.size)).grown hg4 (HB.out.trans (hb3.mono HB.out.size)).size (fun r hr=>(kA.lt r hr).1);have zd:=H0.out.below hb3 H0.out.lt;have k13:=H1.out.below hb3 H1.out.lt;have Fb:=(hg4.block _ zd.lt (fun e=>aR kA zd (by decide) _ e.symm rfl)).trans zd;have k14:=(hg4.block _ k13.lt (fun e=>aR kA k13 (by decide) _ e.symm rfl)).trans k13;have cN4:=(hb4.cell (p:=⟨g,off+j,none⟩) hg).trans TY;have cS4:=(show ah X4 w.heap.size 40 #[lv,wv,.int .i64 s,fv]from Fb).ag 2 rfl;refine hK.out _ _ (by(try dsimp only);exact⟨cN4,cS4⟩) (fun hHeld=>?_);clear hK K;refine tk 10 ?_;refine aT ?_;go_wp2_with fail;go_roundw
     case rel=>exact⟨j+1,m+1,_,rfl,by omega,by omega,by go_num,HT2,by rw[Bf.out,cK];exact hO4,Fb,k14,hb4⟩
     case measure=>simp[intOf];omega
    ·have Bf:=ae (show iu s (l.take (j+1))=iu s (l.take j)by rw[GN.out,r9,aG hle,ny]);go_wp2_with fail;go_roundw
     case rel=>exact⟨j+1,m,_,rfl,by omega,by omega,by go_num,HT2,by rw[Bf.out];exact aq (F:=fun _=>False) (aN (ax wr.heap.size wr).drew) HO.out (fun _ _=>id),H0.out.drew,H1.out.drew,HB.out.drew⟩
     case measure=>simp[intOf];omega
  ·have hji:¬ (j:Int)<(l.length:Int):=by omega
   have ku:j=l.length:=by omega
   have hO:=HO.out;have hT:=HT.out;rw[ku,iG]at hO hT;have hlu:(iu s l).length≤l.length:=Qo s l;obtain⟨a2,cap2,rfl⟩:=slice_form hO;have hin:=uD hO (K:=wr.heap.size) (fun g hg=>(hO.lt g hg).2);have hown:=hO.lt;have k0:=H0.out;have k1:=H1.out;have z3:=k0.frozen 3;have c3:=k0.ag 3 rfl;have j0:ah (wr.setCell ⟨w.heap.size,3,none⟩ (.slice a2 m cap2)) w.heap.size 40 #[lv,wv,.int .i64 s,.slice a2 m cap2]:=by simpa using k0.br 3 (.slice a2 m cap2)
   have j1:ah (wr.setCell ⟨w.heap.size,3,none⟩ (.slice a2 m cap2)) (w.heap.size+1) 40 aM:=(gE wr _ _ _ (by show w.heap.size+1≠w.heap.size;omega)).trans k1;have one:(#[lv,wv,.int .i64 s,.slice a2 m cap2]:Array Value).all (·.oneCell')=true:=by rw[jf];simp only[List.all_cons,List.all_nil,ij.out.1,ij.out.2,Bool.true_and];rfl
   have hbs:Below w.heap.size w (wr.setCell ⟨w.heap.size,3,none⟩ (.slice a2 m cap2)):=HB.out.setCell (p:=⟨w.heap.size,3,none⟩) (ai _) _;have Od:=ae hin;have HOW:=ae hown;have HTT:=ae hT;have LG:=ae hO;clear hO hT ku hlt hin hown HT HO k1;go_wp2_with (first
    | (refine bt rfl 40 _ rfl w.heap.size rfl 40 #[lv,wv,.int .i64 s,.slice a2 m cap2] (0,0) _ j0 bV rfl (au _ _ _ _) ?_)
    | (refine aQ rfl 40 _ _ rfl (w.heap.size+1) #[lv,wv,.int .i64 s,.slice a2 m cap2] rfl rfl 40 aM j1 (au _ _ _ _) rfl one ?_))
   refine bc (bn Tryz.results28 _ _ _ _ _ (by rfl) (bB (j1.row _)) (by rfl)) rfl ⟨aA hbs _ (by omega),.inl ⟨by simpa using HTT.out,_,rfl,?_,fun g hg=>(HOW.out g hg).1,fun g hg=>kK (HOW.out g hg).2 ((bk (F:=fun _=>True) trivial).trans (bL (F:=fun _=>True) _ trivial) (fun _ _ h=>h)).size⟩⟩;have hox:=aq (F:=fun i=>i=w.heap.size∨i=w.heap.size+1) (Out.trans (bk (F:=fun i=>i=w.heap.size∨i=w.heap.size+1) (w:=wr) (g:=w.heap.size) (i:=3) (v:=.slice a2 m cap2) (.inl rfl)) (bL (F:=fun i=>i=w.heap.size∨i=w.heap.size+1) #[lv,wv,.int .i64 s,.slice a2 m cap2] (.inr rfl)) (fun _ _ h=>h)) LG.out (fun i hi h=>by
    rcases h with h | h
    ·exact aR LG.out H0.out (by decide) i hi h
    ·exact aR LG.out H1.out (by decide) i hi h)
   exact uD hox (fun g hg=>(hox.lt g hg).2)
theorem aal (n:Int) (w:World):Calls Tryz.prog 79 #[.int .i64 n] w fun e w'=>e=.returned (.bool (decide (n<0)))∧w=w':=by
 obtain⟨c,hc⟩:∃c,c=decide (n<0):=⟨_,rfl⟩;rw[←hc];go_enter Tryz.func79,Tryz.ntmps79
 go_wp2_with fail;go_ret
 exact⟨by rw[hc];rfl,rfl⟩
theorem Ia (B:Nat) (v:Value) (l:List Int) (w:World) (hv:IntsIn w B v l) (hn:l.length≤1000000) :
 Calls Tryz.prog 78 #[v,.func (.func 79) #[] #[]] w fun e w'=>e=.returned (.bool (l.any (fun n=>decide (n<0))))∧Below w.heap.size w w':=by
 obtain⟨h1,a,cap,rfl,h3,h4⟩:=hv;cases l with
 | nil =>
  refine(Tryz.slices_ContainsFunc_empty (α:=Int) a cap _ w).mono ?_;rintro e w' ⟨rfl,rfl⟩;exact⟨rfl,ax _ _⟩
 | cons x l =>
  obtain⟨g,off,rfl,_,_⟩:=h4 0 x rfl;refine(Tryz.slices_ContainsFunc (α:=Int) (Value.int .i64) (fun n=>decide (n<0)) 79 #[] (enters_of Tryz.func79 (by kernel_rfl) rfl) g off (x::l).length cap (x::l) w (fun W y hb=>(aal y W).mono ?_) (ai _) (by omega) (fun j hj=>?_)).mono ?_
  ·rintro e w' ⟨rfl,rfl⟩;exact⟨rfl,0,rfl⟩
  ·have hj2:(x::l)[j]? = some (x::l)[j]! :=by rw[Ro,aY hj];rfl
   obtain⟨g',off',e,_,hc⟩:=h4 j _ hj2;cases e
   exact hc
  ·rintro e w' ⟨rfl,q,rfl⟩;exact⟨by rw[iG],Cy w q⟩
theorem Qq (k:List Int) (n:Int):bW (k.map fun n=>(n,Value.agg #[])) n=if n∈k then some (.agg #[]) else none:=uf k n
theorem Fe (n:Int):∀ (k:List Int),jY (k.map fun n=>(n,Value.agg #[])) n (.agg #[])=k.map fun n=>(n,Value.agg #[])
 | []=>rfl
 | x::k=>by
  show(if n == x then (x,Value.agg #[])::k.map _ else (x,Value.agg #[])::jY (k.map _) n (.agg #[]))=_;rw[Fe n k];split<;>rfl
theorem LI (w:World) (r:Nat) (k:List Int) (hm:MapAt w r .i64 (k.map fun n=>(n,Value.agg #[]))) (n:Int) :
 ∃ (w':World) (k':List Int),(Instr.mapUpdate 150 (.map (some r)) (.int .i64 n) (.agg #[])).run Tryz.prog w=.ok () w'∧MapAt w' r .i64 (k'.map fun n=>(n,Value.agg #[]))∧(∀m,m∈k'↔m∈k∨m=n)∧Turn r w w':=by
 have hl:=Qq k n;by_cases h:n∈k
 ·rw[aB h]at hl;obtain⟨w',h1,h2,h3⟩:=xr (P:=Tryz.prog) (t:=150) w wI ew r _ hm n (by rw[hl];rfl) (.agg #[]);rw[Fe]at h2;exact⟨w',k,h1,h2,fun m=>⟨.inl,fun hm=>hm.elim id (fun e=>by rw[e];exact h)⟩,h3⟩
 ·rw[aG h]at hl;obtain⟨w',h1,h2,h3⟩:=ri (P:=Tryz.prog) (t:=150) w wI ew r _ hm n hl (.agg #[]);refine⟨w',k++[n],h1,?_,fun m=>by simp,h3⟩;rw[cK];exact h2
theorem TZ (D:aX) (x:ak) (v:Value) (l:List Int) (w:World) (h:aE w D x) (hx:x.ok) (hl:IntsIn w w.heap.size v l) (lx:l≠[]→∀g,v.ownBlock=some g→¬D.has g) (hi:∀n∈l,n≤9223372036854775807) (hlen:l.length≤1000) :
 Calls Tryz.prog 27 #[ptr D.p,v] w fun e w' =>
  (l.all (fun n=>decide (0≤n))=true∧e=.returned (.int .i64 0)∧∃D',aE w' D' {x with fails:=iu x.steps l}∧DStep D D' w w') ∨
  (l.all (fun n=>decide (0≤n))=false∧e=.returned (.int .i64 2)∧Below w.heap.size w w'):=by
 have HN:=ae (fun W hh=>nF D x W hh hx);have HC:=ae (Ia w.heap.size v l w hl (by omega));have hany:l.any (fun n=>decide (n<0)) = !l.all (fun n=>decide (0≤n)):=by
  rw[List.not_all_eq_any_not];congr 1
  funext n
  by_cases h:n<0
  ·simp[h]
  ·have:0≤n:=by omega
   simp[h,this]
 rw[hany]at HC;have HH:=ae h;have HL:=ae hl;obtain⟨_,a,cap,rfl,_,_⟩:=hl;have hmm:=@run_makeMap Tryz.prog;obtain⟨s0,s1⟩:0≤x.steps∧x.steps≤1000000000000:=⟨hx.2.2.2.2.1,hx.2.2.2.2.2.1⟩;have HI:=ae hi;have HF:=ae lx;unfold ptr at *;clear h hx hi lx hany;cases hall:l.all (fun n=>decide (0≤n))
 ·rw[hall]at HC;go_enter Tryz.func27,Tryz.ntmps27
  go_wp2_with fail;refine(HN.out w HH.out).mono ?_;rintro e w1 ⟨rfl,rfl⟩;go_wp2_with fail;refine HC.out.mono ?_;rintro e w2 ⟨rfl,hb2⟩;go_wp2_with fail;go_ret
  exact .inr ⟨by first | rfl | trivial,rfl,hb2⟩
 ·rw[hall]at HC;go_enter Tryz.func27,Tryz.ntmps27
  go_wp2_with fail;refine(HN.out w HH.out).mono ?_;rintro e w1 ⟨rfl,rfl⟩;go_wp2_with fail;refine HC.out.mono ?_;rintro e w2 ⟨rfl,hb2⟩;have hd2:=HH.out.below hb2;have z4:=(hd2.blk.alloc (.map #[] 0)).frozen 4;have c4:=(hd2.blk.alloc (.map #[] 0)).ag 4 rfl;go_upto_region 6 with fail;obtain⟨r,er⟩:∃r,r=w2.heap.size:=⟨_,rfl⟩;obtain⟨W,eW⟩:∃W,W=(w2.alloc (.map #[] 0)).setCell ⟨D.p,4,none⟩ (.map (some r)):=⟨_,rfl⟩;have hpr:D.p<r:=by rw[er];exact hd2.blk.lt
  have mb:MapAt W r .i64 (([]:List Int).map fun n=>(n,Value.agg #[])):=by
   rw[eW,er];exact(gE (w2.alloc (.map #[] 0)) _ _ _ (by show w2.heap.size≠D.p;omega)).trans (MapAt.new w2 .i64)
  have bb:ah W D.p 152 #[.int .i64 x.size,.map (some D.lm),D.wv,.int .i64 x.steps,.map (some r)]:=by
   rw[eW];simpa using (hd2.blk.alloc (.map #[] 0)).br 4 (.map (some r))
  have ob:Out (fun i=>i=D.p) w2 W:=by
   rw[eW];exact(aN (F:=fun i=>i=D.p) ((ax _ w2).alloc (ai _) (.map #[] 0))).trans (bk (F:=fun i=>i=D.p) rfl) (fun _ _ h=>h)
  rw[←er,←eW];have hwr:w.heap.size≤r:=by rw[er];exact hb2.size
  have hD2:=ae hd2;have HB2:=ae hb2;have qM:=ae ob;have ER:=ae er;clear eW z4 c4 er hd2 hb2 HC hmm ob;go_wp2_with fail;go_loopw [18] (fun i wr=>∃ (j:Nat) (k:List Int),j≤l.length∧i=.int .i64 (j:Int)∧MapAt wr r .i64 (k.map fun n=>(n,Value.agg #[]))∧Hid (∀n,n∈k↔n∈iu x.steps (l.take j))∧ah wr D.p 152 #[.int .i64 x.size,.map (some D.lm),D.wv,.int .i64 x.steps,.map (some r)]∧Out (fun i=>i=r) W wr) (fun i _=>l.length-(intOf i).toNat)
  case atStart=>exact⟨0,[],fi _,rfl,mb,ae (fun n=>by simp[iu]),bb,Out.refl _ _⟩
  case round =>
   obtain⟨j,k,hj,rfl,hm,HK,hb,ho⟩:=hrel;by_cases hlt:j<l.length
   ·have hji:(j:Int)<(l.length:Int):=by omega
    obtain⟨n,hn⟩:∃n,l[j]? = some n:=⟨_,aY hlt⟩;obtain⟨g,off,rfl,hg,TY⟩:=HL.out.at_ hn;have hgp:g≠D.p:=fun e=>HF.out (fun e2=>by rw[e2]at hlt;exact absurd hlt (p' _)) g rfl (.inl e)
    have cN:wr.cell? ⟨g,off+j,none⟩=some (.int .i64 n):=by
     have q1:w2.cell? ⟨g,off+j,none⟩=some (.int .i64 n):=(HB2.out.cell (p:=⟨g,off+j,none⟩) hg).trans TY;have hg2:g<w2.heap.size:=od _ _ q1;have q2:W.cell? ⟨g,off+j,none⟩=some (.int .i64 n):=(lL (a:=⟨g,off+j,none⟩) (qM.out.block g hg2 hgp)).trans q1;exact(lL (a:=⟨g,off+j,none⟩) (ho.block g (od _ _ q2) (by omega))).trans q2
    have c3:=hb.ag 3 rfl;have c4:=hb.ag 4 rfl;have hnm:=HI.out n (je hn);have hn0:0≤n:=by
     have:=cx.1 hall n (je hn);simpa using this
    have GN:=ae (take_at l j n hn);clear hn hall;by_cases hle:n≤9223372036854775807-x.steps
    ·have hadd:IntKind.i64.wrap (x.steps+n)=x.steps+n:=by rw[cz];omega
     have hge:0≤x.steps+n:=by omega
     obtain⟨w',k',hrun,hm',hk',ht⟩:=LI wr r k hm (x.steps+n);have hb':ah w' D.p 152 #[.int .i64 x.size,.map (some D.lm),D.wv,.int .i64 x.steps,.map (some r)]:=(ht.block D.p (by omega)).trans hb;have ho':Out (fun i=>i=r) W w':=ho.trans (G:=fun i=>i=r) ⟨ht.os,ht.tape,ht.output,by rw[ht.size];exact ai _,fun i _ hn=>ht.block i hn⟩ (fun _ _ h=>h);have HK':=ae (fun m=>(hk' m).trans (by rw[GN.out,r9,aB hle,mq,HK.out,mZ]:(m∈k∨m=x.steps+n)↔m∈iu x.steps (l.take (j+1))));clear hk' ho ht;go_wp2_with (refine kP rfl (fun K hK=>k8 _ w' _ _ _ _ rfl (.map (some r)) (.int .i64 (x.steps+n)) (.agg #[]) rfl rfl rfl hrun (hK _ _ ?_)))
     go_roundw
     case rel=>exact⟨j+1,k',by omega,by go_num,hm',HK',hb',ho'⟩
     case measure=>simp[intOf];omega
    ·have hadd:IntKind.i64.wrap (x.steps+n)=x.steps+n-18446744073709551616:=by rw[cz];omega
     have hge:¬0≤x.steps+n-18446744073709551616:=by omega
     have HK':=ae (fun m=>(HK.out m).trans (by rw[GN.out,r9,aG hle,ny]:m∈iu x.steps (l.take j)↔m∈iu x.steps (l.take (j+1))));go_wp2_with fail;go_roundw
     case rel=>exact⟨j+1,k,by omega,by go_num,hm,HK',hb,ho⟩
     case measure=>simp[intOf];omega
   ·have hji:¬ (j:Int)<(l.length:Int):=by omega
    have ku:j=l.length:=by omega
    have hK:=HK.out;rw[ku,iG]at hK;have HKK:=ae hK;have HO:=ae ho;clear hK ku hlt HK ho;go_wp2_with fail;go_ret
    have hlm:D.lm<r:=by rw[ER.out];exact hD2.out.has_lt _ (.inr (.inl rfl))
    have hne:=hD2.out.ne;have ho1:Out (fun i=>i=D.p∨i=r) w2 wr:=Out.trans (F:=fun i=>i=D.p∨i=r) (G:=fun i=>i=r) ⟨qM.out.os,qM.out.tape,qM.out.output,qM.out.size,fun i hi hn=>qM.out.block i hi (fun e=>hn (.inl e))⟩ HO.out (fun _ _ h=>.inr h);have hwv:∀i,D.wv.ownBlock=some i→i<r:=fun i hi=>by rw[ER.out];exact hD2.out.has_lt _ (.inr (.inr (.inl hi)))
    refine⟨rfl,⟨D.p,D.lm,D.wv,some r⟩,⟨hb,?_,?_,.inr ⟨r,k,rfl,hm,HKK.out⟩,?_⟩,⟨?_,rfl,?_⟩⟩
    ·obtain⟨m,h1,h2⟩:=hD2.out.lasts;exact⟨m,ho1.map h1 (fun h=>h.elim hne.1 (fun e=>by have e2:D.lm=r:=e;omega)),h2⟩
    ·exact aq ho1 hD2.out.waits (fun i hi h=>h.elim (hne.2.1 i hi) (fun e=>by have:=hwv i hi;omega))
    ·intro e;have:r=D.lm:=by simpa using e
     omega
    ·refine Out.trans (F:=D.has) (G:=fun i=>i=D.p∨i=r) (aN (F:=D.has) HB2.out) ho1 (fun i hi h=>h.elim (fun e=>.inl e) (fun e=>by omega))
    ·rintro i (h | h | h | h)
     ·exact .inl (.inl h)
     ·exact .inl (.inr (.inl h))
     ·exact .inl (.inr (.inr (.inl h)))
     · exact .inr (by have:r=i:=by simpa using h
                      omega)
def Ff (s:Int) (nb nf:Nat):Bool:=decide (1≤s)&&(decide (s≤60)&&(decide ((nb:Int)≤3000)&&decide ((nf:Int)≤20)))
theorem T1 (s:Int) (ab af:Option Addr) (nb nf cb cf:Nat) (w:World):Calls Tryz.prog 26 #[.agg #[.int .i64 s,.slice ab nb cb,.slice af nf cf]] w fun e w'=>e=.returned (.bool (Ff s nb nf))∧Below w.heap.size w w':=by
 unfold Ff;cases h1:decide (1≤s)<;>cases h2:decide (s≤60)<;>cases h3:decide ((nb:Int)≤3000)<;>cases h4:decide ((nf:Int)≤20)
 all_goals
  go_enter Tryz.func26,Tryz.ntmps26
  go_wp2_with fail;go_ret
  exact⟨rfl,(ax _ _).alloc (ai _) _⟩
def Qr (f:bY):Bool:=decide ((f.bj.length:Int)≤70)&&(decide ((f.objs.length:Int)≤20)&&decide ((f.state.length:Int)≤5000))
theorem Oe (f:bY) (B:Nat) (v:Value) (w:World) (hf:cL w B v f):Calls Tryz.prog 9 #[v] w fun e w'=>e=.returned (.bool (Qr f))∧Below w.heap.size w w':=by
 obtain⟨vo,vb,vs,rfl,⟨_,a1,q1,rfl,_⟩,⟨_,a2,q2,rfl,_⟩,⟨_,a3,q3,rfl,_⟩⟩:=hf;unfold Qr;cases h1:decide ((f.bj.length:Int)≤70)<;>cases h2:decide ((f.objs.length:Int)≤20)<;>cases h3:decide ((f.state.length:Int)≤5000)
 all_goals
  go_enter Tryz.func9,Tryz.ntmps9
  go_wp2_with fail;go_ret
  exact⟨rfl,(ax _ _).alloc (ai _) _⟩
structure amY (N area:Int) (f:bY) (x x1:ak) (no:Int) (x2:ak) (g:bY) (r:Int):Prop where
 rw_:∀lv wv fv fr w,bu w w.heap.size lv wv fv x→cL w w.heap.size fr f→Calls Tryz.prog 17 #[.agg #[lv,wv,.int .i64 x.steps,fv],.agg #[.int .i64 N],.int .i64 area,fr] w fun e w' =>
  ∃wv',e=.returned (.tuple #[.agg #[lv,wv',.int .i64 x1.steps,fv],.int .i64 no])∧bu w' w'.heap.size lv wv' fv x1∧Below w.heap.size w w'∧(∀g,wv'.ownBlock=some g→wv'.ownBlock=wv.ownBlock∨w.heap.size≤g)
 w_:∀D fr w,aE w D x→cL w w.heap.size fr f→(∀a c,(∃x y z,fr=.agg #[x,y,z,.slice a f.state.length c])→c≤maxLen)→Calls Tryz.prog 18 #[ptr D.p,.agg #[.int .i64 N],.int .i64 area,fr] w fun e w' =>
  e=.returned (.int .i64 no)∧∃D',aE w' D' x1∧DStep D D' w w'
 rr_:∀lv wv fv w,bu w w.heap.size lv wv fv x1→Calls Tryz.prog 19 #[.agg #[lv,wv,.int .i64 x1.steps,fv],.agg #[.int .i64 N],.int .i64 area] w fun e w' =>
  ∃v,e=.returned (.tuple #[.agg #[lv,wv,.int .i64 x2.steps,fv],v,.int .i64 r])∧dw w.heap.size w' v g∧Below w.heap.size w w'
 r_:∀D w,aE w D x1→Calls Tryz.prog 20 #[ptr D.p,.agg #[.int .i64 N],.int .i64 area] w fun e w' =>
  ∃v,e=.returned (.tuple #[v,.int .i64 r])∧dw w.heap.size w' v g∧aE w' D x2∧DStep D D w w'
 same:∀W B lv wv fv,bu W B lv wv fv x1→bu W B lv wv fv x2
 ok2:x2.ok
 in2:x2.pU
end Go.Proofs.YtdpniceapmikpaaGreat
namespace Go.Proofs.YtdpniceapmikpaaGreat
open Go.RowKit Go.Shelf
def v_ (f0:FuncId) (F:Fence) (n:Nat) (P:Program) (c:Code) (Q:Exit→Act→World→Prop) (a:Act) (w:World):Prop :=
 ∀ (b:Frame) (k:List Item) (cs:List Frame),b.roundOf=F.round→b.fn=f0→F.fn b.fn→F.room (cs.length+1+n) →
  ∃e a' w',Q e a' w'∧ArrivesIn (Machine.fenced P F) P (lone (b.atR a (.code c::k)) cs w) b k cs e a' w'
section
variable {f0:FuncId} {F:Fence} {n:Nat} {P:Program} {Q:Exit→Act→World→Prop} {a:Act} {w:World}
theorem mX {c:Code} (h:c.wpIn F n P Q a w):v_ f0 F n P c Q a w:=fun b k cs h1 _ h3 h4=>h b k cs h1 h3 h4
theorem lC {x y:Code} (h:v_ f0 F n P x (Exit.then (fun a w=>v_ f0 F n P y Q a w) Q) a w):v_ f0 F n P (Code.seq x y) Q a w:=by
 intro b k cs hro hf hb hr;have h0:(lone (b.atR a (.code (.seq x y)::k)) cs w).fenced P F:=oU hb hr rfl;obtain⟨e,a₁,w₁,hq,harr⟩:=h b (.code y::k) cs hro hf hb hr;cases e with
 | normal =>
  obtain⟨e₂,a₂,w₂,hq₂,harr₂⟩:=hq b k cs hro hf hb hr;exact⟨e₂,a₂,w₂,hq₂,.of_steps (.head h0 xh harr) harr₂⟩
 | exit id=>exact⟨_,a₁,w₁,hq,.of_steps (.one h0 xh) (.pass (x:=.code y) rfl (fun _ _=>.inl (by simp)) harr)⟩
 | goto l=>exact⟨_,a₁,w₁,hq,.of_steps (.one h0 xh) (.pass (x:=.code y) rfl (fun _ _=>.inl (by simp)) harr)⟩
 | ret=>exact⟨_,a₁,w₁,hq,.of_steps (.one h0 xh) (.pass (x:=.code y) rfl (fun _ _=>.inl (by simp)) harr)⟩
 | panic ch=>exact⟨_,a₁,w₁,hq,.of_steps (.one h0 xh) (.pass (x:=.code y) rfl (fun _ _=>.inl (by simp)) harr)⟩
 | outgrown=>exact⟨_,a₁,w₁,hq,.of_steps (.one h0 xh) (.pass (x:=.code y) rfl (fun _ _=>.inl (by simp)) harr)⟩
theorem Fg {id:Nat} {c:Code} (h:v_ f0 F n P c (Exit.inBlock id Q) a w):v_ f0 F n P (Code.block id c) Q a w:=by
 intro b k cs hro hf hb hr;have h0:(lone (b.atR a (.code (.block id c)::k)) cs w).fenced P F:=oU hb hr rfl;obtain⟨e,a₁,w₁,hq,harr⟩:=h b (.inBlock id::k) cs hro hf hb hr;cases e with
 | normal=>exact⟨.normal,a₁,w₁,hq,.head h0 qh (nh harr (.one (oU hb hr rfl) stepR_inBlock))⟩
 | exit id' =>
  by_cases hid:id'=id
  ·simp only[Exit.inBlock,hid,if_true]at hq;exact⟨.normal,a₁,w₁,hq,.head h0 qh (harr.1 k (by simp[exitTo,hid]))⟩
  ·simp only[Exit.inBlock,hid,if_false]at hq;have this:(id == id')=false:=by simp;exact fun h=>hid h.symm
   have hx:exitTo id' (.inBlock id::k)=exitTo id' k:=by simp[exitTo,this]
   exact⟨.exit id',a₁,w₁,hq,fun k' hk=>.head h0 qh (harr.1 k' (by rw[hx];exact hk)),
    fun hr' hk=>let ⟨k₁,h1,h2⟩:=harr.2 hr' (by rw[hx];exact hk);⟨k₁,h1,.head h0 qh h2⟩⟩
 | goto l =>
  have hx:gotoIn l (.inBlock id::k)=gotoIn l k:=by simp[gotoIn]
  exact⟨_,a₁,w₁,hq,fun k' hk=>.head h0 qh (harr.1 k' (by rw[hx];exact hk)),
   fun hr' hk=>let ⟨k₁,h1,h2⟩:=harr.2 hr' (by rw[hx];exact hk);⟨k₁,h1,.head h0 qh h2⟩⟩
 | ret=>exact⟨_,a₁,w₁,hq,.of_steps (.one h0 qh) harr⟩
 | panic ch=>exact⟨_,a₁,w₁,hq,.of_steps (.one h0 qh) harr⟩
 | outgrown=>exact⟨_,a₁,w₁,hq,.of_steps (.one h0 qh) harr⟩
theorem vD {f:FuncId} {fn:Func} {c:Code} {args:Array Value} {R:Ending→World→Prop}
 (hf:P.funcs[f]? = some fn) (hb:fn.body=some c) (hF:F.fn f)
 (h:v_ f F n P c (bodyPostM F n P fn R) {tmps:=args++Array.replicate (fn.ntmps-args.size) undef,defers:=[]} w) (hro:F.round=none:=by rfl):CallsIn F n P f args w R:=by
 refine⟨hF,fun cs hr=>?_⟩;let b:Frame := {(default:Frame)with fn:=f,kind:=.normal,roundOf:=none}
 have henter:Frame.enter P f args .normal =
  b.atR {tmps:=args++Array.replicate (fn.ntmps-args.size) undef,defers:=[]} [.code c]:=by
  simp[Frame.enter,Frame.atR,hf,hb,b]
 obtain⟨e,a',w',hq,harr⟩:=h b [] cs hro.symm rfl hF hr;rw[←henter]at harr;cases e with
 | normal =>
  obtain⟨e',w'',fr',hR,hs,hfn,hl⟩:=IV a'.defers .returning w' {b.atR a' []with mode:=.returning} cs rfl rfl rfl hf rfl hF hr hq;exact⟨e',w'',fr',hR,IL (nh harr (.one (oU (fr:=b.atR a' []) hF hr rfl) (stepR_end rfl))) hs,hfn,hl⟩
 | ret =>
  obtain⟨todo,hs₀⟩:=harr.1 rfl;obtain⟨e',w'',fr',hR,hs,hfn,hl⟩:=IV a'.defers .returning w' {b.atR a' todo with mode:=.returning} cs rfl rfl rfl hf rfl hF hr hq;exact⟨e',w'',fr',hR,IL hs₀ hs,hfn,hl⟩
 | panic chain =>
  obtain⟨todo,hs₀⟩:=harr;obtain⟨e',w'',fr',hR,hs,hfn,hl⟩:=IV a'.defers (.panicking chain) w' {b.atR a' todo with mode:=.panicking chain} cs rfl rfl rfl hf rfl hF hr hq;exact⟨e',w'',fr',hR,IL hs₀ hs,hfn,hl⟩
 | exit id=>exact hq.elim
 | goto l=>exact hq.elim
 | outgrown=>exact⟨.outgrown,w',b,hq,harr.resolve_left (by simp[b]),rfl,trivial⟩
theorem F6 {g:Operand} {ps:Array Tmp} {assign body:Code}
 (h:∃ (l:Nat) (mark:List Deferred) (w₁:World) (d:Deferred) (w₁':World) (f:FuncId) (args:Array Value) (w₂:World),
  (Instr.enterLoop f0 a.tmps ps assign body F.round).run P w=.ok (l,mark) w₁ ∧
  (resolve a.eval (rangeCall g l) 0).run P w₁=.ok d w₁' ∧
  (∀f',Target.leads P w₁' d.target d.args=some f'→F.fn f') ∧
  (invoke d.target d.args).run P w₁'=.ok (.enter f args) w₂ ∧
  (F.depth.isSome=true→1≤n) ∧
  CallsIn F (n-1) P f args w₂ (rangePost F n P l Q {a with defers:=mark++a.defers})) :
 v_ f0 F n P (Code.rangeFunc g ps assign body) Q a w:=by
 intro b k cs hro hbf hb hr;obtain⟨l,mark,w₁,d,w₁',f,args,w₂,he,hres,hlead,hinv,hn,hF,hcall⟩:=h;rw[←hro,←hbf]at he;have h0:(lone (b.atR a (.code (.rangeFunc g ps assign body)::k)) cs w).fenced P F:=by
  refine fenced_lone (.inl hb) (fun f' hf'=>hlead f' ?_) (Fence.room_le hr (by omega));have hev:=Frame.eval_atR b a (.code (.rangeFunc g ps assign body)::k);simp only[Frame.atR]at hev;simp only[Frame.about,Frame.atR,he,hev,hres]at hf';exact hf'
 have henter:=stepR_rangeFunc (P:=P) (b:=b) (a:=a) (k:=k) (cs:=cs) (w:=w) he hres hinv;have hroom:F.room ((b.atR {a with defers:=mark++a.defers} (.inRangeFunc l::k)::cs).length+1+(n-1)):=Fence.room_enter hr hn;obtain⟨e,w₃,fr,hR,hsteps,hfn,hleave⟩:=hcall (b.atR {a with defers:=mark++a.defers} (.inRangeFunc l::k)::cs) hroom;cases e with
 | outgrown =>
  obtain⟨a₀,w₀,hq⟩:=hR;exact⟨.outgrown,a₀,w₀,hq,.inr (Outgrown.of_steps (.one henter) hsteps)⟩
 | returned v =>
  have hl:(lone fr (b.atR {a with defers:=mark++a.defers} (.inRangeFunc l::k)::cs) w₃).fenced P F:=I' (hfn▸hF) hroom hleave;obtain⟨jump,w₄,hend,hj⟩:=hR;have sback:StepsIn (Machine.fenced P F) P (lone (b.atR a (.code (.rangeFunc g ps assign body)::k)) cs w) (lone (b.atR {a with defers:=mark++a.defers} ((jump.map Item.code).toList++k)) cs w₄):=by
   refine .head h0 henter (nh hsteps (.head hl ?_ (.one (oU (fr:=b.atR {a with defers:=mark++a.defers} (.endRangeFunc l::k)) hb hr rfl) (stepR_endRangeFunc hend))));rw[←finish_atR_inRangeFunc l v];exact step_leave_returned hleave
  cases jump with
  | none=>exact⟨.normal,_,w₄,hj,sback⟩
  | some c =>
   obtain⟨e',a'',w₅,hq,harr⟩:=hj b k cs hro hb hr;exact⟨e',a'',w₅,hq,.of_steps sback harr⟩
 | panicked chain =>
  have hl:(lone fr (b.atR {a with defers:=mark++a.defers} (.inRangeFunc l::k)::cs) w₃).fenced P F:=I' (hfn▸hF) hroom hleave;refine⟨.panic chain,_,w₃,hR,.inRangeFunc l::k,.head h0 henter (nh hsteps (.one hl ?_))⟩;rw[←Frame.raise_atR];exact RJ hleave
end
def Qs (P:Program) (l:Nat) (R:Ending→World→Prop):Exit→Act→World→Prop
 | .panic ch,a,w=>a.defers=[]∧R (.panicked ch) w
 | .normal,a,w=>roundPost P l R .normal a w
 | .ret,a,w=>roundPost P l R .ret a w
 | .exit id,a,w=>roundPost P l R (.exit id) a w
 | .goto t,a,w=>roundPost P l R (.goto t) a w
 | .outgrown,_,_=>False
theorem WV {F:Fence} {n:Nat} {P:Program} {l:Nat} {f:FuncId} {tmps:Array Value} {assign body:Code} {w:World} {R:Ending→World→Prop} (hF:F.fn f) (hfn:∃fn,P.funcs[f]? = some fn)
 (h:assign.wpIn (F.inRound l) n P (Exit.then (fun a₁ w₁=>∃w₂,(Instr.beginRound l).run P w₁=.ok () w₂∧body.wpIn (F.inRound l) n P (Qs P l R) a₁ w₂) (fun _ _ _=>False))
  {tmps:=tmps,defers:=[]} w) :
 RoundIn F n P l f tmps assign body w R:=by
 refine⟨hF,fun c cs hr=>?_⟩;let b:Frame := {(default:Frame)with fn:=f,kind:=.normal,roundOf:=some l}
 have hb0:Frame.round l f tmps assign body .normal=b.atR {tmps:=tmps,defers:=[]} [.code assign,.beginRound,.code body]:=by
  simp[Frame.round,Frame.atR,b]
 have hr':(F.inRound l).room ((c::cs).length+1+n):=hr;have hF':(F.inRound l).fn b.fn:=hF;obtain⟨e,a₁,w₁,hq,harr⟩:=h b [.beginRound,.code body] (c::cs) rfl hF' hr';rw[←hb0]at harr;cases e with
 | normal =>
  obtain⟨w₂,hbr,hbody⟩:=hq;have s1:StepsIn (Machine.fenced P (F.inRound l)) P (lone (b.atR a₁ [.beginRound,.code body]) (c::cs) w₁) (lone (b.atR a₁ [.code body]) (c::cs) w₂) :=
   .one (oU (fr:=b.atR a₁ [.beginRound,.code body]) hF' hr' rfl) (stepR_beginRound rfl hbr)
  obtain⟨e₂,a₂,w₃,hq₂,harr₂⟩:=hbody b [] (c::cs) rfl hF' hr';cases e₂ with
  | normal =>
   obtain⟨v,w₄,hend,hR⟩:=hq₂;exact⟨.returned v,w₄,hR,(nh harr s1).trans (nh harr₂ (.one (oU (fr:=b.atR a₂ []) hF' hr' rfl) (stepR_round_end rfl rfl hend)))⟩
  | ret =>
   obtain⟨v,w₄,hend,hR⟩:=hq₂;obtain⟨k₁,hs⟩:=harr₂.2 rfl;exact⟨.returned v,w₄,hR,(nh harr s1).trans (nh hs (.one (oU (fr:=b.atR a₂ (.code .ret::k₁)) hF' hr' rfl) (stepR_round_ret rfl rfl hend)))⟩
  | exit id =>
   obtain⟨v,w₄,hend,hR⟩:=hq₂;obtain⟨k₁,hk,hs⟩:=harr₂.2 rfl rfl;exact⟨.returned v,w₄,hR,(nh harr s1).trans (nh hs (.one (oU (fr:=b.atR a₂ (.code (.exit id)::k₁)) hF' hr' rfl) (stepR_round_exit rfl rfl hk hend)))⟩
  | goto t =>
   obtain⟨v,w₄,hend,hR⟩:=hq₂;obtain⟨k₁,hk,hs⟩:=harr₂.2 rfl rfl;exact⟨.returned v,w₄,hR,(nh harr s1).trans (nh hs (.one (oU (fr:=b.atR a₂ (.code (.goto t)::k₁)) hF' hr' rfl) (stepR_round_goto rfl rfl hk hend)))⟩
  | panic chain =>
   obtain⟨hd,hR⟩:=hq₂;obtain⟨todo,hs⟩:=harr₂;have hl:({b.atR a₂ todo with mode:=.panicking chain}:Frame).leaving P w₃ (.panicked chain):=⟨rfl,hd,hfn⟩;exact⟨.panicked chain,w₃,hR,(nh harr s1).trans (nh hs (.one (I' (fr := {b.atR a₂ todo with mode:=.panicking chain}) hF' hr' hl) (RJ hl)))⟩
  | outgrown=>exact hq₂.elim
 | exit id=>exact hq.elim
 | goto t=>exact hq.elim
 | ret=>exact hq.elim
 | panic chain=>exact hq.elim
 | outgrown=>exact hq.elim
def LJ {α:Type} (c n:Nat) (P:Program) (g:Nat) (lb:Array Value) (encs:α→Array Value) (Kp:World→World→Prop) (S Sp:List α→Prop) (Nx:List α→α→Prop) (N:Nat) (w:World):Prop :=
 ∀ (l:Nat) (J Jx:List α→World→Prop) (Jp:List PanicEntry→List α→World→Prop) (W:World),Below w.heap.size w W→w.heap.size+2≤W.heap.size→jZ 0 c W.heap.size J→jZ 0 c W.heap.size Jx→(∀ch,jZ 0 c W.heap.size (Jp ch)) →
  (∀pre x W1,J pre W1→Nx pre x→pre.length<N→W.heap.size+c≤W1.heap.size→YieldAt Fence.wide (n-1) P l (encs x) W1 fun e W' =>
   (e=.returned (.bool true)∧J (pre++[x]) W'∧Kp W1 W')∨(e=.returned (.bool false)∧Jx (pre++[x]) W'∧KeepsFrom (w.heap.size+2) W1 W')∨(∃ch,e=.panicked ch∧Jp ch (pre++[x]) W'∧KeepsFrom (w.heap.size+2) W1 W')) →
  J [] W→CallsIn Fence.wide n P g (#[.func (.yield l) #[] #[]]++lb) W fun e W'=>((∃v,e=.returned v)∧((∃xs,S xs∧J xs W')∨(∃pre,Sp pre∧Jx pre W')))∨∃ch pre,e=.panicked ch∧Sp pre∧Jp ch pre W'
def LK {α:Type} (B:Nat) (Kp:World→World→Prop) (I:List α→World→Prop) (Ix:Code→List α→World→Prop) (Ip:List PanicEntry→List α→World→Prop) (xs:List α) (W:World):Exit→Act→World→Prop
 | .normal,_,W'=>KeepsFrom B W W'∧Kp W W'∧I xs W'
 | .ret,_,W'=>KeepsFrom B W W'∧Ix .ret xs W'
 | .exit id,_,W'=>KeepsFrom B W W'∧Ix (.exit id) xs W'
 | .goto t,_,W'=>KeepsFrom B W W'∧Ix (.goto t) xs W'
 | .panic ch,a,W'=>a.defers=[]∧KeepsFrom B W W'∧Ip ch xs W'
 | .outgrown,_,_=>False
theorem T2 {α:Type} {P:Program} {c n:Nat} {g:Operand} {ps:Array Tmp} {assign body:Code} {Q:Exit→Act→World→Prop} {a:Act} {w:World} {gf:Nat} {lb:Array Value} {f0:FuncId} (hf0:∃fn,P.funcs[f0]? = some fn)
 (hg:a.eval g=.func (.func gf) #[] lb) (hgf:∀args w,(callFunc gf args).run P w=.ok (.enter gf args) w)
 {encs:α→Array Value} {Kp:World→World→Prop} {S Sp:List α→Prop} {Nx:List α→α→Prop} {N:Nat} (hseq:LJ c (n-1) P gf lb encs Kp S Sp Nx N w)
 (hKt:∀ {A B C:World},Kp A B→Kp B C→Kp A C) (hKb:∀ (W:World) (o o':Obj),W.heap[w.heap.size+1]? = some o→o.isCells=false→Kp W (W.putObj (w.heap.size+1) o')) (hps:∀x,(encs x).size=ps.size)
 (I:List α→World→Prop) (Ix:Code→List α→World→Prop) (Ip:List PanicEntry→List α→World→Prop) (hI:jZ 2 c w.heap.size I) (hIx:∀j,jZ 2 c w.heap.size (Ix j)) (hIp:∀ch,jZ 2 c w.heap.size (Ip ch)) (h0:I [] w) (Ax:α→Act→World→Prop) (hAx:∀x a',OwnFrom w.heap.size (fun(_:Unit) W=>Ax x a' W))
 (hassign:∀ (l:Nat) (pre:List α) (x:α) (W:World) (K:Act→World→Prop),I pre W→w.heap.size+2+c≤W.heap.size→(∀a' W',KeepsFrom w.heap.size W W'→Kp W W'→I pre W'→Ax x a' W'→K a' W') →
  assign.wpIn (Fence.wide.inRound l) (n-1-1) P (Exit.then K (fun _ _ _=>False)) {tmps:=(ps.zip (encs x)).foldl (fun t (p,v)=>t.setIfInBounds p v) a.tmps,defers:=[]} W)
 (hbody:∀ (l:Nat) (pre:List α) (x:α) (a':Act) (W:World),I pre W→Ax x a' W→Nx pre x→pre.length<N→w.heap.size+2+c≤W.heap.size→body.wpIn (Fence.wide.inRound l) (n-1-1) P (LK w.heap.size Kp I Ix Ip (pre++[x]) W) a' W)
 (hdone:∀ (D:Nat) (xs:List α) (W:World),w.heap.size≤D→S xs→I xs W→W.heap[D]? = some (.deferred (some []))→Q .normal {a with defers := {target:=.collected D,args:=#[]}::a.defers} W)
 (WW:∀ (D:Nat) (ch:List PanicEntry) (pre:List α) (W:World),w.heap.size≤D→Sp pre→Ip ch pre W→W.heap[D]? = some (.deferred (some []))→Q (.panic ch) {a with defers := {target:=.collected D,args:=#[]}::a.defers} W)
 (hstop:∀ (D:Nat) (c:Code) (pre:List α) (W:World),w.heap.size≤D→Sp pre→Ix c pre W→W.heap[D]? = some (.deferred (some []))→c.wpIn Fence.wide n P Q {a with defers := {target:=.collected D,args:=#[]}::a.defers} W) :
 v_ f0 Fence.wide n P (Code.rangeFunc g ps assign body) Q a w:=by
 refine F6 ?_
 -- the loop's record, by its state and its jump
 obtain⟨r,hr⟩:∃r:LoopState→Option Code→Loop,r=fun s j => {state:=s,pending:=j,fn:=f0,tmps:=a.tmps,params:=ps,assign,body,defers:=w.heap.size}:=⟨_,rfl⟩
 obtain⟨W1,e1⟩:∃W1,W1=(w.alloc (.deferred (some []))).alloc (.loop (r .ready none)):=⟨_,rfl⟩;have hs1:W1.heap.size=w.heap.size+2:=by rw[e1];simp
 have hB1:gY w.heap.size (r .ready none) W1:=by
  rw[e1];exact⟨by have:=zr (w.alloc (.deferred (some []))) (.loop (r .ready none));rwa [iF]at this,(si _ _ _ (by simp)).trans (zr w _)⟩
 have hI1:I [] W1:=by rw[e1];exact hI.from.alloc _ (hI.from.alloc _ h0)
 have hb1:Below w.heap.size w W1:=by rw[e1];exact((ax _ w).alloc (ai _) _).alloc (by simp) _
 refine⟨w.heap.size+1,[{target:=.collected w.heap.size,args:=#[]}],W1, {target:=.fn (.func gf) lb,args:=#[.func (.yield (w.heap.size+1)) #[] #[]]},W1,gf,#[.func (.yield (w.heap.size+1)) #[] #[]]++lb,W1,
  by rw[e1,hr];exact RL _ _ _ _ _,by simp only[resolve,hg];simp[go_sem],fun f' _=>trivial,by simp[invoke,go_sem,hgf],(fun h=>by cases h),?_⟩
 have hput:∀ (pre:List α) (W:World) (q q':Loop),gY w.heap.size q W→I pre W→I pre (W.putObj (w.heap.size+1) (.loop q')):=fun pre W q q' hb hi=>hI.from.putObj _ hi (by omega) hb.loop rfl
 have Eu:∀ (W:World) (q q':Loop),gY w.heap.size q W→Kp W (W.putObj (w.heap.size+1) (.loop q')):=fun W q q' hb=>hKb _ _ _ hb.loop rfl
 refine(hseq (w.heap.size+1) (fun pre W=>I pre W∧gY w.heap.size (r .ready none) W) (fun pre W=>∃j,Ix j pre W∧gY w.heap.size (r .done (some j)) W) (fun ch pre W=>Ip ch pre W∧gY w.heap.size {r .ready none with state:=.busy} W) W1 hb1 (by omega)
  (fun s A B row hs hg' hrow=>⟨hI s A B row hs.1 hg' (fun q e=>⟨by have:=(hrow q e).1;omega,(hrow q e).2.imp (fun h=>by omega) id⟩),hs.2.own hg' (fun q e=>by have:=(hrow q e).1;omega)⟩)
  (fun s A B row hs hg' hrow=>by
   obtain⟨j,hc,hbk⟩:=hs;exact⟨j,hIx j s A B row hc hg' (fun q e=>⟨by have:=(hrow q e).1;omega,(hrow q e).2.imp (fun h=>by omega) id⟩),hbk.own hg' (fun q e=>by have:=(hrow q e).1;omega)⟩)
  (fun ch s A B row hs hg' hrow=>⟨hIp ch s A B row hs.1 hg' (fun q e=>⟨by have:=(hrow q e).1;omega,(hrow q e).2.imp (fun h=>by omega) id⟩),hs.2.own hg' (fun q e=>by have:=(hrow q e).1;omega)⟩)
  ?_ ⟨hI1,hB1⟩).mono ?_
 ·rintro pre x W ⟨hi,hbk⟩ hnx hlen hW;have hW2:w.heap.size+2+c≤W.heap.size:=by omega
  have hy:=run_yield (P:=P) (args:=encs x) hbk.loop (by rw[hr];exact hps x);rw[hr]at hy;refine⟨f0,_,assign,body,hy,WV trivial hf0 (hassign _ pre x W _ hi hW2 fun a' V AD hpV hiV hxV=>?_)⟩;have um:=hbk.keeps AD;refine⟨_,run_beginRound um.loop (by rw[hr]),?_⟩;have hb2:=um.put {r .ready none with state:=.busy};have hi2:=hput pre V _ {r .ready none with state:=.busy} um hiV;have hx2:=(hAx x a').putObj (s:=()) (.loop {r .ready none with state:=.busy}) hxV (by omega) um.loop rfl;have hp2:=Eu V _ {r .ready none with state:=.busy} um;refine DZ (hbody _ pre x a' _ hi2 hx2 hnx hlen (by have:=AD.size;simp;omega)) ?_
  -- how a round ends
  have fin:∀ (j:Option Code) (X:World),KeepsFrom w.heap.size (V.putObj (w.heap.size+1) (.loop {r .ready none with state:=.busy})) X →
   (Instr.endRound (w.heap.size+1) j).run P X=.ok (.bool j.isNone) (X.putObj (w.heap.size+1) (.loop (r (if j.isNone then .ready else .done) j)))∧gY w.heap.size {r .ready none with state:=.busy} X:=fun j X hX=>by
   have hbX:=hb2.keeps hX;have:=run_endRound (P:=P) j hbX.loop;rw[hr]at this ⊢;exact⟨this,by rw[hr]at hbX;exact hbX⟩
  have lx:∀ {q:Loop} (X:World),KeepsFrom w.heap.size (V.putObj (w.heap.size+1) (.loop {r .ready none with state:=.busy})) X→w.heap.size+1<X.heap.size→KeepsFrom (w.heap.size+2) W (X.putObj (w.heap.size+1) (.loop q)):=fun X hX _ =>
   ⟨by have h1:=AD.size;have h2:=hX.size;rw[zA]at h2 ⊢;omega,fun k o hk ho hc=>(iD (by omega)).trans (hX.same k o (by omega) ((iD (by omega)).trans (AD.same k o (by omega) ho hc)) hc)⟩
  have aeA:∀ (X:World),KeepsFrom w.heap.size (V.putObj (w.heap.size+1) (.loop {r .ready none with state:=.busy})) X→KeepsFrom (w.heap.size+2) W X:=fun X hX =>
   ⟨by have h1:=AD.size;have h2:=hX.size;rw[zA]at h2;omega,fun k o hk ho hc=>hX.same k o (by omega) ((iD (by omega)).trans (AD.same k o (by omega) ho hc)) hc⟩
  rintro e a3 X hp;cases e with
  | normal =>
   obtain⟨hk3,hkp3,hi3⟩:=hp;obtain⟨hrun,hbX⟩:=fin none X hk3;exact⟨_,_,hrun,.inl ⟨rfl,⟨hput _ _ _ _ hbX hi3,hbX.put _⟩,hKt hpV (hKt (hKt hp2 hkp3) (Eu _ _ _ hbX))⟩⟩
  | ret =>
   obtain⟨hrun,hbX⟩:=fin (some .ret) X hp.1;exact⟨_,_,hrun,.inr (.inl ⟨rfl,⟨.ret,(hIx _).from.putObj _ hp.2 (by omega) hbX.loop rfl,hbX.put _⟩,lx X hp.1 hbX.lt⟩)⟩
  | exit id =>
   obtain⟨hrun,hbX⟩:=fin (some (.exit id)) X hp.1;exact⟨_,_,hrun,.inr (.inl ⟨rfl,⟨.exit id,(hIx _).from.putObj _ hp.2 (by omega) hbX.loop rfl,hbX.put _⟩,lx X hp.1 hbX.lt⟩)⟩
  | goto t =>
   obtain⟨hrun,hbX⟩:=fin (some (.goto t)) X hp.1;exact⟨_,_,hrun,.inr (.inl ⟨rfl,⟨.goto t,(hIx _).from.putObj _ hp.2 (by omega) hbX.loop rfl,hbX.put _⟩,lx X hp.1 hbX.lt⟩)⟩
  | panic ch=>exact⟨hp.1,.inr (.inr ⟨ch,rfl,⟨hp.2.2,hb2.keeps hp.2.1⟩,aeA X hp.2.1⟩)⟩
  | outgrown=>exact hp.elim
 ·rintro e W2 (⟨⟨v,rfl⟩,(⟨xs,hS,hi,hbk⟩ | ⟨pre,hSp,j,hi,hbk⟩)⟩ | ⟨ch,pre,rfl,hSp,hi,hbk⟩)
  ·have h:=DQ (P:=P) hbk.loop (by rw[hr];simp);rw[show(r .ready none).pending=none by rw[hr]]at h;exact⟨none,_,h,hdone _ xs _ (ai _) hS (hput _ _ _ _ hbk hi) (hbk.put _).shut⟩
  ·have h:=DQ (P:=P) hbk.loop (by rw[hr];simp);rw[show(r .done (some j)).pending=some j by rw[hr]]at h;exact⟨some j,_,h,hstop _ j pre _ (ai _) hSp ((hIx j).from.putObj _ hi (by omega) hbk.loop rfl) (hbk.put _).shut⟩
  ·exact WW _ ch pre _ (ai _) hSp hi hbk.shut
theorem aam {α:Type} {P:Program} {c n:Nat} {g:Operand} {ps:Array Tmp} {assign body:Code} {Q:Exit→Act→World→Prop} {a:Act} {w:World} {gf:Nat} {lb:Array Value} {f0:FuncId} (hf0:∃fn,P.funcs[f0]? = some fn) (upd:α→Array Value→Array Value)
 (hg:a.eval g=.func (.func gf) #[] lb) (hgf:∀args w,(callFunc gf args).run P w=.ok (.enter gf args) w)
 {encs:α→Array Value} {Kp:World→World→Prop} {S Sp:List α→Prop} {Nx:List α→α→Prop} {N:Nat} (hseq:LJ c (n-1) P gf lb encs Kp S Sp Nx N w)
 (hKt:∀ {A B C:World},Kp A B→Kp B C→Kp A C) (hKb:∀ (W:World) (o o':Obj),W.heap[w.heap.size+1]? = some o→o.isCells=false→Kp W (W.putObj (w.heap.size+1) o')) (hps:∀x,(encs x).size=ps.size)
 (I:List α→World→Prop) (Ix:Code→List α→World→Prop) (Ip:List PanicEntry→List α→World→Prop) (hI:jZ 2 c w.heap.size I) (hIx:∀j,jZ 2 c w.heap.size (Ix j)) (hIp:∀ch,jZ 2 c w.heap.size (Ip ch)) (h0:I [] w)
 (hassign:∀ (l:Nat) (pre:List α) (x:α) (W:World) (K:Act→World→Prop),I pre W→w.heap.size+2+c≤W.heap.size→(∀W',KeepsFrom w.heap.size W W'→Kp W W'→I pre W'→K {tmps:=upd x a.tmps,defers:=[]} W') →
  assign.wpIn (Fence.wide.inRound l) (n-1-1) P (Exit.then K (fun _ _ _=>False)) {tmps:=(ps.zip (encs x)).foldl (fun t (p,v)=>t.setIfInBounds p v) a.tmps,defers:=[]} W)
 (hbody:∀ (l:Nat) (pre:List α) (x:α) (W:World),I pre W→Nx pre x→pre.length<N→w.heap.size+2+c≤W.heap.size→body.wpIn (Fence.wide.inRound l) (n-1-1) P (LK w.heap.size Kp I Ix Ip (pre++[x]) W) {tmps:=upd x a.tmps,defers:=[]} W)
 (hdone:∀ (D:Nat) (xs:List α) (W:World),w.heap.size≤D→S xs→I xs W→W.heap[D]? = some (.deferred (some []))→Q .normal {a with defers := {target:=.collected D,args:=#[]}::a.defers} W)
 (WW:∀ (D:Nat) (ch:List PanicEntry) (pre:List α) (W:World),w.heap.size≤D→Sp pre→Ip ch pre W→W.heap[D]? = some (.deferred (some []))→Q (.panic ch) {a with defers := {target:=.collected D,args:=#[]}::a.defers} W)
 (hstop:∀ (D:Nat) (c:Code) (pre:List α) (W:World),w.heap.size≤D→Sp pre→Ix c pre W→W.heap[D]? = some (.deferred (some []))→c.wpIn Fence.wide n P Q {a with defers := {target:=.collected D,args:=#[]}::a.defers} W) :
 v_ f0 Fence.wide n P (Code.rangeFunc g ps assign body) Q a w :=
 T2 hf0 hg hgf hseq hKt hKb hps I Ix Ip hI hIx hIp h0 (fun x a' _=>a' = {tmps:=upd x a.tmps,defers:=[]})
  (fun _ _ _ _ _ _ hs _ _=>hs)
  (fun l pre x W K h1 h2 hK=>hassign l pre x W K h1 h2 (fun W' k1 k2 k3=>hK _ W' k1 k2 k3 rfl))
  (fun l pre x a' W h1 h2 hn h3 h4=>by subst h2;exact hbody l pre x W h1 hn h3 h4) hdone WW hstop
attribute [local go_sem] kM
def T3 (st:List UInt8) (J Jx:List (Fin (aD st.length))→World→Prop) (Jp:List PanicEntry→List (Fin (aD st.length))→World→Prop) (e:Ending) (W':World):Prop :=
 ((∃v,e=.returned v)∧((∃ys,ys=List.finRange (aD st.length)∧J ys W')∨(∃pre,pre <+: List.finRange (aD st.length)∧Jx pre W')))∨∃ch pre,e=.panicked ch∧pre <+: List.finRange (aD st.length)∧Jp ch pre W'
theorem Qt (n:Nat) (hn:1≤n) (l Bs Bn B C:Nat) (T:Nat→TypeId→Prop) (hT1:¬T Bs 26) (kq:¬T Bn 3) (a:Option Addr) (cap:Nat) (st:List UInt8) (J Jx:List (Fin (aD st.length))→World→Prop) (Jp:List PanicEntry→List (Fin (aD st.length))→World→Prop)
 (hA:∀pre W,J pre W→J pre W.drew)
 (hY:∀pre x W,J pre W→pre.length<aD st.length→YieldAt Fence.wide (n-1) Tryz.prog l #[nK a st.length x.val] W fun e W' =>
  (e=.returned (.bool true)∧J (pre++[x]) W'∧bH T B C W W')∨(e=.returned (.bool false)∧Jx (pre++[x]) W')∨∃ch,e=.panicked ch∧Jp ch (pre++[x]) W')
 (W:World) (iy:ah W Bs 26 #[.slice a st.length cap]) (sw:ah W Bn 3 #[.int .i64 512]) (hst:st.length≤1000000) (hcap:st.length≤cap) (hc:cap≤maxLen) (h0:J [] W) :
 CallsIn Fence.wide n Tryz.prog 142 #[.func (.yield l) #[] #[],.pointer (some ⟨Bs,0,none⟩),.pointer (some ⟨Bn,0,none⟩)] W fun e W'=>T3 st J Jx Jp e W':=by
 have hro:Fence.wide.round=none:=rfl;refine oP DM rfl trivial ?_ hro;simp only[Tryz.ntmps142,List.size_toArray,List.length_cons,List.length_nil,Nat.reduceAdd,Nat.reduceSub,Array.replicate_succ,Array.replicate_zero,List.push_toArray,List.append_toArray,List.nil_append,List.cons_append];gi_wp2
 gi_loopw [4] (fun i wr=>∃k:Nat,k≤aD st.length∧i=.int .i64 ((512*k:Nat):Int)∧J ((List.finRange (aD st.length)).take k) wr∧bH T B C W wr)
  (fun i _=>512*aD st.length-(intOf i).toNat)
 case atStart=>exact⟨0,fi _,rfl,h0,bH.refl _ _ _ _⟩
 case round =>
  obtain⟨k,hk,rfl,hJs,hnx⟩:=hrel;have Ar:=(hnx.blk iy hT1).ag 0 rfl;have C0:=(hnx.blk sw kq).ag 0 rfl;by_cases hlt:k<aD st.length
  ·have hlt2:512*k<st.length:=by unfold aD at hlt;omega
   have i1:((512*k:Nat):Int)<(st.length:Int):=by omega
   have i2:(0:Int)≤((512*k:Nat):Int):=by omega
   have i3:((512*k:Nat):Int)≤(st.length:Int):=by omega
   generalize hq:512*k=q at *;gi_wp2
   refine fV.2 ?_;refine bF (S:=(fun w'=>w'.cell? ⟨Bs,0,none⟩=some (.slice a st.length cap)∧w'.cell? ⟨Bn,0,none⟩=some (.int .i64 512))) (by kernel_rfl) (by(try dsimp only);(exact⟨Ar,C0⟩)) (fun hHeld=>?_);refine tk 0 ?_;refine tk 1 ?_;refine tk 2 ?_;refine tk 3 ?_;refine tk 4 ?_;refine tk 5 ?_;refine tk 6 ?_;refine aT ?_;have eE:(min 512 ((st.length-q:Nat):Int))=((min 512 (st.length-q):Nat):Int):=by omega
   rw[eE];obtain⟨E,hE⟩:∃E,E=min 512 (st.length-q):=⟨_,rfl⟩;rw[←hE];have j1:0<E:=by omega
   have j2:(q:Int)+(E:Int)≤(cap:Int):=by omega
   have j3:IntKind.i64.wrap ((q:Int)+(E:Int))=((q+E:Nat):Int):=by unfold maxLen at hc;rw[cz];omega
   have j4:((q+E:Nat):Int)≤(cap:Int):=by omega
   have j5:(q:Int)≤((q+E:Nat):Int):=by omega
   have j6:(0:Int)≤((q+E:Nat):Int):=by omega
   have j7:¬q+E=q:=by omega
   have j8:q+E-q=E:=by omega
   have hlen1:((List.finRange (aD st.length)).take k).length<aD st.length:=by rw[bD,tq];omega
   have hJd:=hA _ _ hJs;have As:(List.finRange (aD st.length)).take (k+1)=(List.finRange (aD st.length)).take k++[⟨k,hlt⟩]:=by
    rw[gG,aY (by rw[tq];exact hlt)];simp
   obtain⟨fn,tmps,assign,body,hy,hR⟩:=hY _ ⟨k,hlt⟩ _ hJd hlen1;simp only[nK,hq]at hy;rw[←hE]at hy;have HE:=ae hE;have HQ:=ae hq;have jx:=ae As;clear hE hq As eE hY Ar C0;have Ar:=((hnx.blk iy hT1).drew).ag 0 rfl;have C0:=((hnx.blk sw kq).drew).ag 0 rfl;gi_wp2
   refine hR.mono ?_;rintro e W3 (⟨rfl,hJ3,hk3⟩ | ⟨rfl,hJx3⟩ | ⟨ch,rfl,WX⟩)
   ·have hkk:bH T B C W W3:=(hnx.trans (bH.drew' T B C wr)).trans hk3;have ahS:=(hkk.blk sw kq).ag 0 rfl;have hq2:IntKind.i64.wrap ((q:Int)+512)=(q:Int)+512:=by unfold maxLen at hc;rw[cz];omega
    gi_wp2
    go_roundw
    case rel=>exact⟨k+1,by omega,by have:=HQ.out;congr 1;omega,by rw[jx.out];exact hJ3,hkk⟩
    case measure=>have:=HQ.out;simp[intOf];omega
   ·gi_wp2
    refine bc (oS rfl _ _ _) rfl ?_;exact .inl ⟨⟨_,rfl⟩,.inr ⟨_,by rw[←jx.out];exact zH _ _,hJx3⟩⟩
   ·gi_wp2
    exact⟨rfl,.inr ⟨ch,_,rfl,by rw[←jx.out];exact zH _ _,WX⟩⟩
  ·obtain rfl:k=aD st.length:=by omega
   have i1:¬ ((512*aD st.length:Nat):Int)<(st.length:Int):=by unfold aD;omega
   gi_wp2
   go_end0
   rw[dg (by rw[tq];exact ai _)]at hJs;exact .inl ⟨⟨_,rfl⟩,.inl ⟨_,rfl,hJs⟩⟩
theorem Qu (n:Nat) (hn:1≤n) (Bs Bn B C:Nat) (T:Nat→TypeId→Prop) (hT1:¬T Bs 26) (kq:¬T Bn 3) (a:Option Addr) (cap:Nat) (st:List UInt8) (w:World)
 (iy:ah w Bs 26 #[.slice a st.length cap]) (sw:ah w Bn 3 #[.int .i64 512]) (hst:st.length≤1000000) (hcap:st.length≤cap) (hc:cap≤maxLen) :
 LJ 0 n Tryz.prog 142 #[.pointer (some ⟨Bs,0,none⟩),.pointer (some ⟨Bn,0,none⟩)] (fun x:Fin (aD st.length)=>#[nK a st.length x.val]) (bH T B C) (fun ys=>ys=List.finRange (aD st.length)) (fun pre=>pre <+: List.finRange (aD st.length)) (fun _ _=>True) (aD st.length) w :=
 fun l J Jx Jp W hW _ hJ hJx T4 hY h0 =>
  (Qt n hn l Bs Bn B C T hT1 kq a cap st (fun pre X=>J pre X∧W.heap.size≤X.heap.size) Jx Jp (fun pre X h=>⟨hJ pre X _ none h.1 ⟨rfl,rfl,rfl,ai _,fun _ _ _=>rfl⟩ (fun r e=>by cases e),h.2⟩)
   (fun pre x X hX hl=>by
    obtain⟨fn,tm,as_,bd,hy,hR⟩:=hY pre x X hX.1 trivial hl (by have:=hX.2;omega);refine⟨fn,tm,as_,bd,hy,hR.mono ?_⟩;rintro e X' (⟨h1,h2,h3⟩ | ⟨h1,h2,_⟩ | ⟨ch,h1,h2,_⟩)
    ·exact .inl ⟨h1,⟨h2,jF hX.2 h3.size⟩,h3⟩
    ·exact .inr (.inl ⟨h1,h2⟩)
    ·exact .inr (.inr ⟨ch,h1,h2⟩))
   W (iy.below hW iy.lt) (sw.below hW sw.lt) hst hcap hc ⟨h0,ai _⟩).mono fun e X h=>by
    rcases h with ⟨h1,⟨ys,h2,h3⟩ | h3⟩ | h3
    ·exact .inl ⟨h1,.inl ⟨ys,h2,h3.1⟩⟩
    ·exact .inl ⟨h1,.inr h3⟩
    ·exact .inr h3
end Go.Proofs.YtdpniceapmikpaaGreat
namespace Go.Proofs.YtdpniceapmikpaaGreat
open Go.RowKit Go.Shelf
attribute [local go_sem] kM
def T5 (st:List UInt8) (J Jx:List (Fin (aD st.length)×mY)→World→Prop) (Jp:List PanicEntry→List (Fin (aD st.length)×mY)→World→Prop) (e:Ending) (W':World):Prop :=
 ((∃v,e=.returned v)∧((∃ys,ys.map (·.1.val)=List.range (aD st.length)∧J ys W')∨(∃pre,True∧Jx pre W')))∨∃ch pre,e=.panicked ch∧Jp ch pre W'
theorem Qv (n:Nat) (hn:3≤n) (l Bs C:Nat) (T:Nat→TypeId→Prop) (gs:Nat) (st:List UInt8) (J Jx:List (Fin (aD st.length)×mY)→World→Prop) (Jp:List PanicEntry→List (Fin (aD st.length)×mY)→World→Prop) (W:World)
 (hJ:jZ 0 2 W.heap.size J) (hJx:jZ 0 2 W.heap.size Jx) (T4:∀ch,jZ 0 2 W.heap.size (Jp ch)) (hT:∀i,W.heap.size≤i→(¬T i 26∧¬T i 3∧¬T i 199))
 (hY:∀pre x X,J pre X→x.1.val=pre.length→pre.length<aD st.length→W.heap.size+2≤X.heap.size→YieldAt Fence.wide (n-1) Tryz.prog l (Tr x) X fun e W' =>
  (e=.returned (.bool true)∧J (pre++[x]) W'∧j_ T C gs st.length X W')∨(e=.returned (.bool false)∧Jx (pre++[x]) W'∧KeepsFrom C X W')∨∃ch,e=.panicked ch∧Jp ch (pre++[x]) W'∧KeepsFrom C X W')
 (iy:W.cell? ⟨Bs,0,none⟩=some (.slice (some ⟨gs,0,none⟩) st.length st.length)) (hv:iq gs st.length W) (hst:st.length≤1000000) (hgs:gs<W.heap.size) (hC:C≤W.heap.size) (h0:J [] W) :
 CallsIn Fence.wide n Tryz.prog 107 #[.func (.yield l) #[] #[],.pointer (some ⟨Bs,0,none⟩)] W fun e W'=>T5 st J Jx Jp e W':=by
 have h1:1≤n:=by omega
 have hro:Fence.wide.round=none:=rfl;refine vD zX rfl trivial ?_ hro;simp only[Tryz.ntmps107,List.size_toArray,List.length_cons,List.length_nil,Nat.reduceAdd,Nat.reduceSub,Array.replicate_succ,Array.replicate_zero,List.push_toArray,List.append_toArray,List.nil_append,List.cons_append];have hlt:=od W _ iy;refine lC (mX (fV.2 ?_));go_wp2_with fail;refine lC (mX (fV.2 ?_));go_wp2_with fail;refine lC (mX (fV.2 ?_));go_wp2_with fail;refine(mr.1 (Ks 5 _ _ _ _)).mono ?_;rintro e w2 ⟨rfl,rfl⟩;go_wp2_with fail;refine Fg ?_;obtain⟨V,eV⟩:∃V,V=(((W.alloc (.cells #[.func (.yield l) #[] #[]] 199)).alloc (.cells #[.int .i64 0] 3)).alloc (.cells #[.slice (some ⟨gs,0,none⟩) st.length st.length] 26)).alloc (.cells #[.int .i64 512] 3):=⟨_,rfl⟩;rw[←eV];have um:Below W.heap.size W V:=by rw[eV];exact((((ax _ W).alloc (ai _) _).alloc (by simp) _).alloc (by simp;omega) _).alloc (by simp;omega) _
 have k0:ah V W.heap.size 199 #[.func (.yield l) #[] #[]]:=by rw[eV];exact(((ah.new W _ _).alloc _).alloc _).alloc _
 have k1:ah V (W.heap.size+1) 3 #[.int .i64 0]:=by rw[eV];exact((ah.new2 W _ _ _).alloc _).alloc _
 have k2:ah V (W.heap.size+1+1) 26 #[.slice (some ⟨gs,0,none⟩) st.length st.length]:=by rw[eV];exact(ah.new' (by simp)).alloc _
 have k3:ah V (W.heap.size+1+1+1) 3 #[.int .i64 512]:=by rw[eV];exact ah.new' (by simp)
 have hVs:V.heap.size=W.heap.size+4:=by rw[eV];simp
 have hJ0:J [] V:=by rw[eV];exact hJ.from.alloc _ (hJ.from.alloc _ (hJ.from.alloc _ (hJ.from.alloc _ h0)))
 clear eV;have kq:=(hT (W.heap.size+1+1) (by omega)).1;have yT:=(hT (W.heap.size+1+1+1) (by omega)).2.1;have hTy:=(hT W.heap.size (ai _)).2.2;have hvV:iq gs st.length V:=hv.below um hgs;have hc:st.length≤maxLen:=by unfold maxLen;omega
 refine T2 (gf:=142) (lb:=#[.pointer (some ⟨W.heap.size+1+1,0,none⟩),.pointer (some ⟨W.heap.size+1+1+1,0,none⟩)]) ⟨_,zX⟩ rfl (enters_of DM (by kernel_rfl) rfl)
  (Qu (n-1) (by omega) (W.heap.size+1+1) (W.heap.size+1+1+1) 0 (V.heap.size+2) (fun i t=>T i t∨i=W.heap.size+1) (fun h=>h.elim kq (by omega)) (fun h=>h.elim yT (by omega)) (some ⟨gs,0,none⟩) st.length st V k2 k3 hst (ai _) hc) CZ (x7 (by omega) (by omega)) (fun _=>rfl)
  (fun pre X=>((∃ys:List (Fin (aD st.length)×mY),ys.map (·.1.val)=List.range pre.length∧J ys X)∧iq gs st.length X)∧(ah X W.heap.size 199 #[.func (.yield l) #[] #[]]∧ah X (W.heap.size+1) 3 #[.int .i64 (pre.length:Int)]∧bH (fun i t=>T i t∨i=W.heap.size+1) 0 (V.heap.size+2) V X))
  (fun c pre X=>c=.ret∧∃ys,Jx ys X) (fun ch pre X=>∃ys,Jp ch ys X)
  (OwnFrom.zero (fun s A A' row hs hg hr=>⟨⟨by obtain⟨ys,h1,h2⟩:=hs.1.1;exact⟨ys,h1,hJ.from _ A A' row h2 hg (fun r e=>⟨by have:=(hr r e).1;omega,(hr r e).2⟩)⟩,hs.1.2.own hg (fun r e=>by have:=(hr r e).1;omega)⟩,hs.2.1.own hg (fun r e=>(hr r e).2),hs.2.2.1.own hg (fun r e=>(hr r e).2),Ew hs.2.2.2 hg (fun r e=>⟨⟨by have:=(hr r e).1;omega,(hr r e).1⟩,(hr r e).2⟩) (by omega)⟩))
  (fun c=>OwnFrom.zero (fun s A A' row hs hg hr=>⟨hs.1,by obtain⟨ys,h2⟩:=hs.2;exact⟨ys,hJx.from _ A A' row h2 hg (fun r e=>⟨by have:=(hr r e).1;omega,(hr r e).2⟩)⟩⟩))
  (fun ch=>OwnFrom.zero (fun s A A' row hs hg hr=>by obtain⟨ys,h2⟩:=hs;exact⟨ys,(T4 ch).from _ A A' row h2 hg (fun r e=>⟨by have:=(hr r e).1;omega,(hr r e).2⟩)⟩))
  ⟨⟨⟨[],rfl,hJ0⟩,hvV⟩,k0,k1,bH.refl _ _ _ _⟩
  (fun x a' X=>a' = {tmps:=#[.func (.yield l) #[] #[],.pointer (some ⟨Bs,0,none⟩),.pointer (some ⟨W.heap.size,0,none⟩),.pointer (some ⟨W.heap.size+1,0,none⟩),nK (some ⟨gs,0,none⟩) st.length x.val,undef,.slice (some ⟨gs,0,none⟩) st.length st.length,.func (.func 142) #[] #[.pointer (some ⟨W.heap.size+1+1,0,none⟩),.pointer (some ⟨W.heap.size+1+1+1,0,none⟩)],nK (some ⟨gs,0,none⟩) st.length x.val,undef,undef,undef,undef,undef,undef,undef,undef,undef,undef],defers:=[]})
  (fun x a' s A A' row hs hg hr=>hs) ?assign ?body ?done ?pan ?stop
 case assign =>
  intro l2 pre x X K hI hX2 hK;gi_wp2
  exact hK _ _ (KeepsFrom.refl _ _) (bH.refl _ _ _ _) hI rfl
 case body =>
  rintro l2 pre x a' X ⟨⟨⟨ys,hys,pM⟩,hpg⟩,hy0,hi0,hkt⟩ rfl _ hlen yU;have hyl:ys.length=pre.length:=by have:=dz List.length hys;simpa using this
  have hp:pre.length≤2000000:=by
   have h1:pre.length<aD st.length:=hlen;have h2:aD st.length≤2000000:=by unfold aD;omega
   omega
  obtain⟨st',hst',hbk'⟩:=hpg;have hch:=Cj (a:=some ⟨gs,0,none⟩) (cap:=st'.length) (by have h:=fq hbk' st'.length (ai _) (by unfold maxLen;omega);rwa [iG]at h) x.val (by rw[hst'];exact x.isLt);rw[hst']at hch;have hb1:=(ax X.heap.size X).alloc (ai _) (.cells Tryz.zeroCells111 111);have kz:ah (X.alloc (.cells Tryz.zeroCells111 111)) X.heap.size 111 (az.map aj).toArray:=by rw[←bE];exact ah.new X _ _
  obtain⟨X2,hr2,hk2,ho2⟩:=lW _ X.heap.size 111 az kz X.heap.size _ _ _ 512 (iK st' x.val) (hch.below hb1 (ai _)) (by rw[bA];exact x_ st' x.val) 3;rw[bA]at hr2;have hb2:Below X.heap.size X X2:=hb1.trans (ho2.below hb1.size (fun i hi e=>by omega));have abU:iq gs st.length X2:=iq.below ⟨st',hst',hbk'⟩ hb2 hbk'.lt;have hJ2:J ys X2:=hJ _ X X2 none pM ⟨hb2.os,hb2.tape,hb2.output,hb2.size,fun i hi _=>hb2.block i hi⟩ (fun r e=>by cases e);have hy2:=(hy0.below hb2 hy0.lt).ag 0 rfl;have hi2:=(hi0.below hb2 hi0.lt).ag 0 rfl;have hld:=sj (P:=Tryz.prog) X2 X.heap.size 0 111 ((js az (iK st' x.val)).map aj) _ (fun j v hv=>hk2.ag (0+j) (by rw[jd,cW];exact hv)) dj rfl (by rw[cR,vg];exact fQ);obtain⟨fn,tm,as_,bd,hy,hR⟩:=hY _ (⟨pre.length,hlen⟩,jH st' x.val) X2 hJ2 (by rw[hyl]) (by rw[hyl];exact hlen) (by have:=hb2.size;omega);simp only[Tr,jH]at hy;have HKT:=ae hkt;have HB2:=ae hb2;have Ku:=ae hy0;have HI0:=ae hi0;have aiB:=ae abU;have NZ:=ae (And.intro hys hyl);have KT:=ae (fun(W3:World) (hk3:bH T 0 C X2 W3) (v:Value)=>(bH.of (T:=fun i t=>T i t∨i=W.heap.size+1) (B:=0) (C:=V.heap.size+2) hb2 (by omega)).trans ((hk3.Ph (C':=V.heap.size+2) (fun i t h=>.inl h) (by omega)).trans (Ev (B:=0) (C:=V.heap.size+2) (g:=W.heap.size+1) (by omega) (by omega) (fun t=>.inr rfl) W3 v)));clear hkt hb1 hb2 hch kz ho2 hJ2 pM hY hy0 hi0 abU hbk' hys hyl;gi_wp2_with (first
   | (refine DE rfl fun _ hK=>xP rfl (Lib.wp_copy_run _ (.tmp 9) (.tmp 10) 26 26 rfl _ _ rfl rfl hr2 (hK _ _ ?_)))
   | (refine lU _ 111 _ rfl _ _ rfl hld ?_))
  refine⟨fun h=>(by cases h),(GJ hR).mono ?_⟩;rintro e W3 (⟨rfl,hJ3,hk3,hp3⟩ | ⟨rfl,hJx3,AF⟩ | ⟨ch,rfl,WX,AF⟩)
  ·have hti:=(hT (W.heap.size+1) (by omega)).2.1;have hi3:=hk3.blk (HI0.out.below HB2.out HI0.out.lt) hti;have ci3:=hi3.ag 0 rfl;have fi3:=hi3.frozen 0;have hpl:IntKind.i64.wrap ((pre.length:Int)+1)=(pre.length:Int)+1:=by rw[cz];omega
   gi_wp2
   refine⟨⟨by have h1:=HB2.out.size;have h2:=hk3.size;simp;omega,fun k o hk ho hc=>?_⟩,?_,⟨?_,?_,?_,?_⟩⟩
   ·have h1:=hk3.others k o (by omega) ((HB2.out.block k (ee.1 ho).1).trans ho) hc;exact(gE W3 _ _ _ (by show k≠W.heap.size+1;omega)).trans h1
   ·exact KT.out W3 hk3 _
   ·refine⟨⟨_,?_,hJ _ W3 _ (some (W.heap.size+1)) hJ3 (grownBy_setCell' W3 (W.heap.size+1) _) (fun r e=>by cases e;exact⟨by omega,.inl ⟨by omega,by omega⟩⟩)⟩,(hp3 aiB.out).br (by omega) _⟩;rw[cK,NZ.out.1,bX,Iw,nc];rfl
   ·exact(hk3.blk (Ku.out.below HB2.out Ku.out.lt) hTy).far (p:=⟨W.heap.size+1,0,none⟩) (by simp) _
   ·have h:=hi3.br 0 (.int .i64 ((pre.length:Int)+1));have e:((pre++[x]).length:Int)=(pre.length:Int)+1:=by simp
    rw[e];exact h
   ·exact HKT.out.trans (KT.out W3 hk3 _)
  ·gi_wp2
   exact⟨⟨by have h1:=HB2.out.size;have h2:=AF.size;omega,fun k o hk ho hc=>AF.same k o (by omega) ((HB2.out.block k (ee.1 ho).1).trans ho) hc⟩,rfl,_,hJx3⟩
  ·gi_wp2
   exact⟨rfl,⟨by have h1:=HB2.out.size;have h2:=AF.size;omega,fun k o hk ho hc=>AF.same k o (by omega) ((HB2.out.block k (ee.1 ho).1).trans ho) hc⟩,_,WX⟩
 case done =>
  rintro Dd xs X Gv rfl ⟨⟨⟨ys,hys,pM⟩,_⟩,_,_,_⟩ hK;rw[tq]at hys;go_wp2_with fail;refine⟨by simp,.inl ⟨_,_,rfl,m' hK,?_⟩⟩;exact⟨_,oS rfl _ _ _,.inl ⟨⟨_,rfl⟩,.inl ⟨_,hys,hJ.from.putObj _ pM (by omega) hK rfl⟩⟩⟩
 case pan =>
  rintro Dd ch pre X Gv hSp ⟨zs,pM⟩ hK;refine⟨by simp,.inl ⟨_,_,rfl,m' hK,?_⟩⟩;exact .inr ⟨ch,_,rfl,(T4 ch).from.putObj _ pM (by omega) hK rfl⟩
 case stop =>
  rintro Dd c pre X Gv hSp ⟨rfl,zs,pM⟩ hK;refine fV.2 ?_;go_wp2_with fail;refine⟨by simp,.inl ⟨_,_,rfl,m' hK,?_⟩⟩;exact⟨_,oS rfl _ _ _,.inl ⟨⟨_,rfl⟩,.inr ⟨_,trivial,hJx.from.putObj _ pM (by omega) hK rfl⟩⟩⟩
theorem Nj (n:Nat) (hn:3≤n) (Bs:Nat) (T:Nat→TypeId→Prop) (gs:Nat) (st:List UInt8) (w:World) (hT:∀i,w.heap.size≤i→(¬T i 26∧¬T i 3∧¬T i 199))
 (iy:ah w Bs 26 #[.slice (some ⟨gs,0,none⟩) st.length st.length]) (hv:iq gs st.length w) (hst:st.length≤1000000) (hgs:gs<w.heap.size) :
 LJ 2 n Tryz.prog 107 #[.pointer (some ⟨Bs,0,none⟩)] (Tr (N:=aD st.length)) (j_ T (w.heap.size+2) gs st.length) (fun ys=>ys.map (·.1.val)=List.range (aD st.length)) (fun _=>True) (fun pre x=>x.1.val=pre.length) (aD st.length) w :=
 fun l J Jx Jp W hW hWs hJ hJx T4 hY h0=>(Qv n hn l Bs (w.heap.size+2) T gs st J Jx Jp W hJ hJx T4 (fun i hi=>hT i (by omega)) hY ((iy.below hW iy.lt).ag 0 rfl) (hv.below hW hgs) hst (by have:=hW.size;omega) hWs h0).mono fun e X h=>by
  rcases h with h | ⟨ch,pre,h1,h2⟩
  ·exact .inl h
  ·exact .inr ⟨ch,pre,h1,trivial,h2⟩
end Go.Proofs.YtdpniceapmikpaaGreat
namespace Go.Proofs.YtdpniceapmikpaaGreat
open Go.RowKit
def Qw (t1 t2:Tmp) (u1 u2:Value) (ds:List Deferred) (I:Act→World→Prop) (J:List PanicEntry→World→Prop):Exit→Act→World→Prop
 | .normal,a,w=>I a w
 | .panic ch,a,w=>(a.defers=ds∧a.tmps.getD t1 undef=u1∧a.tmps.getD t2 undef=u2)∧J ch w
 | _,_,_=>False
theorem LL (t:Tmp) (d:Option Tmp) (a:Act) (v:Value) (h:(d == some t)=false):(a.put d v).tmps.getD t undef=a.tmps.getD t undef:=by
 cases d with
 | none=>rfl
 | some k =>
  have hk:k≠t:=fun e=>by rw[e]at h;simp at h
  show(a.tmps.setIfInBounds k v).getD t undef=_;simp[Array.getElem?_setIfInBounds,hk]
theorem nY {t1 t2:Tmp} {u1 u2:Value} {ds:List Deferred} {I:Act→World→Prop} {J:List PanicEntry→World→Prop} {d:Option Tmp} {v:Value} (h1:(d == some t1)=false) (h2:(d == some t2)=false) :
 ∀c a w,Qw t1 t2 u1 u2 ds I J (.panic c) (a.put d v) w→Qw t1 t2 u1 u2 ds I J (.panic c) a w:=fun c a w h =>
 ⟨⟨by have:=h.1.1;cases d<;>exact this,(LL t1 d a v h1).symm.trans h.1.2.1,(LL t2 d a v h2).symm.trans h.1.2.2⟩,h.2⟩
theorem G_ {P:Program} {c:Code} {Q:Exit→Act→World→Prop} {a:Act} {w:World} (t1 t2:Tmp) (u1 u2:Value) (ds:List Deferred) {ι:Type} (A:ι→Act) (I:ι→World→Prop) (J:List PanicEntry→World→Prop)
 (h:c.wp P (Qw t1 t2 u1 u2 ds (fun a' w'=>∃i,a'=A i∧I i w') J) a w) (hk:∀i w',I i w'→Q .normal (A i) w')
 (hp:∀ch a' w',a'.defers=ds→a'.tmps.getD t1 undef=u1→a'.tmps.getD t2 undef=u2→J ch w'→Q (.panic ch) a' w'):c.wp P Q a w :=
 Code.wp_mono (fun e a' w' h=>by
  cases e with
  | normal=>obtain⟨i,rfl,hi⟩:=h;exact hk i w' hi
  | panic ch=>exact hp ch a' w' h.1.1 h.1.2.1 h.1.2.2 h.2
  | _=>exact h.elim) h
end Go.Proofs.YtdpniceapmikpaaGreat
