/-
  The contracts of volume.Size and
-/
import Derived.Test.YtdpniceapmikpaaGreatRd2
import Derived.Test.YtdpniceapmikpaaGreatRd1
import Derived.Deep.RegionHeld3
import Derived.Deep.AppendLies
import Derived.Great.BuildSlice
set_option linter.unusedVariables false
set_option linter.unusedSimpArgs false
set_option maxRecDepth 100000
set_option maxHeartbeats 32000000
namespace Go.Proofs.YtdpniceapmikpaaGreat
open Go.RowKit
theorem Ka:∀ (ps:List Part) (j:Nat) (p:Part),ps[j]? = some p→∀i,i<4→(jJ ps)[j*4+i]? = p.cells[i]? :=by
 intro ps;induction ps with
 | nil=>intro j p h;simp at h
 | cons q ps ih =>
  intro j p h i hi;have e:jJ (q::ps)=q.cells++jJ ps:=rfl;rw[e];cases j with
  | zero =>
   obtain rfl:q=p:=by simpa using h
   rw[xb,cW,iC (by simpa using hi)]
  | succ j =>
   have h':ps[j]? = some p:=by simpa using h
   rw[gl (by simp;omega)];have e2:(j+1)*4+i-q.cells.length=j*4+i:=by simp;omega
   rw[e2];exact ih j p h' i hi
theorem Kb {W:World} {B:Nat} {v:Value} {ps:List Part} (h:W.ownsRow B 174 4 v ps.length (jJ ps)) (hp:0<ps.length) :
 ∃g cap,v=.slice (some ⟨g,0,none⟩) ps.length cap∧g<W.heap.size∧∀j p,ps[j]? = some p→W.cell? ⟨g,j*4,none⟩=some (.int .i64 p.k)∧W.cell? ⟨g,j*4+1,none⟩=some (.int .i64 p.a)∧W.cell? ⟨g,j*4+2,none⟩=some (.int .i64 p.f)∧W.cell? ⟨g,j*4+3,none⟩=some (.int .i64 p.m):=by
 obtain⟨g,cap,rfl,hB,hlt⟩:=h.form hp;refine⟨g,cap,rfl,hlt,fun j p hj=>?_⟩;have hc:=h.cells (g:=g) rfl;have key:∀i,i<4→∀u,p.cells[i]? = some u→W.cell? ⟨g,j*4+i,none⟩=some u:=by
  intro i hi u hu;have:=hc (j*4+i) u ((Ka ps j p hj i hi).trans hu);rw[eP,cW]at this;exact this
 exact⟨key 0 (by omega) _ rfl,key 1 (by omega) _ rfl,key 2 (by omega) _ rfl,key 3 (by omega) _ rfl⟩
theorem jG (N:Int):(ga N).length=8:=rfl
def vP (ps:List Part):Int:=(ps.map (·.m)).sum
theorem SE (ps:List Part) (j:Nat) (p:Part) (h:ps[j]? = some p):vP (ps.take (j+1))=vP (ps.take j)+p.m:=by
 rw[gG,h];simp[vP]
theorem ZW (N:Int) (h0:0≤N) (j:Nat) (hj:j≤8):0≤vP ((ga N).take j)∧vP ((ga N).take j)≤20+3*N:=by
 have:j=0∨j=1∨j=2∨j=3∨j=4∨j=5∨j=6∨j=7∨j=8:=by omega
 rcases this with rfl | rfl | rfl | rfl | rfl | rfl | rfl | rfl | rfl<;>simp[vP,ga,xX]<;>omega
theorem VD (N:Int):vP (ga N)=20+3*N:=by
 simp[vP,ga,xX];omega
theorem Kc (N:Int) (h0:0≤N) (h1:N≤1000) (j:Nat) (p:Part) (h:(ga N)[j]? = some p):0≤p.m∧p.m≤1000∧0≤p.f∧p.f≤3020:=by
 have hj:j<8:=by
  rcases bZ j 8 with hh | hh
  ·exact hh
  ·rw[dh (by rw[jG];exact hh)]at h;cases h
 have:j=0∨j=1∨j=2∨j=3∨j=4∨j=5∨j=6∨j=7:=by omega
 rcases this with rfl | rfl | rfl | rfl | rfl | rfl | rfl | rfl<;>(obtain rfl:=gH h;simp[yP]<;>omega)
theorem ZX (N:Int) (w:World) (h:aZ N=false):Calls Tryz.prog 39 #[.agg #[.int .i64 N]] w fun e w'=>e=.returned (.tuple #[.int .i64 0,.int .i64 2])∧Below w.heap.size w w':=by
 go_enter Tryz.func39,Tryz.ntmps39
 go_wp2_with fail;refine(vc N _).mono ?_;rintro e w1 ⟨rfl,hb⟩;have hbb:=((ax w.heap.size w).alloc (ai _) (.cells #[.int .i64 N] 23)).trans (hb.mono (by simp));rw[h];go_wp2_with fail;go_ret2
 exact⟨rfl,hbb⟩
theorem VE (N:Int) (w:World) (h:aZ N=true):Calls Tryz.prog 39 #[.agg #[.int .i64 N]] w fun e w'=>e=.returned (.tuple #[.int .i64 (20+3*N),.int .i64 0])∧Below w.heap.size w w':=by
 have hN:1≤N∧N≤64:=by simpa[aZ]using h
 go_enter Tryz.func39,Tryz.ntmps39
 go_wp2_with fail;refine(vc N _).mono ?_;rintro e w1 ⟨rfl,hb⟩;have hP1:ah w1 w.heap.size 23 #[.int .i64 N]:=(ah.new w _ _).below hb (by simp);have hbb:=((ax w.heap.size w).alloc (ai _) (.cells #[.int .i64 N] 23)).trans (hb.mono (by simp));have c0:=hP1.ag 0 rfl;rw[h];clear hb;go_wp2_with fail;refine(Gl N w1 (by omega) (by omega)).mono ?_;rintro e w2 ⟨v,rfl,hO,hb2⟩;obtain⟨g,cap,rfl,hg,hcs⟩:=Kb (ps:=ga N) hO (by rw[jG];omega);have hB2:=hbb.trans (hb2.mono hbb.size);have hs2:=hB2.size;have HC:=ae hcs;rw[jG];clear hO hcs hP1 c0 hbb hb2;go_wp2_with fail;go_loopw [4,13] (fun n i wr=>∃j:Nat,j≤8∧i=.int .i64 j∧n=.int .i64 (vP ((ga N).take j))∧Below w2.heap.size w2 wr) (fun _ i _=>8-(intOf i).toNat)
 case atStart=>exact⟨0,by omega,rfl,rfl,ax _ _⟩
 case round =>
  obtain⟨j,hj,rfl,rfl,hB⟩:=hrel;by_cases hlt:j<8
  ·obtain⟨p,hp⟩:∃p,(ga N)[j]? = some p:=⟨_,aY (by rw[jG];exact hlt)⟩;obtain⟨y0,y1,y2,y3⟩:=HC.out j p hp;have x0:=(hB.cell (p:=⟨g,j*4,none⟩) hg).trans y0;have x1:=(hB.cell (p:=⟨g,j*4+1,none⟩) hg).trans y1;have x2:=(hB.cell (p:=⟨g,j*4+2,none⟩) hg).trans y2;have x3:=(hB.cell (p:=⟨g,j*4+3,none⟩) hg).trans y3;have hT:=ae (SE _ j p hp);have hle:=ZW N (by omega) j hj;have hm:=Kc N (by omega) (by omega) j p hp;have hz:=hB.size;clear y0 y1 y2 y3 hp;generalize vP ((ga N).take j)=n at *;go_wp2_with fail;exact⟨⟨j+1,by omega,by go_num,by rw[hT.out],hB.alloc hz _⟩,by simp[intOf]<;>omega⟩
  ·obtain rfl:j=8:=by omega
   have e:(ga N).take 8=ga N:=dg (by rw[jG];omega);rw[e,VD];go_wp2_with fail;go_ret2
   exact⟨rfl,hB2.trans (hB.mono hs2)⟩
def kX (k a:Int) (p:Part):Bool:=(p.k == k)&&(p.a == a)
def aJ (N k a t:Int):Int×Int :=
 if aZ N && !((k == 2) && !(t == 0)) then
  match (ga N).find? (kX k a)with
  | some p=>if t<0∨p.m≤t then (0,4) else (p.f+t,0)
  | none=>(0,2)
 else (0,2)
theorem ZY:∀ (ps:List Part) (k a:Int) (j:Nat) (p:Part),ps[j]? = some p→kX k a p=true→(∀i q,i<j→ps[i]? = some q→kX k a q=false)→ps.find? (kX k a)=some p:=by
 intro ps;induction ps with
 | nil=>intro k a j p h;simp at h
 | cons q ps ih =>
  intro k a j p h hp hn;cases j with
  | zero =>
   obtain rfl:q=p:=by simpa using h
   rw[DD,hp]
  | succ j =>
   have hq:=hn 0 q (by omega) rfl;rw[DD,hq];exact ih k a j p (by simpa using h) hp (fun i r hi hr=>hn (i+1) r (by omega) (by simpa using hr))
theorem SF (N k a t:Int) (w:World) (h:aZ N=false):Calls Tryz.prog 106 #[.agg #[.int .i64 N],.agg #[.int .i64 k,.int .i64 a,.int .i64 t]] w fun e w'=>e=.returned (.tuple #[.int .i64 0,.int .i64 2])∧Below w.heap.size w w':=by
 go_enter Tryz.func106,Tryz.ntmps106
 go_wp2_with fail;refine(vc N _).mono ?_;rintro e w1 ⟨rfl,hb⟩;have hbb:=(((ax w.heap.size w).alloc (ai _) (.cells #[.int .i64 N] 23)).alloc (by simp) (.cells #[.int .i64 k,.int .i64 a,.int .i64 t] 88)).trans (hb.mono (by simp;omega));rw[h];go_wp2_with fail;go_ret2
 exact⟨rfl,hbb⟩
theorem OX (N k a t:Int) (w:World) (h:aZ N=true) (ht:ix t):Calls Tryz.prog 106 #[.agg #[.int .i64 N],.agg #[.int .i64 k,.int .i64 a,.int .i64 t]] w fun e w' =>
 e=.returned (.tuple #[.int .i64 (aJ N k a t).1,.int .i64 (aJ N k a t).2])∧Below w.heap.size w w':=by
 have hN:1≤N∧N≤64:=by simpa[aZ]using h
 obtain⟨r,hr⟩:∃r,r=aJ N k a t:=⟨_,rfl⟩;rw[←hr];have HR:=ae hr;clear hr;go_enter Tryz.func106,Tryz.ntmps106
 go_wp2_with fail;refine(vc N _).mono ?_;rintro e w1 ⟨rfl,hb⟩;have hP1:ah w1 w.heap.size 23 #[.int .i64 N]:=((ah.new w _ _).alloc _).below hb (by simp;omega);have hS1:ah w1 (w.heap.size+1) 88 #[.int .i64 k,.int .i64 a,.int .i64 t]:=(ah.new2 w _ _ _).below hb (by simp);have hbb:=(((ax w.heap.size w).alloc (ai _) (.cells #[.int .i64 N] 23)).alloc (by simp) (.cells #[.int .i64 k,.int .i64 a,.int .i64 t] 88)).trans (hb.mono (by simp;omega));have c0:=hP1.ag 0 rfl;have s0:=hS1.ag 0 rfl;have s2:=hS1.ag 2 rfl;rw[h];clear hb;by_cases hk:(k == 2)=true∧(t == 0)=false
 ·obtain⟨hk1,hk2⟩:=hk;have hr:aJ N k a t=(0,2):=by unfold aJ;rw[hk1,hk2];simp
  have HR2:=ae (HR.out.trans hr);clear hr;go_wp2_with fail;go_ret2
  exact⟨by rw[HR2.out];rfl,hbb⟩
 ·have hg:(aZ N && !((k == 2) && !(t == 0)))=true:=by
   rw[h];cases h1:(k == 2)<;>cases h2:(t == 0)<;>simp_all
  have hr2:aJ N k a t=(match (ga N).find? (kX k a)with
   | some p=>if t<0∨p.m≤t then (0,4) else (p.f+t,0)
   | none=>(0,2)):=by unfold aJ;rw[aB hg]
  have HR2:=ae (HR.out.trans hr2);clear hr2 hg;have hside:(k == 2)=false∨((k == 2)=true∧(t == 0)=true):=by
   cases h1:(k == 2)<;>cases h2:(t == 0)<;>simp_all
  clear hk;have HT:=ae ht;clear ht;rcases hside with h1 | ⟨h1,h2⟩
  all_goals
   go_wp2_with fail;refine(Gl N w1 (by omega) (by omega)).mono ?_;rintro e w2 ⟨v,rfl,hO,hb2⟩;obtain⟨g,cap,rfl,hg,hcs⟩:=Kb (ps:=ga N) hO (by rw[jG];omega);have hB2:=hbb.trans (hb2.mono hbb.size);have hs2:=hB2.size;have HC:=ae hcs;have hS2:=hS1.below hb2 hS1.lt;have Eg:=hS2.lt;rw[jG];clear hO hcs hP1 hS1 c0 s0 s2 hbb hb2 h1;try clear h2
   go_wp2_with fail;go_loopw [24] (fun i wr=>∃j:Nat,j≤8∧i=.int .i64 j∧Hid (∀i q,i<j→(ga N)[i]? = some q→kX k a q=false)∧Below w2.heap.size w2 wr) (fun i _=>8-(intOf i).toNat)
   case atStart=>exact⟨0,by omega,rfl,ae (fun i q hi=>absurd hi (p' _)),ax _ _⟩
   case round =>
    obtain⟨j,hj,rfl,hno,hB⟩:=hrel;by_cases hlt:j<8
    ·obtain⟨p,hp⟩:∃p,(ga N)[j]? = some p:=⟨_,aY (by rw[jG];exact hlt)⟩;obtain⟨y0,y1,y2,y3⟩:=HC.out j p hp;have x0:=(hB.cell (p:=⟨g,j*4,none⟩) hg).trans y0;have x1:=(hB.cell (p:=⟨g,j*4+1,none⟩) hg).trans y1;have x2:=(hB.cell (p:=⟨g,j*4+2,none⟩) hg).trans y2;have x3:=(hB.cell (p:=⟨g,j*4+3,none⟩) hg).trans y3;have Ao:=hS2.below hB Eg;have s0:=Ao.ag 0 rfl;have s1:=Ao.ag 1 rfl;have s2:=Ao.ag 2 rfl;have hSl:=Ao.lt;have hm:=Kc N (by omega) (by omega) j p hp;have hz:=hB.size;have HP:=ae hp;clear y0 y1 y2 y3 hp Ao;cases hk:(p.k == k)
     ·have hnew:kX k a p=false:=by unfold kX;rw[hk];rfl
      have hk2:¬p.k=k:=by simpa using hk
      have hk3:(p.k != k)=true:=by simpa using hk2
      have HN:=ae hnew;clear hnew;go_wp2_with fail;refine⟨⟨j+1,by omega,by go_num,ae (fun i q hi hq=>?_),hB.alloc hz _⟩,by simp[intOf]<;>omega⟩;rcases bZ i j with h | h
      ·exact hno.out i q h hq
      ·obtain rfl:i=j:=by omega
       rw[HP.out]at hq;obtain rfl:=gH hq;exact HN.out
     ·have hk2:p.k=k:=by simpa using hk
      have hk3:(p.k != k)=false:=by simpa using hk2
      have iS:=ae hk2;clear hk2;cases ha:(p.a == a)
      ·have hnew:kX k a p=false:=by unfold kX;rw[hk,ha];rfl
       have ha2:¬p.a=a:=by simpa using ha
       have ha3:(p.a != a)=true:=by simpa using ha2
       have HN:=ae hnew;clear hnew;go_wp2_with fail;refine⟨⟨j+1,by omega,by go_num,ae (fun i q hi hq=>?_),hB.alloc hz _⟩,by simp[intOf]<;>omega⟩;rcases bZ i j with h | h
       ·exact hno.out i q h hq
       ·obtain rfl:i=j:=by omega
        rw[HP.out]at hq;obtain rfl:=gH hq;exact HN.out
      ·have ha3:(p.a != a)=false:=by simpa using ha
       have hf:=ZY _ k a j p HP.out (by unfold kX;rw[hk,ha];rfl) hno.out;have hr3:r=if t<0∨p.m≤t then (0,4) else (p.f+t,0):=by rw[HR2.out,hf]
       have HR3:=ae hr3;clear hr3 hf;by_cases ht0:t<0
       ·have HR4:=ae (HR3.out.trans (aB (Or.inl ht0)));go_wp2_with fail;go_ret2
        exact⟨by rw[HR4.out];rfl,hB2.trans ((hB.alloc hz _).mono hs2)⟩
       ·by_cases ht1:p.m≤t
        ·have HR4:=ae (HR3.out.trans (aB (Or.inr ht1)));go_wp2_with fail;go_ret2
         exact⟨by rw[HR4.out];rfl,hB2.trans ((hB.alloc hz _).mono hs2)⟩
        ·have HR4:=ae (HR3.out.trans (aG (by omega)));go_wp2_with fail;go_ret2
         exact⟨by rw[HR4.out];rfl,hB2.trans ((hB.alloc hz _).mono hs2)⟩
    ·obtain rfl:j=8:=by omega
     have hf:(ga N).find? (kX k a)=none:=by
      rw[Ds];intro q hq;obtain⟨i,hi⟩:=Iz hq;have hi8:i<8:=by
       rcases bZ i 8 with hh | hh
       ·exact hh
       ·rw[dh (by rw[jG];exact hh)]at hi;cases hi
      rw[hno.out i q hi8 hi];simp
     have hr3:r=(0,2):=by rw[HR2.out,hf]
     have HR3:=ae hr3;clear hr3 hf;go_wp2_with fail;go_ret2
     exact⟨by rw[HR3.out];rfl,hB2.trans (hB.mono hs2)⟩
theorem OY (N k a t:Int) (w:World) (ht:ix t):Calls Tryz.prog 106 #[.agg #[.int .i64 N],.agg #[.int .i64 k,.int .i64 a,.int .i64 t]] w fun e w' =>
 e=.returned (.tuple #[.int .i64 (aJ N k a t).1,.int .i64 (aJ N k a t).2])∧Below w.heap.size w w':=by
 cases h:aZ N
 ·have e:aJ N k a t=(0,2):=by unfold aJ;rw[h];rfl
  rw[e];exact SF N k a t w h
 ·exact OX N k a t w h ht
theorem qp (n:Int) (w:World):Calls Tryz.prog 41 #[.agg #[.int .i64 n]] w fun e w'=>e=.returned (.bool (aZ n))∧Below w.heap.size w w':=by
 by_cases h1:1≤n
 ·have e:aZ n=decide (n≤64):=by simp[aZ,h1]
  rw[e];go_enter Tryz.func41,Tryz.ntmps41
  go_wp2
  all_goals go_ret
  all_goals exact⟨by simp,(ax _ _).alloc (ai _) _⟩
 ·have e:aZ n=false:=by simp[aZ,h1]
  rw[e];go_enter Tryz.func41,Tryz.ntmps41
  go_wp2
  all_goals go_ret
  all_goals exact⟨by simp,(ax _ _).alloc (ai _) _⟩
structure lP where
 k:Int
 a:Int
 t:Int
abbrev lP.cells (p:lP):List Value:=[.int .i64 p.k,.int .i64 p.a,.int .i64 p.t]
def ml (ps:List lP):List Value:=ps.flatMap lP.cells
theorem FP (ps:List lP) (p:lP):ml (ps++[p])=ml ps++p.cells:=by simp[ml]
def eT (k a:Int) (n:Nat):List lP:=(List.range n).map fun(i:Nat)=>⟨k,a,(i:Int)⟩
theorem ua (k a:Int) (n:Nat):eT k a (n+1)=eT k a n++[⟨k,a,n⟩]:=by simp[eT,List.range_succ]
theorem eH (k a:Int) (n:Nat):(eT k a n).length=n:=by simp[eT]
def rU (N:Nat):Nat→List lP
 | 0=>[⟨1,0,0⟩,⟨1,0,1⟩]
 | j+1=>rU N j++[⟨2,j,0⟩]++eT 3 j 8++eT 4 j N
def FQ (N:Nat):List lP:=rU N 2++eT 5 0 N
theorem Gn (N j:Nat):(rU N j).length=2+(9+N)*j:=by
 induction j with
 | zero=>rfl
 | succ j ih=>simp[rU,ih,eH,Nat.mul_succ];omega
theorem CV (N:Nat):(FQ N).length=20+3*N:=by
 rw[FQ,bX,Gn,eH];omega
theorem SG:(Tryz.prog.info? 88).map (fun i=>(i.zero,i.size,i.bytes))=some (some (.agg #[.int .i64 0,.int .i64 0,.int .i64 0]),3,24):=by kernel_rfl
def pr (B:Nat) (ss:List lP) (v:Value) (w:World):Prop:=w.ownsRow B 88 3 v ss.length (ml ss)
theorem kY (W:World) {ops:Array Oper} {rest:List Oper} {o:Oper} {a:Act} {Q:Exit→Act→World→Prop} (hgd:o.guard=none) (s x:Operand)
 (ho:o.op=.call {callee:=.builtin .append,args:=#[s,x],argTypes:=#[168,168]})
 (B:Nat) (ss:List lP) (v:Value) (k e t:Int) (hs:a.eval s=v) (hown:pr B ss v W) (hx:a.eval x=.slice (some ⟨W.heap.size,0,none⟩) 1 1) (hlen:ss.length≤100000) (hB:B≤W.heap.size)
 (h:∀v' w',pr B (ss++[⟨k,e,t⟩]) v' w'→Below B W w'→wpList Tryz.prog ops Q rest (a.put o.dst v') w'):wpList Tryz.prog ops Q (o::rest) a (W.alloc (.cells #[.int .i64 k,.int .i64 e,.int .i64 t] 88)):=by
 obtain⟨i0,hi0,hz0,hz1,hz2⟩:=iH SG;have HO:=ae hown;unfold pr at hown;refine pZ _ hgd s x _ ho B 88 i0 _ 3 24 Tryz.underlying168 hi0 hz0 hz1 hz2 rfl (by omega) v ss.length (ml ss) hs (hown.alloc _) ⟨W.heap.size,0,none⟩ 1 1 [.int .i64 k,.int .i64 e,.int .i64 t] hx rfl (ia (cs:=#[.int .i64 k,.int .i64 e,.int .i64 t]) (t:=88) (fr:=(0,0)) (bC W _)) (by simp[Value.oneCell']) (by omega) (by unfold maxLen;omega) (by omega) (by simp;omega) (W.heap.size+1) (by simp) ?_;intro g cap w3 hO3 hg3 xR hlt3;refine h _ _ ?_ (((ax B W).alloc hB _).grown hg3 (by simp;omega) (fun r hr=>(hown.lt r hr).1));unfold pr;rw[bX,FP];exact hO3
theorem Kd (N:Nat) (w:World) (h1:N≤1000) :
 Calls Tryz.prog 86 #[.agg #[.int .i64 N]] w fun e w'=>∃v,e=.returned v∧pr w.heap.size (FQ N) v w'∧Below w.heap.size w w':=by
 go_enter Tryz.func86,Tryz.ntmps86
 go_upto_region 3 with fail;have SD:ah ((w.alloc (.cells #[.int .i64 N] 23)).alloc (.cells #[.int .i64 1,.int .i64 0,.int .i64 0,.int .i64 1,.int .i64 0,.int .i64 1] 88)) w.heap.size 23 #[.int .i64 N]:=(ah.new w _ _).alloc _;have hS0:pr (w.heap.size+1) (rU N 0) (.slice (some ⟨w.heap.size+1,0,none⟩) 2 2) ((w.alloc (.cells #[.int .i64 N] 23)).alloc (.cells #[.int .i64 1,.int .i64 0,.int .i64 0,.int .i64 1,.int .i64 0,.int .i64 1] 88)) :=
  ⟨rfl,.inr ⟨w.heap.size+1,2,_,rfl,ai _,ah.new2 w _ _ _,ai _,by simp[maxLen],rfl,rfl⟩⟩
 have hB0:Below w.heap.size w ((w.alloc (.cells #[.int .i64 N] 23)).alloc (.cells #[.int .i64 1,.int .i64 0,.int .i64 0,.int .i64 1,.int .i64 0,.int .i64 1] 88)):=((ax _ _).alloc (ai _) _).alloc (by simp) _;have HS0:=ae hS0;clear hS0;go_loopw [3,4] (fun o i wr=>∃j:Nat,j≤2∧i=.int .i64 j∧Hid (pr (w.heap.size+1) (rU N j) o wr)∧ah wr w.heap.size 23 #[.int .i64 N]∧Below w.heap.size w wr) (fun _ i _=>2-(intOf i).toNat)
 case atStart=>exact⟨0,by omega,rfl,HS0,SD,hB0⟩
 case round =>
  clear HS0 SD hB0;obtain⟨j,hj,rfl,HO,hL,hB⟩:=hrel;have hlen:=Gn N j;have hlb:(9+N)*j≤(9+N)*2:=Nat.mul_le_mul_left _ hj;have hsz:=hL.lt;by_cases hlt:j<2
  ·go_wp2_with (at_builtin;refine kY wr rfl (.tmp 15) (.tmp 18) rfl (w.heap.size+1) (rU N j) _ 2 j 0 rfl HO.out rfl (by omega) (by omega) ?_;intro u w3 hO3 hb3;have ub:=ae hO3;clear hO3)
   have hL3:=hL.below hb3 (by omega);have hB3:=hB.trans (hb3.mono (by omega));clear HO hL hB hb3;obtain⟨A1,hA1⟩:∃A1,A1=rU N j++[⟨2,j,0⟩]:=⟨_,rfl⟩;have amA:A1.length≤3000:=by rw[hA1];simp;omega
   rw[←hA1]at ub;have HA1:=ae hA1;clear hA1;go_loopw [3,5] (fun o i wx=>∃q:Nat,q≤8∧i=.int .i64 q∧Hid (pr (w.heap.size+1) (A1++eT 3 j q) o wx)∧ah wx w.heap.size 23 #[.int .i64 N]∧Below w.heap.size w wx) (fun _ i _=>8-(intOf i).toNat)
   case atStart=>exact⟨0,by omega,rfl,by simpa[eT]using ub,hL3,hB3⟩
   case round =>
    clear ub hL3 hB3 hsz;obtain⟨q,hq,rfl,HO,hL,hB⟩:=hrel;have hsz:=hL.lt;by_cases hq8:q<8
    ·go_wp2_with (at_builtin;refine kY wr rfl (.tmp 24) (.tmp 28) rfl (w.heap.size+1) _ _ 3 j q rfl HO.out rfl (by simp[eH];omega) (by omega) ?_;intro u w3 hO3 hb3;have ub:=ae hO3;clear hO3)
     refine⟨⟨q+1,by omega,by go_num,?_,hL.below hb3 (by omega),hB.trans (hb3.mono (by omega))⟩,by simp[intOf]<;>omega⟩;rw[ua,←fS];exact ub
    ·have hqe:q=8:=by omega
     have HQE:=ae hqe;have amB:¬ (q:Int)<8:=by omega
     obtain⟨A2,hA2⟩:∃A2,A2=A1++eT 3 j q:=⟨_,rfl⟩;have ahI:A2.length≤4000:=by rw[hA2];simp[eH];omega
     rw[←hA2]at HO;rw[hqe]at hA2;have HA2:=ae hA2;clear hA2 hqe hq hq8;go_wp2_with fail;go_loopw [3,6] (fun o i wx=>∃q:Nat,q≤N∧i=.int .i64 q∧Hid (pr (w.heap.size+1) (A2++eT 4 j q) o wx)∧ah wx w.heap.size 23 #[.int .i64 N]∧Below w.heap.size w wx) (fun _ i _=>N-(intOf i).toNat)
     case atStart=>exact⟨0,by omega,rfl,by simpa[eT]using HO,hL,hB⟩
     case round =>
      clear HO hL hB hsz;obtain⟨q,hq,rfl,HO,hL,hB⟩:=hrel;have hsz:=hL.lt;have c0:=hL.ag 0 rfl;by_cases hqN:q<N
      ·go_wp2_with (at_builtin;refine kY wr rfl (.tmp 36) (.tmp 40) rfl (w.heap.size+1) _ _ 4 j q rfl HO.out rfl (by simp[eH];omega) (by omega) ?_;intro u w3 hO3 hb3;have ub:=ae hO3;clear hO3)
       refine⟨⟨q+1,by omega,by go_num,?_,hL.below hb3 (by omega),hB.trans (hb3.mono (by omega))⟩,by simp[intOf]<;>omega⟩;rw[ua,←fS];exact ub
      ·obtain rfl:q=N:=by omega
       go_wp2_with fail;refine⟨⟨j+1,by omega,by go_num,?_,hL,hB⟩,by simp[intOf]<;>omega⟩;rw[HA2.out,HA1.out]at HO;exact HO
  ·have ku:j=2:=by omega
   have hlt2:¬ (j:Int)<2:=by omega
   obtain⟨A2,hA2⟩:∃A2,A2=rU N j:=⟨_,rfl⟩;have ahI:A2.length≤4000:=by rw[hA2];omega
   rw[←hA2]at HO;rw[ku]at hA2;have HA2:=ae hA2;clear hA2 ku hlt hlb hlen;go_wp2_with fail;go_loopw [3,7] (fun o i wx=>∃q:Nat,q≤N∧i=.int .i64 q∧Hid (pr (w.heap.size+1) (A2++eT 5 0 q) o wx)∧ah wx w.heap.size 23 #[.int .i64 N]∧Below w.heap.size w wx) (fun _ i _=>N-(intOf i).toNat)
   case atStart=>exact⟨0,by omega,rfl,by simpa[eT]using HO,hL,hB⟩
   case round =>
    clear HO hL hB hsz;obtain⟨q,hq,rfl,HO,hL,hB⟩:=hrel;have hsz:=hL.lt;have c0:=hL.ag 0 rfl;by_cases hqN:q<N
    ·go_wp2_with (at_builtin;refine kY wr rfl (.tmp 48) (.tmp 51) rfl (w.heap.size+1) _ _ 5 0 q rfl HO.out rfl (by simp[eH];omega) (by omega) ?_;intro u w3 hO3 hb3;have ub:=ae hO3;clear hO3)
     refine⟨⟨q+1,by omega,by go_num,?_,hL.below hb3 (by omega),hB.trans (hb3.mono (by omega))⟩,by simp[intOf]<;>omega⟩;rw[ua,←fS];exact ub
    ·obtain rfl:q=N:=by omega
     go_wp2_with fail;go_ret
     refine⟨_,rfl,?_,hB⟩;rw[HA2.out]at HO;exact Gk HO.out (by omega)
def mN (N i:Nat):lP :=
 if i<2 then ⟨1,0,i⟩ else if i<3 then ⟨2,0,0⟩ else if i<11 then ⟨3,0,((i-3:Nat):Int)⟩ else if i<11+N then ⟨4,0,((i-11:Nat):Int)⟩
 else if i<12+N then ⟨2,1,0⟩ else if i<20+N then ⟨3,1,((i-12-N:Nat):Int)⟩ else if i<20+2*N then ⟨4,1,((i-20-N:Nat):Int)⟩ else ⟨5,0,((i-20-2*N:Nat):Int)⟩
theorem qq (k a:Int) (n i:Nat) (h:i<n):(eT k a n)[i]? = some ⟨k,a,i⟩:=by simp[eT,h]
theorem ZZ (N:Nat):FQ N=[⟨1,0,0⟩,⟨1,0,1⟩]++([⟨2,0,0⟩]++(eT 3 0 8++(eT 4 0 N++([⟨2,1,0⟩]++(eT 3 1 8++(eT 4 1 N++eT 5 0 N)))))):=by
 simp[FQ,rU]
theorem uc {α:Type} (l r:List α) (n i:Nat) (hn:l.length=n) (h:i<n):(l++r)[i]? = l[i]? :=iC (by omega)
theorem ud {α:Type} (l r:List α) (n i:Nat) (hn:l.length=n) (h:n≤i):(l++r)[i]? = r[i-n]? :=by rw[gl (by omega),hn]
theorem xm (k a:Int) {i j:Nat} (h:i=j):some (⟨k,a,(i:Int)⟩:lP)=some ⟨k,a,(j:Int)⟩:=by rw[h]
theorem Z0 (N i:Nat) (h:i<20+3*N):(FQ N)[i]? = some (mN N i):=by
 rw[ZZ];unfold mN;by_cases h1:i<2
 ·rw[uc _ _ 2 i rfl h1,aB h1];have:i=0∨i=1:=by omega
  rcases this with rfl | rfl<;>rfl
 rw[ud _ _ 2 i rfl (by omega),aG h1];by_cases h2:i<3
 ·rw[uc _ _ 1 _ rfl (by omega),aB h2];have:i=2:=by omega
  subst this;rfl
 rw[ud _ _ 1 _ rfl (by omega),aG h2];by_cases h3:i<11
 ·rw[uc _ _ 8 _ (eH _ _ _) (by omega),aB h3,qq _ _ _ _ (by omega)];exact xm _ _ (by omega)
 rw[ud _ _ 8 _ (eH _ _ _) (by omega),aG h3];by_cases h4:i<11+N
 ·rw[uc _ _ N _ (eH _ _ _) (by omega),aB h4,qq _ _ _ _ (by omega)];exact xm _ _ (by omega)
 rw[ud _ _ N _ (eH _ _ _) (by omega),aG h4];by_cases h5:i<12+N
 ·rw[uc _ _ 1 _ rfl (by omega),aB h5];have:i-2-1-8-N=0:=by omega
  rw[this];rfl
 rw[ud _ _ 1 _ rfl (by omega),aG h5];by_cases h6:i<20+N
 ·rw[uc _ _ 8 _ (eH _ _ _) (by omega),aB h6,qq _ _ _ _ (by omega)];exact xm _ _ (by omega)
 rw[ud _ _ 8 _ (eH _ _ _) (by omega),aG h6];by_cases h7:i<20+2*N
 ·rw[uc _ _ N _ (eH _ _ _) (by omega),aB h7,qq _ _ _ _ (by omega)];exact xm _ _ (by omega)
 rw[ud _ _ N _ (eH _ _ _) (by omega),aG h7,qq _ _ _ _ (by omega)];exact xm _ _ (by omega)
structure Place where
 k:Nat
 a:Nat
 t:Nat
def Place.ok (N:Nat) (p:Place):Prop:=p.a≤1∧((p.k=2∧p.t=0)∨(p.k=3∧p.t<8)∨(p.k=4∧p.t<N))
def Place.sec (N:Nat) (p:Place):Nat:=(if p.k=2 then 2 else if p.k=3 then 3+p.t else 11+p.t)+p.a*(9+N)
theorem Place.aaw {N:Nat} {p:Place} (h:p.ok N):p.sec N<20+3*N:=by
 obtain⟨k,a,t⟩:=p;obtain⟨ha,h⟩:=h;simp only at ha h;have ha2:a=0∨a=1:=by omega
 unfold Place.sec;simp only;rcases ha2 with rfl | rfl<;>rcases h with ⟨rfl,h⟩ | ⟨rfl,h⟩ | ⟨rfl,h⟩<;>simp<;>omega
theorem Place.aax {N:Nat} {p:Place} (h:p.ok N):mN N (p.sec N)=⟨p.k,p.a,p.t⟩:=by
 obtain⟨k,a,t⟩:=p;obtain⟨ha,h⟩:=h;simp only at ha h;have ha2:a=0∨a=1:=by omega
 unfold Place.sec mN;simp only;rcases ha2 with rfl | rfl<;>rcases h with ⟨rfl,h⟩ | ⟨rfl,h⟩ | ⟨rfl,h⟩<;>simp<;>(repeat' split)<;>first | omega | (simp;done) | (simp;omega)
theorem Place.aek {N i:Nat} {p:Place} (h:p.ok N) (hi:i<20+3*N) (h1:(mN N i).k=p.k) (h2:(mN N i).a=p.a) (h3:(mN N i).t=p.t):i=p.sec N:=by
 obtain⟨k,a,t⟩:=p;obtain⟨ha,h⟩:=h;simp only at ha h h1 h2 h3;have ha2:a=0∨a=1:=by omega
 unfold Place.sec;unfold mN at h1 h2 h3;simp only;rcases ha2 with rfl | rfl<;>rcases h with ⟨rfl,h⟩ | ⟨rfl,h⟩ | ⟨rfl,h⟩<;>simp<;>(repeat' split at h1)<;>(simp_all)<;>omega
theorem Ke:∀ (ps:List lP) (j:Nat) (p:lP),ps[j]? = some p→∀i,i<3→(ml ps)[j*3+i]? = p.cells[i]? :=by
 intro ps;induction ps with
 | nil=>intro j p h;simp at h
 | cons q ps ih =>
  intro j p h i hi;have e:ml (q::ps)=q.cells++ml ps:=rfl;rw[e];cases j with
  | zero =>
   obtain rfl:q=p:=by simpa using h
   rw[xb,cW,iC (by simpa using hi)]
  | succ j =>
   have h':ps[j]? = some p:=by simpa using h
   rw[gl (by simp;omega)];have e2:(j+1)*3+i-q.cells.length=j*3+i:=by simp;omega
   rw[e2];exact ih j p h' i hi
theorem Kf {W:World} {B:Nat} {v:Value} {ps:List lP} (h:pr B ps v W) (hp:0<ps.length) :
 ∃g cap,v=.slice (some ⟨g,0,none⟩) ps.length cap∧g<W.heap.size∧∀j p,ps[j]? = some p→W.cell? ⟨g,j*3,none⟩=some (.int .i64 p.k)∧W.cell? ⟨g,j*3+1,none⟩=some (.int .i64 p.a)∧W.cell? ⟨g,j*3+2,none⟩=some (.int .i64 p.t):=by
 unfold pr at h;obtain⟨g,cap,rfl,hB,hlt⟩:=h.form hp;refine⟨g,cap,rfl,hlt,fun j p hj=>?_⟩;have hc:=h.cells (g:=g) rfl;have key:∀i,i<3→∀u,p.cells[i]? = some u→W.cell? ⟨g,j*3+i,none⟩=some u:=by
  intro i hi u hu;have:=hc (j*3+i) u ((Ke ps j p hj i hi).trans hu);rw[eP,cW]at this;exact this
 exact⟨key 0 (by omega) _ rfl,key 1 (by omega) _ rfl,key 2 (by omega) _ rfl⟩
theorem aay {A B C:Prop} (h:¬ (A∧B∧C)):¬A∨(A∧¬B)∨(A∧B∧¬C):=by
 by_cases a:A<;>by_cases b:B<;>simp_all
theorem Ce (N:Nat) (p:Place) (w:World) (hN:1≤N∧N≤64) (h:p.ok N):Calls Tryz.prog 36 #[.agg #[.int .i64 N],.agg #[.int .i64 p.k,.int .i64 p.a,.int .i64 p.t]] w fun e w' =>
 e=.returned (.tuple #[.int .i64 (p.sec N),.int .i64 0])∧Below w.heap.size w w':=by
 have hr:aZ N=true:=by simp[aZ];omega
 have hsl:=Place.aaw h;have hof:=ae (fun i hi=>Place.aek (i:=i) h hi);have hat:=ae (Place.aax h);obtain⟨s,hs⟩:∃s,s=p.sec N:=⟨_,rfl⟩;rw[←hs]at hsl hat ⊢;have HS:=ae hs;clear hs;obtain⟨k,a,t⟩:=p;obtain⟨ha,h⟩:=h;simp only at ha h ⊢;have hk:k=2∧t=0∨k=3∨k=4:=by omega
 clear h;have ha2:a=0∨a=1:=by omega
 clear ha;rcases ha2 with rfl | rfl<;>rcases hk with ⟨rfl,rfl⟩ | rfl | rfl
 all_goals
  go_enter Tryz.func36,Tryz.ntmps36
  go_wp2_with fail;refine(qp N _).mono ?_;rintro e w1 ⟨rfl,hb⟩;have hP1:ah w1 w.heap.size 23 #[.int .i64 N]:=((ah.new w _ _).alloc _).below hb (by simp;omega);have hS1:=(ah.new2 w _ _ _).below hb (by simp);have hbb:=(((ax w.heap.size w).alloc (ai _) (.cells #[.int .i64 N] 23)).alloc (by simp) (.cells _ 88)).trans (hb.mono (by simp;omega));have c0:=hP1.ag 0 rfl;have s0:=hS1.ag 0 rfl;have s1:=hS1.ag 1 rfl;have s2:=hS1.ag 2 rfl;rw[hr];clear hb;go_wp2_with fail;refine(Kd N w1 (by omega)).mono ?_;rintro e w2 ⟨v,rfl,hO,hb2⟩;obtain⟨g,cap,rfl,hg,hcs⟩:=Kf hO (by rw[CV];omega);have hB2:=hbb.trans (hb2.mono hbb.size);have hs2:=hB2.size;have HC:=ae hcs;have hS2:=hS1.below hb2 hS1.lt;have Eg:=hS2.lt;rw[CV];clear hO hcs hP1 hS1 c0 s0 s1 s2 hbb hb2;go_wp2_with fail;go_loopw [8] (fun i wr=>∃j:Nat,j≤s∧i=.int .i64 j∧Below w2.heap.size w2 wr) (fun i _=>s-(intOf i).toNat)
  case atStart=>exact⟨0,by omega,rfl,ax _ _⟩
  case round =>
   obtain⟨j,hj,rfl,hB⟩:=hrel;have ue:=ae (Z0 N j (by omega));obtain⟨y0,y1,y2⟩:=HC.out j _ ue.out;have x0:=(hB.cell (p:=⟨g,j*3,none⟩) hg).trans y0;have x1:=(hB.cell (p:=⟨g,j*3+1,none⟩) hg).trans y1;have x2:=(hB.cell (p:=⟨g,j*3+2,none⟩) hg).trans y2;have s0:=(hS2.below hB Eg).ag 0 rfl;have s1:=(hS2.below hB Eg).ag 1 rfl;have s2:=(hS2.below hB Eg).ag 2 rfl;have hz:=hB.size;clear y0 y1 y2;have ahJ:=ae (hof.out j (by omega));by_cases hjs:j=s
   ·have xR:=hat.out;rw[←hjs]at xR;rw[xR]at x0 x1 x2;have HJ:=ae hjs;clear xR hjs;go_wp2_with fail;go_region
    all_goals go_wp2_with fail
    go_ret2
    exact⟨by rw[←HJ.out];rfl,hB2.trans (hB.drew.mono hs2)⟩
   ·have hne:¬ ((mN N j).k=_∧(mN N j).a=_∧(mN N j).t=_):=fun hh=>hjs ((ahJ.out hh.1 hh.2.1 hh.2.2).trans HS.out.symm)
    generalize mN N j=q at *;obtain⟨qk,qa,qt⟩:=q;simp only at x0 x1 x2 hne;have amC:j+1≤s:=by omega
    clear hjs;rcases aay hne with hh | ⟨hh1,hh⟩ | ⟨hh1,hh2,hh⟩
    all_goals
     clear hne;try simp at hh
     try simp at hh1
     try simp at hh2
     go_wp2_with fail;go_region
     all_goals go_wp2_with fail
     exact⟨⟨j+1,by omega,by go_num,hB.drew⟩,by simp[intOf]<;>omega⟩
def IntsIn (W:World) (B:Nat) (v:Value) (l:List Int):Prop :=
 l.length≤maxLen∧∃a cap,v=.slice a l.length cap∧l.length≤cap∧∀j (c:Int),l[j]? = some c→∃g off,a=some ⟨g,off,none⟩∧g<B∧W.cell? ⟨g,off+j,none⟩=some (.int .i64 c)
theorem IntsIn.below {W W':World} {B C:Nat} {v:Value} {l:List Int} (h:IntsIn W B v l) (hb:Below C W W') (hC:B≤C):IntsIn W' B v l:=by
 obtain⟨h1,a,cap,h2,h3,h4⟩:=h;refine⟨h1,a,cap,h2,h3,fun j c hc=>?_⟩;obtain⟨g,off,e,hg,hr⟩:=h4 j c hc;exact⟨g,off,e,hg,(hb.cell (p:=⟨g,off+j,none⟩) (show g<C by omega)).trans hr⟩
theorem IntsIn.mono {W:World} {B C:Nat} {v:Value} {l:List Int} (h:IntsIn W B v l) (hC:B≤C):IntsIn W C v l:=by
 obtain⟨h1,a,cap,h2,h3,h4⟩:=h;refine⟨h1,a,cap,h2,h3,fun j c hc=>?_⟩;obtain⟨g,off,e,hg,hr⟩:=h4 j c hc;exact⟨g,off,e,by omega,hr⟩
theorem IntsIn.nil (W:World) (B:Nat):IntsIn W B (.slice none 0 0) []:=⟨by simp,none,0,rfl,by simp,fun j c hc=>by simp at hc⟩
def gA (W:World) (B:Nat) (v:Value) (l:List aK):Prop :=
 l.length≤maxLen∧∃a cap,v=.slice a l.length cap∧l.length≤cap∧∀j (o:aK),l[j]? = some o→o.ok∧iM o∧∃g off,a=some ⟨g,off,none⟩∧g<B∧W.rangeAt g (off+j*163) o.cells
theorem dE {W W':World} {C g p:Nat} {cs:List Value} (h:W.rangeAt g p cs) (hb:Below C W W') (hg:g<C):W'.rangeAt g p cs:=fun j v hv=>(hb.cell (p:=⟨g,p+j,none⟩) hg).trans (h j v hv)
theorem gA.below {W W':World} {B C:Nat} {v:Value} {l:List aK} (h:gA W B v l) (hb:Below C W W') (hC:B≤C):gA W' B v l:=by
 obtain⟨h1,a,cap,h2,h3,h4⟩:=h;refine⟨h1,a,cap,h2,h3,fun j c hc=>?_⟩;obtain⟨ho,hr,g,off,e,hg,hr'⟩:=h4 j c hc;exact⟨ho,hr,g,off,e,hg,dE hr' hb (show g<C by omega)⟩
theorem gA.mono {W:World} {B C:Nat} {v:Value} {l:List aK} (h:gA W B v l) (hC:B≤C):gA W C v l:=by
 obtain⟨h1,a,cap,h2,h3,h4⟩:=h;refine⟨h1,a,cap,h2,h3,fun j c hc=>?_⟩;obtain⟨ho,hr,g,off,e,hg,hr'⟩:=h4 j c hc;exact⟨ho,hr,g,off,e,by omega,hr'⟩
theorem gA.nil (W:World) (B:Nat):gA W B (.slice none 0 0) []:=⟨by simp,none,0,rfl,by simp,fun j c hc=>by simp at hc⟩
theorem IntsIn.at_ {W:World} {B:Nat} {a:Option Addr} {n c:Nat} {l:List Int} (h:IntsIn W B (.slice a n c) l) {j:Nat} {x:Int} (hx:l[j]? = some x) :
 ∃g off,a=some ⟨g,off,none⟩∧g<B∧W.cell? ⟨g,off+j,none⟩=some (.int .i64 x):=by
 obtain⟨_,a',c',e,_,h4⟩:=h;injection e with ea _ _
 subst ea;exact h4 j x hx
theorem gA.at_ {W:World} {B:Nat} {a:Option Addr} {n c:Nat} {l:List aK} (h:gA W B (.slice a n c) l) {j:Nat} {x:aK} (hx:l[j]? = some x) :
 x.ok∧iM x∧∃g off,a=some ⟨g,off,none⟩∧g<B∧W.rangeAt g (off+j*163) x.cells:=by
 obtain⟨_,a',c',e,_,h4⟩:=h;injection e with ea _ _
 subst ea;exact h4 j x hx
theorem BytesIn.at_ {W:World} {B:Nat} {a:Option Addr} {n c:Nat} {l:List UInt8} (h:BytesIn W B (.slice a n c) l) {j:Nat} {x:UInt8} (hx:l[j]? = some x) :
 ∃g off,a=some ⟨g,off,none⟩∧g<B∧W.cell? ⟨g,off+j,none⟩=some (aj x):=by
 obtain⟨_,a',c',e,_,h4⟩:=h;injection e with ea _ _
 subst ea;exact h4 j x hx
structure bY where
 ed:Int
 bj:List Int
 objs:List aK
 state:List UInt8
def cL (W:World) (B:Nat) (v:Value) (f:bY):Prop :=
 ∃vo vb vs,v=.agg #[.int .i64 f.ed,vo,vb,vs]∧IntsIn W B vo f.bj∧gA W B vb f.objs∧BytesIn W B vs f.state
theorem cL.below {W W':World} {B C:Nat} {v:Value} {f:bY} (h:cL W B v f) (hb:Below C W W') (hC:B≤C):cL W' B v f:=by
 obtain⟨vo,vb,vs,e,h1,h2,h3⟩:=h;exact⟨vo,vb,vs,e,h1.below hb hC,h2.below hb hC,h3.below hb hC⟩
theorem cL.mono {W:World} {B C:Nat} {v:Value} {f:bY} (h:cL W B v f) (hC:B≤C):cL W C v f:=by
 obtain⟨vo,vb,vs,e,h1,h2,h3⟩:=h;exact⟨vo,vb,vs,e,h1.mono hC,h2.mono hC,h3.mono hC⟩
def gI (N:Int):Int→List Int→List aK→Bool
 | _,[],[]=>true
 | last,x::l,o::m=>decide (last<x)&&(decide (x<N)&&(fH o N&&gI N x l m))
 | _,_,_=>false
def fu (N ed:Int) (n m s:Nat):Bool:=decide (0≤ed)&&(n == m)&&decide ((n:Int)≤N)&&decide (s≤4096)
def gh (N:Int) (f:bY):Bool:=aZ N&&(fu N f.ed f.bj.length f.objs.length f.state.length&&gI N (-1) f.bj f.objs)
theorem Eh (N last:Int) (l:List Int) (m:List aK) (j:Nat) (x:Int) (o:aK) (hx:l[j]? = some x) (ho:m[j]? = some o) :
 gI N last (l.drop j) (m.drop j)=(decide (last<x)&&(decide (x<N)&&(fH o N&&gI N x (l.drop (j+1)) (m.drop (j+1))))):=by
 obtain⟨h1,e1⟩:=zn.1 hx;obtain⟨h2,e2⟩:=zn.1 ho;rw[pg h1,pg h2,e1,e2,gI]
theorem Gp (N last:Int) (l:List Int) (m:List aK) (n:Nat) (h1:l.length=n) (h2:m.length=n):gI N last (l.drop n) (m.drop n)=true:=by
 rw[jD (by omega),jD (by omega),gI]
structure Out (F:Nat→Prop) (w w':World):Prop where
 os:w'.os=w.os
 tape:w'.tape=w.tape
 output:w'.output=w.output
 size:w.heap.size≤w'.heap.size
 block:∀i,i<w.heap.size→¬F i→w'.heap[i]? = w.heap[i]?
theorem Out.refl (F:Nat→Prop) (w:World):Out F w w:=⟨rfl,rfl,rfl,ai _,fun _ _ _=>rfl⟩
theorem Out.trans {F G:Nat→Prop} {w w1 w2:World} (h:Out F w w1) (h2:Out G w1 w2) (hFG:∀i,i<w.heap.size→G i→F i):Out F w w2 :=
 ⟨h2.os.trans h.os,h2.tape.trans h.tape,h2.output.trans h.output,jF h.size h2.size,fun i hi hn=>(h2.block i (by have:=h.size;omega) (fun g=>hn (hFG i hi g))).trans (h.block i hi hn)⟩
theorem aN {F:Nat→Prop} {w w':World} (h:Below w.heap.size w w'):Out F w w':=⟨h.os,h.tape,h.output,h.size,fun i hi _=>h.block i hi⟩
theorem Out.below {F:Nat→Prop} {B:Nat} {w w':World} (h:Out F w w') (hB:B≤w.heap.size) (hF:∀i,i<B→¬F i):Below B w w':=⟨h.os,h.tape,h.output,h.size,fun i hi=>h.block i (by omega) (hF i hi)⟩
theorem Out.blk {F:Nat→Prop} {w w':World} (h:Out F w w') {g:Nat} {t:TypeId} {cs:Array Value} (hb:ah w g t cs) (hg:¬F g):ah w' g t cs:=(h.block g hb.lt hg).trans hb
theorem Out.map {F:Nat→Prop} {w w':World} (h:Out F w w') {g:Nat} {kd:IntKind} {l:List (Int×Value)} (hb:MapAt w g kd l) (hg:¬F g):MapAt w' g kd l:=(h.block g hb.lt hg).trans hb
structure aI where
 n:Int
 b:List UInt8
def aI.cells (x:aI):List Value:=.int .i64 x.n::x.b.map aj
def aL (l:List aI):List Value:=l.flatMap aI.cells
structure ak where
 size:Int
 lasts:Int→List UInt8
 waits:List aI
 steps:Int
 fails:List Int
def az:List UInt8:=List.replicate 512 0
def ak.ok (x:ak):Prop:=1≤x.size∧x.size≤4096∧(∀n,(x.lasts n).length=512)∧(∀y∈x.waits,y.b.length=512)∧0≤x.steps∧x.steps≤1000000000000∧x.waits.length≤1000000
structure aX where
 p:Nat
 lm:Nat
 wv:Value
 fv:Option Nat
def aX.has (D:aX) (i:Nat):Prop:=i=D.p∨i=D.lm∨D.wv.ownBlock=some i∨D.fv=some i
def aV (b:List UInt8):Value:=.agg (b.map aj).toArray
def Z6 (w:World) (r:Nat) (f:Int→List UInt8):Prop:=∃l,MapAt w r .i64 l∧(l.map (·.1)).Nodup∧∀n,(∃v,bW l n=some v∧v=aV (f n))∨(bW l n=none∧f n=az)
def FR (w:World) (v:Option Nat) (l:List Int):Prop:=(v=none∧l=[])∨∃ (r:Nat) (k:List Int),v=some r∧MapAt w r .i64 (k.map fun n=>(n,Value.agg #[]))∧∀n,n∈k↔n∈l
structure aE (w:World) (D:aX) (x:ak):Prop where
 blk:ah w D.p 152 #[.int .i64 x.size,.map (some D.lm),D.wv,.int .i64 x.steps,.map D.fv]
 lasts:Z6 w D.lm x.lasts
 waits:w.ownsRow 0 161 513 D.wv x.waits.length (aL x.waits)
 fails:FR w D.fv x.fails
 apart:D.fv≠some D.lm
def ptr (g:Nat):Value:=.pointer (some ⟨g,0,none⟩)
theorem gC {w:World} {B k:Nat} {e:TypeId} {v:Value} {n g:Nat} {xs:List Value} (h:w.ownsRow B e k v n xs) (hv:v.ownBlock=some g):g<w.heap.size:=by
 obtain⟨_,⟨rfl,_⟩ | ⟨g',cap,cur,rfl,_,hg,_⟩⟩:=h
 ·simp[Value.ownBlock]at hv
 ·simp[Value.ownBlock]at hv;subst hv;exact kQ hg
theorem aq {F:Nat→Prop} {w w':World} (ho:Out F w w') {B k:Nat} {e:TypeId} {v:Value} {n:Nat} {xs:List Value} (h:w.ownsRow B e k v n xs) (hF:∀g,v.ownBlock=some g→¬F g):w'.ownsRow B e k v n xs:=by
 obtain⟨hl,⟨rfl,h0⟩ | ⟨g,cap,cur,rfl,hB,hg,hr⟩⟩:=h
 ·exact⟨hl,.inl ⟨rfl,h0⟩⟩
 ·exact⟨hl,.inr ⟨g,cap,cur,rfl,hB,(ho.block g (kQ hg) (hF g rfl)).trans hg,hr⟩⟩
theorem aE.out {F:Nat→Prop} {w w':World} {D:aX} {x:ak} (h:aE w D x) (ho:Out F w w') (hF:∀i,D.has i→¬F i):aE w' D x:=by
 refine⟨ho.blk h.blk (hF _ (.inl rfl)),?_,aq ho h.waits (fun g hg=>hF g (.inr (.inr (.inl hg)))),?_,h.apart⟩
 ·obtain⟨l,hm,hl⟩:=h.lasts;exact⟨l,ho.map hm (hF _ (.inr (.inl rfl))),hl⟩
 ·rcases h.fails with ⟨e,h1⟩ | ⟨r,k,e,h1,h2⟩
  ·exact .inl ⟨e,h1⟩
  ·exact .inr ⟨r,k,e,ho.map h1 (hF r (.inr (.inr (.inr e)))),h2⟩
theorem aE.has_lt {w:World} {D:aX} {x:ak} (h:aE w D x) (i:Nat) (hi:D.has i):i<w.heap.size:=by
 rcases hi with rfl | rfl | hi | hi
 ·exact h.blk.lt
 ·obtain⟨l,hm,_⟩:=h.lasts;exact hm.lt
 ·exact gC h.waits hi
 ·rcases h.fails with ⟨e,_⟩ | ⟨r,k,e,h1,_⟩
  ·rw[e]at hi;cases hi
  ·rw[e]at hi;cases hi;exact h1.lt
theorem aE.below {w w':World} {D:aX} {x:ak} (h:aE w D x) (hb:Below w.heap.size w w'):aE w' D x:=h.out (F:=fun _=>False) (aN hb) (fun _ _=>id)
theorem aE.drew {w:World} {D:aX} {x:ak} (h:aE w D x):aE w.drew D x:=⟨h.blk,h.lasts,h.waits,h.fails,h.apart⟩
theorem nF (D:aX) (x:ak) (w:World) (h:aE w D x) (hx:x.ok):Calls Tryz.prog 77 #[ptr D.p] w fun e w'=>e=.returned (.bool false)∧w=w':=by
 have c0:=h.blk.ag 0 rfl;have ne:(x.size == 0)=false:=by simpa using (by have:=hx.1;omega:x.size≠0)
 unfold ptr;clear h hx;go_enter Tryz.func77,Tryz.ntmps77
 go_wp2_with fail;go_ret
 exact⟨rfl,rfl⟩
theorem SH (w:World):Calls Tryz.prog 77 #[.pointer none] w fun e w'=>e=.returned (.bool true)∧w=w':=by
 go_enter Tryz.func77,Tryz.ntmps77
 go_wp2_with fail;go_ret
 exact⟨rfl,rfl⟩
theorem Gq (D:aX) (x:ak) (w:World) (h:aE w D x) (hx:x.ok):Calls Tryz.prog 74 #[ptr D.p] w fun e w'=>e=.returned (.int .i64 x.size)∧w=w':=by
 have c0:=h.blk.ag 0 rfl;have HN:=ae (nF D x w h hx);unfold ptr at *;clear h hx;go_enter Tryz.func74,Tryz.ntmps74
 go_wp2_with fail;refine HN.out.mono ?_;rintro e w1 ⟨rfl,rfl⟩;go_wp2_with fail;go_ret
 exact⟨rfl,rfl⟩
theorem SI (w:World):Calls Tryz.prog 74 #[.pointer none] w fun e w'=>e=.returned (.int .i64 0)∧w=w':=by
 go_enter Tryz.func74,Tryz.ntmps74
 go_wp2_with fail;refine(SH _).mono ?_;rintro e w1 ⟨rfl,rfl⟩;go_wp2_with fail;go_ret
 exact⟨rfl,rfl⟩
theorem xY (D:aX) (x:ak) (n q:Int) (w:World) (h:aE w D x) (hx:x.ok) (hn:0≤n∧n<x.size) (hq:0≤q∧q<512):Calls Tryz.prog 87 #[ptr D.p,.int .i64 n,.int .i64 q] w fun e w'=>e=.returned (.int .i64 0)∧w=w':=by
 have c0:=h.blk.ag 0 rfl;have HN:=ae (nF D x w h hx);unfold ptr at *;obtain⟨h1,h2⟩:=hn;obtain⟨h3,h4⟩:=hq;have n1:¬n<0:=by omega
 have n2:¬x.size≤n:=by omega
 have n3:¬q<0:=by omega
 have n4:¬512≤q:=by omega
 clear h hx;go_enter Tryz.func87,Tryz.ntmps87
 go_wp2_with fail;refine HN.out.mono ?_;rintro e w1 ⟨rfl,rfl⟩;go_wp2_with fail;go_ret
 exact⟨rfl,rfl⟩
theorem Gr (D:aX) (x:ak) (n q:Int) (w:World) (h:aE w D x) (hx:x.ok) (hn:n<0∨x.size≤n∨q<0∨512≤q):Calls Tryz.prog 87 #[ptr D.p,.int .i64 n,.int .i64 q] w fun e w'=>e=.returned (.int .i64 4)∧w=w':=by
 have c0:=h.blk.ag 0 rfl;have HN:=ae (nF D x w h hx);unfold ptr at *;have hs:n<0∨(¬n<0∧x.size≤n)∨(¬n<0∧¬x.size≤n∧q<0)∨(¬n<0∧¬x.size≤n∧¬q<0∧512≤q):=by omega
 clear h hx hn;rcases hs with h1 | ⟨h1,h2⟩ | ⟨h1,h2,h3⟩ | ⟨h1,h2,h3,h4⟩
 all_goals
  go_enter Tryz.func87,Tryz.ntmps87
  go_wp2_with fail;refine HN.out.mono ?_;rintro e w1 ⟨rfl,rfl⟩;go_wp2_with fail;go_ret
  exact⟨rfl,rfl⟩
def jQ (n:Int):ak:=⟨n,fun _=>az,[],0,[]⟩
def newAt (s:Nat):aX:=⟨s+1,s,.slice none 0 0,none⟩
theorem OZ (n:Int) (h1:1≤n) (h2:n≤4096):(jQ n).ok:=⟨h1,h2,fun _=>et,(by intro y hy;cases hy),by show(0:Int)≤0;omega,by show(0:Int)≤1000000000000;omega,by show 0≤1000000;omega⟩
theorem Kg (n:Int) (w:World) (h1:1≤n) (h2:n≤4096):Calls Tryz.prog 22 #[.int .i64 n] w fun e w'=>e=.returned (.tuple #[ptr (newAt w.heap.size).p,.int .i64 0])∧aE w' (newAt w.heap.size) (jQ n)∧Below w.heap.size w w':=by
 have n1:¬n<1:=by omega
 have n2:¬4096<n:=by omega
 have hmm:=@run_makeMap Tryz.prog;go_enter Tryz.func22,Tryz.ntmps22
 go_wp2_with fail;go_ret2
 refine⟨by simp[ptr,newAt],⟨?_,⟨[],?_,DH,fun _=>.inr ⟨rfl,rfl⟩⟩,km _ _ _ _,.inl ⟨rfl,rfl⟩,by simp[newAt]⟩,((ax _ _).alloc (ai _) _).alloc (by simp) _⟩
 ·exact ah.new2 w _ _ _
 ·exact(MapAt.new w .i64).alloc _
def ak.stepped (x:ak):ak := {x with steps:=x.steps+1}
theorem Cf (D:aX) (x:ak) (n:Int) (f:Value) (w:World) (h:aE w D x) (hx:x.ok) (hn:n<0∨x.size≤n):Calls Tryz.prog 83 #[ptr D.p,.int .i64 n,f] w fun e w'=>e=.returned (.int .i64 4)∧w=w':=by
 have HR:=ae (Gr D x n 0 w h hx (by omega));unfold ptr at *;clear h hx;go_enter JG,Jn
 go_wp2_with fail;refine HR.out.mono ?_;rintro e w1 ⟨rfl,rfl⟩;go_wp2_with fail;go_ret
 exact⟨rfl,rfl⟩
theorem uf (k:List Int) (n:Int):bW (k.map fun n=>(n,Value.agg #[])) n=if n∈k then some (.agg #[]) else none:=by
 induction k with
 | nil=>rfl
 | cons y k ih =>
  unfold bW at ih ⊢;rw[List.map_cons,DD];by_cases h:n=y
  ·subst h;simp
  ·rw[show(n == y)=false by simpa using h];simp only[ih,List.mem_cons,h,false_or]
theorem FT {P:Program} {t k e:TypeId} {kd:IntKind} (w:World) (ht:P.underlying t=some (.map k e)) (hk:P.underlying k=some (.int kd)) (n:Int) (z:Value) (hz:(zeroValue e).run P w=.ok z w) (ok:Bool) :
 (Instr.lookup t (.map none) (.int kd n) ok).run P w=.ok (if ok then .tuple #[z,.bool false] else z) w:=by
 have hf:(Instr.findKey k (.int kd n) (#[]:Array MapEntry).toList).run P w=.ok none w:=run_findKey w hk [] n;unfold Instr.lookup;simp only[Sem.run_bind,run_underlying ht,Result.andThen,Sem.run_pure,jV w _ 9999 hk,hf,hz]
theorem ou {w:World} {D:aX} {x:ak} (h:aE w D x) (n:Int):(Instr.lookup 150 (.map D.fv) (.int .i64 n) true).run Tryz.prog w=.ok (.tuple #[.agg #[],.bool (decide (n∈x.fails))]) w:=by
 have hz:(zeroValue 157).run Tryz.prog w=.ok (.agg #[]) w:=by kernel_rfl
 rcases h.fails with ⟨e,h1⟩ | ⟨r,k,e,h1,h2⟩
 ·rw[e,h1];exact FT w wI ew n _ hz true
 ·rw[e];by_cases hn:n∈x.fails
  ·rw[cT hn];exact sY w wI ew r _ h1 n _ (by rw[uf,aB ((h2 n).2 hn)]) true
  ·rw[cB hn];exact qn w wI ew r _ h1 n _ hz (by rw[uf,aG (fun hh=>hn ((h2 n).1 hh))]) true
theorem aR {w:World} {k B:Nat} {e t:TypeId} {v:Value} {n g:Nat} {xs:List Value} {cs:Array Value} (h:w.ownsRow B e k v n xs) (hg:ah w g t cs) (het:e≠t) (i:Nat) (hi:v.ownBlock=some i):i≠g:=by
 rintro rfl;rcases h.2 with ⟨rfl,_⟩ | ⟨g',cap,cur,rfl,h2,h3,h4⟩
 ·cases hi
 ·obtain rfl:g'=i:=by simpa[Value.ownBlock]using hi
  unfold ah at hg;rw[hg]at h3;injection h3 with h3
  injection h3 with _ h3
  exact het h3.symm
theorem xp {w:World} {g r:Nat} {t:TypeId} {cs:Array Value} {kd:IntKind} {l:List (Int×Value)} (h:MapAt w r kd l) (hg:ah w g t cs):r≠g:=by
 rintro rfl;unfold MapAt at h;unfold ah at hg;rw[h]at hg;injection hg with hg
 cases hg
theorem aE.ne {w:World} {D:aX} {x:ak} (h:aE w D x):D.lm≠D.p∧(∀i,D.wv.ownBlock=some i→i≠D.p)∧∀i,D.fv=some i→i≠D.p:=by
 refine⟨?_,aR h.waits h.blk (by decide),fun i hi=>?_⟩
 ·obtain⟨l,hm,_⟩:=h.lasts;exact xp hm h.blk
 ·rcases h.fails with ⟨e,_⟩ | ⟨r,k,e,h1,_⟩
  ·rw[e]at hi;cases hi
  ·rw[e]at hi;cases hi;exact xp h1 h.blk
theorem aE.aaz {w:World} {D:aX} {x:ak} (h:aE w D x) (s:Int):aE (w.setCell ⟨D.p,3,none⟩ (.int .i64 s)) D {x with steps:=s}:=by
 obtain⟨n1,n2,n3⟩:=h.ne;refine⟨h.blk.br 3 _,?_,?_,?_,h.apart⟩
 ·obtain⟨l,hm,hl⟩:=h.lasts;exact⟨l,(gE w _ _ _ n1).trans hm,hl⟩
 ·rcases h.waits.2 with hn | ⟨g,cap,cur,e,h2,h3,h4⟩
  ·exact⟨h.waits.1,.inl hn⟩
  ·exact⟨h.waits.1,.inr ⟨g,cap,cur,e,h2,(gE w _ _ _ (n2 g (by rw[e];rfl))).trans h3,h4⟩⟩
 ·rcases h.fails with hn | ⟨r,k,e,h1,h2⟩
  ·exact .inl hn
  ·exact .inr ⟨r,k,e,(gE w _ _ _ (n3 r e)).trans h1,h2⟩
structure DStep (D D':aX) (w w':World):Prop where
 out:Out D.has w w'
 same:D'.p=D.p
 lr:∀i,D'.has i→D.has i∨w.heap.size≤i
theorem DStep.refl (D:aX) (w:World):DStep D D w w:=⟨Out.refl _ _,rfl,fun _ h=>.inl h⟩
theorem DStep.trans {D D1 D2:aX} {w w1 w2:World} (h:DStep D D1 w w1) (k:DStep D1 D2 w1 w2):DStep D D2 w w2 :=
 ⟨h.out.trans k.out (fun i hi hd=>(h.lr i hd).resolve_right (by omega)),k.same.trans h.same,fun i hi=>(k.lr i hi).elim (h.lr i) (fun hs=>.inr (by have:=h.out.size;omega))⟩
theorem DStep.below {D D':aX} {w w1 w2:World} (h:DStep D D' w w1) (hb:Below w1.heap.size w1 w2):DStep D D' w w2:=⟨h.out.trans (G:=fun _=>False) (aN hb) (fun _ _=>False.elim),h.same,h.lr⟩
theorem DStep.far {D D':aX} {w w1:World} (h:DStep D D' w w1) {g:Nat} (hg:g<w.heap.size) (hn:¬D.has g):¬D'.has g:=fun hd=>(h.lr g hd).elim hn (by omega)
theorem DStep.first {D D':aX} {w0 w w1:World} (h:DStep D D' w w1) (hb:Below w0.heap.size w0 w) (hD:∀i,D.has i→i<w0.heap.size):DStep D D' w0 w1 :=
 ⟨(aN hb:Out D.has w0 w).trans h.out (fun _ _=>id),h.same,fun i hi=>(h.lr i hi).imp id (fun hs=>by have:=hb.size;omega)⟩
theorem bk {w:World} {F:Nat→Prop} {g i:Nat} {v:Value} (hg:F g):Out F w (w.setCell ⟨g,i,none⟩ v) :=
 ⟨rfl,rfl,rfl,by simp,fun j _ hn=>gE w _ _ _ (fun e=>hn (by rw[show j=g from e];exact hg))⟩
theorem Ap {w:World} {D:aX} {x:ak} (h:aE w D x) (o:Obj):aE (((w.setCell ⟨D.p,3,none⟩ (.int .i64 (x.steps+1))).alloc o).drew) D x.stepped∧DStep D D w (((w.setCell ⟨D.p,3,none⟩ (.int .i64 (x.steps+1))).alloc o).drew):=by
 have h1:=h.aaz (x.steps+1);have hb:Below (w.setCell ⟨D.p,3,none⟩ (.int .i64 (x.steps+1))).heap.size (w.setCell ⟨D.p,3,none⟩ (.int .i64 (x.steps+1))) (((w.setCell ⟨D.p,3,none⟩ (.int .i64 (x.steps+1))).alloc o).drew):=((ax _ _).alloc (ai _) o).drew;refine⟨h1.below hb,?_,rfl,fun _ h=>.inl h⟩;exact Out.trans (G:=D.has) (bk (.inl rfl)) (aN hb) (fun _ _=>id)
theorem Cg (D:aX) (x:ak) (n:Int) (f:Value) (w:World) (h:aE w D x) (hx:x.ok) (hn:0≤n∧n<x.size) (hf:x.steps∈x.fails):Calls Tryz.prog 83 #[ptr D.p,.int .i64 n,f] w fun e w' =>
 e=.returned (.int .i64 120)∧aE w' D x.stepped∧DStep D D w w':=by
 have HR:=ae (xY D x n 0 w h hx hn (by omega));have c4:=h.blk.ag 4 rfl;have c3:=h.blk.ag 3 rfl;have f3:=h.blk.frozen 3;have hlt:=h.blk.lt;have k1:=ou h.drew x.steps;have k2:=ou (h.below ((ax _ _).alloc (ai _) (.cells #[] 157))).drew x.steps;have k3:=ou (h.drew.below ((ax _ _).alloc (ai _) (.cells #[] 157))) x.steps;rw[cT hf]at k1 k2 k3;have HF:=ae (fun o=>Ap h o);have hs:x.steps≤1000000000000:=hx.2.2.2.2.2.1;have hs0:0≤x.steps:=hx.2.2.2.2.1;unfold ptr at *;clear h hx hf;generalize x.steps=s at *;go_enter JG,Jn
 go_wp2_with fail;refine HR.out.mono ?_;rintro e w1 ⟨rfl,rfl⟩;go_upto_region 4 with fail;go_region
 all_goals go_wp2_with fail
 all_goals go_ret
 all_goals exact⟨rfl,HF.out _⟩
theorem Aq:∃i z,Tryz.prog.info? 161=some i∧i.zero=some z∧i.size=513∧i.bytes=520∧z.cells.size=513:=by
 have h:(Tryz.prog.info? 161).map (fun i=>(i.zero.map (·.cells.size),i.size,i.bytes))=some (some 513,513,520):=by kernel_rfl
 obtain⟨i,hi,he⟩:=iE.1 h;injection he with h1 h2
 injection h2 with h2 h3
 obtain⟨z,hz,h4⟩:=iE.1 h1;exact⟨i,z,hi,hz,h2,h3,h4⟩
theorem fQ:(Tryz.prog.info? 111).map (·.size)=some 512:=by kernel_rfl
theorem iV (b:List UInt8) (v:Value) (hv:v∈b.map aj):v.oneCell'=true:=by
 obtain⟨c,_,rfl⟩:=dI.1 hv;rfl
theorem SM (off:Nat) (l:List Value) (cs:Array Value) (h:off+l.length≤cs.size):(l.zipIdx 0).foldl (fun cs (x:Value×Nat)=>cs.setIfInBounds (off+x.2) x.1) cs=(cs.toList.take off++l++cs.toList.drop (off+l.length)).toArray:=by
 obtain⟨h1,h2⟩:=Great.foldl_set off l 0 cs;apply tL;intro k;rw[h2 k];refine Eq.trans ?_ List.getElem?_toArray.symm;have ht:(cs.toList.take off).length=off:=by simp;omega
 by_cases c1:k<off
 ·rw[aG (by omega),fS,iC (by omega),dU,aB c1];simp
 ·by_cases c2:k<off+l.length
  ·rw[aB (by omega),fS,gl (by omega),ht,iC (by omega)];simp
  ·rw[aG (by omega),gl (by simp;omega),kL];simp only[List.length_append,ht,Array.getElem?_toList];congr 1
   omega
theorem jK {place:Nat→Option (Nat×Nat)} {cells:Array Value} {i off size:Nat} {v:Value} {rest:List (Nat×Value)} (hp:place i=some (off,size)) (hs:v.cells.size=size) (hle:off+size≤cells.size) :
 Instr.fill place cells ((i,v)::rest)=Instr.fill place (cells.toList.take off++v.cells.toList++cells.toList.drop (off+size)).toArray rest:=by
 rw[Instr.fill,hp];have h:(decide (v.cells.size≠size) || decide (off+v.cells.size>cells.size))=false:=by simp;omega
 simp only[h,Bool.false_eq_true,if_false];have e:=SM off v.cells.toList cells (by simpa[hs]using hle);rw[show v.cells.toList.length=size by simpa using hs]at e;rw[←e];congr 1
 rw[←Array.foldl_toList,Array.toList_zipIdx]
theorem xZ (place:Nat→Option (Nat×Nat)) (cells:Array Value):Instr.fill place cells []=some cells:=rfl
theorem O0 (n:Int) (b:List UInt8) (hb:b.length=512):Tryz.prog.built 161 [(0,.int .i64 n),(1,.agg (b.map aj).toArray)]=some (aI.cells ⟨n,b⟩).toArray:=by
 obtain⟨i,z,hi,hz,h1,h2,h3⟩:=Aq;have hu:=Dr;unfold Program.built;rw[hi,hu];simp only[hz];rw[show(List.mapM (fun f:Field=>Option.map (fun i=>(f.offset,i.size)) (Tryz.prog.info? f.type)) _:Option (List (Nat×Nat)))=some [(0,1),(1,512)]from by kernel_rfl];simp only[];have hd:z.cells.toList.length=513:=by simpa using h3
 generalize z.cells=zc at *;rw[jK (off:=0) (size:=1) rfl rfl (by omega),jK (off:=1) (size:=512) rfl (by simpa[Value.cells]using hb) (by rw[b'];simp[hd];exact ai 1)];rw[xZ];apply dz some;apply dz List.toArray;rw[wi (by simp[Value.cells]),dg (by simp[Value.cells]),jD (by simp[hd,Value.cells])];simp only[List.take_zero,List.nil_append,List.append_nil];rfl
theorem nG (c:Array Value) (hc:c.size=513) (i:TypeInfo) (z:Value) (h1:i.size=513) (h3:z.cells.size=513) :
 Instr.fill (fun k=>some (k*i.size,i.size)) ((Array.range (1*i.size)).map (z.cells[· % z.cells.size]!)) [(0,.agg c)]=some c:=by
 rw[h1,jK (off:=0) (size:=513) (by simp) (by simpa[Value.cells]using hc) (by simp)];rw[Instr.fill,jD (by simp),Jb,nx,ny];rfl
theorem iO {P:Program} {ops:Array Oper} {S:World→Prop} {op:Oper} {a:Act} (hw:Region.wanted op (yielded ops a.tmps)=true) (t:TypeId) (parts:Array (Nat×Operand)) (ho:op.op=.build t parts) (cells:Array Value)
 (hf:P.built t (parts.toList.map fun x=>(x.1,a.eval x.2))=some cells):YieldsIf P ops S op (.agg cells) a :=
 .inl ⟨hw,fun w _=>by
  unfold execOp;have hf':P.built t (parts.map fun(i,x)=>(i,a.eval x)).toList=some cells:=by rw[Dy];exact hf
  simp only[ho,Sem.run_bind,run_build w t _ _ hf',Sem.run_pure,Result.andThen_ok]⟩
theorem dW {P:Program} {o:Oper} {a:Act} {w:World} {K:Act→World→Prop} {Q:Exit→Act→World→Prop} (t e:TypeId) (len:Nat) (parts:Array (Nat×Operand)) (ho:o.op=.buildSlice t len parts)
 (cells:Array Value) (ie:TypeInfo) (z:Value)
 (hu:P.underlying t=some (.slice e)) (hie:P.info? e=some ie) (hz:ie.zero=some z) (hsmall:¬len*ie.size>2^24) (hpos:¬len*ie.size=0)
 (hf:Instr.fill (fun i=>some (i*ie.size,ie.size)) ((Array.range (len*ie.size)).map (z.cells[· % z.cells.size]!)) (parts.toList.map fun x=>(x.1,a.eval x.2))=some cells)
 (h:K (a.put o.dst (.slice (some ⟨w.heap.size,0,none⟩) len len)) (w.alloc (.cells cells e))):o.wp P a w K Q :=
 wp_buildSlice t e len parts ho cells ie z hu hie hz hsmall hpos (by rw[Dy];exact hf) h
theorem aI.len (x:aI) (h:x.b.length=512):x.cells.length=513:=by simp[aI.cells,h]
theorem lu (x:aI) (v:Value) (hv:v∈x.cells):v.oneCell'=true:=by
 rcases lN.1 hv with rfl | hv
 ·rfl
 ·exact iV _ v hv
def ak.put (x:ak) (n:Int) (b:List UInt8):ak := {x with waits:=x.waits++[⟨n,b⟩]}
theorem VF {w:World} {g o:Nat} {cs:List Value} (hr:w.rangeAt g o cs) (h:cs≠[]):g<w.heap.size:=by
 obtain⟨c,l,rfl⟩:=List.exists_cons_of_ne_nil h;exact od w _ (hr 0 c rfl)
theorem mx {w:World} {k B e:Nat} {v:Value} {n r:Nat} {xs:List Value} {kd:IntKind} {l:List (Int×Value)} (h:w.ownsRow B e k v n xs) (hm:MapAt w r kd l) (i:Nat) (hi:v.ownBlock=some i):i≠r:=by
 rintro rfl;rcases h.2 with ⟨rfl,_⟩ | ⟨g',cap,cur,rfl,h2,h3,h4⟩
 ·cases hi
 ·obtain rfl:g'=i:=by simpa[Value.ownBlock]using hi
  unfold MapAt at hm;rw[hm]at h3;injection h3 with h3
  cases h3
theorem aaA {w w0 w2:World} {D:aX} {x:ak} (h:aE w D x) (hb:Below w.heap.size w w0) (hg:w0.grownBy w2 D.wv.ownBlock) {g:Nat} {n:Int} {b:List UInt8} {v:Value} (hv:v.ownBlock=some g) (hgg:D.wv.ownBlock=some g∨w.heap.size≤g)
 (ho:w2.ownsRow 0 161 513 v (x.waits.length+1) (aL x.waits++aI.cells ⟨n,b⟩)) :
 aE (w2.setCell ⟨D.p,2,none⟩ v) {D with wv:=v} (x.put n b)∧DStep D {D with wv:=v} w (w2.setCell ⟨D.p,2,none⟩ v):=by
 obtain⟨n1,n2,n3⟩:=h.ne;have hf:∀i,i<w.heap.size→some i≠D.wv.ownBlock→w2.heap[i]? = w.heap[i]? :=fun i hi hn=>(hg.block i (by have:=hb.size;omega) hn).trans (hb.block i hi)
 have hp:ah w2 D.p _ _:=(hf D.p h.blk.lt (fun e=>n2 _ e.symm rfl)).trans h.blk;refine⟨⟨hp.br 2 v,?_,?_,?_,h.apart⟩,⟨⟨hg.os.trans hb.os,hg.tape.trans hb.tape,hg.output.trans hb.output,by have:=hg.size;have:=hb.size;simp;omega,fun i hi hn=>?_⟩,rfl,?_⟩⟩
 ·obtain⟨l,hm,hl⟩:=h.lasts;refine⟨l,(gE w2 _ _ _ n1).trans ((hf D.lm hm.lt (fun e=>?_)).trans hm),hl⟩;exact mx h.waits hm _ e.symm rfl
 ·have hne:∀i,v.ownBlock=some i→i≠D.p:=aR ho hp (by decide);have e:aL (x.put n b).waits=aL x.waits++aI.cells ⟨n,b⟩:=by simp[aL,ak.put,List.flatMap_append]
  have e2:(x.put n b).waits.length=x.waits.length+1:=by simp[ak.put]
  show World.ownsRow _ 0 _ 513 v (x.put n b).waits.length (aL (x.put n b).waits);rw[e,e2];exact aq (F:=fun i=>i=D.p) (bk rfl) ho (fun i hi=>hne i hi)
 ·rcases h.fails with hn | ⟨r,k,e,h1,h2⟩
  ·exact .inl hn
  ·refine .inr ⟨r,k,e,(gE w2 _ _ _ (n3 r e)).trans ((hf r h1.lt (fun e=>?_)).trans h1),h2⟩;exact mx h.waits h1 _ e.symm rfl
 ·exact(gE w2 _ _ _ (fun e=>hn (.inl e))).trans (hf i hi (fun e=>hn (.inr (.inr (.inl e.symm)))))
 ·rintro i (rfl | rfl | hi | hi)
  ·exact .inl (.inl rfl)
  ·exact .inl (.inr (.inl rfl))
  ·have:i=g:=by
    have:v.ownBlock=some i:=hi;rw[hv]at this;exact(gH this).symm
   subst this;exact hgg.imp (fun e=>.inr (.inr (.inl e))) id
  ·exact .inl (.inr (.inr (.inr hi)))
theorem VG (D:aX) (x:ak) (gd gn gb:Nat) (n:Int) (b:List UInt8) (w:World) (h:aE w D x) (hb:b.length=512) (hw:x.waits.length≤1000000)
 (cd:w.cell? ⟨gd,0,none⟩=some (ptr D.p)) (cn:w.cell? ⟨gn,0,none⟩=some (.int .i64 n)) (rb:w.rangeAt gb 0 (b.map aj)) (nd:¬D.has gd) (nn:¬D.has gn) (nb:¬D.has gb) :
 Calls Tryz.prog 100 #[.pointer (some ⟨gd,0,none⟩),.pointer (some ⟨gn,0,none⟩),.pointer (some ⟨gb,0,none⟩)] w fun e w' =>
 e=.returned (.tuple #[])∧∃D',aE w' D' (x.put n b)∧DStep D D' w w':=by
 obtain⟨i0,z0,hi0,hz0,hz1,hz2,hz3⟩:=Aq;have c2:=h.blk.ag 2 rfl;have f2:=h.blk.frozen 2;have hsz:=fQ;have hus:=dj;have hlen:(b.map aj).length=512:=by simpa using hb
 rw[←hlen]at hsz;have hone:=iV b;have H:=ae h;have ld:=od w _ cd;have ln:=od w _ cn;have lb:=VF rb (by intro e;rw[e]at hlen;cases hlen);have sZ:(aI.cells ⟨n,b⟩).toArray.size=513:=by simpa using aI.len ⟨n,b⟩ hb
 have pt:(aI.cells ⟨n,b⟩).length=1*513:=aI.len ⟨n,b⟩ hb;obtain⟨W,eW⟩:∃W,W=w.drew.alloc (.cells (aI.cells ⟨n,b⟩).toArray 161):=⟨_,rfl⟩;have hbW:Below w.heap.size w W:=by rw[eW];exact(ax _ w).drew.alloc (ai _) _
 have HW:=ae (aq (F:=fun _=>False) (aN hbW) h.waits (fun _ _=>id));have lx:∀w2,W.grownBy w2 D.wv.ownBlock→∀i,i<w.heap.size→some i≠D.wv.ownBlock→w2.heap[i]? = w.heap[i]? :=fun w2 hg i hi hn=>(hg.block i (by have:=hbW.size;omega) hn).trans (hbW.block i hi)
 have no:∀i,¬D.has i→some i≠D.wv.ownBlock:=fun i hi e=>hi (.inr (.inr (.inl e.symm)))
 have np:∀i,¬D.has i→i≠D.p:=fun i hi e=>hi (.inl e)
 obtain⟨np1,np2,np3⟩:=h.ne;have HF:=ae (fun(w2:World) (v:Value) g cap (hv:v=.slice (some ⟨g,0,none⟩) (x.waits.length+1) cap) (hg:W.grownBy w2 D.wv.ownBlock) =>
  And.intro ((lL (a:=⟨D.p,2,none⟩) (lx w2 hg D.p h.blk.lt (fun e=>np2 _ e.symm rfl))).trans c2) ((World.frozen?_of_block (a:=⟨D.p,2,none⟩) (lx w2 hg D.p h.blk.lt (fun e=>np2 _ e.symm rfl))).trans f2))
 have HS:=ae (fun(w2:World) (hg:W.grownBy w2 D.wv.ownBlock) =>
  And.intro ((lL (a:=⟨gd,0,none⟩) (lx w2 hg gd ld (no gd nd))).trans cd) (And.intro ((lL (a:=⟨gn,0,none⟩) (lx w2 hg gn ln (no gn nn))).trans cn)
   (fun j u hj=>(lL (a:=⟨gb,0+j,none⟩) (lx w2 hg gb lb (no gb nb))).trans (rb j u hj):w2.rangeAt gb 0 (b.map aj))))
 have HT:=ae (fun(w2:World) (hg:W.grownBy w2 D.wv.ownBlock) (v:Value) =>
  And.intro ((kJ w2 ⟨D.p,2,none⟩ ⟨gd,0,none⟩ v (np gd nd).symm).trans (HS.out w2 hg).1) (And.intro ((kJ w2 ⟨D.p,2,none⟩ ⟨gn,0,none⟩ v (np gn nn).symm).trans (HS.out w2 hg).2.1)
   (fun j u hj=>(kJ w2 ⟨D.p,2,none⟩ ⟨gb,0+j,none⟩ v (np gb nb).symm).trans ((HS.out w2 hg).2.2 j u hj):(w2.setCell ⟨D.p,2,none⟩ v).rangeAt gb 0 (b.map aj))))
 have HP:=ae (fun(w2:World) g cap (hO:w2.ownsRow 0 161 513 (.slice (some ⟨g,0,none⟩) (x.waits.length+1) cap) (x.waits.length+1) (aL x.waits++aI.cells ⟨n,b⟩)) (hg:W.grownBy w2 D.wv.ownBlock) (hat:D.wv.ownBlock=some g∨g=w.heap.size+1) =>
  aaA h hbW hg rfl (hat.imp id (fun e=>by omega)) hO)
 have c2w:=(sd w (.cells (aI.cells ⟨n,b⟩).toArray 161) ⟨D.p,2,none⟩ h.blk.lt).trans c2;clear hbW lx;subst eW;unfold ptr at *;clear h;go_enter Tryz.func100,Tryz.ntmps100
 go_upto_region 0 with fail;refine bF (S:=(fun w'=>w'.cell? ⟨gd,0,none⟩=some (Value.pointer (some ⟨D.p,0,none⟩))∧w'.cell? ⟨gn,0,none⟩=some (.int .i64 n)∧w'.rangeAt gb 0 (b.map aj))) (by kernel_rfl) (by(try dsimp only);(exact⟨cd,cn,rb⟩)) (fun hHeld=>?_);refine tk 0 ?_;refine tk 1 ?_;refine tk 2 ?_;refine tk 3 ?_;refine tk 5 ?_;refine ty 6 rfl (cY (by rfl) 111 _ rfl gb 0 rfl (b.map aj) _ (fun w' h=>h.2.2) hus rfl hsz) ?_;refine ty 7 rfl (iO (by rfl) 161 _ rfl (aI.cells ⟨n,b⟩).toArray (by exact O0 n b hb)) ?_;refine fU (rs:=[4,8]) (by kernel_rfl) (by simp) ?_;refine ca rfl (fun K hK=>?_) (ca rfl (fun K hK=>?_) fT)
 ·go_simp;refine hK.out _ _ ⟨cd,cn,rb⟩ (fun hHeld=>?_);clear hK K;refine rd 8 fun K hK=>?_;rw[aB (by rfl)];refine dW 149 161 1 _ rfl (aI.cells ⟨n,b⟩).toArray i0 z0 zy hi0 hz0 (by rw[hz1];decide) (by rw[hz1];decide) (by exact nG _ sZ i0 z0 hz1 hz3) ?_;refine hK.out _ _ ⟨(sd _ _ _ ld).trans cd,(sd _ _ _ ln).trans cn,fun j v hj=>(sd _ _ _ lb).trans (rb j v hj)⟩ (fun hHeld=>?_);clear hK K;refine rd 9 fun K hK=>?_;rw[aB (by rfl)];refine oe _ (.tmp 7) (.tmp 11) 149 rfl 0 161 i0 z0 513 520 zy hi0 hz0 hz1 hz2 hz3 (by omega) D.wv x.waits.length (aL x.waits) rfl HW.out ⟨w.drew.heap.size,0,none⟩ 1 1 (aI.cells ⟨n,b⟩) rfl pt (ia (cs:=(aI.cells ⟨n,b⟩).toArray) (t:=161) (fr:=(0,0)) (bC w.drew _)) (lu ⟨n,b⟩)
   (by omega) (by unfold maxLen;omega) (by omega) (fi _) (w.heap.size+1) (size_alloc _ _) ?_
  intro g cap w2 hO2 hg2 ue hlt2;obtain⟨e1,e2⟩:=HF.out w2 _ g cap rfl hg2;refine hK.out _ _ (HS.out w2 hg2) (fun hHeld=>?_);clear hK K;refine tk 10 ?_;refine tk 11 ?_;refine rd 12 fun K hK=>?_;go_simp;refine hK.out _ _ (HT.out w2 hg2 _) (fun hHeld=>?_);clear hK K;refine aT ?_;exact jE (v:=.tuple #[]) (by simp[results,Tryz.results100,go_sem]) rfl ⟨rfl,_,HP.out w2 g cap hO2 hg2 ue⟩
 ·rw[aB (by rfl)];refine dW 149 161 1 _ rfl (aI.cells ⟨n,b⟩).toArray i0 z0 zy hi0 hz0 (by rw[hz1];decide) (by rw[hz1];decide) (by exact nG _ sZ i0 z0 hz1 hz3) ?_;refine hK.out _ _ ⟨(sd _ _ _ ld).trans cd,(sd _ _ _ ln).trans cn,fun j v hj=>(sd _ _ _ lb).trans (rb j v hj)⟩ (fun hHeld=>?_);clear hK K;refine rd 4 fun K hK=>?_;go_simp;refine hK.out _ _ hHeld (fun hHeld=>?_);clear hK K;refine rd 9 fun K hK=>?_;rw[aB (by rfl)];refine oe _ (.tmp 7) (.tmp 11) 149 rfl 0 161 i0 z0 513 520 zy hi0 hz0 hz1 hz2 hz3 (by omega) D.wv x.waits.length (aL x.waits) rfl HW.out ⟨w.drew.heap.size,0,none⟩ 1 1 (aI.cells ⟨n,b⟩) rfl pt (ia (cs:=(aI.cells ⟨n,b⟩).toArray) (t:=161) (fr:=(0,0)) (bC w.drew _)) (lu ⟨n,b⟩)
   (by omega) (by unfold maxLen;omega) (by omega) (fi _) (w.heap.size+1) (size_alloc _ _) ?_
  intro g cap w2 hO2 hg2 ue hlt2;obtain⟨e1,e2⟩:=HF.out w2 _ g cap rfl hg2;refine hK.out _ _ (HS.out w2 hg2) (fun hHeld=>?_);clear hK K;refine tk 10 ?_;refine tk 11 ?_;refine rd 12 fun K hK=>?_;go_simp;refine hK.out _ _ (HT.out w2 hg2 _) (fun hHeld=>?_);clear hK K;refine aT ?_;exact jE (v:=.tuple #[]) (by simp[results,Tryz.results100,go_sem]) rfl ⟨rfl,_,HP.out w2 g cap hO2 hg2 ue⟩
theorem rV {P : Program} {k : Nat} {fn : Func} (hf : P.funcs[k]? = some fn) (hname : (fn.name == "runtime.NumGoroutine") = false) (hb : fn.body.isNone = false) (args : Array Value) (w : World) : (callFunc k args).run P w = .ok (.enter k args) w := by
 have h1 : fn.name ≠ "runtime.NumGoroutine" := by simpa using hname
 have h2:fn.body≠none:=by intro h;rw[h]at hb;cases hb
 simp[callFunc,hf,h1,h2,Sem.run]
theorem Kh (k:Nat) (hk:∀args w,(callFunc k args).run Tryz.prog w=.ok (.enter k args) w) (p0 p1 p2:Value) (R:World→Prop) (D:aX) (x:ak) (n:Int) (w:World) (h:aE w D x) (hx:x.ok) (hn:0≤n∧n<x.size) (hf:¬x.steps∈x.fails)
 (hdo:∀w',aE w' D x.stepped→DStep D D w w'→Calls Tryz.prog k #[p0,p1,p2] w' fun e w''=>e=.returned (.tuple #[])∧R w'') :
 Calls Tryz.prog 83 #[ptr D.p,.int .i64 n,.func (.func k) #[] #[p0,p1,p2]] w fun e w'=>e=.returned (.int .i64 0)∧R w':=by
 have HR:=ae (xY D x n 0 w h hx hn (by omega));have c4:=h.blk.ag 4 rfl;have c3:=h.blk.ag 3 rfl;have f3:=h.blk.frozen 3;have hlt:=h.blk.lt;have k1:=ou h.drew x.steps;have k2:=ou (h.below ((ax _ _).alloc (ai _) (.cells #[] 157))).drew x.steps;have k3:=ou (h.drew.below ((ax _ _).alloc (ai _) (.cells #[] 157))) x.steps;rw[cB hf]at k1 k2 k3;have HF:=ae (fun o=>Ap h o);have HD:=ae hdo;have hs:x.steps≤1000000000000:=hx.2.2.2.2.2.1;have hs0:0≤x.steps:=hx.2.2.2.2.1;unfold ptr at *;clear h hx hf hdo;generalize x.steps=s at *;go_enter JG,Jn
 go_wp2_with fail;refine HR.out.mono ?_;rintro e w1 ⟨rfl,rfl⟩;go_upto_region 4 with fail;go_region
 all_goals
  go_wp2_with fail;refine(HD.out _ (HF.out _).1 (HF.out _).2).mono ?_;rintro e w2 ⟨rfl,hR⟩;go_wp2_with fail;go_ret
  exact⟨rfl,hR⟩
def ak.err (x:ak) (n:Int):Int:=if n<0∨x.size≤n then 4 else if x.steps∈x.fails then 120 else 0
def ak.write (x:ak) (n:Int) (b:List UInt8):ak:=if n<0∨x.size≤n then x else if x.steps∈x.fails then x.stepped else x.stepped.put n b
theorem rm {w w':World} {D:aX} {x:ak} (h:aE w D x) {i:Nat} (hi:w.heap.size≤i):¬D.has i:=fun hd=>by have:=h.has_lt i hd;omega
theorem O7 (D:aX) (x:ak) (n:Int) (b:List UInt8) (w:World) (h:aE w D x) (hx:x.ok) (hb:b.length=512) :
 Calls Tryz.prog 54 #[ptr D.p,.int .i64 n,aV b] w fun e w'=>e=.returned (.int .i64 (x.err n))∧∃D',aE w' D' (x.write n b)∧DStep D D' w w':=by
 obtain⟨W,eW⟩:∃W,W=((w.alloc (Obj.cells #[Value.pointer (some {block:=D.p,off:=0})] 37)).alloc (Obj.cells #[Value.int IntKind.i64 n] 3)).alloc (Obj.cells (List.map aj b).toArray 111):=⟨_,rfl⟩;have hbW:Below w.heap.size w W:=by rw[eW];exact(((ax _ w).alloc (ai _) _).alloc (by simp) _).alloc (by simp;omega) _
 have HC:Calls Tryz.prog 83 #[.pointer (some {block:=D.p,off:=0}),.int .i64 n,.func (.func 100) #[] #[.pointer (some ⟨w.heap.size,0,none⟩),.pointer (some ⟨w.heap.size+1,0,none⟩),.pointer (some ⟨w.heap.size+1+1,0,none⟩)]] W
  fun e w'=>e=.returned (.int .i64 (x.err n))∧∃D',aE w' D' (x.write n b)∧DStep D D' w w':=by
  have hW:=h.below hbW;unfold ak.err ak.write;by_cases h1:n<0∨x.size≤n
  ·rw[aB h1,aB h1];refine(Cf D x n _ W hW hx h1).mono ?_;rintro e w1 ⟨rfl,rfl⟩;exact⟨rfl,D,hW,(DStep.refl D W).first hbW h.has_lt⟩
  ·rw[aG h1,aG h1];have h2:0≤n∧n<x.size:=by omega
   by_cases h3:x.steps∈x.fails
   ·rw[aB h3,aB h3];refine(Cg D x n _ W hW hx h2 h3).mono ?_;rintro e w1 ⟨rfl,ha,hs⟩;exact⟨rfl,D,ha,hs.first hbW h.has_lt⟩
   ·rw[aG h3,aG h3];have n0:¬D.has w.heap.size:=rm h (ai _) (w':=w);have n1:¬D.has (w.heap.size+1):=rm h (by omega) (w':=w);have n2:¬D.has (w.heap.size+1+1):=rm h (by omega) (w':=w);have b0:ah W w.heap.size 37 #[.pointer (some ⟨D.p,0,none⟩)]:=by rw[eW];exact((ah.new w _ _).alloc _).alloc _
    have b1:ah W (w.heap.size+1) 3 #[.int .i64 n]:=by rw[eW];exact(ah.new2 w _ _ _).alloc _
    have b2:ah W (w.heap.size+1+1) 111 (List.map aj b).toArray:=by rw[eW];exact ah.new' (by simp)
    clear eW;refine Kh _ (rV Tryz.func100 rfl rfl) _ _ _ (fun w'=>∃D',aE w' D' (x.stepped.put n b)∧DStep D D' w w') D x n W hW hx h2 h3 ?_;intro w1 ha hs;refine(VG D x.stepped _ _ _ n b w1 ha hb (hx.2.2.2.2.2.2) ((hs.out.blk b0 n0).ag 0 rfl) ((hs.out.blk b1 n1).ag 0 rfl) (fun j v hj=>?_) n0 n1 n2).mono ?_
    ·refine(hs.out.blk b2 n2).ag (0+j) ?_;rw[jd,cW];exact hj
    ·rintro e w2 ⟨rfl,D',ha2,hs2⟩;exact⟨rfl,D',ha2,(hs.trans hs2).first hbW h.has_lt⟩
 have HH:=ae HC;clear HC hbW h;subst eW;unfold ptr aV at *;go_enter Tryz.func54,Tryz.ntmps54
 go_wp2_with fail;refine HH.out.mono ?_;rintro e w1 ⟨rfl,hR⟩;go_wp2_with fail;go_ret
 exact⟨rfl,hR⟩
end Go.Proofs.YtdpniceapmikpaaGreat
namespace Go.Proofs.YtdpniceapmikpaaGreat
open Go.RowKit Go.Shelf
attribute [local go_sem] kM
def cC (w:World) (B:Nat) (v:Value) (ws:List aI):Prop:=ws.length≤1000000∧(∀y∈ws,y.b.length=512)∧∃a cap,v=.slice a ws.length cap∧∀i y,ws[i]? = some y→∃g,a=some ⟨g,0,none⟩∧g<B∧w.rangeAt g (i*513) y.cells
theorem cC.below {w w':World} {B B':Nat} {v:Value} {ws:List aI} (h:cC w B v ws) (hb:Below B' w w') (hB:B≤B'):cC w' B v ws:=by
 obtain⟨h0,h1,a,cap,e,h2⟩:=h;refine⟨h0,h1,a,cap,e,fun i y hi=>?_⟩;obtain⟨g,e2,hg,hr⟩:=h2 i y hi;exact⟨g,e2,hg,fun j u hj=>(hb.cell (p:=⟨g,i*513+j,none⟩) (by show g<B';omega)).trans (hr j u hj)⟩
theorem cC.more {w:World} {B B':Nat} {v:Value} {ws:List aI} (h:cC w B v ws) (hB:B≤B'):cC w B' v ws:=by
 obtain⟨h0,h1,a,cap,e,h2⟩:=h;refine⟨h0,h1,a,cap,e,fun i y hi=>?_⟩;obtain⟨g,e2,hg,hr⟩:=h2 i y hi;exact⟨g,e2,by omega,hr⟩
theorem qu:∀ (ws:List aI),(∀y∈ws,y.b.length=512)→∀ (i:Nat) (y:aI),ws[i]? = some y→∀j u,y.cells[j]? = some u→(aL ws)[i*513+j]? = some u
 | [],_,i,y,h,_,_,_=>by cases h
 | z::ws,hws,0,y,h,j,u,hj=>by
  obtain rfl:z=y:=by simpa using h
  show(z.cells++aL ws)[0*513+j]? = some u;rw[xb,cW,iC (zn.1 hj).1];exact hj
 | z::ws,hws,i+1,y,h,j,u,hj=>by
  have hz:=aI.len z (hws z pX);show(z.cells++aL ws)[(i+1)*513+j]? = some u;rw[gl (by omega),hz,show(i+1)*513+j-513=i*513+j by omega];exact qu ws (fun y hy=>hws y (ph _ hy)) i y (by simpa using h) j u hj
def ak.sound (x:ak):Prop:=(∀n,(x.lasts n).length=512)∧(∀y∈x.waits,y.b.length=512)∧x.waits.length≤1000000
theorem ak.ok.sound {x:ak} (hx:x.ok):x.sound:=⟨hx.2.2.1,hx.2.2.2.1,hx.2.2.2.2.2.2⟩
theorem aE.xq {w:World} {D:aX} {x:ak} (h:aE w D x) (hx:x.sound):cC w w.heap.size D.wv x.waits:=by
 refine⟨hx.2.2,hx.2.1,?_⟩;rcases h.waits.2 with ⟨e,h0⟩ | ⟨g,cap,cur,e,_,hg,h1,h2,h3,h4⟩
 ·have:x.waits=[]:=rO h0;rw[this];exact⟨none,0,e,fun i y hi=>by cases hi⟩
 ·refine⟨some ⟨g,0,none⟩,cap,e,fun i y hi=>⟨g,rfl,kQ hg,fun j u hj=>?_⟩⟩;have hc:=qu x.waits hx.2.1 i y hi j u hj;rw[mL w g _ cur _ _ hg,←rQ];rw[←h4,dU]at hc;split at hc
  ·exact hc
  ·cases hc
theorem sv:(Tryz.prog.info? 161).map (·.size)=some 513:=by kernel_rfl
theorem lU {F:Fence} {n:Nat} {P:Program} {o:Oper} {a:Act} {K:Act→World→Prop} {Q:Exit→Act→World→Prop} (w:World) (ty:TypeId) (x:Operand) (ho:o.op=.load ty x) (p v:Value) (hx:a.eval x=p)
 (hl:(Instr.loadAt ty p).run P w=.ok v w) (h:K (a.put o.dst v) w):o.wpIn F n P a w K Q:=by
 unfold Oper.wpIn;refine⟨by simp[Oper.about,ho],?_⟩;rw[Oper.semAt_plain F _ _ (by rw[ho];intro c hc';cases hc')];unfold execOp;simp only[ho,hx,hl,Sem.run_bind,Sem.run_pure,Result.andThen_ok];exact h
abbrev cg := {y:aI // y.b.length=512}
theorem CW:∀ (ws:List aI),(∀y∈ws,y.b.length=512)→∃l:List cg,ws=l.map (·.1)
 | [],_=>⟨[],rfl⟩
 | y::ws,h=>by
  obtain⟨l,e⟩:=CW ws (fun z hz=>h z (ph _ hz));exact⟨⟨y,h y pX⟩::l,dz (y :: ·) e⟩
def kZ (ws:List cg):List (cg×Nat):=ws.zipIdx.reverse
def vb (x:cg×Nat):Array Value:=#[.int .i64 x.2,.agg x.1.1.cells.toArray]
theorem Gs (ws:List cg):(kZ ws).length=ws.length:=by simp[kZ]
theorem VH (ws:List cg) (k:Nat) (hk:k<ws.length):(kZ ws)[ws.length-(k+1)]? = some (ws[k]'hk,k):=by
 unfold kZ;rw[List.getElem?_reverse (by simp;omega)];simp only[List.length_zipIdx];rw[show ws.length-1-(ws.length-(k+1))=k by omega,Iy];simp[hk]
theorem O8 (ws:List cg) (k:Nat) (hk:k<ws.length):(kZ ws).take (ws.length-k)=(kZ ws).take (ws.length-(k+1))++[(ws[k]'hk,k)]:=by
 rw[show ws.length-k=ws.length-(k+1)+1 by omega,gG,VH ws k hk];rfl
theorem VI (F:Fence) (n:Nat) (h7:F.fn 148) (hro:F.round=none) (hn:1≤n) (l Bs n₀:Nat) (v:Value) (ws:List cg) (J Jx:List (cg×Nat)→World→Prop)
 (hY:∀pre x W,J pre W→pre.length<ws.length→YieldAt F (n-1) Tryz.prog l (vb x) W fun e W' =>
  (e=.returned (.bool true)∧J (pre++[x]) W'∧Below n₀ W W')∨(e=.returned (.bool false)∧Jx (pre++[x]) W'))
 (W:World) (iy:W.cell? ⟨Bs,0,none⟩=some v) (sw:Bs<n₀) (hv:cC W n₀ v (ws.map (·.1))) (h0:J [] W) :
 CallsIn F n Tryz.prog 148 #[.func (.yield l) #[] #[],.pointer (some ⟨Bs,0,none⟩)] W fun e W'=>(∃v,e=.returned v) ∧
  ((∃ys,ys=kZ ws∧J ys W')∨(∃pre,pre <+: kZ ws∧Jx pre W')):=by
 obtain⟨hmax,hws,a,cap,ev,hc⟩:=hv;rw[cR]at hmax ev;subst ev;refine oP Tryz.func148 rfl h7 ?_ hro;simp only[Tryz.ntmps148,List.size_toArray,List.length_cons,List.length_nil,Nat.reduceAdd,Nat.reduceSub,Array.replicate_succ,Array.replicate_zero,List.push_toArray,List.append_toArray,List.nil_append,List.cons_append];have hsub:IntKind.i64.wrap ((ws.length:Int)-1)=(ws.length:Int)-1:=by rw[cz];omega
 gi_wp2
 gi_loopw [3] (fun i wr=>∃k:Nat,k≤ws.length∧i=.int .i64 ((k:Int)-1)∧J ((kZ ws).take (ws.length-k)) wr∧Below n₀ W wr)
  (fun i _=>((intOf i)+1).toNat)
 case atStart=>exact⟨ws.length,ai _,rfl,by rw[DO];exact h0,ax _ _⟩
 case round =>
  obtain⟨k,hk,rfl,hJs,hnx⟩:=hrel;have Ar:=(hnx.cell (p:=⟨Bs,0,none⟩) sw).trans iy;cases k with
  | zero =>
   rw[show ws.length-0=(kZ ws).length by rw[Gs];rfl,iG]at hJs;have hneg:¬ (0:Int)≤((0:Nat):Int)-1:=by omega
   gi_wp2
   go_end0
   exact⟨⟨_,rfl⟩,.inl hJs⟩
  | succ k =>
   have hlt:k<ws.length:=by omega
   obtain⟨g,rfl,hg,hrg⟩:=hc k (ws[k]'hlt).1 (by rw[dV,aY hlt];rfl);have e1:(((k+1:Nat):Int)-1)=(k:Int):=by omega
   rw[e1];have hpos:(0:Int)≤(k:Int):=by omega
   have hlt':(k:Int)<(ws.length:Int):=by omega
   have hsub2:IntKind.i64.wrap ((k:Int)-1)=(k:Int)-1:=by rw[cz];omega
   have hlen1:((kZ ws).take (ws.length-(k+1))).length<ws.length:=by rw[bD,Gs];omega
   obtain⟨fn,tmps,assign,body,hy,hR⟩:=hY _ (ws[k]'hlt,k) wr hJs hlen1;have hld:=sj (P:=Tryz.prog) wr g (k*513) 161 (ws[k]'hlt).1.cells _ (fun j u hj=>(hnx.cell (p:=⟨g,k*513+j,none⟩) hg).trans (hrg j u hj)) Dr rfl (by rw[aI.len _ (ws[k]'hlt).2];exact sv);have As:=O8 ws k hlt;generalize ws[k]'hlt=y at *;simp only[vb]at hy;gi_wp2_with (refine lU _ 161 _ rfl _ _ rfl hld ?_)
   refine hR.mono ?_;rintro e W3 (⟨rfl,hJ3,hk3⟩ | ⟨rfl,hJx3⟩)
   ·gi_wp2
    go_roundw
    case rel=>exact⟨k,by omega,rfl,by rw[As];exact hJ3,hnx.trans hk3⟩
    case measure=>simp[intOf]
   ·gi_wp2
    refine bc (oS rfl _ _ _) rfl ?_;exact⟨⟨_,rfl⟩,(.inr ⟨_,by rw[←As];exact zH _ _,hJx3⟩)⟩
theorem Z7 (F:Fence) (n:Nat) (h5:F.fn 126) (hro:F.round=none) (a:Option Addr) (len cap:Nat) (w:World) :
 CallsIn F n Tryz.prog 126 #[.slice a len cap] w fun e w'=>e=.returned (.func (.func 148) #[] #[.pointer (some ⟨w.heap.size,0,none⟩)])∧w'=w.alloc (.cells #[.slice a len cap] 149):=by
 refine oP Tryz.func126 rfl h5 ?_ hro;simp only[Tryz.ntmps126,List.size_toArray,List.length_cons,List.length_nil,Nat.reduceAdd,Nat.reduceSub,Array.replicate_succ,Array.replicate_zero,List.push_toArray,List.append_toArray,List.nil_append,List.cons_append];gi_wp2
 go_ret
 exact⟨rfl,rfl⟩
theorem O9 (F:Fence) (n:Nat) (h7:F.fn 148) (hro:F.round=none) (hn:1≤n) (Bs n₀:Nat) (v:Value) (ws:List cg) (w:World) (iy:Bs<w.heap.size) (sw:Bs<n₀) (hn₀:n₀≤w.heap.size)
 (hc:w.cell? ⟨Bs,0,none⟩=some v) (hv:cC w n₀ v (ws.map (·.1))) :
 SeqStopsK F n Tryz.prog 148 #[.pointer (some ⟨Bs,0,none⟩)] vb (Below n₀) (fun ys=>ys=kZ ws) (fun pre=>pre <+: kZ ws) ws.length w:=fun l J Jx W hW _ _ hY h0 =>
 VI F n h7 hro hn l Bs n₀ v ws J Jx hY W ((hW.cell (p:=⟨Bs,0,none⟩) iy).trans hc) sw (hv.below hW hn₀) h0
end Go.Proofs.YtdpniceapmikpaaGreat
namespace Go.Proofs.YtdpniceapmikpaaGreat
open Go.RowKit Go.Shelf
attribute [local go_sem] kM
def ak.reads (x:ak) (n:Int):List UInt8 :=
 match x.waits.reverse.find? (fun y=>y.n == n)with
 | some y=>y.b
 | none=>x.lasts n
theorem ak.dS (x:ak) (hx:x.sound) (n:Int):(x.reads n).length=512:=by
 unfold ak.reads;cases h:x.waits.reverse.find? (fun y=>y.n == n)with
 | some y=>exact hx.2.1 y (by simpa using List.mem_of_find?_eq_some h)
 | none=>exact hx.1 n
theorem Gt (ws:List cg):(kZ ws).map (·.1.1)=(ws.map (·.1)).reverse:=by
 unfold kZ;rw[List.map_reverse];congr 1
 rw[show(fun x:cg×Nat=>x.1.1)=Subtype.val∘Prod.fst from rfl,←tT];simp
theorem Ki (l:List (cg×Nat)) (q:Int) (h:∀y∈l,y.1.1.n≠q):(l.map (·.1.1)).find? (fun y=>y.n == q)=none:=by
 rw[Ds];intro y hy;obtain⟨z,hz,rfl⟩:=dI.1 hy;simpa using h z hz
theorem SN (ws:List cg) (q:Int) (pre:List (cg×Nat)) (y:cg×Nat) (hp:pre++[y] <+: kZ ws) (h:∀z∈pre,z.1.1.n≠q) (hy:y.1.1.n=q):(ws.map (·.1)).reverse.find? (fun y=>y.n == q)=some y.1.1:=by
 obtain⟨r,e⟩:=hp;rw[←Gt,←e,cK,cK,fS,List.find?_append,Ki pre q h];simp[hy]
theorem SO (ws:List cg) (q:Int) (h:∀z∈kZ ws,z.1.1.n≠q):(ws.map (·.1)).reverse.find? (fun y=>y.n == q)=none:=by
 rw[←Gt];exact Ki _ q h
theorem Ej {w:World} {D:aX} {x:ak} (h:aE w D x) (n:Int):(Instr.lookup 148 (.map (some D.lm)) (.int .i64 n) false).run Tryz.prog w=.ok (aV (x.lasts n)) w:=by
 have hz:(zeroValue 111).run Tryz.prog w=.ok (aV az) w:=by kernel_rfl
 obtain⟨l,hm,hl⟩:=h.lasts;rcases hl.2 n with ⟨v,h1,rfl⟩ | ⟨h1,h2⟩
 ·exact sY w zz ew D.lm l hm n _ h1 false
 ·rw[h2];exact qn w zz ew D.lm l hm n _ hz h1 false
theorem MN {P:Program} {ops:Array Oper} {S:World→Prop} {op:Oper} {a:Act} (hw:Region.wanted op (yielded ops a.tmps)=true) (t:TypeId) (m k:Operand) (ho:op.op=.lookup t m k false) (mv kv v:Value) (hm:a.eval m=mv) (hk:a.eval k=kv)
 (hS:∀w,S w→(Instr.lookup t mv kv false).run P w=.ok v w):YieldsIf P ops S op v a :=
 .inl ⟨hw,fun w hw'=>by
  unfold execOp;simp only[ho,hm,hk,Sem.run_bind,hS w hw',Sem.run_pure,Result.andThen_ok]⟩
theorem CX (x:aI):x.cells.toArray.all (·.oneCell')=true:=by
 rw[jf,cx];exact lu x
theorem k7 {l n:Nat} {P:Program} {ops:Array Oper} {rest:List Oper} {o:Oper} {a:Act} {w:World} {Q:Exit→Act→World→Prop} (hgd:o.guard=none) (hd:ot o=true) (ty:TypeId) (x y:Operand) (ho:o.op=.store ty x y)
 (g:Nat) (cells:Array Value) (hx:a.eval x=.pointer (some ⟨g,0,none⟩)) (hy:a.eval y=.agg cells)
 (t:TypeId) (old:Array Value) (hg:w.heap[g]? = some (.cells old t (0,0))) (hi:(P.info? ty).map (·.size)=some cells.size)
 (hold:old.size=cells.size) (h1:cells.all (·.oneCell')=true)
 (h:wpListIn (Fence.wide.inRound l) n P ops Q rest (a.put o.dst undef) (w.setRow g cells)):wpListIn (Fence.wide.inRound l) n P ops Q (o::rest) a w :=
 DE hgd fun _ hK=>xP hd (ez ty x y ho g cells hx hy t old hg hi hold h1 (hK _ _ h))
theorem Hv {B g:Nat} {W:World} {t:TypeId} {cs:Array Value} (h:ah W g t cs) (cs':Array Value):KeepsFrom B W (W.setRow g cs'):=by
 refine⟨by simp,fun k o _ hk hc=>?_⟩;by_cases e:k=g
 ·subst e;unfold ah at h;rw[h]at hk;cases hk
  cases hc
 ·exact(kO W g k cs' e).trans hk
theorem FU:Tryz.zeroCells161.size=513:=by kernel_rfl
theorem bE:Tryz.zeroCells111=(az.map aj).toArray:=by kernel_rfl
theorem VJ (n:Nat) (hn:3≤n) (D:aX) (x:ak) (q:Int) (w:World) (h:aE w D x) (hx:x.sound) :
 CallsIn Fence.wide n Tryz.prog 75 #[ptr D.p,.int .i64 q] w fun e w'=>e=.returned (aV (x.reads q))∧Below w.heap.size w w':=by
 have h1:1≤n:=by omega
 have hro:Fence.wide.round=none:=rfl;have c2:=h.blk.ag 2 rfl;have hlt:=h.blk.lt;obtain⟨hmax,hws,a,cap,ev,hcc⟩:=h.xq hx;obtain⟨ws,Gu⟩:=CW x.waits hws;have hV:cC w w.heap.size D.wv (ws.map (·.1)):=by rw[←Gu];exact h.xq hx
 have el:x.waits.length=ws.length:=by rw[Gu,cR]
 rw[el]at ev;rw[ev]at c2 hV;have EW:=ae Gu;have amg:ws.length≤1000000:=by omega
 have HV:=ae hV;have HH:=ae h;unfold ptr at *;clear h hV hcc Gu el hmax hws;refine zx Tryz.func75 rfl trivial ?_ hro;simp only[Tryz.ntmps75,List.size_toArray,List.length_cons,List.length_nil,Nat.reduceAdd,Nat.reduceSub,Array.replicate_succ,Array.replicate_zero,List.push_toArray,List.append_toArray,List.nil_append,List.cons_append];refine fV.2 ?_;go_wp2_with fail;refine(mr.1 (Z7 Fence.wide 5 trivial rfl _ _ _ _)).mono ?_;rintro e w2 ⟨rfl,rfl⟩;go_wp2_with fail;obtain⟨W0,a_⟩:∃W0,W0=((w.alloc (Obj.cells #[Value.int IntKind.i64 q] 3)).alloc (Obj.cells Tryz.zeroCells111 111)).alloc (Obj.cells #[Value.slice a ws.length cap] 149):=⟨_,rfl⟩;rw[←a_];have hb0:Below w.heap.size w W0:=by rw[a_];exact(((ax _ w).alloc (ai _) _).alloc (by simp) _).alloc (by simp;omega) _
 have oH:ah W0 w.heap.size 3 #[.int .i64 q]:=by rw[a_];exact((ah.new w _ _).alloc _).alloc _
 have hK1:ah W0 (w.heap.size+1) 111 (az.map aj).toArray:=by rw[a_,←bE];exact(ah.new2 w _ _ _).alloc _
 have hK2:W0.cell? ⟨w.heap.size+1+1,0,none⟩=some (.slice a ws.length cap):=by rw[a_];exact(ah.new' (by simp)).ag 0 rfl
 have hs0:W0.heap.size=w.heap.size+3:=by rw[a_];simp
 clear a_;have XX:=HV.out.below hb0 (ai _);refine(fV (n:=n)).1 ?_;refine wpIn_rangeFunc_ownH hro h1 (gf:=148) (lb:=#[.pointer (some ⟨w.heap.size+1+1,0,none⟩)]) rfl trivial (enters_of Tryz.func148 (by kernel_rfl) rfl)
  (O9 Fence.wide (n-1) trivial rfl (by omega) (w.heap.size+1+1) (w.heap.size+3) (.slice a ws.length cap) ws _ (by omega) (by omega) (by omega) hK2 (XX.more (by omega))) belowK_t (belowK_b (by omega)) (ax _ _) (fun _=>rfl)
  (fun pre W=>((∀y∈pre,y.1.1.n≠q)∧ah W w.heap.size 3 #[.int .i64 q]∧ah W (w.heap.size+1) 111 (az.map aj).toArray)∧Below w.heap.size W0 W)
  (fun c pre W=>(c=.ret∧(∃O_ y,pre=O_++[y]∧(∀y∈O_,y.1.1.n≠q)∧y.1.1.n=q∧ah W (w.heap.size+1) 111 (y.1.1.b.map aj).toArray))∧Below w.heap.size W0 W)
  (OwnFrom.and (fun s A B row hs hg hr=>⟨hs.1,hs.2.1.own hg (fun r e=>(hr r e).2),hs.2.2.own hg (fun r e=>(hr r e).2)⟩) (ownFrom_below (by omega) (by omega)))
  (fun c=>OwnFrom.and (fun s A B row hs hg hr=>⟨hs.1,by obtain⟨p0,y,e,h1,h2,h3⟩:=hs.2;exact⟨p0,y,e,h1,h2,h3.own hg (fun r e=>(hr r e).2)⟩⟩) (ownFrom_below (by omega) (by omega)))
  ⟨⟨by simp,oH,hK1⟩,ax _ _⟩
  (fun y a' W=>∃g,a' = {tmps:=#[.pointer (some ⟨D.p,0,none⟩),.int .i64 q,undef,.pointer (some ⟨w.heap.size,0,none⟩),.pointer (some ⟨w.heap.size+1,0,none⟩),undef,.pointer (some ⟨g,0,none⟩),.pointer (some ⟨D.p,0,none⟩),.pointer (some ⟨D.p,0,none⟩),.pointer (some ⟨D.p,2,none⟩),.slice a ws.length cap,
   .func (.func 148) #[] #[.pointer (some ⟨w.heap.size+1+1,0,none⟩)],.int .i64 y.2,.agg y.1.1.cells.toArray,undef,undef,undef,undef,undef,undef,undef,undef,undef,undef,undef,undef],defers:=[]}∧w.heap.size+3≤g∧ah W g 161 y.1.1.cells.toArray)
  (fun y a'=>(fun s A B row hs hg hr=>by obtain⟨g,e,hgg,hb⟩:=hs;exact⟨g,e,hgg,hb.own hg (fun r e=>(hr r e).2)⟩)) ?assign ?body ?done ?stop
 case assign =>
  intro l pre y W K hI hK;have Kj:(#[12,13].zip (vb y)).foldl (fun t (p:Nat×Value)=>t.setIfInBounds p.1 p.2) #[.pointer (some ⟨D.p,0,none⟩),.int .i64 q,undef,.pointer (some ⟨w.heap.size,0,none⟩),.pointer (some ⟨w.heap.size+1,0,none⟩),undef,undef,.pointer (some ⟨D.p,0,none⟩),.pointer (some ⟨D.p,0,none⟩),.pointer (some ⟨D.p,2,none⟩),.slice a ws.length cap,
   .func (.func 148) #[] #[.pointer (some ⟨w.heap.size+1+1,0,none⟩)],undef,undef,undef,undef,undef,undef,undef,undef,undef,undef,undef,undef,undef,undef]=#[.pointer (some ⟨D.p,0,none⟩),.int .i64 q,undef,.pointer (some ⟨w.heap.size,0,none⟩),.pointer (some ⟨w.heap.size+1,0,none⟩),undef,undef,.pointer (some ⟨D.p,0,none⟩),.pointer (some ⟨D.p,0,none⟩),.pointer (some ⟨D.p,2,none⟩),.slice a ws.length cap,
   .func (.func 148) #[] #[.pointer (some ⟨w.heap.size+1+1,0,none⟩)],.int .i64 y.2,.agg y.1.1.cells.toArray,undef,undef,undef,undef,undef,undef,undef,undef,undef,undef,undef,undef]:=by kernel_rfl
  dsimp only;rw[Kj];clear Kj;gi_wp2_with (refine k7 rfl rfl 161 _ _ rfl W.heap.size y.1.1.cells.toArray rfl rfl 161 Tryz.zeroCells161 (bC W _) (by rw[b',aI.len _ y.1.2];exact sv) (by rw[FU,b',aI.len _ y.1.2]) (CX y.1.1) ?_;rw[di])
  have hsz:=hI.2.size;exact hK _ _ ((KeepsOthers.alloc W _).from _) ((ax _ W).alloc (by omega) _) ⟨⟨hI.1.1,hI.1.2.1.alloc _,hI.1.2.2.alloc _⟩,hI.2.alloc (by omega) _⟩ ⟨_,rfl,by omega,ah.new W _ _⟩
 case body =>
  rintro l pre y a' W hl hr ⟨⟨hI,hQ,hT⟩,hB⟩ ⟨g,rfl,hg,hG⟩ hlen;have cG:W.cell? ⟨g,0,none⟩=some (.int .i64 y.1.1.n):=hG.ag 0 rfl;have cQ:=hQ.ag 0 rfl;obtain⟨t,ht⟩:∃t:Int,y.1.1.n=t:=⟨_,rfl⟩;rw[ht]at cG;have HT:=ae ht;clear ht;cases hh:(t == q)
  ·have hne:t≠q:=by simpa using hh
   gi_wp2
   refine⟨KeepsFrom.refl _ _,ax _ _,⟨fun z hz=>?_,hQ,hT⟩,hB⟩;rcases mq.1 hz with hz | hz
   ·exact hI z hz
   ·rw[mZ.1 hz,HT.out];exact hne
  ·have he:t=q:=by simpa using hh
   have hlb:=y.1.2;have hone:(y.1.1.b.map aj).toArray.all (·.oneCell')=true:=by
    rw[jf,cx];exact iV _
   have hsz:(Tryz.prog.info? 111).map (·.size)=some (y.1.1.b.map aj).length:=by rw[cR,hlb];exact fQ
   have hld:=sj (P:=Tryz.prog) W g 1 111 (y.1.1.b.map aj) _ (fun j u hj=>hG.ag (1+j) (by rw[jd,tS];exact hj)) dj rfl hsz;have HL:=ae hlb;clear hlb;gi_wp2_with (first
    | (refine lU _ 111 _ rfl _ _ rfl hld ?_)
    | (refine k7 rfl rfl 111 _ _ rfl (w.heap.size+1) (y.1.1.b.map aj).toArray rfl rfl 111 (az.map aj).toArray hT (by rw[b'];exact hsz) (by rw[b',b',cR,cR,HL.out];exact et) hone ?_))
   refine⟨Hv hT _,⟨rfl,pre,y,rfl,hI,by rw[HT.out];exact he,hT.row _⟩,aA hB _ (by omega)⟩
 case done =>
  rintro Dd ys W hD rfl ⟨⟨hI,hQ,hT⟩,hB⟩ hK;have hH:=HH.out.below (hb0.trans hB);have c1:=hH.blk.ag 1 rfl;have cQ:=hQ.ag 0 rfl;have hR:aV (x.reads q)=aV (x.lasts q):=by
   unfold ak.reads;rw[EW.out,SO ws q hI]
  have hlen:(x.lasts q).length=512:=hx.1 q;have hone:((x.lasts q).map aj).toArray.all (·.oneCell')=true:=by
   rw[jf,cx];exact iV _
  have hsz:(Tryz.prog.info? 111).map (·.size)=some ((x.lasts q).map aj).toArray.size:=by rw[b',cR,hlen];exact fQ
  have HL:=ae hH;have HS:=ae hsz;have HE:=ae hlen;have HR:=ae hR;have HF:=ae (And.intro ((lL (a:=⟨D.p,1,none⟩) (kO W.drew (w.heap.size+1) D.p ((x.lasts q).map aj).toArray (by omega))).trans c1) (And.intro ((lL (a:=⟨w.heap.size,0,none⟩) (kO W.drew (w.heap.size+1) w.heap.size ((x.lasts q).map aj).toArray (by omega))).trans cQ) (HH.out.below (aA (hb0.trans hB).drew ((x.lasts q).map aj).toArray (by omega:w.heap.size≤w.heap.size+1)))));have HB:=ae (aA (hb0.trans hB).drew ((x.lasts q).map aj).toArray (by omega:w.heap.size≤w.heap.size+1));have HT2:=ae (hT.drew.row ((x.lasts q).map aj).toArray);clear hH hsz hlen hR;go_upto_region 5 with fail;refine pY ?_;refine bF (S:=(fun w'=>w'.cell? ⟨D.p,1,none⟩=some (.map (some D.lm))∧w'.cell? ⟨w.heap.size,0,none⟩=some (.int .i64 q)∧aE w' D x)) (by kernel_rfl) (by(try dsimp only);(exact⟨c1,cQ,HL.out.drew⟩)) (fun hHeld=>?_);refine tk 0 ?_;refine tk 1 ?_;refine tk 2 ?_;refine tk 3 ?_;refine tk 4 ?_;refine ty 5 rfl (MN (by rfl) 148 _ _ rfl (.map (some D.lm)) (.int .i64 q) _ rfl rfl (fun w' h=>Ej h.2.2 q)) ?_;refine fU (rs:=[6]) (by kernel_rfl) (by simp) ?_;refine ca rfl (fun K hK2=>?_) fT;rw[aB (by rfl)];refine ez 111 _ _ rfl (w.heap.size+1) ((x.lasts q).map aj).toArray rfl rfl 111 (az.map aj).toArray hT HS.out (by rw[b',b',cR,cR,HE.out];exact et) hone ?_;refine hK2.out _ _ HF.out (fun hHeld=>?_);clear hK2 K;refine aT ?_;refine nz ?_;go_wp2_with fail;rw[HR.out];refine⟨by simp,.inl ⟨_,_,rfl,m' ((kO W.drew (w.heap.size+1) Dd _ (by omega)).trans hK),?_⟩⟩;exact⟨_,mo Tryz.results75 _ _ (w.heap.size+1) 111 ((x.lasts q).map aj).toArray (0,0) _ rfl ((iD (by omega)).trans HT2.out) dj rfl (by rw[b',cR,HE.out];exact fQ),rfl,
   (HB.out).trans (belowK_b (w:=w) (ai _) _ Dd _ _ (by omega) ((kO W.drew (w.heap.size+1) Dd _ (by omega)).trans hK) rfl rfl)⟩
 case stop =>
  rintro Dd c pre W Gv hSp ⟨⟨rfl,O_,y,rfl,hI,hy,hT⟩,hB⟩ hK;have hR:aV (x.reads q)=aV y.1.1.b:=by
   unfold ak.reads;rw[EW.out,SN ws q O_ y hSp hI hy]
  have HR:=ae hR;clear hR;refine fV.2 ?_;go_wp2_with fail;rw[HR.out];refine⟨by simp,.inl ⟨_,_,rfl,m' hK,?_⟩⟩;exact⟨_,mo Tryz.results75 _ _ (w.heap.size+1) 111 (y.1.1.b.map aj).toArray (0,0) _ rfl ((iD (by omega)).trans hT) dj rfl (by rw[b',cR,y.1.2];exact fQ),rfl,
   (hb0.trans hB).trans (belowK_b (w:=w) (ai _) _ Dd _ _ (by omega) hK rfl rfl)⟩
theorem Gw (D:aX) (x:ak) (q:Int) (w:World) (h:aE w D x) (hx:x.sound) :
 Calls Tryz.prog 75 #[ptr D.p,.int .i64 q] w fun e w'=>e=.returned (aV (x.reads q))∧Below w.heap.size w w' :=
 mr.1 (VJ 5 (by omega) D x q w h hx)
end Go.Proofs.YtdpniceapmikpaaGreat
namespace Go.Proofs.YtdpniceapmikpaaGreat
open Go.RowKit
def ak.after (x:ak) (n:Int):ak:=if n<0∨x.size≤n then x else x.stepped
def ak.read (x:ak) (n:Int):List UInt8:=if x.err n=0 then x.reads n else az
theorem bq (b:List UInt8):(b.map aj).toArray.all (·.oneCell')=true:=by
 rw[jf,cx];exact iV b
theorem aO (b:List UInt8) (hb:b.length=512):(Tryz.prog.info? 111).map (·.size)=some (b.map aj).toArray.size:=by rw[b',cR,hb];exact fQ
theorem bT (b c:List UInt8) (hb:b.length=512) (hc:c.length=512):(b.map aj).toArray.size=(c.map aj).toArray.size:=by rw[b',b',cR,cR,hb,hc]
theorem bL {w:World} {F:Nat→Prop} {g:Nat} (cs:Array Value) (hg:F g):Out F w (w.setRow g cs) :=
 ⟨rfl,rfl,rfl,by simp,fun j _ hn=>kO w g j cs (fun e=>hn (by rw[e];exact hg))⟩
theorem VK (D:aX) (x:ak) (gd gn go:Nat) (q:Int) (b0:List UInt8) (hb0:b0.length=512) (w:World) (h:aE w D x) (hx:x.sound)
 (cd:w.cell? ⟨gd,0,none⟩=some (ptr D.p)) (cn:w.cell? ⟨gn,0,none⟩=some (.int .i64 q)) (bo:ah w go 111 (b0.map aj).toArray) :
 Calls Tryz.prog 147 #[.pointer (some ⟨gd,0,none⟩),.pointer (some ⟨gn,0,none⟩),.pointer (some ⟨go,0,none⟩)] w fun e w' =>
 e=.returned (.tuple #[])∧ah w' go 111 ((x.reads q).map aj).toArray∧Out (fun i=>i=go) w w':=by
 have HR:=ae (Gw D x q w h hx);have hl:=x.dS hx q;have hone:=bq (x.reads q);have hsz:=aO _ hl;have hse:=bT _ _ hb0 hl;have HB:=ae bo;unfold ptr aV at *;clear h hx bo;generalize x.reads q=b at *;go_enter Tryz.func147,Tryz.ntmps147
 go_wp2_with fail;refine HR.out.mono ?_;rintro e w1 ⟨rfl,hb⟩;have hB1:=HB.out.below hb HB.out.lt;go_wp2_with (refine aQ rfl 111 _ _ rfl go (b.map aj).toArray rfl rfl 111 _ hB1 hsz hse hone ?_)
 exact jE (v:=.tuple #[]) (by simp[results,Tryz.results147,go_sem]) rfl ⟨rfl,hB1.row _,Out.trans (F:=fun i=>i=go) (G:=fun i=>i=go) (aN hb) (bL _ rfl) (fun _ _ h=>h)⟩
theorem Gx (D:aX) (x:ak) (n:Int) (w:World) (h:aE w D x) (hx:x.ok) :
 Calls Tryz.prog 118 #[ptr D.p,.int .i64 n] w fun e w'=>e=.returned (.tuple #[aV (x.read n),.int .i64 (x.err n)])∧aE w' D (x.after n)∧DStep D D w w':=by
 obtain⟨W,eW⟩:∃W,W=(((w.alloc (Obj.cells #[Value.pointer (some {block:=D.p,off:=0})] 37)).alloc (Obj.cells #[Value.int IntKind.i64 n] 3)).alloc (Obj.cells Tryz.zeroCells111 111)).alloc (Obj.cells Tryz.zeroCells111 111):=⟨_,rfl⟩;have hbW:Below w.heap.size w W:=by rw[eW];exact((((ax _ w).alloc (ai _) _).alloc (by simp) _).alloc (by simp;omega) _).alloc (by simp;omega) _
 have hWs:W.heap.size=w.heap.size+4:=by rw[eW];simp
 have n3:¬D.has (w.heap.size+1+1+1):=rm h (by omega) (w':=w);have n2:¬D.has (w.heap.size+1+1):=rm h (by omega) (w':=w);have b2:ah W (w.heap.size+1+1) 111 (az.map aj).toArray:=by rw[eW,←bE];exact(ah.new' (by simp)).alloc _
 have b3:ah W (w.heap.size+1+1+1) 111 (az.map aj).toArray:=by rw[eW,←bE];exact ah.new' (by simp)
 have hl0:az.length=512:=et;have HC:Calls Tryz.prog 83 #[.pointer (some {block:=D.p,off:=0}),.int .i64 n,.func (.func 147) #[] #[.pointer (some ⟨w.heap.size,0,none⟩),.pointer (some ⟨w.heap.size+1,0,none⟩),.pointer (some ⟨w.heap.size+1+1+1,0,none⟩)]] W
  fun e w'=>e=.returned (.int .i64 (x.err n))∧aE w' D (x.after n)∧Out (fun i=>D.has i∨i=w.heap.size+1+1+1) W w'∧ah w' (w.heap.size+1+1+1) 111 ((x.read n).map aj).toArray:=by
  have hW:=h.below hbW;unfold ak.read ak.after;by_cases h1:n<0∨x.size≤n
  ·have he:x.err n=4:=by unfold ak.err;rw[aB h1]
   rw[he,aB h1,aG (by omega)];refine(Cf D x n _ W hW hx h1).mono ?_;rintro e w1 ⟨rfl,rfl⟩;exact⟨rfl,hW,Out.refl _ _,b3⟩
  ·have h2:0≤n∧n<x.size:=by omega
   by_cases h3:x.steps∈x.fails
   ·have he:x.err n=120:=by unfold ak.err;rw[aG h1,aB h3]
    rw[he,aG h1,aG (by omega)];refine(Cg D x n _ W hW hx h2 h3).mono ?_;rintro e w1 ⟨rfl,ha,hs⟩;exact⟨rfl,ha,⟨hs.out.os,hs.out.tape,hs.out.output,hs.out.size,fun i hi hn=>hs.out.block i hi (fun hd=>hn (.inl hd))⟩,hs.out.blk b3 n3⟩
   ·have he:x.err n=0:=by unfold ak.err;rw[aG h1,aG h3]
    rw[he,aG h1,aB rfl];have n0:¬D.has w.heap.size:=rm h (ai _) (w':=w);have n1:¬D.has (w.heap.size+1):=rm h (by omega) (w':=w);have b0:ah W w.heap.size 37 #[.pointer (some ⟨D.p,0,none⟩)]:=by rw[eW];exact(((ah.new w _ _).alloc _).alloc _).alloc _
    have b1:ah W (w.heap.size+1) 3 #[.int .i64 n]:=by rw[eW];exact((ah.new2 w _ _ _).alloc _).alloc _
    clear eW;refine Kh _ (rV Tryz.func147 rfl rfl) _ _ _ (fun w'=>aE w' D x.stepped∧Out (fun i=>D.has i∨i=w.heap.size+1+1+1) W w'∧ah w' (w.heap.size+1+1+1) 111 ((x.reads n).map aj).toArray) D x n W hW hx h2 h3 ?_;intro w1 ha hs;refine(VK D x.stepped _ _ _ n az hl0 w1 ha hx.sound ((hs.out.blk b0 n0).ag 0 rfl) ((hs.out.blk b1 n1).ag 0 rfl) (hs.out.blk b3 n3)).mono ?_;rintro e w2 ⟨rfl,hb2,ho2⟩;exact⟨rfl,ha.out ho2 (fun i hi e=>n3 (e▸hi)),⟨ho2.os.trans hs.out.os,ho2.tape.trans hs.out.tape,ho2.output.trans hs.out.output,jF hs.out.size ho2.size,
     fun i hi hn=>(ho2.block i (by have:=hs.out.size;omega) (fun e=>hn (.inr e))).trans (hs.out.block i hi (fun e=>hn (.inl e)))⟩,hb2⟩
 have HH:=ae HC;have HX:=ae (show(x.read n).length=512 by unfold ak.read;split;exact x.dS hx.sound n;exact hl0);have O':=ae (h.has_lt);have fC:=ae hbW;have HB2:=ae b2;have NK:=ae hWs;clear HC hbW h b2 b3 hWs;generalize hE:x.err n=er at *;generalize hRd:x.read n=rd at *;generalize x.after n=xa at *;clear hE hRd;have HW2:=HB2;unfold ptr aV at *;go_enter Tryz.func118,Tryz.ntmps118
 go_wp2_with fail;rw[←eW];refine HH.out.mono ?_;rintro e w1 ⟨rfl,ha,ho,hb⟩;have k2:=ho.blk HB2.out (fun hd=>hd.elim n2 (by omega));go_wp2_with (first
  | (refine bt rfl 111 _ rfl (w.heap.size+1+1+1) rfl 111 (rd.map aj).toArray (0,0) _ hb dj rfl (aO _ HX.out) ?_)
  | (refine aQ rfl 111 _ _ rfl (w.heap.size+1+1) (rd.map aj).toArray rfl rfl 111 _ k2 (aO _ HX.out) (bT _ _ hl0 HX.out) (bq _) ?_))
 refine bc (dm Tryz.results118 _ _ (w.heap.size+1+1) 111 (rd.map aj).toArray (0,0) _ rfl (k2.row _) dj rfl (aO _ HX.out) _ rfl) rfl ?_;have ho2:=Out.trans (F:=fun i=>(D.has i∨i=w.heap.size+1+1+1)∨i=w.heap.size+1+1) (G:=fun i=>i=w.heap.size+1+1) (⟨ho.os,ho.tape,ho.output,ho.size,fun i hi hn=>ho.block i hi (fun hd=>hn (.inl hd))⟩:Out _ W w1) (bL (rd.map aj).toArray rfl) (fun _ _=>.inr);refine⟨rfl,ha.out (F:=fun i=>i=w.heap.size+1+1) (bL _ rfl) (fun i hi e=>n2 (e▸hi)),⟨?_,rfl,fun i hi=>.inl hi⟩⟩;have hb:=fC.out;have hs:=NK.out;exact⟨ho2.os.trans hb.os,ho2.tape.trans hb.tape,ho2.output.trans hb.output,jF hb.size ho2.size,fun i hi hn=>(ho2.block i (by omega) (fun hd=>by rcases hd with (hd | hd) | hd<;>first | exact hn hd | omega)).trans (hb.block i hi)⟩
end Go.Proofs.YtdpniceapmikpaaGreat
namespace Go.Proofs.YtdpniceapmikpaaGreat
open Go.RowKit Go.Shelf
attribute [local go_sem] kM
structure fy (S:Nat→Prop) (W W':World):Prop where
 size:W.heap.size≤W'.heap.size
 block:∀i,S i→i<W.heap.size→W'.heap[i]? = W.heap[i]?
theorem fy.refl (S:Nat→Prop) (W:World):fy S W W:=⟨ai _,fun _ _ _=>rfl⟩
theorem fy.trans {S:Nat→Prop} {A B C:World} (h:fy S A B) (k:fy S B C):fy S A C:=⟨jF h.size k.size,fun i hi hl=>(k.block i hi (by have:=h.size;omega)).trans (h.block i hi hl)⟩
theorem VL {S:Nat→Prop} {A B C:World} (h:fy S A B) (k:fy S B C):fy S A C:=h.trans k
theorem VM {S:Nat→Prop} {w:World} (hS:∀i,S i→i<w.heap.size) (W:World) (l:Nat) (o o':Obj) (hl:w.heap.size≤l) (_:W.heap[l]? = some o) (_:o.isCells=false) (_:o.isWalk=false):fy S W (W.putObj l o') :=
 ⟨by simp,fun i hi _=>iD (by have:=hS i hi;omega)⟩
theorem fy.alloc (S:Nat→Prop) (W:World) (o:Obj):fy S W (W.alloc o):=⟨by simp,fun i _ hl=>si W o i hl⟩
theorem fy.of {S:Nat→Prop} {B:Nat} {W W':World} (h:Below B W W') (hS:∀i,S i→i<B):fy S W W':=⟨h.size,fun i hi _=>h.block i (hS i hi)⟩
theorem fy.cell {S:Nat→Prop} {W W':World} (h:fy S W W') {g i:Nat} (hg:S g) (hl:g<W.heap.size):W'.cell? ⟨g,i,none⟩=W.cell? ⟨g,i,none⟩:=lL (a:=⟨g,i,none⟩) (h.block g hg hl)
theorem Hw {F:Fence} {n:Nat} {P:Program} {o:Oper} {a:Act} {K:Act→World→Prop} {Q:Exit→Act→World→Prop} (w w':World) (ty:TypeId) (x y:Operand) (ho:o.op=.store ty x y) (p v:Value) (hx:a.eval x=p) (hy:a.eval y=v)
 (hl:(Instr.storeAt ty p v).run P w=.ok () w') (h:K (a.put o.dst undef) w'):o.wpIn F n P a w K Q:=by
 unfold Oper.wpIn;refine⟨by simp[Oper.about,ho],?_⟩;rw[Oper.semAt_plain F _ _ (by rw[ho];intro c hc';cases hc')];unfold execOp;simp only[ho,hx,hy,hl,Sem.run_bind,Sem.run_pure,Result.andThen_ok];exact h
theorem Ek {P:Program} (w:World) (g:Nat) (t ty:TypeId) (old cells:Array Value) (hg:w.heap[g]? = some (.cells old t (0,0))) (hi:(P.info? ty).map (·.size)=some cells.size) (ho:old.size=cells.size) (h1:cells.all (·.oneCell')=true) :
 (Instr.storeAt ty (.pointer (some ⟨g,0,none⟩)) (.agg cells)).run P w=.ok () (w.setRow g cells):=by
 simp only[Instr.storeAt,Instr.sureAddr,Sem.run_bind,Sem.run_pure,Result.andThen_ok,run_storeVar_row w g t ty old cells hg hi ho h1]
def vw (y:cg):Array Value:=#[.agg y.1.cells.toArray]
theorem Gy (y:cg):(Tryz.prog.info? 161).map (·.size)=some y.1.cells.toArray.size:=by rw[b',aI.len _ y.2];exact sv
theorem Z8 (n:Nat) (hn:1≤n) (l Bs:Nat) (S:Nat→Prop) (D:aX) (x:ak) (ws:List cg) (hws:x.waits=ws.map (·.1)) (J Jx:List cg→World→Prop)
 (hA:∀pre W o,J pre W→J pre (W.alloc o))
 (hY:∀pre y W,J pre W→pre.length<ws.length→YieldAt Fence.wide (n-1) Tryz.prog l (vw y) W fun e W' =>
  (e=.returned (.bool true)∧J (pre++[y]) W'∧fy S W W')∨(e=.returned (.bool false)∧Jx (pre++[y]) W'))
 (W:World) (iy:W.cell? ⟨Bs,0,none⟩=some (ptr D.p)) (hD:aE W D x) (hx:x.ok) (hS:∀g,D.wv.ownBlock=some g→S g) (h0:J [] W) :
 CallsIn Fence.wide n Tryz.prog 128 #[.func (.yield l) #[] #[],.pointer (some ⟨Bs,0,none⟩)] W fun e W'=>(∃v,e=.returned v) ∧
  ((∃ys,ys=ws∧J ys W')∨(∃pre,pre <+: ws∧Jx pre W')):=by
 have hro:Fence.wide.round=none:=rfl;have hN:=nF D x W hD hx;have c2:=hD.blk.ag 2 rfl;obtain⟨hmax,VN,a,cap,ev,hc⟩:=hD.xq hx.sound;have el:x.waits.length=ws.length:=by rw[hws,cR]
 rw[el]at ev hmax;rw[hws]at hc;rw[ev]at c2 hS;have HS:=ae hS;have EV:=ae ev;unfold ptr at *;clear hD hx hws VN el ev hS;refine oP Tryz.func128 rfl trivial ?_ hro;simp only[Tryz.ntmps128,List.size_toArray,List.length_cons,List.length_nil,Nat.reduceAdd,Nat.reduceSub,Array.replicate_succ,Array.replicate_zero,List.push_toArray,List.append_toArray,List.nil_append,List.cons_append];gi_wp2
 refine⟨trivial,(mr.2 hN).mono ?_⟩;rintro e w' ⟨rfl,rfl⟩;gi_wp2
 gi_loopw [12] (fun i wr=>∃k:Nat,k≤ws.length∧i=.int .i64 (k:Int)∧J (ws.take k) wr∧fy S W wr)
  (fun i _=>ws.length-(intOf i).toNat)
 case atStart=>exact⟨0,fi _,rfl,h0,fy.refl _ _⟩
 case round =>
  obtain⟨k,hk,rfl,hJs,hnx⟩:=hrel;by_cases hlt:k<ws.length
  ·obtain⟨g,rfl,hg,hrg⟩:=hc k (ws[k]'hlt).1 (by rw[dV,aY hlt];rfl);have hSg:S g:=HS.out g rfl;have hlt':(k:Int)<(ws.length:Int):=by omega
   have hlen1:(ws.take k).length<ws.length:=by rw[bD];omega
   have As:ws.take (k+1)=ws.take k++[ws[k]'hlt]:=by rw[gG,aY hlt];rfl
   generalize ws[k]'hlt=y at *;obtain⟨fn,tmps,assign,body,hy,hR⟩:=hY _ y _ (hA _ wr (.cells y.1.cells.toArray 161) hJs) hlen1;have hld:=sj (P:=Tryz.prog) wr g (k*513) 161 y.1.cells _ (fun j u hj=>(hnx.cell hSg hg).trans (hrg j u hj)) Dr rfl (by rw[aI.len _ y.2];exact sv);have hst:=Ek (P:=Tryz.prog) _ wr.heap.size 161 161 Tryz.zeroCells161 y.1.cells.toArray (bC wr _) (Gy y) (by rw[FU,b',aI.len _ y.2]) (CX y.1);rw[di]at hst;have ahK:=sj (P:=Tryz.prog) _ wr.heap.size 0 161 y.1.cells _ (fun j u hj=>(ah.new wr 161 y.1.cells.toArray).ag (0+j) (by rw[jd,cW];exact hj)) Dr rfl (by rw[aI.len _ y.2];exact sv);simp only[vw]at hy;gi_wp2_with (first
    | (refine lU _ 161 _ rfl _ _ rfl hld ?_)
    | (refine DE rfl fun _ hK=>Hw _ _ 161 _ _ rfl _ _ rfl rfl hst (hK _ _ ?_))
    | (refine lU _ 161 _ rfl _ _ rfl ahK ?_))
   refine hR.mono ?_;rintro e W3 (⟨rfl,hJ3,hk3⟩ | ⟨rfl,hJx3⟩)
   ·gi_wp2
    go_roundw
    case rel=>exact⟨k+1,by omega,by simp,by rw[As];exact hJ3,(hnx.trans (fy.alloc _ _ _)).trans hk3⟩
    case measure=>simp[intOf];omega
   ·gi_wp2
    refine bc (oS rfl _ _ _) rfl ?_;exact⟨⟨_,rfl⟩,.inr ⟨_,by rw[←As];exact zH _ _,hJx3⟩⟩
  ·obtain rfl:k=ws.length:=by omega
   rw[iG]at hJs;gi_wp2
   go_end0
   exact⟨⟨_,rfl⟩,.inl ⟨_,rfl,hJs⟩⟩
theorem all_in (n:Nat) (g:Nat) (w:World) :
 CallsIn Fence.wide n Tryz.prog 85 #[ptr g] w fun e w'=>e=.returned (.func (.func 128) #[] #[.pointer (some ⟨w.heap.size,0,none⟩)])∧w'=w.alloc (.cells #[ptr g] 37):=by
 have hro:Fence.wide.round=none:=rfl;unfold ptr;refine oP Tryz.func85 rfl trivial ?_ hro;simp only[Tryz.ntmps85,List.size_toArray,List.length_cons,List.length_nil,Nat.reduceAdd,Nat.reduceSub,Array.replicate_succ,Array.replicate_zero,List.push_toArray,List.append_toArray,List.nil_append,List.cons_append];gi_wp2
 go_ret
 exact⟨rfl,rfl⟩
theorem all_stops (n:Nat) (hn:1≤n) (Bs:Nat) (S:Nat→Prop) (D:aX) (x:ak) (ws:List cg) (hws:x.waits=ws.map (·.1)) (w:World) (iy:Bs<w.heap.size) (hc:w.cell? ⟨Bs,0,none⟩=some (ptr D.p)) (hD:aE w D x) (hx:x.ok) (hS:∀g,D.wv.ownBlock=some g→S g) :
 SeqStopsK Fence.wide n Tryz.prog 128 #[.pointer (some ⟨Bs,0,none⟩)] vw (fy S) (fun ys=>ys=ws) (fun pre=>pre <+: ws) ws.length w:=fun l J Jx W hW hJ _ hY h0 =>
 Z8 n hn l Bs S D x ws hws J Jx (fun pre W' o h=>hJ pre W' _ none h (IC _ _ _) (fun r e=>by cases e)) hY W ((hW.cell (p:=⟨Bs,0,none⟩) iy).trans hc) (hD.below hW) hx hS h0
end Go.Proofs.YtdpniceapmikpaaGreat
