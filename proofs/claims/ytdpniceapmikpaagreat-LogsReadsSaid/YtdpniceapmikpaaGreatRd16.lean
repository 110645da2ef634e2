/-
  The reference's Disk.Spoil, whatever
-/
import Derived.Test.YtdpniceapmikpaaGreatRd11
import Derived.Test.YtdpniceapmikpaaGreatRd15
import Derived.Test.YtdpniceapmikpaaGreatRd4
import Derived.Maps.RangeWalk
import Derived.Test.YtdpniceapmikpaaGreatRd3
import Derived.Shelf.SlicesE.Clone
import Derived.Deep.Onto
import Derived.Test.YtdpniceapmikpaaGreatRd6
import Derived.Test.YtdpniceapmikpaaGreatRd10
set_option linter.unusedVariables false
set_option linter.unusedSimpArgs false
set_option maxRecDepth 100000
set_option maxHeartbeats 32000000
namespace Go.Proofs.YtdpniceapmikpaaGreat
open Go.RowKit
theorem U1 {W:World} {B n:Nat} {e:TypeId} {v:Value} {l:List aI} (hn:n=l.length) (h:W.ownsRow B e 513 v n (aL l)) (hl:∀y∈l,y.b.length=512) (h6:l.length≤1000000):cC W W.heap.size v l:=by
 subst hn;refine⟨h6,hl,?_⟩;rcases h.2 with ⟨e,h0⟩ | ⟨g,cap,cur,e,_,hg,h1,h2,h3,h4⟩
 ·have:l=[]:=rO h0;rw[this];exact⟨none,0,e,fun i y hi=>by cases hi⟩
 ·refine⟨some ⟨g,0,none⟩,cap,e,fun i y hi=>⟨g,rfl,kQ hg,fun j u hj=>?_⟩⟩;have hc:=qu l hl i y hi j u hj;rw[mL W g _ cur _ _ hg,←rQ];rw[←h4,dU]at hc;split at hc
  ·exact hc
  ·cases hc
structure Zs (w W4 W6:World) (x:ak) (N o:Nat) (c:UInt8) (g cap2:Nat) (v5:Value) (n:Nat) (LF:List UInt8) (fv:Value) (m B k:Nat) (W:World):Prop where
 k6:ah W w.heap.size 40 #[.slice (some ⟨g,0,none⟩) n cap2,v5,.int .i64 x.steps,fv]
 k16:ah W (w.heap.size+1) 40 aM
 below:Below w.heap.size w W
 lasts:W.ownsRow B 5 1 (.slice (some ⟨g,0,none⟩) n cap2) n (LF.map aj)
 row:W.ownsRow W4.heap.size 154 513 v5 m (aL (x.dX N o c k).waits)
 size:W6.heap.size≤W.heap.size
theorem QW (x:ak) (n q:Int) (c:UInt8) (lv wv fv:Value) (w:World) (h:bu w w.heap.size lv wv fv x) (hx:x.ok) :
 Calls Tryz.prog 80 #[.agg #[lv,wv,.int .i64 x.steps,fv],.int .i64 n,.int .i64 q,aj c] w fun e w'=>Below w.heap.size w w' ∧
  ((x.pf n q=true∧∃n_ wv',e=.returned (.tuple #[.agg #[n_,wv',.int .i64 x.steps,fv],.int .i64 0])∧bu w' w'.heap.size n_ wv' fv (x.ov n q.toNat c)∧(∀g,n_.ownBlock=some g→w.heap.size≤g∧g<w'.heap.size)∧∀g,wv'.ownBlock=some g→w.heap.size≤g∧g<w'.heap.size) ∨
   (x.pf n q=false∧e=.returned (.tuple #[.agg #[lv,wv,.int .i64 x.steps,fv],.int .i64 4]))):=by
 have Fc:=ae (h.one x.steps);have jw:=ae (fun W hh=>oB x lv wv fv x.steps W hh hx);have HR:=ae h;obtain⟨W,eW⟩:∃W,W=(w.alloc (.cells #[lv,wv,.int .i64 x.steps,fv] 40)).alloc (.cells aM 40):=⟨_,rfl⟩;have b0:Below w.heap.size w W:=by rw[eW];exact((ax _ w).alloc (ai _) _).alloc (by simp) _
 have k0:ah W w.heap.size 40 #[lv,wv,.int .i64 x.steps,fv]:=by rw[eW];exact(ah.new w _ _).alloc _
 have k1:ah W (w.heap.size+1) 40 aM:=by rw[eW];exact ah.new' (by simp)
 have HB0:=ae b0;have HRW:=ae ((HR.out.below b0 (ai _)).mono b0.size);obtain⟨sp,Hn⟩:∃s,s=x.pf n q:=⟨_,rfl⟩;rw[←Hn];have HSP:=ae Hn;unfold ak.pf at Hn;clear h b0;go_enter Tryz.func80,Tryz.ntmps80
 go_upto_region 1 with fail;rw[←eW];clear eW;have Zt:∀ (W2:World) (tmps:Array Value),ah W2 (w.heap.size+1) 40 aM→tmps.getD 8 undef=.pointer (some ⟨w.heap.size+1,0,none⟩)→tmps.getD 9 undef=.int .i64 4 →
  (results Tryz.f80 tmps).run Tryz.prog (W2.setRow (w.heap.size+1) #[lv,wv,.int .i64 x.steps,fv])=.ok (.tuple #[.agg #[lv,wv,.int .i64 x.steps,fv],.int .i64 4]) (W2.setRow (w.heap.size+1) #[lv,wv,.int .i64 x.steps,fv]):=by
  intro W2 tmps h1 t8 t9;exact bn Tryz.results80 _ _ _ _ _ t8 (bB (h1.row _)) t9
 have D4:=ae Zt;clear Zt;by_cases hneg:n<0
 ·have HF:=ae (show sp=false by rw[Hn];exact cB (by omega));go_wp2_with (first
   | (refine bt rfl 40 _ rfl w.heap.size rfl 40 #[lv,wv,.int .i64 x.steps,fv] (0,0) _ k0 bV rfl (au _ _ _ _) ?_)
   | (refine aQ rfl 40 _ _ rfl (w.heap.size+1) #[lv,wv,.int .i64 x.steps,fv] rfl rfl 40 aM k1 (au _ _ _ _) rfl Fc.out ?_))
  exact bc (D4.out W _ k1 (by rfl) (by rfl)) rfl ⟨aA HB0.out _ (by omega),.inr ⟨HF.out,rfl⟩⟩
 ·go_wp2_with (refine aS rfl 40 _ rfl w.heap.size 0 rfl #[lv,wv,.int .i64 x.steps,fv] (bB k0) ?_)
  refine(jw.out W HRW.out).mono ?_;rintro e w1 ⟨rfl,hb1⟩;have j0:=k0.below hb1 k0.lt;have j1:=k1.below hb1 k1.lt;have HB1:=ae (HB0.out.trans (hb1.mono HB0.out.size));have HR1:=ae ((HR.out.below HB1.out (ai _)).mono HB1.out.size);clear hb1 k0 k1 HRW HB0;by_cases hbad:x.size≤n∨q<0∨512≤q
  ·have HF:=ae (show sp=false by rw[Hn];exact cB (by omega));have hs:x.size≤n∨(¬x.size≤n∧q<0)∨(¬x.size≤n∧¬q<0∧512≤q):=by omega
   clear hbad Hn;rcases hs with hs | ⟨h1,hs⟩ | ⟨h1,h2,hs⟩ <;>
   ·go_wp2_with (first
     | (refine bt rfl 40 _ rfl w.heap.size rfl 40 #[lv,wv,.int .i64 x.steps,fv] (0,0) _ j0 bV rfl (au _ _ _ _) ?_)
     | (refine aQ rfl 40 _ _ rfl (w.heap.size+1) #[lv,wv,.int .i64 x.steps,fv] rfl rfl 40 aM j1 (au _ _ _ _) rfl Fc.out ?_))
    exact bc (D4.out w1 _ j1 (by rfl) (by rfl)) rfl ⟨aA HB1.out _ (by omega),.inr ⟨HF.out,rfl⟩⟩
  ·have h1:¬x.size≤n:=by omega
   have h2:¬q<0:=by omega
   have h3:¬512≤q:=by omega
   have HT:=ae (show sp=true by rw[Hn];exact cT (by omega));clear hbad Hn D4;obtain⟨N,rfl⟩:=zp (show 0≤n by omega);obtain⟨o,rfl⟩:=zp (show 0≤q by omega);have hNs:(N:Int)<x.size:=by omega
   have ho:o<512:=by omega
   obtain⟨hl1,al,cl,elv,hl2⟩:=HR1.out.lasts;have hfl:=sD hx;have hm:=hx.2.1;have h0:=hx.1;have HLen:=ae hfl;have CG:=ae HR1.out.lasts;obtain⟨L,eL⟩:∃l,fe x=l:=⟨_,rfl⟩;have Bq:=ae elv;rw[eL]at CG HLen Bq;clear elv;have HEL:=ae eL;clear eL hl2 hl1 hfl;have c0:=j0.ag 0 rfl;have jx:=ae j0.lt;have J0:=ae j0;have J1:=ae j1;have HSz:=ae (show x.size≤4096 from hm);go_upto_region 3 with fail;have k0:=j0.alloc (.cells #[] 5);have hbX:Below w1.heap.size w1 (w1.alloc (.cells #[] 5)):=(ax _ w1).alloc (ai _) _;have hown:(w1.alloc (.cells #[] 5)).ownsRow w1.heap.size 5 1 (.slice (some ⟨w1.heap.size,0,none⟩) 0 0) 0 []:=⟨rfl,.inr ⟨_,0,#[],rfl,ai _,bC w1 _,ai _,by simp,rfl,rfl⟩⟩;have HXB:=ae (show BytesIn (w1.alloc (.cells #[] 5)) w1.heap.size (.slice al L.length cl) L by have:=CG.out.below hbX (ai _);rwa [Bq.out]at this);have LY:=ae (show L.length≤2097152 by have:=HLen.out;omega);have cA:=k0.ag 0 rfl;go_wp2_with (at_builtin;refine oX (w1.alloc (.cells #[] 5)) rfl _ _ rfl w1.heap.size w1.heap.size 0 _ [] rfl hown al L.length cl L Bq.out rfl HXB.out (by have:=LY.out;omega) (by simp) ?_;intro v2 w2 hO2 hg2 hn2;rw[cW,nx]at hO2;obtain⟨a2,cap2,rfl⟩:=slice_form hO2;have k2:=(hg2.block _ k0.lt (fun e=>absurd (gH e) (xc jx.out))).trans k0;have c2:=ah.ag k2 0 rfl;have f2:=ah.frozen k2 0)
   have hB2:Below w1.heap.size w1 w2:=hbX.grown hg2 hbX.size (fun r hr=>by cases hr;exact ai _);have ij:=ae hO2;clear hn2;obtain⟨g,rfl,hgB,hgL⟩:∃g,a2=some ⟨g,0,none⟩∧w1.heap.size≤g∧g<w2.heap.size:=by
    rcases hO2.2 with ⟨h0,hn0⟩ | ⟨g2,cap',cur,h0,hBg,hg,_⟩
    ·have:=HLen.out;have hh:L.length=0:=hn0;omega
    ·cases h0;exact⟨g2,rfl,hBg,ah.lt (t:=5) (cs:=cur) hg⟩
   have Zu:w.heap.size<g:=kK jx.out hgB;obtain⟨W3,mP⟩:∃W,W=w2.setCell ⟨w.heap.size,0,none⟩ (.slice (some ⟨g,0,none⟩) L.length cap2):=⟨_,rfl⟩;have k3:ah W3 w.heap.size 40 #[.slice (some ⟨g,0,none⟩) L.length cap2,wv,.int .i64 x.steps,fv]:=by rw[mP];exact ah.br (w:=w2) (t:=40) (cs:=#[lv,wv,.int .i64 x.steps,fv]) k2 0 _
   have ho3:Out (fun i=>i=w.heap.size) w2 W3:=by rw[mP];exact bk rfl
   have o3:=aq ho3 hO2 (fun i hi e=>by cases hi;exact absurd e (lO Zu));have HY:=ae (show L[512*N+o]? = some ((x.lasts N).getD o 0)by rw[←HEL.out,C2 hx N o hNs ho,aY (by rw[hx.2.2.1];exact ho),wj,aY (by rw[hx.2.2.1];exact ho)];rfl);obtain⟨y,ey⟩:∃y,y=(x.lasts N).getD o 0:=⟨_,rfl⟩;rw[←ey]at HY;have HEY:=ae ey;clear ey;have hiL:((512*N+o:Nat):Int)<(L.length:Int):=by have:=HLen.out;omega
   obtain⟨I,eI⟩:∃I,I=512*N+o:=⟨_,rfl⟩;have hmul:IntKind.i64.wrap (512*(N:Int))=512*N:=by rw[cz];omega
   have hadd:IntKind.i64.wrap (512*(N:Int)+o)=(I:Int):=by rw[cz];omega
   rw[←eI]at HY hiL;have cI:W3.cell? ⟨g,I,none⟩=some (aj y):=by
    have:=o3.cells rfl I _ (show(L.map aj)[I]? = some (aj y)by rw[dV,HY.out];rfl);rwa [eP,cW]at this
   have c0':=k3.ag 0 rfl;have fI:=ow o3 I;have ub:=ae o3;have HB3:=ae hB2;have K3:=ae k3;have HOU:=ae ho3;have HEI:=ae eI;have K13:=ae (HOU.out.blk (J1.out.below HB3.out J1.out.lt) (by omega));rw[←mP];clear mP hO2 o3 hB2 k3 ho3 k2 c2 f2 eI hg2 hown k0 cA c0 hbX;have hB4:Below w.heap.size w W3:=(HB1.out.trans (HB3.out.mono HB1.out.size)).trans (HOU.out.below (by have:=HB1.out.size;have:=HB3.out.size;omega) (fun i hi e=>by omega));have iz:=ae hB4;have cId:W3.drew.cell? ⟨g,I,none⟩=some (.int .u8 (y.toNat:Int)):=cI;have fId:W3.drew.frozen? ⟨g,I,none⟩=false:=fI;clear hB4 cI fI;refine bF (S:=(fun w'=>w'.cell? ⟨w.heap.size,0,none⟩=some (.slice (some ⟨g,0,none⟩) L.length cap2))) (by kernel_rfl) (by(try dsimp only);exact c0') (fun hHeld=>?_);refine tk 0 ?_;refine tk 1 ?_;refine tk 2 ?_;refine tk 3 ?_;refine tk 4 ?_;refine tk 5 ?_;refine tk 6 ?_;refine tk 7 ?_;refine tk 8 ?_;refine tk 9 ?_;refine tk 10 ?_;refine tk 11 ?_;refine tk 12 ?_;refine tk 14 ?_;refine rd 13 fun K hK=>?_;try rw[aB (by rfl)]
   go_simp;refine hK.out _ _ (by(try dsimp only);exact c0') (fun hHeld=>?_);clear hK K;refine tk 15 ?_;refine tk 16 ?_;refine rd 17 fun K hK=>?_;try rw[aB (by rfl)]
   go_simp;obtain⟨W4,U2⟩:∃W,W=(W3.setCell ⟨g,I,none⟩ (.int .u8 (bits .xor .u8 (y.toNat:Int) (c.toNat:Int)))).drew:=⟨_,rfl⟩;have o4:W4.ownsRow w1.heap.size 5 1 (.slice (some ⟨g,0,none⟩) L.length cap2) L.length ((L.set I (y ^^^ c)).map aj):=by
    have h1:=rW ub.out I (.int .u8 (bits .xor .u8 (y.toNat:Int) (c.toNat:Int))) (by rw[cR];omega);have h2:=aq (F:=fun _=>False) (aN (ax _ (W3.setCell ⟨g,I,none⟩ (.int .u8 (bits .xor .u8 (y.toNat:Int) (c.toNat:Int))))).drew) h1 (fun _ _=>id);rw[U2,zY];rwa [El]at h2 ⊢
   have k4:ah W4 w.heap.size 40 #[.slice (some ⟨g,0,none⟩) L.length cap2,wv,.int .i64 x.steps,fv]:=by rw[U2];exact(ah.far K3.out (p:=⟨g,I,none⟩) (fun e=>absurd e (xc Zu)) _).drew
   have mm:Out (fun i=>i=g) W3 W4:=by rw[U2];exact Out.trans (F:=fun i=>i=g) (G:=fun i=>i=g) (bk (F:=fun i=>i=g) rfl) (aN (ax _ _).drew) (fun _ _ h=>h)
   have hB4:Below w.heap.size w W4:=iz.out.trans (mm.below iz.out.size (fun i hi e=>by omega));clear iz;have iz:=ae hB4;have Zv:=ae (mm.blk K13.out (fun e=>by have:=J1.out.lt;omega));have yO:=ae o4;have c04:=k4.ag 0 rfl;rw[←U2];clear U2 hB4 o4 cId fId;refine hK.out _ _ (by(try dsimp only);exact c04) (fun hHeld=>?_);clear hK K;refine aT ?_;obtain⟨i5,z5,GD⟩:=yh;have HTT:=ae GD;obtain⟨m,em⟩:∃m,m=x.waits.length:=⟨_,rfl⟩;have hm6:m≤1000000:=by rw[em];exact hx.2.2.2.2.2.2
   have N0:=ae ((HR.out.waits.below iz.out (ai _)).more iz.out.size);obtain⟨_,_,aw,cw,ewv,_⟩:=N0.out;rw[←em]at ewv;have HWV:=ae ewv;have HWJ:=ae (show cC (W4.alloc (.cells #[] 154)) W4.heap.size (.slice aw m cw) x.waits by
    have:=N0.out.below ((ax _ W4).alloc (ai _) (.cells #[] 154)) (ai _);rwa [HWV.out]at this)
   have HM:=ae em;clear ewv GD em;have k5:=k4.alloc (.cells #[] 154);have hown5:(W4.alloc (.cells #[] 154)).ownsRow W4.heap.size 154 513 (.slice (some ⟨W4.heap.size,0,none⟩) 0 0) 0 []:=⟨rfl,.inr ⟨_,0,#[],rfl,ai _,bC W4 _,ai _,by simp,rfl,rfl⟩⟩;have XG:=ae k4.lt;have c15:=k5.ag 1 rfl;go_wp2_with (at_builtin;refine kP rfl fun K' hK'=>?_;refine nk HTT.out (W4.alloc (.cells #[] 154)) _ _ rfl W4.heap.size W4.heap.size 0 _ [] rfl hown5 aw m cw x.waits HWV.out HM.out.symm HWJ.out (by decide) (by simp) ?_;intro v5 w5 pL hg5;rw[cW,nx]at pL;obtain⟨a5,cap5,rfl⟩:=slice_form pL;refine hK' _ _ ?_;have k6:=(hg5.block _ k5.lt (fun e=>absurd (gH e) (xc XG.out))).trans k5;have c6:=ah.ag k6 1 rfl;have f6:=ah.frozen k6 1)
   have Az:Below W4.heap.size W4 w5:=((ax _ W4).alloc (ai _) _).grown hg5 (by simp) (fun r hr=>by cases hr;exact ai _);obtain⟨W6,Fz⟩:∃W,W=w5.setCell ⟨w.heap.size,1,none⟩ (.slice a5 m cap5):=⟨_,rfl⟩;have k6':ah W6 w.heap.size 40 #[.slice (some ⟨g,0,none⟩) L.length cap2,.slice a5 m cap5,.int .i64 x.steps,fv]:=by rw[Fz];exact ah.br (w:=w5) (t:=40) (cs:=#[.slice (some ⟨g,0,none⟩) L.length cap2,wv,.int .i64 x.steps,fv]) k6 1 _
   have qy:Out (fun i=>i=w.heap.size) w5 W6:=by rw[Fz];exact bk rfl
   have hB6:Below w.heap.size w W6:=(iz.out.trans (Az.mono iz.out.size)).trans (qy.below (by have:=iz.out.size;have:=Az.size;omega) (fun i hi e=>by omega));have hg4:g<W4.heap.size:=gC yO.out rfl;have o6:=aq qy (aq (F:=fun _=>False) (aN Az) yO.out (fun _ _=>id)) (fun i hi e=>by cases hi;exact absurd e (lO Zu));have am9:w.heap.size<W4.heap.size:=XG.out;have p6:=aq qy pL (fun i hi e=>by have:=(na pL i hi).1;omega);have k16:=qy.blk (Zv.out.below Az Zv.out.lt) (by omega);obtain⟨_,_,_,efv,_⟩:=HR.out.fails;have HFV:=ae efv;clear efv;obtain⟨LF,eLF⟩:∃l,l=L.set I (y ^^^ c):=⟨_,rfl⟩;have HLF:=ae eLF;rw[←eLF]at o6;have HSP:=ae (show Zs w W4 W6 x N o c g cap2 (.slice a5 m cap5) L.length LF fv m w1.heap.size 0 W6 from⟨k6',k16,hB6,o6,by
    have e:(x.dX N o c 0).waits=x.waits:=by show(x.waits.take 0).map _++x.waits.drop 0=x.waits;simp
    rw[e];exact p6,ai _⟩)
   have HG4:=ae hg4;have hw7:w.heap.size+1<W6.heap.size:=k16.lt;have HX:=ae hx;rw[←Fz];clear Fz k6' qy hB6 o6 p6 k16 pL hg5 k6 c6 f6 Az k5 hown5 c15 k4 hg4 eLF hx;go_loopw [10] (fun i wr=>∃k:Nat,k≤m∧i=.int .i64 (k:Int)∧Hid (Zs w W4 W6 x N o c g cap2 (.slice a5 m cap5) L.length LF fv m w1.heap.size k wr)) (fun i _=>m-(intOf i).toNat)
   case atStart=>exact⟨0,fi _,rfl,HSP⟩
   case round =>
    obtain⟨k,hk,rfl,HI⟩:=hrel;clear HSP;have c61:=HI.out.k6.ag 1 rfl;by_cases hlt:k<m
    ·have hltx:k<x.waits.length:=by have:=HM.out;omega
     have Wp:(k:Int)<(m:Int):=by omega
     have HAt:=ae (At x N o c k hltx);have HNx:=ae (Ci x N o c k hltx);have hyb:=HX.out.2.2.2.1 _ (IJ hltx);generalize x.waits[k]'hltx=yk at *;obtain⟨g5,rfl⟩:∃g5,a5=some ⟨g5,0,none⟩:=by
      rcases HI.out.row.2 with ⟨h0,hn0⟩ | ⟨g5,cap',cur,h0,_⟩
      ·omega
      ·cases h0;exact⟨g5,rfl⟩
     have hA:((x.waits.take k).map (fY N o c)).length=k:=by simp;omega
     have Eo:∀z∈(x.waits.take k).map (fY N o c),z.b.length=512:=fun z hz=>by obtain⟨z',hz',rfl⟩:=dI.1 hz;exact sx N o c z' (HX.out.2.2.2.1 z' (zu hz'))
     have cellAt:∀j u,yk.cells[j]? = some u→wr.cell? ⟨g5,k*513+j,none⟩=some u:=fun j u hj=>by
      have h1:=HI.out.row.cells rfl (k*513+j) u (by
       rw[HAt.out,pC,gl (by rw[kH _ Eo,hA];omega),kH _ Eo,hA,show k*513+j-k*513=j by omega];show(yk.cells++aL (x.waits.drop (k+1)))[j]? = _;rw[iC (by rcases bZ j yk.cells.length with h | h;exact h;rw[dh h]at hj;cases hj)];exact hj)
      rwa [eP,cW]at h1
     have HCA:=ae cellAt;have cn:wr.cell? ⟨g5,k*513,none⟩=some (.int .i64 yk.n):=cellAt 0 _ rfl;have HHA:=ae (And.intro hA Eo);clear cellAt hA Eo;obtain⟨tn,etn⟩:∃q,yk.n=q:=⟨_,rfl⟩;rw[etn]at cn;have SR:=ae etn;clear etn;cases hh:(tn == (N:Int))
     ·have XH:=ae (show Zs w W4 W6 x N o c g cap2 (.slice (some ⟨g5,0,none⟩) m cap5) L.length LF fv m w1.heap.size (k+1) wr from by
       have e:x.dX N o c (k+1)=x.dX N o c k:=GA x N o c _ _ (by
        rw[HNx.out,HAt.out];unfold fY;rw[SR.out,aG (by simpa using hh)])
       have h:=HI.out;exact⟨h.k6,h.k16,h.below,h.lasts,by rw[e];exact h.row,h.size⟩)
      go_wp2_with fail;exact⟨⟨k+1,by omega,by simp,XH⟩,by simp[intOf];omega⟩
     ·have htn:tn=(N:Int):=by simpa using hh
      have cb:=HCA.out (1+o) (aj (yk.b.getD o 0)) (by rw[tS];show(yk.b.map aj)[o]? = _;rw[dV,NL _ o c (by omega)];rfl);rw[←nA]at cb;have fb:=ow HI.out.row (k*513+1+o);have GC:o<yk.b.length:=by omega
      obtain⟨yb,eyb⟩:∃q,q=yk.b.getD o 0:=⟨_,rfl⟩;rw[←eyb]at cb;have HYB:=ae eyb;clear eyb;have XH:=ae (show Zs w W4 W6 x N o c g cap2 (.slice (some ⟨g5,0,none⟩) m cap5) L.length LF fv m w1.heap.size (k+1) (wr.drew.setCell ⟨g5,k*513+1+o,none⟩ (.int .u8 (bits .xor .u8 (yb.toNat:Int) (c.toNat:Int))))from by
       have h:=HI.out;obtain⟨hA,Eo⟩:=HHA.out;have hcells:(fY N o c yk).cells=yk.cells.set (1+o) (.int .u8 (bits .xor .u8 (yb.toNat:Int) (c.toNat:Int))):=by
        unfold fY;rw[aB (SR.out.trans htn),El,HYB.out];show(Value.int .i64 yk.n::(gJ yk.b o c).map aj)=(Value.int .i64 yk.n::yk.b.map aj).set (1+o) _;rw[x6,tS,R7]
       have ai3:g5≠w.heap.size:=fun e=>by have:=(na h.row g5 rfl).1;omega
       have ai4:g5≠w.heap.size+1:=fun e=>by have h3:=(na h.row g5 rfl).1;have:=Zv.out.lt;omega
       have hneg:g5≠g:=fun e=>by have:=(na h.row g5 rfl).1;have:=HG4.out;omega
       have hd:Out (fun i=>i=g5) wr (wr.drew.setCell ⟨g5,k*513+1+o,none⟩ (.int .u8 (bits .xor .u8 (yb.toNat:Int) (c.toNat:Int)))):=(aN (ax _ _).drew:Out (fun i=>i=g5) wr wr.drew).trans (bk (F:=fun i=>i=g5) rfl) (fun _ _ h=>h);have hrow:wr.drew.ownsRow W4.heap.size 154 513 (.slice (some ⟨g5,0,none⟩) m cap5) m (aL (x.dX N o c k).waits):=aq (F:=fun _=>False) (aN (ax _ _).drew) h.row (fun _ _ h=>h);refine⟨hd.blk h.k6 (fun e=>ai3 e.symm),hd.blk h.k16 (fun e=>ai4 e.symm),h.below.trans (hd.below h.below.size (fun i hi e=>by have:=(na h.row g5 rfl).1;omega)),aq hd h.lasts (fun i hi e=>by cases hi;exact hneg e.symm),?_,by have:=hd.size;have:=h.size;omega⟩;have hl:(aL (x.dX N o c k).waits).length=x.waits.length*513:=by rw[kH _ (uh x HX.out.sound N o c k).2.1,k9]
       have h9:=rW hrow (k*513+1+o) (.int .u8 (bits .xor .u8 (yb.toNat:Int) (c.toNat:Int))) (by rw[hl];omega);have e9:(aL (x.dX N o c k).waits).set (k*513+1+o) (.int .u8 (bits .xor .u8 (yb.toNat:Int) (c.toNat:Int)))=aL (x.dX N o c (k+1)).waits:=by
        rw[HAt.out,HNx.out,←yR _ _ Eo yk (fY N o c yk) (1+o) _ (by rw[aI.len yk hyb];omega) hcells,hA,nA]
       rw[e9]at h9;exact h9)
      have K6:=ae HI.out.k6;clear hyb;go_upto_region 10 with fail;have cbd:wr.drew.cell? ⟨g5,k*513+1+o,none⟩=some (aj yb):=cb;have fbd:wr.drew.frozen? ⟨g5,k*513+1+o,none⟩=false:=fb;have hn6:¬w.heap.size=g5:=fun e=>by have:=(na HI.out.row g5 rfl).1;have:=XG.out;omega
      have y_:=ae cbd;clear cb fb cbd;refine jb (fun X=>Out (fun i=>i=g5) wr X) (fun X=>X.cell? ⟨g5,k*513+1+o,none⟩=some (aj yb)) 17 (aN (ax _ _).drew) y_.out fun hHeld hJ=>?_;refine jk false 0 ?_;refine jk false 1 ?_ (hy:=by intro X hX _;have hc:=(hX.blk K6.out hn6).ag 1 rfl;go_simp;try with_reducible rfl);refine jk false 2 ?_;refine jk false 3 ?_;refine jk false 4 ?_;refine jk false 5 ?_ (hy:=by intro X hX _;have hc:=(hX.blk K6.out hn6).ag 1 rfl;go_simp;try with_reducible rfl);refine jk false 6 ?_;refine jk false 7 ?_;refine jk false 8 ?_;refine jk false 9 ?_;refine jk false 10 ?_;refine jk true 11 ?_ (hy:=by intro X hX pM;have hc:=pM rfl;go_simp;try with_reducible rfl);refine jk false 12 ?_;refine jk false 13 ?_;refine jk false 14 ?_;refine jk false 15 ?_;refine jk false 16 ?_;refine jr 17 fun K hK=>?_;have cbd:=y_.out;go_simp;refine hK.out _ _ ⟨hHeld.trans (bk (F:=fun i=>i=g5) rfl) (fun _ _ h=>h),fun h=>absurd h (by decide)⟩ ?_;clear hK K;refine qY ?_;go_wp2_with fail;go_roundw
      case rel=>exact⟨k+1,by omega,by simp,XH⟩
      case measure=>simp[intOf];omega
    ·obtain rfl:k=m:=by omega
     have HK6:=ae HI.out.k6;have adK:=ae HI.out.k16;have Ok:=ae HI.out.below;have HO6:=ae HI.out.lasts;have HR6:=ae HI.out.row;have HS6:=ae HI.out.size;clear HI;go_wp2_with (first
      | (refine bt rfl 40 _ rfl w.heap.size rfl 40 #[.slice (some ⟨g,0,none⟩) L.length cap2,.slice a5 k cap5,.int .i64 x.steps,fv] (0,0) _ HK6.out bV rfl (au _ _ _ _) ?_)
      | (refine aQ rfl 40 _ _ rfl (w.heap.size+1) #[.slice (some ⟨g,0,none⟩) L.length cap2,.slice a5 k cap5,.int .i64 x.steps,fv] rfl rfl 40 aM adK.out (au _ _ _ _) rfl (by rw[HFV.out];simp[Value.oneCell']) ?_))
     have Lt:Out (fun i=>i=w.heap.size+1) wr (wr.setRow (w.heap.size+1) #[.slice (some ⟨g,0,none⟩) L.length cap2,.slice a5 k cap5,.int .i64 x.steps,fv]):=bL _ rfl;have hB7:=aA Ok.out #[.slice (some ⟨g,0,none⟩) L.length cap2,.slice a5 k cap5,.int .i64 x.steps,fv] (g:=w.heap.size+1) (by omega);have hg1:w.heap.size+1<g:=kK J1.out.lt hgB;have o7:=aq Lt HO6.out (fun i hi e=>by cases hi;exact absurd e (lO hg1));have am_:w.heap.size+1<W4.heap.size:=Zv.out.lt;have p7:=aq Lt HR6.out (fun i hi e=>by have:=(na HR6.out i hi).1;omega);refine bc (bn Tryz.results80 _ _ _ _ _ (by rfl) (bB (adK.out.row _)) (by rfl)) rfl ⟨hB7,.inl ⟨HT.out,_,_,rfl,⟨?_,?_,(HR.out.fails.below hB7 (ai _)).mono hB7.size⟩,?_,?_⟩⟩
     ·rw[Du,UW HX.out N o hNs ho,HEL.out,←HEI.out,←HEY.out,←HLF.out];have hll:LF.length=L.length:=by rw[HLF.out,List.length_set]
      have o8:(wr.setRow (w.heap.size+1) #[.slice (some ⟨g,0,none⟩) L.length cap2,.slice a5 k cap5,.int .i64 x.steps,fv]).ownsRow w1.heap.size 5 1 (.slice (some ⟨g,0,none⟩) L.length cap2) L.length (LF.map aj):=o7;obtain⟨b1,a,cap,b2,b3,b4⟩:=BytesIn.own o8;refine⟨b1,a,cap,b2,b3,fun j c hc=>?_⟩;obtain⟨g',off,e',hg',hr⟩:=b4 j c hc;exact⟨g',off,e',gC o7 (by rw[b2,e'];rfl),hr⟩
     ·show cC _ _ _ (x.waits.map _);have e:(x.dX N o c k).waits=x.waits.map (fY N o c):=by rw[HM.out,Em];rfl
      rw[e]at p7;exact U1 (by rw[HM.out,cR]) p7 (fun z hz=>by obtain⟨z',hz',rfl⟩:=dI.1 hz;exact sx N o c z' (HX.out.2.2.2.1 z' hz')) (by rw[cR];omega)
     ·exact fun i hi=>by cases hi;exact⟨oT Zu,gC o7 rfl⟩
     ·exact fun i hi=>⟨by have:=(na p7 i hi).1;omega,gC p7 hi⟩
theorem XI (x:ak):adu x:=by
 intro n q c lv wv fv w h hx;refine(QW x n q c lv wv fv w h hx).mono ?_;unfold ak.sW ak.fN;rintro e w' ⟨hb,⟨hs,n_,wv',rfl,hR,h1,h2⟩ | ⟨hs,rfl⟩⟩
 ·exact⟨hb,n_,wv',by rw[aB hs],by rw[aB hs];exact hR,fun g hg=>.inr (h1 g hg),fun g hg=>.inr (h2 g hg)⟩
 ·exact⟨hb,lv,wv,by rw[hs];rfl,by rw[hs];exact(h.below hb (ai _)).mono hb.size,fun g hg=>.inl hg,fun g hg=>.inl hg⟩
abbrev QX:=Int×Value×Nat
def QY (kd:IntKind) (l:List QX):Array MapEntry:=(l.map fun x=>⟨.int kd x.1,x.2.1,x.2.2⟩).toArray
structure yF (w:World) (r:Nat) (kd:IntKind) (l:List QX) (c:Nat):Prop where
 block:w.heap[r]? = some (.map (QY kd l) c)
 once:(l.map (·.1)).Nodup
 born:∀x∈l,x.2.2<c
 Zw:(l.map (·.2.2)).Nodup
section
variable {w w':World} {r c:Nat} {kd:IntKind} {l:List QX}
theorem yF.lt (h:yF w r kd l c):r<w.heap.size:=by
 rcases bZ r w.heap.size with hlt | hge
 ·exact hlt
 ·have:=h.block;rw[lK hge]at this;cases this
theorem yF.new (w:World) (kd:IntKind):yF (w.alloc (.map #[] 0)) w.heap.size kd [] 0:=⟨bC w _,DH,fun x hx=>(by cases hx),DH⟩
theorem yF.same (h:yF w r kd l c) (hb:w'.heap[r]? = w.heap[r]?):yF w' r kd l c:=⟨hb.trans h.block,h.once,h.born,h.Zw⟩
variable {P:Program} {t k e:TypeId}
end
end Go.Proofs.YtdpniceapmikpaaGreat
namespace Go.Proofs.YtdpniceapmikpaaGreat
open Go.RowKit Go.ChangeMaps Go.MapKept
def wg (w:World) (m:Option Nat) (kd:IntKind) (L:List (Int×Value)):Prop:=(m=none∧L=[])∨∃ (b:Nat) (es:Array MapEntry) (clock:Nat),m=some b∧w.heap[b]? = some (.map es clock) ∧
 es.toList.map (fun x=>(x.key,x.val))=L.map (fun p=>(Value.int kd p.1,p.2))∧(es.toList.map (·.born)).Nodup∧∀x∈es.toList,x.born<clock
theorem yF.k {w:World} {r c:Nat} {kd:IntKind} {l:List QX} (h:yF w r kd l c):wg w (some r) kd (l.map fun x=>(x.1,x.2.1)):=by
 refine .inr ⟨r,_,_,rfl,h.block,?_,?_,?_⟩
 ·simp[QY,Function.comp_def]
 ·have:=h.Zw;simpa[QY,Function.comp_def]using this
 ·intro x hx;simp only[QY,List.mem_map]at hx;obtain⟨y,hy,rfl⟩:=hx;exact h.born y hy
theorem MapAt.k {w:World} {r:Nat} {kd:IntKind} {l:List (Int×Value)} (h:MapAt w r kd l):wg w (some r) kd l:=by
 have e1:(l.zipIdx.map fun x=>(x.1.1,x.1.2))=l:=by
  have:(l.zipIdx.map fun x=>(x.1.1,x.1.2))=l.zipIdx.map (·.1):=ID fun x _=>rfl
  rw[this,List.zipIdx_map_fst]
 refine .inr ⟨r,_,_,rfl,h,?_,?_,?_⟩
 ·have e3:l.map (fun p=>(Value.int kd p.1,p.2))=(l.zipIdx.map fun x=>(x.1.1,x.1.2)).map (fun p=>(Value.int kd p.1,p.2)):=by rw[e1]
  rw[e3,tT];simp[entriesOf,Function.comp_def]
 ·have e2:(entriesOf kd l).toList.map (·.born)=List.range' 0 l.length:=by
   rw[←List.zipIdx_map_snd 0 l];simp[entriesOf,Function.comp_def]
  rw[e2];exact List.nodup_range'
 ·intro x hx;simp only[entriesOf,List.mem_map]at hx;obtain⟨y,hy,rfl⟩:=hx;have:=List.snd_lt_of_mem_zipIdx hy;simpa using this
def ki (w:World) (r:Nat) (m:Option Nat) (kd:IntKind) (L:List (Int×Value)) (outs:List Int) (n:Nat):Prop :=
 (m=none∧L=[]∧n=0∧w.heap[r]? = some (.mapIter none 0 #[] 0)) ∨
 ∃ (b:Nat) (es:Array MapEntry) (clock since c0:Nat) (seen:Array Nat),m=some b∧w.heap[b]? = some (.map es clock)∧w.heap[r]? = some (.mapIter (some b) since seen c0) ∧
  es.toList.map (fun x=>(x.key,x.val))=L.map (fun p=>(Value.int kd p.1,p.2))∧(es.toList.map (·.born)).Nodup∧(∀x∈es.toList,x.born<since)∧since≤c0∧since≤clock ∧
  (∀x∈es.toList,seen.contains x.born=true→∃q∈outs,x.key=.int kd q)∧(leftOf es seen).size=n
def tG (w:World) (r:Nat):Nat :=
 match w.heap[r]? with
 | some (.mapIter (some b) _ seen _)=>(match w.heap[b]? with | some (.map es _)=>(leftOf es seen).size | _=>0)
 | _=>0
section
variable {w w':World} {r:Nat} {m:Option Nat} {kd:IntKind} {L:List (Int×Value)} {outs:List Int} {n:Nat}
theorem ki.left (h:ki w r m kd L outs n):tG w r=n:=by
 rcases h with ⟨_,_,rfl,hr⟩ | ⟨b,es,clock,since,c0,seen,_,hb,hr,_,_,_,_,_,_,hn⟩
 ·simp only[tG,hr]
 ·simp only[tG,hr,hb];exact hn
theorem ki.lt (h:ki w r m kd L outs n):r<w.heap.size:=by
 rcases h with ⟨_,_,_,hr⟩ | ⟨b,es,clock,since,c0,seen,_,hb,hr,_⟩
 ·exact(ee.1 hr).1
 ·exact(ee.1 hr).1
theorem ki.out (h:ki w r m kd L outs n) {F:Nat→Prop} (ho:Out F w w') (hF:¬F r) (hm:∀b,m=some b→¬F b):ki w' r m kd L outs n:=by
 have hl:=h.lt;rcases h with ⟨h1,h2,h3,hr⟩ | ⟨b,es,clock,since,c0,seen,e,hb,hr,rest⟩
 ·exact .inl ⟨h1,h2,h3,(ho.block r hl hF).trans hr⟩
 ·exact .inr ⟨b,es,clock,since,c0,seen,e,(ho.block b (ee.1 hb).1 (hm b e)).trans hb,(ho.block r hl hF).trans hr,rest⟩
variable {P:Program} {t k e:TypeId}
theorem Ny (hm:wg w m kd L) (ht:P.underlying t=some (.map k e)) :
 ∃w' n,(Instr.range t (.map m)).run P w=.ok (.pointer (some ⟨w.heap.size,0,none⟩)) w'∧ki w' w.heap.size m kd L [] n∧Below w.heap.size w w'∧w'.heap.size=w.heap.size+1:=by
 rcases hm with ⟨rfl,rfl⟩ | ⟨b,es,clock,rfl,hb,h1,h2,h3⟩
 ·exact⟨_,0,run_range_nilMap w t k e ht,.inl ⟨rfl,rfl,rfl,bC w _⟩,(ax _ w).alloc (ai _) _,by simp⟩
 ·refine⟨_,_,run_range_map w t k e b es clock ht hb,.inr ⟨b,es,clock,clock,clock,#[],rfl,(si w _ b (ee.1 hb).1).trans hb,bC w _,h1,h2,h3,ai _,ai _,fun x _ h=>by simp at h,rfl⟩,(ax _ w).alloc (ai _) _,by simp⟩
theorem QZ (h:ki w r m kd L outs n) (ty:TypeId) :
 ((∀p∈L,p.1∈outs)∧(Instr.next (.pointer (some ⟨r,0,none⟩)) false ty).run P w=.ok (.tuple #[.bool false]) w) ∨
 ∃p w' n',p∈L∧(Instr.next (.pointer (some ⟨r,0,none⟩)) false ty).run P w=.ok (.tuple #[.bool true,.int kd p.1,p.2]) w'∧ki w' r m kd L (p.1::outs) n'∧n'<n∧Out (fun i=>i=r) w w'∧w'.heap.size=w.heap.size ∧
  (Instr.entry (.pointer (some ⟨r,0,none⟩))).run P w'=.ok (.tuple #[.int kd p.1,p.2]) w':=by
 rcases h with ⟨rfl,rfl,rfl,hr⟩ | ⟨b,es,clock,since,c0,seen,rfl,hb,hr,hL,hnd,hold,hsc,hsk,hs,rfl⟩
 ·refine .inl ⟨fun p hp=>(by cases hp),?_⟩;simp only[Instr.next,getObj,Sem.run_bind,Sem.run,hr,Result.andThen];rfl
 ·rcases run_next_at (P:=P) w ty r b since c0 seen es clock hr hb hold hsc with ⟨h0,hrun⟩ | ⟨x,hx,w1,hal,hrun⟩
  ·refine .inl ⟨fun p hp=>?_,hrun⟩;have hpm:(Value.int kd p.1,p.2)∈es.toList.map (fun x=>(x.key,x.val)):=by rw[hL];exact dI.2 ⟨p,hp,rfl⟩
   obtain⟨y,hy,ey⟩:=dI.1 hpm;injection ey with e1 e2
   obtain⟨q,hq,e3⟩:=hs y hy (all_seen es seen h0 y hy);rw[e1]at e3;injection e3 with _ e4
   rw[e4];exact hq
  ·obtain⟨hem,hes⟩:=mem_left hx;have hxm:(x.key,x.val)∈L.map (fun p=>(Value.int kd p.1,p.2)):=by rw[←hL];exact dI.2 ⟨x,hem,rfl⟩
   obtain⟨p,hp,ep⟩:=dI.1 hxm;injection ep with e1 e2
   have hne:r≠b:=by
    intro e;rw[e,hb]at hr;cases hr
   have hr1:w1.heap[r]? = some (.mapIter (some b) since seen c0):=by rcases hal with rfl | rfl<;>exact hr
   have hb1:w1.heap[b]? = some (.map es clock):=by rcases hal with rfl | rfl<;>exact hb
   have hset:=heap_set (o':=.mapIter (some b) since (seen.push x.born) clock) hr1;have hb':(setBlock w1 r (.mapIter (some b) since (seen.push x.born) clock)).heap[b]? = some (.map es clock):=(hset.2 b (fun e1=>hne e1.symm)).trans hb1;refine .inr ⟨p,_,_,hp,by rw[e1,e2];exact hrun,.inr ⟨b,es,clock,since,clock,seen.push x.born,rfl,hb',hset.1,hL,hnd,hold,hsk,hsk,fun y hy hc=>?_,rfl⟩,left_shrinks es seen x hx,?_,?_,by rw[e1,e2];exact run_entry_at _ r b since seen es clock x hset.1 hb' hem hnd⟩
   ·rw[contains_push]at hc;by_cases hb2:y.born=x.born
    ·rw[born_inj hnd hy hem hb2,←e1];exact⟨p.1,pX,rfl⟩
    ·have:seen.contains y.born=true:=by simpa[hb2]using hc
     obtain⟨q,hq,e⟩:=hs y hy this;exact⟨q,ph _ hq,e⟩
   ·rcases hal with rfl | rfl
    ·exact⟨rfl,rfl,rfl,by simp[setBlock],fun i _ hi=>hset.2 i hi⟩
    ·exact(aN (ax _ _).drew:Out (fun i=>i=r) w w.drew).trans ⟨rfl,rfl,rfl,by simp[setBlock],fun i _ hi=>hset.2 i hi⟩ (fun _ _ h=>h)
   ·rcases hal with rfl | rfl<;>simp[setBlock]
variable {ops:Array Oper} {rest:List Oper} {o:Oper} {a:Act} {Q:Exit→Act→World→Prop}
theorem zi (hg:o.guard=none) (x:Operand) (hop:o.op=Op.range t x) (ht:P.underlying t=some (.map k e)) (hx:a.eval x=.map m) (hm:wg w m kd L)
 (hK:∀w' n,ki w' w.heap.size m kd L [] n→Below w.heap.size w w'→w'.heap.size=w.heap.size+1→wpList P ops Q rest (a.put o.dst (.pointer (some ⟨w.heap.size,0,none⟩))) w'):wpList P ops Q (o::rest) a w:=by
 refine kP hg fun K' hK'=>?_;obtain⟨w',n,hrun,r1,r2,r3⟩:=Ny (P:=P) hm ht;unfold Oper.wp;simp[execOp,hop,hx,hrun,Result.andThen];exact hK' _ _ (hK w' n r1 r2 r3)
theorem Br (hg:o.guard=none) (it:Operand) (hop:o.op=Op.next it false) (hit:a.eval it=.pointer (some ⟨r,0,none⟩)) (h:ki w r m kd L outs n)
 (hDone:(∀p∈L,p.1∈outs)→wpList P ops Q rest (a.put o.dst (.tuple #[.bool false])) w)
 (hMore:∀p w' n',p∈L→ki w' r m kd L (p.1::outs) n'→n'<n→Out (fun i=>i=r) w w'→w'.heap.size=w.heap.size→(Instr.entry (.pointer (some ⟨r,0,none⟩))).run P w'=.ok (.tuple #[.int kd p.1,p.2]) w' →
  wpList P ops Q rest (a.put o.dst (.tuple #[.bool true,.int kd p.1,p.2])) w'):wpList P ops Q (o::rest) a w:=by
 refine kP hg fun K' hK'=>?_;unfold Oper.wp;rcases QZ (P:=P) h o.type with ⟨h0,hrun⟩ | ⟨p,w',n',hp,hrun,h1,h2,h3,h4,h5⟩
 ·simp[execOp,hop,hit,hrun,Result.andThen];exact hK' _ _ (hDone h0)
 ·simp[execOp,hop,hit,hrun,Result.andThen];exact hK' _ _ (hMore p w' n' hp h1 h2 h3 h4 h5)
end
end Go.Proofs.YtdpniceapmikpaaGreat
namespace Go.Proofs.YtdpniceapmikpaaGreat
open Go.RowKit
def lI (d:Option Tmp) (o:Option Value) (a:Act):Act:=match o with | none=>a | some v=>a.put d v
def jq (i:Nat) (b:Bool) (l:Array Bool):Array Bool:=if b=true then l.setIfInBounds i true else l
theorem Bt (d d':Option Tmp) (h:∀t,d=some t→d'≠some t) (o o':Option Value) (a:Act):lI d o (lI d' o' a)=lI d' o' (lI d o a):=by
 cases o with
 | none=>rfl
 | some v =>
  cases o' with
  | none=>rfl
  | some v'=>exact(Act.put_comm a v v' h).symm
theorem yG (i j:Nat) (h:i≠j) (b c:Bool) (l:Array Bool):jq i b (jq j c l)=jq j c (jq i b l):=by
 unfold jq;cases b<;>cases c<;>simp
 exact wm _ _ (fj h)
section
variable {P:Program} {ops:Array Oper} {Q:Exit→Act→World→Prop} {md:Region.Mode} {S J:World→Prop} {k:Nat}
def uX (d1 d2 d3:Option Tmp) (o1 o2 o3:Option Value) (a:Act):Act:=lI d3 o3 (lI d2 o2 (lI d1 o1 a))
def pA (i1 i2 i3:Nat) (b1 b2 b3:Bool) (l:Array Bool):Array Bool:=jq i3 b3 (jq i2 b2 (jq i1 b1 l))
def U3 (md:Region.Mode) (ops:Array Oper) (l:Array Bool) (i1 i2 i3:Nat) (b1 b2 b3:Bool):Bool :=
 (b1&&b2&&b3) || (let rd:=Region.ready md ops (pA i1 i2 i3 b1 b2 b3 l);!rd.isEmpty&&rd.all fun q=>(q == i1 && !b1) || (q == i2 && !b2) || (q == i3 && !b3))
def Does (P:Program) (ops:Array Oper) (Q:Exit→Act→World→Prop) (o:Oper) (a:Act) (w:World) (R:Value→World→Prop):Prop :=
 ∀K':Act→World→Prop,Shut (∀v w',R v w'→K' (a.put o.dst v) w')→if Region.wanted o (yielded ops a.tmps)=true then Oper.wp P o a w K' Q else K' (a.put o.dst undef) w
theorem jm3 (i1 i2 i3:Nat) (R:Option Value→Option Value→Option Value→World→Prop) {fuel:Nat} {listed:Array Bool} {a:Act} {w:World} {p1 p2 p3:Oper}
 (hS:∀o1 o2 o3 w,R o1 o2 o3 w→S w) (h0:R none none none w)
 (h1:∀o2 o3 w1,R none o2 o3 w1→(Region.ready md ops (pA i1 i2 i3 false o2.isSome o3.isSome listed)).contains i1=true→Does P ops Q p1 (uX p1.dst p2.dst p3.dst none o2 o3 a) w1 (fun v w'=>R (some v) o2 o3 w'))
 (h2:∀o1 o3 w1,R o1 none o3 w1→(Region.ready md ops (pA i1 i2 i3 o1.isSome false o3.isSome listed)).contains i2=true→Does P ops Q p2 (uX p1.dst p2.dst p3.dst o1 none o3 a) w1 (fun v w'=>R o1 (some v) o3 w'))
 (h3:∀o1 o2 w1,R o1 o2 none w1→(Region.ready md ops (pA i1 i2 i3 o1.isSome o2.isSome false listed)).contains i3=true→Does P ops Q p3 (uX p1.dst p2.dst p3.dst o1 o2 none a) w1 (fun v w'=>R o1 o2 (some v) w'))
 (hfin:∀v1 v2 v3 w',R (some v1) (some v2) (some v3) w'→S w'→de P md ops Q S J k fuel (pA i1 i2 i3 true true true listed) (uX p1.dst p2.dst p3.dst (some v1) (some v2) (some v3) a) w')
 (hJ:∀w,J w:=by exact fun _=>trivial)
 (ho1:ops[i1]? = some p1:=by rfl) (ho2:ops[i2]? = some p2:=by rfl) (ho3:ops[i3]? = some p3:=by rfl)
 (hr:∀b1 b2 b3,U3 md ops listed i1 i2 i3 b1 b2 b3=true:=by(intro b1 b2 b3;cases b1<;>cases b2<;>cases b3<;>kernel_rfl))
 (hi:i1≠i2∧i1≠i3∧i2≠i3:=by decide)
 (QF:∀d,p1.dst=some d→p2.dst≠some d:=by(intro d h;cases h;decide)) (ai5:∀d,p1.dst=some d→p3.dst≠some d:=by(intro d h;cases h;decide)) (ai6:∀d,p2.dst=some d→p3.dst≠some d:=by(intro d h;cases h;decide)) :
 de P md ops Q S J k (fuel+3) listed a w:=by
 have core:∀ (n:Nat) (o1 o2 o3:Option Value) (w1:World),(if o1.isSome=true then 0 else 1)+(if o2.isSome=true then 0 else 1)+(if o3.isSome=true then 0 else 1)=n→R o1 o2 o3 w1→de P md ops Q S J k (fuel+n) (pA i1 i2 i3 o1.isSome o2.isSome o3.isSome listed) (uX p1.dst p2.dst p3.dst o1 o2 o3 a) w1:=by
  intro n;induction n with
  | zero =>
   intro o1 o2 o3 w1 hn hR;cases o1 with
   | none=>simp at hn
   | some v1 =>
    cases o2 with
    | none=>simp at hn
    | some v2 =>
     cases o3 with
     | none=>simp at hn
     | some v3=>exact hfin v1 v2 v3 w1 hR (hS _ _ _ _ hR)
  | succ n ih =>
   intro o1 o2 o3 w1 hn hR;have h:=hr o1.isSome o2.isSome o3.isSome;unfold U3 at h;have hno:(o1.isSome&&o2.isSome&&o3.isSome)=false:=by
    cases o1<;>cases o2<;>cases o3<;>simp at hn ⊢
   rw[hno,Bool.false_or]at h;simp only[Bool.and_eq_true]at h;obtain⟨hne,hall⟩:=h;refine⟨fun h0=>(by rw[h0]at hne;cases hne),fun q hq=>?_⟩;have hqa:=cx.1 hall q hq;simp only[Bool.or_eq_true,Bool.and_eq_true,beq_iff_eq,Bool.not_eq_true']at hqa;rcases hqa with (⟨rfl,hb⟩ | ⟨rfl,hb⟩) | ⟨rfl,hb⟩
   ·obtain rfl:o1=none:=by cases o1<;>simp at hb ⊢
    refine nB ho1 fun K' hK=>h1 o2 o3 w1 hR (by simpa using hq) K' fun v w' hR'=>?_
    have ih':=ih (some v) o2 o3 w' (by simp at hn ⊢;omega) hR';have e1:(uX p1.dst p2.dst p3.dst none o2 o3 a).put p1.dst v=uX p1.dst p2.dst p3.dst (some v) o2 o3 a:=by
     show lI p1.dst (some v) (lI p3.dst o3 (lI p2.dst o2 a))=lI p3.dst o3 (lI p2.dst o2 (lI p1.dst (some v) a));rw[Bt _ _ ai5,Bt _ _ QF]
    have e2:(pA q i2 i3 false o2.isSome o3.isSome listed).setIfInBounds q true=pA q i2 i3 true o2.isSome o3.isSome listed:=by
     show jq q true (jq i3 o3.isSome (jq i2 o2.isSome listed))=jq i3 o3.isSome (jq i2 o2.isSome (jq q true listed));rw[yG _ _ hi.2.1,yG _ _ hi.1]
    exact hK _ _ ⟨⟨hS _ _ _ _ hR',fun _=>hJ _⟩,by rw[e1];show de P md ops Q S J k (fuel+n) ((pA q i2 i3 false o2.isSome o3.isSome listed).setIfInBounds q true) _ _;rw[e2];exact ih'⟩
   ·obtain rfl:o2=none:=by cases o2<;>simp at hb ⊢
    refine nB ho2 fun K' hK=>h2 o1 o3 w1 hR (by simpa using hq) K' fun v w' hR'=>?_
    have ih':=ih o1 (some v) o3 w' (by simp at hn ⊢;omega) hR';have e1:(uX p1.dst p2.dst p3.dst o1 none o3 a).put p2.dst v=uX p1.dst p2.dst p3.dst o1 (some v) o3 a:=by
     show lI p2.dst (some v) (lI p3.dst o3 (lI p1.dst o1 a))=lI p3.dst o3 (lI p2.dst (some v) (lI p1.dst o1 a));rw[Bt _ _ ai6]
    have e2:(pA i1 q i3 o1.isSome false o3.isSome listed).setIfInBounds q true=pA i1 q i3 o1.isSome true o3.isSome listed:=by
     show jq q true (jq i3 o3.isSome (jq i1 o1.isSome listed))=jq i3 o3.isSome (jq q true (jq i1 o1.isSome listed));rw[yG _ _ hi.2.2]
    exact hK _ _ ⟨⟨hS _ _ _ _ hR',fun _=>hJ _⟩,by rw[e1];show de P md ops Q S J k (fuel+n) ((pA i1 q i3 o1.isSome false o3.isSome listed).setIfInBounds q true) _ _;rw[e2];exact ih'⟩
   ·obtain rfl:o3=none:=by cases o3<;>simp at hb ⊢
    refine nB ho3 fun K' hK=>h3 o1 o2 w1 hR (by simpa using hq) K' fun v w' hR'=>?_
    have ih':=ih o1 o2 (some v) w' (by simp at hn ⊢;omega) hR';exact hK _ _ ⟨⟨hS _ _ _ _ hR',fun _=>hJ _⟩,ih'⟩
 have:=core 3 none none none w rfl h0;exact this
end
end Go.Proofs.YtdpniceapmikpaaGreat
namespace Go.Proofs.YtdpniceapmikpaaGreat
open Go.RowKit Go.Shelf
def Q0:Go.Shelf.Ren:=⟨fun | 41=>81 | n=>n,fun | 22=>149 | 23=>161 | 4=>4 | n=>n,fun | n=>n⟩
theorem U4:Go.Proofs.SlLaysE0.n41 Tryz.prog Q0 := {
 mixed:=by kernel_rfl
 f41:=⟨Tryz.f81.name,by decide,Tryz.func81.trans (dz some (by kernel_rfl))⟩
 t4:=oL
 a4:=qj
 z4:=qe
 v4:=oM
 t22:=zy
 a22:=Tryz.isAgg149
 z22:=Tryz.sizeOf149
 v22:=Tryz.zeroValue149}
theorem Nz (B:Nat) (v:Value) (l:List aI) (w:World) (hl:l.length≤1000000) (h:w.ownsRow B 161 513 v l.length (aL l)) :
 Calls Tryz.prog 81 #[v] w fun e w'=>∃v',e=.returned v'∧w'.ownsRow w.heap.size 161 513 v' l.length (aL l)∧Below w.heap.size w w':=by
 obtain⟨i,z,hi,hz,h1,h2,h3⟩:=Aq;have hlen:=h.1;rcases h.2 with ⟨rfl,h0⟩ | ⟨g,cap,cur,rfl,hB,hg,hn,hc,hs,ht⟩
 ·refine(AnyE.slices_Clone_nil U4 0 0 w).mono ?_;rintro e w' ⟨rfl,rfl⟩;have:l=[]:=rO h0;subst this;exact⟨_,rfl,km _ _ _ _,ax _ _⟩
 ·refine(AnyE.slices_Clone U4 i z 513 520 hi hz h1 h2 h3 (by decide) (fun W=>by
   show(Go.sizeOf 161).run Tryz.prog W=_;simp[sizeOf,typeInfo,hi,h1]) g 0 l.length cap (aL l) w hlen (by unfold maxLen;omega) (by omega) (fun j u hj=>?_) (fun u hu=>yY l u hu)).mono ?_
  ·rw[←ht,dU]at hj;split at hj
   ·rw[cW,mL w g _ cur _ _ hg,←rQ];exact hj
   ·cases hj
  ·rintro e w' ⟨v',rfl,ho,_,hb⟩;exact⟨v',rfl,ho,hb⟩
theorem XJ {l:List (Int×Value)} (hn:(l.map (·.1)).Nodup) {p:Int×Value} (hp:p∈l):bW l p.1=some p.2:=by
 induction l with
 | nil=>cases hp
 | cons q l ih =>
  rw[List.map_cons,List.nodup_cons]at hn;unfold bW;rw[DD];rcases lN.1 hp with rfl | hp
  ·simp
  ·have hne:(p.1 == q.1)=false:=by
    have:p.1≠q.1:=fun e=>hn.1 (by rw[←e];exact dI.2 ⟨p,hp,rfl⟩)
    simpa using this
   rw[hne];exact ih hn.2 hp
theorem NA {l:List (Int×Value)} {m:Int} (h:m∉l.map (·.1)):bW l m=none:=by
 unfold bW;rw[Rt,Ds];intro x hx e;exact h (by rw[tU.1 e];exact dI.2 ⟨x,hx,rfl⟩)
theorem Q4 {L l2:List (Int×Value)} {outs:List Int} (hd:∀p∈L,p.1∈outs) (hl:∀m,bW l2 m=if m∈outs then bW L m else none) (m:Int):bW l2 m=bW L m:=by
 rw[hl m];by_cases h:m∈outs
 ·rw[aB h]
 ·rw[aG h];refine(NA fun hm=>h ?_).symm;obtain⟨p,hp,rfl⟩:=dI.1 hm;exact hd p hp
theorem FR.k {w:World} {v:Option Nat} {l:List Int} (h:FR w v l):∃k:List Int,wg w v .i64 (k.map fun n=>(n,Value.agg #[]))∧∀n,n∈k↔n∈l:=by
 rcases h with ⟨rfl,rfl⟩ | ⟨r,k,rfl,h1,h2⟩
 ·exact⟨[],.inl ⟨rfl,rfl⟩,fun n=>by simp⟩
 ·exact⟨k,h1.k,h2⟩
theorem zm {P:Program} {ops:Array Oper} {rest:List Oper} {o:Oper} {a:Act} {Q:Exit→Act→World→Prop} (hg:o.guard=none) (w w':World) (t:TypeId) (m k v:Operand) (ho:o.op=.mapUpdate t m k v) (mv kv vv:Value) (hm:a.eval m=mv) (hk:a.eval k=kv) (hv:a.eval v=vv)
 (hr:(Instr.mapUpdate t mv kv vv).run P w=.ok () w') (h:wpList P ops Q rest (a.put o.dst undef) w'):wpList P ops Q (o::rest) a w :=
 kP hg fun _ hK=>k8 w w' t m k v ho mv kv vv hm hk hv hr (hK _ _ h)
theorem wg.out {w w':World} {m:Option Nat} {kd:IntKind} {L:List (Int×Value)} (h:wg w m kd L) {F:Nat→Prop} (ho:Out F w w') (hm:∀b,m=some b→¬F b):wg w' m kd L:=by
 rcases h with h | ⟨b,es,c,e,hb,r⟩
 ·exact .inl h
 ·exact .inr ⟨b,es,c,e,(ho.block b (ee.1 hb).1 (hm b e)).trans hb,r⟩
theorem U5 (D:aX) (x:ak) (w:World) (h:aE w D x) (hx:x.ok) :
 Calls Tryz.prog 30 #[ptr D.p] w fun e w'=>∃D2,e=.returned (ptr D2.p)∧aE w' D2 x∧(∀i,D2.has i→w.heap.size≤i)∧Below w.heap.size w w':=by
 have HN:=ae (nF D x w h hx);have HX:=ae hx;have HD:=ae h;have hB:=h.blk;obtain⟨L,hmL,hLn,hL⟩:=h.lasts;have HML:=ae hmL;have HL:=ae (And.intro hLn hL);obtain⟨kf,hmF,hkf⟩:=h.fails.k;have HMF:=ae hmF;have oJ:=ae hkf;have HW:=ae h.waits;have jx:=ae h.has_lt;have hwl:x.waits.length≤1000000:=hx.2.2.2.2.2.2;obtain⟨dp,lm,wv,fv⟩:=D;dsimp only at *;unfold ptr at *;clear h hmL hLn hL hmF hkf hx;go_enter Tryz.func30,Tryz.ntmps30
 go_wp2_with fail;refine HN.out.mono ?_;rintro e w1 ⟨rfl,rfl⟩;go_upto_region 3 with fail;have hmm:=@run_makeMap Tryz.prog;have hgl:=hB.lt;refine jb (fun X=>Below w.heap.size w X) (fun _=>True) 100 (ax _ _).drew trivial fun hHeld hJ=>?_;refine jk false 0 ?_;refine jk false 1 ?_;refine jk false 2 ?_;refine jk false 3 ?_ (hy:=by intro X hX _;have hc:=(hB.below hX hgl).ag 0 rfl;go_simp;try with_reducible rfl);refine jk false 5 ?_;refine jk false 6 ?_;refine jk false 7 ?_;refine jk false 8 ?_ (hy:=by intro X hX _;have hc:=(hB.below hX hgl).ag 2 rfl;go_simp;try with_reducible rfl);refine jk false 10 ?_;refine jk false 11 ?_;refine jk false 12 ?_;refine jk false 13 ?_ (hy:=by intro X hX _;have hc:=(hB.below hX hgl).ag 3 rfl;go_simp;try with_reducible rfl);refine jm3 4 9 14 (fun o1 o2 o3 X=>(∀v,o1=some v→∃r,v=.map (some r)∧MapAt X r .i64 []∧w.heap.size≤r)∧(∀v,o2=some v→X.ownsRow w.heap.size 161 513 v x.waits.length (aL x.waits))∧(∀v,o3=some v→∃r,v=.map (some r)∧MapAt X r .i64 []∧w.heap.size≤r)∧(∀v,o1=some v→o3≠some v)∧Below w.heap.size w X)
  (fun _ _ _ _ h=>h.2.2.2.2) ⟨fun v h=>(by cases h),fun v h=>(by cases h),fun v h=>(by cases h),fun v h=>(by cases h),hHeld⟩ ?_ ?_ ?_ ?_
 ·rintro o2 o3 X ⟨_,hR2,CM,_,hbX⟩ _ K hK;go_simp;have hb:=(ax X.heap.size X).alloc (ai _) (.map #[] 0);refine hK.out (.map (some X.heap.size)) _ ⟨fun v h=>?_,fun v h=>aq (F:=fun _=>False) (aN hb) (hR2 v h) (fun _ _ h=>h),fun v h=>?_,fun v h h3=>?_,hbX.trans (hb.mono hbX.size)⟩
  ·cases h;exact⟨_,rfl,MapAt.new X .i64,hbX.size⟩
  ·obtain⟨r,e,hm,hr⟩:=CM v h;exact⟨r,e,hm.alloc _,hr⟩
  ·obtain⟨r,e,hm,hr⟩:=CM v h3;rw[e]at h;cases h
   have:=hm.lt;omega
 ·rintro o1 o3 X ⟨Mq,_,CM,Cr,hbX⟩ _ K hK;have HK:=ae hK;have HC:=ae (Nz 0 wv x.waits X hwl (aq (F:=fun _=>False) (aN (hbX.trans (ax _ _))) HW.out (fun _ _ h=>h)));have fin:∀v X',X'.ownsRow X.heap.size 161 513 v x.waits.length (aL x.waits)→Below X.heap.size X X'→K _ X':=fun v X' ho hb=>HK.out.out v X' ⟨fun v1 h=>by
   obtain⟨r,e,hm,hr⟩:=Mq v1 h;exact⟨r,e,(hb.block r hm.lt).trans hm,hr⟩,fun v2 h=>by cases h;exact World.ownsRow.mono ho hbX.size,fun v3 h=>by
   obtain⟨r,e,hm,hr⟩:=CM v3 h;exact⟨r,e,(hb.block r hm.lt).trans hm,hr⟩,Cr,hbX.trans (hb.mono hbX.size)⟩
  have FIN:=ae fin;clear fin hK;cases o1<;>cases o3
  all_goals
   simp only[uX,lI,Act.put,Array.toArray_toList,l_,me,mf,mh,mi,mj];go_simp;refine HC.out.mono ?_;rintro r X' ⟨v',rfl,ho,hb⟩;exact FIN.out _ _ ho hb
 ·rintro o1 o2 X ⟨Mq,hR2,_,_,hbX⟩ _ K hK;go_simp;have hb:=(ax X.heap.size X).alloc (ai _) (.map #[] 0);refine hK.out (.map (some X.heap.size)) _ ⟨fun v h=>?_,fun v h=>aq (F:=fun _=>False) (aN hb) (hR2 v h) (fun _ _ h=>h),fun v h=>?_,fun v h h3=>?_,hbX.trans (hb.mono hbX.size)⟩
  ·obtain⟨r,e,hm,hr⟩:=Mq v h;exact⟨r,e,hm.alloc _,hr⟩
  ·cases h;exact⟨_,rfl,MapAt.new X .i64,hbX.size⟩
  ·obtain⟨r,e,hm,hr⟩:=Mq v h;rw[e]at h3;cases h3
   have:=hm.lt;omega
 ·rintro v1 u2 v3 X ⟨Mq,hR2,CM,Cr,hbX⟩ hHeld;obtain⟨r1,rfl,hm1,hr1⟩:=Mq _ rfl;obtain⟨r3,rfl,Ho,hr3⟩:=CM _ rfl;have ho2:=hR2 _ rfl;have Q9:r1≠r3:=fun e=>Cr _ rfl (by rw[e])
  clear Mq hR2 CM Cr;obtain⟨a2,cap2,rfl⟩:=slice_form ho2;simp only[uX,lI,Act.put,Array.toArray_toList,l_,me,mf,mh,mi,mj];refine jk false 15 ?_;refine jr 16 fun K hK=>?_;go_simp;obtain⟨Z,eZ⟩:∃Z,Z=X.alloc (.cells #[.int .i64 x.size,.map (some r1),.slice a2 x.waits.length cap2,.int .i64 x.steps,.map (some r3)] 152):=⟨_,rfl⟩;have Bm:Below X.heap.size X Z:=by rw[eZ];exact(ax _ _).alloc (ai _) _
  have kN:ah Z X.heap.size 152 #[.int .i64 x.size,.map (some r1),.slice a2 x.waits.length cap2,.int .i64 x.steps,.map (some r3)]:=by rw[eZ];exact ah.new _ _ _
  rw[←eZ];have hZs:Z.heap.size=X.heap.size+1:=by rw[eZ];simp
  clear eZ;have F':=hbX.trans (Bm.mono hbX.size);refine hK.out _ _ ⟨F',fun _=>trivial⟩ ?_;clear hK K hHeld;have hHeld:=F';refine jk false 17 ?_;refine qY ?_;obtain⟨v2,Au⟩:∃v,v=Value.slice a2 x.waits.length cap2:=⟨_,rfl⟩;rw[←Au]at kN ho2 ⊢;clear Au;obtain⟨gN,Oz⟩:∃g,g=X.heap.size:=⟨_,rfl⟩;have hl1:r1<gN:=by rw[Oz];exact hm1.lt
  have hl3:r3<gN:=by rw[Oz];exact Ho.lt
  have hl2:∀i,v2.ownBlock=some i→i<gN∧i≠r1∧i≠r3∧w.heap.size≤i:=fun i hi=>⟨by rw[Oz];exact gC ho2 hi,mx ho2 hm1 i hi,mx ho2 Ho i hi,(na ho2 i hi).1⟩
  have hm1:MapAt Z r1 .i64 []:=(Bm.block _ hm1.lt).trans hm1;have Ho:MapAt Z r3 .i64 []:=(Bm.block _ Ho.lt).trans Ho;have ho2:=aq (F:=fun _=>False) (aN Bm) ho2 (fun _ _ h=>h);have hgw:w.heap.size≤gN:=by rw[Oz];exact hbX.size
  rw[←Oz]at kN hZs ⊢;clear Bm hbX Oz hHeld hmm;have ij:=ae ho2;have HL2:=ae hl2;have kB:=hB.below F' hgl;have hmk:wg Z (some lm) .i64 L:=(show MapAt Z lm .i64 L from(F'.block _ HML.out.lt).trans HML.out).k;have hlm:lm<w.heap.size:=HML.out.lt;have c1:=kB.ag 1 rfl;have Om:=ae F';clear ho2 hl2 F';go_upto_region 5 with (first | (at_range;refine zi rfl _ rfl zz rfl hmk ?_;intro Z1 n1 hr1' hb1 hs1;go_frame) | fail)
  have kN1:=kN.below hb1 kN.lt;have ai7:MapAt Z1 r1 .i64 []:=(hb1.block _ hm1.lt).trans hm1;have ai8:MapAt Z1 r3 .i64 []:=(hb1.block _ Ho.lt).trans Ho;have HZ1:=ae hb1;obtain⟨rI,erI⟩:∃r,r=Z.heap.size:=⟨_,rfl⟩;rw[←erI]at hr1' hs1 ⊢;have hrI:rI=gN+1:=by omega
  have adN:Z1.heap.size=gN+2:=by omega
  have Lu:=ae hr1';have ai9:=ae (show(([]:List (Int×Value)).map (·.1)).Nodup∧∀m,bW ([]:List (Int×Value)) m=if m∈([]:List Int) then bW L m else none from⟨DH,fun m=>by simp[bW]⟩);have jw:=ae (show r1<gN∧r3<gN∧w.heap.size≤gN∧lm<w.heap.size∧w.heap.size≤r1∧w.heap.size≤r3∧gN<rI∧rI<Z1.heap.size∧r1≠r3 from⟨hl1,hl3,hgw,hlm,hr1,hr3,by omega,by omega,Q9⟩);have Yv:=ae (show Out (fun i=>i=r1∨i=rI) Z1 Z1 from Out.refl _ _);clear hmk kN hm1 Ho hb1 hs1 hZs hl1 hl3 hgw hlm hr1 hr3 hrI adN Q9 c1 kB erI hr1';go_loopw [4,5] (fun _ _ wr=>∃outs n l2,Hid (ki wr rI (some lm) .i64 L outs n)∧Hid (MapAt wr r1 .i64 l2)∧Hid ((l2.map (·.1)).Nodup∧∀m,bW l2 m=if m∈outs then bW L m else none)∧Hid (Out (fun i=>i=r1∨i=rI) Z1 wr)) (fun _ _ wr=>tG wr rI)
  case atStart=>exact⟨[],n1,[],Lu,ae ai7,ai9,Yv⟩
  case round =>
   obtain⟨outs,n,l2,HRr,Zx,Zy,HOr⟩:=hrel;obtain⟨hl1,hl3,hgw,hlm,hr1,hr3,hrI,adN,Q9⟩:=jw.out;have kr:ah wr gN 152 #[.int .i64 x.size,.map (some r1),v2,.int .i64 x.steps,.map (some r3)]:=HOr.out.blk kN1 (fun h=>by omega);have am':=HOr.out.size;have hrr:=HRr.out;go_wp2_with (at_next;refine Br rfl _ rfl rfl hrr ?_ ?_)
   ·intro hd;obtain⟨wo,rfl⟩:∃v,v=wr:=⟨_,rfl⟩;have ai_:=ae (Q4 (L:=L) (l2:=l2) (outs:=outs) (fun p hp=>hd p.1 p.2 hp) Zy.out.2);have Q_:Below w.heap.size w wo:=Om.out.trans ((HZ1.out.mono Om.out.size).trans (HOr.out.below (B:=w.heap.size) (by omega) (fun i hi h=>by omega)));have fC:=ae Q_;have kB:=hB.below Q_ hgl;obtain⟨L2,eL2⟩:∃L2,L2=kf.map fun n=>(n,Value.agg #[]):=⟨_,rfl⟩
    have adP:wg wo fv .i64 L2:=by rw[eL2];exact HMF.out.out (F:=fun _=>False) (aN Q_) (fun _ _ h=>h)
    have EL2:=ae eL2;clear eL2;have XK:MapAt wo r3 .i64 (([]:List Int).map fun n=>(n,Value.agg #[])):=HOr.out.map ai8 (show ¬ (r3=r1∨r3=rI)by omega);have hfv:∀b,fv=some b→b<w.heap.size:=fun b hb=>jx.out b (.inr (.inr (.inr hb)))
    have HFV:=ae hfv;have c4:=kB.ag 4 rfl;clear hd hrr Q_ hfv;go_upto_region 9 with (first | (at_range;refine zi rfl _ rfl wI rfl adP ?_;intro Z2 n2 hr2' hb2 hs2;go_frame) | fail)
    have kN2:=kr.below hb2 kr.lt;have adQ:=(hb2.block _ XK.lt).trans XK;have HZ2:=ae hb2;obtain⟨rJ,erJ⟩:∃r,r=wo.heap.size:=⟨_,rfl⟩;rw[←erJ]at hr2' hs2 ⊢;have ai':=ae hr2';have HSJ:=ae (show rI<rJ∧rJ<Z2.heap.size∧wo.heap.size≤rJ from⟨by omega,by omega,by omega⟩);have HM3:=ae adQ;have aja:=ae (show Out (fun i=>i=r3∨i=rJ) Z2 Z2 from Out.refl _ _);have ana:=ae Zx.out;clear adP XK hb2 hs2 hr2' c4 kB erJ adQ kr;go_loopw [6] (fun _ wr=>∃ (yH:List Int) (n2:Nat) (k2:List Int),Hid (ki wr rJ fv .i64 L2 yH n2)∧Hid (MapAt wr r3 .i64 (k2.map fun n=>(n,Value.agg #[])))∧Hid (∀m,m∈k2↔m∈yH)∧Hid (∀m∈yH,m∈kf)∧Hid (Out (fun i=>i=r3∨i=rJ) Z2 wr)) (fun _ wr=>tG wr rJ)
    case atStart=>exact⟨[],n2,[],ai',HM3,ae (fun m=>Iff.rfl),ae (fun m hm=>by cases hm),aja⟩
    case round =>
     obtain⟨yH,n2,k2,HRs,HMs,HKs,HFs,Hc⟩:=hrel;obtain⟨hJ1,hJ2,hJ3⟩:=HSJ.out;have ks:ah wr gN 152 #[.int .i64 x.size,.map (some r1),v2,.int .i64 x.steps,.map (some r3)]:=Hc.out.blk kN2 (fun h=>by omega);have hrs:=HRs.out;go_wp2_with (at_next;refine Br rfl _ rfl rfl hrs ?_ ?_)
     ·intro hd2;have HD2:=ae hd2;clear hd2 hrs;have adR:MapAt wr r1 .i64 l2:=Hc.out.map ((HZ2.out.block _ Zx.out.lt).trans Zx.out) (show ¬ (r1=r3∨r1=rJ)by omega);have hws:wr.ownsRow 0 161 513 v2 x.waits.length (aL x.waits):=by
       have h1:=aq HOr.out (aq (F:=fun _=>False) (aN HZ1.out) ij.out (fun _ _ h=>h)) (fun i hi h=>by have:=HL2.out i hi;omega);have h2:=aq Hc.out (aq (F:=fun _=>False) (aN HZ2.out) h1 (fun _ _ h=>h)) (fun i hi h=>by have:=HL2.out i hi;omega);exact World.ownsRow.mono h2 (fi _)
      have cH:=ae (show aE wr ⟨gN,r1,v2,some r3⟩ x from⟨ks,⟨l2,adR,Zy.out.1,fun n=>by rw[ai_.out n];exact HL.out.2 n⟩,hws,.inr ⟨r3,k2,rfl,HMs.out,fun n=>by
       rw[HKs.out n,←oJ.out n];exact⟨fun h=>HFs.out n h,fun h=>HD2.out n (.agg #[]) (by rw[EL2.out];exact dI.2 ⟨n,h,rfl⟩)⟩⟩,fun e=>jw.out.2.2.2.2.2.2.2.2 (by injection e with e;exact e.symm)⟩)
      have E6:=ae (show Below w.heap.size w wr from fC.out.trans ((HZ2.out.mono fC.out.size).trans (Hc.out.below (B:=w.heap.size) (by omega) (fun i hi h=>by omega))));clear adR hws ks;go_wp2_with fail;go_ret
      refine⟨⟨gN,r1,v2,some r3⟩,rfl,cH.out,fun i hi=>?_,E6.out⟩;rcases hi with hi | hi | hi | hi
      ·have hi:i=gN:=hi;omega
      ·have hi:i=r1:=hi;omega
      ·exact(HL2.out i hi).2.2.2
      ·have hi:some r3=some i:=hi;injection hi with hi
       omega
     ·intro q pv w1 n' hp hrg1 hn' ho1 hs1 hen;obtain⟨hq,rfl⟩:q∈kf∧pv=.agg #[]:=by
       rw[EL2.out]at hp;obtain⟨q',hq',e⟩:=dI.1 hp;injection e with e1 e2
       exact⟨by rw[←e1];exact hq',e2.symm⟩
      have ajb:wr.heap.size≤w1.heap.size:=by omega
      have ks1:ah w1 gN 152 _:=ho1.blk ks (fun h=>by omega);have c4:=ks1.ag 4 rfl;have hmw:MapAt w1 r3 .i64 (k2.map fun n=>(n,Value.agg #[])):=ho1.map HMs.out (show ¬ (r3=rJ)by omega);obtain⟨W2,k',hrun,hm2,hk',hT⟩:=LI w1 r3 k2 hmw q;have Hp:Out (fun i=>i=r3) w1 W2:=⟨hT.os,hT.tape,hT.output,mK hT.size.symm,fun i _ hi=>hT.block i hi⟩;have U6:=ae (hrg1.out Hp (show ¬ (rJ=r3)by omega) (fun i hi e=>by
       have h1:=HFV.out i hi;omega))
      have Fc:=ae ((Hc.out.trans ho1 (fun _ _ h=>.inr h)).trans Hp (fun _ _ h=>.inl h));have HKN:=ae (show ∀m,m∈k'↔m∈q::yH from fun m=>by rw[hk' m,HKs.out m,lN];exact or_comm);have HFN:=ae (show ∀m∈q::yH,m∈kf from fun m hm=>by
       rcases lN.1 hm with rfl | hm
       ·exact hq
       ·exact HFs.out m hm)
      have Zz:tG W2 rJ<tG wr rJ:=by rw[U6.out.left,HRs.out.left];exact hn'
      have HM2:=ae hm2;clear hs1 hrg1 hrs hp hk' hT Hp hmw hm2 ks ho1;go_wp2_with (first
       | (refine zm rfl _ W2 _ _ _ _ rfl (.map (some r3)) (.int .i64 q) (.agg #[]) rfl rfl rfl hrun ?_;go_frame)
       | fail)
      exact⟨⟨q::yH,n',k',U6,HM2,HKN,HFN,Fc⟩,Zz⟩
   ·intro q pv w1 n' hp hrg1 hn' ho1 hs1 hen;have hlk:=XJ HL.out.1 hp;obtain rfl:pv=aV (x.lasts q):=by
     rcases HL.out.2 q with ⟨u,h1,h2⟩ | ⟨h1,_⟩
     ·rw[hlk]at h1;cases h1;exact h2
     ·rw[hlk]at h1;cases h1
    have anb:=ae hs1;have ajb:wr.heap.size≤w1.heap.size:=by omega
    clear hs1;have Iq:=HX.out.2.2.1 q;obtain⟨b,eb⟩:∃b,b=x.lasts q:=⟨_,rfl⟩;rw[←eb]at Iq hen hlk ⊢;clear eb;have tW:=ae hlk;have kr1:ah w1 gN 152 _:=ho1.blk kr (fun h=>by omega);have HM1:=ae (ho1.map Zx.out (show ¬ (r1=rI)by omega));have HR1:=ae hrg1;have ig:=ae (HOr.out.trans ho1 (fun _ _ h=>.inr h));have VQ:(Tryz.prog.info? 111).map (·.size)=some (b.map aj).length:=by rw[cR,Iq];exact fQ
    unfold aV at hen ⊢;clear hrg1 hrr hp hlk kr;have hK:=ah.new w1 111 Tryz.zeroCells111;go_upto_region 7 with (first
     | (refine aQ rfl 111 _ _ rfl w1.heap.size (b.map aj).toArray rfl rfl 111 _ hK (aO _ Iq) (by rw[bE];exact bT _ _ et Iq) (bq _) ?_;rw[di])
     | fail)
    obtain⟨Y,eY⟩:∃Y,Y=w1.alloc (.cells (b.map aj).toArray 111):=⟨_,rfl⟩;have ZA:Below w1.heap.size w1 Y:=by rw[eY];exact(ax _ _).alloc (ai _) _
    have kS:ah Y w1.heap.size 111 (b.map aj).toArray:=by rw[eY];exact ah.new _ _ _
    rw[←eY];clear eY hK hen;have krY:=kr1.below ZA kr1.lt;have hmY:MapAt Y.drew r1 .i64 l2:=(ZA.block _ HM1.out.lt).trans HM1.out;obtain⟨W2,l',hrun,hm2,ajc,hlk2,hT⟩:=Ch (P:=Tryz.prog) (t:=148) Y.drew zz ew r1 l2 hmY Zy.out.1 q (.agg (b.map aj).toArray);have Hp:Out (fun i=>i=r1) Y W2:=(aN (ax _ _).drew:Out (fun i=>i=r1) Y Y.drew).trans ⟨hT.os,hT.tape,hT.output,mK hT.size.symm,fun i _ hi=>hT.block i hi⟩ (fun _ _ h=>h);have hn1:gN≠r1∧w1.heap.size≠r1:=⟨by omega,by omega⟩;refine jb (fun X=>Out (fun i=>i=r1) Y X) (fun _=>True) 100 (aN (ax _ _).drew) trivial fun hHeld hJ=>?_;refine jk false 0 ?_;refine jk false 1 ?_;refine jk false 2 ?_;refine jk false 3 ?_ (hy:=by intro X hX _;have hc:=(hX.blk krY hn1.1).ag 1 rfl;go_simp;try with_reducible rfl);refine jk false 4 ?_;refine jy false 5 rfl (cY (by rfl) 111 _ rfl w1.heap.size 0 rfl (b.map aj) _ (fun w' h=>dt (h.1.blk kS hn1.2)) dj rfl VQ) ?_;refine jr 6 fun K hK=>?_;rw[aB (show Region.wanted _ _=true from rfl)];refine k8 _ W2 148 _ _ _ rfl _ _ _ rfl rfl rfl hrun ?_;refine hK.out _ _ ⟨Hp,fun _=>trivial⟩ ?_;clear hK K hHeld;have hHeld:=Hp;refine qY ?_;have U6:=ae ((HR1.out.out (F:=fun _=>False) (aN ZA) (fun h=>h) (fun _ _ h=>h)).out Hp (show ¬ (rI=r1)by omega) (fun i hi e=>by cases hi;omega));have HLN:=ae (show(l'.map (·.1)).Nodup∧∀m,bW l' m=if m∈q::outs then bW L m else none from⟨ajc,fun m=>by
     rw[hlk2 m];by_cases e:m=q
     ·rw[aB e,aB (by rw[e];exact pX),e,tW.out];rfl
     ·rw[aG e,Zy.out.2 m];by_cases e2:m∈outs
      ·rw[aB e2,aB (ph _ e2)]
      ·rw[aG e2,aG (by simp[e,e2])]⟩)
    have Fc:=ae ((ig.out.trans (G:=fun _=>False) (aN ZA) (fun _ _ h=>h.elim)).trans Hp (fun _ _ h=>.inl h));have Zz:tG W2 rI<tG wr rI:=by rw[U6.out.left,HRr.out.left];exact hn'
    go_wp2_with fail;exact⟨q::outs,⟨n',U6⟩,l',ae hm2,HLN⟩
end Go.Proofs.YtdpniceapmikpaaGreat
