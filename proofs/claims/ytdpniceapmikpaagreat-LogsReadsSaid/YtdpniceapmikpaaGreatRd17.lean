/-
  LogsReads: for every input the law answers true, and its arguments read as they did; without conditions.
-/
import Derived.Test.YtdpniceapmikpaaGreatRd13
import Derived.Test.YtdpniceapmikpaaGreatRd14
import Derived.Test.YtdpniceapmikpaaGreatRd15
import Derived.Test.YtdpniceapmikpaaGreatRd16
import Derived.Test.YtdpniceapmikpaaGreatRows
import Derived.WalkKit
import Derived.ProofKit
import Derived.OpenShut
import Derived.Below
import Derived.ChangeSame
import Derived.Deep.Fields
import Derived.Deep.Slices
import Derived.Test.YtdpniceapmikpaaGreatRd3
set_option linter.unusedVariables false
set_option linter.unusedSimpArgs false
set_option maxRecDepth 100000
set_option maxHeartbeats 32000000
namespace Go.Proofs.YtdpniceapmikpaaGreat
open Go.RowKit
theorem U7 (D:aX) (x:ak) (N area:Int) (w:World) (h:aE w D x) (hx:x.ok) (hst:x.steps≤900000000000) :
 Calls Tryz.prog 20 #[ptr D.p,.agg #[.int .i64 N],.int .i64 area] w fun e w'=>∃v,e=.returned (.tuple #[v,.int .i64 (dR x N area).2.2])∧dw w.heap.size w' v (dR x N area).2.1∧aE w' D (dR x N area).1∧DStep D D w w':=by
 cases ha:da N x.size area with
 | false =>
  have hr:dR x N area=(x,gi,2):=by unfold dR;rw[ha];rfl
  rw[hr];refine(TP D x N area w h hx ha).mono ?_;rintro e w' ⟨rfl,hb⟩;exact⟨_,rfl,fun _ _ _ _=>df _ _,h.below hb,(DStep.refl D w).below hb⟩
 | true =>
  refine(Ha D x N area w h hx hst ha).mono ?_;rintro e w' ⟨v,y,rfl,hv,hd,rfl,hs⟩;by_cases h0:(eM x N area).2=0
  ·rw[aB h0]at hv;rw[Hk (k:=(eM x N area).1) ha (by rw[←h0])];exact⟨v,by rw[h0],hv,hd,hs⟩
  ·rw[aG h0]at hv;subst hv;rw[lq (k:=(eM x N area).1) (c:=(eM x N area).2) ha rfl h0];exact⟨_,rfl,fun _ _ _ _=>df _ _,hd,hs⟩
theorem Mr (e:Nat→Int):∀n,(xE e n).1≤n
 | 0=>ai _
 | n+1=>by
  show(if (xE e n).2=0 then (n+1,e n) else xE e n).1≤n+1;split
  ·exact ai _
  ·exact Nat.le_succ_of_le (Mr e n)
theorem XL {x:ak} {N area:Int} (ha:da N x.size area=true):(eM x N area).1≤100:=by
 have hN:=(ll ha).2.1;by_cases he:x.err (aJ N 2 area 0).1=0
 ·cases hh:bI N (aP x N area)with
  | false=>rw[yB he hh];show 1≤100;decide
  | true =>
   have h9:=hh;unfold bI at h9;simp only[Bool.and_eq_true,decide_eq_true_eq]at h9;have h1:=h9.2.2.2.1;have h2:=h9.2.2.2.2.1;have h3:=Mr (fun i=>lD x N area (1+i) i) (aC (aP x N area) 12 2);have h4:=Mr (fun i=>lk x N area (aC (aP x N area) 14 2) (1+(aC (aP x N area) 12 2+i)) i) (aD (aC (aP x N area) 14 2));have h5:aD (aC (aP x N area) 14 2)≤8:=by unfold aD;omega
   unfold eM;rw[aB he,aB hh];unfold yA sN;split
   ·split
    ·show 1+(_+_)≤100;omega
    ·show 1+(_+_)≤100;omega
   ·show 1+_≤100;omega
 ·rw[Bg he];show 1≤100;decide
theorem Q' (x:ak) (N area:Int):∃k,k≤100∧(dR x N area).1=x.plus k:=by
 cases ha:da N x.size area with
 | false=>exact⟨0,by omega,by unfold dR;rw[ha,mn];rfl⟩
 | true=>exact⟨_,XL ha,by unfold dR;rw[ha];rfl⟩
theorem Ra (x:ak) (N area:Int):∃k,k≤100∧(bN x N area).1=x.plus k:=by
 cases ha:da N x.size area with
 | false=>exact⟨0,by omega,by unfold bN;rw[ha,mn];rfl⟩
 | true =>
  refine⟨1,by omega,?_⟩;unfold bN;rw[ha,aB rfl];split
  ·exact n9 x
  ·rw[fR (iY ha 2 0 (.inl ⟨rfl,rfl⟩))];exact n9 x
theorem aE.U8 {w:World} {D:aX} {x:ak} (h:aE w D x) {g:Nat} {cs:Array Value} (hb:ah w g 40 cs):¬D.has g:=by
 rintro(rfl | rfl | h1 | h1)
 ·exact ah.xl h.blk hb (by decide) rfl
 ·obtain⟨l,hm,_⟩:=h.lasts;exact xp hm hb rfl
 ·exact aR h.waits hb (by decide) _ h1 rfl
 ·rcases h.fails with ⟨e,_⟩ | ⟨r,k,e,h2,_⟩
  ·rw[e]at h1;cases h1
  ·rw[e]at h1;cases h1;exact xp h2 hb rfl
theorem Rb {W:World} {g:Nat} {a e f h:Value} (k:ah W g 74 #[a,e,f,h]):(loadVar 72 ⟨g,1,none⟩).run Tryz.prog W=.ok (.agg #[e,f,h]) W:=by
 refine zJ W g 1 _ [e,f,h] _ ?_ Tryz.underlying72 rfl (by show _=some 3;kernel_rfl);intro j v hj;rcases j with _ | _ | _ | j
 ·cases hj;exact k.ag 1 rfl
 ·cases hj;exact k.ag 2 rfl
 ·cases hj;exact k.ag 3 rfl
 ·simp at hj
theorem Rc {x:ak} (h:x.pU) (n q:Int) (c:UInt8):(x.fN n q c).pU:=by
 unfold ak.fN;split
 ·intro y hy;obtain⟨z,hz,rfl⟩:=dI.1 (show y∈x.waits.map (fY n q.toNat c)from hy);have:=h z hz;unfold fY;split<;>exact this
 ·exact h
theorem Hq {x:ak} (h:x.pU) (s fr:Int) (t:Nat):∀k,(eN x s fr t k).pU
 | 0=>h
 | k+1=>by
  have h2:=Hq h s fr t k;show(if mI fr t k=true then _ else _:ak).pU;split
  ·exact Rc h2 _ _ _
  ·exact h2
theorem Dl {W:World} {B:Nat} {v:Value} {l:List aI} (h:cC W B v l) (hl:l≠[]):∀g,v.ownBlock=some g→g<B:=by
 obtain⟨_,_,a,cap,rfl,h2⟩:=h;intro g hg;cases l with
 | nil=>exact absurd rfl hl
 | cons y l =>
  obtain⟨g2,e,hg2,_⟩:=h2 0 y rfl;subst e;have:g2=g:=by simpa[Value.ownBlock]using hg
  omega
theorem OA {W:World} {B:Nat} {v:Value} {l:List Int} (h:IntsIn W B v l) (hl:l≠[]):∀g,v.ownBlock=some g→g<B:=by
 obtain⟨_,a,cap,rfl,_,h2⟩:=h;intro g hg;cases l with
 | nil=>exact absurd rfl hl
 | cons y l =>
  obtain⟨g2,off,e,hg2,_⟩:=h2 0 y rfl;subst e;have:g2=g:=by simpa[Value.ownBlock]using hg
  omega
theorem OB (W:World) (t1 t2:TypeId) (z1 z2 c1 c2:Array Value):ah ((W.alloc (.cells z1 t1)).alloc (.cells z2 t2)) W.heap.size t1 z1∧ah (((W.alloc (.cells z1 t1)).alloc (.cells z2 t2)).setRow W.heap.size c1) (W.heap.size+1) t2 z2 ∧
 ah ((((W.alloc (.cells z1 t1)).alloc (.cells z2 t2)).setRow W.heap.size c1).setRow (W.heap.size+1) c2) W.heap.size t1 c1∧ah ((((W.alloc (.cells z1 t1)).alloc (.cells z2 t2)).setRow W.heap.size c1).setRow (W.heap.size+1) c2) (W.heap.size+1) t2 c2 ∧
 Below W.heap.size W ((((W.alloc (.cells z1 t1)).alloc (.cells z2 t2)).setRow W.heap.size c1).setRow (W.heap.size+1) c2):=by
 have y9:=(ah.new W t1 z1).alloc (.cells z2 t2);have Ox:=aH (ah.new2 W (.cells z1 t1) t2 z2) c1 (g':=W.heap.size) (by omega);exact⟨y9,Ox,aH (y9.row c1) c2 (g':=W.heap.size+1) (by omega),Ox.row c2,aA (aA (((ax _ W).alloc (ai _) _).alloc (by simp) _) c1 (ai _)) c2 (by omega)⟩
theorem dw.move {lo:Nat} {W W':World} {v:Value} {f:bY} {F:Nat→Prop} (h:dw lo W v f) (ho:Out F W W') (hF:∀i,lo≤i→i<W.heap.size→¬F i):dw lo W' v f:=by
 intro G W2 hg hG;have h2:=h (fun i=>F i∨(W.heap.size≤i)∨G i) W2 (Out.trans (F:=fun i=>F i∨(W.heap.size≤i)∨G i) ⟨ho.os,ho.tape,ho.output,ho.size,fun i hi hn=>ho.block i hi (fun hf=>hn (.inl hf))⟩ hg (fun i _ hi=>.inr (.inr hi))) (fun i hi hl hf=>by
  rcases hf with hf | hf | hf
  ·exact hF i hi hl hf
  ·omega
  ·exact hG i hi (by have:=ho.size;omega) hf)
 exact h2.mono ho.size
structure xJ (w:World) (XV:Array Value) (N:Int) (FA FB LV:Array Value) (W:World):Prop where
 k0:ah W w.heap.size 43 XV
 k1:ah W (w.heap.size+1) 23 #[.int .i64 N]
 k2:ah W (w.heap.size+2) 28 FA
 k3:ah W (w.heap.size+3) 28 FB
 k4:ah W (w.heap.size+4) 74 LV
 below:Below w.heap.size w W
structure vJ (w:World) (gw:Nat) (D:aX) (x:ak) (lv wv fv:Value) (y:ak) (W:World):Prop where
 disk:aE W D x
 kw:ah W gw 40 #[lv,wv,.int .i64 y.steps,fv]
 ref:bu W W.heap.size lv wv fv y
 own:∀g,(lv.ownBlock=some g∨(y.waits≠[]∧wv.ownBlock=some g)∨(y.fails≠[]∧fv.ownBlock=some g))→¬D.has g∧g≠gw∧g<W.heap.size
 new:∀i,D.has i→w.heap.size+5≤i∧i≠gw
 lo:w.heap.size+5≤gw
section
variable {w:World} {XV:Array Value} {N:Int} {FA FB LV:Array Value} {W W':World} {gw:Nat} {D D':aX} {x x' y y':ak} {lv wv fv n_ wv' tp:Value} {F:Nat→Prop}
theorem xJ.out (h:xJ w XV N FA FB LV W) (ho:Out F W W') (hF:∀i,F i→i<W.heap.size→w.heap.size+5≤i):xJ w XV N FA FB LV W':=by
 have h4:=h.k4.lt;have no:∀i,i<w.heap.size+5→¬F i:=fun i hi hf=>by have:=hF i hf (by omega);omega
 exact⟨ho.blk h.k0 (no _ (by omega)),ho.blk h.k1 (no _ (by omega)),ho.blk h.k2 (no _ (by omega)),ho.blk h.k3 (no _ (by omega)),ho.blk h.k4 (no _ (by omega)),
  (Out.trans (vq h.below (fun i hi=>hi):Out (fun i=>w.heap.size≤i) w W) ho (fun i hi hg=>absurd hg (no i (by omega)))).below (ai _) (fun i hi hg=>by omega)⟩
theorem xJ.next (h:xJ w XV N FA FB LV W) (hb:Below W.heap.size W W'):xJ w XV N FA FB LV W':=h.out (F:=fun _=>False) (aN hb) (fun _ hf _=>hf.elim)
theorem xJ.row (h:xJ w XV N FA FB LV W) (hg:w.heap.size+5≤gw) (cs:Array Value):xJ w XV N FA FB LV (W.setRow gw cs):=h.out (F:=fun i=>i=gw) (bL cs rfl) (fun i e _=>by omega)
theorem vJ.next (h:vJ w gw D x lv wv fv y W) (hb:Below W.heap.size W W'):vJ w gw D x lv wv fv y W' :=
 ⟨h.disk.below hb,h.kw.below hb h.kw.lt,(h.ref.below hb (ai _)).mono hb.size,fun g hg=>⟨(h.own g hg).1,(h.own g hg).2.1,kK (h.own g hg).2.2 hb.size⟩,h.new,h.lo⟩
theorem vJ.out (h:vJ w gw D x lv wv fv y W) (ho:Out F W W') (hF:∀i,F i→i<W.heap.size→¬D.has i∧i≠gw∧¬ (lv.ownBlock=some i∨(y.waits≠[]∧wv.ownBlock=some i)∨(y.fails≠[]∧fv.ownBlock=some i))):vJ w gw D x lv wv fv y W' :=
 ⟨h.disk.out ho (fun i hi hf=>(hF i hf (h.disk.has_lt i hi)).1 hi),ho.blk h.kw (fun hf=>(hF gw hf h.kw.lt).2.1 rfl),
  (h.ref.Dk ho (fun g hg hf=>(hF g hf (h.own g (.inl hg)).2.2).2.2 (.inl hg)) (fun g hg hf=>(hF g hf (h.own g (.inr (.inl hg))).2.2).2.2 (.inr (.inl hg))) (fun g hg hf=>(hF g hf (h.own g (.inr (.inr hg))).2.2).2.2 (.inr (.inr hg)))).mono ho.size,
  fun g hg=>⟨(h.own g hg).1,(h.own g hg).2.1,kK (h.own g hg).2.2 ho.size⟩,h.new,h.lo⟩
theorem vJ.step (h:vJ w gw D x lv wv fv y W) (hd:aE W' D' x') (hs:DStep D D' W W'):vJ w gw D' x' lv wv fv y W':=by
 have hk:=h.kw.lt;have hl:=h.lo;refine⟨hd,hs.out.blk h.kw (fun hf=>(h.new gw hf).2 rfl),(h.ref.Dk hs.out (fun g hg=>(h.own g (.inl hg)).1) (fun g hg=>(h.own g (.inr (.inl hg))).1) (fun g hg=>(h.own g (.inr (.inr hg))).1)).mono hs.out.size,fun g hg=>?_,fun i hi=>?_,h.lo⟩
 ·obtain⟨h1,h2,h3⟩:=h.own g hg;exact⟨fun hd=>(hs.lr g hd).elim h1 (fun e=>by omega),h2,kK h3 hs.out.size⟩
 ·rcases hs.lr i hi with h1 | h1
  ·exact h.new i h1
  ·exact⟨by omega,by omega⟩
theorem xJ.step (h:xJ w XV N FA FB LV W) (hd:vJ w gw D x lv wv fv y W) (hs:DStep D D' W W'):xJ w XV N FA FB LV W':=h.out hs.out (fun i hi _=>(hd.new i hi).1)
theorem vJ.br (h:vJ w gw D x lv wv fv y W) (hr:bu W W.heap.size n_ wv' tp y') (ho:∀g,(n_.ownBlock=some g∨(y'.waits≠[]∧wv'.ownBlock=some g)∨(y'.fails≠[]∧tp.ownBlock=some g))→¬D.has g∧g≠gw∧g<W.heap.size):vJ w gw D x n_ wv' tp y' (W.setRow gw #[n_,wv',.int .i64 y'.steps,tp]):=by
 have o:Out (fun i=>i=gw) W (W.setRow gw #[n_,wv',.int .i64 y'.steps,tp]):=bL _ rfl;exact⟨h.disk.out o (fun i hi e=>(h.new i hi).2 e),h.kw.row _,(hr.Dk o (fun g hg e=>(ho g (.inl hg)).2.1 e) (fun g hg e=>(ho g (.inr (.inl hg))).2.1 e) (fun g hg e=>(ho g (.inr (.inr hg))).2.1 e)).mono o.size,
  fun g hg=>⟨(ho g hg).1,(ho g hg).2.1,kK (ho g hg).2.2 o.size⟩,h.new,h.lo⟩
end
theorem Rd (s N area sb fr:Int) (tb:Nat) (vb vf ra rb:Value) (bl:List UInt8) (fs:List Int) (fa fb:bY) (w:World) (hb:BytesIn w w.heap.size vb bl) (hf:IntsIn w w.heap.size vf fs) (hfi:∀n∈fs,n≤9223372036854775807) (hfa:cL w w.heap.size ra fa) (U9:cL w w.heap.size rb fb)
 (hca:∀a c,(∃x y z,ra=.agg #[x,y,z,.slice a fa.state.length c])→c≤maxLen) (hcb:∀a c,(∃x y z,rb=.agg #[x,y,z,.slice a fb.state.length c])→c≤maxLen) (ZB:fa.ed≤9223372036854775807) (ZC:fb.ed≤9223372036854775807) (hoa:∀o∈fa.objs,o.ok∧∀x∈o.slots,ix x.v) (ky:∀o∈fb.objs,o.ok∧∀x∈o.slots,ix x.v) :
 Calls Tryz.prog 7 #[.agg #[.int .i64 s,vb,vf],.agg #[.int .i64 N],ra,rb,.agg #[.int .i64 area,.int .i64 sb,.int .i64 fr,.int .u32 tb]] w fun e w'=>e=.returned (.bool true)∧Below w.heap.size w w':=by
 have CG:=ae hb;have Bf:=ae hf;have Oo:=ae hfa;have HFB:=ae U9;obtain⟨_,ab,cb,rfl,_,_⟩:=hb;obtain⟨_,af,cf,rfl,_,_⟩:=hf;obtain⟨FA,rfl,On, -, -⟩:=oD hfa;obtain⟨FB,rfl,sFB, -, -⟩:=oD U9;have NU:=ae hfi;have HCA:=ae hca;have y_:=ae hcb;have Yc:=ae hoa;have qM:=ae ky;obtain⟨XV,ZD⟩:∃X,X=(#[.int .i64 s,.slice ab bl.length cb,.slice af fs.length cf]:Array Value):=⟨_,rfl⟩;have sXV:(Tryz.prog.info? 43).map (·.size)=some XV.size:=by rw[ZD];kernel_rfl
 have hsm:=fun W=>T1 s ab af bl.length fs.length cb cf W
 rw[←ZD]at hsm ⊢;have HXV:=ae ZD;have AY:=ae hsm;have HWA:=ae (fun W hh=>Oe fa w.heap.size (.agg FA) W hh);have HWB:=ae (fun W hh=>Oe fb w.heap.size (.agg FB) W hh);obtain⟨LV,eLV⟩:∃X,X=(#[.int .i64 area,.int .i64 sb,.int .i64 fr,.int .u32 tb]:Array Value):=⟨_,rfl⟩;have Bq:=ae eLV;rw[←eLV];obtain⟨W0,a_⟩:∃W,W=((((w.alloc (.cells XV 43)).alloc (.cells #[.int .i64 N] 23)).alloc (.cells FA 28)).alloc (.cells FB 28)).alloc (.cells LV 74):=⟨_,rfl⟩;have I0:=ae (show xJ w XV N FA FB LV W0 by
  rw[a_];exact⟨((((ah.new w _ _).alloc _).alloc _).alloc _).alloc _,(((ah.new2 w _ _ _).alloc _).alloc _).alloc _,((ah.new' (by simp)).alloc _).alloc _,(ah.new' (by simp)).alloc _,ah.new' (by simp),(((((ax _ w).alloc (ai _) _).alloc (by simp) _).alloc (by simp;omega) _).alloc (by simp;omega) _).alloc (by simp;omega) _⟩)
 clear hfi hca hcb hoa ky ZD eLV hsm hfa U9;go_enter JM,Tryz.ntmps7
 go_upto_region 1 with fail;rw[←a_];clear a_;have x0:=I0.out.k0;go_wp2_with (refine bt rfl 43 _ rfl w.heap.size rfl 43 XV (0,0) _ x0 Dt rfl sXV ?_)
 refine(AY.out W0).mono ?_;rintro e w1 ⟨rfl,hb1⟩;have I1:=ae (I0.out.next hb1);clear hb1 x0 I0;cases hsm:Ff s bl.length fs.length
 case false =>
  go_wp2_with fail;refine(vG _).mono ?_;rintro e w2 ⟨rfl,hb2⟩;go_wp2_with fail;go_ret
  exact⟨rfl,(I1.out.next hb2).below⟩
 have l1:=h_ _ _ _ I1.out.k2 On;go_wp2_with (refine aS rfl 28 _ rfl (w.heap.size+2) 0 rfl FA l1 ?_)
 refine(HWA.out w1 (Oo.out.below I1.out.below (ai _))).mono ?_;rintro e w2 ⟨rfl,hb2⟩;have I2:=ae (I1.out.next hb2);clear hb2 l1 I1;cases hwa:Qr fa
 case false =>
  go_wp2_with fail;refine(vG _).mono ?_;rintro e w3 ⟨rfl,hb3⟩;go_wp2_with fail;go_ret
  exact⟨rfl,(I2.out.next hb3).below⟩
 have l1:=h_ _ _ _ I2.out.k3 sFB;go_wp2_with (refine aS rfl 28 _ rfl (w.heap.size+3) 0 rfl FB l1 ?_)
 refine(HWB.out w2 (HFB.out.below I2.out.below (ai _))).mono ?_;rintro e w3 ⟨rfl,hb3⟩;have I3:=ae (I2.out.next hb3);clear hb3 l1 I2;cases hwb:Qr fb
 case false =>
  go_wp2_with fail;refine(vG _).mono ?_;rintro e w4 ⟨rfl,hb4⟩;go_wp2_with fail;go_ret
  exact⟨rfl,(I3.out.next hb4).below⟩
 have hsz:1≤s∧s≤60∧fs.length≤20:=by
  unfold Ff at hsm;simp only[Bool.and_eq_true,decide_eq_true_eq]at hsm;omega
 obtain⟨h1s,h2s,hfl⟩:=hsz;obtain⟨sn,rfl⟩:∃sn:Nat,s=sn:=⟨s.toNat,by omega⟩;have Fp:=Xl sn bl (by omega) (by omega);have hmk:=fun W hh=>WG sn (.slice ab bl.length cb) (.slice af fs.length cf) bl W hh (by omega) (by omega)
 obtain⟨y0,OC⟩:∃y,y=qD sn (px sn bl):=⟨_,rfl⟩;have adW:y0.steps=0:=by rw[OC];rfl
 have adX:y0.waits=[]:=by rw[OC];rfl
 have adY:y0.fails=[]:=by rw[OC];rfl
 rw[←OC]at Fp;simp only[←OC]at hmk;have hxv:(#[.int .i64 (sn:Int),.slice ab bl.length cb,.slice af fs.length cf]:Array Value)=XV:=HXV.out.symm;simp only[hxv]at hmk;unfold ptr at hmk;obtain⟨y1,n1,G1,hy1⟩:=YC N 0 fa y0 0 (by omega) Fp ZB Yc.out;obtain⟨y2,n2,G2,hy2⟩:=YC N 1 fb y1 100 (by omega) hy1 ZC qM.out;have Ku:=ae Fp;have HY1:=ae hy1;have U_:=ae hy2;have HG1:=ae G1;have HG2:=ae G2;have HMK:=ae hmk;have HY:=ae (And.intro adW (And.intro adX adY));clear Fp hy1 hy2 G1 G2 hmk OC hxv hsm hwa hwb adW adX adY ZB ZC;have x2:=I3.out.k0;go_wp2_with (refine bt rfl 43 _ rfl w.heap.size rfl 43 XV (0,0) _ x2 Dt rfl sXV ?_)
 refine(HMK.out w3 ((CG.out.below I3.out.below (ai _)).mono I3.out.below.size)).mono ?_;rintro e w5 ⟨D,lv,B,rfl,hd5,vd,hB1,hB2,hb5⟩;have hlv:=Uq vd.lasts (Fs Ku.out.ok);obtain⟨DC,ZE⟩:∃V,V=(#[lv,.slice none 0 0,.int .i64 0,.slice none 0 0]:Array Value):=⟨_,rfl⟩;obtain⟨sDC,oDC⟩:=Xk vd 0;rw[←ZE]at sDC oDC ⊢;have zDC:aM.size=DC.size:=by rw[ZE];rfl
 have HDC:=ae ZE;clear ZE x2;obtain⟨gw,Oc⟩:∃g,g=w5.heap.size:=⟨_,rfl⟩;obtain⟨W6,Fz⟩:∃W,W=w5.alloc (.cells DC 40):=⟨_,rfl⟩;have b6:Below w5.heap.size w5 W6:=by rw[Fz];exact(ax _ w5).alloc (ai _) _
 have n6:ah W6 gw 40 DC:=by rw[Fz,Oc];exact ah.new w5 _ _
 go_upto_region 4 with (refine aQ rfl 40 _ _ rfl w5.heap.size DC rfl rfl 40 _ (bC w5 _) sDC zDC oDC ?_;rw[di])
 rw[←Fz,←Oc];have h34:=I3.out.k4.lt;have h35:=hb5.size;have I6:=ae (I3.out.next (hb5.trans (b6.mono hb5.size)));have L6:=ae (show vJ w gw D y0 lv (.slice none 0 0) (.slice none 0 0) y0 W6 from⟨hd5.below b6,by rw[HY.out.1,←HDC.out];exact n6,⟨(vd.lasts.rH (aN (F:=fun _=>False) b6) (fun _ _=>id)).here,by rw[HY.out.2.1];exact QH _ _,by rw[HY.out.2.2];exact IntsIn.nil _ _⟩,
  (fun g hg=>by
   rcases hg with hg | hg | hg
   ·have:=hlv g hg;exact⟨fun hd=>by have:=hB2 g hd;omega,by omega,by have:=b6.size;omega⟩
   ·cases hg.2
   ·cases hg.2),fun i hi=>⟨by have:=hB2 i hi;omega,by have:=hd5.has_lt i hi;omega⟩,by omega⟩)
 have YN:=ae (show D.p=D.p from rfl);obtain⟨p,ep⟩:∃p,p=D.p:=⟨_,rfl⟩;rw[←ep];have EP:=ae ep;clear Fz Oc b6 n6 hd5 vd hB1 hB2 hb5 hlv zDC sDC oDC HDC HY ep I3 YN h34 h35;have l1:=h_ _ _ _ I6.out.k2 On;have c1:=I6.out.k1.ag 0 rfl;have hc:=HG1.out.w_ D (.agg FA) W6 L6.out.disk ((Oo.out.below I6.out.below (ai _)).mono I6.out.below.size) HCA.out;unfold ptr at hc;rw[←EP.out]at hc;go_wp2_with (refine aS rfl 28 _ rfl (w.heap.size+2) 0 rfl FA l1 ?_)
 refine hc.mono ?_;rintro e w7 ⟨rfl,D7,hd,hs⟩;have I7:=ae (I6.out.step L6.out hs);have L7:=ae (L6.out.step hd hs);replace EP:=ae (EP.out.trans hs.same.symm);clear hc hd hs l1 c1 I6 L6;have l1:=h_ _ _ _ I7.out.k3 sFB;have c1:=I7.out.k1.ag 0 rfl;have hc:=HG2.out.w_ D7 (.agg FB) w7 L7.out.disk ((HFB.out.below I7.out.below (ai _)).mono I7.out.below.size) y_.out;unfold ptr at hc;rw[←EP.out]at hc;go_wp2_with (refine aS rfl 28 _ rfl (w.heap.size+3) 0 rfl FB l1 ?_)
 refine hc.mono ?_;rintro e w8 ⟨rfl,D8,hd,hs⟩;have I8:=ae (I7.out.step L7.out hs);have L8:=ae (L7.out.step hd hs);replace EP:=ae (EP.out.trans hs.same.symm);clear hc hd hs l1 c1 I7 L7;have l1:=h_ _ _ _ I8.out.k2 On;have c1:=I8.out.k1.ag 0 rfl;have kk:=L8.out.kw;have hc:=HG1.out.rw_ lv (Value.slice none 0 0) (Value.slice none 0 0) (.agg FA) w8 L8.out.ref ((Oo.out.below I8.out.below (ai _)).mono I8.out.below.size);go_wp2_with (first
  | (refine bt rfl 40 _ rfl gw rfl 40 #[lv,(Value.slice none 0 0),.int .i64 y0.steps,(Value.slice none 0 0)] (0,0) _ kk bV rfl (au _ _ _ _) ?_)
  | (refine aS rfl 28 _ rfl (w.heap.size+2) 0 rfl FA l1 ?_))
 refine hc.mono ?_;rintro e w8b ⟨wv1,rfl,hr,hb,hwv⟩;have hlt:=L8.out.kw.lt;have HV1:=ae (show ∀g,wv1.ownBlock=some g→w8.heap.size≤g from fun g hg=>(hwv g hg).elim (fun h=>by rw[h]at hg;cases hg) id);have Uo:=ae (show(∀i,D8.has i→i<w8.heap.size)∧gw<w8.heap.size from⟨L8.out.disk.has_lt,hlt⟩);have ZF:=ae (L8.out.next hb);have I8b:=ae (I8.out.next hb);have hon:=hr.one y1.steps;have HRR:=ae hr;have HOW:=ae (show ∀g,(lv.ownBlock=some g∨(y1.waits≠[]∧wv1.ownBlock=some g)∨(y1.fails≠[]∧(Value.slice none 0 0).ownBlock=some g))→¬D8.has g∧g≠gw∧g<w8b.heap.size from fun g hg=>by
  have hsz:=hb.size;rcases hg with hg | hg | hg
  ·have h1:=L8.out.own g (.inl hg);exact⟨h1.1,h1.2.1,by omega⟩
  ·have hb2:=Dl hr.waits hg.1 g hg.2;rcases hwv g hg.2 with h | h
   ·rw[h]at hg;cases hg.2
   ·exact⟨fun hd=>by have:=L8.out.disk.has_lt g hd;omega,by omega,hb2⟩
  ·cases hg.2)
 have L9:=ae (ZF.out.br HRR.out HOW.out);have I9:=ae (I8b.out.row (gw:=gw) ZF.out.lo #[lv,wv1,.int .i64 y1.steps,(Value.slice none 0 0)]);have kb:=ZF.out.kw;go_upto_region 7 with (refine aQ rfl 40 _ _ rfl gw #[lv,wv1,.int .i64 y1.steps,(Value.slice none 0 0)] rfl rfl 40 _ kb (au _ _ _ _) rfl hon ?_)
 generalize w8b.setRow gw #[lv,wv1,.int .i64 y1.steps,(Value.slice none 0 0)]=w9 at *;clear kb hon HRR HOW hr hb ZF I8b L8 I8 hc l1 c1 kk hlt hwv;have l1:=h_ _ _ _ I9.out.k3 sFB;have c1:=I9.out.k1.ag 0 rfl;have kk:=L9.out.kw;have hc:=HG2.out.rw_ lv wv1 (Value.slice none 0 0) (.agg FB) w9 L9.out.ref ((HFB.out.below I9.out.below (ai _)).mono I9.out.below.size);go_wp2_with (first
  | (refine bt rfl 40 _ rfl gw rfl 40 #[lv,wv1,.int .i64 y1.steps,(Value.slice none 0 0)] (0,0) _ kk bV rfl (au _ _ _ _) ?_)
  | (refine aS rfl 28 _ rfl (w.heap.size+3) 0 rfl FB l1 ?_))
 refine hc.mono ?_;rintro e w9b ⟨wv2,rfl,hr,hb,hwv⟩;have hlt:=L9.out.kw.lt;have ZG:=ae (L9.out.next hb);have I9b:=ae (I9.out.next hb);have hon:=hr.one y2.steps;have HRR:=ae hr;have HOW:=ae (show ∀g,(lv.ownBlock=some g∨(y2.waits≠[]∧wv2.ownBlock=some g)∨(y2.fails≠[]∧(Value.slice none 0 0).ownBlock=some g))→¬D8.has g∧g≠gw∧g<w9b.heap.size from fun g hg=>by
  have hsz:=hb.size;rcases hg with hg | hg | hg
  ·have h1:=L9.out.own g (.inl hg);exact⟨h1.1,h1.2.1,by omega⟩
  ·have hb2:=Dl hr.waits hg.1 g hg.2;rcases hwv g hg.2 with h | h
   ·have h9:=HV1.out g (by rw[←h];exact hg.2);have h10:=Uo.out.2;exact⟨fun hd=>by have:=Uo.out.1 g hd;omega,by omega,hb2⟩
   ·exact⟨fun hd=>by have:=L9.out.disk.has_lt g hd;omega,by omega,hb2⟩
  ·cases hg.2)
 have uY:=ae (ZG.out.br HRR.out HOW.out);have qT:=ae (I9b.out.row (gw:=gw) ZG.out.lo #[lv,wv2,.int .i64 y2.steps,(Value.slice none 0 0)]);have kb:=ZG.out.kw;go_upto_region 8 with (refine aQ rfl 40 _ _ rfl gw #[lv,wv2,.int .i64 y2.steps,(Value.slice none 0 0)] rfl rfl 40 _ kb (au _ _ _ _) rfl hon ?_)
 generalize w9b.setRow gw #[lv,wv2,.int .i64 y2.steps,(Value.slice none 0 0)]=YP at *;clear kb hon HRR HOW hr hb ZG I9b L9 I9 hc l1 c1 kk hlt hwv;have hlt:=uY.out.kw.lt;have c1:=qT.out.k1.ag 0 rfl;have kk:=uY.out.kw;have lb:=Rb (show ah YP (w.heap.size+4) 74 #[.int .i64 area,.int .i64 sb,.int .i64 fr,.int .u32 tb]by rw[←Bq.out];exact qT.out.k4);have hc:=UY (fun g=>g≠gw) sb fr tb D8 y2 y2 lv wv2 (Value.slice none 0 0) YP uY.out.disk U_.out.ok uY.out.ref U_.out.ok rfl (fun g hg=>⟨(uY.out.own g (.inl hg)).1,(uY.out.own g (.inl hg)).2.2,(uY.out.own g (.inl hg)).2.1⟩)
  (fun g hg=>⟨(uY.out.own g (.inr (.inl hg))).1,(uY.out.own g (.inr (.inl hg))).2.2,(uY.out.own g (.inr (.inl hg))).2.1⟩) (fun g hg=>by cases hg) (fun k _=>XI _)
 obtain⟨y3,OD⟩:∃y,y=eN y2 sb fr tb 32:=⟨_,rfl⟩;have XM:y3.steps=y2.steps:=by rw[OD];exact(qR y2 sb fr tb 32).2
 have ajd:y3.size=y2.size:=by rw[OD];exact(qR y2 sb fr tb 32).1
 have ad1:y3.ok:=by rw[OD];exact yE U_.out.ok sb fr tb 32
 have ad2:y3.pU:=by rw[OD];exact Hq U_.out.pU sb fr tb 32
 rw[←OD]at hc;have n7:=ae (And.intro ad1 (And.intro ad2 (show y3.steps≤200 by rw[XM];exact U_.out.steps)));unfold ptr at hc;rw[←EP.out]at hc;clear OD ajd ad1 ad2;have aje:=ae XM;clear XM;go_wp2_with (first
  | (refine bt rfl 40 _ rfl gw rfl 40 #[lv,wv2,.int .i64 y2.steps,(Value.slice none 0 0)] (0,0) _ kk bV rfl (au _ _ _ _) ?_)
  | (refine aS rfl 72 _ rfl (w.heap.size+4) 1 rfl #[.int .i64 sb,.int .i64 fr,.int .u32 tb] lb ?_))
 refine hc.mono ?_;rintro e Ms ⟨kC,kD,rfl,hr,hd,hs,ho⟩;rw[←aje.out];have ad3:=ae (qT.out.step uY.out hs);have ad4:=ae (uY.out.step hd hs);have hb:Below Ms.heap.size Ms Ms:=ax _ _;clear hc c1 kk lb;replace qT:=ad3;replace uY:=ad4;clear ad3 ad4;have Re:=ae (uY.out.next hb);have ad5:=ae (qT.out.next hb);have hon:=hr.one y3.steps;have HRR:=ae hr;have HOW:=ae (show ∀g,(kC.ownBlock=some g∨(y3.waits≠[]∧kD.ownBlock=some g)∨(y3.fails≠[]∧(Value.slice none 0 0).ownBlock=some g))→¬D8.has g∧g≠gw∧g<Ms.heap.size from fun g hg=>by
  have hsz:=hs.out.size;rcases hg with hg | hg | hg
  ·have h1:=ho g (.inl hg);exact⟨h1.1,fun e=>by have:=h1.2;omega,(Uq hr.lasts (Fs n7.out.1) g hg).1⟩
  ·have h1:=ho g (.inr hg);exact⟨h1.1,fun e=>by have:=h1.2;omega,Dl hr.waits hg.1 g hg.2⟩
  ·cases hg.2)
 have U':=ae (Re.out.br HRR.out HOW.out);have Va:=ae (ad5.out.row (gw:=gw) Re.out.lo #[kC,kD,.int .i64 y3.steps,(Value.slice none 0 0)]);have kb:=Re.out.kw;go_upto_region 9 with (refine aQ rfl 40 _ _ rfl gw #[kC,kD,.int .i64 y3.steps,(Value.slice none 0 0)] rfl rfl 40 _ kb (au _ _ _ _) rfl hon ?_)
 generalize Ms.setRow gw #[kC,kD,.int .i64 y3.steps,(Value.slice none 0 0)]=Up at *;clear kb hon HRR HOW hr hb Re ad5 uY qT hlt hd hs ho;have ad6:fs≠[]→∀g,(Value.slice af fs.length cf).ownBlock=some g→g<w.heap.size:=fun hne g hg=>OA Bf.out hne g hg
 have hc:=Ur D8 y3 (.slice af fs.length cf) fs Up U'.out.disk n7.out.1 ((Bf.out.below Va.out.below (ai _)).mono Va.out.below.size) (fun hne g hg hd=>by have:=ad6 hne g hg;have:=(U'.out.new g hd).1;omega) NU.out (by omega);unfold ptr at hc;rw[←EP.out]at hc;have cX:Up.cell? ⟨w.heap.size,2,none⟩=some (.slice af fs.length cf):=by
  have h:=Va.out.k0;rw[HXV.out]at h;exact h.ag 2 rfl
 obtain⟨y4,Vb⟩:∃y,y=failed y3 fs:=⟨_,rfl⟩;have Hb:=ae (show y4.steps=y3.steps∧y4.waits=y3.waits by rw[Vb];unfold failed;split<;>exact⟨rfl,rfl⟩);have yI:=ae (show y4.ok∧y4.pU by rw[Vb];unfold failed;split<;>exact⟨n7.out.1,n7.out.2.1⟩);have EY4:=ae Vb;rw[←Vb]at hc;clear Vb ad6;go_wp2_with fail;refine hc.mono ?_;rintro e CI ⟨ge,FC,rfl, -,hd,hs⟩;have Vc:=ae (Va.out.step U'.out hs);have Hr:=ae (U'.out.step hd hs);replace EP:=ae (EP.out.trans hs.same.symm);clear hc hd hs cX Va U';have hlt:=Hr.out.kw.lt;have kk:=Hr.out.kw;have cX:CI.cell? ⟨w.heap.size,2,none⟩=some (.slice af fs.length cf):=by
  have h:=Vc.out.k0;rw[HXV.out]at h;exact h.ag 2 rfl
 have hc:=QI y3 kC kD (Value.slice none 0 0) (.slice af fs.length cf) fs CI Hr.out.ref n7.out.1 ((Bf.out.below Vc.out.below (ai _)).mono Vc.out.below.size) NU.out (by omega);rw[←EY4.out]at hc;go_wp2_with (refine bt rfl 40 _ rfl gw rfl 40 #[kC,kD,.int .i64 y3.steps,(Value.slice none 0 0)] (0,0) _ kk bV rfl (au _ _ _ _) ?_)
 refine hc.mono ?_;rintro e ad7 ⟨fv,er,rfl,hr,ho,hb⟩;rw[←Hb.out.1];have ZH:∀i,FC.has i→i<CI.heap.size:=Hr.out.disk.has_lt;have Rf:=ae (Hr.out.next hb);have ad8:=ae (Vc.out.next hb);have hon:=hr.one y4.steps;have HRR:=ae hr;have HOW:=ae (show ∀g,(kC.ownBlock=some g∨(y4.waits≠[]∧kD.ownBlock=some g)∨(y4.fails≠[]∧fv.ownBlock=some g))→¬FC.has g∧g≠gw∧g<ad7.heap.size from fun g hg=>by
  have hsz:=hb.size;rcases hg with hg | hg | hg
  ·have h1:=Hr.out.own g (.inl hg);exact⟨h1.1,h1.2.1,by omega⟩
  ·have h1:=Hr.out.own g (.inr (.inl ⟨by rw[←Hb.out.2];exact hg.1,hg.2⟩));exact⟨h1.1,h1.2.1,by omega⟩
  ·rcases ho g hg.2 with h | h
   ·cases h
   ·exact⟨fun hd=>by have:=ZH g hd;omega,by omega,OA hr.fails hg.1 g hg.2⟩)
 have Bu:=ae (Rf.out.br HRR.out HOW.out);have I13:=ae (ad8.out.row (gw:=gw) Rf.out.lo #[kC,kD,.int .i64 y4.steps,fv]);have kb:=Rf.out.kw;go_upto_region 11 with (refine aQ rfl 40 _ _ rfl gw #[kC,kD,.int .i64 y4.steps,fv] rfl rfl 40 _ kb (au _ _ _ _) rfl hon ?_)
 generalize ad7.setRow gw #[kC,kD,.int .i64 y4.steps,fv]=qF at *;clear kb hon HRR HOW hr hb Rf ad8 Hr Vc hc kk cX hlt ho ZH;have NW:=ae (show ∀X,aE X FC y4→Calls Tryz.prog 30 #[.pointer (some ⟨p,0,none⟩)] X fun e w'=>∃C:aX,e=.returned (.pointer (some ⟨C.p,0,none⟩))∧aE w' C y4∧(∀i,C.has i→X.heap.size≤i)∧Below X.heap.size X w' from fun X h=>by
  have hc:=U5 FC y4 X h yI.out.1;unfold ptr at hc;rw[←EP.out]at hc;exact hc)
 have jx:=ae (show(∀i,FC.has i→i<qF.heap.size)∧gw<qF.heap.size∧(∀g,(kC.ownBlock=some g∨(y4.waits≠[]∧kD.ownBlock=some g)∨(y4.fails≠[]∧fv.ownBlock=some g))→g<qF.heap.size)∧w.heap.size+5≤qF.heap.size from
  ⟨Bu.out.disk.has_lt,Bu.out.kw.lt,fun g hg=>(Bu.out.own g hg).2.2,by have:=Bu.out.kw.lt;have:=Bu.out.lo;omega⟩)
 have hon:=Bu.out.ref.one y4.steps;refine jb (fun X=>Below qF.heap.size qF X) (fun _=>True) 100 (ax _ qF).drew trivial fun hHeld hJ=>?_;refine jk false 0 ?_;refine jy false 2 rfl (cY (by rfl) 40 _ rfl gw 0 rfl [kC,kD,.int .i64 y4.steps,fv] _ (fun X h=>by have:=dt (Bu.out.kw.below h.1 Bu.out.kw.lt);simpa using this) bV rfl (au _ _ _ _)) ?_;refine rp [(1,[],[],false),(3,[],[],false),(4,[(1,some 94),(3,some 16)],[1],false),(5,[(1,some 94),(3,some 16),(4,some 15)],[3],false)]
  (fun | 3=>[5] | _=>[])
  (fun | 1=>fun vs X=>∃C:aX,vs 1=.pointer (some ⟨C.p,0,none⟩)∧aE X C y4∧∀i,C.has i→qF.heap.size≤i | 3=>fun vs X=>∃g,vs 3=.pointer (some ⟨g,0,none⟩)∧qF.heap.size≤g∧ah X g 40 aM | 4=>fun vs _=>vs 4=vs 1 | 5=>fun vs X=>∃g,vs 3=.pointer (some ⟨g,0,none⟩)∧qF.heap.size≤g∧ah X g 40 #[kC,kD,.int .i64 y4.steps,fv] | _=>fun _ _=>True)
  (fun | 5=>fun _ X Z=>∃g cs,ah X g 40 cs∧Out (fun i=>i=g) X Z | _=>fun _ X Z=>Below X.heap.size X Z)
  [(1,some 94),(3,some 16),(4,some 15),(5,none)] [1,4,5] [(1,[3]),(3,[1]),(5,[1,4])] ?_ ?_ ?_ ?_
 ·exact⟨⟨fun vs X Z hE _ _ ⟨g,e,l,b⟩=>⟨g,e,l,b.below hE b.lt⟩,trivial⟩,⟨fun vs X Z hE _ _ ⟨C,e,d,l⟩=>⟨C,e,d.below hE,l⟩,trivial⟩,⟨fun vs X Z ⟨g1,cs,h1,h2⟩ _ _ ⟨C,e,d,l⟩=>⟨C,e,d.out h2 (fun i hi e=>d.U8 h1 (by rw[←e];exact hi)),l⟩,fun _ _ _ _ _ _ h=>h,trivial⟩,trivial⟩
 ·exact cc (cc (cc (cc cn)))
 ·refine oc ?_ (oc ?_ (oc ?_ (oc ?_ on)))
  ·intro vs X K hS _ _ hK;simp only[puts,Act.put,l_,me,mf,mh,mi,mj];go_simp;refine(NW.out X (Bu.out.disk.below hS)).mono ?_;rintro r Z ⟨C,rfl,hd,hn,hb⟩;exact hK.out _ _ _ rfl (Aa hS (hb.mono (kR hS))) (.inr id) ⟨C,rfl,hd,fun i hi=>by have:=hn i hi;have:=kR hS;omega⟩ hb
  ·intro vs X K hS _ _ hK;simp only[puts,Act.put,l_,me,mf,mh,mi,mj];go_simp;exact hK.out _ _ _ rfl (DU hS (kR hS) _) (.inr id) ⟨X.heap.size,rfl,kR hS,ah.new X _ _⟩ ((ax X.heap.size X).alloc (ai _) _)
  ·intro vs X K hS _ hP hK;simp only[puts,Act.put,l_,me,mf,mh,mi,mj];go_simp;exact hK.out _ _ _ (by simp only[puts,Act.put,l_,me,mf,mh,mi,mj]) hS (.inr id) rfl rfl
  ·intro vs X K hS _ hP hK;refine Exists.elim (show ∃g,vs 3=.pointer (some ⟨g,0,none⟩)∧qF.heap.size≤g∧ah X g 40 aM from hP.1) fun g Tj=>?_;obtain⟨e12,hg0,hB⟩:=Tj;clear hP;simp only[puts,Act.put,l_,me,mf,mh,mi,mj,e12];rw[aB (by rfl)];refine ez 40 _ _ rfl g #[kC,kD,.int .i64 y4.steps,fv] rfl rfl 40 aM hB (au _ _ _ _) rfl hon ?_;exact hK.out _ undef _ (by simp only[puts,Act.put,l_,me,mf,mh,mi,mj,e12]) (aA hS _ hg0) (.inr id) ⟨g,by rw[upd_ne (by decide)];exact e12,hg0,ah.row hB _⟩ ⟨g,_,hB,bL _ rfl⟩
 intro vs Q hq hP;obtain⟨⟨C,e1,ZI,hCl⟩,e4,⟨g16,e3,l16,b16⟩, -⟩:=hP;have e1:vs 1=.pointer (some ⟨C.p,0,none⟩):=e1;have e3:vs 3=.pointer (some ⟨g16,0,none⟩):=e3;have e4:vs 4=.pointer (some ⟨C.p,0,none⟩):=(show vs 4=vs 1 from e4).trans e1;simp only[puts,Act.put,l_,me,mf,mh,mi,mj,e1,e3,e4];obtain⟨cp,ecp⟩:∃q,q=C.p:=⟨_,rfl⟩;rw[←ecp];have EC:=ae ecp;have I:=ae (I13.out.next hq);have L:=ae (Bu.out.next hq);have HC:=ae ZI;have Bv:=ae (show ∀i,C.has i→qF.heap.size≤i∧i<Q.heap.size from fun i hi=>⟨hCl i hi,ZI.has_lt i hi⟩);have fP:=ae b16;have ajf:=ae (show ¬C.has g16 from ZI.U8 b16);have HQ:=ae (show qF.heap.size≤Q.heap.size from hq.size);have Rg:=ae l16;clear ZI hCl b16 e1 e3 e4 ecp hq l16 hHeld hJ NW hon Bu I13;have ajg:=ae (show qF.heap.size≤g16 from Rg.out);have c1:=I.out.k1.ag 0 rfl;have c4:Q.cell? ⟨w.heap.size+4,0,none⟩=some (.int .i64 area):=by
  have h:=I.out.k4;rw[Bq.out]at h;exact h.ag 0 rfl
 have hc:=UO y4 kC kD fv N area Q L.out.ref yI.out.1 (by have:=Hb.out.1;have:=n7.out.2.2;omega);have kk:=L.out.kw;obtain⟨no1,e1⟩:∃n,n=(dR y4 N area).2.2:=⟨_,rfl⟩;obtain⟨ya,e2⟩:∃y,y=(dR y4 N area).1:=⟨_,rfl⟩;obtain⟨f1,e3⟩:∃f,f=(dR y4 N area).2.1:=⟨_,rfl⟩;rw[←e1,←e2,←e3]at hc;have ajh:=ae e1;have Eya:=ae e2;have Ef1:=ae e3;clear e1 e2 e3;go_wp2_with (refine bt rfl 40 _ rfl gw rfl 40 #[kC,kD,.int .i64 y4.steps,fv] (0,0) _ kk bV rfl (au _ _ _ _) ?_)
 refine hc.mono ?_;rintro e yJ ⟨v,rfl,hv,hb⟩;clear hc kk c1 c4;obtain⟨V1,rfl,sV1,oV,zV⟩:=oD hv.E1;have Cp:=ae (show Q.heap.size≤Q.heap.size from ai _);replace fP:=ae (fP.out.below hb fP.out.lt);replace HC:=ae (HC.out.below hb);replace I:=ae (I.out.next hb);replace L:=ae (L.out.next hb);have kl:=ae (show dw Q.heap.size yJ (.agg V1) f1 from hv);have ad_:=Cp;have oR:=L.out.ref.one ya.steps;obtain⟨R1,Bw⟩:∃R:Array Value,R=#[kC,kD,.int .i64 ya.steps,fv]:=⟨_,rfl⟩;rw[←Bw]at oR ⊢;have sR:(Tryz.prog.info? 40).map (·.size)=some R1.size:=by rw[Bw];exact au _ _ _ _
 have zR:aM.size=R1.size:=by rw[Bw];rfl
 have ER:=ae Bw;clear Bw;obtain⟨n1,n2,n3,n4,n5⟩:=OB yJ 40 28 aM aF R1 V1;go_upto_region 13 with (first
  | (refine aQ rfl 40 _ _ rfl yJ.heap.size R1 rfl rfl 40 aM n1 sR zR oR ?_)
  | (refine aQ rfl 28 _ _ rfl (yJ.heap.size+1) V1 rfl rfl 28 aF n2 sV1 zV oV ?_))
 obtain⟨Mt,eX⟩:∃X,X=(((yJ.alloc (.cells aM 40)).alloc (.cells aF 28)).setRow yJ.heap.size R1).setRow (yJ.heap.size+1) V1:=⟨_,rfl⟩;rw[←eX]at n3 n4 n5 ⊢;rw[ER.out]at n3;replace fP:=ae (fP.out.below n5 fP.out.lt);replace kl:=ae (kl.out.move (F:=fun _=>False) (aN n5) (fun _ _ _ h=>h));replace HC:=ae (HC.out.below n5);replace I:=ae (I.out.next n5);replace L:=ae (L.out.next n5);obtain⟨g18,e2⟩:∃g,g=yJ.heap.size+1:=⟨_,rfl⟩;obtain⟨g17,e1⟩:∃g,g=yJ.heap.size:=⟨_,rfl⟩;have dZ:=ae (show ah Mt g17 40 #[kC,kD,.int .i64 ya.steps,fv]by rw[e1];exact n3);have d_:=ae (show ah Mt g18 28 V1 by rw[e2];exact n4);have ZJ:=ae (show Q.heap.size≤g17 by have:=hb.size;have:=Cp.out;omega);have ZK:=ae (show Q.heap.size≤g18 by have:=hb.size;have:=Cp.out;omega);have Rh:=ae (show Q.heap.size≤Mt.heap.size by have:=hb.size;have:=n5.size;have:=Cp.out;omega);rw[←e2,←e1];clear eX e1 e2 n1 n2 n3 n4 n5 hv hb ER sR zR oR oV zV;have c1:=I.out.k1.ag 0 rfl;have c4:Mt.cell? ⟨w.heap.size+4,0,none⟩=some (.int .i64 area):=by
  have h:=I.out.k4;rw[Bq.out]at h;exact h.ag 0 rfl
 have hc:=U7 FC y4 N area Mt L.out.disk yI.out.1 (by have:=Hb.out.1;have:=n7.out.2.2;omega);rw[←ajh.out,←Eya.out,←Ef1.out,show ptr FC.p=.pointer (some ⟨p,0,none⟩)by unfold ptr;rw[EP.out]]at hc;go_wp2_with fail;refine hc.mono ?_;rintro e Bx ⟨v,rfl,hv,hd,hs⟩;clear hc c1 c4;obtain⟨V2,rfl,sV2,oV,zV⟩:=oD hv.E1;replace fP:=ae (hs.out.blk fP.out (fun hf=>by have:=jx.out.1 _ hf;have:=ajg.out;have:=HQ.out;have:=Rg.out;omega));replace dZ:=ae (hs.out.blk dZ.out (fun hf=>by have:=jx.out.1 _ hf;have:=ZJ.out;have:=HQ.out;have:=Rg.out;omega));replace d_:=ae (hs.out.blk d_.out (fun hf=>by have:=jx.out.1 _ hf;have:=ZK.out;have:=HQ.out;have:=Rg.out;omega));replace kl:=ae (kl.out.move hs.out (fun i h1 h2 hf=>by have:=jx.out.1 _ hf;have:=ad_.out;have:=HQ.out;omega));replace HC:=ae (HC.out.out hs.out (fun i hi hf=>by have:=jx.out.1 _ hf;have:=Bv.out i hi;omega));have iR:=ae (show dw Mt.heap.size Bx (.agg V2) f1 from hv);have aeJ:=ae (show Q.heap.size≤Mt.heap.size from Rh.out);replace I:=ae (I.out.step L.out hs);replace L:=ae (L.out.step hd hs);go_upto_region 14 with (refine aQ rfl 28 _ _ rfl Bx.heap.size V2 rfl rfl 28 _ (bC Bx _) sV2 zV oV ?_;rw[di])
 obtain⟨Mu,eX⟩:∃X,X=Bx.alloc (.cells V2 28):=⟨_,rfl⟩;have hb:Below Bx.heap.size Bx Mu:=by rw[eX];exact(ax _ _).alloc (ai _) _
 have nb:ah Mu Bx.heap.size 28 V2:=by rw[eX];exact ah.new _ _ _
 rw[←eX];replace fP:=ae (fP.out.below hb fP.out.lt);replace dZ:=ae (dZ.out.below hb dZ.out.lt);replace d_:=ae (d_.out.below hb d_.out.lt);replace kl:=ae (kl.out.move (F:=fun _=>False) (aN hb) (fun _ _ _ h=>h));replace iR:=ae (iR.out.move (F:=fun _=>False) (aN hb) (fun _ _ _ h=>h));replace HC:=ae (HC.out.below hb);replace I:=ae (I.out.next hb);replace L:=ae (L.out.next hb);obtain⟨g20,e1⟩:∃g,g=Bx.heap.size:=⟨_,rfl⟩;rw[←e1]at nb ⊢;have fB:=ae nb;have aeK:=ae (show Q.heap.size≤g20 by have:=hs.out.size;have:=Rh.out;omega);have aeL:=ae (show Q.heap.size≤Mu.heap.size by have:=hs.out.size;have:=hb.size;have:=Rh.out;omega);clear eX e1 nb hb hv hd hs oV zV;have c1:=I.out.k1.ag 0 rfl;have c4:Mu.cell? ⟨w.heap.size+4,0,none⟩=some (.int .i64 area):=by
  have h:=I.out.k4;rw[Bq.out]at h;exact h.ag 0 rfl
 have hc:=Hf y4 kC kD fv N area Mu L.out.ref yI.out.1;have kk:=fP.out;obtain⟨no2,e1⟩:∃n,n=(bN y4 N area).2.2:=⟨_,rfl⟩;obtain⟨yb,e2⟩:∃y,y=(bN y4 N area).1:=⟨_,rfl⟩;obtain⟨f2,e3⟩:∃f,f=(bN y4 N area).2.1:=⟨_,rfl⟩;rw[←e1,←e2,←e3]at hc;have aji:=ae e1;have Eyb:=ae e2;have Ef2:=ae e3;clear e1 e2 e3;go_wp2_with (refine bt rfl 40 _ rfl g16 rfl 40 #[kC,kD,.int .i64 y4.steps,fv] (0,0) _ kk bV rfl (au _ _ _ _) ?_)
 refine hc.mono ?_;rintro e yK ⟨v,rfl,hv, -,hb⟩;clear hc kk c1 c4;obtain⟨V3,rfl,sV3,oV,zV⟩:=oD hv.E1;have ZL:=ae (show Q.heap.size≤Mu.heap.size from aeL.out);replace fP:=ae (fP.out.below hb fP.out.lt);replace dZ:=ae (dZ.out.below hb dZ.out.lt);replace d_:=ae (d_.out.below hb d_.out.lt);replace fB:=ae (fB.out.below hb fB.out.lt);replace kl:=ae (kl.out.move (F:=fun _=>False) (aN hb) (fun _ _ _ h=>h));replace iR:=ae (iR.out.move (F:=fun _=>False) (aN hb) (fun _ _ _ h=>h));replace HC:=ae (HC.out.below hb);replace I:=ae (I.out.next hb);replace L:=ae (L.out.next hb);have oa:=ae (show dw Mu.heap.size yK (.agg V3) f2 from hv);have ajj:=ZL;have oR:=L.out.ref.one yb.steps;obtain⟨R1,Bw⟩:∃R:Array Value,R=#[kC,kD,.int .i64 yb.steps,fv]:=⟨_,rfl⟩;rw[←Bw]at oR ⊢;have sR:(Tryz.prog.info? 40).map (·.size)=some R1.size:=by rw[Bw];exact au _ _ _ _
 have zR:aM.size=R1.size:=by rw[Bw];rfl
 have ER:=ae Bw;clear Bw;obtain⟨n1,n2,n3,n4,n5⟩:=OB yK 40 28 aM aF R1 V3;go_upto_region 15 with (first
  | (refine aQ rfl 40 _ _ rfl yK.heap.size R1 rfl rfl 40 aM n1 sR zR oR ?_)
  | (refine aQ rfl 28 _ _ rfl (yK.heap.size+1) V3 rfl rfl 28 aF n2 sV3 zV oV ?_))
 obtain⟨Vd,eX⟩:∃X,X=(((yK.alloc (.cells aM 40)).alloc (.cells aF 28)).setRow yK.heap.size R1).setRow (yK.heap.size+1) V3:=⟨_,rfl⟩;rw[←eX]at n3 n4 n5 ⊢;rw[ER.out]at n3;replace fP:=ae (fP.out.below n5 fP.out.lt);replace dZ:=ae (dZ.out.below n5 dZ.out.lt);replace d_:=ae (d_.out.below n5 d_.out.lt);replace fB:=ae (fB.out.below n5 fB.out.lt);replace kl:=ae (kl.out.move (F:=fun _=>False) (aN n5) (fun _ _ _ h=>h));replace iR:=ae (iR.out.move (F:=fun _=>False) (aN n5) (fun _ _ _ h=>h));replace oa:=ae (oa.out.move (F:=fun _=>False) (aN n5) (fun _ _ _ h=>h));replace HC:=ae (HC.out.below n5);replace I:=ae (I.out.next n5);replace L:=ae (L.out.next n5);obtain⟨g23,e2⟩:∃g,g=yK.heap.size+1:=⟨_,rfl⟩;obtain⟨g22,e1⟩:∃g,g=yK.heap.size:=⟨_,rfl⟩;have g_:=ae (show ah Vd g22 40 #[kC,kD,.int .i64 yb.steps,fv]by rw[e1];exact n3);have hM:=ae (show ah Vd g23 28 V3 by rw[e2];exact n4);have aeM:=ae (show Q.heap.size≤g22 by have:=hb.size;have:=ZL.out;omega);have aeN:=ae (show Q.heap.size≤g23 by have:=hb.size;have:=ZL.out;omega);have ZM:=ae (show Q.heap.size≤Vd.heap.size by have:=hb.size;have:=n5.size;have:=ZL.out;omega);rw[←e2,←e1];clear eX e1 e2 n1 n2 n3 n4 n5 hv hb ER sR zR oR oV zV;have c1:=I.out.k1.ag 0 rfl;have c4:Vd.cell? ⟨w.heap.size+4,0,none⟩=some (.int .i64 area):=by
  have h:=I.out.k4;rw[Bq.out]at h;exact h.ag 0 rfl
 have hc:=UC C y4 N area Vd HC.out yI.out.1;rw[←aji.out,←Eyb.out,←Ef2.out,show ptr C.p=.pointer (some ⟨cp,0,none⟩)by unfold ptr;rw[EC.out]]at hc;go_wp2_with fail;refine hc.mono ?_;rintro e yL ⟨v,rfl,hv,hd,hs⟩;clear hc c1 c4;obtain⟨V4,rfl,sV4,oV,zV⟩:=oD hv;replace fP:=ae (hs.out.blk fP.out (fun hf=>ajf.out hf));replace dZ:=ae (hs.out.blk dZ.out (fun hf=>by have:=(Bv.out _ hf).2;have:=ZJ.out;omega));replace d_:=ae (hs.out.blk d_.out (fun hf=>by have:=(Bv.out _ hf).2;have:=ZK.out;omega));replace fB:=ae (hs.out.blk fB.out (fun hf=>by have:=(Bv.out _ hf).2;have:=aeK.out;omega));replace g_:=ae (hs.out.blk g_.out (fun hf=>by have:=(Bv.out _ hf).2;have:=aeM.out;omega));replace hM:=ae (hs.out.blk hM.out (fun hf=>by have:=(Bv.out _ hf).2;have:=aeN.out;omega));replace kl:=ae (kl.out.move hs.out (fun i h1 h2 hf=>by have:=(Bv.out _ hf).2;have:=ad_.out;omega));replace iR:=ae (iR.out.move hs.out (fun i h1 h2 hf=>by have:=(Bv.out _ hf).2;have:=aeJ.out;omega));replace oa:=ae (oa.out.move hs.out (fun i h1 h2 hf=>by have:=(Bv.out _ hf).2;have:=ajj.out;omega));replace I:=ae (I.out.out hs.out (fun i hf _=>by have:=(Bv.out _ hf).1;have:=jx.out.2.2.2;omega));replace L:=ae (L.out.out hs.out (fun i hf _=>by have h1:=(Bv.out _ hf).1;exact⟨fun hd=>by have:=jx.out.1 _ hd;omega,by have:=jx.out.2.1;omega,fun ho=>by have:=jx.out.2.2.1 i ho;omega⟩));have mJ:=ae (show cL yL yL.heap.size (.agg V4) f2 from hv);replace HC:=ae hd;go_upto_region 16 with (refine aQ rfl 28 _ _ rfl yL.heap.size V4 rfl rfl 28 _ (bC yL _) sV4 zV oV ?_;rw[di])
 obtain⟨Ve,eX⟩:∃X,X=yL.alloc (.cells V4 28):=⟨_,rfl⟩;have hb:Below yL.heap.size yL Ve:=by rw[eX];exact(ax _ _).alloc (ai _) _
 have nb:ah Ve yL.heap.size 28 V4:=by rw[eX];exact ah.new _ _ _
 rw[←eX];replace fP:=ae (fP.out.below hb fP.out.lt);replace dZ:=ae (dZ.out.below hb dZ.out.lt);replace d_:=ae (d_.out.below hb d_.out.lt);replace fB:=ae (fB.out.below hb fB.out.lt);replace g_:=ae (g_.out.below hb g_.out.lt);replace hM:=ae (hM.out.below hb hM.out.lt);replace kl:=ae (kl.out.move (F:=fun _=>False) (aN hb) (fun _ _ _ h=>h));replace iR:=ae (iR.out.move (F:=fun _=>False) (aN hb) (fun _ _ _ h=>h));replace oa:=ae (oa.out.move (F:=fun _=>False) (aN hb) (fun _ _ _ h=>h));replace mJ:=ae ((mJ.out.below hb (ai _)).mono hb.size);replace HC:=ae (HC.out.below hb);replace I:=ae (I.out.next hb);replace L:=ae (L.out.next hb);obtain⟨g25,e1⟩:∃g,g=yL.heap.size:=⟨_,rfl⟩;rw[←e1]at nb ⊢;have jt:=ae nb;have amv:=ae (show Q.heap.size≤g25 by have:=hs.out.size;have:=ZM.out;omega);have amw:=ae (show Q.heap.size≤Ve.heap.size by have:=hs.out.size;have:=hb.size;have:=ZM.out;omega);clear eX e1 nb hb hv hd hs oV zV;go_upto_region 17 with fail;have c1:=I.out.k1.ag 0 rfl;have c4:Ve.cell? ⟨w.heap.size+4,0,none⟩=some (.int .i64 area):=by
  have h:=I.out.k4;rw[Bq.out]at h;exact h.ag 0 rfl
 go_wp2_with fail;refine(TQ N area Ve).mono ?_;rintro e Mv ⟨rfl,hb⟩;clear c1 c4;replace fP:=ae (fP.out.below hb fP.out.lt);replace dZ:=ae (dZ.out.below hb dZ.out.lt);replace d_:=ae (d_.out.below hb d_.out.lt);replace fB:=ae (fB.out.below hb fB.out.lt);replace g_:=ae (g_.out.below hb g_.out.lt);replace hM:=ae (hM.out.below hb hM.out.lt);replace jt:=ae (jt.out.below hb jt.out.lt);replace kl:=ae (kl.out.move (F:=fun _=>False) (aN hb) (fun _ _ _ h=>h));replace iR:=ae (iR.out.move (F:=fun _=>False) (aN hb) (fun _ _ _ h=>h));replace oa:=ae (oa.out.move (F:=fun _=>False) (aN hb) (fun _ _ _ h=>h));replace mJ:=ae ((mJ.out.below hb (ai _)).mono hb.size);replace HC:=ae (HC.out.below hb);replace I:=ae (I.out.next hb);replace L:=ae (L.out.next hb);go_upto_region 18 with (refine aQ rfl 28 _ _ rfl Mv.heap.size aF rfl rfl 28 _ (bC Mv _) gq rfl lF ?_;rw[di])
 obtain⟨X17,eX⟩:∃X,X=Mv.alloc (.cells aF 28):=⟨_,rfl⟩;have hb2:Below Mv.heap.size Mv X17:=by rw[eX];exact(ax _ _).alloc (ai _) _
 rw[←eX];replace fP:=ae (fP.out.below hb2 fP.out.lt);replace dZ:=ae (dZ.out.below hb2 dZ.out.lt);replace d_:=ae (d_.out.below hb2 d_.out.lt);replace fB:=ae (fB.out.below hb2 fB.out.lt);replace g_:=ae (g_.out.below hb2 g_.out.lt);replace hM:=ae (hM.out.below hb2 hM.out.lt);replace jt:=ae (jt.out.below hb2 jt.out.lt);replace kl:=ae (kl.out.move (F:=fun _=>False) (aN hb2) (fun _ _ _ h=>h));replace iR:=ae (iR.out.move (F:=fun _=>False) (aN hb2) (fun _ _ _ h=>h));replace oa:=ae (oa.out.move (F:=fun _=>False) (aN hb2) (fun _ _ _ h=>h));replace mJ:=ae ((mJ.out.below hb2 (ai _)).mono hb2.size);replace HC:=ae (HC.out.below hb2);replace I:=ae (I.out.next hb2);replace L:=ae (L.out.next hb2);clear eX hb hb2;have c1:=I.out.k1.ag 0 rfl;have c4:X17.cell? ⟨w.heap.size+4,0,none⟩=some (.int .i64 area):=by
  have h:=I.out.k4;rw[Bq.out]at h;exact h.ag 0 rfl
 go_wp2_with fail;refine(UB N area X17).mono ?_;rintro e Mw ⟨rfl,hb⟩;clear c1 c4;replace fP:=ae (fP.out.below hb fP.out.lt);replace dZ:=ae (dZ.out.below hb dZ.out.lt);replace d_:=ae (d_.out.below hb d_.out.lt);replace fB:=ae (fB.out.below hb fB.out.lt);replace g_:=ae (g_.out.below hb g_.out.lt);replace hM:=ae (hM.out.below hb hM.out.lt);replace jt:=ae (jt.out.below hb jt.out.lt);replace kl:=ae (kl.out.move (F:=fun _=>False) (aN hb) (fun _ _ _ h=>h));replace iR:=ae (iR.out.move (F:=fun _=>False) (aN hb) (fun _ _ _ h=>h));replace oa:=ae (oa.out.move (F:=fun _=>False) (aN hb) (fun _ _ _ h=>h));replace mJ:=ae ((mJ.out.below hb (ai _)).mono hb.size);replace HC:=ae (HC.out.below hb);replace I:=ae (I.out.next hb);replace L:=ae (L.out.next hb);go_upto_region 19 with (refine aQ rfl 28 _ _ rfl Mw.heap.size aF rfl rfl 28 _ (bC Mw _) gq rfl lF ?_;rw[di])
 obtain⟨X18,eX⟩:∃X,X=Mw.alloc (.cells aF 28):=⟨_,rfl⟩;have hb2:Below Mw.heap.size Mw X18:=by rw[eX];exact(ax _ _).alloc (ai _) _
 rw[←eX];replace fP:=ae (fP.out.below hb2 fP.out.lt);replace dZ:=ae (dZ.out.below hb2 dZ.out.lt);replace d_:=ae (d_.out.below hb2 d_.out.lt);replace fB:=ae (fB.out.below hb2 fB.out.lt);replace g_:=ae (g_.out.below hb2 g_.out.lt);replace hM:=ae (hM.out.below hb2 hM.out.lt);replace jt:=ae (jt.out.below hb2 jt.out.lt);replace kl:=ae (kl.out.move (F:=fun _=>False) (aN hb2) (fun _ _ _ h=>h));replace iR:=ae (iR.out.move (F:=fun _=>False) (aN hb2) (fun _ _ _ h=>h));replace oa:=ae (oa.out.move (F:=fun _=>False) (aN hb2) (fun _ _ _ h=>h));replace mJ:=ae ((mJ.out.below hb2 (ai _)).mono hb2.size);replace HC:=ae (HC.out.below hb2);replace I:=ae (I.out.next hb2);replace L:=ae (L.out.next hb2);clear eX hb hb2;have XN:=ae (show ya.ok∧ya.pU∧∀W B,bu W B kC kD fv y4→bu W B kC kD fv ya by
  obtain⟨k,hk,e⟩:=Q' y4 N area;rw[Eya.out,e];exact⟨BS yI.out.1 (by have:=Hb.out.1;have:=n7.out.2.2;omega) k (by omega),yI.out.2,fun W B h=>⟨h.lasts,h.waits,h.fails⟩⟩)
 have XO:=ae (show yb.ok∧yb.pU∧∀W B,bu W B kC kD fv y4→bu W B kC kD fv yb by
  obtain⟨k,hk,e⟩:=Ra y4 N area;rw[Eyb.out,e];exact⟨BS yI.out.1 (by have:=Hb.out.1;have:=n7.out.2.2;omega) k (by omega),yI.out.2,fun W B h=>⟨h.lasts,h.waits,h.fails⟩⟩)
 go_wp2_with fail;refine(jT no1 _).mono ?_;rintro e wn ⟨rfl,rfl⟩;have l1:=h_ _ _ _ d_.out sV1;have l2:=h_ _ _ _ fB.out sV2;go_wp2_with (first
  | (refine aS rfl 28 _ rfl g18 0 rfl V1 l1 ?_)
  | (refine aS rfl 28 _ rfl g20 0 rfl V2 l2 ?_))
 refine(Bk f1 f1 (.agg V1) (.agg V2) X18 (kl.out.E1) (iR.out.E1)).mono ?_;rintro e Z1 ⟨rfl,hb⟩;rw[(vy f1 f1).2 rfl];clear l1 l2;replace fP:=ae (fP.out.below hb fP.out.lt);replace dZ:=ae (dZ.out.below hb dZ.out.lt);replace d_:=ae (d_.out.below hb d_.out.lt);replace fB:=ae (fB.out.below hb fB.out.lt);replace g_:=ae (g_.out.below hb g_.out.lt);replace hM:=ae (hM.out.below hb hM.out.lt);replace jt:=ae (jt.out.below hb jt.out.lt);replace kl:=ae (kl.out.move (F:=fun _=>False) (aN hb) (fun _ _ _ h=>h));replace iR:=ae (iR.out.move (F:=fun _=>False) (aN hb) (fun _ _ _ h=>h));replace oa:=ae (oa.out.move (F:=fun _=>False) (aN hb) (fun _ _ _ h=>h));replace mJ:=ae ((mJ.out.below hb (ai _)).mono hb.size);replace HC:=ae (HC.out.below hb);replace I:=ae (I.out.next hb);replace L:=ae (L.out.next hb);clear hb;have l1:=bB dZ.out;go_wp2_with (refine aS rfl 40 _ rfl g17 0 rfl #[kC,kD,.int .i64 ya.steps,fv] l1 ?_)
 have hc:=Fq FC ya kC kD fv Z1 L.out.disk (XN.out.2.2 _ _ L.out.ref) XN.out.1 XN.out.2.1;rw[show ptr FC.p=.pointer (some ⟨p,0,none⟩)by unfold ptr;rw[EP.out]]at hc;refine hc.mono ?_;rintro e Z2 ⟨rfl,hb⟩;clear l1 hc;replace fP:=ae (fP.out.below hb fP.out.lt);replace dZ:=ae (dZ.out.below hb dZ.out.lt);replace d_:=ae (d_.out.below hb d_.out.lt);replace fB:=ae (fB.out.below hb fB.out.lt);replace g_:=ae (g_.out.below hb g_.out.lt);replace hM:=ae (hM.out.below hb hM.out.lt);replace jt:=ae (jt.out.below hb jt.out.lt);replace kl:=ae (kl.out.move (F:=fun _=>False) (aN hb) (fun _ _ _ h=>h));replace iR:=ae (iR.out.move (F:=fun _=>False) (aN hb) (fun _ _ _ h=>h));replace oa:=ae (oa.out.move (F:=fun _=>False) (aN hb) (fun _ _ _ h=>h));replace mJ:=ae ((mJ.out.below hb (ai _)).mono hb.size);replace HC:=ae (HC.out.below hb);replace I:=ae (I.out.next hb);replace L:=ae (L.out.next hb);clear hb;go_wp2_with fail;refine(jT no2 _).mono ?_;rintro e wn ⟨rfl,rfl⟩;have l1:=h_ _ _ _ hM.out sV3;have l2:=h_ _ _ _ jt.out sV4;go_wp2_with (first
  | (refine aS rfl 28 _ rfl g23 0 rfl V3 l1 ?_)
  | (refine aS rfl 28 _ rfl g25 0 rfl V4 l2 ?_))
 refine(Bk f2 f2 (.agg V3) (.agg V4) Z2 (oa.out.E1) mJ.out).mono ?_;rintro e Z3 ⟨rfl,hb⟩;rw[(vy f2 f2).2 rfl];clear l1 l2;replace fP:=ae (fP.out.below hb fP.out.lt);replace dZ:=ae (dZ.out.below hb dZ.out.lt);replace d_:=ae (d_.out.below hb d_.out.lt);replace fB:=ae (fB.out.below hb fB.out.lt);replace g_:=ae (g_.out.below hb g_.out.lt);replace hM:=ae (hM.out.below hb hM.out.lt);replace jt:=ae (jt.out.below hb jt.out.lt);replace kl:=ae (kl.out.move (F:=fun _=>False) (aN hb) (fun _ _ _ h=>h));replace iR:=ae (iR.out.move (F:=fun _=>False) (aN hb) (fun _ _ _ h=>h));replace oa:=ae (oa.out.move (F:=fun _=>False) (aN hb) (fun _ _ _ h=>h));replace mJ:=ae ((mJ.out.below hb (ai _)).mono hb.size);replace HC:=ae (HC.out.below hb);replace I:=ae (I.out.next hb);replace L:=ae (L.out.next hb);clear hb;have l1:=bB g_.out;go_wp2_with (refine aS rfl 40 _ rfl g22 0 rfl #[kC,kD,.int .i64 yb.steps,fv] l1 ?_)
 have hc:=Fq C yb kC kD fv Z3 HC.out (XO.out.2.2 _ _ L.out.ref) XO.out.1 XO.out.2.1;rw[show ptr C.p=.pointer (some ⟨cp,0,none⟩)by unfold ptr;rw[EC.out]]at hc;refine hc.mono ?_;rintro e Z4 ⟨rfl,hb⟩;clear l1 hc;replace fP:=ae (fP.out.below hb fP.out.lt);replace dZ:=ae (dZ.out.below hb dZ.out.lt);replace d_:=ae (d_.out.below hb d_.out.lt);replace fB:=ae (fB.out.below hb fB.out.lt);replace g_:=ae (g_.out.below hb g_.out.lt);replace hM:=ae (hM.out.below hb hM.out.lt);replace jt:=ae (jt.out.below hb jt.out.lt);replace kl:=ae (kl.out.move (F:=fun _=>False) (aN hb) (fun _ _ _ h=>h));replace iR:=ae (iR.out.move (F:=fun _=>False) (aN hb) (fun _ _ _ h=>h));replace oa:=ae (oa.out.move (F:=fun _=>False) (aN hb) (fun _ _ _ h=>h));replace mJ:=ae ((mJ.out.below hb (ai _)).mono hb.size);replace HC:=ae (HC.out.below hb);replace I:=ae (I.out.next hb);replace L:=ae (L.out.next hb);clear hb;go_wp2_with fail;refine(jT 1 _).mono ?_;rintro e wn ⟨rfl,rfl⟩;go_wp2_with fail;refine(jT 1 _).mono ?_;rintro e wn ⟨rfl,rfl⟩;go_wp2_with fail;refine(vG _).mono ?_;rintro e Z5 ⟨rfl,hb⟩;go_wp2_with fail;go_ret
 exact⟨rfl,(I.out.next hb).below⟩
end Go.Proofs.YtdpniceapmikpaaGreat
namespace Go.Proofs.YtdpniceapmikpaaGreat
open Go.ChangeShapes Go.WideShapes Go.ChangeAt Go.RowKit Go.Deep
section
variable {H:Type} {enc:TypeId×Value→H} {P:Program}
theorem zj (hl:laidOutB P=true) {W W':World} (hb:Below W.heap.size W W') {sp:Nat→Bool} :
 ∀ {ts:List TypeId} {vs:List Value} {ds:List (DataW H)} {ps:List MemPlace},(∀t∈ts,P.readableRec t=true∧t<P.types.size) →
  DataW.TrodAll enc P W 0 (fun _=>true) true ts vs ds ps→(∀p∈ps,p.block<W.heap.size)→(∀p∈ps,sp p.block=true)→DataW.TrodAll enc P W' 0 sp true ts vs ds ps
 | [],vs,ds,ps,_,h,_,_=>by
  obtain⟨rfl,rfl,rfl⟩:=trodAll_nil h;exact trodAll_mk0
 | t::ts,vs,ds,ps,ht,h,hlt,hsp=>by
  obtain⟨v,vs',d,ds',p,q,rfl,rfl,rfl,h1,h2⟩:=trodAll_cons h;have hp:∀x∈p,x.block<W.heap.size:=fun x hx=>hlt x (zv _ hx)
  exact trodAll_cons_mk (WideElems.Trod_stays hl (ht t (pX ..)).1 (ht t (pX ..)).2 h1 (fun x hx=>hb.same (hp x hx)) (fun x hx=>hsp x (zv _ hx)))
   (zj hl hb (fun u hu=>ht u (ph _ hu)) h2 (fun x hx=>hlt x (Rx _ hx)) (fun x hx=>hsp x (Rx _ hx)))
theorem XP (hl:laidOutB P=true) {f:Func} {s:ChangeSpec} {T:TypeId} (hts:∀t∈f.params.toList,P.readableRec t=true∧t<P.types.size) (hres:f.resultTypes=#[T]) (hT:P.underlying T=some .bool)
 (hvars:s.vars=[]) {W W':World} {args:Array Value} {ds gs:List (DataW H)} {before:List MemPlace} (hW:DataW.Whole enc P f.params.toList s.vars false W args.toList ds gs before)
 (hfn:s.fn H (ds++gs) = {results:=[.lit (.bool true)],args:=ds}) (hb:Below W.heap.size W W'):s.post enc P f false true false false W args (.bool true) W':=by
 have hlt:∀p∈before,p.block<W.heap.size:=fun p hp=>hW.lt p hp
 have hold:∀p∈before,(fun b=>decide (b<W.heap.size)) p.block=true:=fun p hp=>by simpa using hlt p hp
 have hW':=hW;obtain⟨p,q,hA,hV,rfl,hz,hn⟩:=hW;rw[hvars]at hV;obtain⟨rfl,rfl⟩:=trodVars_none hV;refine⟨ds,[],p++[],[],p,[],hW',?_,?_,?_,World.keptBut_mono (fun x hx=>⟨hx,?_⟩) (hb.frame (· ∈ p++[])),fun h=>by cases h⟩
 ·rw[hfn,hres];exact trodAll_mk1 (shut_bool hT _)
 ·rw[hfn];exact zj hl hb hts hA (fun x hx=>hlt x (zv _ hx)) (fun x hx=>hold x (zv _ hx))
 ·rw[hfn,hvars];exact rfl
 ·simpa using hx
end
section
variable {H:Type} {enc:TypeId×Value→H} {P:Program} {w:World} {base:Nat} {spare:Nat→Bool} {held:Bool}
theorem XQ (kd:IntKind):∀ (m:Nat) (l:List Value),l.length=m→(∀j,j<m→∃x,l[j]? = some (Value.int kd x)∧(Lit.int kd x).wf=true)→∃ns:List Int,ns.length=m∧l=ns.map (Value.int kd)∧∀x∈ns,(Lit.int kd x).wf=true:=by
 intro m;induction m with
 | zero=>intro l hl _;exact⟨[],rfl,rO hl,fun x hx=>by cases hx⟩
 | succ m ih =>
  intro l hl h;cases l with
  | nil=>cases hl
  | cons a l =>
   obtain⟨x,hx,wx⟩:=h 0 (by omega);obtain⟨ns,h1,h2,h3⟩:=ih l (by simpa using hl) (fun j hj=>by simpa using h (j+1) (by omega));simp only[List.getElem?_cons_zero,Option.some.injEq]at hx;exact⟨x::ns,by simp[h1],by rw[hx,h2];rfl,fun y hy=>by
    cases lN.1 hy with
    | inl e=>rw[e];exact wx
    | inr e=>exact h3 y e⟩
theorem Ri {t:TypeId} {fs:Array Field} {kd:IntKind} {n:Nat} {cs:List Value} {x:DataW H×List MemPlace} (hs:P.underlying t=some (.struct fs)) (hone:oneCellFields P fs=true) (hC:P.cellsOf t=fs.size)
 (hk:∀ (j:Nat) (f:Field),fs[j]? = some f→P.underlying f.type=some (.int kd)) (h:DataW.trod enc P w base spare held n t cs=some x) :
 ∃l:List Int,l.length=fs.size∧cs=l.map (Value.int kd)∧∀x∈l,(Lit.int kd x).wf=true:=by
 obtain⟨xs,n,_,_,hlen,hxl,hg⟩:=tN hs h;have hl:cs.length=fs.size:=by rw[hlen,hC]
 have key:∀j,j<fs.size→∃x,cs[j]? = some (Value.int kd x)∧(Lit.int kd x).wf=true:=by
  intro j hj;have hfj:fs[j]? = some fs[j]:=uZ hj;obtain⟨ho,hk1⟩:=hone_of hone j _ hfj;have h1:=hg j _ hfj;rw[ho,hk1]at h1;have hone':(cs.drop j).take 1=[cs[j]'(by omega)]:=by
   rw[pg (by omega)];rfl
  rw[hone']at h1;have hx:xs[j]? = some (xs[j]'(by omega)):=aY (by omega);rw[hx]at h1;obtain⟨x,hx1,_,hx3⟩:=zS (hk j _ hfj) h1;simp only[List.cons.injEq,and_true]at hx1;exact⟨x,by rw[aY (by omega),hx1],hx3⟩
 exact XQ kd fs.size cs hl key
theorem Vf {r:Reach} {b0:Nat} {t:TypeId} {fs:Array Field} {kd:IntKind} {v:Value} {d:DataW H} {p:List MemPlace} (hs:P.underlying t=some (.struct fs)) (hone:oneCellFields P fs=true) (hC:P.cellsOf t=fs.size)
 (hk:∀ (j:Nat) (f:Field),fs[j]? = some f→P.underlying f.type=some (.int kd)) (hv:Value.okWide P w r b0 t v) (h:DataW.Trod enc P w base spare held t v d p) :
 ∃l:List Int,l.length=fs.size∧v=.agg (l.map (Value.int kd)).toArray∧∀x∈l,(Lit.int kd x).wf=true:=by
 obtain⟨cs,rfl,hsz⟩:=okWide_struct hs hv;obtain⟨fuel,hf⟩:=h;obtain⟨l,h1,h2,h3⟩:=Ri hs hone hC hk hf;refine⟨l,h1,?_,h3⟩;simp only[Value.cells]at h2;rw[←h2]
theorem Vg {x:Int} (h:(Lit.int .i64 x).wf=true) : -9223372036854775808≤x∧x<9223372036854775808:=by
 simp[Lit.wf,IntKind.min,IntKind.max,IntKind.signed,IntKind.bits]at h;omega
end
theorem own:ownKnob Tryz.prog.godebug=none:=by kernel_rfl
theorem laidOut:laidOutB Tryz.prog=true:=by kernel_rfl
theorem wh {α:Type} (f:α→List Value) (Pr:α→Prop) (C:Nat):∀ (n:Nat) (cs:List Value),cs.length=n*C→(∀i,i<n→∃a,Pr a∧(cs.drop (i*C)).take C=f a)→∃l:List α,l.length=n∧(∀a∈l,Pr a)∧cs=l.flatMap f
 | 0,cs,hl,_=>⟨[],rfl,(fun a h=>by cases h),by have h0:cs=[]:=rO (by simpa using hl);rw[h0];rfl⟩
 | n+1,cs,hl,h=>by
  obtain⟨a,ha,e⟩:=h 0 (by omega);have hl2:(cs.drop C).length=n*C:=by rw[c_,hl,Nat.succ_mul];omega
  obtain⟨l,h1,h2,h3⟩:=wh f Pr C n (cs.drop C) hl2 (fun i hi=>by
   obtain⟨b,hb,e⟩:=h (i+1) (by omega);refine⟨b,hb,?_⟩;rw[og,←e];congr 2
   rw[Nat.succ_mul];omega)
  refine⟨a::l,by simp[h1],fun b hb=>?_,?_⟩
  ·rcases lN.1 hb with rfl | hb
   ·exact ha
   ·exact h2 b hb
  ·rw[zD,←h3,←e];simp
theorem Hs (cs:List Value) (h:cs.length=4):∃a b c d,cs=[a,b,c,d]:=by
 match cs,h with
 | [a,b,c,d],_=>exact⟨a,b,c,d,rfl⟩
theorem XR (cs:List Value) (h:cs.length=6):∃a b c d e f,cs=[a,b,c,d,e,f]:=by
 match cs,h with
 | [a,b,c,d,e,f],_=>exact⟨a,b,c,d,e,f,rfl⟩
section
variable {H:Type} {enc:TypeId×Value→H} {w:World} {base:Nat} {spare:Nat→Bool} {held:Bool} {n:Nat} {cs:List Value} {x:DataW H×List MemPlace}
theorem gR {t:TypeId} (ht:Tryz.prog.underlying t=some (.int .i64)) (h:DataW.trod enc Tryz.prog w base spare held n t cs=some x):∃k:Int,cs=[.int .i64 k]∧k<9223372036854775808:=by
 obtain⟨k,e,_,hw⟩:=zS ht h;exact⟨k,e,(Vg hw).2⟩
theorem Ht (h:DataW.trod enc Tryz.prog w base spare held n 5 cs=some x):∃c:UInt8,cs=[aj c]:=by
 obtain⟨k,e,_,hw⟩:=zS oK h;simp[Lit.wf,IntKind.min,IntKind.max,IntKind.signed,IntKind.bits]at hw;refine⟨UInt8.ofNat k.toNat,?_⟩;rw[e];unfold aj;rw[RR];congr 2
 omega
end
theorem sX {α:Type} (R:Nat→α→Prop):∀ (n:Nat),(∀i,i<n→∃a,R i a)→∃l:List α,l.length=n∧∀i a,l[i]? = some a→R i a
 | 0,_=>⟨[],rfl,fun i a h=>by simp at h⟩
 | n+1,h=>by
  obtain⟨l,h1,h2⟩:=sX R n (fun i hi=>h i (by omega));obtain⟨a,ha⟩:=h n (by omega);refine⟨l++[a],by simp[h1],fun i b hb=>?_⟩;rcases bZ i n with hi | hi
  ·rw[iC (by omega)]at hb;exact h2 i b hb
  ·rw[gl (by omega),h1]at hb;have:i=n:=by
    rcases bZ (i-n) 1 with hh | hh
    ·omega
    ·rw[dh (by simpa using hh)]at hb;cases hb
   subst this;simp at hb;rw[←hb];exact ha
section
variable {H:Type} {enc:TypeId×Value→H} {w:World} {n:Nat} {cs:List Value} {x:DataW H×List MemPlace}
theorem B2 {T e:TypeId} {C:Nat} (hu:Tryz.prog.underlying T=some (.slice e)) (hC:Tryz.prog.cellsOf e=C) (h0:0<C) (h:DataW.trod enc Tryz.prog w 0 (fun _=>true) true n T cs=some x) :
 ∃A len cap,cs=[.slice A len cap]∧len≤maxLen∧len≤cap∧∀i,i<len→∃g off cs' m y,A=some ⟨g,off,none⟩∧g<w.heap.size∧(∀j u,cs'[j]? = some u→w.cell? ⟨g,off+i*C+j,none⟩=some u)∧DataW.trod enc Tryz.prog w 0 (fun _=>true) true m e cs'=some y:=by
 rcases open_slice hu h with ⟨hcs,_⟩ | ⟨a,len,cap,m,k,D,Pl,hcs,hb,hl,hm,hmm,_,hi⟩
 ·exact⟨none,0,0,hcs,fi _,ai _,fun i hi=>absurd hi (p' _)⟩
 ·simp at hmm;refine⟨some a,len,cap,hcs,by omega,hl,fun i hil=>?_⟩;obtain⟨cs',hc,ht⟩:=hi i (by omega);rw[hC]at hc;obtain⟨_,hlen,hat⟩:=World.cells?_some hc;obtain⟨b,off,spot⟩:=a;have hspot:spot=none:=by
   obtain⟨cs0,hc0,_⟩:=hi 0 (by omega);rw[hC]at hc0;obtain⟨_,hl0,ajk⟩:=World.cells?_some hc0;have h00:=ajk 0 h0;rw[aY (by omega)]at h00;simpa[Addr.add]using World.cell?_spot h00
  subst hspot;have g:∀j,j<C→w.cell? ⟨b,off+i*C+j,none⟩=cs'[j]? :=fun j hj=>by
   rw[←hat j hj,Iu,Iu]
  have hg0:=g 0 h0;rw[aY (by omega)]at hg0;refine⟨b,off,cs',k,_,rfl,block_lt_of_cell hg0,fun j u hj=>?_,ht⟩;have hjl:j<C:=by
   rcases bZ j C with hh | hh
   ·exact hh
   ·rw[dh (by omega)]at hj;cases hj
  rw[g j hjl,hj]
theorem Vh (h:DataW.trod enc Tryz.prog w 0 (fun _=>true) true n 24 cs=some x):∃v l,cs=[v]∧IntsIn w w.heap.size v l:=by
 obtain⟨A,len,cap,hcs,hm,hl,hi⟩:=B2 (C:=1) p_ (by kernel_rfl) (by omega) h;obtain⟨l,hll,hR⟩:=sX (fun i (c:Int)=>∃g off,A=some ⟨g,off,none⟩∧g<w.heap.size∧w.cell? ⟨g,off+i,none⟩=some (.int .i64 c)) len (fun i hil=>by
  obtain⟨g,off,cs',m,y,e1,e2,e3,e4⟩:=hi i hil;obtain⟨k,rfl,_⟩:=gR ew e4;exact⟨k,g,off,e1,e2,by have:=e3 0 _ rfl;simpa using this⟩)
 subst hll;exact⟨_,l,hcs,hm,A,cap,rfl,hl,fun j c hj=>hR j c hj⟩
theorem FD (h:DataW.trod enc Tryz.prog w 0 (fun _=>true) true n 26 cs=some x):∃v l,cs=[v]∧BytesIn w w.heap.size v l:=by
 obtain⟨A,len,cap,hcs,hm,hl,hi⟩:=B2 (C:=1) eU (by kernel_rfl) (by omega) h;obtain⟨l,hll,hR⟩:=sX (fun i (c:UInt8)=>∃g off,A=some ⟨g,off,none⟩∧g<w.heap.size∧w.cell? ⟨g,off+i,none⟩=some (aj c)) len (fun i hil=>by
  obtain⟨g,off,cs',m,y,e1,e2,e3,e4⟩:=hi i hil;obtain⟨k,rfl⟩:=Ht e4;exact⟨k,g,off,e1,e2,by have:=e3 0 _ rfl;simpa using this⟩)
 subst hll;exact⟨_,l,hcs,hm,A,cap,rfl,hl,fun j c hj=>hR j c hj⟩
end
section
variable {H:Type} {enc:TypeId×Value→H} {w:World} {base:Nat} {spare:Nat→Bool} {held:Bool} {n:Nat} {cs:List Value} {x:DataW H×List MemPlace}
theorem Rj {t:TypeId} (ht:Tryz.prog.underlying t=some (.int .i64)) (h:DataW.trod enc Tryz.prog w base spare held n t cs=some x):∃k:Int,cs=[.int .i64 k]∧ix k:=by
 obtain⟨k,e,_,hw⟩:=zS ht h;have h1:=Vg hw;exact⟨k,e,by omega,by omega⟩
theorem Rk (h:DataW.trod enc Tryz.prog w base spare held n 58 cs=some x):∃k:bx,(k.r<9223372036854775808∧ix k.v)∧cs=k.cells:=by
 obtain⟨xs,m,_,_,hlen,hxl,hg⟩:=tN pj h;have h6:cs.length=6:=hlen.trans rT;have c0:Tryz.prog.cellsOf 55=1:=by kernel_rfl
 have c1:Tryz.prog.cellsOf 3=1:=by kernel_rfl
 have c2:Tryz.prog.cellsOf 2=1:=by kernel_rfl
 have c3:Tryz.prog.cellsOf 56=1:=by kernel_rfl
 have g0:DataW.trod enc Tryz.prog w base spare held m 55 ((cs.drop 0).take (Tryz.prog.cellsOf 55))=xs[0]? :=hg 0 _ rfl;have g1:DataW.trod enc Tryz.prog w base spare held m 3 ((cs.drop 1).take (Tryz.prog.cellsOf 3))=xs[1]? :=hg 1 _ rfl;have g2:DataW.trod enc Tryz.prog w base spare held m 2 ((cs.drop 2).take (Tryz.prog.cellsOf 2))=xs[2]? :=hg 2 _ rfl;have g3:DataW.trod enc Tryz.prog w base spare held m 2 ((cs.drop 3).take (Tryz.prog.cellsOf 2))=xs[3]? :=hg 3 _ rfl;have g4:DataW.trod enc Tryz.prog w base spare held m 56 ((cs.drop 4).take (Tryz.prog.cellsOf 56))=xs[4]? :=hg 4 _ rfl;have g5:DataW.trod enc Tryz.prog w base spare held m 2 ((cs.drop 5).take (Tryz.prog.cellsOf 2))=xs[5]? :=hg 5 _ rfl;have len:6=xs.length:=by rw[hxl];rfl
 have ex:∀i,i<6→∃y,xs[i]? = some y:=fun i hi=>⟨_,aY (by omega)⟩
 obtain⟨y0,e0⟩:=ex 0 (by omega);obtain⟨y1,e1⟩:=ex 1 (by omega);obtain⟨y2,e2⟩:=ex 2 (by omega);obtain⟨y3,e3⟩:=ex 3 (by omega);obtain⟨y4,e4⟩:=ex 4 (by omega);obtain⟨y5,e5⟩:=ex 5 (by omega);rw[e0]at g0;rw[e1]at g1;rw[e2]at g2;rw[e3]at g3;rw[e4]at g4;rw[e5]at g5;rw[c0]at g0;rw[c1]at g1;rw[c2]at g2 g3 g5;rw[c3]at g4;obtain⟨k0,p0,_⟩:=gR Tryz.underlying55 g0;obtain⟨k1,p1,_⟩:=gR ew g1;obtain⟨k2,p2,_⟩:=gR nv g2;obtain⟨k3,p3,_⟩:=gR nv g3;obtain⟨k4,p4,w4⟩:=gR Tryz.underlying56 g4;obtain⟨k5,p5,w5⟩:=Rj nv g5;refine⟨⟨k0,k1,k2,k3,k4,k5⟩,⟨w4,w5⟩,?_⟩;obtain⟨a,b,c,d,e,f,rfl⟩:=XR cs h6;simp only[List.drop_zero,List.drop_succ_cons,List.take_succ_cons,List.take_zero,List.cons.injEq,and_true]at p0 p1 p2 p3 p4 p5;rw[p0,p1,p2,p3,p4,p5];rfl
theorem Rl (h:DataW.trod enc Tryz.prog w base spare held n 62 cs=some x):∃o:aK,(o.ok∧iM o∧∀x∈o.slots,ix x.v)∧cs=o.cells:=by
 obtain⟨xs,m,_,_,hlen,hxl,hg⟩:=tN dH h;have vL:cs.length=163:=hlen.trans (by kernel_rfl);have c0:Tryz.prog.cellsOf 54=1:=by kernel_rfl
 have c1:Tryz.prog.cellsOf 2=1:=by kernel_rfl
 have c3:Tryz.prog.cellsOf 59=96:=by kernel_rfl
 have c4:Tryz.prog.cellsOf 60=64:=by kernel_rfl
 have c5:Tryz.prog.cellsOf 5=1:=by kernel_rfl
 have g0:DataW.trod enc Tryz.prog w base spare held m 54 ((cs.drop 0).take (Tryz.prog.cellsOf 54))=xs[0]? :=hg 0 _ rfl;have g1:DataW.trod enc Tryz.prog w base spare held m 2 ((cs.drop 1).take (Tryz.prog.cellsOf 2))=xs[1]? :=hg 1 _ rfl;have g2:DataW.trod enc Tryz.prog w base spare held m 2 ((cs.drop 2).take (Tryz.prog.cellsOf 2))=xs[2]? :=hg 2 _ rfl;have g3:DataW.trod enc Tryz.prog w base spare held m 59 ((cs.drop 3).take (Tryz.prog.cellsOf 59))=xs[3]? :=hg 3 _ rfl;have g4:DataW.trod enc Tryz.prog w base spare held m 60 ((cs.drop 99).take (Tryz.prog.cellsOf 60))=xs[4]? :=hg 4 _ rfl;have len:5=xs.length:=by rw[hxl];rfl
 have ex:∀i,i<5→∃y,xs[i]? = some y:=fun i hi=>⟨_,aY (by omega)⟩
 obtain⟨y0,e0⟩:=ex 0 (by omega);obtain⟨y1,e1⟩:=ex 1 (by omega);obtain⟨y2,e2⟩:=ex 2 (by omega);obtain⟨y3,e3⟩:=ex 3 (by omega);obtain⟨y4,e4⟩:=ex 4 (by omega);rw[e0]at g0;rw[e1]at g1;rw[e2]at g2;rw[e3]at g3;rw[e4]at g4;rw[c0]at g0;rw[c1]at g1 g2;rw[c3]at g3;rw[c4]at g4;obtain⟨k0,p0,_⟩:=gR Tryz.underlying54 g0;obtain⟨k1,p1,_⟩:=gR nv g1;obtain⟨k2,p2,_⟩:=gR nv g2;obtain⟨zs,m3,_,_,l3,zl,hz⟩:=DataW.trod_array wJ g3;obtain⟨us,m4,_,_,l4,ul,hu⟩:=DataW.trod_array zB g4;simp only[rT]at hz;simp only[c5]at hu;obtain⟨ks,k1l,kp,ke⟩:=wh bx.cells (fun k=>k.r<9223372036854775808∧ix k.v) 6 16 _ (l3.trans c3) (fun i hi=>by
  have h1:=hz i hi;rw[aY (by omega)]at h1;exact Rk h1)
 obtain⟨bs,b1l,_,be⟩:=wh (fun c:UInt8=>[aj c]) (fun _=>True) 1 64 _ (l4.trans c4) (fun i hi=>by
  have h1:=hu i hi;rw[aY (by omega)]at h1;obtain⟨c,hc⟩:=Ht h1;exact⟨c,trivial,hc⟩)
 refine⟨⟨k0,k1,k2,ks,bs⟩,⟨⟨k1l,b1l⟩,fun x hx=>(kp x hx).1,fun x hx=>(kp x hx).2⟩,?_⟩;unfold aK.cells bw;simp only;rw[←ke,show bs.map aj=bs.flatMap (fun c=>[aj c])by rw[List.map_eq_flatMap],←be];have t:∀ (l:List Value) (k:Nat),l.take k++l.drop k=l:=fun l k=>rP k l
 have q4:(cs.drop 99).take 64=cs.drop 99:=dg (by rw[c_,vL];decide);have q3:=t (cs.drop 3) 96;have q2:=t (cs.drop 2) 1;have q1:=t (cs.drop 1) 1;have q0:=t (cs.drop 0) 1;rw[og]at q3 q2 q1 q0;rw[p0]at q0;rw[p1]at q1;rw[p2]at q2;rw[q4,show(cs.drop 3).take 96++cs.drop 99=cs.drop 3 from q3];refine q0.symm.trans ?_;rw[show cs.drop (0+1)=cs.drop 1 from rfl,←q1,show cs.drop (1+1)=cs.drop 2 from rfl,←q2];rfl
end
section
variable {H:Type} {enc:TypeId×Value→H} {w:World} {n:Nat} {cs:List Value} {x:DataW H×List MemPlace}
theorem Vi (h:DataW.trod enc Tryz.prog w 0 (fun _=>true) true n 26 cs=some x) (a:Option Addr) (k c:Nat) (e:(cs.drop 0)=[.slice a k c]∨cs=[.slice a k c]):c≤maxLen:=by
 have e':cs=[.slice a k c]:=by
  rcases e with e | e
  ·simpa using e
  ·exact e
 rcases open_slice eU h with ⟨hcs,_⟩ | ⟨a',len',cap',m,k',D,Pl,hcs,_,_,hm,_⟩
 ·rw[e']at hcs;simp at hcs;omega
 ·rw[e']at hcs;simp at hcs;omega
theorem NB (h:DataW.trod enc Tryz.prog w 0 (fun _=>true) true n 24 cs=some x):∃v l,cs=[v]∧IntsIn w w.heap.size v l∧∀n∈l,n≤9223372036854775807:=by
 obtain⟨A,len,cap,hcs,hm,hl,hi⟩:=B2 (C:=1) p_ (by kernel_rfl) (by omega) h;obtain⟨l,hll,hR⟩:=sX (fun i (c:Int)=>∃g off,A=some ⟨g,off,none⟩∧g<w.heap.size∧w.cell? ⟨g,off+i,none⟩=some (.int .i64 c)∧c≤9223372036854775807) len (fun i hil=>by
  obtain⟨g,off,cs',m,y,e1,e2,e3,e4⟩:=hi i hil;obtain⟨k,rfl,hk⟩:=gR ew e4;exact⟨k,g,off,e1,e2,by have:=e3 0 _ rfl;simpa using this,by omega⟩)
 subst hll;refine⟨_,l,hcs,⟨hm,A,cap,rfl,hl,fun j c hj=>?_⟩,fun n hn=>?_⟩
 ·obtain⟨g,off,h1,h2,h3,_⟩:=hR j c hj;exact⟨g,off,h1,h2,h3⟩
 ·obtain⟨j,hj⟩:=Dq.1 hn;obtain⟨_,_,_,_,_,h4⟩:=hR j n hj;exact h4
theorem NC (h:DataW.trod enc Tryz.prog w 0 (fun _=>true) true n 25 cs=some x):∃v l,cs=[v]∧gA w w.heap.size v l∧∀o∈l,o.ok∧∀x∈o.slots,ix x.v:=by
 obtain⟨A,len,cap,hcs,hm,hl,hi⟩:=B2 (C:=163) wK (by kernel_rfl) (by omega) h;obtain⟨l,hll,hR⟩:=sX (fun i (o:aK)=>(∀x∈o.slots,ix x.v)∧o.ok∧iM o∧∃g off,A=some ⟨g,off,none⟩∧g<w.heap.size∧w.rangeAt g (off+i*163) o.cells) len (fun i hil=>by
  obtain⟨g,off,cs',m,y,e1,e2,e3,e4⟩:=hi i hil;obtain⟨o,⟨ho,hr,hv⟩,rfl⟩:=Rl e4;exact⟨o,hv,ho,hr,g,off,e1,e2,e3⟩)
 subst hll;refine⟨_,l,hcs,⟨hm,A,cap,rfl,hl,fun j o hj=>(hR j o hj).2⟩,fun o ho=>?_⟩;obtain⟨j,hj⟩:=Dq.1 ho;exact⟨(hR j o hj).2.1,(hR j o hj).1⟩
theorem Bz {r:Reach} {b0:Nat} {v:Value} {d:DataW H} {p:List MemPlace} (hv:Value.okWide Tryz.prog w r b0 28 v) (h:DataW.Trod enc Tryz.prog w 0 (fun _=>true) true 28 v d p):∃f,cL w w.heap.size v f∧(∀a c,(∃x y z,v=.agg #[x,y,z,.slice a f.state.length c])→c≤maxLen)∧f.ed≤9223372036854775807∧∀o∈f.objs,o.ok∧∀x∈o.slots,ix x.v:=by
 obtain⟨cs,rfl,hsz⟩:=okWide_struct fw hv;obtain⟨fuel,hf⟩:=h;obtain⟨xs,m,_,_,hlen,hxl,hg⟩:=tN fw hf;have h4:cs.toList.length=4:=hlen.trans (by kernel_rfl);have c0:Tryz.prog.cellsOf 2=1:=by kernel_rfl
 have c1:Tryz.prog.cellsOf 24=1:=by kernel_rfl
 have c2:Tryz.prog.cellsOf 25=1:=by kernel_rfl
 have c3:Tryz.prog.cellsOf 26=1:=by kernel_rfl
 have g0:DataW.trod enc Tryz.prog w 0 (fun _=>true) true m 2 ((cs.toList.drop 0).take (Tryz.prog.cellsOf 2))=xs[0]? :=hg 0 _ rfl;have g1:DataW.trod enc Tryz.prog w 0 (fun _=>true) true m 24 ((cs.toList.drop 1).take (Tryz.prog.cellsOf 24))=xs[1]? :=hg 1 _ rfl;have g2:DataW.trod enc Tryz.prog w 0 (fun _=>true) true m 25 ((cs.toList.drop 2).take (Tryz.prog.cellsOf 25))=xs[2]? :=hg 2 _ rfl;have g3:DataW.trod enc Tryz.prog w 0 (fun _=>true) true m 26 ((cs.toList.drop 3).take (Tryz.prog.cellsOf 26))=xs[3]? :=hg 3 _ rfl;have len:4=xs.length:=by rw[hxl];rfl
 have ex:∀i,i<4→∃y,xs[i]? = some y:=fun i hi=>⟨_,aY (by omega)⟩
 obtain⟨y0,e0⟩:=ex 0 (by omega);obtain⟨y1,e1⟩:=ex 1 (by omega);obtain⟨y2,e2⟩:=ex 2 (by omega);obtain⟨y3,e3⟩:=ex 3 (by omega);rw[e0,c0]at g0;rw[e1,c1]at g1;rw[e2,c2]at g2;rw[e3,c3]at g3;obtain⟨ed,p0,hed⟩:=gR nv g0;obtain⟨vo,lo,p1,h1⟩:=Vh g1;obtain⟨vb,lb,p2,h2,h2b⟩:=NC g2;obtain⟨vs,ls,p3,h3⟩:=FD g3;have hcp:=Vi g3;obtain⟨a,b,c,d',e⟩:=Hs cs.toList h4;rw[e]at p0 p1 p2 p3;have hcs:cs=#[a,b,c,d']:=xg e;simp only[List.drop_zero,List.drop_succ_cons,List.take_succ_cons,List.take_zero,List.cons.injEq,and_true]at p0 p1 p2 p3;subst p0 p1 p2 p3;subst hcs;refine⟨⟨ed,lo,lb,ls⟩,⟨_,_,_,rfl,h1,h2,h3⟩,?_,by show ed≤_;omega,h2b⟩;rintro a c ⟨x,y,z,e⟩;simp only[Value.agg.injEq,Array.mk.injEq,List.cons.injEq]at e;have e4:=e.2.2.2.1;subst e4;exact hcp a _ c (.inr rfl)
theorem ND {r:Reach} {b0:Nat} {v:Value} {d:DataW H} {p:List MemPlace} (hv:Value.okWide Tryz.prog w r b0 43 v) (h:DataW.Trod enc Tryz.prog w 0 (fun _=>true) true 43 v d p) :
 ∃ (s:Int) (vb vf:Value) (bl:List UInt8) (fs:List Int),v=.agg #[.int .i64 s,vb,vf]∧BytesIn w w.heap.size vb bl∧IntsIn w w.heap.size vf fs∧∀n∈fs,n≤9223372036854775807:=by
 obtain⟨cs,rfl,hsz⟩:=okWide_struct Dt hv;obtain⟨fuel,hf⟩:=h;obtain⟨xs,m,_,_,hlen,hxl,hg⟩:=tN Dt hf;have h3:cs.toList.length=3:=hlen.trans (by kernel_rfl);have c0:Tryz.prog.cellsOf 3=1:=by kernel_rfl
 have c1:Tryz.prog.cellsOf 26=1:=by kernel_rfl
 have c2:Tryz.prog.cellsOf 24=1:=by kernel_rfl
 have g0:DataW.trod enc Tryz.prog w 0 (fun _=>true) true m 3 ((cs.toList.drop 0).take (Tryz.prog.cellsOf 3))=xs[0]? :=hg 0 _ rfl;have g1:DataW.trod enc Tryz.prog w 0 (fun _=>true) true m 26 ((cs.toList.drop 1).take (Tryz.prog.cellsOf 26))=xs[1]? :=hg 1 _ rfl;have g2:DataW.trod enc Tryz.prog w 0 (fun _=>true) true m 24 ((cs.toList.drop 2).take (Tryz.prog.cellsOf 24))=xs[2]? :=hg 2 _ rfl;have len:3=xs.length:=by rw[hxl];rfl
 have ex:∀i,i<3→∃y,xs[i]? = some y:=fun i hi=>⟨_,aY (by omega)⟩
 obtain⟨y0,e0⟩:=ex 0 (by omega);obtain⟨y1,e1⟩:=ex 1 (by omega);obtain⟨y2,e2⟩:=ex 2 (by omega);rw[e0,c0]at g0;rw[e1,c1]at g1;rw[e2,c2]at g2;obtain⟨s,p0,_⟩:=gR ew g0;obtain⟨vb,lb,p1,h1⟩:=FD g1;obtain⟨vf,lf,p2,h2,h2b⟩:=NB g2;refine⟨s,vb,vf,lb,lf,?_,h1,h2,h2b⟩;obtain⟨a,b,c,e⟩:∃a b c,cs.toList=[a,b,c]:=by
  match cs.toList,h3 with
  | [a,b,c],_=>exact⟨a,b,c,rfl⟩
 rw[e]at p0 p1 p2;have hcs:cs=#[a,b,c]:=xg e;simp only[List.drop_zero,List.drop_succ_cons,List.take_succ_cons,List.take_zero,List.cons.injEq,and_true]at p0 p1 p2;rw[hcs,p0,p1,p2]
end
section
variable {H:Type} {enc:TypeId×Value→H} {w:World} {n:Nat} {cs:List Value} {x:DataW H×List MemPlace}
theorem XS {t:TypeId} (ht:Tryz.prog.underlying t=some (.int .u32)) (h:DataW.trod enc Tryz.prog w 0 (fun _=>true) true n t cs=some x):∃k:Nat,cs=[.int .u32 k]:=by
 obtain⟨k,e,_,hw⟩:=zS ht h;simp[Lit.wf,IntKind.min,IntKind.max,IntKind.signed,IntKind.bits]at hw;have hk:0≤k:=hw.1;exact⟨k.toNat,by rw[e,Int.toNat_of_nonneg hk]⟩
theorem Rm (cs:List Value) (h:cs.length=3):∃a b c,cs=[a,b,c]:=by
 match cs,h with
 | [a,b,c],_=>exact⟨a,b,c,rfl⟩
theorem Vj (h:DataW.trod enc Tryz.prog w 0 (fun _=>true) true n 72 cs=some x):∃ (s fr:Int) (t:Nat),cs=[.int .i64 s,.int .i64 fr,.int .u32 t]:=by
 obtain⟨xs,m,_,_,hlen,hxl,hg⟩:=tN Tryz.underlying72 h;have h3:cs.length=3:=hlen.trans (by kernel_rfl);have c0:Tryz.prog.cellsOf 70=1:=by kernel_rfl
 have c1:Tryz.prog.cellsOf 3=1:=by kernel_rfl
 have g0:DataW.trod enc Tryz.prog w 0 (fun _=>true) true m 3 ((cs.drop 0).take (Tryz.prog.cellsOf 3))=xs[0]? :=hg 0 _ rfl;have g1:DataW.trod enc Tryz.prog w 0 (fun _=>true) true m 3 ((cs.drop 1).take (Tryz.prog.cellsOf 3))=xs[1]? :=hg 1 _ rfl;have g2:DataW.trod enc Tryz.prog w 0 (fun _=>true) true m 70 ((cs.drop 2).take (Tryz.prog.cellsOf 70))=xs[2]? :=hg 2 _ rfl;have len:3=xs.length:=by rw[hxl];rfl
 have ex:∀i,i<3→∃y,xs[i]? = some y:=fun i hi=>⟨_,aY (by omega)⟩
 obtain⟨y0,e0⟩:=ex 0 (by omega);obtain⟨y1,e1⟩:=ex 1 (by omega);obtain⟨y2,e2⟩:=ex 2 (by omega);rw[e0,c1]at g0;rw[e1,c1]at g1;rw[e2,c0]at g2;obtain⟨s,p0,_⟩:=gR ew g0;obtain⟨fr,p1,_⟩:=gR ew g1;obtain⟨t,p2⟩:=XS Tryz.underlying70 g2;refine⟨s,fr,t,?_⟩;obtain⟨a,b,c,rfl⟩:=Rm cs h3;simp only[List.drop_zero,List.drop_succ_cons,List.take_succ_cons,List.take_zero,List.cons.injEq,and_true]at p0 p1 p2;rw[p0,p1,p2]
theorem Vk {r:Reach} {b0:Nat} {v:Value} {d:DataW H} {p:List MemPlace} (hv:Value.okWide Tryz.prog w r b0 74 v) (h:DataW.Trod enc Tryz.prog w 0 (fun _=>true) true 74 v d p) :
 ∃ (ar s fr:Int) (t:Nat),v=.agg #[.int .i64 ar,.int .i64 s,.int .i64 fr,.int .u32 t]:=by
 obtain⟨cs,rfl,hsz⟩:=okWide_struct Tryz.underlying74 hv;obtain⟨fuel,hf⟩:=h;obtain⟨xs,m,_,_,hlen,hxl,hg⟩:=tN Tryz.underlying74 hf;have h4:cs.toList.length=4:=hlen.trans (by kernel_rfl);have c0:Tryz.prog.cellsOf 3=1:=by kernel_rfl
 have c2:Tryz.prog.cellsOf 72=3:=by kernel_rfl
 have g0:DataW.trod enc Tryz.prog w 0 (fun _=>true) true m 3 ((cs.toList.drop 0).take (Tryz.prog.cellsOf 3))=xs[0]? :=hg 0 _ rfl;have g2:DataW.trod enc Tryz.prog w 0 (fun _=>true) true m 72 ((cs.toList.drop 1).take (Tryz.prog.cellsOf 72))=xs[1]? :=hg 1 _ rfl;have len:2=xs.length:=by rw[hxl];rfl
 have ex:∀i,i<2→∃y,xs[i]? = some y:=fun i hi=>⟨_,aY (by omega)⟩
 obtain⟨y0,e0⟩:=ex 0 (by omega);obtain⟨y1,e1⟩:=ex 1 (by omega);rw[e0,c0]at g0;rw[e1,c2]at g2;obtain⟨ar,p0,_⟩:=gR ew g0;obtain⟨s,fr,t,p2⟩:=Vj g2;refine⟨ar,s,fr,t,?_⟩;obtain⟨a,b,c,d,e4⟩:=Hs cs.toList h4;rw[e4]at p0 p2;have hcs:cs=#[a,b,c,d]:=xg e4;simp only[List.drop_zero,List.drop_succ_cons,List.take_succ_cons,List.take_zero,List.cons.injEq,and_true]at p0 p2;rw[hcs,p0,p2.1,p2.2.1,p2.2.2]
end
theorem NF {H:Type} {enc:TypeId×Value→H} {w:World} {base:Nat} {spare:Nat→Bool} {held:Bool} {r:Reach} {b0:Nat} {v:Value} {d:DataW H} {p:List MemPlace}
 (hv:Value.okWide Tryz.prog w r b0 23 v) (h:DataW.Trod enc Tryz.prog w base spare held 23 v d p):∃N:Int,v=.agg #[.int .i64 N]:=by
 obtain⟨l,hl,rfl,_⟩:=Vf (kd:=.i64) Tryz.underlying23 (by kernel_rfl) (by kernel_rfl) (fun j f hf=>by
  match j,hf with
  | 0,hf=>injection hf with hf;subst hf;exact ew
  | j+1,hf=>simp at hf) hv h
 obtain⟨N,rfl⟩:∃a,l=[a]:=by
  match l,hl with
  | [a],_=>exact⟨a,rfl⟩
 exact⟨N,rfl⟩
theorem Dm (os:Os) (started:os.Started) (H:Type) (enc:TypeId×Value→H) :
 ReturnsInHanded {} Tryz.checked os 7 .any (Rows.logsReadsSpec.pre6 enc Tryz.prog Tryz.f7 Rows.logsReadsRow.domain false) (Rows.logsReadsSpec.post enc Tryz.prog Tryz.f7 false true false false):=by
 refine returnsInHanded_of_change (C:=Tryz.checked) own started (by kernel_rfl) JM
  (ChangeSpec.witness6 (enc:=enc) (C:=Tryz.checked) false ⟨#[],#[.agg #[.int .i64 0,.slice none 0 0,.slice none 0 0],.agg #[.int .i64 0],.agg #[.int .i64 0,.slice none 0 0,.slice none 0 0,.slice none 0 0],.agg #[.int .i64 0,.slice none 0 0,.slice none 0 0,.slice none 0 0],.agg #[.int .i64 0,.int .i64 0,.int .i64 0,.int .u32 0]],[]⟩ 8 (by kernel_rfl) (by kernel_rfl) (by kernel_rfl) (by kernel_rfl)) ?_
 intro W base args ds gs before hval0 hW hcnd _;have hval:∀ (j:Nat) t v,Tryz.f7.params[j]? = some t→args[j]? = some v→Value.okWide Tryz.prog W .any base t v:=hval0;have hW':=hW;obtain⟨p,q,hA0,hV,rfl,hfz,hnd⟩:=hW;have hA:DataW.TrodAll enc Tryz.prog W 0 (fun _=>true) true Tryz.f7.params.toList args.toList ds p:=hA0;rw[Tryz.params7]at hA hval;obtain⟨v0,vs0,d0,ds0,p0,q0,hargs,rfl,rfl,h0,hA1⟩:=trodAll_cons hA;obtain⟨v1,vs1,d1,ds1,p1,q1,rfl,rfl,rfl,h1,hA2⟩:=trodAll_cons hA1;obtain⟨v2,vs2,d2,ds2,p2,q2,rfl,rfl,rfl,h2,hA3⟩:=trodAll_cons hA2;obtain⟨v3,vs3,d3,ds3,p3,q3,rfl,rfl,rfl,h3,hA4⟩:=trodAll_cons hA3;obtain⟨v4,vs4,d4,ds4,p4,q4,rfl,rfl,rfl,h4,hA5⟩:=trodAll_cons hA4;obtain⟨rfl,rfl,rfl⟩:vs4=[]∧ds4=[]∧q4=[]:=by
  cases vs4<;>cases ds4<;>simp[DataW.TrodAll]at hA5
  exact⟨rfl,rfl,hA5⟩
 obtain rfl:args=#[v0,v1,v2,v3,v4]:=xg hargs;obtain⟨rfl,rfl⟩:=trodVars_none hV;obtain⟨s,vb,vf,bl,fs,rfl,hb0,hf0,hfi⟩:=ND (hval 0 _ v0 rfl rfl) h0;obtain⟨N,rfl⟩:=NF (hval 1 _ v1 rfl rfl) h1;obtain⟨fa,hfa,hca,ZB,hoa⟩:=Bz (hval 2 _ v2 rfl rfl) h2;obtain⟨fb,U9,hcb,ZC,ky⟩:=Bz (hval 3 _ v3 rfl rfl) h3;obtain⟨area,sb,fr,tb,rfl⟩:=Vk (hval 4 _ v4 rfl rfl) h4;clear hA0 hval0;refine(Rd s N area sb fr tb vb vf v2 v3 bl fs fa fb W hb0 hf0 hfi hfa U9 hca hcb ZB ZC hoa ky).mono fun e W' ⟨he,hb⟩=>?_;subst he;exact⟨_,rfl,XP laidOut (by rw[Tryz.params7];intro t ht;simp at ht;rcases ht with rfl | rfl | rfl | rfl<;>exact⟨by kernel_rfl,tM (by kernel_rfl)⟩) rfl oL rfl hW' rfl hb⟩
theorem logsReads_holds:Rows.LogsReadsSaid :=
 OpenClaim.holds_of_wide 7 Tryz.f7 rfl rfl rfl rfl rfl rfl rfl ⟨rfl,rfl,rfl,rfl,rfl⟩ rfl rfl rfl rfl rfl (by kernel_rfl) JM (by kernel_rfl)
  (tM (by kernel_rfl)) (by unfold Func.isWrapper;first | (rw[aB (by decide +kernel)];kernel_rfl) | (rw[aG (by decide +kernel)];exact⟨rfl,rfl⟩))
  (fun os started H enc _=>Dm os started H enc)
end Go.Proofs.YtdpniceapmikpaaGreat
