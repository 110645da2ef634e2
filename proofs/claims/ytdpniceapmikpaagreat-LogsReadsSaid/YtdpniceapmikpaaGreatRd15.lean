/-
  The reference's Read of any disk, plan
-/
import Derived.Test.YtdpniceapmikpaaGreatRd6
import Derived.Test.YtdpniceapmikpaaGreatRd13
import Derived.Test.YtdpniceapmikpaaGreatRd14
import Derived.Test.YtdpniceapmikpaaGreatRd1
import Derived.Test.YtdpniceapmikpaaGreatRd4
import Derived.Test.YtdpniceapmikpaaGreatRd10
import Derived.Test.YtdpniceapmikpaaGreatRd11
import Derived.Test.YtdpniceapmikpaaGreatRd8
set_option linter.unusedVariables false
set_option linter.unusedSimpArgs false
set_option maxRecDepth 100000
set_option maxHeartbeats 32000000
namespace Go.Proofs.YtdpniceapmikpaaGreat
open Go.RowKit
def jn (x:ak) (N area:Int) (k:Nat):List UInt8:=(List.range k).flatMap (fZ x N area)
section
variable {x:ak} {N area:Int}
theorem Ml (k:Nat):jn x N area (k+1)=jn x N area k++fZ x N area k:=by unfold jn;rw[nc,tK];simp
theorem CK (hl:∀i,(fZ x N area i).length=512) (k:Nat):(jn x N area k).length=512*k:=mA _ hl k
theorem zh (hl:∀i,(fZ x N area i).length=512) (nb:Nat):gU x N area nb=(jn x N area (aD nb)).take nb:=by
 apply m_;intro p;unfold gU;by_cases h:p<nb
 ·rw[dV,wH h,dU,aB h];have h2:=pO _ hl (aD nb) (p/512) (p % 512) (by unfold aD;omega) (DW _ (by decide));rw[Nat.div_add_mod]at h2;unfold jn;rw[h2];have h3:p % 512<(fZ x N area (p/512)).length:=by rw[hl];exact DW _ (by decide)
  show some (byteOf x N area p)=_;unfold byteOf;rw[aY h3];rfl
 ·rw[dh (by simp;omega),dh];rw[bD];omega
end
theorem UL {W:World} {B n K:Nat} {v:Value} {e:TypeId} {l:List UInt8} (h:W.ownsRow B e 1 v n (l.map aj)) (hK:∀g,v.ownBlock=some g→g<K):BytesIn W K v l:=by
 obtain⟨h1,a,cap,h2,h3,h4⟩:=BytesIn.own h;refine⟨h1,a,cap,h2,h3,fun j c hc=>?_⟩;obtain⟨g,off,e,hg,hr⟩:=h4 j c hc;exact⟨g,off,e,hK g (by rw[h2,e];rfl),hr⟩
theorem Xz (o:aK):o.cells.toArray.all (·.oneCell')=true:=by simp only[List.all_toArray];exact cx.2 fun v hv=>ru _ v hv
theorem XB (o:aK) (ho:o.ok):(Tryz.prog.info? 62).map (·.size)=some o.cells.toArray.size:=by rw[b',aK.len ho];kernel_rfl
theorem UM (o:aK) (ho:o.ok):(cP.cells.toArray:Array Value).size=o.cells.toArray.size:=by rw[b',b',aK.len ho];rfl
section
variable {x:ak} {N area:Int}
theorem Mm {i nb:Nat} (hl:(fZ x N area i).length=512) (h:i+1<aD nb):((fZ x N area i).drop (nb-512*i)).all (· == 0)=true:=by
 rw[jD (by rw[hl];unfold aD at h;omega)];rfl
theorem XF {i j nb:Nat} {c:UInt8} (hl:∀i,(fZ x N area i).length=512) (hi:i+1=aD nb) (hj:nb≤j) (hc:(jn x N area (aD nb))[j]? = some c) (h0:c≠0):((fZ x N area i).drop (nb-512*i)).all (· == 0)=false:=by
 have hlen:=CK hl (aD nb);have hjl:j<512*aD nb:=by
  rcases bZ j (512*aD nb)with h | h
  ·exact h
  ·rw[dh (by omega)]at hc;cases hc
 have hji:j/512=i:=by unfold aD at hi hjl;omega
 have h3:=pO _ hl (aD nb) (j/512) (j % 512) (by omega) (DW _ (by decide));rw[Nat.div_add_mod,hji]at h3;unfold jn at hc;rw[hc]at h3;rw[wL];refine⟨c,Dq.2 ⟨j % 512-(nb-512*i),?_⟩,by simpa using h0⟩;rw[kL,show nb-512*i+(j % 512-(nb-512*i))=j % 512 by omega];exact h3.symm
theorem UN {i nb:Nat} (hl:∀i,(fZ x N area i).length=512) (hi:i<aD nb) (hz:∀p,nb≤p→p<512*aD nb→(jn x N area (aD nb))[p]? = some 0):((fZ x N area i).drop (nb-512*i)).all (· == 0)=true:=by
 rw[cx];intro c hc;obtain⟨q,hq⟩:=Dq.1 hc;rw[kL]at hq;have Y0:nb-512*i+q<512:=by
  rcases bZ (nb-512*i+q) 512 with h | h
  ·exact h
  ·rw[dh (by rw[hl];exact h)]at hq;cases hq
 have h3:=pO _ hl (aD nb) i (nb-512*i+q) hi Y0;have h4:=hz (512*i+(nb-512*i+q)) (by omega) (by omega);unfold jn at h4;rw[h3,hq]at h4;simpa using h4
def dR (x:ak) (N area:Int):ak×bY×Int :=
 if da N x.size area then (x.plus (eM x N area).1,if (eM x N area).2=0 then fD x N area else gi,(eM x N area).2) else (x,gi,2)
theorem lq {k:Nat} {c:Int} (ha:da N x.size area=true) (h:eM x N area=(k,c)) (hc:c≠0):dR x N area=(x.plus k,gi,c):=by
 unfold dR;rw[ha,aB rfl,h,aG hc]
theorem Hk {k:Nat} (ha:da N x.size area=true) (h:eM x N area=(k,0)):dR x N area=(x.plus k,fD x N area,0):=by
 unfold dR;rw[ha,aB rfl,h,aB rfl]
theorem n9 (x:ak):x.stepped=x.plus 1:=by
 have h:=dd x 0;rw[mn]at h;exact h
theorem QS (h:(bN x N area).2.2≠0):dR x N area=((bN x N area).1,gi,(bN x N area).2.2):=by
 cases ha:da N x.size area with
 | false=>unfold dR bN;rw[ha];rfl
 | true =>
  by_cases he:x.err (aJ N 2 area 0).1=0
  ·cases hh:bI N (aP x N area)with
   | false =>
    rw[lq ha (yB he hh) (by decide)];unfold bN;rw[ha,aB rfl,aB he,hh,n9];rfl
   | true =>
    refine absurd ?_ h;unfold bN;rw[ha,aB rfl,aB he,hh];rfl
  ·rw[lq ha (Bg he) he];unfold bN;rw[ha,aB rfl,aG he,fR (iY ha 2 0 (.inl ⟨rfl,rfl⟩)),n9]
theorem Nv (h:(bN x N area).2.2=0):da N x.size area=true∧x.err (aJ N 2 area 0).1=0∧bI N (aP x N area)=true∧bN x N area=(x.plus 1,nu (aP x N area),0):=by
 cases ha:da N x.size area with
 | false=>unfold bN at h;rw[ha]at h;cases h
 | true =>
  by_cases he:x.err (aJ N 2 area 0).1=0
  ·cases hh:bI N (aP x N area)with
   | false=>unfold bN at h;rw[ha,aB rfl,aB he,hh]at h;cases h
   | true =>
    refine⟨rfl,he,rfl,?_⟩;unfold bN;rw[ha,aB rfl,aB he,hh,n9,Bl hh];rfl
  ·unfold bN at h;rw[ha,aB rfl,aG he]at h;exact absurd h he
end
structure uU (w:World) (lv wv fv:Value) (N:Nat) (hs:List UInt8) (gF g12:Nat) (X1 W:World) (st:Int) (F:Array Value):Prop where
 k0:ah W w.heap.size 40 #[lv,wv,.int .i64 st,fv]
 k1:ah W (w.heap.size+1) 23 #[.int .i64 N]
 k2:ah W (w.heap.size+2) 40 aM
 k3:ah W (w.heap.size+3) 28 aF
 kF:ah W gF 28 F
 kh:ah W g12 111 (hs.map aj).toArray
 below:Below w.heap.size w W
 from_:Out (fun i=>i<w.heap.size+4) X1 W
 lo:w.heap.size+4≤X1.heap.size∧X1.heap.size≤gF∧X1.heap.size≤g12
section
variable {w:World} {lv wv fv:Value} {N:Nat} {hs:List UInt8} {gF g12:Nat} {X1 W W':World} {st:Int} {F:Array Value}
theorem uU.out (h:uU w lv wv fv N hs gF g12 X1 W st F) {G:Nat→Prop} (ho:Out G W W') (hG:∀i,G i→i<W.heap.size→X1.heap.size≤i∧i≠gF∧i≠g12):uU w lv wv fv N hs gF g12 X1 W' st F:=by
 obtain⟨l1,l2,l3⟩:=h.lo;have hsz:=h.from_.size;have no:∀i,i<w.heap.size+4→¬G i:=fun i hi hg=>by have:=(hG i hg (by omega)).1;omega
 exact⟨ho.blk h.k0 (no _ (by omega)),ho.blk h.k1 (no _ (by omega)),ho.blk h.k2 (no _ (by omega)),ho.blk h.k3 (no _ (by omega)),ho.blk h.kF (fun hg=>(hG gF hg h.kF.lt).2.1 rfl),ho.blk h.kh (fun hg=>(hG g12 hg h.kh.lt).2.2 rfl),
  (Out.trans (vq h.below (fun i hi=>hi):Out (fun i=>w.heap.size≤i) w W) ho (fun i hi hg=>absurd hg (no i (by omega)))).below (ai _) (fun i hi hg=>by omega),Out.trans h.from_ ho (fun i hi hg=>by have:=(hG i hg (by omega)).1;omega),h.lo⟩
theorem uU.step (h:uU w lv wv fv N hs gF g12 X1 W st F) (s:Int):uU w lv wv fv N hs gF g12 X1 (W.setRow w.heap.size #[lv,wv,.int .i64 s,fv]) s F:=by
 obtain⟨l1,l2,l3⟩:=h.lo;exact⟨h.k0.row _,aH h.k1 _ (by omega),aH h.k2 _ (by omega),aH h.k3 _ (by omega),aH h.kF _ (by omega),aH h.kh _ (by omega),aA h.below _ (ai _),Out.trans h.from_ (bL (F:=fun i=>i=w.heap.size) _ rfl) (fun i _ e=>by omega),h.lo⟩
theorem uU.frame (h:uU w lv wv fv N hs gF g12 X1 W st F) (i:Nat) (u:Value):uU w lv wv fv N hs gF g12 X1 (W.setCell ⟨gF,i,none⟩ u) st (F.setIfInBounds i u):=by
 obtain⟨l1,l2,l3⟩:=h.lo;exact⟨h.k0.far (p:=⟨gF,i,none⟩) (by show _≠gF;omega) u,h.k1.far (p:=⟨gF,i,none⟩) (by show _≠gF;omega) u,h.k2.far (p:=⟨gF,i,none⟩) (by show _≠gF;omega) u,h.k3.far (p:=⟨gF,i,none⟩) (by show _≠gF;omega) u,h.kF.br i u,h.kh.far (p:=⟨gF,i,none⟩) (ah.xl h.kh h.kF (by decide)) u,
  h.below.setCell (p:=⟨gF,i,none⟩) (by show w.heap.size≤gF;omega) u,Out.trans h.from_ (bk (F:=fun j=>j=gF) rfl) (fun j h1 e=>by omega),h.lo⟩
theorem uU.grown (h:uU w lv wv fv N hs gF g12 X1 W st F) {k n:Nat} {e:TypeId} {v:Value} {xs:List Value} (ho:W.ownsRow X1.heap.size e k v n xs) (hg:W.grownBy W' v.ownBlock) (e1:e≠28) (e2:e≠111):uU w lv wv fv N hs gF g12 X1 W' st F :=
 h.out (jN hg) (fun i hi _=>⟨(ho.lt i hi).1,aR ho h.kF e1 i hi,aR ho h.kh e2 i hi⟩)
end
theorem UO (x:ak) (lv wv fv:Value) (N area:Int) (w:World) (h:bu w w.heap.size lv wv fv x) (hx:x.ok) (hst:x.steps≤900000000000) :
 Calls Tryz.prog 19 #[.agg #[lv,wv,.int .i64 x.steps,fv],.agg #[.int .i64 N],.int .i64 area] w fun e w'=>∃v,e=.returned (.tuple #[.agg #[lv,wv,.int .i64 (dR x N area).1.steps,fv],v,.int .i64 (dR x N area).2.2]) ∧
  dw w.heap.size w' v (dR x N area).2.1∧Below w.heap.size w w':=by
 have dD:=ae h.one;have HR:=ae h;obtain⟨W,eW⟩:∃W,W=(((w.alloc (.cells #[lv,wv,.int .i64 x.steps,fv] 40)).alloc (.cells #[.int .i64 N] 23)).alloc (.cells aM 40)).alloc (.cells aF 28):=⟨_,rfl⟩;have hbW:Below w.heap.size w W:=by rw[eW];exact((((ax _ w).alloc (ai _) _).alloc (by simp) _).alloc (by simp;omega) _).alloc (by simp;omega) _
 have k0:ah W w.heap.size 40 #[lv,wv,.int .i64 x.steps,fv]:=by rw[eW];exact(((ah.new w _ _).alloc _).alloc _).alloc _
 have k1:ah W (w.heap.size+1) 23 #[.int .i64 N]:=by rw[eW];exact((ah.new2 w _ _ _).alloc _).alloc _
 have k3:ah W (w.heap.size+2) 40 aM:=by rw[eW];exact(ah.new' (by simp)).alloc _
 have k4:ah W (w.heap.size+3) 28 aF:=by rw[eW];exact ah.new' (by simp)
 have hhd:=Hf x lv wv fv N area W ((h.below hbW (ai _)).mono hbW.size) hx;have TV:W.heap.size=w.heap.size+4:=by rw[eW];simp
 obtain⟨f,ef⟩:∃f,f=(bN x N area).2.1:=⟨_,rfl⟩;obtain⟨c,ec⟩:∃c,c=(bN x N area).2.2:=⟨_,rfl⟩;obtain⟨s1,es1⟩:∃s,s=(bN x N area).1.steps:=⟨_,rfl⟩;rw[←ef,←ec,←es1]at hhd;have HH:=ae hhd;have YL:=ae ef;have qw:=ae ec;have xx:=ae es1;have HSW:=ae TV;clear hhd h ef ec es1 TV;go_enter Tryz.func19,Tryz.ntmps19
 go_upto_region 1 with fail;rw[←eW];clear eW;have c1:=k1.ag 0 rfl;go_wp2_with (first
  | (refine bt rfl 40 _ rfl w.heap.size rfl 40 #[lv,wv,.int .i64 x.steps,fv] (0,0) _ k0 bV rfl (au _ _ _ _) ?_))
 refine HH.out.mono ?_;rintro e X1 ⟨v,rfl,hF,⟨v1,vo,vs,rfl⟩,hx1⟩;have HF:=ae hF;obtain⟨_,_,_,ev,hf1, -,hf3⟩:=hF.E1;simp at ev;obtain⟨rfl,rfl,rfl,rfl⟩:=ev;obtain⟨ed,Fu⟩:∃ed,ed=f.ed:=⟨_,rfl⟩;rw[←Fu]at HF ⊢;obtain⟨l1,ao,co,rfl,l2, -⟩:=hf1;obtain⟨l5,aw,cw,rfl,l6, -⟩:=hf3;obtain⟨n,en⟩:∃n,n=f.bj.length:=⟨_,rfl⟩;obtain⟨nb,mQ⟩:∃n,n=f.state.length:=⟨_,rfl⟩;rw[←en,←mQ]at HF ⊢;have pS:=ae en;have adh:=ae mQ;have adi:=ae Fu;have BZ:(#[.int .i64 ed,.slice ao n co,.slice none 0 0,.slice aw nb cw]:Array Value).all (·.oneCell')=true:=by simp[Value.oneCell']
 have uT:(Tryz.prog.info? 28).map (·.size)=some (#[.int .i64 ed,.slice ao n co,.slice none 0 0,.slice aw nb cw]:Array Value).size:=by
  show _=some 4;kernel_rfl
 have J0:=k0.below hx1 k0.lt;have J1:=k1.below hx1 k1.lt;have J3:=k3.below hx1 k3.lt;have J4:=k4.below hx1 k4.lt;have hl:w.heap.size+3<X1.heap.size:=J4.lt;have hB:=hbW.trans (hx1.mono hbW.size);obtain⟨v1,ev1⟩:∃v:Array Value,v=#[lv,wv,.int .i64 s1,fv]:=⟨_,rfl⟩;obtain⟨v2,Au⟩:∃v:Array Value,v=#[.int .i64 ed,.slice ao n co,.slice none 0 0,.slice aw nb cw]:=⟨_,rfl⟩;have y9:=(ah.new X1 40 aM).alloc (.cells aF 28);have Ox:=aH (ah.new2 X1 (.cells aM 40) 28 aF) v1 (g':=X1.heap.size) (by omega);have z9:=aH (y9.row v1) v2 (g':=X1.heap.size+1) (by omega);have KX:=Ox.row v2;have far:∀ {g:Nat} {t:TypeId} {cs:Array Value},ah X1 g t cs→ah ((((X1.alloc (.cells aM 40)).alloc (.cells aF 28)).setRow X1.heap.size v1).setRow (X1.heap.size+1) v2) g t cs :=
  fun {g t cs} hb=>aH (aH ((hb.alloc (.cells aM 40)).alloc (.cells aF 28)) v1 (g':=X1.heap.size) (by have:=hb.lt;omega)) v2 (g':=X1.heap.size+1) (by have:=hb.lt;omega)
 have z0:=far J0;have z1:=far J1;have z3:=far J3;have z4:=far J4;have hB1:=aA (aA (((ax X1.heap.size X1).alloc (ai _) (.cells aM 40)).alloc (by rw[iF];omega) (.cells aF 28)) v1 (g:=X1.heap.size) (by omega)) v2 (g:=X1.heap.size+1) (by omega);have hB2:=hB.trans (hB1.mono hB.size);subst ev1 Au;clear J0 J1 J3 J4 k0 k1 k3 k4 hbW hx1 hB c1 far HH en mQ Fu l1 l2 l5 l6;go_upto_region 2 with (first
  | (refine aQ rfl 40 _ _ rfl X1.heap.size #[lv,wv,.int .i64 s1,fv] rfl rfl 40 aM y9 (au _ _ _ _) rfl (dD.out _) ?_)
  | (refine aQ rfl 28 _ _ rfl (X1.heap.size+1) #[.int .i64 ed,.slice ao n co,.slice none 0 0,.slice aw nb cw] rfl rfl 28 aF Ox uT rfl BZ ?_))
 obtain⟨Y,eY⟩:∃Y,Y=(((X1.alloc (.cells aM 40)).alloc (.cells aF 28)).setRow X1.heap.size #[lv,wv,.int .i64 s1,fv]).setRow (X1.heap.size+1) #[.int .i64 ed,.slice ao n co,.slice none 0 0,.slice aw nb cw]:=⟨_,rfl⟩;rw[←eY]at z9 KX z0 z1 z3 z4 hB2 hB1 ⊢;clear eY y9 Ox uT BZ;obtain⟨g9,eg9⟩:∃g,g=X1.heap.size:=⟨_,rfl⟩;obtain⟨gF,Us⟩:∃g,g=g9+1:=⟨_,rfl⟩;have hX1:g9=X1.heap.size:=eg9;rw[←eg9]at z9 KX hl ⊢;rw[←Us]at KX ⊢;have Fo:g9<gF:=by omega
 clear eg9 Us;by_cases hc:c=0
 case neg =>
  have cH:=ae (show dR x N area=((bN x N area).1,gi,c)by rw[qw.out];exact QS (by rw[←qw.out];exact hc));rw[xx.out]at z9;have hcb:(c != 0)=true:=by simpa using hc
  rw[xx.out];have pW:=aH z4 #[lv,wv,.int .i64 (bN x N area).1.steps,fv] (g':=w.heap.size+2) (by omega);go_wp2_with (first
   | (refine bt rfl 40 _ rfl g9 rfl 40 #[lv,wv,.int .i64 (bN x N area).1.steps,fv] (0,0) _ z9 bV rfl (au _ _ _ _) ?_)
   | (refine bO rfl 28 _ rfl aF (by kernel_rfl) ?_)
   | (refine aQ rfl 40 _ _ rfl (w.heap.size+2) #[lv,wv,.int .i64 (bN x N area).1.steps,fv] rfl rfl 40 aM z3 (au _ _ _ _) rfl (dD.out _) ?_)
   | (refine aQ rfl 28 _ _ rfl (w.heap.size+3) aF rfl rfl 28 aF pW gq rfl lF ?_))
  have hbf:=aA (aA hB2 #[lv,wv,.int .i64 (bN x N area).1.steps,fv] (g:=w.heap.size+2) (by omega)) aF (g:=w.heap.size+3) (by omega);exact bc (b_ sk _ _ _ _ _ _ _ (by rfl) (bB (aH (ah.row z3 _) _ (by omega))) (by rfl) (jj (pW.row _)) (by rfl)) rfl ⟨_,by rw[cH.out];rfl,by rw[cH.out];exact fun _ _ _ _=>df _ _,hbf⟩
 subst hc;have gZ:=ae (Nv qw.out.symm);have bU:=gZ.out.1;obtain⟨N,rfl⟩:∃M:Nat,N=M:=⟨N.toNat,by have:=(ll bU).1;omega⟩;obtain⟨a,rfl⟩:∃a:Nat,area=a:=⟨area.toNat,by have:=(ll bU).2.2.2;omega⟩;obtain⟨q1,q2,q3,q4⟩:=yw bU;have hN:1≤N∧N≤64:=⟨q1,q2⟩;have hp2:Place.ok N ⟨2,a,0⟩:=⟨q4,.inl ⟨rfl,rfl⟩⟩;have hp3:∀k,k<8→Place.ok N ⟨3,a,k⟩:=fun k hk=>⟨q4,.inr (.inl ⟨rfl,hk⟩)⟩
 have TL:∀k,k<N→Place.ok N ⟨4,a,k⟩:=fun k hk=>⟨q4,.inr (.inr ⟨rfl,hk⟩)⟩
 have mT:=ae (show ∀i,(fZ x N a i).length=512 from fun i=>x.dS hx.sound _);have Lw:=ae (show ∀i,(rD x N a i).length=512 from fun i=>x.dS hx.sound _);have hf:f=nu (aP x N a):=by rw[YL.out,gZ.out.2.2.2]
 have hn:n=aC (aP x N a) 12 2:=by rw[pS.out,hf];simp[nu]
 have hnb:nb=aC (aP x N a) 14 2:=by rw[adh.out,hf];simp[nu]
 have hed:ed=(aC (aP x N a) 4 8:Nat):=by rw[adi.out,hf];rfl
 have hs1:s1=(x.plus 1).steps:=by rw[xx.out,gZ.out.2.2.2]
 subst hs1;have hnN:n≤N:=by
  have hh:=gZ.out.2.2.1;unfold bI at hh;simp only[Bool.and_eq_true,decide_eq_true_eq]at hh;rw[hn];have h9:=hh.2.2.2.1;omega
 have am3:nb≤4096:=by
  have hh:=gZ.out.2.2.1;unfold bI at hh;simp only[Bool.and_eq_true,decide_eq_true_eq]at hh;rw[hnb];exact hh.2.2.2.2.1
 have hck:aD nb≤8:=by unfold aD;omega
 have HPK:=ae (fun(k:Nat) (hk:k≤1000)=>BS hx hst k hk);have Ol:=ae (show ∀k W B,bu W B lv wv fv x→bu W B lv wv fv (x.plus k)from fun k W B hh=>⟨hh.lasts,hh.waits,hh.fails⟩);have GQ:=ae (show ∀ (k:Nat) (p:Place),k≤1000→p.ok N→(p.a=a)→((p.k=2∧p.t=0)∨(p.k=3∧p.t<8)∨(p.k=4∧p.t<N))→∀W,bu W W.heap.size lv wv fv x →
  Calls Tryz.prog 63 #[.agg #[lv,wv,.int .i64 (x.plus k).steps,fv],.int .i64 ((p.sec N:Nat):Int)] W fun e w'=>e=.returned (.tuple #[.agg #[lv,wv,.int .i64 (x.plus (k+1)).steps,fv],.agg (((x.plus k).read ((p.sec N:Nat):Int)).map aj).toArray,.int .i64 ((x.plus k).err ((p.sec N:Nat):Int))])∧Below W.heap.size W w' by
  intro k p hk hp hpa hpk W hh;have hr:=EK (x.plus k) lv wv fv ((p.sec N:Nat):Int) W (Ol.out k _ _ hh) (HPK.out k hk);have e:=iB N p hN hp;have ht:=iY bU p.k p.t (by omega);rw[←hpa,show aJ N p.k p.a p.t=_ from e]at ht;rw[fR (y:=x.plus k) ht,dd]at hr;exact hr)
 have hs2:(aJ N 2 a 0).1=((Place.sec N ⟨2,a,0⟩:Nat):Int):=dz Prod.fst (iB N ⟨2,a,0⟩ hN hp2);have xt:=ae (show ∀k:Nat,k<8→(aJ N 3 a k).1=((Place.sec N ⟨3,a,k⟩:Nat):Int)from fun k hk=>dz Prod.fst (iB N ⟨3,a,k⟩ hN (hp3 k hk)));have Av:=ae (show ∀k:Nat,k<N→(aJ N 4 a k).1=((Place.sec N ⟨4,a,k⟩:Nat):Int)from fun k hk=>dz Prod.fst (iB N ⟨4,a,k⟩ hN (TL k hk)));have hlt2:=(iY bU 2 0 (.inl ⟨rfl,rfl⟩)).2;rw[hs2]at hlt2;have Aj:=ae (show ∀W,bu W W.heap.size lv wv fv x→Calls Tryz.prog 61 #[.agg #[lv,wv,.int .i64 x.steps,fv],.int .i64 ((Place.sec N ⟨2,a,0⟩:Nat):Int)] W fun e w'=>e=.returned (.agg ((aP x N a).map aj).toArray)∧Below W.heap.size W w' by
  intro W hh;have hr:=Cu x lv wv fv x.steps (Place.sec N ⟨2,a,0⟩) W hh hx hlt2;unfold aP;rw[hs2];exact hr)
 obtain⟨hs,UP⟩:∃hs,hs=aP x N a:=⟨_,rfl⟩;rw[←UP]at Aj hn hnb hed;have hsl:hs.length=512:=by rw[UP];exact x.dS hx.sound _
 have sV:=ae UP;have HSL:=ae hsl;have Di:=ae hn;have QT:=ae hnb;have S6:=ae hed;have HFX:=ae (show f=nu hs by rw[UP];exact hf);have HHF:=ae (show dw (w.heap.size+4) X1 (.agg #[.int .i64 ed,.slice ao n co,.slice none 0 0,.slice aw nb cw]) f by rw[←HSW.out];exact HF.out);have Tq:=ae hX1;have HB1:=ae hB1;have HW:=ae hB2;have K0:=ae z0;have K1:=ae z1;have K3:=ae z3;have K4:=ae z4;have K9:=ae z9;have KF:=ae KX;clear UP hn hnb hed hf bU hs2 hlt2 HF qw pS adh adi HSW xx YL hX1 hB1 hB2 z0 z1 z3 z4 z9 KX q1 q2 q3 q4;go_upto_region 4 with fail;obtain⟨n2,en2⟩:∃n:Int,n=((Place.sec N ⟨2,a,0⟩:Nat):Int):=⟨_,rfl⟩;rw[←en2]at Aj;have CA:=ae en2;obtain⟨zs,ezs⟩:∃zs:Array Value,zs=Tryz.zeroCells111:=⟨_,rfl⟩;have S8:=ae (show zs.size=(hs.map aj).toArray.size by rw[ezs,bE];exact bT _ _ et hsl);have HZS:=ae ezs;clear ezs en2 hsl;refine jb (fun X=>Below Y.heap.size Y X) (fun _=>True) 100 (ax _ Y).drew trivial fun hHeld hJ=>?_;refine jy false 0 rfl (cY (by rfl) 40 _ rfl w.heap.size 0 rfl [lv,wv,.int .i64 x.steps,fv] _ (fun X h=>by have:=dt (K0.out.below h.1 K0.out.lt);simpa using this) bV rfl (au _ _ _ _)) ?_;refine jk false 1 ?_ (hy:=by intro X hX _;have hc:=(K1.out.below hX K1.out.lt).ag 0 rfl;go_simp;try with_reducible rfl);refine jk false 2 ?_;refine rp [(3,[],[],false),(4,[(3,some 41)],[3],false),(5,[],[],false),(6,[(3,some 41),(4,some 42),(5,some 12)],[4,5],false)]
  (fun | 5=>[6] | _=>[])
  (fun | 3=>fun vs _=>vs 3=.int .i64 n2 | 4=>fun vs _=>vs 4=.agg (hs.map aj).toArray | 5=>fun vs X=>∃g,vs 5=.pointer (some ⟨g,0,none⟩)∧Y.heap.size≤g∧ah X g 111 zs | 6=>fun vs X=>∃g,vs 5=.pointer (some ⟨g,0,none⟩)∧Y.heap.size≤g∧ah X g 111 (hs.map aj).toArray | _=>fun _ _=>True)
  (fun | 6=>fun _ X Z=>∃g cs,ah X g 111 cs∧Out (fun i=>i=g) X Z | _=>fun _ X Z=>Below X.heap.size X Z)
  [(3,some 41),(4,some 42),(5,some 12),(6,none)] [6] [(3,[5]),(4,[3,5]),(5,[3,4]),(6,[3,4])] ?_ ?_ ?_ ?_
 ·exact⟨⟨fun vs X Z hE _ _ ⟨g,e,l,b⟩=>⟨g,e,l,b.below hE b.lt⟩,trivial⟩,⟨fun _ _ _ _ _ _ h=>h,fun vs X Z hE _ _ ⟨g,e,l,b⟩=>⟨g,e,l,b.below hE b.lt⟩,trivial⟩,⟨fun _ _ _ _ _ _ h=>h,fun _ _ _ _ _ _ h=>h,trivial⟩,⟨fun _ _ _ _ _ _ h=>h,fun _ _ _ _ _ _ h=>h,trivial⟩,trivial⟩
 ·exact cc (cc (cc (cc cn)))
 ·refine oc ?_ (oc ?_ (oc ?_ (oc ?_ on)))
  ·intro vs X K hS _ _ hK;simp only[puts,Act.put,l_,me,mf,mh,mi,mj];go_simp;refine(rq N ⟨2,a,0⟩ X hN hp2).mono ?_;rintro r Z ⟨rfl,hb⟩;rw[←CA.out];exact hK.out _ _ _ rfl (Aa hS (hb.mono (kR hS))) (.inr id) rfl hb
  ·intro vs X K hS _ hP hK;have e7:vs 3=.int .i64 n2:=hP.1;have hbX:=HW.out.trans (Below.mono hS HW.out.size);simp only[puts,Act.put,l_,me,mf,mh,mi,mj,e7];go_simp;refine(Aj.out X ((HR.out.below hbX (ai _)).mono hbX.size)).mono ?_;rintro r Z ⟨rfl,hb⟩;exact hK.out _ _ _ (by simp only[puts,Act.put,l_,me,mf,mh,mi,mj,e7]) (Aa hS (hb.mono (kR hS))) (.inr id) rfl hb
  ·intro vs X K hS _ _ hK;have hn:=ah.new X 111 zs;have hzz:=HZS.out;simp only[puts,Act.put,l_,me,mf,mh,mi,mj];go_simp;rw[←hzz];exact hK.out _ _ _ rfl (DU hS (kR hS) _) (.inr id) ⟨X.heap.size,rfl,kR hS,hn⟩ ((ax X.heap.size X).alloc (ai _) _)
  ·intro vs X K hS _ hP hK;have e9:vs 4=.agg (hs.map aj).toArray:=hP.1;refine Exists.elim (show ∃g,vs 5=.pointer (some ⟨g,0,none⟩)∧Y.heap.size≤g∧ah X g 111 zs from hP.2.1) fun g Tj=>?_;obtain⟨e12,hg0,hB⟩:=Tj;clear hP;simp only[puts,Act.put,l_,me,mf,mh,mi,mj,e9,e12];rw[aB (by rfl)];refine ez 111 _ _ rfl g (hs.map aj).toArray rfl rfl 111 _ hB (aO _ HSL.out) S8.out (bq _) ?_;exact hK.out _ undef _ (by simp only[puts,Act.put,l_,me,mf,mh,mi,mj,e9,e12]) (aA hS _ hg0) (.inr id) ⟨g,by rw[upd_ne (by decide)];exact e12,hg0,ah.row hB _⟩ ⟨g,_,hB,bL _ rfl⟩
 intro vs Q hq hP;obtain⟨⟨g12,e12,Ze,b12⟩, -⟩:=hP;have e12:vs 5=.pointer (some ⟨g12,0,none⟩):=e12;simp only[puts,Act.put,l_,me,mf,mh,mi,mj,e12];generalize vs 3=t3;generalize vs 4=t4;clear e12 hHeld hJ Aj S8 HZS CA;have hYF:gF<Y.heap.size:=KF.out.lt;have hl:=Tq.out;have K9Q:=K9.out.below hq K9.out.lt;have I0:=ae (show uU w lv wv fv N hs gF g12 X1 Q x.steps #[.int .i64 ed,.slice ao n co,.slice none 0 0,.slice aw nb cw]from⟨K0.out.below hq K0.out.lt,K1.out.below hq K1.out.lt,K3.out.below hq K3.out.lt,K4.out.below hq K4.out.lt,KF.out.below hq hYF,b12,HW.out.trans (hq.mono HW.out.size),Out.trans (aN HB1.out) (vq hq (F:=fun i=>Y.heap.size≤i) (fun i h=>h)) (fun i h1 h2=>by have:=HB1.out.size;omega),by omega⟩);have I1:=ae (I0.out.step (x.plus 1).steps);have hw9:w.heap.size<g9:=by omega
 clear hq b12 K0 K1 K3 K4 KF HW HB1 hl;go_upto_region 6 with (first
  | (refine bt rfl 40 _ rfl g9 rfl 40 #[lv,wv,.int .i64 (x.plus 1).steps,fv] (0,0) _ K9Q bV rfl (au _ _ _ _) ?_)
  | (refine aQ rfl 40 _ _ rfl w.heap.size #[lv,wv,.int .i64 (x.plus 1).steps,fv] rfl rfl 40 #[lv,wv,.int .i64 x.steps,fv] I0.out.k0 (au _ _ _ _) rfl (dD.out _) ?_))
 generalize Q.setRow w.heap.size #[lv,wv,.int .i64 (x.plus 1).steps,fv]=Q5 at *;have hX4:=I1.out.lo.1;clear I0 K9Q K9 Ze Fo hYF;go_wp2_with fail;go_loopw [13] (fun i wr=>∃ (k:Nat) (vb:Value),k≤n∧i=.int .i64 (k:Int)∧Hid (uU w lv wv fv N hs gF g12 X1 wr (x.plus (1+k)).steps #[.int .i64 ed,.slice ao n co,vb,.slice aw nb cw])∧Hid (wr.ownsRow X1.heap.size 62 163 vb k (mE x N a k))∧Hid (∀i,i<k→lD x N a (1+i) i=0)) (fun i _=>n-(intOf i).toNat)
 case atStart=>exact⟨0,_,fi _,rfl,I1,ae (km _ _ _ _),ae (fun i hi=>absurd hi (p' _))⟩
 case round =>
  obtain⟨k,vb,hk,rfl,I,HO,oI⟩:=hrel;obtain⟨wo,rfl⟩:∃v,v=wr:=⟨_,rfl⟩;have c1:=I.out.kF.ag 1 rfl;clear I1;by_cases hlt:k<n
  ·have Cv:(k:Int)<(n:Int):=by omega
   have hkN:k<N:=by omega
   have UQ:=ae (GQ.out (1+k) ⟨4,a,k⟩ (by omega) (TL k hkN) rfl (.inr (.inr ⟨rfl,hkN⟩)));obtain⟨n4,Fx⟩:∃n:Int,n=((Place.sec N ⟨4,a,k⟩:Nat):Int):=⟨_,rfl⟩;have hsk:(aJ N 4 a k).1=n4:=by rw[Fx];exact Av.out k hkN
   have Fy:=UQ.out;rw[←Fx]at Fy;obtain⟨er,xw⟩:∃e,e=(x.plus (1+k)).err n4:=⟨_,rfl⟩;obtain⟨bs,y7⟩:∃b,b=(x.plus (1+k)).read n4:=⟨_,rfl⟩;have hbl:bs.length=512:=by rw[y7];unfold ak.read;split;exact x.dS hx.sound _;exact et
   rw[←xw,←y7]at Fy;have Mn:=ae Fy;have jM:=ae hbl;have qH:=ae (show er=(x.plus (1+k)).err (aJ N 4 a k).1 by rw[hsk];exact xw);have qW:=ae (show er=0→bs=rD x N a k by intro h0;rw[y7];unfold ak.read;rw[←xw,aB h0,EY,←hsk];rfl);have Ez:=ae Fx;clear Fy UQ Fx xw y7 hsk;go_upto_region 9 with fail;refine jb (fun X=>Below wo.heap.size wo X) (fun _=>True) 100 (ax _ wo).drew trivial fun hHeld hJ=>?_;refine jy false 0 rfl (cY (by rfl) 40 _ rfl w.heap.size 0 rfl [lv,wv,.int .i64 (x.plus (1+k)).steps,fv] _ (fun X h=>by have:=dt (I.out.k0.below h.1 I.out.k0.lt);simpa using this) bV rfl (au _ _ _ _)) ?_;refine jk false 1 ?_ (hy:=by intro X hX _;have hc:=(I.out.k1.below hX I.out.k1.lt).ag 0 rfl;go_simp;try with_reducible rfl);refine jk false 2 ?_;refine jk false 3 ?_;refine QL wo 4 56 57 51 58 59 60 14 15 16 n4 er #[lv,wv,.int .i64 (x.plus (1+k+1)).steps,fv] (bs.map aj).toArray
    (fun X=>(rq N ⟨4,a,k⟩ X hN (TL k hkN)).mono (by rintro e w' ⟨rfl,hb⟩;exact⟨by rw[Ez.out],hb⟩))
    (fun X hX=>Mn.out X ((HR.out.below (I.out.below.trans (hX.mono I.out.below.size)) (ai _)).mono (I.out.below.trans (hX.mono I.out.below.size)).size))
    (au _ _ _ _) rfl (dD.out _) (aO _ hbl) (by rw[bE];exact bT _ _ et hbl) (bq _) hHeld ?_
   intro u0 u1 u2 u3 u4 u5 g14 g15 Q hq l14 l15 b14 b15;simp only[Act.put,l_,me,mf,mh,mi,mj];clear hHeld hJ Mn c1 Ez;have hwo:X1.heap.size≤wo.heap.size:=I.out.from_.size;have IQ:=ae (I.out.out (G:=fun _=>False) (aN hq) (fun _ h=>h.elim));have OQ:=ae (aq (F:=fun _=>False) (aN hq) HO.out (fun _ _=>id));have Zk:=ae (aH b15 #[lv,wv,.int .i64 (x.plus (1+k+1)).steps,fv] (g':=w.heap.size) (by omega));have I2:=ae (IQ.out.step (x.plus (1+k+1)).steps);have O2:=ae (aq (F:=fun i=>i=w.heap.size) (bL (w:=Q) #[lv,wv,.int .i64 (x.plus (1+k+1)).steps,fv] rfl) OQ.out (aR OQ.out IQ.out.k0 (by decide)));clear b15 OQ I HO hq;go_upto_region 11 with (first
    | (refine bt rfl 40 _ rfl g14 rfl 40 #[lv,wv,.int .i64 (x.plus (1+k+1)).steps,fv] (0,0) _ b14 bV rfl (au _ _ _ _) ?_)
    | (refine aQ rfl 40 _ _ rfl w.heap.size #[lv,wv,.int .i64 (x.plus (1+k+1)).steps,fv] rfl rfl 40 #[lv,wv,.int .i64 (x.plus (1+k)).steps,fv] IQ.out.k0 (au _ _ _ _) rfl (dD.out _) ?_))
   generalize Q.setRow w.heap.size #[lv,wv,.int .i64 (x.plus (1+k+1)).steps,fv]=Q1 at *;clear b14 IQ;by_cases her:er=0
   case neg =>
    have cH:=ae (show dR x N a=(x.plus (1+k+1),gi,er)from lq gZ.out.1 (by rw[nA];exact pV gZ.out.2.1 gZ.out.2.2.1 (by rw[←sV.out,←Di.out];exact hlt) oI.out (by rw[qH.out];exact LN (by rw[←qH.out];exact her)) her) her);have hnb:(er != 0)=true:=by simpa using her
    have pW:=aH I2.out.k3 #[lv,wv,.int .i64 (x.plus (1+k+1)).steps,fv] (g':=w.heap.size+2) (by omega);go_wp2_with (first
     | (refine bt rfl 40 _ rfl w.heap.size rfl 40 #[lv,wv,.int .i64 (x.plus (1+k+1)).steps,fv] (0,0) _ I2.out.k0 bV rfl (au _ _ _ _) ?_)
     | (refine bO rfl 28 _ rfl aF (by kernel_rfl) ?_)
     | (refine aQ rfl 40 _ _ rfl (w.heap.size+2) #[lv,wv,.int .i64 (x.plus (1+k+1)).steps,fv] rfl rfl 40 aM I2.out.k2 (au _ _ _ _) rfl (dD.out _) ?_)
     | (refine aQ rfl 28 _ _ rfl (w.heap.size+3) aF rfl rfl 28 aF pW gq rfl lF ?_))
    have hbf:=aA (aA I2.out.below #[lv,wv,.int .i64 (x.plus (1+k+1)).steps,fv] (g:=w.heap.size+2) (by omega)) aF (g:=w.heap.size+3) (by omega);exact bc (b_ sk _ _ _ _ _ _ _ (by rfl) (bB (aH (ah.row I2.out.k2 _) _ (by omega))) (by rfl) (jj (pW.row _)) (by rfl)) rfl ⟨_,by rw[cH.out];rfl,by rw[cH.out];exact fun _ _ _ _=>df _ _,hbf⟩
   subst her;have GC:=qW.out rfl;have UR:=ae qH.out.symm;obtain⟨o,eo⟩:∃o,o=kE bs N:=⟨_,rfl⟩;obtain⟨no,eno⟩:∃no,no=eO bs N:=⟨_,rfl⟩;have Zi:=ae (show ∀X,Calls Tryz.prog 64 #[.agg (bs.map aj).toArray,.int .i64 (N:Int)] X fun r w'=>r=.returned (.tuple #[.agg o.cells.toArray,.int .i64 no])∧Below X.heap.size X w' from fun X=>by rw[eo,eno];exact UK bs hbl N X);have hok:o.ok:=by rw[eo];exact Of hbl _
   have hoi:=XB o hok;have ho1:=Xz o;have hos:=UM o hok;have LG:=ae (show no=0→o=ff (bs.take 508)by intro h0;rw[eo];unfold kE;rw[←eno,aB h0]);have jA:=ae eno;have US:=ae GC;have c0:=I2.out.k1.ag 0 rfl;have adm:(Tryz.zeroCells62:Array Value).size=o.cells.toArray.size:=by rw[dP];exact hos
   clear eo eno qH qW GC;go_wp2_with (refine bt rfl 111 _ rfl g15 rfl 111 (bs.map aj).toArray (0,0) _ Zk.out dj rfl (aO _ hbl) ?_)
   refine(Zi.out Q1).mono ?_;rintro r X9 ⟨rfl,dT⟩;obtain⟨XA,Zl⟩:∃XA,XA=X9.alloc (.cells o.cells.toArray 62):=⟨_,rfl⟩;have jO:Below Q1.heap.size Q1 XA:=by rw[Zl];exact dT.alloc dT.size _
   have KO:=ae (show ah XA X9.heap.size 62 o.cells.toArray by rw[Zl];exact ah.new X9 _ _);have I3:=ae (I2.out.out (G:=fun _=>False) (aN jO) (fun _ h=>h.elim));have O3:=ae (aq (F:=fun _=>False) (aN jO) O2.out (fun _ _=>id));have KB:=ae (Zk.out.below jO Zk.out.lt);have hQ9:=dT.size;go_upto_region 14 with (refine aQ rfl 62 _ _ rfl X9.heap.size o.cells.toArray rfl rfl 62 _ (bC X9 _) hoi adm ho1 ?_;rw[di])
   rw[←Zl];have ai0:X1.heap.size≤X9.heap.size:=jF (by have:=I2.out.from_.size;exact this) hQ9;obtain⟨gx,CF⟩:∃g,g=X9.heap.size:=⟨_,rfl⟩;rw[←CF]at KO ai0 ⊢;clear Zl jO dT I2 O2 Zk c0 CF hQ9;by_cases hno:no=0
   case neg =>
    have cH:=ae (show dR x N a=(x.plus (1+k+1),gi,170)from lq gZ.out.1 (by rw[nA];exact pV gZ.out.2.1 gZ.out.2.2.1 (by rw[←sV.out,←Di.out];exact hlt) oI.out (BR UR.out (fun hgo=>hno (by rw[jA.out,US.out];exact hgo.1))) (by decide)) (by decide));have hnb:(no != 0)=true:=by simpa using hno
    refine jb (fun X=>Below XA.heap.size XA X) (fun _=>True) 100 (ax _ XA).drew trivial fun hHeld hJ=>?_;refine jk false 0 ?_;refine jk false 1 ?_;refine jk false 2 ?_;refine ju 3 ?_;refine ju 4 ?_;refine ju 5 ?_;refine ju 6 ?_;refine ju 7 ?_;refine ju 8 ?_;refine ju 9 ?_;refine ju 10 ?_;refine ju 11 ?_;refine ju 12 ?_;refine ju 13 ?_;refine ju 14 ?_;refine jk false 15 ?_;refine qY ?_;have I4:=ae (I3.out.out (G:=fun _=>False) (aN hHeld) (fun _ h=>h.elim));have pW:=aH I4.out.k3 #[lv,wv,.int .i64 (x.plus (1+k+1)).steps,fv] (g':=w.heap.size+2) (by omega);go_wp2_with (first
     | (refine bt rfl 40 _ rfl w.heap.size rfl 40 #[lv,wv,.int .i64 (x.plus (1+k+1)).steps,fv] (0,0) _ I4.out.k0 bV rfl (au _ _ _ _) ?_)
     | (refine bO rfl 28 _ rfl aF (by kernel_rfl) ?_)
     | (refine aQ rfl 40 _ _ rfl (w.heap.size+2) #[lv,wv,.int .i64 (x.plus (1+k+1)).steps,fv] rfl rfl 40 aM I4.out.k2 (au _ _ _ _) rfl (dD.out _) ?_)
     | (refine aQ rfl 28 _ _ rfl (w.heap.size+3) aF rfl rfl 28 aF pW gq rfl lF ?_))
    have hbf:=aA (aA I4.out.below #[lv,wv,.int .i64 (x.plus (1+k+1)).steps,fv] (g:=w.heap.size+2) (by omega)) aF (g:=w.heap.size+3) (by omega);exact bc (b_ sk _ _ _ _ _ _ _ (by rfl) (bB (aH (ah.row I4.out.k2 _) _ (by omega))) (by rfl) (jj (pW.row _)) (by rfl)) rfl ⟨_,by rw[cH.out];rfl,by rw[cH.out];exact fun _ _ _ _=>df _ _,hbf⟩
   subst hno;obtain⟨p,ep⟩:∃p,p=22+6*k:=⟨_,rfl⟩;have am4:k<64:=by omega
   have YZ:IntKind.i64.wrap (6*(k:Int))=6*k:=by rw[cz];omega
   have hwp:IntKind.i64.wrap (22+6*(k:Int))=(p:Int):=by rw[cz];omega
   obtain⟨q,eq⟩:∃q,q=p+4:=⟨_,rfl⟩;have hwq:IntKind.i64.wrap (26+6*(k:Int))=(q:Int):=by rw[cz];omega
   have hp0:(0:Int)≤(p:Int):=by omega
   have hpq:(p:Int)≤(q:Int):=by omega
   have Y0:(q:Int)≤512:=by omega
   have hp5:¬512=p:=by omega
   have hpn:p+4≤512:=by omega
   have pd:q-p=4:=by omega
   obtain⟨C,eC⟩:∃C,C=(dJ (bs.take 508)).toNat:=⟨_,rfl⟩;obtain⟨V,eV⟩:∃V,V=aC hs (22+6*k) 4:=⟨_,rfl⟩;have ai1:IntKind.i64.wrap (C:Int)=(C:Int):=by rw[eC,cz];have:=pK (bs.take 508);omega
   have tg:(if iN ((hs.drop p).take 4) then (aW ((hs.drop p).take 4):Int) else 0)=(V:Int):=by
    rw[im _ (.inr (by rw[bD,c_,HSL.out];omega)),eV,ep];rfl
   have HNM:=ae tg;have Hl:=ae eC;have HV:=ae eV;clear eC eV ep eq tg;refine jb (fun X=>X=XA.drew) (fun _=>True) 100 rfl trivial fun hHeld hJ=>?_;have KBd:=KB.out.drew;have IFd:=I3.out.kh.drew;obtain⟨XD,eXD⟩:∃X,X=XA.drew:=⟨_,rfl⟩;rw[←eXD]at hHeld KBd IFd ⊢;have HXD:=ae eXD;clear eXD;refine jk false 0 ?_;refine jk false 1 ?_;refine jk false 2 ?_;refine jk false 3 ?_;refine jk false 6 ?_;refine jk false 7 ?_;refine jk false 8 ?_;refine jk false 9 ?_;refine jk false 10 ?_;refine jk false 11 ?_;refine jk false 12 ?_;clear YZ hwp hwq;refine jr 4 fun K hK=>?_;go_simp;refine(tX (.slice (some ⟨g15,0,none⟩) 508 512) (bs.take 508) XD (by have:=fq KBd 508 (by omega) (by rw[jM.out];decide);rw[jM.out]at this;exact this)).mono ?_;rintro e wn ⟨rfl,rfl⟩;unfold gM;rw[←Hl.out];dsimp only;refine hK.out _ _ ⟨hHeld,fun _=>trivial⟩ ?_;clear hK K;refine jk false 5 ?_;refine jr 13 fun K hK=>?_;go_simp;refine(ja (.slice (some ⟨g12,p,none⟩) 4 (512-p)) ((hs.drop p).take 4) XD (tJ HSL.out IFd p 4 hpn)).mono ?_;rintro e wn ⟨rfl,rfl⟩;rw[HNM.out];dsimp only;refine hK.out _ _ ⟨hHeld,fun _=>trivial⟩ ?_;clear hK K;refine jk false 14 ?_;refine jk false 15 ?_;refine qY ?_;have hbD:Below XA.heap.size XA XD:=by rw[HXD.out];exact(ax _ _).drew
   have I4:=ae (I3.out.out (G:=fun _=>False) (aN hbD) (fun _ h=>h.elim));have O4:=ae (aq (F:=fun _=>False) (aN hbD) O3.out (fun _ _=>id));have KO4:=ae (KO.out.below hbD KO.out.lt);clear I3 O3 KO KB hbD HXD KBd IFd hHeld;by_cases hqq:C=V
   case neg =>
    have hqi:¬ (C:Int)=(V:Int):=fun e=>hqq (by omega)
    have hqb:((C:Int) != (V:Int))=true:=by simpa using hqi
    have cH:=ae (show dR x N a=(x.plus (1+k+1),gi,170)from lq gZ.out.1 (by rw[nA];exact pV gZ.out.2.1 gZ.out.2.2.1 (by rw[←sV.out,←Di.out];exact hlt) oI.out (BR UR.out (fun hgo=>hqq (by rw[Hl.out,HV.out,US.out,sV.out];exact hgo.2))) (by decide)) (by decide));have pW:=aH I4.out.k3 #[lv,wv,.int .i64 (x.plus (1+k+1)).steps,fv] (g':=w.heap.size+2) (by omega);go_wp2_with (first
     | (refine bt rfl 40 _ rfl w.heap.size rfl 40 #[lv,wv,.int .i64 (x.plus (1+k+1)).steps,fv] (0,0) _ I4.out.k0 bV rfl (au _ _ _ _) ?_)
     | (refine bO rfl 28 _ rfl aF (by kernel_rfl) ?_)
     | (refine aQ rfl 40 _ _ rfl (w.heap.size+2) #[lv,wv,.int .i64 (x.plus (1+k+1)).steps,fv] rfl rfl 40 aM I4.out.k2 (au _ _ _ _) rfl (dD.out _) ?_)
     | (refine aQ rfl 28 _ _ rfl (w.heap.size+3) aF rfl rfl 28 aF pW gq rfl lF ?_))
    have hbf:=aA (aA I4.out.below #[lv,wv,.int .i64 (x.plus (1+k+1)).steps,fv] (g:=w.heap.size+2) (by omega)) aF (g:=w.heap.size+3) (by omega);exact bc (b_ sk _ _ _ _ _ _ _ (by rfl) (bB (aH (ah.row I4.out.k2 _) _ (by omega))) (by rfl) (jj (pW.row _)) (by rfl)) rfl ⟨_,by rw[cH.out];rfl,by rw[cH.out];exact fun _ _ _ _=>df _ _,hbf⟩
   subst hqq;have HGJ:=ae (show lD x N a (1+k) k=0 from Df UR.out ⟨by rw[←US.out];exact jA.out.symm,by rw[←US.out,←sV.out,←HV.out];exact Hl.out.symm⟩);have c2:=I4.out.kF.ag 2 rfl;obtain⟨i0,z0,hi0,hz0,hz1,hz2,hz3⟩:=vY;obtain⟨X,eX⟩:∃X,X=o.cells.toArray:=⟨_,rfl⟩;have Fm:X.size=163:=by rw[eX,b'];exact aK.len hok
   have hxi:(Tryz.prog.info? 62).map (·.size)=some X.size:=by rw[eX];exact hoi
   rw[←eX]at KO4;have I5:=ae (I4.out.out (G:=fun _=>False) (aN ((ax XD.heap.size XD).alloc (ai _) (.cells X 62))) (fun _ h=>h.elim));have O5:=ae (aq (F:=fun _=>False) (aN ((ax XD.heap.size XD).alloc (ai _) (.cells X 62))) O4.out (fun _ _=>id));have XE:=ae (ah.new XD 62 X);have hbs:X1.heap.size≤(XD.alloc (.cells X 62)).heap.size:=I5.out.from_.size;have pS:=ae (show mE x N a k++X.toList=mE x N a (k+1)by rw[EZ,eX,wz,LG.out rfl,US.out]);have hone:∀u∈X.toList,u.oneCell'=true:=by rw[eX];exact fun u hu=>ru _ u hu
   have hnk:k≤64:=by omega
   clear eX hoi ho1 hos hok Zi adm;go_wp2_with (first
    | (refine bt rfl 62 _ rfl gx rfl 62 X (0,0) _ KO4.out dH rfl hxi ?_)
    | (refine kP rfl fun K hK=>dW 25 62 1 _ rfl X i0 z0 wK hi0 hz0 (by rw[hz1];decide) (by rw[hz1];decide) (by exact N7 _ Fm i0 z0 hz1 hz3) (hK _ _ ?_))
    | (refine pZ _ rfl (.tmp 93) (.tmp 95) 25 rfl X1.heap.size 62 i0 z0 163 856 wK hi0 hz0 hz1 hz2 hz3 (by omega) vb k (mE x N a k) rfl O5.out ⟨XD.heap.size,0,none⟩ 1 1 X.toList rfl (by simp[Fm]) (ia (cs:=X) (t:=62) (fr:=(0,0)) XE.out) hone (by omega) (by unfold maxLen;omega) (by omega) hbs _ rfl ?_;intro gn ab6 wF Ue Fo WZ W_;have I6:=ae (I5.out.grown O5.out Fo (by decide) (by decide));have O6:=ae (show wF.ownsRow X1.heap.size 62 163 (.slice (some ⟨gn,0,none⟩) (k+1) ab6) (k+1) (mE x N a (k+1))by rw[←pS.out];exact Ue);have c3:=I6.out.kF.ag 2 rfl;have f3:=I6.out.kF.frozen 2;clear Ue Fo WZ W_))
   go_roundw
   case rel =>
    refine⟨k+1,_,hlt,by push_cast;rfl,ae (I6.out.frame 2 _),ae (aq (F:=fun i=>i=gF) (bk rfl) O6.out (aR O6.out I6.out.kF (by decide))),ae (fun i hi=>?_)⟩;rcases bZ i k with h | h
    ·exact oI.out i h
    ·obtain rfl:i=k:=by omega
     exact HGJ.out
   case measure=>simp[intOf];omega
  ·obtain rfl:k=n:=by omega
   have hnl:¬ ((k:Nat):Int)<(k:Int):=by omega
   have Lv:=oI;clear hlt oI;go_wp2_with fail;go_loopw [19,20] (fun o i wr=>∃ (m:Nat) (v':Value),v'=o∧m≤aD nb∧i=.int .i64 (m:Int)∧Hid (wr.ownsRow X1.heap.size 5 1 v' (512*m) ((jn x N a m).map aj))∧Hid (uU w lv wv fv N hs gF g12 X1 wr (x.plus (1+(k+m))).steps #[.int .i64 ed,.slice ao k co,vb,.slice aw nb cw])∧Hid (wr.ownsRow X1.heap.size 62 163 vb k (mE x N a k))∧Hid (∀j,j<m→(x.plus (1+(k+j))).err (aJ N 3 a j).1=0)) (fun _ i _=>aD nb-(intOf i).toNat)
   case atStart=>exact⟨0,_,rfl,fi _,rfl,ae (km _ _ _ _),I,HO,ae (fun j hj=>absurd hj (p' _))⟩
   case round =>
    obtain⟨m,o,rfl,hm,rfl,HP,I2,ij,CH⟩:=hrel;obtain⟨wo,rfl⟩:∃v,v=wr:=⟨_,rfl⟩;have c3:=I2.out.kF.ag 3 rfl;clear I HO;by_cases hlt:m<aD nb
    ·have Cv:(m:Int)<(aD nb:Int):=by omega
     have Zm:m<8:=by omega
     have UQ:=ae (GQ.out (1+(k+m)) ⟨3,a,m⟩ (by omega) (hp3 m Zm) rfl (.inr (.inl ⟨rfl,Zm⟩)));obtain⟨n4,Fx⟩:∃n:Int,n=((Place.sec N ⟨3,a,m⟩:Nat):Int):=⟨_,rfl⟩;have hsk:(aJ N 3 a m).1=n4:=by rw[Fx];exact xt.out m Zm
     have Fy:=UQ.out;rw[←Fx]at Fy;obtain⟨er,xw⟩:∃e,e=(x.plus (1+(k+m))).err n4:=⟨_,rfl⟩;obtain⟨bs,y7⟩:∃b,b=(x.plus (1+(k+m))).read n4:=⟨_,rfl⟩;have hbl:bs.length=512:=by rw[y7];unfold ak.read;split;exact x.dS hx.sound _;exact et
     rw[←xw,←y7]at Fy;have Mn:=ae Fy;have qH:=ae (show er=(x.plus (1+(k+m))).err (aJ N 3 a m).1 by rw[hsk];exact xw);have qW:=ae (show er=0→bs=fZ x N a m by intro h0;rw[y7];unfold ak.read;rw[←xw,aB h0,EY,←hsk];rfl);have Ez:=ae Fx;clear Fy UQ Fx xw y7 hsk;go_upto_region 21 with fail;refine(tz nb wo (by omega)).mono ?_;rintro e w9 ⟨rfl,rfl⟩;go_upto_region 21 with fail;refine jb (fun X=>Below wo.heap.size wo X) (fun _=>True) 100 (ax _ wo).drew trivial fun hHeld hJ=>?_;refine jy false 0 rfl (cY (by rfl) 40 _ rfl w.heap.size 0 rfl [lv,wv,.int .i64 (x.plus (1+(k+m))).steps,fv] _ (fun X h=>by have:=dt (I2.out.k0.below h.1 I2.out.k0.lt);simpa using this) bV rfl (au _ _ _ _)) ?_;refine jk false 1 ?_ (hy:=by intro X hX _;have hc:=(I2.out.k1.below hX I2.out.k1.lt).ag 0 rfl;go_simp;try with_reducible rfl);refine jk false 2 ?_;refine jk false 3 ?_;refine QL wo 4 111 112 106 113 114 115 21 22 23 n4 er #[lv,wv,.int .i64 (x.plus (1+(k+m)+1)).steps,fv] (bs.map aj).toArray
      (fun X=>(rq N ⟨3,a,m⟩ X hN (hp3 m Zm)).mono (by rintro e w' ⟨rfl,hb⟩;exact⟨by rw[Ez.out],hb⟩))
      (fun X hX=>Mn.out X ((HR.out.below (I2.out.below.trans (hX.mono I2.out.below.size)) (ai _)).mono (I2.out.below.trans (hX.mono I2.out.below.size)).size))
      (au _ _ _ _) rfl (dD.out _) (aO _ hbl) (by rw[bE];exact bT _ _ et hbl) (bq _) hHeld ?_
     intro u0 u1 u2 u3 u4 u5 g21 g22 Q hq l21 l22 b21 TG;simp only[Act.put,l_,me,mf,mh,mi,mj];clear hHeld hJ Mn c3 Ez;have hwo:X1.heap.size≤wo.heap.size:=I2.out.from_.size;have IQ:=ae (I2.out.out (G:=fun _=>False) (aN hq) (fun _ h=>h.elim));have OQ:=ae (aq (F:=fun _=>False) (aN hq) ij.out (fun _ _=>id));have PQ:=ae (aq (F:=fun _=>False) (aN hq) HP.out (fun _ _=>id));have B22:=ae (aH TG #[lv,wv,.int .i64 (x.plus (1+(k+m)+1)).steps,fv] (g':=w.heap.size) (by omega));have I3:=ae (IQ.out.step (x.plus (1+(k+m)+1)).steps);have O3:=ae (aq (F:=fun i=>i=w.heap.size) (bL (w:=Q) #[lv,wv,.int .i64 (x.plus (1+(k+m)+1)).steps,fv] rfl) OQ.out (aR OQ.out IQ.out.k0 (by decide)));have P3:=ae (aq (F:=fun i=>i=w.heap.size) (bL (w:=Q) #[lv,wv,.int .i64 (x.plus (1+(k+m)+1)).steps,fv] rfl) PQ.out (aR PQ.out IQ.out.k0 (by decide)));clear TG OQ PQ I2 ij HP hq;go_upto_region 23 with (first
      | (refine bt rfl 40 _ rfl g21 rfl 40 #[lv,wv,.int .i64 (x.plus (1+(k+m)+1)).steps,fv] (0,0) _ b21 bV rfl (au _ _ _ _) ?_)
      | (refine aQ rfl 40 _ _ rfl w.heap.size #[lv,wv,.int .i64 (x.plus (1+(k+m)+1)).steps,fv] rfl rfl 40 #[lv,wv,.int .i64 (x.plus (1+(k+m))).steps,fv] IQ.out.k0 (au _ _ _ _) rfl (dD.out _) ?_))
     generalize Q.setRow w.heap.size #[lv,wv,.int .i64 (x.plus (1+(k+m)+1)).steps,fv]=Q1 at *;clear b21 IQ;by_cases her:er=0
     case neg =>
      have cH:=ae (show dR x N a=(x.plus (1+(k+m)+1),gi,er)from lq gZ.out.1 (tC gZ.out.2.1 gZ.out.2.2.1 (by rw[←sV.out];exact Di.out) (by rw[←sV.out];exact QT.out) Lv.out hlt (fun j hj=>by rw[rN (CH.out j hj) (Mm (mT.out j) (by omega))];rfl) (by rw[qH.out];exact G' (by rw[←qH.out];exact her)) her) her);have hnb:(er != 0)=true:=by simpa using her
      have pW:=aH I3.out.k3 #[lv,wv,.int .i64 (x.plus (1+(k+m)+1)).steps,fv] (g':=w.heap.size+2) (by omega);go_wp2_with (first
       | (refine bt rfl 40 _ rfl w.heap.size rfl 40 #[lv,wv,.int .i64 (x.plus (1+(k+m)+1)).steps,fv] (0,0) _ I3.out.k0 bV rfl (au _ _ _ _) ?_)
       | (refine bO rfl 28 _ rfl aF (by kernel_rfl) ?_)
       | (refine aQ rfl 40 _ _ rfl (w.heap.size+2) #[lv,wv,.int .i64 (x.plus (1+(k+m)+1)).steps,fv] rfl rfl 40 aM I3.out.k2 (au _ _ _ _) rfl (dD.out _) ?_)
       | (refine aQ rfl 28 _ _ rfl (w.heap.size+3) aF rfl rfl 28 aF pW gq rfl lF ?_))
      have hbf:=aA (aA I3.out.below #[lv,wv,.int .i64 (x.plus (1+(k+m)+1)).steps,fv] (g:=w.heap.size+2) (by omega)) aF (g:=w.heap.size+3) (by omega);exact bc (b_ sk _ _ _ _ _ _ _ (by rfl) (bB (aH (ah.row I3.out.k2 _) _ (by omega))) (by rfl) (jj (pW.row _)) (by rfl)) rfl ⟨_,by rw[cH.out];rfl,by rw[cH.out];exact fun _ _ _ _=>df _ _,hbf⟩
     subst her;have HPS:=ae (qW.out rfl);have UR:=ae qH.out.symm;have hV:=fq B22.out 512 (by omega) (by rw[hbl];decide);rw[dg (by omega),hbl]at hV;have HV:=ae hV;have hsz:w.heap.size+4≤Q1.heap.size:=by have:=I3.out.from_.size;omega
     have am5:X1.heap.size≤Q1.heap.size:=I3.out.from_.size;clear hV qW qH;go_wp2_with (at_builtin;refine bm _ rfl (.tmp 122) (.tmp 123) rfl X1.heap.size Q1.heap.size (512*m) _ _ rfl P3.out (some ⟨g22,0,none⟩) 512 512 bs rfl hbl HV.out (by omega) (by omega) ?_;intro u4 w4 hO4 hg4)
     go_roundw
     case rel =>
      refine⟨m+1,_,rfl,by omega,by go_num,ae ?_,ae (I3.out.grown P3.out hg4 (by decide) (by decide)),ae (aq (jN hg4) O3.out (fun i hi hi'=>tI P3.out O3.out (by decide) i hi' hi)),ae (fun j hj=>?_)⟩
      ·rw[Ml,←HPS.out,cK,show 512*(m+1)=512*m+512 by omega];exact hO4
      ·rcases bZ j m with h | h
       ·exact CH.out j h
       ·obtain rfl:j=m:=by omega
        exact UR.out
     case measure=>simp[intOf];omega
    ·have am6:¬ (m:Int)<(aD nb:Int):=by omega
     have hke:m=aD nb:=by omega
     obtain⟨av,cap,rfl⟩:=slice_form HP.out;have hU0:=BytesIn.own HP.out;have hcap:=(hU0.aav).2;have Dj:=ae (CK mT.out m);have ai2:nb≤512*m:=by rw[hke];unfold aD;omega
     have HU:=ae hU0;have uo:=ae hke;have hkb:512*m≤4608:=by omega
     have adr:=ae (show ∀j,j+1<m→lk x N a nb (1+(k+j)) j=0 from fun j hj=>by rw[rN (CH.out j (by omega)) (Mm (mT.out j) (by omega))];rfl);clear hU0 hlt hke;go_wp2_with fail;refine(tz nb wo (by omega)).mono ?_;rintro e w9 ⟨rfl,rfl⟩;go_wp2_with fail;go_loopw [24] (fun i wr2=>∃j:Nat,nb≤j∧j≤512*m∧i=.int .i64 (j:Int)∧Hid (∀p,nb≤p→p<j→(jn x N a m)[p]? = some 0)∧wo=wr2) (fun i _=>512*m-(intOf i).toNat)
     case atStart=>exact⟨nb,ai _,ai2,rfl,ae (fun p h1 h2=>by omega),rfl⟩
     case round =>
      obtain⟨j,hj1,hj2,rfl,HZ,rfl⟩:=hrel;by_cases hjl:j<512*m
      ·have hji:(j:Int)<((512*m:Nat):Int):=by omega
       obtain⟨ch,hch⟩:∃c,(jn x N a m)[j]? = some c:=⟨_,aY (by rw[Dj.out];exact hjl)⟩;obtain⟨g2,off,ea,hg2,hcell⟩:=HU.out.at_ hch;subst ea;have HCH:=ae hch;unfold aj at hcell;clear hch;by_cases hc0:ch=0
       ·subst hc0;go_wp2_with fail;go_roundw
        case rel =>
         refine⟨j+1,by omega,by omega,by go_num,ae (fun p h1 h2=>?_),by first | rfl | trivial⟩;rcases bZ p j with h | h
         ·exact HZ.out p h1 h
         ·obtain rfl:p=j:=by omega
          exact HCH.out
        case measure=>simp[intOf];omega
       ·have hm1:m-1+1=m:=by omega
        have cH:=ae (show dR x N a=(x.plus (1+(k+m)),gi,170)from lq gZ.out.1 (by
         have h1:=tC (i:=m-1) (c:=170) gZ.out.2.1 gZ.out.2.2.1 (by rw[←sV.out];exact Di.out) (by rw[←sV.out];exact QT.out) Lv.out (by rw[←uo.out];omega) (fun j hj=>adr.out j (by omega)) (by rw[rN (CH.out (m-1) (by omega)) (XF mT.out (by rw[←uo.out];exact hm1) hj1 (by rw[←uo.out];exact HCH.out) hc0)];rfl) (by decide);rw[nA,nA,hm1]at h1;exact h1) (by decide))
        have hcn:((ch.toNat:Int) != 0)=true:=by
         have:ch.toNat≠0:=fun e=>hc0 (zK.1 (by rw[e];rfl))
         simpa using this
        have am7:¬ ((ch.toNat:Int)=0):=by simpa using hcn
        go_upto_region 30 with fail;have pW:=aH I2.out.k3 #[lv,wv,.int .i64 (x.plus (1+(k+m))).steps,fv] (g':=w.heap.size+2) (by omega);go_wp2_with (first
         | (refine bt rfl 40 _ rfl w.heap.size rfl 40 #[lv,wv,.int .i64 (x.plus (1+(k+m))).steps,fv] (0,0) _ I2.out.k0 bV rfl (au _ _ _ _) ?_)
         | (refine bO rfl 28 _ rfl aF (by kernel_rfl) ?_)
         | (refine aQ rfl 40 _ _ rfl (w.heap.size+2) #[lv,wv,.int .i64 (x.plus (1+(k+m))).steps,fv] rfl rfl 40 aM I2.out.k2 (au _ _ _ _) rfl (dD.out _) ?_)
         | (refine aQ rfl 28 _ _ rfl (w.heap.size+3) aF rfl rfl 28 aF pW gq rfl lF ?_))
        have hbf:=aA (aA I2.out.below #[lv,wv,.int .i64 (x.plus (1+(k+m))).steps,fv] (g:=w.heap.size+2) (by omega)) aF (g:=w.heap.size+3) (by omega);exact bc (b_ sk _ _ _ _ _ _ _ (by rfl) (bB (aH (ah.row I2.out.k2 _) _ (by omega))) (by rfl) (jj (pW.row _)) (by rfl)) rfl ⟨_,by rw[cH.out];rfl,by rw[cH.out];exact fun _ _ _ _=>df _ _,hbf⟩
      ·have hji:¬ (j:Int)<((512*m:Nat):Int):=by omega
       obtain rfl:j=512*m:=by omega
       have HPZ:=ae (show ∀i,i<m→lk x N a nb (1+(k+i)) i=0 from fun i hi=>by
        rw[rN (CH.out i hi) (UN mT.out (by rw[←uo.out];exact hi) (by rw[←uo.out];exact HZ.out))];rfl)
       have hcn:nb≤cap:=by omega
       have cF:=I2.out.kF.ag 3 rfl;have zF:=I2.out.kF.frozen 3;have I4:=ae (I2.out.frame 3 (.slice av nb cap));have nO:=aq (F:=fun i=>i=gF) (bk (w:=wo) (g:=gF) (i:=3) (v:=.slice av nb cap) rfl) HP.out (aR HP.out I2.out.kF (by decide));have O4:=ae (aq (F:=fun i=>i=gF) (bk (w:=wo) (g:=gF) (i:=3) (v:=.slice av nb cap) rfl) ij.out (aR ij.out I2.out.kF (by decide)));have P4:=ae nO;have hUt:=BytesIn.own nO;rw[←Dj.out]at hUt;have Zn:=hUt.upto nb (by have:=Dj.out;omega) (by have:=Dj.out;omega);clear nO hUt hj1 hj2 hji hjl HZ CH adr c3;go_upto_region 32 with fail;obtain⟨Y3,eY3⟩:∃Z,Z=wo.setCell ⟨gF,3,none⟩ (.slice av nb cap):=⟨_,rfl⟩;rw[←eY3]at I4 O4 P4 Zn ⊢;obtain⟨st,est⟩:∃st,st=(jn x N a m).take nb:=⟨_,rfl⟩;rw[←est]at Zn;obtain⟨C,eC⟩:∃C,C=(dJ st).toNat:=⟨_,rfl⟩;obtain⟨V,eV⟩:∃V,V=aC hs 16 4:=⟨_,rfl⟩;have tg:(if iN ((hs.drop 16).take 4) then (aW ((hs.drop 16).take 4):Int) else 0)=(V:Int):=by
        rw[im _ (.inr (by rw[bD,c_,HSL.out];omega)),eV];rfl
       have Mj:=ae tg;have ai1:IntKind.i64.wrap (C:Int)=(C:Int):=by rw[eC,cz];have:=pK st;omega
       have Hl:=ae eC;have Lx:=ae eV;have UT:=ae (fun W (hh:BytesIn W W.heap.size (.slice av nb cap) st)=>tX (.slice av nb cap) st W hh);have HB3:=ae Zn;have HST:=ae (show st=gU x N a nb by rw[est,zh mT.out,uo.out]);have qO:=ae (Bh (n:=k) (nb:=nb) gZ.out.2.1 gZ.out.2.2.1 (by rw[←sV.out];exact Di.out) (by rw[←sV.out];exact QT.out) Lv.out (by rw[←uo.out];exact HPZ.out));clear eY3 Zn eC eV est tg cF zF I2 ij HP HU HPZ;refine jb (fun X=>X=Y3.drew) (fun _=>True) 100 rfl trivial fun hHeld hJ=>?_;have I5:=ae (I4.out.out (G:=fun _=>False) (aN (ax _ Y3).drew) (fun _ h=>h.elim));have O5:=ae (aq (F:=fun _=>False) (aN (ax _ Y3).drew) O4.out (fun _ _=>id));have P5:=ae (aq (F:=fun _=>False) (aN (ax _ Y3).drew) P4.out (fun _ _=>id));have B5:=ae (show BytesIn Y3.drew Y3.drew.heap.size (.slice av nb cap) st from HB3.out.below (ax Y3.heap.size Y3).drew (ai _));clear I4 O4 P4 HB3;generalize Y3.drew=Y4 at *;refine jk false 0 ?_;refine jk false 4 ?_;refine jk false 1 ?_ (hy:=by intro X hX _;have hc:=I5.out.kF.ag 3 rfl;subst hX;go_simp;try with_reducible rfl);refine jr 2 fun K hK=>?_;go_simp;refine(UT.out Y4 B5.out).mono ?_;rintro e c3 ⟨rfl,rfl⟩;unfold gM;rw[←Hl.out];dsimp only;refine hK.out _ _ ⟨hHeld,fun _=>trivial⟩ ?_;clear hK K;refine jk false 3 ?_;refine jr 5 fun K hK=>?_;go_simp;refine(ja (.slice (some ⟨g12,16,none⟩) 4 496) ((hs.drop 16).take 4) Y4 (tJ HSL.out I5.out.kh 16 4 (by omega))).mono ?_;rintro e c4 ⟨rfl,rfl⟩;rw[Mj.out];dsimp only;refine hK.out _ _ ⟨hHeld,fun _=>trivial⟩ ?_;clear hK K;refine jk false 6 ?_;refine qY ?_;by_cases hqq:C=V
       case neg =>
        have hqb:((C:Int) != (V:Int))=true:=by
         have:¬ (C:Int)=(V:Int):=fun e=>hqq (by omega)
         simpa using this
        have cH:=ae (show dR x N a=(x.plus (1+(k+m)),gi,170)from lq gZ.out.1 (by
         have h1:=qO.out;rw[←uo.out,←HST.out,aG (by rw[←Hl.out,←sV.out,←Lx.out];exact hqq)]at h1;exact h1) (by decide))
        have pW:=aH I5.out.k3 #[lv,wv,.int .i64 (x.plus (1+(k+m))).steps,fv] (g':=w.heap.size+2) (by omega);go_wp2_with (first
         | (refine bt rfl 40 _ rfl w.heap.size rfl 40 #[lv,wv,.int .i64 (x.plus (1+(k+m))).steps,fv] (0,0) _ I5.out.k0 bV rfl (au _ _ _ _) ?_)
         | (refine bO rfl 28 _ rfl aF (by kernel_rfl) ?_)
         | (refine aQ rfl 40 _ _ rfl (w.heap.size+2) #[lv,wv,.int .i64 (x.plus (1+(k+m))).steps,fv] rfl rfl 40 aM I5.out.k2 (au _ _ _ _) rfl (dD.out _) ?_)
         | (refine aQ rfl 28 _ _ rfl (w.heap.size+3) aF rfl rfl 28 aF pW gq rfl lF ?_))
        have hbf:=aA (aA I5.out.below #[lv,wv,.int .i64 (x.plus (1+(k+m))).steps,fv] (g:=w.heap.size+2) (by omega)) aF (g:=w.heap.size+3) (by omega);exact bc (b_ sk _ _ _ _ _ _ _ (by rfl) (bB (aH (ah.row I5.out.k2 _) _ (by omega))) (by rfl) (jj (pW.row _)) (by rfl)) rfl ⟨_,by rw[cH.out];rfl,by rw[cH.out];exact fun _ _ _ _=>df _ _,hbf⟩
       subst hqq;have cH:=ae (show dR x N a=(x.plus (1+(k+m)),fD x N a,0)from Hk gZ.out.1 (by
        have h1:=qO.out;rw[←uo.out,←HST.out,aB (by rw[←Hl.out,←sV.out,←Lx.out])]at h1;exact h1))
       obtain⟨sC,esC⟩:∃s,s=(x.plus (1+(k+m))).steps:=⟨_,rfl⟩;rw[←esC]at I5;have ESC:=ae esC;have UU:(Tryz.prog.info? 28).map (·.size)=some (#[.int .i64 ed,.slice ao k co,vb,.slice av nb cap]:Array Value).size:=by
        show _=some 4;kernel_rfl
       obtain⟨Bp,cb',rfl⟩:=slice_form O5.out;have aeI:(#[.int .i64 ed,.slice ao k co,.slice Bp k cb',.slice av nb cap]:Array Value).all (·.oneCell')=true:=by simp[Value.oneCell']
       clear esC qO UT Hl Lx Mj hHeld hJ B5;go_upto_region 34 with fail;have hY4:w.heap.size+4≤Y4.heap.size:=by have:=I5.out.from_.size;omega
       have N3:=I5.out.k2.drew;have N4b:=aH I5.out.k3.drew #[lv,wv,.int .i64 sC,fv] (g':=w.heap.size+2) (by omega);have FRM:=ae (Out.trans (Out.trans I5.out.from_ (aN (ax _ Y4).drew:Out (fun i=>i<w.heap.size+4) Y4 Y4.drew) (fun _ _ h=>h)) (Out.trans (bL (F:=fun i=>i<w.heap.size+4) (w:=Y4.drew) (g:=w.heap.size+2) #[lv,wv,.int .i64 sC,fv] (by omega)) (bL (F:=fun i=>i<w.heap.size+4) (g:=w.heap.size+3) #[.int .i64 ed,.slice ao k co,.slice Bp k cb',.slice av nb cap] (by omega)) (fun _ _ h=>h)) (fun _ _ h=>h));have Zo:=ae (aq (F:=fun i=>i<w.heap.size+4) (Out.trans (aN (ax _ Y4).drew) (Out.trans (bL (F:=fun i=>i<w.heap.size+4) (w:=Y4.drew) (g:=w.heap.size+2) #[lv,wv,.int .i64 sC,fv] (by omega)) (bL (F:=fun i=>i<w.heap.size+4) (g:=w.heap.size+3) #[.int .i64 ed,.slice ao k co,.slice Bp k cb',.slice av nb cap] (by omega)) (fun _ _ h=>h)) (fun _ _ h=>h)) O5.out (fun i hi h=>by have:=(O5.out.lt i hi).1;omega));have Zp:=ae (aq (F:=fun i=>i<w.heap.size+4) (Out.trans (aN (ax _ Y4).drew) (Out.trans (bL (F:=fun i=>i<w.heap.size+4) (w:=Y4.drew) (g:=w.heap.size+2) #[lv,wv,.int .i64 sC,fv] (by omega)) (bL (F:=fun i=>i<w.heap.size+4) (g:=w.heap.size+3) #[.int .i64 ed,.slice ao k co,.slice Bp k cb',.slice av nb cap] (by omega)) (fun _ _ h=>h)) (fun _ _ h=>h)) P5.out (fun i hi h=>by have:=(P5.out.lt i hi).1;omega));have FB:=ae (aA (aA I5.out.below.drew #[lv,wv,.int .i64 sC,fv] (g:=w.heap.size+2) (by omega)) #[.int .i64 ed,.slice ao k co,.slice Bp k cb',.slice av nb cap] (g:=w.heap.size+3) (by omega));have J0:=I5.out.k0.drew;have JF:=I5.out.kF.drew;have hwF:w.heap.size+4≤gF:=by have:=I5.out.lo;omega
       clear O5 P5;refine jb (fun X=>ah X w.heap.size 40 #[lv,wv,.int .i64 sC,fv]∧ah X gF 28 #[.int .i64 ed,.slice ao k co,.slice Bp k cb',.slice av nb cap]) (fun _=>True) 100 ⟨J0,JF⟩ trivial fun hHeld hJ=>?_;refine jy false 0 rfl (cY (by rfl) 40 _ rfl w.heap.size 0 rfl [lv,wv,.int .i64 sC,fv] _ (fun X h=>by have:=dt h.1.1;simpa using this) bV rfl (au _ _ _ _)) ?_;refine jy false 1 rfl (cY (by rfl) 28 _ rfl gF 0 rfl [.int .i64 ed,.slice ao k co,.slice Bp k cb',.slice av nb cap] _ (fun X h=>by have:=dt h.1.2;simpa using this) fw rfl UU) ?_;refine jr 2 fun K hK=>?_;rw[aB (by rfl)];refine ez 40 _ _ rfl (w.heap.size+2) #[lv,wv,.int .i64 sC,fv] rfl rfl 40 aM N3 (au _ _ _ _) rfl (dD.out _) ?_;replace hHeld:=And.intro (aH hHeld.1 #[lv,wv,.int .i64 sC,fv] (g':=w.heap.size+2) (by omega)) (aH hHeld.2 #[lv,wv,.int .i64 sC,fv] (g':=w.heap.size+2) (by omega));refine hK.out _ _ ⟨hHeld,fun _=>trivial⟩ ?_;clear hK K;refine jr 3 fun K hK=>?_;rw[aB (by rfl)];refine ez 28 _ _ rfl (w.heap.size+3) #[.int .i64 ed,.slice ao k co,.slice Bp k cb',.slice av nb cap] rfl rfl 28 aF N4b UU rfl aeI ?_;replace hHeld:=And.intro (aH hHeld.1 #[.int .i64 ed,.slice ao k co,.slice Bp k cb',.slice av nb cap] (g':=w.heap.size+3) (by omega)) (aH hHeld.2 #[.int .i64 ed,.slice ao k co,.slice Bp k cb',.slice av nb cap] (g':=w.heap.size+3) (by omega));refine hK.out _ _ ⟨hHeld,fun _=>trivial⟩ ?_;clear hK K;refine jk false 4 ?_;refine qY ?_;go_wp2_with fail;refine bc (b_ sk _ _ _ _ _ _ _ (by rfl) (bB (aH (N3.row _) _ (by omega))) (by rfl) (jj (N4b.row _)) (by rfl)) rfl ⟨_,by rw[cH.out,ESC.out];rfl,?_,FB.out⟩;rw[cH.out];intro F W' E3 hF;have am8:=I5.out.lo.1;have hfs:=FRM.out.size;obtain⟨vo,vb2,vs2,ev,i1, -, -⟩:=HHF.out (fun i=>i<w.heap.size+4∨F i) W' (Out.trans (Out.trans (Out.refl _ X1) FRM.out (fun _ _ h=>.inl h)) E3 (fun _ _ h=>.inr h)) (fun i h1 h2 h3=>by
        rcases h3 with h3 | h3
        ·omega
        ·exact hF i (by omega) (by omega) h3)
       simp at ev;obtain⟨-,rfl, -, -⟩:=ev;refine⟨.slice ao k co,.slice Bp k cb',.slice av nb cap,?_,?_,?_,?_⟩
       ·unfold fD;rw[←sV.out,←S6.out]
       ·unfold fD;simp only;rw[HFX.out]at i1;unfold nu at i1;rw[←sV.out];exact i1.mono hfs
       ·unfold fD;simp only;rw[←sV.out,←Di.out];have h9:=aq E3 Zo.out (fun g hg=>hF g (by have:=(Zo.out.lt g hg).1;omega) (Zo.out.lt g hg).2);refine Li (n:=k) (B:=X1.heap.size) (e:=62) ?_ ?_ (by simp) ?_ (fun g hg=>(Zo.out.lt g hg).2)
        ·intro o ho;obtain⟨i,hi,rfl⟩:=dI.1 ho;exact mC _ (by rw[bD,Lw.out i];rfl)
        ·intro o ho;obtain⟨i,hi,rfl⟩:=dI.1 ho;exact uE _
        ·rw[List.flatMap_map];exact h9
       ·unfold fD;simp only;rw[←sV.out,←QT.out,←HST.out];have h9:=UL (aq E3 Zp.out (fun g hg=>hF g (by have:=(Zp.out.lt g hg).1;omega) (Zp.out.lt g hg).2)) (K:=_) (fun g hg=>(Zp.out.lt g hg).2);rw[←Dj.out]at h9;have h8:=h9.upto nb (by have:=Dj.out;omega) (by have:=Dj.out;omega);rw[HST.out,zh mT.out,←uo.out];exact h8
theorem UW {x:ak} (hx:x.ok) (n o:Nat) (hn:(n:Int)<x.size) (ho:o<512) (c:UInt8):fe (x.ov n o c)=(fe x).set (512*n+o) ((x.lasts n).getD o 0 ^^^ c):=by
 have hy:∀m:Int,((x.ov n o c).lasts m).length=512:=fun m=>by
  show(if m=(n:Int) then gJ (x.lasts n) o c else x.lasts m).length=512;split
  ·rw[nH];exact hx.2.2.1 _
  ·exact hx.2.2.1 _
 have h0:=hx.1;have l1:(fe (x.ov n o c)).length=512*x.size.toNat:=mA _ (fun m=>hy m) _;have l2:=sD hx;apply m_;intro i;rw[zC];by_cases hi:i<512*x.size.toNat
 ·have e:i=512*(i/512)+i % 512:=by omega
  have a1:(fe (x.ov n o c))[i]? = ((x.ov n o c).lasts ((i/512:Nat):Int))[i % 512]? :=by
   have:=pO (fun m:Nat=>(x.ov n o c).lasts m) (fun m=>hy m) x.size.toNat (i/512) (i % 512) (by omega) (by omega);rw[←e]at this;exact this
  have a2:(fe x)[i]? = (x.lasts ((i/512:Nat):Int))[i % 512]? :=by
   have:=C2 hx (i/512) (i % 512) (by omega) (by omega);rw[←e]at this;exact this
  rw[a1,a2,l2];show(if ((i/512:Nat):Int)=(n:Int) then gJ (x.lasts n) o c else x.lasts ((i/512:Nat):Int))[i % 512]? = _;by_cases hq:i/512=n
  ·rw[hq,aB rfl];unfold gJ;rw[zC,hx.2.2.1];by_cases hr:i % 512=o
   ·rw[aB hr.symm,aB ho,aB (by omega),aB (by omega)]
   ·rw[aG (fun h=>hr h.symm),aG (by omega)]
  ·rw[aG (by omega),aG (by omega)]
 ·rw[dh (by omega),aG (by omega),dh (by omega)]
def ak.pf (x:ak) (n o:Int):Bool:=decide (0≤n∧n<x.size∧0≤o∧o<512)
def ak.fN (x:ak) (n q:Int) (c:UInt8):ak:=if x.pf n q=true then x.ov n q.toNat c else x
def ak.sW (x:ak) (n q:Int):Int:=if x.pf n q=true then 0 else 4
theorem QU (D:aX) (x:ak) (n q:Int) (c:UInt8) (w:World) (h:aE w D x) (hx:x.ok) (hn:x.pf n q=false) :
 Calls Tryz.prog 37 #[ptr D.p,.int .i64 n,.int .i64 q,.int .u8 (c.toNat:Int)] w fun e w'=>e=.returned (.int .i64 4)∧w=w':=by
 have HR:=ae (Gr D x n q w h hx (by unfold ak.pf at hn;have:=of_decide_eq_false hn;omega));unfold ptr at *;clear h hx hn;go_enter Tryz.func37,Tryz.ntmps37
 go_wp2_with fail;refine HR.out.mono ?_;rintro e w1 ⟨rfl,rfl⟩;go_wp2_with fail;go_ret
 exact⟨rfl,rfl⟩
theorem QV (D:aX) (x:ak) (n q:Int) (c:UInt8) (w:World) (h:aE w D x) (hx:x.ok) :
 Calls Tryz.prog 37 #[ptr D.p,.int .i64 n,.int .i64 q,.int .u8 (c.toNat:Int)] w fun e w'=>e=.returned (.int .i64 (x.sW n q))∧aE w' D (x.fN n q c)∧DStep D D w w':=by
 unfold ak.sW ak.fN;by_cases hs:x.pf n q=true
 ·rw[aB hs,aB hs];have hh:=tM hs;obtain⟨o,rfl⟩:=zp hh.2.2.1;exact En D x n o c w h hx ⟨hh.1,hh.2.1⟩ (by omega)
 ·rw[aG hs,aG hs];refine(QU D x n q c w h hx (by simpa using hs)).mono ?_;rintro e w' ⟨h1,rfl⟩;exact⟨h1,h,DStep.refl _ _⟩
theorem UX {x:ak} (hx:x.ok) (n q:Int) (c:UInt8):(x.fN n q c).ok:=by
 unfold ak.fN;split
 ·obtain⟨o1,o2,o3,o4,o5,o6,o7⟩:=hx;refine⟨o1,o2,fun m=>?_,fun y hy=>?_,o5,o6,by show(x.waits.map _).length≤_;rw[cR];exact o7⟩
  ·show(if m=n then gJ (x.lasts n) q.toNat c else x.lasts m).length=512;split
   ·rw[nH];exact o3 _
   ·exact o3 _
  ·obtain⟨z,hz,rfl⟩:=dI.1 (show y∈x.waits.map (fY n q.toNat c)from hy);exact sx n q.toNat c z (o4 z hz)
 ·exact hx
theorem Mo (x:ak) (n q:Int) (c:UInt8):(x.fN n q c).size=x.size∧(x.fN n q c).steps=x.steps∧(x.fN n q c).fails=x.fails∧(x.waits=[]→(x.fN n q c).waits=[]):=by
 unfold ak.fN;split
 ·exact⟨rfl,rfl,rfl,fun h=>by show x.waits.map _=[];rw[h];rfl⟩
 ·exact⟨rfl,rfl,rfl,id⟩
def Io (B C:Nat) (v v':Value):Prop:=∀g,v'.ownBlock=some g→v.ownBlock=some g∨(B≤g∧g<C)
def adu (x:ak):Prop:=∀ (n q:Int) (c:UInt8) (lv wv fv:Value) (w:World),bu w w.heap.size lv wv fv x→x.ok →
 Calls Tryz.prog 80 #[.agg #[lv,wv,.int .i64 x.steps,fv],.int .i64 n,.int .i64 q,.int .u8 (c.toNat:Int)] w fun e w'=>Below w.heap.size w w'∧∃n_ wv',e=.returned (.tuple #[.agg #[n_,wv',.int .i64 x.steps,fv],.int .i64 (x.sW n q)]) ∧
  bu w' w'.heap.size n_ wv' fv (x.fN n q c)∧Io w.heap.size w'.heap.size lv n_∧Io w.heap.size w'.heap.size wv wv'
section
variable {P:Program} {ops:Array Oper} {Q:Exit→Act→World→Prop} {md:Region.Mode} {S J:World→Prop} {k:Nat}
theorem jm (i j:Nat) (Pi Pj:Value→World→Prop) (R:Value→Value→World→Prop) {fuel:Nat} {listed:Array Bool} {a:Act} {b:Value→Value→Act} {w:World} {oi oj:Oper}
 (KZ:∀v w,Pi v w→S w) (hSj:∀v w,Pj v w→S w) (hSr:∀v v' w,R v v' w→S w)
 (h1:∀K':Act→World→Prop,Shut (∀v w',Pi v w'→K' (a.put oi.dst v) w')→if Region.wanted oi (yielded ops a.tmps)=true then Oper.wp P oi a w K' Q else K' (a.put oi.dst undef) w)
 (h2:∀v w1,Pi v w1→∀K':Act→World→Prop,Shut (∀v' w',R v v' w'→K' ((a.put oi.dst v).put oj.dst v') w')→if Region.wanted oj (yielded ops (a.put oi.dst v).tmps)=true then Oper.wp P oj (a.put oi.dst v) w1 K' Q else K' ((a.put oi.dst v).put oj.dst undef) w1)
 (h3:∀K':Act→World→Prop,Shut (∀v w',Pj v w'→K' (a.put oj.dst v) w')→if Region.wanted oj (yielded ops a.tmps)=true then Oper.wp P oj a w K' Q else K' (a.put oj.dst undef) w)
 (h4:∀v' w1,Pj v' w1→∀K':Act→World→Prop,Shut (∀v w',R v v' w'→K' ((a.put oj.dst v').put oi.dst v) w')→if Region.wanted oi (yielded ops (a.put oj.dst v').tmps)=true then Oper.wp P oi (a.put oj.dst v') w1 K' Q else K' ((a.put oj.dst v').put oi.dst undef) w1)
 (hfin:∀v v' w',R v v' w'→S w'→de P md ops Q S J k fuel ((listed.setIfInBounds i true).setIfInBounds j true) (b v v') w')
 (hJ:∀w,J w:=by exact fun _=>trivial)
 (ho:ops[i]? = some oi:=by rfl) (ho2:ops[j]? = some oj:=by rfl) (hr:Region.ready md ops listed=[i,j]:=by kernel_rfl) (hr1:Region.ready md ops (listed.setIfInBounds i true)=[j]:=by kernel_rfl) (hr2:Region.ready md ops (listed.setIfInBounds j true)=[i]:=by kernel_rfl)
 (hij:i≠j:=by decide) (hd:∀d,oi.dst=some d→oj.dst≠some d:=by(intro d h;cases h;decide)) (hb:∀v v',(a.put oi.dst v).put oj.dst v'=b v v':=by(intro v v';simp only[Act.put,Array.toArray_toList,l_,me,mf,mh,mi,mj];rfl)):de P md ops Q S J k (fuel+1+1) listed a w:=by
 have key1:∀v w1,Pi v w1→de P md ops Q S J k (fuel+1) (listed.setIfInBounds i true) (a.put oi.dst v) w1:=fun v w1 hP =>
  ⟨fun h0=>(by rw[hr1]at h0;cases h0),fun j' hj=>by
   rw[hr1]at hj;obtain rfl:=mZ.1 hj;exact nB ho2 fun K' hK=>h2 v w1 hP K' fun v' w' hR=>hK _ _ ⟨⟨hSr v v' w' hR,fun _=>hJ _⟩,by rw[hb];exact hfin v v' w' hR (hSr v v' w' hR)⟩⟩
 have key2:∀v' w1,Pj v' w1→de P md ops Q S J k (fuel+1) (listed.setIfInBounds j true) (a.put oj.dst v') w1:=fun v' w1 hP =>
  ⟨fun h0=>(by rw[hr2]at h0;cases h0),fun i' hi=>by
   rw[hr2]at hi;obtain rfl:=mZ.1 hi;refine nB ho fun K' hK=>h4 v' w1 hP K' fun v w' hR=>hK _ _ ⟨⟨hSr v v' w' hR,fun _=>hJ _⟩,?_⟩
   have h:=hfin v v' w' hR (hSr v v' w' hR);rw[←hb,Act.put_comm a v v' hd,wm _ _ hij]at h;exact h⟩
 refine⟨fun h0=>(by rw[hr]at h0;cases h0),fun j' hj=>?_⟩;rw[hr]at hj;rcases lN.1 hj with rfl | hj
 ·exact nB ho fun K' hK=>h1 K' fun v w' hP=>hK _ _ ⟨⟨KZ v w' hP,fun _=>hJ _⟩,key1 v w' hP⟩
 ·obtain rfl:=mZ.1 hj;exact nB ho2 fun K' hK=>h3 K' fun v w' hP=>hK _ _ ⟨⟨hSj v w' hP,fun _=>hJ _⟩,key2 v w' hP⟩
theorem jj2 {α β:Type} (b:α→β→Act) (R:α→β→World→Prop) {fuel Zq:Nat} {listed L0:Array Bool} {a:Act} {w:World}
 (hall:(∀x y w' L a',R x y w'→S w'→L=L0→a'=b x y→de P md ops Q S J k Zq L a' w')→de P md ops Q S J k fuel listed a w)
 (hfin:∀x y w',R x y w'→S w'→de P md ops Q S J k Zq L0 (b x y) w'):de P md ops Q S J k fuel listed a w :=
 hall fun x y w' L a' h1 h2 h3 h4=>by subst h3 h4;exact hfin x y w' h1 h2
end
def mI (fr:Int) (t i:Nat):Bool:=decide (0≤fr∧fr<4096∧fr+i<4096)&&decide (t/2^i % 2=1)
def eN (x:ak) (s fr:Int) (t:Nat):Nat→ak
 | 0=>x
 | k+1=>if mI fr t k=true then (eN x s fr t k).fN s ((fr+k)/8) (UInt8.ofNat (2^((fr+k) % 8).toNat)) else eN x s fr t k
theorem Oy (t k:Nat):(((t:Int)/2^k).tmod 2 == 1)=decide (t/2^k % 2=1):=by
 have e:((t:Int)/2^k)=((t/2^k:Nat):Int):=by rw[Int.natCast_ediv,Int.natCast_pow];rfl
 rw[e];generalize t/2^k=m;have e2:((m:Int)).tmod 2=((m % 2:Nat):Int):=rfl;rw[e2];by_cases h:m % 2=1
 ·rw[h];rfl
 ·rw[cB h];have h0:m % 2=0:=by omega
  rw[h0];rfl
theorem qR (x:ak) (s fr:Int) (t:Nat):∀k,(eN x s fr t k).size=x.size∧(eN x s fr t k).steps=x.steps
 | 0=>⟨rfl,rfl⟩
 | k+1=>by
  have h:=qR x s fr t k;show(if mI fr t k=true then _ else _:ak).size=_∧(if mI fr t k=true then _ else _:ak).steps=_;split
  ·obtain⟨h1,h2,_⟩:=Mo (eN x s fr t k) s ((fr+k)/8) (UInt8.ofNat (2^((fr+k) % 8).toNat));exact⟨h1.trans h.1,h2.trans h.2⟩
  ·exact h
theorem yE {x:ak} (hx:x.ok) (s fr:Int) (t:Nat):∀k,(eN x s fr t k).ok
 | 0=>hx
 | k+1=>by
  have h:=yE hx s fr t k;show(if mI fr t k=true then _ else _:ak).ok;split
  ·exact UX h _ _ _
  ·exact h
theorem Mp {fr:Int} {t k:Nat} (x:ak) (s:Int) (h:mI fr t k=false):eN x s fr t (k+1)=eN x s fr t k:=by
 show(if mI fr t k=true then _ else _:ak)=_;rw[h];rfl
theorem Hm {f t k:Nat} (x:ak) (s:Int) (h:mI f t k=true):eN x s f t (k+1)=(eN x s f t k).fN s (((f+k)/8:Nat):Int) (UInt8.ofNat (2^((f+k) % 8))):=by
 show(if mI f t k=true then (eN x s f t k).fN s (((f:Int)+k)/8) (UInt8.ofNat (2^(((f:Int)+k) % 8).toNat)) else _:ak)=_;rw[h,aB rfl,←I_];rfl
theorem adv (r:Nat) (h:r<8):IntKind.u8.wrap ((2:Int)^r)=((UInt8.ofNat (2^r)).toNat:Int):=by
 have:r=0∨r=1∨r=2∨r=3∨r=4∨r=5∨r=6∨r=7:=by omega
 rcases this with rfl | rfl | rfl | rfl | rfl | rfl | rfl | rfl<;>decide
theorem Nw {x y:ak} (h:x.size=y.size) (n q:Int):x.sW n q=y.sW n q:=by
 unfold ak.sW ak.pf;rw[h]
theorem bu.Dk {W W':World} {F:Nat→Prop} {B:Nat} {lv wv fv:Value} {x:ak} (h:bu W B lv wv fv x) (ho:Out F W W') (h1:∀g,lv.ownBlock=some g→¬F g) (h2:∀g,x.waits≠[]∧wv.ownBlock=some g→¬F g) (h3:∀g,x.fails≠[]∧fv.ownBlock=some g→¬F g):bu W' B lv wv fv x:=by
 refine⟨h.lasts.rH ho h1,?_,?_⟩
 ·by_cases hw:x.waits=[]
  ·obtain⟨a1,a2,a,cap,a3, -⟩:=h.waits;exact⟨a1,a2,a,cap,a3,fun i y hi=>by rw[hw]at hi;cases hi⟩
  ·exact h.waits.rH ho (fun g hg=>h2 g ⟨hw,hg⟩)
 ·by_cases hw:x.fails=[]
  ·obtain⟨a1,a,cap,a3,a4, -⟩:=h.fails;exact⟨a1,a,cap,a3,a4,fun i y hi=>by rw[hw]at hi;cases hi⟩
  ·exact h.fails.rH ho (fun g hg=>h3 g ⟨hw,hg⟩)
theorem CL {x:ak} {n q:Int} {c:UInt8} (h:(x.fN n q c).waits≠[]):x.waits≠[]:=by
 intro e;apply h;unfold ak.fN;split
 ·unfold ak.ov;rw[e];rfl
 ·exact e
structure Zr (w:World) (D:aX) (P:Nat→Prop) (X Y:ak) (s fr:Int) (t:Nat) (fv:Value) (st:Int) (W:World):Prop where
 disk:aE W D X
 ref:∃lv wv,ah W (w.heap.size+1) 40 #[lv,wv,.int .i64 st,fv]∧bu W W.heap.size lv wv fv Y∧(∀g,lv.ownBlock=some g→¬D.has g∧((g<w.heap.size∧P g)∨w.heap.size+3≤g)∧g<W.heap.size)∧(∀g,Y.waits≠[]∧wv.ownBlock=some g→¬D.has g∧((g<w.heap.size∧P g)∨w.heap.size+3≤g)∧g<W.heap.size)
 b3:ah W w.heap.size 72 #[.int .i64 s,.int .i64 fr,.int .u32 t]
 b6:ah W (w.heap.size+2) 40 aM
 step:DStep D D w W
theorem UY (P:Nat→Prop) (s fr:Int) (t:Nat) (D:aX) (x y:ak) (lv wv fv:Value) (w:World) (h:aE w D x) (hx:x.ok) (hR:bu w w.heap.size lv wv fv y) (hy:y.ok) (hsz:x.size=y.size)
 (hl:∀g,lv.ownBlock=some g→¬D.has g∧g<w.heap.size∧P g) (hw:∀g,y.waits≠[]∧wv.ownBlock=some g→¬D.has g∧g<w.heap.size∧P g) (hf:∀g,fv.ownBlock=some g→¬D.has g∧g<w.heap.size) (hS:∀k,k≤32→adu (eN y s fr t k)) :
 Calls Tryz.prog 29 #[.agg #[.int .i64 s,.int .i64 fr,.int .u32 t],ptr D.p,.agg #[lv,wv,.int .i64 y.steps,fv]] w fun e w'=>∃n_ wv',e=.returned (.tuple #[.agg #[n_,wv',.int .i64 y.steps,fv],.bool true]) ∧
  bu w' w'.heap.size n_ wv' fv (eN y s fr t 32)∧aE w' D (eN x s fr t 32)∧DStep D D w w'∧(∀g,n_.ownBlock=some g∨((eN y s fr t 32).waits≠[]∧wv'.ownBlock=some g)→¬D.has g∧((g<w.heap.size∧P g)∨w.heap.size+3≤g)):=by
 have jx:=ae h.has_lt;obtain⟨W,eW⟩:∃W,W=((w.alloc (.cells #[.int .i64 s,.int .i64 fr,.int .u32 t] 72)).alloc (.cells #[lv,wv,.int .i64 y.steps,fv] 40)).alloc (.cells aM 40):=⟨_,rfl⟩;have b0:Below w.heap.size w W:=by rw[eW];exact(((ax _ w).alloc (ai _) _).alloc (by simp) _).alloc (by simp;omega) _
 have k3:ah W w.heap.size 72 #[.int .i64 s,.int .i64 fr,.int .u32 t]:=by rw[eW];exact((ah.new w _ _).alloc _).alloc _
 have k5:ah W (w.heap.size+1) 40 #[lv,wv,.int .i64 y.steps,fv]:=by rw[eW];exact(ah.new2 w _ _ _).alloc _
 have k6:ah W (w.heap.size+2) 40 aM:=by rw[eW];exact ah.new' (by simp)
 have HB:=ae (show Zr w D P (eN x s fr t 0) (eN y s fr t 0) s fr t fv y.steps W from⟨h.below b0,⟨lv,wv,k5,(hR.below b0 (ai _)).mono b0.size,fun g hg=>⟨(hl g hg).1,.inl (hl g hg).2,kK (hl g hg).2.1 b0.size⟩,fun g hg=>⟨(hw g hg).1,.inl (hw g hg).2,kK (hw g hg).2.1 b0.size⟩⟩,k3,k6,(DStep.refl D w).below b0⟩);have HOX:=ae (yE hx s fr t);have HOY:=ae (yE hy s fr t);have HSX:=ae (fun k=>(qR x s fr t k).1);have uQ:=ae (fun k=>(qR y s fr t k));have jw:=ae hsz;have fg:=ae hS;have HF:=ae hf;have hW3:W.heap.size=w.heap.size+3:=by rw[eW];simp
 obtain⟨st,est⟩:∃q,q=y.steps:=⟨_,rfl⟩;have HST:=ae est;rw[←est]at HB eW ⊢;clear h hx hR hy hsz hl hw hf hS b0 k3 k5 k6 est;unfold ptr at *;go_enter Tryz.func29,Tryz.ntmps29
 go_wp2_with fail;rw[←eW];clear eW;go_loopw [8,9] (fun o i wr=>∃k:Nat,k≤32∧i=.int .i64 (k:Int)∧o=.bool true∧w.heap.size+3≤wr.heap.size∧Hid (Zr w D P (eN x s fr t k) (eN y s fr t k) s fr t fv st wr)) (fun _ i _=>32-(intOf i).toNat)
 case atStart=>exact⟨0,by omega,rfl,rfl,by omega,HB⟩
 case round =>
  obtain⟨k,hk,rfl,rfl,hwz,HI⟩:=hrel;clear hW3 HB;obtain⟨wo,rfl⟩:∃v,v=wr:=⟨_,rfl⟩;by_cases hlt:k<32
  ·have Cv:(k:Int)<32:=by omega
   have c30:=HI.out.b3.ag 0 rfl;have c31:=HI.out.b3.ag 1 rfl;have c32:=HI.out.b3.ag 2 rfl;have none_:mI fr t k=false→Hid (Zr w D P (eN x s fr t (k+1)) (eN y s fr t (k+1)) s fr t fv st wo):=fun h=>by
    rw[Mp x s h,Mp y s h];exact HI
   have jA:=ae none_;clear none_;by_cases h1:0≤fr∧fr<4096
   case neg =>
    have uJ:=jA.out (by unfold mI;rw[cB (by omega)];rfl);have h2:fr<0∨(¬fr<0∧¬fr<4096):=by omega
    clear h1;rcases h2 with h2 | ⟨h1,h2⟩
    all_goals
     have h3:¬0≤fr∨¬fr<0:=by omega
     try have h4:¬0≤fr:=by omega
     try have h5:0≤fr:=by omega
     go_wp2_with fail;exact⟨⟨k+1,by omega,by simp,rfl,hwz,uJ⟩,by simp[intOf];omega⟩
   obtain⟨h1,h2⟩:=h1;obtain⟨f,rfl⟩:∃f:Nat,fr=f:=⟨fr.toNat,by omega⟩;have hwr:IntKind.i64.wrap ((f:Int)+k)=(f:Int)+k:=by rw[cz];omega
   by_cases h3:(f:Int)+k<4096
   case neg =>
    have uJ:=jA.out (by unfold mI;rw[cB (by omega)];rfl);go_wp2_with fail;exact⟨⟨k+1,by omega,by simp,rfl,hwz,uJ⟩,by simp[intOf];omega⟩
   cases hb:(((t:Int)/2^k).tmod 2 == 1)
   ·have uJ:=jA.out (by unfold mI;rw[←Oy,hb,oO]);go_wp2_with fail;exact⟨⟨k+1,by omega,by simp,rfl,hwz,uJ⟩,by simp[intOf];omega⟩
   ·have Ov:=ae (show mI f t k=true by unfold mI;rw[←Oy,hb,cT (by omega)];rfl);have hq0:((f:Int)+k).tdiv 8=((f+k)/8:Nat):=by rw[←I_];rfl
    have hr0:((f:Int)+k).tmod 8=((f+k) % 8:Nat):=by rw[←I_];rfl
    have UZ:=ae (Hm x s Ov.out);have U0:=ae (Hm y s Ov.out);obtain⟨q8,Le⟩:∃q:Nat,q=(f+k)/8:=⟨_,rfl⟩;obtain⟨r8,er8⟩:∃q:Nat,q=(f+k) % 8:=⟨_,rfl⟩;rw[←Le]at hq0 UZ U0;rw[←er8]at hr0 UZ U0;have Y0:q8<512:=by omega
    have hr7:r8<8:=by omega
    have hwq:IntKind.i64.wrap (q8:Int)=q8:=by rw[cz];omega
    have hsh:=adv r8 hr7;obtain⟨c8,X_⟩:∃c,c=UInt8.ofNat (2^r8):=⟨_,rfl⟩;rw[←X_]at hsh UZ U0;clear Le er8 X_ jA;obtain⟨uW,wv1,k5,hR,hl1,hw1⟩:=HI.out.ref;have HR:=ae hR;have LY:=ae hl1;have HW1:=ae hw1;have K5:=ae k5;have HE:=ae (Nw (x:=eN x s f t k) (y:=eN y s f t k) (by rw[HSX.out,(uQ.out k).1,jw.out]) s q8);obtain⟨X,eX⟩:∃X,X=eN x s f t k:=⟨_,rfl⟩;obtain⟨Y,eY⟩:∃X,X=eN y s f t k:=⟨_,rfl⟩;have hXo:X.ok:=by rw[eX];exact HOX.out k
    have hYo:Y.ok:=by rw[eY];exact HOY.out k
    have hSp:=fg.out k (by omega);have hYs:Y.steps=st:=by rw[eY,(uQ.out k).2,HST.out]
    rw[←eY]at hSp;rw[←eX,←eY]at HE HI;rw[←eY]at HR U0 HW1;rw[←eX]at UZ;clear hR hl1 hw1 k5 eX eY;obtain⟨e8,ee8⟩:∃q,q=Y.sW s q8:=⟨_,rfl⟩;have UT:=ae (show ∀W',Below wo.heap.size wo W'→Calls Tryz.prog 80 #[.agg #[uW,wv1,.int .i64 st,fv],.int .i64 s,.int .i64 q8,.int .u8 (c8.toNat:Int)] W' fun e w'=>Below W'.heap.size W' w'∧∃n_ wv',e=.returned (.tuple #[.agg #[n_,wv',.int .i64 st,fv],.int .i64 e8]) ∧
     bu w' w'.heap.size n_ wv' fv (Y.fN s q8 c8)∧Io W'.heap.size w'.heap.size uW n_∧Io W'.heap.size w'.heap.size wv1 wv' from fun W' hb=>by
     have h:=hSp s q8 c8 uW wv1 fv W' ((HR.out.below hb (ai _)).mono hb.size) hYo;rw[hYs,←ee8]at h;exact h)
    have HCD:=ae (show ∀W',aE W' D X→Calls Tryz.prog 37 #[.pointer (some ⟨D.p,0,none⟩),.int .i64 s,.int .i64 q8,.int .u8 (c8.toNat:Int)] W' fun e w'=>e=.returned (.int .i64 e8)∧aE w' D (X.fN s q8 c8)∧DStep D D W' w' from fun W' hh=>by
     have h:=QV D X s q8 c8 W' hh hXo;rw[HE.out,←ee8]at h;exact h)
    have hone:=HR.out.one st;have dD:=ae hone;clear hSp hYs hXo hYo ee8 hone HE;go_upto_region 7 with fail;clear hb;refine jb (fun X=>Below wo.heap.size wo X) (fun _=>True) 100 (ax _ _).drew trivial fun hHeld hJ=>?_;refine jk false 1 ?_;refine jk false 2 ?_ (hy:=by intro X hX _;have hc:=(HI.out.b3.below hX HI.out.b3.lt).ag 0 rfl;go_simp;try with_reducible rfl);refine jk false 3 ?_;refine jk false 4 ?_;refine jk false 5 ?_;refine jk false 6 ?_;refine jk false 7 ?_;refine jy false 0 rfl (cY (by rfl) 40 _ rfl (w.heap.size+1) 0 rfl [uW,wv1,.int .i64 st,fv] _ (fun w' h=>dt (K5.out.below h.1 K5.out.lt)) bV rfl (au _ _ _ _)) ?_;obtain⟨wd,qX⟩:∃X,X=wo.drew:=⟨_,rfl⟩;rw[←qX]at hHeld ⊢;clear qX;have hsd:=hHeld.size;refine' jj2 (_:Value→Nat→Act) (fun V G Z=>ah Z G 40 aM∧wo.heap.size≤G∧∃qS wv2,V=.agg #[qS,wv2,.int .i64 st,fv]∧bu Z Z.heap.size qS wv2 fv (Y.fN s q8 c8)∧(∀g,qS.ownBlock=some g→¬D.has g∧((g<w.heap.size∧P g)∨w.heap.size+3≤g)∧g≠G∧g<Z.heap.size)∧(∀g,(Y.fN s q8 c8).waits≠[]∧wv2.ownBlock=some g→¬D.has g∧((g<w.heap.size∧P g)∨w.heap.size+3≤g)∧g≠G∧g<Z.heap.size)) ?_ ?_;rotate_left 3
    ·skip
     intro hF;refine jr2 8 12 (fun K hK=>?_) (fun K hK=>?_)
     ·go_simp;refine(UT.out wd hHeld).mono ?_;rintro e w2 ⟨hb2,qS,wv2,rfl,hR2,hn1,hn2⟩;obtain⟨V,eV⟩:∃V,V=Value.agg #[qS,wv2,.int .i64 st,fv]:=⟨_,rfl⟩;dsimp only;rw[←eV];have HEV:=ae eV;clear eV;have jC:=hHeld.trans (hb2.mono hsd);refine hK.out _ _ ⟨jC,fun _=>trivial⟩ ?_;clear hK K;have hHeld:=jC;refine jk false 9 ?_;refine jk false 10 ?_;refine jk false 11 ?_;refine jr 12 fun K hK=>?_;go_simp;have hsz2:=hb2.size;obtain⟨G,eG⟩:∃G,G=w2.heap.size:=⟨_,rfl⟩;obtain⟨Z,eZ⟩:∃Z,Z=w2.alloc (.cells aM 40):=⟨_,rfl⟩;have hbz:Below w2.heap.size w2 Z:=by rw[eZ];exact(ax _ _).alloc (ai _) _
      have bz:ah Z G 40 aM:=by rw[eZ,eG];exact ah.new _ _ _
      rw[←eZ,←eG];clear eZ;have hzZ:=hbz.size;have hzG:=bz.lt;have kg:=jC.trans (hbz.mono jC.size);refine hK.out _ _ ⟨kg,fun _=>trivial⟩ ?_;refine hF V G _ _ _ ?_ ?_ ?_ ?_
      ·refine⟨bz,by rw[eG];omega,qS,wv2,HEV.out,(hR2.below hbz (ai _)).mono hbz.size,fun g hg=>?_,fun g hg=>?_⟩
       ·rcases hn1 g hg with h | h
        ·have h2:=LY.out g h;exact⟨h2.1,h2.2.1,by omega,by omega⟩
        ·exact⟨fun hd=>by have:=jx.out g hd;omega,.inr (by omega),by omega,by omega⟩
       ·rcases hn2 g hg.2 with h | h
        ·have h2:=HW1.out g ⟨CL hg.1,h⟩;exact⟨h2.1,h2.2.1,by omega,by omega⟩
        ·exact⟨fun hd=>by have:=jx.out g hd;omega,.inr (by omega),by omega,by omega⟩
      ·exact kg
      ·rfl
      ·with_reducible rfl
     ·go_simp;obtain⟨G,eG⟩:∃G,G=wd.heap.size:=⟨_,rfl⟩;obtain⟨Z,eZ⟩:∃Z,Z=wd.alloc (.cells aM 40):=⟨_,rfl⟩;have hbz:Below wd.heap.size wd Z:=by rw[eZ];exact(ax _ _).alloc (ai _) _
      have bz:ah Z G 40 aM:=by rw[eZ,eG];exact ah.new _ _ _
      have hGs:G<Z.heap.size:=bz.lt;rw[←eZ,←eG];have HEG:=ae eG;have hGw:wd.heap.size≤G:=by omega
      clear eZ eG;have jC:=hHeld.trans (hbz.mono hsd);refine hK.out _ _ ⟨jC,fun _=>trivial⟩ ?_;clear hK K;have hHeld:=jC;refine jr 8 fun K hK=>?_;go_simp;refine(UT.out Z jC).mono ?_;rintro e w2 ⟨hb2,qS,wv2,rfl,hR2,hn1,hn2⟩;obtain⟨V,eV⟩:∃V,V=Value.agg #[qS,wv2,.int .i64 st,fv]:=⟨_,rfl⟩;dsimp only;rw[←eV];have HEV:=ae eV;clear eV;have kg:=jC.trans (hb2.mono jC.size);have hz2:=jC.size;have hz3:=hb2.size;refine hK.out _ _ ⟨kg,fun _=>trivial⟩ ?_;clear hK K;have hHeld:=kg;refine jk false 9 ?_;refine jk false 10 ?_;refine jk false 11 ?_;refine hF V G _ _ _ ?_ ?_ ?_ ?_
      ·refine⟨bz.below hb2 bz.lt,by omega,qS,wv2,HEV.out,hR2,fun g hg=>?_,fun g hg=>?_⟩
       ·rcases hn1 g hg with h | h
        ·have h2:=LY.out g h;exact⟨h2.1,h2.2.1,by omega,by omega⟩
        ·exact⟨fun hd=>by have:=jx.out g hd;omega,.inr (by omega),by omega,by omega⟩
       ·rcases hn2 g hg.2 with h | h
        ·have h2:=HW1.out g ⟨CL hg.1,h⟩;exact⟨h2.1,h2.2.1,by omega,by omega⟩
        ·exact⟨fun hd=>by have:=jx.out g hd;omega,.inr (by omega),by omega,by omega⟩
      ·exact kg
      ·kernel_rfl
      ·with_reducible rfl
    rintro V G Z ⟨bz,hGl,qS,wv2,rfl,hR2,hn1,hn2⟩ jC;have HR2:=ae hR2;have Al:=ae hn1;have GS:=ae hn2;have ady:=HR2.out.one st;have adz:=ae ady;have HHZ:=ae jC;clear hR2 hn1 hn2 ady;have hHeld:=jC;refine jr 13 fun K hK=>?_;rw[aB (show Region.wanted _ _=true from rfl)];refine ez 40 _ _ rfl G #[qS,wv2,.int .i64 st,fv] rfl rfl 40 _ bz (au _ _ _ _) rfl adz.out ?_;obtain⟨X1,qB⟩:∃X,X=Z.setRow G #[qS,wv2,.int .i64 st,fv]:=⟨_,rfl⟩;have bG:ah X1 G 40 #[qS,wv2,.int .i64 st,fv]:=by rw[qB];exact bz.row _
    have O1:Out (fun i=>i=G) Z X1:=by rw[qB];exact bL _ rfl
    rw[←qB];clear qB;have kg:Below wo.heap.size wo X1:=jC.trans (O1.below jC.size (fun i hi e=>by omega));refine hK.out _ _ ⟨kg,fun _=>trivial⟩ ?_;clear hK K;have hHeld:=kg;refine jk false 14 ?_;refine qY ?_;have hb5:=K5.out.below kg K5.out.lt;have hI3:=HI.out.b3.below kg HI.out.b3.lt;have La:=HI.out.b6.below kg HI.out.b6.lt;have cp:X1.cell? ⟨w.heap.size,0,none⟩=some (.int .i64 s):=hI3.ag 0 rfl;obtain⟨X2,lJ⟩:∃X,X=X1.setRow (w.heap.size+1) #[qS,wv2,.int .i64 st,fv]:=⟨_,rfl⟩;have O2:Out (fun i=>i=w.heap.size+1) X1 X2:=by rw[lJ];exact bL _ rfl
    have b52:ah X2 (w.heap.size+1) 40 #[qS,wv2,.int .i64 st,fv]:=by rw[lJ];exact hb5.row _
    have hD2:aE X2 D X:=(HI.out.disk.below kg).out O2 (fun i hi e=>by have:=jx.out i hi;omega);have CM:bu X2 X2.heap.size qS wv2 fv (Y.fN s q8 c8):=((HR2.out.Dk O1 (fun g hg e=>(Al.out g hg).2.2.1 e) (fun g hg e=>(GS.out g hg).2.2.1 e) (fun g hg e=>by have:=(HF.out g hg.2).2;omega)).Dk O2 (fun g hg e=>by have:=(Al.out g hg).2.1;omega) (fun g hg e=>by have:=(GS.out g hg).2.1;omega) (fun g hg e=>by have:=(HF.out g hg.2).2;omega)).mono (by have:=O1.size;have:=O2.size;omega);have k32:=O2.blk hI3 (by omega);have k62:=O2.blk La (by omega);have hS2:DStep D D w X2:=⟨(HI.out.step.below kg).out.trans O2 (fun i hi e=>by omega),rfl,fun i hi=>.inl hi⟩;have HD2:=ae hD2;have HR3:=ae CM;have S7:=ae (show Z.heap.size≤X2.heap.size by have:=O1.size;have:=O2.size;omega);have K32:=ae k32;have K52:=ae b52;have K62:=ae k62;have HS2:=ae hS2;have BG:=ae bG;have uk:=ae hb5;have hz2:wo.heap.size≤X2.heap.size:=by have:=kg.size;have:=O2.size;omega
    clear hI3 La hD2 CM k32 k62 b52 hS2 bG hb5 O1 O2 cp c30 c31 c32 HI;go_upto_region 9 with (first
     | (refine aS rfl 40 _ rfl G 0 rfl #[qS,wv2,.int .i64 st,fv] (bB BG.out) ?_)
     | (refine aQ rfl 40 _ _ rfl (w.heap.size+1) #[qS,wv2,.int .i64 st,fv] rfl rfl 40 _ uk.out (au _ _ _ _) rfl adz.out ?_))
    rw[←lJ];clear lJ;have hnb:¬D.has w.heap.size:=fun hd=>by have:=jx.out _ hd;omega
    refine jb (fun X=>Out (fun i=>D.has i) X2 X) (fun _=>True) 100 (aN (ax _ _).drew) trivial fun hHeld hJ=>?_;refine jk false 0 ?_;refine jk false 1 ?_;refine jk false 2 ?_;refine jk false 3 ?_;refine jk false 4 ?_ (hy:=by intro X hX _;have hc:=(hX.blk K32.out hnb).ag 0 rfl;go_simp;try with_reducible rfl);refine jk false 5 ?_;refine jk false 6 ?_;refine jk false 7 ?_;refine jk false 8 ?_;refine jk false 9 ?_;refine jk false 12 ?_;refine jr 10 fun K hK=>?_;go_simp;refine(HCD.out X2.drew HD2.out.drew).mono ?_;rintro e w4 ⟨rfl,hd4,hs4⟩;have O4:Out (fun i=>D.has i) X2 w4:=(aN (ax _ _).drew:Out (fun i=>D.has i) X2 X2.drew).trans hs4.out (fun _ _ h=>h);dsimp only;refine hK.out _ _ ⟨O4,fun _=>trivial⟩ ?_;clear hK K;have hHeld:=O4;refine jr 11 fun K hK=>?_;go_simp;refine(jT e8 w4).mono ?_;rintro e w5 ⟨rfl,rfl⟩;dsimp only;refine hK.out _ _ ⟨O4,fun _=>trivial⟩ ?_;clear hK K;refine jk false 13 ?_;refine jk false 14 ?_;refine jk false 15 ?_;refine qY ?_;have uJ:=ae (show Zr w D P (eN x s f t (k+1)) (eN y s f t (k+1)) s f t fv st w4 by
     rw[UZ.out,U0.out];have Fa:=O4.size;have hn3:=S7.out;refine⟨hd4,⟨qS,wv2,O4.blk K52.out (fun hd=>by have:=jx.out _ hd;omega),(HR3.out.Dk O4 (fun g hg=>(Al.out g hg).1) (fun g hg=>(GS.out g hg).1) (fun g hg=>(HF.out g hg.2).1)).mono Fa,fun g hg=>⟨(Al.out g hg).1,(Al.out g hg).2.1,by have:=(Al.out g hg).2.2.2;omega⟩,fun g hg=>⟨(GS.out g hg).1,(GS.out g hg).2.1,by have:=(GS.out g hg).2.2.2;omega⟩⟩,O4.blk K32.out hnb,O4.blk K62.out (fun hd=>by have:=jx.out _ hd;omega),⟨HS2.out.out.trans O4 (fun i _ hd=>hd),rfl,fun i hi=>.inl hi⟩⟩)
    have Fa:w.heap.size+3≤w4.heap.size:=by have:=O4.size;omega
    clear hd4 hs4 hnb;go_wp2_with fail;exact⟨⟨k+1,by omega,by simp,rfl,Fa,uJ⟩,by simp[intOf];omega⟩
  ·obtain rfl:k=32:=by omega
   obtain⟨uW,wv1,k5,hR,hl1,hw1⟩:=HI.out.ref;have hon:=hR.one st;have K5:=ae k5;have K6:=ae HI.out.b6;have O1:Out (fun i=>i=w.heap.size+2) wo (wo.setRow (w.heap.size+2) #[uW,wv1,.int .i64 st,fv]):=bL _ rfl;have cH:=ae (show bu (wo.setRow (w.heap.size+2) #[uW,wv1,.int .i64 st,fv]) (wo.setRow (w.heap.size+2) #[uW,wv1,.int .i64 st,fv]).heap.size uW wv1 fv (eN y s fr t 32)∧aE (wo.setRow (w.heap.size+2) #[uW,wv1,.int .i64 st,fv]) D (eN x s fr t 32)∧DStep D D w (wo.setRow (w.heap.size+2) #[uW,wv1,.int .i64 st,fv])from
    ⟨(hR.Dk O1 (fun g hg e=>by have:=(hl1 g hg).2.1;omega) (fun g hg e=>by have:=(hw1 g hg).2.1;omega) (fun g hg e=>by have:=(HF.out g hg.2).2;omega)).mono O1.size,HI.out.disk.out O1 (fun i hi e=>by have:=jx.out i hi;omega),⟨HI.out.step.out.trans O1 (fun i hi e=>by omega),rfl,fun i hi=>.inl hi⟩⟩)
   have Fc:=ae hon;have HOW:=ae (show ∀g,uW.ownBlock=some g∨((eN y s fr t 32).waits≠[]∧wv1.ownBlock=some g)→¬D.has g∧((g<w.heap.size∧P g)∨w.heap.size+3≤g)from fun g hg=>hg.elim (fun h=>⟨(hl1 g h).1,(hl1 g h).2.1⟩) (fun h=>⟨(hw1 g h).1,(hw1 g h).2.1⟩));clear hR hl1 hw1 k5 HI O1 hon;go_wp2_with (first
    | (refine aS rfl 40 _ rfl (w.heap.size+1) 0 rfl #[uW,wv1,.int .i64 st,fv] (bB K5.out) ?_)
    | (refine aQ rfl 40 _ _ rfl (w.heap.size+2) #[uW,wv1,.int .i64 st,fv] rfl rfl 40 _ K6.out (au _ _ _ _) rfl Fc.out ?_))
   exact bc (bn Tryz.results29 _ _ _ _ _ (by rfl) (bB (K6.out.row _)) (by rfl)) rfl ⟨uW,wv1,rfl,cH.out.1,cH.out.2.1,cH.out.2.2,HOW.out⟩
end Go.Proofs.YtdpniceapmikpaaGreat
