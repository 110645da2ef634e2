/-
  The law's stands: of a disk and the
-/
import Derived.Deep.RegionHeld3
import Derived.Test.YtdpniceapmikpaaGreatRd1
import Derived.Test.YtdpniceapmikpaaGreatRd2
import Derived.Test.YtdpniceapmikpaaGreatRd4
import Derived.Test.YtdpniceapmikpaaGreatRd10
import Derived.Test.YtdpniceapmikpaaGreatRd8
import Derived.Test.YtdpniceapmikpaaGreatRd12
import Derived.Test.YtdpniceapmikpaaGreatRd9
import Derived.Test.YtdpniceapmikpaaGreatRd11
import Derived.Conc.EntryLaws
import Derived.Test.YtdpniceapmikpaaGreatRd6
set_option linter.unusedVariables false
set_option linter.unusedSimpArgs false
set_option maxRecDepth 100000
set_option maxHeartbeats 32000000
namespace Go.Proofs.YtdpniceapmikpaaGreat
open Go.RowKit
theorem Fq (D:aX) (x:ak) (lv wv fv:Value) (w:World) (h:aE w D x) (hr:bu w w.heap.size lv wv fv x) (hx:x.ok) (hin:x.pU) :
 Calls Tryz.prog 21 #[ptr D.p,.agg #[lv,wv,.int .i64 x.steps,fv]] w fun e w'=>e=.returned (.bool true)∧Below w.heap.size w w':=by
 have HH:=ae h;have HR:=ae hr;obtain⟨_,_,aw,cw,rfl,_⟩:=hr.waits;have HDB:=ae (fun W hh=>Qk D x W hh hx);have HRB:=ae (fun W hh=>Ni x lv (.slice aw x.waits.length cw) fv x.steps W hh hx hin);have HWT:=ae (fun W hh=>Gz D x W hh hx);have HST:=ae (fun W hh=>Ql D x W hh hx);have k0:ah (w.alloc (.cells #[lv,.slice aw x.waits.length cw,.int .i64 x.steps,fv] 40)) w.heap.size 40 #[lv,.slice aw x.waits.length cw,.int .i64 x.steps,fv]:=ah.new w _ _;have hbW:Below w.heap.size w (w.alloc (.cells #[lv,.slice aw x.waits.length cw,.int .i64 x.steps,fv] 40)):=(ax _ w).alloc (ai _) _;unfold ptr at *;clear h hr;go_enter Tryz.func21,Tryz.ntmps21
 go_upto_region 1 with fail;generalize w.alloc _=W at *;have HW:=ae hbW;have SK:=ae (fun(W':World) (hb':Below W.heap.size W W')=>And.intro ((k0.below hb' k0.lt).ag 1 rfl) (And.intro ((k0.below hb' k0.lt).ag 2 rfl) (by have:=dt (k0.below hb' k0.lt);simpa using this:W'.rangeAt w.heap.size 0 [lv,.slice aw x.waits.length cw,.int .i64 x.steps,fv])));have hb0:Below W.heap.size W W.drew:=(ax _ W).drew;clear hbW k0;refine bF (S:=(fun w'=>w'.cell? ⟨w.heap.size,1,none⟩=some (.slice aw x.waits.length cw)∧w'.cell? ⟨w.heap.size,2,none⟩=some (.int .i64 x.steps)∧w'.rangeAt w.heap.size 0 [lv,.slice aw x.waits.length cw,.int .i64 x.steps,fv])) (by kernel_rfl) (by(try dsimp only);exact SK.out _ hb0) (fun hHeld=>?_);generalize W.drew=X0 at *;refine tk 0 ?_;refine ty 3 rfl (cY (by rfl) 40 _ rfl w.heap.size 0 rfl [lv,.slice aw x.waits.length cw,.int .i64 x.steps,fv] _ (fun w' h=>h.2.2) bV rfl (au _ _ _ _)) ?_;refine rd 1 fun K hK=>?_;go_simp;refine(HDB.out X0 (HH.out.below (HW.out.trans (hb0.mono HW.out.size)))).mono ?_;rintro e X1 ⟨u1,rfl,fz,hb1'⟩;have hb1:=hb0.trans (hb1'.mono hb0.size);have hu1:=BytesIn.own fz;go_wp2_with fail;refine hK.out _ _ (by(try dsimp only);exact SK.out _ hb1) (fun hHeld=>?_);clear hK K;refine fU (rs:=[2,4]) (by kernel_rfl) (by simp) ?_;refine(ca rfl (fun K hK=>?_) (ca rfl (fun K hK=>?_) fT))
 ·skip
  have hs1:=fX X1 hu1;go_simp;refine hK.out _ _ (by(try dsimp only);exact SK.out _ hb1) (fun hHeld=>?_);clear hK K;refine rd 4 fun K hK=>?_;go_simp;refine(HRB.out X1 ((HR.out.below (HW.out.trans (hb1.mono HW.out.size)) (ai _)).mono ((HW.out.trans (hb1.mono HW.out.size))).size)).mono ?_;rintro e X2 ⟨u2,rfl,hO2,hb2'⟩;have hb2:=hb1.trans (hb2'.mono hb1.size);have hu2:=BytesIn.own hO2;go_wp2_with fail;refine hK.out _ _ (by(try dsimp only);exact SK.out _ hb2) (fun hHeld=>?_);clear hK K;refine rd 5 fun K hK=>?_;have hs2:=fX X2 hu2;go_simp;refine hK.out _ _ (by(try dsimp only);exact SK.out _ hb2) (fun hHeld=>?_);clear hK K;refine tk 6 ?_;refine tk 7 ?_;refine tk 8 ?_;refine tk 11 ?_;refine tk 12 ?_;refine tk 13 ?_;refine rd 9 fun K hK=>?_;go_simp;refine(HWT.out X2 (HH.out.below (HW.out.trans (hb2.mono HW.out.size)))).mono ?_;rintro e X9 ⟨⟨a9,c9,rfl⟩,L'⟩;have dT:=hb2.trans (L'.mono hb2.size);go_wp2_with fail;refine hK.out _ _ (by(try dsimp only);exact SK.out _ dT) (fun hHeld=>?_);clear hK K;refine tk 10 ?_;refine tk 14 ?_;refine tk 15 ?_;refine tk 16 ?_;refine tk 17 ?_;refine tk 19 ?_;refine tk 20 ?_;refine rd 18 fun K hK=>?_;go_simp;refine(HST.out X9 (HH.out.below (HW.out.trans (dT.mono HW.out.size)))).mono ?_;rintro e w' ⟨rfl,rfl⟩;go_wp2_with fail;refine hK.out _ _ (by(try dsimp only);exact SK.out _ dT) (fun hHeld=>?_);clear hK K;refine tk 21 ?_;refine tk 22 ?_;refine tk 23 ?_;refine aT ?_;go_wp2_with fail;go_ret
  exact⟨rfl,(HW.out.trans (dT.mono HW.out.size))⟩
 ·skip
  go_simp;refine(HRB.out X1 ((HR.out.below (HW.out.trans (hb1.mono HW.out.size)) (ai _)).mono ((HW.out.trans (hb1.mono HW.out.size))).size)).mono ?_;rintro e X2 ⟨u2,rfl,hO2,hb2'⟩;have hb2:=hb1.trans (hb2'.mono hb1.size);have hu2:=BytesIn.own hO2;have hu1:=(hu1.below hb2' (ai _)).mono hb2'.size;go_wp2_with fail;refine hK.out _ _ (by(try dsimp only);exact SK.out _ hb2) (fun hHeld=>?_);clear hK K;refine fU (rs:=[2,5]) (by kernel_rfl) (by simp) ?_;refine(ca rfl (fun K hK=>?_) (ca rfl (fun K hK=>?_) fT))
  ·skip
   have hs1:=fX X2 hu1;go_simp;refine hK.out _ _ (by(try dsimp only);exact SK.out _ hb2) (fun hHeld=>?_);clear hK K;refine rd 5 fun K hK=>?_;have hs2:=fX X2 hu2;go_simp;refine hK.out _ _ (by(try dsimp only);exact SK.out _ hb2) (fun hHeld=>?_);clear hK K;refine tk 6 ?_;refine tk 7 ?_;refine tk 8 ?_;refine tk 11 ?_;refine tk 12 ?_;refine tk 13 ?_;refine rd 9 fun K hK=>?_;go_simp;refine(HWT.out X2 (HH.out.below (HW.out.trans (hb2.mono HW.out.size)))).mono ?_;rintro e X9 ⟨⟨a9,c9,rfl⟩,L'⟩;have dT:=hb2.trans (L'.mono hb2.size);go_wp2_with fail;refine hK.out _ _ (by(try dsimp only);exact SK.out _ dT) (fun hHeld=>?_);clear hK K;refine tk 10 ?_;refine tk 14 ?_;refine tk 15 ?_;refine tk 16 ?_;refine tk 17 ?_;refine tk 19 ?_;refine tk 20 ?_;refine rd 18 fun K hK=>?_;go_simp;refine(HST.out X9 (HH.out.below (HW.out.trans (dT.mono HW.out.size)))).mono ?_;rintro e w' ⟨rfl,rfl⟩;go_wp2_with fail;refine hK.out _ _ (by(try dsimp only);exact SK.out _ dT) (fun hHeld=>?_);clear hK K;refine tk 21 ?_;refine tk 22 ?_;refine tk 23 ?_;refine aT ?_;go_wp2_with fail;go_ret
   exact⟨rfl,(HW.out.trans (dT.mono HW.out.size))⟩
  ·skip
   have hs2:=fX X2 hu2;go_simp;refine hK.out _ _ (by(try dsimp only);exact SK.out _ hb2) (fun hHeld=>?_);clear hK K;refine rd 2 fun K hK=>?_;have hs1:=fX X2 hu1;go_simp;refine hK.out _ _ (by(try dsimp only);exact SK.out _ hb2) (fun hHeld=>?_);clear hK K;refine tk 6 ?_;refine tk 7 ?_;refine tk 8 ?_;refine tk 11 ?_;refine tk 12 ?_;refine tk 13 ?_;refine rd 9 fun K hK=>?_;go_simp;refine(HWT.out X2 (HH.out.below (HW.out.trans (hb2.mono HW.out.size)))).mono ?_;rintro e X9 ⟨⟨a9,c9,rfl⟩,L'⟩;have dT:=hb2.trans (L'.mono hb2.size);go_wp2_with fail;refine hK.out _ _ (by(try dsimp only);exact SK.out _ dT) (fun hHeld=>?_);clear hK K;refine tk 10 ?_;refine tk 14 ?_;refine tk 15 ?_;refine tk 16 ?_;refine tk 17 ?_;refine tk 19 ?_;refine tk 20 ?_;refine rd 18 fun K hK=>?_;go_simp;refine(HST.out X9 (HH.out.below (HW.out.trans (dT.mono HW.out.size)))).mono ?_;rintro e w' ⟨rfl,rfl⟩;go_wp2_with fail;refine hK.out _ _ (by(try dsimp only);exact SK.out _ dT) (fun hHeld=>?_);clear hK K;refine tk 21 ?_;refine tk 22 ?_;refine tk 23 ?_;refine aT ?_;go_wp2_with fail;go_ret
   exact⟨rfl,(HW.out.trans (dT.mono HW.out.size))⟩
theorem Uq {W:World} {B:Nat} {v:Value} {l:List UInt8} (h:BytesIn W B v l) (hl:l≠[]):∀g,v.ownBlock=some g→g<B∧g<W.heap.size:=by
 obtain⟨_,a,cap,rfl,_,h4⟩:=h;intro g hg;cases l with
 | nil=>exact absurd rfl hl
 | cons c l =>
  obtain⟨g2,off,rfl,h5,h6⟩:=h4 0 c rfl;have e:g2=g:=by simpa[Value.ownBlock]using hg
  subst e;exact⟨h5,od W _ h6⟩
theorem h_ (W:World) (g:Nat) (F:Array Value) (h:ah W g 28 F) (hi:(Tryz.prog.info? 28).map (·.size)=some F.size):(loadVar 28 ⟨g,0,none⟩).run Tryz.prog W=.ok (.agg F) W :=
 tO W g _ _ F _ _ h fw rfl hi
theorem oD {W:World} {B:Nat} {v:Value} {f:bY} (h:cL W B v f):∃F:Array Value,v=.agg F∧(Tryz.prog.info? 28).map (·.size)=some F.size∧F.all (·.oneCell')=true∧aF.size=F.size:=by
 obtain⟨vo,vb,vs,rfl,⟨_,_,_,rfl,_⟩,⟨_,_,_,rfl,_⟩,⟨_,_,_,rfl,_⟩⟩:=h;exact⟨_,rfl,by kernel_rfl,by rw[jf];rfl,rfl⟩
theorem Xk {W:World} {B:Nat} {lv wv:Value} {x:ak} (h:bu W B lv wv (.slice none 0 0) x) (s:Int):(Tryz.prog.info? 40).map (·.size)=some (#[lv,wv,.int .i64 s,.slice none 0 0]:Array Value).size∧(#[lv,wv,.int .i64 s,.slice none 0 0]:Array Value).all (·.oneCell')=true :=
 ⟨au _ _ _ _,h.one s⟩
theorem BytesIn.here {W:World} {B:Nat} {v:Value} {l:List UInt8} (h:BytesIn W B v l):BytesIn W W.heap.size v l:=by
 obtain⟨h1,a,cap,h2,h3,h4⟩:=h;refine⟨h1,a,cap,h2,h3,fun j c hc=>?_⟩;obtain⟨g,off,e,hg,hr⟩:=h4 j c hc;exact⟨g,off,e,od W _ hr,hr⟩
theorem QH (W:World) (B:Nat):cC W B (.slice none 0 0) []:=⟨by simp,fun y hy=>(by cases hy),none,0,rfl,fun i y hi=>(by simp at hi)⟩
def failed (x:ak) (l:List Int):ak:=if l.all (fun n=>decide (0≤n))=true then {x with fails:=iu x.steps l} else x
theorem Ur (D:aX) (x:ak) (v:Value) (l:List Int) (w:World) (h:aE w D x) (hx:x.ok) (hl:IntsIn w w.heap.size v l) (lx:l≠[]→∀g,v.ownBlock=some g→¬D.has g) (hi:∀n∈l,n≤9223372036854775807) (hlen:l.length≤1000) :
 Calls Tryz.prog 27 #[ptr D.p,v] w fun e w'=>∃ge D',e=.returned (.int .i64 ge)∧(ge=0∨ge=2)∧aE w' D' (failed x l)∧DStep D D' w w':=by
 refine(TZ D x v l w h hx hl lx hi hlen).mono fun e w' h'=>?_;rcases h' with ⟨h1,h2,D',h3,h4⟩ | ⟨h1,h2,h3⟩
 ·exact⟨0,D',h2,.inl rfl,by unfold failed;rw[aB h1];exact h3,h4⟩
 ·exact⟨2,D,h2,.inr rfl,by unfold failed;rw[aG (by rw[h1];decide)];exact h.below h3,(DStep.refl D w).below h3⟩
theorem QI (x:ak) (lv wv fv v:Value) (l:List Int) (w:World) (h:bu w w.heap.size lv wv fv x) (hx:x.ok) (hl:IntsIn w w.heap.size v l) (hi:∀n∈l,n≤9223372036854775807) (hlen:l.length≤1000) :
 Calls Tryz.prog 28 #[.agg #[lv,wv,.int .i64 x.steps,fv],v] w fun e w'=>∃tp er,e=.returned (.tuple #[.agg #[lv,wv,.int .i64 x.steps,tp],.int .i64 er])∧bu w' w'.heap.size lv wv tp (failed x l)∧(∀g,tp.ownBlock=some g→fv.ownBlock=some g∨w.heap.size≤g)∧Below w.heap.size w w':=by
 obtain⟨s0,s1⟩:0≤x.steps∧x.steps≤1000000000000:=⟨hx.2.2.2.2.1,hx.2.2.2.2.2.1⟩;have Il:lv.oneCell'=true∧wv.oneCell'=true:=by
  obtain⟨_,_,_,rfl,_⟩:=h.lasts;obtain⟨_,_,_,_,rfl,_⟩:=h.waits;exact⟨rfl,rfl⟩
 refine(Qp x.steps lv wv fv v l w s0 s1 (h.one _) Il hl hi hlen).mono fun e w' h'=>?_;obtain⟨hb,⟨h1,tp,h2,h3,h4,_⟩ | ⟨h1,h2⟩⟩:=h'
 ·refine⟨tp,0,h2,?_,fun g hg=>.inr (h4 g hg),hb⟩;unfold failed;rw[aB h1];have hr:=(h.below hb (ai _)).mono hb.size;exact⟨hr.lasts,hr.waits,h3⟩
 ·refine⟨fv,2,h2,?_,fun g hg=>.inl hg,hb⟩;unfold failed;rw[aG (by rw[h1];decide)];exact(h.below hb (ai _)).mono hb.size
theorem Xl (s:Nat) (bl:List UInt8) (h1:1≤s) (h2:s≤4096):lR (qD s (px s bl)) 0:=⟨Ty s _ (lj s bl _) h1 h2,Int.le_refl 0,ai 0,fun y hy=>by cases hy⟩
theorem Fs {x:ak} (hx:x.ok):fe x≠[]:=by
 intro e;have h:=sD hx;rw[e]at h;have:=hx.1;simp at h;omega
def nu (b:List UInt8):bY:=⟨(aC b 4 8:Int),(List.range (aC b 12 2)).map fun i=>(aC b (20+6*i) 2:Int),[],List.replicate (aC b 14 2) 0⟩
def gi:bY:=⟨0,[],[],[]⟩
def tF (N:Int) (b:List UInt8):bY:=if bI N b then nu b else gi
theorem lE {N:Int} {b:List UInt8} (h:bI N b=false):tF N b=gi:=by unfold tF;rw[h];rfl
theorem Bl {N:Int} {b:List UInt8} (h:bI N b=true):tF N b=nu b:=by unfold tF;rw[h];rfl
theorem df (W:World) (B:Nat):cL W B (.agg aF) gi:=⟨_,_,_,rfl,IntsIn.nil _ _,gA.nil _ _,BytesIn.nil _ _⟩
theorem gq:(Tryz.prog.info? 28).map (·.size)=some aF.size:=by kernel_rfl
theorem lF:aF.all (·.oneCell')=true:=by simp[Value.oneCell']
theorem jj {W:World} {g:Nat} {a b c d:Value} (h:ah W g 28 #[a,b,c,d]):(loadVar 28 ⟨g,0,none⟩).run Tryz.prog W=.ok (.agg #[a,b,c,d]) W :=
 tO W g 28 28 #[a,b,c,d] (0,0) _ h fw rfl (by
  show _=some 4;kernel_rfl)
theorem tJ {X:World} {g:Nat} {b:List UInt8} (hb:b.length=512) (h:ah X g 111 (b.map aj).toArray) (i k:Nat) (hik:i+k≤512):BytesIn X X.heap.size (.slice (some ⟨g,i,none⟩) k (512-i)) ((b.drop i).take k):=by
 have hl:((b.drop i).take k).length=k:=by rw[bD,c_];omega
 refine⟨by rw[hl];unfold maxLen;omega,some ⟨g,i,none⟩,512-i,by rw[hl],by omega,fun j c hj=>⟨g,i,rfl,h.lt,h.ag (i+j) ?_⟩⟩;rw[dU]at hj;split at hj
 ·rw[kL]at hj;rw[jd,dV,hj];rfl
 ·cases hj
structure HdI (w:World) (N:Int) (b:List UInt8) (gF gz nb:Nat) (X2:World) (k:Nat) (W:World):Prop where
 k0:ah W w.heap.size 23 #[.int .i64 N]
 k1:ah W (w.heap.size+1) 111 (b.map aj).toArray
 k2:ah W (w.heap.size+2) 28 aF
 kz:ah W gz 5 (madeCells #[.int .u8 0] nb)
 below:Below w.heap.size w W
 vo:∃vo,ah W gF 28 #[.int .i64 (aC b 4 8:Int),vo,.slice none 0 0,.slice (some ⟨gz,0,none⟩) nb nb]∧W.ownsRow X2.heap.size 3 1 vo k (lQ b k)
 ok:∀j,j<k→jz N b j=true
 size:X2.heap.size≤W.heap.size
 lo:gF<X2.heap.size∧gz<X2.heap.size∧w.heap.size+2<X2.heap.size∧w.heap.size≤gF∧gF≠w.heap.size∧gF≠w.heap.size+1∧gF≠w.heap.size+2∧w.heap.size≤gz
structure YT (w:World) (N:Int) (b:List UInt8) (gF gz nb:Nat) (X2:World) (k gv cv:Nat) (W:World):Prop where
 k0:ah W w.heap.size 23 #[.int .i64 N]
 k1:ah W (w.heap.size+1) 111 (b.map aj).toArray
 k2:ah W (w.heap.size+2) 28 aF
 kz:ah W gz 5 (madeCells #[.int .u8 0] nb)
 below:Below w.heap.size w W
 kf:ah W gF 28 #[.int .i64 (aC b 4 8:Int),.slice (some ⟨gv,0,none⟩) (k+1) cv,.slice none 0 0,.slice (some ⟨gz,0,none⟩) nb nb]
 row:W.ownsRow X2.heap.size 3 1 (.slice (some ⟨gv,0,none⟩) (k+1) cv) (k+1) (lQ b (k+1))
 size:X2.heap.size≤W.heap.size
 lo:gF<X2.heap.size∧gz<X2.heap.size∧w.heap.size+2<X2.heap.size∧w.heap.size≤gF∧gF≠w.heap.size∧gF≠w.heap.size+1∧gF≠w.heap.size+2∧w.heap.size≤gz
theorem YT.drew {w:World} {N:Int} {b:List UInt8} {gF gz nb:Nat} {X2:World} {k gv cv:Nat} {W:World} (h:YT w N b gF gz nb X2 k gv cv W):YT w N b gF gz nb X2 k gv cv W.drew :=
 ⟨h.k0.drew,h.k1.drew,h.k2.drew,h.kz.drew,h.below.drew,h.kf.drew,aq (F:=fun _=>False) (aN (ax _ _).drew) h.row (fun _ _ h=>h),h.size,h.lo⟩
theorem QJ (N:Int) (b:List UInt8) (hb:b.length=512) (hN:N≤64) (w:World) :
 Calls Tryz.prog 82 #[.agg #[.int .i64 N],aV b] w fun e w'=>∃v,e=.returned (.tuple #[v,.bool (bI N b)])∧dw w.heap.size w' v (tF N b)∧(∃a1 b1 c1,v=.agg #[a1,b1,.slice none 0 0,c1])∧Below w.heap.size w w':=by
 obtain⟨W0,a_⟩:∃W,W=((w.alloc (.cells #[.int .i64 N] 23)).alloc (.cells (b.map aj).toArray 111)).alloc (.cells aF 28):=⟨_,rfl⟩;have hw0:Below w.heap.size w W0:=by rw[a_];exact(((ax _ w).alloc (ai _) _).alloc (by simp) _).alloc (by simp;omega) _
 have k0:ah W0 w.heap.size 23 #[.int .i64 N]:=by rw[a_];exact((ah.new w _ _).alloc _).alloc _
 have k1:ah W0 (w.heap.size+1) 111 (b.map aj).toArray:=by rw[a_];exact(ah.new2 w _ _ _).alloc _
 have k2:ah W0 (w.heap.size+2) 28 aF:=by rw[a_];exact ah.new' (by simp)
 have hcut:∀ (W:World) (hb':ah W (w.heap.size+1) 111 (b.map aj).toArray) (i k:Nat),i+k≤512→BytesIn W (w.heap.size+2) (.slice (some ⟨w.heap.size+1,i,none⟩) k (512-i)) ((b.drop i).take k):=by
  intro W hb' i k hik;have hl:((b.drop i).take k).length=k:=by rw[bD,c_];omega
  refine⟨by rw[hl];unfold maxLen;omega,some ⟨w.heap.size+1,i,none⟩,512-i,by rw[hl],by omega,fun j c hj=>⟨w.heap.size+1,i,rfl,by omega,hb'.ag (i+j) ?_⟩⟩;rw[dU]at hj;split at hj
  ·rw[kL]at hj;rw[jd,dV,hj];rfl
  ·cases hj
 have hall:BytesIn W0 W0.heap.size (.slice (some ⟨w.heap.size+1,0,none⟩) 512 512) b:=by
  have:=(hcut W0 k1 0 512 (by omega)).mono (oT k2.lt);rw[qd,dg (by omega)]at this;exact this.mono (ai _)
 have KK:=ae (vO _ b W0 hall (by omega));unfold aV;go_enter Tryz.func82,Tryz.ntmps82
 go_upto_region 1 with fail;rw[←a_];clear a_ hall;go_wp2_with fail;refine KK.out.mono ?_;rintro e w1 ⟨u1,rfl,hb1⟩;have K0:=k0.below hb1 k0.lt;have K1:=k1.below hb1 k1.lt;have K2:=k2.below hb1 k2.lt;have hB1:=hw0.trans (hb1.mono hw0.size);clear k0 k1 k2 hw0 hb1;have z1:ah (w1.alloc (.cells aF 28)) w1.heap.size 28 aF:=ah.new w1 _ _;have z2:=z1.row aF;have M0:=aH (K0.alloc (.cells aF 28)) aF (g':=w1.heap.size) (by have:=K0.lt;omega);have M1:=aH (K1.alloc (.cells aF 28)) aF (g':=w1.heap.size) (by have:=K1.lt;omega);have M2:=aH (K2.alloc (.cells aF 28)) aF (g':=w1.heap.size) (by have:=K2.lt;omega);have MB:=aA (hB1.alloc hB1.size (.cells aF 28)) aF (g:=w1.heap.size) (by have:=K0.lt;omega);go_upto_region 3 with (first
  | (refine bO rfl 28 _ rfl aF (by kernel_rfl) ?_)
  | (refine aQ rfl 28 _ _ rfl w1.heap.size aF rfl rfl 28 aF z1 gq rfl lF ?_))
 have hgz:w.heap.size+2<w1.heap.size:=K2.lt;obtain⟨W,eW⟩:∃W,W=(w1.alloc (.cells aF 28)).setRow w1.heap.size aF:=⟨_,rfl⟩;rw[←eW];rw[←eW]at z2 M0 M1 M2 MB;clear eW z1 K0 K1 K2;obtain⟨gF,Us⟩:∃gF,gF=w1.heap.size:=⟨_,rfl⟩;rw[←Us]at z2 hgz ⊢;clear Us;obtain⟨c11,Xm⟩:∃c,b[11]? = some c:=⟨_,aY (by omega)⟩;obtain⟨q,hq⟩:∃q,q=xW (b.take 4):=⟨_,rfl⟩;have HQ:=ae hq;have SK:=ae (fun(W':World) (hb':Below W.heap.size W W')=>And.intro ((M0.below hb' M0.lt).ag 0 rfl) (And.intro ((M1.below hb' M1.lt).ag 11 (v:=aj c11) (by rw[jd,dV,Xm];rfl)) (by have h:=hcut W' (M1.below hb' M1.lt) 0 4 (by omega);rw[qd]at h;exact h:BytesIn W' (w.heap.size+2) (.slice (some ⟨w.heap.size+1,0,none⟩) 4 512) (b.take 4))));have Ma:=ae (fun(X:World) (hb':Below W.heap.size W X) (i k:Nat) (hik:i+k≤512)=>(hcut X (M1.below hb' M1.lt) i k hik).mono (jF (oT M2.lt) hb'.size));have len2:∀i,i+2≤512→((b.drop i).take 2).length=2:=fun i hi=>by rw[bD,c_];omega
 have Ft:=ae (show(if iN ((b.drop 12).take 2) then (aW ((b.drop 12).take 2):Int) else 0)=(aC b 12 2:Int)by rw[im _ (.inl (len2 12 (by omega)))];rfl);have Mb:=ae (show(if iN ((b.drop 14).take 2) then (aW ((b.drop 14).take 2):Int) else 0)=(aC b 14 2:Int)by rw[im _ (.inl (len2 14 (by omega)))];rfl);have acM:iN ((b.drop 4).take 8)=decide (aC b 4 8<9223372036854775808):=K8 _ (by rw[bD,c_];omega);have aiJ:=ae acM;clear acM;have oJ:=ae z2;have ft:=ae M0;have iT:=ae M1;have iS:=ae M2;have zf:=ae MB;have hb0:Below W.heap.size W W.drew:=(ax _ W).drew;have htop:(127<c11.toNat)↔9223372036854775808≤aC b 4 8:=by
  unfold aC;refine FM ((b.drop 4).take 8) c11 (by rw[bD,c_];omega) ?_;rw[dU,aB (by omega),kL];exact Xm
 have acN:=ae htop;have acO:q=⟨#[67,72,76,71]⟩↔b.take 4=qE:=by rw[hq];exact M7 (b.take 4)
 have amZ:=ae acO;have tj:q.toList=b.take 4:=by rw[hq];exact kW _
 have HQL:=ae tj;clear z2 M0 M1 M2 MB htop acO hq Xm hcut len2 tj;cases hs:cZ b
 ·have jA:=ae (show bI N b=false by unfold bI;rw[hs];rfl);refine bF (S:=(fun w'=>w'.cell? ⟨w.heap.size,0,none⟩=some (.int .i64 N)∧w'.cell? ⟨w.heap.size+1,11,none⟩=some (aj c11)∧BytesIn w' (w.heap.size+2) (.slice (some ⟨w.heap.size+1,0,none⟩) 4 512) (b.take 4))) (by kernel_rfl) (by(try dsimp only);exact SK.out _ hb0) (fun hHeld=>?_);generalize W.drew=X0 at *;refine tk 0 ?_;refine tk 1 ?_;refine tk 2 ?_;refine tu 3 ?_;refine tu 4 ?_;refine tu 5 ?_;refine tk 6 ?_;refine tk 7 ?_;refine tu 8 ?_;refine tu 9 ?_;refine tu 10 ?_;refine tk 11 ?_;refine tk 12 ?_;refine tu 13 ?_;refine tu 15 ?_;refine tu 14 ?_;refine tu 16 ?_;refine tu 17 ?_;refine tk 18 ?_;refine tk 19 ?_;refine tu 20 ?_;refine tu 21 ?_;refine tu 22 ?_;refine tk 23 ?_;refine aT ?_;have JF:=oJ.out.below hb0 oJ.out.lt;have J2:=iS.out.below hb0 iS.out.lt;have JB:=zf.out.trans (hb0.mono zf.out.size);go_wp2_with (first
   | (refine bt rfl 28 _ rfl gF rfl 28 aF (0,0) _ JF fw rfl gq ?_)
   | (refine aQ rfl 28 _ _ rfl (w.heap.size+2) aF rfl rfl 28 aF J2 gq rfl lF ?_))
  have hbf:=aA JB aF (g:=w.heap.size+2) (by omega);exact bc (bn qb _ _ _ _ _ (by rfl) (jj (J2.row _)) (by rfl)) rfl ⟨_,by rw[jA.out];rfl,by rw[lE jA.out];exact fun _ _ _ _=>df _ _,⟨_,_,_,rfl⟩,hbf⟩
 ·by_cases hm:q.toList=[67,72,76,71]
  ·by_cases h127:(127:Int)<(c11.toNat:Int)
   ·have jA:=ae (show bI N b=false by
     have h1:=acN.out.1 (by omega);have h2:decide (aC b 4 8<9223372036854775808)=false:=cB (by omega);unfold bI;rw[hs,h2];simp only[Bool.false_and,Bool.and_false,Bool.true_and])
    refine bF (S:=(fun w'=>w'.cell? ⟨w.heap.size,0,none⟩=some (.int .i64 N)∧w'.cell? ⟨w.heap.size+1,11,none⟩=some (aj c11)∧BytesIn w' (w.heap.size+2) (.slice (some ⟨w.heap.size+1,0,none⟩) 4 512) (b.take 4))) (by kernel_rfl) (by(try dsimp only);exact SK.out _ hb0) (fun hHeld=>?_);generalize W.drew=X0 at *;refine tk 0 ?_;refine tk 1 ?_;refine tk 2 ?_;refine tk 3 ?_;refine fh (i:=4) (v:=.string q) rfl (by kernel_rfl) (by kernel_rfl) (by kernel_rfl) (fun _ _ _ h=>h) (Or.inl ⟨by rfl,?aiK⟩) (by assumption) ?_
    case aiK =>
     intro w hSw;have hs:=fX w hSw.2.2;rw[←HQ.out]at hs;go_simp
    refine fh (i:=5) (v:=.bool false) rfl (by kernel_rfl) (by kernel_rfl) (by kernel_rfl) (fun _ _ _ h=>h) (Or.inl ⟨by rfl,?Wb⟩) (by assumption) ?_
    case Wb =>
     intro w hSw;try dsimp only at hSw
     go_simp;try simp[hm]
    refine tk 6 ?_;refine tk 7 ?_;refine tk 8 ?_;refine tk 9 ?_;refine tk 10 ?_;refine tk 11 ?_;refine tk 12 ?_;refine tu 13 ?_;refine tu 15 ?_;refine tu 14 ?_;refine tu 16 ?_;refine tu 17 ?_;refine tk 18 ?_;refine tk 19 ?_;refine tu 20 ?_;refine tu 21 ?_;refine tu 22 ?_;refine tk 23 ?_;refine aT ?_;have JF:=oJ.out.below hb0 oJ.out.lt;have J2:=iS.out.below hb0 iS.out.lt;have JB:=zf.out.trans (hb0.mono zf.out.size);go_wp2_with (first
     | (refine bt rfl 28 _ rfl gF rfl 28 aF (0,0) _ JF fw rfl gq ?_)
     | (refine aQ rfl 28 _ _ rfl (w.heap.size+2) aF rfl rfl 28 aF J2 gq rfl lF ?_))
    have hbf:=aA JB aF (g:=w.heap.size+2) (by omega);exact bc (bn qb _ _ _ _ _ (by rfl) (jj (J2.row _)) (by rfl)) rfl ⟨_,by rw[jA.out];rfl,by rw[lE jA.out];exact fun _ _ _ _=>df _ _,⟨_,_,_,rfl⟩,hbf⟩
   ·by_cases hn:N<(aC b 12 2:Int)
    ·have jA:=ae (show bI N b=false by
      have h2:decide ((aC b 12 2:Int)≤N)=false:=cB (by omega);unfold bI;rw[hs,h2];simp only[Bool.false_and,Bool.and_false,Bool.true_and])
     refine bF (S:=(fun w'=>w'.cell? ⟨w.heap.size,0,none⟩=some (.int .i64 N)∧w'.cell? ⟨w.heap.size+1,11,none⟩=some (aj c11)∧BytesIn w' (w.heap.size+2) (.slice (some ⟨w.heap.size+1,0,none⟩) 4 512) (b.take 4))) (by kernel_rfl) (by(try dsimp only);exact SK.out _ hb0) (fun hHeld=>?_);generalize W.drew=X0 at *;refine tk 0 ?_;refine tk 1 ?_;refine tk 2 ?_;refine tk 3 ?_;refine fh (i:=4) (v:=.string q) rfl (by kernel_rfl) (by kernel_rfl) (by kernel_rfl) (fun _ _ _ h=>h) (Or.inl ⟨by rfl,?aiL⟩) (by assumption) ?_
     case aiL =>
      intro w hSw;have hs:=fX w hSw.2.2;rw[←HQ.out]at hs;go_simp
     refine fh (i:=5) (v:=.bool false) rfl (by kernel_rfl) (by kernel_rfl) (by kernel_rfl) (fun _ _ _ h=>h) (Or.inl ⟨by rfl,?aiM⟩) (by assumption) ?_
     case aiM =>
      intro w hSw;try dsimp only at hSw
      go_simp;try simp[hm]
     refine tk 6 ?_;refine tk 7 ?_;refine tk 8 ?_;refine tk 9 ?_;refine tk 10 ?_;refine tk 11 ?_;refine tk 12 ?_;refine tk 13 ?_;refine tk 15 ?_;refine tk 16 ?_;refine rd 14 fun K hK=>?_;go_simp;refine(ja (.slice (some ⟨w.heap.size+1,12,none⟩) 2 500) ((b.drop 12).take 2) X0 (Ma.out X0 hb0 12 2 (by omega))).mono ?_;rintro e Y14 ⟨rfl,Mc⟩;subst Mc;rw[Ft.out];go_wp2_with fail;refine hK.out _ _ (by(try dsimp only);exact SK.out _ hb0) (fun hHeld=>?_);clear hK K;refine tk 17 ?_;refine tk 18 ?_;refine tk 19 ?_;refine tu 20 ?_;refine tu 21 ?_;refine tu 22 ?_;refine tk 23 ?_;refine aT ?_;have JF:=oJ.out.below hb0 oJ.out.lt;have J2:=iS.out.below hb0 iS.out.lt;have JB:=zf.out.trans (hb0.mono zf.out.size);go_wp2_with (first
      | (refine bt rfl 28 _ rfl gF rfl 28 aF (0,0) _ JF fw rfl gq ?_)
      | (refine aQ rfl 28 _ _ rfl (w.heap.size+2) aF rfl rfl 28 aF J2 gq rfl lF ?_))
     have hbf:=aA JB aF (g:=w.heap.size+2) (by omega);exact bc (bn qb _ _ _ _ _ (by rfl) (jj (J2.row _)) (by rfl)) rfl ⟨_,by rw[jA.out];rfl,by rw[lE jA.out];exact fun _ _ _ _=>df _ _,⟨_,_,_,rfl⟩,hbf⟩
    ·by_cases h4:(4096:Int)<(aC b 14 2:Int)
     ·have jA:=ae (show bI N b=false by
       have h2:decide (aC b 14 2≤4096)=false:=cB (by omega);unfold bI;rw[hs,h2];simp only[Bool.false_and,Bool.and_false,Bool.true_and])
      refine bF (S:=(fun w'=>w'.cell? ⟨w.heap.size,0,none⟩=some (.int .i64 N)∧w'.cell? ⟨w.heap.size+1,11,none⟩=some (aj c11)∧BytesIn w' (w.heap.size+2) (.slice (some ⟨w.heap.size+1,0,none⟩) 4 512) (b.take 4))) (by kernel_rfl) (by(try dsimp only);exact SK.out _ hb0) (fun hHeld=>?_);generalize W.drew=X0 at *;refine tk 0 ?_;refine tk 1 ?_;refine tk 2 ?_;refine tk 3 ?_;refine fh (i:=4) (v:=.string q) rfl (by kernel_rfl) (by kernel_rfl) (by kernel_rfl) (fun _ _ _ h=>h) (Or.inl ⟨by rfl,?aiN⟩) (by assumption) ?_
      case aiN =>
       intro w hSw;have hs:=fX w hSw.2.2;rw[←HQ.out]at hs;go_simp
      refine fh (i:=5) (v:=.bool false) rfl (by kernel_rfl) (by kernel_rfl) (by kernel_rfl) (fun _ _ _ h=>h) (Or.inl ⟨by rfl,?aiO⟩) (by assumption) ?_
      case aiO =>
       intro w hSw;try dsimp only at hSw
       go_simp;try simp[hm]
      refine tk 6 ?_;refine tk 7 ?_;refine tk 8 ?_;refine tk 9 ?_;refine tk 10 ?_;refine tk 11 ?_;refine tk 12 ?_;refine tk 13 ?_;refine tk 15 ?_;refine tk 16 ?_;refine rd 14 fun K hK=>?_;go_simp;refine(ja (.slice (some ⟨w.heap.size+1,12,none⟩) 2 500) ((b.drop 12).take 2) X0 (Ma.out X0 hb0 12 2 (by omega))).mono ?_;rintro e Y14 ⟨rfl,Mc⟩;subst Mc;rw[Ft.out];go_wp2_with fail;refine hK.out _ _ (by(try dsimp only);exact SK.out _ hb0) (fun hHeld=>?_);clear hK K;refine fh (i:=17) (v:=.bool false) rfl (by kernel_rfl) (by kernel_rfl) (by kernel_rfl) (fun _ _ _ h=>h) (Or.inl ⟨by rfl,?aeD⟩) (by assumption) ?_
      case aeD =>
       intro w hSw;try dsimp only at hSw
       go_simp;first | done | (with_reducible rfl) | (simp;omega)
      refine tk 18 ?_;refine tk 19 ?_;refine tk 20 ?_;refine rd 21 fun K hK=>?_;go_simp;refine(ja (.slice (some ⟨w.heap.size+1,14,none⟩) 2 498) ((b.drop 14).take 2) X0 (Ma.out X0 hb0 14 2 (by omega))).mono ?_;rintro e Y21 ⟨rfl,Xn⟩;subst Xn;rw[Mb.out];go_wp2_with fail;refine hK.out _ _ (by(try dsimp only);exact SK.out _ hb0) (fun hHeld=>?_);clear hK K;refine fh (i:=22) (v:=.bool true) rfl (by kernel_rfl) (by kernel_rfl) (by kernel_rfl) (fun _ _ _ h=>h) (Or.inl ⟨by rfl,?aeE⟩) (by assumption) ?_
      case aeE =>
       intro w hSw;try dsimp only at hSw
       go_simp;first | done | (with_reducible rfl) | (simp;omega)
      refine tk 23 ?_;refine aT ?_;have JF:=oJ.out.below hb0 oJ.out.lt;have J2:=iS.out.below hb0 iS.out.lt;have JB:=zf.out.trans (hb0.mono zf.out.size);go_wp2_with (first
       | (refine bt rfl 28 _ rfl gF rfl 28 aF (0,0) _ JF fw rfl gq ?_)
       | (refine aQ rfl 28 _ _ rfl (w.heap.size+2) aF rfl rfl 28 aF J2 gq rfl lF ?_))
      have hbf:=aA JB aF (g:=w.heap.size+2) (by omega);exact bc (bn qb _ _ _ _ _ (by rfl) (jj (J2.row _)) (by rfl)) rfl ⟨_,by rw[jA.out];rfl,by rw[lE jA.out];exact fun _ _ _ _=>df _ _,⟨_,_,_,rfl⟩,hbf⟩
     ·skip
      refine bF (S:=(fun w'=>w'.cell? ⟨w.heap.size,0,none⟩=some (.int .i64 N)∧w'.cell? ⟨w.heap.size+1,11,none⟩=some (aj c11)∧BytesIn w' (w.heap.size+2) (.slice (some ⟨w.heap.size+1,0,none⟩) 4 512) (b.take 4))) (by kernel_rfl) (by(try dsimp only);exact SK.out _ hb0) (fun hHeld=>?_);generalize W.drew=X0 at *;refine tk 0 ?_;refine tk 1 ?_;refine tk 2 ?_;refine tk 3 ?_;refine fh (i:=4) (v:=.string q) rfl (by kernel_rfl) (by kernel_rfl) (by kernel_rfl) (fun _ _ _ h=>h) (Or.inl ⟨by rfl,?aiP⟩) (by assumption) ?_
      case aiP =>
       intro w hSw;have hs:=fX w hSw.2.2;rw[←HQ.out]at hs;go_simp
      refine fh (i:=5) (v:=.bool false) rfl (by kernel_rfl) (by kernel_rfl) (by kernel_rfl) (fun _ _ _ h=>h) (Or.inl ⟨by rfl,?aiQ⟩) (by assumption) ?_
      case aiQ =>
       intro w hSw;try dsimp only at hSw
       go_simp;try simp[hm]
      refine tk 6 ?_;refine tk 7 ?_;refine tk 8 ?_;refine tk 9 ?_;refine tk 10 ?_;refine tk 11 ?_;refine tk 12 ?_;refine tk 13 ?_;refine tk 15 ?_;refine tk 16 ?_;refine rd 14 fun K hK=>?_;go_simp;refine(ja (.slice (some ⟨w.heap.size+1,12,none⟩) 2 500) ((b.drop 12).take 2) X0 (Ma.out X0 hb0 12 2 (by omega))).mono ?_;rintro e Y14 ⟨rfl,Mc⟩;subst Mc;rw[Ft.out];go_wp2_with fail;refine hK.out _ _ (by(try dsimp only);exact SK.out _ hb0) (fun hHeld=>?_);clear hK K;refine fh (i:=17) (v:=.bool false) rfl (by kernel_rfl) (by kernel_rfl) (by kernel_rfl) (fun _ _ _ h=>h) (Or.inl ⟨by rfl,?acP⟩) (by assumption) ?_
      case acP =>
       intro w hSw;try dsimp only at hSw
       go_simp;first | done | (with_reducible rfl) | (simp;omega)
      refine tk 18 ?_;refine tk 19 ?_;refine tk 20 ?_;refine rd 21 fun K hK=>?_;go_simp;refine(ja (.slice (some ⟨w.heap.size+1,14,none⟩) 2 498) ((b.drop 14).take 2) X0 (Ma.out X0 hb0 14 2 (by omega))).mono ?_;rintro e Y21 ⟨rfl,Xn⟩;subst Xn;rw[Mb.out];go_wp2_with fail;refine hK.out _ _ (by(try dsimp only);exact SK.out _ hb0) (fun hHeld=>?_);clear hK K;refine fh (i:=22) (v:=.bool false) rfl (by kernel_rfl) (by kernel_rfl) (by kernel_rfl) (fun _ _ _ h=>h) (Or.inl ⟨by rfl,?acQ⟩) (by assumption) ?_
      case acQ =>
       intro w hSw;try dsimp only at hSw
       go_simp;first | done | (with_reducible rfl) | (simp;omega)
      refine tk 23 ?_;refine aT ?_;have JF:=oJ.out.below hb0 oJ.out.lt;have J0:=ft.out.below hb0 ft.out.lt;have J1:=iT.out.below hb0 iT.out.lt;have J2:=iS.out.below hb0 iS.out.lt;have JB:=zf.out.trans (hb0.mono zf.out.size);have QK:aC b 4 8<9223372036854775808:=by
       rcases bZ (aC b 4 8) 9223372036854775808 with h | h
       ·exact h
       ·exact absurd (acN.out.2 h) (by omega)
      have aeF:=ae (show(if iN ((b.drop 4).take 8) then (aW ((b.drop 4).take 8):Int) else 0)=(aC b 4 8:Int)by rw[aiJ.out,cT QK];rfl);have aiR:=ae QK;clear QK hb0;go_wp2_with fail;refine(ja (.slice (some ⟨w.heap.size+1,4,none⟩) 8 508) ((b.drop 4).take 8) X0 (tJ hb J1 4 8 (by omega))).mono ?_;rintro e Y5 ⟨rfl,eY5⟩;subst eY5;rw[aeF.out];have c0:=JF.ag 0 rfl;have f0:=JF.frozen 0;have YU:=JF.br 0 (.int .i64 (aC b 4 8:Int));have J01:=J0.far (p:=⟨gF,0,none⟩) (by show w.heap.size≠gF;omega) (.int .i64 (aC b 4 8:Int));have YV:=J1.far (p:=⟨gF,0,none⟩) (by show w.heap.size+1≠gF;omega) (.int .i64 (aC b 4 8:Int));have J21:=J2.far (p:=⟨gF,0,none⟩) (by show w.heap.size+2≠gF;omega) (.int .i64 (aC b 4 8:Int));have YW:=JB.setCell (p:=⟨gF,0,none⟩) (by show w.heap.size≤gF;omega) (.int .i64 (aC b 4 8:Int));go_upto_region 6 with fail;clear c0 f0 JF J0 J1 J2 JB SK;generalize X0.setCell _ _=X1 at *;obtain⟨i0,hi0,hz0,hz1,hz2⟩:=iH jg;go_wp2_with fail;refine(ja (.slice (some ⟨w.heap.size+1,14,none⟩) 2 498) ((b.drop 14).take 2) X1 (tJ hb YV 14 2 (by omega))).mono ?_;rintro e Y6 ⟨rfl,eY6⟩;subst eY6;rw[Mb.out];obtain⟨nb,mQ⟩:∃nb,nb=aC b 14 2:=⟨_,rfl⟩;rw[←mQ]at h4 ⊢;have A3:=ae mQ;clear mQ;have hnb:nb≤4096:=by omega
      have A1:=YU.alloc (.cells (madeCells #[.int .u8 0] nb) 5);have A0:=J01.alloc (.cells (madeCells #[.int .u8 0] nb) 5);have A11:=YV.alloc (.cells (madeCells #[.int .u8 0] nb) 5);have A21:=J21.alloc (.cells (madeCells #[.int .u8 0] nb) 5);have AB:=YW.alloc YW.size (.cells (madeCells #[.int .u8 0] nb) 5);have AZ:ah (X1.alloc (.cells (madeCells #[.int .u8 0] nb) 5)) X1.heap.size 5 (madeCells #[.int .u8 0] nb):=ah.new X1 _ _;have hX1:=YU.lt;have c3:=A1.ag 3 rfl;have f3:=A1.frozen 3;have SL:Value:=.slice (some ⟨X1.heap.size,0,none⟩) nb nb;clear SL;have Ut:=(YU.br 3 (.slice (some ⟨X1.heap.size,0,none⟩) nb nb)).alloc (.cells (madeCells #[.int .u8 0] nb) 5);have J02:=(J01.far (p:=⟨gF,3,none⟩) (by show w.heap.size≠gF;omega) (.slice (some ⟨X1.heap.size,0,none⟩) nb nb)).alloc (.cells (madeCells #[.int .u8 0] nb) 5);have YX:=(YV.far (p:=⟨gF,3,none⟩) (by show w.heap.size+1≠gF;omega) (.slice (some ⟨X1.heap.size,0,none⟩) nb nb)).alloc (.cells (madeCells #[.int .u8 0] nb) 5);have J22:=(J21.far (p:=⟨gF,3,none⟩) (by show w.heap.size+2≠gF;omega) (.slice (some ⟨X1.heap.size,0,none⟩) nb nb)).alloc (.cells (madeCells #[.int .u8 0] nb) 5);have Xo:=YW.setCell (p:=⟨gF,3,none⟩) (by show w.heap.size≤gF;omega) (.slice (some ⟨X1.heap.size,0,none⟩) nb nb);have JB2:=Xo.alloc Xo.size (.cells (madeCells #[.int .u8 0] nb) 5);have YY:=ah.new (X1.setCell ⟨gF,3,none⟩ (.slice (some ⟨X1.heap.size,0,none⟩) nb nb)) 5 (madeCells #[.int .u8 0] nb);have hsz1:(X1.setCell ⟨gF,3,none⟩ (.slice (some ⟨X1.heap.size,0,none⟩) nb nb)).heap.size=X1.heap.size:=by simp
      rw[hsz1]at YY;clear Xo hsz1;go_upto_region 7 with (refine wpList_make_row _ rfl _ _ _ rfl 5 i0 _ eU hi0 hz0 hz1 rfl .i64 .i64 nb rfl rfl (by rw[hz2];omega) (by omega) ?_)
      clear c3 f3 A1 A0 A11 A21 AB AZ YU J01 YV J21 YW hi0 hz0 hz1 hz2;generalize X1.heap.size=gz at *;generalize (X1.setCell _ _).alloc _=X2 at *;go_wp2_with fail;refine(ja (.slice (some ⟨w.heap.size+1,12,none⟩) 2 500) ((b.drop 12).take 2) X2 (tJ hb YX 12 2 (by omega))).mono ?_;rintro e Y7 ⟨rfl,eY7⟩;subst eY7;rw[Ft.out];obtain⟨n,en⟩:∃n,n=aC b 12 2:=⟨_,rfl⟩;rw[←en]at hn ⊢;have abk:n≤64:=by omega
      have pS:=ae en;have fg:=ae hs;have HMM:=ae hm;have HI0:=ae (show HdI w N b gF gz nb X2 0 X2 from⟨J02,YX,J22,YY,JB2,⟨_,Ut,km _ _ _ _⟩,fun j hj=>absurd hj (p' _),ai _,⟨Ut.lt,YY.lt,J22.lt,by omega,ah.xl Ut J02 (by decide),ah.xl Ut YX (by decide),by omega,by omega⟩⟩);obtain⟨i1,hi1,hz1,hz2,hz3⟩:=iH Kk;have aiS:=ae (And.intro hi1 (And.intro hz1 (And.intro hz2 hz3)));clear en hs hm J02 YX J22 YY JB2 Ut hi1 hz1 hz2 hz3;go_wp2_with fail;go_loopw [10] (fun i wr=>∃k:Nat,k≤n∧i=.int .i64 (k:Int)∧Hid (HdI w N b gF gz nb X2 k wr)) (fun i _=>n-(intOf i).toNat)
      case atStart=>exact⟨0,fi _,rfl,HI0⟩
      case round =>
       obtain⟨k,hk,rfl,HI⟩:=hrel;clear HI0;obtain⟨wo,rfl⟩:∃v,v=wr:=⟨_,rfl⟩;by_cases hlt:k<n
       ·have Cv:(k:Int)<(n:Int):=by omega
        obtain⟨vo,kF,hO⟩:=HI.out.vo;obtain⟨ao,co,rfl⟩:=slice_form hO;have KF:=ae kF;have HO:=ae hO;clear kF hO;obtain⟨p,ep⟩:∃p,p=20+6*k:=⟨_,rfl⟩;have YZ:IntKind.i64.wrap (6*(k:Int))=6*k:=by rw[cz];omega
        have hwp:IntKind.i64.wrap (20+6*(k:Int))=(p:Int):=by rw[cz];omega
        obtain⟨q,eq⟩:∃q,q=p+2:=⟨_,rfl⟩;have hwq:IntKind.i64.wrap (22+6*(k:Int))=(q:Int):=by rw[cz];omega
        have hp0:(0:Int)≤(p:Int):=by omega
        have hpq:(p:Int)≤(q:Int):=by omega
        have Y0:(q:Int)≤512:=by omega
        have hp5:¬512=p:=by omega
        have hpn:p+2≤512:=by omega
        have pd:q-p=2:=by omega
        have Ol:=ae ep;clear ep eq;go_upto_region 11 with fail;have Fo:=HI.out.lo.1;refine jb (fun X=>Out (fun i=>i=gF∨X2.heap.size≤i) wo X) (fun X=>X.cell? ⟨gF,1,none⟩=some (.slice ao k co)) 13 (aN (ax _ _).drew) (KF.out.drew.ag 1 rfl) fun hHeld hJ=>?_;refine jk false 0 ?_;refine jk false 2 ?_;refine jk false 5 ?_;refine jk true 1 ?_ (hy:=by intro X hX pM;have hc:=pM rfl;go_simp;try with_reducible rfl);refine jk false 3 ?_;refine jk false 6 ?_;refine jk false 4 ?_;refine jk false 7 ?_;refine jk false 8 ?_;clear YZ hwp hwq;obtain⟨wd,qX⟩:∃X,X=wo.drew:=⟨_,rfl⟩;rw[←qX]at hHeld hJ ⊢;have hbd:Below wo.heap.size wo wd:=by rw[qX];exact(ax _ _).drew
        clear qX;obtain⟨v,ev⟩:∃v,v=aC b (20+6*k) 2:=⟨_,rfl⟩;have HV:=ae ev;have tg:(if iN ((b.drop p).take 2) then (aW ((b.drop p).take 2):Int) else 0)=(v:Int):=by
         rw[im _ (.inl (by rw[bD,c_];omega)),HV.out,Ol.out];rfl
        have HNM:=ae tg;clear ev tg;refine jr 9 fun K hK=>?_;go_simp;refine(ja (.slice (some ⟨w.heap.size+1,p,none⟩) 2 (512-p)) ((b.drop p).take 2) wd (tJ hb (HI.out.k1.below hbd HI.out.k1.lt) p 2 hpn)).mono ?_;rintro e wn ⟨rfl,rfl⟩;rw[HNM.out];dsimp only;refine hK.out _ _ ⟨hHeld,fun _=>hJ⟩ ?_;clear hK K;refine jr 10 fun K hK=>?_;go_simp;obtain⟨Z,eZ⟩:∃Z,Z=wd.alloc (.cells #[.int .i64 (v:Int)] 3):=⟨_,rfl⟩;obtain⟨gn,egn⟩:∃g,g=wd.heap.size:=⟨_,rfl⟩;have Bm:Below wo.heap.size wo Z:=by rw[eZ];exact hbd.trans (((ax _ wd).alloc (ai _) _).mono hbd.size)
        have KN:=ae (show ah Z gn 3 #[.int .i64 (v:Int)]by rw[eZ,egn];exact ah.new _ _ _);rw[←eZ,←egn];clear eZ egn;have Om:=ae Bm;have Uu:Below X2.heap.size wo Z:=Bm.mono HI.out.size;have hSz:Out (fun i=>i=gF∨X2.heap.size≤i) wo Z:=aN Bm;have hJz:Z.cell? ⟨gF,1,none⟩=some (.slice ao k co):=(KF.out.below Bm KF.out.lt).ag 1 rfl;refine hK.out _ _ ⟨hSz,fun _=>hJz⟩ ?_;clear hK K Bm;have hHeld:=hSz;have hJ:=hJz;obtain⟨hi1,hz1,hz2,hz3⟩:=aiS.out;have HOZ:=ae (aq (F:=fun _=>False) (aN Om.out) HO.out (fun _ _ h=>h));refine jr 11 fun K hK=>?_;rw[aB (by rfl)];refine oe _ (.tmp 58) (.tmp 67) 24 rfl X2.heap.size 3 i1 _ 1 8 p_ hi1 hz1 hz2 hz3 rfl (by omega) (.slice ao k co) k _ (by rfl) HOZ.out ⟨gn,0,none⟩ 1 1 [.int .i64 (v:Int)] (by rfl) rfl (ia (cs:=#[.int .i64 (v:Int)]) (t:=3) (fr:=(0,0)) KN.out) (by simp[Value.oneCell']) (by omega) (by unfold maxLen;omega) (by omega) (by have:=HI.out.size;have:=Om.out.size;omega) Z.heap.size rfl ?_;intro gv cv w4 hO4 hg4 _ F1;have hB4:Below X2.heap.size wo w4:=Uu.grown hg4 (by have:=Om.out.size;have:=HI.out.size;omega) (fun r hr=>(na HO.out r hr).1);have Y8:ah w4 gF 28 #[.int .i64 (aC b 4 8:Int),.slice ao k co,.slice none 0 0,.slice (some ⟨gz,0,none⟩) nb nb]:=(hB4.block gF Fo).trans KF.out;have c4:=Y8.ag 1 rfl;have f4:=Y8.frozen 1;have hS4:Out (fun i=>i=gF∨X2.heap.size≤i) wo w4:=⟨hB4.os,hB4.tape,hB4.output,hB4.size,fun i hi hn=>hB4.block i (by omega)⟩;refine hK.out _ _ ⟨hS4,fun _=>c4⟩ ?_;clear hK K hi1 hz1 hz2 hz3;have hHeld:=hS4;have hJ:=c4;refine jk false 12 ?_;have iz:=ae hB4;have yO:=ae hO4;refine jr 13 fun K hK=>?_;go_simp;obtain⟨wk,Y_⟩:∃W,W=w4.setCell ⟨gF,1,none⟩ (.slice (some ⟨gv,0,none⟩) (k+1) cv):=⟨_,rfl⟩;have jh:Out (fun i=>i=gF) w4 wk:=by rw[Y_];exact bk rfl
        have kF5:ah wk gF 28 #[.int .i64 (aC b 4 8:Int),.slice (some ⟨gv,0,none⟩) (k+1) cv,.slice none 0 0,.slice (some ⟨gz,0,none⟩) nb nb]:=by rw[Y_];exact ah.br (w:=w4) (t:=28) (cs:=#[.int .i64 (aC b 4 8:Int),.slice ao k co,.slice none 0 0,.slice (some ⟨gz,0,none⟩) nb nb]) Y8 1 _
        rw[←Y_];clear Y_;obtain⟨l1,l2,l3,l4,l5,l6,l7,l8⟩:=HI.out.lo;have hgv:X2.heap.size≤gv:=(na yO.out gv rfl).1;have pL:=aq jh yO.out (fun i hi e=>lO (kK l1 (na yO.out i hi).1) e);have ky:Out (fun i=>i=gF∨X2.heap.size≤i) wo wk:=Out.trans (F:=fun i=>i=gF∨X2.heap.size≤i) ⟨iz.out.os,iz.out.tape,iz.out.output,iz.out.size,fun i hi hn=>iz.out.block i (by omega)⟩ jh (fun i _ h=>.inl h);have ac0:=ae (show YT w N b gF gz nb X2 k gv cv wk from
         ⟨ky.blk HI.out.k0 (by omega),ky.blk HI.out.k1 (by omega),ky.blk HI.out.k2 (by omega),ky.blk HI.out.kz (fun h=>by rcases h with h | h;exact ah.xl HI.out.kz KF.out (by decide) h;omega),HI.out.below.trans (ky.below HI.out.below.size (fun i hi h=>by omega)),kF5,by
          rw[show lQ b (k+1)=lQ b k++[.int .i64 (v:Int)]by unfold lQ;rw[nc,cK,HV.out];rfl];exact pL,by have:=ky.size;have:=HI.out.size;omega,HI.out.lo⟩)
        refine hK.out _ _ ⟨ky,fun h=>absurd h (by decide)⟩ ?_;clear hK K;refine qY ?_;have HI1:=ae (ac0.out.drew);clear ac0;obtain⟨zg,Xp⟩:∃W,W=wk.drew:=⟨_,rfl⟩;rw[←Xp]at HI1;have Cl:=ae Xp;clear Xp;have Hd:=ae (show gv<zg.heap.size from gC HI1.out.row rfl);have cv4:zg.cell? ⟨gv,k,none⟩=some (.int .i64 (v:Int)):=by
         have h:=HI1.out.row.cells rfl k (.int .i64 (v:Int)) (by unfold lQ;rw[dV,wH (by omega),HV.out];rfl);rwa [eP,cW]at h
        have EU:=ae cv4;have HHJ:=ae hHeld;clear hSz hJz hS4 c4 f4 Y8 jh kF5 pL ky hO4 hg4 F1 cv4 l1 l2 l3 l4 l5 l6 l7 l8 Uu hbd;have hkk:(k:Int)<(k:Int)+1:=by omega
        have okn:jz N b k=true→HdI w N b gF gz nb X2 (k+1) zg:=fun h=>⟨HI1.out.k0,HI1.out.k1,HI1.out.k2,HI1.out.kz,HI1.out.below,⟨_,HI1.out.kf,HI1.out.row⟩,fun j hj=>by
         rcases bZ j k with h2 | h2
         ·exact HI.out.ok j h2
         ·obtain rfl:j=k:=by omega
          exact h,HI1.out.size,HI1.out.lo⟩
        have nog:jz N b k=false→bI N b=false:=fun h=>by
         have h2:(List.range (aC b 12 2)).all (jz N b)=false:=by
          rw[wL];exact⟨k,ng.2 (by rw[←pS.out];exact hlt),by rw[h];simp⟩
         unfold bI;rw[h2];simp
        have oI:=ae okn;have HNG:=ae nog;clear okn nog;by_cases hvN:N≤(v:Int)
        case pos =>
         have dN:decide (N≤(v:Int))=true:=cT hvN;have jA:=ae (HNG.out (by unfold jz;rw[←HV.out,cB (show ¬ ((v:Int)<N)by omega),oO]));go_upto_region 12 with fail;refine jb (fun X=>Below zg.heap.size zg X) (fun _=>True) 100 (by rw[←Cl.out];exact ax _ _) trivial fun hHeld hJ=>?_;rw[←Cl.out]at hHeld ⊢;refine jk false 0 ?_;refine jk false 2 ?_;refine jk false 5 ?_;refine jk false 1 ?_ (hy:=by intro X hX _;have hc:=(HI1.out.kf.below hX HI1.out.kf.lt).ag 1 rfl;go_simp;try with_reducible rfl);refine jk false 6 ?_ (hy:=by intro X hX _;have hc:=(HI1.out.k0.below hX HI1.out.k0.lt).ag 0 rfl;go_simp;try with_reducible rfl);refine jk false 3 ?_;refine jk false 4 ?_ (hy:=by intro X hX _;have hc:=(hX.cell (p:=⟨gv,k,none⟩) Hd.out).trans EU.out;go_simp;try with_reducible rfl);refine jk false 7 ?_;refine jk false 8 ?_;refine ju 9 ?_;refine ju 10 ?_;refine ju 11 ?_;refine ju 12 ?_;refine ju 14 ?_;refine ju 17 ?_;refine ju 19 ?_;refine ju 13 ?_;refine ju 18 ?_;refine ju 20 ?_;refine ju 15 ?_;refine ju 21 ?_;refine ju 16 ?_;refine ju 22 ?_;refine ju 23 ?_;refine ju 24 ?_;refine jk false 25 ?_;refine qY ?_;go_wp2_with (first
          | (refine bO rfl 28 _ rfl aF (by kernel_rfl) ?_)
          | (refine aQ rfl 28 _ _ rfl (w.heap.size+2) aF rfl rfl 28 aF HI1.out.k2 gq rfl lF ?_))
         have hbf:=aA HI1.out.below aF (g:=w.heap.size+2) (by have:=HI1.out.lo;omega);exact bc (bn qb _ _ _ _ _ (by rfl) (jj (HI1.out.k2.row _)) (by rfl)) rfl ⟨_,by rw[jA.out];rfl,by rw[lE jA.out];exact fun _ _ _ _=>df _ _,⟨_,_,_,rfl⟩,hbf⟩
        have dN:decide (N≤(v:Int))=false:=cB hvN;by_cases hk0:k=0
        ·have hg:jz N b k=true:=by
          unfold jz nT;rw[aB hk0,←HV.out,cT (show(-1:Int)<(v:Int)by omega),cT (show(v:Int)<N by omega)];rfl
         have uJ:=ae (oI.out hg);have dk:decide ((0:Int)<(k:Int))=false:=cB (by omega);have dk2:decide (0<k)=false:=cB (by omega);clear hg hk0;go_upto_region 12 with fail;refine jb (fun X=>Below zg.heap.size zg X) (fun _=>True) 100 (by rw[←Cl.out];exact ax _ _) trivial fun hHeld hJ=>?_;rw[←Cl.out]at hHeld ⊢;refine jk false 0 ?_;refine jk false 2 ?_;refine jk false 5 ?_;refine jk false 1 ?_ (hy:=by intro X hX _;have hc:=(HI1.out.kf.below hX HI1.out.kf.lt).ag 1 rfl;go_simp;try with_reducible rfl);refine jk false 6 ?_ (hy:=by intro X hX _;have hc:=(HI1.out.k0.below hX HI1.out.k0.lt).ag 0 rfl;go_simp;try with_reducible rfl);refine jk false 3 ?_;refine jk false 4 ?_ (hy:=by intro X hX _;have hc:=(hX.cell (p:=⟨gv,k,none⟩) Hd.out).trans EU.out;go_simp;try with_reducible rfl);refine jk false 7 ?_;refine jk false 8 ?_;refine jk false 9 ?_;refine jk false 10 ?_;refine jk false 11 ?_;refine ju 12 ?_;refine ju 14 ?_;refine ju 17 ?_;refine ju 19 ?_;refine ju 13 ?_;refine ju 18 ?_;refine ju 20 ?_;refine ju 15 ?_;refine ju 21 ?_;refine ju 16 ?_;refine ju 22 ?_;refine ju 23 ?_;refine jk false 24 ?_;refine jk false 25 ?_;refine qY ?_;go_wp2_with fail;go_roundw
         case rel=>exact⟨k+1,by omega,by simp,uJ⟩
         case measure=>simp[intOf];omega
        ·have dk:decide ((0:Int)<(k:Int))=true:=cT (by omega);have dk2:decide (0<k)=true:=cT (by omega);obtain⟨u,eu⟩:∃u,u=aC b (20+6*(k-1)) 2:=⟨_,rfl⟩;have HU:=ae eu;have cu4:zg.cell? ⟨gv,k-1,none⟩=some (.int .i64 (u:Int)):=by
          have h:=HI1.out.row.cells rfl (k-1) (.int .i64 (u:Int)) (by unfold lQ;rw[dV,wH (by omega),HU.out];rfl);rwa [eP,cW]at h
         have HCU:=ae cu4;have am0:IntKind.i64.wrap ((k:Int)-1)=((k-1:Nat):Int):=by rw[cz];omega
         have am1:((k-1:Nat):Int)<(k:Int)+1:=by omega
         have hgo:jz N b k=decide (u<v):=by
          unfold jz nT;rw[aG hk0,←HV.out,←HU.out,cT (show(v:Int)<N by omega),Bool.and_true];simp
         have yW:=ae hgo;clear eu cu4 hgo hk0;by_cases huv:(v:Int)≤(u:Int)
         ·have jA:=ae (HNG.out (by rw[yW.out];exact cB (by omega)));have du:decide ((v:Int)≤(u:Int))=true:=cT huv;have du2:decide (v≤u)=true:=cT (by omega);go_upto_region 12 with fail;refine jb (fun X=>Below zg.heap.size zg X) (fun _=>True) 100 (by rw[←Cl.out];exact ax _ _) trivial fun hHeld hJ=>?_;rw[←Cl.out]at hHeld ⊢;refine jk false 0 ?_;refine jk false 2 ?_;refine jk false 5 ?_;refine jk false 1 ?_ (hy:=by intro X hX _;have hc:=(HI1.out.kf.below hX HI1.out.kf.lt).ag 1 rfl;go_simp;try with_reducible rfl);refine jk false 6 ?_ (hy:=by intro X hX _;have hc:=(HI1.out.k0.below hX HI1.out.k0.lt).ag 0 rfl;go_simp;try with_reducible rfl);refine jk false 3 ?_;refine jk false 4 ?_ (hy:=by intro X hX _;have hc:=(hX.cell (p:=⟨gv,k,none⟩) Hd.out).trans EU.out;go_simp;try with_reducible rfl);refine jk false 7 ?_;refine jk false 8 ?_;refine jk false 9 ?_;refine jk false 10 ?_;refine jk false 11 ?_;refine jk false 12 ?_;refine jk false 14 ?_;refine jk false 17 ?_;refine jk false 19 ?_;refine jk false 13 ?_ (hy:=by intro X hX _;have hc:=(HI1.out.kf.below hX HI1.out.kf.lt).ag 1 rfl;go_simp;try with_reducible rfl);refine jk false 18 ?_ (hy:=by intro X hX _;have hc:=(HI1.out.kf.below hX HI1.out.kf.lt).ag 1 rfl;go_simp;try with_reducible rfl);refine jk false 20 ?_;refine jk false 15 ?_;refine jk false 21 ?_;refine jk false 16 ?_ (hy:=by intro X hX _;have hc:=(hX.cell (p:=⟨gv,k,none⟩) Hd.out).trans EU.out;go_simp;try with_reducible rfl);refine jk false 22 ?_ (hy:=by intro X hX _;have hc:=(hX.cell (p:=⟨gv,k-1,none⟩) Hd.out).trans HCU.out;go_simp;try with_reducible rfl);refine jk false 23 ?_;refine jk false 24 ?_;refine jk false 25 ?_;refine qY ?_;go_wp2_with (first
           | (refine bO rfl 28 _ rfl aF (by kernel_rfl) ?_)
           | (refine aQ rfl 28 _ _ rfl (w.heap.size+2) aF rfl rfl 28 aF HI1.out.k2 gq rfl lF ?_))
          have hbf:=aA HI1.out.below aF (g:=w.heap.size+2) (by have:=HI1.out.lo;omega);exact bc (bn qb _ _ _ _ _ (by rfl) (jj (HI1.out.k2.row _)) (by rfl)) rfl ⟨_,by rw[jA.out];rfl,by rw[lE jA.out];exact fun _ _ _ _=>df _ _,⟨_,_,_,rfl⟩,hbf⟩
         ·have uJ:=ae (oI.out (by rw[yW.out];exact cT (by omega)));have du:decide ((v:Int)≤(u:Int))=false:=cB huv;have du2:decide (v≤u)=false:=cB (by omega);go_upto_region 12 with fail;refine jb (fun X=>Below zg.heap.size zg X) (fun _=>True) 100 (by rw[←Cl.out];exact ax _ _) trivial fun hHeld hJ=>?_;rw[←Cl.out]at hHeld ⊢;refine jk false 0 ?_;refine jk false 2 ?_;refine jk false 5 ?_;refine jk false 1 ?_ (hy:=by intro X hX _;have hc:=(HI1.out.kf.below hX HI1.out.kf.lt).ag 1 rfl;go_simp;try with_reducible rfl);refine jk false 6 ?_ (hy:=by intro X hX _;have hc:=(HI1.out.k0.below hX HI1.out.k0.lt).ag 0 rfl;go_simp;try with_reducible rfl);refine jk false 3 ?_;refine jk false 4 ?_ (hy:=by intro X hX _;have hc:=(hX.cell (p:=⟨gv,k,none⟩) Hd.out).trans EU.out;go_simp;try with_reducible rfl);refine jk false 7 ?_;refine jk false 8 ?_;refine jk false 9 ?_;refine jk false 10 ?_;refine jk false 11 ?_;refine jk false 12 ?_;refine jk false 14 ?_;refine jk false 17 ?_;refine jk false 19 ?_;refine jk false 13 ?_ (hy:=by intro X hX _;have hc:=(HI1.out.kf.below hX HI1.out.kf.lt).ag 1 rfl;go_simp;try with_reducible rfl);refine jk false 18 ?_ (hy:=by intro X hX _;have hc:=(HI1.out.kf.below hX HI1.out.kf.lt).ag 1 rfl;go_simp;try with_reducible rfl);refine jk false 20 ?_;refine jk false 15 ?_;refine jk false 21 ?_;refine jk false 16 ?_ (hy:=by intro X hX _;have hc:=(hX.cell (p:=⟨gv,k,none⟩) Hd.out).trans EU.out;go_simp;try with_reducible rfl);refine jk false 22 ?_ (hy:=by intro X hX _;have hc:=(hX.cell (p:=⟨gv,k-1,none⟩) Hd.out).trans HCU.out;go_simp;try with_reducible rfl);refine jk false 23 ?_;refine jk false 24 ?_;refine jk false 25 ?_;refine qY ?_;go_wp2_with fail;go_roundw
          case rel=>exact⟨k+1,by omega,by simp,uJ⟩
          case measure=>simp[intOf];omega
       ·obtain rfl:k=n:=by omega
        have YZ:IntKind.i64.wrap (6*(k:Int))=6*k:=by rw[cz];omega
        obtain⟨p0,ep0⟩:∃p,p=20+6*k:=⟨_,rfl⟩;have hwp:IntKind.i64.wrap (20+6*(k:Int))=(p0:Int):=by rw[cz];omega
        have Ol:=ae ep0;have hp5:p0≤508:=by omega
        obtain⟨vo,kF,hO⟩:=HI.out.vo;obtain⟨ao,co,rfl⟩:=slice_form hO;have KF:=ae kF;have HO:=ae hO;clear kF hO ep0;go_wp2_with fail;go_loopw [11] (fun i wr=>∃p:Nat,p0≤p∧p≤508∧i=.int .i64 (p:Int)∧(∀r,p0≤r→r<p→b[r]? = some 0)∧wo=wr) (fun i _=>508-(intOf i).toNat)
        case atStart=>exact⟨p0,by omega,by omega,rfl,fun r h1 h2=>by omega,rfl⟩
        case round =>
         obtain⟨p,hp1,hp2,rfl,hz,rfl⟩:=hrel;have hzb:∀c,(∃r,p0≤r∧r<508∧b[r]? = some c∧c≠0)→bI N b=false:=by
          rintro c ⟨r,h1,h2,h3,h4'⟩;have hany:((b.take 508).drop (20+6*aC b 12 2)).any (· != 0)=true:=by
           rw[←pS.out,←Ol.out,Dx];refine⟨c,je (i:=r-p0) ?_,by simpa using h4'⟩;rw[kL,dU,aB (by omega),show p0+(r-p0)=r by omega];exact h3
          unfold bI;rw[hany];simp
         have HZB:=ae hzb;clear hzb;obtain⟨l1,l2,l3,l4,l5,l6,l7,l8⟩:=HI.out.lo;by_cases hlt:p<508
         ·have Cv:(p:Int)<508:=by omega
          obtain⟨c,hc⟩:∃c,b[p]? = some c:=⟨_,aY (by omega)⟩;have cb:=HI.out.k1.ag p (v:=aj c) (by rw[jd,dV,hc];rfl);have hp5:(p:Int)<512:=by omega
          have y_:=ae hc;clear hc;by_cases hc0:c=0
          ·subst hc0;go_wp2_with fail;exact⟨⟨p+1,by omega,by omega,by go_num,fun r h1 h2=>by
            by_cases h:r<p
            ·exact hz r h1 h
            ·obtain rfl:r=p:=by omega
             exact y_.out,by first | rfl | trivial⟩,by simp[intOf];omega⟩
          ·have jA:=ae (HZB.out c ⟨p,hp1,hlt,y_.out,hc0⟩);have hcn:¬ ((c.toNat:Int)=0):=fun h=>hc0 (by
            have h2:c.toNat=0:=by omega
            exact zK.1 (by rw[h2];rfl))
           go_wp2_with (first
            | (refine bO rfl 28 _ rfl aF (by kernel_rfl) ?_)
            | (refine aQ rfl 28 _ _ rfl (w.heap.size+2) aF rfl rfl 28 aF HI.out.k2 gq rfl lF ?_))
           have hbf:=aA HI.out.below aF (g:=w.heap.size+2) (by omega);exact bc (bn qb _ _ _ _ _ (by rfl) (jj (HI.out.k2.row _)) (by rfl)) rfl ⟨_,by rw[jA.out];rfl,by rw[lE jA.out];exact fun _ _ _ _=>df _ _,⟨_,_,_,rfl⟩,hbf⟩
         ·have hpe:p=508:=by omega
          have hpl:¬ (p:Int)<508:=by omega
          have heq:bI N b=true:=by
           have z1:((b.take 508).drop (20+6*aC b 12 2)).any (· != 0)=false:=by
            rw[←pS.out,←Ol.out,List.any_eq_false];intro c hc;obtain⟨r,hr⟩:=Iz hc;rw[kL,dU]at hr;split at hr
            ·rename_i hlt2
             rw[hz (p0+r) (by omega) (by omega)]at hr;rw[←gH hr];simp
            ·cases hr
           have z2:(b.take 4 == qE)=true:=by
            have:=HQL.out.symm.trans HMM.out;rw[this];rfl
           have z3:(List.range (aC b 12 2)).all (jz N b)=true:=cx.2 (fun j hj=>HI.out.ok j (by rw[pS.out];exact ng.1 hj));unfold bI;rw[fg.out,z1,z2,z3,cT aiR.out,cT (by have:=pS.out;omega:(aC b 12 2:Int)≤N),cT (by have:=A3.out;omega:aC b 14 2≤4096)];rfl
          have E7:=ae heq;obtain⟨FA,Md⟩:∃F,F=(#[.int .i64 (aC b 4 8:Int),.slice ao k co,.slice none 0 0,.slice (some ⟨gz,0,none⟩) nb nb]:Array Value):=⟨_,rfl⟩;have hF2:dw w.heap.size (wo.setRow (w.heap.size+2) FA) (.agg FA) (nu b):=by
           have eF:nu b=⟨(aC b 4 8:Int),(List.range k).map fun i=>(aC b (20+6*i) 2:Int),[],List.replicate nb 0⟩:=by unfold nu;rw[←pS.out,A3.out]
           rw[eF,Md];have Y':=aH HI.out.kz FA (g':=w.heap.size+2) (by omega);have hO3:=aq (bL (F:=fun i=>i=w.heap.size+2) (w:=wo) FA rfl) HO.out (fun i hi e=>by
            have h1:=(na HO.out i hi).1;have e:i=w.heap.size+2:=e;omega)
           rw[Md]at Y' hO3;intro F W' hO hF;have JZ4:=hO.blk Y' (hF gz l8 Y'.lt);have hO4:=aq hO hO3 (fun i hi=>hF i (by have:=(na hO3 i hi).1;omega) (gC hO3 hi));have e5:lQ b k=((List.range k).map fun i=>(aC b (20+6*i) 2:Int)).map (Value.int .i64):=by unfold lQ;rw[tT];rfl
           rw[e5]at hO4;refine⟨_,_,_,rfl,(uD hO4 (fun g hg=>gC hO3 hg)),gA.nil _ _,⟨by simp;unfold maxLen;omega,some ⟨gz,0,none⟩,nb,by simp,by simp,fun j c hj=>⟨gz,0,rfl,Y'.lt,?_⟩⟩⟩;have hjl:j<nb:=by
            rcases bZ j nb with h | h
            ·exact h
            ·rw[dh (by simp;omega)]at hj;cases hj
           have ec:c=0:=by simpa[hjl]using hj.symm
           subst ec;refine JZ4.ag (0+j) ?_;rw[vW,cW];simp[hjl]
          have cJ:=ae hF2;have KF2:=ae (show ah wo gF 28 FA by rw[Md];exact KF.out);have On:(Tryz.prog.info? 28).map (·.size)=some FA.size:=by rw[Md];show _=some 4;kernel_rfl
          have oFA:FA.all (·.oneCell')=true:=by rw[Md];simp[Value.oneCell']
          have qZ:=ae (And.intro On oFA);have Oo:=ae Md;clear hpe heq hz hF2 On oFA Md;go_wp2_with (first
           | (refine bt rfl 28 _ rfl gF rfl 28 FA (0,0) _ KF2.out fw rfl qZ.out.1 ?_)
           | (refine aQ rfl 28 _ _ rfl (w.heap.size+2) FA rfl rfl 28 aF HI.out.k2 qZ.out.1 (by rw[Oo.out];rfl) qZ.out.2 ?_))
          have hbf:=aA HI.out.below FA (g:=w.heap.size+2) (by omega);exact bc (bn qb _ _ _ _ _ (by rfl) (tO _ _ _ _ FA (0,0) _ (HI.out.k2.row FA) fw rfl qZ.out.1) (by rfl)) rfl ⟨_,by rw[E7.out];rfl,by rw[Bl E7.out];exact cJ.out,⟨_,_,_,by rw[Oo.out]⟩,hbf⟩
  ·have jA:=ae (show bI N b=false by
    have h2:(b.take 4 == qE)=false:=by
     have h1:¬b.take 4=qE:=fun h=>hm (HQL.out.trans h)
     simpa using h1
    unfold bI;rw[hs,h2];simp only[Bool.false_and,Bool.and_false,Bool.true_and])
   refine bF (S:=(fun w'=>w'.cell? ⟨w.heap.size,0,none⟩=some (.int .i64 N)∧w'.cell? ⟨w.heap.size+1,11,none⟩=some (aj c11)∧BytesIn w' (w.heap.size+2) (.slice (some ⟨w.heap.size+1,0,none⟩) 4 512) (b.take 4))) (by kernel_rfl) (by(try dsimp only);exact SK.out _ hb0) (fun hHeld=>?_);generalize W.drew=X0 at *;refine tk 0 ?_;refine tk 1 ?_;refine tk 2 ?_;refine tk 3 ?_;refine fh (i:=4) (v:=.string q) rfl (by kernel_rfl) (by kernel_rfl) (by kernel_rfl) (fun _ _ _ h=>h) (Or.inl ⟨by rfl,?aiT⟩) (by assumption) ?_
   case aiT =>
    intro w hSw;have hs:=fX w hSw.2.2;rw[←HQ.out]at hs;go_simp
   refine fh (i:=5) (v:=.bool true) rfl (by kernel_rfl) (by kernel_rfl) (by kernel_rfl) (fun _ _ _ h=>h) (Or.inl ⟨by rfl,?aiU⟩) (by assumption) ?_
   case aiU =>
    intro w hSw;try dsimp only at hSw
    go_simp;try simp[hm]
   refine tk 6 ?_;refine tk 7 ?_;refine tu 8 ?_;refine tu 9 ?_;refine tu 10 ?_;refine tk 11 ?_;refine tk 12 ?_;refine tu 13 ?_;refine tu 15 ?_;refine tu 14 ?_;refine tu 16 ?_;refine tu 17 ?_;refine tk 18 ?_;refine tk 19 ?_;refine tu 20 ?_;refine tu 21 ?_;refine tu 22 ?_;refine tk 23 ?_;refine aT ?_;have JF:=oJ.out.below hb0 oJ.out.lt;have J2:=iS.out.below hb0 iS.out.lt;have JB:=zf.out.trans (hb0.mono zf.out.size);go_wp2_with (first
    | (refine bt rfl 28 _ rfl gF rfl 28 aF (0,0) _ JF fw rfl gq ?_)
    | (refine aQ rfl 28 _ _ rfl (w.heap.size+2) aF rfl rfl 28 aF J2 gq rfl lF ?_))
   have hbf:=aA JB aF (g:=w.heap.size+2) (by omega);exact bc (bn qb _ _ _ _ _ (by rfl) (jj (J2.row _)) (by rfl)) rfl ⟨_,by rw[jA.out];rfl,by rw[lE jA.out];exact fun _ _ _ _=>df _ _,⟨_,_,_,rfl⟩,hbf⟩
theorem sT (a:Act) (v:Value):a.put none v=a:=rfl
def sU (b lo:Nat) (n er:Int) (dc sc zs:Array Value) (i:Nat) (vs:Nat→Value) (X:World):Prop:=match i-b with
 | 0=>vs b=.int .i64 n
 | 1=>vs (b+1)=.tuple #[.agg dc,.agg sc,.int .i64 er]
 | 2=>vs (b+2)=.tuple #[.agg dc,.agg sc,.int .i64 er]
 | 3=>vs (b+3)=.agg dc
 | 4=>vs (b+4)=.agg sc
 | 5=>vs (b+5)=.int .i64 er
 | 6=>∃g,vs (b+6)=.pointer (some ⟨g,0,none⟩)∧lo≤g∧ah X g 40 aM
 | 7=>∃g,vs (b+7)=.pointer (some ⟨g,0,none⟩)∧lo≤g∧ah X g 111 zs
 | 8=>∃g,vs (b+6)=.pointer (some ⟨g,0,none⟩)∧lo≤g∧ah X g 40 dc
 | 9=>∃g,vs (b+7)=.pointer (some ⟨g,0,none⟩)∧lo≤g∧ah X g 111 sc
 | 10=>vs (b+10)=.int .i64 er
 | _=>True
def Oq (b i:Nat) (_:Nat→Value) (X Y:World):Prop:=match i-b with
 | 8=>∃g cs,ah X g 40 cs∧Out (fun i=>i=g) X Y
 | 9=>∃g cs,ah X g 111 cs∧Out (fun i=>i=g) X Y
 | _=>Below X.heap.size X Y
abbrev Me (b t0 t1 t2 t3 t4 t5 t6 t7 t8:Nat):Plan:=[(b,[],[],false),(b+1,[(b,some t0)],[b],false),(b+2,[(b,some t0),(b+1,some t1)],[b+1],false),(b+3,[(b,some t0),(b+1,some t1),(b+2,some t2)],[b+2],false),(b+4,[(b,some t0),(b+1,some t1),(b+2,some t2)],[b+2],false),(b+5,[(b,some t0),(b+1,some t1),(b+2,some t2)],[b+2],false),(b+6,[],[],false),(b+7,[],[],false),
 (b+8,[(b,some t0),(b+1,some t1),(b+2,some t2),(b+3,some t3),(b+6,some t6),(b+7,some t7)],[b+3,b+6],false),(b+9,[(b,some t0),(b+1,some t1),(b+2,some t2),(b+3,some t3),(b+4,some t4),(b+6,some t6),(b+7,some t7),(b+8,none)],[b+4,b+7],false),(b+10,[(b,some t0),(b+1,some t1),(b+2,some t2),(b+3,some t3),(b+4,some t4),(b+5,some t5),(b+6,some t6),(b+7,some t7),(b+8,none),(b+9,none)],[b+5],false)]
abbrev Za (b:Nat):Kill:=fun i=>if i=b+6 then [b+8] else if i=b+7 then [b+9] else []
abbrev He (b:Nat):List (Nat×List Nat):=[(b,[b+6,b+7]),(b+1,[b,b+6,b+7]),(b+6,[b,b+1,b+2,b+3,b+4,b+5,b+7]),(b+7,[b,b+1,b+2,b+3,b+4,b+5,b+6]),(b+8,[b,b+1,b+2,b+3,b+4,b+5,b+7]),(b+9,[b,b+1,b+2,b+3,b+4,b+5,b+6,b+8])]
abbrev rdA (b t0 t1 t2 t3 t4 t5 t6 t7 t8:Nat):List qV:=[(b,some t0),(b+1,some t1),(b+2,some t2),(b+3,some t3),(b+4,some t4),(b+5,some t5),(b+6,some t6),(b+7,some t7),(b+8,none),(b+9,none),(b+10,some t8)]
section
variable {b lo:Nat} {n er:Int} {dc sc zs:Array Value} {vs:Nat→Value} {X:World}
theorem dx (k:Nat):sU b lo n er dc sc zs (b+k) vs X=(match k with
 | 0=>vs b=.int .i64 n
 | 1=>vs (b+1)=.tuple #[.agg dc,.agg sc,.int .i64 er]
 | 2=>vs (b+2)=.tuple #[.agg dc,.agg sc,.int .i64 er]
 | 3=>vs (b+3)=.agg dc
 | 4=>vs (b+4)=.agg sc
 | 5=>vs (b+5)=.int .i64 er
 | 6=>∃g,vs (b+6)=.pointer (some ⟨g,0,none⟩)∧lo≤g∧ah X g 40 aM
 | 7=>∃g,vs (b+7)=.pointer (some ⟨g,0,none⟩)∧lo≤g∧ah X g 111 zs
 | 8=>∃g,vs (b+6)=.pointer (some ⟨g,0,none⟩)∧lo≤g∧ah X g 40 dc
 | 9=>∃g,vs (b+7)=.pointer (some ⟨g,0,none⟩)∧lo≤g∧ah X g 111 sc
 | 10=>vs (b+10)=.int .i64 er
 | _=>True):=by unfold sU;rw[zo]
theorem ac1 {Y:World} (h:Below X.heap.size X Y) (k:Nat):sU b lo n er dc sc zs (b+k) vs X→sU b lo n er dc sc zs (b+k) vs Y:=by
 rw[dx,dx];split<;>first | exact id | (rintro⟨g,e,hl,hb⟩;exact⟨g,e,hl,hb.below h hb.lt⟩)
theorem aeG {Y:World} (h:∃g cs,ah X g 40 cs∧Out (fun i=>i=g) X Y) (k:Nat) (h6:k≠6) (h8:k≠8):sU b lo n er dc sc zs (b+k) vs X→sU b lo n er dc sc zs (b+k) vs Y:=by
 obtain⟨g1,cs,h1,h2⟩:=h;rw[dx,dx];split<;>first | exact id | contradiction | (rintro⟨g,e,hl,hb⟩;exact⟨g,e,hl,h2.blk hb (ah.xl hb h1 (by decide))⟩)
theorem aeH {Y:World} (h:∃g cs,ah X g 111 cs∧Out (fun i=>i=g) X Y) (k:Nat) (h7:k≠7) (h9:k≠9):sU b lo n er dc sc zs (b+k) vs X→sU b lo n er dc sc zs (b+k) vs Y:=by
 obtain⟨g1,cs,h1,h2⟩:=h;rw[dx,dx];split<;>first | exact id | contradiction | (rintro⟨g,e,hl,hb⟩;exact⟨g,e,hl,h2.blk hb (ah.xl hb h1 (by decide))⟩)
theorem qP {Y:World} (k:Nat):EC (He b) (Oq b) (b+k) vs X Y=(match k with
 | 0 | 1 | 6 | 7=>Below X.heap.size X Y
 | 8=>∃g cs,ah X g 40 cs∧Out (fun i=>i=g) X Y
 | 9=>∃g cs,ah X g 111 cs∧Out (fun i=>i=g) X Y
 | _=>Y=X):=by
 have hs:∀j:Nat,(b+j == b+k)=(j == k):=fun j=>by
  rw[zO];simp
 have h0:(b == b+k)=(0 == k):=hs 0;unfold EC Oq;simp only[He,List.any_cons,List.any_nil,hs,h0,Nat.add_sub_cancel_left];match k with
 | 0 | 1 | 6 | 7 | 8 | 9=>rfl
 | 2 | 3 | 4 | 5=>rfl
 | k+10 =>
  have:∀j,j<10→(j == k+10)=false:=fun j hj=>by simp;omega
  rw[this 0 (by omega),this 1 (by omega),this 6 (by omega),this 7 (by omega),this 8 (by omega),this 9 (by omega)];rfl
end
theorem sa {a:Act} {t:Nat} {v:Value} (h:t<a.tmps.size):(a.put (some t) v).eval (.tmp t)=v:=by
 show(a.put (some t) v).tmps.getD t undef=v;rw[Is,tE h];rfl
theorem vH {a:Act} {t u:Nat} {v:Value} (h:t≠u):(a.put (some t) v).eval (.tmp u)=a.eval (.tmp u):=by
 show(a.put (some t) v).tmps.getD u undef=a.tmps.getD u undef;rw[Is,Is,tD (fun e=>h (by injection e))]
theorem uS {P:Program} {ρ:Operand→Value} {o:Oper} {x:Operand} {i:Nat} {vs:Array Value} {v:Value} (h:o.op=.extract x i) (hx:ρ x=.tuple vs) (hv:vs[i]? = some v) (w:World):(execOp ρ o).run P w=.ok (.value v) w:=by
 unfold execOp;simp[h,hx,hv,Sem.run,Instr.extract]
theorem QL (W0:World) (b t0 t1 t2 t3 t4 t5 t6 t7 t8:Nat) {td:Nat} {ops:Array Oper} {Q:Exit→Act→World→Prop} {fuel:Nat} {listed:Array Bool} {a:Act} {X0:World} {dv:Value} (n er:Int) (dc sc:Array Value) {aa:Array Value} {xa:Array Operand} {ya yr:Array TypeId} {o0 o1 o2 o3 o4 o5 o6 o7 o8 o9 Uv:Oper}
 (hat:∀X,Calls Tryz.prog 62 aa X fun e w'=>e=.returned (.int .i64 n)∧Below X.heap.size X w')
 (hrd:∀X,Below W0.heap.size W0 X→Calls Tryz.prog 63 #[dv,.int .i64 n] X fun e w'=>e=.returned (.tuple #[.agg dc,.agg sc,.int .i64 er])∧Below X.heap.size X w')
 (hdi:(Tryz.prog.info? 40).map (·.size)=some dc.size) (hdz:aM.size=dc.size) (hd1:dc.all (·.oneCell')=true)
 (hsi:(Tryz.prog.info? 111).map (·.size)=some sc.size) (hsz:(Tryz.zeroCells111:Array Value).size=sc.size) (hs1:sc.all (·.oneCell')=true)
 (hHeld:Below W0.heap.size W0 X0)
 (fin:∀v0 v1 v2 v3 v4 v5 g1 g2 X,Below W0.heap.size W0 X→W0.heap.size≤g1→W0.heap.size≤g2→ah X g1 40 dc→ah X g2 111 sc →
  Q .normal (((((((((a.put (some t0) v0).put (some t1) v1).put (some t2) v2).put (some t3) v3).put (some t4) v4).put (some t5) v5).put (some t6) (.pointer (some ⟨g1,0,none⟩))).put (some t7) (.pointer (some ⟨g2,0,none⟩))).put (some t8) (.int .i64 er)) X)
 (p0:ops[b]? = some o0:=by rfl) (p1:ops[b+1]? = some o1:=by rfl) (p2:ops[b+2]? = some o2:=by rfl) (p3:ops[b+3]? = some o3:=by rfl) (p4:ops[b+4]? = some o4:=by rfl) (p5:ops[b+5]? = some o5:=by rfl)
 (p6:ops[b+6]? = some o6:=by rfl) (p7:ops[b+7]? = some o7:=by rfl) (p8:ops[b+8]? = some o8:=by rfl) (p9:ops[b+9]? = some o9:=by rfl) (p10:ops[b+10]? = some Uv:=by rfl)
 (hg:([o0,o1,o2,o3,o4,o5,o6,o7,o8,o9,Uv].all fun o=>o.guard.isNone)=true:=by rfl)
 (hd : [o0,o1,o2,o3,o4,o5,o6,o7,o8,o9,Uv].map (·.dst)=[some t0,some t1,some t2,some t3,some t4,some t5,some t6,some t7,none,none,some t8]:=by rfl)
 (q0:o0.op=.call {callee:=.value (.func 62),args:=xa,argTypes:=ya}:=by rfl) (e0:xa.toList.map a.eval=aa.toList:=by rfl)
 (q1:o1.op=.call {callee:=.value (.func 63),args:=#[.tmp td,.tmp t0],argTypes:=yr}:=by rfl) (e1:a.eval (.tmp td)=dv:=by rfl)
 (q2:o2.op=.move (.tmp t1):=by rfl) (q3:o3.op=.extract (.tmp t2) 0:=by rfl) (q4:o4.op=.extract (.tmp t2) 1:=by rfl) (q5:o5.op=.extract (.tmp t2) 2:=by rfl)
 (q6:o6.op=.alloc 40:=by rfl) (q7:o7.op=.alloc 111:=by rfl)
 (q8:o8.op=.store 40 (.tmp t6) (.tmp t3):=by rfl) (q9:o9.op=.store 111 (.tmp t7) (.tmp t4):=by rfl) (q10:Uv.op=.assign (.tmp t5):=by rfl)
 (ht:([t0,t1,t2,t3,t4,t5,t6,t7].all fun t=>decide (t<a.tmps.size))=true:=by rfl) (hn:decide ([td,t0,t1,t2,t3,t4,t5,t6,t7].Nodup)=true:=by kernel_rfl)
 (hC:(Me b t0 t1 t2 t3 t4 t5 t6 t7 t8).all (fun p=>(He b).all (fun c=>c.1 != p.1) || (He b).any (fun c=>c.1 == p.1&&(Oh (Za b) (Me b t0 t1 t2 t3 t4 t5 t6 t7 t8) p.1).all fun q=>c.2.contains q))=true:=by kernel_rfl)
 (hA:rdA b t0 t1 t2 t3 t4 t5 t6 t7 t8=mH ops (Me b t0 t1 t2 t3 t4 t5 t6 t7 t8):=by kernel_rfl)
 (hF : [b+8,b+9,b+10].all (fun f=>(Me b t0 t1 t2 t3 t4 t5 t6 t7 t8).has f&&(Za b f).isEmpty)=true:=by kernel_rfl) (hs:Region.noSelect ops=true:=by kernel_rfl)
 (hk:Fj .any ops listed (Za b) 100 (Me b t0 t1 t2 t3 t4 t5 t6 t7 t8)=true:=by kernel_rfl) (hf:decide ((Me b t0 t1 t2 t3 t4 t5 t6 t7 t8).length≤fuel)=true:=by rfl) (hz:listed.size=ops.size:=by rfl) :
 de Tryz.prog .any ops Q (fun X=>Below W0.heap.size W0 X) (fun _=>True) 100 fuel listed a X0:=by
 simp only[List.map_cons,List.map_nil,List.cons.injEq,and_true]at hd;obtain⟨d0,d1,d2,d3,d4,d5,d6,d7,d8,d9,d10⟩:=hd;simp only[List.all_cons,List.all_nil,Bool.and_eq_true,Option.isNone_iff_eq_none,and_true]at hg;obtain⟨g0,g1,g2,g3,g4,g5,g6,g7,g8,g9,g10⟩:=hg;have Bo:∀ {o:Oper} {y:Nat→Option Bool},o.guard=none→Region.wanted o y=true:=fun {o y} h=>by unfold Region.wanted;rw[h]
 simp only[List.all_cons,List.all_nil,Bool.and_true,Bool.and_eq_true,decide_eq_true_eq]at ht;obtain⟨z0,z1,z2,z3,z4,z5,z6,z7⟩:=ht;have hn:=tM hn;simp only[List.nodup_cons,List.mem_cons,List.not_mem_nil,or_false,not_or,not_false_eq_true,List.nodup_nil,and_true]at hn;obtain⟨⟨n10, -⟩,⟨m1,m2,m3,m4,m5,m6,m7⟩,⟨m12,m13,m14,m15,m16,m17⟩,⟨m23,m24,m25,m26,m27⟩,⟨m34,m35,m36,m37⟩,⟨m45,m46,m47⟩,⟨m56,m57⟩,m67⟩:=hn;have r0:∀X,(execOp a.eval o0).run Tryz.prog X=.ok (.enter 62 aa) X:=fun X=>by rw[Conc.execOp_call_func q0,show xa.map a.eval=aa from xg (by rw[Dy];exact e0)];exact rV Tryz.func62 rfl rfl _ _
 have r1:∀X,(execOp (a.put (some t0) (.int .i64 n)).eval o1).run Tryz.prog X=.ok (.enter 63 #[dv,.int .i64 n]) X:=fun X=>by
  rw[Conc.execOp_call_func q1,show #[Operand.tmp td,.tmp t0].map (a.put (some t0) (.int .i64 n)).eval=#[dv,.int .i64 n]by
   simp only[List.map_toArray,List.map_cons,List.map_nil];rw[vH (fj n10),sa z0,e1]]
  exact rV Tryz.func63 rfl rfl _ _
 have r2:∀v0 X,(execOp ((a.put (some t0) v0).put (some t1) (.tuple #[.agg dc,.agg sc,.int .i64 er])).eval o2).run Tryz.prog X=.ok (.value (.tuple #[.agg dc,.agg sc,.int .i64 er])) X:=fun v0 X=>by
  unfold execOp;rw[q2];show Result.ok (Next.value (((a.put (some t0) v0).put (some t1) _).eval (.tmp t1))) X=_;rw[sa (by rw[gQ];exact z1)]
 have r3:∀v0 v1 X,(execOp (((a.put (some t0) v0).put (some t1) v1).put (some t2) (.tuple #[.agg dc,.agg sc,.int .i64 er])).eval o3).run Tryz.prog X=.ok (.value (.agg dc)) X:=fun v0 v1 X=>uS q3 (sa (by rw[gQ,gQ];exact z2)) rfl X
 have r4:∀v0 v1 X,(execOp (((a.put (some t0) v0).put (some t1) v1).put (some t2) (.tuple #[.agg dc,.agg sc,.int .i64 er])).eval o4).run Tryz.prog X=.ok (.value (.agg sc)) X:=fun v0 v1 X=>uS q4 (sa (by rw[gQ,gQ];exact z2)) rfl X
 have r5:∀v0 v1 X,(execOp (((a.put (some t0) v0).put (some t1) v1).put (some t2) (.tuple #[.agg dc,.agg sc,.int .i64 er])).eval o5).run Tryz.prog X=.ok (.value (.int .i64 er)) X:=fun v0 v1 X=>uS q5 (sa (by rw[gQ,gQ];exact z2)) rfl X
 have r6:∀X,(execOp a.eval o6).run Tryz.prog X=.ok (.value (.pointer (some ⟨X.heap.size,0,none⟩))) (X.alloc (.cells aM 40)):=fun X=>by
  unfold execOp;simp only[q6];go_simp
 have r7:∀X,(execOp a.eval o7).run Tryz.prog X=.ok (.value (.pointer (some ⟨X.heap.size,0,none⟩))) (X.alloc (.cells Tryz.zeroCells111 111)):=fun X=>by
  unfold execOp;simp only[q7];go_simp
 have x8:∀v0 v1 v2 v3 v6 v7,((((((a.put (some t0) v0).put (some t1) v1).put (some t2) v2).put (some t3) v3).put (some t6) v6).put (some t7) v7).eval (.tmp t6)=v6:=fun v0 v1 v2 v3 v6 v7=>by rw[vH (fj m67),sa (by simp only[gQ];exact z6)]
 have y8:∀v0 v1 v2 v3 v6 v7,((((((a.put (some t0) v0).put (some t1) v1).put (some t2) v2).put (some t3) v3).put (some t6) v6).put (some t7) v7).eval (.tmp t3)=v3:=fun v0 v1 v2 v3 v6 v7=>by rw[vH (fj m37),vH (fj m36),sa (by simp only[gQ];exact z3)]
 have x9:∀v0 v1 v2 v3 v4 v6 v7,(((((((a.put (some t0) v0).put (some t1) v1).put (some t2) v2).put (some t3) v3).put (some t4) v4).put (some t6) v6).put (some t7) v7).eval (.tmp t7)=v7:=fun v0 v1 v2 v3 v4 v6 v7=>by rw[sa (by simp only[gQ];exact z7)]
 have y9:∀v0 v1 v2 v3 v4 v6 v7,(((((((a.put (some t0) v0).put (some t1) v1).put (some t2) v2).put (some t3) v3).put (some t4) v4).put (some t6) v6).put (some t7) v7).eval (.tmp t4)=v4:=fun v0 v1 v2 v3 v4 v6 v7=>by rw[vH (fj m47),vH (fj m46),sa (by simp only[gQ];exact z4)]
 have r10:∀v0 v1 v2 v3 v4 v6 v7 X,(execOp ((((((((a.put (some t0) v0).put (some t1) v1).put (some t2) v2).put (some t3) v3).put (some t4) v4).put (some t5) (.int .i64 er)).put (some t6) v6).put (some t7) v7).eval Uv).run Tryz.prog X=.ok (.value (.int .i64 er)) X:=fun v0 v1 v2 v3 v4 v6 v7 X=>by
  unfold execOp;rw[q10];show Result.ok (Next.value ((((((((((a.put (some t0) v0).put (some t1) v1).put (some t2) v2).put (some t3) v3).put (some t4) v4).put (some t5) _).put (some t6) v6).put (some t7) v7)).eval (.tmp t5))) X=_;rw[vH (fj m57),vH (fj m56),sa (by simp only[gQ];exact z5)]
 refine rp (Me b t0 t1 t2 t3 t4 t5 t6 t7 t8) (Za b) (sU b W0.heap.size n er dc sc Tryz.zeroCells111) (Oq b) (rdA b t0 t1 t2 t3 t4 t5 t6 t7 t8) [b+8,b+9,b+10] (He b) ?_ ?_ ?_ ?_ hC hA hF hs hk hf hz ⟨hHeld,fun _=>trivial⟩
 ·have u:∀j,(match j with | 0 | 1 | 6 | 7=>true | _=>false)=true→∀k vs w w',EC (He b) (Oq b) (b+j) vs w w'→Below W0.heap.size W0 w→Below W0.heap.size W0 w'→sU b W0.heap.size n er dc sc Tryz.zeroCells111 (b+k) vs w→sU b W0.heap.size n er dc sc Tryz.zeroCells111 (b+k) vs w':=fun j hj k vs w w' hE _ _=>by
   rw[qP]at hE;split at hj
   all_goals first | exact ac1 hE k | cases hj
  have u8:∀k,k≠6→k≠8→∀vs w w',EC (He b) (Oq b) (b+8) vs w w'→Below W0.heap.size W0 w→Below W0.heap.size W0 w'→sU b W0.heap.size n er dc sc Tryz.zeroCells111 (b+k) vs w→sU b W0.heap.size n er dc sc Tryz.zeroCells111 (b+k) vs w':=fun k h1 h2 vs w w' hE _ _=>by
   rw[qP]at hE;exact aeG hE k h1 h2
  have u9:∀k,k≠7→k≠9→∀vs w w',EC (He b) (Oq b) (b+9) vs w w'→Below W0.heap.size W0 w→Below W0.heap.size W0 w'→sU b W0.heap.size n er dc sc Tryz.zeroCells111 (b+k) vs w→sU b W0.heap.size n er dc sc Tryz.zeroCells111 (b+k) vs w':=fun k h1 h2 vs w w' hE _ _=>by
   rw[qP]at hE;exact aeH hE k h1 h2
  exact⟨⟨u 0 rfl 6,u 0 rfl 7,trivial⟩,⟨u 1 rfl 0,u 1 rfl 6,u 1 rfl 7,trivial⟩,⟨u 6 rfl 0,u 6 rfl 1,u 6 rfl 2,u 6 rfl 3,u 6 rfl 4,u 6 rfl 5,u 6 rfl 7,trivial⟩,⟨u 7 rfl 0,u 7 rfl 1,u 7 rfl 2,u 7 rfl 3,u 7 rfl 4,u 7 rfl 5,u 7 rfl 6,trivial⟩,
   ⟨u8 0 (by decide) (by decide),u8 1 (by decide) (by decide),u8 2 (by decide) (by decide),u8 3 (by decide) (by decide),u8 4 (by decide) (by decide),u8 5 (by decide) (by decide),u8 7 (by decide) (by decide),trivial⟩,
   ⟨u9 0 (by decide) (by decide),u9 1 (by decide) (by decide),u9 2 (by decide) (by decide),u9 3 (by decide) (by decide),u9 4 (by decide) (by decide),u9 5 (by decide) (by decide),u9 6 (by decide) (by decide),u9 8 (by decide) (by decide),trivial⟩,trivial⟩
 ·have c:∀ (p:Nat×List qV×List Nat×Bool) k,p.1=b+k→(k=8→∃d∈p.2.1,d.1=b+6)→(k=9→∃d∈p.2.1,d.1=b+7)→∀ (vs vs':Nat→Value) (w:World),vs p.1=vs' p.1→we (fun d=>vs d.1=vs' d.1) p.2.1→sU b W0.heap.size n er dc sc Tryz.zeroCells111 p.1 vs w→sU b W0.heap.size n er dc sc Tryz.zeroCells111 p.1 vs' w:=fun p k e h8 h9 vs vs' w h hd=>by
   have al:∀d∈p.2.1,vs d.1=vs' d.1:=by
    generalize p.2.1=l at hd;induction l with
    | nil=>intro d hd;cases hd
    | cons x r ih =>
     intro d hm;rcases lN.1 hm with rfl | hm
     ·exact hd.1
     ·exact ih hd.2 d hm
   rw[e]at h ⊢;rw[dx,dx];match k with
   | 0=>exact fun h'=>(show vs b=vs' b from h)▸h'
   | 1 | 2 | 3 | 4 | 5 | 6 | 7 | 10=>intro h';simp only[h]at h';exact h'
   | 8=>obtain⟨d,hd,e⟩:=h8 rfl;have:=al d hd;rw[e]at this;intro h';simp only[this]at h';exact h'
   | 9=>obtain⟨d,hd,e⟩:=h9 rfl;have:=al d hd;rw[e]at this;intro h';simp only[this]at h';exact h'
   | k+11=>exact id
  have no:∀ {k j:Nat} {p:Prop},k≠j→k=j→p:=fun h e=>absurd e h
  exact⟨c _ 0 rfl (no (by decide)) (no (by decide)),c _ 1 rfl (no (by decide)) (no (by decide)),c _ 2 rfl (no (by decide)) (no (by decide)),c _ 3 rfl (no (by decide)) (no (by decide)),c _ 4 rfl (no (by decide)) (no (by decide)),c _ 5 rfl (no (by decide)) (no (by decide)),c _ 6 rfl (no (by decide)) (no (by decide)),c _ 7 rfl (no (by decide)) (no (by decide)),
   c _ 8 rfl (fun _=>⟨(b+6,some t6),by simp,rfl⟩) (no (by decide)),c _ 9 rfl (no (by decide)) (fun _=>⟨(b+7,some t7),by simp,rfl⟩),c _ 10 rfl (no (by decide)) (no (by decide)),trivial⟩
 ·refine oc ?_ (oc ?_ (oc ?_ (oc ?_ (oc ?_ (oc ?_ (oc ?_ (oc ?_ (oc ?_ (oc ?_ (oc ?_ on p10) p9) p8) p7) p6) p5) p4) p3) p2) p1) p0
  ·intro vs X K hS _ _ hK;rw[aB (Bo g0)];show o0.upon _ _ _ _ ((execOp a.eval o0).run _ X);rw[r0 X];refine(hat X).mono ?_;rintro r Y ⟨rfl,hb⟩;exact hK.out _ _ _ rfl (Aa hS (hb.mono (kR hS))) (.inr id) ((dx 0).mpr (upd_same _ _ _)) ((qP 0).mpr hb)
  ·intro vs X K hS _ hP hK;have e0:vs b=.int .i64 n:=(dx 0).mp hP.1;rw[aB (Bo g1)];show o1.upon _ _ _ _ ((execOp (a.put (some t0) (vs b)).eval o1).run _ X);rw[e0,r1 X];refine(hrd X hS).mono ?_;rintro r Y ⟨rfl,hb⟩;exact hK.out _ _ _ rfl (Aa hS (hb.mono (kR hS))) (.inr id) ((dx 1).mpr (upd_same _ _ _)) ((qP 1).mpr (hb))
  ·intro vs X K hS _ hP hK;have e0:vs (b+1)=.tuple #[.agg dc,.agg sc,.int .i64 er]:=(dx 1).mp hP.1;rw[aB (Bo g2)];show o2.upon _ _ _ _ ((execOp ((a.put (some t0) (vs b)).put (some t1) (vs (b+1))).eval o2).run _ X);rw[e0,r2];exact hK.out _ _ _ rfl hS (.inr id) ((dx 2).mpr (upd_same _ _ _)) ((qP 2).mpr rfl)
  ·intro vs X K hS _ hP hK;have e0:vs (b+2)=.tuple #[.agg dc,.agg sc,.int .i64 er]:=(dx 2).mp hP.1;rw[aB (Bo g3)];show o3.upon _ _ _ _ ((execOp (((a.put (some t0) (vs b)).put (some t1) (vs (b+1))).put (some t2) (vs (b+2))).eval o3).run _ X);rw[e0,r3];exact hK.out _ _ _ rfl hS (.inr id) ((dx 3).mpr (upd_same _ _ _)) ((qP 3).mpr rfl)
  ·intro vs X K hS _ hP hK;have e0:vs (b+2)=.tuple #[.agg dc,.agg sc,.int .i64 er]:=(dx 2).mp hP.1;rw[aB (Bo g4)];show o4.upon _ _ _ _ ((execOp (((a.put (some t0) (vs b)).put (some t1) (vs (b+1))).put (some t2) (vs (b+2))).eval o4).run _ X);rw[e0,r4];exact hK.out _ _ _ rfl hS (.inr id) ((dx 4).mpr (upd_same _ _ _)) ((qP 4).mpr rfl)
  ·intro vs X K hS _ hP hK;have e0:vs (b+2)=.tuple #[.agg dc,.agg sc,.int .i64 er]:=(dx 2).mp hP.1;rw[aB (Bo g5)];show o5.upon _ _ _ _ ((execOp (((a.put (some t0) (vs b)).put (some t1) (vs (b+1))).put (some t2) (vs (b+2))).eval o5).run _ X);rw[e0,r5];exact hK.out _ _ _ rfl hS (.inr id) ((dx 5).mpr (upd_same _ _ _)) ((qP 5).mpr rfl)
  ·intro vs X K hS _ _ hK;rw[aB (Bo g6)];show o6.upon _ _ _ _ ((execOp a.eval o6).run _ X);rw[r6];exact hK.out _ _ _ rfl (DU hS (kR hS) _) (.inr id) ((dx 6).mpr (⟨X.heap.size,upd_same _ _ _,kR hS,ah.new X _ _⟩)) ((qP 6).mpr ((ax X.heap.size X).alloc (ai _) _))
  ·intro vs X K hS _ _ hK;rw[aB (Bo g7)];show o7.upon _ _ _ _ ((execOp a.eval o7).run _ X);rw[r7];exact hK.out _ _ _ rfl (DU hS (kR hS) _) (.inr id) ((dx 7).mpr (⟨X.heap.size,upd_same _ _ _,kR hS,ah.new X _ _⟩)) ((qP 7).mpr ((ax X.heap.size X).alloc (ai _) _))
  ·intro vs X K hS _ hP hK;obtain⟨h3,h6, -⟩:=hP;replace h3:=(dx 3).mp h3;obtain⟨g,e,hl,hb⟩:=(dx 6).mp h6;rw[aB (Bo g8)];show Oper.wp _ o8 ((((((a.put (some t0) (vs b)).put (some t1) (vs (b+1))).put (some t2) (vs (b+2))).put (some t3) (vs (b+3))).put (some t6) (vs (b+6))).put (some t7) (vs (b+7))) X K _;refine ez 40 _ _ q8 g dc ((x8 (vs b) (vs (b+1)) (vs (b+2)) (vs (b+3)) (vs (b+6)) (vs (b+7))).trans e) ((y8 (vs b) (vs (b+1)) (vs (b+2)) (vs (b+3)) (vs (b+6)) (vs (b+7))).trans h3) 40 aM hb hdi hdz hd1 ?_;exact hK.out _ undef _ rfl (aA hS _ hl) (.inr id) ((dx 8).mpr (⟨g,by rw[upd_ne (by omega)];exact e,hl,ah.row hb _⟩)) ((qP 8).mpr (⟨g,_,hb,bL _ rfl⟩))
  ·intro vs X K hS _ hP hK;obtain⟨h3,h6, -⟩:=hP;replace h3:=(dx 4).mp h3;obtain⟨g,e,hl,hb⟩:=(dx 7).mp h6;rw[aB (Bo g9)];simp only[puts,sT];refine ez 111 _ _ q9 g sc ((x9 (vs b) (vs (b+1)) (vs (b+2)) (vs (b+3)) (vs (b+4)) (vs (b+6)) (vs (b+7))).trans e) ((y9 (vs b) (vs (b+1)) (vs (b+2)) (vs (b+3)) (vs (b+4)) (vs (b+6)) (vs (b+7))).trans h3) 111 _ hb hsi hsz hs1 ?_;exact hK.out _ undef _ (by simp only[puts,sT]) (aA hS _ hl) (.inr id) ((dx 9).mpr (⟨g,by rw[upd_ne (by omega)];exact e,hl,ah.row hb _⟩)) ((qP 9).mpr (⟨g,_,hb,bL _ rfl⟩))
  ·intro vs X K hS _ hP hK;have e0:vs (b+5)=.int .i64 er:=(dx 5).mp hP.1;rw[aB (Bo g10)];simp only[puts,sT];unfold Oper.wp;rw[e0,r10];exact hK.out _ (.int .i64 er) _ (by simp only[puts,sT,e0]) hS (.inr id) ((dx 10).mpr (upd_same _ _ _)) ((qP 10).mpr rfl)
 ·intro vs X hS hP;obtain⟨h8,h9,h10, -⟩:=hP;obtain⟨g1,e6,l1,b1⟩:=(dx 8).mp h8;obtain⟨g2,e7,l2,b2⟩:=(dx 9).mp h9;replace h10:=(dx 10).mp h10;have:=fin (vs b) (vs (b+1)) (vs (b+2)) (vs (b+3)) (vs (b+4)) (vs (b+5)) g1 g2 X hS l1 l2 b1 b2;rw[←e6,←e7,←h10]at this;simp only[puts,sT];exact this
def bN (x:ak) (N area:Int):ak×bY×Int :=
 if da N x.size area then
  if x.err (aJ N 2 area 0).1=0 then (x.stepped,tF N (aP x N area),if bI N (aP x N area) then 0 else 170)
  else (x.after (aJ N 2 area 0).1,gi,x.err (aJ N 2 area 0).1)
 else (x,gi,2)
theorem Uw (x:ak) (lv wv fv:Value) (N area:Int) (w:World) (h:bu w w.heap.size lv wv fv x) (hx:x.ok) (bU:da N x.size area=false) :
 Calls Tryz.prog 31 #[.agg #[lv,wv,.int .i64 x.steps,fv],.agg #[.int .i64 N],.int .i64 area] w fun e w'=>∃v,e=.returned (.tuple #[.agg #[lv,wv,.int .i64 (bN x N area).1.steps,fv],v,.int .i64 (bN x N area).2.2]) ∧
  dw w.heap.size w' v (bN x N area).2.1∧(∃a1 b1 c1,v=.agg #[a1,b1,.slice none 0 0,c1])∧Below w.heap.size w w':=by
 have cH:=ae (show bN x N area=(x,gi,2)by unfold bN;rw[bU];rfl);have dD:=ae h.one;have jw:=ae (fun W hh=>oB x lv wv fv x.steps W hh hx);have HR:=ae h;obtain⟨W,eW⟩:∃W,W=(((w.alloc (.cells #[lv,wv,.int .i64 x.steps,fv] 40)).alloc (.cells #[.int .i64 N] 23)).alloc (.cells aM 40)).alloc (.cells aF 28):=⟨_,rfl⟩;have hbW:Below w.heap.size w W:=by rw[eW];exact((((ax _ w).alloc (ai _) _).alloc (by simp) _).alloc (by simp;omega) _).alloc (by simp;omega) _
 have k0:ah W w.heap.size 40 #[lv,wv,.int .i64 x.steps,fv]:=by rw[eW];exact(((ah.new w _ _).alloc _).alloc _).alloc _
 have k1:ah W (w.heap.size+1) 23 #[.int .i64 N]:=by rw[eW];exact((ah.new2 w _ _ _).alloc _).alloc _
 have k3:ah W (w.heap.size+2) 40 aM:=by rw[eW];exact(ah.new' (by simp)).alloc _
 have k4:ah W (w.heap.size+3) 28 aF:=by rw[eW];exact ah.new' (by simp)
 clear h;go_enter Tryz.func31,Tryz.ntmps31
 go_upto_region 1 with fail;rw[←eW];clear eW;have HW:=ae hbW;have ft:=ae k0;have iT:=ae k1;have nN:=ae k3;have vC:=ae k4;have Cz:=ae (A7 N x.size area);clear hbW k0 k1 k3 k4;have hor:(aZ N&&decide (20+3*N≤x.size))=false∨((aZ N&&decide (20+3*N≤x.size))=true∧decide (area<0)=true)∨((aZ N&&decide (20+3*N≤x.size))=true∧decide (area<0)=false∧decide (1<area)=true):=by
  rw[Cz.out]at bU;revert bU
  cases (aZ N&&decide (20+3*N≤x.size))<;>cases decide (area<0)<;>cases decide (1<area)<;>simp
 clear bU;rcases hor with FITS | ⟨FITS,hneg⟩ | ⟨FITS,hneg,hbig⟩
 all_goals
  refine jb (fun X=>Below W.heap.size W X) (fun _=>True) 100 (ax _ W).drew trivial fun hHeld hJ=>?_;refine jy false 0 rfl (cY (by rfl) 40 _ rfl w.heap.size 0 rfl [lv,wv,.int .i64 x.steps,fv] _ (fun X h=>by have:=dt (ft.out.below h.1 ft.out.lt);simpa using this) bV rfl (au _ _ _ _)) ?_;refine jk false 2 ?_ (hy:=by intro X hX _;have hc:=(iT.out.below hX iT.out.lt).ag 0 rfl;go_simp;try with_reducible rfl);refine jr 1 fun K hK=>?_;go_simp;refine(jw.out W.drew ((HR.out.below (HW.out.trans (hHeld.mono HW.out.size)) (ai _)).mono (HW.out.trans (hHeld.mono HW.out.size)).size)).mono ?_;rintro e X1 ⟨rfl,hb1⟩;replace hHeld:=hHeld.trans (hb1.mono hHeld.size);dsimp only;refine hK.out _ _ ⟨hHeld,fun _=>trivial⟩ ?_;clear hK K hb1;refine jr 3 fun K hK=>?_;go_simp;refine(nL x.size N X1).mono ?_;rintro e X2 ⟨rfl,hb2⟩;replace hHeld:=hHeld.trans (hb2.mono hHeld.size);rw[FITS];dsimp only;refine hK.out _ _ ⟨hHeld,fun _=>trivial⟩ ?_;clear hK K hb2;refine jk false 4 ?_;refine jk false 5 ?_;first | refine jk false 6 ?_ | refine ju 6 ?_
  first | refine jk false 7 ?_ | refine ju 7 ?_
  refine jk false 8 ?_;refine jk false 9 ?_;first | refine jk false 10 ?_ | refine ju 10 ?_
  first | refine jk false 11 ?_ | refine ju 11 ?_
  refine jk false 12 ?_;refine qY ?_;have J0:=ft.out.below hHeld ft.out.lt;have J1:=iT.out.below hHeld iT.out.lt;have J3:=nN.out.below hHeld nN.out.lt;have J4:=vC.out.below hHeld vC.out.lt;have HW2:=ae (HW.out.trans (hHeld.mono HW.out.size));replace J4:=aH J4 #[lv,wv,.int .i64 x.steps,fv] (g':=w.heap.size+2) (by omega);go_wp2_with (first
   | (refine bt rfl 40 _ rfl w.heap.size rfl 40 #[lv,wv,.int .i64 x.steps,fv] (0,0) _ J0 bV rfl (au _ _ _ _) ?_)
   | (refine bO rfl 28 _ rfl aF (by kernel_rfl) ?_)
   | (refine aQ rfl 40 _ _ rfl (w.heap.size+2) #[lv,wv,.int .i64 x.steps,fv] rfl rfl 40 aM J3 (au _ _ _ _) rfl (dD.out _) ?_)
   | (refine aQ rfl 28 _ _ rfl (w.heap.size+3) aF rfl rfl 28 aF J4 gq rfl lF ?_))
  have hbf:=aA (aA HW2.out #[lv,wv,.int .i64 x.steps,fv] (g:=w.heap.size+2) (by omega)) aF (g:=w.heap.size+3) (by omega);exact bc (b_ DF _ _ _ _ _ _ _ (by rfl) (bB (aH (J3.row _) _ (by omega))) (by rfl) (jj (J4.row _)) (by rfl)) rfl ⟨_,by rw[cH.out];rfl,by rw[cH.out];exact fun _ _ _ _=>df _ _,⟨_,_,_,rfl⟩,hbf⟩
theorem Ux (x:ak) (lv wv fv:Value) (N area:Int) (w:World) (h:bu w w.heap.size lv wv fv x) (hx:x.ok) (bU:da N x.size area=true) :
 Calls Tryz.prog 31 #[.agg #[lv,wv,.int .i64 x.steps,fv],.agg #[.int .i64 N],.int .i64 area] w fun e w'=>∃v,e=.returned (.tuple #[.agg #[lv,wv,.int .i64 (bN x N area).1.steps,fv],v,.int .i64 (bN x N area).2.2]) ∧
  dw w.heap.size w' v (bN x N area).2.1∧(∃a1 b1 c1,v=.agg #[a1,b1,.slice none 0 0,c1])∧Below w.heap.size w w':=by
 have dD:=ae h.one;have jw:=ae (fun W hh=>oB x lv wv fv x.steps W hh hx);have HR:=ae h;obtain⟨W,eW⟩:∃W,W=(((w.alloc (.cells #[lv,wv,.int .i64 x.steps,fv] 40)).alloc (.cells #[.int .i64 N] 23)).alloc (.cells aM 40)).alloc (.cells aF 28):=⟨_,rfl⟩;have hbW:Below w.heap.size w W:=by rw[eW];exact((((ax _ w).alloc (ai _) _).alloc (by simp) _).alloc (by simp;omega) _).alloc (by simp;omega) _
 have k0:ah W w.heap.size 40 #[lv,wv,.int .i64 x.steps,fv]:=by rw[eW];exact(((ah.new w _ _).alloc _).alloc _).alloc _
 have k1:ah W (w.heap.size+1) 23 #[.int .i64 N]:=by rw[eW];exact((ah.new2 w _ _ _).alloc _).alloc _
 have k3:ah W (w.heap.size+2) 40 aM:=by rw[eW];exact(ah.new' (by simp)).alloc _
 have k4:ah W (w.heap.size+3) 28 aF:=by rw[eW];exact ah.new' (by simp)
 clear h;go_enter Tryz.func31,Tryz.ntmps31
 go_upto_region 1 with fail;rw[←eW];clear eW;have HW:=ae hbW;have ft:=ae k0;have iT:=ae k1;have nN:=ae k3;have vC:=ae k4;have Cz:=ae (A7 N x.size area);clear hbW k0 k1 k3 k4;have hl0:az.length=512:=et;have hor:(aZ N&&decide (20+3*N≤x.size))=true∧decide (area<0)=false∧decide (1<area)=false:=by
  have:=bU;rw[Cz.out]at this;revert this
  cases (aZ N&&decide (20+3*N≤x.size))<;>cases decide (area<0)<;>cases decide (1<area)<;>simp
 obtain⟨FITS,hneg,hbig⟩:=hor;have BX:=ae bU;clear bU;refine jb (fun X=>Below W.heap.size W X) (fun _=>True) 100 (ax _ W).drew trivial fun hHeld hJ=>?_;refine jy false 0 rfl (cY (by rfl) 40 _ rfl w.heap.size 0 rfl [lv,wv,.int .i64 x.steps,fv] _ (fun X h=>by have:=dt (ft.out.below h.1 ft.out.lt);simpa using this) bV rfl (au _ _ _ _)) ?_;refine jk false 2 ?_ (hy:=by intro X hX _;have hc:=(iT.out.below hX iT.out.lt).ag 0 rfl;go_simp;try with_reducible rfl);refine jr 1 fun K hK=>?_;go_simp;refine(jw.out W.drew ((HR.out.below (HW.out.trans (hHeld.mono HW.out.size)) (ai _)).mono (HW.out.trans (hHeld.mono HW.out.size)).size)).mono ?_;rintro e X1 ⟨rfl,hb1⟩;replace hHeld:=hHeld.trans (hb1.mono hHeld.size);dsimp only;refine hK.out _ _ ⟨hHeld,fun _=>trivial⟩ ?_;clear hK K hb1;refine jr 3 fun K hK=>?_;go_simp;refine(nL x.size N X1).mono ?_;rintro e X2 ⟨rfl,hb2⟩;replace hHeld:=hHeld.trans (hb2.mono hHeld.size);rw[FITS];dsimp only;refine hK.out _ _ ⟨hHeld,fun _=>trivial⟩ ?_;clear hK K hb2;refine jk false 4 ?_;refine jk false 5 ?_;first | refine jk false 6 ?_ | refine ju 6 ?_
 first | refine jk false 7 ?_ | refine ju 7 ?_
 refine jk false 8 ?_;refine jk false 9 ?_;first | refine jk false 10 ?_ | refine ju 10 ?_
 first | refine jk false 11 ?_ | refine ju 11 ?_
 refine jk false 12 ?_;refine qY ?_;have J0:=ft.out.below hHeld ft.out.lt;have J1:=iT.out.below hHeld iT.out.lt;have J3:=nN.out.below hHeld nN.out.lt;have J4:=vC.out.below hHeld vC.out.lt;have HW2:=ae (HW.out.trans (hHeld.mono HW.out.size));have HNZ:=ae (ll BX.out).2.1;obtain⟨N,rfl⟩:∃M:Nat,N=M:=⟨N.toNat,by have:=(ll BX.out).1;omega⟩;obtain⟨a,rfl⟩:∃a:Nat,area=a:=⟨area.toNat,by have:=(ll BX.out).2.2.2;omega⟩;obtain⟨q1,q2,q3,q4⟩:=yw BX.out;have hN:1≤N∧N≤64:=⟨q1,q2⟩;have hp2:Place.ok N ⟨2,a,0⟩:=⟨q4,.inl ⟨rfl,rfl⟩⟩;have vB:aJ N 2 a 0=(((Place.sec N ⟨2,a,0⟩:Nat):Int),0):=iB N ⟨2,a,0⟩ hN hp2;obtain⟨n,en⟩:∃n,n=(aJ N 2 a 0).1:=⟨_,rfl⟩;have CA:=ae (show n=((Place.sec N ⟨2,a,0⟩:Nat):Int)by rw[en,vB]);have pS:=ae en;have hrl:(x.read n).length=512:=by unfold ak.read;split;exact x.dS hx.sound n;exact hl0
 have GQ:=ae (fun W hh=>EK x lv wv fv n W hh hx);have K0:=ae J0;have K1:=ae J1;have K3:=ae J3;have K4:=ae J4;unfold aV at GQ;clear hHeld hJ J0 J1 J3 J4 vB en HW Cz jw ft iT nN vC FITS hneg hbig;generalize X2=W2 at *;go_upto_region 3 with fail;refine jb (fun X=>Below W2.heap.size W2 X) (fun _=>True) 100 (ax _ W2).drew trivial fun hHeld hJ=>?_;refine jy false 0 rfl (cY (by rfl) 40 _ rfl w.heap.size 0 rfl [lv,wv,.int .i64 x.steps,fv] _ (fun X h=>by have:=dt (K0.out.below h.1 K0.out.lt);simpa using this) bV rfl (au _ _ _ _)) ?_;refine jk false 1 ?_ (hy:=by intro X hX _;have hc:=(K1.out.below hX K1.out.lt).ag 0 rfl;go_simp;try with_reducible rfl);refine jk false 2 ?_;refine QL W2 3 33 34 29 35 36 37 9 10 11 n (x.err n) #[lv,wv,.int .i64 (x.after n).steps,fv] ((x.read n).map aj).toArray
  (fun X=>(rq N ⟨2,a,0⟩ X hN hp2).mono (by rintro e w' ⟨rfl,hb⟩;exact⟨by rw[CA.out],hb⟩))
  (fun X hX=>GQ.out X ((HR.out.below (HW2.out.trans (hX.mono HW2.out.size)) (ai _)).mono (HW2.out.trans (hX.mono HW2.out.size)).size))
  (au _ _ _ _) rfl (dD.out _) (aO _ hrl) (by rw[bE];exact bT _ _ hl0 hrl) (bq _) hHeld ?_
 intro v3 v4 v5 v6 v7 v8 g9 g10 Q hq hl9 aiv Uy Xq;simp only[Act.put,l_,me,mf,mh,mi,mj];clear hHeld hJ GQ;have L1:=(K1.out.below hq K1.out.lt).ag 0 rfl;have J3:=K3.out.below hq K3.out.lt;have J4:=K4.out.below hq K4.out.lt;have HBQ:=HW2.out.trans (hq.mono HW2.out.size);have hw2:w.heap.size+3<W2.heap.size:=K4.out.lt;by_cases gk:x.err n=0
 ·have hrd:x.read n=aP x N a:=by unfold ak.read;rw[aB gk,pS.out];rfl
  have hst:x.after n=x.stepped:=by
   unfold ak.err at gk;unfold ak.after;by_cases ho:n<0∨x.size≤n
   ·rw[aB ho]at gk;cases gk
   ·rw[aG ho]
  have cH:=ae (show bN x N a=(x.after n,tF N (x.read n),if bI N (x.read n) then 0 else 170)by
   unfold bN;rw[BX.out,←pS.out,gk,hrd,hst];rfl)
  have Zb:=QJ N (x.read n) hrl HNZ.out Q;unfold aV at Zb;clear hrd hst;rw[gk];obtain⟨rb,erb⟩:∃rb,rb=x.read n:=⟨_,rfl⟩;rw[←erb]at Zb hrl Xq cH;obtain⟨s1,es1⟩:∃s,s=(x.after n).steps:=⟨_,rfl⟩;rw[←es1]at Uy;have ES:=ae es1;have ze:=ae Zb;clear Zb erb es1;go_wp2_with (refine bt rfl 111 _ rfl g10 rfl 111 (rb.map aj).toArray (0,0) _ Xq dj rfl (aO _ hrl) ?_)
  refine ze.out.mono ?_;rintro e Q3 ⟨v,rfl,hF,⟨v1,vo,vs,rfl⟩,hq3⟩;have HF:=ae hF;obtain⟨_,_,_,ev,hF1,hF2,hF3⟩:=hF.E1;simp at ev;obtain⟨rfl,rfl,rfl,rfl⟩:=ev;have hLQ:w.heap.size+3<Q.heap.size:=J4.lt;obtain⟨ed,Fu⟩:∃ed,ed=(tF N rb).ed:=⟨_,rfl⟩;rw[←Fu]at HF ⊢;have BZ:(#[.int .i64 ed,vo,.slice none 0 0,vs]:Array Value).all (·.oneCell')=true:=by
   obtain⟨_,_,_,rfl,_⟩:=hF1;obtain⟨_,_,_,rfl,_⟩:=hF3;simp[Value.oneCell']
  have uT:(Tryz.prog.info? 28).map (·.size)=some (#[.int .i64 ed,vo,.slice none 0 0,vs]:Array Value).size:=by
   show _=some 4;kernel_rfl
  have M9:=Uy.below hq3 Uy.lt;have M3:=J3.below hq3 J3.lt;have M4:=J4.below hq3 J4.lt;have z:=ah.new Q3 28 aF;have hg3:g9<Q3.heap.size:=M9.lt;have h43:w.heap.size+3<Q3.heap.size:=M4.lt;have Y9:=aH (M9.alloc (.cells aF 28)) #[.int .i64 ed,vo,.slice none 0 0,vs] (g':=Q3.heap.size) (by omega);have Y3:=aH (M3.alloc (.cells aF 28)) #[.int .i64 ed,vo,.slice none 0 0,vs] (g':=Q3.heap.size) (by omega);have Y4:=aH (M4.alloc (.cells aF 28)) #[.int .i64 ed,vo,.slice none 0 0,vs] (g':=Q3.heap.size) (by omega);have YF:=z.row #[.int .i64 ed,vo,.slice none 0 0,vs];have YQ:=aA ((ax Q3.heap.size Q3).alloc (ai _) (.cells aF 28)) #[.int .i64 ed,vo,.slice none 0 0,vs] (g:=Q3.heap.size) (ai _);obtain⟨Y,eY⟩:∃Y,Y=(Q3.alloc (.cells aF 28)).setRow Q3.heap.size #[.int .i64 ed,vo,.slice none 0 0,vs]:=⟨_,rfl⟩;rw[←eY]at Y9 Y3 Y4 YF YQ;have HYW:=ae ((HBQ.trans (hq3.mono HBQ.size)).trans (YQ.mono (by omega)));clear Fu hF1 hF2 hF3 Uy Xq J3 J4 L1 M9 M3 M4;cases hh:bI N rb
  ·go_upto_region 7 with (refine aQ rfl 28 _ _ rfl Q3.heap.size #[.int .i64 ed,vo,.slice none 0 0,vs] rfl rfl 28 aF z uT rfl BZ ?_)
   rw[←eY];have Zc:=cH;replace cH:=ae (show bN x N a=(x.after n,gi,170)by rw[Zc.out,hh,lE hh];rfl);rw[ES.out]at Y9;have J3:=Y3;have J4:=Y4;replace HW2:=HYW;clear eY z Zc Y3 Y4;replace J4:=aH J4 #[lv,wv,.int .i64 (x.after n).steps,fv] (g':=w.heap.size+2) (by omega);go_wp2_with (first
    | (refine bt rfl 40 _ rfl g9 rfl 40 #[lv,wv,.int .i64 (x.after n).steps,fv] (0,0) _ Y9 bV rfl (au _ _ _ _) ?_)
    | (refine bO rfl 28 _ rfl aF (by kernel_rfl) ?_)
    | (refine aQ rfl 40 _ _ rfl (w.heap.size+2) #[lv,wv,.int .i64 (x.after n).steps,fv] rfl rfl 40 aM J3 (au _ _ _ _) rfl (dD.out _) ?_)
    | (refine aQ rfl 28 _ _ rfl (w.heap.size+3) aF rfl rfl 28 aF J4 gq rfl lF ?_))
   have hbf:=aA (aA HW2.out #[lv,wv,.int .i64 (x.after n).steps,fv] (g:=w.heap.size+2) (by omega)) aF (g:=w.heap.size+3) (by omega);exact bc (b_ DF _ _ _ _ _ _ _ (by rfl) (bB (aH (J3.row _) _ (by omega))) (by rfl) (jj (J4.row _)) (by rfl)) rfl ⟨_,by rw[cH.out];rfl,by rw[cH.out];exact fun _ _ _ _=>df _ _,⟨_,_,_,rfl⟩,hbf⟩
  ·go_upto_region 9 with (refine aQ rfl 28 _ _ rfl Q3.heap.size #[.int .i64 ed,vo,.slice none 0 0,vs] rfl rfl 28 aF z uT rfl BZ ?_)
   rw[←eY];clear eY z;obtain⟨gV,egV⟩:∃gV,gV=Q3.heap.size:=⟨_,rfl⟩;rw[←egV]at YF h43 hg3 ⊢;have HYQ:=ae YQ;have y4:w.heap.size+3<Y.heap.size:=Y4.lt;have Y4b:=aH Y4.drew #[lv,wv,.int .i64 s1,fv] (g':=w.heap.size+2) (by omega);have YD:=Y3.drew;clear YQ Y3 Y4;refine jb (fun X=>ah X g9 40 #[lv,wv,.int .i64 s1,fv]∧ah X gV 28 #[.int .i64 ed,vo,.slice none 0 0,vs]) (fun _=>True) 100 ⟨Y9.drew,YF.drew⟩ trivial fun hHeld hJ=>?_;refine jy false 0 rfl (cY (by rfl) 40 _ rfl g9 0 rfl [lv,wv,.int .i64 s1,fv] _ (fun X h=>by have:=dt h.1.1;simpa using this) bV rfl (au _ _ _ _)) ?_;refine jy false 1 rfl (cY (by rfl) 28 _ rfl gV 0 rfl [.int .i64 ed,vo,.slice none 0 0,vs] _ (fun X h=>by have:=dt h.1.2;simpa using this) fw rfl uT) ?_;refine jr 2 fun K hK=>?_;rw[aB (by rfl)];refine ez 40 _ _ rfl (w.heap.size+2) #[lv,wv,.int .i64 s1,fv] rfl rfl 40 aM YD (au _ _ _ _) rfl (dD.out _) ?_;replace hHeld:=And.intro (aH hHeld.1 #[lv,wv,.int .i64 s1,fv] (g':=w.heap.size+2) (by omega)) (aH hHeld.2 #[lv,wv,.int .i64 s1,fv] (g':=w.heap.size+2) (by omega));refine hK.out _ _ ⟨hHeld,fun _=>trivial⟩ ?_;clear hK K;refine jr 3 fun K hK=>?_;rw[aB (by rfl)];refine ez 28 _ _ rfl (w.heap.size+3) #[.int .i64 ed,vo,.slice none 0 0,vs] rfl rfl 28 aF Y4b uT rfl BZ ?_;replace hHeld:=And.intro (aH hHeld.1 #[.int .i64 ed,vo,.slice none 0 0,vs] (g':=w.heap.size+3) (by omega)) (aH hHeld.2 #[.int .i64 ed,vo,.slice none 0 0,vs] (g':=w.heap.size+3) (by omega));refine hK.out _ _ ⟨hHeld,fun _=>trivial⟩ ?_;clear hK K;refine jk false 4 ?_;refine qY ?_;have hbf:=aA (aA HYW.out.drew #[lv,wv,.int .i64 s1,fv] (g:=w.heap.size+2) (by omega)) #[.int .i64 ed,vo,.slice none 0 0,vs] (g:=w.heap.size+3) (by omega);have FY:=ae (Out.trans (Out.trans (vq HYQ.out.drew (fun i hi=>.inr (.inr hi))) (bL #[lv,wv,.int .i64 s1,fv] (.inl rfl)) (fun _ _ h=>h)) (bL #[.int .i64 ed,vo,.slice none 0 0,vs] (.inr (.inl rfl))) (fun _ _ h=>h):Out (fun i=>i=w.heap.size+2∨i=w.heap.size+3∨Q3.heap.size≤i) Q3 _);go_wp2_with fail;refine bc (b_ DF _ _ _ _ _ _ _ (by rfl) (bB (aH (YD.row _) _ (by omega))) (by rfl) (jj (Y4b.row _)) (by rfl)) rfl ⟨_,by rw[cH.out,hh,ES.out];rfl,?_,⟨_,_,_,rfl⟩,hbf⟩;rw[cH.out];intro F W' E3 hF;have hsz:=FY.out.size;refine(HF.out (fun i=>(i=w.heap.size+2∨i=w.heap.size+3∨Q3.heap.size≤i)∨F i) W' (Out.trans (Out.trans (Out.refl _ Q3) FY.out (fun _ _ h=>.inl h)) E3 (fun _ _ h=>.inr h)) (fun i h1 h2 h3=>?_)).mono hsz;rcases h3 with (rfl | rfl | h3) | h3
   ·omega
   ·omega
   ·omega
   ·exact hF i (by omega) (by omega) h3
 ·have cH:=ae (show bN x N a=(x.after n,gi,x.err n)by unfold bN;rw[BX.out,aB rfl,←pS.out,aG gk]);replace HW2:=ae HBQ;have amu:(x.err n != 0)=true:=by simpa using gk
  replace J4:=aH J4 #[lv,wv,.int .i64 (x.after n).steps,fv] (g':=w.heap.size+2) (by omega);go_wp2_with (first
   | (refine bt rfl 40 _ rfl g9 rfl 40 #[lv,wv,.int .i64 (x.after n).steps,fv] (0,0) _ Uy bV rfl (au _ _ _ _) ?_)
   | (refine bO rfl 28 _ rfl aF (by kernel_rfl) ?_)
   | (refine aQ rfl 40 _ _ rfl (w.heap.size+2) #[lv,wv,.int .i64 (x.after n).steps,fv] rfl rfl 40 aM J3 (au _ _ _ _) rfl (dD.out _) ?_)
   | (refine aQ rfl 28 _ _ rfl (w.heap.size+3) aF rfl rfl 28 aF J4 gq rfl lF ?_))
  have hbf:=aA (aA HW2.out #[lv,wv,.int .i64 (x.after n).steps,fv] (g:=w.heap.size+2) (by omega)) aF (g:=w.heap.size+3) (by omega);exact bc (b_ DF _ _ _ _ _ _ _ (by rfl) (bB (aH (J3.row _) _ (by omega))) (by rfl) (jj (J4.row _)) (by rfl)) rfl ⟨_,by rw[cH.out];rfl,by rw[cH.out];exact fun _ _ _ _=>df _ _,⟨_,_,_,rfl⟩,hbf⟩
theorem Hf (x:ak) (lv wv fv:Value) (N area:Int) (w:World) (h:bu w w.heap.size lv wv fv x) (hx:x.ok) :
 Calls Tryz.prog 31 #[.agg #[lv,wv,.int .i64 x.steps,fv],.agg #[.int .i64 N],.int .i64 area] w fun e w'=>∃v,e=.returned (.tuple #[.agg #[lv,wv,.int .i64 (bN x N area).1.steps,fv],v,.int .i64 (bN x N area).2.2]) ∧
  dw w.heap.size w' v (bN x N area).2.1∧(∃a1 b1 c1,v=.agg #[a1,b1,.slice none 0 0,c1])∧Below w.heap.size w w':=by
 cases ha:da N x.size area
 ·exact Uw x lv wv fv N area w h hx ha
 ·exact Ux x lv wv fv N area w h hx ha
theorem QM (D:aX) (x:ak) (N area:Int) (w:World) (h:aE w D x) (hx:x.ok) (bU:da N x.size area=true) (he2:x.err (aJ N 2 area 0).1=0) (hh:bI N (aP x N area)=false) :
 Calls Tryz.prog 23 #[ptr D.p,.agg #[.int .i64 N],.int .i64 area] w fun e w'=>e=.returned (.tuple #[.agg aF,.int .i64 170])∧aE w' D x.stepped∧DStep D D w w':=by
 have hN:N≤64:=by have h:=bU;unfold da aZ at h;simp at h;omega
 have hD:=ae h.has_lt;obtain⟨W0,a_⟩:∃W,W=((w.alloc (.cells #[.int .i64 N] 23)).alloc (.cells aF 28)).alloc (.cells #[.int .i64 0] 32):=⟨_,rfl⟩;have hw0:Below w.heap.size w W0:=by rw[a_];exact(((ax _ w).alloc (ai _) _).alloc (by simp) _).alloc (by simp;omega) _
 have hs0:W0.heap.size=w.heap.size+3:=by rw[a_];simp
 have k1:ah W0 w.heap.size 23 #[.int .i64 N]:=by rw[a_];exact((ah.new w _ _).alloc _).alloc _
 have k3:ah W0 (w.heap.size+1) 28 aF:=by rw[a_];exact(ah.new2 w _ _ _).alloc _
 have k4:ah W0 (w.heap.size+2) 32 #[.int .i64 0]:=by rw[a_];exact ah.new' (by simp)
 have nZ:=ae (jL D x N area W0 (h.below hw0) hx);have HDK:=ae (h.below hw0);have HB0:=ae hw0;have c1:=k1.ag 0 rfl;have K1:=ae k1;have K3:=ae k3;have K4:=ae k4;rw[bU]at nZ;have uQ:=ae (fun W hh=>yl D x N area W hh hx hN he2);unfold ptr at *;clear h hw0 k1 k3 k4;go_enter_defers DT,DL
 go_upto_region 1 with fail;rw[←a_];clear a_;go_wp2_with fail;refine nZ.out.mono ?_;rintro e w1 ⟨rfl,hb1⟩;unfold dr;rw[aB rfl];have HB1:=ae (HB0.out.trans (hb1.mono (by omega)));have c1':=(K1.out.below hb1 (by omega)).ag 0 rfl;have J1:=ae (K1.out.below hb1 (by omega));have J3:=ae (K3.out.below hb1 (by omega));have J4:=ae (K4.out.below hb1 (by omega));have hsz1:=hb1.size;have HD1:=ae (HDK.out.below hb1);clear hb1 nZ c1 K1 K3 K4;go_wp2_with fail;refine(uQ.out w1 HD1.out).mono ?_;rintro e w2 ⟨hd2,hs2,hv2⟩;unfold aP at hh;rw[hh]at hv2;obtain rfl:e=.panicked (lg 170):=hv2;have hnD:∀i,w.heap.size≤i→¬D.has i:=fun i hi hd=>by have:=hD.out i hd;omega
 have b3:=hs2.out.blk J3.out (hnD _ (by omega));have b4:=hs2.out.blk J4.out (hnD _ (by omega));have HD2:=ae hd2;have HS2:=ae (hs2.first HB1.out hD.out);have B3:=ae b3;have B4:=ae b4;clear hd2 hs2 b3 b4 J1 J3 J4 hh;go_wp2_with fail;refine qi (f:=68) (args:=#[ptr (w.heap.size+2)]) (by simp) (by simp[go_sem,ptr]) ?_;refine(nq (w.heap.size+2) _ 170 0 w2 B4.out).mono ?_;rintro e u' w'' ⟨rfl,rfl,rfl⟩;have b3:ah ((w2.setCell ⟨w.heap.size+2,0,none⟩ (.int .i64 170)).alloc (.cells #[.int .i64 170] 211)) (w.heap.size+1) 28 aF:=(B3.out.far (by simp) _).alloc _;have b4:ah ((w2.setCell ⟨w.heap.size+2,0,none⟩ (.int .i64 170)).alloc (.cells #[.int .i64 170] 211)) (w.heap.size+2) 32 #[.int .i64 170]:=(B4.out.br 0 _).alloc _;refine⟨_,dq DG _ _ (w.heap.size+1) 28 aF (0,0) _ rfl b3 fw rfl (by kernel_rfl) _ _ rfl (gL _ (w.heap.size+2) _ _ b4),rfl,?_,?_⟩
 ·exact(HD2.out.out (F:=fun i=>i=w.heap.size+2) (bk rfl) (fun i hi e=>by have:=hD.out i hi;omega)).below ((ax _ _).alloc (ai _) _)
 ·exact DStep.below ⟨HS2.out.out.trans (bk (F:=fun i=>i=w.heap.size+2) rfl) (fun i hi e=>by omega),rfl,fun i hi=>.inl hi⟩ ((ax _ _).alloc (ai _) _)
attribute [local go_sem] kM
theorem Xr (S:Array Value) (ed c:Int) (vo vb vs vm:Value) (h:S=#[.int .i64 ed,vo,vb,vs,.int .i64 c,vm]):(Tryz.prog.info? 142).map (·.size)=some S.size:=by rw[h];kernel_rfl
end Go.Proofs.YtdpniceapmikpaaGreat
