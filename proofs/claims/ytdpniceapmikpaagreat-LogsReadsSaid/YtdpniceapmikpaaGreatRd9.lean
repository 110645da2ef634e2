/-
  The reference's Write of a frame.
-/
import Derived.Test.YtdpniceapmikpaaGreatRd1
import Derived.Test.YtdpniceapmikpaaGreatRd4
import Derived.Test.YtdpniceapmikpaaGreatRd6
import Derived.Test.YtdpniceapmikpaaGreatRd8
import Derived.Test.YtdpniceapmikpaaGreatRd5
import Derived.Test.YtdpniceapmikpaaGreatRd2
set_option linter.unusedVariables false
set_option linter.unusedSimpArgs false
set_option maxRecDepth 100000
set_option maxHeartbeats 32000000
namespace Go.Proofs.YtdpniceapmikpaaGreat
open Go.RowKit
def ji:ak→List aI→ak×Int
 | x,[]=>(x,0)
 | x,y::ys=>if x.err y.n=0 then ji (x.write y.n y.b) ys else (x.write y.n y.b,x.err y.n)
def fp (x:ak) (ys:List aI):ak:=ys.foldl (fun x y=>x.write y.n y.b) x
theorem Lo (x:ak) (ys:List aI) (y:aI):fp x (ys++[y])=(fp x ys).write y.n y.b:=by simp[fp]
theorem tB (a b c d:Value):(Tryz.prog.info? 28).map (·.size)=some ([a,b,c,d]:List Value).length:=by
 show _=some 4;kernel_rfl
def gW (x:ak) (N area:Int) (f:bY) (ys:List aI):ak×Int:=if da N x.size area&&gh N f then ji x ys else (x,2)
theorem A7 (N size area:Int):da N size area=((aZ N&&decide (20+3*N≤size))&&(!decide (area<0) && !decide (1<area))):=by
 unfold da;have g2:decide (0≤area) = !decide (area<0):=by rw[←Ab];congr 1;simp[Int.not_lt]
 have g3:decide (area≤1) = !decide (1<area):=by rw[←Ab];congr 1;simp[Int.not_lt]
 rw[g2,g3,Jc]
theorem s':∀ (ys:List aI) (x:ak),fe (fp x ys)=fe x∧(fp x ys).fails=x.fails∧(fp x ys).size=x.size
 | [],x=>⟨rfl,rfl,rfl⟩
 | y::ys,x=>by
  have h:=s' ys (x.write y.n y.b);have e:fe (x.write y.n y.b)=fe x∧(x.write y.n y.b).fails=x.fails∧(x.write y.n y.b).size=x.size:=by
   unfold ak.write;split
   ·exact⟨rfl,rfl,rfl⟩
   ·split<;>exact⟨rfl,rfl,rfl⟩
  show fe (fp (x.write y.n y.b) ys)=_∧(fp (x.write y.n y.b) ys).fails=_∧(fp (x.write y.n y.b) ys).size=_;exact⟨h.1.trans e.1,h.2.1.trans e.2.1,h.2.2.trans e.2.2⟩
theorem rK (n:Int):aM[0]? ≠ some (.int .i64 n):=by simp
theorem cC.far {W:World} {B:Nat} {v:Value} {ws:List aI} (h:cC W B v ws) {g0:Nat} {t:TypeId} {cs:Array Value} (cs':Array Value) (hb:ah W g0 t cs) (h0:∀n,cs[0]? ≠ some (.int .i64 n)):cC (W.setRow g0 cs') B v ws:=by
 obtain⟨hl,hws,a,cap,rfl,h2⟩:=h;refine⟨hl,hws,a,cap,rfl,fun i y hi=>?_⟩;obtain⟨g,rfl,hg,hr⟩:=h2 i y hi;have hne:g≠g0:=by
  rintro rfl;have hlt:0<ws.length:=by
   cases ws with
   | nil=>simp at hi
   | cons z ws=>simp
  obtain⟨g',e,_,hr'⟩:=h2 0 (ws[0]'hlt) (aY hlt);cases e
  have hc:=hr' 0 (.int .i64 (ws[0]'hlt).n) (by unfold aI.cells;rfl);have hc2:=hb.cell 0;rw[xb,JC]at hc;exact h0 _ (hc2.symm.trans hc)
 exact⟨g,rfl,hg,fun j u hj=>(lL (a:=⟨g,i*513+j,none⟩) (kO W g0 g cs' hne)).trans (hr j u hj)⟩
theorem E5 (x:ak) (lv wv fv:Value) (N area:Int) (f:bY) (fr:Value) (ys:List aI) (w:World) (h:bu w w.heap.size lv wv fv x) (hx:x.ok) (hf:cL w w.heap.size fr f)
 (hys:∀y∈ys,y.b.length=512) (hyl:ys.length≤100)
 (Ii:da N x.size area=true→gh N f=true→∀W,Below w.heap.size w W→Calls Tryz.prog 49 #[.agg #[.int .i64 N],.int .i64 area,fr] W fun e w'=>∃v,e=.returned v∧cC w' w'.heap.size v ys∧Below W.heap.size W w')
 (hok:∀k,k≤ys.length→(fp x (ys.take k)).ok) :
 Calls Tryz.prog 17 #[.agg #[lv,wv,.int .i64 x.steps,fv],.agg #[.int .i64 N],.int .i64 area,fr] w fun e w'=>∃wv',e=.returned (.tuple #[.agg #[lv,wv',.int .i64 (gW x N area f ys).1.steps,fv],.int .i64 (gW x N area f ys).2]) ∧
  bu w' w'.heap.size lv wv' fv (gW x N area f ys).1∧Below w.heap.size w w'∧(∀g,wv'.ownBlock=some g→wv'.ownBlock=wv.ownBlock∨w.heap.size≤g):=by
 have dD:=ae h.one;have jw:=ae (fun W hh=>oB x lv wv fv x.steps W hh hx);have HR:=ae h;have Yv:=ae hf;have uF:=ae (fun W hh=>Nf N f fr W hh);have HLY:=ae Ii;obtain⟨vo,vb,vs,rfl,hf1,hf2,hf3⟩:=hf;obtain⟨W,eW⟩:∃W,W=(((w.alloc (.cells #[lv,wv,.int .i64 x.steps,fv] 40)).alloc (.cells #[.int .i64 N] 23)).alloc (.cells #[.int .i64 f.ed,vo,vb,vs] 28)).alloc (.cells aM 40):=⟨_,rfl⟩;have hbW:Below w.heap.size w W:=by rw[eW];exact((((ax _ w).alloc (ai _) _).alloc (by simp) _).alloc (by simp;omega) _).alloc (by simp;omega) _
 have k0:ah W w.heap.size 40 #[lv,wv,.int .i64 x.steps,fv]:=by rw[eW];exact(((ah.new w _ _).alloc _).alloc _).alloc _
 have k1:ah W (w.heap.size+1) 23 #[.int .i64 N]:=by rw[eW];exact((ah.new2 w _ _ _).alloc _).alloc _
 have k2:ah W (w.heap.size+2) 28 #[.int .i64 f.ed,vo,vb,vs]:=by rw[eW];exact(ah.new' (by simp)).alloc _
 have k3:ah W (w.heap.size+3) 40 aM:=by rw[eW];exact ah.new' (by simp)
 clear h hf1 hf2 hf3 Ii;go_enter Tryz.func17,Tryz.ntmps17
 go_upto_region 1 with fail;rw[←eW];clear eW;have HW:=ae hbW;have ft:=ae k0;have iT:=ae k1;have iS:=ae k2;have nN:=ae k3;have SK:=ae (fun(W':World) (hb':Below W.heap.size W W')=>(⟨by have:=dt (k0.below hb' k0.lt);simpa using this,(k1.below hb' k1.lt).ag 0 rfl,by have:=dt (k2.below hb' k2.lt);simpa using this⟩:W'.rangeAt w.heap.size 0 [lv,wv,.int .i64 x.steps,fv]∧W'.cell? ⟨w.heap.size+1,0,none⟩=some (.int .i64 N)∧W'.rangeAt (w.heap.size+2) 0 [.int .i64 f.ed,vo,vb,vs]));have hb0:Below W.heap.size W W.drew:=(ax _ W).drew;have Cz:=ae (A7 N x.size area);clear hbW k0 k1 k2 k3;cases hfit:(aZ N&&decide (20+3*N≤x.size))
 ·have FITS:=hfit;have cH:=ae (show gW x N area f ys=(x,2)by unfold gW;rw[Cz.out,hfit];rfl);refine bF (S:=(fun w'=>w'.rangeAt w.heap.size 0 [lv,wv,.int .i64 x.steps,fv]∧w'.cell? ⟨w.heap.size+1,0,none⟩=some (.int .i64 N)∧w'.rangeAt (w.heap.size+2) 0 [.int .i64 f.ed,vo,vb,vs])) (by kernel_rfl) (by(try dsimp only);exact SK.out _ hb0) (fun hHeld=>?_);generalize W.drew=X0 at *;refine ty 0 rfl (cY (by rfl) 40 _ rfl w.heap.size 0 rfl [lv,wv,.int .i64 x.steps,fv] _ (fun w' h=>h.1) bV rfl (au _ _ _ _)) ?_;refine tk 2 ?_;refine rd 1 fun K hK=>?_;go_simp;refine(jw.out X0 ((HR.out.below (HW.out.trans (hb0.mono HW.out.size)) (ai _)).mono ((HW.out.trans (hb0.mono HW.out.size))).size)).mono ?_;rintro e X1 ⟨rfl,hb1'⟩;have hb1:=hb0.trans (hb1'.mono hb0.size);go_wp2_with fail;refine hK.out _ _ (by(try dsimp only);exact SK.out _ hb1) (fun hHeld=>?_);clear hK K;refine rd 3 fun K hK=>?_;go_simp;refine(nL x.size N X1).mono ?_;rintro e X2 ⟨rfl,hb2'⟩;have hb2:=hb1.trans (hb2'.mono hb1.size);rw[FITS];go_wp2_with fail;refine hK.out _ _ (by(try dsimp only);exact SK.out _ hb2) (fun hHeld=>?_);clear hK K;refine tk 4 ?_;refine tk 5 ?_;refine tu 6 ?_;refine tu 7 ?_;refine tk 8 ?_;refine tk 9 ?_;refine tu 10 ?_;refine tu 11 ?_;refine tk 12 ?_;refine tk 13 ?_;refine tu 14 ?_;refine tu 15 ?_;refine tu 16 ?_;refine tu 17 ?_;refine tk 18 ?_;refine aT ?_;have J0:=ft.out.below hb2 ft.out.lt;have J3:=nN.out.below hb2 nN.out.lt;have E6:=(HW.out.trans (hb2.mono HW.out.size));go_wp2_with (first
   | (refine bt rfl 40 _ rfl w.heap.size rfl 40 #[lv,wv,.int .i64 x.steps,fv] (0,0) _ J0 bV rfl (au _ _ _ _) ?_)
   | (refine aQ rfl 40 _ _ rfl (w.heap.size+3) #[lv,wv,.int .i64 x.steps,fv] rfl rfl 40 aM J3 (au _ _ _ _) rfl (dD.out _) ?_))
  have hbf:=aA E6 #[lv,wv,.int .i64 x.steps,fv] (g:=w.heap.size+3) (by omega);exact bc (bn tQ _ _ _ _ _ (by rfl) (bB (J3.row _)) (by rfl)) rfl ⟨wv,by rw[cH.out];rfl,by rw[cH.out];exact(HR.out.below hbf (ai _)).mono hbf.size,hbf,fun _ _=>.inl rfl⟩
 ·have FITS:=hfit;cases hneg:decide (area<0)
  ·cases hbig:decide (1<area)
   ·cases Lp:gh N f
    ·have CHK:=Lp;have cH:=ae (show gW x N area f ys=(x,2)by unfold gW;rw[Cz.out,hfit,hneg,hbig,Lp];rfl);refine bF (S:=(fun w'=>w'.rangeAt w.heap.size 0 [lv,wv,.int .i64 x.steps,fv]∧w'.cell? ⟨w.heap.size+1,0,none⟩=some (.int .i64 N)∧w'.rangeAt (w.heap.size+2) 0 [.int .i64 f.ed,vo,vb,vs])) (by kernel_rfl) (by(try dsimp only);exact SK.out _ hb0) (fun hHeld=>?_);generalize W.drew=X0 at *;refine ty 0 rfl (cY (by rfl) 40 _ rfl w.heap.size 0 rfl [lv,wv,.int .i64 x.steps,fv] _ (fun w' h=>h.1) bV rfl (au _ _ _ _)) ?_;refine tk 2 ?_;refine rd 1 fun K hK=>?_;go_simp;refine(jw.out X0 ((HR.out.below (HW.out.trans (hb0.mono HW.out.size)) (ai _)).mono ((HW.out.trans (hb0.mono HW.out.size))).size)).mono ?_;rintro e X1 ⟨rfl,hb1'⟩;have hb1:=hb0.trans (hb1'.mono hb0.size);go_wp2_with fail;refine hK.out _ _ (by(try dsimp only);exact SK.out _ hb1) (fun hHeld=>?_);clear hK K;refine rd 3 fun K hK=>?_;go_simp;refine(nL x.size N X1).mono ?_;rintro e X2 ⟨rfl,hb2'⟩;have hb2:=hb1.trans (hb2'.mono hb1.size);rw[FITS];go_wp2_with fail;refine hK.out _ _ (by(try dsimp only);exact SK.out _ hb2) (fun hHeld=>?_);clear hK K;refine tk 4 ?_;refine tk 5 ?_;refine tk 6 ?_;refine tk 7 ?_;refine tk 8 ?_;refine tk 9 ?_;refine tk 10 ?_;refine tk 11 ?_;refine tk 12 ?_;refine tk 13 ?_;refine tk 14 ?_;refine ty 15 rfl (cY (by rfl) 28 _ rfl (w.heap.size+2) 0 rfl [.int .i64 f.ed,vo,vb,vs] _ (fun w' h=>h.2.2) fw rfl (tB _ _ _ _)) ?_;refine rd 16 fun K hK=>?_;go_simp;refine(uF.out X2 ((Yv.out.below (HW.out.trans (hb2.mono HW.out.size)) (ai _)).mono ((HW.out.trans (hb2.mono HW.out.size))).size)).mono ?_;rintro e X3 ⟨rfl,PR⟩;have hb3:=hb2.trans (PR.mono hb2.size);rw[CHK];go_wp2_with fail;refine hK.out _ _ (by(try dsimp only);exact SK.out _ hb3) (fun hHeld=>?_);clear hK K;refine tk 17 ?_;refine tk 18 ?_;refine aT ?_;have J0:=ft.out.below hb3 ft.out.lt;have J3:=nN.out.below hb3 nN.out.lt;have E6:=(HW.out.trans (hb3.mono HW.out.size));go_wp2_with (first
      | (refine bt rfl 40 _ rfl w.heap.size rfl 40 #[lv,wv,.int .i64 x.steps,fv] (0,0) _ J0 bV rfl (au _ _ _ _) ?_)
      | (refine aQ rfl 40 _ _ rfl (w.heap.size+3) #[lv,wv,.int .i64 x.steps,fv] rfl rfl 40 aM J3 (au _ _ _ _) rfl (dD.out _) ?_))
     have hbf:=aA E6 #[lv,wv,.int .i64 x.steps,fv] (g:=w.heap.size+3) (by omega);exact bc (bn tQ _ _ _ _ _ (by rfl) (bB (J3.row _)) (by rfl)) rfl ⟨wv,by rw[cH.out];rfl,by rw[cH.out];exact(HR.out.below hbf (ai _)).mono hbf.size,hbf,fun _ _=>.inl rfl⟩
    ·have CHK:=Lp;refine bF (S:=(fun w'=>w'.rangeAt w.heap.size 0 [lv,wv,.int .i64 x.steps,fv]∧w'.cell? ⟨w.heap.size+1,0,none⟩=some (.int .i64 N)∧w'.rangeAt (w.heap.size+2) 0 [.int .i64 f.ed,vo,vb,vs])) (by kernel_rfl) (by(try dsimp only);exact SK.out _ hb0) (fun hHeld=>?_);generalize W.drew=X0 at *;refine ty 0 rfl (cY (by rfl) 40 _ rfl w.heap.size 0 rfl [lv,wv,.int .i64 x.steps,fv] _ (fun w' h=>h.1) bV rfl (au _ _ _ _)) ?_;refine tk 2 ?_;refine rd 1 fun K hK=>?_;go_simp;refine(jw.out X0 ((HR.out.below (HW.out.trans (hb0.mono HW.out.size)) (ai _)).mono ((HW.out.trans (hb0.mono HW.out.size))).size)).mono ?_;rintro e X1 ⟨rfl,hb1'⟩;have hb1:=hb0.trans (hb1'.mono hb0.size);go_wp2_with fail;refine hK.out _ _ (by(try dsimp only);exact SK.out _ hb1) (fun hHeld=>?_);clear hK K;refine rd 3 fun K hK=>?_;go_simp;refine(nL x.size N X1).mono ?_;rintro e X2 ⟨rfl,hb2'⟩;have hb2:=hb1.trans (hb2'.mono hb1.size);rw[FITS];go_wp2_with fail;refine hK.out _ _ (by(try dsimp only);exact SK.out _ hb2) (fun hHeld=>?_);clear hK K;refine tk 4 ?_;refine tk 5 ?_;refine tk 6 ?_;refine tk 7 ?_;refine tk 8 ?_;refine tk 9 ?_;refine tk 10 ?_;refine tk 11 ?_;refine tk 12 ?_;refine tk 13 ?_;refine tk 14 ?_;refine ty 15 rfl (cY (by rfl) 28 _ rfl (w.heap.size+2) 0 rfl [.int .i64 f.ed,vo,vb,vs] _ (fun w' h=>h.2.2) fw rfl (tB _ _ _ _)) ?_;refine rd 16 fun K hK=>?_;go_simp;refine(uF.out X2 ((Yv.out.below (HW.out.trans (hb2.mono HW.out.size)) (ai _)).mono ((HW.out.trans (hb2.mono HW.out.size))).size)).mono ?_;rintro e X3 ⟨rfl,PR⟩;have hb3:=hb2.trans (PR.mono hb2.size);rw[CHK];go_wp2_with fail;refine hK.out _ _ (by(try dsimp only);exact SK.out _ hb3) (fun hHeld=>?_);clear hK K;refine tk 17 ?_;refine tk 18 ?_;refine aT ?_;have J0:=ft.out.below hb3 ft.out.lt;have J1:=(iT.out.below hb3 iT.out.lt).ag 0 rfl;have J2:=iS.out.below hb3 iS.out.lt;have J3:=nN.out.below hb3 nN.out.lt;have HB3:=HW.out.trans (hb3.mono HW.out.size);have bU:da N x.size area=true:=by rw[Cz.out,hfit,hneg,hbig];rfl
     have cH:=ae (show gW x N area f ys=ji x ys by unfold gW;rw[bU,Lp];rfl);have HL0:=ae (HLY.out bU Lp X3 HB3);clear hb0 hb1 hb2 hb1' hb2' PR;go_wp2_with (refine bt rfl 28 _ rfl (w.heap.size+2) rfl 28 #[.int .i64 f.ed,vo,vb,vs] (0,0) _ J2 fw rfl (tB _ _ _ _) ?_)
     refine HL0.out.mono ?_;rintro e X4 ⟨v,rfl,hL,hb4⟩;obtain⟨amV,amW,ay,cy,rfl,aik⟩:=id hL;have hL0:=hL;have M0:=J0.below hb4 J0.lt;have M3:=J3.below hb4 J3.lt;have iz:=HB3.trans (hb4.mono HB3.size);have Ij:∀ (a b c:Value) (n:Int),(#[lv,a,b,c]:Array Value)[0]? ≠ some (.int .i64 n):=by
      obtain⟨_,_,_,rfl,_⟩:=HR.out.lasts;intro a b c n hh;simp at hh
     have Cr:=(HR.out.below iz (ai _)).mono iz.size;clear hL J0 J1 J2 J3 hb4 aik HB3;go_wp2_with fail;go_loopw [11] (fun i wr=>∃ (k:Nat) (pQ:Value),k≤ys.length∧i=.int .i64 (k:Int)∧Hid (ji x ys=ji (fp x (ys.take k)) (ys.drop k))∧ah wr w.heap.size 40 #[lv,pQ,.int .i64 (fp x (ys.take k)).steps,fv]∧ah wr (w.heap.size+3) 40 aM∧cC wr wr.heap.size pQ (fp x (ys.take k)).waits∧(∀g,pQ.ownBlock=some g→pQ.ownBlock=wv.ownBlock∨w.heap.size≤g)∧cC wr wr.heap.size (.slice ay ys.length cy) ys∧Below w.heap.size w wr) (fun i _=>ys.length-(intOf i).toNat)
     case atStart=>exact⟨0,wv,by omega,rfl,ae rfl,M0,M3,Cr.waits,fun _ _=>.inl rfl,hL0,iz⟩
     case round =>
      obtain⟨k,pQ,hk,rfl,E7,hB0,hB3,hWk,PS,hLw,hBw⟩:=hrel;have hkeep:=ae (s' (ys.take k) x);by_cases hlt:k<ys.length
      ·have Cv:(k:Int)<(ys.length:Int):=by omega
       obtain⟨y,hy⟩:∃y,ys[k]? = some y:=⟨_,aY hlt⟩;have hdrop:ys.drop k=y::ys.drop (k+1):=by
        have:=pg hlt;rw[this];have e:ys[k]=y:=by have h2:=aY hlt;rw[hy]at h2;exact(gH h2).symm
        rw[e]
       have hsucc:fp x (ys.take (k+1))=(fp x (ys.take k)).write y.n y.b:=by
        rw[gG,hy,←Lo];rfl
       have hxk:=hok k hk;have PT:=hok (k+1) hlt;rw[hsucc]at PT;have hyb:=hys y (je hy);obtain⟨_,g,eg,hg,hc1,hc2⟩:=hLw.at_ hy;subst eg;obtain⟨n,b⟩:=y;simp only at hsucc PT hyb hc1 hc2;have hlk:=hkeep.out;obtain⟨xk,N9⟩:∃xk,xk=fp x (ys.take k):=⟨_,rfl⟩;rw[←N9]at hsucc hxk PT E7 hB0 hWk hlk;have Ik:=ae hdrop;have BP:=ae hsucc;have hlk2:=s' (ys.take (k+1)) x;rw[hsucc]at hlk2;have PU:=ae hlk2;have EXK:=ae N9;clear hdrop hsucc N9 hlk2;have hRk:bu wr wr.heap.size lv pQ fv xk:=by
        have hr0:=(HR.out.below hBw (ai _)).mono hBw.size;exact⟨by rw[hlk.1];exact hr0.lasts,hWk,by rw[hlk.2.1];exact hr0.fails⟩
       have HWR:=ae (fun W hh=>MX xk lv pQ fv n b W hh hxk hyb PT);have HLW:=ae hLw;have AG:=ae hBw;have Wa:(Tryz.prog.info? 111).map (·.size)=some (b.map aj).length:=by simpa using aO b hyb
       have Lq:=ae (fun(W':World) (hb':Below wr.heap.size wr W')=>(⟨by have:=dt (hB0.below hb' hB0.lt);simpa using this,(hb'.cell (p:=⟨g,k*513,none⟩) hg).trans hc1,dE hc2 hb' hg⟩:W'.rangeAt w.heap.size 0 [lv,pQ,.int .i64 xk.steps,fv]∧W'.cell? ⟨g,k*513,none⟩=some (.int .i64 n)∧W'.rangeAt g (k*513+1) (b.map aj)));have hb0:Below wr.heap.size wr wr.drew:=(ax _ wr).drew;unfold aV at HWR;clear hLw hBw hkeep hc1 hc2 hlk;go_upto_region 7 with fail;refine bF (S:=(fun w'=>w'.rangeAt w.heap.size 0 [lv,pQ,.int .i64 xk.steps,fv]∧w'.cell? ⟨g,k*513,none⟩=some (.int .i64 n)∧w'.rangeAt g (k*513+1) (b.map aj))) (by kernel_rfl) (by(try dsimp only);exact Lq.out _ hb0) (fun hHeld=>?_);generalize wr.drew=X0 at *;refine ty 0 rfl (cY (by rfl) 40 _ rfl w.heap.size 0 rfl [lv,pQ,.int .i64 xk.steps,fv] _ (fun w' h=>h.1) bV rfl (au _ _ _ _)) ?_;refine tk 1 ?_;refine tk 2 ?_;refine tk 6 ?_;refine tk 7 ?_;refine tk 3 ?_;refine tk 8 ?_;refine tk 4 ?_;refine tk 9 ?_;refine tk 5 ?_;refine ty 10 rfl (cY (by rfl) 111 _ rfl g (k*513+1) rfl (b.map aj) _ (fun w' h=>h.2.2) dj rfl Wa) ?_;refine fU (rs:=[11,15]) (by kernel_rfl) (by simp) ?_;refine(ca rfl (fun K hK=>?_) (ca rfl (fun K hK=>?_) fT))
       ·skip
        go_simp;refine(HWR.out X0 ((hRk.below hb0 (ai _)).mono hb0.size)).mono ?_;rintro e X1 ⟨wv2,rfl,hR2,hb1',hown2⟩;have hb1:=hb0.trans (hb1'.mono hb0.size);go_wp2_with fail;refine hK.out _ _ (by(try dsimp only);exact Lq.out _ hb1) (fun hHeld=>?_);clear hK K;refine tk 12 ?_;refine tk 13 ?_;refine tk 14 ?_;refine rd 15 fun K hK=>?_;go_simp;obtain⟨X2,lJ⟩:∃V,V=X1.alloc (.cells aM 40):=⟨_,rfl⟩;have hb2:Below wr.heap.size wr X2:=by rw[lJ];exact hb1.alloc hb1.size _
        have bz:ah X2 X1.heap.size 40 aM:=by rw[lJ];exact ah.new X1 _ _
        have hzl:wr.heap.size≤X1.heap.size:=hb1.size;have hW2:=(hR2.waits.below ((ax _ X1).alloc (ai _) (.cells aM 40)) (ai _)).more (B':=(X1.alloc (.cells aM 40)).heap.size) (by simp);rw[←lJ]at hW2;try rw[←lJ]
        clear lJ;refine hK.out _ _ (by(try dsimp only);exact Lq.out _ hb2) (fun hHeld=>?_);clear hK K;refine rd 16 fun K hK=>?_;refine ez 40 _ _ rfl X1.heap.size #[lv,wv2,.int .i64 (xk.write n b).steps,fv] rfl rfl 40 aM bz (au _ _ _ _) rfl (hR2.one _) ?_;refine hK.out _ _ (by(try dsimp only);exact Lq.out _ (aA hb2 _ hzl)) (fun hHeld=>?_);clear hK K;refine tk 17 ?_;refine aT ?_;have Tz:=bz.row #[lv,wv2,.int .i64 (xk.write n b).steps,fv];have dT:=aA hb2 #[lv,wv2,.int .i64 (xk.write n b).steps,fv] (g:=X1.heap.size) hzl;have TA:=hW2.far #[lv,wv2,.int .i64 (xk.write n b).steps,fv] bz rK;have TB:=(HLW.out.below hb2 (ai _)).far #[lv,wv2,.int .i64 (xk.write n b).steps,fv] bz rK;have c0b:=hB0.below dT hB0.lt;have NV:=hB3.below dT hB3.lt;have yu:=ae (hR2.one (xk.write n b).steps);have hbz:X1.heap.size≠w.heap.size:=by have:=hB0.lt;omega
        have TC:=AG.out.trans (dT.mono AG.out.size);have E8:=ae (c0b.row #[lv,wv2,.int .i64 (xk.write n b).steps,fv]);have hrow3:=ae (aH NV #[lv,wv2,.int .i64 (xk.write n b).steps,fv] (g':=w.heap.size) (by omega));have hbf:=ae (aA TC #[lv,wv2,.int .i64 (xk.write n b).steps,fv] (g:=w.heap.size) (ai _));have hWf:=ae (TA.far #[lv,wv2,.int .i64 (xk.write n b).steps,fv] c0b (Ij _ _ _));have hLf:=ae (TB.far #[lv,wv2,.int .i64 (xk.write n b).steps,fv] c0b (Ij _ _ _));have Db:X2.heap.size=(X2.setRow X1.heap.size #[lv,wv2,.int .i64 (xk.write n b).steps,fv]).heap.size:=by simp
        have E9:∀g',wv2.ownBlock=some g'→wv2.ownBlock=wv.ownBlock∨w.heap.size≤g':=fun g' hg'=>by
         rcases hown2 g' hg' with h9 | h9
         ·rw[h9]at hg';rcases PS g' hg' with h8 | h8
          ·exact .inl (h9.trans h8)
          ·exact .inr h8
         ·exact .inr (by have:=AG.out.size;have:=hb0.size;have:=hb1.size;omega)
        clear TA TB TC bz hW2 hR2 hown2;generalize X2.setRow X1.heap.size #[lv,wv2,.int .i64 (xk.write n b).steps,fv]=Y at *;by_cases gk:xk.err n=0
        ·have hE0:ji x ys=ji (xk.write n b) (ys.drop (k+1)):=by
          rw[E7.out,Ik.out];show(if xk.err n=0 then _ else _)=_;rw[aB gk]
         rw[gk];go_wp2_with (first
          | (refine bt rfl 40 _ rfl (X1.heap.size) rfl 40 #[lv,wv2,.int .i64 (xk.write n b).steps,fv] (0,0) _ Tz bV rfl (au _ _ _ _) ?_)
          | (refine aQ rfl 40 _ _ rfl w.heap.size #[lv,wv2,.int .i64 (xk.write n b).steps,fv] rfl rfl 40 _ c0b (au _ _ _ _) rfl yu.out ?_))
         go_roundw
         case rel=>exact⟨k+1,wv2,by omega,by go_num,by rw[BP.out];exact ae hE0,by rw[BP.out];exact E8.out,hrow3.out,by rw[BP.out];exact(by have:=hWf.out;rw[Db]at this;simpa using this),E9,(by have:=hLf.out;exact this.more (by simp;have:=hb2.size;omega)),hbf.out⟩
         case measure=>simp[intOf];omega
        ·have hE0:ji x ys=(xk.write n b,xk.err n):=by
          rw[E7.out,Ik.out];show(if xk.err n=0 then _ else _)=_;rw[aG gk]
         have qH:=ae hE0;have hf3:=aA hbf.out #[lv,wv2,.int .i64 (xk.write n b).steps,fv] (g:=w.heap.size+3) (by omega);go_wp2_with (first
          | (refine bt rfl 40 _ rfl (X1.heap.size) rfl 40 #[lv,wv2,.int .i64 (xk.write n b).steps,fv] (0,0) _ Tz bV rfl (au _ _ _ _) ?_)
          | (refine bt rfl 40 _ rfl w.heap.size rfl 40 #[lv,wv2,.int .i64 (xk.write n b).steps,fv] (0,0) _ E8.out bV rfl (au _ _ _ _) ?_)
          | (refine aQ rfl 40 _ _ rfl w.heap.size #[lv,wv2,.int .i64 (xk.write n b).steps,fv] rfl rfl 40 _ c0b (au _ _ _ _) rfl yu.out ?_)
          | (refine aQ rfl 40 _ _ rfl (w.heap.size+3) #[lv,wv2,.int .i64 (xk.write n b).steps,fv] rfl rfl 40 aM hrow3.out (au _ _ _ _) rfl yu.out ?_))
         have hr0:=(HR.out.below hf3 (ai _)).mono hf3.size;have TD:=(hWf.out.far #[lv,wv2,.int .i64 (xk.write n b).steps,fv] hrow3.out rK).more (B':=((Y.setRow w.heap.size #[lv,wv2,.int .i64 (xk.write n b).steps,fv]).setRow (w.heap.size+3) #[lv,wv2,.int .i64 (xk.write n b).steps,fv]).heap.size) (by simp;omega);exact bc (bn tQ _ _ _ _ _ (by rfl) (bB (hrow3.out.row _)) (by rfl)) rfl ⟨wv2,by rw[cH.out,qH.out];rfl,by rw[cH.out,qH.out];exact⟨by rw[PU.out.1];exact hr0.lasts,TD,by rw[PU.out.2.1];exact hr0.fails⟩,hf3,E9⟩
       ·skip
        go_simp;obtain⟨X1,qB⟩:∃V,V=X0.alloc (.cells aM 40):=⟨_,rfl⟩;have hb1:Below wr.heap.size wr X1:=by rw[qB];exact hb0.alloc hb0.size _
        have bz:ah X1 X0.heap.size 40 aM:=by rw[qB];exact ah.new X0 _ _
        have hzl:wr.heap.size≤X0.heap.size:=hb0.size;try rw[←qB]
        clear qB;refine hK.out _ _ (by(try dsimp only);exact Lq.out _ hb1) (fun hHeld=>?_);clear hK K;refine rd 11 fun K hK=>?_;go_simp;refine(HWR.out X1 ((hRk.below hb1 (ai _)).mono hb1.size)).mono ?_;rintro e X2 ⟨wv2,rfl,hR2,hb2',hown2⟩;have hb2:=hb1.trans (hb2'.mono hb1.size);replace bz:=bz.below hb2' bz.lt;have hW2:=hR2.waits;go_wp2_with fail;refine hK.out _ _ (by(try dsimp only);exact Lq.out _ hb2) (fun hHeld=>?_);clear hK K;refine tk 12 ?_;refine tk 13 ?_;refine tk 14 ?_;refine rd 16 fun K hK=>?_;refine ez 40 _ _ rfl X0.heap.size #[lv,wv2,.int .i64 (xk.write n b).steps,fv] rfl rfl 40 aM bz (au _ _ _ _) rfl (hR2.one _) ?_;refine hK.out _ _ (by(try dsimp only);exact Lq.out _ (aA hb2 _ hzl)) (fun hHeld=>?_);clear hK K;refine tk 17 ?_;refine aT ?_;have Tz:=bz.row #[lv,wv2,.int .i64 (xk.write n b).steps,fv];have dT:=aA hb2 #[lv,wv2,.int .i64 (xk.write n b).steps,fv] (g:=X0.heap.size) hzl;have TA:=hW2.far #[lv,wv2,.int .i64 (xk.write n b).steps,fv] bz rK;have TB:=(HLW.out.below hb2 (ai _)).far #[lv,wv2,.int .i64 (xk.write n b).steps,fv] bz rK;have c0b:=hB0.below dT hB0.lt;have NV:=hB3.below dT hB3.lt;have yu:=ae (hR2.one (xk.write n b).steps);have hbz:X0.heap.size≠w.heap.size:=by have:=hB0.lt;omega
        have TC:=AG.out.trans (dT.mono AG.out.size);have E8:=ae (c0b.row #[lv,wv2,.int .i64 (xk.write n b).steps,fv]);have hrow3:=ae (aH NV #[lv,wv2,.int .i64 (xk.write n b).steps,fv] (g':=w.heap.size) (by omega));have hbf:=ae (aA TC #[lv,wv2,.int .i64 (xk.write n b).steps,fv] (g:=w.heap.size) (ai _));have hWf:=ae (TA.far #[lv,wv2,.int .i64 (xk.write n b).steps,fv] c0b (Ij _ _ _));have hLf:=ae (TB.far #[lv,wv2,.int .i64 (xk.write n b).steps,fv] c0b (Ij _ _ _));have Db:X2.heap.size=(X2.setRow X0.heap.size #[lv,wv2,.int .i64 (xk.write n b).steps,fv]).heap.size:=by simp
        have E9:∀g',wv2.ownBlock=some g'→wv2.ownBlock=wv.ownBlock∨w.heap.size≤g':=fun g' hg'=>by
         rcases hown2 g' hg' with h9 | h9
         ·rw[h9]at hg';rcases PS g' hg' with h8 | h8
          ·exact .inl (h9.trans h8)
          ·exact .inr h8
         ·exact .inr (by have:=AG.out.size;have:=hb0.size;have:=hb1.size;omega)
        clear TA TB TC bz hW2 hR2 hown2;generalize X2.setRow X0.heap.size #[lv,wv2,.int .i64 (xk.write n b).steps,fv]=Y at *;by_cases gk:xk.err n=0
        ·have hE0:ji x ys=ji (xk.write n b) (ys.drop (k+1)):=by
          rw[E7.out,Ik.out];show(if xk.err n=0 then _ else _)=_;rw[aB gk]
         rw[gk];go_wp2_with (first
          | (refine bt rfl 40 _ rfl (X0.heap.size) rfl 40 #[lv,wv2,.int .i64 (xk.write n b).steps,fv] (0,0) _ Tz bV rfl (au _ _ _ _) ?_)
          | (refine aQ rfl 40 _ _ rfl w.heap.size #[lv,wv2,.int .i64 (xk.write n b).steps,fv] rfl rfl 40 _ c0b (au _ _ _ _) rfl yu.out ?_))
         go_roundw
         case rel=>exact⟨k+1,wv2,by omega,by go_num,by rw[BP.out];exact ae hE0,by rw[BP.out];exact E8.out,hrow3.out,by rw[BP.out];exact(by have:=hWf.out;rw[Db]at this;simpa using this),E9,(by have:=hLf.out;exact this.more (by simp;have:=hb2.size;omega)),hbf.out⟩
         case measure=>simp[intOf];omega
        ·have hE0:ji x ys=(xk.write n b,xk.err n):=by
          rw[E7.out,Ik.out];show(if xk.err n=0 then _ else _)=_;rw[aG gk]
         have qH:=ae hE0;have hf3:=aA hbf.out #[lv,wv2,.int .i64 (xk.write n b).steps,fv] (g:=w.heap.size+3) (by omega);go_wp2_with (first
          | (refine bt rfl 40 _ rfl (X0.heap.size) rfl 40 #[lv,wv2,.int .i64 (xk.write n b).steps,fv] (0,0) _ Tz bV rfl (au _ _ _ _) ?_)
          | (refine bt rfl 40 _ rfl w.heap.size rfl 40 #[lv,wv2,.int .i64 (xk.write n b).steps,fv] (0,0) _ E8.out bV rfl (au _ _ _ _) ?_)
          | (refine aQ rfl 40 _ _ rfl w.heap.size #[lv,wv2,.int .i64 (xk.write n b).steps,fv] rfl rfl 40 _ c0b (au _ _ _ _) rfl yu.out ?_)
          | (refine aQ rfl 40 _ _ rfl (w.heap.size+3) #[lv,wv2,.int .i64 (xk.write n b).steps,fv] rfl rfl 40 aM hrow3.out (au _ _ _ _) rfl yu.out ?_))
         have hr0:=(HR.out.below hf3 (ai _)).mono hf3.size;have TD:=(hWf.out.far #[lv,wv2,.int .i64 (xk.write n b).steps,fv] hrow3.out rK).more (B':=((Y.setRow w.heap.size #[lv,wv2,.int .i64 (xk.write n b).steps,fv]).setRow (w.heap.size+3) #[lv,wv2,.int .i64 (xk.write n b).steps,fv]).heap.size) (by simp;omega);exact bc (bn tQ _ _ _ _ _ (by rfl) (bB (hrow3.out.row _)) (by rfl)) rfl ⟨wv2,by rw[cH.out,qH.out];rfl,by rw[cH.out,qH.out];exact⟨by rw[PU.out.1];exact hr0.lasts,TD,by rw[PU.out.2.1];exact hr0.fails⟩,hf3,E9⟩
      ·have ku:k=ys.length:=by omega
       have hnl:¬ (k:Int)<(ys.length:Int):=by omega
       have hE0:ji x ys=(fp x (ys.take k),0):=by
        rw[E7.out,jD (by omega)];rfl
       have qH:=ae hE0;have HJ:=ae ku;have hr0:=(HR.out.below hBw (ai _)).mono hBw.size;have hlk:=hkeep.out;have hRk:bu wr wr.heap.size lv pQ fv (fp x (ys.take k)):=⟨by rw[hlk.1];exact hr0.lasts,hWk,by rw[hlk.2.1];exact hr0.fails⟩;obtain⟨xk,N9⟩:∃xk,xk=fp x (ys.take k):=⟨_,rfl⟩;rw[←N9]at hRk qH hB0 hlk;have tW:=ae hlk;clear ku hE0 hlk hr0 hkeep N9;go_wp2_with (first
        | (refine bt rfl 40 _ rfl w.heap.size rfl 40 #[lv,pQ,.int .i64 xk.steps,fv] (0,0) _ hB0 bV rfl (au _ _ _ _) ?_)
        | (refine aQ rfl 40 _ _ rfl (w.heap.size+3) #[lv,pQ,.int .i64 xk.steps,fv] rfl rfl 40 aM hB3 (au _ _ _ _) rfl (hRk.one _) ?_))
       have hbf:=aA hBw #[lv,pQ,.int .i64 xk.steps,fv] (g:=w.heap.size+3) (by omega);have hr0:=(HR.out.below hbf (ai _)).mono hbf.size;have TD:=(hRk.waits.far #[lv,pQ,.int .i64 xk.steps,fv] hB3 rK).more (B':=(wr.setRow (w.heap.size+3) #[lv,pQ,.int .i64 xk.steps,fv]).heap.size) (by simp);have hRf:bu (wr.setRow (w.heap.size+3) #[lv,pQ,.int .i64 xk.steps,fv]) (wr.setRow (w.heap.size+3) #[lv,pQ,.int .i64 xk.steps,fv]).heap.size lv pQ fv xk:=⟨by rw[tW.out.1];exact hr0.lasts,TD,by rw[tW.out.2.1];exact hr0.fails⟩;exact bc (bn tQ _ _ _ _ _ (by rfl) (bB (hB3.row _)) (by rfl)) rfl ⟨pQ,by rw[cH.out,qH.out];rfl,by rw[cH.out,qH.out];exact hRf,hbf,PS⟩
   ·have cH:=ae (show gW x N area f ys=(x,2)by unfold gW;rw[Cz.out,hfit,hneg,hbig];rfl);refine bF (S:=(fun w'=>w'.rangeAt w.heap.size 0 [lv,wv,.int .i64 x.steps,fv]∧w'.cell? ⟨w.heap.size+1,0,none⟩=some (.int .i64 N)∧w'.rangeAt (w.heap.size+2) 0 [.int .i64 f.ed,vo,vb,vs])) (by kernel_rfl) (by(try dsimp only);exact SK.out _ hb0) (fun hHeld=>?_);generalize W.drew=X0 at *;refine ty 0 rfl (cY (by rfl) 40 _ rfl w.heap.size 0 rfl [lv,wv,.int .i64 x.steps,fv] _ (fun w' h=>h.1) bV rfl (au _ _ _ _)) ?_;refine tk 2 ?_;refine rd 1 fun K hK=>?_;go_simp;refine(jw.out X0 ((HR.out.below (HW.out.trans (hb0.mono HW.out.size)) (ai _)).mono ((HW.out.trans (hb0.mono HW.out.size))).size)).mono ?_;rintro e X1 ⟨rfl,hb1'⟩;have hb1:=hb0.trans (hb1'.mono hb0.size);go_wp2_with fail;refine hK.out _ _ (by(try dsimp only);exact SK.out _ hb1) (fun hHeld=>?_);clear hK K;refine rd 3 fun K hK=>?_;go_simp;refine(nL x.size N X1).mono ?_;rintro e X2 ⟨rfl,hb2'⟩;have hb2:=hb1.trans (hb2'.mono hb1.size);rw[FITS];go_wp2_with fail;refine hK.out _ _ (by(try dsimp only);exact SK.out _ hb2) (fun hHeld=>?_);clear hK K;refine tk 4 ?_;refine tk 5 ?_;refine tk 6 ?_;refine tk 7 ?_;refine tk 8 ?_;refine tk 9 ?_;refine tk 10 ?_;refine tk 11 ?_;refine tk 12 ?_;refine tk 13 ?_;refine tu 14 ?_;refine tu 15 ?_;refine tu 16 ?_;refine tu 17 ?_;refine tk 18 ?_;refine aT ?_;have J0:=ft.out.below hb2 ft.out.lt;have J3:=nN.out.below hb2 nN.out.lt;have E6:=(HW.out.trans (hb2.mono HW.out.size));go_wp2_with (first
     | (refine bt rfl 40 _ rfl w.heap.size rfl 40 #[lv,wv,.int .i64 x.steps,fv] (0,0) _ J0 bV rfl (au _ _ _ _) ?_)
     | (refine aQ rfl 40 _ _ rfl (w.heap.size+3) #[lv,wv,.int .i64 x.steps,fv] rfl rfl 40 aM J3 (au _ _ _ _) rfl (dD.out _) ?_))
    have hbf:=aA E6 #[lv,wv,.int .i64 x.steps,fv] (g:=w.heap.size+3) (by omega);exact bc (bn tQ _ _ _ _ _ (by rfl) (bB (J3.row _)) (by rfl)) rfl ⟨wv,by rw[cH.out];rfl,by rw[cH.out];exact(HR.out.below hbf (ai _)).mono hbf.size,hbf,fun _ _=>.inl rfl⟩
  ·have cH:=ae (show gW x N area f ys=(x,2)by unfold gW;rw[Cz.out,hfit,hneg];rfl);refine bF (S:=(fun w'=>w'.rangeAt w.heap.size 0 [lv,wv,.int .i64 x.steps,fv]∧w'.cell? ⟨w.heap.size+1,0,none⟩=some (.int .i64 N)∧w'.rangeAt (w.heap.size+2) 0 [.int .i64 f.ed,vo,vb,vs])) (by kernel_rfl) (by(try dsimp only);exact SK.out _ hb0) (fun hHeld=>?_);generalize W.drew=X0 at *;refine ty 0 rfl (cY (by rfl) 40 _ rfl w.heap.size 0 rfl [lv,wv,.int .i64 x.steps,fv] _ (fun w' h=>h.1) bV rfl (au _ _ _ _)) ?_;refine tk 2 ?_;refine rd 1 fun K hK=>?_;go_simp;refine(jw.out X0 ((HR.out.below (HW.out.trans (hb0.mono HW.out.size)) (ai _)).mono ((HW.out.trans (hb0.mono HW.out.size))).size)).mono ?_;rintro e X1 ⟨rfl,hb1'⟩;have hb1:=hb0.trans (hb1'.mono hb0.size);go_wp2_with fail;refine hK.out _ _ (by(try dsimp only);exact SK.out _ hb1) (fun hHeld=>?_);clear hK K;refine rd 3 fun K hK=>?_;go_simp;refine(nL x.size N X1).mono ?_;rintro e X2 ⟨rfl,hb2'⟩;have hb2:=hb1.trans (hb2'.mono hb1.size);rw[FITS];go_wp2_with fail;refine hK.out _ _ (by(try dsimp only);exact SK.out _ hb2) (fun hHeld=>?_);clear hK K;refine tk 4 ?_;refine tk 5 ?_;refine tk 6 ?_;refine tk 7 ?_;refine tk 8 ?_;refine tk 9 ?_;refine tu 10 ?_;refine tu 11 ?_;refine tk 12 ?_;refine tk 13 ?_;refine tu 14 ?_;refine tu 15 ?_;refine tu 16 ?_;refine tu 17 ?_;refine tk 18 ?_;refine aT ?_;have J0:=ft.out.below hb2 ft.out.lt;have J3:=nN.out.below hb2 nN.out.lt;have E6:=(HW.out.trans (hb2.mono HW.out.size));go_wp2_with (first
    | (refine bt rfl 40 _ rfl w.heap.size rfl 40 #[lv,wv,.int .i64 x.steps,fv] (0,0) _ J0 bV rfl (au _ _ _ _) ?_)
    | (refine aQ rfl 40 _ _ rfl (w.heap.size+3) #[lv,wv,.int .i64 x.steps,fv] rfl rfl 40 aM J3 (au _ _ _ _) rfl (dD.out _) ?_))
   have hbf:=aA E6 #[lv,wv,.int .i64 x.steps,fv] (g:=w.heap.size+3) (by omega);exact bc (bn tQ _ _ _ _ _ (by rfl) (bB (J3.row _)) (by rfl)) rfl ⟨wv,by rw[cH.out];rfl,by rw[cH.out];exact(HR.out.below hbf (ai _)).mono hbf.size,hbf,fun _ _=>.inl rfl⟩
theorem iB (N:Nat) (p:Place) (hN:1≤N∧N≤64) (h:p.ok N):aJ N p.k p.a p.t=(((p.sec N:Nat):Int),0):=by
 have hr:aZ (N:Int)=true:=by simp[aZ];omega
 obtain⟨k,a,t⟩:=p;obtain⟨ha,h⟩:=h;simp only at ha h ⊢;have ha2:a=0∨a=1:=by omega
 unfold aJ Place.sec;rw[hr];rcases ha2 with rfl | rfl<;>rcases h with ⟨rfl,rfl⟩ | ⟨rfl,h⟩ | ⟨rfl,h⟩
 all_goals
  simp[ga,xX,yP,kX];try first
   | omega
   | (rw[aG (by omega),Prod.mk.injEq];omega)
structure Calm (x:ak):Prop where
 ok:x.ok
 fails:x.fails=[]
 steps:x.steps≤999999999000
 waits:x.waits.length≤999000
theorem Calm.err {x:ak} (h:Calm x) {n:Int} (h0:0≤n) (h1:n<x.size):x.err n=0:=by
 unfold ak.err;rw[aG (by omega),aG (by rw[h.fails];simp)]
theorem tf:∀ (l:List Int) (m:List aK),l.length=m.length→(e_ l m).length=6*l.length
 | [],_,_=>rfl
 | _::_,[],h=>by cases h
 | x::l,o::m,h=>by
  have:=tf l m (by simpa using h);show(lY x o++e_ l m).length=6*(l.length+1);rw[bX,Cm];omega
section
variable {N:Int} {f:bY}
theorem nW (h:gh N f=true):aZ N=true∧0≤f.ed∧f.bj.length=f.objs.length∧(f.bj.length:Int)≤N∧f.state.length≤4096∧gI N (-1) f.bj f.objs=true:=by
 unfold gh fu at h;simp only[Bool.and_eq_true,decide_eq_true_eq,beq_iff_eq]at h;obtain⟨h0,⟨⟨⟨h1,h2⟩,h3⟩,h4⟩,h5⟩:=h;exact⟨h0,h1,h2,h3,h4,h5⟩
theorem yv (h:aZ N=true):1≤N∧N≤64:=by unfold aZ at h;simp at h;exact h
theorem G3 (h:gh N f=true):(oA f).length=20+6*f.bj.length∧(oA f).length≤508:=by
 obtain⟨h0,h1,h2,h3,h4,h5⟩:=nW h;have:=yv h0;have hl:(oA f).length=20+6*f.bj.length:=by unfold oA;rw[bX,vT,tf _ _ h2]
 omega
end
section
variable {N a:Nat} {f:bY}
theorem A8 (h:gh N f=true):aD f.state.length≤8:=by
 have:=(nW h).2.2.2.2.1;unfold aD;omega
theorem Lr (h:gh N f=true):(cu N a f).length≤80:=by
 obtain⟨h0,h1,h2,h3,h4,h5⟩:=nW h;have hN:=yv h0;have hc:=A8 h;unfold cu gj pw;simp only[List.length_append,List.length_map,List.length_zipIdx,List.length_range,List.length_cons,List.length_nil];omega
theorem yw {size:Int} (h:da N size a=true):1≤N∧N≤64∧20+3*(N:Int)≤size∧a≤1:=by
 unfold da aZ at h;simp only[Bool.and_eq_true,decide_eq_true_eq]at h;omega
variable {x:ak}
end
theorem uG {w:World} {B B' k k':Nat} {e e':TypeId} {v v':Value} {n n':Nat} {xs xs':List Value} (h:w.ownsRow B e k v n xs) (h':w.ownsRow B' e' k' v' n' xs') (he:e≠e') (i:Nat) (hi:v.ownBlock=some i) (hi':v'.ownBlock=some i):False:=tI h h' he i hi hi'
theorem rL (l:List aI) (y:aI):aL (l++[y])=aL l++y.cells:=by simp[aL,List.flatMap_append]
def py (N a:Nat) (st:List UInt8) (k:Nat):List aI:=(List.range k).map fun i=>⟨((Place.sec N ⟨3,a,i⟩:Nat):Int),(jH st i).1⟩
theorem PV (N a:Nat) (st:List UInt8) (k:Nat):py N a st (k+1)=py N a st k++[⟨((Place.sec N ⟨3,a,k⟩:Nat):Int),(jH st k).1⟩]:=by
 unfold py;rw[nc,cK];rfl
theorem TE (N a:Nat) (st:List UInt8) (k:Nat):(py N a st k).length=k:=by simp[py]
structure aai (x:bx):Prop where
 k:0≤x.k∧x.k<256
 r:0≤x.r∧x.r<256
 o:0≤x.o∧x.o<65536
 c:0≤x.c∧x.c<4294967296
 a:0≤x.a∧x.a<4294967296
 v:ix x.v
theorem sM {n:Int} (h0:0≤n) (h1:n<18446744073709551616):(u64 n:Int)=n:=by unfold u64;omega
theorem N_ (x:bx):ly x=leB (u64 x.k) 1++(leB (u64 x.r) 1++(leB (u64 x.o) 2++(leB (u64 x.c) 4++(leB (u64 x.a) 4++leB (u64 x.v) 8)))):=rfl
theorem wrap_u64 {v:Int} (h:ix v):IntKind.i64.wrap ((u64 v:Nat):Int)=v:=by
 rw[cz];unfold ix at h;unfold u64;omega
theorem A9 {has:Bool} {n m:Int} (h:jP has n m=true) (hm:0≤m):0≤n∧n≤m:=by
 unfold jP at h;cases has
 ·simp at h;omega
 ·simp at h;omega
theorem aaj {x:bx} (h:iI x.k x.o x.c x.a x.r x.v=true) (hr:x.r<9223372036854775808) (hv:ix x.v):aai x:=by
 unfold iI at h;simp only[Bool.and_eq_true,decide_eq_true_eq,beq_iff_eq]at h;obtain⟨⟨⟨⟨⟨⟨⟨h1,h2⟩,h3⟩,h4⟩,h5⟩,h6⟩,h7⟩,h8⟩:=h;have b1:=A9 h3 (by omega);have b2:=A9 h4 (by omega);have b3:=A9 h5 (by omega);have b4:=(Ca x.k x.r h6 hr).1 h7;have b5:gS x.k≤7:=by unfold gS;split<;>(try split)<;>omega
 exact⟨by omega,by omega,by omega,by omega,by omega,hv⟩
theorem yx {o:aK} {N:Int} (h:fH o N=true):(0≤o.kd∧o.kd≤3)∧(0≤o.ct∧o.ct≤4294967295)∧(0≤o.cl∧o.cl≤4294967295)∧1≤N∧N≤64∧∀x∈o.slots,iI x.k x.o x.c x.a x.r x.v=true:=by
 unfold fH preB at h;simp only[Bool.and_eq_true,decide_eq_true_eq]at h;obtain⟨⟨⟨⟨⟨⟨n1,n2⟩,c1⟩,c2⟩,l1⟩,l2⟩,h⟩:=h;have hz:nD o=true→∀x∈o.slots,iI x.k x.o x.c x.a x.r x.v=true:=by
  intro hs x hx;unfold nD at hs;rw[(tt _ _).1 hs]at hx;have:x=mw:=by unfold kT at hx;exact(List.mem_replicate.1 hx).2
  subst this;show iI 0 0 0 0 0 0=true;decide +kernel
 refine⟨?_,⟨c1,c2⟩,⟨l1,l2⟩,n1,n2,?_⟩
 ·by_cases k0:o.kd=0
  ·omega
  ·rw[aG k0]at h;by_cases k3:o.kd=3
   ·omega
   ·rw[aG k3]at h;by_cases k2:o.kd=2
    ·omega
    ·rw[aG k2]at h;by_cases k1:o.kd=1
     ·omega
     ·rw[aG k1]at h;cases h
 ·by_cases k0:o.kd=0
  ·rw[aB k0]at h;unfold pn at h;simp only[Bool.and_eq_true]at h;exact hz h.1
  ·rw[aG k0]at h;by_cases k3:o.kd=3
   ·rw[aB k3]at h;unfold pn at h;simp only[Bool.and_eq_true]at h;exact hz h.1
   ·rw[aG k3]at h;by_cases k2:o.kd=2
    ·rw[aB k2]at h;unfold pn at h;simp only[Bool.and_eq_true]at h;exact hz h.1
    ·rw[aG k2]at h;by_cases k1:o.kd=1
     ·rw[aB k1]at h;intro x hx;have:=cx.1 h x hx;unfold ib at this;simp only[Bool.and_eq_true]at this;exact this.1
     ·rw[aG k1]at h;cases h
theorem pR (n k:Nat) (w:World) (hk8:k≤8) (hn:n<18446744073709551616):Calls Tryz.prog 133 #[.int .u64 n,.int .i64 k] w fun e w' =>
 ∃v,e=.returned v∧w'.ownsRow w.heap.size 5 1 v k ((leB n k).map aj)∧Below w.heap.size w w':=by
 obtain⟨i0,hi0,hz0,hz1,hz2⟩:=iH jg;have HI:=ae (And.intro hi0 (And.intro hz0 (And.intro hz1 hz2)));clear hi0 hz0 hz1 hz2;go_enter Tryz.func133,Tryz.ntmps133
 go_wp2_with fail;go_loopw [0,5,6] (fun m o i wr=>∃j:Nat,j≤k∧i=.int .i64 j∧m=.int .u64 ((n/256^j:Nat):Int)∧wr.ownsRow w.heap.size 5 1 o j ((leB n j).map aj)∧Below w.heap.size w wr) (fun _ _ i _=>k-(intOf i).toNat)
 case atStart=>exact⟨0,by omega,rfl,by simp,km _ _ _ _,ax _ _⟩
 case round =>
  obtain⟨j,hj,rfl,rfl,hO,hB⟩:=hrel;by_cases hlt:j<k
  ·have pJ:=fW n j;have hdl:n/256^j≤n:=zL _ _;have th:n/256^(j+1)=n/256^j/256:=by rw[tR,←wy]
   have hls:=ae (CS n j);generalize n/256^j=q at *;have xQ:=ae th;have Vy:=ae pJ;clear th pJ;have HO:=ae hO;clear hO;have hsz:=hB.size;have hbyte:((q:Int) % 256)=((bQ n j).toNat:Int):=Vy.out.symm;go_wp2_with (at_builtin;refine pZ _ rfl _ _ _ rfl w.heap.size 5 i0 _ 1 1 eU HI.out.1 HI.out.2.1 HI.out.2.2.1 HI.out.2.2.2 rfl (by omega) _ j _ rfl (HO.out.alloc _) ⟨wr.heap.size,0,none⟩ 1 1 [aj (bQ n j)] rfl rfl (ia (cs:=#[aj (bQ n j)]) (t:=5) (fr:=(0,0)) (bC wr _)) (by simp[Value.oneCell']) (by omega) (by unfold maxLen;omega) (by omega) (by simp;omega) (wr.heap.size+1) (by simp) ?_;intro g cap w3 hO3 hg3 xR hlt3)
   refine⟨⟨j+1,by omega,by go_num,?_,?_,?_⟩,by simp[intOf];omega⟩
   ·rw[xQ.out];congr 1
   ·rw[hls.out];simpa using hO3
   ·exact(hB.alloc hsz _).grown hg3 (by simp;omega) (fun r hr=>(HO.out.lt r hr).1)
  ·obtain rfl:j=k:=by omega
   go_wp2_with fail;go_ret
   exact⟨_,rfl,hO,hB⟩
theorem H' (v:Int) (hv:ix v) (w:World):Calls Tryz.prog 151 #[.int .i64 v] w fun e w'=>e=.returned (.int .u64 ((u64 v:Nat):Int))∧w=w':=by
 unfold ix at hv;obtain⟨h1,h2⟩:=hv;by_cases hneg:v<0
 ·have e:((u64 v:Nat):Int)=18446744073709551616+v:=by unfold u64;omega
  rw[e];go_enter Tryz.func151,Tryz.ntmps151
  go_wp2_with fail;go_ret
  refine⟨?_,rfl⟩;congr 2
  first | omega | (go_num;done) | (simp[IntKind.wrap];omega)
 ·have e:((u64 v:Nat):Int)=v:=by unfold u64;omega
  rw[e];go_enter Tryz.func151,Tryz.ntmps151
  go_wp2_with fail;go_ret
  refine⟨?_,rfl⟩;try (congr 2)
  try first | omega | (go_num;done) | (simp[IntKind.wrap];omega)
theorem Ng (x:bx) (w:World) (hx:iI x.k x.o x.c x.a x.r x.v=true) (hr:x.r<9223372036854775808) (hv:ix x.v) :
 Calls Tryz.prog 134 #[.agg x.cells.toArray] w fun e w'=>∃u,e=.returned (.tuple #[u,.int .i64 0])∧w'.ownsRow w.heap.size 5 1 u 20 ((ly x).map aj)∧Below w.heap.size w w':=by
 have hfit:=aaj hx hr hv;rw[N_];obtain⟨k,o,c,a,r,v⟩:=x;obtain⟨fk,fr,fo,fc,fa,_⟩:=hfit;simp only at hx hr hv fk fr fo fc fa;have uF:=ae (fun W=>tv k o c a r v W hr);rw[hx]at uF;obtain⟨K,uK⟩:∃K:Nat,K=u64 k:=⟨_,rfl⟩;obtain⟨R,uR⟩:∃K:Nat,K=u64 r:=⟨_,rfl⟩;obtain⟨O,uO⟩:∃K:Nat,K=u64 o:=⟨_,rfl⟩;obtain⟨C,uC⟩:∃K:Nat,K=u64 c:=⟨_,rfl⟩;obtain⟨A,uA⟩:∃K:Nat,K=u64 a:=⟨_,rfl⟩;obtain⟨V,uV⟩:∃K:Nat,K=u64 v:=⟨_,rfl⟩;have sK:=sM fk.1 (by omega);have sR:=sM fr.1 (by omega);have sO:=sM fo.1 (by omega);have sC:=sM fc.1 (by omega);have sA:=sM fa.1 (by omega);have hV:V<18446744073709551616:=by rw[uV];unfold u64;omega
 simp only;rw[←uK,←uR,←uO,←uC,←uA,←uV];rw[←uK]at sK;rw[←uR]at sR;rw[←uO]at sO;rw[←uC]at sC;rw[←uA]at sA;subst sO sC sA;have eK:leB K 1=[bQ K 0]:=rfl;have eR:leB R 1=[bQ R 0]:=rfl;have bK:((bQ K 0).toNat:Int)=k:=by have:=fW K 0;simp at this;omega
 have bR:((bQ R 0).toNat:Int)=r:=by have:=fW R 0;simp at this;omega
 have k0:ah (w.alloc (.cells #[.int .i64 k,.int .i64 (O:Int),.int .i64 (C:Int),.int .i64 (A:Int),.int .i64 r,.int .i64 v] 58)) w.heap.size 58 #[.int .i64 k,.int .i64 (O:Int),.int .i64 (C:Int),.int .i64 (A:Int),.int .i64 r,.int .i64 v]:=ah.new w _ _;have hw0:Below w.heap.size w (w.alloc (.cells #[.int .i64 k,.int .i64 (O:Int),.int .i64 (C:Int),.int .i64 (A:Int),.int .i64 r,.int .i64 v] 58)):=(ax _ w).alloc (ai _) _;have HS:=ae (And.intro eK (And.intro eR (And.intro bK bR)));have HUV:=ae uV;clear uK uR uO uC uA hx uV;have ec:(⟨k,(O:Int),(C:Int),(A:Int),r,v⟩:bx).cells.toArray=#[.int .i64 k,.int .i64 (O:Int),.int .i64 (C:Int),.int .i64 (A:Int),.int .i64 r,.int .i64 v]:=rfl;rw[ec];clear ec;go_enter Tryz.func134,Tryz.ntmps134
 go_upto_region 1 with fail;obtain⟨W,eW⟩:∃W,W=w.alloc (.cells #[.int .i64 k,.int .i64 (O:Int),.int .i64 (C:Int),.int .i64 (A:Int),.int .i64 r,.int .i64 v] 58):=⟨_,rfl⟩;rw[←eW]at k0 hw0 ⊢;clear eW;go_wp2_with (refine bt rfl 58 _ rfl w.heap.size rfl 58 #[.int .i64 k,.int .i64 (O:Int),.int .i64 (C:Int),.int .i64 (A:Int),.int .i64 r,.int .i64 v] (0,0) _ k0 pj rfl (by show _=some 6;kernel_rfl) ?_)
 refine(uF.out W).mono ?_;rintro e w1 ⟨rfl,hb1⟩;have b01:=k0.below hb1 k0.lt;have hw1:=hw0.trans (hb1.mono hw0.size);have q0:=b01.ag 0 rfl;have q4:=b01.ag 4 rfl;have hX2:Below w.heap.size w (w1.alloc (.cells #[.int .u8 k,.int .u8 r] 5)):=hw1.alloc hw1.size _;have b02:=b01.alloc (.cells #[.int .u8 k,.int .u8 r] 5);have r2:(w1.alloc (.cells #[.int .u8 k,.int .u8 r] 5)).ownsRow w.heap.size 5 1 (.slice (some ⟨w1.heap.size,0,none⟩) 2 2) 2 ((leB K 1++leB R 1).map aj):=by
  rw[HS.out.1,HS.out.2.1];refine nE (g:=w1.heap.size) (e:=5) (l:=[bQ K 0]++[bQ R 0]) (cs:=#[.int .u8 k,.int .u8 r]) (ah.new w1 _ _) hw1.size ?_ rfl (by unfold maxLen;omega);show[Value.int .u8 k,Value.int .u8 r]=[aj (bQ K 0),aj (bQ R 0)];unfold aj;rw[HS.out.2.2.1,HS.out.2.2.2]
 unfold dr;simp only[if_true];go_upto_region 4 with fail;obtain⟨X3,nP⟩:∃X,X=w1.alloc (.cells #[.int .u8 k,.int .u8 r] 5):=⟨_,rfl⟩;rw[←nP]at hX2 b02 r2 ⊢;clear nP q0 q4 b01 hw1 hb1 k0 hw0;have hb3:=hX2;have r3:=r2;have G4:ah X3 w.heap.size 58 #[.int .i64 k,.int .i64 (O:Int),.int .i64 (C:Int),.int .i64 (A:Int),.int .i64 r,.int .i64 v]:=b02;clear hX2 r2 b02;have q4:=G4.ag 1 rfl;go_wp2_with fail;refine(pR O 2 X3 (by omega) (by omega)).mono ?_;rintro e L4 ⟨l4,rfl,uH,nX⟩;obtain⟨g4,cap4,e4,_,_⟩:=lM uH (by omega);subst e4;have G5:=BytesIn.own uH;have A_:=bJ (O) 2;have yy:=(G4:ah _ _ _ _).below nX (G4:ah _ _ _ _).lt;have qI:=hb3.trans (nX.mono hb3.size);have mm:=aq (F:=fun _=>False) (aN nX) r3 (fun _ _=>id);go_upto_region 5 with (at_builtin;refine bm _ rfl (.tmp 15) (.tmp 19) rfl w.heap.size L4.heap.size 2 (.slice (some ⟨w1.heap.size,0,none⟩) 2 2) _ rfl mm (some ⟨g4,0,none⟩) 2 cap4 (leB (O) 2) rfl A_ G5 (by omega) qI.size ?_;intro hv4 X4 hO4 hg4)
 have hb4:=qI.grown hg4 qI.size (fun r hr=>(mm.lt r hr).1);have r4:X4.ownsRow w.heap.size 5 1 hv4 (2+2) ((leB K 1++leB R 1++leB (O) 2).map aj):=by rw[cK];exact hO4
 have za:ah X4 w.heap.size 58 #[.int .i64 k,.int .i64 (O:Int),.int .i64 (C:Int),.int .i64 (A:Int),.int .i64 r,.int .i64 v]:=(hg4.block _ yy.lt (fun e=>aR mm yy (by decide) _ e.symm rfl)).trans yy;clear q4 yy qI hO4 hg4 uH nX G5 A_ mm hb3 r3 G4;have q5:=za.ag 2 rfl;go_wp2_with fail;refine(pR C 4 X4 (by omega) (by omega)).mono ?_;rintro e L5 ⟨l5,rfl,qJ,mF⟩;obtain⟨g5,cap5,e5,_,_⟩:=lM qJ (by omega);subst e5;have G6:=BytesIn.own qJ;have Dc:=bJ (C) 4;have yz:=(za:ah _ _ _ _).below mF (za:ah _ _ _ _).lt;have qK:=hb4.trans (mF.mono hb4.size);have jh:=aq (F:=fun _=>False) (aN mF) r4 (fun _ _=>id);go_upto_region 6 with (at_builtin;refine bm _ rfl (.tmp 21) (.tmp 25) rfl w.heap.size L5.heap.size (2+2) hv4 _ rfl jh (some ⟨g5,0,none⟩) 4 cap5 (leB (C) 4) rfl Dc G6 (by omega) qK.size ?_;intro hv5 X5 pL hg5)
 have hb5:=qK.grown hg5 qK.size (fun r hr=>(jh.lt r hr).1);have r5:X5.ownsRow w.heap.size 5 1 hv5 ((2+2)+4) ((leB K 1++leB R 1++leB (O) 2++leB (C) 4).map aj):=by rw[cK];exact pL
 have Ls:ah X5 w.heap.size 58 #[.int .i64 k,.int .i64 (O:Int),.int .i64 (C:Int),.int .i64 (A:Int),.int .i64 r,.int .i64 v]:=(hg5.block _ yz.lt (fun e=>aR jh yz (by decide) _ e.symm rfl)).trans yz;clear q5 yz qK pL hg5 qJ mF G6 Dc jh hb4 r4 za;have q6:=Ls.ag 3 rfl;go_wp2_with fail;refine(pR A 4 X5 (by omega) (by omega)).mono ?_;rintro e L6 ⟨l6,rfl,F2,uI⟩;obtain⟨g6,cap6,e6,_,_⟩:=lM F2 (by omega);subst e6;have Yw:=BytesIn.own F2;have PW:=bJ (A) 4;have Ba:=(Ls:ah _ _ _ _).below uI (Ls:ah _ _ _ _).lt;have Bb:=hb5.trans (uI.mono hb5.size);have qy:=aq (F:=fun _=>False) (aN uI) r5 (fun _ _=>id);go_upto_region 7 with (at_builtin;refine bm _ rfl (.tmp 27) (.tmp 31) rfl w.heap.size L6.heap.size (2+2+4) hv5 _ rfl qy (some ⟨g6,0,none⟩) 4 cap6 (leB (A) 4) rfl PW Yw (by omega) Bb.size ?_;intro hv6 X6 TF E_)
 have hb6:=Bb.grown E_ Bb.size (fun r hr=>(qy.lt r hr).1);have r6:X6.ownsRow w.heap.size 5 1 hv6 ((2+2+4)+4) ((leB K 1++leB R 1++leB (O) 2++leB (C) 4++leB (A) 4).map aj):=by rw[cK];exact TF
 have N':ah X6 w.heap.size 58 #[.int .i64 k,.int .i64 (O:Int),.int .i64 (C:Int),.int .i64 (A:Int),.int .i64 r,.int .i64 v]:=(E_.block _ Ba.lt (fun e=>aR qy Ba (by decide) _ e.symm rfl)).trans Ba;clear q6 Ba Bb TF E_ F2 uI Yw PW qy hb5 r5 Ls;have q7:=N'.ag 5 rfl;go_wp2_with fail;refine(H' v hv X6).mono ?_;rintro e c6 ⟨rfl,hwc⟩;subst hwc;rw[←HUV.out];go_wp2_with fail;refine(pR V 8 X6 (by omega) (by omega)).mono ?_;rintro e L7 ⟨l7,rfl,WI,PY⟩;obtain⟨g7,Pf,e7,_,_⟩:=lM WI (by omega);subst e7;have hu7:=BytesIn.own WI;have abB:=bJ (V) 8;have PZ:=(N':ah _ _ _ _).below PY (N':ah _ _ _ _).lt;have P6:=hb6.trans (PY.mono hb6.size);have Lt:=aq (F:=fun _=>False) (aN PY) r6 (fun _ _=>id);go_wp2_with (at_builtin;refine bm _ rfl (.tmp 33) (.tmp 37) rfl w.heap.size L7.heap.size (2+2+4+4) hv6 _ rfl Lt (some ⟨g7,0,none⟩) 8 Pf (leB (V) 8) rfl abB hu7 (by omega) P6.size ?_;intro hv7 X7 Kr Gi)
 have tY:=P6.grown Gi P6.size (fun r hr=>(Lt.lt r hr).1);have r7:X7.ownsRow w.heap.size 5 1 hv7 ((2+2+4+4)+8) ((leB K 1++leB R 1++leB (O) 2++leB (C) 4++leB (A) 4++leB (V) 8).map aj):=by rw[cK];exact Kr
 have b07:ah X7 w.heap.size 58 #[.int .i64 k,.int .i64 (O:Int),.int .i64 (C:Int),.int .i64 (A:Int),.int .i64 r,.int .i64 v]:=(Gi.block _ PZ.lt (fun e=>aR Lt PZ (by decide) _ e.symm rfl)).trans PZ;clear q7 PZ P6 Kr Gi WI PY hu7 abB Lt hb6 r6 N';go_ret2
 exact⟨_,rfl,by simpa[List.append_assoc]using r7,tY⟩
theorem WJ (K:Nat) (h:K≤3):(leB K 4).map aj=[.int .u8 (K:Int),.int .u8 0,.int .u8 0,.int .u8 0]:=by
 have e:leB K 4=[bQ K 0,bQ K 1,bQ K 2,bQ K 3]:=rfl;have b0:=fW K 0;have b1:=fW K 1;have b2:=fW K 2;have b3:=fW K 3;rw[e];show[Value.int .u8 _,Value.int .u8 _,Value.int .u8 _,Value.int .u8 _]=_;rw[b0,b1,b2,b3];have h0:((K/256^0:Nat):Int) % 256=(K:Int):=by simp;omega
 have h1:((K/256^1:Nat):Int) % 256=0:=by rw[zG (by omega)];rfl
 have h2:((K/256^2:Nat):Int) % 256=0:=by rw[zG (by omega)];rfl
 have h3:((K/256^3:Nat):Int) % 256=0:=by rw[zG (by omega)];rfl
 rw[h0,h1,h2,h3]
theorem G7 (o:aK) (ho:o.ok) (hr:iM o) (hv:∀x∈o.slots,ix x.v) (n:Int) (w:World) (hy:fH o n=true) :
 Calls Tryz.prog 96 #[.agg o.cells.toArray,.int .i64 n] w fun e w'=>e=.returned (.tuple #[aV (bM (dL o)),.int .i64 0])∧Below w.heap.size w w':=by
 obtain⟨⟨k1,k2⟩,⟨c1,c2⟩,⟨l1,l2⟩,n1,n2,hs⟩:=yx hy;have hck:=fun W=>mU o ho hr n W
 rw[hy]at hck;have uF:=ae hck;have hl0:az.length=512:=et;have hlen:=my o ho;have hbl:=eJ (dL o) (by omega);obtain⟨cs,hc⟩:∃cs,cs=o.cells.toArray:=⟨_,rfl⟩;have tW:=ae (fun W (hb:ah W w.heap.size 62 cs) j x hx=>JS ho hb hc j x hx);have f_:=ae (fun W (hb:ah W w.heap.size 62 cs) j x hx=>Gf ho hb hc j x hx);have Lu:=ae (fun W (hb:ah W w.heap.size 62 cs)=>b9 hb hc);have scs:(Tryz.prog.info? 62).map (·.size)=some cs.size:=by rw[hc,b',aK.len ho];kernel_rfl
 rw[←hc]at uF ⊢;have HKEY:=ae (fun(W:World) (j:Nat) (x:bx) (hx:o.slots[j]? = some x)=>Ng x W (hs x (je hx)) (hr x (je hx)) (hv x (je hx)));obtain⟨kd,ct,cl,slots,bytes⟩:=o;have hks:slots.length=16:=ho.1;have hbs:bytes.length=64:=ho.2;simp only at k1 k2 c1 c2 l1 l2 tW f_ HKEY;obtain⟨K,rfl⟩:∃K:Nat,kd=K:=⟨kd.toNat,by omega⟩;obtain⟨C,rfl⟩:∃K:Nat,ct=K:=⟨ct.toNat,by omega⟩;obtain⟨L,rfl⟩:∃K:Nat,cl=K:=⟨cl.toNat,by omega⟩;have uK:u64 (K:Int)=K:=by unfold u64;omega
 have uC:u64 (C:Int)=C:=by unfold u64;omega
 have uL:u64 (L:Int)=L:=by unfold u64;omega
 obtain⟨pre,P7⟩:∃pre,pre=leB K 4++leB C 4++leB L 4:=⟨_,rfl⟩;have hpre:pre.length=12:=by rw[P7];simp[bJ]
 have WK:dL ⟨K,C,L,slots,bytes⟩=pre++slots.flatMap ly++bytes:=by unfold dL;rw[uK,uC,uL,P7]
 obtain⟨ol,eol⟩:∃ol,ol=dL ⟨K,C,L,slots,bytes⟩:=⟨_,rfl⟩;rw[←eol]at hbl hlen WK ⊢;have abD:=ae P7;have Lv:=ae WK;obtain⟨W,eW⟩:∃W,W=((w.alloc (.cells cs 62)).alloc (.cells Tryz.zeroCells111 111)).alloc (.cells Tryz.zeroCells111 111):=⟨_,rfl⟩;have hb0:Below w.heap.size w W:=by rw[eW];exact(((ax _ w).alloc (ai _) _).alloc (by simp) _).alloc (by simp;omega) _
 have z0:ah W w.heap.size 62 cs:=by rw[eW];exact((ah.new w _ _).alloc _).alloc _
 have z1:ah W (w.heap.size+1) 111 (az.map aj).toArray:=by rw[eW,←bE];exact(ah.new2 w _ _ _).alloc _
 have z2:ah W (w.heap.size+2) 111 (az.map aj).toArray:=by rw[eW,←bE];exact ah.new' (by simp)
 clear hy hs hr hv ho hck hc WK P7 eol uK uC uL;unfold aV;go_enter Tryz.func96,Tryz.ntmps96
 go_upto_region 2 with fail;rw[←eW];clear eW;have zz1:=ae z1;have zz2:=ae z2;have zb:=ae hb0;go_wp2_with (refine bt rfl 62 _ rfl w.heap.size rfl 62 cs (0,0) _ z0 dH rfl scs ?_)
 refine(uF.out W).mono ?_;rintro e w1 ⟨rfl,hb1⟩;have b0:=z0.below hb1 z0.lt;have b1:=ae (zz1.out.below hb1 zz1.out.lt);have b2:=ae (zz2.out.below hb1 zz2.out.lt);have hB1:=ae (zb.out.trans (hb1.mono zb.out.size));have g0:w1.cell? ⟨w.heap.size,0,none⟩=some (.int .i64 (K:Int)):=(Lu.out w1 b0 0).trans rfl;clear z0 zz1 zz2 zb hb1 hb0 z1 z2;unfold dr;simp only[if_true];have hX2:Below w.heap.size w (w1.alloc (.cells #[.int .u8 (K:Int),.int .u8 0,.int .u8 0,.int .u8 0] 5)):=hB1.out.alloc hB1.out.size _;have r2:(w1.alloc (.cells #[.int .u8 (K:Int),.int .u8 0,.int .u8 0,.int .u8 0] 5)).ownsRow w.heap.size 5 1 (.slice (some ⟨w1.heap.size,0,none⟩) 4 4) 4 ((leB K 4).map aj):=by
  refine nE (g:=w1.heap.size) (e:=5) (l:=leB K 4) (cs:=#[.int .u8 (K:Int),.int .u8 0,.int .u8 0,.int .u8 0]) (ah.new w1 _ _) hB1.out.size ?_ (bJ K 4) (by unfold maxLen;omega);rw[WJ K (by omega)]
 go_upto_region 5 with fail;obtain⟨X2,lJ⟩:∃X,X=w1.alloc (.cells #[.int .u8 (K:Int),.int .u8 0,.int .u8 0,.int .u8 0] 5):=⟨_,rfl⟩;have b02:ah X2 w.heap.size 62 cs:=by rw[lJ];exact b0.alloc _
 have b12:ah X2 (w.heap.size+1) 111 (az.map aj).toArray:=by rw[lJ];exact b1.out.alloc _
 have TG:ah X2 (w.heap.size+2) 111 (az.map aj).toArray:=by rw[lJ];exact b2.out.alloc _
 rw[←lJ]at hX2 r2 ⊢;have q1:X2.cell? ⟨w.heap.size,1,none⟩=some (.int .i64 (C:Int)):=(Lu.out X2 b02 1).trans rfl;have H1:=ae b12;have H2:=ae TG;clear lJ g0 b0 b1 b2 hB1 b12 TG;go_wp2_with fail;refine(pR C 4 X2 (by omega) (by omega)).mono ?_;rintro e L4 ⟨l4,rfl,uH,nX⟩;obtain⟨g4,cap4,e4,_,_⟩:=lM uH (by omega);subst e4;have G5:=BytesIn.own uH;have A_:=bJ C 4;have xC:=b02.below nX b02.lt;have xD:=H1.out.below nX H1.out.lt;have E':=H2.out.below nX H2.out.lt;have qI:=hX2.trans (nX.mono hX2.size);have mm:=aq (F:=fun _=>False) (aN nX) r2 (fun _ _=>id);go_upto_region 6 with (at_builtin;refine bm _ rfl (.tmp 23) (.tmp 27) rfl w.heap.size L4.heap.size 4 (.slice (some ⟨w1.heap.size,0,none⟩) 4 4) _ rfl mm (some ⟨g4,0,none⟩) 4 cap4 (leB C 4) rfl A_ G5 (by omega) qI.size ?_;intro hv4 X4 hO4 hg4)
 have hb4:=qI.grown hg4 qI.size (fun r hr=>(mm.lt r hr).1);have r4:X4.ownsRow w.heap.size 5 1 hv4 (4+4) ((leB K 4++leB C 4).map aj):=by rw[cK];exact hO4
 have za:=(hg4.block _ xC.lt (fun e=>aR mm xC (by decide) _ e.symm rfl)).trans xC;have J1:=ae ((hg4.block _ xD.lt (fun e=>aR mm xD (by decide) _ e.symm rfl)).trans xD);have J2:=ae ((hg4.block _ E'.lt (fun e=>aR mm E' (by decide) _ e.symm rfl)).trans E');have q2:X4.cell? ⟨w.heap.size,2,none⟩=some (.int .i64 (L:Int)):=(Lu.out X4 za 2).trans rfl;clear q1 xC xD E' qI hO4 hg4 uH nX G5 A_ mm hX2 r2 b02 H1 H2;go_wp2_with fail;refine(pR L 4 X4 (by omega) (by omega)).mono ?_;rintro e L5 ⟨l5,rfl,qJ,mF⟩;obtain⟨g5,cap5,e5,_,_⟩:=lM qJ (by omega);subst e5;have G6:=BytesIn.own qJ;have Dc:=bJ L 4;have xC:=(show ah X4 w.heap.size 62 cs from za).below mF (show ah X4 w.heap.size 62 cs from za).lt;have xD:=(show ah X4 (w.heap.size+1) 111 (az.map aj).toArray from J1.out).below mF (show ah X4 (w.heap.size+1) 111 (az.map aj).toArray from J1.out).lt;have E':=(show ah X4 (w.heap.size+2) 111 (az.map aj).toArray from J2.out).below mF (show ah X4 (w.heap.size+2) 111 (az.map aj).toArray from J2.out).lt;have qK:=hb4.trans (mF.mono hb4.size);have jh:=aq (F:=fun _=>False) (aN mF) r4 (fun _ _=>id);go_upto_region 7 with (at_builtin;refine bm _ rfl (.tmp 29) (.tmp 33) rfl w.heap.size L5.heap.size (4+4) hv4 _ rfl jh (some ⟨g5,0,none⟩) 4 cap5 (leB L 4) rfl Dc G6 (by omega) qK.size ?_;intro hv5 X5 pL hg5)
 have hb5:=ae (qK.grown hg5 qK.size (fun r hr=>(jh.lt r hr).1));have r5:=ae (show X5.ownsRow w.heap.size 5 1 hv5 12 (pre.map aj)by rw[abD.out,cK];exact pL);have P0:=ae (show ah X5 w.heap.size 62 cs from(hg5.block _ xC.lt (fun e=>aR jh xC (by decide) _ e.symm rfl)).trans xC);have P1:=ae (show ah X5 (w.heap.size+1) 111 (az.map aj).toArray from(hg5.block _ xD.lt (fun e=>aR jh xD (by decide) _ e.symm rfl)).trans xD);have P2:=ae (show ah X5 (w.heap.size+2) 111 (az.map aj).toArray from(hg5.block _ E'.lt (fun e=>aR jh E' (by decide) _ e.symm rfl)).trans E');clear q2 xC xD E' qK pL hg5 qJ mF G6 Dc jh hb4 r4 za J1 J2;go_wp2_with fail;go_loopw [7,8] (fun u i wr=>∃ (j:Nat) (u':Value),u'=u∧j≤16∧i=.int .i64 (j:Int)∧wr.ownsRow w.heap.size 5 1 u' (12+20*j) ((pre++(slots.take j).flatMap ly).map aj)∧ah wr w.heap.size 62 cs∧ah wr (w.heap.size+1) 111 (az.map aj).toArray∧ah wr (w.heap.size+2) 111 (az.map aj).toArray∧Below w.heap.size w wr) (fun _ i _=>16-(intOf i).toNat)
 case atStart=>exact⟨0,_,rfl,by omega,rfl,by simpa using r5.out,P0.out,P1.out,P2.out,hb5.out⟩
 case round =>
  obtain⟨j,u,rfl,hj,rfl,hO,hb0,hb1,hb2,hBw⟩:=hrel;have HO:=ae hO;have H0:=ae hb0;have H1:=ae hb1;have H2:=ae hb2;have HB:=ae hBw;clear hO hb0 hb1 hb2 hBw;by_cases hlt:j<16
  ·have hji:(j:Int)<16:=by omega
   obtain⟨x,hx⟩:∃x,slots[j]? = some x:=⟨_,aY (by omega)⟩;have HX:=ae hx;clear hx;go_wp2_with (refine aS rfl 58 _ rfl w.heap.size (3+j*6) rfl _ (tW.out _ H0.out j x HX.out) ?_)
   refine(HKEY.out wr j x HX.out).mono ?_;rintro e w2 ⟨u2,rfl,hO2,hbw2⟩;obtain⟨a2,cap2,rfl⟩:=slice_form hO2;have hU2:=BytesIn.own hO2;have m0:=H0.out.below hbw2 H0.out.lt;have m1:=H1.out.below hbw2 H1.out.lt;have m2:=H2.out.below hbw2 H2.out.lt;have mO:=aq (F:=fun _=>False) (aN hbw2) HO.out (fun _ _=>id);have mB:=HB.out.trans (hbw2.mono HB.out.size);have ail:=Kn x;go_wp2_with (at_builtin;refine bm _ rfl (.tmp 47) (.tmp 48) rfl w.heap.size w2.heap.size (12+20*j) u _ rfl mO a2 20 cap2 (ly x) rfl ail hU2 (by omega) mB.size ?_;intro u4 w4 hO4 hg4)
   go_roundw
   case rel =>
    refine⟨j+1,_,rfl,by omega,by go_num,?_,(hg4.block _ m0.lt (fun e=>aR mO m0 (by decide) _ e.symm rfl)).trans m0,(hg4.block _ m1.lt (fun e=>aR mO m1 (by decide) _ e.symm rfl)).trans m1,(hg4.block _ m2.lt (fun e=>aR mO m2 (by decide) _ e.symm rfl)).trans m2,mB.grown hg4 mB.size (fun r hr=>(mO.lt r hr).1)⟩;have hjl:j<slots.length:=by omega
    have ex:slots[j]=x:=gH ((aY hjl).symm.trans HX.out);rw[GH slots j hjl,ex,←fS,cK,show 12+20*(j+1)=12+20*j+20 by omega];exact hO4
   case measure=>simp[intOf];omega
  ·have hji:¬ (j:Int)<16:=by omega
   have abG:j=16:=by omega
   have hO:=HO.out;rw[abG,show slots.take 16=slots from dg (by omega)]at hO;have aim:=ae hO;clear hO hlt HO abG;go_wp2_with fail;go_loopw [7,11] (fun u i wr=>∃ (j:Nat) (u':Value),u'=u∧j≤64∧i=.int .i64 (j:Int)∧wr.ownsRow w.heap.size 5 1 u' (332+j) ((pre++slots.flatMap ly++bytes.take j).map aj)∧ah wr w.heap.size 62 cs∧ah wr (w.heap.size+1) 111 (az.map aj).toArray∧ah wr (w.heap.size+2) 111 (az.map aj).toArray∧Below w.heap.size w wr) (fun _ i _=>64-(intOf i).toNat)
   case atStart=>exact⟨0,_,rfl,by omega,rfl,by simpa using aim.out,H0.out,H1.out,H2.out,HB.out⟩
   case round =>
    obtain⟨j,u,rfl,hj,rfl,hO,hb0,hb1,hb2,hBw⟩:=hrel;have HO:=ae hO;have H0:=ae hb0;have H1:=ae hb1;have H2:=ae hb2;have HB:=ae hBw;clear hO hb0 hb1 hb2 hBw;by_cases hlt:j<64
    ·have hji:(j:Int)<64:=by omega
     obtain⟨c,hc⟩:∃c,bytes[j]? = some c:=⟨_,aY (by omega)⟩;have HC:=ae hc;have cj:=f_.out wr H0.out j c hc;have nU:BytesIn (wr.alloc (.cells #[aj c] 5)) (wr.alloc (.cells #[aj c] 5)).heap.size (.slice (some ⟨wr.heap.size,0,none⟩) 1 1) [c]:=BytesIn.own (nE (B:=0) (g:=wr.heap.size) (e:=5) (l:=[c]) (cs:=#[aj c]) (ah.new wr _ _) (fi _) rfl rfl (by unfold maxLen;omega));have mO:=HO.out.alloc (.cells #[aj c] 5);have m0:=H0.out.alloc (.cells #[aj c] 5);have m1:=H1.out.alloc (.cells #[aj c] 5);have m2:=H2.out.alloc (.cells #[aj c] 5);have mB:=HB.out.alloc HB.out.size (.cells #[aj c] 5);clear hc;go_wp2_with (at_builtin;refine bm _ rfl (.tmp 54) (.tmp 59) rfl w.heap.size (wr.alloc (.cells #[aj c] 5)).heap.size (332+j) u _ rfl mO (some ⟨wr.heap.size,0,none⟩) 1 1 [c] rfl rfl nU (by omega) mB.size ?_;intro u4 w4 hO4 hg4)
     go_roundw
     case rel =>
      refine⟨j+1,_,rfl,by omega,by go_num,?_,(hg4.block _ m0.lt (fun e=>aR mO m0 (by decide) _ e.symm rfl)).trans m0,(hg4.block _ m1.lt (fun e=>aR mO m1 (by decide) _ e.symm rfl)).trans m1,(hg4.block _ m2.lt (fun e=>aR mO m2 (by decide) _ e.symm rfl)).trans m2,mB.grown hg4 mB.size (fun r hr=>(mO.lt r hr).1)⟩;have hjl:j<bytes.length:=by omega
      have ex:bytes[j]=c:=gH ((aY hjl).symm.trans HC.out);rw[List.take_succ_eq_append_getElem hjl,ex,←fS,cK,show 332+(j+1)=332+j+1 by omega];exact hO4
     case measure=>simp[intOf];omega
    ·have hji:¬ (j:Int)<64:=by omega
     have Pm:j=64:=by omega
     have hO:=HO.out;rw[Pm,show bytes.take 64=bytes from dg (by omega),←Lv.out]at hO;have ain:=ae hO;clear hO hlt HO Pm f_ HKEY tW uF abD;go_wp2_with fail;go_loopw [7] (fun u wr=>∃ (j:Nat) (u':Value),u'=u∧396+j≤508∧wr.ownsRow w.heap.size 5 1 u' (396+j) ((ol++List.replicate j 0).map aj)∧ah wr (w.heap.size+1) 111 (az.map aj).toArray∧ah wr (w.heap.size+2) 111 (az.map aj).toArray∧Below w.heap.size w wr) (fun u _=>508-(match u with | .slice _ n _=>n | _=>0))
     case atStart=>exact⟨0,_,rfl,by omega,by simpa using ain.out,H1.out,H2.out,HB.out⟩
     case round =>
      obtain⟨j,u,rfl,hj,hO,hb1,hb2,hBw⟩:=hrel;obtain⟨a,cap,rfl⟩:=slice_form hO;have HO:=ae hO;have H1:=ae hb1;have H2:=ae hb2;have HB:=ae hBw;clear hO hb1 hb2 hBw;by_cases hlt:396+j<508
      ·have hji:(396:Int)+(j:Int)<508:=by omega
       have nU:BytesIn (wr.alloc (.cells #[aj 0] 5)) (wr.alloc (.cells #[aj 0] 5)).heap.size (.slice (some ⟨wr.heap.size,0,none⟩) 1 1) [0]:=BytesIn.own (nE (B:=0) (g:=wr.heap.size) (e:=5) (l:=[0]) (cs:=#[aj 0]) (ah.new wr _ _) (fi _) rfl rfl (by unfold maxLen;omega));have mO:=HO.out.alloc (.cells #[aj 0] 5);have m1:=H1.out.alloc (.cells #[aj 0] 5);have m2:=H2.out.alloc (.cells #[aj 0] 5);have mB:=HB.out.alloc HB.out.size (.cells #[aj 0] 5);go_wp2_with (at_builtin;refine bm _ rfl (.tmp 64) (.tmp 65) rfl w.heap.size (wr.alloc (.cells #[aj 0] 5)).heap.size (396+j) _ _ rfl mO (some ⟨wr.heap.size,0,none⟩) 1 1 [0] rfl rfl nU (by omega) mB.size ?_;intro u4 w4 hO4 hg4)
       obtain⟨a4,cap4,rfl⟩:=slice_form hO4;go_roundw
       case rel =>
        refine⟨j+1,_,rfl,by omega,?_,(hg4.block _ m1.lt (fun e=>aR mO m1 (by decide) _ e.symm rfl)).trans m1,(hg4.block _ m2.lt (fun e=>aR mO m2 (by decide) _ e.symm rfl)).trans m2,mB.grown hg4 mB.size (fun r hr=>(mO.lt r hr).1)⟩;rw[show ol++List.replicate (j+1) (0:UInt8)=(ol++List.replicate j 0)++[0]by rw[fS,RG],cK];exact hO4
       case measure=>simp;omega
      ·have hji:¬ (396:Int)+(j:Int)<508:=by omega
       have ku:396+j=508:=by omega
       have hO:=HO.out;have KJ:ol++List.replicate j (0:UInt8)=fA ol:=by unfold fA;rw[show j=508-ol.length by omega]
       rw[KJ]at hO;have HU:=BytesIn.own hO;have hlp:=nJ ol (by omega);have eS:dQ (fA ol)=bM ol:=rfl;obtain⟨p,ep⟩:∃p,p=fA ol:=⟨_,rfl⟩;rw[←ep]at HU hlp eS;have KK:=ae (An _ p wr HU (by omega));have xx:=ae eS;clear hO HU KJ ep eS HO ku;go_wp2_with fail;refine KK.out.mono ?_;rintro e w4 ⟨u2,rfl,hO4,hb4⟩;obtain⟨a2,cap2,rfl⟩:=slice_form hO4;rw[xx.out,hlp]at hO4;rw[hlp];have hU4:=BytesIn.own hO4;have hown:=hO4.lt;have h1:=H1.out.below hb4 H1.out.lt;have h2:=H2.out.below hb4 H2.out.lt;have hBw:=HB.out.trans (hb4.mono HB.out.size);have hw2:w.heap.size+2<wr.heap.size:=H2.out.lt;obtain⟨b,eb⟩:∃b,b=bM ol:=⟨_,rfl⟩;rw[←eb]at hbl hU4;have hbe:b.length=az.length:=by rw[hl0,hbl]
       have HL:=ae hU4;have EB:=ae eb;have HOWN:=ae hown;have M1:=ae h1;have M2:=ae h2;have MB:=ae hBw;clear hO4 hU4 hown h1 h2 hBw hb4 eb KK H1 H2 HB xx;go_wp2_with fail;go_loopw [13] (fun i wr2=>∃k:Nat,k≤512∧i=.int .i64 (k:Int)∧ah wr2 (w.heap.size+2) 111 ((kn b az k).map aj).toArray∧ah wr2 (w.heap.size+1) 111 (az.map aj).toArray∧Out (fun i=>i=w.heap.size+2) w4 wr2) (fun i _=>512-(intOf i).toNat)
       case atStart=>exact⟨0,by omega,rfl,by rw[tx];exact M2.out,M1.out,Out.refl _ _⟩
       case round =>
        obtain⟨k,hk,rfl,hO,hR,hOut⟩:=hrel;by_cases hkl:k<512
        ·have hki:(k:Int)<512:=by omega
         obtain⟨c,hc⟩:∃c,b[k]? = some c:=⟨_,aY (by omega)⟩;have hU:=HL.out.rH hOut (fun g hg e=>by have:=(HOWN.out g hg).1;omega);obtain⟨g,off,rfl,hg,hcell⟩:=hU.at_ hc;obtain⟨u,hu⟩:=yf hbe (j:=k) (by omega);have cO:=hO.ag k hu;have fO:=hO.frozen k;have HO:=ae (hO.br k (aj c));rw[vk hbe hc]at HO;have HR:=ae (hR.far (p:=⟨w.heap.size+2,k,none⟩) (by show w.heap.size+1≠w.heap.size+2;omega) (aj c));have aio:=ae (hOut.trans (bk (F:=fun i=>i=w.heap.size+2) (w:=wr) (g:=w.heap.size+2) (i:=k) (v:=aj c) rfl) (fun _ _ h=>h));clear hO hR hOut hU;go_wp2_with fail;exact⟨⟨k+1,by omega,by go_num,HO.out,HR.out,aio.out⟩,by simp[intOf];omega⟩
        ·have hki:¬ (k:Int)<512:=by omega
         obtain rfl:k=512:=by omega
         rw[AP hbl hl0]at hO;have hone:=bq b;have hsz:=aO _ hbl;have hse:=bT _ _ hl0 hbl;have hfin:Below w.heap.size w wr:=(Out.trans (F:=fun i=>w.heap.size≤i) (vq MB.out (fun _ h=>h)) hOut (fun i _ h=>by omega)).below (ai _) (fun i hi h=>by omega);have aey:=aA hfin (b.map aj).toArray (g:=w.heap.size+1) (by omega);clear hOut;go_wp2_with (first
          | (refine bt rfl 111 _ rfl (w.heap.size+2) rfl 111 (b.map aj).toArray (0,0) _ hO dj rfl hsz ?_)
          | (refine aQ rfl 111 _ _ rfl (w.heap.size+1) (b.map aj).toArray rfl rfl 111 _ hR hsz hse hone ?_))
         exact bc (bn Tryz.results96 _ _ _ _ _ (by rfl) (lz hbl (hR.row _)) (by rfl)) rfl ⟨by rw[←EB.out];rfl,aey⟩
def rZ (N a:Nat) (f:bY) (j:Nat):List aI:=(gj N a (f.objs.take j)).map (·.1)
theorem TH (N a:Nat) (f:bY) (j:Nat) (h:j≤f.objs.length):(rZ N a f j).length=j:=by simp[rZ,gj];omega
theorem aak (N a:Nat) (f:bY) (j:Nat) (y:aI) (h:y∈rZ N a f j):y.b.length=512:=by
 obtain⟨z,_,rfl⟩:=dI.1 h;exact z.2
theorem P8 (N a:Nat) (f:bY) (j:Nat) (o:aK) (ho:f.objs[j]? = some o) (hb:(dL o).length≤508) (hN:1≤N∧N≤64) (ha:a≤1) (hj:j<N) :
 rZ N a f (j+1)=rZ N a f j++[⟨((Place.sec N ⟨4,a,j⟩:Nat):Int),bM (dL o)⟩]:=by
 have hl:j<f.objs.length:=by
  rcases bZ j f.objs.length with h | h
  ·exact h
  ·rw[dh h]at ho;cases ho
 have eo:f.objs[j]=o:=gH ((aY hl).symm.trans ho);have e:aJ N 4 a j=(((Place.sec N ⟨4,a,j⟩:Nat):Int),0):=iB N ⟨4,a,j⟩ hN ⟨ha,.inr (.inr ⟨rfl,hj⟩)⟩;have hlt:(f.objs.take j).length=j:=by rw[bD];omega
 unfold rZ;rw[pN f.objs j hl,eo,yV,cK,hlt];show _++[(⟨(aJ N 4 a j).1,(AK (bM (dL o))).1⟩:aI)]=_;rw[e,yc _ (eJ _ hb)]
theorem WL {N a:Nat} {f:bY} (h:gh N f=true) (ha:a≤1):(cu N a f).map (·.1)=rZ N a f f.objs.length++py N a f.state (aD f.state.length)++[⟨((Place.sec N ⟨2,a,0⟩:Nat):Int),bM (oA f)⟩]:=by
 obtain⟨hR,_,_,_,_,_⟩:=nW h;have hN:=yv hR;have hN':1≤N∧N≤64:=by omega
 have hc:=A8 h;unfold cu rZ;rw[cK,cK,tT,iG];congr 1
 ·congr 1
  unfold py pw;rw[tT];apply ID;intro i hi;have hi:=ng.1 hi;show(⟨(aJ N 3 a (mkIdx i).1).1,(jH f.state i).1⟩:aI)=_;have e:aJ N 3 a i=(((Place.sec N ⟨3,a,i⟩:Nat):Int),0):=iB N ⟨3,a,i⟩ hN' ⟨ha,.inr (.inl ⟨rfl,by show i<8;omega⟩)⟩;rw[GI i (by omega),e]
 ·have e:aJ N 2 a 0=(((Place.sec N ⟨2,a,0⟩:Nat):Int),0):=iB N ⟨2,a,0⟩ hN' ⟨ha,.inl ⟨rfl,rfl⟩⟩;show[(⟨(aJ N 2 a 0).1,(AK (bM (oA f))).1⟩:aI)]=_;rw[e,yc _ (eJ _ (G3 h).2)]
def qL (f:bY) (j:Nat):List UInt8:=oz f++e_ (f.bj.take j) (f.objs.take j)
theorem TI (f:bY) (h:f.bj.length=f.objs.length):∀j,j≤f.objs.length→(qL f j).length=20+6*j:=by
 intro j hj;unfold qL;rw[bX,vT,tf _ _ (by rw[bD,bD,h]),bD];omega
theorem P9 (f:bY) (h:f.bj.length=f.objs.length) (j:Nat) (x:Int) (o:aK) (hx:f.bj[j]? = some x) (ho:f.objs[j]? = some o):qL f (j+1)=qL f j++leB x.toNat 2++leB (dJ (fA (dL o))).toNat 4:=by
 have hl:j<f.objs.length:=by
  rcases bZ j f.objs.length with h | h
  ·exact h
  ·rw[dh h]at ho;cases ho
 have eo:f.objs[j]=o:=gH ((aY hl).symm.trans ho);have ex:f.bj[j]'(by omega)=x:=gH ((aY (by omega)).symm.trans hx);unfold qL;rw[pN f.objs j hl,pN f.bj j (by omega),eo,ex,s9 _ _ _ _ (by rw[bD,bD,h])];unfold lY;simp only[List.append_assoc]
theorem TK (N a:Nat) (f:bY) (fr:Value) (w:World) (hf:cL w w.heap.size fr f) (hfr:gh N f=true) (ha:a≤1) (hed:f.ed≤9223372036854775807) (hv64:∀o∈f.objs, ∀x∈o.slots,ix x.v) :
 Calls Tryz.prog 49 #[.agg #[.int .i64 (N:Int)],.int .i64 (a:Int),fr] w fun e w'=>∃v,e=.returned v∧cC w' w'.heap.size v ((cu N a f).map (·.1))∧Below w.heap.size w w':=by
 rw[WL hfr ha];have hcl:=A8 hfr;have hlh:=G3 hfr;obtain⟨hR,p1,p2,p3,p4,p5⟩:=nW hfr;have hN0:=yv hR;have hN:1≤N∧N≤64:=by omega
 have hp3:∀k,k<8→Place.ok N ⟨3,a,k⟩:=fun k hk=>⟨ha,.inr (.inl ⟨rfl,hk⟩)⟩
 have TL:∀k,k<N→Place.ok N ⟨4,a,k⟩:=fun k hk=>⟨ha,.inr (.inr ⟨rfl,hk⟩)⟩
 have hp2:Place.ok N ⟨2,a,0⟩:=⟨ha,.inl ⟨rfl,rfl⟩⟩;obtain⟨vo,vb,vs,rfl,hf1,hf2,hf3⟩:=hf;have WM:=hf1;have WN:=hf2;have WO:=hf3;obtain⟨_,ao,co,rfl,_,_⟩:=hf1;obtain⟨_,ab,cb,rfl,_,_⟩:=hf2;obtain⟨_,aw,cs,rfl,_,_⟩:=hf3;obtain⟨ed,C1⟩:∃ed:Nat,f.ed=(ed:Int):=⟨f.ed.toNat,by omega⟩;have aip:(ed:Int)≤9223372036854775807:=by omega
 have Oa:oz f=[67,72,76,71]++leB ed 8++leB f.bj.length 2++leB f.state.length 2++leB (dJ f.state).toNat 4:=by
  unfold oz;rw[C1];rfl
 have BK:=ae (fun(j:Nat) (x:Int) (o:aK) (hx:f.bj[j]? = some x) (ho:f.objs[j]? = some o)=>FW N f.bj f.objs (-1) (by omega) p5 j x o hx ho);have TM:=ae (fun(j:Nat) (x:Int) (o:aK) (hx:f.bj[j]? = some x) (ho:f.objs[j]? = some o)=>P9 f p2 j x o hx ho);have Yx:=ae (TI f p2);have Lw:=ae (TH N a f);have abI:=ae (aak N a f);have Yy:=ae (fun(j:Nat) (o:aK) (ho:f.objs[j]? = some o) (hb:(dL o).length≤508) (hj:j<N)=>P8 N a f j o ho hb hN ha hj);have hk0:qL f 0=oz f:=by unfold qL;exact ny _
 have hkn:qL f f.objs.length=oA f:=by unfold qL oA;rw[iG,←p2,iG]
 have Lx:=ae hv64;rw[←hkn];have oy:(qL f f.objs.length).length≤508:=by rw[hkn];exact hlh.2
 have hlo0:rZ N a f 0=[]:=rfl;have ft:=ae hk0;obtain⟨st,est⟩:∃st,st=f.state:=⟨_,rfl⟩;obtain⟨bj,eoi⟩:∃l,l=f.bj:=⟨_,rfl⟩;obtain⟨objs,uq⟩:∃l,l=f.objs:=⟨_,rfl⟩;obtain⟨hk,ehk⟩:∃h:Nat→List UInt8,h=qL f:=⟨_,rfl⟩;obtain⟨lo,elo⟩:∃h:Nat→List aI,h=rZ N a f:=⟨_,rfl⟩;obtain⟨hpp,WQ⟩:∃h:List UInt8,h=oz f:=⟨_,rfl⟩;have ami:hpp.length=20:=by rw[WQ];exact vT f
 rw[C1];rw[←est]at WO hcl p4 Oa ⊢;rw[←eoi]at WM BK TM p2 p3 Oa ⊢;rw[←uq]at WN BK TM Lw Yy Lx Yx p2 oy ⊢;rw[←ehk]at TM Yx ft oy ⊢;rw[←elo]at Lw Yy abI hlo0 ⊢;rw[←WQ]at Oa ft;obtain⟨no,eno⟩:∃no,no=bj.length:=⟨_,rfl⟩;have mQ:objs.length=no:=by rw[eno];exact p2.symm
 rw[←eno]at Oa p3 ⊢;rw[mQ]at Lw Yx oy ⊢;have hno:no≤64:=by omega
 have HOI:=ae WM;have qM:=ae WN;have HST:=ae WO;have HHL:=ae Oa;have pS:=ae (And.intro eno mQ);have aiq:=ae hlo0;clear WO WM WN est eoi uq ehk elo WQ eno mQ Oa hfr p1 p2 p5 hed C1 hv64 hlh hkn hk0 hlo0;have hcr:=pK st;have air:=ae (fun W (hh:BytesIn W W.heap.size (.slice aw st.length cs) st)=>tX (.slice aw st.length cs) st W hh);have h12:=TE N a st;have HLEN:=ae h12;clear h12;have amX:st.length≤4096:=p4;have cv:=Lib.run_convert_bytes_const (P:=Tryz.prog) ((w.alloc (.cells #[.int .i64 (N:Int)] 23)).alloc (.cells #[.int .i64 (ed:Int),.slice ao no co,.slice ab no cb,.slice aw st.length cs] 28)) 26 5 #[.int .u8 67,.int .u8 72,.int .u8 76,.int .u8 71] 4 4 eU oK;rw[iF,iF]at cv;go_enter Tryz.func49,Tryz.ntmps49
 go_upto_region 3 with fail;obtain⟨W,eW⟩:∃W,W=((w.alloc (.cells #[.int .i64 (N:Int)] 23)).alloc (.cells #[.int .i64 (ed:Int),.slice ao no co,.slice ab no cb,.slice aw st.length cs] 28)).alloc (.cells #[.int .u8 67,.int .u8 72,.int .u8 76,.int .u8 71] 5 (4,5)):=⟨_,rfl⟩;rw[←eW];have hb0:Below w.heap.size w W:=by rw[eW];exact(((ax _ w).alloc (ai _) _).alloc (by simp) _).alloc (by simp;omega) _
 have k0:ah W w.heap.size 23 #[.int .i64 (N:Int)]:=by rw[eW];exact((ah.new w _ _).alloc _).alloc _
 have k1:ah W (w.heap.size+1) 28 #[.int .i64 (ed:Int),.slice ao no co,.slice ab no cb,.slice aw st.length cs]:=by rw[eW];exact(ah.new2 w _ _ _).alloc _
 have KM:W.heap[w.heap.size+2]? = some (.cells #[.int .u8 67,.int .u8 72,.int .u8 76,.int .u8 71] 5 (4,5)):=by
  rw[eW];have:=bC ((w.alloc (.cells #[.int .i64 (N:Int)] 23)).alloc (.cells #[.int .i64 (ed:Int),.slice ao no co,.slice ab no cb,.slice aw st.length cs] 28)) (.cells #[.int .u8 67,.int .u8 72,.int .u8 76,.int .u8 71] 5 (4,5));rw[iF,iF]at this;exact this
 have hWs:W.heap.size=w.heap.size+3:=by rw[eW];simp
 clear eW cv;have q0:=k1.ag 0 rfl;go_wp2_with fail;refine(rr ed 8 W rfl aip).mono ?_;rintro e L1 ⟨l1,rfl,hlo1,Ly⟩;obtain⟨g1,uj,e1,_,_⟩:=lM hlo1 (by omega);subst e1;have hu1:=BytesIn.own hlo1;have hnews:∀j u,((leB ed 8).map aj)[j]? = some u→L1.cell? ((⟨g1,0,none⟩:Addr).add j)=some u:=by
  intro j u hj;rw[dV]at hj;obtain⟨c,hcj,rfl⟩:=iE.1 hj;obtain⟨g2,off,h,_,hcell⟩:=hu1.at_ hcj;cases h
  rw[eP];exact hcell
 have holds:∀j u,(([67,72,76,71]:List UInt8).map aj)[j]? = some u→L1.cell? ((⟨w.heap.size+2,0,none⟩:Addr).add j)=some u:=by
  intro j u hj;rw[eP,cW];refine(Ly.cell (p:=⟨w.heap.size+2,j,none⟩) (by show w.heap.size+2<W.heap.size;omega)).trans ?_;rw[mL W (w.heap.size+2) j _ _ _ KM];have e:(#[.int .u8 67,.int .u8 72,.int .u8 76,.int .u8 71]:Array Value).toList=([67,72,76,71]:List UInt8).map aj:=rfl;rw[←rQ,e];exact hj
 have xC:=k0.below Ly k0.lt;have xD:=k1.below Ly k1.lt;have hbL:=hb0.trans (Ly.mono hb0.size);have hke:=bJ ed 8;go_upto_region 4 with (at_builtin;refine wpList_append_grows L1 rfl (.tmp 15) (.tmp 18) rfl ⟨w.heap.size+2,0,none⟩ 4 4 [67,72,76,71] rfl rfl holds ⟨g1,0,none⟩ 8 uj (leB ed 8) rfl hke hnews (by omega) (by omega) ?_;intro hv1 X1 fz hg1)
 have hb1:=hbL.grown hg1 hbL.size (fun r hr=>by cases hr);have r1:X1.ownsRow w.heap.size 5 1 hv1 12 (([67,72,76,71]++leB ed 8).map aj):=by rw[cK];exact yX fz hbL.size
 have a0:ah X1 w.heap.size 23 #[.int .i64 (N:Int)]:=(hg1.block _ xC.lt (fun e=>by cases e)).trans xC;have a1:ah X1 (w.heap.size+1) 28 #[.int .i64 (ed:Int),.slice ao no co,.slice ab no cb,.slice aw st.length cs]:=(hg1.block _ xD.lt (fun e=>by cases e)).trans xD;clear q0 k0 k1 KM hnews holds xC xD hbL fz hg1 hlo1 Ly hu1 hke hb0;have q2:=a1.ag 1 rfl;go_wp2_with fail;refine(rr no 2 X1 rfl (by omega)).mono ?_;rintro e L2 ⟨l2,rfl,hlo2,Lz⟩;obtain⟨g2,cap2,e2,_,_⟩:=lM hlo2 (by omega);subst e2;have hu2:=BytesIn.own hlo2;have hke2:=bJ (no) 2;have P_:=(a0:ah _ _ _ _).below Lz (a0:ah _ _ _ _).lt;have P':=(a1:ah _ _ _ _).below Lz (a1:ah _ _ _ _).lt;have Qa:=hb1.trans (Lz.mono hb1.size);have ho2:=aq (F:=fun _=>False) (aN Lz) r1 (fun _ _=>id);go_upto_region 5 with (at_builtin;refine bm _ rfl (.tmp 20) (.tmp 24) rfl w.heap.size L2.heap.size 12 hv1 _ rfl ho2 (some ⟨g2,0,none⟩) 2 cap2 (leB (no) 2) rfl hke2 hu2 (by omega) Qa.size ?_;intro hv2 X2 hO2 hg2)
 have hb2:=Qa.grown hg2 Qa.size (fun r hr=>(ho2.lt r hr).1);have r2:X2.ownsRow w.heap.size 5 1 hv2 (12+2) (([67,72,76,71]++leB ed 8++leB (no) 2).map aj):=by rw[cK];exact hO2
 have b02:ah X2 w.heap.size 23 #[.int .i64 (N:Int)]:=(hg2.block _ P_.lt (fun e=>aR ho2 P_ (by decide) _ e.symm rfl)).trans P_;have b12:ah X2 (w.heap.size+1) 28 #[.int .i64 (ed:Int),.slice ao no co,.slice ab no cb,.slice aw st.length cs]:=(hg2.block _ P'.lt (fun e=>aR ho2 P' (by decide) _ e.symm rfl)).trans P';clear q2 P_ P' Qa hO2 hg2 hlo2 Lz hu2 hke2 ho2 hb1 r1 a0 a1;have q3:=b12.ag 3 rfl;go_wp2_with fail;refine(rr st.length 2 X2 rfl (by omega)).mono ?_;rintro e L3 ⟨l3,rfl,hlo3,LA⟩;obtain⟨g3,pB,e3,_,_⟩:=lM hlo3 (by omega);subst e3;have hu3:=BytesIn.own hlo3;have abJ:=bJ (st.length) 2;have Qb:=(b02:ah _ _ _ _).below LA (b02:ah _ _ _ _).lt;have Qc:=(b12:ah _ _ _ _).below LA (b12:ah _ _ _ _).lt;have Qd:=hb2.trans (LA.mono hb2.size);have ho3:=aq (F:=fun _=>False) (aN LA) r2 (fun _ _=>id);go_upto_region 6 with (at_builtin;refine bm _ rfl (.tmp 26) (.tmp 30) rfl w.heap.size L3.heap.size (12+2) hv2 _ rfl ho3 (some ⟨g3,0,none⟩) 2 pB (leB (st.length) 2) rfl abJ hu3 (by omega) Qd.size ?_;intro hv3 X3 hO3 hg3)
 have hb3:=Qd.grown hg3 Qd.size (fun r hr=>(ho3.lt r hr).1);have r3:X3.ownsRow w.heap.size 5 1 hv3 ((12+2)+2) (([67,72,76,71]++leB ed 8++leB (no) 2++leB (st.length) 2).map aj):=by rw[cK];exact hO3
 have G4:ah X3 w.heap.size 23 #[.int .i64 (N:Int)]:=(hg3.block _ Qb.lt (fun e=>aR ho3 Qb (by decide) _ e.symm rfl)).trans Qb;have b13:ah X3 (w.heap.size+1) 28 #[.int .i64 (ed:Int),.slice ao no co,.slice ab no cb,.slice aw st.length cs]:=(hg3.block _ Qc.lt (fun e=>aR ho3 Qc (by decide) _ e.symm rfl)).trans Qc;clear q3 Qb Qc Qd hO3 hg3 hlo3 LA hu3 abJ ho3 hb2 r2 b02 b12;have q4:=b13.ag 3 rfl;go_wp2_with fail;refine(air.out X3 ((HST.out.below hb3 (ai _)).mono hb3.size)).mono ?_;rintro e c3 ⟨rfl,hwc⟩;subst hwc;obtain⟨C,eC⟩:∃C,C=(dJ st).toNat:=⟨_,rfl⟩;unfold gM;rw[←eC]at hcr ⊢;have EC:=ae eC;clear eC;go_wp2_with fail;refine(rr C 4 X3 rfl (by omega)).mono ?_;rintro e L4 ⟨l4,rfl,uH,nX⟩;obtain⟨g4,cap4,e4,_,_⟩:=lM uH (by omega);subst e4;have G5:=BytesIn.own uH;have A_:=bJ (C) 4;have yy:=(G4:ah _ _ _ _).below nX (G4:ah _ _ _ _).lt;have Qe:=(b13:ah _ _ _ _).below nX (b13:ah _ _ _ _).lt;have qI:=hb3.trans (nX.mono hb3.size);have mm:=aq (F:=fun _=>False) (aN nX) r3 (fun _ _=>id);go_upto_region 7 with (at_builtin;refine bm _ rfl (.tmp 32) (.tmp 37) rfl w.heap.size L4.heap.size (12+2+2) hv3 _ rfl mm (some ⟨g4,0,none⟩) 4 cap4 (leB (C) 4) rfl A_ G5 (by omega) qI.size ?_;intro hv4 X4 hO4 hg4)
 have hb4:=qI.grown hg4 qI.size (fun r hr=>(mm.lt r hr).1);have r4:X4.ownsRow w.heap.size 5 1 hv4 ((12+2+2)+4) (([67,72,76,71]++leB ed 8++leB (no) 2++leB (st.length) 2++leB (C) 4).map aj):=by rw[cK];exact hO4
 have za:ah X4 w.heap.size 23 #[.int .i64 (N:Int)]:=(hg4.block _ yy.lt (fun e=>aR mm yy (by decide) _ e.symm rfl)).trans yy;have b14:ah X4 (w.heap.size+1) 28 #[.int .i64 (ed:Int),.slice ao no co,.slice ab no cb,.slice aw st.length cs]:=(hg4.block _ Qe.lt (fun e=>aR mm Qe (by decide) _ e.symm rfl)).trans Qe;clear q4 yy Qe qI hO4 hg4 uH nX G5 A_ mm hb3 r3 G4 b13;have hrow:X4.ownsRow w.heap.size 5 1 hv4 20 ((hk 0).map aj):=by
  rw[ft.out,HHL.out,←EC.out];exact r4
 have Yz:=ae hb4;have F3:=ae hrow;have Qf:=ae za;have Qg:=ae b14;clear r4 hrow hb4 za b14;go_wp2_with fail;go_loopw [7,8,9] (fun o h i wr=>∃ (j:Nat) (o' h':Value),o'=o∧h'=h∧j≤no∧i=.int .i64 (j:Int)∧wr.ownsRow w.heap.size 113 513 o' j (aL (lo j))∧wr.ownsRow w.heap.size 5 1 h' (20+6*j) ((hk j).map aj)∧ah wr w.heap.size 23 #[.int .i64 (N:Int)]∧ah wr (w.heap.size+1) 28 #[.int .i64 (ed:Int),.slice ao no co,.slice ab no cb,.slice aw st.length cs]∧Below w.heap.size w wr) (fun _ _ i _=>no-(intOf i).toNat)
 case atStart=>exact⟨0,_,_,rfl,rfl,by omega,rfl,by rw[aiq.out];exact km _ _ _ _,F3.out,Qf.out,Qg.out,Yz.out⟩
 case round =>
  obtain⟨j,o,h,rfl,rfl,hj,rfl,hO,hH,oH,hK1,hBw⟩:=hrel;have q1:=hK1.ag 1 rfl;have HO:=ae hO;have HH:=ae hH;have pT:=ae hBw;have Co:=ae oH;have oJ:=ae hK1;clear hO hH hBw oH hK1 F3 Qf Qg Yz HHL ft;by_cases hlt:j<no
  ·have hji:(j:Int)<(no:Int):=by omega
   have hjN:j<N:=by omega
   obtain⟨i0,z0,T0⟩:=C6;have HT:=ae T0;clear T0;obtain⟨x,hx⟩:∃x,bj[j]? = some x:=⟨_,aY (by rw[←pS.out.1];exact hlt)⟩;obtain⟨ob,ky⟩:∃x,objs[j]? = some x:=⟨_,aY (by rw[pS.out.2];exact hlt)⟩;obtain⟨hx0,hxN,hoB⟩:=BK.out j x ob hx ky;obtain⟨hok,hrs,gb,F5,eab,hgb,hrange⟩:=qM.out.at_ ky;obtain⟨go,Qh,eao,hgo,TN⟩:=HOI.out.at_ hx;have hsb:(bM (dL ob)).length=512:=eJ _ (by rw[my ob hok];decide);have hput:=fun W=>G7 ob hok hrs (Lx.out ob (je ky)) N W hoB
   have hls:=Yy.out j ob ky (by rw[my ob hok];decide) hjN;have hhk:=TM.out j x ob hx ky;have hsp:fA (dL ob)=(bM (dL ob)).take 508:=(AJ _ (by rw[my ob hok];decide)).symm;rw[hsp]at hhk;obtain⟨sb,Bc⟩:∃sb,sb=bM (dL ob):=⟨_,rfl⟩;rw[←Bc]at hsb hput hls hhk;unfold aV at hput;obtain⟨xn,rfl⟩:∃xn:Nat,x=xn:=⟨x.toNat,by omega⟩;rw[Du]at hhk;obtain⟨oc,eoc⟩:∃oc,oc=ob.cells:=⟨_,rfl⟩;have abL:oc.length=163:=by rw[eoc];exact aK.len hok
   rw[←eoc]at hput hrange;have LB:=ae hput;have ais:=ae hls;have ait:=ae hhk;have KW:=ae hrange;have aiu:=ae TN;have hl0:az.length=512:=et;have soc:(Tryz.prog.info? 62).map (·.size)=some oc.length:=by rw[abL];kernel_rfl
   subst eab;subst eao;clear hput hls hhk hrange TN hoB hrs hok ky hx Bc eoc hsp BK TM Yy qM HOI Lx abL;go_upto_region 10 with fail;have LC:Below wr.heap.size wr wr.drew:=(ax _ wr).drew;have G8:=ae (fun(W':World) (hb':Below wr.heap.size wr W')=>(⟨(oJ.out.below hb' oJ.out.lt).ag 2 rfl,dE KW.out (pT.out.trans (hb'.mono pT.out.size)) hgb,(Co.out.below hb' Co.out.lt).ag 0 rfl⟩:W'.cell? ⟨w.heap.size+1,2,none⟩=some (.slice (some ⟨gb,F5,none⟩) no cb)∧W'.rangeAt gb (F5+j*163) oc∧W'.cell? ⟨w.heap.size,0,none⟩=some (.int .i64 (N:Int))));refine' yq (_:Nat→Act) (fun g10 Q=>ah Q g10 111 (sb.map aj).toArray∧Below wr.heap.size wr Q∧wr.heap.size≤g10) ?_ ?_;rotate_left 1
   ·skip
    refine bF (S:=(fun w'=>w'.cell? ⟨w.heap.size+1,2,none⟩=some (.slice (some ⟨gb,F5,none⟩) no cb)∧w'.rangeAt gb (F5+j*163) oc∧w'.cell? ⟨w.heap.size,0,none⟩=some (.int .i64 (N:Int)))) (by kernel_rfl) (by(try dsimp only);exact G8.out _ LC) (fun hHeld=>?_);refine tk 0 ?_;refine tk 1 ?_;refine tk 2 ?_;refine tk 3 ?_;refine ty 4 rfl (cY (by rfl) 62 _ rfl _ _ rfl oc _ (fun w' h=>h.2.1) dH rfl soc) ?_;refine tk 5 ?_;refine tk 6 ?_;refine fU (rs:=[7,11]) (by kernel_rfl) (by simp) ?_;refine(ca rfl (fun K hK=>?_) (ca rfl (fun K hK=>?_) fT))
    ·skip
     go_simp;refine(LB.out wr.drew).mono ?_;rintro e Z2 ⟨rfl,hq⟩;have hz2:=LC.trans (hq.mono LC.size);go_wp2_with fail;refine hK.out _ _ (by(try dsimp only);exact G8.out _ hz2) (fun hHeld=>?_);clear hK K;refine tk 8 ?_;refine tk 9 ?_;refine tk 10 ?_;refine rd 11 fun K hK=>?_;go_simp;obtain⟨Z3,eZ⟩:∃Z,Z=Z2.alloc (.cells Tryz.zeroCells111 111):=⟨_,rfl⟩;have hz3:Below wr.heap.size wr Z3:=by rw[eZ];exact hz2.alloc hz2.size (.cells Tryz.zeroCells111 111)
     obtain⟨g10,eg⟩:∃g,g=(Z2).heap.size:=⟨_,rfl⟩;have bz:ah Z3 g10 111 Tryz.zeroCells111:=by rw[eZ,eg];exact ah.new (Z2) 111 Tryz.zeroCells111
     have hl:wr.heap.size≤g10:=by rw[eg];exact hz2.size
     try rw[←eZ]
     clear eZ;try rw[←eg]
     clear eg;refine hK.out _ _ (by(try dsimp only);exact G8.out _ hz3) (fun hHeld=>?_);clear hK K;refine rd 12 fun K hK=>?_;rw[bE]at bz;refine ez 111 _ _ rfl g10 (sb.map aj).toArray rfl rfl 111 _ bz (aO _ hsb) (bT _ _ hl0 hsb) (bq _) ?_;replace bz:=bz.row (sb.map aj).toArray;have Fa:=aA hz3 (sb.map aj).toArray (g:=g10) hl;refine hK.out _ _ (by(try dsimp only);exact G8.out _ Fa) (fun hHeld=>?_);clear hK K;refine tk 13 ?_;refine aT ?_;refine⟨g10,?_,bz,Fa,hl⟩;with_reducible rfl
    ·skip
     go_simp;obtain⟨Z2,eZ⟩:∃Z,Z=(wr.alloc (.cells Tryz.zeroCells111 111)).drew:=⟨_,rfl⟩;have hz2:Below wr.heap.size wr Z2:=by rw[eZ];exact LC.alloc LC.size (.cells Tryz.zeroCells111 111)
     obtain⟨g10,eg⟩:∃g,g=(wr.drew).heap.size:=⟨_,rfl⟩;have bz:ah Z2 g10 111 Tryz.zeroCells111:=by rw[eZ,eg];exact ah.new (wr.drew) 111 Tryz.zeroCells111
     have hl:wr.heap.size≤g10:=by rw[eg];exact LC.size
     try rw[←eZ]
     clear eZ;have Oc:wr.heap.size=g10:=by rw[eg];rfl
     try rw[Oc]
     clear Oc;clear eg;refine hK.out _ _ (by(try dsimp only);exact G8.out _ hz2) (fun hHeld=>?_);clear hK K;refine rd 7 fun K hK=>?_;go_simp;refine(LB.out Z2).mono ?_;rintro e Z3 ⟨rfl,hq⟩;have hz3:=hz2.trans (hq.mono hz2.size);replace bz:=bz.below hq bz.lt;go_wp2_with fail;refine hK.out _ _ (by(try dsimp only);exact G8.out _ hz3) (fun hHeld=>?_);clear hK K;refine tk 8 ?_;refine tk 9 ?_;refine tk 10 ?_;refine rd 12 fun K hK=>?_;rw[bE]at bz;refine ez 111 _ _ rfl g10 (sb.map aj).toArray rfl rfl 111 _ bz (aO _ hsb) (bT _ _ hl0 hsb) (bq _) ?_;replace bz:=bz.row (sb.map aj).toArray;have Fa:=aA hz3 (sb.map aj).toArray (g:=g10) hl;refine hK.out _ _ (by(try dsimp only);exact G8.out _ Fa) (fun hHeld=>?_);clear hK K;refine tk 13 ?_;refine aT ?_;refine⟨g10,?_,bz,Fa,hl⟩;with_reducible rfl
   rintro g10 Q ⟨b10,hq,aiv⟩;have k0:=Co.out.below hq Co.out.lt;have k1:=oJ.out.below hq oJ.out.lt;have oQ:=aq (F:=fun _=>False) (aN hq) HO.out (fun _ _=>id);have hQ:=aq (F:=fun _=>False) (aN hq) HH.out (fun _ _=>id);have BQ:=ae (pT.out.trans (hq.mono pT.out.size));have SK:=ae (fun(W':World) (hb':Below Q.heap.size Q W')=>And.intro ((k0.below hb' k0.lt).ag 0 rfl) (b10.below hb' b10.lt));have KP:=ae k0;have KF:=ae k1;have KT:=ae b10;have HOQ:=ae oQ;have HHQ:=ae hQ;clear Co oJ HO HH pT G8 LC k0 k1 b10 oQ hQ hq LB KW;have hb0:Below Q.heap.size Q Q.drew:=(ax _ Q).drew;go_upto_region 11 with fail;refine bF (S:=(fun w'=>w'.cell? ⟨w.heap.size,0,none⟩=some (.int .i64 (N:Int))∧ah w' g10 111 (sb.map aj).toArray)) (by kernel_rfl) (by(try dsimp only);exact SK.out _ hb0) (fun hHeld=>?_);generalize Q.drew=X0 at *;refine tk 0 ?_;refine tk 1 ?_;refine tk 2 ?_;refine tk 3 ?_;refine ty 5 rfl (cY (by rfl) 111 _ rfl g10 0 rfl (sb.map aj) _ (fun w' h=>by have:=dt h.2;simpa using this) dj rfl (by have h:=aO sb hsb;rwa [b']at h)) ?_;refine rd 4 fun K hK=>?_;go_simp;refine(rq N ⟨4,a,j⟩ X0 hN (TL j hjN)).mono ?_;rintro e X1 ⟨rfl,hb1'⟩;have hb1:=hb0.trans (hb1'.mono hb0.size);obtain⟨sn,vB⟩:∃sn:Int,sn=((Place.sec N ⟨4,a,j⟩:Nat):Int):=⟨_,rfl⟩;rw[←vB];have CA:=ae vB;clear vB;have sZ:(aI.cells ⟨sn,sb⟩).toArray.size=513:=by simpa using aI.len ⟨sn,sb⟩ hsb
   have pt:(aI.cells ⟨sn,sb⟩).length=1*513:=aI.len ⟨sn,sb⟩ hsb;go_wp2_with fail;refine hK.out _ _ (by(try dsimp only);exact SK.out _ hb1) (fun hHeld=>?_);clear hK K;refine ty 6 rfl (iO (by rfl) 113 _ rfl (aI.cells ⟨sn,sb⟩).toArray (by exact AQ _ _ hsb)) ?_;refine rd 7 fun K hK=>?_;try rw[aB (by rfl)]
   refine dW 108 113 1 _ rfl (aI.cells ⟨sn,sb⟩).toArray i0 z0 HT.out.ht HT.out.hi HT.out.hz (by rw[HT.out.h1];decide) (by rw[HT.out.h1];decide) (by exact nG _ sZ i0 z0 HT.out.h1 HT.out.h3) ?_;obtain⟨X3,nP⟩:∃V,V=X1.alloc (.cells (aI.cells ⟨sn,sb⟩).toArray 113):=⟨_,rfl⟩;have hb3:Below Q.heap.size Q X3:=by rw[nP];exact hb1.alloc hb1.size _
   have yZ:ah X3 X1.heap.size 113 (aI.cells ⟨sn,sb⟩).toArray:=by rw[nP];exact ah.new X1 _ _
   try rw[←nP]
   clear nP;refine hK.out _ _ (by(try dsimp only);exact SK.out _ hb3) (fun hHeld=>?_);clear hK K;refine rd 8 fun K hK=>?_;try rw[aB (by rfl)]
   have kA:=aq (F:=fun _=>False) (aN hb3) HOQ.out (fun _ _=>id);refine oe _ (.tmp 57) (.tmp 64) 108 rfl w.heap.size 113 i0 z0 513 520 HT.out.ht HT.out.hi HT.out.hz HT.out.h1 HT.out.h2 HT.out.h3 (by omega) o j (aL (lo j)) rfl kA ⟨X1.heap.size,0,none⟩ 1 1 (aI.cells ⟨sn,sb⟩) rfl pt (ia (cs:=(aI.cells ⟨sn,sb⟩).toArray) (t:=113) (fr:=(0,0)) yZ) (lu ⟨sn,sb⟩) (by omega) (by unfold maxLen;omega) (by omega) (BQ.out.trans (hb3.mono BQ.out.size)).size X3.heap.size rfl ?_;intro g4 c4 X4 hO4 hg4 WR F1;have hb4:Below w.heap.size w X4:=(BQ.out.trans (hb3.mono BQ.out.size)).grown hg4 (BQ.out.trans (hb3.mono BQ.out.size)).size (fun r hr=>(kA.lt r hr).1);have hh3:=aq (F:=fun _=>False) (aN hb3) HHQ.out (fun _ _=>id);have YA:=aq (jN hg4) hh3 (fun i hi hi2=>uG kA hh3 (by decide) i hi2 hi);have zd:=KP.out.below hb3 KP.out.lt;have k13:=KF.out.below hb3 KF.out.lt;have k23:=KT.out.below hb3 KT.out.lt;have Fb:ah X4 w.heap.size 23 #[.int .i64 (N:Int)]:=(hg4.block _ zd.lt (fun e=>aR kA zd (by decide) _ e.symm rfl)).trans zd;have k14:ah X4 (w.heap.size+1) 28 #[.int .i64 (ed:Int),.slice (some ⟨go,Qh,none⟩) no co,.slice (some ⟨gb,F5,none⟩) no cb,.slice aw st.length cs]:=(hg4.block _ k13.lt (fun e=>aR kA k13 (by decide) _ e.symm rfl)).trans k13;have k24:ah X4 g10 111 (sb.map aj).toArray:=(hg4.block _ k23.lt (fun e=>aR kA k23 (by decide) _ e.symm rfl)).trans k23;refine hK.out _ _ (by(try dsimp only);exact⟨Fb.ag 0 rfl,k24⟩) (fun hHeld=>?_);clear hK K;refine tk 9 ?_;refine aT ?_;have q1:=k14.ag 1 rfl;have qx:X4.cell? ⟨go,Qh+j,none⟩=some (.int .i64 (xn:Int)):=(hb4.cell (p:=⟨go,Qh+j,none⟩) hgo).trans aiu.out;have yO:=ae hO4;have vC:=ae (And.intro Fb (And.intro k14 k24));have HH4:=ae YA;have iz:=ae hb4;clear Fb k14 k24 zd k13 k23 hh3 YA kA hO4 WR F1 hg4 yZ hb3 hb1 hb4 hb1' hb0 KP KF KT HOQ HHQ BQ SK;go_wp2_with fail;refine(rr xn 2 X4 rfl (by omega)).mono ?_;rintro e L5 ⟨l5,rfl,qJ,mF⟩;obtain⟨g5,cap5,e5,_,_⟩:=lM qJ (by omega);subst e5;have G6:=BytesIn.own qJ;have Dc:=bJ xn 2;have yz:=vC.out.1.below mF vC.out.1.lt;have Qi:=vC.out.2.1.below mF vC.out.2.1.lt;have Qj:=vC.out.2.2.below mF vC.out.2.2.lt;have qK:=iz.out.trans (mF.mono iz.out.size);have jh:=aq (F:=fun _=>False) (aN mF) HH4.out (fun _ _=>id);have pL:=aq (F:=fun _=>False) (aN mF) yO.out (fun _ _=>id);go_upto_region 13 with (at_builtin;refine bm _ rfl (.tmp 66) (.tmp 72) rfl w.heap.size L5.heap.size (20+6*j) h _ rfl jh (some ⟨g5,0,none⟩) 2 cap5 (leB xn 2) rfl Dc G6 (by omega) qK.size ?_;intro hv5 X5 hW5 hg5)
   have hb5:=qK.grown hg5 qK.size (fun r hr=>(jh.lt r hr).1);have hP5:=aq (jN hg5) pL (fun i hi hi2=>uG pL jh (by decide) i hi hi2);have Ls:=(hg5.block _ yz.lt (fun e=>aR jh yz (by decide) _ e.symm rfl)).trans yz;have b15:=(hg5.block _ Qi.lt (fun e=>aR jh Qi (by decide) _ e.symm rfl)).trans Qi;have b25:=(hg5.block _ Qj.lt (fun e=>aR jh Qj (by decide) _ e.symm rfl)).trans Qj;have hV:=fq (show ah X5 g10 111 (sb.map aj).toArray from b25) 508 (by omega) (by rw[hsb];decide);rw[hsb]at hV;have HVB:=ae hV;have HW5:=ae hW5;have YB:=ae hP5;have uk:=ae hb5;have ve:=ae (And.intro (show ah X5 w.heap.size 23 #[.int .i64 (N:Int)]from Ls) (And.intro (show ah X5 (w.heap.size+1) 28 #[.int .i64 (ed:Int),.slice (some ⟨go,Qh,none⟩) no co,.slice (some ⟨gb,F5,none⟩) no cb,.slice aw st.length cs]from b15) (show ah X5 g10 111 (sb.map aj).toArray from b25)));clear hV hW5 hP5 hb5 Ls b15 b25 jh pL yz Qi Qj qK G6 qJ mF hg5 yO vC HH4 iz q1 qx;have aiw:=pK (sb.take 508);go_wp2_with fail;refine(tX (.slice (some ⟨g10,0,none⟩) 508 512) (sb.take 508) X5 HVB.out).mono ?_;rintro e c5 ⟨rfl,hwc⟩;subst hwc;obtain⟨C5,eC5⟩:∃C,C=(dJ (sb.take 508)).toNat:=⟨_,rfl⟩;unfold gM;rw[←eC5]at aiw ⊢;have EC5:=ae eC5;clear eC5;go_wp2_with fail;refine(rr C5 4 X5 rfl (by omega)).mono ?_;rintro e L6 ⟨l6,rfl,F2,uI⟩;obtain⟨g6,cap6,e6,_,_⟩:=lM F2 (by omega);subst e6;have Yw:=BytesIn.own F2;have PW:=bJ C5 4;have Ba:=ve.out.1.below uI ve.out.1.lt;have WS:=ve.out.2.1.below uI ve.out.2.1.lt;have WT:=ve.out.2.2.below uI ve.out.2.2.lt;have Bb:=uk.out.trans (uI.mono uk.out.size);have qy:=aq (F:=fun _=>False) (aN uI) HW5.out (fun _ _=>id);have TF:=aq (F:=fun _=>False) (aN uI) YB.out (fun _ _=>id);go_wp2_with (at_builtin;refine bm _ rfl (.tmp 74) (.tmp 78) rfl w.heap.size L6.heap.size (20+6*j+2) hv5 _ rfl qy (some ⟨g6,0,none⟩) 4 cap6 (leB C5 4) rfl PW Yw (by omega) Bb.size ?_;intro hv6 X6 hW6 E_)
   have hb6:=Bb.grown E_ Bb.size (fun r hr=>(qy.lt r hr).1);have hP6:=aq (jN E_) TF (fun i hi hi2=>uG TF qy (by decide) i hi hi2);have N':=(E_.block _ Ba.lt (fun e=>aR qy Ba (by decide) _ e.symm rfl)).trans Ba;have b16:=(E_.block _ WS.lt (fun e=>aR qy WS (by decide) _ e.symm rfl)).trans WS;have b26:=(E_.block _ WT.lt (fun e=>aR qy WT (by decide) _ e.symm rfl)).trans WT;go_roundw
   case rel =>
    refine⟨j+1,_,_,rfl,rfl,by omega,by go_num,?_,?_,N',b16,hb6⟩
    ·rw[ais.out,rL,←CA.out];exact hP6
    ·rw[ait.out,cK,cK,←EC5.out,show 20+6*(j+1)=20+6*j+2+4 by omega];exact hW6
   case measure=>simp[intOf];omega
  ·have hnl:¬ (j:Int)<(no:Int):=by omega
   have ku:no=j:=by omega
   subst ku;have hO:=HO.out;have hH:=HH.out;have hBw:=pT.out;have oH:=Co.out;have hK1:=oJ.out;have F3:=ae hH;have LG:=ae hO;have Qf:=ae oH;have Qg:=ae hK1;have Yz:=ae hBw;clear hO hH hBw oH hK1 HO HH pT Co oJ;go_wp2_with fail;go_loopw [7,12] (fun o i wr=>∃ (k:Nat) (o':Value),o'=o∧k≤aD st.length∧i=.int .i64 (k:Int)∧wr.ownsRow w.heap.size 113 513 o' (no+k) (aL (lo no++py N a st k))∧wr.ownsRow w.heap.size 5 1 h (20+6*no) ((hk no).map aj)∧ah wr w.heap.size 23 #[.int .i64 (N:Int)]∧ah wr (w.heap.size+1) 28 #[.int .i64 (ed:Int),.slice ao no co,.slice ab no cb,.slice aw st.length cs]∧Below w.heap.size w wr) (fun _ i _=>aD st.length-(intOf i).toNat)
   case atStart=>exact⟨0,_,rfl,by omega,rfl,by rw[show py N a st 0=[]from rfl,ny];exact LG.out,F3.out,Qf.out,Qg.out,Yz.out⟩
   case round =>
    obtain⟨k,o,rfl,hkc,rfl,hO,hH,oH,hK1,hBw⟩:=hrel;have q3:=hK1.ag 3 rfl;have HO:=ae hO;have HH:=ae hH;have pT:=ae hBw;obtain⟨i0,z0,T0⟩:=C6;have HT:=ae T0;clear hO hH hBw T0;by_cases hlt:k<aD st.length
    ·have Cv:(k:Int)<(aD st.length:Int):=by omega
     have SK:=ae (fun(W':World) (hb':Below wr.heap.size wr W')=>And.intro ((oH.below hb' oH.lt).ag 0 rfl) ((hK1.below hb' hK1.lt).ag 3 rfl));have hb0:Below wr.heap.size wr wr.drew:=(ax _ wr).drew;go_wp2_with fail;refine(tz st.length wr (by omega)).mono ?_;rintro e w9 ⟨rfl,rfl⟩;go_upto_region 17 with fail;refine bF (S:=(fun w'=>w'.cell? ⟨w.heap.size,0,none⟩=some (.int .i64 (N:Int))∧w'.cell? ⟨w.heap.size+1,3,none⟩=some (.slice aw st.length cs))) (by kernel_rfl) (by(try dsimp only);exact SK.out _ hb0) (fun hHeld=>?_);generalize wr.drew=X0 at *;refine tk 0 ?_;refine tk 1 ?_;refine tk 2 ?_;refine tk 3 ?_;refine tk 5 ?_;refine tk 7 ?_;refine tk 6 ?_;refine rd 4 fun K hK=>?_;go_simp;refine(rq N ⟨3,a,k⟩ X0 hN (hp3 k (by omega))).mono ?_;rintro e X1 ⟨rfl,hb1'⟩;have hb1:=hb0.trans (hb1'.mono hb0.size);obtain⟨sn,vB⟩:∃sn:Int,sn=((Place.sec N ⟨3,a,k⟩:Nat):Int):=⟨_,rfl⟩;rw[←vB];have CA:=ae vB;clear vB;go_wp2_with fail;refine hK.out _ _ (by(try dsimp only);exact SK.out _ hb1) (fun hHeld=>?_);clear hK K;refine rd 8 fun K hK=>?_;go_simp;refine(Tb (.slice aw st.length cs) st k X1 ((HST.out.below (pT.out.trans (hb1.mono pT.out.size)) (ai _)).mono (pT.out.trans (hb1.mono pT.out.size)).size) (by omega)).mono ?_;rintro e X2 ⟨rfl,hb2'⟩;have hb2:=hb1.trans (hb2'.mono hb1.size);have hsb:=(jH st k).2;obtain⟨sb,Bc⟩:∃sb,sb=(jH st k).1:=⟨_,rfl⟩;rw[←Bc]at hsb ⊢;have Ed:=ae Bc;clear Bc;have sZ:(aI.cells ⟨sn,sb⟩).toArray.size=513:=by simpa using aI.len ⟨sn,sb⟩ hsb
     have pt:(aI.cells ⟨sn,sb⟩).length=1*513:=aI.len ⟨sn,sb⟩ hsb;unfold aV;go_wp2_with fail;refine hK.out _ _ (by(try dsimp only);exact SK.out _ hb2) (fun hHeld=>?_);clear hK K;refine ty 9 rfl (iO (by rfl) 113 _ rfl (aI.cells ⟨sn,sb⟩).toArray (by exact AQ _ _ hsb)) ?_;refine rd 10 fun K hK=>?_;try rw[aB (by rfl)]
     refine dW 108 113 1 _ rfl (aI.cells ⟨sn,sb⟩).toArray i0 z0 HT.out.ht HT.out.hi HT.out.hz (by rw[HT.out.h1];decide) (by rw[HT.out.h1];decide) (by exact nG _ sZ i0 z0 HT.out.h1 HT.out.h3) ?_;obtain⟨X3,nP⟩:∃V,V=X2.alloc (.cells (aI.cells ⟨sn,sb⟩).toArray 113):=⟨_,rfl⟩;have hb3:Below wr.heap.size wr X3:=by rw[nP];exact hb2.alloc hb2.size _
     have yZ:ah X3 X2.heap.size 113 (aI.cells ⟨sn,sb⟩).toArray:=by rw[nP];exact ah.new X2 _ _
     try rw[←nP]
     clear nP;refine hK.out _ _ (by(try dsimp only);exact SK.out _ hb3) (fun hHeld=>?_);clear hK K;refine rd 11 fun K hK=>?_;try rw[aB (by rfl)]
     have kA:=aq (F:=fun _=>False) (aN hb3) HO.out (fun _ _=>id);refine oe _ (.tmp 88) (.tmp 98) 108 rfl w.heap.size 113 i0 z0 513 520 HT.out.ht HT.out.hi HT.out.hz HT.out.h1 HT.out.h2 HT.out.h3 (by omega) o (no+k) (aL (lo no++py N a st k)) rfl kA ⟨X2.heap.size,0,none⟩ 1 1 (aI.cells ⟨sn,sb⟩) rfl pt (ia (cs:=(aI.cells ⟨sn,sb⟩).toArray) (t:=113) (fr:=(0,0)) yZ) (lu ⟨sn,sb⟩) (by omega) (by unfold maxLen;omega) (by omega) (pT.out.trans (hb3.mono pT.out.size)).size X3.heap.size rfl ?_;intro g4 c4 X4 hO4 hg4 WR F1;have hb4:Below w.heap.size w X4:=(pT.out.trans (hb3.mono pT.out.size)).grown hg4 (pT.out.trans (hb3.mono pT.out.size)).size (fun r hr=>(kA.lt r hr).1);have hh3:=aq (F:=fun _=>False) (aN hb3) HH.out (fun _ _=>id);have YA:X4.ownsRow w.heap.size 5 1 h (20+6*no) ((hk no).map aj):=aq (F:=fun i=>o.ownBlock=some i) ⟨hg4.os,hg4.tape,hg4.output,hg4.size,fun i hi hn=>hg4.block i hi (fun e=>hn e.symm)⟩ hh3 (fun i hi hi2=>uG kA hh3 (by decide) i hi2 hi);have zd:=oH.below hb3 oH.lt;have k13:=hK1.below hb3 hK1.lt;have Fb:ah X4 w.heap.size 23 #[.int .i64 (N:Int)]:=(hg4.block _ zd.lt (fun e=>aR kA zd (by decide) _ e.symm rfl)).trans zd;have k14:ah X4 (w.heap.size+1) 28 #[.int .i64 (ed:Int),.slice ao no co,.slice ab no cb,.slice aw st.length cs]:=(hg4.block _ k13.lt (fun e=>aR kA k13 (by decide) _ e.symm rfl)).trans k13;refine hK.out _ _ (by(try dsimp only);exact⟨Fb.ag 0 rfl,k14.ag 3 rfl⟩) (fun hHeld=>?_);clear hK K;refine tk 12 ?_;refine aT ?_;go_wp2_with fail;go_roundw
     case rel =>
      refine⟨k+1,_,rfl,by omega,by go_num,?_,YA,Fb,k14,hb4⟩;rw[PV N a st k,←fS,rL,←CA.out,←Ed.out,show no+(k+1)=no+k+1 by omega];exact hO4
     case measure=>simp[intOf];omega
    ·have hnl:¬ (k:Int)<(aD st.length:Int):=by omega
     have hke:k=aD st.length:=by omega
     have uo:=ae hke;have c0:=oH.ag 0 rfl;clear hke hlt;go_wp2_with fail;refine(tz st.length wr (by omega)).mono ?_;rintro e w9 ⟨rfl,rfl⟩;go_wp2_with fail;refine(rq N ⟨2,a,0⟩ wr hN hp2).mono ?_;rintro e Y1 ⟨rfl,hy1⟩;obtain⟨sn,vB⟩:∃sn:Int,sn=((Place.sec N ⟨2,a,0⟩:Nat):Int):=⟨_,rfl⟩;rw[←vB];have CA:=ae vB;clear vB;have hH1:=aq (F:=fun _=>False) (aN hy1) HH.out (fun _ _=>id);have fz:=aq (F:=fun _=>False) (aN hy1) HO.out (fun _ _=>id);have hB1:=pT.out.trans (hy1.mono pT.out.size);rw[show 20+6*no=(hk no).length from(Yx.out no (ai _)).symm]at hH1;go_wp2_with fail;refine(MV h w.heap.size (hk no) Y1 hH1 oy).mono ?_;rintro e Y2 ⟨rfl,hy2⟩;obtain⟨sb,Bc⟩:∃sb,sb=bM (hk no):=⟨_,rfl⟩;have hsb:sb.length=512:=by rw[Bc];exact eJ (hk no) oy
     rw[←Bc];have Ed:=ae Bc;clear Bc;have hO2:=aq hy2 fz (fun i hi hi2=>uG fz hH1 (by decide) i hi hi2);have hB2:Below w.heap.size w Y2:=(Out.trans (F:=fun i=>w.heap.size≤i) (vq hB1 (fun _ h=>h)) hy2 (fun i _ h=>(hH1.lt i h).1)).below (ai _) (fun i hi h=>by omega);have sZ:(aI.cells ⟨sn,sb⟩).toArray.size=513:=by simpa using aI.len ⟨sn,sb⟩ hsb
     have pt:(aI.cells ⟨sn,sb⟩).length=1*513:=aI.len ⟨sn,sb⟩ hsb;have hO3:=hO2.alloc (.cells (aI.cells ⟨sn,sb⟩).toArray 113);have hB3:=hB2.alloc hB2.size (.cells (aI.cells ⟨sn,sb⟩).toArray 113);unfold aV;go_wp2_with (first
      | (refine xB rfl 113 _ rfl (aI.cells ⟨sn,sb⟩).toArray (by exact AQ _ _ hsb) ?_)
      | (refine kP rfl (fun K hK=>dW 108 113 1 _ rfl (aI.cells ⟨sn,sb⟩).toArray i0 z0 HT.out.ht HT.out.hi HT.out.hz (by rw[HT.out.h1];decide) (by rw[HT.out.h1];decide) (by exact nG _ sZ i0 z0 HT.out.h1 HT.out.h3) (hK _ _ ?_)))
      | (at_builtin;refine pZ _ rfl (.tmp 100) (.tmp 107) 108 rfl w.heap.size 113 i0 z0 513 520 HT.out.ht HT.out.hi HT.out.hz HT.out.h1 HT.out.h2 HT.out.h3 (by omega) _ (no+k) (aL (lo no++py N a st k)) rfl hO3 ⟨Y2.heap.size,0,none⟩ 1 1 (aI.cells ⟨sn,sb⟩) rfl pt (ia (cs:=(aI.cells ⟨sn,sb⟩).toArray) (t:=113) (fr:=(0,0)) (bC Y2 _)) (lu ⟨sn,sb⟩) (by omega) (by unfold maxLen;omega) (by omega) hB3.size (Y2.heap.size+1) (by simp) ?_;intro g9 c9 Y4 xy EO Wc Wd))
     go_ret
     have hbf:=hB3.grown EO hB3.size (fun r hr=>(hO3.lt r hr).1);refine⟨_,rfl,?_,hbf⟩;rw[←uo.out,←CA.out,←Ed.out];rw[←fS];refine vl (B:=w.heap.size) (e:=113) ?_ ?_ ?_
     ·rw[rL,bX,bX,HLEN.out,Lw.out no (ai _)];exact xy
     ·intro y hy;rcases mq.1 hy with hy | hy
      ·rcases mq.1 hy with hy | hy
       ·exact abI.out no y hy
       ·unfold py at hy;obtain⟨i,_,rfl⟩:=dI.1 hy;exact(jH st i).2
      ·rw[mZ.1 hy];exact hsb
     ·rw[bX,bX,HLEN.out,Lw.out no (ai _)];simp;omega
end Go.Proofs.YtdpniceapmikpaaGreat
