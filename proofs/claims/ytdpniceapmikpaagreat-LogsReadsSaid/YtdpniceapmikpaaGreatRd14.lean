/-
  logs.Head of an area whose head is
-/
import Derived.Test.YtdpniceapmikpaaGreatRd13
import Derived.Test.YtdpniceapmikpaaGreatRd10
import Derived.Test.YtdpniceapmikpaaGreatRd12
import Derived.Test.YtdpniceapmikpaaGreatRd6
import Derived.Test.YtdpniceapmikpaaGreatRd9
import Derived.Deep.RegionHeld3
import Derived.Test.YtdpniceapmikpaaGreatRd1
import Derived.Test.YtdpniceapmikpaaGreatRd2
import Derived.Test.YtdpniceapmikpaaGreatRd7
import Derived.Test.YtdpniceapmikpaaGreatRd8
set_option linter.unusedVariables false
set_option linter.unusedSimpArgs false
set_option maxRecDepth 100000
set_option maxHeartbeats 32000000
namespace Go.Proofs.YtdpniceapmikpaaGreat
open Go.RowKit
theorem QN (D:aX) (x:ak) (N area:Int) (w:World) (h:aE w D x) (hx:x.ok) (bU:da N x.size area=true) (he2:x.err (aJ N 2 area 0).1=0) (hh:bI N (aP x N area)=true) :
 Calls Tryz.prog 23 #[ptr D.p,.agg #[.int .i64 N],.int .i64 area] w fun e w'=>∃v,e=.returned (.tuple #[v,.int .i64 0])∧cL w' w'.heap.size v (nu (aP x N area))∧aE w' D x.stepped∧DStep D D w w':=by
 have hN:N≤64:=by have h:=bU;unfold da aZ at h;simp at h;omega
 have hD:=ae h.has_lt;obtain⟨W0,a_⟩:∃W,W=((w.alloc (.cells #[.int .i64 N] 23)).alloc (.cells aF 28)).alloc (.cells #[.int .i64 0] 32):=⟨_,rfl⟩;have hw0:Below w.heap.size w W0:=by rw[a_];exact(((ax _ w).alloc (ai _) _).alloc (by simp) _).alloc (by simp;omega) _
 have hs0:W0.heap.size=w.heap.size+3:=by rw[a_];simp
 have k1:ah W0 w.heap.size 23 #[.int .i64 N]:=by rw[a_];exact((ah.new w _ _).alloc _).alloc _
 have k3:ah W0 (w.heap.size+1) 28 aF:=by rw[a_];exact(ah.new2 w _ _ _).alloc _
 have k4:ah W0 (w.heap.size+2) 32 #[.int .i64 0]:=by rw[a_];exact ah.new' (by simp)
 have nZ:=ae (jL D x N area W0 (h.below hw0) hx);have HDK:=ae (h.below hw0);have HB0:=ae hw0;have c1:=k1.ag 0 rfl;have K1:=ae k1;have K3:=ae k3;have K4:=ae k4;rw[bU]at nZ;have uQ:=ae (fun W hh=>yl D x N area W hh hx hN he2);unfold ptr at *;clear h hw0 k1 k3 k4;go_enter_defers DT,DL
 go_upto_region 1 with fail;rw[←a_];clear a_;go_wp2_with fail;refine nZ.out.mono ?_;rintro e w1 ⟨rfl,hb1⟩;unfold dr;rw[aB rfl];have HB1:=ae (HB0.out.trans (hb1.mono (by omega)));have c1':=(K1.out.below hb1 (by omega)).ag 0 rfl;have J1:=ae (K1.out.below hb1 (by omega));have J3:=ae (K3.out.below hb1 (by omega));have J4:=ae (K4.out.below hb1 (by omega));have hsz1:=hb1.size;have HD1:=ae (HDK.out.below hb1);clear hb1 nZ c1 K1 K3 K4;go_wp2_with fail;refine(uQ.out w1 HD1.out).mono ?_;rintro e w2 ⟨hd2,hs2,hv2⟩;unfold aP at hh;rw[hh]at hv2;obtain⟨v,rfl,vo,vs,vm,g,rfl,Ot,hvm,rfl,hg,hz⟩:=hv2;obtain⟨b,eb⟩:∃b,b=x.reads (aJ N 2 area 0).1:=⟨_,rfl⟩;rw[←eb]at Ot hvm hz ⊢;have EB:=ae (show aP x N area=b by rw[eb];rfl);obtain⟨nb,mQ⟩:∃nb,nb=aC b 14 2:=⟨_,rfl⟩;have eF:nu b=⟨(aC b 4 8:Int),(List.range (aC b 12 2)).map fun i=>(aC b (20+6*i) 2:Int),[],List.replicate nb 0⟩:=by rw[mQ];rfl
 rw[←mQ]at hz ⊢;obtain⟨ed,Fu⟩:∃ed:Nat,ed=aC b 4 8:=⟨_,rfl⟩;obtain⟨cr,ecr⟩:∃cr:Nat,cr=aC b 16 4:=⟨_,rfl⟩;rw[←Fu]at eF ⊢;rw[←ecr];have hnD:∀i,w.heap.size≤i→¬D.has i:=fun i hi hd=>by have:=hD.out i hd;omega
 have hnb:nb≤70000:=by
  have h1:=iJ ((b.drop 14).take 2);rw[mQ];unfold aC;have h2:((b.drop 14).take 2).length≤2:=by rw[bD];omega
  have h3:(256:Nat)^((b.drop 14).take 2).length≤256^2:=rR (by decide) h2;have h4:(256:Nat)^2=65536:=by decide
  omega
 have hEF:=ae eF;clear mQ Fu ecr eF eb;have b3:=hs2.out.blk J3.out (hnD _ (by omega));have b4:=hs2.out.blk J4.out (hnD _ (by omega));have HD2:=ae hd2;have HS2:=ae (hs2.first HB1.out hD.out);have FIN:Hid (∀ (W':World) (F:Nat→Prop),Out F w2 W'→(∀i,F i→i<w2.heap.size→i=w.heap.size+1∨i=w.heap.size+2)→w2.heap.size≤W'.heap.size→cL W' W'.heap.size (.agg #[.int .i64 (ed:Int),vo,.slice none 0 0,.slice (some ⟨g,0,none⟩) nb nb]) (nu b)):=ae (by
  intro W' F hO hF hsz;have hlo:∀i,w1.heap.size≤i→i<w2.heap.size→¬F i:=fun i h1 h2 hf=>by rcases hF i hf h2 with h | h<;>omega
  have ac4:=aq hO Ot (fun i hi=>hlo i (Ot.lt i hi).1 (Ot.lt i hi).2);have hz':=hO.blk hz (hlo g hg hz.lt);rw[hEF.out];refine⟨_,_,_,rfl,uD (K:=W'.heap.size) (l:=(List.range (aC b 12 2)).map fun i=>(aC b (20+6*i) 2:Int)) (by rw[tT];exact ac4) (fun i hi=>(ac4.lt i hi).2),gA.nil _ _,⟨by simp;unfold maxLen;omega,some ⟨g,0,none⟩,nb,by simp,by simp,fun j c hj=>⟨g,0,rfl,hz'.lt,?_⟩⟩⟩;have hjl:j<nb:=by
   rcases bZ j nb with h | h
   ·exact h
   ·rw[dh (by simp;omega)]at hj;cases hj
  have ec:c=0:=by simpa[hjl]using hj.symm
  subst ec;exact hz'.ag (0+j) (by rw[cW];simp[hjl]))
 obtain⟨S,eS⟩:∃S,S=rX ed vo (.slice none 0 0) (.slice (some ⟨g,0,none⟩) nb nb) cr vm:=⟨_,rfl⟩;obtain⟨ao,co,To⟩:=slice_form Ot;obtain⟨am,cm,Ys⟩:=slice_form hvm;have YG:(Tryz.prog.info? 142).map (·.size)=some S.size:=Xr S _ _ _ _ _ _ eS;have hS1:S.all (·.oneCell')=true:=by rw[eS,To,Ys];unfold rX;rw[jf];rfl
 have hSz:(#[.int .i64 0,.slice none 0 0,.slice none 0 0,.slice none 0 0,.int .i64 0,.slice none 0 0]:Array Value).size=S.size:=by rw[eS];rfl
 have z0:ah (w2.alloc (.cells #[.int .i64 0,.slice none 0 0,.slice none 0 0,.slice none 0 0,.int .i64 0,.slice none 0 0] 142)) w2.heap.size 142 #[.int .i64 0,.slice none 0 0,.slice none 0 0,.slice none 0 0,.int .i64 0,.slice none 0 0]:=ah.new w2 _ _;rw[←eS];have xx:=ae eS;have HZ0:=ae z0;have z1:=z0.row S;have hsz2:w.heap.size+3≤w2.heap.size:=by have:=hs2.out.size;omega
 have b3':=aH (b3.alloc (.cells #[.int .i64 0,.slice none 0 0,.slice none 0 0,.slice none 0 0,.int .i64 0,.slice none 0 0] 142)) S (g':=w2.heap.size) (by omega);have Uz:=aH (b4.alloc (.cells #[.int .i64 0,.slice none 0 0,.slice none 0 0,.slice none 0 0,.int .i64 0,.slice none 0 0] 142)) S (g':=w2.heap.size) (by omega);have hYB:=aA ((ax w2.heap.size w2).alloc (ai _) (.cells #[.int .i64 0,.slice none 0 0,.slice none 0 0,.slice none 0 0,.int .i64 0,.slice none 0 0] 142)) S (g:=w2.heap.size) (ai _);obtain⟨Y,eY⟩:∃Y,Y=(w2.alloc (.cells #[.int .i64 0,.slice none 0 0,.slice none 0 0,.slice none 0 0,.int .i64 0,.slice none 0 0] 142)).setRow w2.heap.size S:=⟨_,rfl⟩;rw[←eY]at z1 b3' Uz hYB;have ac6:Y.rangeAt w2.heap.size 0 [.int .i64 (ed:Int),vo,.slice none 0 0,.slice (some ⟨g,0,none⟩) nb nb]:=by
  intro j u hj;rw[cW];refine z1.ag j ?_;rw[eS];unfold rX;rw[jd];rcases j with _ | _ | _ | _ | j
  all_goals first | exact hj | (simp at hj)
 have Lu:=ae ac6;have HYB:=ae hYB;have c4:=Uz.ag 0 rfl;have f4:=Uz.frozen 0;have aiV:(#[.int .i64 (ed:Int),vo,.slice none 0 0,.slice (some ⟨g,0,none⟩) nb nb]:Array Value).all (·.oneCell')=true:=by rw[To,jf];rfl
 have HB3:=ae b3';have iz:=ae Uz;clear eS To Ys z0 z1 ac6 hYB b3 b4 b3' Uz hd2 hs2 Ot hvm hz;go_upto_region 6 with (refine aQ rfl 142 _ _ rfl w2.heap.size S rfl rfl 142 _ HZ0.out YG hSz hS1 ?_)
 rw[←eY];clear eY;have b5:=aH iz.out #[.int .i64 (ed:Int),vo,.slice none 0 0,.slice (some ⟨g,0,none⟩) nb nb] (g':=w.heap.size+1) (by omega);have c5:=b5.ag 0 rfl;have f5:=b5.frozen 0;have b6:=b5.br 0 (.int .i64 0);have b7:=(HB3.out.row #[.int .i64 (ed:Int),vo,.slice none 0 0,.slice (some ⟨g,0,none⟩) nb nb]).far (p:=⟨w.heap.size+2,0,none⟩) (by show w.heap.size+1≠w.heap.size+2;omega) (.int .i64 0);have hO:Out (fun i=>i=w.heap.size+1∨i=w.heap.size+2∨w2.heap.size≤i) w2 ((Y.setRow (w.heap.size+1) #[.int .i64 (ed:Int),vo,.slice none 0 0,.slice (some ⟨g,0,none⟩) nb nb]).setCell ⟨w.heap.size+2,0,none⟩ (.int .i64 0)):=Out.trans (Out.trans (vq HYB.out (fun i hi=>.inr (.inr hi))) (bL #[.int .i64 (ed:Int),vo,.slice none 0 0,.slice (some ⟨g,0,none⟩) nb nb] (.inl rfl)) (fun _ _ h=>h)) (bk (.inr (.inl rfl))) (fun _ _ h=>h);have Zd:(Tryz.prog.info? 28).map (·.size)=some (#[.int .i64 (ed:Int),vo,.slice none 0 0,.slice (some ⟨g,0,none⟩) nb nb]:Array Value).size:=by
  show _=some 4;kernel_rfl
 have ac8:(Tryz.prog.info? 28).map (·.size)=some [.int .i64 (ed:Int),vo,.slice none 0 0,.slice (some ⟨g,0,none⟩) nb nb].length:=tB _ _ _ _;have Ok:=ae b6;have Ul:=ae b7;have HO:=ae hO;clear b5 b6 b7 hO c4 f4;go_wp2_with (first
  | (refine IU rfl 28 _ rfl w2.heap.size 0 rfl [.int .i64 (ed:Int),vo,.slice none 0 0,.slice (some ⟨g,0,none⟩) nb nb] _ Lu.out fw rfl ac8 ?_)
  | (refine aQ rfl 28 _ _ rfl (w.heap.size+1) #[.int .i64 (ed:Int),vo,.slice none 0 0,.slice (some ⟨g,0,none⟩) nb nb] rfl rfl 28 aF HB3.out Zd rfl aiV ?_))
 refine qi (f:=68) (args:=#[ptr (w.heap.size+2)]) (by simp) (by simp[go_sem,ptr]) ?_;refine(PD _ _).mono ?_;rintro e u' w'' ⟨rfl,rfl,rfl⟩;have Db:w2.heap.size≤((Y.setRow (w.heap.size+1) #[.int .i64 (ed:Int),vo,.slice none 0 0,.slice (some ⟨g,0,none⟩) nb nb]).setCell ⟨w.heap.size+2,0,none⟩ (.int .i64 0)).heap.size:=HO.out.size;refine⟨_,dq DG _ _ (w.heap.size+1) 28 #[.int .i64 (ed:Int),vo,.slice none 0 0,.slice (some ⟨g,0,none⟩) nb nb] (0,0) _ rfl Ul.out fw rfl Zd _ _ rfl (gL _ (w.heap.size+2) _ _ Ok.out),_,rfl,?_,?_,?_⟩
 ·rw[EB.out];exact FIN.out _ _ HO.out (fun i hi hl=>by rcases hi with h | h | h<;>omega) Db
 ·exact HD2.out.out HO.out (fun i hi hf=>by have:=hD.out i hi;rcases hf with h | h | h<;>omega)
 ·exact⟨HS2.out.out.trans HO.out (fun i hi hf=>by rcases hf with h | h | h<;>omega),rfl,fun i hi=>.inl hi⟩
theorem Hg (pa:Option Addr) (N area c:Int) (hc:(c != 0)=true) (w:World) (hA:∀W,Below w.heap.size w W→Calls Tryz.prog 51 #[.pointer pa,.agg #[.int .i64 N],.int .i64 area] W fun e w'=>e=.returned (.int .i64 c)∧Below W.heap.size W w') :
 Calls Tryz.prog 23 #[.pointer pa,.agg #[.int .i64 N],.int .i64 area] w fun e w'=>e=.returned (.tuple #[.agg aF,.int .i64 c])∧Below w.heap.size w w':=by
 have HA:=ae hA;obtain⟨W0,a_⟩:∃W,W=((w.alloc (.cells #[.int .i64 N] 23)).alloc (.cells aF 28)).alloc (.cells #[.int .i64 0] 32):=⟨_,rfl⟩;have hw0:Below w.heap.size w W0:=by rw[a_];exact(((ax _ w).alloc (ai _) _).alloc (by simp) _).alloc (by simp;omega) _
 have k1:ah W0 w.heap.size 23 #[.int .i64 N]:=by rw[a_];exact((ah.new w _ _).alloc _).alloc _
 have k3:ah W0 (w.heap.size+1) 28 aF:=by rw[a_];exact(ah.new2 w _ _ _).alloc _
 have k4:ah W0 (w.heap.size+2) 32 #[.int .i64 0]:=by rw[a_];exact ah.new' (by simp)
 have c1:=k1.ag 0 rfl;have K3:=ae k3;have K4:=ae k4;have HB0:=ae hw0;clear hA hw0 k1 k3 k4;go_enter_defers DT,DL
 go_upto_region 1 with fail;rw[←a_];clear a_;go_wp2_with fail;refine(HA.out W0 HB0.out).mono ?_;rintro e w1 ⟨rfl,hb1⟩;have b3:=K3.out.below hb1 K3.out.lt;have b4:=K4.out.below hb1 K4.out.lt;have c4:=b4.ag 0 rfl;have f4:=b4.frozen 0;have B1:=HB0.out.trans (hb1.mono HB0.out.size);have d0:=b3.ag 0 rfl;have d1:=b3.ag 1 rfl;have d2:=b3.ag 2 rfl;have d3:=b3.ag 3 rfl;have g0:=b3.frozen 0;have g1:=b3.frozen 1;have g2:=b3.frozen 2;have g3:=b3.frozen 3;have r0:=b3.br 0 (.int .i64 0);have r1:=r0.br 1 (.slice none 0 0);have r2:=r1.br 2 (.slice none 0 0);have r3:=r2.br 3 (.slice none 0 0);have n4:w.heap.size+2≠w.heap.size+1:=by omega
 have q4:=((((b4.far (p:=⟨w.heap.size+1,0,none⟩) n4 (.int .i64 0)).far (p:=⟨w.heap.size+1,1,none⟩) n4 (.slice none 0 0)).far (p:=⟨w.heap.size+1,2,none⟩) n4 (.slice none 0 0)).far (p:=⟨w.heap.size+1,3,none⟩) n4 (.slice none 0 0)).br 0 (.int .i64 c);have r4:=r3.far (p:=⟨w.heap.size+2,0,none⟩) n4.symm (.int .i64 c);have B5:=((((B1.setCell (p:=⟨w.heap.size+1,0,none⟩) (by show w.heap.size≤w.heap.size+1;omega) (.int .i64 0)).setCell (p:=⟨w.heap.size+1,1,none⟩) (by show w.heap.size≤w.heap.size+1;omega) (.slice none 0 0)).setCell (p:=⟨w.heap.size+1,2,none⟩) (by show w.heap.size≤w.heap.size+1;omega) (.slice none 0 0)).setCell (p:=⟨w.heap.size+1,3,none⟩) (by show w.heap.size≤w.heap.size+1;omega) (.slice none 0 0)).setCell (p:=⟨w.heap.size+2,0,none⟩) (by show w.heap.size≤w.heap.size+2;omega) (.int .i64 c);have HR4:=ae r4;have GZ:=ae q4;have uk:=ae B5;clear r0 r1 r2 r3 r4 q4 B5 B1 b3 b4;go_wp2_with (refine bO rfl 28 _ rfl aF (by kernel_rfl) ?_)
 exact⟨_,dq DG _ _ (w.heap.size+1) 28 aF (0,0) _ rfl HR4.out fw rfl (by kernel_rfl) _ _ rfl (gL _ (w.heap.size+2) _ _ GZ.out),rfl,uk.out⟩
theorem UA (D:aX) (x:ak) (N area:Int) (w:World) (h:aE w D x) (hx:x.ok) (bU:da N x.size area=false) :
 Calls Tryz.prog 23 #[ptr D.p,.agg #[.int .i64 N],.int .i64 area] w fun e w'=>e=.returned (.tuple #[.agg aF,.int .i64 2])∧Below w.heap.size w w' :=
 Hg _ N area 2 rfl w fun W hb=>by have ha:=jL D x N area W (h.below hb) hx;rw[bU]at ha;exact ha
theorem UB (N area:Int) (w:World):Calls Tryz.prog 23 #[.pointer none,.agg #[.int .i64 N],.int .i64 area] w fun e w'=>e=.returned (.tuple #[.agg aF,.int .i64 1])∧Below w.heap.size w w' :=
 Hg none N area 1 rfl w fun W _=>GF N area W
theorem UC (D:aX) (x:ak) (N area:Int) (w:World) (h:aE w D x) (hx:x.ok) :
 Calls Tryz.prog 23 #[ptr D.p,.agg #[.int .i64 N],.int .i64 area] w fun e w'=>∃v,e=.returned (.tuple #[v,.int .i64 (bN x N area).2.2])∧cL w' w'.heap.size v (bN x N area).2.1∧aE w' D (bN x N area).1∧DStep D D w w':=by
 cases bU:da N x.size area with
 | false =>
  have hr:bN x N area=(x,gi,2):=by unfold bN;rw[bU];rfl
  rw[hr];refine(UA D x N area w h hx bU).mono ?_;rintro e w' ⟨rfl,hb⟩;exact⟨_,rfl,df _ _,h.below hb,(DStep.refl D w).below hb⟩
 | true =>
  by_cases he:x.err (aJ N 2 area 0).1=0
  ·have hr:bN x N area=(x.stepped,tF N (aP x N area),if bI N (aP x N area) then 0 else 170):=by unfold bN;rw[bU,aB rfl,aB he]
   rw[hr];cases hh:bI N (aP x N area)with
   | false =>
    rw[lE hh];refine(QM D x N area w h hx bU he hh).mono ?_;rintro e w' ⟨rfl,hd,hs⟩;exact⟨_,rfl,df _ _,hd,hs⟩
   | true =>
    rw[Bl hh];refine(QN D x N area w h hx bU he hh).mono ?_;rintro e w' ⟨v,rfl,hf,hd,hs⟩;exact⟨v,rfl,hf,hd,hs⟩
  ·have hr:bN x N area=(x.after (aJ N 2 area 0).1,gi,x.err (aJ N 2 area 0).1):=by unfold bN;rw[bU,aB rfl,aG he]
   rw[hr,fR (iY bU 2 0 (.inl ⟨rfl,rfl⟩))];refine(Uh D x N area w h hx bU he).mono ?_;rintro e w' ⟨rfl,hd,hs⟩;exact⟨_,rfl,df _ _,hd,hs⟩
theorem Hh (v:Value) (bs:List UInt8) (w:World) (hv:BytesIn w w.heap.size v bs) (h8:bs.length≤8) :
 Calls Tryz.prog 111 #[v] w fun e w'=>e=.returned (.int .u64 (aW bs))∧w=w':=by
 have AY:=ae (fun q=>AU (bs.drop q) 8 (by rw[c_];omega) (ai _));obtain⟨h1,a,cap,rfl,hcap,h2⟩:=hv;go_enter Tryz.func111,Tryz.ntmps111
 go_wp2_with fail;go_loop [3,4] (fun n i=>∃j:Nat,j≤bs.length∧i=.int .i64 ((j:Int)-1)∧n=.int .u64 ((aW (bs.drop j):Nat):Int)) (fun _ i=>(intOf i+1).toNat)
 case atStart=>exact⟨bs.length,ai _,rfl,by simp[aW]⟩
 case round =>
  obtain⟨j,hj,rfl,rfl⟩:=hrel;by_cases h0:0<j
  ·obtain⟨q,rfl⟩:∃q,j=q+1:=⟨j-1,by omega⟩;have hbj:bs[q]? = some (bs[q]'(by omega)):=aY (by omega);obtain⟨g2,off2,e2,hg,hcell⟩:=h2 q _ hbj;subst e2;have hT:=xT bs q _ hbj;have hle:=AY.out q;generalize bs[q]'(by omega)=c at *;generalize aW (bs.drop (q+1))=N at *;have hc256:=mu c;have HT:=ae hT;have hNb:(N:Int)*256+(c.toNat:Int)<18446744073709551616:=by omega
   have am2:(N:Int)*256<18446744073709551616:=by omega
   clear hT hle;have ej:((q+1:Nat):Int)-1=(q:Int):=by omega
   rw[ej];go_wp2_with fail;exact⟨⟨q,by omega,rfl,by rw[HT.out];congr 1;omega⟩,by simp[intOf]<;>omega⟩
  ·obtain rfl:j=0:=by omega
   rw[qd];go_wp2_with fail;go_ret
   exact⟨rfl,rfl⟩
theorem Np (n:Nat) (w:World) (hn:n<18446744073709551616):Calls Tryz.prog 143 #[.int .u64 n] w fun e w'=>e=.returned (.int .i64 (IntKind.i64.wrap (n:Int)))∧w=w':=by
 by_cases hbig:9223372036854775808≤n
 ·have e:IntKind.i64.wrap (n:Int)=(n:Int)-18446744073709551616:=by rw[cz];omega
  have hb:(9223372036854775808:Int)≤(n:Int):=by omega
  rw[e];go_enter Tryz.func143,Tryz.ntmps143
  go_wp2_with fail;go_ret
  refine⟨?_,rfl⟩;congr 2
  first | omega | (go_num;done)
 ·have e:IntKind.i64.wrap (n:Int)=(n:Int):=by rw[cz];omega
  have hb:¬ (9223372036854775808:Int)≤(n:Int):=by omega
  rw[e];go_enter Tryz.func143,Tryz.ntmps143
  go_wp2_with fail;go_ret
  refine⟨?_,rfl⟩;try (congr 2)
  try first | omega | (go_num;done)
theorem F8 (l:List UInt8) (i:Nat) (hi:i<l.length):aW ((l.drop i).take 1)=(l[i]).toNat:=by
 rw[pg hi];show aW [l[i]]=_;simp[aW]
theorem Nq (v:Value) (bs:List UInt8) (w:World) (hv:BytesIn w w.heap.size v bs) (hl:bs.length=20) :
 Calls Tryz.prog 112 #[v] w fun e w'=>e=.returned (.tuple #[.agg (if sG (keyOf bs) then keyOf bs else mw).cells.toArray,.int .i64 (if sG (keyOf bs) then 0 else 151)])∧Below w.heap.size w w':=by
 have hc0:bs[0]? = some (bs[0]'(by omega)):=aY (by omega);have hc1:bs[1]? = some (bs[1]'(by omega)):=aY (by omega);obtain⟨h1,a,cap,rfl,hcap,h2⟩:=hv;obtain⟨g,off,rfl,hg,hcell0⟩:=h2 0 _ hc0;obtain⟨g2,off2,e2, -,hcell1⟩:=h2 1 _ hc1;injection e2 with e2;injection e2 with e2 e3;subst e2 e3
 have HV:=ae (show BytesIn w w.heap.size (.slice (some ⟨g,off,none⟩) bs.length cap) bs from⟨h1,_,_,rfl,hcap,h2⟩);have hk0:(aW ((bs.drop 0).take 1):Int)=((bs[0]'(by omega)).toNat:Int):=by rw[F8 bs 0 (by omega)]
 have hk1:(aW ((bs.drop 1).take 1):Int)=((bs[1]'(by omega)).toNat:Int):=by rw[F8 bs 1 (by omega)]
 generalize bs[0]'(by omega)=p at *;generalize bs[1]'(by omega)=q at *;rw[hl]at hcap ⊢;clear h2 h1 hc0 hc1;have c4:(4:Int)≤(cap:Int):=by omega
 have c8:(8:Int)≤(cap:Int):=by omega
 have c12:(12:Int)≤(cap:Int):=by omega
 have c20:(20:Int)≤(cap:Int):=by omega
 have n2:¬cap=2:=by omega
 have n4:¬cap=4:=by omega
 have n8:¬cap=8:=by omega
 have n12:¬cap=12:=by omega
 have hu:=HV.out;have HN:∀ (i j:Nat) (hi:0<i) (hi2:i<20) (hij:i≤j) (hj:j≤20) (h8:j-i≤8) (w':World) (hb:Below w.heap.size w w'),Calls Tryz.prog 111 #[.slice (some ⟨g,off+i,none⟩) (j-i) (cap-i)] w' fun e w''=>e=.returned (.int .u64 (aW ((bs.drop i).take (j-i))))∧w'=w'':=by
  intro i j hi hi2 hij hj h8 w' hb;have hc:=((hu.cut i j hij (by omega) (by omega)).below hb (ai _)).mono hb.size;rw[aG (by omega),tP,eP]at hc;exact Hh _ _ w' hc (by rw[bD];omega)
 have hx:keyOf bs=⟨p.toNat,aW ((bs.drop 2).take 2),aW ((bs.drop 4).take 4),aW ((bs.drop 8).take 4),q.toNat,IntKind.i64.wrap (aW ((bs.drop 12).take 8):Int)⟩:=by
  rw[←hk0,←hk1];rfl
 have l2:=iJ ((bs.drop 2).take 2);have l4:=iJ ((bs.drop 4).take 4);have l8:=iJ ((bs.drop 8).take 4);have Ze:=AU ((bs.drop 12).take 8) 8 (by rw[bD];omega) (by omega);have m2:((bs.drop 2).take 2).length=2:=by rw[bD,c_];omega
 have m4:((bs.drop 4).take 4).length=4:=by rw[bD,c_];omega
 have m8:((bs.drop 8).take 4).length=4:=by rw[bD,c_];omega
 rw[m2]at l2;rw[m4]at l4;rw[m8]at l8;have H2:=HN 2 4 (by omega) (by omega) (by omega) (by omega) (by omega);have H4:=HN 4 8 (by omega) (by omega) (by omega) (by omega) (by omega);have H8:=HN 8 12 (by omega) (by omega) (by omega) (by omega) (by omega);have Cp:=HN 12 20 (by omega) (by omega) (by omega) (by omega) (by omega);simp only[Nat.reduceSub]at H2 H4 H8 Cp;rw[hx];clear HN hx m2 m4 m8 hk0 hk1 hu;generalize aW ((bs.drop 2).take 2)=O at *;generalize aW ((bs.drop 4).take 4)=C at *;generalize aW ((bs.drop 8).take 4)=A at *;generalize aW ((bs.drop 12).take 8)=V at *;have sP:IntKind.i64.wrap (p.toNat:Int)=p.toNat:=by have:=mu p;rw[cz];omega
 have sQ:IntKind.i64.wrap (q.toNat:Int)=q.toNat:=by have:=mu q;rw[cz];omega
 have sO:IntKind.i64.wrap (O:Int)=O:=by rw[cz];omega
 have sC:IntKind.i64.wrap (C:Int)=C:=by rw[cz];omega
 have sA:IntKind.i64.wrap (A:Int)=A:=by rw[cz];omega
 obtain⟨V2,eV2⟩:∃V2,V2=IntKind.i64.wrap (V:Int):=⟨_,rfl⟩;rw[←eV2];have HSG:=fun(w:World)=>Np V w Ze
 rw[←eV2]at HSG;have HG:=ae HSG;have hQ:=mu q;have H2':=ae H2;have Zf:=ae H4;have UD:=ae H8;have F9:=ae Cp;clear eV2 HSG l2 l4 l8 Ze H2 H4 H8 Cp;obtain⟨B,eB⟩:∃B,B=sG ⟨p.toNat,O,C,A,q.toNat,V2⟩:=⟨_,rfl⟩;have uF:=ae (fun W=>tv p.toNat O C A q.toNat V2 W (by omega));rw[show iI p.toNat O C A q.toNat V2=B from eB.symm]at uF;rw[←eB];obtain⟨RV,eRV⟩:∃RV,RV=Value.tuple #[.agg (if B=true then (⟨p.toNat,O,C,A,q.toNat,V2⟩:bx) else mw).cells.toArray,.int .i64 (if B=true then 0 else 151)]:=⟨_,rfl⟩;rw[←eRV];have HRV:=ae eRV;clear eRV eB;go_enter Tryz.func112,Tryz.ntmps112
 go_wp2_with fail;obtain⟨W,eW⟩:∃W,W=w.alloc (.cells #[.int .i64 0,.int .i64 0,.int .i64 0,.int .i64 0,.int .i64 0,.int .i64 0] 58):=⟨_,rfl⟩;rw[←eW];have hW:Below w.heap.size w W:=by rw[eW];exact(ax _ w).alloc (ai _) _
 have z0:=(hW.cell (p:=⟨g,off+0,none⟩) hg).trans hcell0;have z1:=(hW.cell (p:=⟨g,off+1,none⟩) hg).trans hcell1;have hZ:ah W w.heap.size 58 #[.int .i64 0,.int .i64 0,.int .i64 0,.int .i64 0,.int .i64 0,.int .i64 0]:=by rw[eW];exact ah.new w _ _
 clear eW;have hWd:Below w.heap.size w W.drew:=hW.drew;have z0d:W.drew.cell? ⟨g,off,none⟩=some (aj p):=z0;have z1d:W.drew.cell? ⟨g,off+1,none⟩=some (aj q):=z1;have qZ:∀ (X:World) (o:Obj),(fun w'=>Below w.heap.size w w'∧w'.cell? ⟨g,off,none⟩=some (aj p)∧w'.cell? ⟨g,off+1,none⟩=some (aj q)) X→(fun w'=>Below w.heap.size w w'∧w'.cell? ⟨g,off,none⟩=some (aj p)∧w'.cell? ⟨g,off+1,none⟩=some (aj q)) (X.alloc o):=by
  intro X o h;have hb:=(ax X.heap.size X).alloc (ai _) o;have hs:=h.1.size;exact⟨h.1.alloc hs _,(hb.cell (p:=⟨g,off,none⟩) (show g<_ by omega)).trans h.2.1,(hb.cell (p:=⟨g,off+1,none⟩) (show g<_ by omega)).trans h.2.2⟩
 have xI:∀ (X:World) (cs:Array Value),(fun w'=>Below w.heap.size w w'∧w'.cell? ⟨g,off,none⟩=some (aj p)∧w'.cell? ⟨g,off+1,none⟩=some (aj q)) X→(fun w'=>Below w.heap.size w w'∧w'.cell? ⟨g,off,none⟩=some (aj p)∧w'.cell? ⟨g,off+1,none⟩=some (aj q)) (X.setRow W.heap.size cs):=by
  intro X cs h;have hs:=hW.size;have hb:=aA (ax W.heap.size X) cs (ai _);exact⟨aA h.1 cs hs,(hb.cell (p:=⟨g,off,none⟩) (show g<_ by omega)).trans h.2.1,(hb.cell (p:=⟨g,off+1,none⟩) (show g<_ by omega)).trans h.2.2⟩
 have vI:=ae (ah.new W.drew 58 #[.int .i64 0,.int .i64 0,.int .i64 0,.int .i64 0,.int .i64 0,.int .i64 0]);obtain⟨F,eF⟩:∃F,F=(W.drew.alloc (.cells #[.int .i64 0,.int .i64 0,.int .i64 0,.int .i64 0,.int .i64 0,.int .i64 0] 58)).setRow W.heap.size #[.int .i64 p.toNat,.int .i64 O,.int .i64 C,.int .i64 A,.int .i64 q.toNat,.int .i64 V2]:=⟨_,rfl⟩;have HF:=ae (show Below w.heap.size w F∧ah F W.heap.size 58 #[.int .i64 p.toNat,.int .i64 O,.int .i64 C,.int .i64 A,.int .i64 q.toNat,.int .i64 V2]∧ah F w.heap.size 58 #[.int .i64 0,.int .i64 0,.int .i64 0,.int .i64 0,.int .i64 0,.int .i64 0]from by
  have hs:=hW.size;have hlt:=hZ.lt;rw[eF];exact⟨aA (hWd.alloc hs _) _ hs,vI.out.row _,((hZ.drew).alloc _).gu _ (by omega)⟩)
 refine' yq (ι:=Unit) (fun _=>(_:Act)) (fun _ X=>X=F) ?_ ?_;rotate_left 1
 ·skip
  refine bF (S:=(fun w'=>Below w.heap.size w w'∧w'.cell? ⟨g,off,none⟩=some (aj p)∧w'.cell? ⟨g,off+1,none⟩=some (aj q))) (by kernel_rfl) (by(try dsimp only);exact⟨hWd,z0d,z1d⟩) (fun hHeld=>?_);refine tk 0 ?_;refine tk 4 ?_;refine tk 8 ?_;refine tk 12 ?_;refine tk 16 ?_;refine tk 20 ?_;refine tk 1 ?_;refine tk 5 ?_;refine tk 9 ?_;refine tk 13 ?_;refine tk 17 ?_;refine tk 21 ?_;refine tk 2 ?_;refine tk 6 ?_;refine tk 3 ?_;refine tk 7 ?_;refine fU (rs:=[10,25]) (by kernel_rfl) (by simp) ?_;refine(ca rfl (fun K hK=>?_) (ca rfl (fun K hK=>?_) fT))
  ·skip
   go_simp;refine(H2'.out _ hHeld.1).mono ?_;rintro e w' ⟨rfl,hwc⟩;subst hwc;go_wp2_with fail;refine hK.out _ _ (by(try dsimp only);exact hHeld) (fun hHeld=>?_);clear hK K;refine tk 11 ?_;refine fU (rs:=[14,25]) (by kernel_rfl) (by simp) ?_;refine(ca rfl (fun K hK=>?_) (ca rfl (fun K hK=>?_) fT))
   ·skip
    go_simp;refine(Zf.out _ hHeld.1).mono ?_;rintro e w' ⟨rfl,hwc⟩;subst hwc;go_wp2_with fail;refine hK.out _ _ (by(try dsimp only);exact hHeld) (fun hHeld=>?_);clear hK K;refine tk 15 ?_;refine fU (rs:=[18,25]) (by kernel_rfl) (by simp) ?_;refine(ca rfl (fun K hK=>?_) (ca rfl (fun K hK=>?_) fT))
    ·skip
     go_simp;refine(UD.out _ hHeld.1).mono ?_;rintro e w' ⟨rfl,hwc⟩;subst hwc;go_wp2_with fail;refine hK.out _ _ (by(try dsimp only);exact hHeld) (fun hHeld=>?_);clear hK K;refine tk 19 ?_;refine fU (rs:=[22,25]) (by kernel_rfl) (by simp) ?_;refine(ca rfl (fun K hK=>?_) (ca rfl (fun K hK=>?_) fT))
     ·skip
      go_simp;refine(F9.out _ hHeld.1).mono ?_;rintro e w' ⟨rfl,hwc⟩;subst hwc;go_wp2_with fail;refine hK.out _ _ (by(try dsimp only);exact hHeld) (fun hHeld=>?_);clear hK K;refine fU (rs:=[23,25]) (by kernel_rfl) (by simp) ?_;refine(ca rfl (fun K hK=>?_) (ca rfl (fun K hK=>?_) fT))
      ·skip
       go_simp;refine(HG.out _).mono ?_;rintro e w' ⟨rfl,hwc⟩;subst hwc;go_wp2_with fail;refine hK.out _ _ (by(try dsimp only);exact hHeld) (fun hHeld=>?_);clear hK K;refine tk 24 ?_;refine rd 25 fun K hK=>?_;go_simp;refine hK.out _ _ (by(try dsimp only);exact qZ _ _ hHeld) (fun hHeld=>?_);clear hK K;refine rd 26 fun K hK=>?_;refine ez 58 _ _ rfl W.heap.size #[.int .i64 p.toNat,.int .i64 O,.int .i64 C,.int .i64 A,.int .i64 q.toNat,.int .i64 V2] rfl rfl 58 _ vI.out (by show _=some 6;kernel_rfl) rfl (by simp[Value.oneCell']) ?_;refine hK.out _ _ (by(try dsimp only);exact xI _ _ hHeld) (fun hHeld=>?_);clear hK K;refine aT ?_;refine⟨(),?_,eF.symm⟩;first | with_reducible rfl | trivial
      ·skip
       go_simp;refine hK.out _ _ (by(try dsimp only);exact qZ _ _ hHeld) (fun hHeld=>?_);clear hK K;refine rd 23 fun K hK=>?_;go_simp;refine(HG.out _).mono ?_;rintro e w' ⟨rfl,hwc⟩;subst hwc;go_wp2_with fail;refine hK.out _ _ (by(try dsimp only);exact hHeld) (fun hHeld=>?_);clear hK K;refine tk 24 ?_;refine rd 26 fun K hK=>?_;refine ez 58 _ _ rfl W.heap.size #[.int .i64 p.toNat,.int .i64 O,.int .i64 C,.int .i64 A,.int .i64 q.toNat,.int .i64 V2] rfl rfl 58 _ vI.out (by show _=some 6;kernel_rfl) rfl (by simp[Value.oneCell']) ?_;refine hK.out _ _ (by(try dsimp only);exact xI _ _ hHeld) (fun hHeld=>?_);clear hK K;refine aT ?_;refine⟨(),?_,eF.symm⟩;first | with_reducible rfl | trivial
     ·skip
      go_simp;refine hK.out _ _ (by(try dsimp only);exact qZ _ _ hHeld) (fun hHeld=>?_);clear hK K;refine rd 22 fun K hK=>?_;go_simp;refine(F9.out _ hHeld.1).mono ?_;rintro e w' ⟨rfl,hwc⟩;subst hwc;go_wp2_with fail;refine hK.out _ _ (by(try dsimp only);exact hHeld) (fun hHeld=>?_);clear hK K;refine rd 23 fun K hK=>?_;go_simp;refine(HG.out _).mono ?_;rintro e w' ⟨rfl,hwc⟩;subst hwc;go_wp2_with fail;refine hK.out _ _ (by(try dsimp only);exact hHeld) (fun hHeld=>?_);clear hK K;refine tk 24 ?_;refine rd 26 fun K hK=>?_;refine ez 58 _ _ rfl W.heap.size #[.int .i64 p.toNat,.int .i64 O,.int .i64 C,.int .i64 A,.int .i64 q.toNat,.int .i64 V2] rfl rfl 58 _ vI.out (by show _=some 6;kernel_rfl) rfl (by simp[Value.oneCell']) ?_;refine hK.out _ _ (by(try dsimp only);exact xI _ _ hHeld) (fun hHeld=>?_);clear hK K;refine aT ?_;refine⟨(),?_,eF.symm⟩;first | with_reducible rfl | trivial
    ·skip
     go_simp;refine hK.out _ _ (by(try dsimp only);exact qZ _ _ hHeld) (fun hHeld=>?_);clear hK K;refine rd 18 fun K hK=>?_;go_simp;refine(UD.out _ hHeld.1).mono ?_;rintro e w' ⟨rfl,hwc⟩;subst hwc;go_wp2_with fail;refine hK.out _ _ (by(try dsimp only);exact hHeld) (fun hHeld=>?_);clear hK K;refine tk 19 ?_;refine rd 22 fun K hK=>?_;go_simp;refine(F9.out _ hHeld.1).mono ?_;rintro e w' ⟨rfl,hwc⟩;subst hwc;go_wp2_with fail;refine hK.out _ _ (by(try dsimp only);exact hHeld) (fun hHeld=>?_);clear hK K;refine rd 23 fun K hK=>?_;go_simp;refine(HG.out _).mono ?_;rintro e w' ⟨rfl,hwc⟩;subst hwc;go_wp2_with fail;refine hK.out _ _ (by(try dsimp only);exact hHeld) (fun hHeld=>?_);clear hK K;refine tk 24 ?_;refine rd 26 fun K hK=>?_;refine ez 58 _ _ rfl W.heap.size #[.int .i64 p.toNat,.int .i64 O,.int .i64 C,.int .i64 A,.int .i64 q.toNat,.int .i64 V2] rfl rfl 58 _ vI.out (by show _=some 6;kernel_rfl) rfl (by simp[Value.oneCell']) ?_;refine hK.out _ _ (by(try dsimp only);exact xI _ _ hHeld) (fun hHeld=>?_);clear hK K;refine aT ?_;refine⟨(),?_,eF.symm⟩;first | with_reducible rfl | trivial
   ·skip
    go_simp;refine hK.out _ _ (by(try dsimp only);exact qZ _ _ hHeld) (fun hHeld=>?_);clear hK K;refine rd 14 fun K hK=>?_;go_simp;refine(Zf.out _ hHeld.1).mono ?_;rintro e w' ⟨rfl,hwc⟩;subst hwc;go_wp2_with fail;refine hK.out _ _ (by(try dsimp only);exact hHeld) (fun hHeld=>?_);clear hK K;refine tk 15 ?_;refine rd 18 fun K hK=>?_;go_simp;refine(UD.out _ hHeld.1).mono ?_;rintro e w' ⟨rfl,hwc⟩;subst hwc;go_wp2_with fail;refine hK.out _ _ (by(try dsimp only);exact hHeld) (fun hHeld=>?_);clear hK K;refine tk 19 ?_;refine rd 22 fun K hK=>?_;go_simp;refine(F9.out _ hHeld.1).mono ?_;rintro e w' ⟨rfl,hwc⟩;subst hwc;go_wp2_with fail;refine hK.out _ _ (by(try dsimp only);exact hHeld) (fun hHeld=>?_);clear hK K;refine rd 23 fun K hK=>?_;go_simp;refine(HG.out _).mono ?_;rintro e w' ⟨rfl,hwc⟩;subst hwc;go_wp2_with fail;refine hK.out _ _ (by(try dsimp only);exact hHeld) (fun hHeld=>?_);clear hK K;refine tk 24 ?_;refine rd 26 fun K hK=>?_;refine ez 58 _ _ rfl W.heap.size #[.int .i64 p.toNat,.int .i64 O,.int .i64 C,.int .i64 A,.int .i64 q.toNat,.int .i64 V2] rfl rfl 58 _ vI.out (by show _=some 6;kernel_rfl) rfl (by simp[Value.oneCell']) ?_;refine hK.out _ _ (by(try dsimp only);exact xI _ _ hHeld) (fun hHeld=>?_);clear hK K;refine aT ?_;refine⟨(),?_,eF.symm⟩;first | with_reducible rfl | trivial
  ·skip
   go_simp;refine hK.out _ _ (by(try dsimp only);exact qZ _ _ hHeld) (fun hHeld=>?_);clear hK K;refine rd 10 fun K hK=>?_;go_simp;refine(H2'.out _ hHeld.1).mono ?_;rintro e w' ⟨rfl,hwc⟩;subst hwc;go_wp2_with fail;refine hK.out _ _ (by(try dsimp only);exact hHeld) (fun hHeld=>?_);clear hK K;refine tk 11 ?_;refine rd 14 fun K hK=>?_;go_simp;refine(Zf.out _ hHeld.1).mono ?_;rintro e w' ⟨rfl,hwc⟩;subst hwc;go_wp2_with fail;refine hK.out _ _ (by(try dsimp only);exact hHeld) (fun hHeld=>?_);clear hK K;refine tk 15 ?_;refine rd 18 fun K hK=>?_;go_simp;refine(UD.out _ hHeld.1).mono ?_;rintro e w' ⟨rfl,hwc⟩;subst hwc;go_wp2_with fail;refine hK.out _ _ (by(try dsimp only);exact hHeld) (fun hHeld=>?_);clear hK K;refine tk 19 ?_;refine rd 22 fun K hK=>?_;go_simp;refine(F9.out _ hHeld.1).mono ?_;rintro e w' ⟨rfl,hwc⟩;subst hwc;go_wp2_with fail;refine hK.out _ _ (by(try dsimp only);exact hHeld) (fun hHeld=>?_);clear hK K;refine rd 23 fun K hK=>?_;go_simp;refine(HG.out _).mono ?_;rintro e w' ⟨rfl,hwc⟩;subst hwc;go_wp2_with fail;refine hK.out _ _ (by(try dsimp only);exact hHeld) (fun hHeld=>?_);clear hK K;refine tk 24 ?_;refine rd 26 fun K hK=>?_;refine ez 58 _ _ rfl W.heap.size #[.int .i64 p.toNat,.int .i64 O,.int .i64 C,.int .i64 A,.int .i64 q.toNat,.int .i64 V2] rfl rfl 58 _ vI.out (by show _=some 6;kernel_rfl) rfl (by simp[Value.oneCell']) ?_;refine hK.out _ _ (by(try dsimp only);exact xI _ _ hHeld) (fun hHeld=>?_);clear hK K;refine aT ?_;refine⟨(),?_,eF.symm⟩;first | with_reducible rfl | trivial
 clear vI qZ xI eF HG H2' Zf UD F9 hWd z0d z1d z0 z1;rintro _ X hX;subst hX;obtain⟨G,eG⟩:∃G,G=W.heap.size:=⟨_,rfl⟩;rw[←eG]at HF;try rw[←eG]
 have hFK:=HF.out.2.1;have hFZ:=HF.out.2.2;have hFB:=HF.out.1;have hGw:w.heap.size≤G:=by rw[eG];exact hW.size
 clear eG HF;go_wp2_with (refine bt rfl 58 _ rfl G rfl 58 #[.int .i64 p.toNat,.int .i64 O,.int .i64 C,.int .i64 A,.int .i64 q.toNat,.int .i64 V2] (0,0) _ hFK pj rfl (by show _=some 6;kernel_rfl) ?_)
 refine(uF.out X).mono ?_;rintro e w1 ⟨rfl,hb1⟩;have b01:=hFK.below hb1 hFK.lt;have Zg:=hFZ.below hb1 hFZ.lt;have hw1:=hFB.trans (hb1.mono hFB.size);have Zh:=HRV;cases B
 ·unfold dr;simp only[Bool.false_eq_true,if_false]at Zh ⊢;go_wp2_with (refine aQ rfl 58 _ _ rfl w.heap.size #[.int .i64 0,.int .i64 0,.int .i64 0,.int .i64 0,.int .i64 0,.int .i64 0] rfl rfl 58 _ Zg (by show _=some 6;kernel_rfl) rfl (by simp[Value.oneCell']) ?_)
  exact bc (dm Tryz.results112 _ _ w.heap.size 58 #[.int .i64 0,.int .i64 0,.int .i64 0,.int .i64 0,.int .i64 0,.int .i64 0] (0,0) _ rfl (Zg.row _) pj rfl (by show _=some 6;kernel_rfl) _ rfl) rfl ⟨by rw[Zh.out];rfl,aA hw1 _ (ai _)⟩
 ·unfold dr;simp only[if_true]at Zh ⊢;go_wp2_with (first | (refine bt rfl 58 _ rfl G rfl 58 #[.int .i64 p.toNat,.int .i64 O,.int .i64 C,.int .i64 A,.int .i64 q.toNat,.int .i64 V2] (0,0) _ b01 pj rfl (by show _=some 6;kernel_rfl) ?_) | (refine aQ rfl 58 _ _ rfl w.heap.size #[.int .i64 p.toNat,.int .i64 O,.int .i64 C,.int .i64 A,.int .i64 q.toNat,.int .i64 V2] rfl rfl 58 _ Zg (by show _=some 6;kernel_rfl) rfl (by simp[Value.oneCell']) ?_))
  exact bc (dm Tryz.results112 _ _ w.heap.size 58 #[.int .i64 p.toNat,.int .i64 O,.int .i64 C,.int .i64 A,.int .i64 q.toNat,.int .i64 V2] (0,0) _ rfl (Zg.row _) pj rfl (by show _=some 6;kernel_rfl) _ rfl) rfl ⟨by rw[Zh.out];rfl,aA hw1 _ (ai _)⟩
theorem oE (l:List UInt8) (i k:Nat) (h:i+k≤l.length):leB (aW ((l.drop i).take k)) k=(l.drop i).take k:=by
 have:=FN ((l.drop i).take k);rwa [show((l.drop i).take k).length=k by rw[bD,c_];omega]at this
theorem oF (n:Nat) (h:n<18446744073709551616):u64 (n:Int)=n:=by unfold u64;omega
theorem Xs (n:Nat) (h:n<18446744073709551616):u64 (IntKind.i64.wrap (n:Int))=n:=by rw[cz];unfold u64;omega
theorem lG (l:List UInt8) (i k m:Nat):(l.drop i).take k++(l.drop (i+k)).take m=(l.drop i).take (k+m):=by
 rw[List.take_add,og]
theorem lp (l:List UInt8) (i k:Nat) (hk:k≤8):aW ((l.drop i).take k)<18446744073709551616:=AU _ 8 (by rw[bD];omega) (by omega)
theorem QO (l:List UInt8) (h:20≤l.length):ly (keyOf l)=l.take 20:=by
 rw[N_];unfold keyOf;simp only;rw[oF _ (lp l 0 1 (by omega)),oF _ (lp l 1 1 (by omega)),oF _ (lp l 2 2 (by omega)),oF _ (lp l 4 4 (by omega)),oF _ (lp l 8 4 (by omega)),Xs _ (lp l 12 8 (by omega))];rw[oE l 0 1 (by omega),oE l 1 1 (by omega),oE l 2 2 (by omega),oE l 4 4 (by omega),oE l 8 4 (by omega),oE l 12 8 (by omega)];rw[lG l 8 4 8,lG l 4 4 (4+8),lG l 2 2 (4+(4+8)),lG l 1 1 _,lG l 0 1 _];rfl
theorem CJ (l:List UInt8):∀n,12+20*n≤l.length→((List.range n).map fun i=>keyOf (l.drop (12+20*i))).flatMap ly=(l.drop 12).take (20*n)
 | 0,_=>by simp
 | n+1,h=>by
  rw[nc,cK,tK,CJ l n (by omega)];simp only[List.map_cons,List.map_nil,List.flatMap_cons,List.flatMap_nil,List.append_nil];rw[QO _ (by rw[c_];omega),lG l 12 (20*n) 20];rfl
theorem Fv (l:List UInt8) (h:l.length=508):dL (ff l)=l.take 396:=by
 unfold dL ff;simp only;rw[oF _ (lp l 0 4 (by omega)),oF _ (lp l 4 4 (by omega)),oF _ (lp l 8 4 (by omega))];rw[oE l 0 4 (by omega),oE l 4 4 (by omega),oE l 8 4 (by omega),CJ l 16 (by omega)];rw[lG l 0 4 4,lG l 0 (4+4) 4,lG l 0 (4+4+4) (20*16),lG l 0 (4+4+4+20*16) 64];rfl
theorem Ou (l:List UInt8) (h:l.length=508):fA (l.take 396)=l↔(l.drop 396).all (· == 0)=true:=by
 have ht:(l.take 396).length=396:=by rw[bD];omega
 unfold fA;rw[ht];constructor
 ·intro e;rw[←e,List.drop_left' ht];simp
 ·intro e;have hz:l.drop 396=List.replicate (508-396) 0:=by
   apply Ry.2;refine⟨by rw[c_];omega,fun c hc=>?_⟩;have:=cx.1 e c hc;simpa using this
  rw[←hz,rP]
def qQ (l:List UInt8):aK := {ff l with kd:=aW ((l.drop 0).take 1)}
theorem F_ (l:List UInt8) (h:l.length=508) (hk:aW ((l.drop 0).take 4)=aW ((l.drop 0).take 1)):qQ l=ff l:=by
 unfold qQ ff;rw[hk]
theorem Mf (l:List UInt8) (h:l.length=508) (hk:aW ((l.drop 0).take 4)<256):aW ((l.drop 0).take 4)=aW ((l.drop 0).take 1):=by
 obtain⟨c,r,rfl⟩:∃c r,l=c::r:=by
  cases l with
  | nil=>simp at h
  | cons c r=>exact⟨c,r,rfl⟩
 have e4:aW (((c::r).drop 0).take 4)=c.toNat+256*aW (r.take 3):=rfl;have e1:aW (((c::r).drop 0).take 1)=c.toNat:=by show c.toNat+256*aW (r.take 0)=_;simp[aW]
 rw[e4]at hk ⊢;rw[e1];omega
theorem Xt (l:List UInt8) (h:l.length=508) (n:Int) (hk:∀i,i<16→sG (keyOf (l.drop (12+20*i)))=true) :
 (fH (qQ l) n=true∧fA (dL (qQ l))=l)↔lh l n=true:=by
 have hs:((List.range 16).all fun i=>sG (keyOf (l.drop (12+20*i))))=true:=cx.2 fun i hi=>hk i (ng.1 hi)
 constructor
 ·rintro⟨ho,hp⟩;have Mg:aW ((l.drop 0).take 4)=aW ((l.drop 0).take 1):=by
   have h1:aW ((l.drop 0).take 1)<256:=by
    have:=iJ ((l.drop 0).take 1);have e:((l.drop 0).take 1).length=1:=by rw[bD,c_];omega
    rw[e]at this;exact this
   have hl:(l.drop 0).take 4=leB (aW ((l.drop 0).take 1)) 4:=by
    have e:dL (qQ l)=leB (aW ((l.drop 0).take 1)) 4++(leB (u64 (qQ l).ct) 4++leB (u64 (qQ l).cl) 4++(qQ l).slots.flatMap ly++(qQ l).bytes):=by
     unfold dL;rw[show u64 (qQ l).kd=aW ((l.drop 0).take 1)from oF _ (by omega)];simp only[List.append_assoc]
    have hA:=bJ (aW ((l.drop 0).take 1)) 4;rw[qd]at e hA ⊢;generalize leB (aW (l.take 1)) 4=A at e hA ⊢;unfold fA at hp;rw[e,fS]at hp;rw[←hp,zM hA]
   have:=dz aW hl;rw[NH,sg (by omega)]at this;exact this
  rw[F_ l h Mg]at ho hp;rw[Fv l h]at hp;unfold lh;rw[hs,(Ou l h).1 hp,ho];rfl
 ·intro hc;unfold lh at hc;rw[hs,fx,IM]at hc;obtain⟨hz,ho⟩:=hc;have hkd:=(yx ho).1.2;have Mg:=Mf l h (by have:((aW ((l.drop 0).take 4):Nat):Int)≤3:=hkd;omega);rw[F_ l h Mg];refine⟨ho,?_⟩;rw[Fv l h];exact(Ou l h).2 hz
theorem Xu (b:List UInt8) (hb:b.length=512) (n:Int) (w:World) (hn:n<1∨64<n) :
 Calls Tryz.prog 64 #[aV b,.int .i64 n] w fun e w'=>e=.returned (.tuple #[.agg (kE b n).cells.toArray,.int .i64 (eO b n)])∧Below w.heap.size w w':=by
 obtain⟨W0,a_⟩:∃W,W=(w.alloc (.cells (b.map aj).toArray 111)).alloc (.cells Tryz.zeroCells62 62):=⟨_,rfl⟩;have hw0:Below w.heap.size w W0:=by rw[a_];exact((ax _ w).alloc (ai _) _).alloc (by simp) _
 have k1:ah W0 (w.heap.size+1) 62 cP.cells.toArray:=by rw[a_,←dP];exact ah.new2 w _ _ _
 have hzi:(Tryz.prog.info? 62).map (·.size)=some cP.cells.toArray.size:=by rw[←dP];exact iA
 have hz1:cP.cells.toArray.all (·.oneCell')=true:=by rw[←dP];exact pE
 have ig:=ae k1;have HW0:=ae hw0;have HE:=ae (show eO b n=2 by unfold eO;rw[aB hn]);have HG:=ae (rz HE.out (by decide));have hs:n<1∨(¬n<1∧64<n):=by omega
 unfold aV;clear hn k1 hw0 hb;rcases hs with h1 | ⟨h1,h2⟩
 all_goals
  go_enter JI,Jq
  go_upto_region 1 with fail;rw[←a_];clear a_;go_wp2_with (first
  | (refine aQ rfl 62 _ _ rfl (w.heap.size+1) cP.cells.toArray rfl rfl 62 _ ig.out hzi rfl hz1 ?_))
  exact bc (dm wV _ _ (w.heap.size+1) 62 cP.cells.toArray (0,0) _ rfl (ig.out.row _) dH rfl hzi _ rfl) rfl ⟨by rw[HE.out,HG.out];rfl,aA HW0.out _ (by omega)⟩
theorem Xv (b:List UInt8) (hb:b.length=512) (n:Int) (w:World) (hn:¬ (n<1∨64<n)) (hsl:cZ b=false) :
 Calls Tryz.prog 64 #[aV b,.int .i64 n] w fun e w'=>e=.returned (.tuple #[.agg (kE b n).cells.toArray,.int .i64 (eO b n)])∧Below w.heap.size w w':=by
 obtain⟨W0,a_⟩:∃W,W=(w.alloc (.cells (b.map aj).toArray 111)).alloc (.cells Tryz.zeroCells62 62):=⟨_,rfl⟩;have hw0:Below w.heap.size w W0:=by rw[a_];exact((ax _ w).alloc (ai _) _).alloc (by simp) _
 have k0:ah W0 w.heap.size 111 (b.map aj).toArray:=by rw[a_];exact(ah.new w _ _).alloc _
 have k1:ah W0 (w.heap.size+1) 62 cP.cells.toArray:=by rw[a_,←dP];exact ah.new2 w _ _ _
 have hzi:(Tryz.prog.info? 62).map (·.size)=some cP.cells.toArray.size:=by rw[←dP];exact iA
 have hz1:cP.cells.toArray.all (·.oneCell')=true:=by rw[←dP];exact pE
 have ig:=ae k1;have HW0:=ae hw0;have HE:=ae (show eO b n=150 by unfold eO;rw[aG hn,hsl];rfl);have HG:=ae (rz HE.out (by decide));have h1:¬n<1:=by omega
 have h2:¬64<n:=by omega
 have hs0:W0.heap.size=w.heap.size+2:=by rw[a_];simp
 have HV:BytesIn W0 W0.heap.size (.slice (some ⟨w.heap.size,0,none⟩) 512 512) b:=by
  refine⟨by rw[hb];unfold maxLen;omega,some ⟨w.heap.size,0,none⟩,512,by rw[hb],by omega,fun j c hj=>⟨w.heap.size,0,rfl,by omega,?_⟩⟩;exact k0.ag (0+j) (by simp[hj])
 have HSL:=ae (vO _ b W0 HV (by omega));rw[hsl]at HSL;unfold aV;clear hn k1 hw0 hb HV hs0 k0;go_enter JI,Jq
 go_upto_region 1 with fail;rw[←a_];clear a_;go_wp2_with fail;refine HSL.out.mono ?_;rintro e w1 ⟨u,rfl,hb1⟩;have k11:=ig.out.below hb1 ig.out.lt;have hw1:=HW0.out.trans (hb1.mono HW0.out.size);go_wp2_with (refine aQ rfl 62 _ _ rfl (w.heap.size+1) cP.cells.toArray rfl rfl 62 _ k11 hzi rfl hz1 ?_)
 exact bc (dm wV _ _ (w.heap.size+1) 62 cP.cells.toArray (0,0) _ rfl (k11.row _) dH rfl hzi _ rfl) rfl ⟨by rw[HE.out,HG.out];rfl,aA hw1 _ (by omega)⟩
theorem Xw (o:aK) (ho:o.ok) (hr:iM o) (n:Int) (w:World) (hy:fH o n=false) :
 Calls Tryz.prog 96 #[.agg o.cells.toArray,.int .i64 n] w fun e w'=>e=.returned (.tuple #[aV az,.int .i64 2])∧Below w.heap.size w w':=by
 have hck:=fun W=>mU o ho hr n W
 rw[hy]at hck;have uF:=ae hck;have hl0:az.length=512:=et;obtain⟨cs,hc⟩:∃cs,cs=o.cells.toArray:=⟨_,rfl⟩;have scs:(Tryz.prog.info? 62).map (·.size)=some cs.size:=by rw[hc,b',aK.len ho];kernel_rfl
 rw[←hc]at uF ⊢;obtain⟨W,eW⟩:∃W,W=((w.alloc (.cells cs 62)).alloc (.cells Tryz.zeroCells111 111)).alloc (.cells Tryz.zeroCells111 111):=⟨_,rfl⟩;have hb0:Below w.heap.size w W:=by rw[eW];exact(((ax _ w).alloc (ai _) _).alloc (by simp) _).alloc (by simp;omega) _
 have z0:ah W w.heap.size 62 cs:=by rw[eW];exact((ah.new w _ _).alloc _).alloc _
 have z1:ah W (w.heap.size+1) 111 (az.map aj).toArray:=by rw[eW,←bE];exact(ah.new2 w _ _ _).alloc _
 have z2:ah W (w.heap.size+2) 111 (az.map aj).toArray:=by rw[eW,←bE];exact ah.new' (by simp)
 have hone:=bq az;have hsz:=aO _ hl0;clear hy hr ho hck hc;unfold aV;go_enter Tryz.func96,Tryz.ntmps96
 go_upto_region 2 with fail;rw[←eW];clear eW;go_wp2_with (refine bt rfl 62 _ rfl w.heap.size rfl 62 cs (0,0) _ z0 dH rfl scs ?_)
 refine(uF.out W).mono ?_;rintro e w1 ⟨rfl,hb1⟩;have b1:=z1.below hb1 z1.lt;have b2:=z2.below hb1 z2.lt;have hB1:=hb0.trans (hb1.mono hb0.size);unfold dr;simp only[Bool.false_eq_true,if_false];go_wp2_with (first
  | (refine bt rfl 111 _ rfl (w.heap.size+2) rfl 111 (az.map aj).toArray (0,0) _ b2 dj rfl hsz ?_)
  | (refine aQ rfl 111 _ _ rfl (w.heap.size+1) (az.map aj).toArray rfl rfl 111 _ b1 hsz rfl hone ?_))
 exact bc (bn Tryz.results96 _ _ _ _ _ (by rfl) (lz hl0 (b1.row _)) (by rfl)) rfl ⟨rfl,aA hB1 _ (by omega)⟩
theorem lH (b:List UInt8) (m i k:Nat) (h:i+k≤m):((b.take m).drop i).take k=(b.drop i).take k:=by
 rw[List.drop_take,List.take_take,oN (by omega)]
theorem QP (l:List UInt8):keyOf (l.take 20)=keyOf l:=by
 unfold keyOf;rw[lH l 20 0 1 (by omega),lH l 20 2 2 (by omega),lH l 20 4 4 (by omega),lH l 20 8 4 (by omega),lH l 20 1 1 (by omega),lH l 20 12 8 (by omega)]
theorem UE (b:List UInt8) (m i:Nat) (h:i+20≤m):keyOf ((b.take m).drop i)=keyOf ((b.drop i).take 20):=by
 rw[←QP ((b.take m).drop i),lH b m i 20 h]
def jB (l:List UInt8) (j:Nat):aK := {ik l j with kd:=aW ((l.drop 0).take 1)}
theorem Hi (l:List UInt8) (j:Nat):(jB l j).ok:=⟨mV l j,rfl⟩
theorem Nr (l:List UInt8):jB l 0=⟨aW ((l.drop 0).take 1),aW ((l.drop 4).take 4),aW ((l.drop 8).take 4),kT,kU⟩:=by
 unfold jB ik;rw[AV]
theorem UF {w:World} {g:Nat} {t:TypeId} {l:List UInt8} {j:Nat} (hj:j<16) {X:Array Value} (eX:X=(keyOf (l.drop (12+20*j))).cells.toArray) (h:ah w g t (jB l j).cells.toArray) :
 ah (w.setCells g (3+j*6) X.toList) g t (jB l (j+1)).cells.toArray:=by
 have h6:X.toList.length=6:=by rw[eX];rfl
 have h1:=uw g t X.toList (3+j*6) w _ h (by rw[b',aK.len (Hi l j),h6];omega);have e1:X.toList=(keyOf (l.drop (12+20*j))).cells:=by rw[eX]
 rw[e1]at h1 ⊢;rw[wz,AW (jB l j) j (keyOf (l.drop (12+20*j))) (by show j<(jS l j).length;rw[mV];exact hj)]at h1;have e2:({jB l j with slots:=(jB l j).slots.set j (keyOf (l.drop (12+20*j)))}:aK)=jB l (j+1):=by
  unfold jB ik;simp only;rw[Cw]
 rw[e2]at h1;exact h1
def l9 (l:List UInt8) (m:Nat):List UInt8:=(l.drop 332).take m++List.replicate (64-m) 0
theorem Ns (l:List UInt8) (h:l.length=508) (m:Nat) (hm:m≤64):(l9 l m).length=64:=by
 unfold l9;rw[bX,bD,c_,et];omega
theorem Nt (l:List UInt8) (h:l.length=508) (m:Nat) (hm:m<64) (c:UInt8) (hc:l[332+m]? = some c):(l9 l m).set m c=l9 l (m+1):=by
 unfold l9;have ht:((l.drop 332).take m).length=m:=by rw[bD,c_];omega
 have hd:(l.drop 332)[m]? = some c:=by rw[kL];exact hc
 rw[Dp _ _ (by omega),ht,DO,gG,hd,show 64-m=(64-(m+1))+1 by omega,List.replicate_succ];simp
def jl (l:List UInt8) (m:Nat):aK := {jB l 16 with bytes:=l9 l m}
theorem Mh (l:List UInt8) (h:l.length=508) (m:Nat) (hm:m≤64):(jl l m).ok:=⟨mV l 16,Ns l h m hm⟩
theorem QQ (l:List UInt8):jl l 0=jB l 16:=by
 unfold jl;rw[show l9 l 0=kU by unfold l9 kU;simp];rfl
theorem Hj (l:List UInt8) (h:l.length=508):jl l 64=qQ l:=by
 unfold jl jB qQ;rw[show l9 l 64=(ff l).bytes by unfold l9 ff;simp];unfold ik;simp only;rw[Cx];rfl
theorem UG (l:List UInt8) (h:l.length=508) (m:Nat) (hm:m<64) (c:UInt8) (hc:l[332+m]? = some c):(jl l m).cells.toArray.setIfInBounds (99+m) (aj c)=(jl l (m+1)).cells.toArray:=by
 have hp:([Value.int .i64 (jl l m).kd,.int .i64 (jl l m).ct,.int .i64 (jl l m).cl]++bw (jl l m).slots).length=99:=by
  rw[bX,cq,show(jl l m).slots.length=16 from mV l 16];rfl
 have e:∀k,(jl l k).cells=([Value.int .i64 (jl l m).kd,.int .i64 (jl l m).ct,.int .i64 (jl l m).cl]++bw (jl l m).slots)++(l9 l k).map aj:=fun k=>rfl
 rw[Dn,e m,e (m+1),Dp _ _ (by omega),hp,zo,←zY,Nt l h m hm c hc]
theorem UH (l:List UInt8) (h:l.length=508) {n:Int} (hc:lh l n=true):qQ l=ff l:=by
 unfold lh at hc;rw[IM,IM]at hc;have hkd:=(yx hc.2.2).1.2;exact F_ l h (Mf l h (by have:((aW ((l.drop 0).take 4):Nat):Int)≤3:=hkd;omega))
theorem QR (l:List UInt8):∀x∈(ff l).slots,ix x.v:=by
 intro x hx;unfold ff at hx;obtain⟨i,_,rfl⟩:=dI.1 hx;unfold keyOf ix;simp only[IntKind.wrap_i64];omega
theorem Nu (b l:List UInt8) (hb:b.length=512) (hs:cZ b=true) (hl:l.length=396):bM l=b↔fA l=b.take 508:=by
 have hp:(fA l).length=508:=nJ l (by omega);unfold bM dQ;constructor
 ·intro e;have:=dz (List.take 508) e;rwa [zM hp]at this
 ·intro e;rw[e];unfold cZ at hs;rw[hb]at hs;simp only[Bool.and_eq_true,decide_eq_true_eq,beq_iff_eq]at hs;rw[←hs.2];have h4:=FN (b.drop 508);rw[c_,hb]at h4;rw[h4,rP]
theorem pI (d:Nat) (l m:List UInt8) (hl:l.length=512) (hm:m.length=512) (w:World):(Op.equalIn (d+2) 111 (.agg (l.map aj).toArray) (.agg (m.map aj).toArray)).run Tryz.prog w=.ok (l == m) w :=
 run_equalIn_bytes w d _ _ 512 dj oK (fun w=>by kernel_rfl) l m hl hm
def GR (w:World) (b:List UInt8) (G:Nat) (wr:World) (j:Nat):Prop :=
 Below w.heap.size w wr∧ah wr w.heap.size 111 (b.map aj).toArray∧ah wr (w.heap.size+1) 62 cP.cells.toArray∧ah wr G 62 (jB (b.take 508) j).cells.toArray∧w.heap.size+2≤G
def GB (w:World) (b:List UInt8) (G:Nat) (wr:World) (m:Nat):Prop :=
 Below w.heap.size w wr∧ah wr w.heap.size 111 (b.map aj).toArray∧ah wr (w.heap.size+1) 62 cP.cells.toArray∧ah wr G 62 (jl (b.take 508) m).cells.toArray∧w.heap.size+2≤G
theorem UI (k c l:Int):Tryz.prog.built 62 [(0,.int .i64 k),(1,.int .i64 c),(2,.int .i64 l)]=some (aK.cells ⟨k,c,l,kT,kU⟩).toArray:=by
 kernel_rfl
theorem UJ (b:List UInt8) (hb:b.length=512) (n:Int) (w:World) (hn:¬ (n<1∨64<n)) (hsl:cZ b=true) :
 Calls Tryz.prog 64 #[aV b,.int .i64 n] w fun e w'=>e=.returned (.tuple #[.agg (kE b n).cells.toArray,.int .i64 (eO b n)])∧Below w.heap.size w w':=by
 obtain⟨W0,a_⟩:∃W,W=(w.alloc (.cells (b.map aj).toArray 111)).alloc (.cells Tryz.zeroCells62 62):=⟨_,rfl⟩;have hw0:Below w.heap.size w W0:=by rw[a_];exact((ax _ w).alloc (ai _) _).alloc (by simp) _
 have k0:ah W0 w.heap.size 111 (b.map aj).toArray:=by rw[a_];exact(ah.new w _ _).alloc _
 have k1:ah W0 (w.heap.size+1) 62 cP.cells.toArray:=by rw[a_,←dP];exact ah.new2 w _ _ _
 have hzi:(Tryz.prog.info? 62).map (·.size)=some cP.cells.toArray.size:=by rw[←dP];exact iA
 have hz1:cP.cells.toArray.all (·.oneCell')=true:=by rw[←dP];exact pE
 have ig:=ae k1;have HB0:=ae k0;have HW0:=ae hw0;have h1:¬n<1:=by omega
 have h2:¬64<n:=by omega
 have hs0:W0.heap.size=w.heap.size+2:=by rw[a_];simp
 have hin:∀X:World,ah X w.heap.size 111 (b.map aj).toArray→w.heap.size+1≤X.heap.size→BytesIn X X.heap.size (.slice (some ⟨w.heap.size,0,none⟩) b.length 512) b:=fun X hX hs=>by
  refine⟨by rw[hb];unfold maxLen;omega,some ⟨w.heap.size,0,none⟩,512,rfl,by omega,fun j c hj=>⟨w.heap.size,0,rfl,by omega,?_⟩⟩;exact hX.ag (0+j) (by simp[hj])
 have HV:=hin W0 k0 (by omega);rw[hb]at HV;have HSL:=ae (vO _ b W0 HV (by omega));rw[hsl]at HSL;have Od:=ae hin;have hp0:b[0]? = some (b[0]'(by omega)):=aY (by omega);have hk0:(aW ((b.drop 0).take 1):Int)=((b[0]'(by omega)).toNat:Int):=by rw[F8 b 0 (by omega)]
 generalize b[0]'(by omega)=p at *;have ft:=ae hk0;have HP0:=ae hp0;have jM:=ae hb;unfold aV;clear hn k1 hw0 hb HV k0 hin hk0 hp0;go_enter JI,Jq
 go_upto_region 1 with fail;rw[←a_];clear a_;go_wp2_with fail;refine HSL.out.mono ?_;rintro e w1 ⟨u,rfl,hb1⟩;have k11:=ig.out.below hb1 ig.out.lt;have k01:=HB0.out.below hb1 HB0.out.lt;have hw1:=HW0.out.trans (hb1.mono HW0.out.size);go_wp2_with fail;have hs1:=hb1.size;have hl4:∀i k,i+k≤508→((b.drop i).take k).length=k:=fun i k h=>by rw[bD,c_,jM.out];omega
 have tg:∀ (i k:Nat) (hi:0<i) (h8:k≤8) (hik:i+k≤508) (X:World),ah X w.heap.size 111 (b.map aj).toArray→w.heap.size+1≤X.heap.size→Calls Tryz.prog 111 #[.slice (some ⟨w.heap.size,i,none⟩) k (512-i)] X fun e w''=>e=.returned (.int .u64 (aW ((b.drop i).take k)))∧X=w'':=by
  intro i k hi h8 hik X hX hs;have hc:=(Od.out X hX hs).cut i (i+k) (by omega) (by rw[jM.out];omega) (by rw[jM.out];omega);rw[aG (by omega),tP,eP,zo,cW]at hc;exact Hh _ _ X hc (by rw[hl4 i k hik];exact h8)
 have H4:=ae (tg 4 4 (by omega) (by omega) (by omega));have H8:=ae (tg 8 4 (by omega) (by omega) (by omega));have l4:=iJ ((b.drop 4).take 4);have l8:=iJ ((b.drop 8).take 4);rw[hl4 4 4 (by omega)]at l4;rw[hl4 8 4 (by omega)]at l8;obtain⟨C,eC⟩:∃C,C=aW ((b.drop 4).take 4):=⟨_,rfl⟩;obtain⟨L,eL⟩:∃C,C=aW ((b.drop 8).take 4):=⟨_,rfl⟩;rw[←eC]at H4 l4;rw[←eL]at H8 l8;have HC:=ae eC;have HL:=ae eL;have sP:IntKind.i64.wrap (p.toNat:Int)=p.toNat:=by have:=mu p;rw[cz];omega
 have sC:IntKind.i64.wrap (C:Int)=C:=by rw[cz];omega
 have sL:IntKind.i64.wrap (L:Int)=L:=by rw[cz];omega
 obtain⟨ob,uq⟩:∃ob,ob=(aK.cells ⟨p.toNat,C,L,kT,kU⟩).toArray:=⟨_,rfl⟩;have hok0:(⟨p.toNat,C,L,kT,kU⟩:aK).ok:=⟨by unfold kT;exact et,rfl⟩;have hoi:(Tryz.prog.info? 62).map (·.size)=some ob.size:=by rw[uq,b',aK.len hok0];kernel_rfl
 have ho1:ob.all (·.oneCell')=true:=by rw[uq];simp only[List.all_toArray];exact cx.2 fun v hv=>ru _ v hv
 have Xx:(Tryz.zeroCells62:Array Value).size=ob.size:=by
  have e:(Tryz.zeroCells62:Array Value).size=163:=by kernel_rfl
  rw[e,uq,b',aK.len hok0]
 have aiW:=ae uq;have hbt:=UI p.toNat C L;rw[←uq]at hbt;have Ov:=ae hbt;have c0:=k01.ag 0 (v:=aj p) (by simp[HP0.out]);have HSd:=ae (show(fun w'=>Below w.heap.size w w'∧w.heap.size+1≤w'.heap.size∧ah w' w.heap.size 111 (b.map aj).toArray∧ah w' (w.heap.size+1) 62 cP.cells.toArray∧w'.cell? ⟨w.heap.size,0,none⟩=some (aj p)) w1.drew from⟨hw1.drew,by show _≤w1.heap.size;omega,k01.drew,k11.drew,c0⟩);clear tg hl4 l4 l8 eC eL uq hbt hs1;have qZ:∀ (X:World) (o:Obj),((fun w'=>Below w.heap.size w w'∧w.heap.size+1≤w'.heap.size∧ah w' w.heap.size 111 (b.map aj).toArray∧ah w' (w.heap.size+1) 62 cP.cells.toArray∧w'.cell? ⟨w.heap.size,0,none⟩=some (aj p))) X→((fun w'=>Below w.heap.size w w'∧w.heap.size+1≤w'.heap.size∧ah w' w.heap.size 111 (b.map aj).toArray∧ah w' (w.heap.size+1) 62 cP.cells.toArray∧w'.cell? ⟨w.heap.size,0,none⟩=some (aj p))) (X.alloc o):=by
  intro X o h;have hb:=(ax X.heap.size X).alloc (ai _) o;have hs:=h.1.size;have hlt:=h.2.2.1.lt;exact⟨h.1.alloc hs _,by have:=h.2.1;simp;omega,h.2.2.1.alloc _,h.2.2.2.1.alloc _,(hb.cell (p:=⟨w.heap.size,0,none⟩) hlt).trans h.2.2.2.2⟩
 have xI:∀ (X:World) (cs:Array Value),((fun w'=>Below w.heap.size w w'∧w.heap.size+1≤w'.heap.size∧ah w' w.heap.size 111 (b.map aj).toArray∧ah w' (w.heap.size+1) 62 cP.cells.toArray∧w'.cell? ⟨w.heap.size,0,none⟩=some (aj p))) X→((fun w'=>Below w.heap.size w w'∧w.heap.size+1≤w'.heap.size∧ah w' w.heap.size 111 (b.map aj).toArray∧ah w' (w.heap.size+1) 62 cP.cells.toArray∧w'.cell? ⟨w.heap.size,0,none⟩=some (aj p))) (X.setRow w1.heap.size cs):=by
  intro X cs h;have hb:=aA (ax w1.heap.size X) cs (ai _);have hlt:=k11.lt;exact⟨aA h.1 cs (by omega),by have:=h.2.1;simpa using this,h.2.2.1.gu _ (by omega),h.2.2.2.1.gu _ (by omega),(hb.cell (p:=⟨w.heap.size,0,none⟩) (show w.heap.size<_ by omega)).trans h.2.2.2.2⟩
 have vI:=ae (ah.new w1.drew 62 Tryz.zeroCells62);obtain⟨F,eF⟩:∃F,F=(w1.drew.alloc (.cells Tryz.zeroCells62 62)).setRow w1.heap.size ob:=⟨_,rfl⟩;have HF:=ae (show((fun w'=>Below w.heap.size w w'∧w.heap.size+1≤w'.heap.size∧ah w' w.heap.size 111 (b.map aj).toArray∧ah w' (w.heap.size+1) 62 cP.cells.toArray∧w'.cell? ⟨w.heap.size,0,none⟩=some (aj p))) F∧ah F w1.heap.size 62 ob from by rw[eF];exact⟨xI _ _ (qZ _ _ HSd.out),vI.out.row _⟩);have hSd:=HSd.out;refine' yq (ι:=Unit) (fun _=>(_:Act)) (fun _ X=>X=F) ?_ ?_;rotate_left 1
 ·skip
  refine bF (S:=(fun w'=>Below w.heap.size w w'∧w.heap.size+1≤w'.heap.size∧ah w' w.heap.size 111 (b.map aj).toArray∧ah w' (w.heap.size+1) 62 cP.cells.toArray∧w'.cell? ⟨w.heap.size,0,none⟩=some (aj p))) (by kernel_rfl) (by(try dsimp only);exact hSd) (fun hHeld=>?_);refine tk 0 ?_;refine tk 3 ?_;refine tk 6 ?_;refine tk 1 ?_;refine tk 2 ?_;refine fU (rs:=[4,10]) (by kernel_rfl) (by simp) ?_;refine(ca rfl (fun K hK=>?_) (ca rfl (fun K hK=>?_) fT))
  ·skip
   go_simp;refine(H4.out _ hHeld.2.2.1 (by have:=hHeld.2.1;omega)).mono ?_;rintro e w' ⟨rfl,hwc⟩;subst hwc;go_wp2_with fail;refine hK.out _ _ (by(try dsimp only);exact hHeld) (fun hHeld=>?_);clear hK K;refine tk 5 ?_;refine fU (rs:=[7,10]) (by kernel_rfl) (by simp) ?_;refine(ca rfl (fun K hK=>?_) (ca rfl (fun K hK=>?_) fT))
   ·skip
    go_simp;refine(H8.out _ hHeld.2.2.1 (by have:=hHeld.2.1;omega)).mono ?_;rintro e w' ⟨rfl,hwc⟩;subst hwc;go_wp2_with fail;refine hK.out _ _ (by(try dsimp only);exact hHeld) (fun hHeld=>?_);clear hK K;refine tk 8 ?_;refine ty 9 rfl (iO (by rfl) 62 _ rfl ob (by exact Ov.out)) ?_;refine rd 10 fun K hK=>?_;go_simp;refine hK.out _ _ (by(try dsimp only);exact qZ _ _ hHeld) (fun hHeld=>?_);clear hK K;refine rd 11 fun K hK=>?_;refine ez 62 _ _ rfl w1.heap.size ob rfl rfl 62 _ vI.out hoi Xx ho1 ?_;refine hK.out _ _ (by(try dsimp only);exact xI _ _ hHeld) (fun hHeld=>?_);clear hK K;refine aT ?_;refine⟨(),?_,eF.symm⟩;first | with_reducible rfl | trivial
   ·skip
    go_simp;refine hK.out _ _ (by(try dsimp only);exact qZ _ _ hHeld) (fun hHeld=>?_);clear hK K;refine rd 7 fun K hK=>?_;go_simp;refine(H8.out _ hHeld.2.2.1 (by have:=hHeld.2.1;omega)).mono ?_;rintro e w' ⟨rfl,hwc⟩;subst hwc;go_wp2_with fail;refine hK.out _ _ (by(try dsimp only);exact hHeld) (fun hHeld=>?_);clear hK K;refine tk 8 ?_;refine ty 9 rfl (iO (by rfl) 62 _ rfl ob (by exact Ov.out)) ?_;refine rd 11 fun K hK=>?_;refine ez 62 _ _ rfl w1.heap.size ob rfl rfl 62 _ vI.out hoi Xx ho1 ?_;refine hK.out _ _ (by(try dsimp only);exact xI _ _ hHeld) (fun hHeld=>?_);clear hK K;refine aT ?_;refine⟨(),?_,eF.symm⟩;first | with_reducible rfl | trivial
  ·skip
   go_simp;refine hK.out _ _ (by(try dsimp only);exact qZ _ _ hHeld) (fun hHeld=>?_);clear hK K;refine rd 4 fun K hK=>?_;go_simp;refine(H4.out _ hHeld.2.2.1 (by have:=hHeld.2.1;omega)).mono ?_;rintro e w' ⟨rfl,hwc⟩;subst hwc;go_wp2_with fail;refine hK.out _ _ (by(try dsimp only);exact hHeld) (fun hHeld=>?_);clear hK K;refine tk 5 ?_;refine rd 7 fun K hK=>?_;go_simp;refine(H8.out _ hHeld.2.2.1 (by have:=hHeld.2.1;omega)).mono ?_;rintro e w' ⟨rfl,hwc⟩;subst hwc;go_wp2_with fail;refine hK.out _ _ (by(try dsimp only);exact hHeld) (fun hHeld=>?_);clear hK K;refine tk 8 ?_;refine ty 9 rfl (iO (by rfl) 62 _ rfl ob (by exact Ov.out)) ?_;refine rd 11 fun K hK=>?_;refine ez 62 _ _ rfl w1.heap.size ob rfl rfl 62 _ vI.out hoi Xx ho1 ?_;refine hK.out _ _ (by(try dsimp only);exact xI _ _ hHeld) (fun hHeld=>?_);clear hK K;refine aT ?_;refine⟨(),?_,eF.symm⟩;first | with_reducible rfl | trivial
 clear vI qZ xI eF H4 H8;rintro _ X hX;subst hX;have ky:ob=(jB (b.take 508) 0).cells.toArray:=by
  rw[Nr,lH b 508 0 1 (by omega),lH b 508 4 4 (by omega),lH b 508 8 4 (by omega),aiW.out,ft.out,HC.out,HL.out]
 have hg0:GR w b w1.heap.size X 0:=⟨HF.out.1.1,HF.out.1.2.2.1,HF.out.1.2.2.2.1,by rw[←ky];exact HF.out.2,by have:=k11.lt;omega⟩;obtain⟨G,eG⟩:∃G,G=w1.heap.size:=⟨_,rfl⟩;rw[←eG]at hg0;try rw[←eG]
 have HG0:=ae hg0;clear ky hg0 eG HF;go_wp2_with fail;go_loopw [9] (fun i wr=>∃ (j:Nat),j≤16∧i=.int .i64 (j:Int)∧((List.range j).all fun i=>sG (keyOf ((b.take 508).drop (12+20*i))))=true∧GR w b G wr j) (fun i _=>16-(intOf i).toNat)
 case atStart=>exact⟨0,fi _,rfl,rfl,HG0.out⟩
 case round =>
  obtain⟨j,hj,rfl,hall,hI⟩:=hrel;have I:=ae hI;have vX:=ae hall;clear hI hall;by_cases hlt:j<16
  ·obtain⟨A,eA⟩:∃A:Nat,A=12+20*j:=⟨_,rfl⟩;have e1:(12:Int)+20*(j:Int)=(A:Int):=by omega
   have e2:(32:Int)+20*(j:Int)=(A:Int)+20:=by omega
   have a0:(0:Int)≤(A:Int):=by omega
   have a1:A≤A+20:=by omega
   have a2:A+20≤512:=by omega
   have a3:(A:Int)≤(A:Int)+20:=by omega
   have a4:(A:Int)+20≤512:=by omega
   have a6:(A:Int)≤512:=by omega
   have a7:(A:Int)≤492:=by omega
   have a5:¬512=A:=by omega
   have HA:=ae eA;clear eA;have Xy:=(Od.out wr I.out.2.1 (by have:=I.out.2.1.lt;omega)).cut A (A+20) (by omega) (by rw[jM.out];omega) (by rw[jM.out];omega);rw[aG (by omega),tP,eP,zo,cW]at Xy;have hcall:=Nq _ _ wr Xy (by rw[bD,c_,jM.out];omega);rw[←UE b 508 A (by omega)]at hcall;obtain⟨kx,ekx⟩:∃kx,kx=keyOf ((b.take 508).drop A):=⟨_,rfl⟩;rw[←ekx]at hcall;have HKX:=ae ekx;have PA:=ae hcall;clear Xy hcall ekx;go_wp2_with fail;refine PA.out.mono ?_;rintro e w2 ⟨rfl,hb2⟩;have r0:=I.out.2.1.below hb2 I.out.2.1.lt;have r1:=I.out.2.2.1.below hb2 I.out.2.2.1.lt;have rG:=I.out.2.2.2.1.below hb2 I.out.2.2.2.1.lt;have rB:=I.out.1.trans (hb2.mono I.out.1.size);cases hok:sG kx
   ·have HX:=ae (show eO b n=151 by
     unfold eO;rw[aG (by omega),aB hsl,show lh (b.take 508) n=false by unfold lh;rw[nr (p:=fun i=>sG (keyOf ((b.take 508).drop (12+20*i)))) hlt (by rw[←HA.out,←HKX.out];exact hok),wY]];rfl)
    simp only[Bool.false_eq_true,if_false];go_wp2_with (first
     | (refine aQ rfl 58 _ _ rfl w2.heap.size mw.cells.toArray rfl rfl 58 _ (bC w2 _) (by show _=some 6;kernel_rfl) rfl (by simp[mw,bx.cells,Value.oneCell']) ?_;rw[di])
     | (refine aQ rfl 62 _ _ rfl (w.heap.size+1) cP.cells.toArray rfl rfl 62 _ (r1.alloc _) hzi rfl hz1 ?_))
    exact bc (dm wV _ _ (w.heap.size+1) 62 cP.cells.toArray (0,0) _ rfl ((r1.alloc _).row _) dH rfl hzi _ rfl) rfl ⟨by rw[HX.out,rz HX.out (by decide)];rfl,aA (rB.alloc rB.size _) _ (by omega)⟩
   ·have oI:=ae (show((List.range (j+1)).all fun i=>sG (keyOf ((b.take 508).drop (12+20*i))))=true by rw[nc,zN,vX.out,List.all_cons,←HA.out,←HKX.out,hok];rfl);simp only[if_true];obtain⟨X,eX⟩:∃X,X=kx.cells.toArray:=⟨_,rfl⟩;rw[←eX];have hki:(Tryz.prog.info? 58).map (·.size)=some X.size:=by rw[eX];kernel_rfl
    have h1k:X.all (·.oneCell')=true:=by rw[eX,jf];rfl
    have N6:X.size=6:=by rw[eX];rfl
    have vL:(jB (b.take 508) j).cells.toArray.size=163:=by rw[b'];exact aK.len (Hi _ j)
    have hTH:=GX (rG.alloc (.cells X 58)) (3+j*6) X.size (by rw[vL,N6];omega);have A5:=ae hTH;have HXK:=ae (bC w2 (.cells X 58));have oZ:=ae eX;have vx:=ae hki;have hzk:mw.cells.toArray.size=X.size:=by rw[N6];rfl
    clear eX vL N6 hTH hki;go_wp2_with (first
     | (refine aQ rfl 58 _ _ rfl w2.heap.size X rfl rfl 58 _ (bC w2 _) vx.out hzk h1k ?_;rw[di])
     | (refine bt rfl 58 _ rfl w2.heap.size rfl 58 X (0,0) _ HXK.out pj rfl vx.out ?_)
     | (refine wpList_store_mid rfl 58 _ _ rfl G (3+j*6) X rfl rfl A5.out vx.out h1k ?_))
    have hgw:=I.out.2.2.2.2;have hwX:Below w.heap.size w (w2.alloc (.cells X 58)):=rB.alloc rB.size _;have ho:Out (fun i=>i=G) (w2.alloc (.cells X 58)) ((w2.alloc (.cells X 58)).setCells G (3+j*6) X.toList):=ux (F:=fun i=>i=G) _ rfl _ _ _;refine⟨⟨j+1,by omega,by go_num,oI.out,hwX.trans (ho.below (B:=w.heap.size) hwX.size (fun i hi e=>by omega)),ho.blk (r0.alloc _) (by omega),ho.blk (r1.alloc _) (by omega),UF hlt (by rw[oZ.out,HKX.out,HA.out]) (rG.alloc _),hgw⟩,by simp[intOf];omega⟩
  ·obtain rfl:j=16:=by omega
   have hgb:GB w b G wr 0:=⟨I.out.1,I.out.2.1,I.out.2.2.1,by rw[QQ];exact I.out.2.2.2.1,I.out.2.2.2.2⟩;have Zi:=ae hgb;clear hgb I;go_wp2_with fail;go_loopw [12] (fun i wr=>∃ (m:Nat),m≤64∧i=.int .i64 (m:Int)∧GB w b G wr m) (fun i _=>64-(intOf i).toNat)
   case atStart=>exact⟨0,fi _,rfl,Zi.out⟩
   case round =>
    obtain⟨m,hm,rfl,hI⟩:=hrel;have I:=ae hI;clear hI;by_cases hlt:m<64
    ·obtain⟨c,hc⟩:∃c,b[332+m]? = some c:=⟨_,aY (by rw[jM.out];omega)⟩;obtain⟨A,eA⟩:∃A:Nat,A=332+m:=⟨_,rfl⟩;have hcell:=I.out.2.1.ag A (v:=aj c) (by rw[eA];simp[hc]);have Er:=ae (show(b.take 508)[332+m]? = some c by rw[dU,aB (by omega)];exact hc);have e1:(332:Int)+(m:Int)=(A:Int):=by omega
     have a0:(0:Int)≤(A:Int):=by omega
     have a1:(A:Int)<512:=by omega
     have a2:A<512:=by omega
     have m1:(m:Int)<64:=by omega
     have hl5:(b.take 508).length=508:=by rw[bD,jM.out];rfl
     obtain⟨u0,hu0⟩:∃u0,(jl (b.take 508) m).cells.toArray[99+m]? = some u0:=by
      have hz:(jl (b.take 508) m).cells.toArray.size=163:=by rw[b'];exact aK.len (Mh _ hl5 m hm)
      exact⟨_,uZ (by omega)⟩
     have hcG:=I.out.2.2.2.1.ag (99+m) hu0;have hfG:=I.out.2.2.2.1.frozen (99+m);have hset:=(I.out.2.2.2.1).br (99+m) (aj c);rw[UG _ hl5 m hlt c Er.out]at hset;have aiX:=ae hset;clear hc eA hset hu0;go_wp2_with fail;have hgw:=I.out.2.2.2.2;exact⟨⟨m+1,by omega,by go_num,I.out.1.setCell (p:=⟨G,99+m,none⟩) (by show w.heap.size≤G;omega) _,I.out.2.1.far (p:=⟨G,99+m,none⟩) (by show w.heap.size≠G;omega) _,I.out.2.2.1.far (p:=⟨G,99+m,none⟩) (by show w.heap.size+1≠G;omega) _,aiX.out,hgw⟩,by simp[intOf];omega⟩
    ·obtain rfl:m=64:=by omega
     have hl5:(b.take 508).length=508:=by rw[bD,jM.out];rfl
     obtain⟨ro,Mi⟩:∃ro,ro=qQ (b.take 508):=⟨_,rfl⟩;have k5:ah wr G 62 ro.cells.toArray:=by rw[Mi,←Hj _ hl5];exact I.out.2.2.2.1
     have hro:ro.ok:=by rw[Mi,←Hj _ hl5];exact Mh _ hl5 64 (by omega)
     have hrr:iM ro:=by rw[Mi];exact uE (b.take 508)
     have hrv:∀x∈ro.slots,ix x.v:=by rw[Mi];exact QR (b.take 508)
     have hiff:=Xt (b.take 508) hl5 n (fun i hi=>cx.1 vX.out i (ng.2 hi));rw[←Mi]at hiff;have FX:=Nu b (dL ro) jM.out hsl (my ro hro);obtain⟨cs,Ow⟩:∃cs,cs=ro.cells.toArray:=⟨_,rfl⟩;have hcs:(Tryz.prog.info? 62).map (·.size)=some cs.size:=by rw[Ow,b',aK.len hro];kernel_rfl
     have hcz:cP.cells.toArray.size=cs.size:=by rw[Ow,b',b',aK.len hro];rfl
     have hc1:cs.all (·.oneCell')=true:=by rw[Ow];simp only[List.all_toArray];exact cx.2 fun v hv=>ru _ v hv
     obtain⟨B,no,eB,hput⟩:∃ (B:List UInt8) (no:Int),(B.length=512∧(no=if fH ro n=true then 0 else 2)∧(fH ro n=true→B=bM (dL ro)))∧∀W,Calls Tryz.prog 96 #[.agg ro.cells.toArray,.int .i64 n] W fun e w'=>e=.returned (.tuple #[.agg (B.map aj).toArray,.int .i64 no])∧Below W.heap.size W w':=by
      cases hy:fH ro n
      ·exact⟨az,2,⟨et,rfl,fun h=>by cases h⟩,fun W=>Xw ro hro hrr n W hy⟩
      ·exact⟨bM (dL ro),0,⟨eJ _ (by rw[my ro hro];omega),rfl,fun _=>rfl⟩,fun W=>G7 ro hro hrr hrv n W hy⟩
     have k0:=I.out.2.1;have k1:=I.out.2.2.1;have hbw:=I.out.1;have hG:=I.out.2.2.2.2;rw[←Ow]at hput k5;have LB:=ae hput;have iy:=aO B eB.1;have hB1:=bq B;have hbs:=aO b jM.out;have hz5:(Tryz.zeroCells111:Array Value).size=(B.map aj).toArray.size:=by rw[bE,b',b',cR,cR,eB.1];rfl
     have heq:=fun W=>pI 9998 B b eB.1 jM.out W
     have aiY:=ae Ow;have aiZ:=ae Mi;have HL5:=ae hl5;have adf:=ae hiff;have s_:=ae FX;have Fw:=ae eB;clear hput Ow Mi hl5 hiff FX eB heq I Od vX;go_wp2_with (refine bt rfl 62 _ rfl G rfl 62 cs (0,0) _ k5 dH rfl hcs ?_)
     refine(LB.out wr).mono ?_;rintro e w2 ⟨rfl,hb2⟩;have r5:=(k5.below hb2 k5.lt).alloc (.cells (B.map aj).toArray 111);have r0:=(k0.below hb2 k0.lt).alloc (.cells (B.map aj).toArray 111);have r1:=(k1.below hb2 k1.lt).alloc (.cells (B.map aj).toArray 111);have rB:=(hbw.trans (hb2.mono hbw.size)).alloc (hbw.trans (hb2.mono hbw.size)).size (.cells (B.map aj).toArray 111);have rA:ah (w2.alloc (.cells (B.map aj).toArray 111)) w2.heap.size 111 (B.map aj).toArray:=ah.new w2 _ _;go_upto_region 19 with (refine aQ rfl 111 _ _ rfl w2.heap.size (B.map aj).toArray rfl rfl 111 _ (bC w2 _) iy hz5 hB1 ?_;rw[di])
     obtain⟨W3,mP⟩:∃W,W=w2.alloc (.cells (B.map aj).toArray 111):=⟨_,rfl⟩;rw[←mP]at r5 r0 r1 rB rA ⊢;clear mP;have hfin:=aA rB cs (g:=w.heap.size+1) (by omega);have Zj:=aA rB cP.cells.toArray (g:=w.heap.size+1) (by omega);have adg:∀c,eO b n=c→(lh (b.take 508) n=true→c=0)∧(lh (b.take 508) n=false→c=151):=fun c h=>by
      unfold eO at h;rw[aG (by omega),aB hsl]at h;exact⟨fun hc=>by rw[aB hc]at h;exact h.symm,fun hc=>by rw[hc]at h;exact h.symm⟩
     have Mj:=ae adg;clear adg;by_cases hcode:lh (b.take 508) n=true
     ·obtain⟨hy,hp⟩:=adf.out.2 hcode;obtain rfl:no=0:=by rw[Fw.out.2.1,hy];rfl
      have hBb:(B == b)=true:=by rw[Fw.out.2.2 hy];simpa using s_.out.2 hp
      have heq:=fun W=>pI 9998 B b Fw.out.1 jM.out W
      simp only[hBb]at heq;have HE:=ae ((Mj.out _ rfl).1 hcode);have HO:=ae (show kE b n=ro by unfold kE;rw[aB HE.out,aiZ.out,UH _ HL5.out hcode]);have HQ:=ae heq;clear hcode hy hp hBb heq;go_wp2_with (first
       | (refine aS rfl 111 _ rfl w2.heap.size 0 rfl (B.map aj).toArray (lz Fw.out.1 rA) ?_)
       | (refine aS rfl 111 _ rfl w.heap.size 0 rfl (b.map aj).toArray (lz jM.out r0) ?_)
       | (refine oq rfl 111 111 _ _ rfl _ _ rfl rfl (by kernel_rfl) true (HQ.out _) ?_)
       | (refine bt rfl 62 _ rfl G rfl 62 cs (0,0) _ r5 dH rfl hcs ?_)
       | (refine aQ rfl 62 _ _ rfl (w.heap.size+1) cs rfl rfl 62 _ r1 hcs hcz hc1 ?_))
      exact bc (dm wV _ _ (w.heap.size+1) 62 cs (0,0) _ rfl (r1.row _) dH rfl hcs _ rfl) rfl ⟨by rw[HE.out,HO.out,←aiY.out];rfl,hfin⟩
     ·have Mk:lh (b.take 508) n=false:=by simpa using hcode
      have HE:=ae ((Mj.out _ rfl).2 Mk);cases hy:fH ro n
      ·obtain rfl:no=2:=by rw[Fw.out.2.1,hy];rfl
       clear hcode Mk hy;go_wp2_with (first
        | (refine aQ rfl 62 _ _ rfl (w.heap.size+1) cP.cells.toArray rfl rfl 62 _ r1 hzi rfl hz1 ?_))
       exact bc (dm wV _ _ (w.heap.size+1) 62 cP.cells.toArray (0,0) _ rfl (r1.row _) dH rfl hzi _ rfl) rfl ⟨by rw[HE.out,rz HE.out (by decide)];rfl,Zj⟩
      ·obtain rfl:no=0:=by rw[Fw.out.2.1,hy];rfl
       have hBb:(B == b)=false:=by
        rw[Fw.out.2.2 hy];cases hx:(bM (dL ro) == b)
        ·rfl
        ·exact absurd (adf.out.1 ⟨hy,s_.out.1 (by simpa using hx)⟩) hcode
       have heq:=fun W=>pI 9998 B b Fw.out.1 jM.out W
       simp only[hBb]at heq;have HQ:=ae heq;clear hcode Mk hy hBb heq;go_wp2_with (first
        | (refine aS rfl 111 _ rfl w2.heap.size 0 rfl (B.map aj).toArray (lz Fw.out.1 rA) ?_)
        | (refine aS rfl 111 _ rfl w.heap.size 0 rfl (b.map aj).toArray (lz jM.out r0) ?_)
        | (refine oq rfl 111 111 _ _ rfl _ _ rfl rfl (by kernel_rfl) false (HQ.out _) ?_)
        | (refine aQ rfl 62 _ _ rfl (w.heap.size+1) cP.cells.toArray rfl rfl 62 _ r1 hzi rfl hz1 ?_))
       exact bc (dm wV _ _ (w.heap.size+1) 62 cP.cells.toArray (0,0) _ rfl (r1.row _) dH rfl hzi _ rfl) rfl ⟨by rw[HE.out,rz HE.out (by decide)];rfl,Zj⟩
theorem UK (b:List UInt8) (hb:b.length=512) (n:Int) (w:World) :
 Calls Tryz.prog 64 #[aV b,.int .i64 n] w fun e w'=>e=.returned (.tuple #[.agg (kE b n).cells.toArray,.int .i64 (eO b n)])∧Below w.heap.size w w':=by
 by_cases hn:n<1∨64<n
 ·exact Xu b hb n w hn
 ·cases hs:cZ b
  ·exact Xv b hb n w hn hs
  ·exact UJ b hb n w hn hs
end Go.Proofs.YtdpniceapmikpaaGreat
