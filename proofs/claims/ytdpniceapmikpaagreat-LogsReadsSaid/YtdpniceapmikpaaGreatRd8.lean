/-
  The contract of codec.Get. (Written by
-/
import Derived.Test.YtdpniceapmikpaaGreatRd1
import Derived.Test.YtdpniceapmikpaaGreatRd7
import Derived.Deep.RegionHeld3
import Derived.Test.YtdpniceapmikpaaGreatRd3
import Derived.Test.YtdpniceapmikpaaGreatRd2
import Derived.Test.YtdpniceapmikpaaGreatRd5
import Derived.RecoverIn
import Derived.Test.YtdpniceapmikpaaGreatRd4
import Derived.Test.YtdpniceapmikpaaGreatRd6
set_option linter.unusedVariables false
set_option linter.unusedSimpArgs false
set_option maxRecDepth 100000
set_option maxHeartbeats 32000000
namespace Go.Proofs.YtdpniceapmikpaaGreat
open Go.RowKit
theorem rz {b:List UInt8} {n:Int} {c:Int} (h:eO b n=c) (hc:c≠0):kE b n=cP:=by
 unfold kE;rw[h,aG hc]
theorem get_none (tmps:Array Value) (w0 W:World) (c:Int) (b:List UInt8) (n:Int) (h:eO b n=c) (hc:c≠0) (h1:ah W (w0.heap.size+1) 62 cP.cells.toArray) (h2:ah W (w0.heap.size+2) 32 #[.int .i64 c]) (hb:Below w0.heap.size w0 W)
 (t4:tmps.getD 4 undef=.pointer (some ⟨w0.heap.size+1,0,none⟩)) (t5:tmps.getD 5 undef=.pointer (some ⟨w0.heap.size+2,0,none⟩)) :
 Leaves Tryz.prog Tryz.f71 tmps (fun e w'=>e=.returned (.tuple #[.agg (kE b n).cells.toArray,.int .i64 (eO b n)])∧Below w0.heap.size w0 w') [] .returning W:=by
 refine⟨_,dq Ja _ _ _ _ _ _ _ t4 h1 dH rfl (by rw[←dP];exact iA) _ _ t5 (gL _ _ _ _ h2),?_,hb⟩;rw[rz h hc,h]
theorem Wr (b:List UInt8) (hb:b.length=512) (n:Int) (w:World) (hn:n<1∨64<n) :
 Calls Tryz.prog 71 #[aV b,.int .i64 n] w fun e w'=>e=.returned (.tuple #[.agg (kE b n).cells.toArray,.int .i64 (eO b n)])∧Below w.heap.size w w':=by
 have N1:∀ (fn:Fn) (first cap:Array Value) (w:World),(Instr.makeFunc fn first cap).run Tryz.prog w=.ok (.func fn first cap) w:=fun _ _ _ _=>rfl
 obtain⟨W0,a_⟩:∃W,W=((w.alloc (.cells (b.map aj).toArray 111)).alloc (.cells Tryz.zeroCells62 62)).alloc (.cells #[.int .i64 0] 32):=⟨_,rfl⟩;have hw0:Below w.heap.size w W0:=by rw[a_];exact(((ax _ w).alloc (ai _) _).alloc (by simp) _).alloc (by simp;omega) _
 have k0:ah W0 w.heap.size 111 (b.map aj).toArray:=by rw[a_];exact((ah.new w _ _).alloc _).alloc _
 have k1:ah W0 (w.heap.size+1) 62 cP.cells.toArray:=by rw[a_,←dP];exact(ah.new2 w _ _ _).alloc _
 have k2:ah W0 (w.heap.size+2) 32 #[.int .i64 0]:=by rw[a_];exact ah.new' (by simp)
 have hs0:W0.heap.size=w.heap.size+3:=by rw[a_];simp
 have hzi:(Tryz.prog.info? 62).map (·.size)=some cP.cells.toArray.size:=by rw[←dP];exact iA
 have hz1:cP.cells.toArray.all (·.oneCell')=true:=by rw[←dP];exact pE
 have K0:=ae k0;have K1:=ae k1;have K2:=ae k2;have HW0:=ae hw0;have HB:=ae hb;unfold aV;clear k0 k1 k2 hw0 hb;have HE:=ae (show eO b n=2 by unfold eO;rw[aB hn]);have hs:n<1∨(¬n<1∧64<n):=by omega
 have ig:=K1;clear hn;rcases hs with h1 | ⟨h1,h2⟩
 all_goals
  go_enter_defers JH,Jo
  go_upto_region 1 with fail;rw[←a_];clear a_;have hRR:=(K1.out.row cP.cells.toArray);have c5:=(K2.out.gu (g':=w.heap.size+1) cP.cells.toArray (by omega)).ag 0 rfl;have f5:=(K2.out.gu (g':=w.heap.size+1) cP.cells.toArray (by omega)).frozen 0;go_wp2_with (first
  | (refine bt rfl 62 _ rfl (w.heap.size+1) rfl 62 cP.cells.toArray (0,0) _ ig.out dH rfl hzi ?_)
  | (refine aQ rfl 62 _ _ rfl (w.heap.size+1) cP.cells.toArray rfl rfl 62 _ ig.out hzi rfl hz1 ?_))
  refine get_none _ w _ 2 b n HE.out (by decide) (hRR.far (by simp) _) ((K2.out.gu (g':=w.heap.size+1) cP.cells.toArray (by omega)).br 0 _) ?_ rfl rfl;exact(aA HW0.out _ (by omega)).setCell (by simp;omega) _
theorem Ws (b:List UInt8) (hb:b.length=512) (n:Int) (w:World) (hn:¬ (n<1∨64<n)) (hsl:cZ b=false) :
 Calls Tryz.prog 71 #[aV b,.int .i64 n] w fun e w'=>e=.returned (.tuple #[.agg (kE b n).cells.toArray,.int .i64 (eO b n)])∧Below w.heap.size w w':=by
 have N1:∀ (fn:Fn) (first cap:Array Value) (w:World),(Instr.makeFunc fn first cap).run Tryz.prog w=.ok (.func fn first cap) w:=fun _ _ _ _=>rfl
 obtain⟨W0,a_⟩:∃W,W=((w.alloc (.cells (b.map aj).toArray 111)).alloc (.cells Tryz.zeroCells62 62)).alloc (.cells #[.int .i64 0] 32):=⟨_,rfl⟩;have hw0:Below w.heap.size w W0:=by rw[a_];exact(((ax _ w).alloc (ai _) _).alloc (by simp) _).alloc (by simp;omega) _
 have k0:ah W0 w.heap.size 111 (b.map aj).toArray:=by rw[a_];exact((ah.new w _ _).alloc _).alloc _
 have k1:ah W0 (w.heap.size+1) 62 cP.cells.toArray:=by rw[a_,←dP];exact(ah.new2 w _ _ _).alloc _
 have k2:ah W0 (w.heap.size+2) 32 #[.int .i64 0]:=by rw[a_];exact ah.new' (by simp)
 have hs0:W0.heap.size=w.heap.size+3:=by rw[a_];simp
 have hzi:(Tryz.prog.info? 62).map (·.size)=some cP.cells.toArray.size:=by rw[←dP];exact iA
 have hz1:cP.cells.toArray.all (·.oneCell')=true:=by rw[←dP];exact pE
 have K0:=ae k0;have K1:=ae k1;have K2:=ae k2;have HW0:=ae hw0;have HB:=ae hb;unfold aV;clear k0 k1 k2 hw0 hb;have HE:=ae (show eO b n=150 by unfold eO;rw[aG hn,hsl];rfl);have h1:¬n<1:=by omega
 have h2:¬64<n:=by omega
 clear hn;have jM:=ae (show BytesIn W0 W0.heap.size (.slice (some ⟨w.heap.size,0,none⟩) 512 512) b by
  have:=fq K0.out 512 (by rw[HB.out];exact ai _) (by rw[HB.out];decide);rwa [dg (by rw[HB.out];exact ai _),HB.out]at this)
 have HSL:=ae hsl;clear hsl;go_enter_defers JH,Jo
 go_upto_region 1 with fail;rw[←a_];clear a_;go_wp2_with fail;refine(xV _ b _ jM.out (by rw[HB.out];decide)).mono ?_;rintro e w4 ⟨u,rfl,hu,hb4⟩;unfold jX at hu;rw[HSL.out]at hu ⊢;obtain rfl:u=.slice none 0 0:=hu;have ig:=ae (K1.out.below hb4 (by omega));have ij:=ae (K2.out.below hb4 (by omega));have HW4:=ae (HW0.out.trans (hb4.mono (by omega)));have c5:=(ij.out.gu (g':=w.heap.size+1) cP.cells.toArray (by omega)).ag 0 rfl;have f5:=(ij.out.gu (g':=w.heap.size+1) cP.cells.toArray (by omega)).frozen 0;clear hb4;go_wp2_with (first
  | (refine bt rfl 62 _ rfl (w.heap.size+1) rfl 62 cP.cells.toArray (0,0) _ ig.out dH rfl hzi ?_)
  | (refine aQ rfl 62 _ _ rfl (w.heap.size+1) cP.cells.toArray rfl rfl 62 _ ig.out hzi rfl hz1 ?_))
 refine get_none _ w _ 150 b n HE.out (by decide) ((ig.out.row cP.cells.toArray).far (by simp) _) ((ij.out.gu (g':=w.heap.size+1) cP.cells.toArray (by omega)).br 0 _) ?_ rfl rfl;exact(aA HW4.out _ (by omega)).setCell (by simp;omega) _
theorem A4 (tmps:Array Value) (w0 W:World) (b:List UInt8) (n:Int) (h:eO b n=151) (o:aK) (ho:o.ok) (h1:ah W (w0.heap.size+1) 62 o.cells.toArray) (h2:ah W (w0.heap.size+2) 32 #[.int .i64 0]) (hb:Below w0.heap.size w0 W)
 (t4:tmps.getD 4 undef=.pointer (some ⟨w0.heap.size+1,0,none⟩)) (t5:tmps.getD 5 undef=.pointer (some ⟨w0.heap.size+2,0,none⟩)) :
 Leaves Tryz.prog Tryz.f71 tmps (fun e w'=>e=.returned (.tuple #[.agg (kE b n).cells.toArray,.int .i64 (eO b n)])∧Below w0.heap.size w0 w')
  [{target:=.fn (.func 120) #[],args:=#[ptr (w0.heap.size+2)]}, {target:=.fn (.func 119) #[ptr (w0.heap.size+2),ptr (w0.heap.size+1)],args:=#[]}] (.panicking xz) W:=by
 refine qi (f:=120) (args:=#[ptr (w0.heap.size+2)]) (by simp) (by simp[go_sem]) ?_;refine(C9 (w0.heap.size+2) _ 0 W h2).mono ?_;rintro e u' w'' ⟨rfl,rfl,rfl⟩;refine qi (f:=119) (args:=#[ptr (w0.heap.size+2),ptr (w0.heap.size+1)]) (by simp[settle]) (by simp[go_sem]) ?_;have k2:ah ((W.setCell ⟨w0.heap.size+2,0,none⟩ (.int .i64 151)).alloc (.cells #[] 260)) (w0.heap.size+2) 32 #[.int .i64 151]:=(h2.br 0 _).alloc _;have k1:ah ((W.setCell ⟨w0.heap.size+2,0,none⟩ (.int .i64 151)).alloc (.cells #[] 260)) (w0.heap.size+1) 62 o.cells.toArray:=(h1.far (by simp) _).alloc _;have k3:Below w0.heap.size w0 ((W.setCell ⟨w0.heap.size+2,0,none⟩ (.int .i64 151)).alloc (.cells #[] 260)):=(hb.setCell (by simp<;>omega) _).alloc (by have:=hb.size;simpa using this) _;refine(Tg _ _ _ _ 151 (by decide) o ho _ _ k2 k1).mono ?_;rintro e u' w'' ⟨rfl,rfl,rfl⟩;refine⟨_,dq Ja _ _ _ _ _ _ _ t4 (k1.row _) dH rfl (by rw[←dP];exact iA) _ _ t5 (gL _ _ _ _ (k2.gu _ (by omega))),?_,aA k3 _ (by omega)⟩;rw[rz h (by decide),h]
theorem Wt (tmps:Array Value) (w0 W:World) (b:List UInt8) (n:Int) (h:eO b n=0) (hl:(b.take 508).length=508) (h1:ah W (w0.heap.size+1) 62 (ff (b.take 508)).cells.toArray) (h2:ah W (w0.heap.size+2) 32 #[.int .i64 0]) (hb:Below w0.heap.size w0 W)
 (t4:tmps.getD 4 undef=.pointer (some ⟨w0.heap.size+1,0,none⟩)) (t5:tmps.getD 5 undef=.pointer (some ⟨w0.heap.size+2,0,none⟩)) :
 Leaves Tryz.prog Tryz.f71 tmps (fun e w'=>e=.returned (.tuple #[.agg (kE b n).cells.toArray,.int .i64 (eO b n)])∧Below w0.heap.size w0 w')
  [{target:=.fn (.func 120) #[],args:=#[ptr (w0.heap.size+2)]}, {target:=.fn (.func 119) #[ptr (w0.heap.size+2),ptr (w0.heap.size+1)],args:=#[]}] .returning W:=by
 refine qi (f:=120) (args:=#[ptr (w0.heap.size+2)]) (by simp) (by simp[go_sem]) ?_;refine(M5 ⟨w0.heap.size+2,0,none⟩ W).mono ?_;rintro e u' w'' ⟨rfl,rfl,rfl⟩;refine qi (f:=119) (args:=#[ptr (w0.heap.size+2),ptr (w0.heap.size+1)]) (by simp[settle]) (by simp[go_sem]) ?_;refine(Wj _ _ _ _ _ h2).mono ?_;rintro e u' w'' ⟨rfl,rfl,rfl⟩;refine⟨_,dq Ja _ _ _ _ _ _ _ t4 h1 dH rfl (by rw[b',aK.len (mC _ hl)];exact iA) _ _ t5 (gL _ _ _ _ h2),?_,hb⟩;unfold kE;rw[h,aB rfl]
theorem Tp (b:List UInt8) (hb:b.length=512) (n:Int) (w:World) (hn:¬ (n<1∨64<n)) (hsl:cZ b=true) :
 Calls Tryz.prog 71 #[aV b,.int .i64 n] w fun e w'=>e=.returned (.tuple #[.agg (kE b n).cells.toArray,.int .i64 (eO b n)])∧Below w.heap.size w w':=by
 have N1:∀ (fn:Fn) (first cap:Array Value) (w:World),(Instr.makeFunc fn first cap).run Tryz.prog w=.ok (.func fn first cap) w:=fun _ _ _ _=>rfl
 obtain⟨W0,a_⟩:∃W,W=((w.alloc (.cells (b.map aj).toArray 111)).alloc (.cells Tryz.zeroCells62 62)).alloc (.cells #[.int .i64 0] 32):=⟨_,rfl⟩;have hw0:Below w.heap.size w W0:=by rw[a_];exact(((ax _ w).alloc (ai _) _).alloc (by simp) _).alloc (by simp;omega) _
 have k0:ah W0 w.heap.size 111 (b.map aj).toArray:=by rw[a_];exact((ah.new w _ _).alloc _).alloc _
 have k1:ah W0 (w.heap.size+1) 62 cP.cells.toArray:=by rw[a_,←dP];exact(ah.new2 w _ _ _).alloc _
 have k2:ah W0 (w.heap.size+2) 32 #[.int .i64 0]:=by rw[a_];exact ah.new' (by simp)
 have hs0:W0.heap.size=w.heap.size+3:=by rw[a_];simp
 have hzi:(Tryz.prog.info? 62).map (·.size)=some cP.cells.toArray.size:=by rw[←dP];exact iA
 have hz1:cP.cells.toArray.all (·.oneCell')=true:=by rw[←dP];exact pE
 have K0:=ae k0;have K1:=ae k1;have K2:=ae k2;have HW0:=ae hw0;have HB:=ae hb;unfold aV;clear k0 k1 k2 hw0 hb;have HE:=ae (show eO b n=if lh (b.take 508) n then 0 else 151 by unfold eO;rw[aG hn,hsl];rfl);have h1:¬n<1:=by omega
 have h2:¬64<n:=by omega
 clear hn;have jM:=ae (show BytesIn W0 W0.heap.size (.slice (some ⟨w.heap.size,0,none⟩) 512 512) b by
  have:=fq K0.out 512 (by rw[HB.out];exact ai _) (by rw[HB.out];decide);rwa [dg (by rw[HB.out];exact ai _),HB.out]at this)
 have HSL:=ae hsl;clear hsl;go_enter_defers JH,Jo
 go_upto_region 1 with fail;rw[←a_];clear a_;go_wp2_with fail;refine(xV _ b _ jM.out (by rw[HB.out];decide)).mono ?_;rintro e w4 ⟨u,rfl,hu,hb4⟩;unfold jX at hu;rw[HSL.out]at hu ⊢;rw[aB rfl,HB.out,show 512-4=508 from rfl]at hu;have hl:(b.take 508).length=508:=by rw[bD,HB.out];rfl
 obtain⟨l,el⟩:∃l,l=b.take 508:=⟨_,rfl⟩;rw[←el]at hu hl HE;have ti:=ae el;obtain⟨g8,lX,rfl,hg8,hc8⟩:=lM hu (by omega);have I0:=ae (show il w w4.heap.size w4.heap.size (w4.alloc (.cells #[.slice (some ⟨g8,0,none⟩) 508 lX] 217)) (.slice (some ⟨g8,0,none⟩) 508 lX) l cP by
  have hba:Below w4.heap.size w4 (w4.alloc (.cells #[.slice (some ⟨g8,0,none⟩) 508 lX] 217)):=(ax _ w4).alloc (ai _) _;have hsz:=hb4.size;exact⟨(K1.out.below hb4 (by omega)).alloc _,(K2.out.below hb4 (by omega)).alloc _,ah.new w4 _ _,(BytesIn.own hu).below hba (ai _),(HW0.out.trans (hb4.mono (by omega))).trans (hba.mono (by omega)),by omega,ai _,fun g hg=>by
   have e:g8=g:=by simpa[iQ]using hg
   omega⟩)
 clear hb4 hu el K0 K1 K2 jM HSL hg8 hc8 hzi hz1 HW0;obtain⟨W5,N5⟩:∃W,W=w4.alloc (.cells #[.slice (some ⟨g8,0,none⟩) 508 lX] 217):=⟨_,rfl⟩;obtain⟨B,eB⟩:∃g,g=w4.heap.size:=⟨_,rfl⟩;have I1:=ae (show il w w4.heap.size B W5 (.slice (some ⟨g8,0,none⟩) 508 lX) (l.drop 0) cP by rw[eB,N5];exact I0.out);obtain⟨G,eG⟩:∃g,g=w4.heap.size:=⟨_,rfl⟩;have hl4:4≤l.length∧8≤l.length∧12≤l.length:=by omega
 have HL:=ae hl;go_upto_region 9 with fail;rw[←N5];rw[←eG]at I1 ⊢;clear N5 eG eB I0;go_wp2_with fail;refine(I1.out.number 0 4 (by omega) (by omega)).mono ?_;rintro e W6 ⟨rfl,v6,hI⟩;obtain⟨q6,Yt⟩:∃q,q=aW ((l.drop 0).take 4):=⟨_,rfl⟩;have aii:=nR q6 4 (by rw[Yt];exact iX _ _) (by omega);have c0:=(b9 hI.obj rfl 0).trans rfl;have f0:=hI.obj.frozen 0;have I2:=ae (hI.br (bk rfl) (by have h:=hI.obj.br 0 (.int .i64 (q6:Int));rwa [Wk]at h));have Q6:=ae Yt;rw[←Yt];clear hI Yt I1;go_wp2_with fail;clear c0 f0 aii;refine(I2.out.number 4 4 (by omega) (by omega)).mono ?_;rintro e W7 ⟨rfl,v7,hI⟩;obtain⟨q7,Yu⟩:∃q,q=aW ((l.drop 4).take 4):=⟨_,rfl⟩;have aij:=nR q7 4 (by rw[Yu];exact iX _ _) (by omega);have c1:=(b9 hI.obj rfl 1).trans rfl;have f1:=hI.obj.frozen 1;have I3:=ae (hI.br (bk rfl) (by have h:=hI.obj.br 1 (.int .i64 (q7:Int));rwa [Wm]at h));have Q7:=ae Yu;rw[←Yu];clear hI Yu I2;go_wp2_with fail;clear c1 f1 aij;refine(I3.out.number 8 4 (by omega) (by omega)).mono ?_;rintro e W8 ⟨rfl,v8,hI⟩;obtain⟨q8,Le⟩:∃q,q=aW ((l.drop 8).take 4):=⟨_,rfl⟩;have amT:=nR q8 4 (by rw[Le];exact iX _ _) (by omega);have c2:=(b9 hI.obj rfl 2).trans rfl;have f2:=hI.obj.frozen 2;have I4:=ae (hI.br (bk rfl) (by have h:=hI.obj.br 2 (.int .i64 (q8:Int));rwa [Wn]at h));have Q8:=ae Le;rw[←Le];clear hI Le I3;have IZ:=ae (show il w G B (W8.setCell ⟨w.heap.size+1,2,none⟩ (.int .i64 (q8:Int))) v8 (l.drop 12) (ik l 0)by
  have h:=I4.out;rw[Q6.out,Q7.out,Q8.out]at h;unfold ik;rw[AV];rw[Q8.out];exact h)
 clear I4 Q6 Q7 Q8;go_wp2_with fail;go_loopw [38] (fun i wr=>∃ (j:Nat) (v':Value),j≤16∧i=.int .i64 (j:Int)∧((List.range j).all fun i=>sG (keyOf (l.drop (12+20*i))))=true∧il w G B wr v' (l.drop (12+20*j)) (ik l j)) (fun i _=>16-(intOf i).toNat)
 case atStart=>exact⟨0,v8,fi _,rfl,rfl,IZ.out⟩
 case round =>
  obtain⟨j,v1,hj,rfl,hall,hI⟩:=hrel;have I:=ae hI;have vX:=ae hall;clear hI hall IZ;by_cases hlt:j<16
  ·have hlen:20≤(l.drop (12+20*j)).length:=by rw[c_,HL.out];omega
   go_wp2_with fail;refine(Wi G B v1 (l.drop (12+20*j)) wr hlen I.out.box I.out.bytes I.out.bg).mono ?_;rintro e w2 ⟨ho2,hk⟩;cases hok:sG (keyOf (l.drop (12+20*j)))
   ·unfold sG at hok;rw[hok]at hk;obtain rfl:e=.panicked xz:=hk;have HC:=ae (show eO b n=151 by
     rw[HE.out,show lh l n=false by unfold lh;rw[nr (p:=fun i=>sG (keyOf (l.drop (12+20*i)))) hlt (by unfold sG;exact hok),wY]];rfl)
    have hb2:=ho2.below (B:=w.heap.size) (by have:=I.out.below.size;omega) (fun i hi e=>by have:=I.out.bg;have:=I.out.big;omega);have hbg:=I.out.bg;have hbig:=I.out.big;have J1:=ae (ho2.blk I.out.obj (by omega));have J2:=ae (ho2.blk I.out.err (by omega));have J3:=ae (I.out.below.trans hb2);clear hok ho2 hb2;go_wp2_with fail;exact A4 _ w _ b n HC.out _ (uv l j) J1.out J2.out J3.out rfl rfl
   ·have oI:=ae (show((List.range (j+1)).all fun i=>sG (keyOf (l.drop (12+20*i))))=true by rw[nc,zN,vX.out,List.all_cons,hok];rfl);unfold sG at hok;rw[hok]at hk;obtain⟨X,eX⟩:∃X,X=(keyOf (l.drop (12+20*j))).cells.toArray:=⟨_,rfl⟩;rw[←eX]at hk;obtain⟨rfl,v2,hb2,hv2,hq2⟩:=hk;have I2:=ae (show il w G B w2 v2 (l.drop (12+20*(j+1))) (ik l j)from I.out.take ho2 hb2 (by rw[og]at hv2;exact hv2) hq2);clear hok ho2 hb2 hv2 hq2 I;have vx:=ae (show(Tryz.prog.info? 58).map (·.size)=some X.size by rw[eX];kernel_rfl);have h1k:X.all (·.oneCell')=true:=by rw[eX,jf];rfl
    have N6:X.size=6:=by rw[eX];rfl
    have vL:(ik l j).cells.toArray.size=163:=by rw[b'];exact aK.len (uv l j)
    have A5:=ae (GX I2.out.obj (3+j*6) X.size (by rw[vL,N6];omega));have oZ:=ae eX;clear eX vL N6;go_wp2_with (refine wpList_store_mid rfl 58 _ _ rfl (w.heap.size+1) (3+j*6) X rfl rfl A5.out vx.out h1k ?_)
    exact⟨⟨j+1,v2,by omega,by go_num,oI.out,I2.out.br (ux (F:=fun i=>i=w.heap.size+1) _ rfl _ _ _) (Wo hlt oZ.out I2.out.obj)⟩,by simp[intOf];omega⟩
  ·obtain rfl:j=16:=by omega
   have I2:=ae (show il w G B wr v1 (l.drop 332) (ik l 16)from I.out);have HK:=ae (GV G B v1 (l.drop 332) 64 (by rw[c_,HL.out];decide) wr.drew I2.out.box.drew (I2.out.bytes.below (ax wr.heap.size wr).drew (by have:=I2.out.bg;have:=I2.out.box.lt;omega)) I2.out.bg);clear I;unfold ptr at HK;go_upto_region 17 with fail;refine pY ?_;refine bF (S:=(fun _=>True)) (by kernel_rfl) (by trivial) (fun hHeld=>?_);refine tk 0 ?_;refine tk 1 ?_;refine rd 2 fun K hK=>?_;go_simp;refine HK.out.mono ?_;rintro e w2 ⟨a2,cap2,rfl,hv2,⟨v2,hb2,hw2,hq2⟩,ho2⟩;have I2b:=ae (il.take (I2.out.far (ax _ wr).drew) ho2 hb2 hw2 hq2);have vu:=ae hv2;clear hv2 hb2 hw2 hq2 ho2;go_wp2_with fail;refine hK.out _ _ (by trivial) (fun hHeld=>?_);clear hK K;refine rd 3 fun K hK=>?_;rw[aB (by rfl)];obtain⟨w3,hr3,hb3,ho3⟩:=Ti HL.out I2b.out.obj vu.out 3;refine Lib.wp_copy_run _ (.tmp 47) (.tmp 48) 26 26 rfl _ _ rfl rfl hr3 ?_;have I3:=ae (I2b.out.br ho3 hb3);clear hr3 hb3 ho3 vu I2b;refine hK.out _ _ (by trivial) (fun hHeld=>?_);clear hK K;refine aT ?_;refine nz ?_;clear HK;have c8:=I3.out.box.ag 0 rfl;go_wp2_with fail;refine(Tf B v2 _ _ I3.out.bytes).mono ?_;rintro e w4b ⟨rfl,rfl⟩;have y_:=ae (show lh l n=(((l.drop 332).drop 64).all (· == 0)&&fH (ff l) n)by
    unfold lh;rw[vX.out,fx,og])
   obtain⟨q1,eq1⟩:∃q,q=((l.drop 332).drop 64).all (· == 0):=⟨_,rfl⟩;rw[←eq1]at y_ ⊢;clear eq1 vX;cases q1
   ·have HC:=ae (show eO b n=151 by rw[HE.out,y_.out,wY];rfl);go_wp2_with fail;refine(C8 _).mono ?_;rintro e w5 ⟨rfl,rfl⟩;go_wp2_with fail;exact A4 _ w _ b n HC.out _ (mC l HL.out) I3.out.obj I3.out.err I3.out.below rfl rfl
   ·obtain⟨X,eX⟩:∃X,X=(ff l).cells.toArray:=⟨_,rfl⟩;have HOC:=ae (fun W=>tw (ff l) (mC l HL.out) n W);have Tq:=ae (show ah _ _ _ X by rw[eX];exact I3.out.obj);have hxi:(Tryz.prog.info? 62).map (·.size)=some X.size:=by rw[eX,b',aK.len (mC l HL.out)];exact iA
    have hx1:X.all (·.oneCell')=true:=by rw[eX,jf];exact cx.2 (fun v hv=>ru _ v hv)
    rw[←eX]at HOC;have oZ:=ae eX;clear eX;have HLX:=ae (show(loadVar 62 ⟨w.heap.size+1,0,none⟩).run Tryz.prog w3=.ok (.agg X) w3 from tO _ _ _ _ _ _ _ Tq.out dH rfl hxi);go_wp2_with (refine aS rfl 62 _ rfl (w.heap.size+1) 0 rfl X HLX.out ?_)
    refine(HOC.out _).mono ?_;rintro e w5 ⟨rfl,hb5⟩;have I5:=ae (I3.out.far hb5);have AL:=ae (Tq.out.below hb5 Tq.out.lt);clear hb5;cases hq2:fH (ff l) n
    ·have HC:=ae (show eO b n=151 by rw[HE.out,y_.out,hq2,oO];rfl);clear hq2;go_wp2_with fail;refine(C8 _).mono ?_;rintro e w6 ⟨rfl,rfl⟩;go_wp2_with fail;exact A4 _ w _ b n HC.out _ (mC l HL.out) I5.out.obj I5.out.err I5.out.below rfl rfl
    ·have HC:=ae (show eO b n=0 by rw[HE.out,y_.out,hq2];rfl);clear hq2;go_wp2_with fail;refine(AS _).mono ?_;rintro e w6 ⟨rfl,rfl⟩;have c5:=(I5.out.err.gu (g':=w.heap.size+1) X (by omega)).ag 0 rfl;have f5:=(I5.out.err.gu (g':=w.heap.size+1) X (by omega)).frozen 0;go_wp2_with (first
      | (refine bt rfl 62 _ rfl (w.heap.size+1) rfl 62 X (0,0) _ AL.out dH rfl hxi ?_)
      | (refine aQ rfl 62 _ _ rfl (w.heap.size+1) X rfl rfl 62 _ AL.out hxi rfl hx1 ?_))
     refine Wt _ w _ b n HC.out (by rw[←ti.out];exact HL.out) ?_ ((I5.out.err.gu (g':=w.heap.size+1) X (by omega)).br 0 _) ?_ rfl rfl
     ·rw[←ti.out,←oZ.out];exact(AL.out.row X).far (by simp) _
     ·exact(aA I5.out.below _ (by omega)).setCell (by simp<;>omega) _
theorem Wu (b:List UInt8) (hb:b.length=512) (n:Int) (w:World) :
 Calls Tryz.prog 71 #[aV b,.int .i64 n] w fun e w'=>e=.returned (.tuple #[.agg (kE b n).cells.toArray,.int .i64 (eO b n)])∧Below w.heap.size w w':=by
 by_cases hn:n<1∨64<n
 ·exact Wr b hb n w hn
 ·cases hs:cZ b
  ·exact Ws b hb n w hn hs
  ·exact Tp b hb n w hn hs
theorem uy {P:Program} {ops:Array Oper} {S:World→Prop} {op:Oper} {a:Act} (hw:Region.wanted op (yielded ops a.tmps)=true) (t t':TypeId) (x y:Operand) (ho:op.op=.binOp .neq t x y t') (xs ys:Array Value)
 (hx:a.eval x=.agg xs) (hy:a.eval y=.agg ys) (hm:P.eqGuardType P.depth t=false) (b:Bool) (hS:∀w,S w→(Op.equalIn 10000 t (.agg xs) (.agg ys)).run P w=.ok b w):YieldsIf P ops S op (.bool (!b)) a :=
 .inl ⟨hw,fun w hw'=>by
  unfold execOp;simp only[ho,hx,hy,Sem.run_bind,run_eqGuard_agg _ _ _ _ _ _ _ hm,run_neq_struct,hS w hw',Sem.run_pure,Result.andThen_ok]⟩
def uz (l m:List Int):Bool:=l == m
def lZ:List aK→List aK→Bool
 | [],[]=>true
 | x::l,y::m=>BE x y&&lZ l m
 | _,_=>false
theorem tA:∀ (l m:List aK),lZ l m=true↔l=m
 | [],[]=>by simp[lZ]
 | x::l,y::m=>by simp[lZ,Af,tA l m]
 | [],_::_=>by simp[lZ]
 | _::_,[]=>by simp[lZ]
theorem aac {l m:List Int} {j:Nat} {x y:Int} (hx:l[j]? = some x) (hy:m[j]? = some y) (h:x≠y):l≠m:=by
 rintro rfl;rw[hx]at hy;exact h (gH hy)
theorem aad {l m:List aK} {j:Nat} {x y:aK} (hx:l[j]? = some x) (hy:m[j]? = some y) (h:BE x y=false):lZ l m=false:=by
 cases hh:lZ l m
 ·rfl
 ·have:=(tA l m).1 hh;subst this;rw[hx]at hy;have:=gH hy;subst this;rw[(Af x x).2 rfl]at h;cases h
theorem rC (l m:List UInt8) (u v:Value) (w:World) (hu:BytesIn w w.heap.size u l) (hv:BytesIn w w.heap.size v m):Calls Tryz.prog 45 #[u,v] w fun e w'=>e=.returned (.bool (l == m))∧Below w.heap.size w w':=by
 have h1:=fX w hu;have h2:=fX w hv;have e1:=kW l;have e2:=kW m;obtain⟨_,a1,c1,rfl,_,_⟩:=id hu;obtain⟨_,a2,c2,rfl,_,_⟩:=id hv;go_enter Tryz.func45,Tryz.ntmps45
 go_wp2_with fail;go_ret
 exact⟨by simp[*],ax _ _⟩
def yp (f g:bY):Bool:=(f.ed == g.ed)&&(uz f.bj g.bj&&(lZ f.objs g.objs&&(f.state == g.state)))
theorem vy (f g:bY):yp f g=true↔f=g:=by
 cases f;cases g
 simp[yp,uz,tA]
end Go.Proofs.YtdpniceapmikpaaGreat
namespace Go.Proofs.YtdpniceapmikpaaGreat
open Go.RowKit Go.Shelf
attribute [local go_sem] kM
def Tr {N:Nat} (x:Fin N×mY):Array Value:=#[.int .i64 (x.1.val:Int),.agg (x.2.1.map aj).toArray]
def iq (g m:Nat) (W:World):Prop:=∃st:List UInt8,st.length=m∧ah W g 5 (st.map aj).toArray
theorem iq.below {g m B:Nat} {W W':World} (h:iq g m W) (hb:Below B W W') (hg:g<B):iq g m W':=by
 obtain⟨st,h1,h2⟩:=h;exact⟨st,h1,h2.below hb hg⟩
theorem iq.own {g m:Nat} {W W':World} {row:Option Nat} (h:iq g m W) (hg:W.grownBy W' row) (hr:∀r,row=some r→g<r):iq g m W':=by
 obtain⟨st,h1,h2⟩:=h;exact⟨st,h1,(hg.block g h2.lt (fun e=>by have:=hr g e.symm;omega)).trans h2⟩
theorem iq.br {g m k:Nat} {W:World} (h:iq g m W) (hk:g≠k) (v:Value):iq g m (W.setCell ⟨k,0,none⟩ v):=by
 obtain⟨st,h1,h2⟩:=h;exact⟨st,h1,h2.far hk v⟩
structure j_ (T:Nat→TypeId→Prop) (C g m:Nat) (W W':World):Prop where
 k:bH T 0 C W W'
 p:iq g m W→iq g m W'
end Go.Proofs.YtdpniceapmikpaaGreat
namespace Go.Proofs.YtdpniceapmikpaaGreat
open Go.RowKit
attribute [local go_sem] kM
theorem H_ (n:Nat) (p:Addr) (w:World) :
 CallsDIn Fence.wide n Tryz.prog 68 #[.pointer (some p)] .returning w fun e u' w'=>e=.returned (.tuple #[])∧u'=.returning∧w'=w:=by
 refine callsDIn_of_wpSIn DR rfl trivial (fun c₀ cs hu=>?_);apply wpSIn_seq;apply wpSIn_region;simp[wpOpsSIn,go_sem,recoverD,hu,Tryz.ntmps68,Exit.thenS];refine wpSIn_of_wpIn rfl (fV.2 ?_);go_wp2_with fail;cases c₀
 simp_all [bodyPostS,results,Tryz.results68]
end Go.Proofs.YtdpniceapmikpaaGreat
namespace Go.Proofs.YtdpniceapmikpaaGreat
open Go.RowKit
def ak.plus (x:ak) (k:Nat):ak := {x with steps:=x.steps+k}
theorem mn (x:ak):x.plus 0=x:=by unfold ak.plus;simp
theorem dd (x:ak) (k:Nat):(x.plus k).stepped=x.plus (k+1):=by unfold ak.plus ak.stepped;simp;omega
theorem EY (x:ak) (k:Nat) (n:Int):(x.plus k).reads n=x.reads n:=rfl
def aP (x:ak) (N area:Int):List UInt8:=x.reads (aJ N 2 area 0).1
def rD (x:ak) (N area:Int) (i:Nat):List UInt8:=x.reads (aJ N 4 area i).1
def fZ (x:ak) (N area:Int) (i:Nat):List UInt8:=x.reads (aJ N 3 area i).1
def byteOf (x:ak) (N area:Int) (p:Nat):UInt8:=(fZ x N area (p/512))[p % 512]?.getD 0
def gU (x:ak) (N area:Int) (nb:Nat):List UInt8:=(List.range nb).map (byteOf x N area)
def dC (x:ak) (N area:Int) (nb:Nat) (l:List Nat):List UInt8:=(List.range nb).map fun p=>if l.contains (p/512) then byteOf x N area p else 0
def fD (x:ak) (N area:Int):bY :=
 ⟨aC (aP x N area) 4 8,(List.range (aC (aP x N area) 12 2)).map fun i=>(aC (aP x N area) (20+6*i) 2:Int),(List.range (aC (aP x N area) 12 2)).map fun i=>ff ((rD x N area i).take 508),gU x N area (aC (aP x N area) 14 2)⟩
structure Lf (x:ak) (N area:Int):Prop where
 ask:da N x.size area=true
 okk:∀k:Nat,k≤80→(x.plus k).ok
 e2:x.err (aJ N 2 area 0).1=0
 e4:∀i k:Nat,i<aC (aP x N area) 12 2→k≤80→(x.plus k).err (aJ N 4 area i).1=0
 e3:∀i k:Nat,i<aD (aC (aP x N area) 14 2)→k≤80→(x.plus k).err (aJ N 3 area i).1=0
 head:bI N (aP x N area)=true
 objs:∀i,i<aC (aP x N area) 12 2→eO (rD x N area i) N=0∧(dJ ((rD x N area i).take 508)).toNat=aC (aP x N area) (22+6*i) 4
 parts:∀i,i<aD (aC (aP x N area) 14 2)→((fZ x N area i).drop (aC (aP x N area) 14 2-512*i)).all (· == 0)=true
 sum:(dJ (fD x N area).state).toNat=aC (aP x N area) 16 4
theorem yq {P:Program} {id:Nat} {ops:Array Oper} {b:Bool} {Q:Exit→Act→World→Prop} {a:Act} {w:World} {ι:Type} (A:ι→Act) (I:ι→World→Prop)
 (h:(Code.region id ops b).wp P (fun e a' w'=>match e with | .normal=>∃i,a'=A i∧I i w' | _=>False) a w) (hk:∀i w',I i w'→Q .normal (A i) w'):(Code.region id ops b).wp P Q a w :=
 Code.wp_mono (fun e a' w' h=>by
  cases e with
  | normal=>obtain⟨i,rfl,hi⟩:=h;exact hk i w' hi
  | _=>exact h.elim) h
abbrev aF:Array Value:=#[.int .i64 0,.slice none 0 0,.slice none 0 0,.slice none 0 0]
theorem vY:∃i z,Tryz.prog.info? 62=some i∧i.zero=some z∧i.size=163∧i.bytes=856∧z.cells.size=163:=by
 have h:(Tryz.prog.info? 62).map (fun i=>(i.zero.map (·.cells.size),i.size,i.bytes))=some (some 163,163,856):=by kernel_rfl
 obtain⟨i,hi,he⟩:=iE.1 h;injection he with h1 h2
 injection h2 with h2 h3
 obtain⟨z,hz,h4⟩:=iE.1 h1;exact⟨i,z,hi,hz,h2,h3,h4⟩
theorem N7 (c:Array Value) (hc:c.size=163) (i:TypeInfo) (z:Value) (h1:i.size=163) (h3:z.cells.size=163) :
 Instr.fill (fun k=>some (k*i.size,i.size)) ((Array.range (1*i.size)).map (z.cells[· % z.cells.size]!)) [(0,.agg c)]=some c:=by
 rw[h1,jK (off:=0) (size:=163) (by simp) (by simpa[Value.cells]using hc) (by simp)];rw[Instr.fill,jD (by simp),Jb,nx,ny];rfl
structure mD (D:aX) (w:World) (N area:Int) (gs:Nat) (W:World) (y:ak) (S:Array Value):Prop where
 disk:aE W D y
 step:DStep D D w W
 b0:ah W w.heap.size 37 #[ptr D.p]
 b1:ah W (w.heap.size+1) 23 #[.int .i64 N]
 b2:ah W (w.heap.size+2) 3 #[.int .i64 area]
 b3:ah W (w.heap.size+3) 28 aF
 b4:ah W (w.heap.size+4) 32 #[.int .i64 0]
 said:ah W gs 142 S
 lo:w.heap.size+5≤gs
section
variable {D:aX} {w W W':World} {N area:Int} {gs:Nat} {y y':ak} {S:Array Value}
theorem mD.out (h:mD D w N area gs W y S) (hD:∀i,D.has i→i<w.heap.size) {F:Nat→Prop} (ho:Out F W W') (hF:∀i,F i→i<W.heap.size→w.heap.size+5≤i∧i≠gs):mD D w N area gs W' y S:=by
 have h1:=h.said.lt;have h2:=h.lo;have hn:∀i,i<w.heap.size+5→¬ (F i∧i<W.heap.size):=fun i hi hf=>by have:=hF i hf.1 hf.2;omega
 have hb:∀i,i<w.heap.size+5→W'.heap[i]? = W.heap[i]? :=fun i hi=>ho.block i (by omega) (fun hf=>hn i hi ⟨hf,by omega⟩)
 have ho2:Out (fun i=>F i∧i<W.heap.size) W W':=⟨ho.os,ho.tape,ho.output,ho.size,fun i hi hf=>ho.block i hi (fun hf'=>hf ⟨hf',hi⟩)⟩;refine⟨h.disk.out ho2 (fun i hi hf=>hn i (by have:=hD i hi;omega) hf),⟨h.step.out.trans ho2 (fun i hi hg=>(hn i (by omega) hg).elim),rfl,fun i hi=>.inl hi⟩,(hb _ (by omega)).trans h.b0,(hb _ (by omega)).trans h.b1,(hb _ (by omega)).trans h.b2,(hb _ (by omega)).trans h.b3,(hb _ (by omega)).trans h.b4,ho.blk h.said (fun hf=>(hF gs hf h1).2 rfl),h2⟩
theorem mD.below (h:mD D w N area gs W y S) (hD:∀i,D.has i→i<w.heap.size) (hb:Below W.heap.size W W'):mD D w N area gs W' y S:=h.out hD (F:=fun _=>False) (aN hb) (fun _ hf=>hf.elim)
theorem mD.read (h:mD D w N area gs W y S) (hD:∀i,D.has i→i<w.heap.size) (hd:aE W' D y') (hs:DStep D D W W'):mD D w N area gs W' y' S:=by
 have hn:∀i,w.heap.size≤i→¬D.has i:=fun i hi hd=>by have:=hD i hd;omega
 have h2:=h.lo;exact⟨hd,h.step.trans hs,hs.out.blk h.b0 (hn _ (by omega)),hs.out.blk h.b1 (hn _ (by omega)),hs.out.blk h.b2 (hn _ (by omega)),hs.out.blk h.b3 (hn _ (by omega)),hs.out.blk h.b4 (hn _ (by omega)),hs.out.blk h.said (hn _ (by omega)),h2⟩
theorem mD.br (h:mD D w N area gs W y S) (hD:∀i,D.has i→i<w.heap.size) (j:Nat) (u:Value):mD D w N area gs (W.setCell ⟨gs,j,none⟩ u) y (S.setIfInBounds j u):=by
 have hb:∀i,i≠gs→(W.setCell ⟨gs,j,none⟩ u).heap[i]? = W.heap[i]? :=fun i hi=>gE W _ _ _ hi
 have h2:=h.lo;have ho:Out (fun i=>i=gs) W (W.setCell ⟨gs,j,none⟩ u):=bk rfl;refine⟨h.disk.out ho (fun i hi e=>by have:=hD i hi;omega),⟨h.step.out.trans ho (fun i hi e=>by omega),rfl,fun i hi=>.inl hi⟩,(hb _ (by omega)).trans h.b0,(hb _ (by omega)).trans h.b1,(hb _ (by omega)).trans h.b2,(hb _ (by omega)).trans h.b3,(hb _ (by omega)).trans h.b4,h.said.br j u,h2⟩
end
def mE (x:ak) (N area:Int) (j:Nat):List Value:=(List.range j).flatMap fun i=>(ff ((rD x N area i).take 508)).cells
theorem EZ (x:ak) (N area:Int) (j:Nat):mE x N area (j+1)=mE x N area j++(ff ((rD x N area j).take 508)).cells:=by
 unfold mE;rw[nc,tK];simp
structure dF (D:aX) (w:World) (N area:Int) (x:ak) (gs m1 ck:Nat) (W:World) (y:ak) (vo vb vm:Value) (j:Nat) (st:List UInt8) (S:Array Value):Prop where
 inv:mD D w N area gs W y S
 bj:W.ownsRow m1 3 1 vo (aC (aP x N area) 12 2) (lQ (aP x N area) (aC (aP x N area) 12 2))
 sums:W.ownsRow m1 2 1 vm (aC (aP x N area) 12 2) (yj (aP x N area) (aC (aP x N area) 12 2))
 objs:W.ownsRow m1 62 163 vb j (mE x N area j)
 page:ah W ck 5 (st.map aj).toArray
 lo:w.heap.size+5≤m1∧m1≤ck∧m1≤gs
section
variable {D:aX} {w W W':World} {N area:Int} {x:ak} {gs m1 ck:Nat} {y y':ak} {S:Array Value} {vo vb vm:Value} {j j':Nat} {st st':List UInt8}
theorem dF.ne (h:dF D w N area x gs m1 ck W y vo vb vm j st S):ck≠gs:=by
 intro e;have h1:=h.page;rw[e]at h1;have h2:=h.inv.said;unfold ah at h1 h2;rw[h1]at h2;injection h2 with h3
 injection h3 with _ h4
 exact absurd h4 (by decide)
theorem dF.below (h:dF D w N area x gs m1 ck W y vo vb vm j st S) (hD:∀i,D.has i→i<w.heap.size) (hb:Below W.heap.size W W'):dF D w N area x gs m1 ck W' y vo vb vm j st S :=
 ⟨h.inv.below hD hb,aq (F:=fun _=>False) (aN hb) h.bj (fun _ _=>id),aq (F:=fun _=>False) (aN hb) h.sums (fun _ _=>id),aq (F:=fun _=>False) (aN hb) h.objs (fun _ _=>id),h.page.below hb h.page.lt,h.lo⟩
theorem dF.read (h:dF D w N area x gs m1 ck W y vo vb vm j st S) (hD:∀i,D.has i→i<w.heap.size) (hd:aE W' D y') (hs:DStep D D W W'):dF D w N area x gs m1 ck W' y' vo vb vm j st S:=by
 have hn:∀i,m1≤i→¬D.has i:=fun i hi hd=>by have:=hD i hd;have:=h.lo;omega
 exact⟨h.inv.read hD hd hs,aq hs.out h.bj (fun g hg=>hn g (h.bj.lt g hg).1),aq hs.out h.sums (fun g hg=>hn g (h.sums.lt g hg).1),aq hs.out h.objs (fun g hg=>hn g (h.objs.lt g hg).1),hs.out.blk h.page (hn _ h.lo.2.1),h.lo⟩
theorem dF.br (h:dF D w N area x gs m1 ck W y vo vb vm j st S) (hD:∀i,D.has i→i<w.heap.size) (i:Nat) (u:Value):dF D w N area x gs m1 ck (W.setCell ⟨gs,i,none⟩ u) y vo vb vm j st (S.setIfInBounds i u) :=
 have ho:Out (fun k=>k=gs) W (W.setCell ⟨gs,i,none⟩ u):=bk rfl
 ⟨h.inv.br hD i u,aq ho h.bj (aR h.bj h.inv.said (by decide)),aq ho h.sums (aR h.sums h.inv.said (by decide)),aq ho h.objs (aR h.objs h.inv.said (by decide)),ho.blk h.page h.ne,h.lo⟩
theorem dF.obj (h:dF D w N area x gs m1 ck W y vo vb vm j st S) (hD:∀i,D.has i→i<w.heap.size) (hg:W.grownBy W' vb.ownBlock) {vb':Value} (ho:W'.ownsRow m1 62 163 vb' j' (mE x N area j')):dF D w N area x gs m1 ck W' y vo vb' vm j' st S:=by
 have h1:=jN hg;have hl:=h.lo;exact⟨h.inv.out hD h1 (fun i hi _=>⟨by have:=(h.objs.lt i hi).1;omega,aR h.objs h.inv.said (by decide) i hi⟩),aq h1 h.bj (fun i hi hi'=>tI h.objs h.bj (by decide) i hi' hi),aq h1 h.sums (fun i hi hi'=>tI h.objs h.sums (by decide) i hi' hi),ho,h1.blk h.page (fun hi=>aR h.objs h.page (by decide) _ hi rfl),h.lo⟩
theorem dF.fill (h:dF D w N area x gs m1 ck W y vo vb vm j st S) (hD:∀i,D.has i→i<w.heap.size) (ho:Out (fun i=>i=ck) W W') (hp:ah W' ck 5 (st'.map aj).toArray):dF D w N area x gs m1 ck W' y vo vb vm j st' S:=by
 have hl:=h.lo;exact⟨h.inv.out hD ho (fun i e _=>⟨by omega,by have:=h.ne;omega⟩),aq ho h.bj (aR h.bj h.page (by decide)),aq ho h.sums (aR h.sums h.page (by decide)),aq ho h.objs (aR h.objs h.page (by decide)),hp,h.lo⟩
theorem dF.sH (h:dF D w N area x gs m1 ck W y vo vb vm j st S) (hD:∀i,D.has i→i<w.heap.size) {g:Nat} {cs:Array Value} (hb:ah W g 111 cs) (hg:m1≤g) (cs':Array Value):dF D w N area x gs m1 ck (W.setRow g cs') y vo vb vm j st S:=by
 have ho:Out (fun i=>i=g) W (W.setRow g cs'):=bL _ rfl;have hl:=h.lo;have hne:gs≠g:=fun e=>ah.xl h.inv.said hb (by decide) e
 have hne2:ck≠g:=fun e=>ah.xl h.page hb (by decide) e
 exact⟨h.inv.out hD ho (fun i e _=>⟨by omega,fun e2=>hne (e2.symm.trans e)⟩),aq ho h.bj (aR h.bj hb (by decide)),aq ho h.sums (aR h.sums hb (by decide)),aq ho h.objs (aR h.objs hb (by decide)),ho.blk h.page hne2,h.lo⟩
end
theorem dO (x:ak) (N area:Int) (nb:Nat) (l:List Nat):(dC x N area nb l).length=nb:=by simp[dC]
theorem M8 (x:ak) (N area:Int) (nb:Nat):dC x N area nb []=List.replicate nb 0:=by
 unfold dC;simp only[List.contains_nil,Bool.false_eq_true,if_false];rw[List.map_const',IH]
theorem M_ (x:ak) (N area:Int) (nb:Nat):dC x N area nb (List.range (aD nb))=gU x N area nb:=by
 unfold dC gU;refine ID fun p hp=>?_;have h1:p<nb:=ng.1 hp;have h2:p/512<aD nb:=by unfold aD;omega
 have h3:(List.range (aD nb)).contains (p/512)=true:=by simp[h2]
 rw[h3,aB rfl]
theorem Lg (x:ak) (N area:Int) (nb:Nat) (l:List Nat) (i:Nat) (hi:512*i≤nb) (hx:(fZ x N area i).length=512) :
 (dC x N area nb l).take (512*i)++(fZ x N area i).take (min 512 (nb-512*i))++(dC x N area nb l).drop (512*i+min 512 (nb-512*i))=dC x N area nb (l++[i]):=by
 have hl1:((dC x N area nb l).take (512*i)).length=512*i:=by rw[bD,dO];omega
 have hl2:((fZ x N area i).take (min 512 (nb-512*i))).length=min 512 (nb-512*i):=by rw[bD,hx];omega
 apply m_;intro p;have hrhs:(dC x N area nb (l++[i]))[p]? = if p<nb then some (if (l++[i]).contains (p/512) then byteOf x N area p else 0) else none:=by
  unfold dC;rw[dV];by_cases h:p<nb
  ·rw[wH h,aB h];rfl
  ·rw[dh (by simp;omega),aG h];rfl
 have hold:(dC x N area nb l)[p]? = if p<nb then some (if l.contains (p/512) then byteOf x N area p else 0) else none:=by
  unfold dC;rw[dV];by_cases h:p<nb
  ·rw[wH h,aB h];rfl
  ·rw[dh (by simp;omega),aG h];rfl
 rw[hrhs];have hc:(l++[i]).contains (p/512)=(l.contains (p/512) || (p/512 == i)):=by simp;rfl
 rw[hc];by_cases h1:p<512*i
 ·rw[fS,iC (by omega),dU,aB h1,hold];have:(p/512 == i)=false:=by simp;omega
  rw[this,Bool.or_false]
 ·by_cases h2:p<512*i+min 512 (nb-512*i)
  ·rw[iC (by rw[bX];omega),gl (by omega),hl1,dU,aB (by omega)];have h3:p/512=i:=by omega
   have h4:p % 512=p-512*i:=by omega
   rw[aB (by omega),h3];simp only[beq_self_eq_true,Bool.or_true,if_true];unfold byteOf;rw[h3,h4,aY (by omega)];rfl
  ·rw[gl (by rw[bX];omega),bX,hl1,hl2,kL];rw[show 512*i+min 512 (nb-512*i)+(p-(512*i+min 512 (nb-512*i)))=p by omega,hold];by_cases h:p<nb
   ·have:(p/512 == i)=false:=by simp;omega
    rw[this,Bool.or_false]
   ·rw[aG h,aG h]
section
variable {D:aX} {w W W':World} {N area:Int} {x:ak} {gs m1 ck:Nat} {y y':ak} {S:Array Value} {vo vb vm:Value} {j j':Nat} {st st':List UInt8}
theorem dF.far (h:dF D w N area x gs m1 ck W y vo vb vm j st S) (hD:∀i,D.has i→i<w.heap.size) {F:Nat→Prop} (ho:Out F W W') (K:Nat) (hF:∀i,F i→K≤i) (h1:gs<K∧ck<K∧w.heap.size+5≤K) (h2:∀i,vo.ownBlock=some i∨vb.ownBlock=some i∨vm.ownBlock=some i→i<K):dF D w N area x gs m1 ck W' y vo vb vm j st S :=
 ⟨h.inv.out hD ho (fun i hi _=>by have:=hF i hi;omega),aq ho h.bj (fun i hi hf=>by have:=hF i hf;have:=h2 i (.inl hi);omega),aq ho h.sums (fun i hi hf=>by have:=hF i hf;have:=h2 i (.inr (.inr hi));omega),aq ho h.objs (fun i hi hf=>by have:=hF i hf;have:=h2 i (.inr (.inl hi));omega),ho.blk h.page (fun hf=>by have:=hF _ hf;omega),h.lo⟩
structure pP (D:aX) (w:World) (N area:Int) (x:ak) (gs m1 ck:Nat) (W:World) (y:ak) (vo vb vm:Value) (j:Nat) (st:List UInt8) (S:Array Value) (X:World):Prop extends dF D w N area x gs m1 ck W y vo vb vm j st S where
 o:Out (fun i=>D.has i∨i=ck∨X.heap.size≤i) X W
variable {X:World}
theorem pP.below (h:pP D w N area x gs m1 ck W y vo vb vm j st S X) (hD:∀i,D.has i→i<w.heap.size) (hb:Below W.heap.size W W'):pP D w N area x gs m1 ck W' y vo vb vm j st S X :=
 ⟨h.todF.below hD hb,h.o.trans (G:=fun _=>False) (aN hb) (fun _ _=>False.elim)⟩
theorem pP.read (h:pP D w N area x gs m1 ck W y vo vb vm j st S X) (hD:∀i,D.has i→i<w.heap.size) (hd:aE W' D y') (hs:DStep D D W W'):pP D w N area x gs m1 ck W' y' vo vb vm j st S X :=
 ⟨h.todF.read hD hd hs,h.o.trans hs.out (fun _ _ hd=>.inl hd)⟩
theorem pP.sH (h:pP D w N area x gs m1 ck W y vo vb vm j st S X) (hD:∀i,D.has i→i<w.heap.size) {g:Nat} {cs:Array Value} (hb:ah W g 111 cs) (hg:m1≤g∧X.heap.size≤g) (cs':Array Value):pP D w N area x gs m1 ck (W.setRow g cs') y vo vb vm j st S X :=
 ⟨h.todF.sH hD hb hg.1 cs',h.o.trans (G:=fun i=>i=g) (bL _ rfl) (fun i _ e=>.inr (.inr (by omega)))⟩
theorem pP.fill (h:pP D w N area x gs m1 ck W y vo vb vm j st S X) (hD:∀i,D.has i→i<w.heap.size) (ho:Out (fun i=>i=ck) W W') (hp:ah W' ck 5 (st'.map aj).toArray):pP D w N area x gs m1 ck W' y vo vb vm j st' S X :=
 ⟨h.todF.fill hD ho hp,h.o.trans ho (fun _ _ e=>.inr (.inl e))⟩
theorem j_.refl {T:Nat→TypeId→Prop} {C g m:Nat} (W:World):j_ T C g m W W:=⟨bH.refl _ _ _ _,id⟩
theorem j_.trans {T:Nat→TypeId→Prop} {C g m:Nat} {A B E:World} (h:j_ T C g m A B) (k:j_ T C g m B E):j_ T C g m A E:=⟨h.k.trans k.k,fun p=>k.p (h.p p)⟩
theorem j_.put {T:Nat→TypeId→Prop} {C g m l:Nat} (hC:l<C) (W:World) (o o':Obj) (h:W.heap[l]? = some o) (hc:o.isCells=false):j_ T C g m W (W.putObj l o') :=
 ⟨x7 (fi _) hC W o o' h hc,fun⟨st,h1,h2⟩=>⟨st,h1,(iD (fun e=>by
  have h3:W.heap[g]? = some (.cells (st.map aj).toArray 5 (0,0)):=h2;rw[e,h]at h3;injection h3 with h3
  rw[h3]at hc;cases hc)).trans h2⟩⟩
def RdT (ck:Nat) (i:Nat) (t:TypeId):Prop:=t=152∨t=161∨i=ck
theorem PI {y:ak} {X:World} (h:aE X D y) {i:Nat} {cs:Array Value} {t:TypeId} {fr:Nat×Nat} (hi:X.heap[i]? = some (.cells cs t fr)) (h1:t≠152) (h2:t≠161):¬D.has i:=by
 rintro(rfl | rfl | hd | hd)
 ·have:=h.blk;unfold ah at this;rw[hi]at this;injection this with this
  injection this with _ e
  exact h1 e
 ·obtain⟨l,hm,_⟩:=h.lasts;unfold MapAt at hm;rw[hi]at hm;cases hm
 ·obtain⟨_,⟨e,_⟩ | ⟨g,cap,cur,e,_,hg,_⟩⟩:=h.waits
  ·rw[e]at hd;cases hd
  ·rw[e]at hd;have:g=i:=by simpa[Value.ownBlock]using hd
   subst this;rw[hi]at hg;injection hg with hg
   injection hg with _ e2
   exact h2 e2
 ·rcases h.fails with ⟨e,_⟩ | ⟨r,k,e,hm,_⟩
  ·rw[e]at hd;cases hd
  ·rw[e]at hd;cases hd;unfold MapAt at hm;rw[hi]at hm;cases hm
theorem pP.A6 (h:pP D w N area x gs m1 ck W y vo vb vm j st S X) (hd:aE X D y') {C nb:Nat} (hC:∀i,D.has i→i<C) (hg:ck<C) (hCX:C≤X.heap.size) (hn:st.length=nb):KeepsFrom C X W∧j_ (RdT ck) C ck nb X W:=by
 have hsame:∀ (k:Nat) (o:Obj),C≤k→X.heap[k]? = some o→W.heap[k]? = some o:=fun k o hk ho=>(h.o.block k (ee.1 ho).1 (fun hf=>by
  have hkl:=(ee.1 ho).1;rcases hf with hf | hf | hf
  ·have:=hC k hf;omega
  ·omega
  ·omega)).trans ho
 refine⟨⟨h.o.size,fun k o hk ho _=>hsame k o hk ho⟩,⟨⟨h.o.os,h.o.tape,h.o.output,h.o.size,fun i hi=>absurd hi (p' _),fun k o hk ho _=>hsame k o hk ho,fun i cs t fr ht hi=>?_⟩,fun _=>⟨st,hn,h.page⟩⟩⟩;have hl:=(ee.1 hi).1;refine(h.o.block i hl (fun hf=>?_)).trans hi;rcases hf with hf | hf | hf
 ·exact PI hd hi (fun e=>ht (.inl e)) (fun e=>ht (.inr (.inl e))) hf
 ·exact ht (.inr (.inr hf))
 ·omega
end
theorem copy_part {x:ak} {N area:Int} {W:World} {ck g nb i:Nat} {l:List Nat} (hi:512*i<nb) (hx:(fZ x N area i).length=512) (hp:ah W ck 5 ((dC x N area nb l).map aj).toArray) (hb:ah W g 111 ((fZ x N area i).map aj).toArray) (ty:TypeId) (c1:Nat) :
 ∃w',(Builtin.copy_ #[26,26] ty #[.slice (some ⟨ck,i*512,none⟩) (nb-i*512) c1,.slice (some ⟨g,0,none⟩) 512 512]).run Tryz.prog W=.ok (goInt (min 512 (nb-512*i):Nat)) w'∧ah w' ck 5 ((dC x N area nb (l++[i])).map aj).toArray∧Out (fun k=>k=ck) W w':=by
 have hl:((fZ x N area i).take (min 512 (nb-512*i))).length=min 512 (nb-512*i):=by rw[bD,hx];omega
 have hsrc:∀j u,(((fZ x N area i).take (min 512 (nb-512*i))).map aj)[j]? = some u→W.cell? ((⟨g,0,none⟩:Addr).add j)=some u:=by
  intro j u hj;rw[dV]at hj;obtain⟨c,hcj,rfl⟩:=iE.1 hj;rw[eP,hb.cell,jd,cW,dV];rw[dU]at hcj;split at hcj
  ·rw[hcj];rfl
  ·cases hcj
 have hr:=Jk (P:=Tryz.prog) W 26 26 ty 5 ck (i*512) (nb-i*512) c1 ⟨g,0,none⟩ 512 512 ((dC x N area nb l).map aj).toArray 5 (((fZ x N area i).take (min 512 (nb-512*i))).map aj) eU (by kernel_rfl) hp
  (by rw[cR,hl,qg i 512]) hsrc (by rw[cR,hl,b',cR,dO];omega) (iV _)
 rw[cR,hl,wz,←Jj,←List.map_drop,←cK,←cK,qg i 512,Lg x N area nb l i (oT hi) hx,qg 512 i]at hr;rw[qg 512 i];exact⟨_,hr,hp.row _,bL _ rfl⟩
theorem Lh (W:World) (B:Nat) (a:Option Addr) (c:Nat):BytesIn W B (.slice a 0 c) []:=⟨by simp,a,c,rfl,fi _,fun j c hc=>by simp at hc⟩
theorem Wv (l:List UInt8) (h:l.all (· == 0)=true):l=List.replicate l.length 0:=by
 refine List.eq_replicate_of_mem fun b hb=>?_;have:=cx.1 h b hb;simpa using this
theorem PJ {bP:List UInt8} (hl:bP.length=512) {r:Nat} (h:(bP.drop r).all (· == 0)=true):bP.drop r=az.drop r:=by
 rw[Wv _ h];unfold az;rw[RN,c_,hl]
theorem CallsDIn.mono' {P:Program} {F:Fence} {n:Nat} {f:FuncId} {args:Array Value} {u:FrameMode} {w:World} {R R':Ending→FrameMode→World→Prop} (h:CallsDIn F n P f args u w R) (hr:∀e u' w',R e u' w'→R' e u' w'):CallsDIn F n P f args u w R' :=
 ⟨h.1,fun c cs hu hro=>let ⟨e,u',w',fr,r,rest⟩:=h.2 c cs hu hro;⟨e,u',w',fr,hr _ _ _ r,rest⟩⟩
theorem uD {W:World} {B K n:Nat} {e:TypeId} {v:Value} {l:List Int} (h:W.ownsRow B e 1 v n (l.map (Value.int .i64))) (hK:∀g,v.ownBlock=some g→g<K):IntsIn W K v l:=by
 have hn:l.length=n:=by have:=h.1;simpa using this
 subst hn;obtain⟨hl,⟨rfl,h0⟩ | ⟨g,cap,cur,rfl,hB,hg,hc,hm,hs,ht⟩⟩:=h
 ·have:l=[]:=rO h0;subst this;exact IntsIn.nil W _
 ·refine⟨by omega,_,cap,rfl,hc,fun j c hj=>⟨g,0,rfl,hK g rfl,?_⟩⟩;rw[mL W g (0+j) cur e (0,0) hg];have h1:(cur.toList.take (l.length*1))[j]? = some (.int .i64 c):=by rw[ht];simp[hj]
  have hjl:j<l.length:=by
   rcases bZ j l.length with h | h
   ·exact h
   ·rw[dh h]at hj;cases hj
  rw[dU,aB (by omega)]at h1;simpa using h1
theorem N8:∀ (l:List aK) (j:Nat) (o:aK),(∀x∈l,x.ok)→l[j]? = some o→∀i,i<163→(l.flatMap aK.cells)[j*163+i]? = o.cells[i]? :=by
 intro l;induction l with
 | nil=>intro j x _ h;simp at h
 | cons y l ih =>
  intro j x hok h i hi;have hy:=aK.len (hok y (by simp));rw[zD];cases j with
  | zero =>
   obtain rfl:y=x:=by simpa using h
   rw[xb,cW,iC (by rw[hy];exact hi)]
  | succ j =>
   have h':l[j]? = some x:=by simpa using h
   rw[gl (by rw[hy];omega),hy,show(j+1)*163+i-163=j*163+i by omega];exact ih j x (fun z hz=>hok z (by simp[hz])) h' i hi
theorem Li {W:World} {B K n:Nat} {e:TypeId} {v:Value} {l:List aK} (hok:∀x∈l,x.ok) (hr:∀x∈l,iM x) (hn:l.length=n) (h:W.ownsRow B e 163 v n (l.flatMap aK.cells)) (hK:∀g,v.ownBlock=some g→g<K):gA W K v l:=by
 subst hn;obtain⟨hl,⟨rfl,h0⟩ | ⟨g,cap,cur,rfl,hB,hg,hc,hm,hs,ht⟩⟩:=h
 ·have:l=[]:=rO h0;subst this;exact gA.nil W _
 ·refine⟨by omega,_,cap,rfl,hc,fun j o hj=>?_⟩;have hjl:j<l.length:=by
   rcases bZ j l.length with h | h
   ·exact h
   ·rw[dh h]at hj;cases hj
  have hm:o∈l:=je hj;refine⟨hok o hm,hr o hm,g,0,rfl,hK g rfl,fun i u hi=>?_⟩;have PK:i<163:=by
   rcases bZ i 163 with h | h
   ·exact h
   ·rw[dh (by rw[aK.len (hok o hm)];exact h)]at hi;cases hi
  rw[mL W g _ cur e (0,0) hg];have h1:=N8 l j o hok hj i PK;rw[←ht,dU,aB (by omega),hi]at h1;simpa using h1
theorem Lj (l:List UInt8):(keyOf l).r<9223372036854775808:=by
 have h:=iX (l.drop 1) 1;show((aW ((l.drop 1).take 1):Nat):Int)<_;omega
theorem uE (l:List UInt8):iM (ff l):=by
 intro x hx;obtain⟨i,_,rfl⟩:=dI.1 hx;exact Lj _
theorem E0 {P:Program} {F:Fence} {n:Nat} {c:Code} {Q:Exit→Act→World→Prop} {a:Act} {w:World} {ι:Type} (A:ι→Act) (I:ι→World→Prop)
 (h:c.wpIn F n P (fun e a' w'=>match e with | .normal=>∃i,a'=A i∧I i w' | _=>False) a w) (hk:∀i w',I i w'→Q .normal (A i) w'):c.wpIn F n P Q a w :=
 DZ h (fun e a' w' h=>by
  cases e with
  | normal=>obtain⟨i,rfl,hi⟩:=h;exact hk i w' hi
  | _=>exact h.elim)
def dw (lo:Nat) (W:World) (v:Value) (f:bY):Prop:=∀ (F:Nat→Prop) (W':World),Out F W W'→(∀i,lo≤i→i<W.heap.size→¬F i)→cL W' W.heap.size v f
theorem dw.E1 {lo:Nat} {W:World} {v:Value} {f:bY} (h:dw lo W v f):cL W W.heap.size v f:=h (fun _=>False) W (Out.refl _ _) (fun _ _ _=>id)
theorem PL {lo m1 ck n nb:Nat} {W:World} {x:ak} {N area:Int} {vo vb:Value} (ho:W.ownsRow m1 3 1 vo n (lQ (aP x N area) n)) (hb:W.ownsRow m1 62 163 vb n (mE x N area n)) (hp:ah W ck 5 ((gU x N area nb).map aj).toArray)
 (hn:n=aC (aP x N area) 12 2) (hnb:nb=aC (aP x N area) 14 2) (hlo:lo≤m1∧m1≤ck) (hb4:nb≤4096) (hS:∀i,i<n→(rD x N area i).length=512) :
 dw lo W (.agg #[.int .i64 (aC (aP x N area) 4 8:Nat),vo,vb,.slice (some ⟨ck,0,none⟩) nb nb]) (fD x N area):=by
 intro F W' E3 hF;have hnl:(gU x N area nb).length=nb:=by simp[gU]
 refine⟨vo,vb,.slice (some ⟨ck,0,none⟩) nb nb,rfl,?_,?_,?_⟩
 ·have h1:=aq E3 ho (fun g hg=>hF g (by have:=(ho.lt g hg).1;omega) (ho.lt g hg).2);refine uD (n:=n) (B:=m1) (e:=3) ?_ (fun g hg=>(ho.lt g hg).2);unfold fD;simp only;rw[←hn,tT];exact h1
 ·have h1:=aq E3 hb (fun g hg=>hF g (by have:=(hb.lt g hg).1;omega) (hb.lt g hg).2);unfold fD;simp only;rw[←hn];refine Li (n:=n) (B:=m1) (e:=62) ?_ ?_ (by simp) ?_ (fun g hg=>(hb.lt g hg).2)
  ·intro o ho;obtain⟨i,hi,rfl⟩:=dI.1 ho;exact mC _ (by rw[bD,hS i (ng.1 hi)];rfl)
  ·intro o ho;obtain⟨i,hi,rfl⟩:=dI.1 ho;exact uE _
  ·rw[List.flatMap_map];exact h1
 ·unfold fD;simp only;rw[←hnb];refine⟨by rw[hnl];unfold maxLen;omega,some ⟨ck,0,none⟩,nb,by rw[hnl],by rw[hnl];exact ai _,fun j c hj=>⟨ck,0,rfl,hp.lt,(E3.blk hp (hF ck (by omega) hp.lt)).ag (0+j) ?_⟩⟩;rw[jd,cW,dV,hj];rfl
def pG:aK:=⟨2,1,0,kT,kU⟩
def pH:aK:=⟨1,0,0,kT,kU⟩
def ir:bY:=⟨7,[0,2],[pG,pH],[97,98,99]⟩
def nV:List UInt8:=bM (oA ir)
def fE:ak:=⟨29,fun _=>az,[⟨23,bM (dL pG)⟩,⟨24,bM (dL pH)⟩,⟨15,js az [97,98,99]⟩,⟨14,nV⟩],4,[]⟩
theorem Lk:dn (jQ 29) (cu 3 1 ir)=fE:=by kernel_rfl
theorem oC:aP fE 3 1=nV:=by kernel_rfl
theorem Ww:aP fE 3 0=az:=by kernel_rfl
theorem aae:rD fE 3 1 0=bM (dL pG):=by kernel_rfl
theorem aaf:rD fE 3 1 1=bM (dL pH):=by kernel_rfl
theorem aag:fZ fE 3 1 0=js az [97,98,99]:=by kernel_rfl
theorem Ts:bI 3 nV=true:=by decide +kernel
theorem Tt:bI 3 az=false:=by decide +kernel
theorem Ll:aC nV 12 2=2:=by decide +kernel
theorem BN:aC nV 14 2=3:=by decide +kernel
theorem Tu:eO (bM (dL pG)) 3=0∧(dJ ((bM (dL pG)).take 508)).toNat=aC nV 22 4:=by decide +kernel
theorem Tv:eO (bM (dL pH)) 3=0∧(dJ ((bM (dL pH)).take 508)).toNat=aC nV 28 4:=by decide +kernel
theorem Wx:fD fE 3 1=ir:=by kernel_rfl
theorem Wy:(dJ (gU fE 3 1 3)).toNat=aC nV 16 4:=by decide +kernel
theorem Tw:((js az [97,98,99]).drop 3).all (· == 0)=true:=by decide +kernel
theorem rE (k:Nat) (h:k≤80):(fE.plus k).ok:=by
 refine⟨by show(1:Int)≤29;decide,by show(29:Int)≤4096;decide,fun _=>et,?_,?_,?_,by show 4≤1000000;decide⟩
 ·intro y hy;have hy:y∈[(⟨23,bM (dL pG)⟩:aI),⟨24,bM (dL pH)⟩,⟨15,js az [97,98,99]⟩,⟨14,nV⟩]:=hy;simp only[List.mem_cons,List.not_mem_nil,or_false]at hy;rcases hy with rfl | rfl | rfl | rfl
  ·exact eJ _ (by rw[my _ ⟨rfl,rfl⟩];decide)
  ·exact eJ _ (by rw[my _ ⟨rfl,rfl⟩];decide)
  ·exact vg [97,98,99] 0
  ·exact eJ _ (by decide +kernel)
 ·show(0:Int)≤4+(k:Int);omega
 ·show(4:Int)+(k:Int)≤1000000000000;omega
theorem sI (k:Nat) (n:Int) (h0:0≤n) (h1:n<29):(fE.plus k).err n=0:=by
 unfold ak.err;rw[aG (by show ¬ (n<0∨(29:Int)≤n);omega),aG (by show ¬ (_∈([]:List Int));simp)]
theorem Wz:Lf fE 3 1:=by
 refine⟨by kernel_rfl,rE,?_,?_,?_,?_,?_,?_,?_⟩
 ·have:=sI 0 14 (by decide) (by decide);rw[mn]at this;exact this
 ·intro i k hi _;rw[oC,Ll]at hi;have:i=0∨i=1:=by omega
  rcases this with rfl | rfl
  ·exact sI k 23 (by decide) (by decide)
  ·exact sI k 24 (by decide) (by decide)
 ·intro i k hi _;rw[oC,BN]at hi;have:i=0:=by unfold aD at hi;omega
  subst this;exact sI k 15 (by decide) (by decide)
 ·rw[oC];exact Ts
 ·intro i hi;rw[oC,Ll]at hi;rw[oC];have:i=0∨i=1:=by omega
  rcases this with rfl | rfl
  ·rw[aae];exact Tu
  ·rw[aaf];exact Tv
 ·intro i hi;rw[oC,BN]at hi ⊢;have:i=0:=by unfold aD at hi;omega
  subst this;rw[aag];exact Tw
 ·rw[oC];have:(fD fE 3 1).state=gU fE 3 1 3:=by
   show gU fE 3 1 (aC (aP fE 3 1) 14 2)=_;rw[oC,BN]
  rw[this];exact Wy
def rY (k:Nat):ak:=(fE.plus k).ov 14 5 1
theorem WA (k:Nat):aP (rY k) 3 1=gJ nV 5 1:=by kernel_rfl
theorem PM:bI 3 (gJ nV 5 1)=false:=by decide +kernel
theorem aah:(cu 3 1 ir).map (·.1.n)=[23,24,15,14]:=by kernel_rfl
def BO (k:Nat):ak:=⟨29,fun _=>az,fE.waits.take k,k,[]⟩
theorem yt (k:Nat) (h:k≤4):(BO k).ok:=by
 have h1:=rE 0 (by omega);refine⟨by show(1:Int)≤29;decide,by show(29:Int)≤4096;decide,fun _=>et,fun y hy=>h1.2.2.2.1 y (zu hy),?_,?_,?_⟩
 ·show(0:Int)≤(k:Int);omega
 ·show(k:Int)≤1000000000000;omega
 ·show(fE.waits.take k).length≤1000000;rw[bD];omega
theorem vz (k:Nat) (n:Int) (h0:0≤n) (h1:n<29):(BO k).err n=0:=by
 unfold ak.err;rw[aG (by show ¬ (n<0∨(29:Int)≤n);omega),aG (by show ¬ (_∈([]:List Int));simp)]
theorem abq:dn (jQ 29) ((cu 3 1 ir).take 0)=BO 0:=by kernel_rfl
theorem abr:dn (jQ 29) ((cu 3 1 ir).take 1)=BO 1:=by kernel_rfl
theorem abt:dn (jQ 29) ((cu 3 1 ir).take 2)=BO 2:=by kernel_rfl
theorem abu:dn (jQ 29) ((cu 3 1 ir).take 3)=BO 3:=by kernel_rfl
theorem M' (k:Nat) (y:cg) (hy:(cu 3 1 ir)[k]? = some y):(dn (jQ 29) ((cu 3 1 ir).take k)).ok∧(dn (jQ 29) ((cu 3 1 ir).take k)).err y.1.n=0:=by
 have h1:((cu 3 1 ir).map (·.1.n))[k]? = some y.1.n:=by rw[dV,hy];rfl
 rw[aah]at h1;have hk:k<4:=by
  rcases bZ k 4 with h | h
  ·exact h
  ·rw[dh (by exact h)]at h1;cases h1
 have hk4:k=0∨k=1∨k=2∨k=3:=by omega
 rcases hk4 with rfl | rfl | rfl | rfl
 ·have h2:(23:Int)=y.1.n:=by simpa using h1
  rw[abq,←h2];exact⟨yt 0 (by decide),vz 0 _ (by decide) (by decide)⟩
 ·have h2:(24:Int)=y.1.n:=by simpa using h1
  rw[abr,←h2];exact⟨yt 1 (by decide),vz 1 _ (by decide) (by decide)⟩
 ·have h2:(15:Int)=y.1.n:=by simpa using h1
  rw[abt,←h2];exact⟨yt 2 (by decide),vz 2 _ (by decide) (by decide)⟩
 ·have h2:(14:Int)=y.1.n:=by simpa using h1
  rw[abu,←h2];exact⟨yt 3 (by decide),vz 3 _ (by decide) (by decide)⟩
theorem Lm (k:Nat) (h:k≤80):(rY k).ok:=by
 have h1:=rE k h;refine⟨h1.1,h1.2.1,fun m=>?_,fun y hy=>?_,h1.2.2.2.2.1,h1.2.2.2.2.2.1,by show((fE.plus k).waits.map _).length≤1000000;rw[cR];exact h1.2.2.2.2.2.2⟩
 ·show(if m=14 then gJ az 5 1 else az).length=512;split
  ·rw[nH];exact bA
  ·exact bA
 ·obtain⟨z,hz,rfl⟩:=dI.1 hy;have hz2:=h1.2.2.2.1 z hz;unfold fY;split
  ·show(gJ z.b 5 1).length=512;rw[nH];exact hz2
  ·exact hz2
theorem Tx (k:Nat) (n:Int) (h0:0≤n) (h1:n<29):(rY k).err n=0:=by
 unfold ak.err;rw[aG (by show ¬ (n<0∨(29:Int)≤n);omega),aG (by show ¬ (_∈([]:List Int));simp)]
theorem Na (k:Nat):(rY k).waits.length=4:=by kernel_rfl
theorem xB {P:Program} {ops:Array Oper} {rest:List Oper} {o:Oper} {a:Act} {w:World} {Q:Exit→Act→World→Prop} (hw:Region.wanted o (yielded ops a.tmps)=true) (t:TypeId) (parts:Array (Nat×Operand)) (ho:o.op=.build t parts)
 (cells:Array Value) (hf:P.built t (parts.toList.map fun x=>(x.1,a.eval x.2))=some cells)
 (h:wpList P ops Q rest (a.put o.dst (.agg cells)) w):wpList P ops Q (o::rest) a w :=
 CN hw t parts ho cells (by rw[Dy];exact hf) h
theorem jT (x:Int) (w:World):Calls Tryz.prog 11 #[.int .i64 x] w fun e w'=>e=.returned (.int .i64 x)∧w=w':=by
 go_enter Tryz.func11,Tryz.ntmps11
 go_wp2_with fail;go_ret
 exact⟨rfl,rfl⟩
theorem WB (a b:Array Value) (ha:a.size=163) (hb:b.size=163) (i:TypeInfo) (z:Value) (h1:i.size=163) (h3:z.cells.size=163) :
 Instr.fill (fun k=>some (k*i.size,i.size)) ((Array.range (2*i.size)).map (z.cells[· % z.cells.size]!)) [(0,.agg a),(1,.agg b)]=some (a.toList++b.toList).toArray:=by
 have ha2:(Value.agg a).cells=a:=rfl;have hb2:(Value.agg b).cells=b:=rfl;have hal:a.toList.length=163:=by simpa using ha
 have hbl:b.toList.length=163:=by simpa using hb
 rw[h1,jK (off:=0) (size:=163) (by simp) (by rw[ha2,ha]) (by simp),jK (off:=163) (size:=163) (by simp) (by rw[hb2,hb]) (by simp[ha2,hal]),xZ,ha2,hb2];congr 2
 simp only[List.take_zero,List.nil_append,List.toList_toArray];rw[zM hal,jD (by simp[hal]),ny]
theorem Ln (w:World):Calls Tryz.prog 35 #[] w fun e w'=>∃v,e=.returned v∧cL w' w'.heap.size v ir∧(∀a c,(∃x y z,v=.agg #[x,y,z,.slice a ir.state.length c])→c≤maxLen)∧Below w.heap.size w w':=by
 obtain⟨i0,z0,hi0,hz0,hz1,hz2,hz3⟩:=vY;have a0:(Tryz.zeroCells62.setIfInBounds 0 (.int .i64 2)).setIfInBounds 1 (.int .i64 1)=pG.cells.toArray:=by kernel_rfl
 have a1:Tryz.zeroCells62.setIfInBounds 0 (.int .i64 1)=pH.cells.toArray:=by kernel_rfl
 have s0:pG.cells.toArray.size=163:=by kernel_rfl
 have s1:pH.cells.toArray.size=163:=by kernel_rfl
 have A0:=ae a0;have A1:=ae a1;clear a0 a1;go_enter Tryz.func35,Tryz.ntmps35
 go_wp2_with fail;refine dW 25 62 2 _ rfl (pG.cells.toArray.toList++pH.cells.toArray.toList).toArray i0 z0 wK hi0 hz0 (by rw[hz1];decide) (by rw[hz1];decide) (by
  show Instr.fill _ _ [(0,.agg ((Tryz.zeroCells62.setIfInBounds 0 (.int .i64 2)).setIfInBounds 1 (.int .i64 1))),(1,.agg (Tryz.zeroCells62.setIfInBounds 0 (.int .i64 1)))]=_;rw[A0.out,A1.out];exact WB _ _ s0 s1 i0 z0 hz1 hz3) ?_
 obtain⟨C,eC⟩:∃C,C=(pG.cells.toArray.toList++pH.cells.toArray.toList).toArray:=⟨_,rfl⟩;rw[←eC];have EC:=ae eC;clear eC;have hcv:=Lib.run_convert_bytes_const (P:=Tryz.prog) (((w.alloc (.cells aF 28)).alloc (.cells #[.int .i64 0,.int .i64 2] 3)).alloc (.cells C 62)) 26 5 #[.int .u8 97,.int .u8 98,.int .u8 99] 3 3 eU oK;rw[iF,iF,iF]at hcv;obtain⟨V,eV⟩:∃V,V=((((w.alloc (.cells aF 28)).alloc (.cells #[.int .i64 0,.int .i64 2] 3)).alloc (.cells C 62)).alloc (.cells #[.int .u8 97,.int .u8 98,.int .u8 99] 5 (3,4))):=⟨_,rfl⟩;have hb:Below w.heap.size w V:=by rw[eV];exact((((ax _ w).alloc (ai _) _).alloc (by simp) _).alloc (by simp;omega) _).alloc (by simp;omega) _
 have k0:ah V w.heap.size 28 aF:=by rw[eV];exact(((ah.new w _ _).alloc _).alloc _).alloc _
 have k1:ah V (w.heap.size+1) 3 #[.int .i64 0,.int .i64 2]:=by rw[eV];exact((ah.new2 w _ _ _).alloc _).alloc _
 have k2:ah V (w.heap.size+2) 62 C:=by rw[eV];exact(ah.new' (by simp)).alloc _
 have k3:V.heap[w.heap.size+3]? = some (.cells #[.int .u8 97,.int .u8 98,.int .u8 99] 5 (3,4)):=by
  rw[eV];have h:=zr (((w.alloc (.cells aF 28)).alloc (.cells #[.int .i64 0,.int .i64 2] 3)).alloc (.cells C 62)) (.cells #[.int .u8 97,.int .u8 98,.int .u8 99] 5 (3,4));rw[iF,iF,iF]at h;exact h
 have hsV:V.heap.size=w.heap.size+4:=by rw[eV];simp
 obtain⟨F4,eF⟩:∃F,F=(#[.int .i64 7,.slice (some ⟨w.heap.size+1,0,none⟩) 2 2,.slice (some ⟨w.heap.size+1+1,0,none⟩) 2 2,.slice (some ⟨w.heap.size+1+1+1,0,none⟩) 3 3]:Array Value):=⟨_,rfl⟩;have hi:(Tryz.prog.info? 28).map (·.size)=some F4.size:=by rw[eF];kernel_rfl
 have h1:F4.all (·.oneCell')=true:=by rw[eF,jf];rfl
 have hz:aF.size=F4.size:=by rw[eF];rfl
 have hbu:∀v1 v2 v3,Tryz.prog.built 28 [(0,.int .i64 7),(1,.slice v1 2 2),(2,.slice v2 2 2),(3,.slice v3 3 3)]=some #[.int .i64 7,.slice v1 2 2,.slice v2 2 2,.slice v3 3 3]:=fun _ _ _=>by kernel_rfl
 have EF:=ae eF;have K0:=ae k0;have K1:=ae k1;have K2:=ae k2;have K3:=ae k3;have HB:=ae hb;clear k0 k1 k2 k3 hb eF;go_wp2_with (first
  | (refine xB rfl 28 _ rfl F4 (by rw[EF.out];exact hbu _ _ _) ?_)
  | (refine aQ rfl 28 _ _ rfl w.heap.size F4 rfl rfl 28 _ (by rw[←eV];exact K0.out) hi hz h1 ?_))
 rw[←eV];refine bc (v:=.agg F4) (mo Tryz.results35 _ _ w.heap.size 28 F4 (0,0) _ rfl (K0.out.row F4) fw rfl hi) rfl ?_;have j1:=K1.out.gu (g':=w.heap.size) F4 (by omega);have j2:=K2.out.gu (g':=w.heap.size) F4 (by omega);have j3:=(kO V w.heap.size (w.heap.size+3) F4 (by omega)).trans K3.out;refine⟨.agg F4,rfl,?_,?_,aA HB.out _ (ai _)⟩
 case refine_2 =>
  rw[EF.out];intro a c x y z h;have h2:=dz (fun v:Value=>match v with | Value.agg A=>A[3]? | _=>none) h;have h3:3=c:=by
   simp at h2;first | exact h2.2.2 | exact h2.2 | omega
  rw[←h3];decide
 rw[EF.out]at j1 j2 j3 ⊢;refine⟨_,_,_,rfl,?_,?_,?_⟩
 ·refine⟨by decide,_,2,rfl,by decide,fun j c hj=>⟨w.heap.size+1,0,rfl,by simp;omega,?_⟩⟩;refine j1.ag (0+j) ?_;have hj2:j=0∨j=1:=by
   rcases bZ j 2 with h | h
   ·omega
   ·rw[dh (by exact h)]at hj;cases hj
  rcases hj2 with rfl | rfl
  ·cases hj;rfl
  ·cases hj;rfl
 ·refine⟨by decide,_,2,rfl,by decide,fun j o hj=>?_⟩;have hok:∀x∈[pG,pH],x.ok:=fun x hx=>by
   simp only[List.mem_cons,List.not_mem_nil,or_false]at hx;rcases hx with rfl | rfl<;>exact⟨rfl,rfl⟩
  have hm:o∈[pG,pH]:=je hj;refine⟨hok o hm,?_,w.heap.size+2,0,rfl,by simp;omega,fun i u hu=>?_⟩
  ·have hs:o.slots=kT:=by
    simp only[List.mem_cons,List.not_mem_nil,or_false]at hm;rcases hm with rfl | rfl<;>rfl
   intro y hy;rw[hs]at hy;obtain rfl:=Rr hy;decide
  ·have PK:i<163:=by
    rcases bZ i 163 with h | h
    ·exact h
    ·rw[dh (by rw[aK.len (hok o hm)];exact h)]at hu;cases hu
   have h3:=N8 [pG,pH] j o hok hj i PK;refine j2.ag (0+j*163+i) ?_;rw[EC.out,jd,cW];rw[hu]at h3;have e : [pG,pH].flatMap aK.cells=pG.cells.toArray.toList++pH.cells.toArray.toList:=by simp
   rw[e]at h3;exact h3
 ·refine⟨by decide,_,3,rfl,by decide,fun j c hj=>⟨w.heap.size+3,0,rfl,by simp;omega,?_⟩⟩;refine(mL _ (w.heap.size+3) (0+j) _ _ _ j3).trans ?_;have hj2:j=0∨j=1∨j=2:=by
   rcases bZ j 3 with h | h
   ·omega
   ·rw[dh (by exact h)]at hj;cases hj
  rcases hj2 with rfl | rfl | rfl
  all_goals (cases hj;rfl)
def jc (s:Nat) (bl:List UInt8) (j:Nat):List UInt8:=(List.range (512*s)).map fun i=>if i<j∧0<bl.length then bl.getD (i % bl.length) 0 else 0
def px (s:Nat) (bl:List UInt8):List UInt8:=jc s bl (512*s)
theorem lj (s:Nat) (bl:List UInt8) (j:Nat):(jc s bl j).length=512*s:=by simp[jc]
theorem sJ (s:Nat) (bl:List UInt8) (j i:Nat) (h:i<512*s):(jc s bl j)[i]? = some (if i<j∧0<bl.length then bl.getD (i % bl.length) 0 else 0):=by simp[jc,h]
theorem Nb (s:Nat) (bl:List UInt8):jc s bl 0=List.replicate (512*s) 0:=by
 apply m_;intro i;by_cases h:i<512*s
 ·rw[sJ _ _ _ _ h,aG (by omega)];simp[h]
 ·rw[dh (by rw[lj];omega),dh (by simp;omega)]
theorem Nc (s j:Nat):jc s [] j=jc s [] 0:=by
 apply m_;intro i;by_cases h:i<512*s
 ·rw[sJ _ _ _ _ h,sJ _ _ _ _ h,aG (by simp),aG (by simp)]
 ·rw[dh (by rw[lj];omega),dh (by rw[lj];omega)]
theorem PN (s:Nat) (bl:List UInt8) (j:Nat) (hj:j<512*s) (h0:0<bl.length) (c:UInt8) (hc:bl[j % bl.length]? = some c):((jc s bl j).map aj).toArray.setIfInBounds j (aj c)=((jc s bl (j+1)).map aj).toArray:=by
 rw[Dn,←zY];congr 2
 apply m_;intro i;rw[zC];by_cases hi:i<512*s
 ·rw[sJ _ _ _ _ hi,sJ _ _ _ _ hi];by_cases h1:j=i
  ·subst h1;rw[aB rfl,aB (by rw[lj];omega),aB (by omega),wj,hc];rfl
  ·rw[aG h1];by_cases h2:i<j
   ·rw[aB (by omega),aB (by omega)]
   ·rw[aG (by omega),aG (by omega)]
 ·by_cases h1:j=i
  ·omega
  ·rw[aG h1,dh (by rw[lj];omega),dh (by rw[lj];omega)]
theorem rF {α β:Type} {l:List α} {f g:α→List β} (h:∀x∈l,f x=g x):l.flatMap f=l.flatMap g:=by
 induction l with
 | nil=>rfl
 | cons x l ih=>rw[zD,zD,h x (by simp),ih (fun y hy=>h y (by simp[hy]))]
theorem WC:∀ (s:Nat) (l:List UInt8),l.length=512*s→((List.range s).flatMap fun n=>(l.drop (512*n)).take 512)=l:=by
 intro s l hl;apply m_;intro p;by_cases hp:p<512*s
 ·have hf:∀n,n<s→((l.drop (512*n)).take 512).length=512:=fun n hn=>by rw[bD,c_];omega
  have e:((List.range s).flatMap fun n=>(l.drop (512*n)).take 512)=(List.range s).flatMap fun n=>if n<s then (l.drop (512*n)).take 512 else az:=by
   apply rF;intro n hn;rw[aB (ng.1 hn)]
  have hg:∀n,(if n<s then (l.drop (512*n)).take 512 else az).length=512:=fun n=>by
   split
   ·rename_i h;exact hf n h
   ·exact et
  rw[e];have r:=pO (fun n=>if n<s then (l.drop (512*n)).take 512 else az) hg s (p/512) (p % 512) (by omega) (by omega);rw[show 512*(p/512)+p % 512=p by omega]at r;rw[r,aB (by omega),dU,aB (by omega),kL,show 512*(p/512)+p % 512=p by omega]
 ·have e:((List.range s).flatMap fun n=>(l.drop (512*n)).take 512)=(List.range s).flatMap fun n=>if n<s then (l.drop (512*n)).take 512 else az:=by
   apply rF;intro n hn;rw[aB (ng.1 hn)]
  have hg:∀n,(if n<s then (l.drop (512*n)).take 512 else az).length=512:=fun n=>by
   split
   ·rename_i h;rw[bD,c_];omega
   ·exact et
  rw[e,dh (by rw[mA _ hg];omega),dh (by omega)]
theorem WE (s:Nat) (l:List UInt8) (hl:l.length=512*s):fe (qD s l)=l:=by
 have e:fe (qD s l)=(List.range s).flatMap fun n=>(l.drop (512*n)).take 512:=by
  unfold fe qD y6;simp only[Int.toNat_natCast];apply rF;intro n hn;have:=ng.1 hn;rw[aB (by omega)]
 rw[e];exact WC s l hl
theorem Ty (s:Nat) (l:List UInt8) (hl:l.length=512*s) (h1:1≤s) (h2:s≤4096):(qD s l).ok:=by
 refine⟨by show(1:Int)≤(s:Int);omega,by show(s:Int)≤4096;omega,fun n=>?_,fun y hy=>(by cases hy),by show(0:Int)≤0;omega,by show(0:Int)≤1000000000000;omega,by show 0≤1000000;omega⟩;show(if 0≤n∧n<(s:Int) then (l.drop (512*n.toNat)).take 512 else az).length=512;split
 ·rw[bD,c_];omega
 ·exact et
theorem BytesIn.rH {W W':World} {F:Nat→Prop} {B:Nat} {v:Value} {l:List UInt8} (h:BytesIn W B v l) (ho:Out F W W') (hF:∀g,v.ownBlock=some g→¬F g):BytesIn W' B v l:=by
 obtain⟨h1,a,cap,rfl,h3,h4⟩:=h;refine⟨h1,a,cap,rfl,h3,fun j c hc=>?_⟩;obtain⟨g,off,rfl,hg,hr⟩:=h4 j c hc;exact⟨g,off,rfl,hg,(lL (a:=⟨g,off+j,none⟩) (ho.block g (od W _ hr) (hF g rfl))).trans hr⟩
theorem IntsIn.rH {W W':World} {F:Nat→Prop} {B:Nat} {v:Value} {l:List Int} (h:IntsIn W B v l) (ho:Out F W W') (hF:∀g,v.ownBlock=some g→¬F g):IntsIn W' B v l:=by
 obtain⟨h1,a,cap,rfl,h3,h4⟩:=h;refine⟨h1,a,cap,rfl,h3,fun j c hc=>?_⟩;obtain⟨g,off,rfl,hg,hr⟩:=h4 j c hc;exact⟨g,off,rfl,hg,(lL (a:=⟨g,off+j,none⟩) (ho.block g (od W _ hr) (hF g rfl))).trans hr⟩
theorem cC.rH {W W':World} {F:Nat→Prop} {B:Nat} {v:Value} {l:List aI} (h:cC W B v l) (ho:Out F W W') (hF:∀g,v.ownBlock=some g→¬F g):cC W' B v l:=by
 obtain⟨h0,h1,a,cap,rfl,h2⟩:=h;refine⟨h0,h1,a,cap,rfl,fun i y hi=>?_⟩;obtain⟨g,rfl,hg,hr⟩:=h2 i y hi;exact⟨g,rfl,hg,fun j u hj=>(lL (a:=⟨g,i*513+j,none⟩) (ho.block g (od W _ (hr j u hj)) (hF g rfl))).trans (hr j u hj)⟩
theorem bu.rH {W W':World} {F:Nat→Prop} {B:Nat} {lv wv fv:Value} {x:ak} (h:bu W B lv wv fv x) (ho:Out F W W') (h1:∀g,lv.ownBlock=some g→¬F g) (h2:∀g,wv.ownBlock=some g→¬F g) (h3:∀g,fv.ownBlock=some g→¬F g):bu W' B lv wv fv x :=
 ⟨h.lasts.rH ho h1,h.waits.rH ho h2,h.fails.rH ho h3⟩
theorem qU {P:Program} {fn:Func} {p q r:Tmp} {ty:TypeId} (h:fn.results=#[.tmp p,.cell q ty,.tmp r]) (tmps:Array Value) (w:World) (a b c:Value) (g:Nat)
 (hp:tmps.getD p undef=a) (hq:tmps.getD q undef=.pointer (some ⟨g,0,none⟩)) (hb:(loadVar ty ⟨g,0,none⟩).run P w=.ok b w) (hr:tmps.getD r undef=c) :
 (results fn tmps).run P w=.ok (.tuple #[a,b,c]) w:=by
 have hp':tmps[p]?.getD undef=a:=by simpa using hp
 have hq':tmps[q]?.getD undef=.pointer (some ⟨g,0,none⟩):=by simpa using hq
 have hr':tmps[r]?.getD undef=c:=by simpa using hr
 simp[results,h,hp',hq',hr',asAddr,hb]
theorem WG (s:Nat) (vb vf:Value) (bl:List UInt8) (w:World) (hv:BytesIn w w.heap.size vb bl) (h1:1≤s) (h2:s≤4096) :
 Calls Tryz.prog 16 #[.agg #[.int .i64 s,vb,vf]] w fun e w'=>∃D lv B,e=.returned (.tuple #[ptr D.p,.agg #[lv,.slice none 0 0,.int .i64 0,.slice none 0 0],.bool true])∧aE w' D (qD s (px s bl)) ∧
  bu w' B lv (.slice none 0 0) (.slice none 0 0) (qD s (px s bl))∧w.heap.size≤B∧(∀i,D.has i→B≤i)∧Below w.heap.size w w':=by
 obtain⟨i0,hi0,hz0,hz1,hz2⟩:=iH jg;have HV:=ae hv;obtain⟨_,ab,cb,rfl,_,_⟩:=hv;obtain⟨W,eW⟩:∃W,W=((w.alloc (.cells #[.int .i64 s,.slice ab bl.length cb,vf] 43)).alloc (.cells aM 40)).alloc (.cells (Array.replicate (512*s) (aj 0)) 5):=⟨_,rfl⟩;have hbW:Below w.heap.size w W:=by rw[eW];exact(((ax _ w).alloc (ai _) _).alloc (by simp) _).alloc (by simp;omega) _
 have k0:ah W w.heap.size 43 #[.int .i64 s,.slice ab bl.length cb,vf]:=by rw[eW];exact((ah.new w _ _).alloc _).alloc _
 have k1:ah W (w.heap.size+1) 40 aM:=by rw[eW];exact(ah.new2 w _ _ _).alloc _
 have k2:ah W (w.heap.size+2) 5 ((jc s bl 0).map aj).toArray:=by
  rw[eW,Nb,List.map_replicate,←Rw,RI];exact ah.new' (by simp)
 have hset:=ae (PN s bl);have hlen:=ae (lj s bl);have hnone:=ae (fun(h:bl=[]) j=>by rw[h];exact Nc s j:bl=[]→∀j,jc s bl j=jc s bl 0);obtain⟨G,hG⟩:∃G,G=w.heap.size+2:=⟨_,rfl⟩;rw[←hG]at k2;have HMS:=ae (show 512*(s:Int)=((512*s:Nat):Int)by push_cast;rfl);unfold ptr;go_enter Tryz.func16,Tryz.ntmps16
 go_wp2_with (refine wpList_make_row _ rfl _ _ _ rfl 5 i0 _ eU hi0 hz0 hz1 rfl .i64 .i64 (512*s) (dz (Value.int .i64) HMS.out) (dz (Value.int .i64) HMS.out) (by rw[hz2];omega) (by omega) ?_)
 rw[vW,←eW];clear eW hi0 hz0 hz1 hz2;have HW:=ae hbW;have ft:=ae k0;have iT:=ae k1;have iS:=ae k2;have HG:=ae hG;have eG:w.heap.size+1+1=G:=by omega
 clear hbW k0 k1 k2 hG;rw[eG];go_loopw [6] (fun i wr=>∃j:Nat,j≤512*s∧i=.int .i64 (j:Int)∧ah wr G 5 ((jc s bl j).map aj).toArray∧ah wr w.heap.size 43 #[.int .i64 s,.slice ab bl.length cb,vf]∧ah wr (w.heap.size+1) 40 aM∧Below w.heap.size w wr) (fun i _=>512*s-(intOf i).toNat)
 case atStart=>exact⟨0,by omega,rfl,iS.out,ft.out,iT.out,HW.out⟩
 case round =>
  obtain⟨j,hj,rfl,hO,hK,hZ,hB⟩:=hrel;have c1:=hK.ag 1 rfl;by_cases hlt:j<512*s∧0<bl.length
  ·obtain⟨hlt1,hlt2⟩:=hlt;have hmod:j % bl.length<bl.length:=DW _ hlt2;obtain⟨c,hc⟩:∃c,bl[j % bl.length]? = some c:=⟨_,aY hmod⟩;obtain⟨gb,ob,rfl,hgb,q2⟩:=(HV.out.below hB (ai _)).at_ hc;have q1:=c1;have hbx:((jc s bl j).map aj).toArray.size=512*s:=by rw[b',cR,hlen.out]
   obtain⟨u,hu⟩:∃u,((jc s bl j).map aj).toArray[j]? = some u:=⟨_,uZ (by omega)⟩;have cO:=hO.ag j hu;have fO:=hO.frozen j;have ig:=ae (hO.br j (aj c));rw[hset.out j hlt1 hlt2 c hc]at ig;have iT:=ae (hK.far (p:=⟨G,j,none⟩) (by show w.heap.size≠G;have:=HG.out;omega) (aj c));have HZ1:=ae (hZ.far (p:=⟨G,j,none⟩) (by show w.heap.size+1≠G;have:=HG.out;omega) (aj c));have HB1:=ae (hB.setCell (p:=⟨G,j,none⟩) (by show w.heap.size≤G;have:=HG.out;omega) (aj c));have i1:(j:Int)<512*(s:Int):=by omega
   have i3:(0:Int)<(bl.length:Int):=by omega
   have i4:((j:Int) % (bl.length:Int)).toNat=j % bl.length:=by omega
   have i5:(j:Int) % (bl.length:Int)<(bl.length:Int):=by omega
   have i6:0≤(j:Int) % (bl.length:Int):=by omega
   have i7:(j:Int).tmod (bl.length:Int)=(j:Int) % (bl.length:Int):=Int.tmod_eq_emod_of_nonneg (by omega);have i8:¬bl=[]:=by rintro rfl;simp at hlt2
   have hGn:=HG.out;have E4:=ae hGn;clear hO hK hZ hB c1 hGn hbx;go_upto_region 5 with fail;refine bF (S:=(fun w'=>w'.cell? ⟨w.heap.size,1,none⟩=some (.slice (some ⟨gb,ob,none⟩) bl.length cb)∧w'.cell? ⟨gb,ob+j % bl.length,none⟩=some (aj c))) (by kernel_rfl) (by(try dsimp only);exact⟨q1,q2⟩) (fun hHeld=>?_);refine tk 0 ?_;refine tk 1 ?_;refine tk 2 ?_;refine tk 4 ?_;refine tk 5 ?_;refine tk 3 ?_;refine tk 6 ?_;refine tk 7 ?_;refine tk 8 ?_;refine tk 9 ?_;refine tk 10 ?_;refine tk 11 ?_;refine rd 12 fun K hK=>?_;go_simp;refine hK.out _ _ (by(try dsimp only);exact⟨(kJ wr.drew ⟨G,j,none⟩ ⟨w.heap.size,1,none⟩ _ (by show G≠w.heap.size;have:=E4.out;omega)).trans q1,(kJ wr.drew ⟨G,j,none⟩ ⟨gb,ob+j % bl.length,none⟩ _ (by show G≠gb;have:=E4.out;omega)).trans q2⟩) (fun hHeld=>?_);clear hK K;refine aT ?_;go_wp2_with fail;go_roundw
   case rel=>exact⟨j+1,by omega,by go_num,ig.out,iT.out,HZ1.out,HB1.out.drew⟩
   case measure=>simp[intOf];omega
  ·have hend:jc s bl j=px s bl:=by
    by_cases hj2:j=512*s
    ·rw[hj2];rfl
    ·have hb0:bl=[]:=by
      cases bl with
      | nil=>rfl
      | cons c bl=>exact absurd ⟨by omega,by simp⟩ hlt
     unfold px;rw[hnone.out hb0 j,hnone.out hb0 (512*s)]
   rw[hend]at hO;have hml:(px s bl).length=512*s:=hlen.out _;have hal:BytesIn wr (G+1) (.slice (some ⟨G,0,none⟩) (512*s) (512*s)) (px s bl):=by
    have h:=fq hO (512*s) (by omega) (by rw[hml];unfold maxLen;omega);rw[hml]at h;have ht:(px s bl).take (512*s)=px s bl:=dg (by omega);rw[ht]at h;refine⟨h.1,some ⟨G,0,none⟩,512*s,by rw[hml],by omega,fun i c hc=>?_⟩;obtain⟨g',off',e,_,hr⟩:=h.at_ hc;cases e
    exact⟨G,0,rfl,by omega,hr⟩
   have hGl:=hO.lt;have HOF:=ae (Z' _ (px s bl) s wr (hal.mono (by omega)) hml h1 h2);have HAL:=ae hal;have HFL:=ae (WE s (px s bl) hml);have HZ:=ae hZ;have HB:=ae hB;have E4:=ae HG.out;have fin:∀ (tmps:Array Value),True:=fun _=>trivial
   clear fin hO hZ hB hal;by_cases hj1:j<512*s
   ·have hb0:bl=[]:=by
     cases bl with
     | nil=>rfl
     | cons c bl=>exact absurd ⟨by omega,by simp⟩ hlt
    subst hb0;have i1:(j:Int)<512*(s:Int):=by omega
    simp only[List.length_nil]at c1;go_wp2_with fail;refine HOF.out.mono ?_;rintro e w2 ⟨D,rfl,hD,hhas,hb2⟩;have HD:=ae hD;have hZ2:=HZ.out.below hb2 HZ.out.lt;have hB2:=HB.out.trans (hb2.mono HB.out.size);have WH:=HAL.out.below hb2 (by omega);clear hD;go_wp2_with fail;refine(jT 0 _).mono ?_;rintro e w3 ⟨rfl,rfl⟩;go_wp2_with (refine aQ rfl 40 _ _ rfl (w.heap.size+1) #[.slice (some ⟨G,0,none⟩) (512*s) (512*s),.slice none 0 0,.int .i64 0,.slice none 0 0] rfl rfl 40 aM hZ2 (au _ _ _ _) rfl (by simp[Value.oneCell']) ?_)
    refine bc (qU Tryz.results16 _ _ _ _ _ _ (by rfl) (by rfl) (bB (hZ2.row _)) (by rfl)) rfl ⟨D,_,G+1,rfl,?_,⟨?_,?_,IntsIn.nil _ _⟩,by have:=E4.out;omega,fun i hi=>by have:=hhas i hi;omega,aA hB2 _ (by omega)⟩
    ·exact HD.out.out (F:=fun i=>i=w.heap.size+1) (bL _ rfl) (fun i hi e=>by have:=hhas i hi;have:=E4.out;omega)
    ·rw[HFL.out];exact WH.rH (F:=fun i=>i=w.heap.size+1) (bL _ rfl) (fun g hg e=>by
      have e2:G=g:=by simpa[Value.ownBlock]using hg
      have:=E4.out;omega)
    ·exact⟨by show 0≤1000000;omega,fun y hy=>(by cases hy),none,0,rfl,fun i y hi=>by cases hi⟩
   ·have i1:¬ (j:Int)<512*(s:Int):=by omega
    go_wp2_with fail;refine HOF.out.mono ?_;rintro e w2 ⟨D,rfl,hD,hhas,hb2⟩;have HD:=ae hD;have hZ2:=HZ.out.below hb2 HZ.out.lt;have hB2:=HB.out.trans (hb2.mono HB.out.size);have WH:=HAL.out.below hb2 (by omega);clear hD;go_wp2_with fail;refine(jT 0 _).mono ?_;rintro e w3 ⟨rfl,rfl⟩;go_wp2_with (refine aQ rfl 40 _ _ rfl (w.heap.size+1) #[.slice (some ⟨G,0,none⟩) (512*s) (512*s),.slice none 0 0,.int .i64 0,.slice none 0 0] rfl rfl 40 aM hZ2 (au _ _ _ _) rfl (by simp[Value.oneCell']) ?_)
    refine bc (qU Tryz.results16 _ _ _ _ _ _ (by rfl) (by rfl) (bB (hZ2.row _)) (by rfl)) rfl ⟨D,_,G+1,rfl,?_,⟨?_,?_,IntsIn.nil _ _⟩,by have:=E4.out;omega,fun i hi=>by have:=hhas i hi;omega,aA hB2 _ (by omega)⟩
    ·exact HD.out.out (F:=fun i=>i=w.heap.size+1) (bL _ rfl) (fun i hi e=>by have:=hhas i hi;have:=E4.out;omega)
    ·rw[HFL.out];exact WH.rH (F:=fun i=>i=w.heap.size+1) (bL _ rfl) (fun g hg e=>by
      have e2:G=g:=by simpa[Value.ownBlock]using hg
      have:=E4.out;omega)
    ·exact⟨by show 0≤1000000;omega,fun y hy=>(by cases hy),none,0,rfl,fun i y hi=>by cases hi⟩
theorem vA {w W w':World} {N ed:Int} {vo vb vs:Value}
 (h:Below w.heap.size w W∧ah W w.heap.size 23 #[.int .i64 N]∧ah W (w.heap.size+1) 28 #[.int .i64 ed,vo,vb,vs]) (hb:Below W.heap.size W w') :
 (Below w.heap.size w w'∧ah w' w.heap.size 23 #[.int .i64 N]∧ah w' (w.heap.size+1) 28 #[.int .i64 ed,vo,vb,vs])∧w'.cell? ⟨w.heap.size,0,none⟩=some (.int .i64 N)∧w'.cell? ⟨w.heap.size+1,2,none⟩=some vb∧w'.cell? ⟨w.heap.size+1,1,none⟩=some vo :=
 ⟨⟨h.1.trans (hb.mono h.1.size),h.2.1.below hb h.2.1.lt,h.2.2.below hb h.2.2.lt⟩,(h.2.1.below hb h.2.1.lt).ag 0 rfl,(h.2.2.below hb h.2.2.lt).ag 2 rfl,(h.2.2.below hb h.2.2.lt).ag 1 rfl⟩
def qG (l:List Int):Nat→Int
 | 0 => -1
 | i+1=>l.getD i 0
theorem vZ (l:List Int) (j:Nat) (x:Int) (h:l[j]? = some x):qG l (j+1)=x:=by
 show l.getD j 0=x;rw[wj,h];rfl
theorem Nd (N ed:Int) (l:List Int) (m:List aK) (sl:Nat) (ao ab aw:Option Addr) (co cb cs:Nat) (w:World)
 (hl:IntsIn w w.heap.size (.slice ao l.length co) l) (hm:gA w w.heap.size (.slice ab m.length cb) m) (hpre:(aZ N&&fu N ed l.length m.length sl)=true) :
 Calls Tryz.prog 13 #[.agg #[.int .i64 N],.agg #[.int .i64 ed,.slice ao l.length co,.slice ab m.length cb,.slice aw sl cs]] w fun e w' =>
 e=.returned (.int .i64 (dr (gI N (-1) l m)))∧Below w.heap.size w w':=by
 obtain⟨hR,hp⟩:aZ N=true∧fu N ed l.length m.length sl=true:=by simpa using hpre
 have hN:1≤N∧N≤64:=by simpa[aZ]using hR
 obtain⟨h1,h2,h3,h4⟩:0≤ed∧l.length=m.length∧(l.length:Int)≤N∧sl≤4096:=by
  simp[fu]at hp;omega
 obtain⟨q,hq⟩:∃q,gI N (-1) l m=q:=⟨_,rfl⟩;rw[hq];have HQ:=ae hq;have Km:=ae h2;have ne1:¬ed<0:=by omega
 have ne2:¬ (sl:Int)>4096:=by omega
 have ne3:((l.length:Int) != (m.length:Int))=false:=by rw[h2];simp
 have ne4:¬ (l.length:Int)>N:=by omega
 clear hq hpre hp h2;go_enter JJ,Js
 go_wp2_with fail;refine(qp N _).mono ?_;rintro e w1 ⟨rfl,hb⟩;have K1:ah w1 w.heap.size 23 #[.int .i64 N]:=((ah.new w _ _).alloc _).below hb (by simp;omega);have K2:ah w1 (w.heap.size+1) 28 #[.int .i64 ed,.slice ao l.length co,.slice ab m.length cb,.slice aw sl cs]:=(ah.new2 w _ _ _).below hb (by simp);have hB:=(((ax w.heap.size w).alloc (ai _) (.cells #[.int .i64 N] 23)).alloc (by simp) (.cells #[.int .i64 ed,.slice ao l.length co,.slice ab m.length cb,.slice aw sl cs] 28)).trans (hb.mono (by simp;omega));have c0:=K1.ag 0 rfl;have d0:=K2.ag 0 rfl;have d1:=K2.ag 1 rfl;have d2:=K2.ag 2 rfl;have d3:=K2.ag 3 rfl;have he:dr true=0:=rfl;have he2:dr false=2:=rfl;rw[hR];clear hb;go_wp2_with fail;clear c0 d0 d1 d2 d3;go_loopw [5] (fun i wr=>∃ (j:Nat),j≤l.length∧i=.int .i64 j∧Hid (gI N (qG l j) (l.drop j) (m.drop j)=q)∧Hid (-1≤qG l j)∧ah wr w.heap.size 23 #[.int .i64 N]∧ah wr (w.heap.size+1) 28 #[.int .i64 ed,.slice ao l.length co,.slice ab m.length cb,.slice aw sl cs]∧Below w.heap.size w wr) (fun i _=>l.length-(intOf i).toNat)
 case atStart=>exact⟨0,by omega,rfl,ae HQ.out,ae (by show(-1:Int) ≤ -1;omega),K1,K2,hB⟩
 case round =>
  clear K1 K2 hB;obtain⟨j,hj,rfl,HT,HG,K1,K2,hB⟩:=hrel;have hz:=hB.size;have c0:=K1.ag 0 rfl;have d2:=K2.ag 2 rfl;have d1:=K2.ag 1 rfl;by_cases hlt:j<l.length
  ·obtain⟨dy,vR⟩:∃c,l[j]? = some c:=⟨_,aY hlt⟩;obtain⟨x,hx⟩:∃c,m[j]? = some c:=⟨_,aY (by have:=Km.out;omega)⟩;have hlt2:(j:Int)<(m.length:Int):=by have:=Km.out;omega
   have hT:=HT.out;rw[Eh N (qG l j) l m j dy x vR hx]at hT;have HP:=ae (vZ l j dy vR);obtain⟨g1,o1,rfl,hg1,hcell1⟩:=hl.at_ vR;obtain⟨hxo,SS,g2,o2,rfl,hgo,hrg⟩:=hm.at_ hx;have HR:=ae hrg;have xu:=ae hcell1;have x0:=(hB.cell (p:=⟨g1,o1+j,none⟩) hg1).trans hcell1;clear hx hcell1 hm hrg HT;cases j with
   | zero =>
    have HJ:Hid (gI N (qG l 0) (l.drop 0) (m.drop 0)=gI N (qG l 0) (l.drop 0) (m.drop 0)):=ae rfl;have hT0:(decide (-1<dy)&&(decide (dy<N)&&(fH x N&&gI N dy (l.drop (0+1)) (m.drop (0+1)))))=q:=hT;have HT2:=ae hT0;have hm0:0<m.length:=by omega
    clear hT hT0 hl vR;have hP:qG l (0+1)=dy:=HP.out;have Gm:=ae hP;clear hP HP;by_cases hc1:dy<0
    ·have hq:q=false:=by rw[←HT2.out,cB (by omega:¬ -1<dy)];rfl
     have HN:=ae hq;have f1:decide (dy<0)=true:=cT hc1;clear hq hc1;go_upto_region 6 with fail;have k1:=hB.drew;have k2:=K1.drew;have k3:=K2.drew;refine bF (S:=(fun w'=>(Below w.heap.size w w'∧ah w' w.heap.size 23 #[.int .i64 N]∧ah w' (w.heap.size+1) 28 #[.int .i64 ed,.slice (some ⟨g1,o1,none⟩) l.length co,.slice (some ⟨g2,o2,none⟩) m.length cb,.slice aw sl cs])∧w'.cell? ⟨w.heap.size,0,none⟩=some (.int .i64 N)∧w'.cell? ⟨w.heap.size+1,2,none⟩=some (.slice (some ⟨g2,o2,none⟩) m.length cb)∧w'.cell? ⟨w.heap.size+1,1,none⟩=some (.slice (some ⟨g1,o1,none⟩) l.length co)∧w'.cell? ⟨g1,o1,none⟩=some (.int .i64 dy))) (by kernel_rfl) (by(try dsimp only);(refine⟨⟨?_,?_,?_⟩,?_,?_,?_,?_⟩<;>assumption)) (fun hHeld=>?_);refine tk 0 ?_;refine tk 1 ?_;refine tk 2 ?_;refine tk 3 ?_;refine tk 4 ?_;refine tk 5 ?_;refine tk 6 ?_;refine tu 7 ?_;refine tu 8 ?_;refine tu 9 ?_;refine tu 10 ?_;refine tu 11 ?_;refine tu 12 ?_;refine tu 13 ?_;refine tu 14 ?_;refine tk 15 ?_;refine tk 16 ?_;refine tu 17 ?_;refine tu 18 ?_;refine tu 19 ?_;refine tu 20 ?_;refine tu 21 ?_;refine tu 22 ?_;refine tu 23 ?_;refine tu 24 ?_;refine tu 25 ?_;refine tu 26 ?_;refine tu 27 ?_;refine tu 28 ?_;refine tu 29 ?_;refine tu 30 ?_;refine tu 31 ?_;refine tu 32 ?_;refine tk 33 ?_;refine tk 34 ?_;refine tu 35 ?_;refine tu 36 ?_;refine tu 37 ?_;refine tu 38 ?_;refine tu 39 ?_;refine tu 40 ?_;refine tu 41 ?_;refine tu 42 ?_;refine tu 43 ?_;refine tk 44 ?_;refine aT ?_;go_wp2_with fail;go_ret
     exact⟨by rw[HN.out];rfl,by assumption⟩
    ·by_cases hc2:N≤dy
     ·have hq:q=false:=by rw[←HT2.out,cB (by omega:¬dy<N)];simp
      have HN:=ae hq;have f1:decide (dy<0)=false:=cB hc1;have f2:decide (N≤dy)=true:=cT hc2;clear hq hc1 hc2;go_upto_region 6 with fail;have k1:=hB.drew;have k2:=K1.drew;have k3:=K2.drew;refine bF (S:=(fun w'=>(Below w.heap.size w w'∧ah w' w.heap.size 23 #[.int .i64 N]∧ah w' (w.heap.size+1) 28 #[.int .i64 ed,.slice (some ⟨g1,o1,none⟩) l.length co,.slice (some ⟨g2,o2,none⟩) m.length cb,.slice aw sl cs])∧w'.cell? ⟨w.heap.size,0,none⟩=some (.int .i64 N)∧w'.cell? ⟨w.heap.size+1,2,none⟩=some (.slice (some ⟨g2,o2,none⟩) m.length cb)∧w'.cell? ⟨w.heap.size+1,1,none⟩=some (.slice (some ⟨g1,o1,none⟩) l.length co)∧w'.cell? ⟨g1,o1,none⟩=some (.int .i64 dy))) (by kernel_rfl) (by(try dsimp only);(refine⟨⟨?_,?_,?_⟩,?_,?_,?_,?_⟩<;>assumption)) (fun hHeld=>?_);refine tk 0 ?_;refine tk 1 ?_;refine tk 2 ?_;refine tk 3 ?_;refine tk 4 ?_;refine tk 5 ?_;refine tk 6 ?_;refine tk 7 ?_;refine tk 8 ?_;refine tk 9 ?_;refine tk 10 ?_;refine tk 11 ?_;refine tk 12 ?_;refine tk 13 ?_;refine tk 14 ?_;refine tk 15 ?_;refine tk 16 ?_;refine tu 17 ?_;refine tu 18 ?_;refine tu 19 ?_;refine tu 20 ?_;refine tu 21 ?_;refine tu 22 ?_;refine tu 23 ?_;refine tu 24 ?_;refine tu 25 ?_;refine tu 26 ?_;refine tu 27 ?_;refine tu 28 ?_;refine tu 29 ?_;refine tu 30 ?_;refine tu 31 ?_;refine tu 32 ?_;refine tk 33 ?_;refine tk 34 ?_;refine tu 35 ?_;refine tu 36 ?_;refine tu 37 ?_;refine tu 38 ?_;refine tu 39 ?_;refine tu 40 ?_;refine tu 41 ?_;refine tu 42 ?_;refine tu 43 ?_;refine tk 44 ?_;refine aT ?_;go_wp2_with fail;go_ret
      exact⟨by rw[HN.out];rfl,by assumption⟩
     ·have yT:(fH x N&&gI N dy (l.drop (0+1)) (m.drop (0+1)))=q:=by
       have:=HT2.out;rwa [cT (by omega : -1<dy),cT (by omega:dy<N),fx,fx]at this
      have HT3:=ae yT;have f1:decide (dy<0)=false:=cB hc1;have f2:decide (N≤dy)=false:=cB hc2;have HG2:Hid (-1≤qG l (0+1)):=ae (by rw[Gm.out];omega);clear yT HT2 hc1 hc2;cases hO:fH x N
      ·have hq:q=false:=by rw[←HT3.out,hO];rfl
       have HN:=ae hq;clear hq;have SU:dr (fH x N)=2:=by rw[hO];rfl
       go_upto_region 6 with fail;have k1:=hB.drew;have k2:=K1.drew;have k3:=K2.drew;refine bF (S:=(fun w'=>(Below w.heap.size w w'∧ah w' w.heap.size 23 #[.int .i64 N]∧ah w' (w.heap.size+1) 28 #[.int .i64 ed,.slice (some ⟨g1,o1,none⟩) l.length co,.slice (some ⟨g2,o2,none⟩) m.length cb,.slice aw sl cs])∧w'.cell? ⟨w.heap.size,0,none⟩=some (.int .i64 N)∧w'.cell? ⟨w.heap.size+1,2,none⟩=some (.slice (some ⟨g2,o2,none⟩) m.length cb)∧w'.cell? ⟨w.heap.size+1,1,none⟩=some (.slice (some ⟨g1,o1,none⟩) l.length co)∧w'.cell? ⟨g1,o1,none⟩=some (.int .i64 dy))) (by kernel_rfl) (by(try dsimp only);(refine⟨⟨?_,?_,?_⟩,?_,?_,?_,?_⟩<;>assumption)) (fun hHeld=>?_);refine tk 0 ?_;refine tk 1 ?_;refine tk 2 ?_;refine tk 3 ?_;refine tk 4 ?_;refine tk 5 ?_;refine tk 6 ?_;refine tk 7 ?_;refine tk 8 ?_;refine tk 9 ?_;refine tk 10 ?_;refine tk 11 ?_;refine tk 12 ?_;refine tk 13 ?_;refine tk 14 ?_;refine tk 15 ?_;refine tk 16 ?_;refine tk 17 ?_;refine tk 18 ?_;refine tk 19 ?_;refine tu 20 ?_;refine tu 21 ?_;refine tu 22 ?_;refine tu 23 ?_;refine tu 24 ?_;refine tu 25 ?_;refine tu 26 ?_;refine tu 27 ?_;refine tu 28 ?_;refine tu 29 ?_;refine tu 30 ?_;refine tu 31 ?_;refine tk 32 ?_;refine tk 33 ?_;refine tk 34 ?_;refine tk 35 ?_;refine tk 36 ?_;refine tk 37 ?_;refine tk 38 ?_;refine ty 39 rfl (cY (by rfl) 62 _ rfl _ _ rfl x.cells _ (fun w' h=>dE HR.out h.1.1 hgo) dH rfl (by rw[aK.len hxo];kernel_rfl)) ?_;refine tk 40 ?_;refine tk 41 ?_;refine rd 42 fun K hK=>?_;go_simp
       (refine(mU x hxo SS N _).mono ?_;rintro e w' ⟨rfl,hb⟩;obtain⟨⟨z1,z2,z3⟩,z4,z5,z6⟩:=vA hHeld.1 hb;have z7:=(z1.cell (p:=⟨g1,o1,none⟩) hg1).trans xu.out;clear hb)
       go_wp2_with fail;refine hK.out _ _ (by(try dsimp only);(refine⟨⟨?_,?_,?_⟩,?_,?_,?_,?_⟩<;>assumption)) (fun hHeld=>?_);clear hK K;refine tk 43 ?_;refine tk 44 ?_;refine aT ?_;go_wp2_with fail;go_ret
       exact⟨by rw[HN.out];rfl,by assumption⟩
      ·have Aw:=HT3.out;rw[hO,fx,←Gm.out]at Aw;have GD:=ae Aw;clear Aw;have SU:dr (fH x N)=0:=by rw[hO];rfl
       go_upto_region 6 with fail;have k1:=hB.drew;have k2:=K1.drew;have k3:=K2.drew;refine bF (S:=(fun w'=>(Below w.heap.size w w'∧ah w' w.heap.size 23 #[.int .i64 N]∧ah w' (w.heap.size+1) 28 #[.int .i64 ed,.slice (some ⟨g1,o1,none⟩) l.length co,.slice (some ⟨g2,o2,none⟩) m.length cb,.slice aw sl cs])∧w'.cell? ⟨w.heap.size,0,none⟩=some (.int .i64 N)∧w'.cell? ⟨w.heap.size+1,2,none⟩=some (.slice (some ⟨g2,o2,none⟩) m.length cb)∧w'.cell? ⟨w.heap.size+1,1,none⟩=some (.slice (some ⟨g1,o1,none⟩) l.length co)∧w'.cell? ⟨g1,o1,none⟩=some (.int .i64 dy))) (by kernel_rfl) (by(try dsimp only);(refine⟨⟨?_,?_,?_⟩,?_,?_,?_,?_⟩<;>assumption)) (fun hHeld=>?_);refine tk 0 ?_;refine tk 1 ?_;refine tk 2 ?_;refine tk 3 ?_;refine tk 4 ?_;refine tk 5 ?_;refine tk 6 ?_;refine tk 7 ?_;refine tk 8 ?_;refine tk 9 ?_;refine tk 10 ?_;refine tk 11 ?_;refine tk 12 ?_;refine tk 13 ?_;refine tk 14 ?_;refine tk 15 ?_;refine tk 16 ?_;refine tk 17 ?_;refine tk 18 ?_;refine tk 19 ?_;refine tu 20 ?_;refine tu 21 ?_;refine tu 22 ?_;refine tu 23 ?_;refine tu 24 ?_;refine tu 25 ?_;refine tu 26 ?_;refine tu 27 ?_;refine tu 28 ?_;refine tu 29 ?_;refine tu 30 ?_;refine tu 31 ?_;refine tk 32 ?_;refine tk 33 ?_;refine tk 34 ?_;refine tk 35 ?_;refine tk 36 ?_;refine tk 37 ?_;refine tk 38 ?_;refine ty 39 rfl (cY (by rfl) 62 _ rfl _ _ rfl x.cells _ (fun w' h=>dE HR.out h.1.1 hgo) dH rfl (by rw[aK.len hxo];kernel_rfl)) ?_;refine tk 40 ?_;refine tk 41 ?_;refine rd 42 fun K hK=>?_;go_simp
       (refine(mU x hxo SS N _).mono ?_;rintro e w' ⟨rfl,hb⟩;obtain⟨⟨z1,z2,z3⟩,z4,z5,z6⟩:=vA hHeld.1 hb;have z7:=(z1.cell (p:=⟨g1,o1,none⟩) hg1).trans xu.out;clear hb)
       go_wp2_with fail;refine hK.out _ _ (by(try dsimp only);(refine⟨⟨?_,?_,?_⟩,?_,?_,?_,?_⟩<;>assumption)) (fun hHeld=>?_);clear hK K;refine tk 43 ?_;refine tk 44 ?_;refine aT ?_;go_wp2_with fail;exact⟨⟨0+1,by omega,by go_num,GD,HG2,by assumption,by assumption,by assumption⟩,by simp[intOf]<;>omega⟩
   | succ i =>
    obtain⟨la,hla⟩:∃c,l[i]? = some c:=⟨_,aY (by omega)⟩;rw[vZ l i la hla]at hT;obtain⟨g1',o1',e1',_,hcell2⟩:=hl.at_ hla;injection e1' with e1'
    injection e1' with eg eo _
    subst eg eo;have vt:=ae hcell2;have y0:=(hB.cell (p:=⟨g1,o1+i,none⟩) hg1).trans hcell2;have HT2:=ae hT;have hlt3:(i:Int)<(l.length:Int):=by omega
    have hp0:(0:Int)≤(i:Int)+1:=by omega
    have hp1:(0:Int)<(i:Int)+1:=by omega
    have F1:(i:Int)+1<(m.length:Int):=by omega
    have amU:(i:Int)+1<(l.length:Int):=by omega
    have hwr:IntKind.i64.wrap (i:Int)=(i:Int):=wrap_small i (by omega);have hge : -1≤la:=by have:=HG.out;rwa [vZ l i la hla]at this
    clear hT hcell2 hl vR hla;by_cases hc1:dy<0
    ·have hq:q=false:=by
      rw[←HT2.out];rw[cB (by omega:¬la<dy)];rfl
     have HN:=ae hq;have f1:decide (dy<0)=true:=cT hc1;clear hq hc1;go_upto_region 6 with fail;have k1:=hB.drew;have k2:=K1.drew;have k3:=K2.drew;refine bF (S:=(fun w'=>(Below w.heap.size w w'∧ah w' w.heap.size 23 #[.int .i64 N]∧ah w' (w.heap.size+1) 28 #[.int .i64 ed,.slice (some ⟨g1,o1,none⟩) l.length co,.slice (some ⟨g2,o2,none⟩) m.length cb,.slice aw sl cs])∧w'.cell? ⟨w.heap.size,0,none⟩=some (.int .i64 N)∧w'.cell? ⟨w.heap.size+1,2,none⟩=some (.slice (some ⟨g2,o2,none⟩) m.length cb)∧w'.cell? ⟨w.heap.size+1,1,none⟩=some (.slice (some ⟨g1,o1,none⟩) l.length co)∧w'.cell? ⟨g1,o1+(i+1),none⟩=some (.int .i64 dy)∧w'.cell? ⟨g1,o1+i,none⟩=some (.int .i64 la))) (by kernel_rfl) (by(try dsimp only);(refine⟨⟨?_,?_,?_⟩,?_,?_,?_,?_,?_⟩<;>assumption)) (fun hHeld=>?_);refine tk 0 ?_;refine tk 1 ?_;refine tk 2 ?_;refine tk 3 ?_;refine tk 4 ?_;refine tk 5 ?_;refine tk 6 ?_;refine tu 7 ?_;refine tu 8 ?_;refine tu 9 ?_;refine tu 10 ?_;refine tu 11 ?_;refine tu 12 ?_;refine tu 13 ?_;refine tu 14 ?_;refine tk 15 ?_;refine tk 16 ?_;refine tu 17 ?_;refine tu 18 ?_;refine tu 19 ?_;refine tu 20 ?_;refine tu 21 ?_;refine tu 22 ?_;refine tu 23 ?_;refine tu 24 ?_;refine tu 25 ?_;refine tu 26 ?_;refine tu 27 ?_;refine tu 28 ?_;refine tu 29 ?_;refine tu 30 ?_;refine tu 31 ?_;refine tu 32 ?_;refine tk 33 ?_;refine tk 34 ?_;refine tu 35 ?_;refine tu 36 ?_;refine tu 37 ?_;refine tu 38 ?_;refine tu 39 ?_;refine tu 40 ?_;refine tu 41 ?_;refine tu 42 ?_;refine tu 43 ?_;refine tk 44 ?_;refine aT ?_;go_wp2_with fail;go_ret
     exact⟨by rw[HN.out];rfl,by assumption⟩
    ·by_cases hc2:N≤dy
     ·have hq:q=false:=by rw[←HT2.out,cB (by omega:¬dy<N)];simp
      have HN:=ae hq;have f1:decide (dy<0)=false:=cB hc1;have f2:decide (N≤dy)=true:=cT hc2;clear hq hc1 hc2;go_upto_region 6 with fail;have k1:=hB.drew;have k2:=K1.drew;have k3:=K2.drew;refine bF (S:=(fun w'=>(Below w.heap.size w w'∧ah w' w.heap.size 23 #[.int .i64 N]∧ah w' (w.heap.size+1) 28 #[.int .i64 ed,.slice (some ⟨g1,o1,none⟩) l.length co,.slice (some ⟨g2,o2,none⟩) m.length cb,.slice aw sl cs])∧w'.cell? ⟨w.heap.size,0,none⟩=some (.int .i64 N)∧w'.cell? ⟨w.heap.size+1,2,none⟩=some (.slice (some ⟨g2,o2,none⟩) m.length cb)∧w'.cell? ⟨w.heap.size+1,1,none⟩=some (.slice (some ⟨g1,o1,none⟩) l.length co)∧w'.cell? ⟨g1,o1+(i+1),none⟩=some (.int .i64 dy)∧w'.cell? ⟨g1,o1+i,none⟩=some (.int .i64 la))) (by kernel_rfl) (by(try dsimp only);(refine⟨⟨?_,?_,?_⟩,?_,?_,?_,?_,?_⟩<;>assumption)) (fun hHeld=>?_);refine tk 0 ?_;refine tk 1 ?_;refine tk 2 ?_;refine tk 3 ?_;refine tk 4 ?_;refine tk 5 ?_;refine tk 6 ?_;refine tk 7 ?_;refine tk 8 ?_;refine tk 9 ?_;refine tk 10 ?_;refine tk 11 ?_;refine tk 12 ?_;refine tk 13 ?_;refine tk 14 ?_;refine tk 15 ?_;refine tk 16 ?_;refine tu 17 ?_;refine tu 18 ?_;refine tu 19 ?_;refine tu 20 ?_;refine tu 21 ?_;refine tu 22 ?_;refine tu 23 ?_;refine tu 24 ?_;refine tu 25 ?_;refine tu 26 ?_;refine tu 27 ?_;refine tu 28 ?_;refine tu 29 ?_;refine tu 30 ?_;refine tu 31 ?_;refine tu 32 ?_;refine tk 33 ?_;refine tk 34 ?_;refine tu 35 ?_;refine tu 36 ?_;refine tu 37 ?_;refine tu 38 ?_;refine tu 39 ?_;refine tu 40 ?_;refine tu 41 ?_;refine tu 42 ?_;refine tu 43 ?_;refine tk 44 ?_;refine aT ?_;go_wp2_with fail;go_ret
      exact⟨by rw[HN.out];rfl,by assumption⟩
     ·by_cases hc3:dy≤la
      ·have hq:q=false:=by rw[←HT2.out,cB (by omega:¬la<dy)];rfl
       have HN:=ae hq;have f1:decide (dy<0)=false:=cB hc1;have f2:decide (N≤dy)=false:=cB hc2;have f3:decide (dy≤la)=true:=cT hc3;clear hq hc1 hc2 hc3;go_upto_region 6 with fail;have k1:=hB.drew;have k2:=K1.drew;have k3:=K2.drew;refine bF (S:=(fun w'=>(Below w.heap.size w w'∧ah w' w.heap.size 23 #[.int .i64 N]∧ah w' (w.heap.size+1) 28 #[.int .i64 ed,.slice (some ⟨g1,o1,none⟩) l.length co,.slice (some ⟨g2,o2,none⟩) m.length cb,.slice aw sl cs])∧w'.cell? ⟨w.heap.size,0,none⟩=some (.int .i64 N)∧w'.cell? ⟨w.heap.size+1,2,none⟩=some (.slice (some ⟨g2,o2,none⟩) m.length cb)∧w'.cell? ⟨w.heap.size+1,1,none⟩=some (.slice (some ⟨g1,o1,none⟩) l.length co)∧w'.cell? ⟨g1,o1+(i+1),none⟩=some (.int .i64 dy)∧w'.cell? ⟨g1,o1+i,none⟩=some (.int .i64 la))) (by kernel_rfl) (by(try dsimp only);(refine⟨⟨?_,?_,?_⟩,?_,?_,?_,?_,?_⟩<;>assumption)) (fun hHeld=>?_);refine tk 0 ?_;refine tk 1 ?_;refine tk 2 ?_;refine tk 3 ?_;refine tk 4 ?_;refine tk 5 ?_;refine tk 6 ?_;refine tk 7 ?_;refine tk 8 ?_;refine tk 9 ?_;refine tk 10 ?_;refine tk 11 ?_;refine tk 12 ?_;refine tk 13 ?_;refine tk 14 ?_;refine tk 15 ?_;refine tk 16 ?_;refine tk 17 ?_;refine tk 18 ?_;refine tk 19 ?_;refine tk 20 ?_;refine tk 21 ?_;refine tk 22 ?_;refine tk 23 ?_;refine tk 24 ?_;refine tk 25 ?_;refine tk 26 ?_;refine tk 27 ?_;refine tk 28 ?_;refine tk 29 ?_;refine tk 30 ?_;refine tk 31 ?_;refine tk 32 ?_;refine tk 33 ?_;refine tk 34 ?_;refine tu 35 ?_;refine tu 36 ?_;refine tu 37 ?_;refine tu 38 ?_;refine tu 39 ?_;refine tu 40 ?_;refine tu 41 ?_;refine tu 42 ?_;refine tu 43 ?_;refine tk 44 ?_;refine aT ?_;go_wp2_with fail;go_ret
       exact⟨by rw[HN.out];rfl,by assumption⟩
      ·have yT:(fH x N&&gI N dy (l.drop (i+1+1)) (m.drop (i+1+1)))=q:=by
        have:=HT2.out;rwa [cT (by omega:la<dy),cT (by omega:dy<N),fx,fx]at this
       have HT3:=ae yT;have f1:decide (dy<0)=false:=cB hc1;have f2:decide (N≤dy)=false:=cB hc2;have f3:decide (dy≤la)=false:=cB hc3;have HG2:Hid (-1≤qG l (i+1+1)):=ae (by rw[HP.out];omega);clear yT HT2 hc1 hc2 hc3;cases hO:fH x N
       ·have hq:q=false:=by rw[←HT3.out,hO];rfl
        have HN:=ae hq;clear hq;have SU:dr (fH x N)=2:=by rw[hO];rfl
        go_upto_region 6 with fail;have k1:=hB.drew;have k2:=K1.drew;have k3:=K2.drew;refine bF (S:=(fun w'=>(Below w.heap.size w w'∧ah w' w.heap.size 23 #[.int .i64 N]∧ah w' (w.heap.size+1) 28 #[.int .i64 ed,.slice (some ⟨g1,o1,none⟩) l.length co,.slice (some ⟨g2,o2,none⟩) m.length cb,.slice aw sl cs])∧w'.cell? ⟨w.heap.size,0,none⟩=some (.int .i64 N)∧w'.cell? ⟨w.heap.size+1,2,none⟩=some (.slice (some ⟨g2,o2,none⟩) m.length cb)∧w'.cell? ⟨w.heap.size+1,1,none⟩=some (.slice (some ⟨g1,o1,none⟩) l.length co)∧w'.cell? ⟨g1,o1+(i+1),none⟩=some (.int .i64 dy)∧w'.cell? ⟨g1,o1+i,none⟩=some (.int .i64 la))) (by kernel_rfl) (by(try dsimp only);(refine⟨⟨?_,?_,?_⟩,?_,?_,?_,?_,?_⟩<;>assumption)) (fun hHeld=>?_);refine tk 0 ?_;refine tk 1 ?_;refine tk 2 ?_;refine tk 3 ?_;refine tk 4 ?_;refine tk 5 ?_;refine tk 6 ?_;refine tk 7 ?_;refine tk 8 ?_;refine tk 9 ?_;refine tk 10 ?_;refine tk 11 ?_;refine tk 12 ?_;refine tk 13 ?_;refine tk 14 ?_;refine tk 15 ?_;refine tk 16 ?_;refine tk 17 ?_;refine tk 18 ?_;refine tk 19 ?_;refine tk 20 ?_;refine tk 21 ?_;refine tk 22 ?_;refine tk 23 ?_;refine tk 24 ?_;refine tk 25 ?_;refine tk 26 ?_;refine tk 27 ?_;refine tk 28 ?_;refine tk 29 ?_;refine tk 30 ?_;refine tk 31 ?_;refine tk 32 ?_;refine tk 33 ?_;refine tk 34 ?_;refine tk 35 ?_;refine tk 36 ?_;refine tk 37 ?_;refine tk 38 ?_;refine ty 39 rfl (cY (by rfl) 62 _ rfl _ _ rfl x.cells _ (fun w' h=>dE HR.out h.1.1 hgo) dH rfl (by rw[aK.len hxo];kernel_rfl)) ?_;refine tk 40 ?_;refine tk 41 ?_;refine rd 42 fun K hK=>?_;go_simp
        (refine(mU x hxo SS N _).mono ?_;rintro e w' ⟨rfl,hb⟩;obtain⟨⟨z1,z2,z3⟩,z4,z5,z6⟩:=vA hHeld.1 hb;have z7:=(z1.cell (p:=⟨g1,o1+(i+1),none⟩) hg1).trans xu.out;have z8:=(z1.cell (p:=⟨g1,o1+i,none⟩) hg1).trans vt.out;clear hb)
        go_wp2_with fail;refine hK.out _ _ (by(try dsimp only);(refine⟨⟨?_,?_,?_⟩,?_,?_,?_,?_,?_⟩<;>assumption)) (fun hHeld=>?_);clear hK K;refine tk 43 ?_;refine tk 44 ?_;refine aT ?_;go_wp2_with fail;go_ret
        exact⟨by rw[HN.out];rfl,by assumption⟩
       ·have Aw:=HT3.out;rw[hO,fx,←HP.out]at Aw;have GD:=ae Aw;clear Aw;have SU:dr (fH x N)=0:=by rw[hO];rfl
        go_upto_region 6 with fail;have k1:=hB.drew;have k2:=K1.drew;have k3:=K2.drew;refine bF (S:=(fun w'=>(Below w.heap.size w w'∧ah w' w.heap.size 23 #[.int .i64 N]∧ah w' (w.heap.size+1) 28 #[.int .i64 ed,.slice (some ⟨g1,o1,none⟩) l.length co,.slice (some ⟨g2,o2,none⟩) m.length cb,.slice aw sl cs])∧w'.cell? ⟨w.heap.size,0,none⟩=some (.int .i64 N)∧w'.cell? ⟨w.heap.size+1,2,none⟩=some (.slice (some ⟨g2,o2,none⟩) m.length cb)∧w'.cell? ⟨w.heap.size+1,1,none⟩=some (.slice (some ⟨g1,o1,none⟩) l.length co)∧w'.cell? ⟨g1,o1+(i+1),none⟩=some (.int .i64 dy)∧w'.cell? ⟨g1,o1+i,none⟩=some (.int .i64 la))) (by kernel_rfl) (by(try dsimp only);(refine⟨⟨?_,?_,?_⟩,?_,?_,?_,?_,?_⟩<;>assumption)) (fun hHeld=>?_);refine tk 0 ?_;refine tk 1 ?_;refine tk 2 ?_;refine tk 3 ?_;refine tk 4 ?_;refine tk 5 ?_;refine tk 6 ?_;refine tk 7 ?_;refine tk 8 ?_;refine tk 9 ?_;refine tk 10 ?_;refine tk 11 ?_;refine tk 12 ?_;refine tk 13 ?_;refine tk 14 ?_;refine tk 15 ?_;refine tk 16 ?_;refine tk 17 ?_;refine tk 18 ?_;refine tk 19 ?_;refine tk 20 ?_;refine tk 21 ?_;refine tk 22 ?_;refine tk 23 ?_;refine tk 24 ?_;refine tk 25 ?_;refine tk 26 ?_;refine tk 27 ?_;refine tk 28 ?_;refine tk 29 ?_;refine tk 30 ?_;refine tk 31 ?_;refine tk 32 ?_;refine tk 33 ?_;refine tk 34 ?_;refine tk 35 ?_;refine tk 36 ?_;refine tk 37 ?_;refine tk 38 ?_;refine ty 39 rfl (cY (by rfl) 62 _ rfl _ _ rfl x.cells _ (fun w' h=>dE HR.out h.1.1 hgo) dH rfl (by rw[aK.len hxo];kernel_rfl)) ?_;refine tk 40 ?_;refine tk 41 ?_;refine rd 42 fun K hK=>?_;go_simp
        (refine(mU x hxo SS N _).mono ?_;rintro e w' ⟨rfl,hb⟩;obtain⟨⟨z1,z2,z3⟩,z4,z5,z6⟩:=vA hHeld.1 hb;have z7:=(z1.cell (p:=⟨g1,o1+(i+1),none⟩) hg1).trans xu.out;have z8:=(z1.cell (p:=⟨g1,o1+i,none⟩) hg1).trans vt.out;clear hb)
        go_wp2_with fail;refine hK.out _ _ (by(try dsimp only);(refine⟨⟨?_,?_,?_⟩,?_,?_,?_,?_,?_⟩<;>assumption)) (fun hHeld=>?_);clear hK K;refine tk 43 ?_;refine tk 44 ?_;refine aT ?_;go_wp2_with fail;exact⟨⟨i+1+1,by omega,by go_num,GD,HG2,by assumption,by assumption,by assumption⟩,by simp[intOf]<;>omega⟩
  ·obtain rfl:j=l.length:=by omega
   have hq:q=true:=by
    rw[←HT.out];exact Gp N _ l m l.length rfl Km.out.symm
   have HN:=ae hq;clear hq;go_wp2_with fail;go_ret
   exact⟨by rw[HN.out];rfl,hB⟩
theorem PO (N ed:Int) (n m sl:Nat) (ao ab aw:Option Addr) (co cb cs:Nat) (w:World) (hpre:(aZ N&&fu N ed n m sl)=false) :
 Calls Tryz.prog 13 #[.agg #[.int .i64 N],.agg #[.int .i64 ed,.slice ao n co,.slice ab m cb,.slice aw sl cs]] w fun e w' =>
 e=.returned (.int .i64 2)∧Below w.heap.size w w':=by
 have hs:aZ N=false∨(aZ N=true∧(ed<0∨(¬ed<0∧((n:Int) != (m:Int))=true)∨(¬ed<0∧((n:Int) != (m:Int))=false∧(sl:Int)>4096)∨(¬ed<0∧((n:Int) != (m:Int))=false∧¬ (sl:Int)>4096∧(n:Int)>N))):=by
  cases hR:aZ N
  ·exact .inl rfl
  ·right
   rw[hR,fx]at hpre;refine⟨rfl,?_⟩;simp[fu]at hpre;simp;omega
 clear hpre;rcases hs with hR | ⟨hR,hs⟩
 ·go_enter JJ,Js
  go_wp2_with fail;refine(qp N _).mono ?_;rintro e w1 ⟨rfl,hb⟩;have hB:=(((ax w.heap.size w).alloc (ai _) (.cells #[.int .i64 N] 23)).alloc (by simp) (.cells #[.int .i64 ed,.slice ao n co,.slice ab m cb,.slice aw sl cs] 28)).trans (hb.mono (by simp;omega));have he2:dr false=2:=rfl;rw[hR];go_wp2_with fail;go_ret
  exact⟨rfl,hB⟩
 ·rcases hs with h1 | ⟨h1,h2⟩ | ⟨h1,h2,h3⟩ | ⟨h1,h2,h3,h4⟩
  all_goals
   go_enter JJ,Js
   go_wp2_with fail;refine(qp N _).mono ?_;rintro e w1 ⟨rfl,hb⟩;have K1:ah w1 w.heap.size 23 #[.int .i64 N]:=((ah.new w _ _).alloc _).below hb (by simp;omega);have K2:ah w1 (w.heap.size+1) 28 #[.int .i64 ed,.slice ao n co,.slice ab m cb,.slice aw sl cs]:=(ah.new2 w _ _ _).below hb (by simp);have hB:=(((ax w.heap.size w).alloc (ai _) (.cells #[.int .i64 N] 23)).alloc (by simp) (.cells #[.int .i64 ed,.slice ao n co,.slice ab m cb,.slice aw sl cs] 28)).trans (hb.mono (by simp;omega));have c0:=K1.ag 0 rfl;have d0:=K2.ag 0 rfl;have d1:=K2.ag 1 rfl;have d2:=K2.ag 2 rfl;have d3:=K2.ag 3 rfl;have he:dr true=0:=rfl;rw[hR];clear hb K1 K2;go_wp2_with fail;go_ret
   exact⟨rfl,hB⟩
theorem Nf (N:Int) (f:bY) (v:Value) (w:World) (h:cL w w.heap.size v f):Calls Tryz.prog 13 #[.agg #[.int .i64 N],v] w fun e w'=>e=.returned (.int .i64 (dr (gh N f)))∧Below w.heap.size w w':=by
 obtain⟨vo,vb,vs,rfl,h1,h2,h3⟩:=h;obtain⟨_,ao,co,e1,_,_⟩:=id h1;obtain⟨_,ab,cb,e2,_,_⟩:=id h2;obtain⟨_,aw,cs,e3,_,_⟩:=id h3;subst e1 e2 e3;have e:gh N f=((aZ N&&fu N f.ed f.bj.length f.objs.length f.state.length)&&gI N (-1) f.bj f.objs):=by
  unfold gh;rw[Jc]
 rw[e];cases hp:(aZ N&&fu N f.ed f.bj.length f.objs.length f.state.length)
 ·exact PO N f.ed _ _ _ ao ab aw co cb cs w hp
 ·rw[fx];exact Nd N f.ed f.bj f.objs _ ao ab aw co cb cs w h1 h2 hp
end Go.Proofs.YtdpniceapmikpaaGreat
