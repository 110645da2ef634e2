/-
  The contract of codec's reader.key.
-/
import Derived.Test.YtdpniceapmikpaaGreatRd1
import Derived.Test.YtdpniceapmikpaaGreatRd4
import Derived.Test.YtdpniceapmikpaaGreatRd6
import Derived.Defers
import Derived.Recover
import Derived.Shelf.SlicesE.IndexFunc
import Derived.Deep.RegionHeld
import Derived.Laws.IdiomStrings
set_option linter.unusedVariables false
set_option linter.unusedSimpArgs false
set_option maxRecDepth 100000
set_option maxHeartbeats 32000000
namespace Go.Proofs.YtdpniceapmikpaaGreat
open Go.RowKit
def keyOf (l:List UInt8):bx:=⟨aW ((l.drop 0).take 1),aW ((l.drop 2).take 2),aW ((l.drop 4).take 4),aW ((l.drop 8).take 4),aW ((l.drop 1).take 1),IntKind.i64.wrap (aW ((l.drop 12).take 8))⟩
def Ih (x:bx) (j:Nat):Array Value:=#[.int .i64 (if 0<j then x.k else 0),.int .i64 (if 2<j then x.o else 0),.int .i64 (if 3<j then x.c else 0),.int .i64 (if 4<j then x.a else 0),.int .i64 (if 1<j then x.r else 0),.int .i64 (if 5<j then x.v else 0)]
theorem iX (l:List UInt8) (k:Nat):aW (l.take k)<256^k:=kK (iJ _) (rR (by omega) (by rw[bD];omega))
theorem nR (n k:Nat) (h:n<256^k) (hk:k≤4):IntKind.i64.wrap (n:Int)=(n:Int):=by
 have h2:256^k≤256^4:=rR (by omega) hk;have h3:(256:Nat)^4=4294967296:=by decide
 rw[cz];omega
theorem aes (g:Nat) (t:TypeId) (X:Array Value) (u:Value) (n:Nat) (y:Int) (hy:IntKind.i64.wrap (n:Int)=y) (w:World) (h:ah w g t X) (hu:X[0]? = some u):Calls Tryz.prog 154 #[ptr g,.int .u64 (n:Int)] w fun e w'=>e=.returned (.tuple #[])∧w'=w.setCell ⟨g,0,none⟩ (.int .i64 y):=by
 have c:w.cell? ⟨g,0,none⟩=some u:=h.ag 0 hu;have f:=h.frozen 0;unfold ptr;clear h hu;go_enter Tryz.func154,Tryz.ntmps154
 go_wp2_with fail;exact jE (v:=.tuple #[]) (by simp[results,Tryz.results154,go_sem]) rfl ⟨rfl,rfl⟩
theorem aet (g:Nat) (t:TypeId) (X:Array Value) (u:Value) (n:Nat) (y:Int) (hy:IntKind.i64.wrap (n:Int)=y) (w:World) (h:ah w g t X) (hu:X[4]? = some u):Calls Tryz.prog 156 #[ptr g,.int .u64 (n:Int)] w fun e w'=>e=.returned (.tuple #[])∧w'=w.setCell ⟨g,4,none⟩ (.int .i64 y):=by
 have c:w.cell? ⟨g,4,none⟩=some u:=h.ag 4 hu;have f:=h.frozen 4;unfold ptr;clear h hu;go_enter Tryz.func156,Tryz.ntmps156
 go_wp2_with fail;exact jE (v:=.tuple #[]) (by simp[results,Tryz.results156,go_sem]) rfl ⟨rfl,rfl⟩
theorem aeu (g:Nat) (t:TypeId) (X:Array Value) (u:Value) (n:Nat) (y:Int) (hy:IntKind.i64.wrap (n:Int)=y) (w:World) (h:ah w g t X) (hu:X[1]? = some u):Calls Tryz.prog 158 #[ptr g,.int .u64 (n:Int)] w fun e w'=>e=.returned (.tuple #[])∧w'=w.setCell ⟨g,1,none⟩ (.int .i64 y):=by
 have c:w.cell? ⟨g,1,none⟩=some u:=h.ag 1 hu;have f:=h.frozen 1;unfold ptr;clear h hu;go_enter Tryz.func158,Tryz.ntmps158
 go_wp2_with fail;exact jE (v:=.tuple #[]) (by simp[results,Tryz.results158,go_sem]) rfl ⟨rfl,rfl⟩
theorem aev (g:Nat) (t:TypeId) (X:Array Value) (u:Value) (n:Nat) (y:Int) (hy:IntKind.i64.wrap (n:Int)=y) (w:World) (h:ah w g t X) (hu:X[2]? = some u):Calls Tryz.prog 160 #[ptr g,.int .u64 (n:Int)] w fun e w'=>e=.returned (.tuple #[])∧w'=w.setCell ⟨g,2,none⟩ (.int .i64 y):=by
 have c:w.cell? ⟨g,2,none⟩=some u:=h.ag 2 hu;have f:=h.frozen 2;unfold ptr;clear h hu;go_enter Tryz.func160,Tryz.ntmps160
 go_wp2_with fail;exact jE (v:=.tuple #[]) (by simp[results,Tryz.results160,go_sem]) rfl ⟨rfl,rfl⟩
theorem aew (g:Nat) (t:TypeId) (X:Array Value) (u:Value) (n:Nat) (y:Int) (hy:IntKind.i64.wrap (n:Int)=y) (w:World) (h:ah w g t X) (hu:X[3]? = some u):Calls Tryz.prog 162 #[ptr g,.int .u64 (n:Int)] w fun e w'=>e=.returned (.tuple #[])∧w'=w.setCell ⟨g,3,none⟩ (.int .i64 y):=by
 have c:w.cell? ⟨g,3,none⟩=some u:=h.ag 3 hu;have f:=h.frozen 3;unfold ptr;clear h hu;go_enter Tryz.func162,Tryz.ntmps162
 go_wp2_with fail;exact jE (v:=.tuple #[]) (by simp[results,Tryz.results162,go_sem]) rfl ⟨rfl,rfl⟩
theorem aex (g:Nat) (t:TypeId) (X:Array Value) (u:Value) (n:Nat) (y:Int) (hy:IntKind.i64.wrap (n:Int)=y) (w:World) (h:ah w g t X) (hu:X[5]? = some u):Calls Tryz.prog 164 #[ptr g,.int .u64 (n:Int)] w fun e w'=>e=.returned (.tuple #[])∧w'=w.setCell ⟨g,5,none⟩ (.int .i64 y):=by
 have c:w.cell? ⟨g,5,none⟩=some u:=h.ag 5 hu;have f:=h.frozen 5;unfold ptr;clear h hu;go_enter Tryz.func164,Tryz.ntmps164
 go_wp2_with fail;exact jE (v:=.tuple #[]) (by simp[results,Tryz.results164,go_sem]) rfl ⟨rfl,rfl⟩
theorem Wi (g B:Nat) (v:Value) (l:List UInt8) (w:World) (hl:20≤l.length) (hc:ah w g 217 #[v]) (hv:BytesIn w B v l) (hB:B≤g) :
 Calls Tryz.prog 122 #[ptr g] w fun e w'=>Out (fun i=>i=g) w w'∧if iI (keyOf l).k (keyOf l).o (keyOf l).c (keyOf l).a (keyOf l).r (keyOf l).v=true then e=.returned (.agg (keyOf l).cells.toArray)∧∃v',ah w' g 217 #[v']∧BytesIn w' B v' (l.drop 20)∧iQ v'=iQ v else e=.panicked xz:=by
 have HV:=ae hv;have HC:=ae hc;have hlt:=hc.lt;have hne:g≠w.heap.size:=xc hlt;have hne1:g≠w.heap.size+1:=by omega
 unfold ptr;clear hv hc;obtain⟨x,ex⟩:∃x,x=keyOf l:=⟨_,rfl⟩;rw[←ex];have hX:x.k=(aW ((l.drop 0).take 1):Int)∧x.r=(aW ((l.drop 1).take 1):Int)∧x.o=(aW ((l.drop 2).take 2):Int)∧x.c=(aW ((l.drop 4).take 4):Int)∧x.a=(aW ((l.drop 8).take 4):Int)∧x.v=IntKind.i64.wrap (aW ((l.drop 12).take 8):Int):=by rw[ex];exact⟨rfl,rfl,rfl,rfl,rfl,rfl⟩
 have HX:=ae hX;clear ex hX;go_enter Tryz.func122,Tryz.ntmps122
 go_wp2_with fail;refine(Es _).mono ?_;rintro e w1 ⟨rfl,hb⟩;have hb1:Below w.heap.size w w1:=(((ax _ w).alloc (ai _) _).alloc (by simp) _).trans (hb.mono (by simp;omega));have oH:ah w1 w.heap.size 58 (Ih x 0):=((ah.new w _ _).alloc _).below hb (by simp;omega);have hK1:ah w1 (w.heap.size+1) 58 (Ih x 0):=(ah.new2 w _ _ _).below hb (by simp);have hsz1:w.heap.size+2≤w1.heap.size:=by have:=hb.size;simp at this;omega
 have HB1:=ae hb1;clear hb hb1;go_wp2_with fail;go_loopw [7] (fun i wr=>∃ (j:Nat) (v':Value),j≤6∧i=.int .i64 (j:Int)∧ah wr g 217 #[v']∧BytesIn wr B v' (l.drop (if j=0 then 0 else if j=1 then 1 else if j=2 then 2 else if j=3 then 4 else if j=4 then 8 else if j=5 then 12 else 20))∧Out (fun i=>i=g) w wr∧ah wr w.heap.size 58 (Ih x 0)∧ah wr (w.heap.size+1) 58 (Ih x j)∧iQ v'=iQ v) (fun i _=>6-(intOf i).toNat)
 case atStart=>exact⟨0,v,fi _,rfl,HC.out.below HB1.out hlt,HV.out.below HB1.out (by omega),aN HB1.out,oH,hK1,rfl⟩
 case round =>
  obtain⟨j,v1,hj,rfl,fJ,hV1,fz,hK1,hK2,hBL⟩:=hrel;have jM:=ae hBL;clear hBL;by_cases ahR:j<6
  ·have hcs:j=0∨j=1∨j=2∨j=3∨j=4∨j=5:=by omega
   rcases hcs with rfl | rfl | rfl | rfl | rfl | rfl
   ·have hix:=NM;have h1:(#[.int .i64 1,.func (.func 153) #[] #[],.func (.func 154) #[] #[]]:Array Value).all (·.oneCell')=true:=by kernel_rfl
    go_upto_region 5 with (refine aQ rfl 251 _ _ rfl wr.heap.size #[.int .i64 1,.func (.func 153) #[] #[],.func (.func 154) #[] #[]] rfl rfl 251 _ (bC wr _) gK rfl h1 ?_;rw[di])
    have iZ:=fJ.lt;have hltk:=hK2.lt;have fK:=ae (ah.new wr 251 #[.int .i64 1,.func (.func 153) #[] #[],.func (.func 154) #[] #[]]);have hbw:Below wr.heap.size wr (wr.alloc (.cells #[.int .i64 1,.func (.func 153) #[] #[],.func (.func 154) #[] #[]] 251)):=(ax _ wr).alloc (ai _) _;have i_:=ae (fJ.alloc (.cells #[.int .i64 1,.func (.func 153) #[] #[],.func (.func 154) #[] #[]] 251));have HRW:=ae (hK1.alloc (.cells #[.int .i64 1,.func (.func 153) #[] #[],.func (.func 154) #[] #[]] 251));have k_:=ae (hK2.alloc (.cells #[.int .i64 1,.func (.func 153) #[] #[],.func (.func 154) #[] #[]] 251));have xA:=ae ((show BytesIn wr B v1 (l.drop 0)from hV1).below hbw.drew (by omega));have fC:=ae hbw.drew;have fg:=ae (And.intro (fK.out.drew.ag 0 rfl) (fK.out.drew.ag 2 rfl));have ig:=ae fz;obtain⟨q,eq⟩:∃q,q=aW ((l.drop 0).take 1):=⟨_,rfl⟩;have nS:=ae (lB g B v1 (l.drop 0) 1 (by omega) (by rw[c_];omega) _ i_.out.drew xA.out hB);rw[←eq]at nS;have HW:=ae (show IntKind.i64.wrap (q:Int)=x.k by rw[eq,HX.out.1,nR _ _ (iX _ _) (by omega)]);clear eq;unfold ptr at nS;clear fJ hV1 fz hK1 hK2 h1 hbw oH;refine bF (S:=(fun w'=>w'.cell? ⟨wr.heap.size,0,none⟩=some (.int .i64 1)∧w'.cell? ⟨wr.heap.size,2,none⟩=some (.func (.func 154) #[] #[]))) (by kernel_rfl) (by(try dsimp only);(first | exact fg.out | exact⟨cJ.out.ag 0 rfl,cJ.out.ag 2 rfl⟩ | exact⟨(cJ.out.far (by simp;omega) _).ag 0 rfl,(cJ.out.far (by simp;omega) _).ag 2 rfl⟩)) (fun hHeld=>?_);refine tk 0 ?_;refine tk 2 ?_;refine tk 3 ?_;refine tk 1 ?_;refine tk 4 ?_;refine rd 5 fun K hK=>?_;go_simp
    (refine nS.out.mono ?_;rintro e w2 ⟨rfl,⟨v2,hC2,hV2,sF⟩,hO2⟩;have vr:=ae sF;have dK:=hO2.blk fK.out.drew (lO iZ);have cJ:=ae dK;have vt:=ae hC2;have vu:=ae hV2;have ij:=ae hO2;have HKK:=ae (hO2.blk k_.out.drew (by omega));have HRR:=ae (hO2.blk HRW.out.drew (by omega));clear dK hC2 hV2 hO2 sF)
    go_wp2_with fail;refine hK.out _ _ (by(try dsimp only);(first | exact fg.out | exact⟨cJ.out.ag 0 rfl,cJ.out.ag 2 rfl⟩ | exact⟨(cJ.out.far (by simp;omega) _).ag 0 rfl,(cJ.out.far (by simp;omega) _).ag 2 rfl⟩)) (fun hHeld=>?_);clear hK K;refine rd 6 fun K hK=>?_;go_simp
    (refine(aes (w.heap.size+1) _ _ _ _ x.k HW.out _ HKK.out rfl).mono ?_;rintro e w3 ⟨rfl,rfl⟩)
    go_wp2_with fail;refine hK.out _ _ (by(try dsimp only);(first | exact fg.out | exact⟨cJ.out.ag 0 rfl,cJ.out.ag 2 rfl⟩ | exact⟨(cJ.out.far (by simp;omega) _).ag 0 rfl,(cJ.out.far (by simp;omega) _).ag 2 rfl⟩)) (fun hHeld=>?_);clear hK K;refine aT ?_;go_wp2_with fail;go_roundw
    case rel=>exact⟨1,v2,by omega,rfl,vt.out.far (by simp;omega) _,(by have h:=vu.out.below (C:=w.heap.size+1) ((bk (F:=fun i=>i=w.heap.size+1) (i:=0) (v:=.int .i64 x.k) rfl).below (by have:=HKK.out.lt;omega) (fun i hi e=>by omega)) (by omega);rw[og]at h;exact h),((ig.out.trans (G:=fun _=>False) (aN fC.out) (fun _ _=>False.elim)).trans ij.out (fun _ _ h=>h)).trans (G:=fun i=>i=w.heap.size+1) (bk rfl) (fun i hi e=>by omega),HRR.out.far (by simp) _,HKK.out.br 0 _,vr.out.trans jM.out⟩
    case measure=>simp[intOf]
   ·have hix:=NN;have h1:(#[.int .i64 1,.func (.func 155) #[] #[],.func (.func 156) #[] #[]]:Array Value).all (·.oneCell')=true:=by kernel_rfl
    go_upto_region 5 with (refine aQ rfl 251 _ _ rfl wr.heap.size #[.int .i64 1,.func (.func 155) #[] #[],.func (.func 156) #[] #[]] rfl rfl 251 _ (bC wr _) gK rfl h1 ?_;rw[di])
    have iZ:=fJ.lt;have hltk:=hK2.lt;have fK:=ae (ah.new wr 251 #[.int .i64 1,.func (.func 155) #[] #[],.func (.func 156) #[] #[]]);have hbw:Below wr.heap.size wr (wr.alloc (.cells #[.int .i64 1,.func (.func 155) #[] #[],.func (.func 156) #[] #[]] 251)):=(ax _ wr).alloc (ai _) _;have i_:=ae (fJ.alloc (.cells #[.int .i64 1,.func (.func 155) #[] #[],.func (.func 156) #[] #[]] 251));have HRW:=ae (hK1.alloc (.cells #[.int .i64 1,.func (.func 155) #[] #[],.func (.func 156) #[] #[]] 251));have k_:=ae (hK2.alloc (.cells #[.int .i64 1,.func (.func 155) #[] #[],.func (.func 156) #[] #[]] 251));have xA:=ae ((show BytesIn wr B v1 (l.drop 1)from hV1).below hbw.drew (by omega));have fC:=ae hbw.drew;have fg:=ae (And.intro (fK.out.drew.ag 0 rfl) (fK.out.drew.ag 2 rfl));have ig:=ae fz;obtain⟨q,eq⟩:∃q,q=aW ((l.drop 1).take 1):=⟨_,rfl⟩;have nS:=ae (lB g B v1 (l.drop 1) 1 (by omega) (by rw[c_];omega) _ i_.out.drew xA.out hB);rw[←eq]at nS;have HW:=ae (show IntKind.i64.wrap (q:Int)=x.r by rw[eq,HX.out.2.1,nR _ _ (iX _ _) (by omega)]);clear eq;unfold ptr at nS;clear fJ hV1 fz hK1 hK2 h1 hbw oH;refine bF (S:=(fun w'=>w'.cell? ⟨wr.heap.size,0,none⟩=some (.int .i64 1)∧w'.cell? ⟨wr.heap.size,2,none⟩=some (.func (.func 156) #[] #[]))) (by kernel_rfl) (by(try dsimp only);(first | exact fg.out | exact⟨cJ.out.ag 0 rfl,cJ.out.ag 2 rfl⟩ | exact⟨(cJ.out.far (by simp;omega) _).ag 0 rfl,(cJ.out.far (by simp;omega) _).ag 2 rfl⟩)) (fun hHeld=>?_);refine tk 0 ?_;refine tk 2 ?_;refine tk 3 ?_;refine tk 1 ?_;refine tk 4 ?_;refine rd 5 fun K hK=>?_;go_simp
    (refine nS.out.mono ?_;rintro e w2 ⟨rfl,⟨v2,hC2,hV2,sF⟩,hO2⟩;have vr:=ae sF;have dK:=hO2.blk fK.out.drew (lO iZ);have cJ:=ae dK;have vt:=ae hC2;have vu:=ae hV2;have ij:=ae hO2;have HKK:=ae (hO2.blk k_.out.drew (by omega));have HRR:=ae (hO2.blk HRW.out.drew (by omega));clear dK hC2 hV2 hO2 sF)
    go_wp2_with fail;refine hK.out _ _ (by(try dsimp only);(first | exact fg.out | exact⟨cJ.out.ag 0 rfl,cJ.out.ag 2 rfl⟩ | exact⟨(cJ.out.far (by simp;omega) _).ag 0 rfl,(cJ.out.far (by simp;omega) _).ag 2 rfl⟩)) (fun hHeld=>?_);clear hK K;refine rd 6 fun K hK=>?_;go_simp
    (refine(aet (w.heap.size+1) _ _ _ _ x.r HW.out _ HKK.out rfl).mono ?_;rintro e w3 ⟨rfl,rfl⟩)
    go_wp2_with fail;refine hK.out _ _ (by(try dsimp only);(first | exact fg.out | exact⟨cJ.out.ag 0 rfl,cJ.out.ag 2 rfl⟩ | exact⟨(cJ.out.far (by simp;omega) _).ag 0 rfl,(cJ.out.far (by simp;omega) _).ag 2 rfl⟩)) (fun hHeld=>?_);clear hK K;refine aT ?_;go_wp2_with fail;go_roundw
    case rel=>exact⟨2,v2,by omega,rfl,vt.out.far (by simp;omega) _,(by have h:=vu.out.below (C:=w.heap.size+1) ((bk (F:=fun i=>i=w.heap.size+1) (i:=4) (v:=.int .i64 x.r) rfl).below (by have:=HKK.out.lt;omega) (fun i hi e=>by omega)) (by omega);rw[og]at h;exact h),((ig.out.trans (G:=fun _=>False) (aN fC.out) (fun _ _=>False.elim)).trans ij.out (fun _ _ h=>h)).trans (G:=fun i=>i=w.heap.size+1) (bk rfl) (fun i hi e=>by omega),HRR.out.far (by simp) _,HKK.out.br 4 _,vr.out.trans jM.out⟩
    case measure=>simp[intOf]
   ·have hix:=NO;have h1:(#[.int .i64 2,.func (.func 157) #[] #[],.func (.func 158) #[] #[]]:Array Value).all (·.oneCell')=true:=by kernel_rfl
    go_upto_region 5 with (refine aQ rfl 251 _ _ rfl wr.heap.size #[.int .i64 2,.func (.func 157) #[] #[],.func (.func 158) #[] #[]] rfl rfl 251 _ (bC wr _) gK rfl h1 ?_;rw[di])
    have iZ:=fJ.lt;have hltk:=hK2.lt;have fK:=ae (ah.new wr 251 #[.int .i64 2,.func (.func 157) #[] #[],.func (.func 158) #[] #[]]);have hbw:Below wr.heap.size wr (wr.alloc (.cells #[.int .i64 2,.func (.func 157) #[] #[],.func (.func 158) #[] #[]] 251)):=(ax _ wr).alloc (ai _) _;have i_:=ae (fJ.alloc (.cells #[.int .i64 2,.func (.func 157) #[] #[],.func (.func 158) #[] #[]] 251));have HRW:=ae (hK1.alloc (.cells #[.int .i64 2,.func (.func 157) #[] #[],.func (.func 158) #[] #[]] 251));have k_:=ae (hK2.alloc (.cells #[.int .i64 2,.func (.func 157) #[] #[],.func (.func 158) #[] #[]] 251));have xA:=ae ((show BytesIn wr B v1 (l.drop 2)from hV1).below hbw.drew (by omega));have fC:=ae hbw.drew;have fg:=ae (And.intro (fK.out.drew.ag 0 rfl) (fK.out.drew.ag 2 rfl));have ig:=ae fz;obtain⟨q,eq⟩:∃q,q=aW ((l.drop 2).take 2):=⟨_,rfl⟩;have nS:=ae (lB g B v1 (l.drop 2) 2 (by omega) (by rw[c_];omega) _ i_.out.drew xA.out hB);rw[←eq]at nS;have HW:=ae (show IntKind.i64.wrap (q:Int)=x.o by rw[eq,HX.out.2.2.1,nR _ _ (iX _ _) (by omega)]);clear eq;unfold ptr at nS;clear fJ hV1 fz hK1 hK2 h1 hbw oH;refine bF (S:=(fun w'=>w'.cell? ⟨wr.heap.size,0,none⟩=some (.int .i64 2)∧w'.cell? ⟨wr.heap.size,2,none⟩=some (.func (.func 158) #[] #[]))) (by kernel_rfl) (by(try dsimp only);(first | exact fg.out | exact⟨cJ.out.ag 0 rfl,cJ.out.ag 2 rfl⟩ | exact⟨(cJ.out.far (by simp;omega) _).ag 0 rfl,(cJ.out.far (by simp;omega) _).ag 2 rfl⟩)) (fun hHeld=>?_);refine tk 0 ?_;refine tk 2 ?_;refine tk 3 ?_;refine tk 1 ?_;refine tk 4 ?_;refine rd 5 fun K hK=>?_;go_simp
    (refine nS.out.mono ?_;rintro e w2 ⟨rfl,⟨v2,hC2,hV2,sF⟩,hO2⟩;have vr:=ae sF;have dK:=hO2.blk fK.out.drew (lO iZ);have cJ:=ae dK;have vt:=ae hC2;have vu:=ae hV2;have ij:=ae hO2;have HKK:=ae (hO2.blk k_.out.drew (by omega));have HRR:=ae (hO2.blk HRW.out.drew (by omega));clear dK hC2 hV2 hO2 sF)
    go_wp2_with fail;refine hK.out _ _ (by(try dsimp only);(first | exact fg.out | exact⟨cJ.out.ag 0 rfl,cJ.out.ag 2 rfl⟩ | exact⟨(cJ.out.far (by simp;omega) _).ag 0 rfl,(cJ.out.far (by simp;omega) _).ag 2 rfl⟩)) (fun hHeld=>?_);clear hK K;refine rd 6 fun K hK=>?_;go_simp
    (refine(aeu (w.heap.size+1) _ _ _ _ x.o HW.out _ HKK.out rfl).mono ?_;rintro e w3 ⟨rfl,rfl⟩)
    go_wp2_with fail;refine hK.out _ _ (by(try dsimp only);(first | exact fg.out | exact⟨cJ.out.ag 0 rfl,cJ.out.ag 2 rfl⟩ | exact⟨(cJ.out.far (by simp;omega) _).ag 0 rfl,(cJ.out.far (by simp;omega) _).ag 2 rfl⟩)) (fun hHeld=>?_);clear hK K;refine aT ?_;go_wp2_with fail;go_roundw
    case rel=>exact⟨3,v2,by omega,rfl,vt.out.far (by simp;omega) _,(by have h:=vu.out.below (C:=w.heap.size+1) ((bk (F:=fun i=>i=w.heap.size+1) (i:=1) (v:=.int .i64 x.o) rfl).below (by have:=HKK.out.lt;omega) (fun i hi e=>by omega)) (by omega);rw[og]at h;exact h),((ig.out.trans (G:=fun _=>False) (aN fC.out) (fun _ _=>False.elim)).trans ij.out (fun _ _ h=>h)).trans (G:=fun i=>i=w.heap.size+1) (bk rfl) (fun i hi e=>by omega),HRR.out.far (by simp) _,HKK.out.br 1 _,vr.out.trans jM.out⟩
    case measure=>simp[intOf]
   ·have hix:=NP;have h1:(#[.int .i64 4,.func (.func 159) #[] #[],.func (.func 160) #[] #[]]:Array Value).all (·.oneCell')=true:=by kernel_rfl
    go_upto_region 5 with (refine aQ rfl 251 _ _ rfl wr.heap.size #[.int .i64 4,.func (.func 159) #[] #[],.func (.func 160) #[] #[]] rfl rfl 251 _ (bC wr _) gK rfl h1 ?_;rw[di])
    have iZ:=fJ.lt;have hltk:=hK2.lt;have fK:=ae (ah.new wr 251 #[.int .i64 4,.func (.func 159) #[] #[],.func (.func 160) #[] #[]]);have hbw:Below wr.heap.size wr (wr.alloc (.cells #[.int .i64 4,.func (.func 159) #[] #[],.func (.func 160) #[] #[]] 251)):=(ax _ wr).alloc (ai _) _;have i_:=ae (fJ.alloc (.cells #[.int .i64 4,.func (.func 159) #[] #[],.func (.func 160) #[] #[]] 251));have HRW:=ae (hK1.alloc (.cells #[.int .i64 4,.func (.func 159) #[] #[],.func (.func 160) #[] #[]] 251));have k_:=ae (hK2.alloc (.cells #[.int .i64 4,.func (.func 159) #[] #[],.func (.func 160) #[] #[]] 251));have xA:=ae ((show BytesIn wr B v1 (l.drop 4)from hV1).below hbw.drew (by omega));have fC:=ae hbw.drew;have fg:=ae (And.intro (fK.out.drew.ag 0 rfl) (fK.out.drew.ag 2 rfl));have ig:=ae fz;obtain⟨q,eq⟩:∃q,q=aW ((l.drop 4).take 4):=⟨_,rfl⟩;have nS:=ae (lB g B v1 (l.drop 4) 4 (by omega) (by rw[c_];omega) _ i_.out.drew xA.out hB);rw[←eq]at nS;have HW:=ae (show IntKind.i64.wrap (q:Int)=x.c by rw[eq,HX.out.2.2.2.1,nR _ _ (iX _ _) (by omega)]);clear eq;unfold ptr at nS;clear fJ hV1 fz hK1 hK2 h1 hbw oH;refine bF (S:=(fun w'=>w'.cell? ⟨wr.heap.size,0,none⟩=some (.int .i64 4)∧w'.cell? ⟨wr.heap.size,2,none⟩=some (.func (.func 160) #[] #[]))) (by kernel_rfl) (by(try dsimp only);(first | exact fg.out | exact⟨cJ.out.ag 0 rfl,cJ.out.ag 2 rfl⟩ | exact⟨(cJ.out.far (by simp;omega) _).ag 0 rfl,(cJ.out.far (by simp;omega) _).ag 2 rfl⟩)) (fun hHeld=>?_);refine tk 0 ?_;refine tk 2 ?_;refine tk 3 ?_;refine tk 1 ?_;refine tk 4 ?_;refine rd 5 fun K hK=>?_;go_simp
    (refine nS.out.mono ?_;rintro e w2 ⟨rfl,⟨v2,hC2,hV2,sF⟩,hO2⟩;have vr:=ae sF;have dK:=hO2.blk fK.out.drew (lO iZ);have cJ:=ae dK;have vt:=ae hC2;have vu:=ae hV2;have ij:=ae hO2;have HKK:=ae (hO2.blk k_.out.drew (by omega));have HRR:=ae (hO2.blk HRW.out.drew (by omega));clear dK hC2 hV2 hO2 sF)
    go_wp2_with fail;refine hK.out _ _ (by(try dsimp only);(first | exact fg.out | exact⟨cJ.out.ag 0 rfl,cJ.out.ag 2 rfl⟩ | exact⟨(cJ.out.far (by simp;omega) _).ag 0 rfl,(cJ.out.far (by simp;omega) _).ag 2 rfl⟩)) (fun hHeld=>?_);clear hK K;refine rd 6 fun K hK=>?_;go_simp
    (refine(aev (w.heap.size+1) _ _ _ _ x.c HW.out _ HKK.out rfl).mono ?_;rintro e w3 ⟨rfl,rfl⟩)
    go_wp2_with fail;refine hK.out _ _ (by(try dsimp only);(first | exact fg.out | exact⟨cJ.out.ag 0 rfl,cJ.out.ag 2 rfl⟩ | exact⟨(cJ.out.far (by simp;omega) _).ag 0 rfl,(cJ.out.far (by simp;omega) _).ag 2 rfl⟩)) (fun hHeld=>?_);clear hK K;refine aT ?_;go_wp2_with fail;go_roundw
    case rel=>exact⟨4,v2,by omega,rfl,vt.out.far (by simp;omega) _,(by have h:=vu.out.below (C:=w.heap.size+1) ((bk (F:=fun i=>i=w.heap.size+1) (i:=2) (v:=.int .i64 x.c) rfl).below (by have:=HKK.out.lt;omega) (fun i hi e=>by omega)) (by omega);rw[og]at h;exact h),((ig.out.trans (G:=fun _=>False) (aN fC.out) (fun _ _=>False.elim)).trans ij.out (fun _ _ h=>h)).trans (G:=fun i=>i=w.heap.size+1) (bk rfl) (fun i hi e=>by omega),HRR.out.far (by simp) _,HKK.out.br 2 _,vr.out.trans jM.out⟩
    case measure=>simp[intOf]
   ·have hix:=NQ;have h1:(#[.int .i64 4,.func (.func 161) #[] #[],.func (.func 162) #[] #[]]:Array Value).all (·.oneCell')=true:=by kernel_rfl
    go_upto_region 5 with (refine aQ rfl 251 _ _ rfl wr.heap.size #[.int .i64 4,.func (.func 161) #[] #[],.func (.func 162) #[] #[]] rfl rfl 251 _ (bC wr _) gK rfl h1 ?_;rw[di])
    have iZ:=fJ.lt;have hltk:=hK2.lt;have fK:=ae (ah.new wr 251 #[.int .i64 4,.func (.func 161) #[] #[],.func (.func 162) #[] #[]]);have hbw:Below wr.heap.size wr (wr.alloc (.cells #[.int .i64 4,.func (.func 161) #[] #[],.func (.func 162) #[] #[]] 251)):=(ax _ wr).alloc (ai _) _;have i_:=ae (fJ.alloc (.cells #[.int .i64 4,.func (.func 161) #[] #[],.func (.func 162) #[] #[]] 251));have HRW:=ae (hK1.alloc (.cells #[.int .i64 4,.func (.func 161) #[] #[],.func (.func 162) #[] #[]] 251));have k_:=ae (hK2.alloc (.cells #[.int .i64 4,.func (.func 161) #[] #[],.func (.func 162) #[] #[]] 251));have xA:=ae ((show BytesIn wr B v1 (l.drop 8)from hV1).below hbw.drew (by omega));have fC:=ae hbw.drew;have fg:=ae (And.intro (fK.out.drew.ag 0 rfl) (fK.out.drew.ag 2 rfl));have ig:=ae fz;obtain⟨q,eq⟩:∃q,q=aW ((l.drop 8).take 4):=⟨_,rfl⟩;have nS:=ae (lB g B v1 (l.drop 8) 4 (by omega) (by rw[c_];omega) _ i_.out.drew xA.out hB);rw[←eq]at nS;have HW:=ae (show IntKind.i64.wrap (q:Int)=x.a by rw[eq,HX.out.2.2.2.2.1,nR _ _ (iX _ _) (by omega)]);clear eq;unfold ptr at nS;clear fJ hV1 fz hK1 hK2 h1 hbw oH;refine bF (S:=(fun w'=>w'.cell? ⟨wr.heap.size,0,none⟩=some (.int .i64 4)∧w'.cell? ⟨wr.heap.size,2,none⟩=some (.func (.func 162) #[] #[]))) (by kernel_rfl) (by(try dsimp only);(first | exact fg.out | exact⟨cJ.out.ag 0 rfl,cJ.out.ag 2 rfl⟩ | exact⟨(cJ.out.far (by simp;omega) _).ag 0 rfl,(cJ.out.far (by simp;omega) _).ag 2 rfl⟩)) (fun hHeld=>?_);refine tk 0 ?_;refine tk 2 ?_;refine tk 3 ?_;refine tk 1 ?_;refine tk 4 ?_;refine rd 5 fun K hK=>?_;go_simp
    (refine nS.out.mono ?_;rintro e w2 ⟨rfl,⟨v2,hC2,hV2,sF⟩,hO2⟩;have vr:=ae sF;have dK:=hO2.blk fK.out.drew (lO iZ);have cJ:=ae dK;have vt:=ae hC2;have vu:=ae hV2;have ij:=ae hO2;have HKK:=ae (hO2.blk k_.out.drew (by omega));have HRR:=ae (hO2.blk HRW.out.drew (by omega));clear dK hC2 hV2 hO2 sF)
    go_wp2_with fail;refine hK.out _ _ (by(try dsimp only);(first | exact fg.out | exact⟨cJ.out.ag 0 rfl,cJ.out.ag 2 rfl⟩ | exact⟨(cJ.out.far (by simp;omega) _).ag 0 rfl,(cJ.out.far (by simp;omega) _).ag 2 rfl⟩)) (fun hHeld=>?_);clear hK K;refine rd 6 fun K hK=>?_;go_simp
    (refine(aew (w.heap.size+1) _ _ _ _ x.a HW.out _ HKK.out rfl).mono ?_;rintro e w3 ⟨rfl,rfl⟩)
    go_wp2_with fail;refine hK.out _ _ (by(try dsimp only);(first | exact fg.out | exact⟨cJ.out.ag 0 rfl,cJ.out.ag 2 rfl⟩ | exact⟨(cJ.out.far (by simp;omega) _).ag 0 rfl,(cJ.out.far (by simp;omega) _).ag 2 rfl⟩)) (fun hHeld=>?_);clear hK K;refine aT ?_;go_wp2_with fail;go_roundw
    case rel=>exact⟨5,v2,by omega,rfl,vt.out.far (by simp;omega) _,(by have h:=vu.out.below (C:=w.heap.size+1) ((bk (F:=fun i=>i=w.heap.size+1) (i:=3) (v:=.int .i64 x.a) rfl).below (by have:=HKK.out.lt;omega) (fun i hi e=>by omega)) (by omega);rw[og]at h;exact h),((ig.out.trans (G:=fun _=>False) (aN fC.out) (fun _ _=>False.elim)).trans ij.out (fun _ _ h=>h)).trans (G:=fun i=>i=w.heap.size+1) (bk rfl) (fun i hi e=>by omega),HRR.out.far (by simp) _,HKK.out.br 3 _,vr.out.trans jM.out⟩
    case measure=>simp[intOf]
   ·have hix:=NR;have h1:(#[.int .i64 8,.func (.func 163) #[] #[],.func (.func 164) #[] #[]]:Array Value).all (·.oneCell')=true:=by kernel_rfl
    go_upto_region 5 with (refine aQ rfl 251 _ _ rfl wr.heap.size #[.int .i64 8,.func (.func 163) #[] #[],.func (.func 164) #[] #[]] rfl rfl 251 _ (bC wr _) gK rfl h1 ?_;rw[di])
    have iZ:=fJ.lt;have hltk:=hK2.lt;have fK:=ae (ah.new wr 251 #[.int .i64 8,.func (.func 163) #[] #[],.func (.func 164) #[] #[]]);have hbw:Below wr.heap.size wr (wr.alloc (.cells #[.int .i64 8,.func (.func 163) #[] #[],.func (.func 164) #[] #[]] 251)):=(ax _ wr).alloc (ai _) _;have i_:=ae (fJ.alloc (.cells #[.int .i64 8,.func (.func 163) #[] #[],.func (.func 164) #[] #[]] 251));have HRW:=ae (hK1.alloc (.cells #[.int .i64 8,.func (.func 163) #[] #[],.func (.func 164) #[] #[]] 251));have k_:=ae (hK2.alloc (.cells #[.int .i64 8,.func (.func 163) #[] #[],.func (.func 164) #[] #[]] 251));have xA:=ae ((show BytesIn wr B v1 (l.drop 12)from hV1).below hbw.drew (by omega));have fC:=ae hbw.drew;have fg:=ae (And.intro (fK.out.drew.ag 0 rfl) (fK.out.drew.ag 2 rfl));have ig:=ae fz;obtain⟨q,eq⟩:∃q,q=aW ((l.drop 12).take 8):=⟨_,rfl⟩;have nS:=ae (lB g B v1 (l.drop 12) 8 (by omega) (by rw[c_];omega) _ i_.out.drew xA.out hB);rw[←eq]at nS;have HW:=ae (show IntKind.i64.wrap (q:Int)=x.v by rw[eq,HX.out.2.2.2.2.2]);clear eq;unfold ptr at nS;clear fJ hV1 fz hK1 hK2 h1 hbw oH;refine bF (S:=(fun w'=>w'.cell? ⟨wr.heap.size,0,none⟩=some (.int .i64 8)∧w'.cell? ⟨wr.heap.size,2,none⟩=some (.func (.func 164) #[] #[]))) (by kernel_rfl) (by(try dsimp only);(first | exact fg.out | exact⟨cJ.out.ag 0 rfl,cJ.out.ag 2 rfl⟩ | exact⟨(cJ.out.far (by simp;omega) _).ag 0 rfl,(cJ.out.far (by simp;omega) _).ag 2 rfl⟩)) (fun hHeld=>?_);refine tk 0 ?_;refine tk 2 ?_;refine tk 3 ?_;refine tk 1 ?_;refine tk 4 ?_;refine rd 5 fun K hK=>?_;go_simp
    (refine nS.out.mono ?_;rintro e w2 ⟨rfl,⟨v2,hC2,hV2,sF⟩,hO2⟩;have vr:=ae sF;have dK:=hO2.blk fK.out.drew (lO iZ);have cJ:=ae dK;have vt:=ae hC2;have vu:=ae hV2;have ij:=ae hO2;have HKK:=ae (hO2.blk k_.out.drew (by omega));have HRR:=ae (hO2.blk HRW.out.drew (by omega));clear dK hC2 hV2 hO2 sF)
    go_wp2_with fail;refine hK.out _ _ (by(try dsimp only);(first | exact fg.out | exact⟨cJ.out.ag 0 rfl,cJ.out.ag 2 rfl⟩ | exact⟨(cJ.out.far (by simp;omega) _).ag 0 rfl,(cJ.out.far (by simp;omega) _).ag 2 rfl⟩)) (fun hHeld=>?_);clear hK K;refine rd 6 fun K hK=>?_;go_simp
    (refine(aex (w.heap.size+1) _ _ _ _ x.v HW.out _ HKK.out rfl).mono ?_;rintro e w3 ⟨rfl,rfl⟩)
    go_wp2_with fail;refine hK.out _ _ (by(try dsimp only);(first | exact fg.out | exact⟨cJ.out.ag 0 rfl,cJ.out.ag 2 rfl⟩ | exact⟨(cJ.out.far (by simp;omega) _).ag 0 rfl,(cJ.out.far (by simp;omega) _).ag 2 rfl⟩)) (fun hHeld=>?_);clear hK K;refine aT ?_;go_wp2_with fail;go_roundw
    case rel=>exact⟨6,v2,by omega,rfl,vt.out.far (by simp;omega) _,(by have h:=vu.out.below (C:=w.heap.size+1) ((bk (F:=fun i=>i=w.heap.size+1) (i:=5) (v:=.int .i64 x.v) rfl).below (by have:=HKK.out.lt;omega) (fun i hi e=>by omega)) (by omega);rw[og]at h;exact h),((ig.out.trans (G:=fun _=>False) (aN fC.out) (fun _ _=>False.elim)).trans ij.out (fun _ _ h=>h)).trans (G:=fun i=>i=w.heap.size+1) (bk rfl) (fun i hi e=>by omega),HRR.out.far (by simp) _,HKK.out.br 5 _,vr.out.trans jM.out⟩
    case measure=>simp[intOf]
  ·obtain rfl:j=6:=by omega
   have hKc:ah wr (w.heap.size+1) 58 #[.int .i64 x.k,.int .i64 x.o,.int .i64 x.c,.int .i64 x.a,.int .i64 x.r,.int .i64 x.v]:=hK2;have HKC:=ae hKc;have HV1:=ae (show BytesIn wr B v1 (l.drop 20)from hV1);have xu:=ae fJ;have ig:=ae fz;have iT:=ae hK1;clear hK2 hKc hV1 fJ fz hK1 oH HX;have hi:(Tryz.prog.info? 58).map (·.size)=some 6:=by kernel_rfl
   have h16:(#[.int .i64 x.k,.int .i64 x.o,.int .i64 x.c,.int .i64 x.a,.int .i64 x.r,.int .i64 x.v]:Array Value).all (·.oneCell')=true:=by rw[jf];rfl
   have GW:(Tryz.prog.info? 58).map (·.size)=some (#[.int .i64 x.k,.int .i64 x.o,.int .i64 x.c,.int .i64 x.a,.int .i64 x.r,.int .i64 x.v]:Array Value).size:=hi;have iZ:w.heap.size+1<wr.heap.size:=HKC.out.lt;go_wp2_with (refine bt rfl 58 _ rfl (w.heap.size+1) rfl 58 #[.int .i64 x.k,.int .i64 x.o,.int .i64 x.c,.int .i64 x.a,.int .i64 x.r,.int .i64 x.v] (0,0) _ HKC.out pj rfl GW ?_)
   refine(u6 _ _ _ _ _ _ _).mono ?_;rintro e w2 ⟨rfl,hb2⟩;have ij:=ae (ig.out.trans (G:=fun _=>False) (aN hb2) (fun _ _=>False.elim));have nN:=ae (HKC.out.below hb2 iZ);have HR3:=ae (iT.out.below hb2 (by omega));have HC3:=ae (xu.out.below hb2 xu.out.lt);have Ee:=ae (HV1.out.below hb2 (by have:=xu.out.lt;omega));cases hof:iI x.k x.o x.c x.a x.r x.v
   ·go_wp2_with fail;refine(C8 _).mono ?_;rintro e w3 ⟨rfl,rfl⟩;go_wp2_with fail
    all_goals exact⟨rfl,ij.out,rfl⟩
   ·go_wp2_with fail;refine(AS _).mono ?_;rintro e w3 ⟨rfl,rfl⟩;go_wp2_with (first
     | (refine bt rfl 58 _ rfl (w.heap.size+1) rfl 58 #[.int .i64 x.k,.int .i64 x.o,.int .i64 x.c,.int .i64 x.a,.int .i64 x.r,.int .i64 x.v] (0,0) _ nN.out pj rfl GW ?_)
     | (refine aQ rfl 58 _ _ rfl w.heap.size #[.int .i64 x.k,.int .i64 x.o,.int .i64 x.c,.int .i64 x.a,.int .i64 x.r,.int .i64 x.v] rfl rfl 58 _ HR3.out GW rfl h16 ?_))
    refine bc (v:=.agg #[.int .i64 x.k,.int .i64 x.o,.int .i64 x.c,.int .i64 x.a,.int .i64 x.r,.int .i64 x.v]) (mo Tryz.results122 _ _ w.heap.size 58 #[.int .i64 x.k,.int .i64 x.o,.int .i64 x.c,.int .i64 x.a,.int .i64 x.r,.int .i64 x.v] (0,0) _ rfl (HR3.out.row _) pj rfl GW) rfl ?_;have hn0:∀i,i<w.heap.size→¬i=w.heap.size:=fun i hi=>by omega
    refine⟨?_,?_⟩
    ·have hf:=ij.out;exact⟨hf.os,hf.tape,hf.output,by have:=hf.size;simpa using this,fun i hi hn=>(kO _ w.heap.size i _ (by omega)).trans (hf.block i hi hn)⟩
    ·refine⟨rfl,v1,?_,?_,jM.out⟩
     ·exact(kO _ w.heap.size g _ (by omega)).trans HC3.out
     ·exact Ee.out.below (C:=w.heap.size) ((bL (F:=fun i=>i=w.heap.size) _ rfl).below (by have:=HC3.out.lt;have:=ij.out.size;omega) (fun i hi e=>by omega)) (by omega)
theorem PD (p:Addr) (w:World) :
 CallsD Tryz.prog 68 #[.pointer (some p)] .returning w fun e u' w'=>e=.returned (.tuple #[])∧u'=.returning∧w'=w:=by
 refine DI DR rfl fun c₀ cs hu=>?_;apply wpS_seq;apply DV;simp[wpOpsS,go_sem,recoverD,hu,Tryz.ntmps68,Exit.thenS];refine DX ?_;go_wp2_with fail;cases c₀
 simp_all [bodyPostS,results,Tryz.results68]
theorem nq (g:Nat) (t:TypeId) (c x:Int) (w:World) (hb:ah w g t #[.int .i64 x]) :
 CallsD Tryz.prog 68 #[ptr g] (.panicking (lg c)) w fun e u' w'=>e=.returned (.tuple #[])∧u'=.panicking [{v:=.iface 211 (.agg #[.int .i64 c]),recovered:=true}]∧w'=(w.setCell ⟨g,0,none⟩ (.int .i64 c)).alloc (.cells #[.int .i64 c] 211):=by
 have hb2:=hb.alloc (.cells #[.int .i64 c] 211);have hc:=hb2.ag 0 rfl;have hz:=hb2.frozen 0;have hlt:=hb.lt;unfold ptr;clear hb hb2;refine DI DR rfl fun c₀ cs hu=>?_;unfold lg at hu;have hta:(Instr.typeAssert (.iface 211 (.agg #[.int .i64 c])) 20 211 true).run Tryz.prog w=.ok (.tuple #[.agg #[.int .i64 c],.bool true]) w:=by kernel_rfl
 apply wpS_seq;apply DV;simp[wpOpsS,go_sem,recoverD,hu,Tryz.ntmps68,Exit.thenS];rw[show(Array.replicate 14 undef:Array Value)=#[undef,undef,undef,undef,undef,undef,undef,undef,undef,undef,undef,undef,undef,undef]from rfl];simp only[List.setIfInBounds_toArray,List.set_cons_zero,List.set_cons_succ,List.append_toArray,List.cons_append,List.nil_append];refine DX ?_;go_wp2_with fail;cases c₀
 simp_all [bodyPostS,results,Tryz.results68]
theorem M5 (p:Addr) (w:World) :
 CallsD Tryz.prog 120 #[.pointer (some p)] .returning w fun e u' w'=>e=.returned (.tuple #[])∧u'=.returning∧w'=w:=by
 refine DI Tryz.func120 rfl fun c₀ cs hu=>?_;apply wpS_seq;apply DV;simp[wpOpsS,go_sem,recoverD,hu,Tryz.ntmps120,Exit.thenS];refine DX ?_;go_wp2_with fail;cases c₀
 simp_all [bodyPostS,results,Tryz.results120]
theorem C9 (g:Nat) (t:TypeId) (x:Int) (w:World) (hb:ah w g t #[.int .i64 x]) :
 CallsD Tryz.prog 120 #[ptr g] (.panicking xz) w fun e u' w'=>e=.returned (.tuple #[])∧u'=.panicking [{v:=.iface 260 (.agg #[]),recovered:=true}]∧w'=(w.setCell ⟨g,0,none⟩ (.int .i64 151)).alloc (.cells #[] 260):=by
 have hb2:=hb.alloc (.cells #[] 260);have hc:=hb2.ag 0 rfl;have hz:=hb2.frozen 0;have hlt:=hb.lt;unfold ptr;clear hb hb2;refine DI Tryz.func120 rfl fun c₀ cs hu=>?_;unfold xz at hu;have hta:(Instr.typeAssert (.iface 260 (.agg #[])) 20 260 true).run Tryz.prog w=.ok (.tuple #[.agg #[],.bool true]) w:=by kernel_rfl
 apply wpS_seq;apply DV;simp[wpOpsS,go_sem,recoverD,hu,Tryz.ntmps120,Exit.thenS];rw[show(Array.replicate 12 undef:Array Value)=#[undef,undef,undef,undef,undef,undef,undef,undef,undef,undef,undef,undef]from rfl];simp only[List.setIfInBounds_toArray,List.set_cons_zero,List.set_cons_succ,List.append_toArray,List.cons_append,List.nil_append];refine DX ?_;go_wp2_with fail;cases c₀
 simp_all [bodyPostS,results,Tryz.results120]
def cP:aK:=⟨0,0,0,kT,kU⟩
theorem aab:cP.ok:=⟨rfl,rfl⟩
theorem dP:Tryz.zeroCells62=cP.cells.toArray:=by kernel_rfl
theorem iA:(Tryz.prog.info? 62).map (·.size)=some Tryz.zeroCells62.size:=by kernel_rfl
theorem pE:Tryz.zeroCells62.all (·.oneCell')=true:=by kernel_rfl
theorem Tg (g5 g4:Nat) (t t4:TypeId) (c:Int) (hc0:c≠0) (o:aK) (ho:o.ok) (u:FrameMode) (w:World) (h5:ah w g5 t #[.int .i64 c]) (h4:ah w g4 t4 o.cells.toArray) :
 CallsD Tryz.prog 119 #[ptr g5,ptr g4] u w fun e u' w'=>u'=u∧(e=.returned (.tuple #[])∧w'=w.setRow g4 cP.cells.toArray):=by
 have hc:=h5.ag 0 rfl;have hn:(c != 0)=true:=by simpa using hc0
 have hsz:o.cells.toArray.size=Tryz.zeroCells62.size:=by rw[dP,b',b',aK.len ho];rfl
 rw[←dP];unfold ptr;go_enter_d Tryz.func119,Tryz.ntmps119
 go_wp2_with (refine aQ rfl 62 _ _ rfl g4 Tryz.zeroCells62 rfl rfl t4 _ h4 iA hsz pE ?_)
 exact jE (v:=.tuple #[]) (by simp[results,Tryz.results119,go_sem]) rfl ⟨rfl,rfl⟩
theorem Wj (g5 g4:Nat) (t:TypeId) (u:FrameMode) (w:World) (h5:ah w g5 t #[.int .i64 0]) :
 CallsD Tryz.prog 119 #[ptr g5,ptr g4] u w fun e u' w'=>u'=u∧(e=.returned (.tuple #[])∧w'=w):=by
 have hc:=h5.ag 0 rfl;unfold ptr;go_enter_d Tryz.func119,Tryz.ntmps119
 go_wp2_with fail;exact jE (v:=.tuple #[]) (by simp[results,Tryz.results119,go_sem]) rfl ⟨rfl,rfl⟩
def sG (x:bx):Bool:=iI x.k x.o x.c x.a x.r x.v
def ff (l:List UInt8):aK:=⟨aW ((l.drop 0).take 4),aW ((l.drop 4).take 4),aW ((l.drop 8).take 4),(List.range 16).map fun i=>keyOf (l.drop (12+20*i)),(l.drop 332).take 64⟩
def jS (l:List UInt8) (j:Nat):List bx:=(List.range 16).map fun i=>if i<j then keyOf (l.drop (12+20*i)) else mw
def ik (l:List UInt8) (j:Nat):aK:=⟨aW ((l.drop 0).take 4),aW ((l.drop 4).take 4),aW ((l.drop 8).take 4),jS l j,kU⟩
def lh (l:List UInt8) (n:Int):Bool:=((List.range 16).all fun i=>sG (keyOf (l.drop (12+20*i))))&&((l.drop 396).all (· == 0)&&fH (ff l) n)
def eO (b:List UInt8) (n:Int):Int:=if n<1∨64<n then 2 else if cZ b then if lh (b.take 508) n then 0 else 151 else 150
def kE (b:List UInt8) (n:Int):aK:=if eO b n=0 then ff (b.take 508) else cP
theorem mV (l:List UInt8) (j:Nat):(jS l j).length=16:=by simp[jS]
theorem AV (l:List UInt8):jS l 0=kT:=by
 unfold jS kT;simp only[Nat.not_lt_zero,if_false];exact List.map_const' ..
theorem Cw (l:List UInt8) (j:Nat):(jS l j).set j (keyOf (l.drop (12+20*j)))=jS l (j+1):=by
 apply List.ext_getElem
 ·simp[jS]
 ·intro i h1 h2;rw[List.getElem_set];simp only[jS,List.getElem_map,List.getElem_range];by_cases h:j=i
  ·subst h;simp
  ·rw[aG h];by_cases h3:i<j
   ·rw[aB h3,aB (by omega)]
   ·rw[aG h3,aG (by omega)]
theorem Cx (l:List UInt8):jS l 16=(ff l).slots:=by
 unfold jS ff;apply List.ext_getElem
 ·simp
 ·intro i h1 h2;simp only[List.getElem_map,List.getElem_range];simp at h1;rw[aB h1]
theorem mC (l:List UInt8) (h:l.length=508):(ff l).ok:=⟨by simp[ff],by simp[ff,h]⟩
theorem uv (l:List UInt8) (j:Nat):(ik l j).ok:=⟨mV l j,rfl⟩
theorem Wk (o:aK) (x:Int):o.cells.toArray.setIfInBounds 0 (.int .i64 x)=({o with kd:=x}:aK).cells.toArray:=by simp[aK.cells]
theorem Wm (o:aK) (x:Int):o.cells.toArray.setIfInBounds 1 (.int .i64 x)=({o with ct:=x}:aK).cells.toArray:=by simp[aK.cells]
theorem Wn (o:aK) (x:Int):o.cells.toArray.setIfInBounds 2 (.int .i64 x)=({o with cl:=x}:aK).cells.toArray:=by simp[aK.cells]
theorem H7 (a b:List bx):bw (a++b)=bw a++bw b:=by simp[bw]
theorem AW (o:aK) (j:Nat) (x:bx) (hj:j<o.slots.length) :
 o.cells.take (3+j*6)++x.cells++o.cells.drop (3+j*6+x.cells.length)=({o with slots:=o.slots.set j x}:aK).cells:=by
 obtain⟨kd,ct,cl,slots,bytes⟩:=o;simp only at hj ⊢;have hs:slots=slots.take j++slots[j]::slots.drop (j+1):=by rw[←pg hj,rP]
 have hl:(slots.take j).length=j:=by rw[bD];omega
 generalize slots[j]=y at hs;generalize slots.take j=A at hs hl;generalize slots.drop (j+1)=C at hs;subst hs hl;have hset:(A++y::C).set A.length x=A++x::C:=by simp
 rw[hset];unfold aK.cells;simp only;have e1:∀z:bx,bw (A++z::C)=bw A++(z.cells++bw C):=fun z=>by rw[H7];rfl
 rw[e1,e1];have hA:(bw A).length=A.length*6:=by rw[cq];omega
 have hT:([Value.int IntKind.i64 kd,.int .i64 ct,.int .i64 cl]++bw A).length=3+A.length*6:=by simp[hA];omega
 generalize hTT : [Value.int IntKind.i64 kd,.int .i64 ct,.int .i64 cl]=T at *;have hy:y.cells.length=x.cells.length:=rfl;rw[show T++(bw A++(y.cells++bw C)++bytes.map aj)=(T++bw A)++(y.cells++(bw C++bytes.map aj))by simp];rw[zM hT,List.drop_append,jD (by rw[hT];omega),hT,zo,←hy,List.drop_left];simp
theorem H9 (o:aK) (ho:o.ok) (l:List UInt8) (hl:l.length=64) :
 o.cells.take 99++l.map aj++o.cells.drop (99+(l.map aj).length)=({o with bytes:=l}:aK).cells:=by
 have h0:=aK.len ho;rw[cR,hl,jD (by rw[h0];omega),ny];unfold aK.cells;have h1:([Value.int IntKind.i64 o.kd,.int .i64 o.ct,.int .i64 o.cl]++bw o.slots).length=99:=by rw[bX,cq,ho.1];rfl
 rw[←fS,zM h1,fS]
theorem uw (g:Nat) (t:TypeId):∀ (vs:List Value) (o:Nat) (w:World) (cs:Array Value),ah w g t cs→o+vs.length≤cs.size →
 ah (w.setCells g o vs) g t (cs.toList.take o++vs++cs.toList.drop (o+vs.length)).toArray
 | [],o,w,cs,h,_=>by
  have e:(cs.toList.take o++[]++cs.toList.drop (o+0)).toArray=cs:=by simp
  simp only[List.length_nil];rw[e];exact h
 | v::r,o,w,cs,h,hs=>by
  simp only[List.length_cons]at hs;have ih:=uw g t r (o+1) (w.setCell ⟨g,o,none⟩ v) _ (h.br o v) (by simp;omega);have e:((cs.setIfInBounds o v).toList.take (o+1)++r++(cs.setIfInBounds o v).toList.drop (o+1+r.length))=cs.toList.take o++(v::r)++cs.toList.drop (o+(v::r).length):=by
   rw[Array.toList_setIfInBounds];generalize hc:cs.toList=l;have hl:o<l.length:=by rw[←hc];simp;omega
   rw[List.take_set,List.drop_set_of_lt (by omega)];have h1:(l.take (o+1)).set o v=l.take o++[v]:=by
    have h2:(l.take o).length=o:=by rw[bD];omega
    rw[gG,aY hl,Dp _ _ (by omega),h2,DO];rfl
   rw[h1];simp only[List.length_cons,List.append_assoc,List.cons_append,List.nil_append];rw[show o+1+r.length=o+(r.length+1)by omega]
  rw[←e];exact ih
theorem Wo {w:World} {g:Nat} {t:TypeId} {l:List UInt8} {j:Nat} (hj:j<16) {X:Array Value} (eX:X=(keyOf (l.drop (12+20*j))).cells.toArray) (h:ah w g t (ik l j).cells.toArray) :
 ah (w.setCells g (3+j*6) X.toList) g t (ik l (j+1)).cells.toArray:=by
 have h6:X.toList.length=6:=by rw[eX];rfl
 have h1:=uw g t X.toList (3+j*6) w _ h (by rw[b',aK.len (uv l j),h6];omega);have e1:X.toList=(keyOf (l.drop (12+20*j))).cells:=by rw[eX]
 rw[e1]at h1 ⊢;rw[wz,AW (ik l j) j (keyOf (l.drop (12+20*j))) (by show j<(jS l j).length;rw[mV];exact hj)]at h1;have e2:({ik l j with slots:=(ik l j).slots.set j (keyOf (l.drop (12+20*j)))}:aK)=ik l (j+1):=by
  unfold ik;simp only;rw[Cw]
 rw[e2]at h1;exact h1
theorem Th (l:List UInt8) (h:l.length=508):(ik l 16).cells.take 99++((l.drop 332).take 64).map aj++(ik l 16).cells.drop (99+(((l.drop 332).take 64).map aj).length)=(ff l).cells:=by
 rw[H9 _ (uv l 16) _ (by simp[h])];unfold ik;simp only;rw[Cx];rfl
theorem Ti {W:World} {g:Nat} {l:List UInt8} (hl:l.length=508) (hb:ah W g 62 (ik l 16).cells.toArray) {B cap:Nat} {a:Option Addr} (hv:BytesIn W B (.slice a 64 cap) ((l.drop 332).take 64)) (ty:TypeId) :
 ∃w',(Builtin.copy_ #[26,26] ty #[.slice (some ⟨g,99,none⟩) 64 64,.slice a 64 cap]).run Tryz.prog W=.ok (goInt 64) w'∧ah w' g 62 (ff l).cells.toArray∧Out (fun i=>i=g) W w':=by
 obtain⟨_,a',cap2,e,hcap,hc⟩:=hv;injection e with e1 e2 e3
 subst e1;have h64:((l.drop 332).take 64).length=64:=by simp[hl]
 obtain⟨c0,hc0⟩:∃c,((l.drop 332).take 64)[0]? = some c:=⟨_,aY (by rw[h64];decide)⟩;obtain⟨g0,off,rfl,_,_⟩:=hc 0 c0 hc0;have hsrc:∀j u,(((l.drop 332).take 64).map aj)[j]? = some u→W.cell? ((⟨g0,off,none⟩:Addr).add j)=some u:=by
  intro j u hj;rw[dV]at hj;obtain⟨c,hcj,rfl⟩:=iE.1 hj;obtain⟨g',off',h,_,hcell⟩:=hc j c hcj;injection h with h
  injection h with h1 h2
  subst h1 h2;rw[eP];exact hcell
 have hr:=Jk (P:=Tryz.prog) W 26 26 ty 5 g 99 64 64 ⟨g0,off,none⟩ 64 cap (ik l 16).cells.toArray 62 (((l.drop 332).take 64).map aj) eU (by kernel_rfl) hb (by rw[cR,h64];rfl) hsrc (by rw[cR,h64,b',aK.len (uv l 16)];decide) (iV _);rw[wz,Th l hl,cR,h64]at hr;exact⟨_,hr,hb.row _,bL _ rfl⟩
theorem ru (o:aK) (v:Value) (hv:v∈o.cells):v.oneCell'=true:=by
 unfold aK.cells at hv;rcases mq.1 hv with h | h
 ·simp only[List.mem_cons,List.not_mem_nil,or_false]at h;rcases h with rfl | rfl | rfl<;>rfl
 ·rcases mq.1 h with h | h
  ·obtain⟨x,_,hx⟩:=zI.1 h;simp only[bx.cells,List.mem_cons,List.not_mem_nil,or_false]at hx;rcases hx with rfl | rfl | rfl | rfl | rfl | rfl<;>rfl
  ·exact iV _ v h
theorem ux {F:Nat→Prop} (g:Nat) (hg:F g):∀ (vs:List Value) (o:Nat) (w:World),Out F w (w.setCells g o vs)
 | [],_,w=>Out.refl _ _
 | v::r,o,w=>(bk hg).trans (ux g hg r (o+1) _) (fun _ _ h=>h)
theorem GX {w:World} {g:Nat} {t:TypeId} {cs:Array Value} (h:ah w g t cs) (o n:Nat) (hn:o+n≤cs.size):w.there g o n:=fun j hj=>by
 refine⟨?_,h.frozen _⟩;rw[h.cell,uZ (by omega)];rfl
theorem dq {P:Program} {fn:Func} {p q:Tmp} {ty te:TypeId} (h:fn.results=#[.cell p ty,.cell q te]) (tmps:Array Value) (w:World) (g:Nat) (t:TypeId) (cs:Array Value) (fr:Nat×Nat) (d:TypeDesc)
 (hp:tmps.getD p undef=.pointer (some ⟨g,0,none⟩)) (hg:w.heap[g]? = some (.cells cs t fr))
 (hu:P.underlying ty=some d) (hd:(match d with | .struct _ | .array _ _=>true | _=>false)=true) (hi:(P.info? ty).map (·.size)=some cs.size) (a:Addr) (v:Value) (hq:tmps.getD q undef=.pointer (some a)) (hv:(loadVar te a).run P w=.ok v w) :
 (results fn tmps).run P w=.ok (.tuple #[.agg cs,v]) w:=by
 have hp':tmps[p]?.getD undef=.pointer (some ⟨g,0,none⟩):=by simpa using hp
 have hq':tmps[q]?.getD undef=.pointer (some a):=by simpa using hq
 simp[results,h,hp',hq',asAddr,run_loadVar_row w g t ty cs fr d hg hu hd hi,hv]
theorem gL (w:World) (g:Nat) (t:TypeId) (x:Int) (h:ah w g t #[.int .i64 x]):(loadVar 32 ⟨g,0,none⟩).run Tryz.prog w=.ok (.int .i64 x) w:=by
 have c:=h.ag 0 rfl;simp[loadVar,c,go_sem]
theorem ah.gu {w:World} {g g':Nat} {t:TypeId} {cs:Array Value} (h:ah w g t cs) (cs':Array Value) (hg:g≠g'):ah (w.setRow g' cs') g t cs:=(kO w g' g cs' hg).trans h
structure il (w:World) (G B:Nat) (W:World) (v:Value) (rest:List UInt8) (o:aK):Prop where
 obj:ah W (w.heap.size+1) 62 o.cells.toArray
 err:ah W (w.heap.size+2) 32 #[.int .i64 0]
 box:ah W G 217 #[v]
 bytes:BytesIn W B v rest
 below:Below w.heap.size w W
 big:w.heap.size+3≤B
 bg:B≤G
 lo:∀g,iQ v=some g→w.heap.size+3≤g
section
variable {w W W':World} {G B:Nat} {v v':Value} {rest rest':List UInt8} {o o':aK}
theorem il.take (h:il w G B W v rest o) (ho:Out (fun i=>i=G) W W') (hb:ah W' G 217 #[v']) (hv:BytesIn W' B v' rest') (hq:iQ v'=iQ v):il w G B W' v' rest' o:=by
 have h1:=h.big;have h2:=h.bg;exact⟨ho.blk h.obj (by omega),ho.blk h.err (by omega),hb,hv,h.below.trans (ho.below (by have:=h.below.size;omega) (fun i hi e=>by omega)),h1,h2,fun g hg=>h.lo g (hq▸hg)⟩
theorem il.br (h:il w G B W v rest o) (ho:Out (fun i=>i=w.heap.size+1) W W') (hb:ah W' (w.heap.size+1) 62 o'.cells.toArray):il w G B W' v rest o':=by
 have h1:=h.big;have h2:=h.bg;have h3:=h.box.lt;exact⟨hb,ho.blk h.err (by omega),ho.blk h.box (by omega),h.bytes.out ho (by omega) (fun g hg e=>by have:=h.lo g hg;omega),h.below.trans (ho.below (by have:=h.below.size;omega) (fun i hi e=>by omega)),h1,h2,h.lo⟩
theorem il.number {l:List UInt8} (i:Nat) (h:il w G B W v (l.drop i) o) (k:Nat) (hk:k≤8) (hi:i+k≤l.length) :
 Calls Tryz.prog 121 #[.pointer (some ⟨G,0,none⟩),.int .i64 (k:Int)] W fun e W'=>e=.returned (.int .u64 (aW ((l.drop i).take k):Nat))∧∃v',il w G B W' v' (l.drop (i+k)) o:=by
 refine(lB G B v (l.drop i) k hk (by rw[c_];omega) W h.box h.bytes h.bg).mono ?_;rintro e W' ⟨rfl,⟨v',hb,hv,hq⟩,ho⟩;refine⟨rfl,v',?_⟩;rw[og]at hv;exact h.take ho hb hv hq
theorem il.far (h:il w G B W v rest o) (hb:Below W.heap.size W W'):il w G B W' v rest o:=by
 have h2:=h.bg;have h3:=h.box.lt;exact⟨h.obj.below hb h.obj.lt,h.err.below hb h.err.lt,h.box.below hb h3,h.bytes.below hb (by omega),h.below.trans (hb.mono h.below.size),h.big,h2,h.lo⟩
end
end Go.Proofs.YtdpniceapmikpaaGreat
namespace Go.Proofs
open Go.Shelf
def Tryz.laysSlH6_f146_ren:Go.Shelf.Ren:=⟨fun | 6=>146 | n=>n,fun | 22=>26 | 23=>5 | 25=>215 | 3=>3 | 0=>0 | 4=>4 | n=>n,fun | n=>n⟩
theorem Tryz.laysSlH6_f146:Go.Proofs.SlLaysH.n6 Tryz.prog Tryz.laysSlH6_f146_ren := {
 mixed:=by kernel_rfl
 f6:=⟨Tryz.f146.name,by decide,Tryz.func146.trans (congrArg some (by kernel_rfl))⟩
 t0:=Tryz.underlying0
 a0:=Tryz.isAgg0
 z0:=Tryz.sizeOf0
 v0:=Tryz.zeroValue0
 t3:=Tryz.underlying3
 a3:=Tryz.isAgg3
 z3:=Tryz.sizeOf3
 v3:=Tryz.zeroValue3
 t4:=Tryz.underlying4
 a4:=Tryz.isAgg4
 z4:=Tryz.sizeOf4
 v4:=Tryz.zeroValue4
 t22:=Tryz.underlying26
 a22:=Tryz.isAgg26
 z22:=Tryz.sizeOf26
 v22:=Tryz.zeroValue26
 a23:=Tryz.isAgg5
 z23:=Tryz.sizeOf5
 t25:=Tryz.underlying215
 a25:=Tryz.isAgg215
 z25:=Tryz.sizeOf215
 v25:=Tryz.zeroValue215}
open Go.RowKit Go.Lib in
theorem Tryz.slices_IndexFuncB {α:Type} [Inhabited α] (enc:α→Value) (p:α→Bool) (g:Nat) (lb:Array Value) (eg:∀args w,(callFunc g args).run Tryz.prog w=.ok (.enter g args) w) (b off n c:Nat) (zs:List α) (w:World) (hp:PredAt Tryz.prog g lb enc p w) (hz:n≤zs.length) (hbig:n≤9223372036854775807) (hc:∀j,j<zs.length→w.cell? ⟨b,off+j,none⟩=some (enc zs[j]!)) :
 Calls Tryz.prog 146 #[.slice (some ⟨b,off,none⟩) n c,.func (.func g) #[] lb] w fun e w'=>e=.returned (.int .i64 (Lib.idxBy (fun _ y=>p y) (zs.take n) default))∧∃q,w'=w.drewN q:=AnyE.slices_IndexFunc Tryz.laysSlH6_f146 enc p g lb eg b off n c zs w hp hz hbig hc
open Go.RowKit Go.Lib in
theorem Tryz.slices_IndexFuncB_empty {α:Type} [Inhabited α] (a:Option Addr) (c:Nat) (fv:Value) (w:World) :
 Calls Tryz.prog 146 #[.slice a 0 c,fv] w fun e w'=>e=.returned (.int .i64 (-1))∧w'=w:=AnyE.slices_IndexFunc_empty Tryz.laysSlH6_f146 a c fv w
def Tryz.laysSlH8_f116_ren:Go.Shelf.Ren:=⟨fun | 8=>116 | 6=>146 | n=>n,fun | 22=>26 | 23=>5 | 25=>215 | 4=>4 | 3=>3 | 0=>0 | n=>n,fun | n=>n⟩
theorem Tryz.laysSlH8_f116:Go.Proofs.SlLaysH.n8 Tryz.prog Tryz.laysSlH8_f116_ren := {
 mixed:=by kernel_rfl
 f6:=⟨Tryz.f146.name,by decide,Tryz.func146.trans (congrArg some (by kernel_rfl))⟩
 f8:=⟨Tryz.f116.name,by decide,Tryz.func116.trans (congrArg some (by kernel_rfl))⟩
 t0:=Tryz.underlying0
 a0:=Tryz.isAgg0
 z0:=Tryz.sizeOf0
 v0:=Tryz.zeroValue0
 t3:=Tryz.underlying3
 a3:=Tryz.isAgg3
 z3:=Tryz.sizeOf3
 v3:=Tryz.zeroValue3
 t4:=Tryz.underlying4
 a4:=Tryz.isAgg4
 z4:=Tryz.sizeOf4
 v4:=Tryz.zeroValue4
 t22:=Tryz.underlying26
 a22:=Tryz.isAgg26
 z22:=Tryz.sizeOf26
 v22:=Tryz.zeroValue26
 a23:=Tryz.isAgg5
 z23:=Tryz.sizeOf5
 t25:=Tryz.underlying215
 a25:=Tryz.isAgg215
 z25:=Tryz.sizeOf215
 v25:=Tryz.zeroValue215}
open Go.RowKit Go.Lib in
theorem Tryz.slices_ContainsFuncB {α:Type} [Inhabited α] (enc:α→Value) (p:α→Bool) (g:Nat) (lb:Array Value) (eg:∀args w,(callFunc g args).run Tryz.prog w=.ok (.enter g args) w) (b off n c:Nat) (zs:List α) (w:World) (hp:PredAt Tryz.prog g lb enc p w) (hz:n≤zs.length) (hbig:n≤9223372036854775807) (hc:∀j,j<zs.length→w.cell? ⟨b,off+j,none⟩=some (enc zs[j]!)) :
 Calls Tryz.prog 116 #[.slice (some ⟨b,off,none⟩) n c,.func (.func g) #[] lb] w fun e w'=>e=.returned (.bool ((zs.take n).any p))∧∃q,w'=w.drewN q:=AnyE.slices_ContainsFunc Tryz.laysSlH8_f116 enc p g lb eg b off n c zs w hp hz hbig hc
open Go.RowKit Go.Lib in
theorem Tryz.slices_ContainsFuncB_empty {α:Type} [Inhabited α] (a:Option Addr) (c:Nat) (fv:Value) (w:World) :
 Calls Tryz.prog 116 #[.slice a 0 c,fv] w fun e w'=>e=.returned (.bool false)∧w'=w:=AnyE.slices_ContainsFunc_empty Tryz.laysSlH8_f116 a c fv w
end Go.Proofs
namespace Go.Proofs.YtdpniceapmikpaaGreat
open Go.RowKit Go.Shelf Go.Lib
theorem Cy (w:World) (q:Nat):Below w.heap.size w (w.drewN q):=below_drewN' (ax _ w) q
theorem PE (c:UInt8) (w:World):Calls Tryz.prog 117 #[aj c] w fun e w'=>e=.returned (.bool (c != 0))∧w'=w:=by
 have hc:(((c.toNat:Int) != 0)=(c != 0)):=by
  have h:((c.toNat:Int)=0)↔c=0:=by
   constructor
   ·intro h;exact zK.1 (by simpa using h)
   ·rintro rfl;rfl
  by_cases hz:c=0
  ·subst hz;rfl
  ·rw[JL.2 hz |> fun h=>h,JL.2 (fun e=>hz (h.1 e))]
 go_enter Tryz.func117,Tryz.ntmps117
 go_wp2_with fail;go_ret
 exact⟨by rw[←hc];rfl,rfl⟩
theorem KY (B:Nat) (v:Value) (l:List UInt8) (w:World) (hv:BytesIn w B v l) (hn:l.length≤1000000) :
 Calls Tryz.prog 116 #[v,.func (.func 117) #[] #[]] w fun e w'=>e=.returned (.bool (l.any (· != 0)))∧Below w.heap.size w w':=by
 obtain⟨h1,a,cap,rfl,h3,h4⟩:=hv;cases l with
 | nil =>
  refine(Tryz.slices_ContainsFuncB_empty (α:=UInt8) a cap _ w).mono ?_;rintro e w' ⟨rfl,rfl⟩;exact⟨rfl,ax _ _⟩
 | cons x l =>
  obtain⟨g,off,rfl,_,_⟩:=h4 0 x rfl;refine(Tryz.slices_ContainsFuncB (α:=UInt8) aj (· != 0) 117 #[] (enters_of Tryz.func117 (by kernel_rfl) rfl) g off (x::l).length cap (x::l) w (fun W y hb=>(PE y W).mono ?_) (ai _) (by omega) (fun j hj=>?_)).mono ?_
  ·rintro e w' ⟨rfl,rfl⟩;exact⟨rfl,0,rfl⟩
  ·have hj2:(x::l)[j]? = some (x::l)[j]! :=by rw[Ro,aY hj];rfl
   obtain⟨g',off',e,_,hc⟩:=h4 j _ hj2;cases e
   exact hc
  ·rintro e w' ⟨rfl,q,rfl⟩;exact⟨by rw[iG],Cy w q⟩
end Go.Proofs.YtdpniceapmikpaaGreat
namespace Go
section
variable {P:Program} {ops:Array Oper} {Q:Exit→Act→World→Prop} {md:Region.Mode} {S:Array Bool→World→Prop}
def wpAnyL (P:Program) (md:Region.Mode) (ops:Array Oper) (Q:Exit→Act→World→Prop) (S:Array Bool→World→Prop):Nat→Array Bool→Act→World→Prop
 | 0,listed,a,w=>Region.ready md ops listed=[]∧Q .normal a w
 | fuel+1,listed,a,w =>
  (Region.ready md ops listed=[]→Q .normal a w) ∧
  ∀i∈Region.ready md ops listed,wpOp P ops Q i (fun a' w'=>S (listed.setIfInBounds i true) w'∧wpAnyL P md ops Q S fuel (listed.setIfInBounds i true) a' w') a w
theorem ET:∀ (fuel:Nat) (listed:Array Bool) (a:Act) (w:World),wpAnyL P md ops Q S fuel listed a w→wpAny P md ops Q fuel listed a w
 | 0,_,_,_,h=>h
 | fuel+1,_,_,_,h=>⟨h.1,fun i hi=>wpOp_mono (fun a' w' h'=>ET fuel _ a' w' h'.2) (h.2 i hi)⟩
def Region.waits (md:Region.Mode) (ops:Array Oper) (i:Nat) (ks:List Nat):Bool :=
 ks.all fun k=>k != i&&((ops[k]?).map fun o=>o.after.any fun e=>Region.binds md e&&(e.on == i || ks.contains e.on)).getD false
def rv (ks:List Nat) (l:Array Bool):Prop:=∀k∈ks,l.getD k true=false
theorem ry {l:Array Bool} {k:Nat} (h:l.getD k true=false):l.getD k false=false:=by
 rcases Nat.lt_or_ge k l.size with h' | h'
 ·simp[h']at h ⊢;exact h
 ·simp[Array.getElem?_eq_none h']at h
theorem rv.step {ks:List Nat} {l:Array Bool} {i j:Nat} (hw:Region.waits md ops i ks=true) (hu:rv ks l) (hi:l.getD i true=false) (hj:j∈Region.ready md ops l) (hne:j≠i):rv ks (l.setIfInBounds j true):=by
 intro k hk;by_cases hjk:j=k
 ·subst hjk;have h1:=List.all_eq_true.1 hw j hk;obtain⟨_,o,ho,hall⟩:=mem_ready.1 hj;rw[ho]at h1;simp only[Bool.and_eq_true,Option.map_some,Option.getD_some,Array.any_eq_true,Bool.or_eq_true,beq_iff_eq,List.contains_iff_mem]at h1;obtain⟨_,n,hn,hb,hon⟩:=h1;have h2:=hall _ (Array.getElem_mem hn) hb;rcases hon with he | he
  ·rw[he,ry hi]at h2;cases h2
  ·rw[ry (hu _ he)]at h2;cases h2
 ·rw[getD_set_ne true hjk];exact hu k hk
theorem wpAnyL_first {i:Nat} {oi:Oper} {v:Value} {ks:List Nat} (hi:ops[i]? = some oi) (hsel:∀ (j:Nat) (o:Oper) cs b,ops[j]? = some o→o.op≠.select cs b)
 (hQ:∀c a w,Q (.panic c) (a.put oi.dst v) w→Q (.panic c) a w) (hks:Region.waits md ops i ks=true) (KZ:∀l w,S (l.setIfInBounds i true) w↔S l w) :
 ∀ (fuel:Nat) (listed:Array Bool) (a:Act) (w:World),
  (∀j oj,ops[j]? = some oj→j≠i→listed.getD j true=false→(∀e∈oj.after,Region.binds md e=true→e.on≠i)→oi.apart ops oj=true) →
  i∈Region.ready md ops listed→rv ks listed→YieldsIf P ops (fun w=>∃l,rv ks l∧S l w) oi v a→S listed w →
  wpAnyL P md ops Q S fuel (listed.setIfInBounds i true) (a.put oi.dst v) w→wpAnyL P md ops Q S (fuel+1) listed a w:=by
 intro fuel;induction fuel with
 | zero =>
  intro listed a w _ hr hu hy hS H;refine⟨fun h=>(by rw[h]at hr;cases hr),fun j hj=>?_⟩;by_cases hji:j=i
  ·subst hji;exact hy.wpOp hi ⟨listed,hu,hS⟩ ⟨(KZ _ _).2 hS,H⟩
  ·have:=ready_mono hj hji;rw[H.1]at this;cases this
 | succ fuel ih =>
  intro listed a w hfree hr hu hy hS H;refine⟨fun h=>(by rw[h]at hr;cases hr),fun j hj=>?_⟩;by_cases hji:j=i
  ·subst hji;exact hy.wpOp hi ⟨listed,hu,hS⟩ ⟨(KZ _ _).2 hS,H⟩
  ·have h1:=H.2 j (ready_mono hj hji);have hu':=hu.step hks (mem_ready.1 hr).1 hj hji;obtain⟨hjun,oj,hoj,hall⟩:=mem_ready.1 hj;have hnot:∀e∈oj.after,Region.binds md e=true→e.on≠i:=fun e he hb heq=>by
    have h1:=hall e he hb;rw[heq,ry (mem_ready.1 hr).1]at h1;cases h1
   have h2:=wpOp_putIf hoj (hfree j oj hoj hji hjun hnot) (fun cs b=>hsel i oi cs b hi) (fun cs b=>hsel j oj cs b hoj) hQ hy h1;have hfree':∀k ok,ops[k]? = some ok→k≠i→(listed.setIfInBounds j true).getD k true=false →
    (∀e∈ok.after,Region.binds md e=true→e.on≠i)→oi.apart ops ok=true:=fun k ok hk hki hun hno=>by
    refine hfree k ok hk hki ?_ hno;by_cases hjk:j=k
    ·subst hjk;exact hjun
    ·rw[getD_set_ne true hjk]at hun;exact hun
   refine wpOp_mono (fun a' w' h3=>?_) h2;have Ao:S (listed.setIfInBounds j true) w':=(KZ _ _).1 (by rw[Array.setIfInBounds_comm _ _ hji];exact h3.2.1);refine⟨Ao,ih (listed.setIfInBounds j true) a' w' hfree' (ready_mono hr (Ne.symm hji)) hu' h3.1 Ao ?_⟩;rw[Array.setIfInBounds_comm _ _ hji];exact h3.2.2
theorem gD {i:Nat} {oi:Oper} {v:Value} {fuel:Nat} {listed:Array Bool} {a:Act} {w:World} (ks:List Nat) (hi:ops[i]? = some oi)
 (hs:Region.noSelect ops=true) (hf:Region.free md ops listed i=true) (hr:(Region.ready md ops listed).contains i=true)
 (hks:Region.waits md ops i ks=true) (hu:ks.all (fun k => !listed.getD k true)=true) (KZ:∀l w,S (l.setIfInBounds i true) w↔S l w)
 (hQ:∀c a w,Q (.panic c) (a.put oi.dst v) w→Q (.panic c) a w) (hy:YieldsIf P ops (fun w=>∃l,rv ks l∧S l w) oi v a) (hS:S listed w)
 (h:wpAnyL P md ops Q S fuel (listed.setIfInBounds i true) (a.put oi.dst v) w):wpAnyL P md ops Q S (fuel+1) listed a w :=
 wpAnyL_first hi (Region.noSelect_spec hs) hQ hks KZ fuel listed a w (Region.free_spec hi hf) (by simpa using hr) (fun k hk=>by simpa using List.all_eq_true.1 hu k hk) hy hS h
theorem PF {rs:List Nat} {fuel:Nat} {listed:Array Bool} {a:Act} {w:World} (hr:Region.ready md ops listed=rs) (hne:rs≠[])
 (h:∀i∈rs,wpOp P ops Q i (fun a' w'=>S (listed.setIfInBounds i true) w'∧wpAnyL P md ops Q S fuel (listed.setIfInBounds i true) a' w') a w):wpAnyL P md ops Q S (fuel+1) listed a w :=
 ⟨fun h0=>absurd (hr▸h0) hne,hr▸h⟩
theorem M6 {listed:Array Bool} {a:Act} {w:World} (hr:Region.ready md ops listed=[]) (h:Q .normal a w) :
 ∀fuel,wpAnyL P md ops Q S fuel listed a w
 | 0=>⟨hr,h⟩
 | _+1=>⟨fun _=>h,by rw[hr];simp⟩
def dA (P:Program) (md:Region.Mode) (ops:Array Oper) (Q:Exit→Act→World→Prop) (S:Array Bool→World→Prop) (fuel:Nat) (listed:Array Bool) (a:Act) (w:World) (rs:List Nat):Prop :=
 ∀i∈rs,wpOp P ops Q i (fun a' w'=>S (listed.setIfInBounds i true) w'∧wpAnyL P md ops Q S fuel (listed.setIfInBounds i true) a' w') a w
theorem dA.nil {fuel:Nat} {listed:Array Bool} {a:Act} {w:World}:dA P md ops Q S fuel listed a w []:=fun _ h=>by cases h
theorem dA.cons {fuel:Nat} {listed:Array Bool} {a:Act} {w:World} {i:Nat} {o:Oper} {rs:List Nat} (ho:ops[i]? = some o)
 (h:∀K':Act→World→Prop,Shut (∀a w,S (listed.setIfInBounds i true) w→(S (listed.setIfInBounds i true) w→wpAnyL P md ops Q S fuel (listed.setIfInBounds i true) a w)→K' a w)→if Region.wanted o (yielded ops a.tmps)=true then Oper.wp P o a w K' Q else K' (a.put o.dst undef) w)
 (hs:dA P md ops Q S fuel listed a w rs):dA P md ops Q S fuel listed a w (i::rs):=fun j hj=>by
 rcases List.mem_cons.1 hj with rfl | hj
 ·exact wpOp_step ho (fun K' hK=>h K' (fun a w hS hW=>hK a w ⟨hS,hW hS⟩))
 ·exact hs j hj
theorem j9 {rs:List Nat} {fuel:Nat} {listed:Array Bool} {a:Act} {w:World} (hr:Region.ready md ops listed=rs) (hne:rs≠[])
 (h:dA P md ops Q S fuel listed a w rs):wpAnyL P md ops Q S (fuel+1) listed a w:=PF hr hne h
theorem yi {id:Nat} {a:Act} {w:World} (hm:P.follows .mixedOrders=true) (hS:S (Array.replicate ops.size false) w.drew)
 (h:S (Array.replicate ops.size false) w.drew→wpAnyL P .any ops Q S ops.size (Array.replicate ops.size false) a w.drew):(Code.region id ops true).wp P Q a w :=
 wp_region_any hm (ET _ _ _ _ (h hS))
end
end Go
namespace Go.Proofs.YtdpniceapmikpaaGreat
open Go.RowKit
def qE:List UInt8:=[67,72,76,71]
def aC (b:List UInt8) (i k:Nat):Nat:=aW ((b.drop i).take k)
def rX (ed:Nat) (vo vb vs:Value) (c:Nat) (vm:Value):Array Value:=#[.int .i64 ed,vo,vb,vs,.int .i64 c,vm]
def nT (b:List UInt8) (i:Nat):Int:=if i=0 then -1 else (aC b (20+6*(i-1)) 2:Int)
def jz (N:Int) (b:List UInt8) (i:Nat):Bool:=decide (nT b i<(aC b (20+6*i) 2:Int))&&decide ((aC b (20+6*i) 2:Int)<N)
def bI (N:Int) (b:List UInt8):Bool :=
 cZ b&&((b.take 4 == qE)&&(decide (aC b 4 8<9223372036854775808)&&(decide ((aC b 12 2:Int)≤N)&&(decide (aC b 14 2≤4096) &&
  ((List.range (aC b 12 2)).all (jz N b) && !((b.take 508).drop (20+6*aC b 12 2)).any (· != 0))))))
theorem M7 (l:List UInt8):(⟨l.toArray⟩:ByteArray)=⟨#[67,72,76,71]⟩↔l=qE:=by
 constructor
 ·intro h;have h2:=dz (fun x=>x.data.toList) h;simpa[qE]using h2
 ·rintro rfl;rfl
def abc (b:List UInt8) (w w':World) (v:Value):Prop :=
 ∃vo vs vm g,v=.agg (rX (aC b 4 8) vo (.slice none 0 0) vs (aC b 16 4) vm) ∧
  w'.ownsRow w.heap.size 3 1 vo (aC b 12 2) ((List.range (aC b 12 2)).map fun i=>.int .i64 (aC b (20+6*i) 2:Int)) ∧
  w'.ownsRow w.heap.size 2 1 vm (aC b 12 2) ((List.range (aC b 12 2)).map fun i=>.int .i64 (aC b (22+6*i) 4:Int)) ∧
  vs=.slice (some ⟨g,0,none⟩) (aC b 14 2) (aC b 14 2)∧w.heap.size≤g∧ah w' g 5 (Array.replicate (aC b 14 2) (aj 0))
def pF (D:aX) (x:ak) (N:Int) (b:List UInt8) (w w':World) (e:Ending):Prop :=
 aE w' D x.stepped∧DStep D D w w'∧if bI N b then ∃v,e=.returned v∧abc b w w' v else e=.panicked (lg 170)
theorem pF.no {D:aX} {x:ak} {N:Int} {b:List UInt8} {w w2 w':World} (h:bI N b=false) (hd:aE w2 D x.stepped) (hs:DStep D D w w2) (hb:Below w2.heap.size w2 w'):pF D x N b w w' (.panicked (lg 170)) :=
 ⟨hd.below hb,hs.below hb,by rw[h];rfl⟩
structure dB (D:aX) (x:ak) (w:World) (N:Int) (pl gs B:Nat) (W:World) (v:Value) (rest:List UInt8) (S:Array Value):Prop where
 disk:aE W D x.stepped
 step:DStep D D w W
 plan:ah W w.heap.size 23 #[.int .i64 N]
 res:ah W (w.heap.size+1) 142 (rX 0 (.slice none 0 0) (.slice none 0 0) (.slice none 0 0) 0 (.slice none 0 0))
 box:ah W pl 26 #[v]
 bytes:BytesIn W B v rest
 said:ah W gs 142 S
 bs:w.heap.size+2≤B
 bl:B≤pl
 ne:pl<gs
section
variable {D:aX} {x:ak} {w W W':World} {N:Int} {pl gs B:Nat} {v:Value} {rest:List UInt8} {S:Array Value}
theorem dB.old (h:dB D x w N pl gs B W v rest S) (hD:∀i,D.has i→i<w.heap.size) {F:Nat→Prop} (ho:Out F W W') (hF:∀i,F i→i<W.heap.size→B≤i) :
 aE W' D x.stepped∧DStep D D w W'∧ah W' w.heap.size 23 #[.int .i64 N]∧ah W' (w.heap.size+1) 142 (rX 0 (.slice none 0 0) (.slice none 0 0) (.slice none 0 0) 0 (.slice none 0 0))∧BytesIn W' B v rest:=by
 have hB:=h.bs;have hBW:B≤W.heap.size:=by have:=h.box.lt;have:=h.bl;omega
 have hb:Below B W W':=⟨ho.os,ho.tape,ho.output,ho.size,fun i hi=>ho.block i (by omega) (fun hf=>by have:=hF i hf (by omega);omega)⟩;have hw:=h.step.out.size;refine⟨h.disk.out (F:=fun i=>B≤i) ⟨ho.os,ho.tape,ho.output,ho.size,fun i hi hn=>hb.block i (by omega)⟩ (fun i hi=>by have:=hD i hi;omega),?_,h.plan.below hb (by omega),h.res.below hb (by omega),h.bytes.below hb (ai _)⟩;exact⟨h.step.out.trans (G:=fun i=>B≤i) ⟨ho.os,ho.tape,ho.output,ho.size,fun i hi hn=>hb.block i (by omega)⟩ (fun i hi hg=>by omega),rfl,fun i hi=>.inl hi⟩
theorem dB.take (h:dB D x w N pl gs B W v rest S) (hD:∀i,D.has i→i<w.heap.size) (ho:Out (fun i=>i=pl) W W') {v':Value} {rest':List UInt8} (hb:ah W' pl 26 #[v']) (hv:BytesIn W' B v' rest'):dB D x w N pl gs B W' v' rest' S:=by
 obtain⟨h1,h2,h3,h4,_⟩:=h.old hD ho (fun i e _=>by have:=h.bl;omega);exact⟨h1,h2,h3,h4,hb,hv,ho.blk h.said (by have:=h.ne;omega),h.bs,h.bl,h.ne⟩
theorem dB.br (h:dB D x w N pl gs B W v rest S) (hD:∀i,D.has i→i<w.heap.size) (i:Nat) (u:Value):dB D x w N pl gs B (W.setCell ⟨gs,i,none⟩ u) v rest (S.setIfInBounds i u):=by
 obtain⟨h1,h2,h3,h4,h5⟩:=h.old hD (bk (F:=fun i=>i=gs) rfl) (fun i e _=>by have:=h.bl;have:=h.ne;omega);exact⟨h1,h2,h3,h4,h.box.far (by have:=h.ne;simp;omega) _,h5,h.said.br i u,h.bs,h.bl,h.ne⟩
theorem dB.out (h:dB D x w N pl gs B W v rest S) (hD:∀i,D.has i→i<w.heap.size) {F:Nat→Prop} (ho:Out F W W') (hF:∀i,F i→i<W.heap.size→B≤i∧i≠pl∧i≠gs):dB D x w N pl gs B W' v rest S:=by
 obtain⟨h1,h2,h3,h4,h5⟩:=h.old hD ho (fun i e hi=>(hF i e hi).1);exact⟨h1,h2,h3,h4,ho.blk h.box (fun hf=>(hF pl hf h.box.lt).2.1 rfl),h5,ho.blk h.said (fun hf=>(hF gs hf h.said.lt).2.2 rfl),h.bs,h.bl,h.ne⟩
theorem dB.below (h:dB D x w N pl gs B W v rest S) (hD:∀i,D.has i→i<w.heap.size) (hb:Below W.heap.size W W'):dB D x w N pl gs B W' v rest S :=
 h.out hD (F:=fun _=>False) (aN hb) (fun _ hf=>hf.elim)
theorem dB.no {b:List UInt8} (h:dB D x w N pl gs B W v rest S) (hb:Below W.heap.size W W') (hN:bI N b=false):pF D x N b w W' (.panicked (lg 170)) :=
 pF.no hN h.disk h.step hb
end
theorem BytesIn.room {W:World} {B:Nat} {a:Option Addr} {n c:Nat} {l:List UInt8} (h:BytesIn W B (.slice a n c) l):l.length=n∧n≤c:=by
 obtain⟨_,a',c',e,h3,_⟩:=h;injection e with ea el ec
 subst ea ec el;exact⟨rfl,h3⟩
theorem vW (n:Nat):madeCells #[.int .u8 0] n=Array.replicate n (aj 0):=by
 apply xg;rw[toList_madeCells_one,Rw];rfl
theorem F0 (b:List UInt8) (i k:Nat) (h:i+k≤508):aW (((b.take 508).drop i).take k)=aC b i k:=by
 unfold aC;rw[List.drop_take,List.take_take,oN (by omega)]
theorem mW (b:List UInt8) (hb:b.length=512) (i k:Nat) (h:i+k≤508):(((b.take 508).drop i).take k).length=k∧k≤((b.take 508).drop i).length:=by
 simp only[List.length_take,List.length_drop];omega
theorem K8 (l:List UInt8) (h:l.length=8):iN l=decide (aW l<9223372036854775808):=by
 unfold iN;rw[h];rfl
theorem im (l:List UInt8) (h:l.length=2∨l.length=4):iN l=true:=by
 unfold iN;have h1:aW l<256^4:=kK (iJ l) (rR (by omega) (by omega));have h2:(256:Nat)^4=4294967296:=by decide
 rw[cT (by omega),Bool.and_true];rcases h with h | h<;>rw[h]<;>rfl
section
variable {D:aX} {x:ak} {w W W':World} {N:Int} {pl gs B:Nat} {v:Value} {b:List UInt8} {S:Array Value}
theorem dB.takes {i:Nat} (h:dB D x w N pl gs B W v ((b.take 508).drop i) S) (hD:∀i,D.has i→i<w.heap.size) (hb:b.length=512) (k:Nat) (hk:k≤8) (hik:i+k≤508) (hg:iN (((b.take 508).drop i).take k)=true) :
 Calls Tryz.prog 115 #[.pointer (some ⟨pl,0,none⟩),.int .i64 (k:Int)] W fun e W'=>e=.returned (.int .i64 (aC b i k:Nat))∧(∃v',dB D x w N pl gs B W' v' ((b.take 508).drop (i+k)) S)∧Out (fun i=>i=pl) W W':=by
 refine(Wh pl B v _ k hk (mW b hb i k hik).2 W h.box h.bytes h.bl hg).mono ?_;rintro e W' ⟨rfl,⟨v',hb',hv'⟩,ho⟩;refine⟨by rw[F0 b i k hik],⟨v',?_⟩,ho⟩;rw[og]at hv';exact h.take hD ho hb' hv'
end
theorem AX {w:World} {B B' k:Nat} {e:TypeId} {v:Value} {n:Nat} {xs:List Value} (h:w.ownsRow B e k v n xs) (hb:B'≤B):w.ownsRow B' e k v n xs:=by
 obtain⟨hl,h | ⟨g,cap,cur,e,hB,r⟩⟩:=h
 ·exact⟨hl,.inl h⟩
 ·exact⟨hl,.inr ⟨g,cap,cur,e,jF hb hB,r⟩⟩
theorem nr {p:Nat→Bool} {j n:Nat} (hj:j<n) (h:p j=false):(List.range n).all p=false:=by
 rw[wL];exact⟨j,ng.2 hj,by simp[h]⟩
def lQ (b:List UInt8) (n:Nat):List Value:=(List.range n).map fun i=>.int .i64 (aC b (20+6*i) 2:Nat)
def yj (b:List UInt8) (n:Nat):List Value:=(List.range n).map fun i=>.int .i64 (aC b (22+6*i) 4:Nat)
theorem tI {w:World} {B B' k k':Nat} {e e':TypeId} {v v':Value} {n n':Nat} {xs xs':List Value} (h:w.ownsRow B e k v n xs) (h':w.ownsRow B' e' k' v' n' xs') (he:e≠e') (i:Nat) (hi:v.ownBlock=some i) (hi':v'.ownBlock=some i):False:=by
 obtain⟨_,⟨rfl,_⟩ | ⟨g,cap,cur,rfl,_,hg,_⟩⟩:=h
 ·simp[Value.ownBlock]at hi
 obtain⟨_,⟨rfl,_⟩ | ⟨g',cap',cur',rfl,_,hg',_⟩⟩:=h'
 ·simp[Value.ownBlock]at hi'
 simp[Value.ownBlock]at hi hi';subst hi hi';rw[hg]at hg';injection hg' with h1
 injection h1 with _ h2
 exact he h2
theorem jN {w w':World} {row:Option Nat} (h:w.grownBy w' row):Out (fun i=>row=some i) w w':=⟨h.os,h.tape,h.output,h.size,fun i hi hn=>h.block i hi (fun e=>hn e.symm)⟩
theorem K_:(Tryz.prog.info? 3).map (fun i=>(i.zero,i.size,i.bytes))=some (some (.int .i64 0),1,8):=by kernel_rfl
theorem PG:(Tryz.prog.info? 2).map (fun i=>(i.zero,i.size,i.bytes))=some (some (.int .i64 0),1,8):=by kernel_rfl
def LS (gs:Nat) (vo vm:Value) (l:Array Bool) (w':World):Prop:=(l.getD 14 true=false→w'.cell? ⟨gs,1,none⟩=some vo)∧(l.getD 16 true=false→w'.cell? ⟨gs,5,none⟩=some vm)
theorem LS.of {w':World} {gs:Nat} {t:TypeId} {S:Array Value} {vo vm:Value} (hb:ah w' gs t S) (h1:S[1]? = some vo) (h5:S[5]? = some vm) (l:Array Bool):LS gs vo vm l w':=⟨fun _=>hb.ag 1 h1,fun _=>hb.ag 5 h5⟩
theorem LS.other {gs:Nat} {vo vm:Value} {i:Nat} (Tj:i≠14) (h16:i≠16) (l:Array Bool) (w':World):LS gs vo vm (l.setIfInBounds i true) w'↔LS gs vo vm l w':=by
 unfold LS;rw[jU true Tj,jU true h16]
structure fL (D:aX) (x:ak) (w:World) (N:Int) (pl gs B g1 nb:Nat) (b:List UInt8) (W:World) (v vo vm:Value) (i jo jm:Nat) (S:Array Value):Prop where
 inv:dB D x w N pl gs B W v ((b.take 508).drop i) S
 bj:W.ownsRow B 3 1 vo jo (lQ b jo)
 sums:W.ownsRow B 2 1 vm jm (yj b jm)
 page:ah W g1 5 (Array.replicate nb (aj 0))
 hg:B≤g1∧g1≠pl∧g1≠gs
section
variable {D:aX} {x:ak} {w W W':World} {N:Int} {pl gs B g1 nb:Nat} {v vo vm:Value} {b:List UInt8} {S:Array Value} {i jo jm:Nat}
theorem fL.below (h:fL D x w N pl gs B g1 nb b W v vo vm i jo jm S) (hD:∀i,D.has i→i<w.heap.size) (hb:Below W.heap.size W W'):fL D x w N pl gs B g1 nb b W' v vo vm i jo jm S :=
 ⟨h.inv.below hD hb,aq (F:=fun _=>False) (aN hb) h.bj (fun _ _=>id),aq (F:=fun _=>False) (aN hb) h.sums (fun _ _=>id),h.page.below hb h.page.lt,h.hg⟩
theorem fL.take (h:fL D x w N pl gs B g1 nb b W v vo vm i jo jm S) {v':Value} {i':Nat} (hi:dB D x w N pl gs B W' v' ((b.take 508).drop i') S) (ho:Out (fun i=>i=pl) W W'):fL D x w N pl gs B g1 nb b W' v' vo vm i' jo jm S :=
 ⟨hi,aq ho h.bj (aR h.bj h.inv.box (by decide)),aq ho h.sums (aR h.sums h.inv.box (by decide)),ho.blk h.page h.hg.2.1,h.hg⟩
theorem fL.br (h:fL D x w N pl gs B g1 nb b W v vo vm i jo jm S) (hD:∀i,D.has i→i<w.heap.size) (j:Nat) (u:Value):fL D x w N pl gs B g1 nb b (W.setCell ⟨gs,j,none⟩ u) v vo vm i jo jm (S.setIfInBounds j u) :=
 have ho:Out (fun i=>i=gs) W (W.setCell ⟨gs,j,none⟩ u):=bk rfl
 ⟨h.inv.br hD j u,aq ho h.bj (aR h.bj h.inv.said (by decide)),aq ho h.sums (aR h.sums h.inv.said (by decide)),ho.blk h.page h.hg.2.2,h.hg⟩
theorem fL.dy (h:fL D x w N pl gs B g1 nb b W v vo vm i jo jm S) (hD:∀i,D.has i→i<w.heap.size) (hg:W.grownBy W' vo.ownBlock) {vo':Value} {jo':Nat} (ho:W'.ownsRow B 3 1 vo' jo' (lQ b jo')):fL D x w N pl gs B g1 nb b W' v vo' vm i jo' jm S:=by
 have h1:=jN hg;refine⟨h.inv.out hD h1 (fun j hj _=>⟨(h.bj.lt j hj).1,aR h.bj h.inv.box (by decide) j hj,aR h.bj h.inv.said (by decide) j hj⟩),ho,aq h1 h.sums (fun j hj hj'=>tI h.bj h.sums (by decide) j hj' hj),h1.blk h.page (fun hj=>aR h.bj h.page (by decide) _ hj rfl),h.hg⟩
theorem fL.sum (h:fL D x w N pl gs B g1 nb b W v vo vm i jo jm S) (hD:∀i,D.has i→i<w.heap.size) (hg:W.grownBy W' vm.ownBlock) {vm':Value} {jm':Nat} (ho:W'.ownsRow B 2 1 vm' jm' (yj b jm')):fL D x w N pl gs B g1 nb b W' v vo vm' i jo jm' S:=by
 have h1:=jN hg;refine⟨h.inv.out hD h1 (fun j hj _=>⟨(h.sums.lt j hj).1,aR h.sums h.inv.box (by decide) j hj,aR h.sums h.inv.said (by decide) j hj⟩),aq h1 h.bj (fun j hj hj'=>tI h.bj h.sums (by decide) j hj hj'),ho,h1.blk h.page (fun hj=>aR h.sums h.page (by decide) _ hj rfl),h.hg⟩
end
theorem yl (D:aX) (x:ak) (N area:Int) (w:World) (h:aE w D x) (hx:x.ok) (hN:N≤64) (he:x.err (aJ N 2 area 0).1=0) :
 Calls Tryz.prog 69 #[ptr D.p,.agg #[.int .i64 N],.int .i64 area] w fun e w'=>pF D x N (x.reads (aJ N 2 area 0).1) w w' e:=by
 obtain⟨W0,a_⟩:∃W,W=(w.alloc (.cells #[.int .i64 N] 23)).alloc (.cells #[.int .i64 0,.slice none 0 0,.slice none 0 0,.slice none 0 0,.int .i64 0,.slice none 0 0] 142):=⟨_,rfl⟩;have hw0:Below w.heap.size w W0:=by rw[a_];exact((ax _ w).alloc (ai _) _).alloc (by simp) _
 obtain⟨n0,en0⟩:∃n,n=(aJ N 2 area 0).1:=⟨_,rfl⟩;have HAT:=ae (fun W=>lV N 2 area 0 W (by unfold ix;omega));rw[←en0]at he HAT ⊢;have HR:=ae (fun W hh=>nQ D x n0 W hh hx he);obtain⟨b,eb⟩:∃b,b=x.reads n0:=⟨_,rfl⟩;have hlb:b.length=512:=by rw[eb];exact x.dS hx.sound n0
 rw[←eb]at HR ⊢;unfold ptr aV at *;have f_:=ae hlb;have HX:=ae h;clear h hx he eb hlb en0;go_enter Tryz.func69,Tryz.ntmps69
 go_wp2_with fail;rw[←a_];have k4:ah W0 w.heap.size 23 #[.int .i64 N]:=by rw[a_];exact(ah.new w _ _).alloc _
 have k6:ah W0 (w.heap.size+1) 142 (rX 0 (.slice none 0 0) (.slice none 0 0) (.slice none 0 0) 0 (.slice none 0 0)):=by rw[a_];exact ah.new2 _ _ _ _
 have aid:W0.heap.size=w.heap.size+2:=by rw[a_];simp
 clear a_;refine(HAT.out W0).mono ?_;rintro e w1 ⟨rfl,hb1⟩;have hw1:=hw0.trans (hb1.mono (by omega));have HD1:=ae (HX.out.below hw1);go_wp2_with fail;refine(HR.out w1 HD1.out).mono ?_;rintro e w2 ⟨rfl,hd2,hs2⟩;have n4:¬D.has w.heap.size:=fun hd=>by have:=HX.out.has_lt _ hd;omega
 have n6:¬D.has (w.heap.size+1):=fun hd=>by have:=HX.out.has_lt _ hd;omega
 have j4:=hs2.out.blk (k4.below hb1 (by omega)) n4;have j6:=hs2.out.blk (k6.below hb1 (by omega)) n6;have hsz2:w.heap.size+2≤w2.heap.size:=by have:=hs2.out.size;have:=hb1.size;omega
 have HD2:=ae hd2;have HS2:=ae (hs2.first hw1 HX.out.has_lt);have J4:=ae j4;have J6:=ae j6;clear k4 k6 hd2 hs2 j4 j6 hb1 hw1 hw0 HAT HR HD1;go_wp2_with (refine aQ rfl 111 _ _ rfl w2.heap.size (b.map aj).toArray rfl rfl 111 _ (bC w2 _) (aO _ f_.out) (by rw[bE];exact bT _ _ bA f_.out) (bq _) ?_;rw[di])
 have K7:=ae (ah.new w2 111 (b.map aj).toArray);have hb3:Below w2.heap.size w2 (w2.alloc (.cells (b.map aj).toArray 111)):=(ax _ w2).alloc (ai _) _;have hbl:=fq K7.out 512 (by rw[f_.out];exact ai _) (by rw[f_.out];decide);rw[dg (by rw[f_.out];exact ai _),f_.out]at hbl;obtain⟨W3,mP⟩:∃W,W=w2.alloc (.cells (b.map aj).toArray 111):=⟨_,rfl⟩;rw[←mP]at hbl hb3 K7 ⊢;clear mP;refine(xV _ b _ hbl (by rw[f_.out];decide)).mono ?_;rintro e w4 ⟨u,rfl,hu,hb4⟩;have iz:=ae (hb3.trans (hb4.mono hb3.size));have aie:=ae (And.intro hb3 hb4);unfold jX at hu;clear hb3 hb4 hbl;by_cases hsl:cZ b=true
 case neg =>
  have hsf:cZ b=false:=by simpa using hsl
  rw[hsf]at hu ⊢;have HF:=ae (show bI N b=false by unfold bI;rw[hsf];rfl);obtain rfl:u=.slice none 0 0:=hu;clear hsf hsl;go_wp2_with fail;refine(jR 170 _).mono ?_;rintro e w5 ⟨rfl,rfl⟩;go_wp2_with fail;exact⟨rfl,pF.no HF.out HD2.out HS2.out (iz.out.alloc iz.out.size _)⟩
 case pos =>
  rw[hsl]at hu ⊢;have HSL:=ae hsl;have hu2:=hu;rw[aB rfl,f_.out,show 512-4=508 from rfl]at hu2;obtain⟨g8,lX,rfl,hg8,hc8⟩:=lM hu2 (by omega);have Tk:(b.take 508).length=508:=by rw[bD,f_.out];rfl
  have HL:=ae (BytesIn.own hu2);have hcv:∀W,Below w4.heap.size w4 W→(convert 26 9 (.slice (some ⟨g8,0,none⟩) 4 lX)).run Tryz.prog W=.ok (.string ⟨(b.take 4).toArray⟩) W:=fun W hb=>by
   have hl4:(b.take 4).length=4:=by rw[bD,f_.out];rfl
   have:=Rs (P:=Tryz.prog) W 26 9 5 ⟨g8,0,none⟩ lX (b.take 4) eU oK wM (fun j hj=>by
    have hj2:(b.take 508)[j]? = some (b.take 4)[j]:=by rw[dU,aB (by omega),List.getElem_take];exact aY _
    obtain⟨g,off,e2,hg,hc⟩:=HL.out.at_ hj2;injection e2 with e2
    injection e2 with e3 e4
    subst e3 e4;rw[eP];exact(hb.cell (p:=⟨g8,0+j,none⟩) hg).trans hc)
   rwa [hl4]at this
  have EU:=ae hcv;clear hu hu2 hcv hsl;have abg:=HL.out.room.2;have aif:(508:Int)≤(lX:Int):=by omega
  have aih:(4:Int)≤(lX:Int):=by omega
  have hcv:=EU.out (w4.alloc (.cells #[.slice (some ⟨g8,0,none⟩) 508 lX] 26)) ((ax _ w4).alloc (ai _) _);go_wp2_with fail;by_cases hm:(b.take 4 == [67,72,76,71])=true
  case neg =>
   have N1:(b.take 4 == [67,72,76,71])=false:=by simpa using hm
   have HF:=ae (show bI N b=false by unfold bI;rw[show(b.take 4 == qE)=false from N1,wY,oO]);rw[N1];clear hm N1;refine(jR 170 _).mono ?_;rintro e w5 ⟨rfl,rfl⟩;go_wp2_with fail;exact⟨rfl,pF.no HF.out HD2.out HS2.out (iz.out.alloc iz.out.size _)⟩
  case pos =>
   have HM:=ae (show(b.take 4 == qE)=true from hm);rw[hm];clear hm;refine(lA 170 _).mono ?_;rintro e w5 ⟨rfl,rfl⟩;have cl:(w4.alloc (.cells #[.slice (some ⟨g8,0,none⟩) 508 lX] 26)).cell? ⟨w4.heap.size,0,none⟩=some (.slice (some ⟨g8,0,none⟩) 508 lX):=(ah.new w4 _ _).ag 0 rfl;go_wp2_with fail;obtain⟨B,eB⟩:∃k,k=w4.heap.size:=⟨_,rfl⟩;have PH:dB D x w N w4.heap.size (w4.heap.size+1) B ((w4.alloc (.cells #[.slice (some ⟨g8,4,none⟩) 504 (lX-4)] 26)).alloc (.cells #[.int .i64 0,.slice none 0 0,.slice none 0 0,.slice none 0 0,.int .i64 0,.slice none 0 0] 142)) (.slice (some ⟨g8,4,none⟩) 504 (lX-4)) ((b.take 508).drop 4) #[.int .i64 0,.slice none 0 0,.slice none 0 0,.slice none 0 0,.int .i64 0,.slice none 0 0]:=by
    rw[eB];have hbb:Below w4.heap.size w4 ((w4.alloc (.cells #[.slice (some ⟨g8,4,none⟩) 504 (lX-4)] 26)).alloc (.cells (rX 0 (.slice none 0 0) (.slice none 0 0) (.slice none 0 0) 0 (.slice none 0 0)) 142)):=((ax _ w4).alloc (ai _) _).alloc (by simp) _;have hba:=iz.out.trans (hbb.mono iz.out.size);have hHL:BytesIn w4 w4.heap.size (.slice (some ⟨g8,0,none⟩) (b.take 508).length lX) (b.take 508):=by rw[Tk];exact HL.out
    have hbx:=(hHL.from_ 4 (by rw[Tk];decide) (by rw[Tk];exact abg)).below hbb (ai _);rw[Tk,aG (by omega)]at hbx;exact⟨HD2.out.below hba,HS2.out.below hba,J4.out.below hba J4.out.lt,J6.out.below hba J6.out.lt,(ah.new w4 _ _).alloc _,hbx,ah.new2 w4 _ _ _,by have:=iz.out.size;omega,ai _,Nat.lt_succ_self _⟩
   obtain⟨W5,N5⟩:∃W,W=((w4.alloc (.cells #[.slice (some ⟨g8,4,none⟩) 504 (lX-4)] 26)).alloc (.cells #[.int .i64 0,.slice none 0 0,.slice none 0 0,.slice none 0 0,.int .i64 0,.slice none 0 0] 142)):=⟨_,rfl⟩;rw[←N5]at PH ⊢;obtain⟨pl,epl⟩:∃k,k=w4.heap.size:=⟨_,rfl⟩;obtain⟨gs,GP⟩:∃k,k=w4.heap.size+1:=⟨_,rfl⟩;rw[←GP,←epl]at PH ⊢;have I0:=ae PH;have hD:=ae HX.out.has_lt;clear N5 epl GP eB hcv cl PH abg aif aih J4 J6 HD2 HS2 iz aie HL EU K7 HX hg8 hc8 hsz2 Tk n4 n6;have AY:=ae (show bI N b=(decide (aC b 4 8<9223372036854775808)&&(decide ((aC b 12 2:Int)≤N)&&(decide (aC b 14 2≤4096)&&((List.range (aC b 12 2)).all (jz N b) && !((b.take 508).drop (20+6*aC b 12 2)).any (· != 0)))))by unfold bI;rw[HSL.out,HM.out,fx,fx]);by_cases hed:aC b 4 8<9223372036854775808
   case neg =>
    have hg:iN (((b.take 508).drop 4).take 8)=false:=by rw[K8 _ (mW b f_.out 4 8 (by decide)).1,F0 b 4 8 (by decide)];exact cB hed
    refine(aaa pl B _ _ 8 (by omega) (mW b f_.out 4 8 (by decide)).2 W5 I0.out.box I0.out.bytes I0.out.bl hg).mono ?_;rintro e w5 ⟨rfl,hb5⟩;have HF:=ae (show bI N b=false by rw[AY.out,cB hed];rfl);clear hg hed;go_wp2_with fail;exact⟨rfl,I0.out.no hb5 HF.out⟩
   case pos =>
    have hg:iN (((b.take 508).drop 4).take 8)=true:=by rw[K8 _ (mW b f_.out 4 8 (by decide)).1,F0 b 4 8 (by decide)];exact cT hed
    refine(I0.out.takes hD.out f_.out 8 (by omega) (by decide) hg).mono ?_;rintro e W6 ⟨rfl,⟨v6,La⟩,_⟩;have S6:=ae hed;have cs:=La.said.ag 0 rfl;have fs:=La.said.frozen 0;have I6:=ae (La.br hD.out 0 (.int .i64 (aC b 4 8:Nat)));clear hg hed La I0;go_wp2_with fail;clear cs fs;refine(I6.out.takes hD.out f_.out 2 (by omega) (by decide) (im _ (.inl (mW b f_.out 12 2 (by decide)).1))).mono ?_;rintro e W7 ⟨he,⟨v7,hI7⟩,_⟩;change e=.returned (.int .i64 (aC b 12 2:Nat))at he
    subst he;have I7:=ae hI7;clear hI7 I6;go_wp2_with fail;refine(I7.out.takes hD.out f_.out 2 (by omega) (by decide) (im _ (.inl (mW b f_.out 14 2 (by decide)).1))).mono ?_;rintro e W8 ⟨he,⟨v8,hI8⟩,_⟩;change e=.returned (.int .i64 (aC b 14 2:Nat))at he
    subst he;have I8:=ae (show dB D x w N pl gs B W8 v8 ((b.take 508).drop 16) #[.int .i64 (aC b 4 8:Nat),.slice none 0 0,.slice none 0 0,.slice none 0 0,.int .i64 0,.slice none 0 0]from hI8);have cp:=hI8.plan.ag 0 rfl;clear hI8 I7;obtain⟨n,en⟩:∃n,n=aC b 12 2:=⟨_,rfl⟩;obtain⟨nb,mQ⟩:∃n,n=aC b 14 2:=⟨_,rfl⟩;rw[←en,←mQ]at AY ⊢;have EN:=ae en;have A3:=ae mQ;clear en mQ;have hbq:decide (nb≤4096)=decide ((nb:Int)≤4096):=by congr 1;simp;omega
    rw[hbq]at AY;clear hbq;cases q1:decide ((n:Int)≤N)
    ·have HF:=ae (show bI N b=false by rw[AY.out,q1,wY,oO]);go_wp2_with fail;refine(jR 170 _).mono ?_;rintro e w9 ⟨rfl,rfl⟩;go_wp2_with fail;exact⟨rfl,I8.out.no (ax _ _) HF.out⟩
    ·cases q2:decide ((nb:Int)≤4096)
     ·have HF:=ae (show bI N b=false by rw[AY.out,q2,wY,oO,oO]);go_wp2_with fail;refine(jR 170 _).mono ?_;rintro e w9 ⟨rfl,rfl⟩;go_wp2_with fail;exact⟨rfl,I8.out.no (ax _ _) HF.out⟩
     ·have xt:=ae (show bI N b=((List.range n).all (jz N b) && !((b.take 508).drop (20+6*n)).any (· != 0))by rw[AY.out,q1,q2,cT S6.out,fx,fx,fx]);go_wp2_with fail;refine(lA 170 _).mono ?_;rintro e w9 ⟨rfl,rfl⟩;have hnN:(n:Int)≤N:=tM q1;have hnb:(nb:Int)≤4096:=tM q2;have HQ1:=ae q1;clear q1 q2 cp AY;have hmk:∀W:World,(Instr.makeSlice 26 (.int .i64 (nb:Int)) (.int .i64 (nb:Int))).run Tryz.prog W=.ok (.slice (some ⟨W.heap.size,0,none⟩) nb nb) (W.alloc (.cells (Array.replicate nb (aj 0)) 5)):=fun W=>by
       have h:=run_make_row' (P:=Tryz.prog) 26 5 (.int .u8 0) 1 eU (by kernel_rfl) rfl .i64 .i64 nb (by omega) (by omega) W;rwa [vW]at h
      have abi:=I8.out.box.lt;have abj:=I8.out.said.lt;go_upto_region 10 with fail;refine bF (S:=(fun _=>True)) (by kernel_rfl) (by trivial) (fun hHeld=>?_);refine tk 0 ?_;refine fU (rs:=[1,2]) (by kernel_rfl) (by simp) ?_;refine(ca rfl (fun K hK=>?_) (ca rfl (fun K hK=>?_) fT));go_simp;refine hK.out _ _ (by trivial) (fun hHeld=>?_);clear hK K;refine tk 3 ?_;refine tk 4 ?_;refine rd 2 fun K hK=>?_;go_simp;refine((I8.out.below hD.out (W':=_) (by first | exact(ax _ W8).drew | exact(ax _ W8).drew.alloc (ai _) _ | exact((ax _ W8).alloc (ai _) _).drew)).takes hD.out f_.out 4 (by omega) (by decide) (im _ (.inr (mW b f_.out 16 4 (by decide)).1))).mono ?_;rintro e W9 ⟨he,⟨v9,Tl⟩,Tm⟩;change e=.returned (.int .i64 (aC b 16 4:Nat))at he
      subst he;have I9:=ae (show dB D x w N pl gs B W9 v9 ((b.take 508).drop 20) #[.int .i64 (aC b 4 8:Nat),.slice none 0 0,.slice none 0 0,.slice none 0 0,.int .i64 0,.slice none 0 0]from Tl);have GY:=ae Tm;clear Tl Tm;go_wp2_with fail;refine hK.out _ _ (by trivial) (fun hHeld=>?_);clear hK K;obtain⟨g1,Lb⟩:∃g,g=W8.heap.size:=⟨_,rfl⟩;have Yo:=ae (show ah W9 g1 5 (Array.replicate nb (aj 0))by rw[Lb];first | exact GY.out.blk (ah.new W8 _ _).drew (by omega) | exact GY.out.blk (ah.new W8.drew _ _) (by omega));have hg1:B≤g1∧g1≠pl∧g1≠gs:=⟨by have:=I8.out.bl;omega,by omega,by omega⟩;obtain⟨EX,C_⟩:∃W,W=W9:=⟨_,rfl⟩;rw[←Lb];rw[←C_]at I9 Yo ⊢;have qT:=I9;clear Lb C_ I8 I9 GY abi abj hmk;have c3:=qT.out.said.ag 3 rfl;have f3:=qT.out.said.frozen 3;have c4:=qT.out.said.ag 4 rfl;have f4:=qT.out.said.frozen 4;refine rd 5 fun K hK=>?_;go_simp;refine hK.out _ _ (by trivial) (fun hHeld=>?_);clear hK K;refine tk 6 ?_;refine rd 7 fun K hK=>?_;go_simp;refine hK.out _ _ (by trivial) (fun hHeld=>?_);clear hK K;refine aT ?_;rotate_left 1
      go_simp;refine((I8.out.below hD.out (W':=_) (by first | exact(ax _ W8).drew | exact(ax _ W8).drew.alloc (ai _) _ | exact((ax _ W8).alloc (ai _) _).drew)).takes hD.out f_.out 4 (by omega) (by decide) (im _ (.inr (mW b f_.out 16 4 (by decide)).1))).mono ?_;rintro e W9 ⟨he,⟨v9,Tl⟩,Tm⟩;change e=.returned (.int .i64 (aC b 16 4:Nat))at he
      subst he;have I9:=ae (show dB D x w N pl gs B W9 v9 ((b.take 508).drop 20) #[.int .i64 (aC b 4 8:Nat),.slice none 0 0,.slice none 0 0,.slice none 0 0,.int .i64 0,.slice none 0 0]from Tl);have GY:=ae Tm;clear Tl Tm;go_wp2_with fail;refine hK.out _ _ (by trivial) (fun hHeld=>?_);clear hK K;refine rd 1 fun K hK=>?_;go_simp;refine hK.out _ _ (by trivial) (fun hHeld=>?_);clear hK K;obtain⟨g1,Lb⟩:∃g,g=W9.heap.size:=⟨_,rfl⟩;obtain⟨EX,C_⟩:∃W,W=W9.alloc (.cells (Array.replicate nb (aj 0)) 5):=⟨_,rfl⟩;have qT:=ae (show dB D x w N pl gs B EX v9 ((b.take 508).drop 20) #[.int .i64 (aC b 4 8:Nat),.slice none 0 0,.slice none 0 0,.slice none 0 0,.int .i64 0,.slice none 0 0]by rw[C_];exact I9.out.below hD.out ((ax _ W9).alloc (ai _) _));have Yo:=ae (show ah EX g1 5 (Array.replicate nb (aj 0))by rw[C_,Lb];exact ah.new W9 _ _);have hg1:B≤g1∧g1≠pl∧g1≠gs:=⟨by have:=I9.out.bl;have:=I9.out.box.lt;omega,by have:=I9.out.box.lt;omega,by have:=I9.out.said.lt;omega⟩;rw[←Lb];rw[←C_];clear Lb C_ I8 I9 GY abi abj hmk;have c3:=qT.out.said.ag 3 rfl;have f3:=qT.out.said.frozen 3;have c4:=qT.out.said.ag 4 rfl;have f4:=qT.out.said.frozen 4;refine tk 3 ?_;refine tk 4 ?_;refine rd 5 fun K hK=>?_;go_simp;refine hK.out _ _ (by trivial) (fun hHeld=>?_);clear hK K;refine tk 6 ?_;refine rd 7 fun K hK=>?_;go_simp;refine hK.out _ _ (by trivial) (fun hHeld=>?_);clear hK K;refine aT ?_;rotate_left 1
      all_goals
       obtain⟨tl,ym⟩:∃W,W=((EX.setCell ⟨gs,3,none⟩ (.slice (some ⟨g1,0,none⟩) nb nb)).setCell ⟨gs,4,none⟩ (.int .i64 (aC b 16 4:Nat))):=⟨_,rfl⟩;rw[←ym];have L0:=ae (show fL D x w N pl gs B g1 nb b tl v9 (.slice none 0 0) (.slice none 0 0) 20 0 0 #[.int .i64 (aC b 4 8:Nat),.slice none 0 0,.slice none 0 0,.slice (some ⟨g1,0,none⟩) nb nb,.int .i64 (aC b 16 4:Nat),.slice none 0 0]by
        rw[ym];refine⟨(qT.out.br hD.out 3 _).br hD.out 4 _,km _ _ _ _,km _ _ _ _,?_,hg1⟩;exact(Yo.out.far (by simp;omega) _).far (by simp;omega) _)
       clear ym qT Yo c3 f3 c4 f4;go_wp2_with fail;go_loopw [56,13] (fun i la wr=>∃ (j:Nat) (vj vo vm:Value),j≤n∧i=.int .i64 (j:Int)∧la=.int .i64 (nT b j)∧(List.range j).all (jz N b)=true∧fL D x w N pl gs B g1 nb b wr vj vo vm (20+6*j) j j #[.int .i64 (aC b 4 8:Nat),vo,.slice none 0 0,.slice (some ⟨g1,0,none⟩) nb nb,.int .i64 (aC b 16 4:Nat),vm]) (fun i _ _=>n-(intOf i).toNat)
       case atStart=>exact⟨0,v9,_,_,fi _,rfl,rfl,rfl,L0.out⟩
       case round =>
        obtain⟨j,vj,vo,vm,hj,rfl,rfl,hall,hL⟩:=hrel;have L1:=ae hL;have abk:n≤64:=by omega
        by_cases hlt:j<n
        ·have Wp:(j:Int)<(n:Int):=by omega
         have vX:=ae hall;clear hL hall;go_wp2_with fail;refine(L1.out.inv.takes hD.out f_.out 2 (by omega) (by omega) (im _ (.inl (mW b f_.out (20+6*j) 2 (by omega)).1))).mono ?_;rintro e Lc ⟨rfl,⟨v12,abl⟩,abm⟩;have L2:=ae (L1.out.take abl abm);clear abl abm L1;have yW:=ae (show jz N b j=(decide (nT b j<(aC b (20+6*j) 2:Int))&&decide ((aC b (20+6*j) 2:Int)<N))from rfl);have Yp:=ae (show nT b (j+1)=(aC b (20+6*j) 2:Int)by unfold nT;rw[aG (by omega)];rfl);have HEO:=ae (show lQ b (j+1)=lQ b j++[.int .i64 (aC b (20+6*j) 2:Nat)]by unfold lQ;rw[nc,cK];rfl);have HEM:=ae (show yj b (j+1)=yj b j++[.int .i64 (aC b (22+6*j) 4:Nat)]by unfold yj;rw[nc,cK];rfl);obtain⟨la,ela⟩:∃q,q=nT b j:=⟨_,rfl⟩;rw[←ela]at yW ⊢;obtain⟨q,eq⟩:∃q,q=aC b (20+6*j) 2:=⟨_,rfl⟩;rw[←eq]at yW Yp HEO ⊢;clear ela eq;have cp:=L2.out.inv.plan.ag 0 rfl;cases q1:decide (la<(q:Int))
         ·have HF:=ae (show bI N b=false by rw[xt.out,nr (hlt:j<n) (by rw[yW.out,q1];rfl)];rfl);go_wp2_with fail;refine(jR 170 _).mono ?_;rintro e qF ⟨rfl,rfl⟩;go_wp2_with fail;exact⟨rfl,L2.out.inv.no (ax _ _) HF.out⟩
         cases q2:decide ((q:Int)<N)
         ·have HF:=ae (show bI N b=false by rw[xt.out,nr (hlt:j<n) (by rw[yW.out,q2,oO])];rfl);go_wp2_with fail;refine(jR 170 _).mono ?_;rintro e qF ⟨rfl,rfl⟩;go_wp2_with fail;exact⟨rfl,L2.out.inv.no (ax _ _) HF.out⟩
         have HA2:=ae (show(List.range (j+1)).all (jz N b)=true by rw[nc,zN,vX.out];simp[yW.out,q1,q2]);go_wp2_with fail;refine(lA 170 _).mono ?_;rintro e qF ⟨rfl,rfl⟩;clear cp yW vX;have hidx:20+6*j+2=22+6*j:=by omega
         rw[hidx]at L2;clear hidx;obtain⟨q4,Ld⟩:∃q,q=aC b (22+6*j) 4:=⟨_,rfl⟩;have GZ:=ae Ld;rw[←Ld]at HEM;clear Ld;go_upto_region 16 with fail;refine yi (S:=LS gs vo vm) (by kernel_rfl) (LS.of L2.out.inv.said.drew rfl rfl _) (fun hHeld=>?_);refine' gD (i:=0) (v:=_) [] rfl (by kernel_rfl) (by kernel_rfl) (by kernel_rfl) (by kernel_rfl) (by rfl) (LS.other (by decide) (by decide)) (fun _ _ _ h=>h) (Or.inl ⟨by rfl,?_⟩) (LS.of L2.out.inv.said.drew rfl rfl _) ?_;rotate_left 1
         ·(intro w hSw;clear hSw;go_simp;try with_reducible rfl)
         refine' gD (i:=1) (v:=_) [] rfl (by kernel_rfl) (by kernel_rfl) (by kernel_rfl) (by kernel_rfl) (by rfl) (LS.other (by decide) (by decide)) (fun _ _ _ h=>h) (Or.inl ⟨by rfl,?_⟩) (LS.of L2.out.inv.said.drew rfl rfl _) ?_;rotate_left 1
         ·(intro w hSw;clear hSw;go_simp;try with_reducible rfl)
         refine' gD (i:=2) (v:=_) [14] rfl (by kernel_rfl) (by kernel_rfl) (by kernel_rfl) (by kernel_rfl) (by rfl) (LS.other (by decide) (by decide)) (fun _ _ _ h=>h) (Or.inl ⟨by rfl,?_⟩) (LS.of L2.out.inv.said.drew rfl rfl _) ?_;rotate_left 1
         ·(intro w hSw;obtain⟨l,hu,hS⟩:=hSw;have hc:=hS.1 (hu 14 (by simp));clear hS hu;go_simp;try with_reducible rfl)
         refine' gD (i:=3) (v:=_) [] rfl (by kernel_rfl) (by kernel_rfl) (by kernel_rfl) (by kernel_rfl) (by rfl) (LS.other (by decide) (by decide)) (fun _ _ _ h=>h) (Or.inl ⟨by rfl,?_⟩) (LS.of L2.out.inv.said.drew rfl rfl _) ?_;rotate_left 1
         ·(intro w hSw;clear hSw;go_simp;try with_reducible rfl)
         refine' gD (i:=6) (v:=_) [] rfl (by kernel_rfl) (by kernel_rfl) (by kernel_rfl) (by kernel_rfl) (by rfl) (LS.other (by decide) (by decide)) (fun _ _ _ h=>h) (Or.inl ⟨by rfl,?_⟩) (LS.of L2.out.inv.said.drew rfl rfl _) ?_;rotate_left 1
         ·(intro w hSw;clear hSw;go_simp;try with_reducible rfl)
         refine' gD (i:=7) (v:=_) [16] rfl (by kernel_rfl) (by kernel_rfl) (by kernel_rfl) (by kernel_rfl) (by rfl) (LS.other (by decide) (by decide)) (fun _ _ _ h=>h) (Or.inl ⟨by rfl,?_⟩) (LS.of L2.out.inv.said.drew rfl rfl _) ?_;rotate_left 1
         ·(intro w hSw;obtain⟨l,hu,hS⟩:=hSw;have hc:=hS.2 (hu 16 (by simp));clear hS hu;go_simp;try with_reducible rfl)
         refine' gD (i:=11) (v:=_) [] rfl (by kernel_rfl) (by kernel_rfl) (by kernel_rfl) (by kernel_rfl) (by rfl) (LS.other (by decide) (by decide)) (fun _ _ _ h=>h) (Or.inl ⟨by rfl,?_⟩) (LS.of L2.out.inv.said.drew rfl rfl _) ?_;rotate_left 1
         ·(intro w hSw;clear hSw;go_simp;try with_reducible rfl)
         have LD:=ae (L2.out.below hD.out (ax _ Lc).drew);obtain⟨WD,eWD⟩:∃W,W=Lc.drew:=⟨_,rfl⟩;rw[←eWD]at LD ⊢;clear eWD L2;refine j9 (rs:=[4]) (by kernel_rfl) (by simp) ?_;refine dA.cons rfl (fun K hK=>?_) dA.nil;go_simp;have L3:=ae (LD.out.below hD.out (((ax _ WD).alloc (ai _) (.cells #[.int .i64 (q:Int)] 3))));obtain⟨G0,Da⟩:∃W,W=WD.alloc (.cells #[.int .i64 (q:Int)] 3):=⟨_,rfl⟩;have Yq:=ae (show G0.heap[WD.heap.size]? = some (.cells #[.int .i64 (q:Int)] 3 (0,0))by rw[Da];exact bC WD _);rw[←Da]at L3 ⊢;clear Da;refine hK.out _ _ (LS.of L3.out.inv.said rfl rfl _) (fun hHeld=>?_);clear hK K;refine j9 (rs:=[5]) (by kernel_rfl) (by simp) ?_;refine dA.cons rfl (fun K hK=>?_) dA.nil;rw[aB (by rfl)];obtain⟨i0,hi0,hz0,hz1,hz2⟩:=iH K_;refine oe _ (.tmp 71) (.tmp 73) 24 rfl B 3 i0 _ 1 8 p_ hi0 hz0 hz1 hz2 rfl (by omega) vo j _ rfl L3.out.bj ⟨WD.heap.size,0,none⟩ 1 1 [.int .i64 (q:Int)] rfl rfl (ia (cs:=#[.int .i64 (q:Int)]) (t:=3) (fr:=(0,0)) Yq.out) (by simp[Value.oneCell']) (by omega) (by unfold maxLen;omega) (by omega) (by have:=L3.out.inv.bl;have:=L3.out.inv.box.lt;omega) G0.heap.size rfl ?_;intro g3 pB W14 hO hg _ _;have L4:=ae (L3.out.dy hD.out hg (by rw[HEO.out];exact hO));clear hO hg hi0 hz0 hz1 hz2 Yq L3;refine hK.out _ _ (LS.of L4.out.inv.said rfl rfl _) (fun hHeld=>?_);clear hK K;refine' gD (i:=12) (v:=_) [] rfl (by kernel_rfl) (by kernel_rfl) (by kernel_rfl) (by kernel_rfl) (by rfl) (LS.other (by decide) (by decide)) (fun _ _ _ h=>h) (Or.inl ⟨by rfl,?_⟩) (LS.of L4.out.inv.said rfl rfl _) ?_;rotate_left 1
         ·(intro w hSw;clear hSw;go_simp;try with_reducible rfl)
         refine' gD (i:=13) (v:=_) [] rfl (by kernel_rfl) (by kernel_rfl) (by kernel_rfl) (by kernel_rfl) (by rfl) (LS.other (by decide) (by decide)) (fun _ _ _ h=>h) (Or.inl ⟨by rfl,?_⟩) (LS.of L4.out.inv.said rfl rfl _) ?_;rotate_left 1
         ·(intro w hSw;clear hSw;go_simp;try with_reducible rfl)
         refine j9 (rs:=[8]) (by kernel_rfl) (by simp) ?_;refine dA.cons rfl (fun K hK=>?_) dA.nil;go_simp;refine(L4.out.inv.takes hD.out f_.out 4 (by omega) (by omega) (im _ (.inr (mW b f_.out (22+6*j) 4 (by omega)).1))).mono ?_;rintro e Tn ⟨he,⟨v16,abn⟩,abo⟩;rw[←GZ.out]at he;subst he;have L5:=ae (L4.out.take abn abo);clear abn abo L4;go_wp2_with fail;refine hK.out _ _ (LS.of L5.out.inv.said rfl rfl _) (fun hHeld=>?_);clear hK K;refine j9 (rs:=[9]) (by kernel_rfl) (by simp) ?_;refine dA.cons rfl (fun K hK=>?_) dA.nil;go_simp;have L6:=ae (L5.out.below hD.out (((ax _ Tn).alloc (ai _) (.cells #[.int .i64 (q4:Int)] 2))));obtain⟨W17,Wq⟩:∃W,W=Tn.alloc (.cells #[.int .i64 (q4:Int)] 2):=⟨_,rfl⟩;have Yr:=ae (show W17.heap[Tn.heap.size]? = some (.cells #[.int .i64 (q4:Int)] 2 (0,0))by rw[Wq];exact bC Tn _);rw[←Wq]at L6 ⊢;clear Wq;refine hK.out _ _ (LS.of L6.out.inv.said rfl rfl _) (fun hHeld=>?_);clear hK K;refine j9 (rs:=[10]) (by kernel_rfl) (by simp) ?_;refine dA.cons rfl (fun K hK=>?_) dA.nil;rw[aB (by rfl)];obtain⟨i0,hi0,hz0,hz1,hz2⟩:=iH PG;refine oe _ (.tmp 76) (.tmp 78) 140 rfl B 2 i0 _ 1 8 Tryz.underlying140 hi0 hz0 hz1 hz2 rfl (by omega) vm j _ rfl L6.out.sums ⟨Tn.heap.size,0,none⟩ 1 1 [.int .i64 (q4:Int)] rfl rfl (ia (cs:=#[.int .i64 (q4:Int)]) (t:=2) (fr:=(0,0)) Yr.out) (by simp[Value.oneCell']) (by omega) (by unfold maxLen;omega) (by omega) (by have:=L6.out.inv.bl;have:=L6.out.inv.box.lt;omega) W17.heap.size rfl ?_;intro g4 cap4 W18 hO hg _ _;have L7:=ae (L6.out.sum hD.out hg (by rw[HEM.out];exact hO));clear hO hg hi0 hz0 hz1 hz2 Yr L6;refine hK.out _ _ (LS.of L7.out.inv.said rfl rfl _) (fun hHeld=>?_);clear hK K;refine j9 (rs:=[14]) (by kernel_rfl) (by simp) ?_;refine dA.cons rfl (fun K hK=>?_) dA.nil;have c1:=L7.out.inv.said.ag 1 rfl;have f1:=L7.out.inv.said.frozen 1;go_simp;have L8:=ae (L7.out.br hD.out 1 (.slice (some ⟨g3,0,none⟩) (j+1) pB));clear c1 f1;refine hK.out _ _ (⟨fun h=>by simp at h,fun _=>L8.out.inv.said.ag 5 rfl⟩) (fun hHeld=>?_);clear hK K;refine' gD (i:=15) (v:=_) [] rfl (by kernel_rfl) (by kernel_rfl) (by kernel_rfl) (by kernel_rfl) (by rfl) (LS.other (by decide) (by decide)) (fun _ _ _ h=>h) (Or.inl ⟨by rfl,?_⟩) hHeld ?_;rotate_left 1
         ·(intro w hSw;clear hSw;go_simp;try with_reducible rfl)
         refine j9 (rs:=[16]) (by kernel_rfl) (by simp) ?_;refine dA.cons rfl (fun K hK=>?_) dA.nil;have c5:=L8.out.inv.said.ag 5 rfl;have f5:=L8.out.inv.said.frozen 5;go_simp;have L9:=ae (L8.out.br hD.out 5 (.slice (some ⟨g4,0,none⟩) (j+1) cap4));clear c5 f5;refine hK.out _ _ (⟨fun h=>by simp at h,fun h=>by simp at h⟩) (fun hHeld=>?_);clear hK K;refine' gD (i:=17) (v:=_) [] rfl (by kernel_rfl) (by kernel_rfl) (by kernel_rfl) (by kernel_rfl) (by rfl) (LS.other (by decide) (by decide)) (fun _ _ _ h=>h) (Or.inl ⟨by rfl,?_⟩) hHeld ?_;rotate_left 1
         ·(intro w hSw;clear hSw;go_simp;try with_reducible rfl)
         refine M6 (by kernel_rfl) ?_ _;go_wp2_with fail;go_roundw
         case rel=>exact⟨j+1,v16,_,_,hlt,by push_cast;rfl,by rw[Yp.out],HA2.out,by rw[show 20+6*(j+1)=22+6*j+4 by omega];exact L9.out⟩
         case measure=>simp[intOf];omega
        ·obtain rfl:j=n:=by omega
         clear hL;have c8:=L1.out.inv.box.ag 0 rfl;go_wp2_with fail;refine(KY B vj _ wr L1.out.inv.bytes (by rw[c_,bD];omega)).mono ?_;rintro e Lc ⟨rfl,vN⟩;have L2:=ae (L1.out.below hD.out vN);clear vN L1 c8;obtain⟨q,eq⟩:∃q,q=((b.take 508).drop (20+6*j)).any (· != 0):=⟨_,rfl⟩;have Av:=ae (show bI N b = !q by rw[xt.out,hall,fx,eq]);rw[←eq];clear eq hall;cases q
         ·obtain⟨ao,co,To⟩:=slice_form L2.out.bj;obtain⟨am,cm,Ys⟩:=slice_form L2.out.sums;subst To Ys;obtain⟨S,eS⟩:∃S,S=(#[.int .i64 (aC b 4 8:Nat),.slice ao j co,.slice none 0 0,.slice (some ⟨g1,0,none⟩) nb nb,.int .i64 (aC b 16 4:Nat),.slice am j cm]:Array Value):=⟨_,rfl⟩;have GW:(Tryz.prog.info? 142).map (·.size)=some S.size:=by rw[eS];kernel_rfl
          have h16:S.all (·.oneCell')=true:=by rw[eS,jf];rfl
          have hse:(#[.int .i64 0,.slice none 0 0,.slice none 0 0,.slice none 0 0,.int .i64 0,.slice none 0 0]:Array Value).size=S.size:=by rw[eS];rfl
          have HSD:=ae (show ah Lc gs 142 S by rw[eS];exact L2.out.inv.said);have Aj:=ae (show ah Lc (w.heap.size+1) 142 #[.int .i64 0,.slice none 0 0,.slice none 0 0,.slice none 0 0,.int .i64 0,.slice none 0 0]from L2.out.inv.res);have ES:=ae eS;clear eS;go_wp2_with fail;refine(lA 170 _).mono ?_;rintro e qF ⟨rfl,rfl⟩;go_wp2_with (first
           | (refine bt rfl 142 _ rfl gs rfl 142 S (0,0) _ HSD.out RY rfl GW ?_)
           | (refine aQ rfl 142 _ _ rfl (w.heap.size+1) S rfl rfl 142 _ Aj.out GW hse h16 ?_))
          refine bc (v:=.agg S) (mo Tryz.results69 _ _ (w.heap.size+1) 142 S (0,0) _ rfl (Aj.out.row _) RY rfl GW) rfl ?_;have ho:Out (fun i=>i=w.heap.size+1) Lc (Lc.setRow (w.heap.size+1) S):=bL _ rfl;have hbs:=L2.out.inv.bs;have hne:∀g,B≤g→g≠w.heap.size+1:=fun g hg=>by omega
          refine⟨L2.out.inv.disk.out ho (fun i hi e=>by have:=hD.out i hi;omega),⟨L2.out.inv.step.out.trans ho (fun i hi e=>by omega),rfl,fun i hi=>.inl hi⟩,?_⟩;rw[Av.out,Bool.not_false,aB rfl];refine⟨.agg S,rfl,.slice ao j co,.slice (some ⟨g1,0,none⟩) nb nb,.slice am j cm,g1,by rw[ES.out];rfl,?_,?_,?_,by have:=L2.out.hg.1;omega,?_⟩
          ·rw[←EN.out];exact aq ho (AX L2.out.bj (by omega)) (fun g hg=>hne g (L2.out.bj.lt g hg).1)
          ·rw[←EN.out];exact aq ho (AX L2.out.sums (by omega)) (fun g hg=>hne g (L2.out.sums.lt g hg).1)
          ·rw[←A3.out]
          ·rw[←A3.out];exact ho.blk L2.out.page (hne g1 L2.out.hg.1)
         ·go_wp2_with fail;refine(jR 170 _).mono ?_;rintro e qF ⟨rfl,rfl⟩;go_wp2_with fail;exact⟨rfl,L2.out.inv.no (ax _ _) Av.out⟩
end Go.Proofs.YtdpniceapmikpaaGreat
