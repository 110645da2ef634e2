/-
  The contracts of sums.Update and
-/
import Derived.ControlIn
import Derived.Test.YtdpniceapmikpaaGreatRd1
import Derived.Deep.OwnRows
import Derived.Deep.AppendLies
import Derived.Ground.SlgnProg
import Derived.Shelf.SlicesE.Equal
import Derived.Shelf.Spec.SlicesGrow
import Derived.Ground.Names8Prog
import Derived.Ground.SlgfProg
import Derived.Shelf.SlicesE.IndexFunc
import Derived.Shelf.Bytes.SlEqualAll
import Derived.Shelf.Bytes.Small
import Derived.Test.YtdpniceapmikpaaGreatProg
import Derived.Maps.AppendAt
import Derived.Laws.IdiomStrings
import Derived.Lib.BufferRead
set_option linter.unusedVariables false
set_option linter.unusedSimpArgs false
set_option maxRecDepth 100000
set_option maxHeartbeats 32000000
namespace Go.Proofs.YtdpniceapmikpaaGreat
open Go.RowKit Go.Shelf
attribute [local go_sem] kM
def Sw (n:BitVec 32) (h:Fin 16):BitVec 32:=b8 4 (n ^^^ BitVec.ofNat 32 h.val)
def pq (n:BitVec 32) (l:List (Fin 16)):BitVec 32:=l.foldl Sw n
theorem OR (n:BitVec 32) (l:List (Fin 16)) (h:Fin 16):pq n (l++[h])=b8 4 (pq n l ^^^ BitVec.ofNat 32 h.val):=by simp[pq,Sw]
theorem MI (n:BitVec 32) (l:List UInt8):pq n (gr l)=ni n l:=by
 induction l generalizing n with
 | nil=>rfl
 | cons c l ih =>
  have e:gr (c::l)=re c++gr l:=by simp[gr]
  rw[e];have e2:pq n (re c++gr l)=pq (pq n (re c)) (gr l):=by simp[pq]
  rw[e2,ih];show ni (b8 4 (b8 4 (n ^^^ _) ^^^ _)) l=ni (BA n c) l;rw[BA,FE n c.toNat (mu c)];rfl
theorem JY {X Y:BitVec 32} {x:Fin 16} {i:Nat} (hY:Y=X ^^^ BitVec.ofNat 32 x.val) (hi:i=(Y &&& 15#32).toNat):bits .xor .u32 ((X.toNat:Int)/16) ((po i).toNat:Int)=((b8 4 (X ^^^ BitVec.ofNat 32 x.val)).toNat:Int):=by
 have e:(X.toNat:Int)/(16:Int)=((X >>> 4).toNat:Int):=BD X 4;have hx:X >>> 4=Y >>> 4:=by
  rw[hY,Rp];have:BitVec.ofNat 32 x.val >>> 4=0#32:=by
   have:∀x:Fin 16,BitVec.ofNat 32 x.val >>> 4=0#32:=by decide
   exact this x
  rw[this,BitVec.xor_zero]
 have ht:po i=b8 4 (Y &&& 15#32):=by
  unfold po;rw[hi,R8];simp
 rw[e,hx,ht,q_,←hY,Vl Y]
theorem ah.own {W W':World} {row:Option Nat} {g:Nat} {t:TypeId} {cs:Array Value} (h:ah W g t cs) (hg:W.grownBy W' row) (hr:∀r,row=some r→∃o:Obj,W.heap[r]? = some o∧o.isCells=false):ah W' g t cs:=by
 refine(hg.block g h.lt (fun e=>?_)).trans h;obtain⟨o,ho,hc⟩:=hr g e.symm;unfold ah at h;rw[h]at ho;cases ho
 cases hc
theorem Sx (n:Nat) (hn:3≤n) (s:BitVec 32) (a:Option Addr) (cap:Nat) (bs:List UInt8) (w:World) (hv:BytesIn w w.heap.size (.slice a bs.length cap) bs) :
 CallsIn Fence.wide n Tryz.prog 102 #[gM s,.slice a bs.length cap] w fun e w'=>e=.returned (gM (~~~ (ni (~~~ s) bs)))∧Below w.heap.size w w':=by
 have h1:1≤n:=by omega
 have hro:Fence.wide.round=none:=rfl;refine zx Tryz.func102 rfl trivial ?_ hro;simp only[Tryz.ntmps102,List.size_toArray,List.length_cons,List.length_nil,Nat.reduceAdd,Nat.reduceSub,Array.replicate_succ,Array.replicate_zero,List.push_toArray,List.append_toArray,List.nil_append,List.cons_append];refine fV.2 ?_;go_wp2_with fail;refine(St _).mono ?_;rintro e w1 ⟨rfl,hb1⟩;have hT0:ah ((w1.alloc (.cells (gP 0) 242)).alloc (.cells #[.int .u32 0] 70)) w1.heap.size 242 (gP 0):=(ah.new w1 _ _).alloc _;have hN0:ah (((w1.alloc (.cells (gP 0) 242)).alloc (.cells #[.int .u32 0] 70)).setRow w1.heap.size (gP 16)) (w1.heap.size+1) 70 #[.int .u32 0] :=
  (kO _ w1.heap.size (w1.heap.size+1) _ (by omega)).trans (ah.new2 w1 _ _ _)
 have hT1:=hT0.row (gP 16);have hB1:Below w.heap.size w (((w1.alloc (.cells (gP 0) 242)).alloc (.cells #[.int .u32 0] 70)).setRow w1.heap.size (gP 16)):=aA ((hb1.alloc hb1.size _).alloc (by have:=hb1.size;simp;omega) _) _ hb1.size;rw[Gh]at hT0 hN0 hT1 hB1;have hNc:=hN0.ag 0 rfl;have hNf:=hN0.frozen 0;have hNs:∀x,ah (((w1.alloc (.cells _ 242)).alloc (.cells #[.int .u32 0] 70)).setRow w1.heap.size (gP 16) |>.setCell ⟨w1.heap.size+1,0,none⟩ x) (w1.heap.size+1) 70 #[x]:=fun x=>hN0.br 0 x
 have hTs:∀x,ah (((w1.alloc (.cells _ 242)).alloc (.cells #[.int .u32 0] 70)).setRow w1.heap.size (gP 16) |>.setCell ⟨w1.heap.size+1,0,none⟩ x) w1.heap.size 242 (gP 16):=fun x=>hT1.far (p:=⟨w1.heap.size+1,0,none⟩) (by simp) x
 have iy:∀x,Below w.heap.size w (((w1.alloc (.cells _ 242)).alloc (.cells #[.int .u32 0] 70)).setRow w1.heap.size (gP 16) |>.setCell ⟨w1.heap.size+1,0,none⟩ x):=fun x=>hB1.setCell (p:=⟨w1.heap.size+1,0,none⟩) (by have:=hb1.size;simp;omega) x
 have HNs:=ae hNs;have HTs:=ae hTs;have Sy:=ae iy;clear hNs hTs iy hN0 hT1 hB1;go_upto_region 2 with (refine aQ rfl 242 _ _ rfl w1.heap.size (gP 16) rfl rfl 242 _ hT0 (xO 16) (by rw[kV];rfl) (JV 16) ?_)
 have Al:=HNs.out (.int .u32 (bits BinOp.xor IntKind.u32 IntKind.u32.max s.toNat));have HT1:=HTs.out (.int .u32 (bits BinOp.xor IntKind.u32 IntKind.u32.max s.toNat));have HB1:=Sy.out (.int .u32 (bits BinOp.xor IntKind.u32 IntKind.u32.max s.toNat));have es:bits BinOp.xor IntKind.u32 IntKind.u32.max s.toNat=((~~~ s).toNat:Int):=NG s;have ei:(if IntKind.u32.signed=true then (-1:Int) else IntKind.u32.max)=IntKind.u32.max:=rfl;rw[ei,es];rw[es]at Al HT1 HB1;clear HNs HTs Sy hNc hNf hT0 es ei;have hge:=hb1.size;generalize World.setCell _ _ _=W1 at *;generalize w1.heap.size=m at *;obtain⟨S,hS⟩:∃S,S = ~~~ s:=⟨_,rfl⟩;rw[←hS]at Al ⊢;have HS:=ae hS;clear hS;go_wp2_with fail;refine(mr.1 (Su Fence.wide 5 trivial rfl _ _ _ _)).mono ?_;rintro e w2 ⟨rfl,rfl⟩;go_wp2_with fail;have hv2:BytesIn (W1.alloc (.cells #[.slice a bs.length cap] 26)) w.heap.size (.slice a bs.length cap) bs:=hv.below (HB1.alloc HB1.size _) (ai _);have hsz:=HB1.size;have amx:=Al.lt;refine(fV (n:=n)).1 ?_;refine wpIn_rangeFunc_ownF hro h1 (gf:=152) (lb:=#[.pointer (some ⟨W1.heap.size,0,none⟩)]) rfl trivial (enters_of Tryz.func152 (by kernel_rfl) rfl)
  (JX Fence.wide (n-1) trivial rfl (by omega) W1.heap.size w.heap.size (.slice a bs.length cap) bs _ (by simp) (by simp;omega) (zZ (bC W1 _)) hv2) belowK_t (belowK_b (by simp;omega)) (ax _ _) (fun _=>rfl)
  (fun pre W=>(ah W m 242 (gP 16)∧ah W (m+1) 70 #[gM (pq S pre)])∧Below w.heap.size w W)
  (fun _ _ _=>False)
  (OwnFrom.and (Own.from (fun s A B row hs hg hr=>⟨hs.1.own hg hr,hs.2.own hg hr⟩) _) (ownFrom_below (ai _) (by simp;omega)))
  (fun _ _ _ _ _ hs _ _=>hs)
  ⟨⟨HT1.alloc _,Al.alloc _⟩,HB1.alloc HB1.size _⟩
  (fun x => {tmps:=#[gM s,.slice a bs.length cap,undef,undef,.int .u32 0,.pointer (some ⟨m,0,none⟩),.pointer (some ⟨m+1,0,none⟩),vh x,.agg (gP 16),gM s,.int .u32 S.toNat,.slice a bs.length cap,.func (.func 152) #[] #[.pointer (some ⟨W1.heap.size,0,none⟩)],vh x,undef,undef,undef,undef,undef,undef,undef,undef,undef,undef,undef],defers:=[]}) ?assign ?body ?done ?stop
 case assign =>
  intro l x W K hK;gi_wp2
  exact hK
 case body =>
  rintro l pre x W ⟨⟨hT,hN⟩,hB⟩ _;have HH:=ae (OR S pre x);generalize hX:pq S pre=X at *;obtain⟨Y,hY⟩:∃Y,Y=X ^^^ BitVec.ofNat 32 x.val:=⟨_,rfl⟩;have e1:bits .xor .u32 (X.toNat:Int) (x.val:Int)=(Y.toNat:Int):=by
   have ex:((BitVec.ofNat 32 x.val).toNat:Int)=(x.val:Int):=by rw[sf];omega
   rw[hY,←ex];exact q_ X _
  obtain⟨i,hi⟩:∃i,i=(Y &&& 15#32).toNat:=⟨_,rfl⟩;have e2:bits .and .u32 (Y.toNat:Int) 15=(i:Int):=by rw[hi];exact BB Y 15#32
  have h16:i<16:=by rw[hi];exact Vm _
  have HY:=ae hY;have HI:=ae hi;clear hY hi;have amy:(i:Int)<16:=by omega
  have h0':(0:Int)≤(i:Int):=by omega
  have c1:=hN.ag 0 rfl;have f1:=hN.frozen 0;have c2:=hT.ag i (tH 16 i h16);rw[aB h16]at c2;gi_wp2
  refine iv (S:=fun w'=>w'.cell? ⟨m,i,none⟩=some (gM (po i))) (by kernel_rfl) (by kernel_rfl) (fun⟨_,_,h⟩=>h) c2 (fun hHeld=>?_);refine tk 3 ?_;refine fU (rs:=[0,2]) (by kernel_rfl) (by simp) ?_;refine ca rfl (fun K hK=>?_) (ca rfl (fun K hK=>?_) fT)
  ·go_simp;refine hK.out _ _ (by(try dsimp only);first | assumption | (exact hHeld) | exact((cell_drew_own _ _).trans (kJ _ _ _ _ (by simp))).trans c2) (fun hHeld=>?_);clear hK K;refine tk 1 ?_;refine rd 2 fun K hK=>?_;go_simp;refine hK.out _ _ (by(try dsimp only);first | assumption | (exact hHeld) | exact((cell_drew_own _ _).trans (kJ _ _ _ _ (by simp))).trans c2) (fun hHeld=>?_);clear hK K;refine tk 4 ?_;refine tk 5 ?_;refine tk 6 ?_;refine tk 7 ?_;refine tk 8 ?_;refine rd 9 fun K hK=>?_;go_simp;refine hK.out _ _ (by(try dsimp only);first | assumption | (exact hHeld) | exact((cell_drew_own _ _).trans (kJ _ _ _ _ (by simp))).trans c2) (fun hHeld=>?_);clear hK K;refine aT ?_;have hval:bits .xor .u32 ((X.toNat:Int)/16) ((po i).toNat:Int)=((b8 4 (X ^^^ BitVec.ofNat 32 x.val)).toNat:Int):=JY HY.out HI.out;rw[hval,←HH.out];exact⟨(KeepsOthers.setCell _ _ _).trans (KeepsOthers.drew _),((ax w.heap.size W).setCell (p:=⟨m+1,0,none⟩) (by simp;omega) _).drew,⟨(hT.far (p:=⟨m+1,0,none⟩) (by simp) _).drew,(hN.br 0 _).drew⟩,(hB.setCell (p:=⟨m+1,0,none⟩) (by simp;omega) _).drew⟩
  ·go_simp;refine hK.out _ _ (by(try dsimp only);first | assumption | (exact hHeld) | exact((cell_drew_own _ _).trans (kJ _ _ _ _ (by simp))).trans c2) (fun hHeld=>?_);clear hK K;refine tk 4 ?_;refine tk 5 ?_;refine tk 6 ?_;refine tk 7 ?_;refine rd 0 fun K hK=>?_;go_simp;refine hK.out _ _ (by(try dsimp only);first | assumption | (exact hHeld) | exact((cell_drew_own _ _).trans (kJ _ _ _ _ (by simp))).trans c2) (fun hHeld=>?_);clear hK K;refine tk 1 ?_;refine tk 8 ?_;refine rd 9 fun K hK=>?_;go_simp;refine hK.out _ _ (by(try dsimp only);first | assumption | (exact hHeld) | exact((cell_drew_own _ _).trans (kJ _ _ _ _ (by simp))).trans c2) (fun hHeld=>?_);clear hK K;refine aT ?_;have hval:bits .xor .u32 ((X.toNat:Int)/16) ((po i).toNat:Int)=((b8 4 (X ^^^ BitVec.ofNat 32 x.val)).toNat:Int):=JY HY.out HI.out;rw[hval,←HH.out];exact⟨(KeepsOthers.setCell _ _ _).trans (KeepsOthers.drew _),((ax w.heap.size W).setCell (p:=⟨m+1,0,none⟩) (by simp;omega) _).drew,⟨(hT.far (p:=⟨m+1,0,none⟩) (by simp) _).drew,(hN.br 0 _).drew⟩,(hB.setCell (p:=⟨m+1,0,none⟩) (by simp;omega) _).drew⟩
 case done =>
  rintro D ys W hD rfl ⟨⟨hT,hN⟩,hB⟩ hK;have c1:=hN.ag 0 rfl;have hbytes:=ae (MI S bs);have hnot:=ae (NG (pq S (gr bs)));generalize pq S (gr bs)=Z at *;go_wp2_with fail;rw[hnot.out,hbytes.out,HS.out];refine⟨by simp,.inl ⟨_,_,rfl,m' hK,?_⟩⟩;exact⟨_,xd rfl _ _ _,rfl,hB.trans (belowK_b (w:=w) (ai _) W D _ _ (by simp at hD;omega) hK rfl rfl)⟩
 case stop =>
  rintro D c pre W _ _ h _;exact h.elim
theorem OS (s:BitVec 32) (v:Value) (bs:List UInt8) (w:World) (hv:BytesIn w w.heap.size v bs) :
 Calls Tryz.prog 102 #[gM s,v] w fun e w'=>e=.returned (gM (~~~ (ni (~~~ s) bs)))∧Below w.heap.size w w':=by
 obtain⟨h1,a,cap,rfl,h2⟩:=hv;exact mr.1 (Sx 5 (by omega) s a cap bs w ⟨h1,a,cap,rfl,h2⟩)
def dJ (bs:List UInt8):BitVec 32 := ~~~ (ni (~~~ 0#32) bs)
theorem rf (v:Value) (bs:List UInt8) (w:World) (hv:BytesIn w w.heap.size v bs) :
 Calls Tryz.prog 56 #[v] w fun e w'=>e=.returned (gM (dJ bs))∧Below w.heap.size w w':=by
 obtain⟨h1,a,cap,rfl,h2⟩:=hv;go_enter Tryz.func56,Tryz.ntmps56
 go_wp2_with fail;refine(OS 0#32 _ bs _ ⟨h1,a,cap,rfl,h2⟩).mono ?_;rintro e w1 ⟨rfl,hb⟩;go_wp2_with fail;go_ret
 exact⟨rfl,hb⟩
end Go.Proofs.YtdpniceapmikpaaGreat
namespace Go.Proofs.YtdpniceapmikpaaGreat
open Go.RowKit
structure Turn (r:Nat) (w w':World):Prop where
 os:w'.os=w.os
 tape:w'.tape=w.tape
 output:w'.output=w.output
 size:w'.heap.size=w.heap.size
 block:∀i,i≠r→w'.heap[i]? = w.heap[i]?
theorem Turn.below {r B:Nat} {a w w':World} (h:Turn r w w') (hb:Below B a w) (hr:B≤r):Below B a w' :=
 hb.trans ⟨h.os,h.tape,h.output,by rw[h.size];exact ai _,fun i hi=>h.block i (by omega)⟩
theorem Turn.blk {r:Nat} {w w':World} (h:Turn r w w') {g:Nat} {t:TypeId} {cs:Array Value} (hb:ah w g t cs) (hg:g≠r):ah w' g t cs:=(h.block g hg).trans hb
theorem ah.xl {w:World} {g g':Nat} {t t':TypeId} {cs cs':Array Value} (h:ah w g t cs) (h':ah w g' t' cs') (hne:t≠t'):g≠g':=by
 rintro rfl;unfold ah at h h';rw[h]at h';injection h' with h'
 injection h' with _ ht
 exact hne ht
def entriesOf (kd:IntKind) (l:List (Int×Value)):Array MapEntry:=(l.zipIdx.map fun x=>⟨.int kd x.1.1,x.1.2,x.2⟩).toArray
def MapAt (w:World) (r:Nat) (kd:IntKind) (l:List (Int×Value)):Prop:=w.heap[r]? = some (.map (entriesOf kd l) l.length)
theorem MapAt.lt {w:World} {r:Nat} {kd:IntKind} {l:List (Int×Value)} (h:MapAt w r kd l):r<w.heap.size:=by
 rcases bZ r w.heap.size with hlt | hge
 ·exact hlt
 ·unfold MapAt at h;rw[lK hge]at h;cases h
theorem MapAt.new (w:World) (kd:IntKind):MapAt (w.alloc (.map #[] 0)) w.heap.size kd []:=bC w _
theorem MapAt.alloc {w:World} {r:Nat} {kd:IntKind} {l:List (Int×Value)} (h:MapAt w r kd l) (o:Obj):MapAt (w.alloc o) r kd l:=(si w o r h.lt).trans h
theorem MapAt.drew {w:World} {r:Nat} {kd:IntKind} {l:List (Int×Value)} (h:MapAt w r kd l):MapAt w.drew r kd l:=h
theorem MapAt.below {w w':World} {r B:Nat} {kd:IntKind} {l:List (Int×Value)} (h:MapAt w r kd l) (hb:Below B w w') (hr:r<B):MapAt w' r kd l:=(hb.block r hr).trans h
theorem FJ (kd:IntKind) (l:List (Int×Value)) (n:Int) (v:Value):entriesOf kd (l++[(n,v)])=(entriesOf kd l).push ⟨.int kd n,v,l.length⟩:=by
 unfold entriesOf;rw[R6,cK];simp
theorem va (kd:IntKind) (n:Int):∀ (l:List (Int×Value)) (i j:Nat),
 Instr.findNow (.int kd) (.int kd n) ((l.zipIdx j).map fun x=>(⟨.int kd x.1.1,x.1.2,x.2⟩:MapEntry)) i =
  some ((l.zipIdx i).find? (fun x=>n == x.1.1) |>.map fun x=>(x.2,x.1.2))
 | [],i,j=>rfl
 | x::l,i,j=>by
  simp only[List.zipIdx_cons,List.map_cons,Instr.findNow,Instr.sameNow,if_true,List.find?_cons];cases h:(n == x.1)
  ·simp only[va kd n l (i+1) (j+1)]
  ·simp
def bW (l:List (Int×Value)) (n:Int):Option Value:=(l.find? fun x=>n == x.1).map (·.2)
theorem oW (n:Int):∀ (l:List (Int×Value)) (i:Nat),((l.zipIdx i).find? (fun x=>n == x.1.1)).map (fun x=>x.1.2)=bW l n
 | [],_=>rfl
 | x::l,i=>by
  simp only[List.zipIdx_cons,List.find?_cons,bW];cases h:(n == x.1)
  ·simpa[bW]using oW n l (i+1)
  ·simp
section
variable {P:Program} {t k e:TypeId} {kd:IntKind}
theorem run_findKey (w:World) (hk:P.underlying k=some (.int kd)) (l:List (Int×Value)) (n:Int) :
 (Instr.findKey k (.int kd n) (entriesOf kd l).toList).run P w=.ok (((l.zipIdx 0).find? (fun x=>n == x.1.1)).map fun x=>(x.2,x.1.2)) w:=by
 unfold Instr.findKey entriesOf;simp only[Sem.run_bind,run_underlying hk,Result.andThen,va kd n l 0 0];rfl
theorem jV (w:World) (b:Bool) (n:Nat) (hk:P.underlying k=some (.int kd)) (v:Value):(Instr.checkKey b (n+1) k v).run P w=.ok () w:=by
 unfold Instr.checkKey;simp only[Sem.run_bind,run_underlying hk,Result.andThen];cases v<;>rfl
theorem ri (w:World) (ht:P.underlying t=some (.map k e)) (hk:P.underlying k=some (.int kd)) (r:Nat) (l:List (Int×Value)) (hm:MapAt w r kd l) (n:Int) (hn:bW l n=none) (v:Value) :
 ∃w',(Instr.mapUpdate t (.map (some r)) (.int kd n) v).run P w=.ok () w'∧MapAt w' r kd (l++[(n,v)])∧Turn r w w':=by
 have hf:(((l.zipIdx 0).find? (fun x=>n == x.1.1)).map fun x=>(x.2,x.1.2))=none:=by
  have:=oW n l 0;rw[hn]at this;simpa using this
 refine⟨{w with heap:=w.heap.setIfInBounds r (.map ((entriesOf kd l).push ⟨.int kd n,v,l.length⟩) (l.length+1))},?_,?_,?_⟩
 ·unfold Instr.mapUpdate;simp only[Sem.run_bind,run_underlying ht,Result.andThen,MapKept.run_getObj_map hm,jV w false 9999 hk,run_findKey w hk,hf];exact Rv _ hm
 ·unfold MapAt;rw[FJ];simp[hm.lt]
 ·exact⟨rfl,rfl,rfl,by simp,fun i hi=>by simp[Array.getElem?_setIfInBounds_ne (fun e=>hi e.symm)]⟩
theorem sY (w:World) (ht:P.underlying t=some (.map k e)) (hk:P.underlying k=some (.int kd)) (r:Nat) (l:List (Int×Value)) (hm:MapAt w r kd l) (n:Int) (v:Value) (hn:bW l n=some v) (ok:Bool) :
 (Instr.lookup t (.map (some r)) (.int kd n) ok).run P w=.ok (if ok then .tuple #[v,.bool true] else v) w:=by
 have hf:=oW n l 0;rw[hn]at hf;obtain⟨x,hx,hv⟩:=iE.1 hf;unfold Instr.lookup;simp only[Sem.run_bind,run_underlying ht,Result.andThen,MapKept.run_getObj_map hm,jV w _ 9999 hk,run_findKey w hk,hx,Option.map_some,Sem.run_pure,hv]
theorem qn (w:World) (ht:P.underlying t=some (.map k e)) (hk:P.underlying k=some (.int kd)) (r:Nat) (l:List (Int×Value)) (hm:MapAt w r kd l) (n:Int) (z:Value) (hz:(zeroValue e).run P w=.ok z w) (hn:bW l n=none) (ok:Bool) :
 (Instr.lookup t (.map (some r)) (.int kd n) ok).run P w=.ok (if ok then .tuple #[z,.bool false] else z) w:=by
 have hf:(((l.zipIdx 0).find? (fun x=>n == x.1.1)).map fun x=>(x.2,x.1.2))=none:=by
  have:=oW n l 0;rw[hn]at this;simpa using this
 unfold Instr.lookup;simp only[Sem.run_bind,run_underlying ht,Result.andThen,MapKept.run_getObj_map hm,jV w _ 9999 hk,run_findKey w hk,hf,Sem.run_pure,hz]
theorem iw (w:World) {ops:Array Oper} {rest:List Oper} {o:Oper} {a:Act} {Q:Exit→Act→World→Prop}
 (hg:o.guard=none) (m x y:Operand) (hop:o.op=Op.insert t m x y)
 (ht:P.underlying t=some (.map k e)) (hk:P.underlying k=some (.int kd)) (r:Nat) (l:List (Int×Value)) (hma:a.eval m=.map (some r)) (hm:MapAt w r kd l) (n:Int) (hx:a.eval x=.int kd n) (hn:bW l n=none) (v:Value) (hv:a.eval y=v)
 (hK:∀w',MapAt w' r kd (l++[(n,v)])→Turn r w w'→wpList P ops Q rest (a.put o.dst undef) w') :
 wpList P ops Q (o::rest) a w:=by
 refine kP hg fun K' hK'=>?_;obtain⟨w',hrun,r1,r2⟩:=ri (P:=P) w ht hk r l hm n hn v;unfold Oper.wp;simp[execOp,hop,hma,hx,hv,hrun,Result.andThen];exact hK' _ _ (hK w' r1 r2)
end
def dG (k:Int):Bool:=(k == 2) || (k == 4) || (k == 8)
def OT:List (Int×Value):=[(2,.bool true),(4,.bool true),(8,.bool true)]
theorem Sz (k:Int) (h:k=2∨k=4∨k=8):bW OT k=some (.bool true):=by
 rcases h with rfl | rfl | rfl<;>rfl
theorem Vv (k:Int) (h:¬ (k=2∨k=4∨k=8)):bW OT k=none:=by
 have h2:(k == 2)=false:=by simp;omega
 have h4:(k == 4)=false:=by simp;omega
 have h8:(k == 8)=false:=by simp;omega
 simp[bW,OT,h2,h4,h8]
theorem rj (k:Int) (w:World):Calls Tryz.prog 136 #[.int .i64 k] w fun e w'=>e=.returned (.bool (dG k))∧Below w.heap.size w w':=by
 have hmm:=@run_makeMap Tryz.prog;have m0:=MapAt.new w .i64;have hb:Below w.heap.size w (w.alloc (.map #[] 0)):=(ax _ _).alloc (ai _) _;by_cases hk:k=2∨k=4∨k=8
 ·have e:dG k=true:=by rcases hk with rfl | rfl | rfl<;>rfl
  have hlk:=Sz k hk;rw[e];go_enter Tryz.func136,Tryz.ntmps136
  go_wp2_with (first
   | (refine iw _ rfl _ _ _ rfl se ew w.heap.size [] rfl m0 2 rfl rfl (.bool true) rfl ?_;intro wa ma ta)
   | (refine iw _ rfl _ _ _ rfl se ew w.heap.size [(2,.bool true)] rfl ma 4 rfl rfl (.bool true) rfl ?_;intro wb mb tb)
   | (refine iw _ rfl _ _ _ rfl se ew w.heap.size [(2,.bool true),(4,.bool true)] rfl mb 8 rfl rfl (.bool true) rfl ?_;intro wc mc tc;have hl:(Instr.lookup 267 (.map (some w.heap.size)) (.int .i64 k) false).run Tryz.prog wc=.ok (.bool true) wc:=sY wc se ew w.heap.size _ mc k _ hlk false))
  go_ret
  exact⟨rfl,tc.below (tb.below (ta.below hb (ai _)) (ai _)) (ai _)⟩
 ·have e:dG k=false:=by simp[dG];omega
  have hlk:=Vv k hk;rw[e];go_enter Tryz.func136,Tryz.ntmps136
  go_wp2_with (first
   | (refine iw _ rfl _ _ _ rfl se ew w.heap.size [] rfl m0 2 rfl rfl (.bool true) rfl ?_;intro wa ma ta)
   | (refine iw _ rfl _ _ _ rfl se ew w.heap.size [(2,.bool true)] rfl ma 4 rfl rfl (.bool true) rfl ?_;intro wb mb tb)
   | (refine iw _ rfl _ _ _ rfl se ew w.heap.size [(2,.bool true),(4,.bool true)] rfl mb 8 rfl rfl (.bool true) rfl ?_;intro wc mc tc;have hl:(Instr.lookup 267 (.map (some w.heap.size)) (.int .i64 k) false).run Tryz.prog wc=.ok (.bool false) wc:=qn wc se ew w.heap.size _ mc k _ (oM _) hlk false))
  go_ret
  exact⟨rfl,tc.below (tb.below (ta.below hb (ai _)) (ai _)) (ai _)⟩
theorem CO (m:Int) (N:Nat) (w:World) (hN:ah w N 2 #[.int .i64 m]) (h0:0≤m) (h1:m≤9223372036854775807) :
 Calls Tryz.prog 137 #[.pointer (some ⟨N,0,none⟩)] w fun e w'=>e=.returned (.int .u8 (m % 256))∧w'=w.setCell ⟨N,0,none⟩ (.int .i64 (m/256)):=by
 have c:=hN.ag 0 rfl;have f:=hN.frozen 0;go_enter Tryz.func137,Tryz.ntmps137
 go_wp2
 go_ret
 exact⟨rfl,rfl⟩
def bQ (n i:Nat):UInt8:=UInt8.ofNat (n/256^i % 256)
def leB (n k:Nat):List UInt8:=(List.range k).map (bQ n)
theorem bJ (n k:Nat):(leB n k).length=k:=by simp[leB]
def jW (n k j:Nat):Array Value:=(Array.range k).map fun i=>aj (if i<j then bQ n i else 0)
theorem sr (n k j:Nat):(jW n k j).size=k:=by simp[jW]
theorem rk (n k j i:Nat) (h:i<k):(jW n k j)[i]? = some (aj (if i<j then bQ n i else 0)):=by simp[jW,h]
theorem CP (n k j:Nat) (h:j<k):(jW n k j).setIfInBounds j (aj (bQ n j))=jW n k (j+1):=by
 apply tL;intro i;rw[Ir];by_cases hi:i<k
 ·rw[rk _ _ _ _ hi,rk _ _ _ _ hi];by_cases hik:j=i
  ·subst hik;simp[sr,hi]
  ·rw[aG hik];by_cases h1:i<j
   ·rw[aB h1,aB (by omega)]
   ·rw[aG h1,aG (by omega)]
 ·rw[lK (by rw[sr];omega),lK (by rw[sr];omega),aG (by omega)]
theorem Am (n k:Nat):madeCells #[.int .u8 0] k=jW n k 0:=by
 apply tL;intro i;by_cases hi:i<k
 ·rw[rk _ _ _ _ hi,aG (by omega)];simp[madeCells,hi,Nat.mod_one];try rfl
 ·rw[lK (by simp[madeCells];omega),lK (by rw[sr];omega)]
theorem jg:(Tryz.prog.info? 5).map (fun i=>(i.zero,i.size,i.bytes))=some (some (.int .u8 0),1,1):=by kernel_rfl
theorem nE {W:World} {B g n:Nat} {e:TypeId} {l:List UInt8} {cs:Array Value} (h:ah W g e cs) (hB:B≤g) (hcs:cs.toList=l.map aj) (hn:l.length=n) (hm:n≤maxLen):W.ownsRow B e 1 (.slice (some ⟨g,0,none⟩) n n) n (l.map aj):=by
 have hs:cs.size=n:=by
  have:=dz List.length hcs;simpa[hn]using this
 refine⟨by simp[hn],.inr ⟨g,n,cs,rfl,hB,h,ai _,hm,by omega,?_⟩⟩;rw[←hcs,dg (by simp;omega)]
theorem CQ (n k:Nat):(jW n k k).toList=(leB n k).map aj:=by
 apply m_;intro i;rw[rQ];by_cases hi:i<k
 ·rw[rk _ _ _ _ hi,aB hi];simp[leB,hi]
 ·rw[lK (by rw[sr];omega),dh (by simp[leB];omega)]
theorem fW (n i:Nat):((bQ n i).toNat:Int)=((n/256^i:Nat):Int) % 256:=by
 unfold bQ;rw[RR];omega
theorem aeg (n:Nat) (w:World) (h:2<8→n/2^(8*2)=0) (hn:(n:Int)≤9223372036854775807):Calls Tryz.prog 101 #[.int .i64 n,.int .i64 2] w fun e w' =>
 ∃v,e=.returned (.tuple #[v,.int .i64 0])∧w'.ownsRow w.heap.size 5 1 v 2 ((leB n 2).map aj)∧Below w.heap.size w w':=by
 go_enter JA,Ji
 go_wp2_with fail;refine(rj _ _).mono ?_;rintro e w1 ⟨rfl,hb⟩;have K1:ah w1 w.heap.size 2 #[.int .i64 n]:=(ah.new w _ _).below hb (by simp);have hbb:Below w.heap.size w w1:=((ax _ _).alloc (ai _) _).trans (hb.mono (by simp));have c:=K1.ag 0 rfl;have hne:¬ (n:Int)<0:=by omega
 have hz:=hbb.size;clear hb;try (have hq:(n:Int)/65536=0:=by have:=h (by omega);simp at this;omega)
 try (have hq:(n:Int)/4294967296=0:=by have:=h (by omega);simp at this;omega)
 clear h;simp only[show dG 2=true from rfl,show dG 4=true from rfl,show dG 8=true from rfl];obtain⟨i0,hi0,hz0,hz1,hz2⟩:=iH jg;go_wp2_with (refine wpList_make_row _ rfl _ _ _ rfl 5 i0 _ eU hi0 hz0 hz1 rfl .i64 .i64 2 rfl rfl (by omega) (by omega) ?_)
 rw[Am n 2];have hG0:ah (w1.alloc (.cells (jW n 2 0) 5)) w1.heap.size 5 (jW n 2 0):=ah.new w1 _ _;have hN0:=K1.alloc (.cells (jW n 2 0) 5);have hB0:=hbb.alloc hz (.cells (jW n 2 0) 5);have hzl:=K1.lt;clear c hi0 hz0 hz1 hz2 K1 hbb;generalize w1.alloc _=W0 at *;generalize w1.heap.size=G at *;go_loopw [32] (fun i wr=>∃j:Nat,j≤2∧i=.int .i64 j∧ah wr w.heap.size 2 #[.int .i64 ((n/256^j:Nat):Int)]∧ah wr G 5 (jW n 2 j)∧Below w.heap.size w wr) (fun i _=>2-(intOf i).toNat)
 case atStart=>exact⟨0,by omega,rfl,by simpa using hN0,hG0,hB0⟩
 case round =>
  obtain⟨j,hj,rfl,hN,hG,hB⟩:=hrel;by_cases hlt:j<2
  ·have pJ:=fW n j;have hdl:n/256^j≤n:=zL _ _;have th:n/256^(j+1)=n/256^j/256:=by rw[tR,←wy]
   have hps:=CP n 2 j hlt;have hpa:=rk n 2 j j hlt;generalize n/256^j=q at *;have JZ:=ae hps;have xQ:=ae th;clear hps th;go_wp2_with fail;refine(CO _ _ _ hN (by omega) (by omega)).mono ?_;rintro e w2 ⟨rfl,rfl⟩;have hG1:=hG.far (p:=⟨w.heap.size,0,none⟩) (by simp;omega) (.int .i64 ((q:Int)/256));have hN1:=hN.br 0 (.int .i64 ((q:Int)/256));have hB1:=hB.setCell (p:=⟨w.heap.size,0,none⟩) (by simp) (.int .i64 ((q:Int)/256));clear hG hN hB;generalize wr.setCell _ _=W2 at *;have cG:=hG1.ag j hpa;have fG:=hG1.frozen j;have HG:=ae (hG1.br j (aj (bQ n j)));have HN:=ae (hN1.far (p:=⟨G,j,none⟩) (by simp;omega) (aj (bQ n j)));have HB:=ae (hB1.setCell (p:=⟨G,j,none⟩) (by simp;omega) (aj (bQ n j)));clear hG1 hN1 hB1 hpa;rw[←pJ];clear pJ;go_wp2_with fail;refine⟨⟨j+1,by omega,by go_num,?_,?_,HB.out⟩,by simp[intOf];omega⟩
   ·have h:=HN.out;have e1:((q:Int)/256)=((n/256^(j+1):Nat):Int):=by rw[xQ.out];omega
    rw[e1]at h;exact h
   ·have h:=HG.out;rw[JZ.out]at h;exact h
  ·have ku:j=2:=by omega
   subst ku;go_wp2_with fail;go_ret2
   exact⟨_,rfl,nE hG (by omega) (CQ n _) (bJ n _) (by simp[maxLen]),hB⟩
theorem aeh (n:Nat) (w:World) (h:4<8→n/2^(8*4)=0) (hn:(n:Int)≤9223372036854775807):Calls Tryz.prog 101 #[.int .i64 n,.int .i64 4] w fun e w' =>
 ∃v,e=.returned (.tuple #[v,.int .i64 0])∧w'.ownsRow w.heap.size 5 1 v 4 ((leB n 4).map aj)∧Below w.heap.size w w':=by
 go_enter JA,Ji
 go_wp2_with fail;refine(rj _ _).mono ?_;rintro e w1 ⟨rfl,hb⟩;have K1:ah w1 w.heap.size 2 #[.int .i64 n]:=(ah.new w _ _).below hb (by simp);have hbb:Below w.heap.size w w1:=((ax _ _).alloc (ai _) _).trans (hb.mono (by simp));have c:=K1.ag 0 rfl;have hne:¬ (n:Int)<0:=by omega
 have hz:=hbb.size;clear hb;try (have hq:(n:Int)/65536=0:=by have:=h (by omega);simp at this;omega)
 try (have hq:(n:Int)/4294967296=0:=by have:=h (by omega);simp at this;omega)
 clear h;simp only[show dG 2=true from rfl,show dG 4=true from rfl,show dG 8=true from rfl];obtain⟨i0,hi0,hz0,hz1,hz2⟩:=iH jg;go_wp2_with (refine wpList_make_row _ rfl _ _ _ rfl 5 i0 _ eU hi0 hz0 hz1 rfl .i64 .i64 4 rfl rfl (by omega) (by omega) ?_)
 rw[Am n 4];have hG0:ah (w1.alloc (.cells (jW n 4 0) 5)) w1.heap.size 5 (jW n 4 0):=ah.new w1 _ _;have hN0:=K1.alloc (.cells (jW n 4 0) 5);have hB0:=hbb.alloc hz (.cells (jW n 4 0) 5);have hzl:=K1.lt;clear c hi0 hz0 hz1 hz2 K1 hbb;generalize w1.alloc _=W0 at *;generalize w1.heap.size=G at *;go_loopw [32] (fun i wr=>∃j:Nat,j≤4∧i=.int .i64 j∧ah wr w.heap.size 2 #[.int .i64 ((n/256^j:Nat):Int)]∧ah wr G 5 (jW n 4 j)∧Below w.heap.size w wr) (fun i _=>4-(intOf i).toNat)
 case atStart=>exact⟨0,by omega,rfl,by simpa using hN0,hG0,hB0⟩
 case round =>
  obtain⟨j,hj,rfl,hN,hG,hB⟩:=hrel;by_cases hlt:j<4
  ·have pJ:=fW n j;have hdl:n/256^j≤n:=zL _ _;have th:n/256^(j+1)=n/256^j/256:=by rw[tR,←wy]
   have hps:=CP n 4 j hlt;have hpa:=rk n 4 j j hlt;generalize n/256^j=q at *;have JZ:=ae hps;have xQ:=ae th;clear hps th;go_wp2_with fail;refine(CO _ _ _ hN (by omega) (by omega)).mono ?_;rintro e w2 ⟨rfl,rfl⟩;have hG1:=hG.far (p:=⟨w.heap.size,0,none⟩) (by simp;omega) (.int .i64 ((q:Int)/256));have hN1:=hN.br 0 (.int .i64 ((q:Int)/256));have hB1:=hB.setCell (p:=⟨w.heap.size,0,none⟩) (by simp) (.int .i64 ((q:Int)/256));clear hG hN hB;generalize wr.setCell _ _=W2 at *;have cG:=hG1.ag j hpa;have fG:=hG1.frozen j;have HG:=ae (hG1.br j (aj (bQ n j)));have HN:=ae (hN1.far (p:=⟨G,j,none⟩) (by simp;omega) (aj (bQ n j)));have HB:=ae (hB1.setCell (p:=⟨G,j,none⟩) (by simp;omega) (aj (bQ n j)));clear hG1 hN1 hB1 hpa;rw[←pJ];clear pJ;go_wp2_with fail;refine⟨⟨j+1,by omega,by go_num,?_,?_,HB.out⟩,by simp[intOf];omega⟩
   ·have h:=HN.out;have e1:((q:Int)/256)=((n/256^(j+1):Nat):Int):=by rw[xQ.out];omega
    rw[e1]at h;exact h
   ·have h:=HG.out;rw[JZ.out]at h;exact h
  ·have ku:j=4:=by omega
   subst ku;go_wp2_with fail;go_ret2
   exact⟨_,rfl,nE hG (by omega) (CQ n _) (bJ n _) (by simp[maxLen]),hB⟩
theorem aei (n:Nat) (w:World) (h:8<8→n/2^(8*8)=0) (hn:(n:Int)≤9223372036854775807):Calls Tryz.prog 101 #[.int .i64 n,.int .i64 8] w fun e w' =>
 ∃v,e=.returned (.tuple #[v,.int .i64 0])∧w'.ownsRow w.heap.size 5 1 v 8 ((leB n 8).map aj)∧Below w.heap.size w w':=by
 go_enter JA,Ji
 go_wp2_with fail;refine(rj _ _).mono ?_;rintro e w1 ⟨rfl,hb⟩;have K1:ah w1 w.heap.size 2 #[.int .i64 n]:=(ah.new w _ _).below hb (by simp);have hbb:Below w.heap.size w w1:=((ax _ _).alloc (ai _) _).trans (hb.mono (by simp));have c:=K1.ag 0 rfl;have hne:¬ (n:Int)<0:=by omega
 have hz:=hbb.size;clear hb;try (have hq:(n:Int)/65536=0:=by have:=h (by omega);simp at this;omega)
 try (have hq:(n:Int)/4294967296=0:=by have:=h (by omega);simp at this;omega)
 clear h;simp only[show dG 2=true from rfl,show dG 4=true from rfl,show dG 8=true from rfl];obtain⟨i0,hi0,hz0,hz1,hz2⟩:=iH jg;go_wp2_with (refine wpList_make_row _ rfl _ _ _ rfl 5 i0 _ eU hi0 hz0 hz1 rfl .i64 .i64 8 rfl rfl (by omega) (by omega) ?_)
 rw[Am n 8];have hG0:ah (w1.alloc (.cells (jW n 8 0) 5)) w1.heap.size 5 (jW n 8 0):=ah.new w1 _ _;have hN0:=K1.alloc (.cells (jW n 8 0) 5);have hB0:=hbb.alloc hz (.cells (jW n 8 0) 5);have hzl:=K1.lt;clear c hi0 hz0 hz1 hz2 K1 hbb;generalize w1.alloc _=W0 at *;generalize w1.heap.size=G at *;go_loopw [32] (fun i wr=>∃j:Nat,j≤8∧i=.int .i64 j∧ah wr w.heap.size 2 #[.int .i64 ((n/256^j:Nat):Int)]∧ah wr G 5 (jW n 8 j)∧Below w.heap.size w wr) (fun i _=>8-(intOf i).toNat)
 case atStart=>exact⟨0,by omega,rfl,by simpa using hN0,hG0,hB0⟩
 case round =>
  obtain⟨j,hj,rfl,hN,hG,hB⟩:=hrel;by_cases hlt:j<8
  ·have pJ:=fW n j;have hdl:n/256^j≤n:=zL _ _;have th:n/256^(j+1)=n/256^j/256:=by rw[tR,←wy]
   have hps:=CP n 8 j hlt;have hpa:=rk n 8 j j hlt;generalize n/256^j=q at *;have JZ:=ae hps;have xQ:=ae th;clear hps th;go_wp2_with fail;refine(CO _ _ _ hN (by omega) (by omega)).mono ?_;rintro e w2 ⟨rfl,rfl⟩;have hG1:=hG.far (p:=⟨w.heap.size,0,none⟩) (by simp;omega) (.int .i64 ((q:Int)/256));have hN1:=hN.br 0 (.int .i64 ((q:Int)/256));have hB1:=hB.setCell (p:=⟨w.heap.size,0,none⟩) (by simp) (.int .i64 ((q:Int)/256));clear hG hN hB;generalize wr.setCell _ _=W2 at *;have cG:=hG1.ag j hpa;have fG:=hG1.frozen j;have HG:=ae (hG1.br j (aj (bQ n j)));have HN:=ae (hN1.far (p:=⟨G,j,none⟩) (by simp;omega) (aj (bQ n j)));have HB:=ae (hB1.setCell (p:=⟨G,j,none⟩) (by simp;omega) (aj (bQ n j)));clear hG1 hN1 hB1 hpa;rw[←pJ];clear pJ;go_wp2_with fail;refine⟨⟨j+1,by omega,by go_num,?_,?_,HB.out⟩,by simp[intOf];omega⟩
   ·have h:=HN.out;have e1:((q:Int)/256)=((n/256^(j+1):Nat):Int):=by rw[xQ.out];omega
    rw[e1]at h;exact h
   ·have h:=HG.out;rw[JZ.out]at h;exact h
  ·have ku:j=8:=by omega
   subst ku;go_wp2_with fail;go_ret2
   exact⟨_,rfl,nE hG (by omega) (CQ n _) (bJ n _) (by simp[maxLen]),hB⟩
theorem FK (n k:Nat) (w:World) (hk:k=2∨k=4∨k=8) (h:k<8→n/2^(8*k)=0) (hn:(n:Int)≤9223372036854775807):Calls Tryz.prog 101 #[.int .i64 n,.int .i64 k] w fun e w' =>
 ∃v,e=.returned (.tuple #[v,.int .i64 0])∧w'.ownsRow w.heap.size 5 1 v k ((leB n k).map aj)∧Below w.heap.size w w':=by
 rcases hk with rfl | rfl | rfl
 ·exact aeg n w h hn
 ·exact aeh n w h hn
 ·exact aei n w h hn
def aW:List UInt8→Nat
 | []=>0
 | c::l=>c.toNat+256*aW l
theorem J5 (l:List UInt8) (c:UInt8):aW (l++[c])=aW l+c.toNat*256^l.length:=by
 induction l with
 | nil=>simp[aW]
 | cons d l ih =>
  simp only[List.cons_append,aW,ih,List.length_cons,Nat.pow_succ,Nat.mul_add];rw[qg (256^l.length) 256,Nat.mul_left_comm];omega
theorem iJ (l:List UInt8):aW l<256^l.length:=by
 induction l with
 | nil=>simp[aW]
 | cons c l ih =>
  simp only[aW,List.length_cons,Nat.pow_succ];have:=mu c;omega
theorem CR (l:List UInt8) (i:Nat) (c:UInt8) (h:l[i]? = some c):aW (l.take (i+1))=aW (l.take i)+c.toNat*256^i:=by
 rw[gG,h];have hl:i<l.length:=by
  rcases bZ i l.length with hh | hh
  ·exact hh
  ·rw[dh hh]at h;cases h
 have:=J5 (l.take i) c;rw[bD,oN (by omega)]at this;exact this
theorem Vw (N i c:Nat) (hN:N<2^i):N ||| (c*2^i)=N+c*2^i:=by
 rw[qg c,Nat.or_comm,←Nat.two_pow_add_eq_or_of_lt hN];omega
theorem aar (a b:Nat) (ha:a<18446744073709551616) (hb:b<18446744073709551616):bits .or .u64 (a:Int) (b:Int)=((a ||| b:Nat):Int):=by
 have hx:a ||| b<2^64:=Nat.or_lt_two_pow (by omega) (by omega)
 show IntKind.u64.wrap ((BitVec.ofInt 64 (a:Int) ||| BitVec.ofInt 64 (b:Int)).toNat:Int)=_;rw[BitVec.toNat_or,zw,sf,zw,sf,sg (by omega),sg (by omega),nw];omega
theorem aas (j:Nat):256^j=2^(8*j):=by rw[show(256:Nat)=2^8 from rfl,←Nat.pow_mul]
theorem J7 (N c j:Nat) (hj:j<8) (hN:N<256^j) (hc:c<256):bits .or .u64 (N:Int) (IntKind.u64.wrap ((c:Int)*2^(8*j)))=((N+c*256^j:Nat):Int):=by
 rw[aas]at hN ⊢;have hp:c*2^(8*j)<18446744073709551616:=by
  have h1:c*2^(8*j)<256*2^(8*j):=Nat.mul_lt_mul_of_pos_right hc (Nat.two_pow_pos _);have h2:256*2^(8*j)=2^(8+8*j):=by rw[Nat.pow_add]
  have h3:2^(8+8*j)≤2^64:=rR (by omega) (by omega);omega
 have hp2:(2:Nat)^(8*j)≤2^64:=rR (by omega) (by omega);have e:IntKind.u64.wrap ((c:Int)*2^(8*j))=((c*2^(8*j):Nat):Int):=by
  rw[nw];have e2:(c:Int)*2^(8*j)=((c*2^(8*j):Nat):Int):=by push_cast;rfl
  rw[e2];omega
 rw[e,aar _ _ (by omega) hp,Vw _ _ _ hN]
def iN (l:List UInt8):Bool:=dG l.length&&decide (aW l<9223372036854775808)
theorem OU (v:Value) (bs:List UInt8) (w:World) (hv:BytesIn w w.heap.size v bs) (h:dG bs.length=false) :
 Calls Tryz.prog 145 #[v] w fun e w'=>e=.returned (.tuple #[.int .i64 0,.int .i64 2])∧Below w.heap.size w w':=by
 obtain⟨h1,a,cap,rfl,h2⟩:=hv;go_enter Jw,Jf
 go_wp2_with fail;refine(rj _ _).mono ?_;rintro e w1 ⟨rfl,hb⟩;rw[h];go_wp2_with fail;go_ret2
 exact⟨rfl,hb⟩
theorem ZT (v:Value) (bs:List UInt8) (w:World) (hv:BytesIn w w.heap.size v bs) (h:dG bs.length=true) (hs:aW bs<9223372036854775808) :
 Calls Tryz.prog 145 #[v] w fun e w'=>e=.returned (.tuple #[.int .i64 (aW bs),.int .i64 0])∧Below w.heap.size w w':=by
 obtain⟨h1,a,cap,rfl,hcap,h2⟩:=hv;have HS:=ae hs;clear hs;have h8:bs.length≤8:=by simp[dG]at h;omega
 go_enter Jw,Jf
 go_wp2_with fail;refine(rj _ _).mono ?_;rintro e w1 ⟨rfl,hb⟩;rw[h];go_wp2_with fail;go_loopw [13,4] (fun i n wr=>∃j:Nat,j≤bs.length∧i=.int .i64 j∧n=.int .u64 ((aW (bs.take j):Nat):Int)∧wr=w1) (fun i _ _=>bs.length-(intOf i).toNat)
 case atStart=>exact⟨0,by omega,rfl,rfl,rfl⟩
 case round =>
  obtain⟨j,hj,rfl,rfl,rfl⟩:=hrel;by_cases hlt:j<bs.length
  ·have hbj:bs[j]? = some (bs[j]'hlt):=aY hlt;obtain⟨g,off,rfl,hg,hcell⟩:=h2 j _ hbj;have hcx:wr.cell? ⟨g,off+j,none⟩=some (aj (bs[j]'hlt)):=(hb.cell (p:=⟨g,off+j,none⟩) hg).trans hcell;have hT:=ae (CR bs j _ hbj);have hN:=iJ (bs.take j);rw[bD,oN (by omega)]at hN;generalize bs[j]'hlt=c at *;generalize aW (bs.take j)=N at *;have hc256:=mu c;have hst:=J7 N c.toNat j (by omega) hN hc256;go_wp2_with fail;exact⟨⟨j+1,by omega,by go_num,by rw[hT.out];push_cast;rfl,trivial⟩,by simp[intOf];omega⟩
  ·obtain rfl:j=bs.length:=by omega
   rw[iG];have hs:=HS.out;generalize SA:aW bs=N at *;have HN:=ae SA;clear SA;have hq:(N:Int)/9223372036854775808=0:=by omega
   go_wp2_with fail;go_ret2
   exact⟨by rw[HN.out];rfl,hb⟩
theorem ZU (v:Value) (bs:List UInt8) (w:World) (hv:BytesIn w w.heap.size v bs) (h:dG bs.length=true) (hs:9223372036854775808≤aW bs) :
 Calls Tryz.prog 145 #[v] w fun e w'=>e=.returned (.tuple #[.int .i64 0,.int .i64 2])∧Below w.heap.size w w':=by
 obtain⟨h1,a,cap,rfl,hcap,h2⟩:=hv;have HS:=ae hs;clear hs;have h8:bs.length≤8:=by simp[dG]at h;omega
 go_enter Jw,Jf
 go_wp2_with fail;refine(rj _ _).mono ?_;rintro e w1 ⟨rfl,hb⟩;rw[h];go_wp2_with fail;go_loopw [13,4] (fun i n wr=>∃j:Nat,j≤bs.length∧i=.int .i64 j∧n=.int .u64 ((aW (bs.take j):Nat):Int)∧wr=w1) (fun i _ _=>bs.length-(intOf i).toNat)
 case atStart=>exact⟨0,by omega,rfl,rfl,rfl⟩
 case round =>
  obtain⟨j,hj,rfl,rfl,rfl⟩:=hrel;by_cases hlt:j<bs.length
  ·have hbj:bs[j]? = some (bs[j]'hlt):=aY hlt;obtain⟨g,off,rfl,hg,hcell⟩:=h2 j _ hbj;have hcx:wr.cell? ⟨g,off+j,none⟩=some (aj (bs[j]'hlt)):=(hb.cell (p:=⟨g,off+j,none⟩) hg).trans hcell;have hT:=ae (CR bs j _ hbj);have hN:=iJ (bs.take j);rw[bD,oN (by omega)]at hN;generalize bs[j]'hlt=c at *;generalize aW (bs.take j)=N at *;have hc256:=mu c;have hst:=J7 N c.toNat j (by omega) hN hc256;go_wp2_with fail;exact⟨⟨j+1,by omega,by go_num,by rw[hT.out];push_cast;rfl,trivial⟩,by simp[intOf];omega⟩
  ·obtain rfl:j=bs.length:=by omega
   rw[iG];have hlt2:aW bs<18446744073709551616:=kK (iJ bs) (jF (rR (by omega) h8) (by decide));have hs:=HS.out;generalize SA:aW bs=N at *;have HN:=ae SA;clear SA;have hq:(N:Int)/9223372036854775808=1:=by omega
   go_wp2_with fail;go_ret2
   exact⟨rfl,hb⟩
theorem FL (v:Value) (bs:List UInt8) (w:World) (hv:BytesIn w w.heap.size v bs) :
 Calls Tryz.prog 145 #[v] w fun e w'=>e=.returned (.tuple #[.int .i64 (if iN bs then (aW bs:Int) else 0),.int .i64 (if iN bs then 0 else 2)])∧Below w.heap.size w w':=by
 unfold iN;cases hw:dG bs.length
 ·exact OU v bs w hv hw
 ·by_cases hs:aW bs<9223372036854775808
  ·rw[cT hs];exact ZT v bs w hv hw hs
  ·rw[cB hs];exact ZU v bs w hv hw (by omega)
theorem su (k:Int) (w:World):Calls Tryz.prog 144 #[.int .i64 k] w fun e w'=>e=.returned (.bool (dG k))∧w=w':=by
 by_cases h2:k=2
 ·subst h2;go_enter Jy,Jg
  go_wp2
  go_ret
  exact⟨rfl,rfl⟩
 ·by_cases h4:k=4
  ·subst h4;go_enter Jy,Jg
   go_wp2
   go_ret
   exact⟨rfl,rfl⟩
  ·have e:dG k=(k == 8):=by simp[dG,h2,h4]
   have b2:(k == 2)=false:=by simpa using h2
   have b4:(k == 4)=false:=by simpa using h4
   rw[e];go_enter Jy,Jg
   go_wp2
   all_goals go_ret
   all_goals exact⟨rfl,rfl⟩
theorem ZV (X:BitVec 32) (h:(X.toNat:Int) % 2=1):bits .xor .u32 ((X.toNat:Int)/(2:Int)) 3988292384=((jv X).toNat:Int):=by
 have e2:(X.toNat:Int)/(2:Int)=((X >>> 1).toNat:Int):=BD X 1;have hb:X.getLsbD 0=true:=by
  rw[BitVec.getLsbD,Nat.testBit_zero];simp;omega
 rw[e2];unfold jv;rw[hb];exact q_ _ 0xedb88320#32
theorem Vx (X:BitVec 32) (h:¬ (X.toNat:Int) % 2=1):(X.toNat:Int)/(2:Int)=((jv X).toNat:Int):=by
 have e2:(X.toNat:Int)/(2:Int)=((X >>> 1).toNat:Int):=BD X 1;have hb:X.getLsbD 0=false:=by
  rw[BitVec.getLsbD,Nat.testBit_zero];simp;omega
 rw[e2];unfold jv;rw[hb];simp
theorem OV (n:BitVec 32) (l:List UInt8) (j:Nat) (c:UInt8) (h:l[j]? = some c):ni n (l.take (j+1))=BA (ni n (l.take j)) c:=by
 rw[gG,h];simp[ni]
theorem tX (v:Value) (bs:List UInt8) (w:World) (hv:BytesIn w w.heap.size v bs) :
 Calls Tryz.prog 65 #[v] w fun e w'=>e=.returned (gM (dJ bs))∧w=w':=by
 obtain⟨h1,a,cap,rfl,hcap,h2⟩:=hv;unfold maxLen at h1;go_enter Tryz.func65,Tryz.ntmps65
 go_wp2_with fail;go_loopw [3,4] (fun n i wr=>∃j:Nat,j≤bs.length∧i=.int .i64 j∧n=gM (ni (~~~ 0#32) (bs.take j))∧wr=w) (fun _ i _=>bs.length-(intOf i).toNat)
 case atStart=>exact⟨0,by omega,rfl,rfl,rfl⟩
 case round =>
  obtain⟨j,hj,rfl,rfl,rfl⟩:=hrel;by_cases hlt:j<bs.length
  ·have hbj:bs[j]? = some (bs[j]'hlt):=aY hlt;obtain⟨g,off,rfl,hg,hcell⟩:=h2 j _ hbj;have hT:=ae (OV (~~~ 0#32) bs j _ hbj);generalize bs[j]'hlt=c at *;generalize ni (~~~ 0#32) (bs.take j)=N at *;have hc256:=mu c;obtain⟨Y,hY⟩:∃Y,Y=N ^^^ BitVec.ofNat 32 c.toNat:=⟨_,rfl⟩;have e1:bits .xor .u32 (N.toNat:Int) (c.toNat:Int)=(Y.toNat:Int):=by
    have ex:((BitVec.ofNat 32 c.toNat).toNat:Int)=(c.toNat:Int):=by rw[sf];omega
    rw[hY,←ex];exact q_ N _
   have HY:=ae hY;clear hY;go_wp2_with fail;go_loop [3,5] (fun n k=>∃q:Nat,q≤8∧k=.int .i64 q∧n=gM (b8 q Y)) (fun _ k=>8-(intOf k).toNat)
   case atStart=>exact⟨0,by omega,rfl,rfl⟩
   case round =>
    obtain⟨q,hq,rfl,rfl⟩:=hrel;have hS:=ae (Ac q Y);by_cases hq8:q<8
    ·generalize b8 q Y=X at *;by_cases hodd:(X.toNat:Int) % 2=1
     ·have hv:=ZV X hodd;go_wp2_with fail;exact⟨⟨q+1,by omega,by go_num,by rw[hS.out]⟩,by simp[intOf];omega⟩
     ·have hv:=Vx X hodd;go_wp2_with fail;exact⟨⟨q+1,by omega,by go_num,by rw[hS.out]⟩,by simp[intOf];omega⟩
    ·obtain rfl:q=8:=by omega
     have kq:ni (~~~ 0#32) (bs.take (j+1))=b8 8 Y:=by rw[hT.out,HY.out];rfl
     have HT2:=ae kq;clear kq;generalize b8 8 Y=Z at *;go_wp2_with fail;exact⟨⟨j+1,by omega,by go_num,by rw[HT2.out],trivial⟩,by simp[intOf];omega⟩
  ·obtain rfl:j=bs.length:=by omega
   rw[iG];have hW:=ae (show dJ bs = ~~~ (ni (~~~ 0#32) bs)from rfl);generalize ni (~~~ 0#32) bs=N at *;have hn:(4294967295:Int)-(N.toNat:Int)=((~~~ N).toNat:Int):=by
    rw[BitVec.toNat_not];have:=N.isLt;omega
   go_wp2_with fail;go_ret
   exact⟨by rw[hW.out];simp[gM],rfl⟩
theorem CS (n j:Nat):leB n (j+1)=leB n j++[bQ n j]:=by simp[leB,List.range_succ]
theorem J8 (n k:Nat) (w:World) (hk:dG k=true) (hn:(n:Int)≤9223372036854775807):Calls Tryz.prog 132 #[.int .i64 n,.int .i64 k] w fun e w' =>
 ∃v,e=.returned (.tuple #[v,.bool (n/256^k == 0)])∧w'.ownsRow w.heap.size 5 1 v k ((leB n k).map aj)∧Below w.heap.size w w':=by
 have hk8:k≤8:=by simp[dG]at hk;omega
 obtain⟨i0,hi0,hz0,hz1,hz2⟩:=iH jg;have HI:=ae (And.intro hi0 (And.intro hz0 (And.intro hz1 hz2)));clear hi0 hz0 hz1 hz2;have hne:¬ (n:Int)<0:=by omega
 go_enter Tryz.func132,Tryz.ntmps132
 go_wp2_with fail;refine(su k _).mono ?_;rintro e w1 ⟨rfl,rfl⟩;rw[hk];go_wp2_with fail;go_loopw [0,6,7] (fun m o i wr=>∃j:Nat,j≤k∧i=.int .i64 j∧m=.int .i64 ((n/256^j:Nat):Int)∧wr.ownsRow w.heap.size 5 1 o j ((leB n j).map aj)∧Below w.heap.size w wr) (fun _ _ i _=>k-(intOf i).toNat)
 case atStart=>exact⟨0,by omega,rfl,by simp,km _ _ _ _,ax _ _⟩
 case round =>
  obtain⟨j,hj,rfl,rfl,hO,hB⟩:=hrel;by_cases hlt:j<k
  ·have pJ:=fW n j;have hdl:n/256^j≤n:=zL _ _;have th:n/256^(j+1)=n/256^j/256:=by rw[tR,←wy]
   have hls:=ae (CS n j);have hll:=bJ n j;generalize n/256^j=q at *;have xQ:=ae th;have Vy:=ae pJ;clear th pJ;have HO:=ae hO;clear hO;have hsz:=hB.size;have hbyte:((q:Int) % 256)=((bQ n j).toNat:Int):=Vy.out.symm;go_wp2_with (at_builtin;refine pZ _ rfl _ _ _ rfl w.heap.size 5 i0 _ 1 1 eU HI.out.1 HI.out.2.1 HI.out.2.2.1 HI.out.2.2.2 rfl (by omega) _ j _ rfl (HO.out.alloc _) ⟨wr.heap.size,0,none⟩ 1 1 [aj (bQ n j)] rfl rfl (ia (cs:=#[aj (bQ n j)]) (t:=5) (fr:=(0,0)) (bC wr _)) (by simp[Value.oneCell']) (by omega) (by unfold maxLen;omega) (by omega) (by simp;omega) (wr.heap.size+1) (by simp) ?_;intro g cap w3 hO3 hg3 xR hlt3)
   refine⟨⟨j+1,by omega,by go_num,?_,?_,?_⟩,by simp[intOf];omega⟩
   ·rw[xQ.out];congr 1
   ·rw[hls.out];simpa using hO3
   ·exact(hB.alloc hsz _).grown hg3 (by simp;omega) (fun r hr=>(HO.out.lt r hr).1)
  ·obtain rfl:j=k:=by omega
   generalize hqe:n/256^j=q at *;have HQ:=ae hqe;clear hqe;have hq:((q:Int) == 0)=(q == 0):=by
    cases h:(q == 0)
    ·simp at h ⊢;omega
    ·simp at h ⊢;omega
   go_wp2_with fail;go_ret2
   exact⟨_,by rw[HQ.out];rfl,hO,hB⟩
theorem MJ (v:Value) (bs:List UInt8) (w:World) (hv:BytesIn w w.heap.size v bs) (h:dG bs.length=false) :
 Calls Tryz.prog 113 #[v] w fun e w'=>e=.returned (.tuple #[.int .i64 0,.bool false])∧w=w':=by
 obtain⟨h1,a,cap,rfl,h2⟩:=hv;go_enter DN,DJ
 go_wp2_with fail;refine(su _ _).mono ?_;rintro e w1 ⟨rfl,rfl⟩;rw[h];go_wp2_with fail;go_ret2
 exact⟨rfl,rfl⟩
theorem xS (l r:List UInt8):aW (l++r)=aW l+256^l.length*aW r:=by
 induction l with
 | nil=>simp[aW]
 | cons c l ih =>
  simp only[List.cons_append,aW,ih,List.length_cons,Nat.pow_succ];rw[Nat.mul_add,qg (256^l.length) 256,Nat.mul_assoc];omega
theorem xT (l:List UInt8) (j:Nat) (c:UInt8) (h:l[j]? = some c):aW (l.drop j)=c.toNat+256*aW (l.drop (j+1)):=by
 have hl:j<l.length:=by
  rcases bZ j l.length with hh | hh
  ·exact hh
  ·rw[dh hh]at h;cases h
 rw[pg hl];rw[aY hl]at h;rw[gH h];rfl
theorem FM (l:List UInt8) (c:UInt8) (hl:l.length=8) (h:l[7]? = some c):(127<c.toNat)↔9223372036854775808≤aW l:=by
 have e:l=l.take 7++l.drop 7:=(rP 7 l).symm;have hd:aW (l.drop 7)=c.toNat:=by
  have h8:l.drop (7+1)=[]:=List.drop_of_length_le (by omega);rw[xT l 7 c h,h8];simp[aW]
 have hle:aW l=aW (l.take 7)+256^7*c.toNat:=by
  have h0:aW l=aW (l.take 7++l.drop 7):=by rw[←e]
  rw[h0,xS,hd,bD,hl];rfl
 have ht:=iJ (l.take 7);rw[bD,hl]at ht;have ht2:aW (l.take 7)<72057594037927936:=ht;have hp:(256:Nat)^7=72057594037927936:=by decide
 rw[hp]at hle;omega
theorem aat (v:Value) (bs:List UInt8) (w:World) (hv:BytesIn w w.heap.size v bs) (h:dG bs.length=true) (hs:aW bs<9223372036854775808) (hl:bs.length=8) :
 Calls Tryz.prog 113 #[v] w fun e w'=>e=.returned (.tuple #[.int .i64 (aW bs),.bool true])∧w=w':=by
 obtain⟨h1,a,cap,rfl,hcap,h2⟩:=hv;have h8:bs.length≤8:=by simp[dG]at h;omega
 have hpos:0<bs.length:=by simp[dG]at h;omega
 have tY:bs[7]? = some (bs[7]'(by omega)):=aY (by omega);obtain⟨g,off,rfl,Gi,hc7⟩:=h2 7 _ tY;have h127:¬ (127:Int)<((bs[7]'(by omega)).toNat:Int):=by have:=FM bs _ hl tY;omega
 generalize bs[7]'(by omega)=c7 at *;have h7:(7:Int)<(bs.length:Int):=by omega
 have hbe:((bs.length:Int) == 8)=true:=by simp;omega
 clear tY hl;have HS:=ae hs;clear hs;go_enter DN,DJ
 go_wp2_with fail;refine(su _ _).mono ?_;rintro e w1 ⟨rfl,rfl⟩;rw[h];go_wp2_with fail;go_loop [4,5] (fun n i=>∃j:Nat,j≤bs.length∧i=.int .i64 ((j:Int)-1)∧n=.int .i64 ((aW (bs.drop j):Nat):Int)) (fun _ i=>(intOf i+1).toNat)
 case atStart=>exact⟨bs.length,ai _,rfl,by simp[aW]⟩
 case round =>
  obtain⟨j,hj,rfl,rfl⟩:=hrel;by_cases hlt:0<j
  ·obtain⟨q,rfl⟩:∃q,j=q+1:=⟨j-1,by omega⟩;have hbj:bs[q]? = some (bs[q]'(by omega)):=aY (by omega);obtain⟨g2,off2,e2,hg,hcell⟩:=h2 q _ hbj;obtain⟨rfl,rfl⟩:g=g2∧off=off2:=by simpa using e2
   have hT:=xT bs q _ hbj;have hle:aW (bs.drop q)<9223372036854775808:=by
    have e0:bs=bs.take q++bs.drop q:=(rP q bs).symm;have h0:aW bs=aW (bs.take q)+256^(bs.take q).length*aW (bs.drop q):=by
     conv=>lhs;rw[e0]
     exact xS _ _
    have hp:1≤256^(bs.take q).length:=RZ (by simp);have:=RA (aW (bs.drop q)) hp;have:=HS.out;omega
   generalize bs[q]'(by omega)=c at *;generalize aW (bs.drop (q+1))=N at *;have hc256:=mu c;have HT:=ae hT;have hNb:(N:Int)*256+(c.toNat:Int)<9223372036854775808:=by omega
   clear hT hle;have ej:((q+1:Nat):Int)-1=(q:Int):=by omega
   rw[ej];go_wp2_with fail;exact⟨⟨q,by omega,rfl,by rw[HT.out];congr 1;omega⟩,by simp[intOf]<;>omega⟩
  ·obtain rfl:j=0:=by omega
   rw[qd];go_wp2_with fail;go_ret2
   exact⟨rfl,rfl⟩
theorem aau (v:Value) (bs:List UInt8) (w:World) (hv:BytesIn w w.heap.size v bs) (h:dG bs.length=true) (hs:aW bs<9223372036854775808) (hl:bs.length≠8) :
 Calls Tryz.prog 113 #[v] w fun e w'=>e=.returned (.tuple #[.int .i64 (aW bs),.bool true])∧w=w':=by
 obtain⟨h1,a,cap,rfl,hcap,h2⟩:=hv;have h8:bs.length≤8:=by simp[dG]at h;omega
 have hpos:0<bs.length:=by simp[dG]at h;omega
 have hbe:((bs.length:Int) == 8)=false:=by simp;omega
 clear hl;have HS:=ae hs;clear hs;go_enter DN,DJ
 go_wp2_with fail;refine(su _ _).mono ?_;rintro e w1 ⟨rfl,rfl⟩;rw[h];go_wp2_with fail;go_loop [4,5] (fun n i=>∃j:Nat,j≤bs.length∧i=.int .i64 ((j:Int)-1)∧n=.int .i64 ((aW (bs.drop j):Nat):Int)) (fun _ i=>(intOf i+1).toNat)
 case atStart=>exact⟨bs.length,ai _,rfl,by simp[aW]⟩
 case round =>
  obtain⟨j,hj,rfl,rfl⟩:=hrel;by_cases hlt:0<j
  ·obtain⟨q,rfl⟩:∃q,j=q+1:=⟨j-1,by omega⟩;have hbj:bs[q]? = some (bs[q]'(by omega)):=aY (by omega);obtain⟨g2,off2,e2,hg,hcell⟩:=h2 q _ hbj;subst e2;have hT:=xT bs q _ hbj;have hle:aW (bs.drop q)<9223372036854775808:=by
    have e0:bs=bs.take q++bs.drop q:=(rP q bs).symm;have h0:aW bs=aW (bs.take q)+256^(bs.take q).length*aW (bs.drop q):=by
     conv=>lhs;rw[e0]
     exact xS _ _
    have hp:1≤256^(bs.take q).length:=RZ (by simp);have:=RA (aW (bs.drop q)) hp;have:=HS.out;omega
   generalize bs[q]'(by omega)=c at *;generalize aW (bs.drop (q+1))=N at *;have hc256:=mu c;have HT:=ae hT;have hNb:(N:Int)*256+(c.toNat:Int)<9223372036854775808:=by omega
   clear hT hle;have ej:((q+1:Nat):Int)-1=(q:Int):=by omega
   rw[ej];go_wp2_with fail;exact⟨⟨q,by omega,rfl,by rw[HT.out];congr 1;omega⟩,by simp[intOf]<;>omega⟩
  ·obtain rfl:j=0:=by omega
   rw[qd];go_wp2_with fail;go_ret2
   exact⟨rfl,rfl⟩
theorem Vz (v:Value) (bs:List UInt8) (w:World) (hv:BytesIn w w.heap.size v bs) (hl:bs.length=8) (hs:9223372036854775808≤aW bs) :
 Calls Tryz.prog 113 #[v] w fun e w'=>e=.returned (.tuple #[.int .i64 0,.bool false])∧w=w':=by
 obtain⟨h1,a,cap,rfl,hcap,h2⟩:=hv;have tY:bs[7]? = some (bs[7]'(by omega)):=aY (by omega);obtain⟨g,off,rfl,Gi,hc7⟩:=h2 7 _ tY;have h127:(127:Int)<((bs[7]'(by omega)).toNat:Int):=by have:=FM bs _ hl tY;omega
 generalize bs[7]'(by omega)=c7 at *;have h7:(7:Int)<(bs.length:Int):=by omega
 have hbe:((bs.length:Int) == 8)=true:=by simp;omega
 have hw:dG bs.length=true:=by rw[hl];rfl
 clear tY hl;go_enter DN,DJ
 go_wp2_with fail;refine(su _ _).mono ?_;rintro e w1 ⟨rfl,rfl⟩;rw[hw];go_wp2_with fail;go_ret2
 exact⟨rfl,rfl⟩
theorem VA (v:Value) (bs:List UInt8) (w:World) (hv:BytesIn w w.heap.size v bs) :
 Calls Tryz.prog 113 #[v] w fun e w'=>e=.returned (.tuple #[.int .i64 (if iN bs then (aW bs:Int) else 0),.bool (iN bs)])∧w=w':=by
 unfold iN;cases hw:dG bs.length
 ·exact MJ v bs w hv hw
 ·by_cases hs:aW bs<9223372036854775808
  ·rw[cT hs];by_cases hl:bs.length=8
   ·exact aat v bs w hv hw hs hl
   ·exact aau v bs w hv hw hs hl
  ·rw[cB hs];have hl:bs.length=8:=by
    have h1:=iJ bs;have h2:bs.length=2∨bs.length=4∨bs.length=8:=by simp[dG]at hw;omega
    rcases h2 with h2 | h2 | h2
    ·rw[h2]at h1;have:(256:Nat)^2=65536:=by decide
     omega
    ·rw[h2]at h1;have:(256:Nat)^4=4294967296:=by decide
     omega
    ·exact h2
   exact Vz v bs w hv hl (by omega)
theorem eP (g off n:Nat):(⟨g,off,none⟩:Addr).add n=⟨g,off+n,none⟩:=Iu g off n
theorem BytesIn.cut {W:World} {B:Nat} {a:Option Addr} {cap:Nat} {l:List UInt8} (h:BytesIn W B (.slice a l.length cap) l) (i j:Nat) (hij:i≤j) (hj:j≤l.length) (hc:l.length≤cap) :
 BytesIn W B (.slice (if cap=i then a else a.map (·.add i)) (j-i) (cap-i)) ((l.drop i).take (j-i)):=by
 obtain⟨h1,a',cap',e,h3,h4⟩:=h;injection e with ea el ec
 subst ea;have hl:((l.drop i).take (j-i)).length=j-i:=by rw[bD,c_];omega
 refine⟨by rw[hl];omega,_,_,by rw[hl],by rw[hl];omega,fun k c hk=>?_⟩;have hkl:k<j-i:=by
  rcases bZ k (j-i)with hh | hh
  ·exact hh
  ·rw[dh (by rw[hl];exact hh)]at hk;cases hk
 have hk2:l[i+k]? = some c:=by
  rw[dU,aB hkl,kL]at hk;exact hk
 obtain⟨g,off,rfl,hg,hcell⟩:=h4 (i+k) c hk2;have hne:¬cap=i:=by omega
 rw[aG hne];refine⟨g,off+i,by rw[tP,eP],hg,?_⟩;rw[nA];exact hcell
theorem BytesIn.from_ {W:World} {B:Nat} {a:Option Addr} {cap:Nat} {l:List UInt8} (h:BytesIn W B (.slice a l.length cap) l) (i:Nat) (hi:i≤l.length) (hc:l.length≤cap) :
 BytesIn W B (.slice (if cap=i then a else a.map (·.add i)) (l.length-i) (cap-i)) (l.drop i):=by
 have:=h.cut i l.length hi (ai _) hc;rwa [dg (by simp)]at this
theorem BytesIn.upto {W:World} {B:Nat} {a:Option Addr} {cap:Nat} {l:List UInt8} (h:BytesIn W B (.slice a l.length cap) l) (j:Nat) (hj:j≤l.length) (hc:l.length≤cap) :
 BytesIn W B (.slice a j cap) (l.take j):=by
 obtain⟨h1,a',cap',e,h3,h4⟩:=h;injection e with ea el ec
 subst ea;have hl:(l.take j).length=j:=by rw[bD];omega
 refine⟨by rw[hl];omega,_,_,by rw[hl],by rw[hl];omega,fun k c hk=>h4 k c ?_⟩;rw[dU]at hk;split at hk
 ·exact hk
 ·cases hk
end Go.Proofs.YtdpniceapmikpaaGreat
namespace Go.Proofs
open Go.Shelf
def Tryz.laysSlE33_f43_ren:Go.Shelf.Ren:=⟨fun | 33=>43 | n=>n,fun | 22=>24 | 23=>3 | 4=>4 | 3=>3 | 0=>0 | n=>n,fun | n=>n⟩
theorem Tryz.laysSlE33_f43:Go.Proofs.SlLaysE.n33 Tryz.prog Tryz.laysSlE33_f43_ren := {
 mixed:=by kernel_rfl
 f33:=⟨Tryz.f43.name,by decide,Tryz.func43.trans (congrArg some (by kernel_rfl))⟩
 t0:=Tryz.underlying0
 a0:=Tryz.isAgg0
 z0:=Tryz.sizeOf0
 v0:=Tryz.zeroValue0
 t3:=Tryz.underlying3
 a3:=Tryz.isAgg3
 z3:=Tryz.sizeOf3
 v3:=Tryz.zeroValue3
 t4:=Tryz.underlying4
 a4:=Tryz.isAgg4
 z4:=Tryz.sizeOf4
 v4:=Tryz.zeroValue4
 t22:=Tryz.underlying24
 a22:=Tryz.isAgg24
 z22:=Tryz.sizeOf24
 v22:=Tryz.zeroValue24
 a23:=Tryz.isAgg3
 z23:=Tryz.sizeOf3}
open Go.RowKit Go.Lib in
theorem Tryz.slices_Equal {α:Type} [Inhabited α] (enc:α→Value) (eq:α→α→Bool) (hne:NeqAt Tryz.prog 3 enc eq) (b1 o1 n c b2 o2 m d:Nat) (xs ys:List α) (w:World) (hx:n≤xs.length) (hy:m≤ys.length) (hbig:n≤9223372036854775807) (hbig2:m≤9223372036854775807) (hc1:∀j,j<xs.length→w.cell? ⟨b1,o1+j,none⟩=some (enc xs[j]!)) (hc2:∀j,j<ys.length→w.cell? ⟨b2,o2+j,none⟩=some (enc ys[j]!)) :
 Calls Tryz.prog 43 #[.slice (some ⟨b1,o1,none⟩) n c,.slice (some ⟨b2,o2,none⟩) m d] w fun e w'=>e=.returned (.bool (Lib.allEq eq (xs.take n) (ys.take m)))∧∃q,w'=w.drewN q:=AnyE.slices_Equal Tryz.laysSlE33_f43 enc eq hne b1 o1 n c b2 o2 m d xs ys w hx hy hbig hbig2 hc1 hc2
def Tryz.laysSlH6_f127_ren:Go.Shelf.Ren:=⟨fun | 6=>127 | n=>n,fun | 22=>24 | 23=>3 | 25=>156 | 3=>3 | 0=>0 | 4=>4 | n=>n,fun | n=>n⟩
theorem Tryz.laysSlH6_f127:Go.Proofs.SlLaysH.n6 Tryz.prog Tryz.laysSlH6_f127_ren := {
 mixed:=by kernel_rfl
 f6:=⟨Tryz.f127.name,by decide,Tryz.func127.trans (congrArg some (by kernel_rfl))⟩
 t0:=Tryz.underlying0
 a0:=Tryz.isAgg0
 z0:=Tryz.sizeOf0
 v0:=Tryz.zeroValue0
 t3:=Tryz.underlying3
 a3:=Tryz.isAgg3
 z3:=Tryz.sizeOf3
 v3:=Tryz.zeroValue3
 t4:=Tryz.underlying4
 a4:=Tryz.isAgg4
 z4:=Tryz.sizeOf4
 v4:=Tryz.zeroValue4
 t22:=Tryz.underlying24
 a22:=Tryz.isAgg24
 z22:=Tryz.sizeOf24
 v22:=Tryz.zeroValue24
 a23:=Tryz.isAgg3
 z23:=Tryz.sizeOf3
 t25:=Tryz.underlying156
 a25:=Tryz.isAgg156
 z25:=Tryz.sizeOf156
 v25:=Tryz.zeroValue156}
open Go.RowKit Go.Lib in
theorem Tryz.slices_IndexFunc {α:Type} [Inhabited α] (enc:α→Value) (p:α→Bool) (g:Nat) (lb:Array Value) (eg:∀args w,(callFunc g args).run Tryz.prog w=.ok (.enter g args) w) (b off n c:Nat) (zs:List α) (w:World) (hp:PredAt Tryz.prog g lb enc p w) (hz:n≤zs.length) (hbig:n≤9223372036854775807) (hc:∀j,j<zs.length→w.cell? ⟨b,off+j,none⟩=some (enc zs[j]!)) :
 Calls Tryz.prog 127 #[.slice (some ⟨b,off,none⟩) n c,.func (.func g) #[] lb] w fun e w'=>e=.returned (.int .i64 (Lib.idxBy (fun _ y=>p y) (zs.take n) default))∧∃q,w'=w.drewN q:=AnyE.slices_IndexFunc Tryz.laysSlH6_f127 enc p g lb eg b off n c zs w hp hz hbig hc
open Go.RowKit Go.Lib in
theorem Tryz.slices_IndexFunc_empty {α:Type} [Inhabited α] (a:Option Addr) (c:Nat) (fv:Value) (w:World) :
 Calls Tryz.prog 127 #[.slice a 0 c,fv] w fun e w'=>e=.returned (.int .i64 (-1))∧w'=w:=AnyE.slices_IndexFunc_empty Tryz.laysSlH6_f127 a c fv w
def Tryz.laysSlH8_f78_ren:Go.Shelf.Ren:=⟨fun | 8=>78 | 6=>127 | n=>n,fun | 22=>24 | 23=>3 | 25=>156 | 4=>4 | 3=>3 | 0=>0 | n=>n,fun | n=>n⟩
theorem Tryz.laysSlH8_f78:Go.Proofs.SlLaysH.n8 Tryz.prog Tryz.laysSlH8_f78_ren := {
 mixed:=by kernel_rfl
 f6:=⟨Tryz.f127.name,by decide,Tryz.func127.trans (congrArg some (by kernel_rfl))⟩
 f8:=⟨Tryz.f78.name,by decide,Tryz.func78.trans (congrArg some (by kernel_rfl))⟩
 t0:=Tryz.underlying0
 a0:=Tryz.isAgg0
 z0:=Tryz.sizeOf0
 v0:=Tryz.zeroValue0
 t3:=Tryz.underlying3
 a3:=Tryz.isAgg3
 z3:=Tryz.sizeOf3
 v3:=Tryz.zeroValue3
 t4:=Tryz.underlying4
 a4:=Tryz.isAgg4
 z4:=Tryz.sizeOf4
 v4:=Tryz.zeroValue4
 t22:=Tryz.underlying24
 a22:=Tryz.isAgg24
 z22:=Tryz.sizeOf24
 v22:=Tryz.zeroValue24
 a23:=Tryz.isAgg3
 z23:=Tryz.sizeOf3
 t25:=Tryz.underlying156
 a25:=Tryz.isAgg156
 z25:=Tryz.sizeOf156
 v25:=Tryz.zeroValue156}
open Go.RowKit Go.Lib in
theorem Tryz.slices_ContainsFunc {α:Type} [Inhabited α] (enc:α→Value) (p:α→Bool) (g:Nat) (lb:Array Value) (eg:∀args w,(callFunc g args).run Tryz.prog w=.ok (.enter g args) w) (b off n c:Nat) (zs:List α) (w:World) (hp:PredAt Tryz.prog g lb enc p w) (hz:n≤zs.length) (hbig:n≤9223372036854775807) (hc:∀j,j<zs.length→w.cell? ⟨b,off+j,none⟩=some (enc zs[j]!)) :
 Calls Tryz.prog 78 #[.slice (some ⟨b,off,none⟩) n c,.func (.func g) #[] lb] w fun e w'=>e=.returned (.bool ((zs.take n).any p))∧∃q,w'=w.drewN q:=AnyE.slices_ContainsFunc Tryz.laysSlH8_f78 enc p g lb eg b off n c zs w hp hz hbig hc
open Go.RowKit Go.Lib in
theorem Tryz.slices_ContainsFunc_empty {α:Type} [Inhabited α] (a:Option Addr) (c:Nat) (fv:Value) (w:World) :
 Calls Tryz.prog 78 #[.slice a 0 c,fv] w fun e w'=>e=.returned (.bool false)∧w'=w:=AnyE.slices_ContainsFunc_empty Tryz.laysSlH8_f78 a c fv w
def Tryz.laysnb115_ren:Go.Shelf.Ren:=⟨fun | 115=>45 | n=>n,fun | 37=>26 | 4=>4 | 9=>9 | 5=>5 | n=>n,fun | n=>n⟩
theorem Tryz.laysnb115:Go.Proofs.Lays.nb115 Tryz.prog Tryz.laysnb115_ren := {
 mixed:=by kernel_rfl
 f115:=Tryz.func45.trans (congrArg some (by kernel_rfl))
 t4:=Tryz.underlying4
 a4:=Tryz.isAgg4
 z4:=Tryz.sizeOf4
 v4:=Tryz.zeroValue4
 t9:=Tryz.underlying9
 a9:=Tryz.isAgg9
 z9:=Tryz.sizeOf9
 v9:=Tryz.zeroValue9
 t37:=Tryz.underlying26
 a37:=Tryz.isAgg26
 z37:=Tryz.sizeOf26
 v37:=Tryz.zeroValue26
 t5:=Tryz.underlying5
 a5:=Tryz.isAgg5
 z5:=Tryz.sizeOf5
 v5:=Tryz.zeroValue5}
theorem Tryz.bytes_Equal_all (p1 p2:Option Addr) (n c m d:Nat) (xs ys:List Int) (w:World) (hx:xs.length=n) (hy:ys.length=m) (h1:Lib.BytesIn w p1 n xs) (h2:Lib.BytesIn w p2 m ys) :
 Calls Tryz.prog 45 #[.slice p1 n c,.slice p2 m d] w fun e w'=>e=.returned (.bool (Lib.bytesOf xs == Lib.bytesOf ys))∧w'=w:=Any.bytes_Equal_all Tryz.laysnb115 p1 p2 n c m d xs ys w hx hy h1 h2
def Tryz.lays115_ren:Go.Shelf.Ren:=⟨fun | 115=>45 | n=>n,fun | 37=>26 | 4=>4 | 9=>9 | 5=>5 | n=>n,fun | n=>n⟩
theorem Tryz.lays115:Go.Proofs.Lays.n115 Tryz.prog Tryz.lays115_ren := {
 mixed:=by kernel_rfl
 f115:=Tryz.func45.trans (congrArg some (by kernel_rfl))
 t4:=Tryz.underlying4
 a4:=Tryz.isAgg4
 z4:=Tryz.sizeOf4
 v4:=Tryz.zeroValue4
 t9:=Tryz.underlying9
 a9:=Tryz.isAgg9
 z9:=Tryz.sizeOf9
 v9:=Tryz.zeroValue9
 t37:=Tryz.underlying26
 a37:=Tryz.isAgg26
 z37:=Tryz.sizeOf26
 v37:=Tryz.zeroValue26}
theorem Tryz.bytes_Equal (v1 v2:Value) (xs ys:List Int) (w:World) (h1:(convert 26 9 v1).run Tryz.prog w=.ok (.string (strOfNums xs)) w) (h2:(convert 26 9 v2).run Tryz.prog w=.ok (.string (strOfNums ys)) w) :
 Calls Tryz.prog 45 #[v1,v2] w fun e w'=>e=.returned (.bool (Lib.bytesOf xs == Lib.bytesOf ys))∧w'=w:=Any.bytes_Equal Tryz.lays115 v1 v2 xs ys w h1 h2
def Tryz.lays84_f166_ren:Go.Shelf.Ren:=⟨fun | 4=>166 | n=>n,fun | 22=>26 | 25=>5 | 3=>3 | 4=>4 | 9=>9 | 20=>20 | 0=>0 | n=>n,fun | n=>n⟩
theorem Tryz.lays84_f166:Go.Proofs.Lays8.n4 Tryz.prog Tryz.lays84_f166_ren := {
 mixed:=by kernel_rfl
 f4:=⟨Tryz.f166.name,by decide,Tryz.func166.trans (congrArg some (by kernel_rfl))⟩
 t0:=Tryz.underlying0
 a0:=Tryz.isAgg0
 z0:=Tryz.sizeOf0
 v0:=Tryz.zeroValue0
 t3:=Tryz.underlying3
 a3:=Tryz.isAgg3
 z3:=Tryz.sizeOf3
 v3:=Tryz.zeroValue3
 t4:=Tryz.underlying4
 a4:=Tryz.isAgg4
 z4:=Tryz.sizeOf4
 v4:=Tryz.zeroValue4
 t9:=Tryz.underlying9
 a9:=Tryz.isAgg9
 z9:=Tryz.sizeOf9
 v9:=Tryz.zeroValue9
 t20:=Tryz.underlying20
 a20:=Tryz.isAgg20
 z20:=Tryz.sizeOf20
 v20:=Tryz.zeroValue20
 t22:=Tryz.underlying26
 a22:=Tryz.isAgg26
 z22:=Tryz.sizeOf26
 v22:=Tryz.zeroValue26}
open Go.RowKit Go.Lib in
theorem Tryz.slices_Grow_grow (i0:TypeInfo) (z:Value) (hi0:Tryz.prog.info? 5=some i0) (hz0:i0.zero=some z) (hs0:0<i0.size) (base:Option Addr) (l c n:Nat) (cs:List Value) (w:World) (hlc:l≤c) (hroom:c<l+n) (hbig:(l+n)*i0.bytes≤140737488355328) (h63:l+n≤4611686018427387904) (hcl:cs.length=c*i0.size) (hnil:base=none→c=0) (hcs:∀a,base=some a→∀j v,cs[j]? = some v→w.cell? (a.add j)=some v) :
 Calls Tryz.prog 166 #[.slice base l c,.int .i64 n] w fun e w'=>e=.returned (.slice (some ⟨w.heap.size,0,none⟩) l (grownCap w (l+n) c 5))∧w'=w.drew.alloc (.cells (cs.toArray++Builtin.zeroCells z.cells (l+n-c)++Builtin.zeroCells z.cells (grownCap w (l+n) c 5-(l+n))) 5):=Any8.slices_Grow_grow Tryz.lays84_f166 i0 z hi0 hz0 hs0 base l c n cs w hlc hroom hbig h63 hcl hnil hcs
open Go.RowKit Go.Lib in
theorem Tryz.slices_Grow_room (base:Option Addr) (l c n:Nat) (w:World) (hlc:l≤c) (hc63:c≤9223372036854775807) (hn63:n≤9223372036854775807) (hroom:l+n≤c) :
 Calls Tryz.prog 166 #[.slice base l c,.int .i64 n] w fun e w'=>e=.returned (.slice base l c)∧w'=w:=Any8.slices_Grow_room Tryz.lays84_f166 base l c n w hlc hc63 hn63 hroom
end Go.Proofs
namespace Go.Proofs.YtdpniceapmikpaaGreat
open Go.RowKit
theorem tZ (w:World) {base n:Nat} {v:Value} {xs:List Value} (hown:w.ownsRow base 5 1 v n xs) (ty:TypeId) (c:Nat) :
 (Builtin.append_ #[26,26] ty #[v,.slice none 0 c]).run Tryz.prog w=.ok v w:=by
 obtain⟨i0,hi0,hz0,hz1,hz2⟩:=iH jg;rcases hown.2 with ⟨rfl,rfl⟩ | ⟨g,cap,cur,rfl,_,_,hnc,_⟩
 ·simp[Builtin.append_,run_underlying Tryz.underlying26,sizeOf,typeInfo,hi0,Builtin.lenOf,Builtin.firstCells]
 ·simp[Builtin.append_,run_underlying Tryz.underlying26,sizeOf,typeInfo,hi0,Builtin.lenOf,Builtin.firstCells,hnc,storeCells]
theorem CT (w:World) {base B n:Nat} {v:Value} {xs:List Value} (hown:w.ownsRow base 5 1 v n xs) (ty:TypeId) (a:Option Addr) (cap:Nat) (l:List UInt8)
 (hu:BytesIn w B (.slice a l.length cap) l) (hbytes:n+l.length≤140737488355328) (hbase:base≤w.heap.size) :
 ∃v' w',(Builtin.append_ #[26,26] ty #[v,.slice a l.length cap]).run Tryz.prog w=.ok v' w'∧w'.ownsRow base 5 1 v' (n+l.length) (xs++l.map aj)∧w.grownBy w' v.ownBlock:=by
 obtain⟨i0,hi0,hz0,hz1,hz2⟩:=iH jg;obtain⟨hm,a',cap',e,hcap,hc⟩:=hu;injection e with e1 e2 e3
 subst e1;cases a with
 | none =>
  have hl:l=[]:=by
   cases l with
   | nil=>rfl
   | cons c l =>
    obtain⟨g,off,h,_⟩:=hc 0 c rfl;cases h
  subst hl;exact⟨v,w,tZ w hown ty cap,by simpa using hown,IE w _⟩
 | some ad =>
  have hnews:∀j u,(l.map aj)[j]? = some u→w.cell? (ad.add j)=some u:=by
   intro j u hj;rw[dV]at hj;obtain⟨c,hcj,rfl⟩:=iE.1 hj;obtain⟨g,off,h,_,hcell⟩:=hc j c hcj;obtain rfl:=gH h;rw[eP];exact hcell
  obtain⟨v',w',hrun,h2,h3,_,_⟩:=IG (P:=Tryz.prog) w base 26 ty 5 i0 (.int .u8 0) 1 1 eU hi0 hz0 hz1 hz2 rfl (by omega) v n xs hown ad l.length cap (l.map aj) (by simp) hnews
   (by intro u hu;obtain⟨c,_,rfl⟩:=dI.1 hu;rfl) (by unfold maxLen;omega) (by omega) hbase
  exact⟨v',w',hrun,h2,h3⟩
theorem bm (w:World) {ops:Array Oper} {rest:List Oper} {o:Oper} {a:Act} {Q:Exit→Act→World→Prop} (hgd:o.guard=none) (s x:Operand)
 (ho:o.op=.call {callee:=.builtin .append,args:=#[s,x],argTypes:=#[26,26]})
 (base B n:Nat) (v:Value) (xs:List Value) (hs:a.eval s=v) (hown:w.ownsRow base 5 1 v n xs) (A:Option Addr) (m cap:Nat) (l:List UInt8) (hx:a.eval x=.slice A m cap) (hm:l.length=m)
 (hu:BytesIn w B (.slice A m cap) l) (hbytes:n+m≤140737488355328) (hbase:base≤w.heap.size)
 (h:∀v' w',w'.ownsRow base 5 1 v' (n+m) (xs++l.map aj)→w.grownBy w' v.ownBlock→wpList Tryz.prog ops Q rest (a.put o.dst v') w'):wpList Tryz.prog ops Q (o::rest) a w:=by
 subst hm;refine kP hgd fun _ hK=>?_;obtain⟨v',w',hrun,h2,h3⟩:=CT w hown o.type A cap l hu hbytes hbase;unfold Oper.wp execOp;simp only[ho,resolve,invoke,builtin,Sem.run_bind,Sem.run_pure,Result.andThen_ok,List.map_toArray,List.map_cons,List.map_nil,hs,hx,hrun];exact hK _ _ (h v' w' h2 h3)
def xU (W:World) (B:Nat) (v:Value) (ls:List (List UInt8)):Prop :=
 ∃g off cap,v=.slice (some ⟨g,off,none⟩) ls.length cap∧g<B∧∀i l,ls[i]? = some l→∃a c,W.cell? ⟨g,off+i,none⟩=some (.slice a l.length c)∧BytesIn W B (.slice a l.length c) l
theorem BytesIn.aav {W:World} {B:Nat} {a:Option Addr} {n c:Nat} {l:List UInt8} (h:BytesIn W B (.slice a n c) l):l.length=n∧n≤c:=by
 obtain⟨_,a',c',e,h3,_⟩:=h;injection e with e1 e2 e3
 omega
theorem Cd (ls:List (List UInt8)) (i:Nat) (l:List UInt8) (h:ls[i]? = some l):(ls.take (i+1)).flatten=(ls.take i).flatten++l:=by
 rw[gG,h];simp
theorem Gj (ls:List (List UInt8)) (i:Nat):(ls.take i).flatten.length≤ls.flatten.length:=by
 have h:ls.flatten=(ls.take i).flatten++(ls.drop i).flatten:=by rw[←List.flatten_append,rP]
 rw[h,bX];omega
theorem VB (n:Nat) (w:World) (hn:n≤140737488355328):Calls Tryz.prog 166 #[.slice none 0 0,.int .i64 n] w fun e w' =>
 ∃v,e=.returned v∧w'.ownsRow w.heap.size 5 1 v 0 []∧Below w.heap.size w w':=by
 obtain⟨i0,hi0,hz0,hz1,hz2⟩:=iH jg;by_cases h0:n=0
 ·subst h0;refine(Tryz.slices_Grow_room none 0 0 0 w (by omega) (by omega) (by omega) (by omega)).mono ?_;rintro e w' ⟨rfl,rfl⟩;exact⟨_,rfl,km _ _ _ _,ax _ _⟩
 ·refine(Tryz.slices_Grow_grow i0 _ hi0 hz0 (by omega) none 0 0 n [] w (by omega) (by omega) (by rw[hz2];omega) (by omega) (by simp) (fun _=>rfl) (fun a h=>by cases h)).mono ?_;rintro e w' ⟨rfl,rfl⟩;have hg:=grownCap_ge w (0+n) 0 5;have hg2:=grownCap_le_maxLen w (0+n) 0 5 (by unfold maxLen;omega);refine⟨_,rfl,?_,(ax _ _).drew.alloc (ai _) _⟩;refine⟨rfl,.inr ⟨w.heap.size,grownCap w (0+n) 0 5,_,rfl,ai _,bC w.drew _,by omega,hg2,?_,by simp⟩⟩;simp only[Nat.zero_add]at hg ⊢;simp[size_zeroCells,Value.cells];omega
theorem OW (v:Value) (ls:List (List UInt8)) (w:World) (hv:xU w w.heap.size v ls) (ht:ls.flatten.length≤1073741824) (hn:ls.length≤1073741824) :
 Calls Tryz.prog 165 #[v] w fun e w'=>∃u,e=.returned u∧w'.ownsRow w.heap.size 5 1 u ls.flatten.length (ls.flatten.map aj)∧Below w.heap.size w w':=by
 obtain⟨g,off,cap,rfl,hg,hc⟩:=hv;go_enter Tryz.func165,Tryz.ntmps165
 go_wp2_with fail;go_loopw [3,11] (fun s i wr=>∃j:Nat,j≤ls.length∧i=.int .i64 j∧s=.int .i64 (((ls.take j).flatten.length:Nat):Int)∧w=wr) (fun _ i _=>ls.length-(intOf i).toNat)
 case atStart=>exact⟨0,by omega,rfl,rfl,rfl⟩
 case round =>
  obtain⟨j,hj,rfl,rfl,rfl⟩:=hrel;by_cases hlt:j<ls.length
  ·obtain⟨a,c,hcell,hb⟩:=hc j _ (aY hlt);have hT:=Cd ls j _ (aY hlt);have hle:=Gj ls (j+1);rw[hT,bX]at hle;have HT:=ae (show(ls.take (j+1)).flatten.length=(ls.take j).flatten.length+(ls[j]'hlt).length by rw[hT,bX]);clear hT hc;generalize ls[j]'hlt=l at *;generalize (ls.take j).flatten.length=N at *;go_wp2_with fail;refine⟨⟨j+1,by omega,by go_num,?_,trivial⟩,by simp[intOf]<;>omega⟩;rw[HT.out];congr 1
  ·obtain rfl:j=ls.length:=by omega
   rw[iG];obtain⟨T,hT⟩:∃T,T=ls.flatten.length:=⟨_,rfl⟩;rw[←hT]at ht ⊢;have HT:=ae hT;clear hT;go_wp2_with fail;refine(VB T w (by omega)).mono ?_;rintro e w1 ⟨u0,rfl,hO,hB⟩;have HO:=ae hO;clear hO;have hc1:∀i l,ls[i]? = some l→∃a c,w1.cell? ⟨g,off+i,none⟩=some (.slice a l.length c)∧BytesIn w1 w.heap.size (.slice a l.length c) l:=by
    intro i l h;obtain⟨a,c,h1,h2⟩:=hc i l h;exact⟨a,c,(hB.cell (p:=⟨g,off+i,none⟩) hg).trans h1,h2.below hB (ai _)⟩
   have HC0:=ae hc;have HC:=ae hc1;clear hc hc1;go_wp2_with fail;go_loopw [6,27] (fun u i wx=>∃j:Nat,j≤ls.length∧i=.int .i64 j∧wx.ownsRow w.heap.size 5 1 u (ls.take j).flatten.length ((ls.take j).flatten.map aj)∧Below w.heap.size w wx) (fun _ i _=>ls.length-(intOf i).toNat)
   case atStart=>exact⟨0,by omega,rfl,by simpa using HO.out,hB⟩
   case round =>
    clear hB HO HC;obtain⟨j,hj,rfl,hO,hB⟩:=hrel;by_cases hlt:j<ls.length
    ·obtain⟨a,c,hcell0,hb0⟩:=HC0.out j _ (aY hlt);have hcell:=(hB.cell (p:=⟨g,off+j,none⟩) hg).trans hcell0;have hb:=hb0.below hB (ai _);have hT:=Cd ls j _ (aY hlt);have hle:=Gj ls (j+1);rw[hT,bX]at hle;have HTL:=ae (show(ls.take (j+1)).flatten.length=(ls.take j).flatten.length+(ls[j]'hlt).length by rw[hT,bX]);have HTM:=ae (show(ls.take (j+1)).flatten.map aj=(ls.take j).flatten.map aj++(ls[j]'hlt).map aj by rw[hT,cK]);rw[←HT.out]at hle;have hsz:=hB.size;have HO:=ae hO;clear hT hcell0 hb0 hO;generalize ls[j]'hlt=l at *;generalize (ls.take j).flatten.length=N at *;have hbl:=ae hb;clear hb;go_wp2_with (at_builtin;refine bm _ rfl _ _ rfl w.heap.size w.heap.size N _ _ rfl HO.out a l.length c l rfl rfl hbl.out (by omega) hsz ?_;intro u2 w3 hO3 hg3)
     refine⟨⟨j+1,by omega,by go_num,?_,?_⟩,by simp[intOf]<;>omega⟩
     ·rw[HTL.out,HTM.out];exact hO3
     ·exact hB.grown hg3 hsz (fun r hr=>(HO.out.lt r hr).1)
    ·obtain rfl:j=ls.length:=by omega
     rw[iG]at hO;go_wp2_with fail;go_ret
     exact⟨_,rfl,hO,hB⟩
theorem Ec (v:Value) (ls:List (List UInt8)) (w:World) (hv:xU w w.heap.size v ls) (ht:ls.flatten.length≤1073741824) (hn:ls.length≤1073741824) :
 Calls Tryz.prog 141 #[v] w fun e w'=>∃u,e=.returned u∧w'.ownsRow w.heap.size 5 1 u ls.flatten.length (ls.flatten.map aj)∧Below w.heap.size w w':=by
 have hv2:=hv;obtain⟨g,off,cap,rfl,hg,hc⟩:=hv;have HV:=ae hv2;clear hv2 hc;go_enter Tryz.func141,Tryz.ntmps141
 go_wp2_with fail;refine(OW _ ls w HV.out ht hn).mono ?_;rintro e w1 ⟨u,rfl,hO,hB⟩;have HO:=ae hO;clear hO;go_wp2_with fail;go_ret
 exact⟨_,rfl,HO.out,hB⟩
def dQ (l:List UInt8):List UInt8:=l++leB (dJ l).toNat 4
theorem qo (l:List UInt8):(dQ l).length=l.length+4:=by simp[dQ,bJ]
theorem FN (r:List UInt8):leB (aW r) r.length=r:=by
 apply m_;intro i;by_cases hi:i<r.length
 ·rw[aY hi];have h:∀ (r:List UInt8) (i:Nat) (hi:i<r.length),bQ (aW r) i=r[i]:=by
   intro r;induction r with
   | nil=>intro i hi;simp at hi
   | cons c r ih =>
    intro i hi;have hc:=mu c;cases i with
    | zero =>
     unfold bQ aW;have:(c.toNat+256*aW r)/256^0 % 256=c.toNat:=by simp<;>omega
     rw[this];simp
    | succ i =>
     have:=ih i (by simpa using hi);simp only[List.getElem_cons_succ];rw[←this];unfold bQ;have e:(aW (c::r))/256^(i+1)=aW r/256^i:=by
      rw[tR,qg,←wy];congr 1
      simp[aW];try omega
     rw[e]
  simp[leB,hi,h r i hi]
 ·rw[dh (by rw[bJ];omega),dh (by omega)]
theorem NH (n k:Nat):aW (leB n k)=n % 256^k:=by
 induction k with
 | zero=>simp[leB,aW,Nat.mod_one]
 | succ k ih =>
  have hs:leB n (k+1)=leB n k++[bQ n k]:=by simp[leB,List.range_succ]
  rw[hs,J5,bJ,ih];have hb:(bQ n k).toNat=n/256^k % 256:=by
   have:=fW n k;omega
  rw[hb,tR,Nat.mod_mul,qg]
theorem pK (l:List UInt8):(dJ l).toNat<4294967296:=(dJ l).isLt
def cZ (l:List UInt8):Bool:=decide (4≤l.length)&&(aW (l.drop (l.length-4)) == (dJ (l.take (l.length-4))).toNat)
theorem MK (l:List UInt8) (h:4≤l.length):cZ l=true↔dQ (l.take (l.length-4))=l:=by
 have hd:(l.drop (l.length-4)).length=4:=by rw[c_];omega
 unfold cZ dQ;rw[cT h,fx,tU];constructor
 ·intro e;rw[←e];have:=FN (l.drop (l.length-4));rw[hd]at this;rw[this,rP]
 ·intro e;have e2:l.take (l.length-4)++leB (dJ (l.take (l.length-4))).toNat 4=l.take (l.length-4)++l.drop (l.length-4):=by rw[e,rP]
  have e3:=List.append_cancel_left e2;rw[←e3,NH];exact sg (pK _)
theorem CU {W:World} {B C n:Nat} {e:TypeId} {v:Value} {xs:List Value} (h:W.ownsRow B e 1 v n xs) (hC:C≤B):W.ownsRow C e 1 v n xs:=by
 refine⟨h.1,?_⟩;rcases h.2 with hn | ⟨g,cap,cur,h1,h2,h3⟩
 ·exact .inl hn
 ·exact .inr ⟨g,cap,cur,h1,by omega,h3⟩
theorem J9 (v:Value) (l:List UInt8) (w:World) (hv:BytesIn w w.heap.size v l) (hl:l.length≤536870912) :
 Calls Tryz.prog 105 #[v] w fun e w'=>∃u,e=.returned u∧w'.ownsRow w.heap.size 5 1 u (l.length+4) ((dQ l).map aj)∧Below w.heap.size w w':=by
 have hv2:=hv;obtain⟨h1,a,cap,rfl,h2⟩:=hv;have HV:=ae hv2;clear hv2 h2;go_enter Tryz.func105,Tryz.ntmps105
 go_wp2_with fail;refine(rf _ l w HV.out).mono ?_;rintro e w1 ⟨rfl,hb1⟩;have hc:=pK l;obtain⟨C,hC⟩:∃C,C=(dJ l).toNat:=⟨_,rfl⟩;unfold gM;rw[←hC]at hc ⊢;have HC:=ae hC;clear hC;go_wp2_with fail;refine(FK C 4 w1 (by omega) (by intro _;exact zG (by omega)) (by omega)).mono ?_;rintro e w2 ⟨u,rfl,hO,hb2⟩;have hu:=BytesIn.own hO;obtain⟨hu1,a2,c2,rfl,hu2⟩:=id hu;have vN:=hb1.trans (hb2.mono hb1.size);have HU:=ae hu;have hvw:=ae (HV.out.below vN (ai _));clear hO hu hu2;have BI:(leB C 4).length=4:=bJ _ _;rw[BI]at HU ⊢;go_wp2_with fail;have hsz:=vN.size;have HS:xU (w2.alloc (.cells #[.slice a l.length cap,.slice a2 4 c2] 26)) (w2.alloc (.cells #[.slice a l.length cap,.slice a2 4 c2] 26)).heap.size (.slice (some ⟨w2.heap.size,0,none⟩) 2 2) [l,leB C 4]:=by
  have hbk:=ah.new w2 26 #[.slice a l.length cap,.slice a2 4 c2];refine⟨w2.heap.size,0,2,rfl,hbk.lt,fun i x hx=>?_⟩;have hnew:Below w2.heap.size w2 (w2.alloc (.cells #[.slice a l.length cap,.slice a2 4 c2] 26)):=(ax _ _).alloc (ai _) _;match i,hx with
  | 0,hx =>
   obtain rfl:l=x:=by simpa using hx
   exact⟨a,cap,hbk.ag 0 rfl,(hvw.out.below hnew hsz).mono (by simp;omega)⟩
  | 1,hx =>
   obtain rfl:leB C 4=x:=by simpa using hx
   rw[BI];exact⟨a2,c2,hbk.ag 1 rfl,(HU.out.below hnew (ai _)).mono (by simp)⟩
  | i+2,hx=>simp at hx
 refine(Ec _ _ _ HS (by simp[BI];omega) (by simp)).mono ?_;rintro e w3 ⟨u3,rfl,hO3,hb3⟩;have HO:=ae hO3;have hsz2:w.heap.size≤(w2.alloc (.cells #[.slice a l.length cap,.slice a2 4 c2] 26)).heap.size:=by simp;omega
 clear hO3 HS;go_wp2_with fail;go_ret
 refine⟨_,rfl,?_,?_⟩
 ·have h:=HO.out;have e1 : [l,leB C 4].flatten=dQ l:=by simp[dQ,HC.out]
  rw[e1,qo]at h;exact CU h hsz2
 ·exact(vN.alloc hsz _).trans (hb3.mono (by simp;omega))
theorem J_ (v:Value) (l:List UInt8) (w:World) (hv:BytesIn w w.heap.size v l) (hl:l.length<4) :
 Calls Tryz.prog 114 #[v] w fun e w'=>e=.returned (.tuple #[.slice none 0 0,.bool false])∧w=w':=by
 obtain⟨h1,a,cap,rfl,h2⟩:=hv;have hlt:(l.length:Int)-4<0:=by omega
 go_enter Tryz.func114,Tryz.ntmps114
 go_wp2_with fail;go_ret2
 exact⟨rfl,rfl⟩
def jX (w w':World) (u:Value) (l:List UInt8):Prop:=if cZ l then w'.ownsRow w.heap.size 5 1 u (l.length-4) ((l.take (l.length-4)).map aj) else u=.slice none 0 0
theorem jX.yes {w w':World} {u:Value} {l:List UInt8} (h:cZ l=true) (ho:w'.ownsRow w.heap.size 5 1 u (l.length-4) ((l.take (l.length-4)).map aj)):jX w w' u l:=by unfold jX;rw[aB h];exact ho
theorem jX.no {w w':World} {l:List UInt8} (h:cZ l=false):jX w w' (.slice none 0 0) l:=by unfold jX;rw[h];rfl
theorem ML (v:Value) (l:List UInt8) (w:World) (hv:BytesIn w w.heap.size v l) (hl:4≤l.length) (hl2:l.length≤536870912) :
 Calls Tryz.prog 114 #[v] w fun e w'=>∃u,e=.returned (.tuple #[u,.bool (cZ l)]) ∧
  jX w w' u l∧Below w.heap.size w w':=by
 have hv2:=hv;obtain⟨h1,a,cap,rfl,hcap,h2⟩:=hv;have HD:=ae (hv2.from_ (l.length-4) (by omega) hcap);have HT:=ae (hv2.upto (l.length-4) (by omega) hcap);obtain⟨k,hk⟩:∃k:Nat,k=l.length-4:=⟨_,rfl⟩;have hkl:l.length=k+4:=by omega
 rw[←hk]at HD HT;have hsb:cZ l=(aW (l.drop k) == (dJ (l.take k)).toNat):=by unfold cZ;rw[cT hl,fx,←hk]
 have hdl:(l.drop k).length=4:=by rw[c_];omega
 have htl:(l.take k).length=k:=by rw[bD];omega
 have hgd:iN (l.drop k)=true:=by
  unfold iN;have:=iJ (l.drop k);rw[hdl]at this ⊢;have hp:(256:Nat)^4=4294967296:=by decide
  rw[hp]at this;rw[cT (by omega)];rfl
 have hld:aW (l.drop k)<4294967296:=by
  have:=iJ (l.drop k);rw[hdl]at this;have hp:(256:Nat)^4=4294967296:=by decide
  omega
 have e4:l.length-k=4:=by omega
 rw[e4]at HD;have hne:¬cap=k:=by omega
 have HV:=ae hv2;have hik:(l.length:Int)-4=(k:Int):=by omega
 have hk0:¬ (k:Int)<0:=by omega
 have hk1:(k:Int)≤(l.length:Int):=by omega
 have hk2:(k:Int)≤(cap:Int):=by omega
 rw[aG hne]at HD;have Ed:=ae hsb;have HGD:=ae hgd;clear hv2 h2 hk hsb hgd e4;go_enter Tryz.func114,Tryz.ntmps114
 go_wp2_with fail;refine(FL _ (l.drop k) w HD.out).mono ?_;rintro e w1 ⟨rfl,hb1⟩;rw[HGD.out];have HT1:=ae (HT.out.below hb1 (ai _));have hs1:=hb1.size;obtain⟨N,hN⟩:∃N,N=aW (l.drop k):=⟨_,rfl⟩;rw[←hN]at hld;simp only[if_true,←hN];have HN:=ae hN;clear hN;go_wp2_with fail;refine(rf _ (l.take k) w1 (HT1.out.mono hs1)).mono ?_;rintro e w2 ⟨rfl,hb2⟩;obtain⟨C,hC⟩:∃C,C=(dJ (l.take k)).toNat:=⟨_,rfl⟩;unfold gM;have hc:=pK (l.take k);rw[←hC]at hc ⊢;have HC:=ae hC;clear hC;have vN:=hb1.trans (hb2.mono hs1);have hs2:=vN.size;have hm:(N:Int) % 4294967296=(N:Int):=by omega
 by_cases XT:N=C
 ·have hsb:cZ l=true:=by rw[Ed.out,←HN.out,←HC.out,XT];simp
  have hi:((N:Int) == (C:Int))=true:=by simp[XT]
  have SB:=ae hsb;clear hsb;subst XT;have HT2:=ae (HT1.out.below hb2 hs1);go_wp2_with fail;have HS:xU (w2.alloc (.cells #[.slice a k cap] 26)) (w2.alloc (.cells #[.slice a k cap] 26)).heap.size (.slice (some ⟨w2.heap.size,0,none⟩) 1 1) [l.take k]:=by
   have hbk:=ah.new w2 26 #[.slice a k cap];refine⟨w2.heap.size,0,1,rfl,hbk.lt,fun i x hx=>?_⟩;have hnew:Below w2.heap.size w2 (w2.alloc (.cells #[.slice a k cap] 26)):=(ax _ _).alloc (ai _) _;match i,hx with
   | 0,hx =>
    obtain rfl:l.take k=x:=by simpa using hx
    rw[htl];exact⟨a,cap,hbk.ag 0 rfl,(HT2.out.below hnew hs2).mono (by simp;omega)⟩
   | i+1,hx=>simp at hx
  refine(Ec _ _ _ HS (by simp;omega) (by simp)).mono ?_;rintro e w3 ⟨u3,rfl,hO3,hb3⟩;have hsz2:w.heap.size≤(w2.alloc (.cells #[.slice a k cap] 26)).heap.size:=by simp;omega
  have HO:=ae hO3;clear hO3 HS;go_wp2_with fail;go_ret2
  refine⟨u3,(by first | rfl | (rw[SB.out];rfl)),.yes SB.out ?_,(vN.alloc hs2 _).trans (hb3.mono hsz2)⟩;have ek:l.length-4=k:=by omega
  rw[ek];have h:=HO.out;have e1 : [l.take k].flatten=l.take k:=by simp
  rw[e1,htl]at h;first | exact CU h hsz2 | (rw[←Jj];exact CU h hsz2)
 ·have hsb:cZ l=false:=by rw[Ed.out,←HN.out,←HC.out];simp[XT]
  have hi:((N:Int) == (C:Int))=false:=by simp;omega
  have SB:=ae hsb;clear hsb;go_wp2_with fail;go_ret2
  exact⟨.slice none 0 0,(by first | rfl | (rw[SB.out];rfl)),.no SB.out,vN⟩
theorem xV (v:Value) (l:List UInt8) (w:World) (hv:BytesIn w w.heap.size v l) (hl2:l.length≤536870912) :
 Calls Tryz.prog 114 #[v] w fun e w'=>∃u,e=.returned (.tuple #[u,.bool (cZ l)])∧jX w w' u l∧Below w.heap.size w w':=by
 by_cases hl:4≤l.length
 ·exact ML v l w hv hl hl2
 ·have e:cZ l=false:=by unfold cZ;rw[cB hl];rfl
  refine(J_ v l w hv (by omega)).mono ?_;rintro e' w' ⟨rfl,rfl⟩;exact⟨_,by rw[e],.no e,ax _ _⟩
def xW (l:List UInt8):ByteArray:=⟨l.toArray⟩
theorem kW (l:List UInt8):(xW l).toList=l:=ByteArray.toList_mk l
theorem fX (w:World) {B:Nat} {v:Value} {l:List UInt8} (h:BytesIn w B v l):(convert 26 9 v).run Tryz.prog w=.ok (.string (xW l)) w:=by
 obtain⟨h1,a,cap,rfl,hcap,hc⟩:=h;cases a with
 | none =>
  have hl:l=[]:=by
   cases l with
   | nil=>rfl
   | cons c l =>
    obtain⟨g,off,h,_⟩:=hc 0 c rfl;cases h
  subst hl;exact Lib.run_convert_nil_bytes w 26 9 5 cap eU oK wM
 | some ad =>
  refine Rs (P:=Tryz.prog) w 26 9 5 ad cap l eU oK wM (fun j hj=>?_);obtain⟨g,off,h,_,hcell⟩:=hc j _ (aY hj);obtain rfl:=gH h;rw[eP];exact hcell
theorem MM {W W':World} {B C n:Nat} {e:TypeId} {u v:Value} {l:List UInt8} {xs:List Value} (h:BytesIn W B v l) (hg:W.grownBy W' u.ownBlock) (ho:W.ownsRow C e 1 u n xs) (hBC:∀r,u.ownBlock=some r→B≤r):BytesIn W' B v l:=by
 obtain⟨h1,a,cap,h2,h3,h4⟩:=h;refine⟨h1,a,cap,h2,h3,fun j c hc=>?_⟩;obtain⟨g,off,e1,hgB,hr⟩:=h4 j c hc;exact⟨g,off,e1,hgB,hg.cell hr (fun e2=>by have:=hBC g e2.symm;omega)⟩
theorem aej (C:Nat) (h:C<4294967296):(C/256^4 == 0)=true:=by
 have hp:(256:Nat)^4=4294967296:=by decide
 rw[hp,zG h];rfl
theorem An (v:Value) (l:List UInt8) (w:World) (hv:BytesIn w w.heap.size v l) (hl:l.length≤536870912) :
 Calls Tryz.prog 135 #[v] w fun e w'=>∃u,e=.returned u∧w'.ownsRow w.heap.size 5 1 u (l.length+4) ((dQ l).map aj)∧Below w.heap.size w w':=by
 have hv2:=hv;obtain⟨h1,a,cap,rfl,h2⟩:=hv;have HV:=ae hv2;clear hv2 h2;go_enter Tryz.func135,Tryz.ntmps135
 go_wp2_with fail;refine(tX _ l w HV.out).mono ?_;rintro e w1 ⟨rfl,hw1⟩;subst hw1;have hc:=pK l;obtain⟨C,hC⟩:∃C,C=(dJ l).toNat:=⟨_,rfl⟩;unfold gM;rw[←hC]at hc ⊢;have HC:=ae hC;clear hC;go_wp2_with fail;refine(J8 C 4 w rfl (by omega)).mono ?_;rintro e w2 ⟨u,rfl,hO,hb2⟩;have hu:=BytesIn.own hO;obtain⟨hu1,a2,c2,rfl,hu2⟩:=id hu;have BI:(leB C 4).length=4:=bJ _ _;rw[BI]at hu ⊢;have HU:=ae hu;have hvw:=ae (HV.out.below hb2 (ai _));have hsz:=hb2.size;clear hO hu hu2;rw[aej C hc];have hE:(w2.alloc (.cells #[] 5)).ownsRow w.heap.size 5 1 (.slice (some ⟨w2.heap.size,0,none⟩) 0 0) 0 []:=⟨rfl,.inr ⟨w2.heap.size,0,#[],rfl,hsz,bC w2 _,ai _,by simp,rfl,rfl⟩⟩;have HE:=ae hE;have hnew:Below w2.heap.size w2 (w2.alloc (.cells #[] 5)):=(ax _ _).alloc (ai _) _;have Ee:=ae (hvw.out.below hnew hsz);have HU3:=ae (HU.out.below hnew (ai _));have hb3:Below w.heap.size w (w2.alloc (.cells #[] 5)):=hb2.alloc hsz _;clear hE;go_wp2_with (first
  | (at_builtin;refine bm _ rfl (.tmp 12) (.tmp 13) rfl w.heap.size w.heap.size 0 _ _ rfl HE.out a l.length cap l rfl rfl Ee.out (by omega) (by simp;omega) ?_;intro u4 w4 hO4 hg4;have hb4:=hb3.grown hg4 (by simp;omega) (fun r hr=>(HE.out.lt r hr).1);have yO:=ae hO4;have NI:=ae (MM HU3.out hg4 HE.out (fun r hr=>mK (gH hr))))
  | (at_builtin;refine bm _ rfl (.tmp 14) (.tmp 15) rfl w.heap.size w2.heap.size (0+l.length) _ _ rfl yO.out a2 4 c2 (leB C 4) rfl BI NI.out (by omega) (by have:=hb4.size;omega) ?_;intro u5 w5 pL hg5;have hb5:=hb4.grown hg5 hb4.size (fun r hr=>(yO.out.lt r hr).1);have HO5:=ae pL))
 go_ret
 refine⟨_,rfl,?_,hb5⟩;have h:=HO5.out;have e1:([]++l.map aj)++(leB C 4).map aj=(dQ l).map aj:=by simp[dQ,HC.out]
 rw[e1,cW]at h;exact h
theorem vO (v:Value) (l:List UInt8) (w:World) (hv:BytesIn w w.heap.size v l) (hl2:l.length≤536870912) :
 Calls Tryz.prog 110 #[v] w fun e w'=>∃u,e=.returned (.tuple #[u,.bool (cZ l)])∧Below w.heap.size w w':=by
 by_cases hl:4≤l.length
 ·have hv2:=hv;obtain⟨h1,a,cap,rfl,hcap,h2⟩:=hv;have HT:=ae (hv2.upto (l.length-4) (by omega) hcap);obtain⟨k,hk⟩:∃k:Nat,k=l.length-4:=⟨_,rfl⟩;have hkl:l.length=k+4:=by omega
  rw[←hk]at HT;have hsb:=MK l hl;rw[←hk]at hsb;have htl:(l.take k).length=k:=by rw[bD];omega
  have HV:=ae hv2;have hik:(l.length:Int)-4=(k:Int):=by omega
  have hk0:¬ (l.length:Int)<4:=by omega
  have hk2:(k:Int)≤(cap:Int):=by omega
  have Ed:=ae hsb;clear hv2 h2 hk hsb;go_enter Tryz.func110,Tryz.ntmps110
  go_wp2_with fail;refine(An _ (l.take k) w HT.out (by omega)).mono ?_;rintro e w1 ⟨u,rfl,hO,hb1⟩;rw[htl]at hO;have hu:=(BytesIn.own hO);have hul:(dQ (l.take k)).length=k+4:=by rw[qo,htl]
  obtain⟨hu1,a2,c2,rfl,hc2,hu2⟩:=id hu;rw[hul]at hu hc2 ⊢;have hs1:(convert 26 9 (.slice a2 (k+4) c2)).run Tryz.prog w1=.ok (.string (xW (dQ (l.take k)))) w1:=fX w1 hu;have hs2:(convert 26 9 (.slice a (k+4) cap)).run Tryz.prog w1=.ok (.string (xW l)) w1:=by
   have:=fX w1 (HV.out.below hb1 (ai _));rw[hkl]at this;exact this
  clear hO hu hu2;have hkc:(k:Int)≤(c2:Int):=by omega
  by_cases hS:cZ l=true
  ·have HS:=ae hS;clear hS;rw[Ed.out.1 HS.out]at hs1;go_wp2_with fail;go_ret2
   exact⟨_,by rw[HS.out];rfl,hb1⟩
  ·have he:((xW (dQ (l.take k))).toList == (xW l).toList)=false:=by
    rw[IB,kW,kW];exact fun h=>hS (Ed.out.2 h)
   generalize xW (dQ (l.take k))=s1 at *;generalize xW l=s2 at *;have HS:=ae (show cZ l=false by simpa using hS);clear hS;go_wp2_with fail;go_ret2
   exact⟨_,by rw[HS.out];rfl,hb1⟩
 ·have e:cZ l=false:=by unfold cZ;rw[cB hl];rfl
  obtain⟨h1,a,cap,rfl,h2⟩:=hv;have hlt:(l.length:Int)<4:=by omega
  rw[e];clear e;go_enter Tryz.func110,Tryz.ntmps110
  go_wp2_with fail;go_ret2
  exact⟨_,rfl,ax _ _⟩
def aZ (n:Int):Bool:=decide (1≤n)&&decide (n≤64)
theorem vc (n:Int) (w:World):Calls Tryz.prog 88 #[.agg #[.int .i64 n]] w fun e w'=>e=.returned (.bool (aZ n))∧Below w.heap.size w w':=by
 by_cases h1:1≤n
 ·have e:aZ n=decide (n≤64):=by simp[aZ,h1]
  rw[e];go_enter Tryz.func88,Tryz.ntmps88
  go_wp2
  all_goals go_ret
  all_goals exact⟨by simp,(ax _ _).alloc (ai _) _⟩
 ·have e:aZ n=false:=by simp[aZ,h1]
  rw[e];go_enter Tryz.func88,Tryz.ntmps88
  go_wp2
  all_goals go_ret
  all_goals exact⟨by simp,(ax _ _).alloc (ai _) _⟩
structure Part where
 k:Int
 a:Int
 f:Int
 m:Int
abbrev Part.cells (p:Part):List Value:=[.int .i64 p.k,.int .i64 p.a,.int .i64 p.f,.int .i64 p.m]
def jJ (ps:List Part):List Value:=ps.flatMap Part.cells
theorem FO (ps:List Part) (p:Part):jJ (ps++[p])=jJ ps++p.cells:=by simp[jJ]
structure Parts (B O X:Nat) (ps:List Part) (n:Int) (w:World):Prop where
 has:∃v,w.heap[O]? = some (.cells #[v] 171 (0,0))∧w.ownsRow B 174 4 v ps.length (jJ ps)
 next:ah w X 3 #[.int .i64 n]
theorem SC:(Tryz.prog.info? 174).map (fun i=>(i.zero,i.size,i.bytes))=some (some (.agg #[.int .i64 0,.int .i64 0,.int .i64 0,.int .i64 0]),4,32):=by kernel_rfl
theorem BJ {w:World} {B L n size:Nat} {v u:Value} {e t:TypeId} {xs:List Value} (h:w.ownsRow B e size v n xs) (hL:w.heap[L]? = some (.cells #[u] t (0,0))) (het:e≠t):v.ownBlock≠some L:=by
 rcases h.2 with ⟨rfl,_⟩ | ⟨g,cap,cur,rfl,h2,h3,h4⟩
 ·intro h;cases h
 ·intro h;obtain rfl:g=L:=by simpa[Value.ownBlock]using h
  rw[hL]at h3;injection h3 with h3
  injection h3 with _ h3
  exact het h3.symm
theorem J' {w w2:World} {L:Nat} {X o:Obj} {row:Option Nat} (hL:w.heap[L]? = some X) (hg:(w.alloc o).grownBy w2 row) (hne:row≠some L):w2.heap[L]? = some X:=by
 have h2:(w.alloc o).heap[L]? = some X:=(si w o L (kQ hL)).trans hL;exact(hg.block L (kQ h2) (fj hne)).trans h2
theorem t_ (B O X:Nat) (ps:List Part) (n k a m:Int) (w:World) (h:Parts B O X ps n w) (hBO:B≤O) (hBX:B≤X) (hps:ps.length≤100) (hn:0≤n) (hn2:n≤1000000) (hm:0≤m) (hm2:m≤1000000) :
 Calls Tryz.prog 129 #[.int .i64 k,.int .i64 a,.int .i64 m,.pointer (some ⟨O,0,none⟩),.pointer (some ⟨X,0,none⟩)] w fun e w' =>
  e=.returned (.tuple #[])∧Parts B O X (ps++[⟨k,a,n,m⟩]) (n+m) w'∧Below B w w':=by
 obtain⟨⟨v,hO,hown⟩,hX⟩:=h;obtain⟨i0,hi0,hz0,hz1,hz2⟩:=iH SC;have amz:=kQ hO;have hXlt:=hX.lt;have hOX:O≠X:=by
  rintro rfl;unfold ah at hX;rw[hO]at hX;injection hX with hX
  injection hX with _ hX
  exact absurd hX (by decide)
 have c1:=zZ hO;have c2:=hX.ag 0 rfl;have ahG:v.ownBlock≠some O:=BJ hown hO (by decide);have ahH:v.ownBlock≠some X:=BJ hown hX (by decide);have HO:=ae hO;have HX:=ae hX;have HW:=ae hown;have HI:=ae (And.intro hi0 (And.intro hz0 (And.intro hz1 hz2)));clear hO hX hown hi0 hz0 hz1 hz2;go_enter Tryz.func129,Tryz.ntmps129
 go_wp2_with (at_builtin;refine pZ _ rfl _ _ _ rfl B 174 i0 _ 4 32 Tryz.underlying171 HI.out.1 HI.out.2.1 HI.out.2.2.1 HI.out.2.2.2 rfl (by omega) v ps.length (jJ ps) rfl (HW.out.alloc _) ⟨w.heap.size,0,none⟩ 1 1 [.int .i64 k,.int .i64 a,.int .i64 n,.int .i64 m] rfl rfl (ia (cs:=#[.int .i64 k,.int .i64 a,.int .i64 n,.int .i64 m]) (t:=174) (fr:=(0,0)) (bC w _)) (by simp[Value.oneCell']) (by omega) (by unfold maxLen;omega) (by omega) (by simp;omega) (w.heap.size+1) (by simp) ?_;intro g cap w3 hO3 hg3 xR hlt3;have XU:=J' HO.out hg3 ahG;have XW:=J' HX.out hg3 ahH;have d1:=zZ XU;have d2:=free_of_one XU;have d3:=zZ XW;have d4:=free_of_one XW;have HOk:=ae XU;have HXk:=ae XW;clear XU XW)
 have hb3:Below B w w3:=((ax B w).alloc (by omega) _).grown hg3 (by simp;omega) (fun r hr=>(HW.out.lt r hr).1);refine jE (v:=.tuple #[]) (by simp[results,Tryz.results129,go_sem]) rfl ⟨rfl,⟨⟨.slice (some ⟨g,0,none⟩) (ps.length+1) cap,?_,?_⟩,?_⟩,?_⟩
 ·exact(gE _ _ _ _ hOX).trans (one_setCell HOk.out)
 ·have h1:=zq hO3 (BJ hO3 HOk.out (by decide)) (a:=⟨O,0,none⟩) (.slice (some ⟨g,0,none⟩) (ps.length+1) cap);have h2:=zq h1 (by have:=BJ hO3 HXk.out (by decide);exact this) (a:=⟨X,0,none⟩) (.int .i64 (n+m));rw[bX,FO];exact h2
 ·exact one_setCell ((gE _ _ _ _ (fj hOX)).trans HXk.out)
 ·exact(hb3.setCell (p:=⟨O,0,none⟩) hBO _).setCell (p:=⟨X,0,none⟩) hBX _
def yP (N:Int):Nat→Int
 | 0=>2
 | j+1=>yP N j+1+8+N
def xX (N:Int):Nat→List Part
 | 0=>[⟨1,0,0,2⟩]
 | j+1=>xX N j++[⟨2,j,yP N j,1⟩]++[⟨3,j,yP N j+1,8⟩]++[⟨4,j,yP N j+1+8,N⟩]
def ga (N:Int):List Part:=xX N 2++[⟨5,0,yP N 2,N⟩]
theorem VC (N:Int) (j:Nat):(xX N j).length=1+3*j:=by
 induction j with
 | zero=>rfl
 | succ j ih=>simp[xX,ih];omega
theorem Gk {W:World} {B C n size:Nat} {e:TypeId} {v:Value} {xs:List Value} (h:W.ownsRow B e size v n xs) (hC:C≤B):W.ownsRow C e size v n xs:=by
 refine⟨h.1,?_⟩;rcases h.2 with hn | ⟨g,cap,cur,h1,h2,h3⟩
 ·exact .inl hn
 ·exact .inr ⟨g,cap,cur,h1,by omega,h3⟩
theorem Gl (N:Int) (w:World) (h0:0≤N) (h1:N≤1000) :
 Calls Tryz.prog 89 #[.agg #[.int .i64 N]] w fun e w'=>∃v,e=.returned v∧w'.ownsRow w.heap.size 174 4 v 8 (jJ (ga N))∧Below w.heap.size w w':=by
 go_enter Tryz.func89,Tryz.ntmps89
 go_upto_region 4 with fail;obtain⟨W0,hW0⟩:∃W0,W0=((((w.alloc (.cells #[.int .i64 N] 23)).alloc (.cells #[.slice none 0 0] 171)).alloc (.cells #[.int .i64 0] 3))):=⟨_,rfl⟩;have SD:ah W0 w.heap.size 23 #[.int .i64 N]:=by rw[hW0];exact((ah.new w _ _).alloc _).alloc _
 have hO0:ah W0 (w.heap.size+1) 171 #[.slice none 0 0]:=by rw[hW0];exact(ah.new2 w _ _ _).alloc _
 have hX0:ah W0 (w.heap.size+1+1) 3 #[.int .i64 0]:=by
  rw[hW0];have h:=ah.new2 (w.alloc (.cells #[.int .i64 N] 23)) (.cells #[.slice none 0 0] 171) 3 #[.int .i64 0];rw[size_alloc]at h;exact h
 have hB0:Below w.heap.size w W0:=by rw[hW0];exact(((ax _ _).alloc (ai _) _).alloc (by simp) _).alloc (by simp;omega) _
 rw[←hW0];clear hW0;have hPa:Parts (w.heap.size+1) (w.heap.size+1) (w.heap.size+1+1) [] 0 W0:=⟨⟨_,hO0,km _ _ _ _⟩,hX0⟩;clear hO0 hX0;go_wp2_with fail;refine(t_ _ _ _ [] 0 1 0 2 W0 hPa (by omega) (by omega) (by simp) (by omega) (by omega) (by omega) (by omega)).mono ?_;rintro e W1 ⟨rfl,hP1,hb1⟩;have hL1:=SD.below hb1 (by omega);have hB1:=hB0.trans (hb1.mono (by omega));have NJ:=ae hP1;clear hPa hP1 SD hB0 hb1;go_wp2_with fail;go_loopw [10] (fun i wr=>∃j:Nat,j≤2∧i=.int .i64 j∧Parts (w.heap.size+1) (w.heap.size+1) (w.heap.size+1+1) (xX N j) (yP N j) wr∧ah wr w.heap.size 23 #[.int .i64 N]∧Below w.heap.size w wr) (fun i _=>2-(intOf i).toNat)
 case atStart=>exact⟨0,by omega,rfl,NJ.out,hL1,hB1⟩
 case round =>
  clear NJ hL1 hB1;obtain⟨j,hj,rfl,hP,hL,hB⟩:=hrel;have hlen:=VC N j;have hnn:0≤yP N j∧yP N j≤10000:=by
   have:j=0∨j=1∨j=2:=by omega
   rcases this with rfl | rfl | rfl<;>simp[yP]<;>omega
  have HP:=ae hP;clear hP;have c0:=hL.ag 0 rfl;by_cases hlt:j<2
  ·go_wp2_with fail;refine(t_ _ _ _ _ _ 2 j 1 wr HP.out (by omega) (by omega) (by omega) (by omega) (by omega) (by omega) (by omega)).mono ?_;rintro e W2 ⟨rfl,hP2,hb2⟩;have Gm:=ae hP2;clear hP2;go_wp2_with fail;refine(t_ _ _ _ _ _ 3 j 8 W2 Gm.out (by omega) (by omega) (by simp;omega) (by omega) (by omega) (by omega) (by omega)).mono ?_;rintro e W3 ⟨rfl,hP3,hb3⟩;have Ef:=ae hP3;have hL3:=hL.below (hb2.trans hb3) (by omega);have c3:=hL3.ag 0 rfl;clear hP3;go_wp2_with fail;refine(t_ _ _ _ _ _ 4 j N W3 Ef.out (by omega) (by omega) (by simp;omega) (by omega) (by omega) (by omega) (by omega)).mono ?_;rintro e W4 ⟨rfl,hP4,hb4⟩;have HP4:=ae hP4;have hL4:=hL3.below hb4 (by omega);have hB4:=hB.trans (((hb2.trans hb3).trans hb4).mono (by omega));clear hP4;go_wp2_with fail;exact⟨⟨j+1,by omega,by go_num,HP4.out,hL4,hB4⟩,by simp[intOf]<;>omega⟩
  ·obtain rfl:j=2:=by omega
   go_wp2_with fail;refine(t_ _ _ _ _ _ 5 0 N wr HP.out (by omega) (by omega) (by omega) (by omega) (by omega) (by omega) (by omega)).mono ?_;rintro e W2 ⟨rfl,hP2,hb2⟩;obtain⟨⟨u,hOu,hown⟩,_⟩:=hP2;have c5:=zZ hOu;have HW:=ae hown;have hB2:=hB.trans (hb2.mono (by omega));clear hOu hown;go_wp2_with fail;go_ret
   exact⟨u,rfl,Gk HW.out (by omega),hB2⟩
end Go.Proofs.YtdpniceapmikpaaGreat
