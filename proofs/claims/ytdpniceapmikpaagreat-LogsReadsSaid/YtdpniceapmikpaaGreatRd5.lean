/-
  slices.Chunk of bytes, by
-/
import Derived.Test.YtdpniceapmikpaaGreatRd1
import Derived.Test.YtdpniceapmikpaaGreatRd4
import Derived.ArgAppend
import Derived.Lib.SlBytesConst
import Derived.WalkMore
import Derived.ScopeJumps
set_option linter.unusedVariables false
set_option linter.unusedSimpArgs false
set_option maxRecDepth 100000
set_option maxHeartbeats 32000000
namespace Go.Proofs.YtdpniceapmikpaaGreat
open Go.RowKit Go.Shelf
attribute [local go_sem] kM
structure bH (T:Nat→TypeId→Prop) (B C:Nat) (W W':World):Prop where
 os:W'.os=W.os
 tape:W'.tape=W.tape
 output:W'.output=W.output
 size:W.heap.size≤W'.heap.size
 low:∀i,i<B→W'.heap[i]? = W.heap[i]?
 others:∀ (k:Nat) (o:Obj),C≤k→W.heap[k]? = some o→o.isCells=false→W'.heap[k]? = some o
 typed:∀ (i:Nat) (cs:Array Value) (t:TypeId) (fr:Nat×Nat),¬T i t→W.heap[i]? = some (.cells cs t fr)→W'.heap[i]? = some (.cells cs t fr)
theorem bH.refl (T:Nat→TypeId→Prop) (B C:Nat) (W:World):bH T B C W W:=⟨rfl,rfl,rfl,ai _,fun _ _=>rfl,fun _ _ _ h _=>h,fun _ _ _ _ _ h=>h⟩
theorem bH.trans {T:Nat→TypeId→Prop} {B C:Nat} {X Y Z:World} (h:bH T B C X Y) (k:bH T B C Y Z):bH T B C X Z :=
 ⟨k.os.trans h.os,k.tape.trans h.tape,k.output.trans h.output,jF h.size k.size,fun i hi=>(k.low i hi).trans (h.low i hi),fun i o hi ho hc=>k.others i o hi (h.others i o hi ho hc) hc,fun i cs t fr ht hi=>k.typed i cs t fr ht (h.typed i cs t fr ht hi)⟩
theorem CZ {T:Nat→TypeId→Prop} {B C:Nat} {X Y Z:World} (h:bH T B C X Y) (k:bH T B C Y Z):bH T B C X Z:=h.trans k
theorem x7 {T:Nat→TypeId→Prop} {B C l:Nat} (hB:B≤l) (hC:l<C) (W:World) (o o':Obj) (h:W.heap[l]? = some o) (hc:o.isCells=false):bH T B C W (W.putObj l o') :=
 ⟨rfl,rfl,rfl,by simp,fun i hi=>iD (by omega),fun i x hi hx _=>(iD (by omega)).trans hx,fun i cs t fr _ hi=>(iD (fun e=>by rw[e,h]at hi;cases hi;cases hc)).trans hi⟩
theorem bH.of {T:Nat→TypeId→Prop} {B C:Nat} {W W':World} (h:Below W.heap.size W W') (hB:B≤W.heap.size):bH T B C W W' :=
 ⟨h.os,h.tape,h.output,h.size,fun i hi=>h.block i (by omega),fun i o _ ho _=>(h.block i (ee.1 ho).1).trans ho,fun i cs t fr _ hi=>(h.block i (kQ hi)).trans hi⟩
theorem bH.drew' (T:Nat→TypeId→Prop) (B C:Nat) (W:World):bH T B C W W.drew:=⟨rfl,rfl,rfl,ai _,fun _ _=>rfl,fun _ _ _ h _=>h,fun _ _ _ _ _ h=>h⟩
theorem bH.blk {T:Nat→TypeId→Prop} {B C:Nat} {W W':World} (h:bH T B C W W') {g:Nat} {t:TypeId} {cs:Array Value} (hb:ah W g t cs) (ht:¬T g t):ah W' g t cs:=h.typed g cs t _ ht hb
theorem bH.bytes {T:Nat→TypeId→Prop} {B C:Nat} {W W':World} (h:bH T B C W W') {v:Value} {l:List UInt8} (hb:BytesIn W B v l):BytesIn W' B v l:=by
 obtain⟨h1,a,cap,h2,h3,h4⟩:=hb;refine⟨h1,a,cap,h2,h3,fun j c hc=>?_⟩;obtain⟨g,off,e,hg,hr⟩:=h4 j c hc;exact⟨g,off,e,hg,(lL (a:=⟨g,off+j,none⟩) (h.low g hg)).trans hr⟩
def aD (n:Nat):Nat:=(n+511)/512
def iK (l:List UInt8) (k:Nat):List UInt8:=(l.drop (512*k)).take 512
def nK (a:Option Addr) (n k:Nat):Value:=.slice (a.map (·.add (512*k))) (min 512 (n-512*k)) (min 512 (n-512*k))
theorem Cj {W:World} {B:Nat} {a:Option Addr} {cap:Nat} {l:List UInt8} (h:BytesIn W B (.slice a l.length cap) l) (k:Nat) (hk:k<aD l.length):BytesIn W B (nK a l.length k) (iK l k):=by
 unfold aD at hk;obtain⟨h1,a',cap',e,h3,h4⟩:=h;injection e with ea el ec
 subst ea;have hl:(iK l k).length=min 512 (l.length-512*k):=by unfold iK;rw[bD,c_]
 refine⟨by rw[hl];omega,_,_,by rw[hl];rfl,by rw[hl];exact ai _,fun j c hj=>?_⟩;have hj2:l[512*k+j]? = some c:=by
  unfold iK at hj;rw[dU]at hj;split at hj
  ·rw[kL]at hj;exact hj
  ·cases hj
 obtain⟨g,off,rfl,hg,hcell⟩:=h4 (512*k+j) c hj2;refine⟨g,off+512*k,by rw[tP,eP],hg,?_⟩;rw[nA];exact hcell
theorem SX (n:Nat) (hn:1≤n) (l Bs Bn B C:Nat) (T:Nat→TypeId→Prop) (hT1:¬T Bs 26) (kq:¬T Bn 3) (a:Option Addr) (cap:Nat) (st:List UInt8) (J Jx:List (Fin (aD st.length))→World→Prop)
 (hA:∀pre W,J pre W→J pre W.drew)
 (hY:∀pre x W,J pre W→pre.length<aD st.length→YieldAt Fence.wide (n-1) Tryz.prog l #[nK a st.length x.val] W fun e W' =>
  (e=.returned (.bool true)∧J (pre++[x]) W'∧bH T B C W W')∨(e=.returned (.bool false)∧Jx (pre++[x]) W'))
 (W:World) (iy:ah W Bs 26 #[.slice a st.length cap]) (sw:ah W Bn 3 #[.int .i64 512]) (hst:st.length≤1000000) (hcap:st.length≤cap) (hc:cap≤maxLen) (h0:J [] W) :
 CallsIn Fence.wide n Tryz.prog 142 #[.func (.yield l) #[] #[],.pointer (some ⟨Bs,0,none⟩),.pointer (some ⟨Bn,0,none⟩)] W fun e W'=>(∃v,e=.returned v) ∧
  ((∃ys,ys=List.finRange (aD st.length)∧J ys W')∨(∃pre,pre <+: List.finRange (aD st.length)∧Jx pre W')):=by
 have hro:Fence.wide.round=none:=rfl;refine oP DM rfl trivial ?_ hro;simp only[Tryz.ntmps142,List.size_toArray,List.length_cons,List.length_nil,Nat.reduceAdd,Nat.reduceSub,Array.replicate_succ,Array.replicate_zero,List.push_toArray,List.append_toArray,List.nil_append,List.cons_append];gi_wp2
 gi_loopw [4] (fun i wr=>∃k:Nat,k≤aD st.length∧i=.int .i64 ((512*k:Nat):Int)∧J ((List.finRange (aD st.length)).take k) wr∧bH T B C W wr)
  (fun i _=>512*aD st.length-(intOf i).toNat)
 case atStart=>exact⟨0,fi _,rfl,h0,bH.refl _ _ _ _⟩
 case round =>
  obtain⟨k,hk,rfl,hJs,hnx⟩:=hrel;have Ar:=(hnx.blk iy hT1).ag 0 rfl;have C0:=(hnx.blk sw kq).ag 0 rfl;by_cases hlt:k<aD st.length
  ·have hlt2:512*k<st.length:=by unfold aD at hlt;omega
   have i1:((512*k:Nat):Int)<(st.length:Int):=by omega
   have i2:(0:Int)≤((512*k:Nat):Int):=by omega
   have i3:((512*k:Nat):Int)≤(st.length:Int):=by omega
   generalize hq:512*k=q at *;gi_wp2
   refine fV.2 ?_;refine bF (S:=(fun w'=>w'.cell? ⟨Bs,0,none⟩=some (.slice a st.length cap)∧w'.cell? ⟨Bn,0,none⟩=some (.int .i64 512))) (by kernel_rfl) (by(try dsimp only);(exact⟨Ar,C0⟩)) (fun hHeld=>?_);refine tk 0 ?_;refine tk 1 ?_;refine tk 2 ?_;refine tk 3 ?_;refine tk 4 ?_;refine tk 5 ?_;refine tk 6 ?_;refine aT ?_;have eE:(min 512 ((st.length-q:Nat):Int))=((min 512 (st.length-q):Nat):Int):=by omega
   rw[eE];obtain⟨E,hE⟩:∃E,E=min 512 (st.length-q):=⟨_,rfl⟩;rw[←hE];have j1:0<E:=by omega
   have j2:(q:Int)+(E:Int)≤(cap:Int):=by omega
   have j3:IntKind.i64.wrap ((q:Int)+(E:Int))=((q+E:Nat):Int):=by unfold maxLen at hc;rw[cz];omega
   have j4:((q+E:Nat):Int)≤(cap:Int):=by omega
   have j5:(q:Int)≤((q+E:Nat):Int):=by omega
   have j6:(0:Int)≤((q+E:Nat):Int):=by omega
   have j7:¬q+E=q:=by omega
   have j8:q+E-q=E:=by omega
   have hlen1:((List.finRange (aD st.length)).take k).length<aD st.length:=by rw[bD,tq];omega
   have hJd:=hA _ _ hJs;have As:(List.finRange (aD st.length)).take (k+1)=(List.finRange (aD st.length)).take k++[⟨k,hlt⟩]:=by
    rw[gG,aY (by rw[tq];exact hlt)];simp
   obtain⟨fn,tmps,assign,body,hy,hR⟩:=hY _ ⟨k,hlt⟩ _ hJd hlen1;simp only[nK,hq]at hy;rw[←hE]at hy;have HE:=ae hE;have HQ:=ae hq;have jx:=ae As;clear hE hq As eE hY Ar C0;have Ar:=((hnx.blk iy hT1).drew).ag 0 rfl;have C0:=((hnx.blk sw kq).drew).ag 0 rfl;gi_wp2
   refine hR.mono ?_;rintro e W3 (⟨rfl,hJ3,hk3⟩ | ⟨rfl,hJx3⟩)
   ·have hkk:bH T B C W W3:=(hnx.trans (bH.drew' T B C wr)).trans hk3;have ahS:=(hkk.blk sw kq).ag 0 rfl;have hq2:IntKind.i64.wrap ((q:Int)+512)=(q:Int)+512:=by unfold maxLen at hc;rw[cz];omega
    gi_wp2
    go_roundw
    case rel=>exact⟨k+1,by omega,by have:=HQ.out;congr 1;omega,by rw[jx.out];exact hJ3,hkk⟩
    case measure=>have:=HQ.out;simp[intOf];omega
   ·gi_wp2
    refine bc (oS rfl _ _ _) rfl ?_;exact⟨⟨_,rfl⟩,.inr ⟨_,by rw[←jx.out];exact zH _ _,hJx3⟩⟩
  ·obtain rfl:k=aD st.length:=by omega
   have i1:¬ ((512*aD st.length:Nat):Int)<(st.length:Int):=by unfold aD;omega
   gi_wp2
   go_end0
   rw[dg (by rw[tq];exact ai _)]at hJs;exact⟨⟨_,rfl⟩,.inl hJs⟩
theorem Ks (n:Nat) (a:Option Addr) (len cap:Nat) (w:World) :
 CallsIn Fence.wide n Tryz.prog 108 #[.slice a len cap,.int .i64 512] w fun e w'=>e=.returned (.func (.func 142) #[] #[.pointer (some ⟨w.heap.size,0,none⟩),.pointer (some ⟨w.heap.size+1,0,none⟩)])∧w'=(w.alloc (.cells #[.slice a len cap] 26)).alloc (.cells #[.int .i64 512] 3):=by
 have hro:Fence.wide.round=none:=rfl;refine oP Tryz.func108 rfl trivial ?_ hro;simp only[Tryz.ntmps108,List.size_toArray,List.length_cons,List.length_nil,Nat.reduceAdd,Nat.reduceSub,Array.replicate_succ,Array.replicate_zero,List.push_toArray,List.append_toArray,List.nil_append,List.cons_append];gi_wp2
 go_ret
 exact⟨rfl,rfl⟩
theorem MS (n:Nat) (hn:1≤n) (Bs Bn B C:Nat) (T:Nat→TypeId→Prop) (hT1:¬T Bs 26) (kq:¬T Bn 3) (a:Option Addr) (cap:Nat) (st:List UInt8) (w:World)
 (iy:ah w Bs 26 #[.slice a st.length cap]) (sw:ah w Bn 3 #[.int .i64 512]) (hst:st.length≤1000000) (hcap:st.length≤cap) (hc:cap≤maxLen) :
 SeqStopsK Fence.wide n Tryz.prog 142 #[.pointer (some ⟨Bs,0,none⟩),.pointer (some ⟨Bn,0,none⟩)] (fun x:Fin (aD st.length)=>#[nK a st.length x.val]) (bH T B C) (fun ys=>ys=List.finRange (aD st.length)) (fun pre=>pre <+: List.finRange (aD st.length)) (aD st.length) w :=
 fun l J Jx W hW hJ _ hY h0=>SX n hn l Bs Bn B C T hT1 kq a cap st J Jx (fun pre W' h=>hJ pre W' _ none h ⟨rfl,rfl,rfl,ai _,fun _ _ _=>rfl⟩ (fun r e=>by cases e)) hY W (iy.below hW iy.lt) (sw.below hW sw.lt) hst hcap hc h0
end Go.Proofs.YtdpniceapmikpaaGreat
namespace Go.Proofs.YtdpniceapmikpaaGreat
open Go.RowKit Go.Shelf
def jZ {β:Type} (d c B:Nat) (J:β→World→Prop):Prop :=
 ∀s W W' row,J s W→W.grownBy W' row→(∀r,row=some r→B≤r∧((B+d≤r∧r<B+d+c)∨∃o:Obj,W.heap[r]? = some o∧o.isCells=false))→J s W'
theorem OwnFrom.zero {β:Type} {d B:Nat} {J:β→World→Prop} (h:OwnFrom B J):jZ d 0 B J:=fun s W W' row hs hg hr=>h s W W' row hs hg (fun r e=>⟨(hr r e).1,(hr r e).2.resolve_left (by omega)⟩)
theorem jZ.from {β:Type} {d c B:Nat} {J:β→World→Prop} (h:jZ d c B J):OwnFrom B J:=fun s W W' row hs hg hr=>h s W W' row hs hg (fun r e=>⟨(hr r e).1,.inr (hr r e).2⟩)
def Pg {α:Type} (c n:Nat) (P:Program) (g:Nat) (lb:Array Value) (encs:α→Array Value) (Kp:World→World→Prop) (S Sp:List α→Prop) (N:Nat) (w:World):Prop :=
 ∀ (l:Nat) (J Jx:List α→World→Prop) (W:World),Below w.heap.size w W→w.heap.size+2≤W.heap.size→jZ 0 c W.heap.size J→jZ 0 c W.heap.size Jx →
  (∀pre x W1,J pre W1→pre.length<N→W.heap.size+c≤W1.heap.size→YieldAt Fence.wide (n-1) P l (encs x) W1 fun e W' =>
   (e=.returned (.bool true)∧J (pre++[x]) W'∧Kp W1 W')∨(e=.returned (.bool false)∧Jx (pre++[x]) W'∧KeepsFrom (w.heap.size+2) W1 W')) →
  J [] W→CallsIn Fence.wide n P g (#[.func (.yield l) #[] #[]]++lb) W fun e W'=>(∃v,e=.returned v)∧((∃xs,S xs∧J xs W')∨(∃pre,Sp pre∧Jx pre W'))
structure gY (K:Nat) (r:Loop) (W:World):Prop where
 loop:W.heap[K+1]? = some (.loop r)
 shut:W.heap[K]? = some (.deferred (some []))
theorem gY.lt {K:Nat} {r:Loop} {W:World} (h:gY K r W):K+1<W.heap.size:=(ee.1 h.loop).1
theorem gY.keeps {K:Nat} {r:Loop} {W W':World} (h:gY K r W) (k:KeepsFrom K W W'):gY K r W':=⟨k.same _ _ (by omega) h.loop rfl,k.same _ _ (ai _) h.shut rfl⟩
theorem gY.put {K:Nat} {r:Loop} {W:World} (h:gY K r W) (r':Loop):gY K r' (W.putObj (K+1) (.loop r')):=⟨World.putObj_heap_same h.lt,(iD (by omega)).trans h.shut⟩
theorem gY.own {K:Nat} {r:Loop} {W W':World} {row:Option Nat} (h:gY K r W) (hg:W.grownBy W' row) (hr:∀q,row=some q→K+2≤q):gY K r W' :=
 ⟨(hg.block _ h.lt (fun e=>by have:=hr _ e.symm;omega)).trans h.loop,(hg.block _ (Nat.lt_of_succ_lt h.lt) (fun e=>by have:=hr _ e.symm;omega)).trans h.shut⟩
theorem SY {α:Type} {P:Program} {c n:Nat} {g:Operand} {ps:Array Tmp} {assign body:Code} {Q:Exit→Act→World→Prop} {a:Act} {w:World} {gf:Nat} {lb:Array Value}
 (hg:a.eval g=.func (.func gf) #[] lb) (hgf:∀args w,(callFunc gf args).run P w=.ok (.enter gf args) w)
 {encs:α→Array Value} {Kp:World→World→Prop} {S Sp:List α→Prop} {N:Nat} (hseq:Pg c (n-1) P gf lb encs Kp S Sp N w)
 (hKt:∀ {A B C:World},Kp A B→Kp B C→Kp A C) (hKb:∀ (W:World) (o o':Obj),W.heap[w.heap.size+1]? = some o→o.isCells=false→Kp W (W.putObj (w.heap.size+1) o')) (hps:∀x,(encs x).size=ps.size)
 (I:List α→World→Prop) (Ix:Code→List α→World→Prop) (hI:jZ 2 c w.heap.size I) (hIx:∀j,jZ 2 c w.heap.size (Ix j)) (h0:I [] w) (Ax:α→Act→World→Prop) (hAx:∀x a',OwnFrom w.heap.size (fun(_:Unit) W=>Ax x a' W))
 (hassign:∀ (l:Nat) (pre:List α) (x:α) (W:World) (K:Act→World→Prop),I pre W→w.heap.size+2+c≤W.heap.size→(∀a' W',KeepsFrom w.heap.size W W'→Kp W W'→I pre W'→Ax x a' W'→K a' W') →
  assign.wpIn (Fence.wide.inRound l) (n-1-1) P (Exit.then K (fun _ _ _=>False)) {tmps:=(ps.zip (encs x)).foldl (fun t (p,v)=>t.setIfInBounds p v) a.tmps,defers:=[]} W)
 (hbody:∀ (l:Nat) (pre:List α) (x:α) (a':Act) (W:World),I pre W→Ax x a' W→pre.length<N→w.heap.size+2+c≤W.heap.size→body.wpIn (Fence.wide.inRound l) (n-1-1) P (ownPostG w.heap.size Kp I Ix (pre++[x]) W) a' W)
 (hdone:∀ (D:Nat) (xs:List α) (W:World),w.heap.size≤D→S xs→I xs W→W.heap[D]? = some (.deferred (some []))→Q .normal {a with defers := {target:=.collected D,args:=#[]}::a.defers} W)
 (hstop:∀ (D:Nat) (c:Code) (pre:List α) (W:World),w.heap.size≤D→Sp pre→Ix c pre W→W.heap[D]? = some (.deferred (some []))→c.wpIn Fence.wide n P Q {a with defers := {target:=.collected D,args:=#[]}::a.defers} W) :
 (Code.rangeFunc g ps assign body).wpIn Fence.wide n P Q a w:=by
 refine wpIn_rangeFunc fun fn hfn=>?_
 -- the loop's record, by its state and its jump
 obtain⟨r,hr⟩:∃r:LoopState→Option Code→Loop,r=fun s j => {state:=s,pending:=j,fn,tmps:=a.tmps,params:=ps,assign,body,defers:=w.heap.size}:=⟨_,rfl⟩
 obtain⟨W1,e1⟩:∃W1,W1=(w.alloc (.deferred (some []))).alloc (.loop (r .ready none)):=⟨_,rfl⟩;have hs1:W1.heap.size=w.heap.size+2:=by rw[e1];simp
 have hB1:gY w.heap.size (r .ready none) W1:=by
  rw[e1];exact⟨by have:=zr (w.alloc (.deferred (some []))) (.loop (r .ready none));rwa [iF]at this,(si _ _ _ (by simp)).trans (zr w _)⟩
 have hI1:I [] W1:=by rw[e1];exact hI.from.alloc _ (hI.from.alloc _ h0)
 have hb1:Below w.heap.size w W1:=by rw[e1];exact((ax _ w).alloc (ai _) _).alloc (by simp) _
 refine⟨w.heap.size+1,[{target:=.collected w.heap.size,args:=#[]}],W1, {target:=.fn (.func gf) lb,args:=#[.func (.yield (w.heap.size+1)) #[] #[]]},W1,gf,#[.func (.yield (w.heap.size+1)) #[] #[]]++lb,W1,
  by rw[e1,hr];exact RL _ _ _ _ _,by simp only[resolve,hg];simp[go_sem],fun f' _=>trivial,by simp[invoke,go_sem,hgf],(fun h=>by cases h),?_⟩
 have hput:∀ (pre:List α) (W:World) (q q':Loop),gY w.heap.size q W→I pre W→I pre (W.putObj (w.heap.size+1) (.loop q')):=fun pre W q q' hb hi=>hI.from.putObj _ hi (by omega) hb.loop rfl
 have Eu:∀ (W:World) (q q':Loop),gY w.heap.size q W→Kp W (W.putObj (w.heap.size+1) (.loop q')):=fun W q q' hb=>hKb _ _ _ hb.loop rfl
 refine(hseq (w.heap.size+1) (fun pre W=>I pre W∧gY w.heap.size (r .ready none) W) (fun pre W=>∃j,Ix j pre W∧gY w.heap.size (r .done (some j)) W) W1 hb1 (by omega)
  (fun s A B row hs hg' hrow=>⟨hI s A B row hs.1 hg' (fun q e=>⟨by have:=(hrow q e).1;omega,(hrow q e).2.imp (fun h=>by omega) id⟩),hs.2.own hg' (fun q e=>by have:=(hrow q e).1;omega)⟩)
  (fun s A B row hs hg' hrow=>by
   obtain⟨j,hc,hbk⟩:=hs;exact⟨j,hIx j s A B row hc hg' (fun q e=>⟨by have:=(hrow q e).1;omega,(hrow q e).2.imp (fun h=>by omega) id⟩),hbk.own hg' (fun q e=>by have:=(hrow q e).1;omega)⟩)
  ?_ ⟨hI1,hB1⟩).mono ?_
 ·rintro pre x W ⟨hi,hbk⟩ hlen hW;have hW2:w.heap.size+2+c≤W.heap.size:=by omega
  have hy:=run_yield (P:=P) (args:=encs x) hbk.loop (by rw[hr];exact hps x);rw[hr]at hy;refine⟨fn,_,assign,body,hy,roundIn_of_wpIn hfn (hassign _ pre x W _ hi hW2 fun a' V AD hpV hiV hxV=>?_)⟩;have um:=hbk.keeps AD;refine⟨_,run_beginRound um.loop (by rw[hr]),?_⟩;have hb2:=um.put {r .ready none with state:=.busy};have hi2:=hput pre V _ {r .ready none with state:=.busy} um hiV;have hx2:=(hAx x a').putObj (s:=()) (.loop {r .ready none with state:=.busy}) hxV (by omega) um.loop rfl;have hp2:=Eu V _ {r .ready none with state:=.busy} um;refine DZ (hbody _ pre x a' _ hi2 hx2 hlen (by have:=AD.size;simp;omega)) ?_
  -- how a round ends
  have fin:∀ (j:Option Code) (X:World),KeepsFrom w.heap.size (V.putObj (w.heap.size+1) (.loop {r .ready none with state:=.busy})) X →
   (Instr.endRound (w.heap.size+1) j).run P X=.ok (.bool j.isNone) (X.putObj (w.heap.size+1) (.loop (r (if j.isNone then .ready else .done) j)))∧gY w.heap.size {r .ready none with state:=.busy} X:=fun j X hX=>by
   have hbX:=hb2.keeps hX;have:=run_endRound (P:=P) j hbX.loop;rw[hr]at this ⊢;exact⟨this,by rw[hr]at hbX;exact hbX⟩
  have lx:∀ {q:Loop} (X:World),KeepsFrom w.heap.size (V.putObj (w.heap.size+1) (.loop {r .ready none with state:=.busy})) X→w.heap.size+1<X.heap.size→KeepsFrom (w.heap.size+2) W (X.putObj (w.heap.size+1) (.loop q)):=fun X hX _ =>
   ⟨by have h1:=AD.size;have h2:=hX.size;rw[zA]at h2 ⊢;omega,fun k o hk ho hc=>(iD (by omega)).trans (hX.same k o (by omega) ((iD (by omega)).trans (AD.same k o (by omega) ho hc)) hc)⟩
  rintro e a3 X hp;cases e with
  | normal =>
   obtain⟨hk3,hkp3,hi3⟩:=hp;obtain⟨hrun,hbX⟩:=fin none X hk3;exact⟨_,_,hrun,.inl ⟨rfl,⟨hput _ _ _ _ hbX hi3,hbX.put _⟩,hKt hpV (hKt (hKt hp2 hkp3) (Eu _ _ _ hbX))⟩⟩
  | ret =>
   obtain⟨hrun,hbX⟩:=fin (some .ret) X hp.1;exact⟨_,_,hrun,.inr ⟨rfl,⟨.ret,(hIx _).from.putObj _ hp.2 (by omega) hbX.loop rfl,hbX.put _⟩,lx X hp.1 hbX.lt⟩⟩
  | exit id =>
   obtain⟨hrun,hbX⟩:=fin (some (.exit id)) X hp.1;exact⟨_,_,hrun,.inr ⟨rfl,⟨.exit id,(hIx _).from.putObj _ hp.2 (by omega) hbX.loop rfl,hbX.put _⟩,lx X hp.1 hbX.lt⟩⟩
  | goto t =>
   obtain⟨hrun,hbX⟩:=fin (some (.goto t)) X hp.1;exact⟨_,_,hrun,.inr ⟨rfl,⟨.goto t,(hIx _).from.putObj _ hp.2 (by omega) hbX.loop rfl,hbX.put _⟩,lx X hp.1 hbX.lt⟩⟩
  | panic ch=>exact hp.elim
  | outgrown=>exact hp.elim
 ·rintro e W2 ⟨⟨v,rfl⟩,(⟨xs,hS,hi,hbk⟩ | ⟨pre,hSp,j,hi,hbk⟩)⟩
  ·have h:=DQ (P:=P) hbk.loop (by rw[hr];simp);rw[show(r .ready none).pending=none by rw[hr]]at h;exact⟨none,_,h,hdone _ xs _ (ai _) hS (hput _ _ _ _ hbk hi) (hbk.put _).shut⟩
  ·have h:=DQ (P:=P) hbk.loop (by rw[hr];simp);rw[show(r .done (some j)).pending=some j by rw[hr]]at h;exact⟨some j,_,h,hstop _ j pre _ (ai _) hSp ((hIx j).from.putObj _ hi (by omega) hbk.loop rfl) (hbk.put _).shut⟩
attribute [local go_sem] kM
abbrev Kt := {k:Nat // k<4294967296}
def mkIdx (k:Nat):Kt:=if h:k<4294967296 then ⟨k,h⟩ else ⟨0,by decide⟩
theorem GI (k:Nat) (h:k<4294967296):(mkIdx k).1=k:=by unfold mkIdx;rw[dif_pos h]
abbrev mY := {b:List UInt8 // b.length=512}
def vp (x:Kt×mY):Array Value:=#[.int .i64 x.1.1,.agg (x.2.1.map aj).toArray]
theorem x_ (st:List UInt8) (k:Nat):(iK st k).length≤512:=by unfold iK;rw[bD];omega
theorem bA:az.length=512:=et
theorem vg (st:List UInt8) (k:Nat):(js az (iK st k)).length=512:=by rw[iP _ _ (by rw[bA];exact x_ st k),bA]
def jH (st:List UInt8) (k:Nat):mY:=⟨js az (iK st k),vg st k⟩
def partsOf (st:List UInt8) (l:List (Fin (aD st.length))):List (Kt×mY):=l.zipIdx.map fun x=>(mkIdx x.2,jH st x.1.val)
def pw (st:List UInt8):List (Kt×mY):=(List.range (aD st.length)).map fun k=>(mkIdx k,jH st k)
theorem AE (st:List UInt8) (l:List (Fin (aD st.length))) (x:Fin (aD st.length)):partsOf st (l++[x])=partsOf st l++[(mkIdx l.length,jH st x.val)]:=by simp[partsOf,List.zipIdx_append]
theorem MT (st:List UInt8) (l:List (Fin (aD st.length))):(partsOf st l).length=l.length:=by simp[partsOf]
theorem Ck (st:List UInt8):partsOf st (List.finRange (aD st.length))=pw st:=by
 unfold partsOf pw;apply m_;intro i;rw[dV,Iy,dV];by_cases h:i<aD st.length
 ·rw[aY (by rw[tq];exact h),aY (by rw[IH];exact h)];simp
 ·rw[dh (by rw[tq];omega),dh (by rw[IH];omega)];rfl
theorem MU (st:List UInt8) (l:List (Fin (aD st.length))) (h:l <+: List.finRange (aD st.length)):partsOf st l <+: pw st:=by
 obtain⟨r,e⟩:=h;rw[←Ck,←e];unfold partsOf;rw[R6,cK];exact List.prefix_append _ _
theorem SZ {α:Type} {n:Nat} {P:Program} {g:Nat} {lb:Array Value} {encs:α→Array Value} {Kp:World→World→Prop} {S Sp:List α→Prop} {N:Nat} {w:World} (h:SeqStopsK Fence.wide n P g lb encs Kp S Sp N w) (hK:∀A B,Kp A B→A.heap.size≤B.heap.size):Pg 0 n P g lb encs Kp S Sp N w :=
 fun l J Jx W hW _ hJ hJx hY h0=>(h l (fun pre X=>J pre X∧W.heap.size≤X.heap.size) Jx W hW
  (fun s A B row hs hg hr=>⟨hJ s A B row hs.1 hg (fun r e=>⟨(hr r e).1,.inr (by obtain⟨o,ho,hw⟩:=(hr r e).2;exact⟨o,ho,Obj.not_cells_of_walk hw⟩)⟩),jF hs.2 hg.size⟩)
  (fun s A B row hs hg hr=>hJx s A B row hs hg (fun r e=>⟨(hr r e).1,.inr (by obtain⟨o,ho,hw⟩:=(hr r e).2;exact⟨o,ho,Obj.not_cells_of_walk hw⟩)⟩))
  (fun pre x X hX hl=>by
   obtain⟨fn,tm,Ya,bd,hy,hR⟩:=hY pre x X hX.1 hl hX.2;refine⟨fn,tm,Ya,bd,hy,hR.mono ?_⟩;rintro e V (⟨he,hv,hk⟩ | ⟨he,hv⟩)
   ·exact .inl ⟨he,⟨hv,jF hX.2 (hK _ _ hk)⟩,hk⟩
   ·exact .inr ⟨he,hv.1⟩)
  ⟨h0,ai _⟩).mono (by
   rintro e V ⟨hv,(⟨xs,hx,hj⟩ | hx)⟩
   ·exact⟨hv,.inl ⟨xs,hx,hj.1⟩⟩
   ·exact⟨hv,.inr hx⟩)
theorem GJ {n m l l2:Nat} {P:Program} {f:FuncId} {tm:Array Value} {Ya bd:Code} {w:World} {R:Ending→World→Prop} (h:RoundIn Fence.wide n P l f tm Ya bd w R):RoundIn (Fence.wide.inRound l2) m P l f tm Ya bd w R:=⟨h.1,fun c cs _=>h.2 c cs (fun d hd=>by cases hd)⟩
theorem bH.Ph {T T':Nat→TypeId→Prop} {B C C':Nat} {W W':World} (h:bH T B C W W') (hT:∀i t,T i t→T' i t) (hC:C≤C'):bH T' B C' W W':=⟨h.os,h.tape,h.output,h.size,h.low,fun k o hk=>h.others k o (by omega),fun i cs t fr ht=>h.typed i cs t fr (fun e=>ht (hT i t e))⟩
theorem Ev {T:Nat→TypeId→Prop} {B C g:Nat} (hB:B≤g) (hC:g<C) (hT:∀t,T g t) (W:World) (v:Value):bH T B C W (W.setCell ⟨g,0,none⟩ v) :=
 ⟨rfl,rfl,rfl,by simp,fun i hi=>gE W _ _ _ (by show i≠g;omega),fun k o hk ho _=>(gE W _ _ _ (by show k≠g;omega)).trans ho,fun i cs t fr ht hi=>(gE W _ _ _ (fun e=>ht (by rw[show i=g from e];exact hT t))).trans hi⟩
theorem Ew {T:Nat→TypeId→Prop} {B C:Nat} {V W W':World} {row:Option Nat} (h:bH T B C V W) (hg:W.grownBy W' row) (hr:∀r,row=some r→(B≤r∧V.heap.size≤r)∧∃o:Obj,W.heap[r]? = some o∧o.isCells=false) (hB:B≤V.heap.size:=by omega):bH T B C V W' :=
 ⟨hg.os.trans h.os,hg.tape.trans h.tape,hg.output.trans h.output,jF h.size hg.size,fun i hi=>(hg.block i (by have:=h.size;omega) (fun e=>by have:=(hr i e.symm).1;omega)).trans (h.low i hi),fun i o hi ho hc=>(hg.block i (ee.1 (h.others i o hi ho hc)).1 (fun e=>by have:=(hr i e.symm).1;have:=(ee.1 ho).1;omega)).trans (h.others i o hi ho hc),
  fun i cs t fr ht hi=>by
   have h1:=h.typed i cs t fr ht hi;refine(hg.block i (kQ h1) (fun e=>?_)).trans h1;obtain⟨o,ho,hc⟩:=(hr i e.symm).2;rw[h1]at ho;cases ho
   cases hc⟩
theorem S0 (n:Nat) (hn:3≤n) (l Bs B C:Nat) (T:Nat→TypeId→Prop) (a:Option Addr) (cap:Nat) (st:List UInt8) (J Jx:List (Kt×mY)→World→Prop) (W:World)
 (hJ:jZ 0 2 W.heap.size J) (hJx:jZ 0 2 W.heap.size Jx) (hT:∀i,W.heap.size≤i→(¬T i 26∧¬T i 3∧¬T i 199))
 (hY:∀pre x X,J pre X→pre.length<aD st.length→W.heap.size+2≤X.heap.size→YieldAt Fence.wide (n-1) Tryz.prog l (vp x) X fun e W' =>
  (e=.returned (.bool true)∧J (pre++[x]) W'∧bH T B C X W')∨(e=.returned (.bool false)∧Jx (pre++[x]) W'∧KeepsFrom C X W'))
 (iy:W.cell? ⟨Bs,0,none⟩=some (.slice a st.length cap)) (hv:BytesIn W B (.slice a st.length cap) st) (hst:st.length≤1000000) (hcap:st.length≤cap) (hc:cap≤maxLen) (hB:B≤W.heap.size) (hC:C≤W.heap.size) (h0:J [] W) :
 CallsIn Fence.wide n Tryz.prog 107 #[.func (.yield l) #[] #[],.pointer (some ⟨Bs,0,none⟩)] W fun e W'=>(∃v,e=.returned v) ∧
  ((∃ys,ys=pw st∧J ys W')∨(∃pre,pre <+: pw st∧Jx pre W')):=by
 have h1:1≤n:=by omega
 have hro:Fence.wide.round=none:=rfl;refine zx zX rfl trivial ?_ hro;simp only[Tryz.ntmps107,List.size_toArray,List.length_cons,List.length_nil,Nat.reduceAdd,Nat.reduceSub,Array.replicate_succ,Array.replicate_zero,List.push_toArray,List.append_toArray,List.nil_append,List.cons_append];refine fV.2 ?_;have hlt:=od W _ iy;go_wp2_with fail;refine(mr.1 (Ks 5 _ _ _ _)).mono ?_;rintro e w2 ⟨rfl,rfl⟩;go_wp2_with fail;refine(fV (n:=n)).1 ?_;obtain⟨V,eV⟩:∃V,V=(((W.alloc (.cells #[.func (.yield l) #[] #[]] 199)).alloc (.cells #[.int .i64 0] 3)).alloc (.cells #[.slice a st.length cap] 26)).alloc (.cells #[.int .i64 512] 3):=⟨_,rfl⟩;rw[←eV];have um:Below W.heap.size W V:=by rw[eV];exact((((ax _ W).alloc (ai _) _).alloc (by simp) _).alloc (by simp;omega) _).alloc (by simp;omega) _
 have k0:ah V W.heap.size 199 #[.func (.yield l) #[] #[]]:=by rw[eV];exact(((ah.new W _ _).alloc _).alloc _).alloc _
 have k1:ah V (W.heap.size+1) 3 #[.int .i64 0]:=by rw[eV];exact((ah.new2 W _ _ _).alloc _).alloc _
 have k2:ah V (W.heap.size+1+1) 26 #[.slice a st.length cap]:=by rw[eV];exact(ah.new' (by simp)).alloc _
 have k3:ah V (W.heap.size+1+1+1) 3 #[.int .i64 512]:=by rw[eV];exact ah.new' (by simp)
 have hVs:V.heap.size=W.heap.size+4:=by rw[eV];simp
 have hJ0:J [] V:=by rw[eV];exact hJ.from.alloc _ (hJ.from.alloc _ (hJ.from.alloc _ (hJ.from.alloc _ h0)))
 clear eV;have kq:=(hT (W.heap.size+1+1) (by omega)).1;have yT:=(hT (W.heap.size+1+1+1) (by omega)).2.1;have hTy:=(hT W.heap.size (ai _)).2.2;have hvV:BytesIn V B (.slice a st.length cap) st:=hv.below um hB;refine SY (gf:=142) (lb:=#[.pointer (some ⟨W.heap.size+1+1,0,none⟩),.pointer (some ⟨W.heap.size+1+1+1,0,none⟩)]) rfl (enters_of DM (by kernel_rfl) rfl)
  (SZ (MS (n-1) (by omega) (W.heap.size+1+1) (W.heap.size+1+1+1) B (V.heap.size+2) (fun i t=>T i t∨i=W.heap.size+1) (fun h=>h.elim kq (by omega)) (fun h=>h.elim yT (by omega)) a cap st V k2 k3 hst hcap hc) (fun _ _ h=>h.size)) CZ (x7 (by omega) (by omega)) (fun _=>rfl)
  (fun pre X=>J (partsOf st pre) X∧(ah X W.heap.size 199 #[.func (.yield l) #[] #[]]∧ah X (W.heap.size+1) 3 #[.int .i64 (pre.length:Int)]∧bH (fun i t=>T i t∨i=W.heap.size+1) B (V.heap.size+2) V X))
  (fun c pre X=>c=.ret∧Jx (partsOf st pre) X)
  (OwnFrom.zero (fun s A A' row hs hg hr=>⟨hJ.from _ A A' row hs.1 hg (fun r e=>⟨by have:=(hr r e).1;omega,(hr r e).2⟩),hs.2.1.own hg (fun r e=>(hr r e).2),hs.2.2.1.own hg (fun r e=>(hr r e).2),Ew hs.2.2.2 hg (fun r e=>⟨⟨by have:=(hr r e).1;omega,(hr r e).1⟩,(hr r e).2⟩) (by omega)⟩))
  (fun c=>OwnFrom.zero (fun s A A' row hs hg hr=>⟨hs.1,hJx.from _ A A' row hs.2 hg (fun r e=>⟨by have:=(hr r e).1;omega,(hr r e).2⟩)⟩))
  ⟨hJ0,k0,k1,bH.refl _ _ _ _⟩
  (fun x a' X=>a' = {tmps:=#[.func (.yield l) #[] #[],.pointer (some ⟨Bs,0,none⟩),.pointer (some ⟨W.heap.size,0,none⟩),.pointer (some ⟨W.heap.size+1,0,none⟩),nK a st.length x.val,undef,.slice a st.length cap,.func (.func 142) #[] #[.pointer (some ⟨W.heap.size+1+1,0,none⟩),.pointer (some ⟨W.heap.size+1+1+1,0,none⟩)],nK a st.length x.val,undef,undef,undef,undef,undef,undef,undef,undef,undef,undef],defers:=[]})
  (fun x a' s A A' row hs hg hr=>hs) ?assign ?body ?done ?stop
 case assign =>
  intro l2 pre x X K hI hX2 hK;gi_wp2
  exact hK _ _ (KeepsFrom.refl _ _) (bH.refl _ _ _ _) hI rfl
 case body =>
  rintro l2 pre x a' X ⟨pM,hy0,hi0,hkt⟩ rfl hlen yU;have hp:pre.length≤2000000:=by
   have h1:pre.length<aD st.length:=hlen;have h2:aD st.length≤2000000:=by unfold aD;omega
   omega
  have hch:=Cj (hkt.bytes hvV) x.val x.isLt;have hb1:=(ax X.heap.size X).alloc (ai _) (.cells Tryz.zeroCells111 111);have kz:ah (X.alloc (.cells Tryz.zeroCells111 111)) X.heap.size 111 (az.map aj).toArray:=by rw[←bE];exact ah.new X _ _
  obtain⟨X2,hr2,hk2,ho2⟩:=lW _ X.heap.size 111 az kz B _ _ _ 512 (iK st x.val) (hch.below hb1 (by have:=hkt.size;omega)) (by rw[bA];exact x_ st x.val) 3;rw[bA]at hr2;have hb2:Below X.heap.size X X2:=hb1.trans (ho2.below hb1.size (fun i hi e=>by omega));have hJ2:J (partsOf st pre) X2:=hJ _ X X2 none pM ⟨hb2.os,hb2.tape,hb2.output,hb2.size,fun i hi _=>hb2.block i hi⟩ (fun r e=>by cases e);have hy2:=(hy0.below hb2 hy0.lt).ag 0 rfl;have hi2:=(hi0.below hb2 hi0.lt).ag 0 rfl;have hld:=sj (P:=Tryz.prog) X2 X.heap.size 0 111 ((js az (iK st x.val)).map aj) _ (fun j v hv=>hk2.ag (0+j) (by rw[jd,cW];exact hv)) dj rfl (by rw[cR,vg];exact fQ);obtain⟨fn,tm,as_,bd,hy,hR⟩:=hY _ (mkIdx pre.length,jH st x.val) X2 hJ2 (by rw[MT];exact hlen) (by have:=hb2.size;omega);simp only[vp,jH]at hy;rw[GI pre.length (by omega)]at hy;have HKT:=ae hkt;have HB2:=ae hb2;have Ku:=ae hy0;have HI0:=ae hi0;have KT:=ae (fun(W3:World) (hk3:bH T B C X2 W3) (v:Value)=>(bH.of (T:=fun i t=>T i t∨i=W.heap.size+1) (C:=V.heap.size+2) hb2 (by have:=hkt.size;omega)).trans ((hk3.Ph (C':=V.heap.size+2) (fun i t h=>.inl h) (by omega)).trans (Ev (B:=B) (C:=V.heap.size+2) (g:=W.heap.size+1) (by omega) (by omega) (fun t=>.inr rfl) W3 v)));clear hkt hb1 hb2 hch kz ho2 hJ2 pM hY hy0 hi0;gi_wp2_with (first
   | (refine DE rfl fun _ hK=>xP rfl (Lib.wp_copy_run _ (.tmp 9) (.tmp 10) 26 26 rfl _ _ rfl rfl hr2 (hK _ _ ?_)))
   | (refine lU _ 111 _ rfl _ _ rfl hld ?_))
  refine⟨fun h=>(by cases h),(GJ hR).mono ?_⟩;rintro e W3 (⟨rfl,hJ3,hk3⟩ | ⟨rfl,hJx3,AF⟩)
  ·have hti:=(hT (W.heap.size+1) (by omega)).2.1;have hi3:=hk3.blk (HI0.out.below HB2.out HI0.out.lt) hti;have ci3:=hi3.ag 0 rfl;have fi3:=hi3.frozen 0;have hpl:IntKind.i64.wrap ((pre.length:Int)+1)=(pre.length:Int)+1:=by rw[cz];omega
   gi_wp2
   refine⟨⟨by have h1:=HB2.out.size;have h2:=hk3.size;simp;omega,fun k o hk ho hc=>?_⟩,?_,⟨?_,?_,?_,?_⟩⟩
   ·have h1:=hk3.others k o (by omega) ((HB2.out.block k (ee.1 ho).1).trans ho) hc;exact(gE W3 _ _ _ (by show k≠W.heap.size+1;omega)).trans h1
   ·exact KT.out W3 hk3 _
   ·rw[AE];exact hJ _ W3 _ (some (W.heap.size+1)) hJ3 (grownBy_setCell' W3 (W.heap.size+1) _) (fun r e=>by cases e;exact⟨by omega,.inl ⟨by omega,by omega⟩⟩)
   ·exact(hk3.blk (Ku.out.below HB2.out Ku.out.lt) hTy).far (p:=⟨W.heap.size+1,0,none⟩) (by simp) _
   ·have h:=hi3.br 0 (.int .i64 ((pre.length:Int)+1));have e:((pre++[x]).length:Int)=(pre.length:Int)+1:=by simp
    rw[e];exact h
   ·exact HKT.out.trans (KT.out W3 hk3 _)
  ·gi_wp2
   refine⟨⟨by have h1:=HB2.out.size;have h2:=AF.size;omega,fun k o hk ho hc=>AF.same k o (by omega) ((HB2.out.block k (ee.1 ho).1).trans ho) hc⟩,rfl,?_⟩;rw[AE];exact hJx3
 case done =>
  rintro Dd ys X Gv rfl ⟨pM,_,_,_⟩ hK;rw[Ck]at pM;go_wp2_with fail;refine⟨by simp,.inl ⟨_,_,rfl,m' hK,?_⟩⟩;exact⟨_,oS rfl _ _ _,⟨_,rfl⟩,.inl ⟨_,rfl,hJ.from.putObj _ pM (by omega) hK rfl⟩⟩
 case stop =>
  rintro Dd c pre X Gv hSp ⟨rfl,pM⟩ hK;refine fV.2 ?_;go_wp2_with fail;refine⟨by simp,.inl ⟨_,_,rfl,m' hK,?_⟩⟩;exact⟨_,oS rfl _ _ _,⟨_,rfl⟩,.inr ⟨_,MU st pre hSp,hJx.from.putObj _ pM (by omega) hK rfl⟩⟩
theorem Kv (n:Nat) (a:Option Addr) (len cap:Nat) (w:World) :
 CallsIn Fence.wide n Tryz.prog 59 #[.slice a len cap] w fun e w'=>e=.returned (.func (.func 107) #[] #[.pointer (some ⟨w.heap.size,0,none⟩)])∧w'=w.alloc (.cells #[.slice a len cap] 26):=by
 have hro:Fence.wide.round=none:=rfl;refine oP Tryz.func59 rfl trivial ?_ hro;simp only[Tryz.ntmps59,List.size_toArray,List.length_cons,List.length_nil,Nat.reduceAdd,Nat.reduceSub,Array.replicate_succ,Array.replicate_zero,List.push_toArray,List.append_toArray,List.nil_append,List.cons_append];gi_wp2
 go_ret
 exact⟨rfl,rfl⟩
theorem S1 (n:Nat) (hn:3≤n) (Bs B:Nat) (T:Nat→TypeId→Prop) (a:Option Addr) (cap:Nat) (st:List UInt8) (w:World) (hT:∀i,w.heap.size≤i→(¬T i 26∧¬T i 3∧¬T i 199))
 (iy:ah w Bs 26 #[.slice a st.length cap]) (hv:BytesIn w B (.slice a st.length cap) st) (hst:st.length≤1000000) (hcap:st.length≤cap) (hc:cap≤maxLen) (hB:B≤w.heap.size) :
 Pg 2 n Tryz.prog 107 #[.pointer (some ⟨Bs,0,none⟩)] vp (bH T B (w.heap.size+2)) (fun ys=>ys=pw st) (fun pre=>pre <+: pw st) (aD st.length) w :=
 fun l J Jx W hW hWs hJ hJx hY h0=>S0 n hn l Bs B (w.heap.size+2) T a cap st J Jx W hJ hJx (fun i hi=>hT i (by omega)) hY ((iy.below hW iy.lt).ag 0 rfl) (hv.below hW hB) hst hcap hc (by omega) hWs h0
end Go.Proofs.YtdpniceapmikpaaGreat
namespace Go.Proofs.YtdpniceapmikpaaGreat
open Go.RowKit
theorem S2:(Tryz.prog.info? 84).map (fun i=>(i.zero,i.size,i.bytes))=some (some .nilFunc,1,8):=by kernel_rfl
def qz (W:World) (db:Nat) (u:Value) (y:cg):Prop:=∃gn gb,u=.func (.func 53) #[] #[.pointer (some ⟨db,0,none⟩),.pointer (some ⟨gn,0,none⟩),.pointer (some ⟨gb,0,none⟩)]∧ah W gn 3 #[.int .i64 y.1.n]∧ah W gb 111 (y.1.b.map aj).toArray
def rn (W:World) (db:Nat) (vals:List Value) (ys:List cg):Prop:=vals.length=ys.length∧∀ (j:Nat) (u:Value) (y:cg),vals[j]? = some u→ys[j]? = some y→qz W db u y
theorem qz.keep {W W':World} {db:Nat} {u:Value} {y:cg} (h:qz W db u y) (hk:∀ (g:Nat) (t:TypeId) (cs:Array Value),t=3∨t=111→ah W g t cs→ah W' g t cs):qz W' db u y:=by
 obtain⟨gn,gb,e,h1,h2⟩:=h;exact⟨gn,gb,e,hk _ _ _ (.inl rfl) h1,hk _ _ _ (.inr rfl) h2⟩
theorem rn.keep {W W':World} {db:Nat} {vals:List Value} {ys:List cg} (h:rn W db vals ys) (hk:∀ (g:Nat) (t:TypeId) (cs:Array Value),t=3∨t=111→ah W g t cs→ah W' g t cs):rn W' db vals ys :=
 ⟨h.1,fun j u y hu hy=>(h.2 j u y hu hy).keep hk⟩
theorem rn.snoc {W:World} {db:Nat} {vals:List Value} {ys:List cg} {u:Value} {y:cg} (h:rn W db vals ys) (hu:qz W db u y):rn W db (vals++[u]) (ys++[y]):=by
 refine⟨by simp[h.1],fun j v z hv hz=>?_⟩;rcases bZ j vals.length with hl | hl
 ·rw[iC hl]at hv;rw[iC (by rw[←h.1];exact hl)]at hz;exact h.2 j v z hv hz
 ·rw[gl hl]at hv;rw[gl (by rw[←h.1];exact hl),←h.1]at hz;cases hj:j-vals.length with
  | zero=>rw[hj]at hv hz;cases hv;cases hz;exact hu
  | succ k=>rw[hj]at hv;cases hv
theorem cM.FV {g:Nat} {v v':Value} {w w':World} (h:cM g v v' w w') {B n k:Nat} {e:TypeId} {xs:List Value} (ho:w.ownsRow B e k v n xs) {j:Nat} {t':TypeId} {cs:Array Value} (hb:ah w j t' cs) (h1:j≠g) (h2:t'≠e):ah w' j t' cs :=
 h.out.blk hb (fun hd=>hd.elim h1 (fun e=>aR ho hb (fj h2) j e rfl))
theorem S3 (sb db B:Nat) (v:Value) (vals:List Value) (n:Int) (y:mY) (w:World) (hc:ah w sb 115 #[v]) (ho:w.ownsRow B 84 1 v vals.length vals) (hl:vals.length≤1000) (hB:B≤w.heap.size) :
 Calls Tryz.prog 52 #[.int .i64 n,.agg (y.1.map aj).toArray,.pointer (some ⟨sb,0,none⟩),.pointer (some ⟨db,0,none⟩)] w fun e w'=>e=.returned (.tuple #[])∧∃v' u,ah w' sb 115 #[v'] ∧
  w'.ownsRow B 84 1 v' (vals++[u]).length (vals++[u])∧qz w' db u ⟨⟨n,y.1⟩,y.2⟩∧cM sb v v' w w'∧u=.func (.func 53) #[] #[.pointer (some ⟨db,0,none⟩),.pointer (some ⟨w.heap.size,0,none⟩),.pointer (some ⟨w.heap.size+1,0,none⟩)]:=by
 obtain⟨i0,hi0,hz0,hz1,hz2⟩:=iH S2;have hlt:=hc.lt;have hne:∀i,v.ownBlock=some i→i≠sb:=aR ho hc (by decide);obtain⟨X,eX⟩:∃X,X=(y.1.map aj).toArray:=⟨_,rfl⟩;rw[←eX];have oZ:=ae eX;obtain⟨u,eu⟩:∃u:Value,u=.func (.func 53) #[] #[.pointer (some ⟨db,0,none⟩),.pointer (some ⟨w.heap.size,0,none⟩),.pointer (some ⟨w.heap.size+1,0,none⟩)]:=⟨_,rfl⟩;obtain⟨W,eW⟩:∃W,W=((w.alloc (.cells #[.int .i64 n] 3)).alloc (.cells X 111)).alloc (.cells #[u] 84):=⟨_,rfl⟩;have hb:Below w.heap.size w W:=by rw[eW];exact(((ax _ w).alloc (ai _) _).alloc (by simp) _).alloc (by simp;omega) _
 have k0:ah W w.heap.size 3 #[.int .i64 n]:=by rw[eW];exact((ah.new w _ _).alloc _).alloc _
 have k1:ah W (w.heap.size+1) 111 X:=by rw[eW];exact(ah.new2 w _ _ _).alloc _
 have k2:ah W (w.heap.size+1+1) 84 #[u]:=by rw[eW];exact ah.new' (by simp)
 have hws:W.heap.size=w.heap.size+3:=by rw[eW];simp
 have HO:=ae (aq (F:=fun _=>False) (aN hb) ho (fun _ _=>id));have HC:=ae hc;have HB:=ae hb;have c1:=hc.ag 0 rfl;have K0:=ae k0;have K1:=ae k1;have K2:=ae k2;have huo:u.oneCell'=true:=by rw[eu];rfl
 have HEU:=ae eu;have Cl:=ae eW;clear eX ho hc k0 k1 k2 hb eu eW;go_enter Tryz.func52,Tryz.ntmps52
 go_wp2_with (at_builtin;rw[←HEU.out];rw[←Cl.out];refine pZ W rfl (.tmp 6) (.tmp 8) 115 rfl B 84 i0 _ 1 8 Tryz.underlying115 hi0 hz0 hz1 hz2 rfl (by omega) v vals.length vals rfl HO.out ⟨w.heap.size+1+1,0,none⟩ 1 1 [u] rfl rfl (ia (cs:=#[u]) (t:=84) (fr:=(0,0)) K2.out) (by simp[huo]) (by omega) (by unfold maxLen;omega) (by omega) (by omega) (w.heap.size+3) hws ?_;intro g3 pB w2 hO2 hg2 ue hlt2;have cc:ah w2 sb 115 #[v]:=(hg2.block sb (by omega) (fun e=>hne sb e.symm rfl)).trans (HC.out.below HB.out hlt);have c2:=cc.ag 0 rfl;have f2:=cc.frozen 0)
 obtain⟨q1,q2⟩:=sB HB.out hg2 HC.out (fun e=>hne sb e rfl) (v':=.slice (some ⟨g3,0,none⟩) (vals.length+1) pB) (fun i hi=>by
  have hi2:g3=i:=by simpa[Value.ownBlock]using hi
  subst hi2;exact ue.imp id (fun e=>by omega))
 have hO3:=aq (F:=fun i=>i=sb) (bk (v:=.slice (some ⟨g3,0,none⟩) (vals.length+1) pB) (i:=0) rfl) hO2 (aR hO2 cc (by decide));have far:∀ (g:Nat) (t:TypeId) (cs:Array Value),ah W g t cs→t≠84→g≠sb→ah (w2.setCell ⟨sb,0,none⟩ (.slice (some ⟨g3,0,none⟩) (vals.length+1) pB)) g t cs:=fun g t cs hb ht hg =>
  ah.far (p:=⟨sb,0,none⟩) ((hg2.block g hb.lt (fun e=>aR HO.out hb (fj ht) g e.symm rfl)).trans hb) hg _
 exact jE (v:=.tuple #[]) (by simp[results,Tryz.results52,go_sem]) rfl ⟨rfl,_,u,q1,by rw[bX];exact hO3,⟨_,_,HEU.out,far _ _ _ K0.out (by decide) (by omega),by rw[←oZ.out];exact far _ _ _ K1.out (by decide) (by omega)⟩,q2,HEU.out⟩
theorem NT (sb db B:Nat) (v:Value) (vals:List Value) (n:Int) (y:mY) (w:World) (hc:ah w sb 115 #[v]) (ho:w.ownsRow B 84 1 v vals.length vals) (hl:vals.length≤1000) (hB:B≤w.heap.size) :
 Calls Tryz.prog 52 #[.int .i64 n,.agg (y.1.map aj).toArray,.pointer (some ⟨sb,0,none⟩),.pointer (some ⟨db,0,none⟩)] w fun e w'=>e=.returned (.tuple #[])∧∃v' u,ah w' sb 115 #[v'] ∧
  w'.ownsRow B 84 1 v' (vals++[u]).length (vals++[u])∧qz w' db u ⟨⟨n,y.1⟩,y.2⟩∧cM sb v v' w w':=by
 refine(S3 sb db B v vals n y w hc ho hl hB).mono ?_;rintro e w' ⟨he,v',u,h1,h2,h3,h4,_⟩;exact⟨he,v',u,h1,h2,h3,h4⟩
theorem S4 (D:aX) (x:ak) (db:Nat) (u:Value) (y:cg) (w:World) (h:aE w D x) (hx:x.ok) (hd:ah w db 37 #[ptr D.p]) (hu:qz w db u y) :
 ∃gn gb,u=.func (.func 53) #[] #[.pointer (some ⟨db,0,none⟩),.pointer (some ⟨gn,0,none⟩),.pointer (some ⟨gb,0,none⟩)] ∧
 Calls Tryz.prog 53 #[.pointer (some ⟨db,0,none⟩),.pointer (some ⟨gn,0,none⟩),.pointer (some ⟨gb,0,none⟩)] w fun e w'=>e=.returned (.int .i64 (x.err y.1.n))∧∃D',aE w' D' (x.write y.1.n y.1.b)∧DStep D D' w w':=by
 obtain⟨gn,gb,e,h1,h2⟩:=hu;refine⟨gn,gb,e,?_⟩;have HW:=ae (O7 D x y.1.n y.1.b w h hx y.2);have c0:=hd.ag 0 rfl;have c1:=h1.ag 0 rfl;have H2:=ae h2;have hsz:=aO y.1.b y.2;unfold ptr aV at *;clear h hx hd h1 h2 e;go_enter Tryz.func53,Tryz.ntmps53
 go_wp2_with (refine bt rfl 111 _ rfl gb rfl 111 (y.1.b.map aj).toArray (0,0) _ H2.out dj rfl hsz ?_)
 refine HW.out.mono ?_;rintro e w1 ⟨rfl,hR⟩;go_wp2_with fail;go_ret
 exact⟨rfl,hR⟩
structure mz (sb lb hb:Nat) (w W:World) (dp:Nat) (N area:Int) (fv:Array Value) (v hv:Value) (vals:List Value) (ys:List cg) (l:List UInt8):Prop where
 bd:ah W w.heap.size 37 #[ptr dp]
 bp:ah W (w.heap.size+1) 23 #[.int .i64 N]
 ba:ah W (w.heap.size+2) 3 #[.int .i64 area]
 bf:ah W (w.heap.size+3) 28 fv
 bs:ah W sb 115 #[v]
 os:W.ownsRow (w.heap.size+4) 84 1 v vals.length vals
 bl:ah W lb 117 #[.func (.func 52) #[] #[.pointer (some ⟨sb,0,none⟩),.pointer (some ⟨w.heap.size,0,none⟩)]]
 bh:ah W hb 122 #[hv]
 oh:W.ownsRow (w.heap.size+4) 5 1 hv l.length (l.map aj)
 st:rn W w.heap.size vals ys
 below:Below w.heap.size w W
 s4:w.heap.size+4≤sb
 h4:w.heap.size+4≤hb
variable {sb lb hb:Nat} {w W W':World} {dp:Nat} {N area:Int} {fv:Array Value} {v v' hv hv':Value} {vals:List Value} {ys:List cg} {l l':List UInt8}
theorem mz.sz (h:mz sb lb hb w W dp N area fv v hv vals ys l):w.heap.size+4≤W.heap.size:=by have:=h.bf.lt;omega
theorem mz.far (h:mz sb lb hb w W dp N area fv v hv vals ys l) (hb':Below W.heap.size W W'):mz sb lb hb w W' dp N area fv v hv vals ys l :=
 have k:∀ {g:Nat} {t:TypeId} {cs:Array Value},ah W g t cs→ah W' g t cs:=fun hg=>hg.below hb' hg.lt
 ⟨k h.bd,k h.bp,k h.ba,k h.bf,k h.bs,aq (F:=fun _=>False) (aN hb') h.os (fun _ _=>id),k h.bl,k h.bh,aq (F:=fun _=>False) (aN hb') h.oh (fun _ _=>id),h.st.keep (fun _ _ _ _=>k),h.below.trans (hb'.mono h.below.size),h.s4,h.h4⟩
theorem own_ne {B k k':Nat} {e e':TypeId} {a b:Value} {n n':Nat} {xs xs':List Value} (h:W.ownsRow B e k a n xs) (h':W.ownsRow B e' k' b n' xs') (hne:e≠e') (i:Nat) (hi:b.ownBlock=some i):¬a.ownBlock=some i:=by
 intro ha;rcases h'.2 with ⟨rfl,_⟩ | ⟨g,cap,cur,rfl,_,h3,_⟩
 ·cases hi
 ·obtain rfl:g=i:=by simpa[Value.ownBlock]using hi
  exact aR h (show ah W g e' cur from h3) hne g ha rfl
theorem mz.head (h:mz sb lb hb w W dp N area fv v hv vals ys l) (hs:cM hb hv hv' W W') (hbx:ah W' hb 122 #[hv']) (ho:W'.ownsRow (w.heap.size+4) 5 1 hv' l'.length (l'.map aj)):mz sb lb hb w W' dp N area fv v hv' vals ys l':=by
 have k:∀ {g:Nat} {t:TypeId} {cs:Array Value},ah W g t cs→t≠122→t≠5→ah W' g t cs:=fun hg h1 h2=>hs.FV h.oh hg (ah.xl hg h.bh h1) h2
 refine⟨k h.bd (by decide) (by decide),k h.bp (by decide) (by decide),k h.ba (by decide) (by decide),k h.bf (by decide) (by decide),k h.bs (by decide) (by decide),aq hs.out h.os (fun g hg hd=>?_),k h.bl (by decide) (by decide),hbx,ho,
  h.st.keep (fun g t cs ht hg=>k hg (by rcases ht with rfl | rfl<;>decide) (by rcases ht with rfl | rfl<;>decide)),?_,h.s4,h.h4⟩
 ·rcases hd with rfl | hd
  ·exact aR h.os h.bh (by decide) g hg rfl
  ·exact own_ne h.oh h.os (by decide) g hg hd
 ·exact h.below.trans (hs.out.below h.below.size (fun i hi hd=>hd.elim (fun e=>by have:=h.h4;omega) (fun e=>by have:=(h.oh.lt i e).1;omega)))
theorem mz.lay (h:mz sb lb hb w W dp N area fv v hv vals ys l) {u:Value} {y:cg} (hs:cM sb v v' W W') (hbx:ah W' sb 115 #[v']) (ho:W'.ownsRow (w.heap.size+4) 84 1 v' (vals++[u]).length (vals++[u])) (hu:qz W' w.heap.size u y):mz sb lb hb w W' dp N area fv v' hv (vals++[u]) (ys++[y]) l:=by
 have k:∀ {g:Nat} {t:TypeId} {cs:Array Value},ah W g t cs→t≠115→t≠84→ah W' g t cs:=fun hg h1 h2=>hs.FV h.os hg (ah.xl hg h.bs h1) h2
 refine⟨k h.bd (by decide) (by decide),k h.bp (by decide) (by decide),k h.ba (by decide) (by decide),k h.bf (by decide) (by decide),hbx,ho,k h.bl (by decide) (by decide),k h.bh (by decide) (by decide),aq hs.out h.oh (fun g hg hd=>?_),
  (h.st.keep (fun g t cs ht hg=>k hg (by rcases ht with rfl | rfl<;>decide) (by rcases ht with rfl | rfl<;>decide))).snoc hu,?_,h.s4,h.h4⟩
 ·rcases hd with rfl | hd
  ·exact aR h.oh h.bs (by decide) g hg rfl
  ·exact own_ne h.os h.oh (by decide) g hg hd
 ·exact h.below.trans (hs.out.below h.below.size (fun i hi hd=>hd.elim (fun e=>by have:=h.s4;omega) (fun e=>by have:=(h.os.lt i e).1;omega)))
theorem Hy {P:Program} (w:World) (g:Nat) (t ty:TypeId) (old v:Value) (hg:ah w g t #[old]) (hi:(P.info? ty).map (·.size)=some 1) (hv:v.cells=#[v]) (h1:v.oneCell'=true) :
 (Instr.storeAt ty (.pointer (some ⟨g,0,none⟩)) v).run P w=.ok () (w.setCell ⟨g,0,none⟩ v):=by
 have hc:=hg.ag 0 rfl;have hf:=hg.frozen 0;obtain⟨i,hi',hn⟩:=iE.1 hi;have hs:(storeCells ⟨g,0,none⟩ [v]).run P w=.ok () (w.setCell ⟨g,0,none⟩ v):=by
  have:=run_store P w ⟨g,0,none⟩ v .plain h1;rw[hc]at this;simp only[hf]at this;simp[storeCells,Addr.add,this]
 simp[Instr.storeAt,Instr.sureAddr,storeVar,hv,run_sizeOf w hi',Program.cellsOf,hi',hn,hs,Result.andThen]
theorem wpList_store_one {P:Program} {ops:Array Oper} {rest:List Oper} {o:Oper} {a:Act} {w:World} {Q:Exit→Act→World→Prop} (hgd:o.guard=none) (ty:TypeId) (x y:Operand) (ho:o.op=.store ty x y)
 (g:Nat) (t:TypeId) (old v:Value) (hx:a.eval x=.pointer (some ⟨g,0,none⟩)) (hy:a.eval y=v) (hg:ah w g t #[old]) (hi:(P.info? ty).map (·.size)=some 1) (hv:v.cells=#[v]) (h1:v.oneCell'=true)
 (h:wpList P ops Q rest (a.put o.dst undef) (w.setCell ⟨g,0,none⟩ v)):wpList P ops Q (o::rest) a w :=
 kP hgd fun _ hK=>by
  unfold Oper.wp execOp;simp only[ho,hx,hy,Hy w g t ty old v hg hi hv h1,Sem.run_bind,Sem.run_pure,Result.andThen_ok];exact hK _ _ h
theorem Z9 (w:World) (t:TypeId) (old v:Value):(w.alloc (.cells #[old] t)).setCell ⟨w.heap.size,0,none⟩ v=w.alloc (.cells #[v] t):=by
 rw[setCell_eq_setRow _ w.heap.size 0 #[old] t (0,0) v (bC w _),di];rfl
theorem wpList_append_grows (w:World) {ops:Array Oper} {rest:List Oper} {o:Oper} {a:Act} {Q:Exit→Act→World→Prop} (hgd:o.guard=none) (s x:Operand)
 (ho:o.op=.call {callee:=.builtin .append,args:=#[s,x],argTypes:=#[26,26]})
 (b:Addr) (n cap:Nat) (olds:List UInt8) (hs:a.eval s=.slice (some b) n cap) (hlo:olds.length=n) (holds:∀j u,(olds.map aj)[j]? = some u→w.cell? (b.add j)=some u)
 (A:Addr) (m c:Nat) (l:List UInt8) (hx:a.eval x=.slice (some A) m c) (hm:l.length=m) (hnews:∀j u,(l.map aj)[j]? = some u→w.cell? (A.add j)=some u) (hg:cap<n+m) (hbytes:n+m≤1000000)
 (h:∀v' w',w'.ownsRow w.heap.size 5 1 v' (n+m) (olds.map aj++l.map aj)→w.grownBy w' none→wpList Tryz.prog ops Q rest (a.put o.dst v') w'):wpList Tryz.prog ops Q (o::rest) a w:=by
 obtain⟨i0,hi0,hz0,hz1,hz2⟩:=iH jg;refine kP hgd fun _ hK=>?_;obtain⟨v',w',hrun,h2,h3⟩:=run_append_arg_grows (P:=Tryz.prog) w 26 o.type 5 i0 (.int .u8 0) 1 1 eU hi0 hz0 hz1 hz2 rfl (by omega) b n cap (olds.map aj) (by simp[hlo]) holds A m c (l.map aj) (by simp[hm]) hnews hg (by unfold maxLen;omega) (by omega);unfold Oper.wp execOp;simp only[ho,resolve,invoke,builtin,Sem.run_bind,Sem.run_pure,Result.andThen_ok,List.map_toArray,List.map_cons,List.map_nil,hs,hx,hrun];exact hK _ _ (h v' w' h2 h3)
theorem Hz (g r n:Nat) (t:TypeId) (mg:List UInt8) (hmg:mg.length=4) (w:World) (hn:(n:Int)≤9223372036854775807) (hc:ah w g t #[.slice (some ⟨r,0,none⟩) 4 4]) (ht:t≠5) (hr:r<w.heap.size)
 (hm:∀j u,(mg.map aj)[j]? = some u→w.cell? ⟨r,j,none⟩=some u) :
 Calls Tryz.prog 55 #[ptr g,.int .i64 n,.int .i64 8] w fun e w'=>e=.returned (.tuple #[])∧∃v',ah w' g t #[v']∧w'.ownsRow w.heap.size 5 1 v' (mg++leB n 8).length ((mg++leB n 8).map aj)∧cM g (.slice (some ⟨r,0,none⟩) 4 4) v' w w':=by
 have HP:=ae (FK n 8 w (.inr (.inr rfl)) (fun h=>absurd h (by decide)) hn);have HC:=ae hc;have hke:(leB n 8).length=8:=bJ n 8;unfold ptr;clear hc hn;go_enter Tryz.func55,Tryz.ntmps55
 go_wp2_with fail;refine HP.out.mono ?_;rintro e w1 ⟨v1,rfl,hv1,hb⟩;obtain⟨g1,uj,e1,hg1,hl1⟩:=lM hv1 (by omega);subst e1;have hu:=BytesIn.own hv1;have Er:=ae (HC.out.below hb HC.out.lt);have c1:=Er.out.ag 0 rfl;have hlt:=Er.out.lt;have hsz:=hb.size;have hnews:∀j u,((leB n 8).map aj)[j]? = some u→w1.cell? ((⟨g1,0,none⟩:Addr).add j)=some u:=by
  intro j u hj;rw[dV]at hj;obtain⟨c,hcj,rfl⟩:=iE.1 hj;obtain⟨g2,off,h,_,hcell⟩:=hu.at_ hcj;cases h
  rw[eP];exact hcell
 have holds:∀j u,(mg.map aj)[j]? = some u→w1.cell? ((⟨r,0,none⟩:Addr).add j)=some u:=by
  intro j u hj;rw[eP,cW];exact(hb.cell (p:=⟨r,j,none⟩) hr).trans (hm j u hj)
 clear hu hm;have AG:=ae hb;have uo:=ae hke;clear hv1 hke hb;go_wp2_with (at_builtin;refine wpList_append_grows w1 rfl _ _ rfl ⟨r,0,none⟩ 4 4 mg rfl hmg holds ⟨g1,0,none⟩ 8 uj (leB n 8) rfl uo.out hnews (by omega) (by omega) ?_;intro v2 w2 hO2 hg2;obtain⟨g2,cap2,rfl,amD,amE⟩:=lM hO2 (by omega);have cc:ah w2 g t #[.slice (some ⟨r,0,none⟩) 4 4]:=(hg2.block g hlt (fun e=>by cases e)).trans Er.out;have c2:=cc.ag 0 rfl;have f2:=cc.frozen 0)
 have hO3:=aq (F:=fun i=>i=g) (bk (v:=.slice (some ⟨g2,0,none⟩) (4+8) cap2) (i:=0) rfl) hO2 (aR hO2 cc (fj ht));have hb:=AG.out;have hk2:=cc.br 0 (.slice (some ⟨g2,0,none⟩) (4+8) cap2);refine jE (v:=.tuple #[]) (by simp[results,Tryz.results55,go_sem]) rfl ⟨rfl,_,hk2,?_,⟨⟨hg2.os.trans hb.os,hg2.tape.trans hb.tape,hg2.output.trans hb.output,by have:=hg2.size;have:=hb.size;simp;omega,fun i hi hn=>?_⟩,fun i hi=>?_⟩⟩
 ·rw[bX,hmg,uo.out,cK];obtain⟨q1,q2⟩:=hO3;exact⟨q1,q2.imp id (by rintro⟨a,b,c,d,e,f⟩;exact⟨a,b,c,d,by omega,f⟩)⟩
 ·exact(gE w2 _ _ _ (fun e=>hn (.inl e))).trans ((hg2.block i (by omega) (fun e=>by cases e)).trans (hb.block i hi))
 ·have:g2=i:=by simpa[Value.ownBlock]using hi
  subst this;exact .inr (by omega)
end Go.Proofs.YtdpniceapmikpaaGreat
namespace Go.Proofs.YtdpniceapmikpaaGreat
open Go.RowKit Go.Shelf
theorem aaM {α:Type} {P:Program} {c n:Nat} {g:Operand} {ps:Array Tmp} {assign body:Code} {Q:Exit→Act→World→Prop} {a:Act} {w:World} {gf:Nat} {lb:Array Value} (upd:α→Nat→Array Value→Array Value) (PX:α→Nat→World→Prop)
 (hg:a.eval g=.func (.func gf) #[] lb) (hgf:∀args w,(callFunc gf args).run P w=.ok (.enter gf args) w)
 {encs:α→Array Value} {Kp:World→World→Prop} {S Sp:List α→Prop} {N:Nat} (hseq:Pg c (n-1) P gf lb encs Kp S Sp N w)
 (hKt:∀ {A B C:World},Kp A B→Kp B C→Kp A C) (hKb:∀ (W:World) (o o':Obj),W.heap[w.heap.size+1]? = some o→o.isCells=false→Kp W (W.putObj (w.heap.size+1) o')) (hps:∀x,(encs x).size=ps.size)
 (I:List α→World→Prop) (Ix:Code→List α→World→Prop) (hI:jZ 2 c w.heap.size I) (hIx:∀j,jZ 2 c w.heap.size (Ix j)) (h0:I [] w) (hPX:∀x g,OwnFrom w.heap.size (fun(_:Unit) W=>PX x g W))
 (hassign:∀ (l:Nat) (pre:List α) (x:α) (W:World) (K:Act→World→Prop),I pre W→w.heap.size+2+c≤W.heap.size→(∀q W',KeepsFrom w.heap.size W W'→Kp W W'→I pre W'→PX x q W'→K {tmps:=upd x q a.tmps,defers:=[]} W') →
  assign.wpIn (Fence.wide.inRound l) (n-1-1) P (Exit.then K (fun _ _ _=>False)) {tmps:=(ps.zip (encs x)).foldl (fun t (p,v)=>t.setIfInBounds p v) a.tmps,defers:=[]} W)
 (hbody:∀ (l:Nat) (pre:List α) (x:α) (q:Nat) (W:World),I pre W→PX x q W→pre.length<N→w.heap.size+2+c≤W.heap.size→body.wpIn (Fence.wide.inRound l) (n-1-1) P (ownPostG w.heap.size Kp I Ix (pre++[x]) W) {tmps:=upd x q a.tmps,defers:=[]} W)
 (hdone:∀ (D:Nat) (xs:List α) (W:World),w.heap.size≤D→S xs→I xs W→W.heap[D]? = some (.deferred (some []))→Q .normal {a with defers := {target:=.collected D,args:=#[]}::a.defers} W)
 (hstop:∀ (D:Nat) (c:Code) (pre:List α) (W:World),w.heap.size≤D→Sp pre→Ix c pre W→W.heap[D]? = some (.deferred (some []))→c.wpIn Fence.wide n P Q {a with defers := {target:=.collected D,args:=#[]}::a.defers} W) :
 (Code.rangeFunc g ps assign body).wpIn Fence.wide n P Q a w :=
 SY hg hgf hseq hKt hKb hps I Ix hI hIx h0 (fun x a' W=>∃q,a' = {tmps:=upd x q a.tmps,defers:=[]}∧PX x q W)
  (fun x a' s A B row hs hg' hr=>by obtain⟨q,e,h⟩:=hs;exact⟨q,e,hPX x q s A B row h hg' hr⟩)
  (fun l pre x W K h1 h2 hK=>hassign l pre x W K h1 h2 (fun q W' k1 k2 k3 k4=>hK _ W' k1 k2 k3 ⟨q,rfl,k4⟩))
  (fun l pre x a' W h1 h2 h3 h4=>by obtain⟨q,rfl,h⟩:=h2;exact hbody l pre x q W h1 h h3 h4) hdone hstop
theorem aaN (p q:Nat) (u v:Value) (t:Array Value):(#[p,q].zip #[u,v]).foldl (fun t (x:Nat×Value)=>t.setIfInBounds x.1 x.2) t=(t.setIfInBounds p u).setIfInBounds q v:=by kernel_rfl
def ahT (R:Nat→Prop) (u:Value):Prop:=∀ (k:Nat) (d:Value) (gn gb:Nat),u=.func (.func k) #[] #[d,.pointer (some ⟨gn,0,none⟩),.pointer (some ⟨gb,0,none⟩)]→¬R gn∧¬R gb
structure VT (R:Nat→Prop) (v hv:Value) (vals:List Value):Prop where
 own:∀i,v.ownBlock=some i→¬R i
 head:∀i,hv.ownBlock=some i→¬R i
 vals:∀u∈vals,ahT R u
theorem mz.ahU {R:Nat→Prop} {sb lb hb:Nat} {w W:World} {dp:Nat} {N area:Int} {fv:Array Value} {v hv:Value} {vals:List Value} {ys:List cg} {l:List UInt8} (h:mz sb lb hb w W dp N area fv v hv vals ys l) (hR:∀r,R r→W.heap.size≤r):VT R v hv vals:=by
 refine⟨fun i hi hr=>?_,fun i hi hr=>?_,fun u hu k d gn gb e=>?_⟩
 ·have:=hR i hr;have:=gC h.os hi;omega
 ·have:=hR i hr;have:=gC h.oh hi;omega
 ·obtain⟨j,hj⟩:=Iz hu;have hjl:j<ys.length:=by rw[←h.st.1];exact(zn.1 hj).1
  obtain⟨gn',gb',e',h1,h2⟩:=h.st.2 j u _ hj (aY hjl);rw[e]at e';have l1:=h1.lt;have l2:=h2.lt;simp at e';obtain⟨_,_,rfl,rfl⟩:=e';exact⟨fun hr=>by have:=hR _ hr;omega,fun hr=>by have:=hR _ hr;omega⟩
theorem mz.abide {R:Nat→Prop} {sb lb hb:Nat} {w W W':World} {dp:Nat} {N area:Int} {fv:Array Value} {v hv:Value} {vals:List Value} {ys:List cg} {l:List UInt8} (h:mz sb lb hb w W dp N area fv v hv vals ys l) (hf:VT R v hv vals) {row:Option Nat}
 (hg:W.grownBy W' row) (hr:∀r,row=some r→w.heap.size≤r∧(R r∨∃o:Obj,W.heap[r]? = some o∧o.isCells=false)) (hR:¬R w.heap.size∧¬R (w.heap.size+1)∧¬R (w.heap.size+2)∧¬R (w.heap.size+3)∧¬R sb∧¬R lb∧¬R hb) :
 mz sb lb hb w W' dp N area fv v hv vals ys l:=by
 have same:∀g,¬R g→(∃o,W.heap[g]? = some o∧o.isCells=true)→W'.heap[g]? = W.heap[g]? :=fun g hn ⟨o,ho,hc⟩=>hg.block g (ee.1 ho).1 (fun e=>by
  rcases(hr g e.symm).2 with hh | ⟨o',ho',hc'⟩
  ·exact hn hh
  ·rw[ho]at ho';cases ho';rw[hc]at hc';cases hc')
 have k:∀ {g:Nat} {t:TypeId} {cs:Array Value},ah W g t cs→¬R g→ah W' g t cs:=fun hb hn=>(same _ hn ⟨_,hb,rfl⟩).trans hb
 have kr:∀ {B e n:Nat} {u:Value} {xs:List Value},W.ownsRow B e 1 u n xs→(∀i,u.ownBlock=some i→¬R i)→W'.ownsRow B e 1 u n xs:=by
  intro B e n u xs ho hn;obtain⟨hl,⟨rfl,h0⟩ | ⟨g,cap,cur,rfl,hB,hgg,hrest⟩⟩:=ho
  ·exact⟨hl,.inl ⟨rfl,h0⟩⟩
  ·exact⟨hl,.inr ⟨g,cap,cur,rfl,hB,(same g (hn g rfl) ⟨_,hgg,rfl⟩).trans hgg,hrest⟩⟩
 obtain⟨r0,r1,r2,r3,rs,rl,rh⟩:=hR;refine⟨k h.bd r0,k h.bp r1,k h.ba r2,k h.bf r3,k h.bs rs,kr h.os hf.own,k h.bl rl,k h.bh rh,kr h.oh hf.head,⟨h.st.1,fun j u y hu hy=>?_⟩,?_,h.s4,h.h4⟩
 ·obtain⟨gn,gb,e,h1,h2⟩:=h.st.2 j u y hu hy;obtain⟨n1,n2⟩:=hf.vals u (je hu) _ _ gn gb e;exact⟨gn,gb,e,k h1 n1,k h2 n2⟩
 ·exact h.below.grown hg h.below.size (fun r e=>(hr r e).1)
theorem cM.aaO {sb B B0 C n:Nat} {W W':World} {v v':Value} {xs:List Value} (hs:cM sb v v' W W') (hc:ah W sb 115 #[v]) (ho:W.ownsRow B 84 1 v n xs) (h1:B0≤sb) (h2:B0≤B):bH (fun _ t=>t=115∨t=84) B0 C W W':=by
 have hl:=hc.lt;refine⟨hs.out.os,hs.out.tape,hs.out.output,hs.out.size,fun i hi=>hs.out.block i (by omega) (fun hd=>hd.elim (fun e=>by omega) (fun e=>by have:=(ho.lt i e).1;omega)),fun k o _ hk hk2=>?_,fun i cs t fr ht hi=>?_⟩
 ·refine(hs.out.block k (ee.1 hk).1 (fun hd=>?_)).trans hk;rcases hd with rfl | e
  ·unfold ah at hc;rw[hk]at hc;cases hc
   cases hk2
  ·obtain⟨o',ho',hc'⟩:=s3 ho k e;rw[hk]at ho';cases ho'
   rw[hk2]at hc';cases hc'
 ·refine(hs.out.block i (kQ hi) (fun hd=>?_)).trans hi;rcases hd with rfl | e
  ·unfold ah at hc;rw[hi]at hc;cases hc
   exact ht (.inl rfl)
  ·rcases ho.2 with ⟨rfl,_⟩ | ⟨g,cap,cur,rfl,_,h3,_⟩
   ·cases e
   ·obtain rfl:g=i:=by simpa[Value.ownBlock]using e
    rw[hi]at h3;cases h3
    exact ht (.inr rfl)
theorem Ex {W:World} {B n c:Nat} {e:TypeId} {a:Option Addr} {xs:List Value} (h:W.ownsRow B e 1 (.slice a n c) n xs) {k:Nat} {u:Value} (hk:xs[k]? = some u):∃g,a=some ⟨g,0,none⟩∧B≤g∧W.cell? ⟨g,k,none⟩=some u:=by
 rcases h.2 with ⟨h0,h1⟩ | ⟨g,cap,cur,h0,hB,hg,h1,h2,h3,h4⟩
 ·have:=h.1;rw[h1]at this;have:xs=[]:=rO (by omega);rw[this]at hk;cases hk
 ·cases h0
  refine⟨g,rfl,hB,?_⟩;rw[mL W g k cur e (0,0) hg,←rQ];rw[←h4,dU]at hk;split at hk
  ·exact hk
  ·cases hk
def dn (x:ak) (ys:List cg):ak:=ys.foldl (fun x y=>x.write y.1.n y.1.b) x
theorem AH (x:ak) (ys:List cg) (y:cg):dn x (ys++[y])=(dn x ys).write y.1.n y.1.b:=by simp[dn]
theorem aE.free {w:World} {D:aX} {x:ak} (h:aE w D x) {g:Nat} {t:TypeId} {cs:Array Value} (hb:ah w g t cs) (h1:t≠152) (h2:t≠161):¬D.has g:=by
 rintro(e | e | hd | hd)
 ·exact ah.xl hb h.blk h1 e
 ·obtain⟨l,hm,_⟩:=h.lasts;exact xp hm hb e.symm
 ·exact aR h.waits hb (fj h2) g hd rfl
 ·rcases h.fails with ⟨e,_⟩ | ⟨r,k,e,h3,_⟩
  ·rw[e]at hd;cases hd
  ·rw[e]at hd;cases hd;exact xp h3 hb rfl
theorem bH.from {T:Nat→TypeId→Prop} {B C:Nat} {W W':World} (h:bH T B C W W'):KeepsFrom C W W':=⟨h.size,fun k o hk ho hc=>h.others k o hk ho hc⟩
attribute [local go_sem] kM
def oz (f:bY):List UInt8:=[67,72,76,71]++leB f.ed.toNat 8++leB f.bj.length 2++leB f.state.length 2++leB (dJ f.state).toNat 4
def lY (x:Int) (o:aK):List UInt8:=leB x.toNat 2++leB (dJ (fA (dL o))).toNat 4
def e_:List Int→List aK→List UInt8
 | x::l,o::m=>lY x o++e_ l m
 | _,_=>[]
theorem vT (f:bY):(oz f).length=20:=by simp[oz,bJ]
theorem AJ (l:List UInt8) (h:l.length≤508):(bM l).take 508=fA l:=by
 unfold bM dQ;rw[wi (by rw[nJ l h];exact ai _),dg (by rw[nJ l h];exact ai _)]
theorem Z_ (o:aK):o.cells.toArray.all (·.oneCell')=true:=by
 rw[jf,cx];intro v hv;rcases mq.1 hv with hv | hv
 ·simp at hv;rcases hv with rfl | rfl | rfl<;>rfl
 ·rcases mq.1 hv with hv | hv
  ·obtain⟨k,_,hk⟩:=zI.1 hv;simp[bx.cells]at hk;rcases hk with rfl | rfl | rfl | rfl | rfl | rfl<;>rfl
  ·exact iV _ v hv
theorem aaP:Tryz.zeroCells62.size=163:=by kernel_rfl
theorem S5:(Tryz.prog.info? 62).map (·.size)=some 163:=by kernel_rfl
def AK (b:List UInt8):mY:=if h:b.length=512 then ⟨b,h⟩ else ⟨az,bA⟩
theorem yc (b:List UInt8) (h:b.length=512):(AK b).1=b:=by unfold AK;rw[dif_pos h]
def vi (N k a i:Int) (s:mY):cg:=⟨⟨(aJ N k a i).1,s.1⟩,s.2⟩
def gj (N a:Int) (l:List aK):List cg:=l.zipIdx.map fun x=>vi N 4 a x.2 (AK (bM (dL x.1)))
theorem yV (N a:Int) (l:List aK) (o:aK):gj N a (l++[o])=gj N a l++[vi N 4 a l.length (AK (bM (dL o)))]:=by simp[gj,List.zipIdx_append]
theorem pN {α:Type} (l:List α) (j:Nat) (h:j<l.length):l.take (j+1)=l.take j++[l[j]'h]:=by rw[gG,aY h];rfl
theorem s9:∀ (l:List Int) (m:List aK) (x:Int) (o:aK),l.length=m.length→e_ (l++[x]) (m++[o])=e_ l m++lY x o
 | [],[],x,o,_=>by simp[e_]
 | y::l,p::m,x,o,h=>by
  show lY y p++e_ (l++[x]) (m++[o])=lY y p++e_ l m++lY x o;rw[s9 l m x o (by simpa using h),fS]
 | [],_::_,_,_,h=>by cases h
 | _::_,[],_,_,h=>by cases h
theorem Cm (x:Int) (o:aK):(lY x o).length=6:=by simp[lY,bJ]
theorem qA:∀ (l:List Int) (m:List aK),(e_ l m).length≤6*l.length
 | [],_=>by simp[e_]
 | _::_,[]=>by simp[e_]
 | x::l,o::m=>by
  have:=qA l m;show(lY x o++e_ l m).length≤6*(l.length+1);rw[bX,Cm];omega
theorem FW (N:Int):∀ (l:List Int) (m:List aK) (last:Int), -1≤last→gI N last l m=true→∀ (j:Nat) (x:Int) (o:aK),l[j]? = some x→m[j]? = some o→0≤x∧x<N∧fH o N=true
 | [],_,_,_,_,_,_,_,hx,_=>by cases hx
 | _::_,[],_,_,_,j,_,_,_,ho=>by cases ho
 | y::l,p::m,last,hl,h,j,x,o,hx,ho=>by
  have hh:(decide (last<y)&&(decide (y<N)&&(fH p N&&gI N y l m)))=true:=h;simp only[Bool.and_eq_true,decide_eq_true_eq]at hh;obtain⟨h1,h2,h3,h4⟩:=hh;cases j with
  | zero =>
   obtain rfl:y=x:=by simpa using hx
   obtain rfl:p=o:=by simpa using ho
   exact⟨by omega,h2,h3⟩
  | succ j=>exact FW N l m y (by omega) h4 j x o (by simpa using hx) (by simpa using ho)
def oA (f:bY):List UInt8:=oz f++e_ f.bj f.objs
def cu (N a:Int) (f:bY):List cg:=gj N a f.objs++(pw f.state).map (fun y=>vi N 3 a y.1.1 y.2)++[vi N 2 a 0 (AK (bM (oA f)))]
end Go.Proofs.YtdpniceapmikpaaGreat
namespace Go.Proofs.YtdpniceapmikpaaGreat
open Go.RowKit Go.Shelf
attribute [local go_sem] kM
def dY:ak→List cg→ak×Int
 | x,[]=>(x,0)
 | x,y::ys=>if x.err y.1.n=0 then dY (x.write y.1.n y.1.b) ys else (x.write y.1.n y.1.b,x.err y.1.n)
section
variable {l:Nat} {J:Act→World→Prop} {Q:Exit→Act→World→Prop} {a:Act} {w:World}
@[go_sem] theorem aeb:Exit.jump l J Q .normal a w=Q .normal a w:=rfl
@[go_sem] theorem ae9 (id:Nat):Exit.jump l J Q (.exit id) a w=Q (.exit id) a w:=rfl
@[go_sem] theorem Kw:Exit.jump l J Q .ret a w=Q .ret a w:=rfl
@[go_sem] theorem ael (ch:List PanicEntry):Exit.jump l J Q (.panic ch) a w=Q (.panic ch) a w:=rfl
end
theorem Ey (n:Nat) (hn:6≤n) (D:aX) (x:ak) (N area:Int) (f:bY) (fv:Value) (w:World) (h:aE w D x) (hx:x.ok) (hf:cL w w.heap.size fv f) (bU:da N x.size area=true) (hfr:gh N f=true) (hed:f.ed≤9223372036854775807) (hcap:∀a c,(∃x y z,fv=.agg #[x,y,z,.slice a f.state.length c])→c≤maxLen) (hgo:∀k,k≤(cu N area f).length→(dn x ((cu N area f).take k)).ok) :
 CallsIn Fence.wide n Tryz.prog 18 #[ptr D.p,.agg #[.int .i64 N],.int .i64 area,fv] w fun e w'=>e=.returned (.int .i64 (dY x (cu N area f)).2)∧∃D',aE w' D' (dY x (cu N area f)).1∧DStep D D' w w':=by
 have ahV:=ae hgo;clear hgo;have HA:=ae (fun w' h'=>jL D x N area w' h' hx);have HF:=ae (fun w' h'=>Ep N f fv w' h');rw[bU]at HA;rw[hfr]at HF;have HD:=ae h;have NU:=ae hf;obtain⟨vo,vb,vs,ev,i1,i2,i3⟩:=hf;obtain⟨hR,hpre,hrows⟩:aZ N=true∧fu N f.ed f.bj.length f.objs.length f.state.length=true∧gI N (-1) f.bj f.objs=true:=by
  unfold gh at hfr;simpa only[Bool.and_eq_true]using hfr
 have hN:1≤N∧N≤64:=by simpa[aZ]using hR
 obtain⟨p1,p2,p3,p4⟩:0≤f.ed∧f.bj.length=f.objs.length∧(f.bj.length:Int)≤N∧f.state.length≤4096:=by
  simp[fu]at hpre;omega
 have p5:f.ed≤9223372036854775807:=hed;obtain⟨_,ao,co,eo,i1c,_⟩:=id i1;obtain⟨_,aw,cs,es,i3c,_⟩:=id i3;have ahW:f.state.length≤cs∧cs≤maxLen:=⟨i3c,hcap aw cs ⟨_,_,_,by rw[ev,es]⟩⟩;obtain⟨_,ab,cb,eb,i2c,_⟩:=id i2;subst eb;subst eo;subst es;obtain⟨ed,C1⟩:∃ed:Nat,f.ed=(ed:Int):=⟨f.ed.toNat,by omega⟩;rw[C1]at ev p5;subst ev;have S6:=ae C1;have HI1:=ae i1;have HI2:=ae i2;have HI3:=ae i3;have Gm:=ae p2;have BK:=ae hrows;unfold ptr at *;clear h i1 i2 i3 C1 p2 hrows hpre hR p1;have hro:Fence.wide.round=none:=rfl;refine zx Tryz.func18 rfl trivial ?_ hro;simp only[Tryz.ntmps18,List.size_toArray,List.length_cons,List.length_nil,Nat.reduceAdd,Nat.reduceSub,Array.replicate_succ,Array.replicate_zero,List.push_toArray,List.append_toArray,List.nil_append,List.cons_append];refine fV.2 ?_;go_wp2_with fail;refine wp_scope_jumps 0 (fun a w'=>∃e,a.tmps.size=137∧a.tmps[9]? = some e∧LeavesInM Fence.wide n Tryz.prog Tryz.f18 ((a.tmps.setIfInBounds 136 e).setIfInBounds 8 e) (fun e w'=>e=.returned (.int .i64 (dY x (cu N area f)).2)∧∃D',aE w' D' (dY x (cu N area f)).1∧DStep D D' w w') a.defers .returning w') (fun _ _=>0) rfl ?first ?pass
 case pass =>
  rintro a w' ⟨e,hsz,he,hL⟩;obtain⟨T,d⟩:=a;simp only at hsz he hL;have amF:(136:Nat)<T.size:=by omega
  have e9:T[9]'(by omega)=e:=gH ((uZ (by omega)).symm.trans he);clear he;go_wp2_with fail;rw[Kw];try rw[e9]
  exact hL
 go_wp2_with fail;obtain⟨V,eV⟩:∃V,V=(((w.alloc (.cells #[.pointer (some ⟨D.p,0,none⟩)] 37)).alloc (.cells #[.int .i64 N] 23)).alloc (.cells #[.int .i64 area] 3)).alloc (.cells #[.int .i64 (ed:Int),.slice ao f.bj.length co,.slice ab f.objs.length cb,.slice aw f.state.length cs] 28):=⟨_,rfl⟩;have hV:Below w.heap.size w V:=by rw[eV];exact((((ax _ w).alloc (ai _) _).alloc (by simp) _).alloc (by simp;omega) _).alloc (by simp;omega) _
 have b0:ah V w.heap.size 37 #[.pointer (some ⟨D.p,0,none⟩)]:=by rw[eV];exact(((ah.new w _ _).alloc _).alloc _).alloc _
 have b1:ah V (w.heap.size+1) 23 #[.int .i64 N]:=by rw[eV];exact((ah.new2 w _ _ _).alloc _).alloc _
 have b2:ah V (w.heap.size+2) 3 #[.int .i64 area]:=by rw[eV];exact(ah.new' (by simp)).alloc _
 have b3:ah V (w.heap.size+3) 28 #[.int .i64 (ed:Int),.slice ao f.bj.length co,.slice ab f.objs.length cb,.slice aw f.state.length cs]:=by rw[eV];exact ah.new' (by simp)
 have hVs:V.heap.size=w.heap.size+4:=by rw[eV];simp
 rw[←eV];clear eV;refine(HA.out V (HD.out.below hV)).mono ?_;rintro e w1 ⟨rfl,hb1⟩;have c3:=(b3.below hb1 b3.lt).ag 0 rfl;have NV:=(b3.below hb1 b3.lt).ag 1 rfl;have c3c:=(b3.below hb1 b3.lt).ag 2 rfl;have c3d:=(b3.below hb1 b3.lt).ag 3 rfl;have c1:=(b1.below hb1 b1.lt).ag 0 rfl;go_wp2_with fail;refine(HF.out w1 ((NU.out.below (hV.trans (hb1.mono hV.size)) (ai _)).mono (by have:=hV.size;have:=hb1.size;omega))).mono ?_;rintro e w2 ⟨rfl,hb2⟩;have hbb:Below V.heap.size V w2:=hb1.trans (hb2.mono hb1.size);have AG:=ae hbb;clear c3 NV c3c c3d c1;have o1:(Value.func (.func 52) #[] #[.pointer (some ⟨w2.heap.size,0,none⟩),.pointer (some ⟨w.heap.size,0,none⟩)]).oneCell'=true:=rfl;have e1:=Z9 (w2.alloc (.cells #[.slice none 0 0] 115)) 117 .nilFunc (.func (.func 52) #[] #[.pointer (some ⟨w2.heap.size,0,none⟩),.pointer (some ⟨w.heap.size,0,none⟩)]);rw[iF]at e1;have cv:=Lib.run_convert_bytes_const (P:=Tryz.prog) ((w2.alloc (.cells #[.slice none 0 0] 115)).alloc (.cells #[.func (.func 52) #[] #[.pointer (some ⟨w2.heap.size,0,none⟩),.pointer (some ⟨w.heap.size,0,none⟩)]] 117)) 26 5 #[.int .u8 67,.int .u8 72,.int .u8 76,.int .u8 71] 4 4 eU oK;rw[iF,iF]at cv;go_upto_region 9 with (refine wpList_store_one rfl 117 _ _ rfl (w2.heap.size+1) 117 .nilFunc (.func (.func 52) #[] #[.pointer (some ⟨w2.heap.size,0,none⟩),.pointer (some ⟨w.heap.size,0,none⟩)]) rfl rfl (ah.new2 w2 _ _ _) (by kernel_rfl) rfl o1 ?_;rw[e1])
 clear e1 o1 cv;obtain⟨W,eW⟩:∃W,W=(((w2.alloc (.cells #[.slice none 0 0] 115)).alloc (.cells #[(.func (.func 52) #[] #[.pointer (some ⟨w2.heap.size,0,none⟩),.pointer (some ⟨w.heap.size,0,none⟩)])] 117)).alloc (.cells #[.int .u8 67,.int .u8 72,.int .u8 76,.int .u8 71] 5 (4,5))).alloc (.cells #[.slice (some ⟨w2.heap.size+1+1,0,none⟩) 4 4] 122):=⟨_,rfl⟩;rw[←eW];have hm2:w.heap.size+4≤w2.heap.size:=by have:=AG.out.size;omega
 have hW:Below w2.heap.size w2 W:=by rw[eW];exact((((ax _ w2).alloc (ai _) _).alloc (by simp) _).alloc (by simp;omega) _).alloc (by simp;omega) _
 have hb:=AG.out;have K0:=(b0.below hb b0.lt).below hW (b0.below hb b0.lt).lt;have K1:=(b1.below hb b1.lt).below hW (b1.below hb b1.lt).lt;have K2:=(b2.below hb b2.lt).below hW (b2.below hb b2.lt).lt;have K3:=(b3.below hb b3.lt).below hW (b3.below hb b3.lt).lt;have KS:ah W w2.heap.size 115 #[.slice none 0 0]:=by rw[eW];exact(((ah.new w2 _ _).alloc _).alloc _).alloc _
 have KL:ah W (w2.heap.size+1) 117 #[.func (.func 52) #[] #[.pointer (some ⟨w2.heap.size,0,none⟩),.pointer (some ⟨w.heap.size,0,none⟩)]]:=by rw[eW];exact((ah.new2 w2 _ _ _).alloc _).alloc _
 have KH:ah W (w2.heap.size+1+1+1) 122 #[.slice (some ⟨w2.heap.size+1+1,0,none⟩) 4 4]:=by rw[eW];exact ah.new' (by simp)
 have KM:W.heap[w2.heap.size+1+1]? = some (.cells #[.int .u8 67,.int .u8 72,.int .u8 76,.int .u8 71] 5 (4,5)):=by
  rw[eW];refine(si _ _ _ (by simp)).trans ?_;have:=bC ((w2.alloc (.cells #[.slice none 0 0] 115)).alloc (.cells #[.func (.func 52) #[] #[.pointer (some ⟨w2.heap.size,0,none⟩),.pointer (some ⟨w.heap.size,0,none⟩)]] 117)) (.cells #[.int .u8 67,.int .u8 72,.int .u8 76,.int .u8 71] 5 (4,5));rw[iF,iF]at this;exact this
 have hbW:Below w.heap.size w W:=hV.trans ((hb.mono hV.size).trans (hW.mono (by omega)));clear eW;clear HF HA;have p5':(ed:Int)≤9223372036854775807:=p5;generalize w2.heap.size=m2 at *;have HKM:=ae (show ∀j u,([67,72,76,71].map aj)[j]? = some u→W.drew.cell? ⟨m2+1+1,j,none⟩=some u from fun j u hj=>by
  rw[mL W.drew (m2+1+1) j _ _ _ KM];have e:(#[.int .u8 67,.int .u8 72,.int .u8 76,.int .u8 71]:Array Value).toList=[67,72,76,71].map aj:=rfl;rw[←rQ,e];exact hj)
 refine pY ?_;refine bF (S:=(fun w'=>w'.cell? ⟨w.heap.size+3,0,none⟩=some (.int .i64 (ed:Int))∧w'.cell? ⟨w.heap.size+3,1,none⟩=some (.slice ao f.bj.length co)∧w'.cell? ⟨w.heap.size+3,3,none⟩=some (.slice aw f.state.length cs))) (by kernel_rfl) (by(try dsimp only);(first | exact⟨K3.drew.ag 0 rfl,K3.drew.ag 1 rfl,K3.drew.ag 3 rfl⟩ | exact⟨KF.ag 0 rfl,KF.ag 1 rfl,KF.ag 3 rfl⟩)) (fun hHeld=>?_);refine tk 0 ?_;refine tk 1 ?_;refine tk 2 ?_;refine tk 3 ?_;refine tk 4 ?_;refine rd 5 fun K hK=>?_;go_simp
 (refine(Hz (m2+1+1+1) (m2+1+1) ed 122 [67,72,76,71] rfl W.drew p5 KH.drew (by decide) (kQ KM) HKM.out).mono ?_;rintro e w3 ⟨rfl,v3,hb3,ho3,hs3⟩;have KF:=hs3.out.blk K3.drew (fun hd=>hd.elim (fun e=>by omega) (fun e=>by simp[Value.ownBlock]at e;omega)))
 go_wp2_with fail;refine hK.out _ _ (by(try dsimp only);(first | exact⟨K3.drew.ag 0 rfl,K3.drew.ag 1 rfl,K3.drew.ag 3 rfl⟩ | exact⟨KF.ag 0 rfl,KF.ag 1 rfl,KF.ag 3 rfl⟩)) (fun hHeld=>?_);clear hK K;refine aT ?_;refine nz ?_;have H3:mz m2 (m2+1) (m2+1+1+1) w w3 D.p N area #[.int .i64 (ed:Int),.slice ao f.bj.length co,.slice ab f.objs.length cb,.slice aw f.state.length cs] (.slice none 0 0) v3 [] [] ([67,72,76,71]++leB ed 8):=by
  have far:∀ {g:Nat} {t:TypeId} {cs:Array Value},ah W g t cs→g≠m2+1+1+1→g≠m2+1+1→ah w3 g t cs:=fun hg h1 h2=>hs3.out.blk hg.drew (fun hd=>hd.elim h1 (fun e=>h2 (by simpa[Value.ownBlock]using e.symm)))
  have hWs:=hbW.size;have hlM:=KH.lt;exact⟨far K0 (by omega) (by omega),far K1 (by omega) (by omega),far K2 (by omega) (by omega),far K3 (by omega) (by omega),far KS (by omega) (by omega),km _ _ _ _,far KL (by omega) (by omega),hb3,
   by obtain⟨q1,q2⟩:=ho3;exact⟨q1,q2.imp id (by rintro⟨a,b,c,d,e,f⟩;exact⟨a,b,c,d,by have:W.drew.heap.size≤a:=e;have:W.drew.heap.size=W.heap.size:=rfl;omega,f⟩)⟩,⟨rfl,fun j u y hu=>by cases hu⟩,
   hbW.drew.trans (hs3.out.below hbW.size (fun i hi hd=>hd.elim (fun e=>by omega) (fun e=>by simp[Value.ownBlock]at e;omega))),hm2,by omega⟩
 have H3:=ae H3;clear K0 K1 K2 K3 KS KL KH KM HKM hbW hs3 hb3 ho3 KF;have GK:=ae (H3.out.far (ax w3.heap.size w3).drew);have xt:=ae (And.intro (GK.out.bf.ag 0 rfl) (And.intro (GK.out.bf.ag 1 rfl) (GK.out.bf.ag 3 rfl)));go_upto_region 10 with fail;refine pY ?_;refine bF (S:=(fun w'=>w'.cell? ⟨w.heap.size+3,0,none⟩=some (.int .i64 (ed:Int))∧w'.cell? ⟨w.heap.size+3,1,none⟩=some (.slice ao f.bj.length co)∧w'.cell? ⟨w.heap.size+3,3,none⟩=some (.slice aw f.state.length cs))) (by kernel_rfl) (by(try dsimp only);(first | exact xt.out | exact⟨Kx.ag 0 rfl,Kx.ag 1 rfl,Kx.ag 3 rfl⟩)) (fun hHeld=>?_);refine tk 0 ?_;refine tk 1 ?_;refine tk 2 ?_;refine tk 3 ?_;refine tk 4 ?_;refine tk 5 ?_;refine rd 6 fun K hK=>?_;go_simp
 (refine(oY (m2+1+1+1) (w.heap.size+4) (f.bj.length) 2 122 v3 _ _ (.inl rfl) (fun _=>by simp;omega) (by omega) GK.out.bh (by decide) GK.out.oh (by simp[bJ]) GK.out.sz).mono ?_;rintro e w4 ⟨rfl,v4,hb3,ho3,hs3⟩;have S7:=ae (GK.out.head hs3 hb3 ho3);have Kx:=S7.out.bf)
 go_wp2_with fail;refine hK.out _ _ (by(try dsimp only);(first | exact xt.out | exact⟨Kx.ag 0 rfl,Kx.ag 1 rfl,Kx.ag 3 rfl⟩)) (fun hHeld=>?_);clear hK K;refine aT ?_;refine nz ?_;have H4:=S7;clear GK xt H3 S7 Kx hb3 ho3 hs3;have GL:=ae (H4.out.far (ax w4.heap.size w4).drew);have Av:=ae (And.intro (GL.out.bf.ag 0 rfl) (And.intro (GL.out.bf.ag 1 rfl) (GL.out.bf.ag 3 rfl)));go_upto_region 11 with fail;refine pY ?_;refine bF (S:=(fun w'=>w'.cell? ⟨w.heap.size+3,0,none⟩=some (.int .i64 (ed:Int))∧w'.cell? ⟨w.heap.size+3,1,none⟩=some (.slice ao f.bj.length co)∧w'.cell? ⟨w.heap.size+3,3,none⟩=some (.slice aw f.state.length cs))) (by kernel_rfl) (by(try dsimp only);(first | exact Av.out | exact⟨Ky.ag 0 rfl,Ky.ag 1 rfl,Ky.ag 3 rfl⟩)) (fun hHeld=>?_);refine tk 0 ?_;refine tk 1 ?_;refine tk 2 ?_;refine tk 3 ?_;refine tk 4 ?_;refine tk 5 ?_;refine rd 6 fun K hK=>?_;go_simp
 (refine(oY (m2+1+1+1) (w.heap.size+4) (f.state.length) 2 122 v4 _ _ (.inl rfl) (fun _=>by simp;omega) (by omega) GL.out.bh (by decide) GL.out.oh (by simp[bJ]) GL.out.sz).mono ?_;rintro e w5 ⟨rfl,v5,hb4,mm,hs4⟩;have Ez:=ae (GL.out.head hs4 hb4 mm);have Ky:=Ez.out.bf)
 go_wp2_with fail;refine hK.out _ _ (by(try dsimp only);(first | exact Av.out | exact⟨Ky.ag 0 rfl,Ky.ag 1 rfl,Ky.ag 3 rfl⟩)) (fun hHeld=>?_);clear hK K;refine aT ?_;refine nz ?_;have H5:=Ez;clear GL Av H4 Ez Ky hb4 mm hs4;have hc32:=(dJ f.state).isLt;have hwc:IntKind.i64.wrap (((dJ f.state).toNat:Nat):Int)=((dJ f.state).toNat:Int):=by rw[cz];omega
 have AL:=ae (H5.out.far (ax w5.heap.size w5).drew);have AM:=ae (And.intro (AL.out.bf.ag 0 rfl) (And.intro (AL.out.bf.ag 1 rfl) (AL.out.bf.ag 3 rfl)));go_upto_region 12 with fail;refine pY ?_;refine bF (S:=(fun w'=>w'.cell? ⟨w.heap.size+3,0,none⟩=some (.int .i64 (ed:Int))∧w'.cell? ⟨w.heap.size+3,1,none⟩=some (.slice ao f.bj.length co)∧w'.cell? ⟨w.heap.size+3,3,none⟩=some (.slice aw f.state.length cs))) (by kernel_rfl) (by(try dsimp only);(first | exact AM.out | exact Pk.out | exact⟨Cn.ag 0 rfl,Cn.ag 1 rfl,Cn.ag 3 rfl⟩)) (fun hHeld=>?_);refine tk 0 ?_;refine tk 1 ?_;refine tk 2 ?_;refine tk 3 ?_;refine tk 4 ?_;refine rd 5 fun K hK=>?_;go_simp
 (refine(rf _ f.state _ ((HI3.out.below AL.out.below (ai _)).mono AL.out.below.size)).mono ?_;rintro e wc5 ⟨rfl,aaQ⟩;have GM:=ae (AL.out.far aaQ);have Pk:=ae (And.intro (GM.out.bf.ag 0 rfl) (And.intro (GM.out.bf.ag 1 rfl) (GM.out.bf.ag 3 rfl))))
 go_wp2_with fail;refine hK.out _ _ (by(try dsimp only);(first | exact AM.out | exact Pk.out | exact⟨Cn.ag 0 rfl,Cn.ag 1 rfl,Cn.ag 3 rfl⟩)) (fun hHeld=>?_);clear hK K;refine tk 6 ?_;refine rd 7 fun K hK=>?_;go_simp
 (refine(oY (m2+1+1+1) (w.heap.size+4) ((dJ f.state).toNat) 4 122 v5 _ _ (.inr (.inl rfl)) (fun _=>by simp;omega) (by omega) GM.out.bh (by decide) GM.out.oh (by simp[bJ]) GM.out.sz).mono ?_;rintro e w6 ⟨rfl,v6,hb5,jh,hs5⟩;have HN5:=ae (GM.out.head hs5 hb5 jh);have Cn:=HN5.out.bf)
 go_wp2_with fail;refine hK.out _ _ (by(try dsimp only);(first | exact AM.out | exact Pk.out | exact⟨Cn.ag 0 rfl,Cn.ag 1 rfl,Cn.ag 3 rfl⟩)) (fun hHeld=>?_);clear hK K;refine aT ?_;refine nz ?_;have H6:=HN5;clear AL AM H5 HN5 Cn hb5 jh hs5 GM Pk aaQ hwc hc32;have e2:=H6.out.bf.ag 2 rfl;obtain⟨l6,Yb⟩:∃l6,l6=[67,72,76,71]++leB ed 8++leB f.bj.length 2++leB f.state.length 2++leB (dJ f.state).toNat 4:=⟨_,rfl⟩;rw[←Yb]at H6;have hl6:l6.length≤20:=by rw[Yb];simp[bJ]
 have HL6:=ae Yb;have HRA:=ae (FW N f.bj f.objs (-1) (by omega) BK.out);have hoL:f.objs.length≤64:=by have:=Gm.out;omega
 clear Yb;go_wp2_with fail;clear e2;go_loopw [70] (fun i wr=>∃ (j:Nat) (v hv:Value) (vals:List Value),j≤f.objs.length∧i=.int .i64 (j:Int)∧mz m2 (m2+1) (m2+1+1+1) w wr D.p N area #[.int .i64 (ed:Int),.slice ao f.bj.length co,.slice ab f.objs.length cb,.slice aw f.state.length cs] v hv vals (gj N area (f.objs.take j)) (l6++e_ (f.bj.take j) (f.objs.take j))) (fun i _=>f.objs.length-(intOf i).toNat)
 case atStart=>exact⟨0,_,_,_,fi _,rfl,by simpa[gj,e_]using H6.out⟩
 case round =>
  obtain⟨j,v,hv,vals,hj,rfl,hI⟩:=hrel;by_cases hlt:j<f.objs.length
  ·have hjo:j<f.bj.length:=by rw[Gm.out];exact hlt
   obtain⟨hok,hro,g,off,eab,hg,hrg⟩:=HI2.out.at_ (aY hlt);obtain⟨hx0,hxN,ky⟩:=HRA.out j _ _ (aY hjo) (aY hlt);obtain⟨g1,off1,eao,hg1,hc1⟩:=HI1.out.at_ (aY hjo);have HTo:=ae (pN f.objs j hlt);have HTx:=ae (pN f.bj j hjo);generalize f.objs[j]'hlt=o at *;generalize f.bj[j]'hjo=xo at *;have hrw:=dE hrg hI.below hg;have hsz:(Tryz.prog.info? 62).map (·.size)=some o.cells.length:=by rw[aK.len hok];exact S5
   have hsz2:(Tryz.prog.info? 62).map (·.size)=some o.cells.toArray.size:=by rw[b',aK.len hok];exact S5
   have hld:=sj (P:=Tryz.prog) wr g (off+j*163) 62 o.cells _ hrw dH rfl hsz;have Yc:=ae (Z_ o);have hzz:Tryz.zeroCells62.size=o.cells.toArray.size:=by rw[aaP,b',aK.len hok]
   have S8:=ae hzz;have hlt':(j:Int)<(f.objs.length:Int):=by omega
   have HI:=ae (hI.far ((ax _ wr).alloc (ai _) (.cells o.cells.toArray 62)));have e1:=HI.out.bp.ag 0 rfl;obtain⟨X,eX⟩:∃X,X=o.cells.toArray:=⟨_,rfl⟩;rw[←eX]at hld hsz2 Yc S8 HI e1;have oZ:=ae eX;have NW:=ae (fun w'=>VS o hok N w' ky);rw[←eX]at NW;have hwl:=hI.below.size;clear eX hzz hsz hrw hI hrg;subst eab;subst eao;go_wp2_with (first
    | (refine xv _ rfl 62 _ rfl _ _ rfl hld ?_)
    | (refine aQ rfl 62 _ _ rfl wr.heap.size X rfl rfl 62 _ (bC wr _) hsz2 S8.out Yc.out ?_;rw[di])
    | (refine bt rfl 62 _ rfl wr.heap.size rfl 62 X (0,0) _ (bC wr _) dH rfl hsz2 ?_))
   refine(NW.out _).mono ?_;rintro e w8 ⟨rfl,pJ⟩;have H8:=ae (HI.out.far pJ);clear e1 hld NW;obtain⟨xn,exn⟩:∃xn:Nat,xo=(xn:Int):=⟨xo.toNat,by omega⟩;subst exn;have hol:=my o hok;have FX:(bM (dL o)).length=512:=eJ _ (by omega);have htk:=AJ (dL o) (by omega);obtain⟨b,eb⟩:∃b,b=bM (dL o):=⟨_,rfl⟩;rw[←eb]at FX htk ⊢;have HB:=ae eb;have GN:=ae htk;have s_:=ae FX;clear eb htk FX hol;go_upto_region 17 with (refine aQ rfl 111 _ _ rfl w8.heap.size (b.map aj).toArray rfl rfl 111 _ (bC w8 _) (aO _ s_.out) (by rw[bE];exact bT _ _ bA s_.out) (bq _) ?_;rw[di])
   obtain⟨W9,Kz⟩:∃W9,W9=w8.alloc (.cells (b.map aj).toArray 111):=⟨_,rfl⟩;obtain⟨ob,uq⟩:∃ob,ob=w8.heap.size:=⟨_,rfl⟩;have AO:=ae (H8.out.far ((ax _ w8).alloc (ai _) (.cells (b.map aj).toArray 111)).drew);have KO:ah W9 ob 111 (b.map aj).toArray:=by rw[Kz,uq];exact ah.new w8 _ _
   rw[←Kz]at AO ⊢;rw[←uq];have amG:w.heap.size+4≤ob:=by rw[uq];exact H8.out.sz
   have amH:m2+1+1+1<ob:=by rw[uq];exact H8.out.bh.lt
   clear Kz uq H8 HI pJ;have Yd:=ae KO;clear KO;have Pm:ix (j:Int):=⟨by omega,by omega⟩;have hvl:vals.length≤64:=by rw[AO.out.st.1];simp[gj];omega
   have Ye:=ae (And.intro (AO.out.bp.ag 0 rfl) (And.intro (AO.out.ba.ag 0 rfl) (And.intro (AO.out.bl.ag 0 rfl) Yd.out.drew)));refine pY ?_;refine bF (S:=(fun w'=>w'.cell? ⟨w.heap.size+1,0,none⟩=some (.int .i64 N)∧w'.cell? ⟨w.heap.size+2,0,none⟩=some (.int .i64 area)∧w'.cell? ⟨m2+1,0,none⟩=some (.func (.func 52) #[] #[.pointer (some ⟨m2,0,none⟩),.pointer (some ⟨w.heap.size,0,none⟩)])∧ah w' ob 111 (b.map aj).toArray)) (by kernel_rfl) (by(try dsimp only);(first | exact Ye.out | exact Pn.out | exact Po.out)) (fun hHeld=>?_);refine tk 0 ?_;refine tk 1 ?_;refine tk 2 ?_;refine tk 3 ?_;refine ty 5 rfl (cY (by rfl) 111 _ rfl ob 0 rfl (b.map aj) _ (fun w' h q u hq=>h.2.2.2.ag (0+q) (by rw[jd,cW];exact hq)) dj rfl (by rw[cR,s_.out];exact fQ)) ?_;refine rd 4 fun K hK=>?_;go_simp
   (refine(lV N 4 area j _ Pm).mono ?_;rintro e wa9 ⟨rfl,VU⟩;have EA:=ae (AO.out.far VU);have VV:=(Yd.out.drew).below VU Yd.out.drew.lt;have Pn:=ae (And.intro (EA.out.bp.ag 0 rfl) (And.intro (EA.out.ba.ag 0 rfl) (And.intro (EA.out.bl.ag 0 rfl) VV))))
   go_wp2_with fail;refine hK.out _ _ (by(try dsimp only);(first | exact Ye.out | exact Pn.out | exact Po.out)) (fun hHeld=>?_);clear hK K;refine rd 6 fun K hK=>?_;go_simp
   (refine(NT m2 w.heap.size (w.heap.size+4) v vals (aJ N 4 area j).1 ⟨b,s_.out⟩ _ EA.out.bs EA.out.os (by omega) EA.out.sz).mono ?_;rintro e wl9 ⟨rfl,v9l,u9l,aaV,aaW,aaX,VW⟩;have VX:=VW.FV EA.out.os VV (by omega) (by decide);have S9:=ae (EA.out.lay VW aaV aaW aaX);have Po:=ae (And.intro (S9.out.bp.ag 0 rfl) (And.intro (S9.out.ba.ag 0 rfl) (And.intro (S9.out.bl.ag 0 rfl) VX))))
   go_wp2_with fail;refine hK.out _ _ (by(try dsimp only);(first | exact Ye.out | exact Pn.out | exact Po.out)) (fun hHeld=>?_);clear hK K;refine aT ?_;refine nz ?_;have H10:=S9;have Co:=ae VX;clear AO Ye S9 Po Pn EA VV VX VU aaV aaW aaX VW Yd hvl;have ur:=ae (H10.out.far (ax wl9.heap.size wl9).drew);have hco:wl9.drew.cell? ⟨g1,off1+j,none⟩=some (.int .i64 (xn:Int)):=(ur.out.below.cell (p:=⟨g1,off1+j,none⟩) hg1).trans hc1;have VY:=ae (And.intro (ur.out.bf.ag 1 rfl) hco);clear hco;have amI:(j:Int)<(f.bj.length:Int):=by omega
   have hxf:xn<65536:=by omega
   go_upto_region 18 with fail;refine pY ?_;refine bF (S:=(fun w'=>w'.cell? ⟨w.heap.size+3,1,none⟩=some (.slice (some ⟨g1,off1,none⟩) f.bj.length co)∧w'.cell? ⟨g1,off1+j,none⟩=some (.int .i64 (xn:Int)))) (by kernel_rfl) (by(try dsimp only);(first | exact VY.out | exact VZ)) (fun hHeld=>?_);refine tk 0 ?_;refine tk 1 ?_;refine tk 2 ?_;refine tk 3 ?_;refine tk 4 ?_;refine tk 5 ?_;refine tk 6 ?_;refine tk 7 ?_;refine rd 8 fun K hK=>?_;go_simp
   (refine(oY (m2+1+1+1) (w.heap.size+4) xn 2 122 hv _ _ (.inl rfl) (fun _=>by simp;omega) (by omega) ur.out.bh (by decide) ur.out.oh (by rw[bX];have:=qA (f.bj.take j) (f.objs.take j);rw[bD]at this;omega) ur.out.sz).mono ?_;rintro e aaY ⟨rfl,v10,yd,aaZ,V0⟩;have Pp:=ae (ur.out.head V0 yd aaZ);have Yf:=V0.FV ur.out.oh Co.out.drew (by omega) (by decide);have VZ:=And.intro (Pp.out.bf.ag 1 rfl) ((Pp.out.below.cell (p:=⟨g1,off1+j,none⟩) hg1).trans hc1))
   go_wp2_with fail;refine hK.out _ _ (by(try dsimp only);(first | exact VY.out | exact VZ)) (fun hHeld=>?_);clear hK K;refine aT ?_;refine nz ?_;have H11:=Pp;have S_:=ae Yf;clear ur VY Pp yd aaZ V0 VZ Yf Co;have KA:=ae (H11.out.far (ax aaY.heap.size aaY).drew);have Pq:=ae S_.out.drew;have hc32:=(dJ (b.take 508)).isLt;have hwc:IntKind.i64.wrap (((dJ (b.take 508)).toNat:Nat):Int)=((dJ (b.take 508)).toNat:Int):=by rw[cz];omega
   have hbb:=fq S_.out.drew 508 (by rw[s_.out];decide) (by rw[s_.out];decide);rw[s_.out]at hbb;have ahX:=ae hbb;clear hbb;go_upto_region 19 with fail;refine pY ?_;refine bF (S:=(fun w'=>ah w' ob 111 (b.map aj).toArray)) (by kernel_rfl) (by(try dsimp only);(first | exact Pq.out | exact Ic | exact Ps)) (fun hHeld=>?_);refine tk 0 ?_;refine tk 1 ?_;refine tk 2 ?_;refine tk 3 ?_;refine rd 4 fun K hK=>?_;go_simp
   (refine(rf _ (b.take 508) _ ahX.out).mono ?_;rintro e amJ ⟨rfl,Yg⟩;have FZ:=ae (KA.out.far Yg);have Ic:=S_.out.drew.below Yg S_.out.drew.lt)
   go_wp2_with fail;refine hK.out _ _ (by(try dsimp only);(first | exact Pq.out | exact Ic | exact Ps)) (fun hHeld=>?_);clear hK K;refine tk 5 ?_;refine rd 6 fun K hK=>?_;go_simp
   (refine(oY (m2+1+1+1) (w.heap.size+4) ((dJ (b.take 508)).toNat) 4 122 v10 _ _ (.inr (.inl rfl)) (fun _=>by simp;omega) (by omega) FZ.out.bh (by decide) FZ.out.oh (by rw[bX,bX,bJ];have:=qA (f.bj.take j) (f.objs.take j);rw[bD]at this;omega) FZ.out.sz).mono ?_;rintro e amK ⟨rfl,v11,aa0,aa1,ye⟩;have aa2:=ae (FZ.out.head ye aa0 aa1);have Ps:=ye.FV FZ.out.oh Ic (by omega) (by decide))
   go_wp2_with fail;refine hK.out _ _ (by(try dsimp only);(first | exact Pq.out | exact Ic | exact Ps)) (fun hHeld=>?_);clear hK K;refine aT ?_;refine nz ?_;have Cp:=aa2;clear KA Pq aa2 aa0 aa1 ye S_ FZ;go_wp2_with fail;go_roundw
   case rel =>
    refine⟨j+1,v9l,v11,vals++[u9l],by omega,by simp,?_⟩;have h:=Cp.out;have ej:(f.objs.take j).length=j:=by rw[bD];omega
    have es:gj N area (f.objs.take (j+1))=gj N area (f.objs.take j)++[⟨⟨(aJ N 4 area (j:Int)).1,b⟩,s_.out⟩]:=by
     rw[HTo.out,yV,ej];congr 2
     unfold vi;congr 2
     ·rw[yc _ (by rw[←HB.out];exact s_.out),HB.out]
    have eh:l6++e_ (f.bj.take (j+1)) (f.objs.take (j+1))=l6++e_ (f.bj.take j) (f.objs.take j)++leB xn 2++leB (dJ (b.take 508)).toNat 4:=by
     rw[HTo.out,HTx.out,s9 _ _ _ _ (by rw[bD,bD];omega)];unfold lY;rw[GN.out];simp
    rw[es,eh];exact h
   case measure=>simp[intOf];omega
  ·obtain rfl:j=f.objs.length:=by omega
   rw[dg (ai _),dg (by rw[Gm.out];exact ai _)]at hI;have e3:=hI.bf.ag 3 rfl;have HI:=ae hI;clear hI;go_wp2_with fail;refine(mr.1 (Kv 5 _ _ _ _)).mono ?_;rintro e w20 ⟨rfl,rfl⟩;go_wp2_with fail;obtain⟨Wl,GO⟩:∃Wl,Wl=wr.alloc (.cells #[.slice aw f.state.length cs] 26):=⟨_,rfl⟩;have ED:=ae (HI.out.far ((ax _ wr).alloc (ai _) (.cells #[.slice aw f.state.length cs] 26)));have NX:ah Wl wr.heap.size 26 #[.slice aw f.state.length cs]:=by rw[GO];exact ah.new wr _ _
   rw[←GO]at ED ⊢;obtain⟨gs,GP⟩:∃gs,gs=wr.heap.size:=⟨_,rfl⟩;rw[←GP]at NX ⊢;clear GO GP HI e3;obtain⟨L7,Yh⟩:∃L7,L7=l6++e_ f.bj f.objs:=⟨_,rfl⟩;rw[←Yh]at ED;have HL7:=ae Yh;have hL7:L7.length≤500:=by rw[Yh,bX];have:=qA f.bj f.objs;omega
   clear Yh;have hvl:=HI3.out.below ED.out.below (ai _);have hwl:=ED.out.sz;have hcs:f.state.length≤cs∧cs≤maxLen:=ahW;have lsb:=ED.out.bs.lt;have llb:=ED.out.bl.lt;have lhb:=ED.out.bh.lt;have lx:=ED.out.ahU (R:=fun r=>Wl.heap.size≤r∧r<Wl.heap.size+4) (fun r hr=>hr.1);have lgs:=NX.lt;refine(fV (n:=n)).1 ?_;refine aaM (gf:=107) (lb:=#[.pointer (some ⟨gs,0,none⟩)]) (fun y q t=>(((t.setIfInBounds 109 (.int .i64 y.1.1)).setIfInBounds 110 (.agg (y.2.1.map aj).toArray)).setIfInBounds 17 (.int .i64 y.1.1)).setIfInBounds 18 (.pointer (some ⟨q,0,none⟩)))
    (fun y q X=>Wl.heap.size+4≤q∧ah X q 111 (y.2.1.map aj).toArray) rfl (enters_of zX (by kernel_rfl) rfl)
    (S1 (n-1) (by omega) gs w.heap.size (fun _ t=>t=115∨t=84) aw cs f.state Wl (fun i _=>⟨by decide,by decide,by decide⟩) NX hvl (by omega) hcs.1 hcs.2 (by omega)) CZ (x7 (by omega) (by omega)) (fun _=>rfl)
    (fun pre X=>∃ (v1:Value) (nj:List Value),mz m2 (m2+1) (m2+1+1+1) w X D.p N area #[.int .i64 (ed:Int),.slice ao f.bj.length co,.slice ab f.objs.length cb,.slice aw f.state.length cs] v1 hv nj (gj N area f.objs++pre.map (fun y=>vi N 3 area y.1.1 y.2)) L7∧VT (fun r=>Wl.heap.size≤r∧r<Wl.heap.size+4) v1 hv nj∧Wl.heap.size≤X.heap.size)
    (fun _ _ _=>False)
    (fun s A A' row hs hg hr=>by obtain⟨v1,nj,h1,h2,h3⟩:=hs;exact⟨v1,nj,h1.abide h2 hg (fun r e=>⟨by have:=(hr r e).1;omega,(hr r e).2.imp (fun h=>⟨by omega,by omega⟩) id⟩) ⟨by omega,by omega,by omega,by omega,by omega,by omega,by omega⟩,h2,jF h3 hg.size⟩)
    (fun _ _ _ _ _ hs _ _=>hs)
    ⟨v,vals,by simpa using ED.out,lx,ai _⟩
    (fun y q s A A' row hs hg hr=>⟨hs.1,hs.2.own hg (fun r e=>(hr r e).2)⟩) ?assign ?body ?done ?stop
   case assign =>
    intro l2 pre y X K hI yU hK;dsimp only;rw[show vp y=#[.int .i64 y.1.1,.agg (y.2.1.map aj).toArray]from rfl,aaN];simp only[List.setIfInBounds_toArray,List.set_cons_zero,List.set_cons_succ];have ahY:(Tryz.prog.info? 111).map (·.size)=some (y.2.1.map aj).toArray.size:=aO _ y.2.2;gi_wp2_with (refine k7 rfl rfl 111 _ _ rfl X.heap.size (y.2.1.map aj).toArray rfl rfl 111 _ (bC X _) ahY (by rw[bE];exact bT _ _ bA y.2.2) (bq _) ?_;rw[di])
    obtain⟨v1,nj,h1,h2,h3⟩:=hI;have h:=hK X.heap.size (X.alloc (.cells (y.2.1.map aj).toArray 111)) ((KeepsOthers.alloc X _).from _) (bH.of ((ax _ X).alloc (ai _) _) (by omega)) ⟨v1,nj,h1.far ((ax _ X).alloc (ai _) _),h2,by simp;omega⟩ ⟨by omega,ah.new X _ _⟩;simp only[List.setIfInBounds_toArray,List.set_cons_zero,List.set_cons_succ]at h;exact h
   case body =>
    intro l2 pre y q X hI hP hlen yU;obtain⟨v1,nj,h1,h2,h3⟩:=hI;obtain⟨hq,hQ⟩:=hP;simp only[List.setIfInBounds_toArray,List.set_cons_zero,List.set_cons_succ];have ahZ:ix (y.1.1:Int):=by have:=y.1.2;exact⟨by omega,by omega⟩
    have hpl:pre.length≤100:=by
     have a1:pre.length<aD f.state.length:=hlen;have a2:aD f.state.length≤100:=by unfold aD;omega
     omega
    have ah0:nj.length≤200:=by rw[h1.st.1];simp[gj];omega
    have KC:=ae (h1.far (ax X.heap.size X).drew);have V5:=ae hQ.drew;have tj:=hQ.lt;have V6:=ae (And.intro (KC.out.bp.ag 0 rfl) (And.intro (KC.out.ba.ag 0 rfl) (And.intro (KC.out.bl.ag 0 rfl) V5.out)));have V7:=ae h2;have amL:=KC.out.bs.lt;clear h1 hQ h2 hlen;gi_wp2
    refine iv (S:=(fun w'=>w'.cell? ⟨w.heap.size+1,0,none⟩=some (.int .i64 N)∧w'.cell? ⟨w.heap.size+2,0,none⟩=some (.int .i64 area)∧w'.cell? ⟨m2+1,0,none⟩=some (.func (.func 52) #[] #[.pointer (some ⟨m2,0,none⟩),.pointer (some ⟨w.heap.size,0,none⟩)])∧ah w' q 111 (y.2.1.map aj).toArray)) (by kernel_rfl) (by kernel_rfl) (fun⟨_,_,h⟩=>h) (by(try dsimp only);(first | exact V6.out | exact Pt.out | exact Pu.out)) (fun hHeld=>?_);refine tk 0 ?_;refine tk 1 ?_;refine tk 2 ?_;refine tk 3 ?_;refine ty 5 rfl (cY (by rfl) 111 _ rfl q 0 rfl (y.2.1.map aj) _ (fun w' h z u hz=>h.2.2.2.ag (0+z) (by rw[jd,cW];exact hz)) dj rfl (by rw[cR,y.2.2];exact fQ)) ?_;refine rd 4 fun K hK=>?_;go_simp
    (refine(lV N 3 area (y.1.1:Int) _ ahZ).mono ?_;rintro e ah1 ⟨rfl,Pv⟩;have vU:=ae (KC.out.far Pv);have Yi:=V5.out.below Pv V5.out.lt;have Pt:=ae (And.intro (vU.out.bp.ag 0 rfl) (And.intro (vU.out.ba.ag 0 rfl) (And.intro (vU.out.bl.ag 0 rfl) Yi))))
    go_wp2_with fail;refine hK.out _ _ (by(try dsimp only);(first | exact V6.out | exact Pt.out | exact Pu.out)) (fun hHeld=>?_);clear hK K;refine rd 6 fun K hK=>?_;go_simp
    (refine(S3 m2 w.heap.size (w.heap.size+4) v1 nj (aJ N 3 area (y.1.1:Int)).1 y.2 _ vU.out.bs vU.out.os (by omega) vU.out.sz).mono ?_;rintro e amM ⟨rfl,ah2,ah3,aem,aen,aeo,Ie,aep⟩;have aeq:=Ie.FV vU.out.os Yi (by omega) (by decide);have Pw:=ae (vU.out.lay Ie aem aen aeo);have Pu:=ae (And.intro (Pw.out.bp.ag 0 rfl) (And.intro (Pw.out.ba.ag 0 rfl) (And.intro (Pw.out.bl.ag 0 rfl) aeq))))
    go_wp2_with fail;refine hK.out _ _ (by(try dsimp only);(first | exact V6.out | exact Pt.out | exact Pu.out)) (fun hHeld=>?_);clear hK K;refine wpAnyH_done (by kernel_rfl) ?_ _;have hbX:Below X.heap.size X ah1:=(ax _ X).drew.trans Pv;have kt:=(bH.of (T:=fun _ t=>t=115∨t=84) (B:=w.heap.size) (C:=Wl.heap.size) hbX (by omega)).trans (Ie.aaO vU.out.bs vU.out.os (by omega) (by omega));refine⟨kt.from,kt.Ph (fun _ _ h=>h) (by omega),ah2,nj++[ah3],?_,⟨fun i hi hR=>?_,V7.out.head,fun u hu=>?_⟩,jF h3 kt.size⟩
    ·have h:=Pw.out;rw[cK,←fS];exact h
    ·rcases Ie.lr i hi with hh | hh
     ·exact V7.out.own i hh hR
     ·have:=hbX.size;omega
    ·rcases mq.1 hu with hu | hu
     ·exact V7.out.vals u hu
     ·rw[mZ.1 hu,aep];intro k d gn gb e;simp at e;obtain⟨_,_,rfl,rfl⟩:=e;have:=hbX.size;exact⟨fun h=>by omega,fun h=>by omega⟩
   case stop =>
    rintro Dd c pre X _ _ h _;exact h.elim
   case done =>
    rintro Dd ys X Gv rfl ⟨v1,nj,h1,h2,h3⟩ hK;have H30:=ae h1;clear h1 h2;have KD:=ae (H30.out.far (ax X.heap.size X).drew);have KE:=ae (And.intro (KD.out.bp.ag 0 rfl) (And.intro (KD.out.ba.ag 0 rfl) (KD.out.bl.ag 0 rfl)));have oy:L7.length≤508:=by omega
    have ah0:nj.length≤200:=by
     have a2:aD f.state.length≤100:=by unfold aD;omega
     rw[H30.out.st.1];simp[gj,pw];omega
    have hI0:ix (0:Int):=⟨by omega,by omega⟩;go_upto_region 25 with fail;refine pY ?_;refine bF (S:=(fun w'=>w'.cell? ⟨w.heap.size+1,0,none⟩=some (.int .i64 N)∧w'.cell? ⟨w.heap.size+2,0,none⟩=some (.int .i64 area)∧w'.cell? ⟨m2+1,0,none⟩=some (.func (.func 52) #[] #[.pointer (some ⟨m2,0,none⟩),.pointer (some ⟨w.heap.size,0,none⟩)]))) (by kernel_rfl) (by(try dsimp only);(first | exact KE.out | exact EE.out | exact EG.out | exact EH.out)) (fun hHeld=>?_);refine tk 0 ?_;refine tk 1 ?_;refine tk 2 ?_;refine tk 4 ?_;refine rd 3 fun K hK=>?_;go_simp
    (refine(lV N 2 area 0 _ hI0).mono ?_;rintro e amN ⟨rfl,Ig⟩;have BL:=ae (KD.out.far Ig);have EE:=ae (And.intro (BL.out.bp.ag 0 rfl) (And.intro (BL.out.ba.ag 0 rfl) (BL.out.bl.ag 0 rfl))))
    go_wp2_with fail;refine hK.out _ _ (by(try dsimp only);(first | exact KE.out | exact EE.out | exact EG.out | exact EH.out)) (fun hHeld=>?_);clear hK K;refine rd 5 fun K hK=>?_;go_simp
    (refine(MR (m2+1+1+1) (w.heap.size+4) 122 hv L7 _ BL.out.bh BL.out.oh oy).mono ?_;rintro e amO ⟨rfl,Px⟩;have vV:=ae (BL.out.far Px);have EG:=ae (And.intro (vV.out.bp.ag 0 rfl) (And.intro (vV.out.ba.ag 0 rfl) (vV.out.bl.ag 0 rfl))))
    go_wp2_with fail;refine hK.out _ _ (by(try dsimp only);(first | exact KE.out | exact EE.out | exact EG.out | exact EH.out)) (fun hHeld=>?_);clear hK K;refine rd 6 fun K hK=>?_;go_simp
    (refine(NT m2 w.heap.size (w.heap.size+4) v1 nj (aJ N 2 area 0).1 ⟨bM L7,eJ L7 oy⟩ _ vV.out.bs vV.out.os (by omega) vV.out.sz).mono ?_;rintro e Py ⟨rfl,amP,ah4,Yj,Yk,Yl,Pz⟩;have KG:=ae (vV.out.lay Pz Yj Yk Yl);have EH:=ae (And.intro (KG.out.bp.ag 0 rfl) (And.intro (KG.out.ba.ag 0 rfl) (KG.out.bl.ag 0 rfl))))
    go_wp2_with fail;refine hK.out _ _ (by(try dsimp only);(first | exact KE.out | exact EE.out | exact EG.out | exact EH.out)) (fun hHeld=>?_);clear hK K;refine aT ?_;refine nz ?_;have hKz:Py.heap[Dd]? = some (.deferred (some [])):=by
     have hb:=(ax X.heap.size X).drew.trans (Ig.trans (Px.mono Ig.size));have h1:=(hb.block Dd (ee.1 hK).1).trans hK;refine(Pz.out.block Dd (ee.1 h1).1 (fun hd=>?_)).trans h1;rcases hd with e | e
     ·rw[e]at h1;have h2:=vV.out.bs;unfold ah at h2;rw[h1]at h2;cases h2
     ·obtain⟨o',ho',hc'⟩:=s3 vV.out.os Dd e;rw[h1]at ho';cases ho';cases hc'
    have NY:=ae hKz;have HZ:=KG;clear hKz H30 KD KE vV EE EG EH KG Ig Px Yj Yk Yl Pz;obtain⟨a5,c5,rfl⟩:=slice_form HZ.out.os;obtain⟨BM,Au⟩:∃BM,BM=nj++[ah4]:=⟨_,rfl⟩;have hYS:gj N area f.objs++(pw f.state).map (fun y=>vi N 3 area y.1.1 y.2)++[⟨⟨(aJ N 2 area 0).1,bM L7⟩,eJ L7 oy⟩]=cu N area f:=by
     unfold cu;congr 2
     unfold vi;have eL:L7=oA f:=by
      rw[HL7.out,HL6.out];unfold oA oz;have:f.ed.toNat=ed:=by rw[S6.out];rfl
      rw[this]
     have e1:(AK (bM (oA f))).1=bM L7:=by rw[←eL];exact yc _ (eJ L7 oy)
     apply Subtype.ext;simp only[e1]
    rw[hYS,←Au]at HZ;obtain⟨YS,Ym⟩:∃YS,YS=cu N area f:=⟨_,rfl⟩;have NZ:=ae Ym;rw[←Ym]at HZ;have yW:=ae ahV.out;rw[←Ym]at yW;have hvy:BM.length=YS.length:=HZ.out.st.1;have hYl:YS.length≤400:=by rw[←hvy,Au,bX];simp;omega
    clear hYS Au Ym;have e5:=HZ.out.bs.ag 0 rfl;have hDz:=HD.out.below HZ.out.below;have HDz:=ae hDz;have hnD:∀i,w.heap.size≤i→¬D.has i:=fun i hi hd=>by have:=HD.out.has_lt i hd;omega
    clear hDz;go_wp2_with fail;go_loopw [127] (fun i wr=>∃ (k:Nat) (D1:aX),k≤YS.length∧i=.int .i64 (k:Int)∧aE wr D1 (dn x (YS.take k))∧DStep D D1 Py wr∧Hid (dY x YS=dY (dn x (YS.take k)) (YS.drop k))) (fun i _=>YS.length-(intOf i).toNat)
    case atStart=>exact⟨0,D,fi _,rfl,HDz.out,DStep.refl _ _,ae rfl⟩
    case round =>
     obtain⟨k,D1,hk,rfl,hD1,hS1,NK⟩:=hrel;by_cases hltk:k<YS.length
     ·have hkv:k<BM.length:=by omega
      have hst:=HZ.out.st.2 k _ _ (aY hkv) (aY hltk);obtain⟨gg,ea5,hgg,hcell⟩:=Ex HZ.out.os (aY hkv);have hok2:=yW.out k (by omega);have hdr:YS.drop k=YS[k]::YS.drop (k+1):=pg hltk;rw[hdr]at NK;have aa4:=ae (pN YS k hltk);generalize YS[k]'hltk=y at *;generalize BM[k]'hkv=u at *;have aa5:=hst.keep (fun g t cs ht hb=>hS1.out.blk hb (HDz.out.free hb (by rcases ht with rfl | rfl<;>decide) (by rcases ht with rfl | rfl<;>decide)));have hcell2:wr.cell? ⟨gg,k,none⟩=some u:=(lL (a:=⟨gg,k,none⟩) (hS1.out.block gg (od _ _ hcell) (hnD gg (by omega)))).trans hcell;obtain⟨gn,gb,eu,hcall⟩:=S4 D1 _ w.heap.size u y wr hD1 hok2 (by rw[hS1.same];exact hS1.out.blk HZ.out.bd (hnD _ (ai _))) aa5;subst eu;subst ea5;obtain⟨er,xw⟩:∃er,er=(dn x (YS.take k)).err y.1.n:=⟨_,rfl⟩;rw[←xw]at hcall;have EER:=ae xw;have PA:=ae hcall;have hkv':(k:Int)<(BM.length:Int):=by omega
      have nI:=ae hS1;have aa6:wr.heap[Dd]? = some (.deferred (some [])):=(hS1.out.block Dd (ee.1 NY.out).1 (hnD Dd (by omega))).trans NY.out;have hnew1:=hS1.lr;have V8:=ae (And.intro aa6 hnew1);have amQ:=ae hD1;clear hst aa5 hcell hD1 hS1 hcall hok2 xw hdr aa6 hnew1;go_wp2_with fail;refine PA.out.mono ?_;rintro e wu ⟨rfl,D2,hD2,hS2⟩;have HD2:=ae hD2;have xt:=ae hS2;have HS2:=ae (nI.out.trans hS2);clear hD2 hS2;by_cases gk:er=0
      ·have V9:=ae (show dY x YS=dY (dn x (YS.take (k+1))) (YS.drop (k+1))by
        rw[NK.out,aa4.out,AH];show(if _ then _ else _)=_;rw[←EER.out,aB gk])
       go_wp2_with fail;go_roundw
       case rel=>exact⟨k+1,D2,by omega,by simp,by rw[aa4.out,AH];exact HD2.out,HS2.out,V9⟩
       case measure=>simp[intOf];omega
      ·have V9:=ae (show dY x YS=((dn x (YS.take k)).write y.1.n y.1.b,er)by
        rw[NK.out];show(if _ then _ else _)=_;rw[←EER.out,aG gk])
       go_wp2_with fail;go_step3
       have ah5:Dd<Py.heap.size:=(ee.1 NY.out).1;have hKt:wu.heap[Dd]? = some (.deferred (some [])):=(xt.out.out.block Dd (ee.1 V8.out.1).1 (fun hd=>by
        rcases V8.out.2 Dd hd with hh | hh
        ·exact hnD Dd (by omega) hh
        ·omega)).trans V8.out.1
       have hws:=V9.out;rw[NZ.out]at hws;refine⟨rfl,.int .i64 er,rfl,rfl,?_⟩;refine⟨by simp,.inl ⟨_,_,rfl,m' hKt,?_⟩⟩;have hfin:=HS2.out.first HZ.out.below HD.out.has_lt;refine⟨_,xd rfl _ _ _,by rw[hws];rfl,D2,?_,⟨⟨hfin.out.os,hfin.out.tape,hfin.out.output,by have:=hfin.out.size;rw[zA];exact this,fun i hi hn=>(iD (by omega)).trans (hfin.out.block i hi hn)⟩,hfin.same,hfin.lr⟩⟩;have h:=HD2.out.out (F:=fun i=>i=Dd) (w':=wu.putObj Dd (.deferred none)) ⟨rfl,rfl,rfl,by simp,fun j _ hn=>iD hn⟩ (fun i hi e=>by
        rw[e]at hi;rcases HS2.out.lr Dd hi with hh | hh
        ·exact hnD Dd (by omega) hh
        ·omega)
       rw[hws];rw[NZ.out]at h;exact h
     ·obtain rfl:k=YS.length:=by omega
      rw[dg (ai _)]at hD1;have hws:dY x YS=(dn x YS,0):=by
       rw[NK.out,dg (ai _),IK];rfl
      rw[NZ.out]at hws;have hKt:wr.heap[Dd]? = some (.deferred (some [])):=(hS1.out.block Dd (ee.1 NY.out).1 (hnD Dd (by omega))).trans NY.out;have HD1:=ae hD1;have nI:=ae hS1;clear hD1 hS1;go_wp2_with fail;rw[Kw];refine⟨by simp,.inl ⟨_,_,rfl,m' hKt,?_⟩⟩;have ah5:Dd<Py.heap.size:=(ee.1 NY.out).1;have hfin:=nI.out.first HZ.out.below HD.out.has_lt;refine⟨_,xd rfl _ _ _,by rw[hws];rfl,D1,?_,⟨⟨hfin.out.os,hfin.out.tape,hfin.out.output,by have:=hfin.out.size;rw[zA];exact this,fun i hi hn=>(iD (by omega)).trans (hfin.out.block i hi hn)⟩,hfin.same,hfin.lr⟩⟩;have h:=HD1.out.out (F:=fun i=>i=Dd) (w':=wr.putObj Dd (.deferred none)) ⟨rfl,rfl,rfl,by simp,fun j _ hn=>iD hn⟩ (fun i hi e=>by
       rw[e]at hi;rcases nI.out.lr Dd hi with hh | hh
       ·exact hnD Dd (by omega) hh
       ·omega)
      rw[NZ.out]at h;rw[hws];exact h
end Go.Proofs.YtdpniceapmikpaaGreat
