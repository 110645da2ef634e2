/-
  What logs.Read tells of any disk: the
-/
import Derived.Test.YtdpniceapmikpaaGreatRd8
import Derived.Test.YtdpniceapmikpaaGreatRd10
import Derived.Test.YtdpniceapmikpaaGreatRd1
set_option linter.unusedVariables false
set_option linter.unusedSimpArgs false
set_option maxRecDepth 100000
set_option maxHeartbeats 32000000
namespace Go.Proofs.YtdpniceapmikpaaGreat
open Go.RowKit
attribute [local go_sem] kM
def xE (e:Nat→Int):Nat→Nat×Int
 | 0=>(0,0)
 | n+1=>if (xE e n).2=0 then (n+1,e n) else xE e n
theorem Fh {e:Nat→Int}:∀n,(∀i,i<n→e i=0)→xE e n=(n,0)
 | 0,_=>rfl
 | n+1,h=>by
  show(if (xE e n).2=0 then (n+1,e n) else xE e n)=_;rw[Fh n (fun i hi=>h i (by omega)),aB rfl,h n (by omega)]
theorem F7 {e:Nat→Int} {j:Nat} (hok:∀i,i<j→e i=0) (hb:e j≠0):∀n,j<n→xE e n=(j+1,e j)
 | 0,h=>absurd h (by omega)
 | n+1,h=>by
  show(if (xE e n).2=0 then (n+1,e n) else xE e n)=_;rcases bZ j n with h1 | h1
  ·rw[F7 hok hb n h1,aG hb]
  ·obtain rfl:j=n:=by omega
   rw[Fh j hok,aB rfl]
def Fi (x:ak) (N area:Int) (i:Nat):Prop:=eO (rD x N area i) N=0∧(dJ ((rD x N area i).take 508)).toNat=aC (aP x N area) (22+6*i) 4
instance (x:ak) (N area:Int) (i:Nat):Decidable (Fi x N area i):=by unfold Fi;exact inferInstance
def lD (x:ak) (N area:Int) (k i:Nat):Int:=if (x.plus k).err (aJ N 4 area i).1=0 then (if Fi x N area i then 0 else 170) else (x.plus k).err (aJ N 4 area i).1
def lk (x:ak) (N area:Int) (nb k i:Nat):Int:=if (x.plus k).err (aJ N 3 area i).1=0 then (if ((fZ x N area i).drop (nb-512*i)).all (· == 0)=true then 0 else 170) else (x.plus k).err (aJ N 3 area i).1
def yA (x:ak) (N area:Int) (n:Nat):Nat×Int:=xE (fun i=>lD x N area (1+i) i) n
def sN (x:ak) (N area:Int) (n nb:Nat):Nat×Int:=xE (fun i=>lk x N area nb (1+(n+i)) i) (aD nb)
def eM (x:ak) (N area:Int):Nat×Int :=
 if x.err (aJ N 2 area 0).1=0 then
  if bI N (aP x N area)=true then
   if (yA x N area (aC (aP x N area) 12 2)).2=0 then
    if (sN x N area (aC (aP x N area) 12 2) (aC (aP x N area) 14 2)).2=0 then
     (1+(aC (aP x N area) 12 2+(sN x N area (aC (aP x N area) 12 2) (aC (aP x N area) 14 2)).1),if (dJ (gU x N area (aC (aP x N area) 14 2))).toNat=aC (aP x N area) 16 4 then 0 else 170)
    else (1+(aC (aP x N area) 12 2+(sN x N area (aC (aP x N area) 12 2) (aC (aP x N area) 14 2)).1),(sN x N area (aC (aP x N area) 12 2) (aC (aP x N area) 14 2)).2)
   else (1+(yA x N area (aC (aP x N area) 12 2)).1,(yA x N area (aC (aP x N area) 12 2)).2)
  else (1,170)
 else (1,x.err (aJ N 2 area 0).1)
section
variable {x:ak} {N area:Int}
theorem Bg (h:x.err (aJ N 2 area 0).1≠0):eM x N area=(1,x.err (aJ N 2 area 0).1):=by
 unfold eM;rw[aG h]
theorem yB (h:x.err (aJ N 2 area 0).1=0) (hh:bI N (aP x N area)=false):eM x N area=(1,170):=by
 unfold eM;rw[aB h,hh,aG (by decide)]
theorem pV (h:x.err (aJ N 2 area 0).1=0) (hh:bI N (aP x N area)=true) {j:Nat} {c:Int} (hj:j<aC (aP x N area) 12 2) (hok:∀i,i<j→lD x N area (1+i) i=0) (hc:lD x N area (1+j) j=c) (h0:c≠0) :
 eM x N area=(1+(j+1),c):=by
 have e:yA x N area (aC (aP x N area) 12 2)=(j+1,c):=by
  unfold yA;rw[F7 (e:=fun i=>lD x N area (1+i) i) hok (by show lD x N area (1+j) j≠0;rw[hc];exact h0) _ hj];show(j+1,lD x N area (1+j) j)=_;rw[hc]
 unfold eM;rw[aB h,aB hh,e,aG h0]
theorem LM {n:Nat} (hok:∀i,i<n→lD x N area (1+i) i=0):yA x N area n=(n,0):=Fh (e:=fun i=>lD x N area (1+i) i) n hok
theorem tC (h:x.err (aJ N 2 area 0).1=0) (hh:bI N (aP x N area)=true) {n nb i:Nat} {c:Int} (hn:n=aC (aP x N area) 12 2) (hnb:nb=aC (aP x N area) 14 2) (hok:∀i,i<n→lD x N area (1+i) i=0)
 (hi:i<aD nb) (hp:∀k,k<i→lk x N area nb (1+(n+k)) k=0) (hc:lk x N area nb (1+(n+i)) i=c) (h0:c≠0) :
 eM x N area=(1+(n+i)+1,c):=by
 have e:sN x N area n nb=(i+1,c):=by
  unfold sN;rw[F7 (e:=fun i=>lk x N area nb (1+(n+i)) i) hp (by show lk x N area nb (1+(n+i)) i≠0;rw[hc];exact h0) _ hi];show(i+1,lk x N area nb (1+(n+i)) i)=_;rw[hc]
 unfold eM;rw[aB h,aB hh,←hn,←hnb,LM hok,aB rfl,e,aG h0];rfl
theorem Bh (h:x.err (aJ N 2 area 0).1=0) (hh:bI N (aP x N area)=true) {n nb:Nat} (hn:n=aC (aP x N area) 12 2) (hnb:nb=aC (aP x N area) 14 2) (hok:∀i,i<n→lD x N area (1+i) i=0)
 (hp:∀k,k<aD nb→lk x N area nb (1+(n+k)) k=0) :
 eM x N area=(1+(n+aD nb),if (dJ (gU x N area nb)).toNat=aC (aP x N area) 16 4 then 0 else 170):=by
 have e:sN x N area n nb=(aD nb,0):=Fh (e:=fun i=>lk x N area nb (1+(n+i)) i) _ hp;unfold eM;rw[aB h,aB hh,←hn,←hnb,LM hok,aB rfl,e,aB rfl]
theorem LN {k i:Nat} (h:(x.plus k).err (aJ N 4 area i).1≠0):lD x N area k i=(x.plus k).err (aJ N 4 area i).1:=by unfold lD;rw[aG h]
theorem Df {k i:Nat} (h:(x.plus k).err (aJ N 4 area i).1=0) (h2:Fi x N area i):lD x N area k i=0:=by unfold lD;rw[aB h,aB h2]
theorem BR {k i:Nat} (h:(x.plus k).err (aJ N 4 area i).1=0) (h2:¬Fi x N area i):lD x N area k i=170:=by unfold lD;rw[aB h,aG h2]
theorem G' {nb k i:Nat} (h:(x.plus k).err (aJ N 3 area i).1≠0):lk x N area nb k i=(x.plus k).err (aJ N 3 area i).1:=by unfold lk;rw[aG h]
theorem rN {nb k i:Nat} (h:(x.plus k).err (aJ N 3 area i).1=0) {b:Bool} (hb:((fZ x N area i).drop (nb-512*i)).all (· == 0)=b):lk x N area nb k i=if b=true then 0 else 170:=by unfold lk;rw[aB h,hb]
theorem BS (hx:x.ok) (hs:x.steps≤900000000000) (k:Nat) (hk:k≤1000):(x.plus k).ok:=by
 obtain⟨h1,h2,h3,h4,h5,h6,h7⟩:=hx;exact⟨h1,h2,h3,h4,by show 0≤x.steps+(k:Int);omega,by show x.steps+(k:Int)≤_;omega,h7⟩
theorem ll (h:da N x.size area=true):1≤N∧N≤64∧20+3*N≤x.size∧(area=0∨area=1):=by
 unfold da aZ at h;simp only[Bool.and_eq_true,decide_eq_true_eq]at h;obtain⟨⟨⟨⟨h1,h2⟩,h3⟩,h4⟩,h5⟩:=h;exact⟨h1,h2,h3,by omega⟩
theorem iY (h:da N x.size area=true) (k t:Int) (hk:(k=2∧t=0)∨(k=3∧0≤t∧t<8)∨(k=4∧0≤t∧t<N)):0≤(aJ N k area t).1∧(aJ N k area t).1<x.size:=by
 obtain⟨h1,h2,h3,h4⟩:=ll h;have hr:aZ N=true:=by simp[aZ,h1,h2]
 unfold aJ;rw[hr];rcases h4 with rfl | rfl<;>rcases hk with ⟨rfl,rfl⟩ | ⟨rfl,h5,h6⟩ | ⟨rfl,h5,h6⟩
 all_goals
  simp[ga,xX,yP,kX];try first
   | omega
   | (split<;>omega)
theorem fR {y:ak} {n:Int} (h:0≤n∧n<y.size):y.after n=y.stepped:=by
 unfold ak.after;rw[aG (by omega)]
end
def LO (D:aX) (x:ak) (N area:Int) (w:World) (e:Ending) (w':World):Prop :=
 ∃v y,e=.returned (.tuple #[v,.int .i64 (eM x N area).2])∧(if (eM x N area).2=0 then dw w.heap.size w' v (fD x N area) else v=.agg aF)∧aE w' D y∧y=x.plus (eM x N area).1∧DStep D D w w'
theorem Bi (n:Nat) (g:Nat) (t:TypeId) (c x:Int) (w:World) (hb:ah w g t #[.int .i64 x]) :
 CallsDIn Fence.wide n Tryz.prog 68 #[ptr g] (.panicking (lg c)) w fun e u' w'=>e=.returned (.tuple #[])∧u'=.panicking [{v:=.iface 211 (.agg #[.int .i64 c]),recovered:=true}]∧w'=(w.setCell ⟨g,0,none⟩ (.int .i64 c)).alloc (.cells #[.int .i64 c] 211):=by
 have hb2:=hb.alloc (.cells #[.int .i64 c] 211);have hc:=hb2.ag 0 rfl;have hz:=hb2.frozen 0;have hlt:=hb.lt;unfold ptr;clear hb hb2;refine callsDIn_of_wpSIn DR rfl trivial (fun c₀ cs hu=>?_);unfold lg at hu;have hta:(Instr.typeAssert (.iface 211 (.agg #[.int .i64 c])) 20 211 true).run Tryz.prog w=.ok (.tuple #[.agg #[.int .i64 c],.bool true]) w:=by kernel_rfl
 apply wpSIn_seq;apply wpSIn_region;simp[wpOpsSIn,go_sem,recoverD,hu,Tryz.ntmps68,Exit.thenS];rw[show(Array.replicate 14 undef:Array Value)=#[undef,undef,undef,undef,undef,undef,undef,undef,undef,undef,undef,undef,undef,undef]from rfl];simp only[List.setIfInBounds_toArray,List.set_cons_zero,List.set_cons_succ,List.append_toArray,List.cons_append,List.nil_append];refine wpSIn_of_wpIn rfl (fV.2 ?_);go_wp2_with fail;cases c₀
 simp_all [bodyPostS,results,Tryz.results68]
def mS (D:aX) (x:ak) (N area:Int) (w:World) (ch:List PanicEntry) (W:World):Prop :=
 ∃k c,ch=lg c∧c≠0∧eM x N area=(k,c)∧aE W D (x.plus k)∧DStep D D w W∧ah W (w.heap.size+3) 28 aF∧ah W (w.heap.size+4) 32 #[.int .i64 0]
theorem mS.out {D:aX} {x:ak} {N area:Int} {w W W':World} {ch:List PanicEntry} (h:mS D x N area w ch W) (hD:∀i,D.has i→i<w.heap.size) {F:Nat→Prop} (ho:Out F W W') (hF:∀i,F i→i<W.heap.size→w.heap.size+5≤i):mS D x N area w ch W':=by
 obtain⟨k,c,h1,h2,h3,hd,hs,b3,b4⟩:=h;have l4:=b4.lt;have hn:∀i,i<w.heap.size+5→¬ (F i∧i<W.heap.size):=fun i hi hf=>by have:=hF i hf.1 hf.2;omega
 have ho2:Out (fun i=>F i∧i<W.heap.size) W W':=⟨ho.os,ho.tape,ho.output,ho.size,fun i hi hf=>ho.block i hi (fun hf'=>hf ⟨hf',hi⟩)⟩;exact⟨k,c,h1,h2,h3,hd.out ho2 (fun i hi hf=>hn i (by have:=hD i hi;omega) hf),⟨hs.out.trans ho2 (fun i hi hg=>(hn i (by omega) hg).elim),rfl,fun i hi=>.inl hi⟩,ho2.blk b3 (hn _ (by omega)),ho2.blk b4 (hn _ (by omega))⟩
theorem mD.gone {D:aX} {x:ak} {N area:Int} {w W:World} {gs:Nat} {y:ak} {S:Array Value} (h:mD D w N area gs W y S) {k:Nat} {c:Int} (hy:y=x.plus k) (hr:eM x N area=(k,c)) (hc:c≠0):mS D x N area w (lg c) W:=by
 subst hy;exact⟨k,c,rfl,hc,hr,h.disk,h.step,h.b3,h.b4⟩
theorem qN (nf:Nat) {D:aX} {x:ak} {N area:Int} {w W:World} {ch:List PanicEntry} (h:mS D x N area w ch W) (hD:∀i,D.has i→i<w.heap.size) (tmps:Array Value)
 (t3:tmps.getD 6 undef=.pointer (some ⟨w.heap.size+3,0,none⟩)) (t4:tmps.getD 7 undef=.pointer (some ⟨w.heap.size+4,0,none⟩)) :
 LeavesInM Fence.wide nf Tryz.prog Tryz.f20 tmps (LO D x N area w) [{target:=.fn (.func 68) #[],args:=#[.pointer (some ⟨w.heap.size+4,0,none⟩)]}] (.panicking ch) W:=by
 obtain⟨k,c,rfl,hc,hr,hd,hs,h3,h4⟩:=h;refine⟨by simp,.inr ⟨(fun h=>by cases h),Fn.func 68,#[],68,#[ptr (w.heap.size+4)],rfl,by simp[go_sem,ptr],fun _ _=>trivial,?_⟩⟩;refine CallsDIn.mono' (Bi (nf-1) (w.heap.size+4) _ c 0 W h4) ?_;rintro e u' w'' ⟨rfl,rfl,rfl⟩;have b3:ah ((W.setCell ⟨w.heap.size+4,0,none⟩ (.int .i64 c)).alloc (.cells #[.int .i64 c] 211)) (w.heap.size+3) 28 aF:=(h3.far (by simp) _).alloc _;have b4:ah ((W.setCell ⟨w.heap.size+4,0,none⟩ (.int .i64 c)).alloc (.cells #[.int .i64 c] 211)) (w.heap.size+4) 32 #[.int .i64 c]:=(h4.br 0 _).alloc _;refine⟨_,dq zQ _ _ (w.heap.size+3) 28 aF (0,0) _ t3 b3 fw rfl (by kernel_rfl) _ _ t4 (gL _ (w.heap.size+4) _ _ b4),.agg aF,x.plus k,by rw[hr],?_,?_,by rw[hr],?_⟩
 ·rw[hr,aG hc]
 ·exact(hd.out (F:=fun i=>i=w.heap.size+4) (bk rfl) (fun i hi e=>by have:=hD i hi;omega)).below ((ax _ _).alloc (ai _) _)
 ·exact DStep.below ⟨hs.out.trans (bk (F:=fun i=>i=w.heap.size+4) rfl) (fun i hi e=>by omega),rfl,fun i hi=>.inl hi⟩ ((ax _ _).alloc (ai _) _)
theorem Of {b:List UInt8} (hl:b.length=512) (n:Int):(kE b n).ok:=by
 unfold kE;split
 ·exact mC _ (by rw[bD,hl];rfl)
 ·exact aab
theorem T6 {b:List UInt8} (hl:b.length=512) (r:Nat):(b.drop (min 512 r) == az.drop (min 512 r))=(b.drop r).all (· == 0):=by
 rcases Nat.le_total 512 r with h | h
 ·rw[oN h,jD (mK hl),jD (mK bA),jD (by omega)];rfl
 ·rw[Nat.min_eq_right h];cases hq:(b.drop r).all (· == 0)
  ·rw[IB];intro e;rw[e]at hq;have h1:(az.drop r).all (· == 0)=true:=cx.2 (fun c hc=>by
    have h2:=RH hc;unfold az at h2;rw[Rr h2];rfl)
   rw[h1]at hq;cases hq
  ·rw[PJ hl hq,beq_self_eq_true]
theorem T7 {b:List UInt8} (hl:b.length=512):(b.drop 512 == az.drop 512)=true:=by
 rw[jD (mK hl),jD (mK bA),beq_self_eq_true]
theorem CD {P:Program} {F:Fence} {n:Nat} {c:Code} {Q:Exit→Act→World→Prop} {a:Act} {w:World} {ι:Type} (A:ι→Act) (I:ι→World→Prop) (J:List PanicEntry→World→Prop)
 (h:c.wpIn F n P (fun e a' w'=>match e with | .normal=>∃i,a'=A i∧I i w' | .panic ch=>a'.defers=[]∧J ch w' | _=>False) a w) (hk:∀i w',I i w'→Q .normal (A i) w') (hp:∀ch a' w',a'.defers=[]→J ch w'→Q (.panic ch) a' w'):c.wpIn F n P Q a w :=
 DZ h (fun e a' w' h=>by
  cases e with
  | normal=>obtain⟨i,rfl,hi⟩:=h;exact hk i w' hi
  | panic ch=>exact hp ch a' w' h.1 h.2
  | _=>exact h.elim)
theorem T8 (n:Nat) (hn:3≤n) (Bs:Nat) (T:Nat→TypeId→Prop) (gs m:Nat) (w:World) (hT:∀i,w.heap.size≤i→(¬T i 26∧¬T i 3∧¬T i 199))
 (iy:ah w Bs 26 #[.slice (some ⟨gs,0,none⟩) m m]) (hv:iq gs m w) (hst:m≤1000000) (hgs:gs<w.heap.size) :
 LJ 2 n Tryz.prog 107 #[.pointer (some ⟨Bs,0,none⟩)] (Tr (N:=aD m)) (j_ T (w.heap.size+2) gs m) (fun ys=>ys.map (·.1.val)=List.range (aD m)) (fun _=>True) (fun pre x=>x.1.val=pre.length) (aD m) w:=by
 obtain⟨st,rfl⟩:∃st:List UInt8,st.length=m:=⟨List.replicate m 0,by simp⟩;exact Nj n hn Bs T gs st w hT iy hv hst hgs
end Go.Proofs.YtdpniceapmikpaaGreat
namespace Go.Proofs.YtdpniceapmikpaaGreat
open Go.RowKit
section
variable {P:Program} {ops:Array Oper} {Q:Exit→Act→World→Prop} {md:Region.Mode} {S J:World→Prop} {k:Nat}
def SJ (S J:World→Prop) (k:Nat) (listed:Array Bool) (w:World):Prop:=S w∧(listed.getD k false=false→J w)
def de (P:Program) (md:Region.Mode) (ops:Array Oper) (Q:Exit→Act→World→Prop) (S J:World→Prop) (k:Nat):Nat→Array Bool→Act→World→Prop
 | 0,listed,a,w=>Region.ready md ops listed=[]∧Q .normal a w
 | fuel+1,listed,a,w =>
  (Region.ready md ops listed=[]→Q .normal a w) ∧
  ∀i∈Region.ready md ops listed,wpOp P ops Q i (fun a' w'=>SJ S J k (listed.setIfInBounds i true) w'∧de P md ops Q S J k fuel (listed.setIfInBounds i true) a' w') a w
theorem yC:∀ (fuel:Nat) (listed:Array Bool) (a:Act) (w:World),de P md ops Q S J k fuel listed a w→wpAny P md ops Q fuel listed a w
 | 0,_,_,_,h=>h
 | fuel+1,_,_,_,h=>⟨h.1,fun i hi=>DY (fun a' w' h'=>yC fuel _ a' w' h'.2) (h.2 i hi)⟩
def BT (md:Region.Mode) (ops:Array Oper) (listed:Array Bool):Bool:=(List.range ops.size).all fun j => !listed.getD j false || (match ops[j]? with | some o=>o.after.toList.all fun e => !Region.binds md e || listed.getD e.on false | none=>true)
theorem uM {listed:Array Bool} (h:BT md ops listed=true) {j:Nat} {o:Oper} (ho:ops[j]? = some o) (hl:listed.getD j false=true):∀e∈o.after,Region.binds md e=true→listed.getD e.on false=true:=by
 intro e he hb;have:=cx.1 h j (ng.2 (ee.1 ho).1);rw[hl,ho]at this;simp only[Bool.not_true,Bool.false_or]at this;have:=cx.1 this e (by simpa using he);rw[hb]at this;simpa using this
def Im (md:Region.Mode) (ops:Array Oper) (k i:Nat):Bool:=match ops[k]? with | some o=>o.after.toList.any fun e=>Region.binds md e&&e.on == i | none=>false
def TJ (S J:World→Prop) (ed:Bool) (w:World):Prop:=S w∧(ed=true→J w)
theorem uN {i:Nat} {oi:Oper} {v:Value} {ed:Bool} (hi:ops[i]? = some oi) (hsel:∀ (j:Nat) (o:Oper) cs b,ops[j]? = some o→o.op≠.select cs b)
 (hQ:∀c a w,Q (.panic c) (a.put oi.dst v) w→Q (.panic c) a w) (hik:i≠k) (hed:ed=true→Im md ops k i=true) :
 ∀ (fuel:Nat) (listed:Array Bool) (a:Act) (w:World),(∀j o,ops[j]? = some o→listed.getD j false=true→∀e∈o.after,Region.binds md e=true→listed.getD e.on false=true) →
  (∀j oj,ops[j]? = some oj→j≠i→listed.getD j true=false→(∀e∈oj.after,Region.binds md e=true→e.on≠i)→oi.apart ops oj=true) →
  i∈Region.ready md ops listed→YieldsIf P ops (TJ S J ed) oi v a→SJ S J k listed w →
  de P md ops Q S J k fuel (listed.setIfInBounds i true) (a.put oi.dst v) w→de P md ops Q S J k (fuel+1) listed a w:=by
 have key:∀ (listed:Array Bool) (w:World),(∀j o,ops[j]? = some o→listed.getD j false=true→∀e∈o.after,Region.binds md e=true→listed.getD e.on false=true)→i∈Region.ready md ops listed→SJ S J k listed w→TJ S J ed w:=by
  intro listed w hc hr hS;refine⟨hS.1,fun h=>hS.2 ?_⟩;have h1:=hed h;unfold Im at h1;cases ho:ops[k]? with
  | none=>rw[ho]at h1;cases h1
  | some o =>
   rw[ho]at h1;obtain⟨e,he,h2⟩:=Dx.1 h1;simp only[Bool.and_eq_true,beq_iff_eq]at h2;cases hl:listed.getD k false with
   | false=>rfl
   | true =>
    have h3:=hc k o ho hl e (by simpa using he) h2.1;rw[h2.2]at h3;have h0:=(lS.1 hr).1;rcases bZ i listed.size with h' | h'
    ·simp[h']at h0 h3;rw[h0]at h3;cases h3
    ·simp[Array.getElem?_eq_none h']at h3
 intro fuel;induction fuel with
 | zero =>
  intro listed a w hcl _ hr hy hS H;refine⟨fun h=>(by rw[h]at hr;cases hr),fun j hj=>?_⟩;by_cases hji:j=i
  ·subst hji;exact hy.wpOp hi (key listed w hcl hr hS) ⟨⟨hS.1,fun h=>hS.2 (by rwa [jU false hik]at h)⟩,H⟩
  ·have:=xf hj hji;rw[H.1]at this;cases this
 | succ fuel ih =>
  intro listed a w hcl hfree hr hy hS H;refine⟨fun h=>(by rw[h]at hr;cases hr),fun j hj=>?_⟩;by_cases hji:j=i
  ·subst hji;exact hy.wpOp hi (key listed w hcl hr hS) ⟨⟨hS.1,fun h=>hS.2 (by rwa [jU false hik]at h)⟩,H⟩
  ·have h1:=H.2 j (xf hj hji);obtain⟨hjun,oj,hoj,hall⟩:=lS.1 hj;have hnot:∀e∈oj.after,Region.binds md e=true→e.on≠i:=fun e he hb heq=>by
    have h1:=hall e he hb;have h0:=(lS.1 hr).1;rw[heq]at h1;rcases bZ i listed.size with h' | h'
    ·simp[h']at h0 h1;rw[h0]at h1;cases h1
    ·simp[Array.getElem?_eq_none h']at h1
   have h2:=wpOp_putIf hoj (hfree j oj hoj hji hjun hnot) (fun cs b=>hsel i oi cs b hi) (fun cs b=>hsel j oj cs b hoj) hQ hy h1;have hfree':∀k ok,ops[k]? = some ok→k≠i→(listed.setIfInBounds j true).getD k true=false →
    (∀e∈ok.after,Region.binds md e=true→e.on≠i)→oi.apart ops ok=true:=fun k ok hk hki hun hno=>by
    refine hfree k ok hk hki ?_ hno;by_cases hjk:j=k
    ·subst hjk;exact hjun
    ·rw[jU true hjk]at hun;exact hun
   have hcl':∀m o,ops[m]? = some o→(listed.setIfInBounds j true).getD m false=true→∀e∈o.after,Region.binds md e=true→(listed.setIfInBounds j true).getD e.on false=true:=fun m o ho hm e he hb=>by
    by_cases hjm:j=m
    ·subst hjm;rw[hoj]at ho;cases ho
     exact zT (hall e he hb)
    ·rw[jU false hjm]at hm;exact zT (hcl m o ho hm e he hb)
   have hback:∀w',SJ S J k ((listed.setIfInBounds i true).setIfInBounds j true) w'→SJ S J k (listed.setIfInBounds j true) w':=fun w' h=>by
    refine⟨h.1,fun hl=>h.2 ?_⟩;rw[wm _ _ (fj hji),jU false hik];exact hl
   refine DY (fun a' w' h3=>⟨hback w' h3.2.1,ih (listed.setIfInBounds j true) a' w' hcl' hfree' (xf hr (fj hji)) h3.1 (hback w' h3.2.1) ?_⟩) h2;rw[wm _ _ hji];exact h3.2.2
theorem jy (ed:Bool) (i:Nat) {fuel:Nat} {listed:Array Bool} {a b:Act} {w:World} {oi:Oper} {v:Value} (hi:ops[i]? = some oi) (hy:YieldsIf P ops (TJ S J ed) oi v a) (h:de P md ops Q S J k fuel (listed.setIfInBounds i true) b w) (hik:(i != k)=true:=by rfl) (hed:(!ed || Im md ops k i)=true:=by kernel_rfl)
 (hcl:BT md ops listed=true:=by kernel_rfl) (hs:Region.noSelect ops=true:=by kernel_rfl) (hf:Region.free md ops listed i=true:=by kernel_rfl)
 (hr:(Region.ready md ops listed).contains i=true:=by kernel_rfl) (hQ:∀c a w,Q (.panic c) (a.put oi.dst v) w→Q (.panic c) a w:=by exact fun _ _ _ h=>h) (hS:SJ S J k listed w:=by first | exact⟨hHeld,fun _=>hJ⟩ | exact⟨hHeld,fun h=>absurd h (by decide)⟩) (hb:a.put oi.dst v=b:=by(simp only[Act.put,Array.toArray_toList,l_,me,mf,mh,mi,mj];rfl)):de P md ops Q S J k (fuel+1) listed a w:=by
 subst hb;exact uN hi (zt hs) hQ (by simpa using hik) (fun e=>by rw[e]at hed;simpa using hed) fuel listed a w (fun j o ho hl=>uM hcl ho hl) (Dv hi hf) (by simpa using hr) hy hS h
theorem jk (ed:Bool) (i:Nat) {fuel:Nat} {listed:Array Bool} {a b:Act} {w:World} {oi:Oper} {v:Value} (h:de P md ops Q S J k fuel (listed.setIfInBounds i true) b w) (hi:ops[i]? = some oi:=by rfl) (hik:(i != k)=true:=by rfl) (hed:(!ed || Im md ops k i)=true:=by kernel_rfl)
 (hcl:BT md ops listed=true:=by kernel_rfl) (hs:Region.noSelect ops=true:=by kernel_rfl) (hf:Region.free md ops listed i=true:=by kernel_rfl)
 (hr:(Region.ready md ops listed).contains i=true:=by kernel_rfl) (hQ:∀c a w,Q (.panic c) (a.put oi.dst v) w→Q (.panic c) a w:=by exact fun _ _ _ h=>h) (hw:Region.wanted oi (yielded ops a.tmps)=true:=by rfl) (hS:SJ S J k listed w:=by first | exact⟨hHeld,fun _=>hJ⟩ | exact⟨hHeld,fun h=>absurd h (by decide)⟩)
 (hy:∀w,S w→(ed=true→J w)→(execOp a.eval oi).run P w=.ok (.value v) w:=by(intro w hSw hJw;(try have hJw:=hJw rfl);(try dsimp only at hSw);(try dsimp only at hJw);go_simp;try with_reducible rfl)) (hb:a.put oi.dst v=b:=by(simp only[Act.put,l_,me,mf,mh,mi,mj];rfl)):de P md ops Q S J k (fuel+1) listed a w:=by
 subst hb;exact uN hi (zt hs) hQ (by simpa using hik) (fun e=>by rw[e]at hed;simpa using hed) fuel listed a w (fun j o ho hl=>uM hcl ho hl) (Dv hi hf) (by simpa using hr) (Or.inl ⟨hw,fun w h=>hy w h.1 h.2⟩) hS h
theorem ju (i:Nat) {fuel:Nat} {listed:Array Bool} {a b:Act} {w:World} {oi:Oper} (h:de P md ops Q S J k fuel (listed.setIfInBounds i true) b w) (hi:ops[i]? = some oi:=by rfl) (hik:(i != k)=true:=by rfl)
 (hcl:BT md ops listed=true:=by kernel_rfl) (hs:Region.noSelect ops=true:=by kernel_rfl) (hf:Region.free md ops listed i=true:=by kernel_rfl)
 (hr:(Region.ready md ops listed).contains i=true:=by kernel_rfl) (hQ:∀c a w,Q (.panic c) (a.put oi.dst undef) w→Q (.panic c) a w:=by exact fun _ _ _ h=>h) (hw:Region.wanted oi (yielded ops a.tmps)=false:=by rfl) (hS:SJ S J k listed w:=by first | exact⟨hHeld,fun _=>hJ⟩ | exact⟨hHeld,fun h=>absurd h (by decide)⟩)
 (hb:a.put oi.dst undef=b:=by(simp only[Act.put,l_,me,mf,mh,mi,mj];rfl)):de P md ops Q S J k (fuel+1) listed a w:=by
 subst hb;exact uN (ed:=false) hi (zt hs) hQ (by simpa using hik) (fun e=>by cases e) fuel listed a w (fun j o ho hl=>uM hcl ho hl) (Dv hi hf) (by simpa using hr) (Or.inr ⟨hw,rfl⟩) hS h
theorem aec {listed:Array Bool} {a:Act} {w:World} (hr:Region.ready md ops listed=[]) (h:Q .normal a w) :
 ∀fuel,de P md ops Q S J k fuel listed a w
 | 0=>⟨hr,h⟩
 | _+1=>⟨fun _=>h,by rw[hr];simp⟩
theorem qY {fuel:Nat} {listed:Array Bool} {a:Act} {w:World} (h:Q .normal a w) (hr:Region.ready md ops listed=[]:=by kernel_rfl):de P md ops Q S J k fuel listed a w:=aec hr h fuel
theorem jr (i:Nat) {fuel:Nat} {listed:Array Bool} {a:Act} {w:World} {oi:Oper} (h:∀K':Act→World→Prop,Shut (∀a w,SJ S J k (listed.setIfInBounds i true) w→de P md ops Q S J k fuel (listed.setIfInBounds i true) a w→K' a w)→if Region.wanted oi (yielded ops a.tmps)=true then Oper.wp P oi a w K' Q else K' (a.put oi.dst undef) w)
 (ho:ops[i]? = some oi:=by rfl) (hr:Region.ready md ops listed=[i]:=by kernel_rfl):de P md ops Q S J k (fuel+1) listed a w:=by
 refine⟨fun h0=>(by rw[hr]at h0;cases h0),fun j hj=>?_⟩;rw[hr]at hj;obtain rfl:=mZ.1 hj;exact nB ho fun K' hK=>h K' fun a w h1 h2=>hK a w ⟨h1,h2⟩
theorem jr2 (i j:Nat) {fuel:Nat} {listed:Array Bool} {a:Act} {w:World} {oi oj:Oper}
 (h:∀K':Act→World→Prop,Shut (∀a w,SJ S J k (listed.setIfInBounds i true) w→de P md ops Q S J k fuel (listed.setIfInBounds i true) a w→K' a w)→if Region.wanted oi (yielded ops a.tmps)=true then Oper.wp P oi a w K' Q else K' (a.put oi.dst undef) w)
 (h2:∀K':Act→World→Prop,Shut (∀a w,SJ S J k (listed.setIfInBounds j true) w→de P md ops Q S J k fuel (listed.setIfInBounds j true) a w→K' a w)→if Region.wanted oj (yielded ops a.tmps)=true then Oper.wp P oj a w K' Q else K' (a.put oj.dst undef) w)
 (ho:ops[i]? = some oi:=by rfl) (ho2:ops[j]? = some oj:=by rfl) (hr:Region.ready md ops listed=[i,j]:=by kernel_rfl):de P md ops Q S J k (fuel+1) listed a w:=by
 refine⟨fun h0=>(by rw[h0]at hr;cases hr),fun j' hj=>?_⟩;rw[hr]at hj;rcases lN.1 hj with rfl | hj
 ·exact nB ho fun K' hK=>h K' fun a w h1 h2=>hK a w ⟨h1,h2⟩
 ·obtain rfl:=mZ.1 hj;exact nB ho2 fun K' hK=>h2 K' fun a w h1 h2=>hK a w ⟨h1,h2⟩
theorem jb (S J:World→Prop) (k:Nat) {id:Nat} {a:Act} {w:World} (hS:S w.drew) (hJ:J w.drew) (h:S w.drew→J w.drew→de P .any ops Q S J k ops.size (Array.replicate ops.size false) a w.drew) (hm:P.follows .mixedOrders=true:=by kernel_rfl):(Code.region id ops true).wp P Q a w :=
 wp_region_any hm (yC _ _ _ _ (h hS hJ))
end
abbrev qV:=Nat×Option Tmp
def upd (vs:Nat→Value) (i:Nat) (v:Value):Nat→Value:=fun k=>if k=i then v else vs k
theorem upd_same (vs:Nat→Value) (i:Nat) (v:Value):upd vs i v i=v:=aB rfl
theorem upd_ne {vs:Nat→Value} {i k:Nat} {v:Value} (h:k≠i):upd vs i v k=vs k:=aG h
def puts:List qV→(Nat→Value)→Act→Act
 | [],_,a=>a
 | p::r,vs,a=>puts r vs (a.put p.2 (vs p.1))
def we {α:Type} (p:α→Prop):List α→Prop
 | []=>True
 | d::r=>p d∧we p r
theorem BU {α:Type} {p:α→Prop}:∀ {l:List α},(∀d∈l,p d)→we p l
 | [],_=>trivial
 | _::_,h=>⟨h _ (pX ..),BU fun d hd=>h d (ph _ hd)⟩
def mG (ops:Array Oper) (i:Nat):Option Tmp:=(ops[i]?).bind (·.dst)
abbrev Plan:=List (Nat×List qV×List Nat×Bool)
abbrev Kill:=Nat→List Nat
def Plan.has (L:Plan) (i:Nat):Bool:=L.any fun p=>p.1 == i
def iL (L:Plan) (i:Nat):List Nat:=(L.filter fun p=>p.1 == i).flatMap fun p=>p.2.1.map (·.1)
def Fj (md:Region.Mode) (ops:Array Oper) (listed:Array Bool) (kill:Kill) (kj:Nat) (L:Plan):Bool :=
 (List.range ops.size).all (fun i=>listed.getD i true || L.has i) &&
 L.all (fun p => !listed.getD p.1 true&&decide (p.1<ops.size)) &&
 (List.range ops.size).all (fun i=>match ops[i]? with | some o=>o.after.toList.all fun e => !Region.binds md e || decide (e.on<i) | none=>true) &&
 L.all (fun p=>p.2.1.all fun d=>d.2 == mG ops d.1&&L.has d.1) &&
 L.all (fun p=>p.2.2.1.all fun u=>(p.2.1.map (·.1)).contains u&&(kill u).all fun k=>k == p.1 || (iL L k).contains p.1) &&
 L.all (fun p=>(kill p.1).all fun k=>L.has k) &&
 L.all (fun p => !p.2.2.2 || p.1 == kj || (L.has kj&&(iL L kj).contains p.1)) && !listed.getD kj false &&
 L.all (fun p=>(iL L p.1).all fun j=>match ops[p.1]? with | some o=>o.after.toList.any fun e=>Region.binds md e&&(e.on == j || (iL L e.on).contains j) | none=>false) &&
 L.all (fun p=>L.all fun q=>p.1 == q.1 || (match mG ops p.1 with | some d=>mG ops q.1 != some d | none=>true)) &&
 L.all (fun p=>match ops[p.1]? with
  | some o=>L.all fun q=>(match mG ops q.1 with | some d => !(o.looksAt ops).contains d || (p.2.1.map (·.1)).contains q.1 || (q.1 != p.1&&(iL L q.1).contains p.1) | none=>true)
  | none=>false)
section
variable {P:Program} {ops:Array Oper} {Q:Exit→Act→World→Prop} {md:Region.Mode} {kj:Nat} {J:World→Prop}
def Ob (P:Program) (ops:Array Oper) (I J:World→Prop) (kj:Nat) (E:Nat→(Nat→Value)→World→World→Prop) (post:Nat→(Nat→Value)→World→Prop) (a0:Act) (i:Nat) (ds:List qV) (us:List Nat) (fl:Bool) (o:Oper):Prop :=
 ∀ (vs:Nat→Value) (w:World) (K:Act→World→Prop),I w→(fl=true→J w)→we (fun d=>post d vs w) us →
  Shut (∀b v w',b=(puts ds vs a0).put o.dst v→I w'→(i=kj∨(J w→J w'))→post i (upd vs i v) w'→E i (upd vs i v) w w'→K b w') →
  if Region.wanted o (yielded ops (puts ds vs a0).tmps)=true then Oper.wp P o (puts ds vs a0) w K (fun _ _ _=>False) else K ((puts ds vs a0).put o.dst undef) w
def Fk (P:Program) (ops:Array Oper) (I J:World→Prop) (kj:Nat) (E:Nat→(Nat→Value)→World→World→Prop) (post:Nat→(Nat→Value)→World→Prop) (a0:Act):Plan→Prop
 | []=>True
 | p::r=>(∃o,ops[p.1]? = some o∧Ob P ops I J kj E post a0 p.1 p.2.1 p.2.2.1 p.2.2.2 o)∧Fk P ops I J kj E post a0 r
theorem Fk.mem {I:World→Prop} {E:Nat→(Nat→Value)→World→World→Prop} {post:Nat→(Nat→Value)→World→Prop} {a0:Act}:∀ {L:Plan},Fk P ops I J kj E post a0 L→∀p∈L, ∃o,ops[p.1]? = some o∧Ob P ops I J kj E post a0 p.1 p.2.1 p.2.2.1 p.2.2.2 o
 | [],_,_,h=>by cases h
 | q::r,h,p,hp=>by
  rcases lN.1 hp with rfl | hp
  ·exact h.1
  ·exact Fk.mem h.2 p hp
theorem CE:∀ (l:List qV) (vs:Nat→Value) (a:Act),(puts l vs a).defers=a.defers
 | [],_,_=>rfl
 | p::r,vs,a=>by
  rw[puts,CE r vs];cases p.2<;>rfl
theorem gQ (a:Act) (d:Option Tmp) (v:Value):(a.put d v).tmps.size=a.tmps.size:=by
 cases d<;>simp[Act.put]
theorem tD {a:Act} {d:Option Tmp} {v:Value} {t:Nat} (h:d≠some t):(a.put d v).tmps[t]? = a.tmps[t]? :=by
 cases d with
 | none=>rfl
 | some e=>simp[Act.put,Array.getElem?_setIfInBounds_ne (show e≠t from fun x=>h (by rw[x]))]
theorem tE {a:Act} {v:Value} {t:Nat} (h:t<a.tmps.size):(a.put (some t) v).tmps[t]? = some v:=by
 simp[Act.put,h]
theorem vE:∀ (l:List qV) (vs:Nat→Value) (a:Act),(puts l vs a).tmps.size=a.tmps.size
 | [],_,_=>rfl
 | p::r,vs,a=>by rw[puts,vE r vs,gQ]
theorem BV:∀ (l:List qV) (vs:Nat→Value) (a:Act) (t:Nat),(∀p∈l,p.2≠some t)→(puts l vs a).tmps[t]? = a.tmps[t]?
 | [],_,_,_,_=>rfl
 | p::r,vs,a,t,h=>by
  rw[puts,BV r vs _ t fun q hq=>h q (ph _ hq),tD (h p (pX ..))]
theorem Dg:∀ (l:List qV) (vs:Nat→Value) (a:Act) (t k:Nat),(k,some t)∈l→(∀p∈l,p.2=some t→p.1=k)→t<a.tmps.size→(puts l vs a).tmps[t]? = some (vs k)
 | [],_,_,_,_,h,_,_=>by cases h
 | p::r,vs,a,t,k,h,hu,ht=>by
  rw[puts];by_cases hr:∃q∈r,q.2=some t
  ·obtain⟨q,hq,YE⟩:=hr;have hqk:=hu q (ph _ hq) YE;have:(k,some t)∈r:=by rw[←hqk,←YE];exact hq
   exact Dg r vs _ t k this (fun p hp=>hu p (ph _ hp)) (by rw[gQ];exact ht)
  ·have hn:∀q∈r,q.2≠some t:=fun q hq e=>hr ⟨q,hq,e⟩
   rw[BV r vs _ t hn];rcases lN.1 h with rfl | h
   ·exact tE ht
   ·exact absurd rfl (hn _ h)
theorem T9 {a b:Act} {x:Operand} (h:∀t,x=.tmp t→a.tmps[t]? = b.tmps[t]?):a.eval x=b.eval x:=by
 cases x with
 | tmp t=>simp[Act.eval,h t rfl]
 | _=>rfl
theorem uP {a b:Act} {d:Option Tmp} {v u:Value} (hs:a.tmps.size=b.tmps.size) (h:b.put d v=b.put d u):a.put d v=a.put d u:=by
 cases d with
 | none=>rfl
 | some t =>
  rcases bZ t b.tmps.size with hl | hg
  ·have e:=dz (fun x:Act=>x.tmps[t]?) h;simp only[tE hl,Option.some.injEq]at e;rw[e]
  ·have hn:¬ (t:Nat)<a.tmps.size:=by rw[hs];exact Nat.not_lt.2 hg
   simp[Act.put,Array.setIfInBounds,hn]
theorem Nk {o:Oper} {a b:Act} (h:∀t∈o.looksAt ops,a.tmps[t]? = b.tmps[t]?):Region.wanted o (yielded ops a.tmps)=Region.wanted o (yielded ops b.tmps):=by
 unfold Region.wanted;cases hg:o.guard with
 | none=>rfl
 | some gw =>
  obtain⟨g,want⟩:=gw;have hy:yielded ops a.tmps g=yielded ops b.tmps g:=by
   unfold yielded;cases ht:(ops[g]?).bind (·.dst)with
   | none=>rfl
   | some t =>
    have:=h t (by simp[Oper.looksAt,hg,ht]);simp[this]
  simp only[hy]
theorem T_ {o:Oper} (hs:∀cs b,o.op≠.select cs b) {a b:Act} (h:∀t∈o.looksAt ops,a.tmps[t]? = b.tmps[t]?):execOp a.eval o=execOp b.eval o :=
 execOp_congr o hs fun x hx=>T9 fun t ht=>h t (by
  subst ht;exact zv _ (List.mem_filterMap.2 ⟨.tmp t,by simpa using hx,rfl⟩))
theorem aan {o:Oper} (hs:∀cs b,o.op≠.select cs b) {a b:Act} {w:World} (h:∀t∈o.looksAt ops,a.tmps[t]? = b.tmps[t]?) (hz:a.tmps.size=b.tmps.size) {G:Value→World→Prop}
 (H:if Region.wanted o (yielded ops b.tmps)=true then Oper.wp P o b w (fun X w'=>∃v,X=b.put o.dst v∧G v w') (fun _ _ _=>False) else ∃v,b.put o.dst undef=b.put o.dst v∧G v w) :
 if Region.wanted o (yielded ops a.tmps)=true then Oper.wp P o a w (fun X w'=>∃v,X=a.put o.dst v∧G v w') Q else ∃v,a.put o.dst undef=a.put o.dst v∧G v w:=by
 rw[Nk h];split
 ·rename_i hw
  rw[aB hw]at H;unfold Oper.wp at *;rw[T_ hs h];generalize (execOp b.eval o).run P w=r at *;cases r with
  | ok n w' =>
   cases n<;>simp only[Oper.upon]at H ⊢
   case value u=>obtain⟨v,e,g⟩:=H;exact⟨v,uP hz e,g⟩
   case skip=>obtain⟨v,e,g⟩:=H;exact⟨v,uP hz e,g⟩
   case defer d =>
    obtain⟨v,e,g⟩:=H;have h1:=dz (fun x:Act=>x.defers.length) e;have h2:∀ (x:Act) (d:Option Tmp) (v:Value),(x.put d v).defers=x.defers:=fun x d v=>by cases d<;>rfl
    simp only[h2,List.length_cons]at h1;omega
   case enter f args =>
    refine Calls.mono H fun e w'' he=>?_;cases e with
    | returned u=>obtain⟨v,e,g⟩:=he;exact⟨v,uP hz e,g⟩
    | panicked c=>exact he.elim
    | outgrown=>obtain⟨_,_,hf⟩:=he;exact hf.elim
   case row row args=>exact Rows.mono H fun u w'' he=>by obtain⟨v,e,g⟩:=he;exact⟨v,uP hz e,g⟩
  | halt x w'=>cases x<;>simp only[Oper.upon]at H
 ·rename_i hw
  rw[aG hw]at H;obtain⟨v,e,g⟩:=H;exact⟨v,uP hz e,g⟩
def Congr (post:Nat→(Nat→Value)→World→Prop):Plan→Prop
 | []=>True
 | p::r=>(∀ (vs vs':Nat→Value) (w:World),vs p.1=vs' p.1→we (fun d=>vs d.1=vs' d.1) p.2.1→post p.1 vs w→post p.1 vs' w)∧Congr post r
theorem Congr.mem {post:Nat→(Nat→Value)→World→Prop}:∀ {L:Plan},Congr post L→∀p∈L, ∀ (vs vs':Nat→Value) (w:World),vs p.1=vs' p.1→(∀d∈p.2.1,vs d.1=vs' d.1)→post p.1 vs w→post p.1 vs' w
 | [],_,_,h=>by cases h
 | q::r,h,p,hp=>by
  rcases lN.1 hp with rfl | hp
  ·exact fun vs vs' w h1 h2 h3=>h.1 vs vs' w h1 (BU h2) h3
  ·exact Congr.mem h.2 p hp
structure RInv (ops:Array Oper) (S J:World→Prop) (kj:Nat) (post:Nat→(Nat→Value)→World→Prop) (kill:Kill) (L:Plan) (l0:Array Bool) (a0:Act) (vs:Nat→Value) (listed:Array Bool) (a:Act) (w:World):Prop where
 defers:a.defers=a0.defers
 size:a.tmps.size=a0.tmps.size
 yes:∀p∈L,listed.getD p.1 false=true→∀d,mG ops p.1=some d→d<a0.tmps.size→a.tmps[d]? = some (vs p.1)
 no:∀t,(∀p∈L,listed.getD p.1 false=true→mG ops p.1≠some t)→a.tmps[t]? = a0.tmps[t]?
 posts:∀p∈L,listed.getD p.1 false=true→(∀k∈kill p.1,listed.getD k false=false)→post p.1 vs w
 shut:∀p∈L,listed.getD p.1 false=true→∀j∈iL L p.1,listed.getD j false=true
 held:SJ S J kj listed w
 big:listed.size=ops.size
 old:∀i,l0.getD i true=true→listed.getD i true=true
structure sS (md:Region.Mode) (ops:Array Oper) (l0:Array Bool) (kill:Kill) (kj:Nat) (L:Plan):Prop where
 cover:∀i,i<ops.size→l0.getD i true=false→∃p∈L,p.1=i
 fresh:∀p∈L,l0.getD p.1 true=false∧p.1<ops.size
 back:∀i o,ops[i]? = some o→∀e∈o.after,Region.binds md e=true→e.on<i
 deps:∀p∈L, ∀d∈p.2.1,d.2=mG ops d.1∧∃q∈L,q.1=d.1
 alive:∀p∈L, ∀u∈p.2.2.1,(∃d∈p.2.1,d.1=u)∧∀k∈kill u,k=p.1∨p.1∈iL L k
 kills:∀p∈L, ∀k∈kill p.1, ∃q∈L,q.1=k
 flag:∀p∈L,p.2.2.2=true→p.1=kj∨((∃q∈L,q.1=kj)∧p.1∈iL L kj)
 first:l0.getD kj false=false
 via:∀p∈L, ∀j∈iL L p.1, ∃o,ops[p.1]? = some o∧∃e∈o.after,Region.binds md e=true∧(e.on=j∨j∈iL L e.on)
 dist:∀p∈L, ∀q∈L,p.1=q.1∨∀d,mG ops p.1=some d→mG ops q.1≠some d
 look:∀p∈L, ∃o,ops[p.1]? = some o∧∀q∈L, ∀d,mG ops q.1=some d→d∈o.looksAt ops→(∃x∈p.2.1,x.1=q.1)∨(q.1≠p.1∧p.1∈iL L q.1)
theorem Plan.xF {L:Plan} {i:Nat}:L.has i=true↔∃p∈L,p.1=i:=by simp[Plan.has]
theorem Nl {l0:Array Bool} {kill:Kill} {L:Plan} (h:Fj md ops l0 kill kj L=true):sS md ops l0 kill kj L:=by
 unfold Fj at h;simp only[Bool.and_eq_true]at h;obtain⟨⟨⟨⟨⟨⟨⟨⟨⟨⟨h1,h2⟩,h3⟩,h4⟩,h8⟩,h9⟩,hA⟩,hB⟩,h5⟩,h6⟩,h7⟩:=h;refine⟨fun i hi hl=>?_,fun p hp=>?_,fun i o ho e he hb=>?_,fun p hp d hd=>?_,fun p hp u hu=>?_,fun p hp k hk=>?_,fun p hp hf=>?_,by simpa using hB,fun p hp j hj=>?_,fun p hp q hq=>?_,fun p hp=>?_⟩
 ·have:=cx.1 h1 i (ng.2 hi);rw[hl,Bool.false_or]at this;exact Plan.xF.1 this
 ·have:=cx.1 h2 p hp;simp only[Bool.and_eq_true,Bool.not_eq_true',decide_eq_true_eq]at this;exact this
 ·have:=cx.1 h3 i (ng.2 (ee.1 ho).1);rw[ho]at this;have:=cx.1 this e (by simpa using he);rw[hb]at this;simpa using this
 ·have:=cx.1 (cx.1 h4 p hp) d hd;simp only[Bool.and_eq_true,beq_iff_eq]at this;exact⟨this.1,Plan.xF.1 this.2⟩
 ·have:=cx.1 (cx.1 h8 p hp) u hu;simp only[Bool.and_eq_true,List.contains_iff_mem,List.mem_map]at this;refine⟨by simpa using this.1,fun k hk=>?_⟩;have:=cx.1 this.2 k hk;simp only[Bool.or_eq_true,beq_iff_eq,List.contains_iff_mem]at this;exact this
 ·exact Plan.xF.1 (cx.1 (cx.1 h9 p hp) k hk)
 ·have:=cx.1 hA p hp;rw[hf]at this;simp only[Bool.not_true,Bool.false_or,Bool.or_eq_true,Bool.and_eq_true,beq_iff_eq,List.contains_iff_mem]at this;exact this.imp id fun h=>⟨Plan.xF.1 h.1,h.2⟩
 ·have:=cx.1 (cx.1 h5 p hp) j hj;cases ho:ops[p.1]? with
  | none=>rw[ho]at this;cases this
  | some o =>
   rw[ho]at this;obtain⟨e,he,h⟩:=Dx.1 this;simp only[Bool.and_eq_true,Bool.or_eq_true,beq_iff_eq,List.contains_iff_mem]at h;exact⟨o,rfl,e,by simpa using he,h.1,h.2⟩
 ·have:=cx.1 (cx.1 h6 p hp) q hq;simp only[Bool.or_eq_true,beq_iff_eq]at this;refine this.imp id fun h d hd=>?_;rw[hd]at h;simpa using h
 ·have:=cx.1 h7 p hp;cases ho:ops[p.1]? with
  | none=>rw[ho]at this;cases this
  | some o =>
   rw[ho]at this;refine⟨o,rfl,fun q hq d hd hl=>?_⟩;have:=cx.1 this q hq;rw[hd]at this;have hc:(o.looksAt ops).contains d=true:=by simpa using hl
   simp only[hc,Bool.not_true,Bool.false_or,Bool.or_eq_true,Bool.and_eq_true,bne_iff_ne,ne_eq,List.contains_iff_mem]at this;exact this.imp (fun h=>by simpa using h) id
theorem Dh {L:Plan} {p:Nat×List qV×List Nat×Bool} (hp:p∈L) {d:qV} (hd:d∈p.2.1):d.1∈iL L p.1 :=
 zI.2 ⟨p,IY.2 ⟨hp,by simp⟩,dI.2 ⟨d,hd,rfl⟩⟩
theorem LP {L:Plan} {i j:Nat} (h:j∈iL L i):∃p∈L,p.1=i:=by
 obtain⟨p,hp,_⟩:=zI.1 h;obtain⟨h1,h2⟩:=IY.1 hp;exact⟨p,h1,by simpa using h2⟩
theorem xG {l:Array Bool} {i:Nat} (h:l.getD i true=false):l.getD i false=false∧i<l.size:=by
 rcases bZ i l.size with hl | hg
 ·exact⟨by simpa[hl]using h,hl⟩
 ·simp[Array.getElem?_eq_none hg]at h
theorem Og {l:Array Bool} {i:Nat} (hi:i<l.size) (h:¬l.getD i true=false):l.getD i false=true:=by
 simpa[hi]using h
section
variable {S J:World→Prop} {kj:Nat} {post:Nat→(Nat→Value)→World→Prop} {E:Nat→(Nat→Value)→World→World→Prop} {kill:Kill} {L:Plan} {l0:Array Bool} {a0:Act} {vs:Nat→Value} {listed:Array Bool} {a:Act} {w:World}
theorem RInv.behind (pk:sS md ops l0 kill kj L) (h:RInv ops S J kj post kill L l0 a0 vs listed a w) {i:Nat} (hi:i∈Region.ready md ops listed) {j:Nat} (hj:j∈iL L i):listed.getD j false=true:=by
 obtain⟨p,hp,rfl⟩:=LP hj;obtain⟨o,ho,e,he,hb,hx⟩:=pk.via p hp j hj;obtain⟨_,o',ho',hall⟩:=lS.1 hi;rw[ho]at ho';cases ho'
 have h1:=hall e he hb;rcases hx with rfl | hx
 ·exact h1
 ·obtain⟨q,hq,hqe⟩:=LP hx;rw[←hqe]at h1 hx;exact h.shut q hq h1 j hx
theorem RInv.done (pk:sS md ops l0 kill kj L) (h:RInv ops S J kj post kill L l0 a0 vs listed a w) (hr:Region.ready md ops listed=[]):∀i,i<ops.size→listed.getD i true=true:=by
 intro i;induction i using Nat.strongRecOn with
 | ind i ih =>
  intro hi;cases hl:listed.getD i true with
  | true=>rfl
  | false =>
   obtain⟨o,ho⟩:∃o,ops[i]? = some o:=⟨_,uZ hi⟩;have:i∈Region.ready md ops listed:=lS.2 ⟨hl,o,ho,fun e he hb=>by
    have h1:=pk.back i o ho e he hb;exact Og (by rw[h.big];omega) (by rw[ih e.on h1 (by omega)];decide)⟩
   rw[hr]at this;cases this
theorem RInv.all (pk:sS md ops l0 kill kj L) (h:RInv ops S J kj post kill L l0 a0 vs listed a w) (hr:Region.ready md ops listed=[]):∀p∈L,listed.getD p.1 false=true:=fun p hp=>by
 have h2:=(pk.fresh p hp).2;exact Og (by rw[h.big];exact h2) (by rw[h.done pk hr p.1 h2];decide)
def mH (ops:Array Oper) (L:Plan):List qV:=L.map fun p=>(p.1,mG ops p.1)
theorem RInv.end_ (pk:sS md ops l0 kill kj L) (h:RInv ops S J kj post kill L l0 a0 vs listed a w) (hall:∀p∈L,listed.getD p.1 false=true):a=puts (mH ops L) vs a0:=by
 have e1:a.defers=(puts (mH ops L) vs a0).defers:=by rw[CE,h.defers]
 have e2:a.tmps=(puts (mH ops L) vs a0).tmps:=by
  apply tL;intro t;by_cases hq:∃q∈L,mG ops q.1=some t
  ·obtain⟨q,hq,hd⟩:=hq;rcases bZ t a0.tmps.size with hl | hg
   ·have hm:(q.1,some t)∈mH ops L:=dI.2 ⟨q,hq,by rw[←hd]⟩;rw[h.yes q hq (hall q hq) t hd hl,Dg (mH ops L) vs a0 t q.1 hm (fun p hp hpt=>?_) hl];obtain⟨r,hr,rfl⟩:=dI.1 hp;exact(pk.dist r hr q hq).resolve_right fun hn=>hn t hpt hd
   ·rw[lK (by rw[h.size];exact hg),lK (by rw[vE];exact hg)]
  ·rw[h.no t fun p hp _ e=>hq ⟨p,hp,e⟩,BV _ _ _ t fun p hp e=>?_];obtain⟨r,hr,rfl⟩:=dI.1 hp;exact hq ⟨r,hr,e⟩
 cases a
 cases hp:puts (mH ops L) vs a0
 rw[hp]at e1 e2;simp only at e1 e2;rw[e1,e2]
theorem RInv.agree (pk:sS md ops l0 kill kj L) (h:RInv ops S J kj post kill L l0 a0 vs listed a w) {p:Nat×List qV×List Nat×Bool} (hp:p∈L) (hi:p.1∈Region.ready md ops listed) {o:Oper} (ho:ops[p.1]? = some o) :
 ∀t∈o.looksAt ops,a.tmps[t]? = (puts p.2.1 vs a0).tmps[t]? :=by
 intro t ht;obtain⟨o',ho',aeB⟩:=pk.look p hp;rw[ho]at ho';cases ho'
 have hun:=(lS.1 hi).1;by_cases hq:∃q∈L,listed.getD q.1 false=true∧mG ops q.1=some t
 ·obtain⟨q,hq,tj,hd⟩:=hq;rcases aeB q hq t hd ht with ⟨x,hx,hxq⟩ | ⟨_,hx⟩
  ·rcases bZ t a0.tmps.size with hl | hg
   ·have hx2:=(pk.deps p hp x hx).1;rw[hxq,hd]at hx2;rw[h.yes q hq tj t hd hl,Dg _ _ _ t q.1 (by rw[←hxq,←hx2];exact hx) (fun y hy hyt=>?_) hl];obtain⟨hy2,r,hr,hry⟩:=pk.deps p hp y hy;rw[hyt,←hry]at hy2;rw[←hry];exact(pk.dist r hr q hq).resolve_right fun hn=>hn t hy2.symm hd
   ·rw[lK (by rw[h.size];exact hg),lK (by rw[vE];exact hg)]
  ·have:=h.shut q hq tj _ hx;rw[(xG hun).1]at this;cases this
 ·rw[h.no t fun q hq' tj e=>hq ⟨q,hq',tj,e⟩,BV _ _ _ t fun d hd e=>?_];obtain⟨hd2,r,hr,hrd⟩:=pk.deps p hp d hd;have hl:=h.behind pk hi (Dh hp hd);refine hq ⟨r,hr,by rw[hrd];exact hl,?_⟩;rw[hrd,←hd2,e]
theorem RInv.next (pk:sS md ops l0 kill kj L) (hc:Congr post L) (LQ:∀p q,p∈L→q∈L→p.1≠q.1→p.1∉kill q.1→p.1∉iL L q.1→∀vs w w',E p.1 vs w w'→S w→S w'→post q.1 vs w→post q.1 vs w') (h:RInv ops S J kj post kill L l0 a0 vs listed a w) {p:Nat×List qV×List Nat×Bool} (hp:p∈L) (hi:p.1∈Region.ready md ops listed) {o:Oper} (ho:ops[p.1]? = some o) {v:Value} {w':World}
 (hS:S w') (hJ:p.1=kj∨(J w→J w')) (hpo:post p.1 (upd vs p.1 v) w') (hE:E p.1 (upd vs p.1 v) w w'):RInv ops S J kj post kill L l0 a0 (upd vs p.1 v) (listed.setIfInBounds p.1 true) (a.put o.dst v) w':=by
 have hun:=xG (lS.1 hi).1;have hdst:mG ops p.1=o.dst:=by unfold mG;rw[ho];rfl
 have hset:∀j,(listed.setIfInBounds p.1 true).getD j false=true→j≠p.1→listed.getD j false=true:=fun j hj hne=>by rwa [jU false (fj hne)]at hj
 have hput:∀ (x:Act) (d:Option Tmp) (v:Value),(x.put d v).defers=x.defers:=fun x d v=>by cases d<;>rfl
 refine⟨by rw[hput,h.defers],by rw[gQ,h.size],fun q hq tj d hd hl=>?_,fun t ht=>?_,fun q hq tj hk=>?_,fun q hq tj j hj=>?_,⟨hS,fun hl=>?_⟩,by rw[Array.size_setIfInBounds,h.big],fun j hj=>?_⟩
 ·by_cases pd:q.1=p.1
  ·rw[pd,hdst]at hd;rw[hd,tE (by rw[h.size];exact hl),pd,upd_same]
  ·rw[tD (fun e=>((pk.dist q hq p hp).resolve_left pd) d hd (by rw[hdst,e])),h.yes q hq (hset _ tj pd) d hd hl,upd_ne pd]
 ·have h1:o.dst≠some t:=fun e=>ht p hp (by simp[hun.2]) (by rw[hdst,e])
  rw[tD h1];exact h.no t fun q hq tj=>ht q hq (zT tj)
 ·by_cases pd:q.1=p.1
  ·rw[pd];exact hpo
  ·have WY:=hset _ tj pd;have hpk:p.1∉kill q.1:=fun hm=>by have:=hk _ hm;simp[hun.2]at this
   have hpd:p.1∉iL L q.1:=fun hm=>by have:=h.shut q hq WY _ hm;rw[hun.1]at this;cases this
   refine LQ p q hp hq (fj pd) hpk hpd _ _ _ hE h.held.1 hS (hc.mem q hq vs _ w (by rw[upd_ne pd]) (fun d hd=>?_) (h.posts q hq WY fun k hkm=>?_));rotate_left 1
   ·have:=hk k hkm;by_cases hkp:p.1=k
    ·exact absurd (hkp▸hkm) hpk
    ·rwa [jU false hkp]at this
   have:=h.shut q hq WY _ (Dh hq hd);rw[upd_ne fun e=>by rw[e,hun.1]at this;cases this]
 ·by_cases pd:q.1=p.1
  ·rw[pd]at hj;exact zT (h.behind pk hi hj)
  ·exact zT (h.shut q hq (hset _ tj pd) j hj)
 ·rcases hJ with rfl | hJ
  ·simp[hun.2]at hl
  ·refine hJ (h.held.2 ?_);by_cases hpk:p.1=kj
   ·rw[←hpk];exact hun.1
   ·rwa [jU false hpk]at hl
 ·by_cases hjp:p.1=j
  ·subst hjp;simp[hun.2]
  ·rw[jU true hjp];exact h.old j hj
theorem Qx {L:Plan} {listed:Array Bool} {p:Nat×List qV×List Nat×Bool} (hp:p∈L) (h0:listed.getD p.1 false=false) (hl:p.1<listed.size) {n:Nat} (h:L.countP (fun q => !listed.getD q.1 false)≤n+1) :
 L.countP (fun q => !(listed.setIfInBounds p.1 true).getD q.1 false)≤n:=by
 have key:∀ (M:Plan),M.countP (fun q => !(listed.setIfInBounds p.1 true).getD q.1 false)≤M.countP (fun q => !listed.getD q.1 false):=fun M=>List.countP_mono_left fun q _ hq=>by
  by_cases pd:p.1=q.1
  ·rw[←pd]at hq;simp[hl]at hq
  ·rwa [jU false pd]at hq
 have strict:∀ (M:Plan),p∈M→M.countP (fun q => !(listed.setIfInBounds p.1 true).getD q.1 false)+1≤M.countP (fun q => !listed.getD q.1 false):=fun M=>by
  induction M with
  | nil=>intro h;cases h
  | cons q r ih =>
   intro hm;rw[List.countP_cons,List.countP_cons];rcases lN.1 hm with rfl | hm
   ·have e:(listed.setIfInBounds p.1 true).getD p.1 false=true:=by simp[hl]
    rw[e,h0];have:=key r;simpa using this
   ·have h1:=ih hm;by_cases pd:p.1=q.1
    ·have e:(listed.setIfInBounds p.1 true).getD q.1 false=true:=by rw[←pd];simp[hl]
     rw[e];simp only[Bool.not_true,Bool.false_eq_true,if_false,Nat.add_zero];exact jF h1 (Nat.le_add_right _ _)
    ·rw[jU false pd,Nat.add_right_comm];exact Nat.add_le_add_right h1 _
 have:=strict L hp;omega
theorem Ua (hs:Region.noSelect ops=true) (pk:sS md ops l0 kill kj L) (hc:Congr post L) (LQ:∀p q,p∈L→q∈L→p.1≠q.1→p.1∉kill q.1→p.1∉iL L q.1→∀vs w w',E p.1 vs w w'→S w→S w'→post q.1 vs w→post q.1 vs w') (obs:Fk P ops S J kj E post a0 L)
 (F:List Nat) (hF:∀f∈F,L.has f=true∧kill f=[]) (fin:∀vs w',S w'→we (fun d=>post d vs w') F→Q .normal (puts (mH ops L) vs a0) w') :
 ∀ (fuel:Nat) (listed:Array Bool) (a:Act) (w:World),L.countP (fun q => !listed.getD q.1 false)≤fuel→(∃vs,RInv ops S J kj post kill L l0 a0 vs listed a w)→de P md ops Q S J kj fuel listed a w:=by
 have hfin:∀listed a w vs,RInv ops S J kj post kill L l0 a0 vs listed a w→(∀p∈L,listed.getD p.1 false=true)→Q .normal a w:=fun listed a w vs h hall=>by
  rw[h.end_ pk hall];exact fin vs w h.held.1 (BU fun d hd=>by obtain⟨p,hp,rfl⟩:=Plan.xF.1 (hF d hd).1;exact h.posts p hp (hall p hp) fun k hk=>by rw[(hF _ hd).2]at hk;cases hk)
 intro fuel;induction fuel with
 | zero =>
  rintro listed a w hn ⟨vs,h⟩;have hall:∀p∈L,listed.getD p.1 false=true:=fun p hp=>by
   have:=List.countP_eq_zero.1 (Nat.le_zero.1 hn) p hp;simpa using this
  refine⟨?_,hfin _ _ _ vs h hall⟩;refine List.eq_nil_iff_forall_not_mem.2 fun j hj=>?_;obtain⟨hun,o,ho,_⟩:=lS.1 hj;have hun':=xG hun;obtain⟨p,hp,rfl⟩:=pk.cover j (by rw[←h.big];exact hun'.2) (by cases hl:l0.getD j true with | false=>rfl | true=>rw[h.old j hl]at hun;cases hun);rw[hall p hp]at hun';cases hun'.1
 | succ fuel ih =>
  rintro listed a w hn ⟨vs,h⟩;refine⟨fun hr=>hfin _ _ _ vs h (h.all pk hr),fun i hi=>?_⟩;obtain⟨hun,o,ho,hall⟩:=lS.1 hi;have hun':=xG hun;obtain⟨p,hp,rfl⟩:=pk.cover i (by rw[←h.big];exact hun'.2) (by cases hl:l0.getD i true with | false=>rfl | true=>rw[h.old i hl]at hun;cases hun);obtain⟨o',ho',ky⟩:=obs.mem p hp;rw[ho]at ho';cases ho'
  have aeC:we (fun d=>post d vs w) p.2.2.1:=BU fun u hu=>by
   obtain⟨⟨d,hd,rfl⟩,hk⟩:=pk.alive p hp u hu;obtain⟨_,r,hr,hrd⟩:=pk.deps p hp d hd;rw[←hrd]at hk ⊢;refine h.posts r hr ?_ fun k hkm=>?_
   ·rw[hrd];exact h.behind pk hi (Dh hp hd)
   ·rcases hk k hkm with rfl | hx
    ·exact hun'.1
    ·obtain⟨q,hq,rfl⟩:=pk.kills r hr k hkm;cases hl:listed.getD q.1 false with
     | false=>rfl
     | true=>have:=h.shut q hq hl _ hx;rw[hun'.1]at this;cases this
  have hjw:p.2.2.2=true→J w:=fun hf=>h.held.2 (by
   rcases pk.flag p hp hf with e | ⟨⟨q,hq,hqe⟩,hx⟩
   ·rw[←e];exact hun'.1
   ·cases hl:listed.getD kj false with
    | false=>rfl
    | true =>
     rw[←hqe]at hl hx;have:=h.shut q hq hl _ hx;rw[hun'.1]at this;cases this)
  have hz:a.tmps.size=(puts p.2.1 vs a0).tmps.size:=by rw[vE,h.size]
  have H:=aan (P:=P) (Q:=Q) (w:=w) (G:=fun v w'=>(S w'∧(p.1=kj∨(J w→J w')))∧post p.1 (upd vs p.1 v) w'∧E p.1 (upd vs p.1 v) w w') (fun cs b=>zt hs p.1 o cs b ho) (h.agree pk hp hi ho) hz
   (ky vs w _ h.held.1 hjw aeC fun b v w' hb h1 hj h2 h3=>⟨v,hb,⟨h1,hj⟩,h2,h3⟩)
  have step:∀v w',(S w'∧(p.1=kj∨(J w→J w')))∧post p.1 (upd vs p.1 v) w'∧E p.1 (upd vs p.1 v) w w'→SJ S J kj (listed.setIfInBounds p.1 true) w'∧de P md ops Q S J kj fuel (listed.setIfInBounds p.1 true) (a.put o.dst v) w':=fun v w' ⟨h1,h2,h3⟩ =>
   have hnx:=h.next pk hc LQ hp hi ho h1.1 h1.2 h2 h3
   ⟨hnx.held,ih _ _ _ (Qx hp hun'.1 hun'.2 hn) ⟨_,hnx⟩⟩
  unfold wpOp;simp only[ho];split
  ·rename_i hw
   rw[aB hw]at H;exact .inl (Oper.wp_mono (fun X w' ⟨v,e,g⟩=>by rw[e];exact step v w' g) H)
  ·rename_i hw
   rw[aG hw]at H;obtain⟨v,e,g⟩:=H;rw[e];exact step v w g
theorem Qy {L:Plan} (l:Array Bool):L.countP (fun q => !l.getD q.1 false)≤L.length:=List.countP_le_length
def BW (S:World→Prop) (post:Nat→(Nat→Value)→World→Prop) (Ei:(Nat→Value)→World→World→Prop):List Nat→Prop
 | []=>True
 | q::r=>(∀vs w w',Ei vs w w'→S w→S w'→post q vs w→post q vs w')∧BW S post Ei r
theorem BW.mem {Ei:(Nat→Value)→World→World→Prop}:∀ {l:List Nat},BW S post Ei l→∀q∈l, ∀vs w w',Ei vs w w'→S w→S w'→post q vs w→post q vs w'
 | [],_,_,h=>by cases h
 | r::l,h,q,hq=>by
  rcases lN.1 hq with rfl | hq
  ·exact h.1
  ·exact BW.mem h.2 q hq
def Oh (kill:Kill) (L:Plan) (i:Nat):List Nat:=(L.filter fun q=>q.1 != i && !(kill q.1).contains i && !(iL L q.1).contains i).map (·.1)
def Fl (S:World→Prop) (post:Nat→(Nat→Value)→World→Prop) (E:Nat→(Nat→Value)→World→World→Prop):List (Nat×List Nat)→Prop
 | []=>True
 | p::r=>BW S post (E p.1) p.2∧Fl S post E r
theorem Fl.mem:∀ {l:List (Nat×List Nat)},Fl S post E l→∀p∈l,BW S post (E p.1) p.2
 | [],_,_,h=>by cases h
 | r::l,h,q,hq=>by
  rcases lN.1 hq with rfl | hq
  ·exact h.1
  ·exact Fl.mem h.2 q hq
theorem oc {E:Nat→(Nat→Value)→World→World→Prop} {p:Nat×List qV×List Nat×Bool} {r:Plan} {o:Oper} {a0:Act} (h:Ob P ops S J kj E post a0 p.1 p.2.1 p.2.2.1 p.2.2.2 o) (hr:Fk P ops S J kj E post a0 r) (ho:ops[p.1]? = some o:=by rfl):Fk P ops S J kj E post a0 (p::r):=⟨⟨o,ho,h⟩,hr⟩
theorem cn:Congr post []:=trivial
theorem cc {p:Nat×List qV×List Nat×Bool} {r:Plan} (hr:Congr post r) (h:∀ (vs vs':Nat→Value) (w:World),vs p.1=vs' p.1→we (fun d=>vs d.1=vs' d.1) p.2.1→post p.1 vs w→post p.1 vs' w:=by(intro vs vs' w h hd hp;(try dsimp only[we]at h hd hp ⊢);(try simp only[h,hd]at hp);exact hp)):Congr post (p::r):=⟨h,hr⟩
theorem on {E:Nat→(Nat→Value)→World→World→Prop} {a0:Act}:Fk P ops S J kj E post a0 []:=trivial
def EC (C:List (Nat×List Nat)) (E:Nat→(Nat→Value)→World→World→Prop) (i:Nat) (vs:Nat→Value) (w w':World):Prop:=cond (C.any fun c=>c.1 == i) (E i vs w w') (w'=w)
theorem rp (L:Plan) (kill:Kill) (post:Nat→(Nat→Value)→World→Prop) (E:Nat→(Nat→Value)→World→World→Prop) {fuel:Nat} {listed:Array Bool} {a:Act} {w:World} (A:List qV) (F:List Nat) (C:List (Nat×List Nat))
 (LQ:Fl S post (EC C E) C) (hc:Congr post L) (obs:Fk P ops S J kj (EC C E) post a L)
 (fin:∀vs w',S w'→we (fun d=>post d vs w') F→Q .normal (puts A vs a) w')
 (hC:L.all (fun p=>C.all (fun c=>c.1 != p.1) || C.any (fun c=>c.1 == p.1&&(Oh kill L p.1).all fun q=>c.2.contains q))=true:=by kernel_rfl)
 (hA:A=mH ops L:=by kernel_rfl) (hF:F.all (fun f=>L.has f&&(kill f).isEmpty)=true:=by kernel_rfl) (hs:Region.noSelect ops=true:=by kernel_rfl) (hk:Fj md ops listed kill kj L=true:=by kernel_rfl) (hf:decide (L.length≤fuel)=true:=by rfl) (hz:listed.size=ops.size:=by rfl) (hS:SJ S J kj listed w:=by first | exact⟨hHeld,fun _=>hJ⟩ | exact⟨hHeld,fun h=>absurd h (by decide)⟩) :
 de P md ops Q S J kj fuel listed a w:=by
 subst hA;have pk:=Nl hk;refine Ua (l0:=listed) hs pk hc (fun p q hp hq' hne hkq th vs w w' hE h1 h2 h3=>?_) obs F (fun f hf=>?_) fin fuel listed a w (jF (Qy listed) (tM hf)) ⟨fun _=>undef,rfl,rfl,fun p hp h=>?_,fun _ _=>rfl,fun p hp h=>?_,fun p hp h=>?_,hS,hz,fun _ h=>h⟩
 ·have:=cx.1 hC p hp;rcases Bool.or_eq_true _ _▸this with h | h
  ·have hn:(C.any fun c=>c.1 == p.1)=false:=by
    rw[List.any_eq_false];intro c hc2;have:=cx.1 h c hc2;simpa using this
   unfold EC at hE;rw[hn]at hE;rw[show w'=w from hE];exact h3
  ·obtain⟨c,hcm,hc2⟩:=Dx.1 h;simp only[Bool.and_eq_true,beq_iff_eq]at hc2;have h4:=cx.1 hc2.2 q.1 (dI.2 ⟨q,IY.2 ⟨hq',by
    simp only[Bool.and_eq_true,bne_iff_ne,ne_eq,Bool.not_eq_true',List.contains_eq_mem,decide_eq_false_iff_not];exact⟨⟨fj hne,hkq⟩,th⟩⟩,rfl⟩)
   have h5:=LQ.mem c hcm;rw[hc2.1]at h5;exact h5.mem q.1 (by simpa using h4) vs w w' hE h1 h2 h3
 ·have:=cx.1 hF f hf;simp only[Bool.and_eq_true,List.isEmpty_iff]at this;exact this
 all_goals (have:=(xG (pk.fresh p hp).1).1;rw[this]at h;cases h)
end
end
theorem jbR {P:Program} {ops:Array Oper} {Q:Exit→Act→World→Prop} {l n:Nat} (S J:World→Prop) (k:Nat) {id:Nat} {a:Act} {w:World} (hS:S w.drew) (hJ:J w.drew) (h:S w.drew→J w.drew→de P .any ops Q S J k ops.size (Array.replicate ops.size false) a w.drew)
 (hm:P.follows .mixedOrders=true:=by kernel_rfl) (hd:ops.all ot=true:=by kernel_rfl) (hQ:¬LetsOut Q:=by(rintro⟨_,_,h⟩;exact h)):(Code.region id ops true).wpIn (Fence.wide.inRound l) n P Q a w :=
 Ak hm hd hQ (yC _ _ _ _ (h hS hJ))
end Go.Proofs.YtdpniceapmikpaaGreat
