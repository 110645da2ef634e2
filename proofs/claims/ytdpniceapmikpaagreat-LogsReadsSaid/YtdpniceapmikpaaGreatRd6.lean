/-
  The reference's disk as data; its Size,
-/
import Derived.Test.YtdpniceapmikpaaGreatRd3
import Derived.Test.YtdpniceapmikpaaGreatRd2
import Derived.Test.YtdpniceapmikpaaGreatRd5
import Derived.Test.YtdpniceapmikpaaGreatRd1
import Derived.Deep.RegionHeld3
import Derived.Test.YtdpniceapmikpaaGreatRd4
set_option linter.unusedVariables false
set_option linter.unusedSimpArgs false
set_option maxRecDepth 100000
set_option maxHeartbeats 32000000
namespace Go.Proofs.YtdpniceapmikpaaGreat
open Go.RowKit
theorem mA (f:Nat→List UInt8) (hf:∀n,(f n).length=512) (k:Nat):((List.range k).flatMap f).length=512*k:=by
 induction k with
 | zero=>rfl
 | succ k ih=>rw[nc,tK,bX,ih];simp[hf];omega
theorem pO (f:Nat→List UInt8) (hf:∀n,(f n).length=512) (k n i:Nat) (hn:n<k) (hi:i<512):((List.range k).flatMap f)[512*n+i]? = (f n)[i]? :=by
 induction k with
 | zero=>omega
 | succ k ih =>
  rw[nc,tK];have hl:=mA f hf k;by_cases h:n<k
  ·rw[iC (by omega)];exact ih h
  ·obtain rfl:n=k:=by omega
   rw[gl (by omega),hl];simp only[List.flatMap_cons,List.flatMap_nil,List.append_nil];congr 1;omega
def fe (x:ak):List UInt8:=(List.range x.size.toNat).flatMap fun(n:Nat)=>x.lasts (n:Int)
theorem sD {x:ak} (hx:x.ok):(fe x).length=512*x.size.toNat:=mA _ (fun n=>hx.2.2.1 n) _
theorem C2 {x:ak} (hx:x.ok) (n i:Nat) (hn:(n:Int)<x.size) (hi:i<512):(fe x)[512*n+i]? = (x.lasts n)[i]? :=pO _ (fun n=>hx.2.2.1 n) _ n i (by omega) hi
structure bu (W:World) (B:Nat) (lv wv fv:Value) (x:ak):Prop where
 lasts:BytesIn W B lv (fe x)
 waits:cC W B wv x.waits
 fails:IntsIn W B fv x.fails
theorem bu.below {W W':World} {B C:Nat} {lv wv fv:Value} {x:ak} (h:bu W B lv wv fv x) (hb:Below C W W') (hC:B≤C):bu W' B lv wv fv x:=⟨h.lasts.below hb hC,h.waits.below hb hC,h.fails.below hb hC⟩
theorem bu.mono {W:World} {B C:Nat} {lv wv fv:Value} {x:ak} (h:bu W B lv wv fv x) (hC:B≤C):bu W C lv wv fv x:=⟨h.lasts.mono hC,h.waits.more hC,h.fails.mono hC⟩
theorem bu.stepped {W:World} {B:Nat} {lv wv fv:Value} {x:ak} (h:bu W B lv wv fv x):bu W B lv wv fv x.stepped:=⟨h.lasts,h.waits,h.fails⟩
theorem bu.one {W:World} {B:Nat} {lv wv fv:Value} {x:ak} (h:bu W B lv wv fv x) (s:Int):(#[lv,wv,.int .i64 s,fv]:Array Value).all (·.oneCell')=true:=by
 obtain⟨_,_,_,rfl,_⟩:=h.lasts;obtain⟨_,_,_,_,rfl,_⟩:=h.waits;obtain⟨_,_,_,rfl,_⟩:=h.fails;simp[Value.oneCell']
theorem au (a b c d:Value):(Tryz.prog.info? 40).map (·.size)=some (#[a,b,c,d]:Array Value).size:=by
 show _=some 4;kernel_rfl
theorem bB {W:World} {g:Nat} {a b c d:Value} (h:ah W g 40 #[a,b,c,d]):(loadVar 40 ⟨g,0,none⟩).run Tryz.prog W=.ok (.agg #[a,b,c,d]) W :=
 tO W g 40 40 #[a,b,c,d] (0,0) _ h bV rfl (au a b c d)
abbrev aM:Array Value:=#[.slice none 0 0,.slice none 0 0,.int .i64 0,.slice none 0 0]
def kn (b c:List UInt8) (j:Nat):List UInt8:=b.take j++c.drop j
theorem tx (b c:List UInt8):kn b c 0=c:=by simp[kn]
theorem Ta {b c:List UInt8} (h:b.length=c.length) (j:Nat):(kn b c j).length=c.length:=by simp[kn];omega
theorem AP {b c:List UInt8} {j:Nat} (h:b.length=j) (hc:c.length=j):kn b c j=b:=by
 unfold kn;rw[dg (by omega),jD (by omega),ny]
theorem vk {b c:List UInt8} (h:b.length=c.length) {j:Nat} {x:UInt8} (hx:b[j]? = some x):((kn b c j).map aj).toArray.setIfInBounds j (aj x)=((kn b c (j+1)).map aj).toArray:=by
 have hj:j<b.length:=by
  rcases bZ j b.length with hh | hh
  ·exact hh
  ·rw[dh hh]at hx;cases hx
 rw[Dn];congr 1
 rw[←zY];congr 1
 unfold kn;rw[List.set_append,aG (by rw[bD];omega),bD,oN (by omega),DO];have e:c.drop j=c[j]::c.drop (j+1):=pg (by omega);rw[e,List.set_cons_zero,gG,hx];simp
theorem yf {b c:List UInt8} (h:b.length=c.length) {j:Nat} (hj:j<c.length):∃u,((kn b c j).map aj).toArray[j]? = some u:=by
 refine⟨((kn b c j).map aj).toArray[j]'(by simp[Ta h];exact hj),uZ _⟩
theorem aH {w:World} {g g':Nat} {t:TypeId} {cs:Array Value} (h:ah w g t cs) (cs':Array Value) (hg:g≠g'):ah (w.setRow g' cs') g t cs:=(kO w g' g cs' hg).trans h
theorem oB (x:ak) (lv wv fv:Value) (s:Int) (w:World) (h:bu w w.heap.size lv wv fv x) (hx:x.ok) :
 Calls Tryz.prog 48 #[.agg #[lv,wv,.int .i64 s,fv]] w fun e w'=>e=.returned (.int .i64 x.size)∧Below w.heap.size w w':=by
 obtain⟨h1,a,cap,rfl,h2⟩:=h.lasts;have hl:=sD hx;have h0:=hx.1;have e:((fe x).length:Int)/512=x.size:=by omega
 have hmx:(fe x).length≤2097152:=by have:=hx.2.1;omega
 have hb:Below w.heap.size w (w.alloc (.cells #[.slice a (fe x).length cap,wv,.int .i64 s,fv] 40)):=(ax _ w).alloc (ai _) _;generalize (fe x).length=L at *;clear h hx hl h2;go_enter Tryz.func48,Tryz.ntmps48
 go_wp2_with fail;go_ret
 exact⟨by rw[←e];congr 2,hb⟩
theorem KI (x:ak) (lv wv fv:Value) (s:Int) (n:Nat) (w:World) (h:bu w w.heap.size lv wv fv x) (hx:x.ok) (hn:(n:Int)<x.size) :
 Calls Tryz.prog 109 #[.agg #[lv,wv,.int .i64 s,fv],.int .i64 n] w fun e w'=>e=.returned (aV (x.lasts n))∧Below w.heap.size w w':=by
 have HL:=ae h.lasts;obtain⟨h1,a,cap,rfl,hcap,h2⟩:=h.lasts;have hl:=sD hx;have h0:=hx.1;have h4:=hx.2.1;have hat:=ae (fun i hi=>C2 hx n i hn hi);have hbl:=hx.2.2.1 n;obtain⟨b,eb⟩:∃b,b=x.lasts n:=⟨_,rfl⟩;rw[←eb]at hbl hat ⊢;clear eb;have hn5:512*n+512≤(fe x).length:=by omega
 have hmx:(fe x).length≤2097152:=by omega
 generalize fe x=L at *;clear h hx h2 h1 hl h0 h4;have hl0:az.length=512:=et;have hbe:b.length=az.length:=by rw[hl0,hbl]
 obtain⟨W,eW⟩:∃W,W=((w.alloc (.cells #[.slice a L.length cap,wv,.int .i64 s,fv] 40)).alloc (.cells Tryz.zeroCells111 111)).alloc (.cells Tryz.zeroCells111 111):=⟨_,rfl⟩;have hbW:Below w.heap.size w W:=by rw[eW];exact(((ax _ w).alloc (ai _) _).alloc (by simp) _).alloc (by simp;omega) _
 have k0:ah W w.heap.size 40 #[.slice a L.length cap,wv,.int .i64 s,fv]:=by rw[eW];exact((ah.new w _ _).alloc _).alloc _
 have k1:ah W (w.heap.size+1) 111 (az.map aj).toArray:=by rw[eW,←bE];exact(ah.new2 w _ _ _).alloc _
 have k2:ah W (w.heap.size+2) 111 (az.map aj).toArray:=by rw[eW,←bE];exact ah.new' (by simp)
 have HLW:=ae (HL.out.below hbW (ai _));go_enter Tryz.func109,Tryz.ntmps109
 go_upto_region 2 with fail;rw[←eW];clear eW;go_wp2_with fail;go_loopw [6] (fun i wr=>∃j:Nat,j≤512∧i=.int .i64 j∧ah wr (w.heap.size+2) 111 ((kn b az j).map aj).toArray∧ah wr (w.heap.size+1) 111 (az.map aj).toArray∧ah wr w.heap.size 40 #[.slice a L.length cap,wv,.int .i64 s,fv]∧Below w.heap.size w wr) (fun i _=>512-(intOf i).toNat)
 case atStart=>exact⟨0,by omega,rfl,by rw[tx];exact k2,k1,k0,hbW⟩
 case round =>
  obtain⟨j,hj,rfl,hO,hR,hD,hB⟩:=hrel;by_cases hlt:j<512
  ·obtain⟨c,hc⟩:∃c,b[j]? = some c:=⟨_,aY (by omega)⟩;obtain⟨g,off,rfl,hg,hcell⟩:=(HL.out.below hB (ai _)).at_ ((hat.out j hlt).trans hc);have cD:=hD.ag 0 rfl;obtain⟨u,hu⟩:=yf hbe (j:=j) (by omega);have cO:=hO.ag j hu;have fO:=hO.frozen j;have HO:=ae (hO.br j (aj c));rw[vk hbe hc]at HO;have HR:=ae (hR.far (p:=⟨w.heap.size+2,j,none⟩) (by simp) (aj c));have HD:=ae (hD.far (p:=⟨w.heap.size+2,j,none⟩) (by simp) (aj c));have HB:=ae (hB.setCell (p:=⟨w.heap.size+2,j,none⟩) (by simp) (aj c));have i1:¬ (512*(n:Int)+(j:Int))<0:=by omega
   have i2:(512*(n:Int)+(j:Int))<(L.length:Int):=by omega
   clear hO hR hD hB;go_wp2_with fail;exact⟨⟨j+1,by omega,by go_num,HO.out,HR.out,HD.out,HB.out⟩,by simp[intOf];omega⟩
  ·obtain rfl:j=512:=by omega
   rw[AP hbl hl0]at hO;have hone:=bq b;have hsz:=aO _ hbl;have hse:=bT _ _ hl0 hbl;go_wp2_with (first
    | (refine bt rfl 111 _ rfl (w.heap.size+2) rfl 111 (b.map aj).toArray (0,0) _ hO dj rfl hsz ?_)
    | (refine aQ rfl 111 _ _ rfl (w.heap.size+1) (b.map aj).toArray rfl rfl 111 _ hR hsz hse hone ?_))
   exact bc (mo Tryz.results109 _ _ (w.heap.size+1) 111 (b.map aj).toArray (0,0) _ rfl (hR.row _) dj rfl hsz) rfl ⟨rfl,aA hB _ (by omega)⟩
theorem nL (s N:Int) (w:World):Calls Tryz.prog 47 #[.int .i64 s,.agg #[.int .i64 N]] w fun e w'=>e=.returned (.bool (aZ N&&decide (20+3*N≤s)))∧Below w.heap.size w w':=by
 have HR:=ae (fun W=>qp N W);cases hR:aZ N
 ·go_enter Tryz.func47,Tryz.ntmps47
  go_wp2_with fail;refine(HR.out _).mono ?_;rintro e w1 ⟨rfl,hb⟩;have hb1:Below w.heap.size w w1:=((ax _ w).alloc (ai _) _).trans (hb.mono (by simp));rw[hR];go_wp2_with fail;go_ret
  exact⟨rfl,hb1⟩
 ·obtain⟨h1,h2⟩:1≤N∧N≤64:=by simpa[aZ]using hR
  obtain⟨n,rfl⟩:∃n:Nat,N=n:=⟨N.toNat,by omega⟩;have HA:=ae (fun W=>Kd n W (by omega));have hl:=CV n;go_enter Tryz.func47,Tryz.ntmps47
  go_wp2_with fail;refine(HR.out _).mono ?_;rintro e w1 ⟨rfl,hb⟩;have hb1:Below w.heap.size w w1:=((ax _ w).alloc (ai _) _).trans (hb.mono (by simp));have K1:=(((ah.new w _ (.int .i64 n::[] |>.toArray):ah (w.alloc (.cells #[.int .i64 n] 23)) w.heap.size 23 #[.int .i64 n])).below hb (by simp)).ag 0 rfl;rw[hR];go_wp2_with fail;refine(HA.out _).mono ?_;rintro e w2 ⟨v,rfl,hS,hb2⟩;have hb3:=hb1.trans (hb2.mono hb1.size);obtain⟨g,cap,rfl,_⟩:=Kf hS (by omega);rw[hl];go_wp2_with fail;go_ret
  exact⟨by congr 3<;>simp,hb3⟩
theorem rq (N:Nat) (p:Place) (w:World) (hN:1≤N∧N≤64) (h:p.ok N):Calls Tryz.prog 62 #[.agg #[.int .i64 N],.int .i64 p.k,.int .i64 p.a,.int .i64 p.t] w fun e w' =>
 e=.returned (.int .i64 (p.sec N))∧Below w.heap.size w w':=by
 have HS:=ae (fun W=>Ce N p W hN h);go_enter Tryz.func62,Tryz.ntmps62
 go_wp2_with fail;refine(HS.out _).mono ?_;rintro e w1 ⟨rfl,hb⟩;have hb1:Below w.heap.size w w1:=((ax _ w).alloc (ai _) _).trans (hb.mono (by simp));go_wp2_with fail;go_ret
 exact⟨rfl,hb1⟩
theorem rr (n k:Nat) (w:World) (hk:dG k=true) (hn:(n:Int)≤9223372036854775807):Calls Tryz.prog 95 #[.int .i64 n,.int .i64 k] w fun e w' =>
 ∃v,e=.returned v∧w'.ownsRow w.heap.size 5 1 v k ((leB n k).map aj)∧Below w.heap.size w w':=by
 have HP:=ae (J8 n k w hk hn);go_enter Tryz.func95,Tryz.ntmps95
 go_wp2_with fail;refine HP.out.mono ?_;rintro e w1 ⟨v,rfl,hO,hb⟩;go_wp2_with fail;go_ret
 exact⟨_,rfl,hO,hb⟩
theorem ja (v:Value) (bs:List UInt8) (w:World) (hv:BytesIn w w.heap.size v bs) :
 Calls Tryz.prog 66 #[v] w fun e w'=>e=.returned (.int .i64 (if iN bs then (aW bs:Int) else 0))∧w=w':=by
 have HP:=ae (VA v bs w hv);obtain⟨z,hz⟩:∃z:Int,z=(if iN bs then (aW bs:Int) else 0):=⟨_,rfl⟩;rw[←hz]at HP ⊢;generalize iN bs=q at HP;clear hz;go_enter Tryz.func66,Tryz.ntmps66
 go_wp2_with fail;refine HP.out.mono ?_;rintro e w1 ⟨rfl,rfl⟩;go_wp2_with fail;go_ret
 exact⟨rfl,rfl⟩
theorem tz (n:Nat) (w:World) (hn:n≤1000000000):Calls Tryz.prog 67 #[.int .i64 n] w fun e w'=>e=.returned (.int .i64 (aD n))∧w=w':=by
 have e:((aD n:Nat):Int)=((n:Int)+511)/512:=by unfold aD;omega
 rw[e];go_enter Tryz.func67,Tryz.ntmps67
 go_wp2_with fail;go_ret
 refine⟨?_,rfl⟩;congr 2
theorem Cq (st:List UInt8) (i:Nat):(iK st i).length=min 512 (st.length-512*i):=by unfold iK;rw[bD,c_]
theorem V_ (st:List UInt8) (i:Nat):kn (jH st i).1 az (min 512 (st.length-512*i))=(jH st i).1:=by
 show kn (js az (iK st i)) az _=js az (iK st i);have hl:=Cq st i;rw[←hl];unfold kn js;rw[wi (ai _),iG]
theorem V' (st:List UInt8) (i j:Nat) (h1:j<512) (h2:512*i+j<st.length):(jH st i).1[j]? = st[512*i+j]? :=by
 show(js az (iK st i))[j]? = _;have hl:=Cq st i;unfold js;rw[iC (by omega)];unfold iK;rw[dU,aB h1,kL]
theorem Tb (v:Value) (st:List UInt8) (i:Nat) (w:World) (hv:BytesIn w w.heap.size v st) (hi:i≤1000000) :
 Calls Tryz.prog 97 #[v,.int .i64 i] w fun e w'=>e=.returned (aV (jH st i).1)∧Below w.heap.size w w':=by
 have HL:=ae hv;obtain⟨h1,a,cap,rfl,hcap,h2⟩:=hv;have hto:=ae (V_ st i);have hat:=ae (V' st i);have hbl:=(jH st i).2;obtain⟨b,eb⟩:∃b,b=(jH st i).1:=⟨_,rfl⟩;rw[←eb]at hbl hat hto ⊢;clear eb;have hl0:az.length=512:=et;have hbe:b.length=az.length:=by rw[hl0,hbl]
 obtain⟨W,eW⟩:∃W,W=((w.alloc (.cells Tryz.zeroCells111 111)).alloc (.cells Tryz.zeroCells111 111)):=⟨_,rfl⟩;have hbW:Below w.heap.size w W:=by rw[eW];exact((ax _ w).alloc (ai _) _).alloc (by simp) _
 have k1:ah W (w.heap.size) 111 (az.map aj).toArray:=by rw[eW,←bE];exact(ah.new w _ _).alloc _
 have k2:ah W (w.heap.size+1) 111 (az.map aj).toArray:=by rw[eW,←bE];exact ah.new2 w _ _ _
 clear h2;go_enter Tryz.func97,Tryz.ntmps97
 go_upto_region 2 with fail;rw[←eW];clear eW;go_wp2_with fail;go_loopw [6] (fun x wr=>∃j:Nat,j≤512∧j≤st.length-512*i∧x=.int .i64 j∧ah wr (w.heap.size+1) 111 ((kn b az j).map aj).toArray∧ah wr w.heap.size 111 (az.map aj).toArray∧Below w.heap.size w wr) (fun x _=>512-(intOf x).toNat)
 case atStart=>exact⟨0,by omega,by omega,rfl,by rw[tx];exact k2,k1,hbW⟩
 case round =>
  obtain⟨j,hj,hj2,rfl,hO,hR,hB⟩:=hrel;by_cases hlt:j<512∧512*i+j<st.length
  ·obtain⟨hlt1,hlt2⟩:=hlt;obtain⟨c,hc⟩:∃c,b[j]? = some c:=⟨_,aY (by omega)⟩;obtain⟨g,off,rfl,hg,hcell⟩:=(HL.out.below hB (ai _)).at_ ((hat.out j hlt1 hlt2).symm.trans hc);obtain⟨u,hu⟩:=yf hbe (j:=j) (by omega);have cO:=hO.ag j hu;have fO:=hO.frozen j;have HO:=ae (hO.br j (aj c));rw[vk hbe hc]at HO;have HR:=ae (hR.far (p:=⟨w.heap.size+1,j,none⟩) (by simp) (aj c));have HB:=ae (hB.setCell (p:=⟨w.heap.size+1,j,none⟩) (by simp) (aj c));have i1:¬ (512*(i:Int)+(j:Int))<0:=by omega
   have i2:(512*(i:Int)+(j:Int))<(st.length:Int):=by omega
   clear hO hR hB;go_wp2_with fail;exact⟨⟨j+1,by omega,by omega,by go_num,HO.out,HR.out,HB.out⟩,by simp[intOf];omega⟩
  ·have hjm:j=min 512 (st.length-512*i):=by omega
   rw[hjm,hto.out]at hO;have hone:=bq b;have hsz:=aO _ hbl;have hse:=bT _ _ hl0 hbl;by_cases hlt1:j<512
   ·have i2:¬ (512*(i:Int)+(j:Int))<(st.length:Int):=by omega
    go_wp2_with (first
     | (refine bt rfl 111 _ rfl (w.heap.size+1) rfl 111 (b.map aj).toArray (0,0) _ hO dj rfl hsz ?_)
     | (refine aQ rfl 111 _ _ rfl w.heap.size (b.map aj).toArray rfl rfl 111 _ hR hsz hse hone ?_))
    exact bc (mo Tryz.results97 _ _ w.heap.size 111 (b.map aj).toArray (0,0) _ rfl (hR.row _) dj rfl hsz) rfl ⟨rfl,aA hB _ (ai _)⟩
   ·go_wp2_with (first
     | (refine bt rfl 111 _ rfl (w.heap.size+1) rfl 111 (b.map aj).toArray (0,0) _ hO dj rfl hsz ?_)
     | (refine aQ rfl 111 _ _ rfl w.heap.size (b.map aj).toArray rfl rfl 111 _ hR hsz hse hone ?_))
    exact bc (mo Tryz.results97 _ _ w.heap.size 111 (b.map aj).toArray (0,0) _ rfl (hR.row _) dj rfl hsz) rfl ⟨rfl,aA hB _ (ai _)⟩
theorem yX {w:World} {B B' k:Nat} {e:TypeId} {v:Value} {n:Nat} {xs:List Value} (h:w.ownsRow B e k v n xs) (hb:B'≤B):w.ownsRow B' e k v n xs:=by
 obtain⟨hl,h0 | ⟨g,cap,cur,rfl,hB,h3⟩⟩:=h
 ·exact⟨hl,.inl h0⟩
 ·exact⟨hl,.inr ⟨g,cap,cur,rfl,jF hb hB,h3⟩⟩
theorem MV (v:Value) (B:Nat) (l:List UInt8) (w:World) (hv:w.ownsRow B 5 1 v l.length (l.map aj)) (hl:l.length≤508) :
 Calls Tryz.prog 98 #[v] w fun e w'=>e=.returned (aV (bM l))∧Out (fun i=>v.ownBlock=some i) w w':=by
 obtain⟨i0,hi0,hz0,hz1,hz2⟩:=iH jg;have HI:=ae (And.intro hi0 (And.intro hz0 (And.intro hz1 hz2)));clear hi0 hz0 hz1 hz2;have hl0:az.length=512:=et;have hbl:=eJ l hl;have hBw:∀g,v.ownBlock=some g→B≤g∧g<w.heap.size:=hv.lt;have fC:=ae hBw;have hv1:(w.alloc (.cells Tryz.zeroCells111 111)).ownsRow B 5 1 v l.length (l.map aj):=hv.alloc _;have k1:ah (w.alloc (.cells Tryz.zeroCells111 111)) w.heap.size 111 (az.map aj).toArray:=by rw[←bE];exact ah.new w _ _
 have ho1:Out (fun i=>v.ownBlock=some i) w (w.alloc (.cells Tryz.zeroCells111 111)):=aN ((ax _ w).alloc (ai _) _) |> fun h=>⟨h.os,h.tape,h.output,h.size,fun i hi _=>h.block i hi id⟩
 unfold aV;clear hv hBw;go_enter Tryz.func98,Tryz.ntmps98
 go_wp2_with fail;generalize w.alloc (.cells Tryz.zeroCells111 111)=W at *;go_loopw [0] (fun u wr=>∃j:Nat,l.length+j≤508∧wr.ownsRow (min B w.heap.size) 5 1 u (l.length+j) ((l++List.replicate j 0).map aj)∧ah wr w.heap.size 111 (az.map aj).toArray∧Out (fun i=>v.ownBlock=some i) w wr∧(∀g,u.ownBlock=some g→v.ownBlock=some g∨w.heap.size<g)) (fun u _=>508-(match u with | .slice _ n _=>n | _=>0))
 case atStart=>exact⟨0,by omega,by simpa using yX hv1 (Nat.min_le_left _ _),k1,ho1,fun g hg=>.inl hg⟩
 case round =>
  obtain⟨j,hj,hO,hR,hB,hown⟩:=hrel;have ah6:=hR.lt;obtain⟨a,cap,rfl⟩:=slice_form hO;by_cases hlt:l.length+j<508
  ·have HO:=ae hO;have HOWN:=ae hown;have HR:=ae hR;have HB:=ae hB;have h3:((l.length:Int)+(j:Int))<508:=by omega
   clear hO hown hR hB;go_wp2_with (at_builtin;refine pZ _ rfl _ _ _ rfl (min B w.heap.size) 5 i0 _ 1 1 eU HI.out.1 HI.out.2.1 HI.out.2.2.1 HI.out.2.2.2 rfl (by omega) _ (l.length+j) _ rfl (HO.out.alloc _) ⟨wr.heap.size,0,none⟩ 1 1 [aj 0] rfl rfl (ia (cs:=#[aj 0]) (t:=5) (fr:=(0,0)) (bC wr _)) (by simp[Value.oneCell']) (by omega) (by unfold maxLen;omega) (by omega) (by simp;omega) (wr.heap.size+1) (by simp) ?_;intro g cap2 w3 hO3 hg3 xR hlt3)
   have hrow:∀i,(Value.slice a (l.length+j) cap).ownBlock=some i→v.ownBlock=some i∨w.heap.size<i:=HOWN.out;go_roundw
   case rel =>
    refine⟨j+1,by omega,?_,?_,?_,?_⟩
    ·rw[show l++List.replicate (j+1) (0:UInt8)=(l++List.replicate j 0)++[0]by rw[fS,RG]];rw[cK];exact hO3
    ·refine(hg3.block w.heap.size (by simp;omega) (fun e=>?_)).trans (HR.out.alloc _);rcases hrow _ e.symm with h | h
     ·have:=(fC.out _ h).2;omega
     ·omega
    ·refine HB.out.trans (G:=fun i=>(Value.slice a (l.length+j) cap).ownBlock=some i) (Out.trans (F:=fun i=>(Value.slice a (l.length+j) cap).ownBlock=some i) (G:=fun i=>(Value.slice a (l.length+j) cap).ownBlock=some i) (w1:=wr.alloc (.cells #[aj 0] 5)) ?_ ⟨hg3.os,hg3.tape,hg3.output,hg3.size,fun i hi hn=>hg3.block i hi (fun e=>hn e.symm)⟩ (fun _ _ h=>h)) (fun i hi h=>?_)
     ·have hA:=(ax wr.heap.size wr).alloc (ai _) (.cells #[aj 0] 5);exact⟨hA.os,hA.tape,hA.output,hA.size,fun i hi _=>hA.block i hi⟩
     ·rcases hrow i h with h | h
      ·exact h
      ·omega
    ·intro i hi;have e:g=i:=by simpa[Value.ownBlock]using hi
     subst e;rcases xR with h | h
     ·exact hrow g h
     ·exact .inr (by omega)
   case measure=>simp;omega
  ·have ku:l.length+j=508:=by omega
   have KJ:l++List.replicate j (0:UInt8)=fA l:=by unfold fA;rw[show j=508-l.length by omega]
   rw[KJ]at hO;have HU:=BytesIn.own hO;rw[ku]at HU;have h3:¬ ((l.length:Int)+(j:Int))<508:=by omega
   have HB:=ae hB;have HR:=ae hR;have hlp:=nJ l hl;have eS:dQ (fA l)=bM l:=rfl;obtain⟨p,ep⟩:∃p,p=fA l:=⟨_,rfl⟩;rw[←ep]at HU hlp eS;have KK:=ae (An _ p wr HU (by omega));have xx:=ae eS;clear hO hB hR HU hown KJ ep eS;go_wp2_with fail;refine KK.out.mono ?_;rintro e w4 ⟨u2,rfl,hO4,hb4⟩;obtain⟨a2,cap2,rfl⟩:=slice_form hO4;rw[xx.out]at hO4;have NI:=BytesIn.own hO4;rw[hlp]at NI ⊢;have hB4:Out (fun i=>v.ownBlock=some i) w w4:=HB.out.trans (G:=fun _=>False) (aN hb4) (fun _ _ h=>h.elim);have Cr:=HR.out.below hb4 ah6;obtain⟨b,eb⟩:∃b,b=bM l:=⟨_,rfl⟩;rw[←eb]at hbl NI;have hbe:b.length=az.length:=by rw[hl0,hbl]
   have hw4:w.heap.size<w4.heap.size:=Cr.lt;have HL:=ae NI;have m2:ah (w4.alloc (.cells Tryz.zeroCells111 111)) w4.heap.size 111 (az.map aj).toArray:=by rw[←bE];exact ah.new w4 _ _
   have mb:Below w4.heap.size w4 (w4.alloc (.cells Tryz.zeroCells111 111)):=(ax _ w4).alloc (ai _) _;have mR:=Cr.alloc (.cells Tryz.zeroCells111 111);have EB:=ae eb;have iz:=ae hB4;clear hO4 NI hb4 eb hB4 Cr HB HR KK hlp h3 fC;go_wp2_with fail;generalize w4.alloc (.cells Tryz.zeroCells111 111)=W5 at *;go_loopw [5] (fun i wr=>∃j:Nat,j≤512∧i=.int .i64 j∧ah wr w4.heap.size 111 ((kn b az j).map aj).toArray∧ah wr w.heap.size 111 (az.map aj).toArray∧Below w4.heap.size w4 wr) (fun i _=>512-(intOf i).toNat)
   case atStart=>exact⟨0,by omega,rfl,by rw[tx];exact m2,mR,mb⟩
   case round =>
    obtain⟨j,hj,rfl,hO,hR,hB⟩:=hrel;by_cases hlt:j<512
    ·obtain⟨c,hc⟩:∃c,b[j]? = some c:=⟨_,aY (by omega)⟩;obtain⟨g,off,rfl,hg,hcell⟩:=BytesIn.at_ (HL.out.below hB (ai _)) hc;obtain⟨u,hu⟩:=yf hbe (j:=j) (by omega);have cO:=hO.ag j hu;have fO:=hO.frozen j;have HO:=ae (hO.br j (aj c));rw[vk hbe hc]at HO;have HR:=ae (hR.far (p:=⟨w4.heap.size,j,none⟩) (by show w.heap.size≠w4.heap.size;omega) (aj c));have HB:=ae (hB.setCell (p:=⟨w4.heap.size,j,none⟩) (ai _) (aj c));clear hO hR hB;go_wp2_with fail;exact⟨⟨j+1,by omega,by go_num,HO.out,HR.out,HB.out⟩,by simp[intOf];omega⟩
    ·obtain rfl:j=512:=by omega
     rw[AP hbl hl0]at hO;have hone:=bq b;have hsz:=aO _ hbl;have hse:=bT _ _ hl0 hbl;go_wp2_with (first
      | (refine bt rfl 111 _ rfl w4.heap.size rfl 111 (b.map aj).toArray (0,0) _ hO dj rfl hsz ?_)
      | (refine aQ rfl 111 _ _ rfl w.heap.size (b.map aj).toArray rfl rfl 111 _ hR hsz hse hone ?_))
     have hfin:Out (fun i=>v.ownBlock=some i) w wr:=iz.out.trans (G:=fun _=>False) (aN hB) (fun _ _ h=>h.elim);exact bc (mo Tryz.results98 _ _ w.heap.size 111 (b.map aj).toArray (0,0) _ rfl (hR.row _) dj rfl hsz) rfl ⟨by rw[←EB.out],hfin.trans (G:=fun i=>i=w.heap.size) (bL _ rfl) (fun i hi e=>by omega)⟩
def ak.nM (x:ak) (n:Int) (j:Nat):List UInt8:=({x with waits:=x.waits.take j}:ak).reads n
theorem Cs (x:ak) (n:Int):x.nM n 0=x.lasts n:=by unfold ak.nM ak.reads;simp
theorem EI (x:ak) (n:Int):x.nM n x.waits.length=x.reads n:=by unfold ak.nM;rw[iG]
theorem Ct (x:ak) (n:Int) (j:Nat) (y:aI) (hy:x.waits[j]? = some y):x.nM n (j+1)=if y.n=n then y.b else x.nM n j:=by
 unfold ak.nM ak.reads;simp only[List.take_add_one,hy,Option.toList_some,List.reverse_append,List.reverse_cons,List.reverse_nil,List.nil_append,List.cons_append,List.find?_cons];by_cases h:y.n=n
 ·rw[aB h];simp[h]
 ·rw[aG h];have:(y.n == n)=false:=by simpa using h
  simp only[this]
theorem yg {x:ak} (hx:x.sound) (n:Int) (j:Nat):(x.nM n j).length=512:=by
 have h:({x with waits:=x.waits.take j}:ak).sound:=⟨hx.1,fun y hy=>hx.2.1 y (zu hy),by show(x.waits.take j).length≤1000000;rw[bD];have:=hx.2.2;omega⟩;exact ak.dS _ h n
theorem cC.at_ {w:World} {B:Nat} {a:Option Addr} {n c:Nat} {ws:List aI} (h:cC w B (.slice a n c) ws) {j:Nat} {y:aI} (hy:ws[j]? = some y) :
 y.b.length=512∧∃g,a=some ⟨g,0,none⟩∧g<B∧w.cell? ⟨g,j*513,none⟩=some (.int .i64 y.n)∧w.rangeAt g (j*513+1) (y.b.map aj):=by
 obtain⟨_,hws,a',c',e,h4⟩:=h;injection e with ea _ _
 subst ea;obtain⟨g,e2,hg,hr⟩:=h4 j y hy;exact⟨hws y (je hy),g,e2,hg,(by have:=hr 0 (.int .i64 y.n) (by unfold aI.cells;rfl);rwa [JC]at this),fun i u hi=>by
  have:=hr (i+1) u (by unfold aI.cells;simpa using hi);rw[show j*513+1+i=j*513+(i+1)by omega];exact this⟩
theorem PB:(Tryz.prog.info? 154).map (·.size)=some 513:=by kernel_rfl
theorem Cu (x:ak) (lv wv fv:Value) (s:Int) (n:Nat) (w:World) (h:bu w w.heap.size lv wv fv x) (hx:x.ok) (hn:(n:Int)<x.size) :
 Calls Tryz.prog 61 #[.agg #[lv,wv,.int .i64 s,fv],.int .i64 n] w fun e w'=>e=.returned (aV (x.reads n))∧Below w.heap.size w w':=by
 have HL:=ae h.waits;have HS:=ae (fun W (hh:bu W W.heap.size lv wv fv x)=>KI x lv wv fv s n W hh hx hn);have HR:=ae h;obtain⟨h1,hws,a,cap,rfl,h2⟩:=h.waits;have hl0:az.length=512:=et;have hlen:=ae (yg hx.sound n);have hz:=Cs x n;have hlz:=hx.2.2.1 n;have hwl:=hx.2.2.2.2.2.2;have hsu:=ae (Ct x n);have hall:=ae (EI x n);obtain⟨W,eW⟩:∃W,W=(w.alloc (.cells #[lv,.slice a x.waits.length cap,.int .i64 s,fv] 40)).alloc (.cells Tryz.zeroCells111 111):=⟨_,rfl⟩;have hbW:Below w.heap.size w W:=by rw[eW];exact((ax _ w).alloc (ai _) _).alloc (by simp) _
 have k0:ah W w.heap.size 40 #[lv,.slice a x.waits.length cap,.int .i64 s,fv]:=by rw[eW];exact(ah.new w _ _).alloc _
 have k1:ah W (w.heap.size+1) 111 (az.map aj).toArray:=by rw[eW,←bE];exact ah.new2 w _ _ _
 have hWs:W.heap.size=w.heap.size+2:=by rw[eW];simp
 have hRW:=(HR.out.below hbW (ai _)).mono hbW.size;clear h h2;go_enter Tryz.func61,Tryz.ntmps61
 go_upto_region 1 with fail;rw[←eW];clear eW;have q1:=k0.ag 0 rfl;have q2:=k0.ag 1 rfl;have q3:=k0.ag 2 rfl;have q4:=k0.ag 3 rfl;go_wp2_with (refine bt rfl 40 _ rfl w.heap.size rfl 40 #[lv,.slice a x.waits.length cap,.int .i64 s,fv] (0,0) _ k0 bV rfl (by kernel_rfl) ?_)
 refine(HS.out W hRW).mono ?_;rintro e w1 ⟨rfl,hb1⟩;have K0:=k0.below hb1 k0.lt;have K1:=k1.below hb1 k1.lt;have hB1:=hbW.trans (hb1.mono hbW.size);have hs1:=hb1.size;clear q1 q2 q3 q4 k0 k1;have K2:ah (w1.alloc (.cells Tryz.zeroCells111 111)) w1.heap.size 111 (az.map aj).toArray:=by rw[←bE];exact ah.new w1 _ _
 unfold aV;go_wp2_with (refine aQ rfl 111 _ _ rfl w1.heap.size ((x.lasts n).map aj).toArray rfl rfl 111 _ K2 (aO _ hlz) (bT _ _ hl0 hlz) (bq _) ?_)
 have K3:=K2.row ((x.lasts n).map aj).toArray;have hs2:(w1.alloc (.cells Tryz.zeroCells111 111)).heap.size=w1.heap.size+1:=by simp
 have K0b:=aH (K0.alloc (.cells Tryz.zeroCells111 111)) ((x.lasts n).map aj).toArray (g':=w1.heap.size) (by have:=K0.lt;omega);have K1b:=aH (K1.alloc (.cells Tryz.zeroCells111 111)) ((x.lasts n).map aj).toArray (g':=w1.heap.size) (by have:=K1.lt;omega);have hB2:=aA (hB1.alloc hB1.size (.cells Tryz.zeroCells111 111)) ((x.lasts n).map aj).toArray (g:=w1.heap.size) (by omega);clear K0 K1 K2 hB1;generalize (w1.alloc _).setRow _ _=W2 at *;generalize w1.heap.size=G at *;go_loopw [6] (fun i wr=>∃j:Nat,j≤x.waits.length∧i=.int .i64 j∧ah wr G 111 ((x.nM n j).map aj).toArray∧ah wr (w.heap.size+1) 111 (az.map aj).toArray∧ah wr w.heap.size 40 #[lv,.slice a x.waits.length cap,.int .i64 s,fv]∧Below w.heap.size w wr) (fun i _=>x.waits.length-(intOf i).toNat)
 case atStart=>exact⟨0,by omega,rfl,by rw[hz];exact K3,K1b,K0b,hB2⟩
 case round =>
  obtain⟨j,hj,rfl,hO,hR,hD,hB⟩:=hrel;have cD:=hD.ag 1 rfl;by_cases hlt:j<x.waits.length
  ·obtain⟨y,hy⟩:∃y,x.waits[j]? = some y:=⟨_,aY hlt⟩;obtain⟨hyb,g,rfl,hg,hc1,hc2⟩:=(HL.out.below hB (ai _)).at_ hy;have hj1:=hsu.out j y hy;have hl2:=hlen.out j;obtain⟨old,ah7⟩:∃old,old=x.nM n j:=⟨_,rfl⟩;rw[←ah7]at hO hj1 hl2;obtain⟨yn,yb⟩:=y;simp only at hc1 hc2 hyb hj1;have HJ:=ae hj1;clear hj1;by_cases hyn:yn=n
   ·subst hyn;rw[aB rfl]at HJ;have HC:=ae hc2;have aa8:=aO yb hyb;have Wa:(Tryz.prog.info? 111).map (·.size)=some (yb.map aj).length:=by simpa using aa8
    have ah8:=bT old yb hl2 hyb;have hone:=bq yb;have HO:=ae (hO.row (yb.map aj).toArray);have HR1:=ae (aH hR (yb.map aj).toArray (g':=G) (by omega));have HD1:=ae (aH hD (yb.map aj).toArray (g':=G) (by omega));have HB1:=ae (aA hB (yb.map aj).toArray (g:=G) (by omega));clear hR hD hB hc2;go_wp2_with (first
     | (refine IU rfl 111 _ rfl g (j*513+1) rfl (yb.map aj) _ HC.out dj rfl Wa ?_)
     | (refine aQ rfl 111 _ _ rfl G (yb.map aj).toArray rfl rfl 111 _ hO aa8 ah8 hone ?_))
    go_roundw
    case rel=>exact⟨j+1,by omega,by go_num,by rw[HJ.out];exact HO.out,HR1.out,HD1.out,HB1.out⟩
    case measure=>simp[intOf];omega
   ·rw[aG hyn]at HJ;have Wb:((yn:Int) == (n:Int))=false:=by simpa using hyn
    go_wp2_with fail;exact⟨⟨j+1,by omega,by go_num,by rw[HJ.out];exact hO,hR,hD,hB⟩,by simp[intOf];omega⟩
  ·obtain rfl:j=x.waits.length:=by omega
   rw[hall.out]at hO;have hbl:=x.dS hx.sound n;obtain⟨b,eb⟩:∃b,b=x.reads n:=⟨_,rfl⟩;rw[←eb]at hO hbl;have hone:=bq b;have hsz:=aO _ hbl;have hse:=bT _ _ hl0 hbl;go_wp2_with (first
    | (refine bt rfl 111 _ rfl G rfl 111 (b.map aj).toArray (0,0) _ hO dj rfl hsz ?_)
    | (refine aQ rfl 111 _ _ rfl (w.heap.size+1) (b.map aj).toArray rfl rfl 111 _ hR hsz hse hone ?_))
   exact bc (mo Tryz.results61 _ _ (w.heap.size+1) 111 (b.map aj).toArray (0,0) _ rfl (hR.row _) dj rfl hsz) rfl ⟨by rw[←eb];rfl,aA hB _ (by omega)⟩
theorem EJ (x:ak) (lv wv fv:Value) (w:World) (h:bu w w.heap.size lv wv fv x) (hx:x.ok) :
 Calls Tryz.prog 99 #[.agg #[lv,wv,.int .i64 x.steps,fv]] w fun e w'=>e=.returned (.tuple #[.agg #[lv,wv,.int .i64 (x.steps+1),fv],.bool (!decide (x.steps∈x.fails))])∧Below w.heap.size w w':=by
 have HL:=ae h.fails;have dD:=ae h.one;obtain⟨hmx,a,cap,rfl,hcap,h2⟩:=h.fails;have hst:=hx.2.2.2.2;unfold maxLen at hmx;obtain⟨W,eW⟩:∃W,W=(w.alloc (.cells #[lv,wv,.int .i64 x.steps,.slice a x.fails.length cap] 40)).alloc (.cells aM 40):=⟨_,rfl⟩;have hbW:Below w.heap.size w W:=by rw[eW];exact((ax _ w).alloc (ai _) _).alloc (by simp) _
 have k0:ah W w.heap.size 40 #[lv,wv,.int .i64 x.steps,.slice a x.fails.length cap]:=by rw[eW];exact(ah.new w _ _).alloc _
 have k1:ah W (w.heap.size+1) 40 aM:=by rw[eW];exact ah.new2 w _ _ _
 clear h h2;go_enter Tryz.func99,Tryz.ntmps99
 go_upto_region 1 with fail;rw[←eW];clear eW;have q0:=k0.ag 2 rfl;have q1:=k0.frozen 2;have k0b:=k0.br 2 (.int .i64 (x.steps+1));have Ss:=k1.far (p:=⟨w.heap.size,2,none⟩) (by simp) (.int .i64 (x.steps+1));have hbb:=hbW.setCell (p:=⟨w.heap.size,2,none⟩) (by simp) (.int .i64 (x.steps+1));have hs0:0≤x.steps∧x.steps≤1000000000000:=⟨hst.1,hst.2.1⟩;have hw0:w.heap.size<W.heap.size:=k0.lt;clear k1 hbW hst;go_wp2_with fail;go_loopw [5] (fun i wr=>∃j:Nat,j≤x.fails.length∧i=.int .i64 j∧x.steps∉x.fails.take j∧ah wr (w.heap.size+1) 40 aM∧ah wr w.heap.size 40 #[lv,wv,.int .i64 (x.steps+1),.slice a x.fails.length cap]∧Below w.heap.size w wr) (fun i _=>x.fails.length-(intOf i).toNat)
 case atStart=>exact⟨0,by omega,rfl,by simp,Ss,k0b,hbb⟩
 case round =>
  obtain⟨j,hj,rfl,hnj,hR,hD,hB⟩:=hrel;have c0:=hD.ag 0 rfl;have c1:=hD.ag 1 rfl;have c2:=hD.ag 2 rfl;have c3:=hD.ag 3 rfl;by_cases hlt:j<x.fails.length
  ·obtain⟨y,hy⟩:∃y,x.fails[j]? = some y:=⟨_,aY hlt⟩;obtain⟨g,off,rfl,hg,hc1⟩:=(HL.out.below hB (ai _)).at_ hy;by_cases hyn:y=x.steps
   ·subst hyn;have hin:x.steps∈x.fails:=je hy;go_wp2_with (first
     | (refine bt rfl 40 _ rfl w.heap.size rfl 40 #[lv,wv,.int .i64 (x.steps+1),.slice (some ⟨g,off,none⟩) x.fails.length cap] (0,0) _ hD bV rfl (au _ _ _ _) ?_)
     | (refine aQ rfl 40 _ _ rfl (w.heap.size+1) #[lv,wv,.int .i64 (x.steps+1),.slice (some ⟨g,off,none⟩) x.fails.length cap] rfl rfl 40 aM hR (au _ _ _ _) rfl (dD.out _) ?_))
    refine bc (dm Tryz.results99 _ _ (w.heap.size+1) 40 #[lv,wv,.int .i64 (x.steps+1),.slice (some ⟨g,off,none⟩) x.fails.length cap] (0,0) _ rfl (hR.row _) bV rfl (au _ _ _ _) _ rfl) rfl ⟨by rw[cT hin];rfl,aA hB _ (by omega)⟩
   ·have Wb:(y == x.steps)=false:=by simpa using hyn
    have ah9:x.steps∉x.fails.take (j+1):=by
     rw[gG,hy];simp only[Option.toList_some,List.mem_append,List.mem_singleton];rintro(h | h)
     ·exact hnj h
     ·exact hyn h.symm
    go_wp2_with fail;exact⟨⟨j+1,by omega,by go_num,ah9,hR,hD,hB⟩,by simp[intOf];omega⟩
  ·obtain rfl:j=x.fails.length:=by omega
   rw[iG]at hnj;go_wp2_with (first
    | (refine bt rfl 40 _ rfl w.heap.size rfl 40 #[lv,wv,.int .i64 (x.steps+1),.slice a x.fails.length cap] (0,0) _ hD bV rfl (au _ _ _ _) ?_)
    | (refine aQ rfl 40 _ _ rfl (w.heap.size+1) #[lv,wv,.int .i64 (x.steps+1),.slice a x.fails.length cap] rfl rfl 40 aM hR (au _ _ _ _) rfl (dD.out _) ?_))
   refine bc (dm Tryz.results99 _ _ (w.heap.size+1) 40 #[lv,wv,.int .i64 (x.steps+1),.slice a x.fails.length cap] (0,0) _ rfl (hR.row _) bV rfl (au _ _ _ _) _ rfl) rfl ⟨by rw[cB hnj];rfl,aA hB _ (by omega)⟩
theorem b_ {P:Program} {fn:Func} {p q r:Tmp} {ty te:TypeId} (h:fn.results=#[.cell p ty,.cell q te,.tmp r]) (tmps:Array Value) (w:World) (b c v:Value) (g g':Nat)
 (hp:tmps.getD p undef=.pointer (some ⟨g,0,none⟩)) (hb:(loadVar ty ⟨g,0,none⟩).run P w=.ok b w) (hq:tmps.getD q undef=.pointer (some ⟨g',0,none⟩)) (hc:(loadVar te ⟨g',0,none⟩).run P w=.ok c w) (hr:tmps.getD r undef=v) :
 (results fn tmps).run P w=.ok (.tuple #[b,c,v]) w:=by
 have hp':tmps[p]?.getD undef=.pointer (some ⟨g,0,none⟩):=by simpa using hp
 have hq':tmps[q]?.getD undef=.pointer (some ⟨g',0,none⟩):=by simpa using hq
 have hr':tmps[r]?.getD undef=v:=by simpa using hr
 simp[results,h,hp',hq',hr',asAddr,hb,hc]
theorem dt {W:World} {g:Nat} {t:TypeId} {cs:Array Value} (h:ah W g t cs):W.rangeAt g 0 cs.toList:=fun j v hv=>by
 rw[cW];exact h.ag j (by simpa using hv)
theorem bu.drew {W:World} {B:Nat} {lv wv fv:Value} {x:ak} (h:bu W B lv wv fv x):bu W.drew B lv wv fv x:=⟨h.lasts,h.waits,h.fails⟩
theorem lz {W:World} {g:Nat} {b:List UInt8} (hb:b.length=512) (h:ah W g 111 (b.map aj).toArray):(loadVar 111 ⟨g,0,none⟩).run Tryz.prog W=.ok (.agg (b.map aj).toArray) W :=
 tO W g 111 111 (b.map aj).toArray (0,0) _ h dj rfl (aO _ hb)
theorem EK (x:ak) (lv wv fv:Value) (n:Int) (w:World) (h:bu w w.heap.size lv wv fv x) (hx:x.ok) :
 Calls Tryz.prog 63 #[.agg #[lv,wv,.int .i64 x.steps,fv],.int .i64 n] w fun e w'=>e=.returned (.tuple #[.agg #[lv,wv,.int .i64 (x.after n).steps,fv],aV (x.read n),.int .i64 (x.err n)])∧Below w.heap.size w w':=by
 have dD:=ae h.one;have jw:=ae (fun W hh=>oB x lv wv fv x.steps W hh hx);have HST:=ae (fun W hh=>EJ x lv wv fv W hh hx);have GQ:=ae (fun W hh (m:Nat) (e:n=m) (hm:(m:Int)<x.size)=>Cu x lv wv fv x.steps m W hh hx hm);have HR:=ae h;have hl0:az.length=512:=et;obtain⟨W,eW⟩:∃W,W=((w.alloc (.cells #[lv,wv,.int .i64 x.steps,fv] 40)).alloc (.cells aM 40)).alloc (.cells Tryz.zeroCells111 111):=⟨_,rfl⟩;have hbW:Below w.heap.size w W:=by rw[eW];exact(((ax _ w).alloc (ai _) _).alloc (by simp) _).alloc (by simp;omega) _
 have k0:ah W w.heap.size 40 #[lv,wv,.int .i64 x.steps,fv]:=by rw[eW];exact((ah.new w _ _).alloc _).alloc _
 have k1:ah W (w.heap.size+1) 40 aM:=by rw[eW];exact(ah.new2 w _ _ _).alloc _
 have k2:ah W (w.heap.size+2) 111 (az.map aj).toArray:=by rw[eW,←bE];exact ah.new' (by simp)
 have HRW:=ae ((HR.out.below hbW (ai _)).mono hbW.size);unfold aV;clear h;go_enter Tryz.func63,Tryz.ntmps63
 go_upto_region 1 with fail;rw[←eW];clear eW;have HW:=ae hbW;have ft:=ae k0;have iT:=ae k1;have iS:=ae k2;clear hbW k0 k1 k2;have fin:∀ (W2:World) (c:List UInt8) (s er:Int) (tmps:Array Value),c.length=512→ah W2 (w.heap.size+1) 40 aM→ah W2 (w.heap.size+2) 111 (az.map aj).toArray →
  tmps.getD 4 undef=.pointer (some ⟨w.heap.size+1,0,none⟩)→tmps.getD 5 undef=.pointer (some ⟨w.heap.size+2,0,none⟩)→tmps.getD 6 undef=.int .i64 er →
  (results Tryz.f63 tmps).run Tryz.prog ((W2.setRow (w.heap.size+1) #[lv,wv,.int .i64 s,fv]).setRow (w.heap.size+2) (c.map aj).toArray)=.ok (.tuple #[.agg #[lv,wv,.int .i64 s,fv],.agg (c.map aj).toArray,.int .i64 er]) ((W2.setRow (w.heap.size+1) #[lv,wv,.int .i64 s,fv]).setRow (w.heap.size+2) (c.map aj).toArray):=by
  intro W2 c s er tmps hc h1 h2 t4 t5 t6;have i1:=aH (h1.row #[lv,wv,.int .i64 s,fv]) (c.map aj).toArray (g':=w.heap.size+2) (by omega);have i2:=(aH h2 #[lv,wv,.int .i64 s,fv] (g':=w.heap.size+1) (by omega)).row (c.map aj).toArray;exact b_ Tryz.results63 _ _ _ _ _ _ _ t4 (bB i1) t5 (lz hc i2) t6
 have FIN:=ae fin;clear fin;have C3:n<0∨x.size≤n→x.err n=4∧x.after n=x∧x.read n=az:=by
  intro ho;have he:x.err n=4:=by unfold ak.err;rw[aB ho]
  refine⟨he,by unfold ak.after;rw[aB ho],by unfold ak.read;rw[aG (by omega)]⟩
 by_cases hneg:n<0
 ·obtain⟨he,ha,hr⟩:=C3 (.inl hneg);have nN:=ae (aH iS.out #[lv,wv,.int .i64 x.steps,fv] (g':=w.heap.size+1) (by omega));go_wp2_with (first
   | (refine bt rfl 40 _ rfl w.heap.size rfl 40 #[lv,wv,.int .i64 x.steps,fv] (0,0) _ ft.out bV rfl (au _ _ _ _) ?_)
   | (refine bO rfl 111 _ rfl (az.map aj).toArray (by kernel_rfl) ?_)
   | (refine aQ rfl 40 _ _ rfl (w.heap.size+1) #[lv,wv,.int .i64 x.steps,fv] rfl rfl 40 aM iT.out (au _ _ _ _) rfl (dD.out _) ?_)
   | (refine aQ rfl 111 _ _ rfl (w.heap.size+2) (az.map aj).toArray rfl rfl 111 _ nN.out (aO _ hl0) rfl (bq _) ?_))
  exact bc (FIN.out W az x.steps 4 _ hl0 iT.out iS.out (by rfl) (by rfl) (by rfl)) rfl ⟨by rw[he,ha,hr],aA (aA HW.out _ (by omega)) _ (by omega)⟩
 ·go_wp2_with (refine aS rfl 40 _ rfl w.heap.size 0 rfl #[lv,wv,.int .i64 x.steps,fv] (bB ft.out) ?_)
  refine(jw.out W HRW.out).mono ?_;rintro e w1 ⟨rfl,hb1⟩;have J0:=ae (ft.out.below hb1 ft.out.lt);have J1:=ae (iT.out.below hb1 iT.out.lt);have J2:=ae (iS.out.below hb1 iS.out.lt);have HB1:=ae (HW.out.trans (hb1.mono HW.out.size));have KQ:=ae ((HR.out.below HB1.out (ai _)).mono HB1.out.size);clear hb1 ft iT iS HW HRW;by_cases hbig:x.size≤n
  ·obtain⟨he,ha,hr⟩:=C3 (.inr hbig);have nN:=ae (aH J2.out #[lv,wv,.int .i64 x.steps,fv] (g':=w.heap.size+1) (by omega));go_wp2_with (first
    | (refine bt rfl 40 _ rfl w.heap.size rfl 40 #[lv,wv,.int .i64 x.steps,fv] (0,0) _ J0.out bV rfl (au _ _ _ _) ?_)
    | (refine bO rfl 111 _ rfl (az.map aj).toArray (by kernel_rfl) ?_)
    | (refine aQ rfl 40 _ _ rfl (w.heap.size+1) #[lv,wv,.int .i64 x.steps,fv] rfl rfl 40 aM J1.out (au _ _ _ _) rfl (dD.out _) ?_)
    | (refine aQ rfl 111 _ _ rfl (w.heap.size+2) (az.map aj).toArray rfl rfl 111 _ nN.out (aO _ hl0) rfl (bq _) ?_))
   exact bc (FIN.out w1 az x.steps 4 _ hl0 J1.out J2.out (by rfl) (by rfl) (by rfl)) rfl ⟨by rw[he,ha,hr],aA (aA HB1.out _ (by omega)) _ (by omega)⟩
  ·clear C3;go_wp2_with (refine bt rfl 40 _ rfl w.heap.size rfl 40 #[lv,wv,.int .i64 x.steps,fv] (0,0) _ J0.out bV rfl (au _ _ _ _) ?_)
   refine(HST.out w1 KQ.out).mono ?_;rintro e w2 ⟨rfl,hb2⟩;have L0:=ae (J0.out.below hb2 J0.out.lt);have L1:=ae (J1.out.below hb2 J1.out.lt);have L2:=ae (J2.out.below hb2 J2.out.lt);have HB2:=ae (HB1.out.trans (hb2.mono HB1.out.size));have hlt2:w.heap.size+2<w2.heap.size:=L2.out.lt;clear hb2 J0 J1 J2 HB1 KQ;have z3:ah (w2.alloc (.cells aM 40)) w2.heap.size 40 aM:=ah.new w2 _ _;have hz3:=z3.row #[lv,wv,.int .i64 (x.steps+1),fv];have HB3:=ae (aA (HB2.out.alloc HB2.out.size (.cells aM 40)) #[lv,wv,.int .i64 (x.steps+1),fv] (g:=w2.heap.size) (by omega));have M0:=ae (aH (L0.out.alloc (.cells aM 40)) #[lv,wv,.int .i64 (x.steps+1),fv] (g':=w2.heap.size) (by omega));have M1:=ae (aH (L1.out.alloc (.cells aM 40)) #[lv,wv,.int .i64 (x.steps+1),fv] (g':=w2.heap.size) (by omega));have M2:=ae (aH (L2.out.alloc (.cells aM 40)) #[lv,wv,.int .i64 (x.steps+1),fv] (g':=w2.heap.size) (by omega));have M3:=ae hz3;have Z3:=ae z3;have ha:x.after n=x.stepped:=by unfold ak.after;rw[aG (by omega)]
   clear L0 L1 L2 HB2 hz3 z3;obtain⟨W3,mP⟩:∃W3,W3=(w2.alloc (.cells aM 40)).setRow w2.heap.size #[lv,wv,.int .i64 (x.steps+1),fv]:=⟨_,rfl⟩;by_cases hf:x.steps∈x.fails
   ·have he:x.err n=120:=by unfold ak.err;rw[aG (by omega),aB hf]
    have hr:x.read n=az:=by unfold ak.read;rw[aG (by omega)]
    rw[cT hf];have GS:=ae (aH M2.out #[lv,wv,.int .i64 (x.steps+1),fv] (g':=w.heap.size+1) (by omega));go_wp2_with (first
     | (refine aQ rfl 40 _ _ rfl w2.heap.size #[lv,wv,.int .i64 (x.steps+1),fv] rfl rfl 40 aM Z3.out (au _ _ _ _) rfl (dD.out _) ?_)
     | (refine bt rfl 40 _ rfl w2.heap.size rfl 40 #[lv,wv,.int .i64 (x.steps+1),fv] (0,0) _ M3.out bV rfl (au _ _ _ _) ?_)
     | (refine bO rfl 111 _ rfl (az.map aj).toArray (by kernel_rfl) ?_)
     | (refine aQ rfl 40 _ _ rfl (w.heap.size+1) #[lv,wv,.int .i64 (x.steps+1),fv] rfl rfl 40 aM M1.out (au _ _ _ _) rfl (dD.out _) ?_)
     | (refine aQ rfl 111 _ _ rfl (w.heap.size+2) (az.map aj).toArray rfl rfl 111 _ GS.out (aO _ hl0) rfl (bq _) ?_))
    exact bc (FIN.out _ az (x.steps+1) 120 _ hl0 M1.out M2.out (by rfl) (by rfl) (by rfl)) rfl ⟨by rw[he,ha,hr];rfl,aA (aA HB3.out _ (by omega)) _ (by omega)⟩
   ·have he:x.err n=0:=by unfold ak.err;rw[aG (by omega),aG hf]
    have hr:x.read n=x.reads n:=by unfold ak.read;rw[aB he]
    rw[cB hf];go_wp2_with (first
     | (refine aQ rfl 40 _ _ rfl w2.heap.size #[lv,wv,.int .i64 (x.steps+1),fv] rfl rfl 40 aM Z3.out (au _ _ _ _) rfl (dD.out _) ?_)
     | (refine bt rfl 40 _ rfl w2.heap.size rfl 40 #[lv,wv,.int .i64 (x.steps+1),fv] (0,0) _ M3.out bV rfl (au _ _ _ _) ?_))
    rw[←mP];rw[←mP]at HB3 M0 M1 M2 M3;clear mP Z3;refine bF (S:=(fun w'=>ah w' w2.heap.size 40 #[lv,wv,.int .i64 (x.steps+1),fv]∧ah w' w.heap.size 40 #[lv,wv,.int .i64 x.steps,fv])) (by kernel_rfl) (by(try dsimp only);exact⟨M3.out,M0.out⟩) (fun hHeld=>?_);refine ty 0 rfl (cY (by rfl) 40 _ rfl w2.heap.size 0 rfl [lv,wv,.int .i64 (x.steps+1),fv] _ (fun w' h=>dt h.1) bV rfl (au _ _ _ _)) ?_;refine ty 1 rfl (cY (by rfl) 40 _ rfl w.heap.size 0 rfl [lv,wv,.int .i64 x.steps,fv] _ (fun w' h=>dt h.2) bV rfl (au _ _ _ _)) ?_;refine tk 2 ?_;refine rd 3 fun K hK=>?_;go_simp;obtain⟨m,hm⟩:∃m:Nat,n=m:=⟨n.toNat,by omega⟩;subst hm;refine(GQ.out W3.drew (((HR.out.below HB3.out (ai _)).mono HB3.out.size).drew) m rfl (by omega)).mono ?_;rintro e w4 ⟨rfl,hb4⟩;have P0:=ae (M0.out.drew.below hb4 M0.out.lt);have P1:=ae (M1.out.drew.below hb4 M1.out.lt);have P2:=ae (M2.out.drew.below hb4 M2.out.lt);have P3:=ae (M3.out.drew.below hb4 M3.out.lt);have iz:=ae (HB3.out.drew.trans (hb4.mono HB3.out.size));have hl:=x.dS hx.sound m;unfold aV;go_wp2_with fail;refine hK.out _ _ (by(try dsimp only);exact⟨P3.out,P0.out⟩) (fun hHeld=>?_);clear hK K;refine rd 4 fun K hK=>?_;refine ez 40 _ _ rfl (w.heap.size+1) #[lv,wv,.int .i64 (x.steps+1),fv] rfl rfl 40 aM P1.out (au _ _ _ _) rfl (dD.out _) ?_;refine hK.out _ _ (by(try dsimp only);exact⟨aH P3.out _ (by omega),aH P0.out _ (by omega)⟩) (fun hHeld=>?_);clear hK K;refine rd 5 fun K hK=>?_;have Q2:=ae (aH P2.out #[lv,wv,.int .i64 (x.steps+1),fv] (g':=w.heap.size+1) (by omega));refine ez 111 _ _ rfl (w.heap.size+2) ((x.reads m).map aj).toArray rfl rfl 111 _ Q2.out (aO _ hl) (bT _ _ hl0 hl) (bq _) ?_;refine hK.out _ _ (by(try dsimp only);exact⟨aH (aH P3.out _ (by omega)) _ (by omega),aH (aH P0.out _ (by omega)) _ (by omega)⟩) (fun hHeld=>?_);clear hK K;refine tk 6 ?_;refine aT ?_;go_wp2_with fail;exact bc (FIN.out w4 (x.reads m) (x.steps+1) 0 _ hl P1.out P2.out (by rfl) (by rfl) (by rfl)) rfl ⟨by rw[he,ha,hr];rfl,aA (aA iz.out _ (by omega)) _ (by omega)⟩
theorem vl {w:World} {B e:Nat} {v:Value} {ws:List aI} (h:w.ownsRow B e 513 v ws.length (aL ws)) (hws:∀y∈ws,y.b.length=512) (hl:ws.length≤1000000):cC w w.heap.size v ws:=by
 refine⟨hl,hws,?_⟩;rcases h.2 with ⟨e,h0⟩ | ⟨g,cap,cur,e,_,hg,h1,h2,h3,h4⟩
 ·have:ws=[]:=rO h0;rw[this];exact⟨none,0,e,fun i y hi=>by cases hi⟩
 ·refine⟨some ⟨g,0,none⟩,cap,e,fun i y hi=>⟨g,rfl,kQ hg,fun j u hj=>?_⟩⟩;have hc:=qu ws hws i y hi j u hj;rw[mL w g _ cur _ _ hg,←rQ];rw[←h4,dU]at hc;split at hc
  ·exact hc
  ·cases hc
theorem EL:∀ (ws:List aI),(∀y∈ws,y.b.length=512)→(aL ws).length=ws.length*513
 | [],_=>rfl
 | y::ws,h=>by
  show(y.cells++aL ws).length=_;rw[bX,aI.len y (h y pX),EL ws (fun z hz=>h z (ph _ hz)),wP,Nat.add_mul];omega
theorem vn:∀ (ws:List aI),(∀y∈ws,y.b.length=512)→∀ (j:Nat) (u:Value),(aL ws)[j]? = some u→∃i y k,ws[i]? = some y∧j=i*513+k∧y.cells[k]? = some u
 | [],_,j,u,hj=>by cases hj
 | y::ws,h,j,u,hj=>by
  have hl:=aI.len y (h y pX);have hj':(y.cells++aL ws)[j]? = some u:=hj;by_cases hlt:j<513
  ·rw[iC (by omega)]at hj';exact⟨0,y,j,rfl,by omega,hj'⟩
  ·rw[gl (by omega),hl]at hj';obtain⟨i,z,k,h1,h2,h3⟩:=vn ws (fun z hz=>h z (ph _ hz)) (j-513) u hj';exact⟨i+1,z,k,by simpa using h1,by omega,h3⟩
theorem yY (ws:List aI) (u:Value) (hu:u∈aL ws):u.oneCell'=true:=by
 unfold aL at hu;obtain⟨y,_,hy⟩:=zI.1 hu;exact lu y u hy
structure PC (t e:TypeId) (i:TypeInfo) (z:Value):Prop where
 ht:Tryz.prog.underlying t=some (.slice e)
 hi:Tryz.prog.info? e=some i
 hz:i.zero=some z
 h1:i.size=513
 h2:i.bytes=520
 h3:z.cells.size=513
theorem C4 {t e:TypeId} {i0:TypeInfo} {z0:Value} (T:PC t e i0 z0) (w:World) {base B n:Nat} {v:Value} {xs:List Value} (hown:w.ownsRow base e 513 v n xs) (ty:TypeId) (a:Option Addr) (cap:Nat) (l:List aI)
 (hu:cC w B (.slice a l.length cap) l) (hn:n≤1000000) (hbase:base≤w.heap.size) :
 ∃v' w',(Builtin.append_ #[t,t] ty #[v,.slice a l.length cap]).run Tryz.prog w=.ok v' w'∧w'.ownsRow base e 513 v' (n+l.length) (xs++aL l)∧w.grownBy w' v.ownBlock:=by
 obtain⟨hm,hws,a',cap',ea,hc⟩:=hu;injection ea with e1 e2 e3
 subst e1;have hlen:=EL l hws;cases a with
 | none =>
  have hl:l=[]:=by
   cases l with
   | nil=>rfl
   | cons c l =>
    obtain⟨g,h,_⟩:=hc 0 c rfl;cases h
  subst hl;refine⟨v,w,?_,by simpa[aL]using hown,IE w _⟩;rcases hown.2 with ⟨rfl,rfl⟩ | ⟨g,cap2,cur,rfl,_,_,hnc,_⟩
  ·simp[Builtin.append_,run_underlying T.ht,sizeOf,typeInfo,T.hi,Builtin.lenOf,Builtin.firstCells]
  ·simp[Builtin.append_,run_underlying T.ht,sizeOf,typeInfo,T.hi,Builtin.lenOf,Builtin.firstCells,hnc,storeCells]
 | some ad =>
  have hnews:∀j u,(aL l)[j]? = some u→w.cell? (ad.add j)=some u:=by
   intro j u hj;obtain⟨i,y,k,h1,rfl,h3⟩:=vn l hws j u hj;obtain⟨g,h,_,hr⟩:=hc i y h1;obtain rfl:=gH h;have:=hr k u h3;rw[eP,cW];exact this
  obtain⟨v',w',hrun,h2,h3,_,_⟩:=IG (P:=Tryz.prog) w base t ty e i0 z0 513 520 T.ht T.hi T.hz T.h1 T.h2 T.h3 (by omega) v n xs hown ad l.length cap (aL l) hlen hnews (yY l) (by unfold maxLen;omega) (by omega) hbase;exact⟨v',w',hrun,h2,h3⟩
theorem nk {t e:TypeId} {i0:TypeInfo} {z0:Value} (T:PC t e i0 z0) (w:World) {o:Oper} {a:Act} {K:Act→World→Prop} {Q:Exit→Act→World→Prop} (s x:Operand)
 (ho:o.op=.call {callee:=.builtin .append,args:=#[s,x],argTypes:=#[t,t]})
 (base B n:Nat) (v:Value) (xs:List Value) (hs:a.eval s=v) (hown:w.ownsRow base e 513 v n xs) (A:Option Addr) (m cap:Nat) (l:List aI) (hx:a.eval x=.slice A m cap) (hm:l.length=m)
 (hu:cC w B (.slice A m cap) l) (hn:n≤1000000) (hbase:base≤w.heap.size)
 (h:∀v' w',w'.ownsRow base e 513 v' (n+m) (xs++aL l)→w.grownBy w' v.ownBlock→K (a.put o.dst v') w'):o.wp Tryz.prog a w K Q:=by
 subst hm;obtain⟨v',w',hrun,h2,h3⟩:=C4 T w hown o.type A cap l hu hn hbase;unfold Oper.wp execOp;simp only[ho,resolve,invoke,builtin,Sem.run_bind,Sem.run_pure,Result.andThen_ok,List.map_toArray,List.map_cons,List.map_nil,hs,hx,hrun];exact h v' w' h2 h3
theorem yh:∃i z,PC 38 154 i z:=by
 have h:(Tryz.prog.info? 154).map (fun i=>(i.zero.map (·.cells.size),i.size,i.bytes))=some (some 513,513,520):=by kernel_rfl
 obtain⟨i,hi,he⟩:=iE.1 h;injection he with h1 h2
 injection h2 with h2 h3
 obtain⟨z,hz,h4⟩:=iE.1 h1;exact⟨i,z,⟨Tryz.underlying38,hi,hz,h2,h3,h4⟩⟩
theorem C6:∃i z,PC 108 113 i z:=by
 have h:(Tryz.prog.info? 113).map (fun i=>(i.zero.map (·.cells.size),i.size,i.bytes))=some (some 513,513,520):=by kernel_rfl
 obtain⟨i,hi,he⟩:=iE.1 h;injection he with h1 h2
 injection h2 with h2 h3
 obtain⟨z,hz,h4⟩:=iE.1 h1;exact⟨i,z,⟨Tryz.underlying108,hi,hz,h2,h3,h4⟩⟩
theorem MW (n:Int) (b:List UInt8) (hb:b.length=512):Tryz.prog.built 154 [(0,.int .i64 n),(1,.agg (b.map aj).toArray)]=some (aI.cells ⟨n,b⟩).toArray:=by
 obtain⟨i,z,T⟩:=yh;have hu:=RX;have h3:=T.h3;unfold Program.built;rw[T.hi,hu];simp only[T.hz];rw[show(List.mapM (fun f:Field=>Option.map (fun i=>(f.offset,i.size)) (Tryz.prog.info? f.type)) _:Option (List (Nat×Nat)))=some [(0,1),(1,512)]from by kernel_rfl];simp only[];have hd:z.cells.toList.length=513:=by simpa using h3
 generalize z.cells=zc at *;rw[jK (off:=0) (size:=1) rfl rfl (by omega),jK (off:=1) (size:=512) rfl (by simpa[Value.cells]using hb) (by rw[b'];simp[hd];exact ai 1)];rw[xZ];apply dz some;apply dz List.toArray;rw[wi (by simp[Value.cells]),dg (by simp[Value.cells]),jD (by simp[hd,Value.cells])];simp only[List.take_zero,List.nil_append,List.append_nil];rfl
theorem AQ (n:Int) (b:List UInt8) (hb:b.length=512):Tryz.prog.built 113 [(0,.int .i64 n),(1,.agg (b.map aj).toArray)]=some (aI.cells ⟨n,b⟩).toArray:=by
 obtain⟨i,z,T⟩:=C6;have hu:=Tryz.underlying113;have h3:=T.h3;unfold Program.built;rw[T.hi,hu];simp only[T.hz];rw[show(List.mapM (fun f:Field=>Option.map (fun i=>(f.offset,i.size)) (Tryz.prog.info? f.type)) _:Option (List (Nat×Nat)))=some [(0,1),(1,512)]from by kernel_rfl];simp only[];have hd:z.cells.toList.length=513:=by simpa using h3
 generalize z.cells=zc at *;rw[jK (off:=0) (size:=1) rfl rfl (by omega),jK (off:=1) (size:=512) rfl (by simpa[Value.cells]using hb) (by rw[b'];simp[hd];exact ai 1)];rw[xZ];apply dz some;apply dz List.toArray;rw[wi (by simp[Value.cells]),dg (by simp[Value.cells]),jD (by simp[hd,Value.cells])];simp only[List.take_zero,List.nil_append,List.append_nil];rfl
theorem bn {P:Program} {fn:Func} {p r:Tmp} {ty:TypeId} (h:fn.results=#[.cell p ty,.tmp r]) (tmps:Array Value) (w:World) (b v:Value) (g:Nat)
 (hp:tmps.getD p undef=.pointer (some ⟨g,0,none⟩)) (hb:(loadVar ty ⟨g,0,none⟩).run P w=.ok b w) (hr:tmps.getD r undef=v) :
 (results fn tmps).run P w=.ok (.tuple #[b,v]) w:=by
 have hp':tmps[p]?.getD undef=.pointer (some ⟨g,0,none⟩):=by simpa using hp
 have hr':tmps[r]?.getD undef=v:=by simpa using hr
 simp[results,h,hp',hr',asAddr,hb]
theorem MX (x:ak) (lv wv fv:Value) (n:Int) (b:List UInt8) (w:World) (h:bu w w.heap.size lv wv fv x) (hx:x.ok) (hb:b.length=512) (hx2:(x.write n b).ok) :
 Calls Tryz.prog 50 #[.agg #[lv,wv,.int .i64 x.steps,fv],.int .i64 n,aV b] w fun e w'=>∃wv',e=.returned (.tuple #[.agg #[lv,wv',.int .i64 (x.write n b).steps,fv],.int .i64 (x.err n)])∧bu w' w'.heap.size lv wv' fv (x.write n b)∧Below w.heap.size w w'∧(∀g,wv'.ownBlock=some g→wv'.ownBlock=wv.ownBlock∨w.heap.size≤g):=by
 have dD:=ae h.one;have jw:=ae (fun W hh=>oB x lv wv fv x.steps W hh hx);have HST:=ae (fun W hh=>EJ x lv wv fv W hh hx);have HR:=ae h;have hwin:=h.waits;obtain⟨hwl,hws,aw,cw,rfl,hwr⟩:=h.waits;obtain⟨W,eW⟩:∃W,W=((w.alloc (.cells #[lv,.slice aw x.waits.length cw,.int .i64 x.steps,fv] 40)).alloc (.cells (b.map aj).toArray 111)).alloc (.cells aM 40):=⟨_,rfl⟩;have hbW:Below w.heap.size w W:=by rw[eW];exact(((ax _ w).alloc (ai _) _).alloc (by simp) _).alloc (by simp;omega) _
 have k0:ah W w.heap.size 40 #[lv,.slice aw x.waits.length cw,.int .i64 x.steps,fv]:=by rw[eW];exact((ah.new w _ _).alloc _).alloc _
 have k1:ah W (w.heap.size+1) 111 (b.map aj).toArray:=by rw[eW];exact(ah.new2 w _ _ _).alloc _
 have k2:ah W (w.heap.size+2) 40 aM:=by rw[eW];exact ah.new' (by simp)
 have HRW:=ae ((HR.out.below hbW (ai _)).mono hbW.size);have ah_:=ae hwin;unfold aV;clear h hwr hwin;go_enter Tryz.func50,Tryz.ntmps50
 go_upto_region 1 with fail;rw[←eW];clear eW;have HW:=ae hbW;have ft:=ae k0;have iT:=ae k1;have iS:=ae k2;clear hbW k0 k1 k2;have fin:∀ (W2:World) (wv':Value) (s er:Int) (tmps:Array Value),ah W2 (w.heap.size+2) 40 aM →
  tmps.getD 6 undef=.pointer (some ⟨w.heap.size+2,0,none⟩)→tmps.getD 7 undef=.int .i64 er →
  (results Tryz.f50 tmps).run Tryz.prog (W2.setRow (w.heap.size+2) #[lv,wv',.int .i64 s,fv])=.ok (.tuple #[.agg #[lv,wv',.int .i64 s,fv],.int .i64 er]) (W2.setRow (w.heap.size+2) #[lv,wv',.int .i64 s,fv]):=by
  intro W2 wv' s er tmps h1 t4 t6;exact bn Tryz.results50 _ _ _ _ _ t4 (bB (h1.row _)) t6
 have FIN:=ae fin;clear fin;have C3:n<0∨x.size≤n→x.err n=4∧x.write n b=x:=by
  intro ho;exact⟨by unfold ak.err;rw[aB ho],by unfold ak.write;rw[aB ho]⟩
 by_cases hneg:n<0
 ·obtain⟨he,ha⟩:=C3 (.inl hneg);go_wp2_with (first
   | (refine bt rfl 40 _ rfl w.heap.size rfl 40 #[lv,.slice aw x.waits.length cw,.int .i64 x.steps,fv] (0,0) _ ft.out bV rfl (au _ _ _ _) ?_)
   | (refine aQ rfl 40 _ _ rfl (w.heap.size+2) #[lv,.slice aw x.waits.length cw,.int .i64 x.steps,fv] rfl rfl 40 aM iS.out (au _ _ _ _) rfl (dD.out _) ?_))
  have hbf:=aA HW.out #[lv,.slice aw x.waits.length cw,.int .i64 x.steps,fv] (g:=w.heap.size+2) (by omega);exact bc (FIN.out W _ x.steps 4 _ iS.out (by rfl) (by rfl)) rfl ⟨_,by rw[he,ha],by rw[ha];exact(HR.out.below hbf (ai _)).mono hbf.size,hbf,fun _ _=>.inl rfl⟩
 ·go_wp2_with (refine aS rfl 40 _ rfl w.heap.size 0 rfl #[lv,.slice aw x.waits.length cw,.int .i64 x.steps,fv] (bB ft.out) ?_)
  refine(jw.out W HRW.out).mono ?_;rintro e w1 ⟨rfl,hb1⟩;have J0:=ae (ft.out.below hb1 ft.out.lt);have J1:=ae (iT.out.below hb1 iT.out.lt);have J2:=ae (iS.out.below hb1 iS.out.lt);have HB1:=ae (HW.out.trans (hb1.mono HW.out.size));have KQ:=ae ((HR.out.below HB1.out (ai _)).mono HB1.out.size);clear hb1 ft iT iS HW HRW;by_cases hbig:x.size≤n
  ·obtain⟨he,ha⟩:=C3 (.inr hbig);go_wp2_with (first
    | (refine bt rfl 40 _ rfl w.heap.size rfl 40 #[lv,.slice aw x.waits.length cw,.int .i64 x.steps,fv] (0,0) _ J0.out bV rfl (au _ _ _ _) ?_)
    | (refine aQ rfl 40 _ _ rfl (w.heap.size+2) #[lv,.slice aw x.waits.length cw,.int .i64 x.steps,fv] rfl rfl 40 aM J2.out (au _ _ _ _) rfl (dD.out _) ?_))
   have hbf:=aA HB1.out #[lv,.slice aw x.waits.length cw,.int .i64 x.steps,fv] (g:=w.heap.size+2) (by omega);exact bc (FIN.out w1 _ x.steps 4 _ J2.out (by rfl) (by rfl)) rfl ⟨_,by rw[he,ha],by rw[ha];exact(HR.out.below hbf (ai _)).mono hbf.size,hbf,fun _ _=>.inl rfl⟩
  ·clear C3;go_wp2_with (refine bt rfl 40 _ rfl w.heap.size rfl 40 #[lv,.slice aw x.waits.length cw,.int .i64 x.steps,fv] (0,0) _ J0.out bV rfl (au _ _ _ _) ?_)
   refine(HST.out w1 KQ.out).mono ?_;rintro e w2 ⟨rfl,hb2⟩;have L0:=ae (J0.out.below hb2 J0.out.lt);have L1:=ae (J1.out.below hb2 J1.out.lt);have L2:=ae (J2.out.below hb2 J2.out.lt);have HB2:=ae (HB1.out.trans (hb2.mono HB1.out.size));have hlt2:w.heap.size+2<w2.heap.size:=L2.out.lt;clear hb2 J0 J1 J2 HB1 KQ;have z3:ah (w2.alloc (.cells aM 40)) w2.heap.size 40 aM:=ah.new w2 _ _;have hz3:=z3.row #[lv,.slice aw x.waits.length cw,.int .i64 (x.steps+1),fv];have HB3:=ae (aA (HB2.out.alloc HB2.out.size (.cells aM 40)) #[lv,.slice aw x.waits.length cw,.int .i64 (x.steps+1),fv] (g:=w2.heap.size) (by omega));have M0:=ae (aH (L0.out.alloc (.cells aM 40)) #[lv,.slice aw x.waits.length cw,.int .i64 (x.steps+1),fv] (g':=w2.heap.size) (by omega));have M1:=ae (aH (L1.out.alloc (.cells aM 40)) #[lv,.slice aw x.waits.length cw,.int .i64 (x.steps+1),fv] (g':=w2.heap.size) (by omega));have M2:=ae (aH (L2.out.alloc (.cells aM 40)) #[lv,.slice aw x.waits.length cw,.int .i64 (x.steps+1),fv] (g':=w2.heap.size) (by omega));have M3:=ae hz3;have Z3:=ae z3;have hs3:((w2.alloc (.cells aM 40)).setRow w2.heap.size #[lv,.slice aw x.waits.length cw,.int .i64 (x.steps+1),fv]).heap.size=w2.heap.size+1:=by simp
   clear L0 L1 L2 HB2 hz3 z3;obtain⟨W3,mP⟩:∃W3,W3=(w2.alloc (.cells aM 40)).setRow w2.heap.size #[lv,.slice aw x.waits.length cw,.int .i64 (x.steps+1),fv]:=⟨_,rfl⟩;by_cases hf:x.steps∈x.fails
   ·have he:x.err n=120:=by unfold ak.err;rw[aG (by omega),aB hf]
    have ha:x.write n b=x.stepped:=by unfold ak.write;rw[aG (by omega),aB hf]
    rw[cT hf];go_wp2_with (first
     | (refine aQ rfl 40 _ _ rfl w2.heap.size #[lv,.slice aw x.waits.length cw,.int .i64 (x.steps+1),fv] rfl rfl 40 aM Z3.out (au _ _ _ _) rfl (dD.out _) ?_)
     | (refine bt rfl 40 _ rfl w2.heap.size rfl 40 #[lv,.slice aw x.waits.length cw,.int .i64 (x.steps+1),fv] (0,0) _ M3.out bV rfl (au _ _ _ _) ?_)
     | (refine aQ rfl 40 _ _ rfl (w.heap.size+2) #[lv,.slice aw x.waits.length cw,.int .i64 (x.steps+1),fv] rfl rfl 40 aM M2.out (au _ _ _ _) rfl (dD.out _) ?_))
    have hbf:=aA HB3.out #[lv,.slice aw x.waits.length cw,.int .i64 (x.steps+1),fv] (g:=w.heap.size+2) (by omega);exact bc (FIN.out _ _ (x.steps+1) 120 _ M2.out (by rfl) (by rfl)) rfl ⟨_,by rw[he,ha];rfl,by rw[ha];exact((HR.out.below hbf (ai _)).mono hbf.size).stepped,hbf,fun _ _=>.inl rfl⟩
   ·have he:x.err n=0:=by unfold ak.err;rw[aG (by omega),aG hf]
    have ha:x.write n b=x.stepped.put n b:=by unfold ak.write;rw[aG (by omega),aG hf]
    rw[cB hf];obtain⟨i0,z0,T0⟩:=yh;have HT:=ae T0;have sZ:(aI.cells ⟨n,b⟩).toArray.size=513:=by simpa using aI.len ⟨n,b⟩ hb
    have pt:(aI.cells ⟨n,b⟩).length=1*513:=aI.len ⟨n,b⟩ hb;have amR:x.waits.length+1≤1000000:=by
     have:=hx2.2.2.2.2.2.2;rw[ha]at this;simpa[ak.put,ak.stepped]using this
    have hsz:(Tryz.prog.info? 111).map (·.size)=some (b.map aj).length:=by simpa using aO b hb
    go_wp2_with (refine aQ rfl 40 _ _ rfl w2.heap.size #[lv,.slice aw x.waits.length cw,.int .i64 (x.steps+1),fv] rfl rfl 40 aM Z3.out (au _ _ _ _) rfl (dD.out _) ?_)
    rw[←mP];rw[←mP]at HB3 M0 M1 M2 M3 hs3;clear mP Z3;have N0:=ae (ah_.out.below HB3.out (ai _));have SK:=ae (fun(W':World) (hb':Below W3.heap.size W3 W')=>And.intro ((M0.out.below hb' M0.out.lt).ag 1 rfl) (M1.out.below hb' M1.out.lt));have hX0:Below W3.heap.size W3 W3.drew:=(ax _ W3).drew;refine bF (S:=(fun w'=>w'.cell? ⟨w.heap.size,1,none⟩=some (.slice aw x.waits.length cw)∧ah w' (w.heap.size+1) 111 (b.map aj).toArray)) (by kernel_rfl) (by(try dsimp only);exact⟨M0.out.ag 1 rfl,M1.out⟩) (fun hHeld=>?_);have aa_:W3.drew.heap.size=W3.heap.size:=rfl;generalize W3.drew=X0 at *;have ah':=ae aa_;clear aa_;refine tk 1 ?_;refine tk 4 ?_;refine ty 5 rfl (cY (by rfl) 111 _ rfl (w.heap.size+1) 0 rfl (b.map aj) _ (fun w' h=>by have:=dt h.2;simpa using this) dj rfl hsz) ?_;refine tk 2 ?_;refine ty 6 rfl (iO (by rfl) 154 _ rfl (aI.cells ⟨n,b⟩).toArray (by exact MW n b hb)) ?_;refine fU (rs:=[0,7]) (by kernel_rfl) (by simp) ?_;refine(ca rfl (fun K hK=>?_) (ca rfl (fun K hK=>?_) fT))
    ·skip
     go_simp;obtain⟨X1,qB⟩:∃V,V=X0.alloc (.cells #[] 154):=⟨_,rfl⟩;have hb1:Below W3.heap.size W3 X1:=by rw[qB];exact hX0.alloc hX0.size _
     have Yn:X1.ownsRow W3.heap.size 154 513 (.slice (some ⟨X0.heap.size,0,none⟩) 0 0) 0 []:=by rw[qB];exact⟨rfl,.inr ⟨_,0,#[],rfl,hX0.size,bC X0 _,ai _,by simp,rfl,rfl⟩⟩
     try rw[←qB]
     clear qB;refine hK.out _ _ (by(try dsimp only);exact SK.out _ hb1) (fun hHeld=>?_);clear hK K;refine fU (rs:=[3,7]) (by kernel_rfl) (by simp) ?_;refine(ca rfl (fun K hK=>?_) (ca rfl (fun K hK=>?_) fT))
     ·skip
      try rw[aB (by rfl)]
      refine nk HT.out _ (.tmp 27) (.tmp 29) rfl W3.heap.size _ 0 (.slice (some ⟨X0.heap.size,0,none⟩) 0 0) [] rfl Yn aw x.waits.length cw x.waits rfl rfl (N0.out.below hb1 (by have:=HB3.out.size;omega)) (by omega) hb1.size ?_;intro v30 X2 EM C7;rw[cW,nx]at EM;have hb2:Below W3.heap.size W3 X2:=hb1.grown C7 hb1.size (fun r hr=>(Yn.lt r hr).1);refine hK.out _ _ (by(try dsimp only);exact SK.out _ hb2) (fun hHeld=>?_);clear hK K;refine rd 7 fun K hK=>?_;try rw[aB (by rfl)]
      refine dW 38 154 1 _ rfl (aI.cells ⟨n,b⟩).toArray i0 z0 HT.out.ht HT.out.hi HT.out.hz (by rw[HT.out.h1];decide) (by rw[HT.out.h1];decide) (by exact nG _ sZ i0 z0 HT.out.h1 HT.out.h3) ?_;obtain⟨X3,nP⟩:∃V,V=X2.alloc (.cells (aI.cells ⟨n,b⟩).toArray 154):=⟨_,rfl⟩;have hb3:Below W3.heap.size W3 X3:=by rw[nP];exact hb2.alloc hb2.size _
      have yZ:ah X3 X2.heap.size 154 (aI.cells ⟨n,b⟩).toArray:=by rw[nP];exact ah.new X2 _ _
      have kA:=EM.alloc (.cells (aI.cells ⟨n,b⟩).toArray 154);rw[←nP]at kA;try rw[←nP]
      clear nP;refine hK.out _ _ (by(try dsimp only);exact SK.out _ hb3) (fun hHeld=>?_);clear hK K;refine rd 8 fun K hK=>?_;try rw[aB (by rfl)]
      refine oe _ (.tmp 30) (.tmp 34) 38 rfl W3.heap.size 154 i0 z0 513 520 HT.out.ht HT.out.hi HT.out.hz HT.out.h1 HT.out.h2 HT.out.h3 (by omega) v30 x.waits.length (aL x.waits) rfl kA ⟨X2.heap.size,0,none⟩ 1 1 (aI.cells ⟨n,b⟩) rfl pt (ia (cs:=(aI.cells ⟨n,b⟩).toArray) (t:=154) (fr:=(0,0)) yZ) (lu ⟨n,b⟩) (by omega) (by unfold maxLen;omega) (by omega) hb3.size X3.heap.size rfl ?_;intro dM eQ X9 xy EO Wc Wd;have dT:Below W3.heap.size W3 X9:=hb3.grown EO hb3.size (fun r hr=>(kA.lt r hr).1);have N3:=M3.out.below dT M3.out.lt;have Tc:=N3.ag 1 rfl;have Td:=N3.frozen 1;refine hK.out _ _ (by(try dsimp only);exact SK.out _ dT) (fun hHeld=>?_);clear hK K;refine tk 9 ?_;refine rd 10 fun K hK=>?_;go_simp;refine hK.out _ _ (by(try dsimp only);exact⟨(kJ X9 ⟨w2.heap.size,1,none⟩ ⟨w.heap.size,1,none⟩ _ (by show w2.heap.size≠w.heap.size;omega)).trans (SK.out _ dT).1,(SK.out _ dT).2.far (p:=⟨w2.heap.size,1,none⟩) (by show w.heap.size+1≠w2.heap.size;omega) _⟩) (fun hHeld=>?_);clear hK K;refine aT ?_;have N4:=N3.br 1 (.slice (some ⟨dM,0,none⟩) (x.waits.length+1) eQ);have N2:=(M2.out.below dT M2.out.lt).far (p:=⟨w2.heap.size,1,none⟩) (by show w.heap.size+2≠w2.heap.size;omega) (.slice (some ⟨dM,0,none⟩) (x.waits.length+1) eQ);have GU:=(HB3.out.trans (dT.mono HB3.out.size)).setCell (p:=⟨w2.heap.size,1,none⟩) (by show w.heap.size≤w2.heap.size;omega) (.slice (some ⟨dM,0,none⟩) (x.waits.length+1) eQ);have qC:=zq xy (a:=⟨w2.heap.size,1,none⟩) (by
       intro e;have e2:dM=w2.heap.size:=by simpa[Value.ownBlock]using e
       have h9:=(xy.lt dM rfl).1;omega) (.slice (some ⟨dM,0,none⟩) (x.waits.length+1) eQ)
      have KR:(#[lv,.slice (some ⟨dM,0,none⟩) (x.waits.length+1) eQ,.int .i64 (x.steps+1),fv]:Array Value).all (·.oneCell')=true:=by
       have:=dD.out (x.steps+1);simp only[List.all_toArray,List.all_cons,Bool.and_eq_true]at this ⊢;exact⟨this.1,rfl,this.2.2⟩
      clear xy Tc Td;obtain⟨sE,AR⟩:∃X,X=X9.setCell ⟨w2.heap.size,1,none⟩ (.slice (some ⟨dM,0,none⟩) (x.waits.length+1) eQ):=⟨_,rfl⟩;rw[←AR]at N4 N2 GU qC ⊢;clear AR;go_wp2_with (first
       | (refine bt rfl 40 _ rfl w2.heap.size rfl 40 #[lv,.slice (some ⟨dM,0,none⟩) (x.waits.length+1) eQ,.int .i64 (x.steps+1),fv] (0,0) _ N4 bV rfl (au _ _ _ _) ?_)
       | (refine aQ rfl 40 _ _ rfl (w.heap.size+2) #[lv,.slice (some ⟨dM,0,none⟩) (x.waits.length+1) eQ,.int .i64 (x.steps+1),fv] rfl rfl 40 aM N2 (au _ _ _ _) rfl KR ?_))
      have hbf:=aA GU #[lv,.slice (some ⟨dM,0,none⟩) (x.waits.length+1) eQ,.int .i64 (x.steps+1),fv] (g:=w.heap.size+2) (by omega);have hr0:=(HR.out.below hbf (ai _)).mono hbf.size;have KU:=aq (F:=fun i=>i=w.heap.size+2) (bL (w:=sE) #[lv,.slice (some ⟨dM,0,none⟩) (x.waits.length+1) eQ,.int .i64 (x.steps+1),fv] rfl) qC (fun i hi e=>by have:=(qC.lt i hi).1;omega);have hpw:cC (sE.setRow (w.heap.size+2) #[lv,.slice (some ⟨dM,0,none⟩) (x.waits.length+1) eQ,.int .i64 (x.steps+1),fv]) (sE.setRow (w.heap.size+2) #[lv,.slice (some ⟨dM,0,none⟩) (x.waits.length+1) eQ,.int .i64 (x.steps+1),fv]).heap.size (.slice (some ⟨dM,0,none⟩) (x.waits.length+1) eQ) (x.waits++[⟨n,b⟩]):=by
       refine vl (B:=W3.heap.size) (e:=154) ?_ ?_ ?_
       ·have e2:aL (x.waits++[⟨n,b⟩])=aL x.waits++aI.cells ⟨n,b⟩:=by simp[aL,List.flatMap_append]
        have e3:(x.waits++[(⟨n,b⟩:aI)]).length=x.waits.length+1:=by simp
        rw[e2,e3];exact KU
       ·intro y hy;rcases mq.1 hy with hy | hy
        ·exact hws y hy
        ·rw[mZ.1 hy];exact hb
       ·simp;omega
      have hpost:bu (sE.setRow (w.heap.size+2) #[lv,.slice (some ⟨dM,0,none⟩) (x.waits.length+1) eQ,.int .i64 (x.steps+1),fv]) (sE.setRow (w.heap.size+2) #[lv,.slice (some ⟨dM,0,none⟩) (x.waits.length+1) eQ,.int .i64 (x.steps+1),fv]).heap.size lv (.slice (some ⟨dM,0,none⟩) (x.waits.length+1) eQ) fv (x.write n b):=by
       rw[ha];exact⟨hr0.lasts,hpw,hr0.fails⟩
      have KV:∀g,(Value.slice (some ⟨dM,0,none⟩) (x.waits.length+1) eQ).ownBlock=some g→w.heap.size≤g:=fun g hg=>by
       have h1:=(qC.lt g hg).1;omega
      exact bc (FIN.out _ _ (x.steps+1) 0 _ N2 (by rfl) (by rfl)) rfl ⟨_,by rw[he,ha];rfl,hpost,hbf,fun g hg=>.inr (KV g hg)⟩
     ·skip
      try rw[aB (by rfl)]
      refine dW 38 154 1 _ rfl (aI.cells ⟨n,b⟩).toArray i0 z0 HT.out.ht HT.out.hi HT.out.hz (by rw[HT.out.h1];decide) (by rw[HT.out.h1];decide) (by exact nG _ sZ i0 z0 HT.out.h1 HT.out.h3) ?_;obtain⟨X2,lJ⟩:∃V,V=X1.alloc (.cells (aI.cells ⟨n,b⟩).toArray 154):=⟨_,rfl⟩;have hb2:Below W3.heap.size W3 X2:=by rw[lJ];exact hb1.alloc hb1.size _
      have Te:ah X2 X1.heap.size 154 (aI.cells ⟨n,b⟩).toArray:=by rw[lJ];exact ah.new X1 _ _
      have EM:=Yn.alloc (.cells (aI.cells ⟨n,b⟩).toArray 154);rw[←lJ]at EM;have aer:∀i,(Value.slice (some ⟨X0.heap.size,0,none⟩) 0 0).ownBlock=some i→i≠X1.heap.size:=by
       intro i hi;have h3:=(Yn.lt i hi).2;omega
      try rw[←lJ]
      clear lJ;refine hK.out _ _ (by(try dsimp only);exact SK.out _ hb2) (fun hHeld=>?_);clear hK K;refine rd 3 fun K hK=>?_;try rw[aB (by rfl)]
      refine nk HT.out _ (.tmp 27) (.tmp 29) rfl W3.heap.size _ 0 (.slice (some ⟨X0.heap.size,0,none⟩) 0 0) [] rfl EM aw x.waits.length cw x.waits rfl rfl (N0.out.below hb2 (by have:=HB3.out.size;omega)) (by omega) hb2.size ?_;intro v30 X3 kA C7;rw[cW,nx]at kA;have hb3:Below W3.heap.size W3 X3:=hb2.grown C7 hb2.size (fun r hr=>(EM.lt r hr).1);have yZ:ah X3 X1.heap.size 154 (aI.cells ⟨n,b⟩).toArray:=(C7.block _ Te.lt (fun e=>aer _ e.symm rfl)).trans Te;refine hK.out _ _ (by(try dsimp only);exact SK.out _ hb3) (fun hHeld=>?_);clear hK K;refine rd 8 fun K hK=>?_;try rw[aB (by rfl)]
      refine oe _ (.tmp 30) (.tmp 34) 38 rfl W3.heap.size 154 i0 z0 513 520 HT.out.ht HT.out.hi HT.out.hz HT.out.h1 HT.out.h2 HT.out.h3 (by omega) v30 x.waits.length (aL x.waits) rfl kA ⟨X1.heap.size,0,none⟩ 1 1 (aI.cells ⟨n,b⟩) rfl pt (ia (cs:=(aI.cells ⟨n,b⟩).toArray) (t:=154) (fr:=(0,0)) yZ) (lu ⟨n,b⟩) (by omega) (by unfold maxLen;omega) (by omega) hb3.size X3.heap.size rfl ?_;intro dM eQ X9 xy EO Wc Wd;have dT:Below W3.heap.size W3 X9:=hb3.grown EO hb3.size (fun r hr=>(kA.lt r hr).1);have N3:=M3.out.below dT M3.out.lt;have Tc:=N3.ag 1 rfl;have Td:=N3.frozen 1;refine hK.out _ _ (by(try dsimp only);exact SK.out _ dT) (fun hHeld=>?_);clear hK K;refine tk 9 ?_;refine rd 10 fun K hK=>?_;go_simp;refine hK.out _ _ (by(try dsimp only);exact⟨(kJ X9 ⟨w2.heap.size,1,none⟩ ⟨w.heap.size,1,none⟩ _ (by show w2.heap.size≠w.heap.size;omega)).trans (SK.out _ dT).1,(SK.out _ dT).2.far (p:=⟨w2.heap.size,1,none⟩) (by show w.heap.size+1≠w2.heap.size;omega) _⟩) (fun hHeld=>?_);clear hK K;refine aT ?_;have N4:=N3.br 1 (.slice (some ⟨dM,0,none⟩) (x.waits.length+1) eQ);have N2:=(M2.out.below dT M2.out.lt).far (p:=⟨w2.heap.size,1,none⟩) (by show w.heap.size+2≠w2.heap.size;omega) (.slice (some ⟨dM,0,none⟩) (x.waits.length+1) eQ);have GU:=(HB3.out.trans (dT.mono HB3.out.size)).setCell (p:=⟨w2.heap.size,1,none⟩) (by show w.heap.size≤w2.heap.size;omega) (.slice (some ⟨dM,0,none⟩) (x.waits.length+1) eQ);have qC:=zq xy (a:=⟨w2.heap.size,1,none⟩) (by
       intro e;have e2:dM=w2.heap.size:=by simpa[Value.ownBlock]using e
       have h9:=(xy.lt dM rfl).1;omega) (.slice (some ⟨dM,0,none⟩) (x.waits.length+1) eQ)
      have KR:(#[lv,.slice (some ⟨dM,0,none⟩) (x.waits.length+1) eQ,.int .i64 (x.steps+1),fv]:Array Value).all (·.oneCell')=true:=by
       have:=dD.out (x.steps+1);simp only[List.all_toArray,List.all_cons,Bool.and_eq_true]at this ⊢;exact⟨this.1,rfl,this.2.2⟩
      clear xy Tc Td;obtain⟨sE,AR⟩:∃X,X=X9.setCell ⟨w2.heap.size,1,none⟩ (.slice (some ⟨dM,0,none⟩) (x.waits.length+1) eQ):=⟨_,rfl⟩;rw[←AR]at N4 N2 GU qC ⊢;clear AR;go_wp2_with (first
       | (refine bt rfl 40 _ rfl w2.heap.size rfl 40 #[lv,.slice (some ⟨dM,0,none⟩) (x.waits.length+1) eQ,.int .i64 (x.steps+1),fv] (0,0) _ N4 bV rfl (au _ _ _ _) ?_)
       | (refine aQ rfl 40 _ _ rfl (w.heap.size+2) #[lv,.slice (some ⟨dM,0,none⟩) (x.waits.length+1) eQ,.int .i64 (x.steps+1),fv] rfl rfl 40 aM N2 (au _ _ _ _) rfl KR ?_))
      have hbf:=aA GU #[lv,.slice (some ⟨dM,0,none⟩) (x.waits.length+1) eQ,.int .i64 (x.steps+1),fv] (g:=w.heap.size+2) (by omega);have hr0:=(HR.out.below hbf (ai _)).mono hbf.size;have KU:=aq (F:=fun i=>i=w.heap.size+2) (bL (w:=sE) #[lv,.slice (some ⟨dM,0,none⟩) (x.waits.length+1) eQ,.int .i64 (x.steps+1),fv] rfl) qC (fun i hi e=>by have:=(qC.lt i hi).1;omega);have hpw:cC (sE.setRow (w.heap.size+2) #[lv,.slice (some ⟨dM,0,none⟩) (x.waits.length+1) eQ,.int .i64 (x.steps+1),fv]) (sE.setRow (w.heap.size+2) #[lv,.slice (some ⟨dM,0,none⟩) (x.waits.length+1) eQ,.int .i64 (x.steps+1),fv]).heap.size (.slice (some ⟨dM,0,none⟩) (x.waits.length+1) eQ) (x.waits++[⟨n,b⟩]):=by
       refine vl (B:=W3.heap.size) (e:=154) ?_ ?_ ?_
       ·have e2:aL (x.waits++[⟨n,b⟩])=aL x.waits++aI.cells ⟨n,b⟩:=by simp[aL,List.flatMap_append]
        have e3:(x.waits++[(⟨n,b⟩:aI)]).length=x.waits.length+1:=by simp
        rw[e2,e3];exact KU
       ·intro y hy;rcases mq.1 hy with hy | hy
        ·exact hws y hy
        ·rw[mZ.1 hy];exact hb
       ·simp;omega
      have hpost:bu (sE.setRow (w.heap.size+2) #[lv,.slice (some ⟨dM,0,none⟩) (x.waits.length+1) eQ,.int .i64 (x.steps+1),fv]) (sE.setRow (w.heap.size+2) #[lv,.slice (some ⟨dM,0,none⟩) (x.waits.length+1) eQ,.int .i64 (x.steps+1),fv]).heap.size lv (.slice (some ⟨dM,0,none⟩) (x.waits.length+1) eQ) fv (x.write n b):=by
       rw[ha];exact⟨hr0.lasts,hpw,hr0.fails⟩
      have KV:∀g,(Value.slice (some ⟨dM,0,none⟩) (x.waits.length+1) eQ).ownBlock=some g→w.heap.size≤g:=fun g hg=>by
       have h1:=(qC.lt g hg).1;omega
      exact bc (FIN.out _ _ (x.steps+1) 0 _ N2 (by rfl) (by rfl)) rfl ⟨_,by rw[he,ha];rfl,hpost,hbf,fun g hg=>.inr (KV g hg)⟩
    ·skip
     try rw[aB (by rfl)]
     refine dW 38 154 1 _ rfl (aI.cells ⟨n,b⟩).toArray i0 z0 HT.out.ht HT.out.hi HT.out.hz (by rw[HT.out.h1];decide) (by rw[HT.out.h1];decide) (by exact nG _ sZ i0 z0 HT.out.h1 HT.out.h3) ?_;obtain⟨X1,qB⟩:∃V,V=X0.alloc (.cells (aI.cells ⟨n,b⟩).toArray 154):=⟨_,rfl⟩;have hb1:Below W3.heap.size W3 X1:=by rw[qB];exact hX0.alloc hX0.size _
     have bl1:ah X1 X0.heap.size 154 (aI.cells ⟨n,b⟩).toArray:=by rw[qB];exact ah.new X0 _ _
     try rw[←qB]
     clear qB;refine hK.out _ _ (by(try dsimp only);exact SK.out _ hb1) (fun hHeld=>?_);clear hK K;refine rd 0 fun K hK=>?_;go_simp;obtain⟨X2,lJ⟩:∃V,V=X1.alloc (.cells #[] 154):=⟨_,rfl⟩;have hb2:Below W3.heap.size W3 X2:=by rw[lJ];exact hb1.alloc hb1.size _
     have EM:X2.ownsRow W3.heap.size 154 513 (.slice (some ⟨X1.heap.size,0,none⟩) 0 0) 0 []:=by rw[lJ];exact⟨rfl,.inr ⟨_,0,#[],rfl,hb1.size,bC X1 _,ai _,by simp,rfl,rfl⟩⟩
     have Te:ah X2 X0.heap.size 154 (aI.cells ⟨n,b⟩).toArray:=by rw[lJ];exact bl1.alloc _
     try rw[←lJ]
     clear lJ;refine hK.out _ _ (by(try dsimp only);exact SK.out _ hb2) (fun hHeld=>?_);clear hK K;refine rd 3 fun K hK=>?_;try rw[aB (by rfl)]
     refine nk HT.out _ (.tmp 27) (.tmp 29) rfl W3.heap.size _ 0 (.slice (some ⟨X1.heap.size,0,none⟩) 0 0) [] rfl EM aw x.waits.length cw x.waits rfl rfl (N0.out.below hb2 (by have:=HB3.out.size;omega)) (by omega) hb2.size ?_;intro v30 X3 kA C7;rw[cW,nx]at kA;have hb3:Below W3.heap.size W3 X3:=hb2.grown C7 hb2.size (fun r hr=>(EM.lt r hr).1);have yZ:ah X3 X0.heap.size 154 (aI.cells ⟨n,b⟩).toArray:=(C7.block _ Te.lt (fun e=>by
      have e2:X0.heap.size=X1.heap.size:=by simpa[Value.ownBlock]using e
      have h4:=bl1.lt;have h3:=ah'.out;omega)).trans Te
     refine hK.out _ _ (by(try dsimp only);exact SK.out _ hb3) (fun hHeld=>?_);clear hK K;refine rd 8 fun K hK=>?_;try rw[aB (by rfl)]
     refine oe _ (.tmp 30) (.tmp 34) 38 rfl W3.heap.size 154 i0 z0 513 520 HT.out.ht HT.out.hi HT.out.hz HT.out.h1 HT.out.h2 HT.out.h3 (by omega) v30 x.waits.length (aL x.waits) rfl kA ⟨X0.heap.size,0,none⟩ 1 1 (aI.cells ⟨n,b⟩) rfl pt (ia (cs:=(aI.cells ⟨n,b⟩).toArray) (t:=154) (fr:=(0,0)) yZ) (lu ⟨n,b⟩) (by omega) (by unfold maxLen;omega) (by omega) hb3.size X3.heap.size rfl ?_;intro dM eQ X9 xy EO Wc Wd;have dT:Below W3.heap.size W3 X9:=hb3.grown EO hb3.size (fun r hr=>(kA.lt r hr).1);have N3:=M3.out.below dT M3.out.lt;have Tc:=N3.ag 1 rfl;have Td:=N3.frozen 1;refine hK.out _ _ (by(try dsimp only);exact SK.out _ dT) (fun hHeld=>?_);clear hK K;refine tk 9 ?_;refine rd 10 fun K hK=>?_;go_simp;refine hK.out _ _ (by(try dsimp only);exact⟨(kJ X9 ⟨w2.heap.size,1,none⟩ ⟨w.heap.size,1,none⟩ _ (by show w2.heap.size≠w.heap.size;omega)).trans (SK.out _ dT).1,(SK.out _ dT).2.far (p:=⟨w2.heap.size,1,none⟩) (by show w.heap.size+1≠w2.heap.size;omega) _⟩) (fun hHeld=>?_);clear hK K;refine aT ?_;have N4:=N3.br 1 (.slice (some ⟨dM,0,none⟩) (x.waits.length+1) eQ);have N2:=(M2.out.below dT M2.out.lt).far (p:=⟨w2.heap.size,1,none⟩) (by show w.heap.size+2≠w2.heap.size;omega) (.slice (some ⟨dM,0,none⟩) (x.waits.length+1) eQ);have GU:=(HB3.out.trans (dT.mono HB3.out.size)).setCell (p:=⟨w2.heap.size,1,none⟩) (by show w.heap.size≤w2.heap.size;omega) (.slice (some ⟨dM,0,none⟩) (x.waits.length+1) eQ);have qC:=zq xy (a:=⟨w2.heap.size,1,none⟩) (by
      intro e;have e2:dM=w2.heap.size:=by simpa[Value.ownBlock]using e
      have h9:=(xy.lt dM rfl).1;omega) (.slice (some ⟨dM,0,none⟩) (x.waits.length+1) eQ)
     have KR:(#[lv,.slice (some ⟨dM,0,none⟩) (x.waits.length+1) eQ,.int .i64 (x.steps+1),fv]:Array Value).all (·.oneCell')=true:=by
      have:=dD.out (x.steps+1);simp only[List.all_toArray,List.all_cons,Bool.and_eq_true]at this ⊢;exact⟨this.1,rfl,this.2.2⟩
     clear xy Tc Td;obtain⟨sE,AR⟩:∃X,X=X9.setCell ⟨w2.heap.size,1,none⟩ (.slice (some ⟨dM,0,none⟩) (x.waits.length+1) eQ):=⟨_,rfl⟩;rw[←AR]at N4 N2 GU qC ⊢;clear AR;go_wp2_with (first
      | (refine bt rfl 40 _ rfl w2.heap.size rfl 40 #[lv,.slice (some ⟨dM,0,none⟩) (x.waits.length+1) eQ,.int .i64 (x.steps+1),fv] (0,0) _ N4 bV rfl (au _ _ _ _) ?_)
      | (refine aQ rfl 40 _ _ rfl (w.heap.size+2) #[lv,.slice (some ⟨dM,0,none⟩) (x.waits.length+1) eQ,.int .i64 (x.steps+1),fv] rfl rfl 40 aM N2 (au _ _ _ _) rfl KR ?_))
     have hbf:=aA GU #[lv,.slice (some ⟨dM,0,none⟩) (x.waits.length+1) eQ,.int .i64 (x.steps+1),fv] (g:=w.heap.size+2) (by omega);have hr0:=(HR.out.below hbf (ai _)).mono hbf.size;have KU:=aq (F:=fun i=>i=w.heap.size+2) (bL (w:=sE) #[lv,.slice (some ⟨dM,0,none⟩) (x.waits.length+1) eQ,.int .i64 (x.steps+1),fv] rfl) qC (fun i hi e=>by have:=(qC.lt i hi).1;omega);have hpw:cC (sE.setRow (w.heap.size+2) #[lv,.slice (some ⟨dM,0,none⟩) (x.waits.length+1) eQ,.int .i64 (x.steps+1),fv]) (sE.setRow (w.heap.size+2) #[lv,.slice (some ⟨dM,0,none⟩) (x.waits.length+1) eQ,.int .i64 (x.steps+1),fv]).heap.size (.slice (some ⟨dM,0,none⟩) (x.waits.length+1) eQ) (x.waits++[⟨n,b⟩]):=by
      refine vl (B:=W3.heap.size) (e:=154) ?_ ?_ ?_
      ·have e2:aL (x.waits++[⟨n,b⟩])=aL x.waits++aI.cells ⟨n,b⟩:=by simp[aL,List.flatMap_append]
       have e3:(x.waits++[(⟨n,b⟩:aI)]).length=x.waits.length+1:=by simp
       rw[e2,e3];exact KU
      ·intro y hy;rcases mq.1 hy with hy | hy
       ·exact hws y hy
       ·rw[mZ.1 hy];exact hb
      ·simp;omega
     have hpost:bu (sE.setRow (w.heap.size+2) #[lv,.slice (some ⟨dM,0,none⟩) (x.waits.length+1) eQ,.int .i64 (x.steps+1),fv]) (sE.setRow (w.heap.size+2) #[lv,.slice (some ⟨dM,0,none⟩) (x.waits.length+1) eQ,.int .i64 (x.steps+1),fv]).heap.size lv (.slice (some ⟨dM,0,none⟩) (x.waits.length+1) eQ) fv (x.write n b):=by
      rw[ha];exact⟨hr0.lasts,hpw,hr0.fails⟩
     have KV:∀g,(Value.slice (some ⟨dM,0,none⟩) (x.waits.length+1) eQ).ownBlock=some g→w.heap.size≤g:=fun g hg=>by
      have h1:=(qC.lt g hg).1;omega
     exact bc (FIN.out _ _ (x.steps+1) 0 _ N2 (by rfl) (by rfl)) rfl ⟨_,by rw[he,ha];rfl,hpost,hbf,fun g hg=>.inr (KV g hg)⟩
def y6 (s:Nat) (l:List UInt8) (k:Nat):ak:=⟨s,fun n=>if 0≤n∧n<(k:Int) then (l.drop (512*n.toNat)).take 512 else az,[],0,[]⟩
def qD (s:Nat) (l:List UInt8):ak:=y6 s l s
theorem We (s:Nat) (l:List UInt8):y6 s l 0=jQ s:=by
 unfold y6 jQ;congr 1
 funext n
 rw[aG (by omega)]
theorem Wf (s:Nat) (l:List UInt8) (k:Nat) (b:List UInt8) (hb:b=(l.drop (512*k)).take 512):({y6 s l k with lasts:=fun m=>if m=(k:Int) then b else (y6 s l k).lasts m}:ak)=y6 s l (k+1):=by
 refine dz (fun f=>(⟨s,f,[],0,[]⟩:ak)) ?_;funext n
 show(if n=(k:Int) then b else if 0≤n∧n<(k:Int) then (l.drop (512*n.toNat)).take 512 else az)=if 0≤n∧n<((k+1:Nat):Int) then (l.drop (512*n.toNat)).take 512 else az
 by_cases h:n=k
 ·subst h;rw[aB rfl,aB (by omega),hb,Du]
 ·rw[aG h];by_cases h2:0≤n∧n<(k:Int)
  ·rw[aB h2,aB (by omega)]
  ·rw[aG h2,aG (by omega)]
theorem vq {F:Nat→Prop} {B:Nat} {w w':World} (h:Below B w w') (hF:∀i,B≤i→F i):Out F w w':=⟨h.os,h.tape,h.output,h.size,fun i hi hn=>h.block i (by
 rcases bZ i B with h1 | h1
 ·exact h1
 ·exact absurd (hF i h1) hn)⟩
theorem MY {W:World} {B:Nat} {g off n c:Nat} {l:List UInt8} (h:BytesIn W B (.slice (some ⟨g,off,none⟩) n c) l) (i m:Nat):W.rangeAt g (off+i) (((l.drop i).take m).map aj):=by
 intro j u hj;rw[dV]at hj;obtain⟨c,hc,rfl⟩:=iE.1 hj;rw[dU]at hc;split at hc
 ·rw[kL]at hc;obtain⟨g',off',e,_,hr⟩:=h.at_ hc;cases e
  rw[show off+i+j=off+(i+j)by omega];exact hr
 ·cases hc
theorem Wg (a:Option Addr) (w:World):(Instr.arrayAt 111 (.slice a 512 512)).run Tryz.prog w=.ok (.pointer a) w:=by
 simp[Instr.arrayAt,run_underlying Tryz.underlying111]
theorem Z' (v:Value) (l:List UInt8) (s:Nat) (w:World) (hv:BytesIn w w.heap.size v l) (hl:l.length=512*s) (h1:1≤s) (h2:s≤4096) :
 Calls Tryz.prog 46 #[v] w fun e w'=>∃D,e=.returned (.tuple #[ptr D.p,.int .i64 0])∧aE w' D (qD s l)∧(∀i,D.has i→w.heap.size≤i)∧Below w.heap.size w w':=by
 have HN:=ae (Kg s w (by omega) (by omega));have HV:=ae hv;obtain⟨hm,a,cap,rfl,hcap,hc⟩:=hv;obtain⟨g,off,rfl,hg0,_⟩:=hc 0 (l[0]'(by omega)) (aY (by omega));have KW:=ae (fun k (_:k<s)=>MY HV.out (512*k) 512);have hq:(l.length:Int)/512=s:=by omega
 have hq2:(l.length:Int) % 512=0:=by omega
 have hmx:l.length≤2097152:=by omega
 have hcap2:(l.length:Int)≤(cap:Int):=by omega
 unfold ptr at *;clear hc;go_enter Tryz.func46,Tryz.ntmps46
 go_wp2_with fail;refine HN.out.mono ?_;rintro e w1 ⟨rfl,hD,hB1⟩;have hps:(newAt w.heap.size).p=w.heap.size+1:=rfl;rw[hps];have c0:w1.cell? ⟨w.heap.size+1,0,none⟩=some (.int .i64 (s:Int)):=hD.blk.ag 0 rfl;have HD1:=ae hD;clear hD hps;go_wp2_with fail;go_loopw [27] (fun i wr=>∃k:Nat,k≤s∧i=.int .i64 (k:Int)∧aE wr (newAt w.heap.size) (y6 s l k)∧Below w.heap.size w wr) (fun i _=>s-(intOf i).toNat)
 case atStart=>exact⟨0,by omega,rfl,by rw[We];exact HD1.out,hB1⟩
 case round =>
  obtain⟨k,hk,rfl,hDk,hB⟩:=hrel;by_cases hlt:k<s
  ·have p1:=hDk.blk.ag 1 rfl;have p2:=dE (KW.out k hlt) hB hg0;obtain⟨b,eb⟩:∃b,b=(l.drop (512*k)).take 512:=⟨_,rfl⟩;have hbl:b.length=512:=by rw[eb,bD,c_];omega
   rw[←eb]at p2;have hsz:(Tryz.prog.info? 111).map (·.size)=some (b.map aj).length:=by simpa using aO b hbl
   have z1:IntKind.i64.wrap ((k:Int)*512+512)=(k:Int)*512+512:=by rw[cz];omega
   have z2:0≤(k:Int)*512+512∧(k:Int)*512+512≤(cap:Int):=by omega
   have z3:max ((k:Int)*512+512) 0=(k:Int)*512+512:=by omega
   have z4:0≤(k:Int)*512+512∧(k:Int)*512+512≤(k:Int)*512+512:=by omega
   have z5:0≤(k:Int)*512∧(k:Int)*512≤(k:Int)*512+512:=by omega
   have z6:((k:Int)*512+512).toNat=k*512+512:=by omega
   have z7:((k:Int)*512).toNat=k*512:=by omega
   have z8:¬ (k*512+512=k*512):=by omega
   have z9:k*512+512-k*512=512:=by omega
   have KX:off+k*512=off+512*k:=by omega
   have Cv:(k:Int)<(s:Int):=by omega
   go_upto_region 8 with fail;refine bF (S:=(fun w'=>w'.cell? ⟨w.heap.size+1,1,none⟩=some (.map (some w.heap.size))∧w'.rangeAt g (off+512*k) (b.map aj))) (by kernel_rfl) (by(try dsimp only);exact⟨p1,p2⟩) (fun hHeld=>?_);refine tk 0 ?_;refine tk 4 ?_;refine tk 5 ?_;refine tk 6 ?_;refine tk 7 ?_;refine tk 9 ?_;refine tk 1 ?_;refine tk 8 ?_;refine tk 10 ?_;refine tk 2 ?_;refine fh (i:=11) (v:=.slice (some ⟨g,off+512*k,none⟩) 512 512) rfl (by kernel_rfl) (by kernel_rfl) (by kernel_rfl) (fun _ _ _ h=>h) (Or.inl ⟨by rfl,?aia⟩) (by assumption) ?_
   case aia =>
    intro w hSw;try dsimp only at hSw
    go_simp;try simp only[z1,z2,z3,z4,z5,z6,z7,z8,z9,KX,if_true,if_false,and_self,Result.andThen_ok]
   refine tk 3 ?_;refine fh (i:=12) (v:=.pointer (some ⟨g,off+512*k,none⟩)) rfl (by kernel_rfl) (by kernel_rfl) (by kernel_rfl) (fun _ _ _ h=>h) (Or.inl ⟨by rfl,?aib⟩) (by assumption) ?_
   case aib =>
    intro w hSw;try dsimp only at hSw
    go_simp;rw[Wg];rfl
   refine ty 13 rfl (cY (by rfl) 111 _ rfl g (off+512*k) rfl (b.map aj) _ (fun w' h=>h.2) dj rfl hsz) ?_;refine rd 14 fun K hK=>?_;obtain⟨w2,hrun,hturn,hD2,hS2⟩:=yS (D:=newAt w.heap.size) (x:=y6 s l k) hDk.drew (k:Int) b;refine k8 wr.drew w2 _ _ _ _ rfl (.map (some w.heap.size)) (.int .i64 (k:Int)) (aV b) rfl rfl rfl hrun ?_;have hB2:Below w.heap.size w w2:=by
    have ho:=Out.trans (F:=fun i=>w.heap.size≤i) (vq hB.drew (fun _ h=>h)) hS2.out (fun i hi h=>by rcases h with h | h | h | h<;>first | (cases h;done) | (unfold newAt at h;simp at h;omega));exact ho.below (ai _) (fun i hi h=>by omega)
   have eD:({y6 s l k with lasts:=fun m=>if m=(k:Int) then b else (y6 s l k).lasts m}:ak)=y6 s l (k+1):=Wf s l k b eb;rw[eD]at hD2;have q1:=hD2.blk.ag 1 rfl;have q2:=dE (KW.out k hlt) hB2 hg0;refine hK.out _ _ (by(try dsimp only);exact⟨q1,by rw[eb];exact q2⟩) (fun hHeld=>?_);clear hK K;refine aT ?_;go_wp2_with fail;go_roundw
   case rel=>exact⟨k+1,by omega,by go_num,hD2,hB2⟩
   case measure=>simp[intOf];omega
  ·have hnl:¬ ((k:Int)<(s:Int)):=by omega
   have hks:k=s:=by omega
   have HKS:=ae hks;clear hks hlt;go_wp2_with fail
   all_goals
    have hks:=HKS.out;subst hks;refine bc (results_tmp2 Tryz.results46 _ _ _) rfl ⟨newAt w.heap.size,rfl,hDk,fun i hi=>by rcases hi with h | h | h | h<;>(try cases h)<;>(unfold newAt;simp;done),hB⟩
def lg (c:Int):List PanicEntry:=[{v:=.iface 211 (.agg #[.int .i64 c]),recovered:=false}]
theorem lA (c:Int) (w:World):Calls Tryz.prog 72 #[.bool true,.int .i64 c] w fun e w'=>e=.returned (.tuple #[])∧w=w':=by
 go_enter Tryz.func72,Tryz.ntmps72
 go_wp2_with fail;exact jE (v:=.tuple #[]) (by simp[results,Tryz.results72,go_sem]) rfl ⟨rfl,rfl⟩
theorem jR (c:Int) (w:World):Calls Tryz.prog 72 #[.bool false,.int .i64 c] w fun e w'=>e=.panicked (lg c)∧w=w':=by
 go_enter Tryz.func72,Tryz.ntmps72
 go_wp2_with fail;exact⟨rfl,rfl,rfl⟩
def xz:List PanicEntry:=[{v:=.iface 260 (.agg #[]),recovered:=false}]
theorem AS (w:World):Calls Tryz.prog 124 #[.bool true] w fun e w'=>e=.returned (.tuple #[])∧w=w':=by
 go_enter Tryz.func124,Tryz.ntmps124
 go_wp2_with fail;exact jE (v:=.tuple #[]) (by simp[results,Tryz.results124,go_sem]) rfl ⟨rfl,rfl⟩
theorem C8 (w:World):Calls Tryz.prog 124 #[.bool false] w fun e w'=>e=.panicked xz∧w=w':=by
 go_enter Tryz.func124,Tryz.ntmps124
 go_wp2_with fail;exact⟨rfl,rfl,rfl⟩
theorem nQ (D:aX) (x:ak) (n:Int) (w:World) (h:aE w D x) (hx:x.ok) (he:x.err n=0) :
 Calls Tryz.prog 70 #[ptr D.p,.int .i64 n] w fun e w'=>e=.returned (aV (x.reads n))∧aE w' D x.stepped∧DStep D D w w':=by
 have hw1:Below w.heap.size w (w.alloc (.cells Tryz.zeroCells111 111)):=(ax _ w).alloc (ai _) _;have HR:=ae (Gx D x n _ (h.below hw1) hx);have hrd:x.read n=x.reads n:=by unfold ak.read;rw[aB he]
 have haf:x.after n=x.stepped:=by
  unfold ak.after;unfold ak.err at he;split at he
  ·exact absurd he (by decide)
  ·rename_i hh;rw[aG hh]
 rw[hrd,he,haf]at HR;have O':=ae h.has_lt;have hnD:¬D.has w.heap.size:=fun hd=>by have:=h.has_lt _ hd;omega
 have hlb:=x.dS hx.sound n;obtain⟨b,eb⟩:∃b,b=x.reads n:=⟨_,rfl⟩;rw[←eb]at HR hlb ⊢;have f_:=ae hlb;unfold ptr aV at *;clear h hx he hrd haf eb hlb;go_enter Tryz.func70,Tryz.ntmps70
 go_wp2_with fail;refine HR.out.mono ?_;rintro e w1 ⟨rfl,hd1,hs1⟩;have k0:ah w1 w.heap.size 111 (az.map aj).toArray:=hs1.out.blk (by rw[←bE];exact ah.new w _ _) hnD;have HD1:=ae hd1;have nI:=ae hs1;have ft:=ae k0;clear hd1 hs1 k0;go_wp2_with (refine aQ rfl 111 _ _ rfl w1.heap.size (b.map aj).toArray rfl rfl 111 _ (bC w1 _) (aO _ f_.out) (by rw[bE];exact bT _ _ bA f_.out) (bq _) ?_;rw[di])
 refine(lA 0 _).mono ?_;rintro e w2 ⟨rfl,rfl⟩;have k2:ah (w1.alloc (.cells (b.map aj).toArray 111)) w.heap.size 111 (az.map aj).toArray:=ft.out.alloc _;go_wp2_with (first
  | (refine bt rfl 111 _ rfl w1.heap.size rfl 111 (b.map aj).toArray (0,0) _ (bC w1 _) dj rfl (aO _ f_.out) ?_)
  | (refine aQ rfl 111 _ _ rfl w.heap.size (b.map aj).toArray rfl rfl 111 _ k2 (aO _ f_.out) (bT _ _ bA f_.out) (bq _) ?_))
 refine bc (mo Tryz.results70 _ _ w.heap.size 111 _ (0,0) _ rfl (k2.row _) dj rfl (aO _ f_.out)) rfl ?_;have hb1:Below w1.heap.size w1 (w1.alloc (.cells (b.map aj).toArray 111)):=(ax _ w1).alloc (ai _) _;have h2:=HD1.out.below hb1;refine⟨rfl,h2.out (F:=fun i=>i=w.heap.size) (bL _ rfl) (fun i hi e=>hnD (by rw[←e];exact hi)),⟨?_,rfl,fun i hi=>.inl hi⟩⟩;have hf:=(nI.out.below hb1).first (w0:=w) hw1 O'.out;exact⟨hf.out.os,hf.out.tape,hf.out.output,by have:=hf.out.size;simp at this ⊢;omega,fun i hi hn=>(kO _ w.heap.size i _ (by omega)).trans (hf.out.block i hi hn)⟩
theorem pD (D:aX) (x:ak) (n:Int) (w:World) (h:aE w D x) (hx:x.ok) (he:x.err n≠0) :
 Calls Tryz.prog 70 #[ptr D.p,.int .i64 n] w fun e w'=>e=.panicked (lg (x.err n))∧aE w' D (x.after n)∧DStep D D w w':=by
 have hw1:Below w.heap.size w (w.alloc (.cells Tryz.zeroCells111 111)):=(ax _ w).alloc (ai _) _;have HR:=ae (Gx D x n _ (h.below hw1) hx);have O':=ae h.has_lt;have hlb:(x.read n).length=512:=by unfold ak.read;rw[aG he];exact bA
 obtain⟨b,eb⟩:∃b,b=x.read n:=⟨_,rfl⟩;rw[←eb]at HR hlb;obtain⟨c,ec⟩:∃c,c=x.err n:=⟨_,rfl⟩;rw[←ec]at HR he ⊢;have f_:=ae hlb;have hc:(c == 0)=false:=by simpa using he
 unfold ptr aV at *;clear h hx eb hlb ec;go_enter Tryz.func70,Tryz.ntmps70
 go_wp2_with fail;refine HR.out.mono ?_;rintro e w1 ⟨rfl,hd1,hs1⟩;have HD1:=ae hd1;have nI:=ae hs1;clear hd1 hs1;go_wp2_with (refine aQ rfl 111 _ _ rfl w1.heap.size (b.map aj).toArray rfl rfl 111 _ (bC w1 _) (aO _ f_.out) (by rw[bE];exact bT _ _ bA f_.out) (bq _) ?_;rw[di])
 refine(jR c _).mono ?_;rintro e w2 ⟨rfl,rfl⟩;go_wp2_with fail;have hb1:Below w1.heap.size w1 (w1.alloc (.cells (b.map aj).toArray 111)):=(ax _ w1).alloc (ai _) _;exact⟨rfl,rfl,HD1.out.below hb1,(nI.out.below hb1).first hw1 O'.out⟩
theorem AU (l:List UInt8) (k:Nat) (hk:l.length≤k) (h8:k≤8):aW l<18446744073709551616:=by
 have h1:=iJ l;have h2:256^l.length≤256^8:=rR (by omega) (by omega);have h3:(256:Nat)^8=18446744073709551616:=by decide
 omega
theorem Wh (pb B:Nat) (v:Value) (l:List UInt8) (k:Nat) (hk:k≤8) (hkl:k≤l.length) (w:World) (hb:ah w pb 26 #[v]) (hv:BytesIn w B v l) (hB:B≤pb) (hg:iN (l.take k)=true) :
 Calls Tryz.prog 115 #[.pointer (some ⟨pb,0,none⟩),.int .i64 (k:Int)] w fun e w'=>e=.returned (.int .i64 (aW (l.take k):Int))∧(∃v',ah w' pb 26 #[v']∧BytesIn w' B v' (l.drop k))∧Out (fun i=>i=pb) w w':=by
 obtain⟨hl0,a,cap,rfl,hlc,hcs⟩:=hv;have hv:BytesIn w B (.slice a l.length cap) l:=⟨hl0,a,cap,rfl,hlc,hcs⟩;have hcell:=hb.ag 0 rfl;have hlt:=hb.lt;have hmax:cap≤maxLen∨True:=.inr trivial;have hu:=hv.upto k hkl hlc;have hf:=hv.from_ k hkl hlc;have HG:=ae (FL _ _ w (hu.mono (by omega)));rw[hg]at HG;have HF:=ae hf;have HB:=ae hb;have i1:(0:Int)≤(k:Int):=by omega
 have i2:(k:Int)≤(cap:Int):=by omega
 have i3:(k:Int)≤(l.length:Int):=by omega
 clear hu hf hg hcs hv;go_enter Tryz.func115,Tryz.ntmps115
 go_wp2_with fail;refine HG.out.mono ?_;rintro e w1 ⟨rfl,hb1⟩;have hcell1:=(HB.out.below hb1 hlt).ag 0 rfl;have amS:=(HB.out.below hb1 hlt).frozen 0;have Sj:=ae (HF.out.below hb1 (by omega:B≤w.heap.size));have HB1:=ae (HB.out.below hb1 hlt);have HO:=ae (aN hb1:Out (fun i=>i=pb) w w1);clear hb1 hcell;go_wp2_with fail;refine(lA 170 _).mono ?_;rintro e w2 ⟨rfl,rfl⟩;have fin:∀u,BytesIn w1 B u (l.drop k)→ah (w1.setCell ⟨pb,0,none⟩ u) pb 26 #[u]∧BytesIn (w1.setCell ⟨pb,0,none⟩ u) B u (l.drop k)∧Out (fun i=>i=pb) w (w1.setCell ⟨pb,0,none⟩ u):=fun u hF =>
  ⟨HB1.out.br 0 _,hF.below ((bk (F:=fun i=>i=pb) rfl).below (oT HB1.out.lt) (fun i hi e=>by omega)) hB,HO.out.trans (G:=fun i=>i=pb) (bk rfl) (fun _ _ h=>h)⟩
 have FIN:=ae fin;clear fin;by_cases hck:cap=k
 ·have hF:=Sj.out;rw[aB hck]at hF;go_wp2_with fail;go_ret
  obtain⟨f1,f2,f3⟩:=FIN.out _ hF;rw[show cap-k=0 by omega]at f1 f2 f3;exact⟨rfl,⟨_,f1,f2⟩,f3⟩
 ·have hF:=Sj.out;rw[aG hck]at hF;have FF:=ae hF;clear hF;go_wp2_with fail;go_ret
  obtain⟨f1,f2,f3⟩:=FIN.out _ FF.out;exact⟨rfl,⟨_,f1,f2⟩,f3⟩
theorem aaa (pb B:Nat) (v:Value) (l:List UInt8) (k:Nat) (hk:k≤8) (hkl:k≤l.length) (w:World) (hb:ah w pb 26 #[v]) (hv:BytesIn w B v l) (hB:B≤pb) (hg:iN (l.take k)=false) :
 Calls Tryz.prog 115 #[.pointer (some ⟨pb,0,none⟩),.int .i64 (k:Int)] w fun e w'=>e=.panicked (lg 170)∧Below w.heap.size w w':=by
 obtain⟨hl0,a,cap,rfl,hlc,hcs⟩:=hv;have hv:BytesIn w B (.slice a l.length cap) l:=⟨hl0,a,cap,rfl,hlc,hcs⟩;have hcell:=hb.ag 0 rfl;have hlt:=hb.lt;have hu:=hv.upto k hkl hlc;have HG:=ae (FL _ _ w (hu.mono (by omega)));rw[hg]at HG;have i1:(0:Int)≤(k:Int):=by omega
 have i2:(k:Int)≤(cap:Int):=by omega
 have i3:(k:Int)≤(l.length:Int):=by omega
 clear hu hg hcs hv;go_enter Tryz.func115,Tryz.ntmps115
 go_wp2_with fail;refine HG.out.mono ?_;rintro e w1 ⟨rfl,hb1⟩;have HO:=ae hb1;clear hb1 hcell;go_wp2_with fail;refine(jR 170 _).mono ?_;rintro e w2 ⟨rfl,rfl⟩;go_wp2_with fail;exact⟨rfl,rfl,HO.out⟩
def iQ:Value→Option Nat
 | .slice (some a) _ _=>some a.block
 | _=>none
theorem MZ (a:Option Addr) (i n m c d:Nat):iQ (.slice (a.map (·.add i)) n c)=iQ (.slice a m d):=by
 cases a with
 | none=>rfl
 | some a =>
  show some (a.add i).block=some a.block;unfold Addr.add;split<;>rfl
theorem BytesIn.out {F:Nat→Prop} {W W':World} {B:Nat} {v:Value} {l:List UInt8} (h:BytesIn W B v l) (ho:Out F W W') (hB:B≤W.heap.size) (hF:∀g,iQ v=some g→¬F g):BytesIn W' B v l:=by
 obtain⟨h1,a,cap,rfl,h3,h4⟩:=h;refine⟨h1,a,cap,rfl,h3,fun j c hc=>?_⟩;obtain⟨g,off,rfl,hg,hr⟩:=h4 j c hc;exact⟨g,off,rfl,hg,(lL (a:=⟨g,off+j,none⟩) (ho.block g (by omega) (hF g rfl))).trans hr⟩
theorem GV (pb B:Nat) (v:Value) (l:List UInt8) (k:Nat) (hkl:k≤l.length) (w:World) (hb:ah w pb 217 #[v]) (hv:BytesIn w B v l) (hB:B≤pb) :
 Calls Tryz.prog 123 #[ptr pb,.int .i64 (k:Int)] w fun e w'=>∃a cap,e=.returned (.slice a k cap)∧BytesIn w' B (.slice a k cap) (l.take k)∧(∃v',ah w' pb 217 #[v']∧BytesIn w' B v' (l.drop k)∧iQ v'=iQ v)∧Out (fun i=>i=pb) w w':=by
 obtain⟨hl0,a,cap,rfl,hlc,hcs⟩:=hv;have hv:BytesIn w B (.slice a l.length cap) l:=⟨hl0,a,cap,rfl,hlc,hcs⟩;have hcell:=hb.ag 0 rfl;have hfr:=hb.frozen 0;have hlt:=hb.lt;have HU:=ae (hv.upto k hkl hlc);have hf:=hv.from_ k hkl hlc;have HB:=ae hb;have i1:(0:Int)≤(k:Int):=by omega
 have i2:(k:Int)≤(cap:Int):=by omega
 have i3:(k:Int)≤(l.length:Int):=by omega
 unfold ptr;clear hcs hv;have fin:∀u,BytesIn w B u (l.drop k)→ah (w.setCell ⟨pb,0,none⟩ u) pb 217 #[u]∧BytesIn (w.setCell ⟨pb,0,none⟩ u) B u (l.drop k)∧BytesIn (w.setCell ⟨pb,0,none⟩ u) B (.slice a k cap) (l.take k)∧Out (fun i=>i=pb) w (w.setCell ⟨pb,0,none⟩ u):=fun u hF =>
  have hh:Below B w (w.setCell ⟨pb,0,none⟩ u):=(bk (F:=fun i=>i=pb) rfl).below (by omega) (fun i hi e=>by omega)
  ⟨HB.out.br 0 _,hF.below hh (ai _),HU.out.below hh (ai _),bk rfl⟩
 have FIN:=ae fin;clear fin hb;go_enter Tryz.func123,Tryz.ntmps123
 go_wp2_with fail;refine(AS _).mono ?_;rintro e w2 ⟨rfl,rfl⟩;by_cases hck:cap=k
 ·rw[aB hck]at hf;have FF:=ae hf;clear hf;go_wp2_with fail;go_ret
  obtain⟨f1,f2,f3,f4⟩:=FIN.out _ FF.out;rw[show cap-k=0 by omega]at f1 f2 f3 f4;exact⟨a,k,rfl,by rw[hck]at f3;exact f3,⟨_,f1,f2,by cases a<;>rfl⟩,f4⟩
 ·rw[aG hck]at hf;have FF:=ae hf;clear hf;go_wp2_with fail;go_ret
  obtain⟨f1,f2,f3,f4⟩:=FIN.out _ FF.out;exact⟨_,_,rfl,f3,⟨_,f1,f2,MZ _ _ _ _ _ _⟩,f4⟩
theorem lB (pb B:Nat) (v:Value) (l:List UInt8) (k:Nat) (hk:k≤8) (hkl:k≤l.length) (w:World) (hb:ah w pb 217 #[v]) (hv:BytesIn w B v l) (hB:B≤pb) :
 Calls Tryz.prog 121 #[ptr pb,.int .i64 (k:Int)] w fun e w'=>e=.returned (.int .u64 (aW (l.take k):Nat))∧(∃v',ah w' pb 217 #[v']∧BytesIn w' B v' (l.drop k)∧iQ v'=iQ v)∧Out (fun i=>i=pb) w w':=by
 have HT:=ae (GV pb B v l k hkl w hb hv hB);have hlk:(l.take k).length=k:=by rw[bD];omega
 obtain⟨bs,y7⟩:∃bs,bs=l.take k:=⟨_,rfl⟩;rw[←y7]at HT hlk ⊢;have tW:=ae hlk;have aic:bs.length≤k:=mK hlk;have hlk2:k≤bs.length:=mK hlk.symm;unfold ptr at *;clear hb hv y7 hlk;go_enter Tryz.func121,Tryz.ntmps121
 go_wp2_with fail;refine HT.out.mono ?_;rintro e w1 ⟨a,cap,rfl,hv1,hr1,ho1⟩;obtain⟨h1,a',cap',he,hcap,h2⟩:=hv1;injection he with e1 e2 e3
 subst e1 e3;clear e2;have HR:=ae (And.intro hr1 ho1);clear hr1 ho1;go_wp2_with fail;go_loopw [12,5] (fun i n wr=>∃j:Nat,j≤k∧i=.int .i64 j∧n=.int .u64 ((aW (bs.take j):Nat):Int)∧wr=w1) (fun i _ _=>k-(intOf i).toNat)
 case atStart=>exact⟨0,by omega,rfl,rfl,rfl⟩
 case round =>
  obtain⟨j,hj,rfl,rfl,rfl⟩:=hrel;by_cases hlt:j<k
  ·have hbj:bs[j]? = some (bs[j]'(by omega)):=aY (by omega);obtain⟨g,off,rfl,hg,hcx⟩:=h2 j _ hbj;have hT:=ae (CR bs j _ hbj);have hN:=iJ (bs.take j);rw[bD,oN (by omega)]at hN;generalize bs[j]'(by omega:j<bs.length)=c at *;generalize aW (bs.take j)=N at *;have hc256:=mu c;have hst:=J7 N c.toNat j (by omega) hN hc256;go_wp2_with fail;exact⟨⟨j+1,by omega,by go_num,by rw[hT.out];push_cast;rfl,trivial⟩,by simp[intOf];omega⟩
  ·obtain rfl:j=k:=by omega
   rw[dg aic];go_wp2_with fail;go_ret
   exact⟨rfl,HR.out.1,HR.out.2⟩
theorem Tf (B:Nat) (v:Value) (l:List UInt8) (w:World) (hv:BytesIn w B v l) :
 Calls Tryz.prog 125 #[v] w fun e w'=>e=.returned (.bool (l.all (· == 0)))∧w=w':=by
 obtain⟨h1,a,cap,rfl,hcap,h2⟩:=hv;unfold maxLen at h1;obtain⟨q,eq⟩:∃q,q=l.all (· == 0):=⟨_,rfl⟩;rw[←eq];have HQ:=ae eq;clear eq;go_enter Tryz.func125,Tryz.ntmps125
 go_wp2_with fail;go_loopw [8] (fun i wr=>∃j:Nat,j≤l.length∧i=.int .i64 j∧(l.take j).all (· == 0)=true∧wr=w) (fun i _=>l.length-(intOf i).toNat)
 case atStart=>exact⟨0,by omega,rfl,by simp,rfl⟩
 case round =>
  obtain⟨j,hj,rfl,hall,rfl⟩:=hrel;by_cases hlt:j<l.length
  ·have hbj:l[j]? = some (l[j]'hlt):=aY hlt;obtain⟨g,off,rfl,hg,hcx⟩:=h2 j _ hbj;by_cases hz:l[j]'hlt=0
   ·have hnext:(l.take (j+1)).all (· == 0)=true:=by
     rw[gG,hbj,zN,hall,hz];rfl
    have hz0:(((l[j]'hlt).toNat:Int) != 0)=false:=by rw[hz];rfl
    have HX:=ae (And.intro hnext hz0);clear hall hnext hbj hz;generalize l[j]'hlt=c at *;have hz0:=HX.out.2;go_wp2_with fail;exact⟨⟨j+1,by omega,by go_num,HX.out.1,trivial⟩,by simp[intOf];omega⟩
   ·have hz0:(((l[j]'hlt).toNat:Int) != 0)=true:=by
     rw[JL];intro e;exact hz (zK.1 (by simpa using e))
    have hq:q=false:=by
     rw[HQ.out,wL];exact⟨_,IJ hlt,by simpa using hz⟩
    clear hbj hz hall;generalize l[j]'hlt=c at *;subst hq;go_wp2_with fail;go_ret
    exact⟨rfl,rfl⟩
  ·obtain rfl:j=l.length:=by omega
   rw[iG]at hall;have hq:q=true:=by rw[HQ.out,hall]
   subst hq;go_wp2_with fail;go_ret
   exact⟨rfl,rfl⟩
end Go.Proofs.YtdpniceapmikpaaGreat
