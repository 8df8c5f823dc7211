import Derived.KernelRfl
import Derived.Test.YthjhpjjgcfedbaaGreatPuX1
namespace Go.Pu
open Go.Dn
set_option linter.unusedSimpArgs false
set_option linter.unusedVariables false
noncomputable section
/- Vectors: the program's and the reference's results are one. -/
structure xp (k:Nat) (a b:Host):Prop where
 mem:b.1.length=a.1.length
 maps:b.2.1=a.2.1
 tx:b.2.2.1=a.2.2.1
 rx:b.2.2.2.1.length=a.2.2.2.1.length
 rxs:∀j,k≤j→b.2.2.2.1[j]?=a.2.2.2.1[j]?
 pl:b.2.2.2.2.1.length=a.2.2.2.2.1.length
 vec:b.2.2.2.2.2.1.length=a.2.2.2.2.2.1.length
 vecs:∀j,k≤j→b.2.2.2.2.2.1[j]?=a.2.2.2.2.2.1[j]?
 pol:b.2.2.2.2.2.2.1.length=a.2.2.2.2.2.2.1.length
 flt:b.2.2.2.2.2.2.2.1=a.2.2.2.2.2.2.2.1
 ste:b.2.2.2.2.2.2.2.2.1=a.2.2.2.2.2.2.2.2.1
theorem xp.trans {k:Nat}{a b c:Host}(h:xp k a b)(g:xp k b c):xp k a c:=⟨g.mem.trans h.mem,g.maps.trans h.maps,g.tx.trans h.tx,g.rx.trans h.rx,λj hj=>(g.rxs j hj).trans (h.rxs j hj),g.pl.trans h.pl,g.vec.trans h.vec,λj hj=>(g.vecs j hj).trans (h.vecs j hj),g.pol.trans h.pol,g.flt.trans h.flt,g.ste.trans h.ste⟩
theorem xp.up {k m:Nat}{a b:Host}(h:xp k a b)(hk:k≤m):xp m a b:=⟨h.mem,h.maps,h.tx,h.rx,λj hj=>h.rxs j (by omega),h.pl,h.vec,λj hj=>h.vecs j (by omega),h.pol,h.flt,h.ste⟩
structure Mw (n:Nat) (h:Host):Prop where
 z:jA n rY h
 t:h.2.2.1.2.1.2.2.2.length+(ew h.2.2.1.2.2.1).length≤n
theorem Mw.mono {n m:Nat}{h:Host}(k:Mw n h)(hn:n≤m):Mw m h:=⟨k.z.mono hn,bO k.t hn⟩
theorem Mw.sz {n:Nat}{h:Host}(k:Mw n h)(hn:n≤1000000000):Fo h:=by have z:jA 1000000000 rY h:=k.z.mono hn;exact⟨z.1.1,z.2.1.1,z.2.2.1.2.2.1.1,bO k.t hn,z.2.2.2.2.2.2.2.1.2.2.1,z.2.2.2.2.2.2.2.2.1.1.1,z.2.2.2.2.2.2.2.2.1.2.1.1,z.2.2.2.2.2.2.2.2.1.2.2.2.1,λp hp=>(z.2.2.2.2.1.2 p hp).2.2.2.1⟩
theorem Mw.of {h:Host}(k:Fm rY h≤1048576):Mw 1048576 h:=by
 refine⟨xl k,?_⟩;have hb:=Hp h.2.2.1.2.2.1;have h1:Fm qA h.2.2.1≤Fm rY h:=by simp only[Fm];omega
 have hp:h.2.2.1.2.1.2.2.2.length+Fm (.sl mH) h.2.2.1.2.2.1≤Fm qA h.2.2.1:=by simp only[Fm];omega
 omega
def wu (p:dk):List rT→dk
 |[]=>p
 |x::l=>wu (IC p x.2.2).1 l
def G5 (g:Nat→Host→Host):Nat→Host→Host
 |0,h=>h
 |k+1,h=>g k (G5 g k h)
structure Hh (a b:Host):Prop where
 maps:b.2.1=a.2.1
 tx:b.2.2.1=a.2.2.1
 rx:b.2.2.2.1.length=a.2.2.2.1.length
 pl:b.2.2.2.2.1.length=a.2.2.2.2.1.length
 vec:b.2.2.2.2.2.1=a.2.2.2.2.2.1
 pol:b.2.2.2.2.2.2.1=a.2.2.2.2.2.2.1
 ret:b.2.2.2.2.2.2.2.2.2.2.2.2.2.1=a.2.2.2.2.2.2.2.2.2.2.2.2.2.1
theorem Hh.trans {a b c:Host}(h:Hh a b)(k:Hh b c):Hh a c:=⟨k.1.trans h.1,k.2.trans h.2,k.3.trans h.3,k.4.trans h.4,k.5.trans h.5,k.6.trans h.6,k.7.trans h.7⟩
def Ns (h:Host)(k:Nat):Host:=G5 (λi s=>(QX s i 1000).2) k h
def UW (h:Host)(l:List Int):Host:=(h.1,h.2.1,h.2.2.1,h.2.2.2.1,h.2.2.2.2.1,h.2.2.2.2.2.1,h.2.2.2.2.2.2.1,h.2.2.2.2.2.2.2.1,h.2.2.2.2.2.2.2.2.1,h.2.2.2.2.2.2.2.2.2.1,h.2.2.2.2.2.2.2.2.2.2.1,h.2.2.2.2.2.2.2.2.2.2.2.1,h.2.2.2.2.2.2.2.2.2.2.2.2.1,h.2.2.2.2.2.2.2.2.2.2.2.2.2.1++l,h.2.2.2.2.2.2.2.2.2.2.2.2.2.2)
theorem Jl (l:List aV)(m:List Bytes)(i:Nat):(qN l m i).1.length=m.length:=by unfold qN;rw[MT,yQ]
def Yt (W:List rT)(i:Nat)(s:Host):Host:=match W[i]? with|some x=>UW s [x.1]|none=>s
def polled (h:Host):Host:=Ns h h.2.2.2.1.length
def returned (h:Host)(k:Nat):Host:=G5 (Yt h.2.2.1.2.2.1) k (polled h)
theorem EO {r:dw}(h:pD r=true):0≤r.2.2.2.2.2.2.2.2:=by
 by_cases h0:0≤r.2.2.2.2.2.2.2.2;exact h0;exfalso;have e:∀b:Int,cQ r.2.2.2.2.2.2.2.2 0 b=false:=λb=>by rw[Bool.eq_false_iff];intro hc;have:=br.1 hc;omega
 have e1:(r.2.2.2.2.2.2.2.2==0)=false:=by rw[dj];omega
 revert h;unfold pD;have z:∀c:Bool,(bif c then false else false)=false:=by intro c;cases c<;>rfl
 simp only[fw,cu,ae,bm,e,e1,cZ,z,ai];intro h;cases h
theorem JU {s:bL}{q:Int}{p:aG}:qu s q p= -1∨∃n:Nat,qu s q p=(n:Int)∧(n:Int)<q:=by
 unfold qu;cases hb: !dh s q|| !dD p with|true=>exact .inl rfl|false=>?_
 simp only[Bool.or_eq_false_iff,Bool.not_eq_false']at hb;have hs:=hb.1;simp only[dh,ab]at hs;simp only[ai];cases hd:decide (qD s.1 p≥0)with
 |true=>obtain⟨n,hn,hl⟩:=xX s.1 p (aL hd);simp only[ah,hn,aI,cd hl];cases s.1[n].2.2.2.2.2.2.2.1==1 with|true=>exact .inl rfl|false=>have h1:=az.1 hs.1.2 _ (bP hl);have h2:=hs.1.1.1.1;simp only[mM,ab]at h2;have h3:=EO (az.1 h2.1 _ (bP hl));simp only[aA,cp]at h1;exact .inr ⟨s.1[n].2.2.2.2.2.2.2.2.toNat,by simp only[ai];omega,by omega⟩
 |false=>
  simp only[ai];cases hd2:decide (findF s.2.1 (fL p)≥0)with
  |true=>obtain⟨n,hn,hl⟩:=xW s.2.1 (fL p) (aL hd2);simp only[ah,hn,aI,cd hl];have h1:=az.1 hs.2 _ (bP hl);have h2:=hs.1.1.1.2;simp only[gv,ab,aQ]at h2;have h3:=az.1 h2.2 n (bI.2 (by omega));unfold gR AW at h3;rw[mO hl]at h3;simp only[ab,br]at h3;simp only[aA,cp]at h1;exact .inr ⟨s.2.1[n].2.2.toNat,by omega,by omega⟩
  |false=>
   simp only[ai];unfold ti;cases hc: !jh s.2.2 q||decide (n4 s.2.2 (fL p)<0)with|true=>exact .inl rfl|false=>?_
   simp only[Bool.or_eq_false_iff,Bool.not_eq_false',cp]at hc;obtain⟨n,hn,hl⟩:=vw s.2.2 (fL p) hc.2;have h1:=hc.1;simp only[jh,ab]at h1;have h2:=br.1 (az.1 h1.2 _ (bP hl));simp only[ai,hn,aI,cd hl];exact .inr ⟨s.2.2.2[n].toNat,by omega,by omega⟩
def txt (_:Int):Bytes:=[]
def J4:(t:CT)→t.D→Nat
 | .int _,_=>1
 | .bool,_=>1
 | .str,_=>1
 | .sl e,xs=>(xs.map (J4 e)).sum
 | .pair a b,x=>J4 a x.1+J4 b x.2
def ZH {α:Type}(f:α→Int→α)(c:α→Nat):List α→Int→List α
 |[],_=>[]
 |x::xs,k=>f x k::ZH f c xs (k+c x)
def mk:(t:CT)→t.D→Int→t.D
 | .int _,_,k=>k
 | .bool,_,k=>Int.tmod k 3==0
 | .str,_,k=>txt k
 | .sl e,xs,k=>ZH (mk e) (J4 e) xs k
 | .pair a b,x,k=>(mk a x.1 k,mk b x.2 (k+J4 a x.1))
theorem Mw.tx {n:Nat}{h:Host}(k:Mw n h)(hn:n≤1000000000):Vd h.2.2.1:=
 have z:jA 1000000000 rY h:=k.z.mono hn
 ⟨z.2.2.1.2.1.2.2.2.1,z.2.2.1.2.2.1.1,λx hx=>(z.2.2.1.2.2.1.2 x hx).2.2.1⟩
def pn (f:dQ):List Stream→Int→Int
 |[],_=> -1
 |s::r,i=>if s.1=f then i else pn f r (i+1)
theorem Gf {T:(Int→Option Int)→Int→Option Int}(a:List Stream)(f:dQ)(h:a.length≤1073741824)(hs:∀i (hi:i<a.length) nx,T nx (i:Int)=cond (decide (a[i].1=f)) (some (i:Int)) (nx ((i+1:Nat):Int)))(hf:∀nx,T nx (a.length:Int)=some (-1)): aZ T fuel 0=some (pn f a 0):=by
 have hfu:=dY;have key:∀n i,i≤a.length→a.length-i<n→aZ T n (i:Int)=some (pn f (a.drop i) i):=by
  intro n;induction n with
  |zero=>intro i _ h;omega
  |succ n ih=>
   intro i hi hn;rw[aZ];rcases bd i a.length with hlt|hge;rw[hs i hlt,a6 hlt,pn];by_cases hq:a[i].1=f;simp[hq];simp only[hq,decide_false,ai,bf];exact ih (i+1) (by omega) (by omega);have:i=a.length:=by omega
   subst this;rw[hf,dC];rfl
 exact key fuel 0 (by omega) (by omega)
theorem Av (a:List Stream)(f:dQ)(h:a.length≤1073741824):dT a f=some (pn f a 0):=by unfold dT;refine Gf a f h (λi hi nx=>?_) (λnx=>?_);simp only[ei];rw[ak (by omega),bD hi,wrap64 (by omega) (by omega)];simp only[ah,ae,s6];rfl;simp only[ei];rw[af (by omega)];rfl
theorem xY (f:dQ):∀(a:List Stream)(i:Int),(pn f a i= -1∧∀s∈a,s.1≠f)∨∃n:Nat,n<a.length∧pn f a i=i+n∧∃s∈a,s.1=f
 |[],_=> .inl ⟨rfl,by simp⟩
 |s::r,i=>by unfold pn;by_cases h:s.1=f;rw[au h];exact .inr ⟨0,by simp,by simp,s,by simp,h⟩;rw[aq h];rcases xY f r (i+1)with⟨h1,h2⟩|⟨n,h1,h2,s',h3,h4⟩;exact .inl ⟨h1,by intro t ht;rcases bl.1 ht with rfl|ht;exact h;exact h2 t ht⟩;exact .inr ⟨n+1,by simp;omega,by rw[h2];push_cast;omega,s',by simp[h3],h4⟩
theorem vy (f:dQ)(a:List Stream):(pn f a 0= -1∧∀s∈a,s.1≠f)∨∃x,0≤pn f a 0∧idx a (pn f a 0)=some x:=by rcases xY f a 0 with h|⟨n,h1,h2,_⟩;exact .inl h;refine .inr ⟨a[n],by rw[h2];omega,?_⟩;rw[h2,Int.zero_add];exact bD h1
theorem JW (p q:Stream):((p.1.1==q.1.1)&&((p.1.2.1==q.1.2.1)&&((p.1.2.2.1==q.1.2.2.1)&&((p.1.2.2.2.1==q.1.2.2.2.1)&&((p.1.2.2.2.2==q.1.2.2.2.2)&&((p.2.1==q.2.1)&&((p.2.2.1==q.2.2.1)&&((p.2.2.2==q.2.2.2)&&true))))))))=decide (p=q):=by obtain⟨⟨a,b,c,d,e⟩,x,y,z⟩:=p;obtain⟨⟨a',b',c',d',e'⟩,x',y',z'⟩:=q;rw[bT];simp[and_assoc]
def pJ (a b:List Stream)(f:dQ):Bool:=
 match idx a (pn f a 0),idx b (pn f b 0)with
 |some x,some y=>decide (x=y)
 |_,_=>false
theorem uY (a b:List Stream)(f:dQ)(ha:a.length≤1073741824)(hb:b.length≤1073741824):js a b f=some (pJ a b f):=by unfold js pJ;rw[Av a f ha,Av b f hb];simp only[ae,JW];rcases vy f a with⟨h1,_⟩|⟨x,h1,h2⟩;rw[h1];rfl;rw[ak (show pn f a 0≥0 from h1),h2];rcases vy f b with⟨k1,_⟩|⟨y,k1,k2⟩;rw[k1];rfl;rw[ak (show pn f b 0≥0 from k1),k2];simp
theorem CL {T:(Int→Option Bool)→Int→Option Bool}{fin:Option Bool}(p:Stream→Bool)(a:List Stream)(h:a.length≤1073741824)(hs:∀i (hi:i<a.length) nx,T nx (i:Int)=cond (!(p a[i])) (some false) (nx ((i+1:Nat):Int)))(hf:∀nx,T nx (a.length:Int)=fin): aZ T fuel 0=cond (a.all p) fin (some false):=by
 have hfu:=dY;have key:∀n i,i≤a.length→a.length-i<n→aZ T n (i:Int)=cond ((a.drop i).all p) fin (some false):=by
  intro n;induction n with
  |zero=>intro i _ h;omega
  |succ n ih=>
   intro i hi hn;rw[aZ];rcases bd i a.length with hlt|hge;rw[hs i hlt,a6 hlt,ba];cases hq:p a[i]with|false=>rfl|true=>exact ih (i+1) (by omega) (by omega)
   have:i=a.length:=by omega
   subst this;rw[hf,dC];rfl
 exact key fuel 0 (by omega) (by omega)
theorem KN (a b:List Stream)(ha:a.length≤1073741824)(hb:b.length≤1073741824):kz a b=some (a.all (λs=>pJ a b s.1)&&b.all (λs=>pJ a b s.1)):=by
 unfold kz;rw[CL (λs=>pJ a b s.1) a ha (λi hi nx=>?hs) (λnx=>?hf)]
 case hs=>
  simp only[jH]
  rw[ak (by omega),bD hi,wrap64 (by omega) (by omega)]
  simp only[ah,ae,uY _ _ _ ha hb]
  rfl
 case hf=>
  simp only[jH]
  rw[af (by omega)]
  simp only[ai]
  rfl
 rw[CL (λs=>pJ a b s.1) b hb (λi hi nx=>?hs) (λnx=>?hf)]
 case hs=>
  simp only[jI]
  rw[ak (by omega),bD hi,wrap64 (by omega) (by omega)]
  simp only[ah,ae,uY _ _ _ ha hb]
  rfl
 case hf=>
  simp only[jI]
  rw[af (by omega)]
  simp only[ai]
  rfl
 cases a.all (λs=>pJ a b s.1)<;>cases b.all (λs=>pJ a b s.1)<;>rfl
theorem GB {m:List Bytes}(h:df m=true)(a:Int)(s:Bytes):df (qk m a s).1=true:=by
 unfold qk;cases hw:lf m a (s.length:Int)with|false=>exact h|true=>?_
 simp only[lf,ab,aF]at hw;exact pa.2 (rC s.length (pa.1 hw.1) (by omega)).1
theorem Eo:∀(q:List (Int×Int)){m:List Bytes}(s:Bytes),df m=true→df (EJ q m s)=true
 |[],_,_,h=>h
 |p::q,m,s,h=>by rw[EJ];exact Eo q _ (GB h _ _)
theorem Ep {m:List Bytes}(h:df m=true)(l:List aV)(d a:Int)(s:Bytes)(w:Bool):df (qt l m d a s w).1=true:=by unfold qt;cases (ly l m d a (s.length:Int) w).2 with|false=>exact h|true=>exact Eo _ _ h
theorem Er {m:List Bytes}(h:df m=true)(l:List aV)(d:Int)(r:Int×Int×Int×Int)(s:Bytes):df (dc l m d r s).1=true:=by
 unfold dc;cases (mI r==0)||((s.length:Int) !=16)with|true=>exact h|false=>?_
 cases (qt l m d (rQ r r.2.2.2) s true).2 with|false=>exact h|true=>exact Ep h ..
theorem yT {b n x y:Int}(hb:0≤b∧b≤130944)(hn:n=2∨n=4∨n=8∨n=16)(hx:0≤x∧x≤2*n-1)(hy:0≤y∧y≤2*n-1)(hu:(y-x)%(2*n)≤n):dZ (b,n,x,y)=true:=by have hs:eA n=true:=eG.2 hn;simp only[dZ,dV,hs,br.2 hb,br.2 hx,br.2 hy,aY,bR,aF];exact hu
theorem vT {r:Int×Int×Int×Int}(h:dZ r=true):dV r=(r.2.2.2-r.2.2.1)%(2*r.2.1)∧0≤dV r∧dV r≤r.2.1:=by
 have k:=rn h;have e:dV r=(r.2.2.2-r.2.2.1)%(2*r.2.1):=by unfold dV;rw[au (eG.2 k.2.2.1)]
 simp only[dZ,ab,aF]at h;exact⟨e,by rw[e];exact dN _ (by omega),h.2.2.2.2⟩
theorem JZ {x n:Int}(hn:0<n)(hx:0≤x∧x≤n-1):Int.tmod (x+1) n=if x+1=n then 0 else x+1:=by rw[cL (by omega)];split;rename_i h;rw[h];exact Int.emod_self;exact Int.emod_eq_of_lt (by omega) (by omega)
theorem JA {r:Int×Int×Int×Int}(h:dZ r=true)(hf:dV r<r.2.1):dZ (r.1,r.2.1,r.2.2.1,Int.tmod (r.2.2.2+1) (2*r.2.1))=true∧dV (r.1,r.2.1,r.2.2.1,Int.tmod (r.2.2.2+1) (2*r.2.1))=dV r+1:=by
 have k:=rn h;have u:=vT h;have e:=JZ (x:=r.2.2.2) (n:=2*r.2.1) (by omega) (by omega);have u2:(Int.tmod (r.2.2.2+1) (2*r.2.1)-r.2.2.1)%(2*r.2.1)=dV r+1:=by
  have h1:(Int.tmod (r.2.2.2+1) (2*r.2.1)-r.2.2.1)%(2*r.2.1)=(r.2.2.2+1-r.2.2.1)%(2*r.2.1):=by rw[e];split;rename_i hh;rw[←hh,show(r.2.2.2+1-r.2.2.1)=(0-r.2.2.1)+(r.2.2.2+1) by omega,Int.add_emod_right];rfl
  rw[h1,show r.2.2.2+1-r.2.2.1=(r.2.2.2-r.2.2.1)+1 by omega];have h0:=u.1;generalize r.2.2.2-r.2.2.1=d at h0⊢;rw[Int.add_emod,←h0,Int.emod_eq_of_lt (a:=1) (by omega) (by omega),Int.emod_eq_of_lt (by omega) (by omega)]
 refine⟨yT ⟨k.1,k.2.1⟩ k.2.2.1 ⟨k.2.2.2.1,k.2.2.2.2.1⟩ (by rw[e];split<;>omega) (by rw[u2];omega),?_⟩;unfold dV;rw[au (eG.2 k.2.2.1)];exact u2
theorem IB {r:Int×Int×Int×Int}(h:dZ r=true):mI r=r.2.1-dV r:=by have k:=rn h;have u:=vT h;unfold mI;rw[h,ah,wrap64 (by omega) (by omega)]
theorem Lp {r:Int×Int×Int×Int}(h:dZ r=true)(l:List aV)(m:List Bytes)(d:Int)(s:Bytes):dZ (dc l m d r s).2.1=true∧(dc l m d r s).2.1.2.1=r.2.1:=by
 unfold dc;cases hc:(mI r==0)||((s.length:Int) !=16)with|true=>exact⟨h,rfl⟩|false=>?_
 cases (qt l m d (rQ r r.2.2.2) s true).2 with
 |false=>exact⟨h,rfl⟩
 |true=>
  simp only[Bool.or_eq_false_iff]at hc;have h1:mI r≠0:=by simpa using hc.1
  rw[IB h]at h1;have u:=vT h;exact⟨(JA h (by omega)).1,rfl⟩
theorem Kz {n:Int}{l:List Int}:(List.range l.length).all (tz n l)=true↔(∀x∈l,0≤x∧x≤n-1)∧l.Nodup:=by
 rw[az];constructor;intro h;have k:∀i (hi:i<l.length),(0≤l[i]∧l[i]≤n-1)∧l[i]∉l.take i:=by intro i hi;have:=h i (bI.2 hi);unfold tz at this;rw[cd hi,ab,br]at this;exact⟨this.1,by simpa using this.2⟩
 refine⟨λx hx=>?_,?_⟩;obtain⟨i,hi,rfl⟩:=List.getElem_of_mem hx;exact(k i hi).1;rw[List.Nodup,List.pairwise_iff_getElem];intro i j hi hj hij he;refine(k j hj).2 ?_;rw[←he];exact List.mem_take_iff_getElem.2 ⟨i,by omega,rfl⟩;rintro⟨h1,h2⟩ i hi;have hi:=bI.1 hi;unfold tz;rw[cd hi,ab,br];refine⟨h1 _ (bP hi),?_⟩;have:l[i]∉l.take i:=by intro hm;obtain⟨j,hj,he⟩:=List.mem_take_iff_getElem.1 hm;rw[List.Nodup,List.pairwise_iff_getElem]at h2;exact h2 j i (by omega) hi (by omega) he
 simpa using this
theorem uT {p:dk}:dn p=true↔(0≤p.1∧p.1≤130944)∧(1≤p.2.1∧p.2.1≤512)∧(0≤p.2.2.1∧p.2.2.1≤16)∧(∀x∈p.2.2.2,0≤x∧x≤p.2.2.1-1)∧p.2.2.2.Nodup:=by unfold dn;simp only[ab,br,Kz]
theorem EH {p:dk}(h:dn p=true){l:List Int}(hl:l.Sublist p.2.2.2):dn (p.1,p.2.1,p.2.2.1,l)=true:=by have k:=uT.1 h;exact uT.2 ⟨k.1,k.2.1,k.2.2.1,λx hx=>k.2.2.2.1 x (hl.subset hx),k.2.2.2.2.sublist hl⟩
theorem EW {n:Int}{s:rT}:md n s=true↔(1≤s.2.1∧s.2.1≤n)∧0≤s.1∧s.1≤65535:=by unfold md;simp only[ab,br]
structure Kd (t:lG):Prop where
 ring:dZ t.1=true
 next:0≤t.2.2.2∧t.2.2.2≤65535
 sent:∀x∈t.2.2.1,(1≤x.2.1∧x.2.1≤t.1.2.1)∧0≤x.1∧x.1≤65535
 pool:dn (ri t.2.1 (ew t.2.2.1))=true
 J4:jC t.2.2.1≤t.1.2.1
theorem Kd.free {t:lG}(h:Kd t):dn t.2.1=true:=EH h.pool (List.sublist_append_left _ _)
theorem Q7 {t:lG}:Q6 t=true↔Kd t:=by constructor;intro h;unfold Q6 at h;simp only[ab,br,az,EW,aF]at h;obtain⟨h1,h2,h3,h4,h5,h6⟩:=h;unfold uA at h5;simp only[ab]at h5;exact⟨h1,h3,h4,h5.2,h6⟩;·intro h;unfold Q6 uA;simp only[ab,br,az,EW,aF];exact⟨h.ring,h.free,h.next,h.sent,⟨h.free,h.pool⟩,h.J4⟩
theorem EU {a b s k f w:Int}{x:Bytes}(h1:0≤a∧a≤65535)(h2:0≤b∧b≤65535)(h3:0≤s∧s≤4294967295)(h4:0≤k∧k≤4294967295)(h5:0≤f∧f≤31)(h6:0≤w∧w≤65535)(hx:x.length≤320):kI (6,a,b,s,k,f,w,x)=true:=by have hx':decide ((x.length:Int)>320)=false:=af (by omega);simp only[kI,br.2 h1,br.2 h2,br.2 h3,br.2 h4,br.2 h5,br.2 h6,hx'];rfl
theorem Lw {a b:Int}{x:Bytes}(h1:0≤a∧a≤65535)(h2:0≤b∧b≤65535)(hx:x.length≤320):kI (17,a,b,0,0,0,0,x)=true:=by have hx':decide ((x.length:Int)>320)=false:=af (by omega);simp only[kI,br.2 h1,br.2 h2,hx'];rfl
theorem JG {g:cj}{x:Bytes}(h:kI g=true)(hx:x.length≤320):kI (g.1,g.2.1,g.2.2.1,g.2.2.2.1,g.2.2.2.2.1,g.2.2.2.2.2.1,g.2.2.2.2.2.2.1,x)=true:=by have e:decide ((x.length:Int)>320)=false:=af (by omega);unfold kI at h⊢;simp only[ab]at h⊢;exact⟨h.1,h.2.1,by rw[e];rfl,h.2.2.2⟩
theorem KB {a b v t i l s d:Int}{g:cj}(h1:0≤a∧a≤281474976710655)(h2:0≤b∧b≤281474976710655)(h3: -1≤v∧v≤4095)(h4:0≤t∧t≤255)(h5:0≤i∧i≤65535)(h6:0≤l∧l≤255)(h7:0≤s∧s≤4294967295)(h8:0≤d∧d≤4294967295)(hg:kI g=true):lN (a,b,v,t,i,l,s,d,g)=true:=by simp only[lN,br.2 h1,br.2 h2,br.2 h3,br.2 h4,br.2 h5,br.2 h6,br.2 h7,br.2 h8,hg];rfl
theorem EC (p:aG):jT p=true↔lN p=true∧p.2.2.2.2.2.2.2.2.2.2.2.2.2.2.2.length≤128:=by unfold jT dD;rw[ab,ab,bH,aF];constructor;rintro⟨⟨h1,_⟩,h2⟩;exact⟨h1,by omega⟩;rintro⟨h1,h2⟩;exact⟨⟨h1,Or.inl (by omega)⟩,by omega⟩
theorem Lv {g:cj}(h:kI g=true)(h6:g.1=6):(0≤g.2.1∧g.2.1≤65535)∧(0≤g.2.2.1∧g.2.2.1≤65535)∧(0≤g.2.2.2.1∧g.2.2.2.1≤4294967295)∧(0≤g.2.2.2.2.1∧g.2.2.2.2.1≤4294967295)∧(0≤g.2.2.2.2.2.1∧g.2.2.2.2.2.1≤31)∧(0≤g.2.2.2.2.2.2.1∧g.2.2.2.2.2.2.1≤65535)∧g.2.2.2.2.2.2.2.length≤320:=by have hl:=sI h;unfold kI at h;rw[h6]at h;simp only[ab,br,show((6:Int)==17)=false from rfl,ai]at h;exact⟨h.1,h.2.1,h.2.2.2.2.1,h.2.2.2.2.2.1,h.2.2.2.2.2.2.1,h.2.2.2.2.2.2.2,hl⟩
theorem ET {g:cj}(h:kI g=true)(h6:g.1=6){s f:Int}{x:Bytes}(hs:0≤s∧s≤4294967295)(hf:0≤f∧f≤31)(hx:x.length≤320):kI (g.1,g.2.1,g.2.2.1,s,g.2.2.2.2.1,f,g.2.2.2.2.2.2.1,x)=true:=by have k:=Lv h h6;rw[h6];exact EU k.1 k.2.1 hs k.2.2.2.1 hf k.2.2.2.2.2.1 hx
theorem s7 {p:aG}(h:lN p=true){i:Int}{g:cj}(hi:0≤i∧i≤65535)(hg:kI g=true):lN (p.1,p.2.1,p.2.2.1,p.2.2.2.1,i,p.2.2.2.2.2.1,p.2.2.2.2.2.2.1,p.2.2.2.2.2.2.2.1,g)=true:=by unfold lN at h⊢;simp only[ab]at h⊢;exact⟨h.1,h.2.1,h.2.2.1,h.2.2.2.1,h.2.2.2.2.1,br.2 hi,h.2.2.2.2.2.2.1,h.2.2.2.2.2.2.2.1,hg⟩
theorem DF {p:aG}(h:lN p=true):0≤p.2.2.2.2.1∧p.2.2.2.2.1≤65535:=by unfold lN at h;simp only[ab]at h;exact br.1 h.2.2.2.2.2.1
theorem Nj {i:Int}(h:0≤i∧i≤65535):0≤Int.tmod (ar (i+1)) 65536∧Int.tmod (ar (i+1)) 65536≤65535:=by rw[wrap64 (by omega) (by omega)];have h1:=Int.tmod_nonneg 65536 (a:=i+1) (by omega);have h2:=Int.tmod_lt_of_pos (i+1) (b:=65536) (by omega);omega
theorem K7 {s:Int}{n:Nat}(h:0≤s∧s≤4294967295)(hn:n≤320):0≤Int.tmod (ar (s+(n:Int))) 4294967296∧Int.tmod (ar (s+(n:Int))) 4294967296≤4294967295:=by rw[wrap64 (by omega) (by omega)];have h1:=Int.tmod_nonneg 4294967296 (a:=s+(n:Int)) (by omega);have h2:=Int.tmod_lt_of_pos (s+(n:Int)) (b:=4294967296) (by omega);omega
structure Bg (n:Int) (r:dX):Prop where
 ring:dZ r.1=true
 dev:rl r.2.1=true
 drv:rl r.2.2.1=true
 base:r.2.1.1=r.2.2.1.1
 size:r.2.1.2.1=r.2.2.1.2.1
 drop:0≤r.2.2.2.2.2∧r.2.2.2.2.2≤n
 held:r.2.2.2.2.1=true→dD r.2.2.2.1.1=true∧(0≤r.2.2.2.1.2.1∧r.2.2.2.1.2.1≤320)∧1≤r.2.2.2.1.2.2∧r.2.2.2.1.2.2≤320
 free:r.2.2.2.2.1=false→r.2.2.2.1=Q4
theorem Lu (r:dX):Mz r=true↔Bg 1000000000000 r:=by constructor;intro h;unfold Mz at h;rw[ab]at h;simp only[ab,aQ,br]at h;obtain⟨⟨h1,h2,h3,h4,h5,h6⟩,h7⟩:=h;refine⟨h1,h2,h3,h4,h5,h6,λhh=>?_,λhh=>?_⟩;rw[hh,ah]at h7;simp only[ab,br]at h7;exact⟨h7.1,h7.2.1,h7.2.2⟩;rw[hh,ai]at h7;exact(LJ _).1 h7;intro h;unfold Mz;rw[ab];simp only[ab,aQ,br];refine⟨⟨h.ring,h.dev,h.drv,h.base,h.size,h.drop⟩,?_⟩;cases hh:r.2.2.2.2.1 with|true=>have:=h.held hh;simp only[ah,ab,br];exact⟨this.1,this.2.1,this.2.2⟩|false=>rw[ai];exact(LJ _).2 (h.free hh)
theorem Bg.mono {n m:Int}{r:dX}(h:Bg n r)(hn:n≤m):Bg m r:=⟨h.ring,h.dev,h.drv,h.base,h.size,⟨h.drop.1,by have:=h.drop.2;omega⟩,h.held,h.free⟩
theorem Bg.rx {n:Int}{r:dX}(h:Bg n r)(hn:n≤1000000000000):Mz r=true:=(Lu r).2 (h.mono hn)
theorem xV (l:List aV)(d:Int)(p:dk):∀(q:List Int)(m:List Bytes)(r:Int×Int×Int×Int),df m=true→dZ r=true→df (lu l d p q m r).2.1=true∧dZ (lu l d p q m r).2.2=true
 |[],m,r,hm,hr=>⟨hm,hr⟩
 |b::q,m,r,hm,hr=>by rw[lu];cases (dc l m d r (descOf p b)).2.2 with|false=>exact⟨hm,hr⟩|true=>exact xV l d p q _ _ (Er hm ..) (Lp hr ..).1
theorem Iw {m:List Bytes}(hm:df m=true){r:Int×Int×Int×Int}(hr:dZ r=true){p:dk}(hp:dn p=true)(l:List aV)(d:Int):df (pU l m d r p).1=true∧dZ (pU l m d r p).2.1=true∧dn (pU l m d r p).2.2.1=true:=by unfold pU;rw[hr,hp];have k:=xV l d p p.2.2.2 m r hm hr;exact⟨k.1,k.2,EH hp (List.drop_sublist _ _)⟩
structure Good (n:Int) (h:Host):Prop where
 mem:df h.1=true
 maps:dH h.2.1=true
 tx:Kd h.2.2.1
 flt:gA h.2.2.2.2.2.2.2.1=true
 lens:uL h=true
 ste:dh h.2.2.2.2.2.2.2.2.1 (h.2.2.2.1.length:Int)=true
 rx:∀r∈h.2.2.2.1,Bg n r
 pool:∀p∈h.2.2.2.2.1,dn p=true
 vec:∀v∈h.2.2.2.2.2.1,ji v=true
 J4:∀x∈fW h,0≤x∧x≤n
theorem Good.mono {n m:Int}{h:Host}(g:Good n h)(hn:n≤m):Good m h:=⟨g.mem,g.maps,g.tx,g.flt,g.lens,g.ste,λr hr=>(g.rx r hr).mono hn,g.pool,g.vec,λx hx=>⟨(g.J4 x hx).1,by have:=(g.J4 x hx).2;omega⟩⟩
theorem KD (h:Host):wv h=true↔Good 1000000000000 h:=by unfold wv HV;simp only[ab,az,br,Q7,Lu];constructor;rintro⟨h1,h2,h3,h4,h5,h6,⟨h7,h8,h9⟩,h10⟩;exact⟨h1,h2,h3,h4,h5,h6,h7,h8,h9,h10⟩;intro g;exact⟨g.mem,g.maps,g.tx,g.flt,g.lens,g.ste,⟨g.rx,g.pool,g.vec⟩,g.J4⟩
theorem Good.ok {n:Int}{h:Host}(g:Good n h)(hn:n≤1000000000000):wv h=true:=(KD h).2 (g.mono hn)
theorem EG {a b n:Int}(ha:0≤a∧a≤130944)(hb:1≤b∧b≤512)(hn:0≤n∧n≤16):iq a b n=((a,b,n,upto n.toNat),true)∧dn (a,b,n,upto n.toNat)=true:=by have h1:dn (a,b,n,[])=true:=uT.2 ⟨ha,hb,hn,by simp,List.nodup_nil⟩;refine⟨by unfold iq;rw[h1];rfl,uT.2 ⟨ha,hb,hn,?_,?_⟩⟩;intro x hx;simp only[upto,List.mem_map,bI]at hx;obtain⟨i,hi,rfl⟩:=hx;show 0≤Int.ofNat i∧Int.ofNat i≤n-1;simp only[Int.ofNat_eq_natCast];omega;show(upto n.toNat).Nodup;unfold upto;rw[List.Nodup,List.pairwise_map];exact List.nodup_range.imp λh he=>h (Int.ofNat.inj he)
theorem Q8 (c:Int)(hc:0≤c∧c≤65535):Kd (Ba.1,Ba.2.1,Ba.2.2.1,c):=by
 have p:=EG (a:=256) (b:=128) (n:=8) (by omega) (by omega) (by omega);refine⟨yT (by omega) (by omega) (by omega) (by omega) (by omega),hc,λx hx=>(by cases hx),?_,by show(0:Int)≤16;omega⟩;show dn (ri (iq 256 128 8).1 [])=true;rw[p.1];have e:ri (256,128,8,upto (8:Int).toNat) []=(256,128,8,upto (8:Int).toNat):=by simp[ri]
 show dn (ri (256,128,8,upto (8:Int).toNat) [])=true;rw[e];exact p.2
theorem Hm {i:Nat}(h:i≤8):0≤ks i∧ks i≤16000:=by unfold ks;omega
theorem Jm {m:List Bytes}(hm:df m=true)(l:List aV){i:Nat}(hi:i≤8):df (qN l m i).1=true∧dZ (qN l m i).2.1=true∧dn (qN l m i).2.2.1=true:=by have hb:=Hm hi;have p:=EG (a:=ks i+128) (b:=384) (n:=4) (by omega) (by omega) (by omega);unfold qN;rw[p.1];exact Iw (Ep hm ..) (yT (by omega) (by omega) (by omega) (by omega) (by omega)) p.2 l 0
theorem Lt {i:Nat}(hi:i≤8){r:Int×Int×Int×Int}(hr:dZ r=true){n d:Int}(hd:0≤d∧d≤n):Bg n (r,(ks i+64,4,0),(ks i+64,4,0),((0,0,0,0,0,0,0,0,0,0,0,0,0,0,0,([]:Bytes)),0,0),false,d):=by
 have hb:=Hm hi;have hq:rl (ks i+64,4,0)=true:=by have hs:eA 4=true:=eG.2 (by omega);unfold rl;rw[ab,ab];exact⟨br.2 (by omega),hs,by rw[vY hs];rfl⟩
 exact⟨hr,hq,hq,rfl,rfl,hd,λhf=>(by cases hf),λ_=>rfl⟩
theorem map_take {α β:Type}(f:α→β)(l:List α)(i:Nat)(hi:i<l.length):(l.take i).map f++[f l[i]]=(l.take (i+1)).map f:=by rw[List.take_succ_eq_append_getElem hi,List.map_append];rfl
def w6 (n:Nat):List Bytes:=List.replicate n (sT 128)
theorem I3 (n:Nat):w6 (n+1)=w6 n++[sT 128]:=List.replicate_succ'
theorem G0 (n:Nat)(h:n≤64):jx (n:Int)=some (w6 n):=by have hz:eh 128 0=some (sT 128):=zg 128 (by omega);unfold jx;refine fR (λi=>((i:Int),w6 i)) n (by omega) (λi nx hi=>?_) (λnx=>?_);simp only[jf];rw[ak (show(i:Int)<n by omega),ah,ak (by omega),ae,ah,hz,ae,aS (by simp[w6];omega),wrap64 (by omega) (by omega),I3];rfl;simp only[jf];rw[af (show¬(n:Int)<n by omega),ai,ae,ai]
def sD (a b:Int):Vector×Bool:=bif ji (a,b,0,0,false,false) then((a,b,0,0,false,false),true) else((0,0,0,0,false,false),false)
theorem G1 (a b:Int):mr a b=some (sD a b):=by unfold mr sD;rw[zk,ae];cases ji (a,b,0,0,false,false)<;>rfl
def qK (i:Nat):List aV:=(List.range i).map λ(p:Nat)=>(0,(p:Int),37-(p:Int), !cQ (p:Int) 2 9)
theorem Gy (i:Nat):qK (i+1)=qK i++[(0,(i:Int),37-(i:Int), !cQ (i:Int) 2 9)]:=by simp[qK,List.range_succ]
theorem vK (i:Nat):(qK i).length=i:=by simp[qK]
def KC (f:Filter)(s:bL)(c:Bool)(i:Nat):Host:=(w6 38,qK i,Ba,([]:List dX),([]:List dk),([]:List Vector),([]:List Bool),f,s,([]:List Stream),c,([]:List Bytes),([]:List Int),([]:List Int),0,0,0,0,0)
theorem yg {c:oZ}(h:Cu c):Ends (kg c) λr=>(167772161≤r.1∧r.1≤167772163)∧Cu r.2:=by unfold kg;refine(dA h (by decide)).bind λr hr=>Ends.pure ⟨?_,hr.2⟩;have:=hr.1;simp only[wrap64 (n:=167772161+r.1) (by omega) (by omega)];omega
theorem Iy {c:oZ}(h:Cu c):Ends (nB c) λr=>(0≤r.1∧r.1≤31)∧Cu r.2:=by unfold nB;exact(eo (P:=λx=>0≤x∧x≤31) h (by decide) (by decide)).bind λr hr=>Ends.pure hr
theorem Q3 {c:oZ}(h:Cu c){m:Int}(h0:0≤m)(h1:m≤320):Ends (k9 c m) λr=>(kI r.1=true∧(r.1.2.2.2.2.2.2.2.length:Int)≤m)∧Cu r.2:=by
 unfold k9;refine(dA h (by decide)).bind λr1 p1=>(dA p1.2 (by decide)).bind λr2 p2=>?_;refine(eo (P:=λx=>0≤x∧x≤4294967295) p2.2 (by simp) ?_).bind λr3 p3=>?_;have:=p2.1;intro x hx;simp only[bl,List.not_mem_nil,or_false]at hx;omega;refine(eo (P:=λx=>0≤x∧x≤4294967295) p3.2 (by decide) (by decide)).bind λr4 p4=>(Iy p4.2).bind λr5 p5=>?_;refine(eo (P:=λx=>0≤x∧x≤65535) p5.2 (by decide) (by decide)).bind λr6 p6=>?_;rw[wrap64 (n:=m+1) (by omega) (by omega)];refine(dA p6.2 (by omega)).bind λr7 p7=>(vg p7.2 r7.1).bind λr8 p8=>(nn p8.2 4).bind λr9 p9=>?_;have a1:=p1.1;have a7:=p7.1;have a8:=p8.1.2.1 a7.1 (by omega);rw[wrap64 (n:=1000+r1.1) (by omega) (by omega)];refine Ends.cond (λ_=>Ends.pure ⟨⟨Lw (by omega) (by omega) (by omega),?_⟩,p9⟩) λ_=>Ends.pure ⟨⟨EU (by omega) (by omega) p3.1 p4.1 p5.1 p6.1 (by omega),?_⟩,p9⟩;all_goals show(r8.1.length:Int)≤m
 all_goals omega
theorem AL {c:oZ}(h:Cu c){m:Int}(h0:0≤m)(h1:m≤320):Ends (fH c m) λr=>(dD r.1=true∧(r.1.2.2.2.2.2.2.2.2.2.2.2.2.2.2.2.length:Int)≤m∧(r.1.2.2.2.2.2.2.2.2.1=6∨r.1.2.2.2.2.2.2.2.2.1=17))∧Cu r.2:=by
 unfold fH;refine(eo (P:=λx=>0≤x∧x≤281474976710655) h (by decide) (by decide)).bind λr1 p1=>?_;refine(eo (P:=λx=>0≤x∧x≤281474976710655) p1.2 (by decide) (by decide)).bind λr2 p2=>?_;refine(eo (P:=λx=> -1≤x∧x≤4095) p2.2 (by decide) (by decide)).bind λr3 p3=>?_;refine(eo (P:=λx=>0≤x∧x≤255) p3.2 (by decide) (by decide)).bind λr4 p4=>?_;refine(eo (P:=λx=>0≤x∧x≤65535) p4.2 (by decide) (by decide)).bind λr5 p5=>?_;refine(eo (P:=λx=>0≤x∧x≤255) p5.2 (by decide) (by decide)).bind λr6 p6=>?_;refine(yg p6.2).bind λr7 p7=>?_;refine(Q3 p7.2 (m:=if 128<m then 128 else m) (by split<;>omega) (by split<;>omega)).bind λr8 p8=>?_;have hh:∀g:cj,kI g=true→lN (r1.1,r2.1,r3.1,r4.1,r5.1,r6.1,r7.1,167772161,g)=true:=λg hg=>KB p1.1 p2.1 p3.1 p4.1 p5.1 p6.1 (by have:=p7.1;omega) (by omega) hg;have hk:∀g:cj,kI g=true→g.1=6∨g.1=17:=by intro g hg;unfold kI at hg;simp only[ab]at hg;have h2:=hg.2.2.2;cases h17:g.1==17 with|true=>exact Or.inr (by simpa using h17)|false=>rw[h17]at h2;simp only[ai,ab]at h2;exact Or.inl (by simpa using h2.1)
 have hl:(r8.1.2.2.2.2.2.2.2.length:Int)≤128∧(r8.1.2.2.2.2.2.2.2.length:Int)≤m:=by have:=p8.1.2;split at this<;>omega
 have short:∀c':oZ,Cu c'→Ends (some ((r1.1,r2.1,r3.1,r4.1,r5.1,r6.1,r7.1,(167772161:Int),r8.1),c')) λr:aG×oZ=>(dD r.1=true∧(r.1.2.2.2.2.2.2.2.2.2.2.2.2.2.2.2.length:Int)≤m∧(r.1.2.2.2.2.2.2.2.2.1=6∨r.1.2.2.2.2.2.2.2.2.1=17))∧Cu r.2:=by intro c' hc';refine Ends.pure ⟨⟨?_,hl.2,hk _ p8.1.1⟩,hc'⟩;unfold dD;rw[hh _ p8.1.1,bR];have:decide ((r8.1.2.2.2.2.2.2.2.length:Int)≤128)=true:=ak hl.1;show(decide ((r8.1.2.2.2.2.2.2.2.length:Int)≤128)||_)=true;rw[this,eT]
 refine Ends.cond (λk1=>Ends.cond (λk2=>Ends.cond (λk3=>?_) λ_=>short _ p8.2) λ_=>short _ p8.2) λ_=>short _ p8.2;have k3:=aL k3;refine(nn p8.2 2).bind λr9 p9=>Ends.cond (λ_=>?_) λ_=>short _ p9;rw[wrap64 (n:=m-128) (by omega) (by omega),wrap64 (n:=m-128+1) (by omega) (by omega)];refine(dA p9 (by omega)).bind λr10 p10=>?_;have a10:=p10.1;rw[wrap64 (n:=128+r10.1) (by omega) (by omega)];refine(vg p10.2 _).bind λr11 p11=>?_;have a11:=p11.1.2.1 (by omega) (by omega);have hs:=JG p8.1.1 (x:=r11.1) (by omega);refine Ends.pure ⟨⟨?_,by show(r11.1.length:Int)≤m;omega,Or.inl (by simpa using k1)⟩,p11.2⟩;unfold dD;rw[hh _ hs,bR];rw[xZ _ (vX p8.1.1 k1)]at k2;show(_||(r8.1.1==6)&&vA r8.1.2.2.2.2.2.1)=true;rw[k1,k2,fy,Bool.or_true]
def Plain (p:aG):Prop:=lN p=true∧p.2.2.2.2.2.2.2.2.2.2.2.2.2.2.2.length≤40
theorem Plain.ok {p:aG}(h:Plain p):jT p=true:=(EC p).2 ⟨h.1,by have:=h.2;omega⟩
theorem uS {c:oZ}(h:Cu c):Ends (fH c 40) λr=>Plain r.1∧Cu r.2:=(AL h (by omega) (by omega)).mono λr hr=>⟨⟨by have:=hr.1.1;unfold dD at this;simp only[ab]at this;exact this.1,by have:=hr.1.2.1;omega⟩,hr.2⟩
theorem KY {R:Type}{Q:R→Prop}{k0:List aG→oZ→aG→Option R}{l:List aG}{z n:Int}{c:oZ}{p:aG}(hl:l.length≤1000)(hc:Cu c)(hp:Plain p)(hk:∀c' p',Cu c'→Plain p'→Ends (k0 (l++[p]) c' p') Q):Ends (gZ k0 l z n c p) Q:=by
 unfold gZ;have hi:=Nj (DF hp.1);have hs:=su hp.1;refine Ends.room (by simp;omega) (Ends.N2 (by decide) (Ends.cond (λh6=>?_) λ_=>hk _ _ hc ⟨s7 hp.1 hi hs,hp.2⟩));have h6:p.2.2.2.2.2.2.2.2.1=6:=by simpa using h6
 refine(nn hc 8).bind λr hr=>Ends.cond (λ_=>Ends.N2 (by decide) (hk _ _ hr ⟨s7 hp.1 hi ?_,hp.2⟩)) λ_=>hk _ _ hr ⟨s7 hp.1 hi hs,hp.2⟩;have k:=Lv hs h6;have hlen:p.2.2.2.2.2.2.2.2.2.2.2.2.2.2.2.length≤320:=by have:=hp.2;omega
 exact ET hs h6 (K7 k.2.2.1 hlen) k.2.2.2.2.1 hlen
theorem KX {R:Type}{Q:R→Prop}{k0:List aG→oZ→aG→Option R}{l:List aG}{z n:Int}{c:oZ}{p:aG}(hl:l.length≤1000)(hz:1≤z∧z≤40)(hc:Cu c)(hp:Plain p)(hk:∀q c' p',Plain q→Cu c'→Plain p'→Ends (k0 (l++[q]) c' p') Q):Ends (gY k0 l z n c p) Q:=by
 unfold gY;refine Ends.cond (λh6=>?_) λ_=>KY hl hc hp λc' p' h1 h2=>hk _ _ _ hp h1 h2;have h6:p.2.2.2.2.2.2.2.2.1=6:=by simpa using h6
 refine(eo (P:=λx=>0≤x∧x≤31) hc (by decide) (by decide)).bind λr8 p8=>(vg p8.2 z).bind λr9 p9=>?_;have a9:=p9.1.2.1 (by omega) (by omega);have hs:=su hp.1;have hq:Plain (p.1,p.2.1,p.2.2.1,p.2.2.2.1,p.2.2.2.2.1,p.2.2.2.2.2.1,p.2.2.2.2.2.2.1,p.2.2.2.2.2.2.2.1,p.2.2.2.2.2.2.2.2.1,p.2.2.2.2.2.2.2.2.2.1,p.2.2.2.2.2.2.2.2.2.2.1,p.2.2.2.2.2.2.2.2.2.2.2.1,p.2.2.2.2.2.2.2.2.2.2.2.2.1,r8.1,p.2.2.2.2.2.2.2.2.2.2.2.2.2.2.1,r9.1):=⟨s7 hp.1 (DF hp.1) (ET hs h6 (Lv hs h6).2.2.1 p8.1 (by omega)),by show r9.1.length≤40;omega⟩
 exact KY hl p9.2 hq λc' p' h1 h2=>hk _ _ _ hq h1 h2
theorem N3 {R:Type}{Q:R→Prop}{k0:List aG→Int→oZ→aG→Option R}{l:List aG}{z n:Int}{c:oZ}{p:aG}(hl:l.length≤1000)(hz:1≤z∧z≤40)(hc:Cu c)(hp:Plain p)(hk:∀q z' c' p',Plain q→(1≤z'∧z'≤40)→Cu c'→Plain p'→Ends (k0 (l++[q]) z' c' p') Q):Ends (iz k0 l z n c p) Q:=by unfold iz;refine(nn hc 6).bind λr6 p6=>Ends.cond (λ_=>?_) λ_=>KX hl hz p6 hp λq c' p' h1 h2 h3=>hk _ _ _ _ h1 hz h2 h3;refine(dA p6 (by decide)).bind λr7 p7=>?_;have a7:=p7.1;rw[wrap64 (n:=1+r7.1) (by omega) (by omega)];exact KX hl (by omega) p7.2 hp λq c' p' h1 h2 h3=>hk _ _ _ _ h1 (by omega) h2 h3
theorem TW {R:Type}{Q:R→Prop}{k0:List aG→Int→Int→oZ→aG→Option R}{l:List aG}{z n:Int}{c:oZ}{p:aG}(hl:l.length≤1000)(hz:1≤z∧z≤40)(hn:0<n∧n≤1000)(hc:Cu c)(hp:Plain p)(hk:∀q z' c' p',Plain q→(1≤z'∧z'≤40)→Cu c'→Plain p'→Ends (k0 (l++[q]) z' (n-1) c' p') Q):Ends (la k0 l z n c p) Q:=by unfold la;have e:ar (n-1)=n-1:=wrap64 (by omega) (by omega);refine(nn hc 5).bind λr4 p4=>Ends.cond (λ_=>?_) λ_=>?_;refine(uS p4).bind λr5 p5=>N3 hl hz p5.2 p5.1 λq z' c' p' h1 h2 h3 h4=>?_;unfold iy;rw[e];exact hk _ _ _ _ h1 h2 h3 h4;refine N3 hl hz p4 hp λq z' c' p' h1 h2 h3 h4=>?_;unfold iy;rw[e];exact hk _ _ _ _ h1 h2 h3 h4
theorem Nc {c:oZ}(h:Cu c){m:Int}(h0:0<m)(h1:m≤100):Ends (oM c m) λr=>((∀p∈r.1,Plain p)∧0<r.1.length∧(r.1.length:Int)≤m)∧Cu r.2:=by unfold oM;refine(uS h).bind λr1 p1=>(dA p1.2 (by decide)).bind λr2 p2=>(dA p2.2 h0).bind λr3 p3=>?_;have a2:=p2.1;have a3:=p3.1;rw[wrap64 (n:=r2.1*8) (by omega) (by omega),wrap64 (n:=8+r2.1*8) (by omega) (by omega),wrap64 (n:=1+r3.1) (by omega) (by omega)];refine Ends.l6 (λx=>(∀p∈x.1,Plain p)∧(1≤x.2.1∧x.2.1≤40)∧0≤x.2.2.1∧(x.1.length:Int)+x.2.2.1=1+r3.1∧Cu x.2.2.2.1∧Plain x.2.2.2.2) (λx=>x.2.2.1.toNat) ⟨by simp,(by dsimp only;omega),(by dsimp only;omega),by simp,p3.2,p1.1⟩ (by simp;omega) λx nx hx hn=>?_;unfold n9;refine Ends.cond (λk=>?_) λk=>?_;have k:=aL k;refine TW (by omega) hx.2.1 (by omega) hx.2.2.2.2.1 hx.2.2.2.2.2 λq z' c' p' h1 h2 h3 h4=>hn _ ⟨?_,h2,?_,?_,h3,h4⟩ ?_;intro y hy;rcases al.1 hy with hy|hy;exact hx.1 y hy;simp only[bS]at hy;rw[hy];exact h1;show 0≤x.2.2.1-1;omega;show((x.1++[q]).length:Int)+(x.2.2.1-1)=1+r3.1;have:=hx.2.2.2.1;simp;omega;show(x.2.2.1-1).toNat<x.2.2.1.toNat;omega;have k:=of_decide_eq_false k;have:=hx.2.2.2.1;have:=hx.2.2.1;exact Ends.pure ⟨⟨hx.1,(by dsimp only;omega),(by dsimp only;omega)⟩,hx.2.2.2.2.1⟩
theorem Nq {c:oZ}(h:Cu c){l:List aG}(hl:l.length≤1000000):Ends (oN c l) λr=>(r.1.length≤l.length∧∀s∈r.1,s.2.2.1=[])∧Cu r.2:=by unfold oN;refine Ends.l6 (λx=>0≤x.2.1∧(x.1.length:Int)≤x.2.1∧x.2.1≤(l.length:Int)∧(∀s∈x.1,s.2.2.1=[])∧Cu x.2.2) (λx=>((l.length:Int)-x.2.1).toNat) ⟨by simp,by simp,by simp,by simp,h⟩ (by simp;omega) λx nx hx hn=>?_;have e:x.2.1<(l.length:Int)→ar (x.2.1+1)=x.2.1+1:=λ_=>wrap64 (by omega) (by omega);unfold oa;refine Ends.cond (λk=>?_) λk=>Ends.pure ⟨⟨(by dsimp only;omega),hx.2.2.2.1⟩,hx.2.2.2.2⟩;have k:=aL k;rw[e k];have skip:∀c',Cu c'→Ends (nx (x.1,x.2.1+1,c')) _:=λc' hc'=>hn _ ⟨by show 0≤x.2.1+1;omega,by show(x.1.length:Int)≤x.2.1+1;omega,by show x.2.1+1≤_;omega,hx.2.2.2.1,hc'⟩ (by show((l.length:Int)-(x.2.1+1)).toNat<_;omega);refine Ends.idx hx.1 k λhi=>?_;rw[ze,ae];refine Ends.cond (λ_=>?_) λ_=>skip _ hx.2.2.2.2;rw[E9 _ _ (by omega),ae];refine Ends.cond (λ_=>?_) λ_=>skip _ hx.2.2.2.2;refine(nn hx.2.2.2.2 6).bind λr4 p4=>Ends.cond (λ_=>?_) λ_=>skip _ p4;refine Ends.idx hx.1 k λhi=>(eo (P:=λ_=>True) p4 (by decide) (by simp)).bind λr6 p6=>Ends.room (by simp;omega) (hn _ ⟨by show 0≤x.2.1+1;omega,?_,by show x.2.1+1≤_;omega,?_,p6.2⟩ (by show((l.length:Int)-(x.2.1+1)).toNat<_;omega));show((x.1++[_]).length:Int)≤x.2.1+1;simp;omega;intro s hs;rcases al.1 hs with hs|hs;exact hx.2.2.2.1 s hs;simp only[bS]at hs;rw[hs]
theorem PZ {c:oZ}(h:Cu c):Ends (qh c) λr=>r.1.length=16∧Cu r.2:=by unfold qh;exact(vg h 16).bind λr hr=>Ends.pure ⟨by have:=hr.1.2.1 (by omega) (by omega);omega,hr.2⟩
theorem Iz {c:oZ}(h:Cu c):Ends (oO c) λr=>Cu r.2:=by unfold oO;refine(eo (P:=λ_=>True) h (by decide) (by simp)).bind λr1 p1=>(yg p1.2).bind λr2 p2=>(dA p2.2 (by decide)).bind λr3 p3=>?_;exact(eo (P:=λ_=>True) p3.2 (by decide) (by simp)).bind λr4 p4=>Ends.pure p4.2
theorem JT {c:oZ}(h:Cu c):Ends (mz c) λr=>(r.1.1.1.length=16∧r.1.1.2.length≤8∧1≤r.1.2∧r.1.2≤4)∧Cu r.2:=by unfold mz;refine(dA h (by decide)).bind λr1 p1=>(PZ p1.2).bind λr2 p2=>(eo (P:=λx=>0≤x∧x≤8) p2.2 (by decide) (by decide)).bind λr3 p3=>?_;have a1:=p1.1;have a3:=p3.1;rw[wrap64 (n:=1+r1.1) (by omega) (by omega)];refine Ends.l6 (λx=>0≤x.1∧x.1+(x.2.2.2.length:Int)=r3.1∧x.2.2.1.length=16∧Cu x.2.1) (λx=>x.1.toNat) ⟨by omega,by simp,p2.1,p3.2⟩ (by simp;omega) λx nx hx hn=>?_;unfold mA;refine Ends.cond (λk=>?_) λk=>Ends.pure ⟨⟨hx.2.2.1,by have:=hx.1;have:=hx.2.1;show x.2.2.2.length≤8;omega,by show(1:Int)≤1+r1.1;omega,by show 1+r1.1≤(4:Int);omega⟩,hx.2.2.2⟩;have k:=aL k;rw[wrap64 (n:=x.1-1) (by omega) (by have:=hx.2.1;omega)];refine(uj hx.2.2.2 _).bind λr4 p4=>Ends.room (by have:=hx.2.1;simp;omega) (hn _ ⟨?_,?_,hx.2.2.1,p4.2⟩ ?_);show 0≤x.1-1;omega;show x.1-1+((x.2.2.2++[r4.1]).length:Int)=r3.1;have:=hx.2.1;simp;omega;show(x.1-1).toNat<x.1.toNat;omega
theorem Nx {c:oZ}(h:Cu c):Ends (oQ c) λr=>Cu r.2:=by unfold oQ;refine(dA h (by decide)).bind λr1 p1=>(eo (P:=λ_=>True) p1.2 (by decide) (by simp)).bind λr2 p2=>(yg p2.2).bind λr3 p3=>?_;refine(eo (P:=λ_=>True) p3.2 (by decide) (by simp)).bind λr4 p4=>(eo (P:=λ_=>True) p4.2 (by decide) (by simp)).bind λr5 p5=>(eo (P:=λ_=>True) p5.2 (by decide) (by simp)).bind λr6 p6=>?_;refine(eo (P:=λ_=>True) p6.2 (by decide) (by simp)).bind λr7 p7=>(eo (P:=λ_=>True) p7.2 (by decide) (by simp)).bind λr8 p8=>?_;exact Ends.cond (λ_=>(dA p8.2 (by decide)).bind λr9 p9=>Ends.pure p9.2) λ_=>Ends.pure p8.2
theorem Ls {c:oZ}(h:Cu c):Ends (nC c) λr=>r.1.length≤4∧Cu r.2:=by unfold nC;refine(dA h (by decide)).bind λr1 p1=>?_;have a1:=p1.1;refine Ends.l6 (λx=>0≤x.2.1∧x.2.1+(x.1.length:Int)=r1.1∧Cu x.2.2) (λx=>x.2.1.toNat) ⟨a1.1,by simp,p1.2⟩ (by simp;omega) λx nx hx hn=>?_;unfold mS;refine Ends.cond (λk=>?_) λk=>Ends.pure ⟨by have:=hx.1;have:=hx.2.1;show x.1.length≤4;omega,hx.2.2⟩;have k:=aL k;rw[wrap64 (n:=x.2.1-1) (by omega) (by have:=hx.2.1;omega)];refine(Nx hx.2.2).bind λr2 p2=>Ends.room (by have:=hx.2.1;simp;omega) (hn _ ⟨?_,?_,p2⟩ ?_);show 0≤x.2.1-1;omega;show x.2.1-1+((x.1++[r2.1]).length:Int)=r1.1;have:=hx.2.1;simp;omega;show(x.2.1-1).toNat<x.2.1.toNat;omega
theorem zA (t:List Slot)(f:dQ):∀n k,walk t f n k= -1∨(0≤walk t f n k∧walk t f n k<8)
 |0,_=>Or.inl rfl
 |n+1,k=>by rw[walk];have:=tp f k;split;exact Or.inl rfl;split;exact Or.inr ⟨by omega,by omega⟩;exact zA t f n (k+1)
theorem JY {t:List Slot}(h:gv t=true):t.length=8:=by unfold gv at h;simp only[ab,aQ]at h;exact h.1
theorem QY (t:List Slot)(f:dQ)(q:Int)(hl:t.length≤1000):Ends (oK t f q) λr=>r.1.length=t.length:=by
 unfold oK;rw[tE _ (by omega),ae,we,ae];refine Ends.bind (P:=λb=>b=false→gv t=true) ?_ λb hb=>Ends.cond (λ_=>Ends.pure rfl) λhb2=>?_;refine Ends.cond (λ_=>Ends.pure λh=>by cases h) λh=>?_;rw[cu,ae];exact Ends.pure λ_=>by simpa using h
 ·have h8:=JY (hb hb2);rw[zd _ _ h8,ae];have hw:=zA t f 8 0;refine Ends.l6 (λx=>(x.1= -1∨(0≤x.1∧x.1<8))∧0≤x.2∧x.2≤8) (λx=>(8-x.2).toNat) ⟨hw,by simp,by simp⟩ (by simp) λx nx hx hn=>?_;unfold n8;refine Ends.bind (P:=λb=>b=true→x.2<8) (Ends.cond (λh=>Ends.pure λ_=>aL h) λh=>Ends.pure λh=>by cases h) λb hb=>Ends.cond (λhb2=>?_) λ_=>?_
  ·have hb:=hb hb2;rw[E4,ae];have hh:=yf f;rw[wrap64 (n:=qF f+x.2) (by omega) (by omega),wrap64 (n:=x.2+1) (by omega) (by omega)];have m1:=Int.tmod_nonneg 8 (a:=qF f+x.2) (by omega);have m2:=Int.tmod_lt_of_pos (qF f+x.2) (b:=8) (by omega);refine Ends.N2 (by decide) (Ends.idx m1 (by omega) λ_=>Ends.cond (λ_=>hn _ ⟨Or.inr ⟨m1,m2⟩,?_,?_⟩ ?_) λ_=>hn _ ⟨hx.1,?_,?_⟩ ?_);all_goals simp only
   all_goals omega
  refine Ends.cond (λ_=>Ends.pure rfl) λh=>?_;have h:=of_decide_eq_false h;have h0:0≤x.1∧x.1<8:=by omega
  exact Ends.idx h0.1 (by omega) λ_=>Ends.idx h0.1 (by omega) λ_=>Ends.pure (by simp)
structure mX (s:bL):Prop where
 r:s.1.length≤100
 t:s.2.1.length≤100
 k:s.2.2.1.length=16
 p:s.2.2.2.length≤100
theorem LH {c:oZ}(h:Cu c):Ends (ki c) λr=>(mX r.1.1∧1≤r.1.2∧r.1.2≤4)∧Cu r.2:=by
 unfold ki;have hnew:gu=some (List.replicate 8 (0,(0,0,0,0,0),0)):=by unfold gu;rw[au (by decide),aS (by decide)];rfl
 rw[hnew,ae];refine(JT h).bind λr2 p2=>(nn p2.2 2).bind λr3 p3=>?_;have t11:∀(n:Int)(s:bL)(c':oZ),n≤4→mX s→Cu c'→Ends (aZ (dW (λ(_:Int) y15 y16=>some ((y16,r2.1.2),y15)) r2.1.2 (([]:List dw),([]:List Slot),([]:Bytes),([]:List Int))) fuel (n,c',s)) λr:(bL×Int)×oZ=>(mX r.1.1∧1≤r.1.2∧r.1.2≤4)∧Cu r.2:=by intro n s c' hn hs hc;refine Ends.l6 (λx=>x.1≤4∧mX x.2.2∧Cu x.2.1) (λx=>x.1.toNat) ⟨hn,hs,hc⟩ (by simp;omega) λx nx hx hn=>?_;unfold dW;refine Ends.cond (λk=>?_) λk=>Ends.pure ⟨⟨hx.2.1,p2.1.2.2⟩,hx.2.2⟩;have k:=aL k;rw[wrap64 (n:=x.1-1) (by omega) (by have:=hx.1;omega)];refine(Iz hx.2.2).bind λr11 p11=>(uj p11 _).bind λr12 p12=>(QY _ _ _ (by have:=hx.2.1.t;omega)).bind λr13 p13=>hn _ ⟨?_,⟨hx.2.1.r,by have:=hx.2.1.t;show r13.1.length≤100;omega,hx.2.1.k,hx.2.1.p⟩,p12.2⟩ ?_;show x.1-1≤4;have:=hx.1;omega;show(x.1-1).toNat<x.1.toNat;omega
 have t7:∀(s:bL)(c' b:oZ),mX s→s.1.length≤4→Cu c'→Ends (aZ (e7 (λ(_:Int) y9=>aa (bj c' 4) λr10=>aZ (dW (λ(_:Int) y15 y16=>some ((y16,r2.1.2),y15)) r2.1.2 (([]:List dw),([]:List Slot),([]:Bytes),([]:List Int))) fuel (r10.1,r10.2,y9)) r2.1.2 b (([]:List dw),([]:List Slot),([]:Bytes),([]:List Int))) fuel (0,s)) λr:(bL×Int)×oZ=>(mX r.1.1∧1≤r.1.2∧r.1.2≤4)∧Cu r.2:=by intro s c' b hs hl hc;refine Ends.l6 (λx=>0≤x.1∧x.2.1.length=s.1.length∧mX x.2) (λx=>((s.1.length:Int)-x.1).toNat) ⟨by simp,rfl,hs⟩ (by simp;omega) λx nx hx hn=>?_;unfold e7;refine Ends.cond (λk=>?_) λk=>(dA hc (by decide)).bind λr10 p10=>t11 _ _ _ (by have:=p10.1;omega) hx.2.2 p10.2;have k:=aL k;rw[wrap64 (n:=x.1+1) (by omega) (by have:=hx.2.1;omega)];refine Ends.idx hx.1 k λ_=>Ends.N2 (by have:=p2.1.2.2;omega) (Ends.idx hx.1 k λ_=>Ends.idx hx.1 k λ_=>hn _ ⟨?_,?_,⟨?_,hx.2.2.t,hx.2.2.k,hx.2.2.p⟩⟩ ?_);show 0≤x.1+1;have:=hx.1;omega;show(List.set _ _ _).length=_;rw[aO];exact hx.2.1;show(List.set _ _ _).length≤100;rw[aO];exact hx.2.2.r;show((s.1.length:Int)-(x.1+1)).toNat<_;have:=hx.2.1;omega
 refine Ends.cond (λ_=>(Ls p3).bind λr4 p4=>t7 _ _ _ ⟨by have:=p4.1;show r4.1.length≤100;omega,by simp,p2.1.1,by have:=p2.1.2.1;show r2.1.1.2.length≤100;omega⟩ p4.1 p4.2) λ_=>t7 _ _ _ ⟨by simp,by simp,p2.1.1,by have:=p2.1.2.1;show r2.1.1.2.length≤100;omega⟩ (by simp) p3
theorem Dw {c:oZ}(h:Cu c):Ends (mD c) λr=>(r.1.1=2∧(r.1.2.2=[7]∨r.1.2.2=[]))∧Cu r.2:=by unfold mD;exact(nn h 4).bind λr1 p1=>(nn p1 2).bind λr2 p2=>Ends.cond (λ_=>Ends.pure ⟨⟨rfl,Or.inl rfl⟩,p2⟩) λ_=>Ends.pure ⟨⟨rfl,Or.inr rfl⟩,p2⟩
theorem QB:dH (qK 38)=true:=by decide+kernel
structure Made (f:Filter) (s:bL) (c:Bool) (k:Nat) (h:Host):Prop where
 mem:df h.1=true
 ml:h.1.length=38
 maps:h.2.1=qK 38
 tx:h.2.2.1=Ba
 rx:h.2.2.2.1.length=k
 rxs:∀r∈h.2.2.2.1,Bg 0 r∧r.2.2.2.2.1=false
 pl:h.2.2.2.2.1.length=k
 pls:∀p∈h.2.2.2.2.1,dn p=true∧p.2.2.2.length≤1000
 vec:h.2.2.2.2.2.1.length=k
 vecs:∀v∈h.2.2.2.2.2.1,ji v=true
 pol:h.2.2.2.2.2.2.1.length=k
 rest:h.2.2.2.2.2.2.2=(f,s,([]:List Stream),c,([]:List Bytes),([]:List Int),([]:List Int),0,0,0,0,0)
theorem EX {α:Type}(l:List α)(x y:α):(l++[x]).set l.length y=l++[y]:=by simp
theorem Nf {n:Nat}(h:n≤64):df (w6 n)=true:=pa.2 ⟨λx hx=>by rw[(List.mem_replicate.1 hx).2];exact wj 128,by simp[w6];exact h⟩
theorem IZ {f:Filter}{s:bL}{c:Bool}{k:Nat}{h:Host}(m:Made f s c k h)(hk:k≤8){v:Vector}(hv:ji v=true):Ends (mF (h.1,h.2.1,h.2.2.1,h.2.2.2.1++[((0,0,0,0),(0,0,0),(0,0,0),((0,0,0,0,0,0,0,0,0,0,0,0,0,0,0,([]:Bytes)),0,0),false,0)],h.2.2.2.2.1++[(0,0,0,([]:List Int))],h.2.2.2.2.2.1++[v],h.2.2.2.2.2.2.1++[false],h.2.2.2.2.2.2.2) (k:Int)) λr=>Made f s c (k+1) r.2:=by
 refine Ends.of (LF _ k hk (by simp[m.rx]) (by simp[m.pl]) (by show h.2.1.length≤_;rw[m.maps,vK];omega) (by show h.1.length≤_;rw[m.ml];omega)) ?_;have o:=Jm m.mem h.2.1 hk;have e1:(h.2.2.2.1++[(((0,0,0,0),(0,0,0),(0,0,0),((0,0,0,0,0,0,0,0,0,0,0,0,0,0,0,([]:Bytes)),0,0),false,0):dX)])[k]?=some ((0,0,0,0),(0,0,0),(0,0,0),((0,0,0,0,0,0,0,0,0,0,0,0,0,0,0,([]:Bytes)),0,0),false,0):=by rw[←m.rx];simp
 have e2:∀y:dX,(h.2.2.2.1++[(((0,0,0,0),(0,0,0),(0,0,0),((0,0,0,0,0,0,0,0,0,0,0,0,0,0,0,([]:Bytes)),0,0),false,0):dX)]).set k y=h.2.2.2.1++[y]:=λy=>by rw[←m.rx];exact EX _ _ _
 have e3:∀y:dk,(h.2.2.2.2.1++[(((0,0,0,([]:List Int))):dk)]).set k y=h.2.2.2.2.1++[y]:=λy=>by rw[←m.pl];exact EX _ _ _
 unfold K9;simp only[e1,e2,e3];have hp:(qN h.2.1 h.1 k).2.2.1.2.2.2.length≤1000:=by unfold qN;exact bO (FY ..) (rh _ _ _ (by omega))
 refine⟨o.1,?_,m.maps,m.tx,by show(_++[_]).length=_;rw[aj,m.rx];rfl,?_,by show(_++[_]).length=_;rw[aj,m.pl];rfl,?_,by show(_++[_]).length=_;rw[aj,m.vec];rfl,?_,by show(_++[_]).length=_;rw[aj,m.pol];rfl,m.rest⟩;show(qN h.2.1 h.1 k).1.length=38;rw[Jl,m.ml];intro r hr;rcases al.1 hr with hr|hr;exact m.rxs r hr;rw[bS.1 hr];exact⟨Lt hk o.2.1 ⟨ed _,ed _⟩,rfl⟩;intro p hp';rcases al.1 hp' with hp'|hp';exact m.pls p hp';rw[bS.1 hp'];exact⟨o.2.2,hp⟩;intro w hw;rcases al.1 hw with hw|hw;exact m.vecs w hw;rw[bS.1 hw];exact hv
structure xo (h:Host):Prop where
 good:Good 0 h
 sz:Mw 2000 h
 maps:∀m∈h.2.1,m.2.2.1<(h.1.length:Int)
 led:h.2.2.1.2.2.1=[]∧h.2.2.2.2.2.2.2.2.2.2.2.1=[]∧h.2.2.2.2.2.2.2.2.2.2.2.2.1=[]∧h.2.2.2.2.2.2.2.2.2.2.2.2.2.1=[]
theorem Gx {f:Filter}{s:bL}{c:Bool}{k:Nat}{h:Host}(m:Made f s c k h)(hk:1≤k∧k≤2)(hf:gA f=true)(hf2:f.2.2.length≤1000)(hs:dh s (k:Int)=true)(hz:mX s):xo h:=by have h4:=rh 256 128 8 (by omega);obtain⟨m1,m2,m3,m4,m5,m6,m7,m8,m9,m10,m11,m12⟩:=m;obtain⟨mem,maps,tx,rx,pl,vec,pol,rest⟩:=h;simp only at m1 m2 m3 m4 m5 m6 m7 m8 m9 m10 m11 m12;subst m12 m3 m4;refine⟨⟨m1,QB,Q8 0 (by omega),hf,?_,by show dh s (rx.length:Int)=true;rw[m5];exact hs,λr hr=>(m6 r hr).1,λp hp=>(m8 p hp).1,m10,?_⟩,⟨?_,?_⟩,?_,⟨rfl,rfl,rfl,rfl⟩⟩;unfold uL;simp only[ab,br,aQ];omega;intro x hx;simp only[fW,bl,List.not_mem_nil,or_false,or_self]at hx;omega;have hm:=(pa.1 m1).1;refine⟨⟨by show mem.length≤2000;omega,λx hx=>by show x.length≤2000;rw[hm x hx];omega⟩,⟨by show(qK 38).length≤2000;rw[vK];omega,λ_ _=>⟨trivial,trivial,trivial,trivial⟩⟩,?_,?_,?_,?_,?_,⟨trivial,trivial,by show f.2.2.length≤2000;omega,λ_ _=>trivial⟩,?_,⟨bw _,λx hx=>by cases hx⟩,trivial,⟨bw _,λx hx=>by cases hx⟩,⟨bw _,λx hx=>by cases hx⟩,⟨bw _,λx hx=>by cases hx⟩,trivial,trivial,trivial,trivial,trivial⟩;exact⟨⟨trivial,trivial,trivial,trivial⟩,⟨trivial,trivial,trivial,by show List.length (iq 256 128 8).1.2.2.2≤2000;omega,λ_ _=>trivial⟩,⟨bw _,λx hx=>by cases hx⟩,trivial⟩;refine⟨by show rx.length≤2000;omega,λx hx=>?_⟩;have e:=(m6 x hx).1.free (m6 x hx).2;refine⟨⟨trivial,trivial,trivial,trivial⟩,⟨trivial,trivial,trivial⟩,⟨trivial,trivial,trivial⟩,?_,trivial,trivial⟩;rw[e];exact⟨⟨trivial,trivial,trivial,trivial,trivial,trivial,trivial,trivial,trivial,trivial,trivial,trivial,trivial,trivial,trivial,bw _⟩,trivial,trivial⟩;exact⟨by show pl.length≤2000;omega,λx hx=>⟨trivial,trivial,trivial,by have:=(m8 x hx).2;show x.2.2.2.length≤2000;omega,λ_ _=>trivial⟩⟩;exact⟨by show vec.length≤2000;omega,λx hx=>⟨trivial,trivial,trivial,trivial,trivial,trivial⟩⟩;exact⟨by show pol.length≤2000;omega,λx hx=>trivial⟩;exact⟨⟨by have:=hz.r;show s.1.length≤2000;omega,λ_ _=>⟨trivial,trivial,trivial,trivial,trivial,trivial,trivial,trivial,trivial⟩⟩,⟨by have:=hz.t;show s.2.1.length≤2000;omega,λ_ _=>⟨trivial,⟨trivial,trivial,trivial,trivial,trivial⟩,trivial⟩⟩,by have:=hz.k;show s.2.2.1.length≤2000;omega,by have:=hz.p;show s.2.2.2.length≤2000;omega,λ_ _=>trivial⟩;show List.length (iq 256 128 8).1.2.2.2+0≤2000;omega;intro m hm;have hm:m∈qK 38:=hm;simp only[qK,List.mem_map,bI]at hm;obtain⟨i,hi,rfl⟩:=hm;show 37-(i:Int)<(mem.length:Int);omega
theorem Jh {a b:Int}(h:(sD a b).2=true):ji (sD a b).1=true:=by unfold sD at h⊢;cases hv:ji (a,b,0,0,false,false)with|false=>rw[hv]at h;cases h|true=>exact hv
theorem yE (q:Int)(f:Filter)(s:bL)(c:Bool)(a b:Int)(hf:f.2.2.length≤1000)(hs:mX s):Ends (mn q f s c a b) λr=>(r.2=true→xo r.1)∧((1≤q∧q≤2)→gA f=true→dh s q=true→(sD a b).2=true→r.2=true):=by
 have z1:=hs.r;have z2:=hs.t;have z3:=hs.p;unfold mn;rw[G1,ae,cu,ae];refine Ends.bind (P:=λx=>(x=false→(1≤q∧q≤2)∧gA f=true∧dh s q=true∧(sD a b).2=true)∧(x=true→(1≤q∧q≤2)→gA f=true→dh s q=true→(sD a b).2=true→False)) ?_ λx hx=>Ends.cond (λhx2=>Ends.pure ⟨(λh=>by cases h),λg1 g2 g3 g4=>(hx.2 hx2 g1 g2 g3 g4).elim⟩) λh=>?_;refine Ends.cond (λk=>Ends.pure ⟨(λh=>by cases h),λ_ g1 _ _ _=>by rw[br.2 g1]at k;cases k⟩) λh1=>?_;rw[zc f (by omega),ae];refine Ends.cond (λk=>Ends.pure ⟨(λh=>by cases h),λ_ _ g2 _ _=>by rw[g2]at k;cases k⟩) λh2=>?_;rw[vc s q (by omega) (by omega) (by omega),ae];refine Ends.cond (λk=>Ends.pure ⟨(λh=>by cases h),λ_ _ _ g3 _=>by rw[g3]at k;cases k⟩) λh3=>Ends.pure ⟨λh4=>?_,λk _ _ _ g4=>by rw[g4]at k;cases k⟩;exact⟨br.1 (by simpa using h1),by simpa using h2,by simpa using h3,by simpa using h4⟩;obtain⟨hq,h1,h2,h3⟩:=hx.1 h;have hm:jx 38=some (w6 38):=G0 38 (by omega);rw[hm,ae,JR,ae,zb f (by omega),ae,zX s (by omega) (by omega) (by omega),ae];have hv:=Jh h3;refine Ends.l6 (λx=>0≤x.1∧x.1≤38∧x.2=KC f s c x.1.toNat) (λx=>(38-x.1).toNat) ⟨by simp,by simp,rfl⟩ (by simp) λx nx hx hn=>?_;obtain⟨i,y⟩:=x;obtain⟨x1,x2,x3⟩:=hx;simp only at x1 x2 x3;unfold n7;refine Ends.cond (λk=>?_) λk=>?_;have k:=aL k;have hl:=vK i.toNat;simp only at k;rw[cu,ae];simp only;rw[wrap64 (n:=i+1) (by omega) (by omega),wrap64 (n:=37-i) (by omega) (by omega)];subst x3;refine Ends.room (by show(qK i.toNat).length+1≤_;omega) (hn _ ⟨by show 0≤i+1;omega,by show i+1≤38;omega,?_⟩ (by show(38-(i+1)).toNat<(38-i).toNat;omega));have e:(i+1).toNat=i.toNat+1:=by omega
 show(w6 38,qK i.toNat++_,_)=KC f s c (i+1).toNat;rw[e];unfold KC;rw[Gy,show((i.toNat:Nat):Int)=i by omega];have k:=of_decide_eq_false k;simp only at k;have e:i.toNat=38:=by omega
 rw[e]at x3;have hm0:Made f s c 0 y:=by rw[x3];exact⟨Nf (by omega),by show(w6 38).length=38;simp[w6],rfl,rfl,rfl,(λ_ hr=>by cases hr),rfl,(λ_ hr=>by cases hr),rfl,(λ_ hr=>by cases hr),rfl,rfl⟩
 simp only;refine Ends.l6 (λx=>0≤x.1∧x.1≤q∧Made f s c x.1.toNat x.2) (λx=>(q-x.1).toNat) ⟨by simp,by show(0:Int)≤q;omega,hm0⟩ (by simp;omega) λx nx hx hn=>?_;obtain⟨i,y⟩:=x;obtain⟨x1,x2,m⟩:=hx;simp only at x1 x2 m;unfold mQ;refine Ends.cond (λk=>?_) λk=>Ends.pure ⟨λ_=>?_,λ_ _ _ _=>rfl⟩;have k:=aL k;simp only at k;have l1:=m.rx;have l2:=m.pl;have l3:=m.vec;have l4:=m.pol;refine Ends.room (by simp;omega) (Ends.room (by simp;omega) (Ends.room (by simp;omega) (Ends.room (by simp;omega) ?_)));have ho:=IZ m (by omega) hv;rw[show((i.toNat:Nat):Int)=i by omega]at ho;refine ho.bind λr hr=>?_;simp only;rw[wrap64 (n:=i+1) (by omega) (by omega)];refine hn _ ⟨by show 0≤i+1;omega,by show i+1≤q;omega,?_⟩ (by show(q-(i+1)).toNat<(q-i).toNat;omega);show Made f s c (i+1).toNat r.2;rw[show(i+1).toNat=i.toNat+1 by omega];exact hr;have k:=of_decide_eq_false k;simp only at k;have hi:i=q:=by omega
 subst hi;exact Gx m (by omega) h1 hf (by rw[show((i.toNat:Nat):Int)=i by omega];exact h2) hs
def rV (a:Act):Prop:=a.2.1.2.2.2.2.2.2.2.2.2.2.2.2.2.2.2.length≤1000∧a.2.2.2.2.1.length≤382∧0≤a.1∧a.1≤6
theorem uh {l:List Act}{a:Act}(h:rV a):(l++[a]).length≤l.length+1∧∀y∈l++[a],y∈l∨rV y:=by refine⟨by simp,λy hy=>?_⟩;rcases al.1 hy with hy|hy;exact Or.inl hy;rw[bS.1 hy];exact Or.inr h
theorem Ft {R:Type}{Q:R→Prop}{k0:List Act→oZ→Option R}{r:Bool}{l:List Act}{ps:List aG}{i x:Int}{b:Bool}{c:oZ}(hl:l.length≤1000)(hc:Cu c)(hk:∀l' c',l'.length≤l.length+1→(∀y∈l',y∈l∨rV y)→Cu c'→Ends (k0 l' c') Q):Ends (fC k0 r l ps i x b c) Q:=by
 have add:∀(a:Act)(c':oZ),rV a→Cu c'→Ends (k0 (l++[a]) c') Q:=λa c' ha hc'=>by have k:=uh (l:=l) (a:=a) ha;exact hk _ _ k.1 k.2 hc'
 have keep:∀c',Cu c'→Ends (k0 l c') Q:=λc' hc'=>hk _ _ (by omega) (λy hy=>Or.inl hy) hc';unfold fC;refine Ends.cond (λ_=>(dA hc (by decide)).bind λr9 p9=>Ends.room (by simp;omega) (by exact add _ _ (by simp[rV]) p9.2)) λ_=>?_;refine Ends.cond (λ_=>(AL hc (by omega) (by omega)).bind λr10 p10=>(dA p10.2 (by decide)).bind λr11 p11=>(eo (P:=λ_=>True) p11.2 (by decide) (by simp)).bind λr12 p12=>Ends.room (by simp;omega) (by exact add _ _ ⟨by have:=p10.1.2.1;show r10.1.2.2.2.2.2.2.2.2.2.2.2.2.2.2.2.length≤1000;omega,by simp⟩ p12.2)) λ_=>?_;refine Ends.cond (λ_=>Ends.room (by simp;omega) (by exact add _ _ (by simp[rV]) hc)) λ_=>?_;exact Ends.cond (λ_=>Ends.cond (λ_=>Ends.room (by simp;omega) (by exact add _ _ (by simp[rV]) hc)) λ_=>keep _ hc) λ_=>keep _ hc
theorem Kf {R:Type}{Q:R→Prop}{k0:List Act→oZ→Option R}{r:Bool}{l:List Act}{ps:List aG}{i x:Int}{b:Bool}{c:oZ}(hl:l.length≤1000)(hc:Cu c)(hk:∀l' c',l'.length≤l.length+1→(∀y∈l',y∈l∨rV y)→Cu c'→Ends (k0 l' c') Q):Ends (g6 k0 r l ps i x b c) Q:=by unfold g6;refine Ends.cond (λ_=>Ends.room (by simp;omega) ?_) λ_=>?_;have k:=uh (l:=l) (a:=(4,(0,0,0,0,0,0,0,0,0,0,0,0,0,0,0,([]:Bytes)),0,0,([]:Bytes),0)) (by simp[rV]);exact hk _ _ k.1 k.2 hc;exact Ends.cond (λ_=>Ft hl hc hk) λ_=>Ends.cond (λ_=>Ft hl hc hk) λ_=>Ft hl hc hk
theorem NX {R:Type}{Q:R→Prop}{k0:List Act→oZ→Option R}{r:Bool}{l:List Act}{ps:List aG}{i:Int}{x:Bytes}{c:oZ}(hl:l.length≤900)(hx:x.length≤382)(hc:Cu c)(hk:∀l' c',l'.length≤l.length+2→(∀y∈l',y∈l∨rV y)→Cu c'→Ends (k0 l' c') Q):Ends (iC k0 r l ps i x c) Q:=by unfold iC;have k:=uh (l:=l) (a:=(2,(0,0,0,0,0,0,0,0,0,0,0,0,0,0,0,([]:Bytes)),0,0,x,0)) ⟨by simp,hx,by simp,by simp⟩;generalize hL:l++[((2,(0,0,0,0,0,0,0,0,0,0,0,0,0,0,0,([]:Bytes)),0,0,x,0):Act)]=L at k⊢;have hk2:∀l' c',l'.length≤L.length+1→(∀y∈l',y∈L∨rV y)→Cu c'→Ends (k0 l' c') Q:=λl' c' h1 h2 h3=>hk _ _ (by omega) (λy hy=>by rcases h2 y hy with h|h;exact k.2 y h;exact Or.inr h) h3;refine Ends.room (by simp;omega) ((dA hc (by decide)).bind λr8 p8=>?_);refine Ends.cond (λ_=>Ends.room (by simp;omega) ?_) λ_=>?_;have k:=uh (l:=L) (a:=(3,(0,0,0,0,0,0,0,0,0,0,0,0,0,0,0,([]:Bytes)),0,0,([]:Bytes),0)) (by simp[rV]);exact hk2 _ _ k.1 k.2 p8.2;exact Ends.cond (λ_=>Kf (by omega) p8.2 hk2) λ_=>Kf (by omega) p8.2 hk2
theorem RR {R:Type}{Q:R→Prop}{k0:List Act→Int→oZ→Option R}{r:Bool}{l:List Act}{ps:List aG}{i:Int}{c:oZ}(hl:l.length≤900)(h0:0≤i)(h1:i<(ps.length:Int))(hn:ps.length≤1000)(hc:Cu c)(hk:∀l' c',l'.length≤l.length+2→(∀y∈l',y∈l∨rV y)→Cu c'→Ends (k0 l' (i+1) c') Q):Ends (ld k0 r l ps i c) Q:=by
 have e:ar (i+1)=i+1:=wrap64 (by omega) (by omega);unfold ld;refine Ends.idx h0 h1 λhi=>?_;have hf:=IA ps[i.toNat];rw[JK,ae];refine(nn hc 12).bind λr4 p4=>Ends.cond (λ_=>?_) λ_=>NX hl hf p4 λl' c' g1 g2 g3=>by unfold iB;rw[e];exact hk _ _ g1 g2 g3
 refine(uj p4 _).bind λr5 p5=>(vg p5.2 1).bind λr6 p6=>?_;rw[u7 _ _ _ (by omega),ae];exact NX hl (by rw[yO];exact hf) p6.2 λl' c' g1 g2 g3=>by unfold iB;rw[e];exact hk _ _ g1 g2 g3
theorem MB {c:oZ}(h:Cu c)(r:Bool):Ends (oW c r) λx=>(x.1.length≤20∧∀a∈x.1,rV a)∧Cu x.2:=by unfold oW;refine(Nc h (m:=10) (by omega) (by omega)).bind λr1 p1=>?_;have hn:=p1.1.2.2;refine Ends.l6 (λx=>0≤x.2.1∧(x.1.length:Int)≤2*x.2.1∧x.2.1≤(r1.1.length:Int)∧(∀a∈x.1,rV a)∧Cu x.2.2) (λx=>((r1.1.length:Int)-x.2.1).toNat) ⟨by simp,by simp,by simp,by simp,p1.2⟩ (by simp;omega) λx nx hx hn=>?_;unfold og;refine Ends.cond (λk=>?_) λk=>Ends.pure ⟨⟨by have:=hx.2.1;have:=hx.2.2.1;show x.1.length≤20;omega,hx.2.2.2.1⟩,hx.2.2.2.2⟩;have k:=aL k;have h2:=hx.2.1;refine RR (by omega) hx.1 k (by omega) hx.2.2.2.2 λl' c' g1 g2 g3=>hn _ ⟨?_,?_,?_,?_,g3⟩ ?_;show 0≤x.2.1+1;have:=hx.1;omega;show(l'.length:Int)≤2*(x.2.1+1);omega;show x.2.1+1≤(r1.1.length:Int);omega;intro a ha;rcases g2 a ha with h|h;exact hx.2.2.2.1 a h;exact h;show((r1.1.length:Int)-(x.2.1+1)).toNat<((r1.1.length:Int)-x.2.1).toNat;omega
theorem Nd (n x:Int)(h0:0≤n)(h1:n≤1000000):Ends (eh n x) λr=>(r.length:Int)=n:=by unfold eh;rw[au ⟨h0,ed _⟩];refine Ends.room (by omega) (Ends.l6 (λy=>(y.1.length:Int)=n∧0≤y.2∧y.2≤n) (λy=>(n-y.2).toNat) ⟨by simp;omega,by simp,h0⟩ (by simp;omega) λy nx hy hn=>?_);unfold iw;refine Ends.cond (λk=>?_) λk=>Ends.pure (by simp[bytesOf];exact hy.1);have k:=aL k;rw[wrap64 (n:=y.2+1) (by omega) (by omega)];refine Ends.idx hy.2.1 (by omega) λ_=>Ends.idx hy.2.1 (by omega) λ_=>hn _ ⟨?_,?_,?_⟩ ?_;show((List.set _ _ _).length:Int)=n;rw[aO];exact hy.1;show 0≤y.2+1;omega;show y.2+1≤n;omega;show(n-(y.2+1)).toNat<(n-y.2).toNat;omega
theorem EB:gu=some (List.replicate 8 (0,(0,0,0,0,0),0)):=by unfold gu;rw[au (by decide),aS (by decide)];rfl
theorem Gs {k:Bytes}(hk:k.length=16):dh (([]:List dw),List.replicate 8 (0,(0,0,0,0,0),0),k,[0]) 1=true:=by
 have ht:gv (List.replicate 8 (0,(0,0,0,0,0),0))=true:=by decide+kernel
 have hs:jh (k,[0]) 1=true:=by unfold jh;simp only[hk];decide+kernel
 unfold dh;rw[show mM ([]:List dw)=true from rfl,ht,hs];rfl
theorem ID {c:oZ}(h:Cu c):Ends (oV c) λr=>xo r.1∧Cu r.2:=by
 unfold oV;refine Ends.l6 (λx=>0≤x.1∧x.1≤4∧Cu x.2) (λx=>(4-x.1).toNat) ⟨by simp,by simp,h⟩ (by simp) λx nx hx hn=>?_;unfold od;refine Ends.cond (λk=>?_) λk=>?_;have k:=aL k;refine(LH hx.2.2).bind λr1 p1=>?_;refine Ends.l6 (λy=>0≤y.1∧mX y.2) (λy=>((y.2.1.length:Int)-y.1).toNat) ⟨by simp,p1.1.1⟩ (by have:=p1.1.1.r;simp;omega) λy ny hy hm=>?_;unfold oe;refine Ends.cond (λk2=>?_) λk2=>?_;have k2:=aL k2;have hr:=hy.2.r;rw[wrap64 (n:=y.1+1) (by omega) (by omega)];refine Ends.idx hy.1 k2 λ_=>Ends.idx hy.1 k2 λ_=>hm _ ⟨?_,⟨?_,hy.2.t,hy.2.k,hy.2.p⟩⟩ ?_;show 0≤y.1+1;have:=hy.1;omega;show(List.set _ _ _).length≤100;rw[aO];exact hr;show(((List.set _ _ _).length:Int)-(y.1+1)).toNat<_;rw[aO];omega;refine(Dw p1.2).bind λr6 p6=>(dA p6.2 (by decide)).bind λr7 p7=>(dA p7.2 (by decide)).bind λr8 p8=>(dA p8.2 (by decide)).bind λr9 p9=>?_;have hf:r6.1.2.2.length≤1000:=by rcases p6.1.2 with e|e<;>rw[e]<;>simp
 refine(yE _ _ _ _ _ _ hf hy.2).bind λr10 p10=>Ends.cond (λk3=>Ends.pure ⟨p10.1 k3,p9.2⟩) λ_=>?_;rw[wrap64 (n:=x.1+1) (by omega) (by have:=hx.2.1;omega)];refine hn _ ⟨by show 0≤x.1+1;have:=hx.1;omega,by show x.1+1≤4;omega,p9.2⟩ (by show(4-(x.1+1)).toNat<(4-x.1).toNat;omega);simp only[EB,ae];refine(Nd 16 5 (by omega) (by omega)).bind λr14 p14=>?_;refine(yE 1 (2,false,([]:List Int)) (([]:List dw),List.replicate 8 (0,(0,0,0,0,0),0),r14,[0]) true 1 0 (by simp) ⟨by simp,by simp,by show r14.length=16;omega,by simp⟩).bind λr15 p15=>Ends.pure ⟨p15.1 (p15.2 (by omega) (by decide+kernel) (Gs (by omega)) (by decide+kernel)),hx.2.2⟩
def Fi (h:Host)(s:List Stream):Host:=(h.1,h.2.1,h.2.2.1,h.2.2.2.1,h.2.2.2.2.1,h.2.2.2.2.2.1,h.2.2.2.2.2.2.1,h.2.2.2.2.2.2.2.1,h.2.2.2.2.2.2.2.2.1,s,h.2.2.2.2.2.2.2.2.2.2)
theorem zK {h:Host}(f:xo h){s:List Stream}(h1:s.length≤2000)(h2:∀x∈s,x.2.2.1=[]):xo (Fi h s):=by have g:=f.good;have z:=f.sz.z;refine⟨⟨g.mem,g.maps,g.tx,g.flt,g.lens,g.ste,g.rx,g.pool,g.vec,g.J4⟩,⟨⟨z.1,z.2.1,z.2.2.1,z.2.2.2.1,z.2.2.2.2.1,z.2.2.2.2.2.1,z.2.2.2.2.2.2.1,z.2.2.2.2.2.2.2.1,z.2.2.2.2.2.2.2.2.1,⟨h1,λx hx=>?_⟩,z.2.2.2.2.2.2.2.2.2.2⟩,f.sz.t⟩,f.maps,f.led⟩;refine⟨⟨trivial,trivial,trivial,trivial,trivial⟩,trivial,?_,trivial⟩;show x.2.2.1.length≤2000;rw[h2 x hx];simp
theorem F1 {c:oZ}(h:Cu c){l:List Act}(hl:l.length≤20)(ha:∀a∈l,rV a):Ends (nG c l) λr=>xo r.1∧Cu r.2:=by unfold nG;refine(ID h).bind λr1 p1=>?_;refine Ends.l6 (λx=>0≤x.2∧(x.1.length:Int)≤x.2∧x.2≤(l.length:Int)) (λx=>((l.length:Int)-x.2).toNat) ⟨by simp,by simp,by simp⟩ (by simp;omega) λx nx hx hn=>?_;unfold mT;refine Ends.cond (λk=>?_) λk=>?_;have k:=aL k;rw[wrap64 (n:=x.2+1) (by omega) (by omega)];refine Ends.idx hx.1 k λhi=>?_;have hx2:=ha _ (bP hi);replace hx2:=hx2.2.1;rw[AY _ (by omega),ae];refine Ends.cond (λ_=>Ends.room (by simp;omega) (hn _ ⟨?_,?_,?_⟩ ?_)) λ_=>hn _ ⟨?_,?_,?_⟩ ?_;show 0≤x.2+1;omega;show((x.1++[_]).length:Int)≤x.2+1;simp;omega;show x.2+1≤_;omega;show((l.length:Int)-(x.2+1)).toNat<_;omega;show 0≤x.2+1;omega;show(x.1.length:Int)≤x.2+1;omega;show x.2+1≤_;omega;show((l.length:Int)-(x.2+1)).toNat<_;omega;exact(Nq p1.2 (by omega)).bind λr6 p6=>Ends.pure ⟨zK p1.1 (by omega) p6.1.2,p6.2⟩
theorem NA {n:Int}{h:Host}(g:Good n h)(hn:n≤1000000000000):wF h=(h.2.2.2.2.2.2.2.1,h.2.2.2.2.2.2.2.2.1,(h.2.2.2.1.length:Int),h.2.2.2.2.2.2.2.2.2.1,([]:List Bytes))∧za (wF h)=true:=by
 have e:wF h=(h.2.2.2.2.2.2.2.1,h.2.2.2.2.2.2.2.2.1,(h.2.2.2.1.length:Int),h.2.2.2.2.2.2.2.2.2.1,([]:List Bytes)):=by unfold wF;rw[g.ok hn];rfl
 refine⟨e,?_⟩;rw[e];unfold za;rw[ab];exact⟨g.flt,g.ste⟩
theorem ES {a:List Int}(ha:a.length≤1048576):Ends (jb a) λr=>xo r.1∧r.2.length≤20∧∀x∈r.2,rV x:=by unfold jb;exact(QJ ha).bind λr1 p1=>(MB p1 false).bind λr2 p2=>(F1 p2.2 p2.1.1 p2.1.2).bind λr3 p3=>Ends.pure ⟨p3.1,p2.1.1,p2.1.2⟩
theorem lL:∀(ps:List aG){n:Nat}{l:List Stream},jA n (.sl bF) l→jA (n+322*ps.length) (.sl bF) (ps.foldl ef l)
 |[],n,l,h=>h
 |p::ps,n,l,h=>by have:=lL ps (BW (p:=p) h);rw[List.foldl_cons];exact this.mono (by simp only[cM];omega)
theorem zH (l:List Stream)(ps:List aG)(h:jA 1000000 (.sl bF) l)(hp:ps.length≤1000):ir l ps=some (ps.foldl ef l):=by
 have hl:l.length≤1000000:=h.1;have key:Ends (ir l ps) λr=>r=ps.foldl ef l:=by
  unfold ir;refine Ends.room (by simp;omega) (Ends.l6 (λx=>0≤x.2∧x.2≤(ps.length:Int)∧x.1=(ps.take x.2.toNat).foldl ef l) (λx=>((ps.length:Int)-x.2).toNat) ⟨by simp,by simp,by simp⟩ (by simp;omega) λx nx hx hn=>?_);obtain⟨y,i⟩:=x;obtain⟨x1,x2,x3⟩:=hx;simp only at x1 x2 x3;unfold ln;refine Ends.cond (λk=>?_) λk=>?_;have k:=aL k;simp only at k;refine Ends.idx x1 k λhi=>?_;have hy:jA 100000000 (.sl bF) y:=by rw[x3];refine(lL (ps.take i.toNat) h).mono ?_;rw[bp];omega
  simp only;rw[E3 y _ hy,ae,wrap64 (by omega) (by omega)];refine hn _ ⟨by show 0≤i+1;omega,by show i+1≤(ps.length:Int);omega,?_⟩ (by show((ps.length:Int)-(i+1)).toNat<((ps.length:Int)-i).toNat;omega);show ef y ps[i.toNat]=(ps.take (i+1).toNat).foldl ef l;rw[show(i+1).toNat=i.toNat+1 by omega,List.take_succ_eq_append_getElem hi,List.foldl_append,←x3];rfl;have k:=of_decide_eq_false k;simp only at k;refine Ends.pure ?_;show y=_;rw[x3,show i.toNat=ps.length by omega,List.take_length]
 obtain⟨x,h1,rfl⟩:=key;exact h1
theorem Fu {l:List Stream}{s:Stream}(h:s∈l):pJ l l s.1=true:=by rcases vy s.1 l with g|⟨x,_,hx⟩;exact absurd rfl (g.2 s h);unfold pJ;rw[hx];simp
theorem JD (l:List Stream)(h:l.length≤1000000000):kz l l=some true:=by rw[KN l l (by omega) (by omega)];have:l.all (λs=>pJ l l s.1)=true:=az.2 λs hs=>Fu hs;rw[this];rfl
theorem yZ (a:List Int)(ha:J9 (.sl (.int .u8)) a):mK a=some true:=by
 refine Ends.true ?_;unfold mK;refine OX rfl λhl=>?_;rw[ai];refine(ES hl).bind λr2 p2=>?_;have z:=p2.1.sz;have s:=NA p2.1.good (by omega);have zs:=AX r2.1 (z.z.mono (show 2000≤2000 by omega));rw[Gb r2.1 (z.z.mono (by omega)) (z.sz (by omega)),ae];obtain⟨h,acts⟩:=r2;simp only at p2 z s zs⊢;have hflt:h.2.2.2.2.2.2.2.1.2.2.length≤2000:=z.z.2.2.2.2.2.2.2.1.2.2.1;have hst:jA 2000 (.sl bF) h.2.2.2.2.2.2.2.2.2.1:=z.z.2.2.2.2.2.2.2.2.2.1;have hsz:=z.z.2.2.2.2.2.2.2.2.1;have hs1:h.2.2.2.2.2.2.2.2.1.1.length≤2000:=hsz.1.1;have hs2:h.2.2.2.2.2.2.2.2.1.2.1.length≤2000:=hsz.2.1.1;have hs3:h.2.2.2.2.2.2.2.2.1.2.2.2.length≤2000:=hsz.2.2.2.1;have hsb:=s.2;rw[s.1]at zs hsb⊢;refine Ends.l6 (λx=>0≤x.2.1∧x.2.1≤(acts.length:Int)∧(x.1.length:Int)≤x.2.1∧x.2.2=(h.2.2.2.2.2.2.2.1,h.2.2.2.2.2.2.2.2.1,(h.2.2.2.1.length:Int),x.1.foldl ef h.2.2.2.2.2.2.2.2.2.1,([]:List Bytes))) (λx=>((acts.length:Int)-x.2.1).toNat) ⟨by simp,by simp,by simp,rfl⟩ (by simp;omega) λx nx hx hn=>?_;obtain⟨ps,i,sf⟩:=x;obtain⟨x1,x2,x3,x4⟩:=hx;simp only at x1 x2 x3 x4;have hps:ps.length≤20:=by omega
 have hf:=lL ps hst;have zf:jA 100000000 tr sf:=by rw[x4];exact⟨z.z.2.2.2.2.2.2.2.1.mono (by omega),hsz.mono (by omega),trivial,hf.mono (by omega),⟨bw _,λ_ hh=>nomatch hh⟩⟩
 have hb:za sf=true:=by rw[x4];exact hsb
 unfold km;refine Ends.cond (λk=>?_) λk=>?_;have k:=aL k;simp only at k;simp only;rw[wrap64 (n:=i+1) (by omega) (by omega)]
 have step:∀ps' sf',ps'.length≤ps.length+1→sf'=(h.2.2.2.2.2.2.2.1,h.2.2.2.2.2.2.2.2.1,(h.2.2.2.1.length:Int),ps'.foldl ef h.2.2.2.2.2.2.2.2.2.1,([]:List Bytes))→Ends (nx (ps',i+1,sf')) (λb=>b=true):=λps' sf' h1 h2=>
  hn _ ⟨by show 0≤i+1;omega,by show i+1≤(acts.length:Int);omega,by show(ps'.length:Int)≤i+1;omega,h2⟩ (by show((acts.length:Int)-(i+1)).toNat<((acts.length:Int)-i).toNat;omega)
 refine Ends.idx x1 k λhi=>Ends.cond (λ_=>step _ _ (by omega) x4) λ_=>Ends.idx x1 k λ_=>?_;have hfr:(acts[i.toNat]).2.2.2.2.1.length≤382:=(p2.2.2 _ (bP hi)).2.1;rw[DM sf _ zf (by omega),ae];refine Ends.idx x1 k λ_=>?_;generalize (acts[i.toNat]).2.2.2.2.1=fr at hfr⊢;rw[AY fr (by omega),ae];have keep:wi sf fr=false→sG sf fr=sf:=λht=>by unfold sG;rw[ht];rfl
 have tk:wi sf fr=(((nU fr).2==0)&&(nJ h.2.2.2.2.2.2.2.1 (nU fr).1&&(qu h.2.2.2.2.2.2.2.2.1 (h.2.2.2.1.length:Int) (nU fr).1 != -1))):=by unfold wi;rw[hb,bR,x4]
 cases hc:(nU fr).2==0 with
 |false=>rw[hc]at tk;simp only[ai,ae];exact step _ _ (by omega) (by rw[keep tk];exact x4)
 |true=>
  rw[hc]at tk;simp only[ah];rw[E2 _ _ (by omega),ae];cases hacc:nJ h.2.2.2.2.2.2.2.1 (nU fr).1 with
  |false=>rw[hacc]at tk;simp only[ai,ae];exact step _ _ (by omega) (by rw[keep tk];exact x4)
  |true=>
   rw[hacc]at tk;simp only[ah];rw[JQ _ _ _ (by omega) (by omega) (by omega),ae,ae];rcases JU (s:=h.2.2.2.2.2.2.2.2.1) (q:=(h.2.2.2.1.length:Int)) (p:=(nU fr).1)with e|⟨m,e,_⟩;rw[e]at tk⊢;exact step _ _ (by omega) (by rw[keep tk];exact x4);have ht:wi sf fr=true:=by rw[tk,e];simp[bne]
   rw[e,ak (by omega),ah];refine Ends.room (by simp;omega) (step _ _ (by simp) ?_);unfold sG;rw[ht,x4,List.foldl_append];rfl
 simp only;rw[zH _ _ (hst.mono (by omega)) (by omega),ae,x4];have hln:(ps.foldl ef h.2.2.2.2.2.2.2.2.2.1).length≤1000000:=bO hf.1 (by omega);simp only;rw[vW _ (by omega),ae,ah];rw[x4]at zf hb;rw[DQ _ (by show h.2.2.2.2.2.2.2.1.2.2.length≤_;omega) (by show h.2.2.2.2.2.2.2.2.1.1.length≤_;omega) (by show h.2.2.2.2.2.2.2.2.1.2.1.length≤_;omega) (by show h.2.2.2.2.2.2.2.2.1.2.2.2.length≤_;omega),ae,hb,ah,JD _ (by omega),ae,ae];exact Ends.pure rfl
end
end Go.Pu
