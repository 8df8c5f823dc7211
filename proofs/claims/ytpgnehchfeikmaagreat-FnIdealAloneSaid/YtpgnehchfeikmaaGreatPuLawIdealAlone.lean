import Derived.KernelRfl
import Derived.Test.YtpgnehchfeikmaaGreatPure
import Derived.Test.YtpgnehchfeikmaaGreatPuX1
namespace Go.Pu
open Go.Dn
set_option linter.unusedSimpArgs false
set_option linter.unusedVariables false
noncomputable section
/- The opening of a receive queue, and a host's poll. -/
def ij (i:Nat):Int:=1280+(i:Int)*1792
theorem SW {i:Nat}(h:i≤8):aw (1280+aw ((i:Int)*1792))=ij i:=by rw[wrap64 (n:=(i:Int)*1792) (by omega) (by omega),wrap64 (by omega) (by omega)];rfl
theorem uz (a b n:Int)(h:n≤1000):(iR a b n).1.2.2.2.length≤1000:=by unfold iR;cases dX (a,b,n,[])with|false=>simp|true=>simp[upto];omega
def Rk (i:Nat):eE:=((ij i,4,0,0),(ij i+64,4,0),(ij i+64,4,0),((0,0,0,0,0,0,0,0,0,0,0,0,0,0,0,([]:Bytes)),0,0),false,0)
def vY:nI:=((0,16,0,0),(iR 256 128 8).1,([]:List w6),0)
theorem E4:qa=some vY:=by rw[qa,Ao];rfl
def sa (l:List bq)(m:List Bytes)(i:Nat):List Bytes×(Int×Int×Int×Int)×dZ×Int:=
 rM l (sf l m 0 (ij i) (ti 128) false).1 0 (ij i,4,0,0) (iR (ij i+128) 384 4).1
def EO (h:Host)(i:Nat):Host:=
 ((sa h.2.1 h.1 i).1,h.2.1,h.2.2.1,h.2.2.2.1.set i ((sa h.2.1 h.1 i).2.1,(ij i+64,4,0),(ij i+64,4,0),((0,0,0,0,0,0,0,0,0,0,0,0,0,0,0,([]:Bytes)),0,0),false,(match h.2.2.2.1[i]? with|some x=>x.2.2.2.2.2|none=>0)),h.2.2.2.2.1.set i (sa h.2.1 h.1 i).2.2.1,h.2.2.2.2.2)
theorem JR (h:Host)(i:Nat)(hi:i≤8)(h1:i<h.2.2.2.1.length)(h2:i<h.2.2.2.2.1.length)(hl:h.2.1.length≤1000000000)(hm:h.1.length≤1000000000):oS h (i:Int)=some ((),EO h i):=by have hb:ij i=1280+(i:Int)*1792:=rfl;have hz:dI 128 0=some (ti 128):=C7 128 (by omega);have hf:=Ru h.2.1 (sf h.2.1 h.1 0 (ij i) (ti 128) false).1 0 (ij i,4,0,0) (iR (ij i+128) 384 4).1 hl (by rw[CV];exact hm) (bS (uz (ij i+128) 384 4 (by omega)) (by omega));unfold oS;simp only[SW hi];rw[wrap64 (n:=ij i+128) (by omega) (by omega),wrap64 (n:=ij i+64) (by omega) (by omega),Ao,hz];simp only[bm h1,bm h2,ae,D7 h.2.1 h.1 0 (ij i) (ti 128) hl hm (by omega),hf,aH,EO,sa,List.getElem?_eq_getElem h1]
def XJ (h:Host)(i:Nat)(n:Int):Int×Host:=
 match h.2.2.2.1[i]?,h.2.2.2.2.1[i]? with
 |some rx,some pl=>
  ((Jp h.2.1 h.1 0 rx pl h.2.2.2.2.2.2.2.2.2.1 n).2.2.2.2,(Jp h.2.1 h.1 0 rx pl h.2.2.2.2.2.2.2.2.2.1 n).1,h.2.1,h.2.2.1,h.2.2.2.1.set i (Jp h.2.1 h.1 0 rx pl h.2.2.2.2.2.2.2.2.2.1 n).2.1,h.2.2.2.2.1.set i (Jp h.2.1 h.1 0 rx pl h.2.2.2.2.2.2.2.2.2.1 n).2.2.1,h.2.2.2.2.2.1,h.2.2.2.2.2.2.1,h.2.2.2.2.2.2.2.1,h.2.2.2.2.2.2.2.2.1,(Jp h.2.1 h.1 0 rx pl h.2.2.2.2.2.2.2.2.2.1 n).2.2.2.1,h.2.2.2.2.2.2.2.2.2.2)
 |_,_=>(0,h)
theorem Td (l:List bq)(m:List Bytes)(d:Int)(r:Int×Int×Int×Int)(p:dZ):(rM l m d r p).1.length=m.length:=by unfold rM;cases !eO r|| !dX p with|true=>rfl|false=>exact(Ep ..).1
theorem KH (l:List bq)(m:List Bytes)(d:Int)(r:Int×Int×Int×Int)(p:dZ):(rM l m d r p).2.2.1.2.2.2.length≤p.2.2.2.length:=by unfold rM;cases !eO r|| !dX p with|true=>exact aQ _|false=>show(p.2.2.2.drop _).length≤_;rw[bc];omega
structure zQ (k:Nat) (a b:Host):Prop where
 mem:b.1.length=a.1.length
 maps:b.2.1=a.2.1
 tx:b.2.2.1=a.2.2.1
 rx:b.2.2.2.1.length=a.2.2.2.1.length
 rxs:∀j,k≤j→b.2.2.2.1[j]?=a.2.2.2.1[j]?
 pl:b.2.2.2.2.1.length=a.2.2.2.2.1.length
 vec:b.2.2.2.2.2.1.length=a.2.2.2.2.2.1.length
 vecs:∀j,k≤j→b.2.2.2.2.2.1[j]?=a.2.2.2.2.2.1[j]?
 pol:b.2.2.2.2.2.2.1.length=a.2.2.2.2.2.2.1.length
 F9:b.2.2.2.2.2.2.2.1=a.2.2.2.2.2.2.2.1
 ste:b.2.2.2.2.2.2.2.2.1=a.2.2.2.2.2.2.2.2.1
theorem zQ.trans {k:Nat}{a b c:Host}(h:zQ k a b)(g:zQ k b c):zQ k a c:=⟨g.mem.trans h.mem,g.maps.trans h.maps,g.tx.trans h.tx,g.rx.trans h.rx,λj hj=>(g.rxs j hj).trans (h.rxs j hj),g.pl.trans h.pl,g.vec.trans h.vec,λj hj=>(g.vecs j hj).trans (h.vecs j hj),g.pol.trans h.pol,g.F9.trans h.F9,g.ste.trans h.ste⟩
theorem zQ.up {k m:Nat}{a b:Host}(h:zQ k a b)(hk:k≤m):zQ m a b:=⟨h.mem,h.maps,h.tx,h.rx,λj hj=>h.rxs j (by omega),h.pl,h.vec,λj hj=>h.vecs j (by omega),h.pol,h.F9,h.ste⟩
structure Py (n:Nat) (h:Host):Prop where
 z:fB n kN h
 t:h.2.2.1.2.1.2.2.2.length+(eZ h.2.2.1.2.2.1).length≤n
theorem Py.mono {n m:Nat}{h:Host}(k:Py n h)(hn:n≤m):Py m h:=⟨k.z.mono hn,bS k.t hn⟩
theorem Py.sz {n:Nat}{h:Host}(k:Py n h)(hn:n≤1000000000):Ff h:=by have z:fB 1000000000 kN h:=k.z.mono hn;exact⟨z.1.1,z.2.1.1,z.2.2.1.2.2.1.1,bS k.t hn,z.2.2.2.2.2.2.2.1.2.2.1,z.2.2.2.2.2.2.2.2.1.1.1,z.2.2.2.2.2.2.2.2.1.2.1.1,z.2.2.2.2.2.2.2.2.1.2.2.2.1,λp hp=>(z.2.2.2.2.1.2 p hp).2.2.2.1⟩
theorem Py.of {h:Host}(k:Ec kN h≤1048576):Py 1048576 h:=by
 refine⟨yL k,?_⟩;have hb:=Mm h.2.2.1.2.2.1;have h1:Ec tF h.2.2.1≤Ec kN h:=by simp only[Ec];omega
 have hp:h.2.2.1.2.1.2.2.2.length+Ec (.sl uR) h.2.2.1.2.2.1≤Ec tF h.2.2.1:=by simp only[Ec];omega
 omega
def zZ (p:dZ):List w6→dZ
 |[]=>p
 |x::l=>zZ (NX p x.2.2).1 l
def LV (g:Nat→Host→Host):Nat→Host→Host
 |0,h=>h
 |k+1,h=>g k (LV g k h)
structure Me (a b:Host):Prop where
 maps:b.2.1=a.2.1
 tx:b.2.2.1=a.2.2.1
 rx:b.2.2.2.1.length=a.2.2.2.1.length
 pl:b.2.2.2.2.1.length=a.2.2.2.2.1.length
 vec:b.2.2.2.2.2.1=a.2.2.2.2.2.1
 pol:b.2.2.2.2.2.2.1=a.2.2.2.2.2.2.1
 ret:b.2.2.2.2.2.2.2.2.2.2.2.2.2.1=a.2.2.2.2.2.2.2.2.2.2.2.2.2.1
theorem Me.trans {a b c:Host}(h:Me a b)(k:Me b c):Me a c:=⟨k.1.trans h.1,k.2.trans h.2,k.3.trans h.3,k.4.trans h.4,k.5.trans h.5,k.6.trans h.6,k.7.trans h.7⟩
def TO (h:Host)(k:Nat):Host:=LV (λi s=>(XJ s i 1000).2) k h
def acm (h:Host)(l:List Int):Host:=(h.1,h.2.1,h.2.2.1,h.2.2.2.1,h.2.2.2.2.1,h.2.2.2.2.2.1,h.2.2.2.2.2.2.1,h.2.2.2.2.2.2.2.1,h.2.2.2.2.2.2.2.2.1,h.2.2.2.2.2.2.2.2.2.1,h.2.2.2.2.2.2.2.2.2.2.1,h.2.2.2.2.2.2.2.2.2.2.2.1,h.2.2.2.2.2.2.2.2.2.2.2.2.1,h.2.2.2.2.2.2.2.2.2.2.2.2.2.1++l,h.2.2.2.2.2.2.2.2.2.2.2.2.2.2)
def T9 (h:Host):Host:=(h.1,h.2.1,(vY.1,vY.2.1,vY.2.2.1,h.2.2.1.2.2.2),h.2.2.2)
theorem OM (l:List bq)(m:List Bytes)(i:Nat):(sa l m i).1.length=m.length:=by unfold sa;rw[Td,CV]
def afZ (W:List w6)(i:Nat)(s:Host):Host:=match W[i]? with|some x=>acm s [x.1]|none=>s
def polled (h:Host):Host:=TO h h.2.2.2.1.length
def returned (h:Host)(k:Nat):Host:=LV (afZ h.2.2.1.2.2.1) k (polled h)
def acu (h:Host):Host:=T9 (returned h h.2.2.1.2.2.1.length)
def txt (_:Int):Bytes:=[]
def PA:(t:CT)→t.D→Nat
 | .int _,_=>1
 | .bool,_=>1
 | .str,_=>1
 | .sl e,xs=>(xs.map (PA e)).sum
 | .pair a b,x=>PA a x.1+PA b x.2
def mkL {α:Type}(f:α→Int→α)(c:α→Nat):List α→Int→List α
 |[],_=>[]
 |x::xs,k=>f x k::mkL f c xs (k+c x)
def mk:(t:CT)→t.D→Int→t.D
 | .int _,_,k=>k
 | .bool,_,k=>Int.tmod k 3==0
 | .str,_,k=>txt k
 | .sl e,xs,k=>mkL (mk e) (PA e) xs k
 | .pair a b,x,k=>(mk a x.1 k,mk b x.2 (k+PA a x.1))
def YM (a:Act):Option Bool:=
 aa (aa (some (cM a.1 0 6)) λr1=>cond (!r1) (some true) (some (decide ((a.2.2.2.2.1.length:Int)>600)))) λq2=>
 cond q2 (some false) (
 aa (cond (a.1 !=0) (cond (!((a.2.1.1==0)&&((a.2.1.2.1==0)&&((a.2.1.2.2.1==0)&&((a.2.1.2.2.2.1==0)&&((a.2.1.2.2.2.2.1==0)&&((a.2.1.2.2.2.2.2.1==0)&&((a.2.1.2.2.2.2.2.2.1==0)&&((a.2.1.2.2.2.2.2.2.2.1==0)&&((a.2.1.2.2.2.2.2.2.2.2.1==0)&&((a.2.1.2.2.2.2.2.2.2.2.2.1==0)&&((a.2.1.2.2.2.2.2.2.2.2.2.2.1==0)&&((a.2.1.2.2.2.2.2.2.2.2.2.2.2.1==0)&&((a.2.1.2.2.2.2.2.2.2.2.2.2.2.2.1==0)&&((a.2.1.2.2.2.2.2.2.2.2.2.2.2.2.2.1==0)&&((a.2.1.2.2.2.2.2.2.2.2.2.2.2.2.2.2.1==0)&&((a.2.1.2.2.2.2.2.2.2.2.2.2.2.2.2.2.2==([]:Bytes))&&true))))))))))))))))) (some true) (cond (a.2.2.1 !=0) (some true) (some (a.2.2.2.1 !=0)))) (some false)) λq3=>
 cond q3 (some false) (
 aa (cond (a.1==2) (cond (a.1==5) (some true) (some (a.2.2.2.2.2==0))) (cond (a.2.2.2.2.1==([]:Bytes)) (cond (a.1==5) (some true) (some (a.2.2.2.2.2==0))) (some false))) λq4=>some q4))
def Ke (a:Act):Bool:=(YM a).getD false
theorem Py.tx {n:Nat}{h:Host}(k:Py n h)(hn:n≤1000000000):acw h.2.2.1:=
 have z:fB 1000000000 kN h:=k.z.mono hn
 ⟨z.2.2.1.2.1.2.2.2.1,z.2.2.1.2.2.1.1,λx hx=>(z.2.2.1.2.2.1.2 x hx).2.2.1⟩
def Qi (f:gx):List Stream→Int→Int
 |[],_=> -1
 |s::r,i=>if s.1=f then i else Qi f r (i+1)
def PM (a b:List Stream)(f:gx):Bool:=
 match idx a (Qi f a 0),idx b (Qi f b 0)with
 |some x,some y=>decide (x=y)
 |_,_=>false
theorem Lo {m:List Bytes}(h:dH m=true)(a:Int)(s:Bytes):dH (qe m a s).1=true:=by
 unfold qe;cases hw:kK m a (s.length:Int)with|false=>exact h|true=>?_
 simp only[kK,ab,aD]at hw;exact pg.2 (uO s.length (pg.1 hw.1) (by omega)).1
theorem I9:∀(q:List (Int×Int)){m:List Bytes}(s:Bytes),dH m=true→dH (D3 q m s)=true
 |[],_,_,h=>h
 |p::q,m,s,h=>by rw[D3];exact I9 q _ (Lo h _ _)
theorem Ja {m:List Bytes}(h:dH m=true)(l:List bq)(d a:Int)(s:Bytes)(w:Bool):dH (sf l m d a s w).1=true:=by unfold sf;cases (mw l m d a (s.length:Int) w).2 with|false=>exact h|true=>exact I9 _ _ h
theorem Jb {m:List Bytes}(h:dH m=true)(l:List bq)(d:Int)(r:Int×Int×Int×Int)(s:Bytes):dH (dA l m d r s).1=true:=by
 unfold dA;cases (oZ r==0)||((s.length:Int) !=16)with|true=>exact h|false=>?_
 cases (sf l m d (u7 r r.2.2.2) s true).2 with|false=>exact h|true=>exact Ja h ..
theorem CY {b n x y:Int}(hb:0≤b∧b≤130944)(hn:n=2∨n=4∨n=8∨n=16)(hx:0≤x∧x≤2*n-1)(hy:0≤y∧y≤2*n-1)(hu:(y-x)%(2*n)≤n):eO (b,n,x,y)=true:=by have hs:gM n=true:=gm.2 hn;simp only[eO,eX,hs,br.2 hb,br.2 hx,br.2 hy,bj,bg,aD];exact hu
theorem zD {r:Int×Int×Int×Int}(h:eO r=true):eX r=(r.2.2.2-r.2.2.1)%(2*r.2.1)∧0≤eX r∧eX r≤r.2.1:=by
 have k:=uF h;have e:eX r=(r.2.2.2-r.2.2.1)%(2*r.2.1):=by unfold eX;rw[au (gm.2 k.2.2.1)]
 simp only[eO,ab,aD]at h;exact⟨e,by rw[e];exact Int.emod_nonneg _ (by omega),h.2.2.2.2⟩
theorem Pr {x n:Int}(hn:0<n)(hx:0≤x∧x≤n-1):Int.tmod (x+1) n=if x+1=n then 0 else x+1:=by rw[dD (by omega)];split;rename_i h;rw[h];exact Int.emod_self;exact Int.emod_eq_of_lt (by omega) (by omega)
theorem O3 {r:Int×Int×Int×Int}(h:eO r=true)(hf:eX r<r.2.1):eO (r.1,r.2.1,r.2.2.1,Int.tmod (r.2.2.2+1) (2*r.2.1))=true∧eX (r.1,r.2.1,r.2.2.1,Int.tmod (r.2.2.2+1) (2*r.2.1))=eX r+1:=by
 have k:=uF h;have u:=zD h;have e:=Pr (x:=r.2.2.2) (n:=2*r.2.1) (by omega) (by omega);have u2:(Int.tmod (r.2.2.2+1) (2*r.2.1)-r.2.2.1)%(2*r.2.1)=eX r+1:=by
  have h1:(Int.tmod (r.2.2.2+1) (2*r.2.1)-r.2.2.1)%(2*r.2.1)=(r.2.2.2+1-r.2.2.1)%(2*r.2.1):=by rw[e];split;rename_i hh;rw[←hh,show(r.2.2.2+1-r.2.2.1)=(0-r.2.2.1)+(r.2.2.2+1) by omega,Int.add_emod_right];rfl
  rw[h1,show r.2.2.2+1-r.2.2.1=(r.2.2.2-r.2.2.1)+1 by omega];have h0:=u.1;generalize r.2.2.2-r.2.2.1=d at h0⊢;rw[Int.add_emod,←h0,Int.emod_eq_of_lt (a:=1) (by omega) (by omega),Int.emod_eq_of_lt (by omega) (by omega)]
 refine⟨CY ⟨k.1,k.2.1⟩ k.2.2.1 ⟨k.2.2.2.1,k.2.2.2.2.1⟩ (by rw[e];split<;>omega) (by rw[u2];omega),?_⟩;unfold eX;rw[au (gm.2 k.2.2.1)];exact u2
theorem NW {r:Int×Int×Int×Int}(h:eO r=true):oZ r=r.2.1-eX r:=by have k:=uF h;have u:=zD h;unfold oZ;rw[h,ah,wrap64 (by omega) (by omega)]
theorem Rh {r:Int×Int×Int×Int}(h:eO r=true)(l:List bq)(m:List Bytes)(d:Int)(s:Bytes):eO (dA l m d r s).2.1=true∧(dA l m d r s).2.1.2.1=r.2.1:=by
 unfold dA;cases hc:(oZ r==0)||((s.length:Int) !=16)with|true=>exact⟨h,rfl⟩|false=>?_
 cases (sf l m d (u7 r r.2.2.2) s true).2 with
 |false=>exact⟨h,rfl⟩
 |true=>
  simp only[Bool.or_eq_false_iff]at hc;have h1:oZ r≠0:=by simpa using hc.1
  rw[NW h]at h1;have u:=zD h;exact⟨(O3 h (by omega)).1,rfl⟩
theorem Ql {n:Int}{l:List Int}:(List.range l.length).all (wP n l)=true↔(∀x∈l,0≤x∧x≤n-1)∧l.Nodup:=by
 rw[az];constructor;intro h;have k:∀i (hi:i<l.length),(0≤l[i]∧l[i]≤n-1)∧l[i]∉l.take i:=by intro i hi;have:=h i (bf.2 hi);unfold wP at this;rw[bT hi,ab,br]at this;exact⟨this.1,by simpa using this.2⟩
 refine⟨λx hx=>?_,?_⟩;obtain⟨i,hi,rfl⟩:=List.getElem_of_mem hx;exact(k i hi).1;rw[List.Nodup,List.pairwise_iff_getElem];intro i j hi hj hij he;refine(k j hj).2 ?_;rw[←he];exact List.mem_take_iff_getElem.2 ⟨i,by omega,rfl⟩;rintro⟨h1,h2⟩ i hi;have hi:=bf.1 hi;unfold wP;rw[bT hi,ab,br];refine⟨h1 _ (aM hi),?_⟩;have:l[i]∉l.take i:=by intro hm;obtain⟨j,hj,he⟩:=List.mem_take_iff_getElem.1 hm;rw[List.Nodup,List.pairwise_iff_getElem]at h2;exact h2 j i (by omega) hi (by omega) he
 simpa using this
theorem yu {p:dZ}:dX p=true↔(0≤p.1∧p.1≤130944)∧(1≤p.2.1∧p.2.1≤512)∧(0≤p.2.2.1∧p.2.2.1≤16)∧(∀x∈p.2.2.2,0≤x∧x≤p.2.2.1-1)∧p.2.2.2.Nodup:=by unfold dX;simp only[ab,br,Ql]
theorem Jr {p:dZ}(h:dX p=true){l:List Int}(hl:l.Sublist p.2.2.2):dX (p.1,p.2.1,p.2.2.1,l)=true:=by have k:=yu.1 h;exact yu.2 ⟨k.1,k.2.1,k.2.2.1,λx hx=>k.2.2.2.1 x (hl.subset hx),k.2.2.2.2.sublist hl⟩
theorem JF {n:Int}{s:w6}:qW n s=true↔(1≤s.2.1∧s.2.1≤n)∧0≤s.1∧s.1≤65535:=by unfold qW;simp only[ab,br]
structure PK (t:nI):Prop where
 ring:eO t.1=true
 next:0≤t.2.2.2∧t.2.2.2≤65535
 sent:∀x∈t.2.2.1,(1≤x.2.1∧x.2.1≤t.1.2.1)∧0≤x.1∧x.1≤65535
 pool:dX (uA t.2.1 (eZ t.2.2.1))=true
 PA:uc t.2.2.1≤t.1.2.1
theorem PK.free {t:nI}(h:PK t):dX t.2.1=true:=Jr h.pool (List.sublist_append_left _ _)
theorem XV {t:nI}:XU t=true↔PK t:=by constructor;intro h;unfold XU at h;simp only[ab,br,az,JF,aD]at h;obtain⟨h1,h2,h3,h4,h5,h6⟩:=h;unfold xT at h5;simp only[ab]at h5;exact⟨h1,h3,h4,h5.2,h6⟩;·intro h;unfold XU xT;simp only[ab,br,az,JF,aD];exact⟨h.ring,h.free,h.next,h.sent,⟨h.free,h.pool⟩,h.PA⟩
theorem JD {a b s k f w:Int}{x:Bytes}(h1:0≤a∧a≤65535)(h2:0≤b∧b≤65535)(h3:0≤s∧s≤4294967295)(h4:0≤k∧k≤4294967295)(h5:0≤f∧f≤31)(h6:0≤w∧w≤65535)(hx:x.length≤320):mx (6,a,b,s,k,f,w,x)=true:=by have hx':decide ((x.length:Int)>320)=false:=af (by omega);simp only[mx,br.2 h1,br.2 h2,br.2 h3,br.2 h4,br.2 h5,br.2 h6,hx'];rfl
theorem Ro {a b:Int}{x:Bytes}(h1:0≤a∧a≤65535)(h2:0≤b∧b≤65535)(hx:x.length≤320):mx (17,a,b,0,0,0,0,x)=true:=by have hx':decide ((x.length:Int)>320)=false:=af (by omega);simp only[mx,br.2 h1,br.2 h2,hx'];rfl
theorem O9 {g:cD}{x:Bytes}(h:mx g=true)(hx:x.length≤320):mx (g.1,g.2.1,g.2.2.1,g.2.2.2.1,g.2.2.2.2.1,g.2.2.2.2.2.1,g.2.2.2.2.2.2.1,x)=true:=by have e:decide ((x.length:Int)>320)=false:=af (by omega);unfold mx at h⊢;simp only[ab]at h⊢;exact⟨h.1,h.2.1,by rw[e];rfl,h.2.2.2⟩
theorem Qp {a b v t i l s d:Int}{g:cD}(h1:0≤a∧a≤281474976710655)(h2:0≤b∧b≤281474976710655)(h3: -1≤v∧v≤4095)(h4:0≤t∧t≤255)(h5:0≤i∧i≤65535)(h6:0≤l∧l≤255)(h7:0≤s∧s≤4294967295)(h8:0≤d∧d≤4294967295)(hg:mx g=true):lW (a,b,v,t,i,l,s,d,g)=true:=by simp only[lW,br.2 h1,br.2 h2,br.2 h3,br.2 h4,br.2 h5,br.2 h6,br.2 h7,br.2 h8,hg];rfl
theorem Jn (p:ax):eS p=true↔lW p=true∧p.2.2.2.2.2.2.2.2.2.2.2.2.2.2.2.length≤128:=by unfold eS dC;rw[ab,ab,bU,aD];constructor;rintro⟨⟨h1,_⟩,h2⟩;exact⟨h1,by omega⟩;rintro⟨h1,h2⟩;exact⟨⟨h1,Or.inl (by omega)⟩,by omega⟩
theorem Rn {g:cD}(h:mx g=true)(h6:g.1=6):(0≤g.2.1∧g.2.1≤65535)∧(0≤g.2.2.1∧g.2.2.1≤65535)∧(0≤g.2.2.2.1∧g.2.2.2.1≤4294967295)∧(0≤g.2.2.2.2.1∧g.2.2.2.2.1≤4294967295)∧(0≤g.2.2.2.2.2.1∧g.2.2.2.2.2.1≤31)∧(0≤g.2.2.2.2.2.2.1∧g.2.2.2.2.2.2.1≤65535)∧g.2.2.2.2.2.2.2.length≤320:=by have hl:=vK h;unfold mx at h;rw[h6]at h;simp only[ab,br,show((6:Int)==17)=false from rfl,ai]at h;exact⟨h.1,h.2.1,h.2.2.2.2.1,h.2.2.2.2.2.1,h.2.2.2.2.2.2.1,h.2.2.2.2.2.2.2,hl⟩
theorem JC {g:cD}(h:mx g=true)(h6:g.1=6){s f:Int}{x:Bytes}(hs:0≤s∧s≤4294967295)(hf:0≤f∧f≤31)(hx:x.length≤320):mx (g.1,g.2.1,g.2.2.1,s,g.2.2.2.2.1,f,g.2.2.2.2.2.2.1,x)=true:=by have k:=Rn h h6;rw[h6];exact JD k.1 k.2.1 hs k.2.2.2.1 hf k.2.2.2.2.2.1 hx
theorem wm {p:ax}(h:lW p=true){i:Int}{g:cD}(hi:0≤i∧i≤65535)(hg:mx g=true):lW (p.1,p.2.1,p.2.2.1,p.2.2.2.1,i,p.2.2.2.2.2.1,p.2.2.2.2.2.2.1,p.2.2.2.2.2.2.2.1,g)=true:=by unfold lW at h⊢;simp only[ab]at h⊢;exact⟨h.1,h.2.1,h.2.2.1,h.2.2.2.1,h.2.2.2.2.1,br.2 hi,h.2.2.2.2.2.2.1,h.2.2.2.2.2.2.2.1,hg⟩
theorem H4 {p:ax}(h:lW p=true):0≤p.2.2.2.2.1∧p.2.2.2.2.1≤65535:=by unfold lW at h;simp only[ab]at h;exact br.1 h.2.2.2.2.2.1
theorem TG {i:Int}(h:0≤i∧i≤65535):0≤Int.tmod (aw (i+1)) 65536∧Int.tmod (aw (i+1)) 65536≤65535:=by rw[wrap64 (by omega) (by omega)];have h1:=Int.tmod_nonneg 65536 (a:=i+1) (by omega);have h2:=Int.tmod_lt_of_pos (i+1) (b:=65536) (by omega);omega
theorem QW {s:Int}{n:Nat}(h:0≤s∧s≤4294967295)(hn:n≤320):0≤Int.tmod (aw (s+(n:Int))) 4294967296∧Int.tmod (aw (s+(n:Int))) 4294967296≤4294967295:=by rw[wrap64 (by omega) (by omega)];have h1:=Int.tmod_nonneg 4294967296 (a:=s+(n:Int)) (by omega);have h2:=Int.tmod_lt_of_pos (s+(n:Int)) (b:=4294967296) (by omega);omega
structure Fg (n:Int) (r:eE):Prop where
 ring:eO r.1=true
 dev:uD r.2.1=true
 drv:uD r.2.2.1=true
 base:r.2.1.1=r.2.2.1.1
 size:r.2.1.2.1=r.2.2.1.2.1
 drop:0≤r.2.2.2.2.2∧r.2.2.2.2.2≤n
 held:r.2.2.2.2.1=true→dC r.2.2.2.1.1=true∧(0≤r.2.2.2.1.2.1∧r.2.2.2.1.2.1≤320)∧1≤r.2.2.2.1.2.2∧r.2.2.2.1.2.2≤320
 free:r.2.2.2.2.1=false→r.2.2.2.1=XR
theorem Rm (r:eE):SO r=true↔Fg 1000000000000 r:=by constructor;intro h;unfold SO at h;rw[ab]at h;simp only[ab,aL,br]at h;obtain⟨⟨h1,h2,h3,h4,h5,h6⟩,h7⟩:=h;refine⟨h1,h2,h3,h4,h5,h6,λhh=>?_,λhh=>?_⟩;rw[hh,ah]at h7;simp only[ab,br]at h7;exact⟨h7.1,h7.2.1,h7.2.2⟩;rw[hh,ai]at h7;exact(RI _).1 h7;intro h;unfold SO;rw[ab];simp only[ab,aL,br];refine⟨⟨h.ring,h.dev,h.drv,h.base,h.size,h.drop⟩,?_⟩;cases hh:r.2.2.2.2.1 with|true=>have:=h.held hh;simp only[ah,ab,br];exact⟨this.1,this.2.1,this.2.2⟩|false=>rw[ai];exact(RI _).2 (h.free hh)
theorem Fg.mono {n m:Int}{r:eE}(h:Fg n r)(hn:n≤m):Fg m r:=⟨h.ring,h.dev,h.drv,h.base,h.size,⟨h.drop.1,by have:=h.drop.2;omega⟩,h.held,h.free⟩
theorem Fg.rx {n:Int}{r:eE}(h:Fg n r)(hn:n≤1000000000000):SO r=true:=(Rm r).2 (h.mono hn)
theorem Cd (l:List bq)(d:Int)(p:dZ):∀(q:List Int)(m:List Bytes)(r:Int×Int×Int×Int),dH m=true→eO r=true→dH (nv l d p q m r).2.1=true∧eO (nv l d p q m r).2.2=true
 |[],m,r,hm,hr=>⟨hm,hr⟩
 |b::q,m,r,hm,hr=>by rw[nv];cases (dA l m d r (descOf p b)).2.2 with|false=>exact⟨hm,hr⟩|true=>exact Cd l d p q _ _ (Jb hm ..) (Rh hr ..).1
theorem NR {m:List Bytes}(hm:dH m=true){r:Int×Int×Int×Int}(hr:eO r=true){p:dZ}(hp:dX p=true)(l:List bq)(d:Int):dH (rM l m d r p).1=true∧eO (rM l m d r p).2.1=true∧dX (rM l m d r p).2.2.1=true:=by unfold rM;rw[hr,hp];have k:=Cd l d p p.2.2.2 m r hm hr;exact⟨k.1,k.2,Jr hp (List.drop_sublist _ _)⟩
structure Good (n:Int) (h:Host):Prop where
 mem:dH h.1=true
 maps:eN h.2.1=true
 tx:PK h.2.2.1
 F9:eh h.2.2.2.2.2.2.2.1=true
 lens:yk h=true
 ste:dF h.2.2.2.2.2.2.2.2.1 (h.2.2.2.1.length:Int)=true
 rx:∀r∈h.2.2.2.1,Fg n r
 pool:∀p∈h.2.2.2.2.1,dX p=true
 vec:∀v∈h.2.2.2.2.2.1,kI v=true
 PA:∀x∈iI h,0≤x∧x≤n
theorem Good.mono {n m:Int}{h:Host}(g:Good n h)(hn:n≤m):Good m h:=⟨g.mem,g.maps,g.tx,g.F9,g.lens,g.ste,λr hr=>(g.rx r hr).mono hn,g.pool,g.vec,λx hx=>⟨(g.PA x hx).1,by have:=(g.PA x hx).2;omega⟩⟩
theorem Qr (h:Host):vB h=true↔Good 1000000000000 h:=by unfold vB M6;simp only[ab,az,br,XV,Rm];constructor;rintro⟨h1,h2,h3,h4,h5,h6,⟨h7,h8,h9⟩,h10⟩;exact⟨h1,h2,h3,h4,h5,h6,h7,h8,h9,h10⟩;intro g;exact⟨g.mem,g.maps,g.tx,g.F9,g.lens,g.ste,⟨g.rx,g.pool,g.vec⟩,g.PA⟩
theorem Good.ok {n:Int}{h:Host}(g:Good n h)(hn:n≤1000000000000):vB h=true:=(Qr h).2 (g.mono hn)
theorem Jq {a b n:Int}(ha:0≤a∧a≤130944)(hb:1≤b∧b≤512)(hn:0≤n∧n≤16):iR a b n=((a,b,n,upto n.toNat),true)∧dX (a,b,n,upto n.toNat)=true:=by have h1:dX (a,b,n,[])=true:=yu.2 ⟨ha,hb,hn,by simp,List.nodup_nil⟩;refine⟨by unfold iR;rw[h1];rfl,yu.2 ⟨ha,hb,hn,?_,?_⟩⟩;intro x hx;simp only[upto,List.mem_map,bf]at hx;obtain⟨i,hi,rfl⟩:=hx;show 0≤Int.ofNat i∧Int.ofNat i≤n-1;simp only[Int.ofNat_eq_natCast];omega;show(upto n.toNat).Nodup;unfold upto;rw[List.Nodup,List.pairwise_map];exact List.nodup_range.imp λh he=>h (Int.ofNat.inj he)
theorem XW (c:Int)(hc:0≤c∧c≤65535):PK (vY.1,vY.2.1,vY.2.2.1,c):=by
 have p:=Jq (a:=256) (b:=128) (n:=8) (by omega) (by omega) (by omega);refine⟨CY (by omega) (by omega) (by omega) (by omega) (by omega),hc,λx hx=>(by cases hx),?_,by show(0:Int)≤16;omega⟩;show dX (uA (iR 256 128 8).1 [])=true;rw[p.1];have e:uA (256,128,8,upto (8:Int).toNat) []=(256,128,8,upto (8:Int).toNat):=by simp[uA]
 show dX (uA (256,128,8,upto (8:Int).toNat) [])=true;rw[e];exact p.2
theorem Mj {i:Nat}(h:i≤8):0≤ij i∧ij i≤16000:=by unfold ij;omega
theorem ON {m:List Bytes}(hm:dH m=true)(l:List bq){i:Nat}(hi:i≤8):dH (sa l m i).1=true∧eO (sa l m i).2.1=true∧dX (sa l m i).2.2.1=true:=by have hb:=Mj hi;have p:=Jq (a:=ij i+128) (b:=384) (n:=4) (by omega) (by omega) (by omega);unfold sa;rw[p.1];exact NR (Ja hm ..) (CY (by omega) (by omega) (by omega) (by omega) (by omega)) p.2 l 0
theorem Rl {i:Nat}(hi:i≤8){r:Int×Int×Int×Int}(hr:eO r=true){n d:Int}(hd:0≤d∧d≤n):Fg n (r,(ij i+64,4,0),(ij i+64,4,0),((0,0,0,0,0,0,0,0,0,0,0,0,0,0,0,([]:Bytes)),0,0),false,d):=by
 have hb:=Mj hi;have hq:uD (ij i+64,4,0)=true:=by have hs:gM 4=true:=gm.2 (by omega);unfold uD;rw[ab,ab];exact⟨br.2 (by omega),hs,by rw[EY hs];rfl⟩
 exact⟨hr,hq,hq,rfl,rfl,hd,λhf=>(by cases hf),λ_=>rfl⟩
def SL:aF:=(0,0,(0,0,0),false,0,0)
def mI (b:Int×Int×Int):Bool:=cM b.1 0 10000&&(cM b.2.1 0 100000&&cM b.2.2 0 b.2.1)
def zX (n:Int)(f:aF):Bool:=cM f.1 0 7&&(cM f.2.1 1 (aw (n-1))&&(mI f.2.2.1&&(cM f.2.2.2.2.1 0 1000000000000&&cM f.2.2.2.2.2 0 1000000000000)))
def NV (f g:aF):Bool:=(g.1==f.1)||(g.2.1==f.2.1)
def Up (l:List aF)(n:Int)(i:Nat):Bool:=zX n (l.getD i SL)&&(List.range i).all (λj=> !(NV (l.getD i SL) (l.getD j SL)))
def eK (l:List aF)(ps:List Port):Bool:=ee ps&&(List.range l.length).all (Up l (ps.length:Int))
theorem xq (b:Int×Int×Int):mz b=some (mI b):=by simp only[mz,bV,ae,bh,cF,mI]
theorem KP (b:Int×Int×Int):tp b=some (mI b):=xq b
theorem D6 (l:List aF)(ps:List Port)(h:l.length≤1000000000)(h1:ps.length≤1000000000)(h2:∀p∈ps,p.2.1.length≤1000000000):lE l ps=some (eK l ps):=by
 unfold lE eK;rw[eC (hit:=some false) (fin:=some true) (Up l (ps.length:Int)) l.length (by omega) (λi nx hi=>?hs) (λnx=>?hf)]
 case hs=>
  simp only[iz]
  rw[aj (by omega),bm hi,wrap64 (n:=(i:Int)+1) (by omega) (by omega)]
  simp only[ah,ae,bV,xq,bh,cT]
  rw[eC (hit:=some false) (fin:=nx ((i:Int)+1)) (λj=> !(NV l[i] (l.getD j SL))) i (by omega) (λj nx' hj=>?hs2) (λnx'=>?hf2)]
  case hs2=>
   have hjl:j<l.length:=by omega
   simp only[gY]
   rw[aj (by omega),bm hjl,wrap64 (n:=(j:Int)+1) (by omega) (by omega)]
   simp only[ah,ae,bh,cT,bT hjl,c8];rfl
  case hf2=>
   simp only[gY]
   rw[af (by omega)];rfl
  simp only[Up,bT hi]
  rw[show(!cM l[i].1 0 7||(!cM l[i].2.1 1 (aw ((ps.length:Int)-1))||(!mI l[i].2.2.1||(!cM l[i].2.2.2.2.1 0 1000000000000|| !cM l[i].2.2.2.2.2 0 1000000000000))))= !zX (ps.length:Int) l[i] by unfold zX;simp only[Bool.not_and]]
  cases zX (ps.length:Int) l[i]<;>cases (List.range i).all (λj=> !(NV l[i] (l.getD j SL)))<;>rfl
 case hf=>
  simp only[iz]
  rw[af (by omega)];rfl
 simp only[zM ps h1 h2,ae];cases ee ps<;>cases (List.range l.length).all (Up l (ps.length:Int))<;>rfl
theorem DQ (l:List aF)(ps:List Port)(h:l.length≤1000000000)(h1:ps.length≤1000000000)(h2:∀p∈ps,p.2.1.length≤1000000000):lf l ps=some (eK l ps):=by
 unfold lf eK;rw[eC (hit:=some false) (fin:=some true) (Up l (ps.length:Int)) l.length (by omega) (λi nx hi=>?hs) (λnx=>?hf)]
 case hs=>
  simp only[iq]
  rw[aj (by omega),bm hi,wrap64 (n:=(i:Int)+1) (by omega) (by omega),J2 l i (by omega)]
  simp only[ah,ae,eY,KP,bh,cT]
  have hti:(l.take i).length=i:=by simp;omega
  rw[hti,eC (hit:=some false) (fin:=nx ((i:Int)+1)) (λj=> !(NV l[i] (l.getD j SL))) i (by omega) (λj nx' hj=>?hs2) (λnx'=>?hf2)]
  case hs2=>
   have hjl:j<l.length:=by omega
   have hjt:j<(l.take i).length:=by omega
   simp only[ir]
   rw[aj (by omega),bm hjt,wrap64 (n:=(j:Int)+1) (by omega) (by omega),List.getElem_take]
   simp only[ah,ae,bh,cT,bT hjl,c8];rfl
  case hf2=>
   simp only[ir]
   rw[af (by omega)];rfl
  simp only[Up,bT hi]
  rw[show(!cM l[i].1 0 7||(!cM l[i].2.1 1 (aw ((ps.length:Int)-1))||(!mI l[i].2.2.1||(!cM l[i].2.2.2.2.1 0 1000000000000|| !cM l[i].2.2.2.2.2 0 1000000000000))))= !zX (ps.length:Int) l[i] by unfold zX;simp only[Bool.not_and]]
  cases zX (ps.length:Int) l[i]<;>cases (List.range i).all (λj=> !(NV l[i] (l.getD j SL)))<;>rfl
 case hf=>
  simp only[iq]
  rw[af (by omega)];rfl
 simp only[wo ps h1 h2,ae];cases ee ps<;>cases (List.range l.length).all (Up l (ps.length:Int))<;>rfl
def ov (l:List aF)(i:Nat):Bool:=((l.getD i SL).1==(i:Int))&&((l.getD i SL).2.1==(i:Int)+1)
theorem KT (l:List aF)(h:l.length≤1000000000):oc l=some ((List.range l.length).all (ov l)):=by
 unfold oc;rw[eC (hit:=some false) (fin:=some true) (ov l) l.length (by omega) (λi nx hi=>?hs) (λnx=>?hf)]
 case hs=>
  simp only[kA]
  rw[aj (by omega),bm hi,wrap64 (n:=(i:Int)+1) (by omega) (by omega)]
  simp only[ah,ae,bh,cT,bne,ov,bT hi]
  cases l[i].1==(i:Int)<;>cases l[i].2.1==(i:Int)+1<;>rfl
 case hf=>
  simp only[kA]
  rw[af (by omega)];rfl
 cases (List.range l.length).all (ov l)<;>rfl
theorem GO (a b:Filter)(h:a.2.2.length≤1000000000):nq a b=some (zU a b):=xZ a b h
theorem xP:∀(ms:List aX)(i:Nat)(s:List Int×List Port),G7 i s→ms.all kB=true→G7 (i+ms.length) (ms.foldl vS s)
 |[],i,s,h,_=>h
 |m::ms,i,s,h,hm=>by rw[bp,ab]at hm;have hu:=tV m.1.2.2 s.1;have hl:=tN hm.1;have:=xP ms (i+1) (vS s m) (h.port hm.1 _ (by omega)) hm.2;rw[cE,bD,show i+(ms.length+1)=i+1+ms.length by omega];exact this
theorem Jt {ms:List aX}(h:(cx ms).2=true):ms.length≤3:=by unfold cx at h;cases hq:cM (ms.length:Int) 1 3&&(ms.all kB&&ee (ix ms))with|false=>rw[hq]at h;cases h|true=>simp only[ab]at hq;have:=br.1 hq.1;omega
theorem wv (ms:List aX):(cx ms).1.length≤1000000000∧∀p∈(cx ms).1,p.2.1.length≤1000000000:=by unfold cx;cases hc:cM (ms.length:Int) 1 3&&(ms.all kB&&ee (ix ms))with|false=>exact⟨by simp,by simp⟩|true=>simp only[ab,br]at hc;have:=xP ms 0 ([0],[]) ⟨by simp,rfl,by simp⟩ hc.2.1;rw[bM]at this;exact vI this (by omega)
theorem OY (ms:List aX):(cx ms).1.length≤4∧∀p∈(cx ms).1,p.2.1.length≤28:=by unfold cx;cases hc:cM (ms.length:Int) 1 3&&(ms.all kB&&ee (ix ms))with|false=>exact⟨by simp,by simp⟩|true=>simp only[ab,br]at hc;have h:=xP ms 0 ([0],[]) ⟨by simp,rfl,by simp⟩ hc.2.1;rw[bM]at h;have h1:=h.1;have h2:=h.2.1;simp only[ah,ix];refine⟨by simp only[bD];omega,λp hp=>?_⟩;rcases bl.1 hp with rfl|hp;simp only;omega;have:=h.2.2 p hp;omega
def Gc (v:Int)(b:Bytes):Bytes:=((dY v++dY (b.length:Int))++b)++dY (BE ((dY v++dY (b.length:Int))++b))
def cK (v:Int)(b:Bytes):Bytes×Bool:=bif cM v 0 1000000&&decide (b.length≤84) then(Gc v b,true) else([],false)
theorem C8 (v:Int)(b:Bytes)(h:b.length≤1000000000):iV v b=some (cK v b):=by have l1:=c7 v;have l2:=c7 (b.length:Int);unfold iV cK;rw[wrap64 (by omega) (by omega)];simp only[bV,ae];cases cM v 0 1000000 with|false=>rfl|true=>by_cases hb:b.length≤84;have l3:=c7 (BE ((dY v++dY (b.length:Int))++b));rw[af (show¬((b.length:Int)+12>96) by omega),aj hb];simp only[ar,ai,ae,dj,ah,jt];rw[aK (by omega),aK (by simp only[ak];omega),Nc _ (by simp only[ak];omega)];simp only[ae,jt];rw[aK (by simp only[ak];omega)];rfl;rw[aj (show((b.length:Int)+12>96) by omega),af hb];rfl
def SE (s:Bytes)(n:Nat):Int:=bif (cK (dK s 0) ((s.take (8+n)).drop 8)).2&&((cK (dK s 0) ((s.take (8+n)).drop 8)).1==s.take (12+n)) then dK s 0 else-1
def vd (s:Bytes):Int:=if 0≤dK s 4∧dK s 4≤(s.length:Int)-12 then SE s (dK s 4).toNat else-1
theorem Qn (s:Bytes)(a:Int): -1≤dK s a∧dK s a≤4294967295:=by unfold dK;cases dn s a 4 with|false=>simp only[ai];omega|true=>have b0:=cV s a.toNat;have b1:=cV s (a.toNat+1);have b2:=cV s (a.toNat+2);have b3:=cV s (a.toNat+3);simp only[ah];omega
theorem Pt {s:Bytes}{n:Nat}(h:¬n≤84)(hs:n+12≤s.length):SE s n= -1:=by
 have:(cK (dK s 0) ((s.take (8+n)).drop 8)).2=false:=by unfold cK;rw[af (by simp only[bc,bn];omega),eG];rfl
 unfold SE;rw[this];rfl
theorem Ng (s:Bytes)(h:s.length≤1000000000):gZ s=some (vd s):=by
 unfold gZ vd;have hg:=Qn s 4;simp only[wy s _ h,bV,ae];rw[wrap64 (n:=dK s 4+12) (by omega) (by omega),wrap64 (n:=8+dK s 4) (by omega) (by omega)];generalize dK s 4=n at hg;by_cases hc:0≤n∧n≤(s.length:Int)-12;rw[au hc];obtain⟨m,rfl⟩:=bd hc.1;by_cases h84:m≤84;have e1:cM (m:Int) 0 84=true:=br.2 (by omega);have e2:sub s 8 (8+(m:Int))=some ((s.take (8+m)).drop 8):=by unfold sub;rw[au (by omega)];rfl
 have e3:sub s 0 ((m:Int)+12)=some (s.take (12+m)):=by unfold sub;rw[au (by omega),show((m:Int)+12).toNat=12+m by omega];rfl
 rw[e1,af (show¬((m:Int)+12>(s.length:Int)) by omega),e2,e3];simp only[ar,ai,ae,aH];rw[C8 _ _ (by simp only[bc,bn];omega)];unfold SE;simp only[ae];cases (cK (dK s 0) ((s.take (8+m)).drop 8)).2<;>cases ((cK (dK s 0) ((s.take (8+m)).drop 8)).1==s.take (12+m))<;>rfl;have e1:cM (m:Int) 0 84=false:=by rw[Bool.eq_false_iff,ne_eq,br];omega
 rw[e1,aH,Pt h84 (by omega)];rfl;rw[aq hc];by_cases hb:cM n 0 84=true;have:=br.1 hb;rw[hb,aj (show n+12>(s.length:Int) by omega)];rfl;have hb':cM n 0 84=false:=by simpa using hb
 rw[hb'];rfl
def vx (f:List Bytes):Bool:=((f.length:Int)==2)&&((((f.getD 0 []).length:Int)==96)&&(((f.getD 1 []).length:Int)==96))
theorem NU {f:List Bytes}(h:vx f=true):f=[f.getD 0 [],f.getD 1 []]∧(f.getD 0 []).length=96∧(f.getD 1 []).length=96:=by simp only[vx,ab,aL]at h;match f,h with|[a,b],h=>have h1:(a.length:Int)=96:=h.2.1;have h2:(b.length:Int)=96:=h.2.2;exact⟨rfl,by show a.length=96;omega,by show b.length=96;omega⟩
theorem Pc (f:List Bytes):qX f=some (vx f):=by
 unfold qX vx;match f with
 |[]=>rfl
 |[a]=>rfl
 |[a,b]=>have i0:idx [a,b] 0=some a:=rfl;have i1:idx [a,b] 1=some b:=rfl;rw[i0,i1];simp only[ae,bh,cF];rfl
 |a::b::c::r=>
  have:(((a::b::c::r).length:Int)==2)=false:=by simp only[bD,cJ];omega
  rw[this];rfl
def nK (f:List Bytes):Int:=bif vx f then(if vd (f.getD 0 [])<0∧vd (f.getD 1 [])<0 then-1 else if vd (f.getD 1 [])>vd (f.getD 0 []) then 1 else 0) else-1
theorem JM (f:List Bytes):my f=some (nK f):=by unfold my nK;rw[Pc,ae];cases hf:vx f with|false=>rfl|true=>obtain⟨e,l0,l1⟩:=NU hf;generalize f.getD 0 []=a at*;generalize f.getD 1 []=b at*;subst e;have i0:idx [a,b] 0=some a:=rfl;have i1:idx [a,b] 1=some b:=rfl;simp only[ar,ai,ah,i0,i1,ae,Ng a (by omega),Ng b (by omega)];by_cases p:vd a<0<;>by_cases q:vd b<0<;>by_cases r:vd b>vd a<;>simp[p,q,r]
def pa (c:Int×Int×Int×Int):Bool:=cM c.1 0 1125899906842624&&(cM c.2.1 0 1048575&&(cM c.2.2.1 0 67108864&&cM c.2.2.2 0 1099511627776))
theorem EZ (c:Int×Int×Int×Int):oz c=some (pa c):=by simp only[oz,bV,ae,bh,cF,pa]
def xF (c:dJ)(i:Nat):Bool:=(c.1[i]?.all vB)&&zU (c.1[i]?.map (·.2.2.2.2.2.2.2.1)) (c.2.2.1[i]?.map (·.1))
def CE (c:dJ):Bool:=((c.1.length:Int)==(c.2.2.1.length:Int))&&((c.2.1.length:Int)==(c.2.2.1.length:Int))
def xG (c:dJ):Bool:=(cx c.2.2.1).2&&(CE c&&(eK c.2.1 (cx c.2.2.1).1&&((!decide (nK c.2.2.2.1<0)&&pa c.2.2.2.2.1)&&((List.range c.1.length).all (xF c)&&(List.range c.1.length).all (ov c.2.1)))))
structure Ka (c:dJ):Prop where
 h0:c.1.length≤1000000000
 f0:c.2.1.length≤1000000000
 m:∀m∈c.2.2.1,m.1.2.2.length≤1000000000
 h1:∀h∈c.1,Ff h
theorem EG {c:dJ}(h:CE c=true):c.1.length=c.2.2.1.length∧c.2.1.length=c.2.2.1.length:=by unfold CE at h;simp only[ab,aL]at h;omega
theorem BC {c:dJ}(i:Nat)(hi:i<c.1.length)(hj:i<c.2.2.1.length):xF c i=(vB c.1[i]&&zU c.1[i].2.2.2.2.2.2.2.1 c.2.2.1[i].1):=by unfold xF;rw[List.getElem?_eq_getElem hi,List.getElem?_eq_getElem hj];congr 1;apply B8;rw[uh];simp
theorem PO:∀(l:List Nat)(p q:Nat→Bool),l.all (λx=>p x&&q x)=(l.all p&&l.all q):=by intro l p q;induction l with|nil=>rfl|cons x l ih=>simp only[bp,ih];cases p x<;>cases q x<;>cases l.all p<;>rfl
theorem Rs (c:dJ)(z:Ka c):s6 c=some (xG c):=by
 have hp:=wv c.2.2.1;unfold s6 xG;simp only[vM _ z.m,D6 _ _ z.f0 hp.1 hp.2,JM,EZ,ae,bh,cT,bne];rw[show((!((c.1.length:Int)==(c.2.2.1.length:Int)))||((!((c.2.1.length:Int)==(c.2.2.1.length:Int)))||((!eK c.2.1 (cx c.2.2.1).1)||(decide (nK c.2.2.2.1<0)|| !pa c.2.2.2.2.1))))= !(CE c&&(eK c.2.1 (cx c.2.2.1).1&&(!decide (nK c.2.2.2.1<0)&&pa c.2.2.2.2.1))) by unfold CE;simp only[Bool.not_and,Bool.or_assoc,c8]];cases (cx c.2.2.1).2 with|false=>rfl|true=>?_
 cases hl:CE c with|false=>rfl|true=>?_
 cases eK c.2.1 (cx c.2.2.1).1 with|false=>rfl|true=>?_
 cases (!decide (nK c.2.2.2.1<0)&&pa c.2.2.2.2.1)with|false=>rfl|true=>?_
 have hL:=EG hl;have h0:=z.h0;simp only[ar,cZ,dL,ai,bg];rw[eC (hit:=some false) (fin:=some true) (λi=>xF c i&&ov c.2.1 i) c.2.2.1.length (by omega) (λi nx hi=>?hs) (λnx=>?hf)]
 case hs=>
  have q1:i<c.1.length:=by omega
  have q2:i<c.2.1.length:=by omega
  have hm:=aM q1
  rw[BC i q1 hi]
  simp only[oy]
  rw[aj (by omega),bm q1,bm hi,bm q2,wrap64 (n:=(i:Int)+1) (by omega) (by omega)]
  simp only[ah,ae,JN _ (z.h1 _ hm),GO _ _ (z.h1 _ hm).f1,bh,cT,bne,ov,bT q2]
  cases vB c.1[i]<;>cases zU c.1[i].2.2.2.2.2.2.2.1 c.2.2.1[i].1<;>cases c.2.1[i].1==(i:Int)<;>cases c.2.1[i].2.1==(i:Int)+1<;>rfl
 case hf=>
  simp only[oy]
  rw[af (by omega)];rfl
 rw[PO,←hL.1];cases (List.range c.1.length).all (xF c)<;>cases (List.range c.1.length).all (ov c.2.1)<;>rfl
theorem map_take {α β:Type}(f:α→β)(l:List α)(i:Nat)(hi:i<l.length):(l.take i).map f++[f l[i]]=(l.take (i+1)).map f:=by rw[bJ hi,List.map_append];rfl
theorem Rf {α:Type}(x:α)(i:Nat):List.replicate i x++[x]=List.replicate (i+1) x:=by rw[←List.replicate_append_replicate];rfl
theorem AU (m:aX)(h:m.1.2.2.length≤1000000000):ly m=some m:=by simp only[ly,vC _ h,ae]
theorem u9 (m:aX)(h:m.1.2.2.length≤1000000000):oR m=some m:=by simp only[oR,ow _ h,ae]
theorem DL (l:List aX)(h:l.length≤1000000000)(hx:∀m∈l,m.1.2.2.length≤1000000000):n4 l=some l:=by unfold n4;refine(dT (λi=>(l.take i,(i:Int))) l.length (by omega) (λi nx hi=>?_) (λnx=>?_));simp only[kv];rw[aj (by omega),bm hi,wrap64 (by omega) (by omega)];simp only[ah,ae,AU _ (hx _ (aM hi))];rw[aK (by simp;omega),←bJ hi];rfl;simp only[kv];rw[af (by omega),cS];rfl
theorem xX (l:List aF)(h:l.length≤1000000000):jn l=some l:=by simp only[jn,gW h,bu]
def VM:cA:=(([]:List l5),([]:List (List Bytes)),([]:List aF),([]:List aX),([]:List Bytes))
def kR (c:dJ):cA:=bif xG c then(c.1.map sm,List.replicate c.1.length ([]:List Bytes),c.2.1,c.2.2.1,c.2.2.2.2.2.2) else VM
theorem Ku {c:dJ}(h:xG c=true):c.1.length=c.2.2.1.length∧c.2.1.length=c.2.2.1.length:=by unfold xG at h;simp only[ab]at h;exact EG h.2.1
theorem JO (c:dJ)(hl:fB 1000000000 wL c)(z:Ka c):qY c=some (kR c):=by
 have h0:=z.h0;unfold qY kR;rw[Rs c z,ae];cases hc:xG c with
 |false=>rfl
 |true=>
  have hL:=Ku hc;simp only[ar,ai,ah,gW hl.2.1.1,gW hl.2.2.2.2.2.2.1,bu];refine(dT (λi=>((i:Int),(c.1.take i).map sm,List.replicate i ([]:List Bytes),c.2.1,c.2.2.1.take i,c.2.2.2.2.2.2)) c.1.length (by omega) (λi nx hi=>?_) (λnx=>?_));have hm:=aM hi;have hi2:i<c.2.2.1.length:=by omega
  simp only[mV];rw[aj (by omega),bm hi,bm hi2,wrap64 (by omega) (by omega)];simp only[ah,ae,LQ _ (hl.1.2 _ hm) (z.h1 _ hm),u9 _ (z.m _ (aM hi2))];rw[aK (by simp;omega),aK (by simp;omega),aK (by simp;omega),map_take _ _ _ hi,Rf,←bJ hi2];rfl;simp only[mV];rw[af (by omega),cS,hL.1,cS];rfl
theorem Gb (c:dJ){n:Nat}(z:fB n wL c):fB n fM (kR c):=by unfold kR;cases xG c with|false=>exact⟨⟨bt _,λ_ h=>nomatch h⟩,⟨bt _,λ_ h=>nomatch h⟩,⟨bt _,λ_ h=>nomatch h⟩,⟨bt _,λ_ h=>nomatch h⟩,bt _,λ_ h=>nomatch h⟩|true=>refine⟨⟨?_,λx hx=>?_⟩,⟨?_,λx hx=>?_⟩,z.2.1,z.2.2.1,z.2.2.2.2.2.2⟩;show(c.1.map sm).length≤n;rw[cg];exact z.1.1;obtain⟨h,hh,rfl⟩:=List.mem_map.1 hx;exact Pb h (z.1.2 h hh);show(List.replicate c.1.length ([]:List Bytes)).length≤n;rw[List.length_replicate];exact z.1.1;have:=List.eq_of_mem_replicate hx;subst this;exact⟨bt _,λ_ h=>nomatch h⟩
def w8 (s:Bytes):Prop:=∀x∈s,x=0
theorem G9 {s:Bytes}(h:w8 s):s=List.replicate s.length 0:=List.eq_replicate_iff.2 ⟨rfl,h⟩
theorem DA (n:Nat):w8 (ti n):=by intro x hx;simp only[ti,bytesOf,List.map_replicate]at hx;exact(List.mem_replicate.1 hx).2
theorem SU {s t:Bytes}(h:w8 s)(k:w8 t)(e:s.length=t.length):s=t:=by rw[G9 h,G9 k,e]
theorem acg {x:Bytes}{o:Nat}{t:Bytes}(hx:w8 x)(ht:w8 t)(h:o+t.length≤x.length):wU x o t=x:=by refine SU (λy hy=>?_) hx (ER h);unfold wU at hy;rcases al.1 hy with g|g;exact hx y (List.mem_of_mem_take g);rcases al.1 g with g|g;exact ht y g;exact hx y (List.mem_of_mem_drop g)
theorem SJ:∀(n:Nat){m:List Bytes}{a:Nat}{s:Bytes},vG m→(∀x∈m,w8 x)→w8 s→a+s.length≤128*m.length→tD n m a s=m
 |0,m,a,s,_,_,_,_=>rfl
 |n+1,m,a,s,hp,hm,hs,hl=>by rw[tD];by_cases h0:s.length=0;rw[au h0];rw[aq h0];obtain⟨h1,h2,_⟩:=xx hp h0 hl;have ho:wU (m[a/128]'h1) (a%128) (s.take (128-a%128))=m[a/128]'h1:=acg (hm _ (aM h1)) (λy hy=>hs y (List.mem_of_mem_take hy)) (by rw[h2,bn];omega);rw[bT h1,ho,List.set_getElem_self];exact SJ n hp hm (λy hy=>hs y (List.mem_of_mem_drop hy)) (by rw[bc];omega)
theorem Ue {m:List Bytes}{s:Bytes}(a:Int)(hm:∀x∈m,w8 x)(hs:w8 s):(qe m a s).1=m:=by
 unfold qe;cases hw:kK m a (s.length:Int)with|false=>rfl|true=>?_
 simp only[kK,ab,aD]at hw;exact SJ s.length (pg.1 hw.1) hm hs (by omega)
theorem Uy:∀(q:List (Int×Int)){m:List Bytes}{s:Bytes},(∀x∈m,w8 x)→w8 s→D3 q m s=m
 |[],m,s,_,_=>rfl
 |p::q,m,s,hm,hs=>by rw[D3,Ue _ hm (λy hy=>hs y (List.mem_of_mem_take hy))];exact Uy q hm (λy hy=>hs y (List.mem_of_mem_drop hy))
theorem ach {m:List Bytes}{s:Bytes}(hm:∀x∈m,w8 x)(hs:w8 s)(l:List bq)(d a:Int)(w:Bool):(sf l m d a s w).1=m:=by unfold sf;cases (mw l m d a (s.length:Int) w).2 with|false=>rfl|true=>exact Uy _ hm hs
def sA (n:Nat):List Bytes:=List.replicate n (ti 128)
theorem Xr {n:Nat}:∀x∈sA n,w8 x:=λx hx=>by rw[(List.mem_replicate.1 hx).2];exact DA 128
theorem Oo (n:Nat):sA (n+1)=sA n++[ti 128]:=List.replicate_succ'
theorem C9 (n:Nat)(h:n≤64):iX (n:Int)=some (sA n):=by have hz:dI 128 0=some (ti 128):=C7 128 (by omega);unfold iX;refine dT (λi=>((i:Int),sA i)) n (by omega) (λi nx hi=>?_) (λnx=>?_);simp only[kF];rw[aj (show(i:Int)<n by omega),ah,aj (by omega),ae,ah,hz,ae,aK (by simp[sA];omega),wrap64 (by omega) (by omega),Oo];rfl;simp only[kF];rw[af (show¬(n:Int)<n by omega),ai,ae,ai]
def kV (a b:Int):Vector×Bool:=bif kI (a,b,0,0,false,false) then((a,b,0,0,false,false),true) else((0,0,0,0,false,false),false)
theorem Da (a b:Int):oI a b=some (kV a b):=by unfold oI kV;rw[Dd,ae];cases kI (a,b,0,0,false,false)<;>rfl
def lX (i:Nat):List bq:=(List.range i).map λ(p:Nat)=>(0,(p:Int),37-(p:Int), !cM (p:Int) 2 9)
theorem CH (i:Nat):lX (i+1)=lX i++[(0,(i:Int),37-(i:Int), !cM (i:Int) 2 9)]:=by simp[lX,List.range_succ]
theorem tO (i:Nat):(lX i).length=i:=by simp[lX]
def ZS:Host:=(([]:List Bytes),([]:List bq),((0,0,0,0),(0,0,0,([]:List Int)),([]:List w6),0),([]:List eE),([]:List dZ),([]:List Vector),([]:List Bool),(0,false,([]:List Int)),(([]:List fY),([]:List Slot),([]:Bytes),([]:List Int)),([]:List Stream),false,([]:List Bytes),([]:List Int),([]:List Int),0,0,0,0,0)
def Ey (f:Filter)(s:cj)(c:Bool)(i:Nat):Host:=(sA 38,lX i,vY,([]:List eE),([]:List dZ),([]:List Vector),([]:List Bool),f,s,([]:List Stream),c,([]:List Bytes),([]:List Int),([]:List Int),0,0,0,0,0)
def Eo:List Bytes×(Int×Int×Int×Int)×dZ×Int:=rM (lX 38) (sA 38) 0 (Rk 0).1 (iR (ij 0+128) 384 4).1
def Ur (f:Filter)(s:cj)(c:Bool)(v:Vector):Host:=(Eo.1,lX 38,vY,[(Eo.2.1,(Rk 0).2)],[Eo.2.2.1],[v],[false],f,s,([]:List Stream),c,([]:List Bytes),([]:List Int),([]:List Int),0,0,0,0,0)
def iQ (f:Filter)(s:cj)(c:Bool)(a b:Int):Host×Bool:=
 bif eh f&&(dF s 1&&(kV a b).2) then(Ur f s c (kV a b).1,true) else(ZS,false)
theorem Am (f:Filter)(s:cj)(c:Bool)(a b:Int)(hf:f.2.2.length≤1000000000)(h1:s.1.length≤1000000000)(h2:s.2.1.length≤1000000000)(h3:s.2.2.2.length≤1000000000):lH 1 f s c a b=some (iQ f s c a b):=by
 have hfu:=eF;unfold lH iQ;rw[Da,ae,bV,ae,show cM (1:Int) 1 2=true from br.2 (by omega),sn f hf,uI s 1 h1 h2 h3];simp only[ar,ai,ae];cases eh f with|false=>rfl|true=>?_
 cases dF s 1 with|false=>rfl|true=>?_
 generalize kV a b=v;cases hv:v.2 with|false=>rfl|true=>?_
 have hm:iX 38=some (sA 38):=C9 38 (by omega);simp only[ar,ai,ae,dL,ah,hm,E4,ow f hf,tz s h1 h2 h3];refine dT (λi=>((i:Int),Ey f s c i)) 38 (by omega) (λi nx hi=>?_) (λnx=>?_);have hl:=tO i;simp only[jH];rw[aj (by omega),ah,bV,ae,aK (by show(lX i).length+1≤_;omega),wrap64 (n:=(i:Int)+1) (by omega) (by omega),wrap64 (n:=37-(i:Int)) (by omega) (by omega)];show nx ((i:Int)+1,sA 38,lX i++_,_)=nx (((i+1:Nat):Int),sA 38,lX (i+1),_);rw[CH];rfl;simp only[jH];rw[af (by omega),ai];have h38:=tO 38;have hmem:(sA 38).length≤1000000000:=by rw[sA,List.length_replicate];omega
 have ho:sa (lX 38) (sA 38) 0=Eo:=by unfold sa Eo;rw[ach Xr (DA 128)];rfl
 have e1:(Rk 0).2=((ij 0+64,4,0),(ij 0+64,4,0),((0,0,0,0,0,0,0,0,0,0,0,0,0,0,0,([]:Bytes)),0,0),false,0):=rfl;have hop:=JR (sA 38,lX 38,vY,[((0,0,0,0),(0,0,0),(0,0,0),((0,0,0,0,0,0,0,0,0,0,0,0,0,0,0,([]:Bytes)),0,0),false,0)],[(0,0,0,([]:List Int))],[v.1],[false],f,s,([]:List Stream),c,([]:List Bytes),([]:List Int),([]:List Int),0,0,0,0,0) 0 (by omega) (Nat.lt_succ_self 0) (Nat.lt_succ_self 0) (by show(lX 38).length≤_;omega) hmem;unfold EO at hop;simp only[ho,List.set_cons_zero,List.getElem?_cons_zero,show((0:Nat):Int)=0 from rfl]at hop;obtain⟨g,hg⟩:∃g,fuel=g+2:=⟨fuel-2,by omega⟩
 unfold Ey Ur;rw[e1];generalize ij 0=bb at hop⊢;generalize Eo=o at hop⊢;generalize sA 38=m at hop⊢;generalize lX 38=l at hop⊢;rw[hg,aZ,iW];rw[aj (by omega),ah];simp only;rw[aK (by simp),aK (by simp),aK (by simp),aK (by simp)];simp only[bu];rw[hop,ae,aZ,iW,wrap64 (by omega) (by omega),af (by omega),ai]
def P0:dJ:=(([]:List Host),([]:List aF),([]:List aX),([]:List Bytes),(0,0,0,0),([]:List Int),([]:List Bytes))
def DY (st:cj)(c:Bool)(bk:Int×Int×Int)(x:aX)(s:List Host×List aF):Except (Option (dJ×Bool)) (List Host×List aF):=
 if(iQ x.1 st c 1 2).2=true then .ok (s.1++[(iQ x.1 st c 1 2).1],s.2++[((s.2.length:Int),(s.2.length:Int)+1,bk,true,0,0)]) else .error (some (P0,false))
def om (ms:List aX)(st:cj)(c:Bool)(bk:Int×Int×Int)(f:List Bytes)(t:Int):Option (dJ×Bool):=
 bif (cx ms).2&&(mI bk&&(!decide (nK f<0)&&pa (0,0,t,0))) then
  uG (DY st c bk) (λs=>some ((s.1,s.2,ms,f,(0,0,t,0),([]:List Int),([]:List Bytes)),true)) ms ([],[])
 else some (P0,false)
theorem JQ (ms:List aX)(st:cj)(c:Bool)(bk:Int×Int×Int)(f:List Bytes)(t:Int)(hm:ms.length≤1000000000)(hx:∀m∈ms,m.1.2.2.length≤1000000000)(hf:f.length≤1000000000)(h1:st.1.length≤1000000000)(h2:st.2.1.length≤1000000000)(h3:st.2.2.2.length≤1000000000):lG ms st c bk f t=om ms st c bk f t:=by
 have hfu:=eF;unfold lG om;rw[vM ms hx,ae,gW (by omega)];simp only[xq,JM,EZ,ae];cases hp:(cx ms).2 with|false=>rfl|true=>?_
 cases mI bk with|false=>rfl|true=>?_
 cases decide (nK f<0)with|true=>rfl|false=>?_
 cases pa (0,0,t,0)with|false=>rfl|true=>?_
 have h3':=Jt hp;simp only[ar,ai,ae,dL,cp,ah,bu];refine qs ms (λs i=>(((i:Int),s.1,s.2,ms.take i,f,(0,0,t,0),([]:List Int),([]:List Bytes)):Int×dJ)) (λi s=>s.1.length=i∧s.2.length=i) (DY st c bk) _ (by omega) (λi hi s nx hI=>?_) (λi hi s s' hI he=>?_) (λs nx hI=>?_) ([],[]) ⟨rfl,rfl⟩;simp only[mW];rw[aj (by omega),ah,bm hi,ae,Am _ st c 1 2 (hx _ (aM hi)) h1 h2 h3,ae];unfold DY;cases hb:(iQ ms[i].1 st c 1 2).2 with|false=>rfl|true=>rw[au rfl];simp only[ar,ai];rw[aK (by rw[bR];omega),aK (by rw[bR];omega),ae,u9 _ (hx _ (aM hi)),ae,aK (by rw[bR,bn];omega),wrap64 (by omega) (by omega),hI.2,bJ hi];rfl
 unfold DY at he;split at he;injection he with he;rw[←he];simp[hI.1,hI.2];cases he;simp only[mW];rw[af (by omega),ai,cS]
def Ends {α:Type}(o:Option α)(P:α→Prop):Prop:=∃x,o=some x∧P x
theorem Ends.pure {α:Type}{x:α}{P:α→Prop}(h:P x):Ends (some x) P:=⟨x,rfl,h⟩
theorem Ends.bind {α R:Type}{o:Option α}{P:α→Prop}{k:α→Option R}{Q:R→Prop}(h:Ends o P)(hk:∀x,P x→Ends (k x) Q):Ends (aa o k) Q:=by obtain⟨x,rfl,hx⟩:=h;exact hk x hx
theorem Ends.mono {α:Type}{o:Option α}{P Q:α→Prop}(h:Ends o P)(hq:∀x,P x→Q x):Ends o Q:=by obtain⟨x,hx,hp⟩:=h;exact⟨x,hx,hq x hp⟩
theorem Ends.cond {α:Type}{c:Bool}{a b:Option α}{P:α→Prop}(h1:c=true→Ends a P)(h2:c=false→Ends b P):Ends (cond c a b) P:=by cases c with|true=>exact h1 rfl|false=>exact h2 rfl
theorem Ends.X3 {α:Type}{p:Prop}[Decidable p]{a:Option α}{P:α→Prop}(h:¬p)(ha:Ends a P):Ends (if p then none else a) P:=by rw[aq h];exact ha
theorem Ends.room {α:Type}{n:Nat}{k:Option α}{P:α→Prop}(h:n≤1073741824)(hk:Ends k P):Ends (room n k) P:=by rw[aK h];exact hk
theorem Ends.of {α:Type}{o:Option α}{x:α}{P:α→Prop}(h:o=some x)(hp:P x):Ends o P:=⟨x,h,hp⟩
theorem Ends.iter {σ R:Type}{T:(σ→Option R)→σ→Option R}{Q:R→Prop}(I:σ→Prop)(m:σ→Nat)(hs:∀x nx,I x→(∀y,I y→m y<m x→Ends (nx y) Q)→Ends (T nx x) Q): ∀n x,I x→m x<n→Ends (aZ T n x) Q:=by intro n;induction n with|zero=>intro x _ h;omega|succ n ih=>intro x hx hm;rw[aZ];exact hs x _ hx λy hy hlt=>ih y hy (by omega)
theorem Ends.qm {σ R:Type}{T:(σ→Option R)→σ→Option R}{Q:R→Prop}(I:σ→Prop)(m:σ→Nat){x:σ}(hx:I x)(hm:m x≤1000000000000)(hs:∀x nx,I x→(∀y,I y→m y<m x→Ends (nx y) Q)→Ends (T nx x) Q):Ends (aZ T fuel x) Q:=Ends.iter I m hs fuel x hx (by have:=eF;omega)
theorem Ends.idx {α R:Type}{xs:List α}{i:Int}{k:α→Option R}{Q:R→Prop}(h0:0≤i)(h1:i<(xs.length:Int))(hk:∀(h:i.toNat<xs.length),Ends (k xs[i.toNat]) Q):Ends (aa (idx xs i) k) Q:=by
 obtain⟨n,rfl⟩:=bd h0;have hn:n<xs.length:=by omega
 rw[bm hn,ae];exact hk (by simpa using hn)
abbrev qz:=List Int×Int×Int
def Cu (c:qz):Prop:=0≤c.2.1∧c.2.1≤(c.1.length:Int)∧c.1.length≤1048576
theorem PQ (x y:Int)(n:Nat)(hy:(BitVec.ofInt (IntKind.bits .i64) y).toNat=n)(hn:n<9223372036854775808):0≤aw (BitVec.toNat (BitVec.ofInt (IntKind.bits .i64) x&&&BitVec.ofInt (IntKind.bits .i64) y))∧aw (BitVec.toNat (BitVec.ofInt (IntKind.bits .i64) x&&&BitVec.ofInt (IntKind.bits .i64) y))≤n:=by
 have h:(BitVec.ofInt (IntKind.bits .i64) x&&&BitVec.ofInt (IntKind.bits .i64) y).toNat≤n:=by rw[BitVec.toNat_and,hy];exact Nat.and_le_right
 generalize (BitVec.ofInt (IntKind.bits .i64) x&&&BitVec.ofInt (IntKind.bits .i64) y).toNat=k at h;rw[wrap64 (by omega) (by omega)];omega
theorem Xz {a:List Int}(ha:a.length≤1048576):Ends (s9 a) Cu:=by
 unfold s9;refine Ends.qm (λx=>0≤x.2∧x.2≤4000) (λx=>(4000-x.2).toNat) ⟨by omega,by omega⟩ (by simp) λx nx hx hn=>?_;unfold sr;refine Ends.bind (P:=λb=>b=true→x.2<(a.length:Int)∧x.2<4000) (Ends.cond (λh=>Ends.pure λh2=>⟨a6 h,a6 h2⟩) λh=>Ends.pure λh2=>by cases h2) λq hq=>?_;refine Ends.cond (λh=>?_) (λh=>Ends.pure ⟨eH _,by simp,ha⟩);have hq:=hq h;refine Ends.idx hx.1 hq.1 λ_=>hn _ ⟨?_,?_⟩ ?_;all_goals simp only[wrap64 (n:=x.2+1) (by omega) (by omega)]
 all_goals omega
theorem we {c:qz}(h:Cu c):Ends (gi c) λr=>(0≤r.1∧r.1≤255)∧Cu r.2:=by
 unfold gi;refine Ends.X3 (by decide) (Ends.X3 (by decide) (Ends.cond (λh1=>?_) λh1=>?_))
 ·have h1:=a6 h1;refine Ends.idx h.1 h1 λ_=>Ends.pure ⟨PQ _ 255 255 rfl (by decide),?_⟩;refine⟨?_,?_,h.2.2⟩;all_goals simp only[wrap64 (n:=c.2.1+1) (by have:=h.1;omega) (by have:=h.2.2;omega)]
  have:=h.1;omega;omega
 exact Ends.pure ⟨PQ _ 255 255 rfl (by decide),h.1,h.2.1,h.2.2⟩
theorem dR {c:qz}(h:Cu c){n:Int}(hn:0<n):Ends (bK c n) λr=>(0≤r.1∧r.1<n)∧Cu r.2:=by unfold bK;rw[af (by omega)];simp only[ai];refine Ends.cond (λh1=>?_) λh1=>?_;refine(we h).bind λr hr=>Ends.X3 (by omega) (Ends.pure ⟨⟨Int.tmod_nonneg _ hr.1.1,Int.tmod_lt_of_pos _ hn⟩,hr.2⟩);refine(we h).bind λr2 h2=>(we h2.2).bind λr3 h3=>(we h3.2).bind λr4 h4=>(we h4.2).bind λr5 h5=>Ends.X3 (by omega) (Ends.pure ⟨⟨Int.tmod_nonneg _ ?_,Int.tmod_lt_of_pos _ hn⟩,h5.2⟩);have a2:=h2.1;have a3:=h3.1;have a4:=h4.1;have a5:=h5.1;rw[wrap64 (n:=r2.1*16777216) (by omega) (by omega),wrap64 (n:=r3.1*65536) (by omega) (by omega),wrap64 (n:=r4.1*256) (by omega) (by omega)];rw[wrap64 (n:=r2.1*16777216+r3.1*65536) (by omega) (by omega)];rw[wrap64 (n:=r2.1*16777216+r3.1*65536+r4.1*256) (by omega) (by omega)];rw[wrap64 (by omega) (by omega)];omega
theorem PT {c:qz}(h:Cu c)(n:Int):Ends (bK c n) λr=>(0≤r.1∧(r.1<n∨r.1=0))∧Cu r.2:=by
 rcases Int.lt_or_le 0 n with hn|hn;exact(dR h hn).mono λr hr=>⟨⟨hr.1.1,Or.inl hr.1.2⟩,hr.2⟩
 unfold bK;rw[aj hn];exact Ends.pure ⟨⟨eH _,Or.inr rfl⟩,h⟩
theorem lA {c:qz}(h:Cu c)(n:Int):Ends (du c n) λr=>Cu r.2:=by unfold du;exact(PT h n).bind λr hr=>Ends.pure hr.2
theorem fy {c:qz}(h:Cu c){l:List Int}{P:Int→Prop}(hl:0<l.length)(hp:∀x∈l,P x):Ends (bN c l) λr=>P r.1∧Cu r.2:=by unfold bN;exact(dR h (by omega)).bind λr hr=>Ends.idx hr.1.1 hr.1.2 λhi=>Ends.pure ⟨hp _ (aM hi),hr.2⟩
theorem wE {c:qz}(h:Cu c)(n:Int):Ends (gj c n) λr=>(r.1.length≤5000∧(0≤n→n≤5000→(r.1.length:Int)=n)∧(n≤0→r.1=[]))∧Cu r.2:=by
 have key:∀v:Int,v≤5000→∀Q:(Bytes×qz)→Prop,(∀x c,((x.length:Int)=v∨(v≤0∧x=[]))→Cu c→Q (bytesOf x,c))→Ends (aZ (jM (λy _ z=>some (bytesOf y,z)) v) fuel (([]:List Int),0,c)) Q:=by
  intro v hv Q hQ;refine Ends.qm (λx=>(x.1.length:Int)=x.2.1∧(x.2.1≤v∨x.2.1=0)∧Cu x.2.2) (λx=>(v-x.2.1).toNat) ⟨rfl,Or.inr rfl,h⟩ (by simp;omega) λx nx hx hn=>?_;unfold jM;refine Ends.cond (λh1=>?_) λh1=>Ends.pure (hQ _ _ ?_ hx.2.2)
  ·have h1:=a6 h1;refine(we hx.2.2).bind λr hr=>Ends.room (by simp;omega) (hn _ ⟨?_,?_,hr.2⟩ ?_);all_goals simp only[wrap64 (n:=x.2.1+1) (by omega) (by omega)]
   simp;omega;omega;omega
  have h1:=of_decide_eq_false h1;rcases hx.2.1 with h2|h2;exact Or.inl (by omega);rcases Int.lt_or_le 0 v with h3|h3;omega;exact Or.inr ⟨h3,bF (by omega)⟩
 have hb:∀x:List Int,(bytesOf x).length=x.length:=λx=>by simp[bytesOf]
 unfold gj;refine Ends.cond (λh1=>?_) λh1=>?_;have h1:=a6 h1;refine key 5000 (by omega) _ λx c hx hc=>⟨⟨by rw[hb];rcases hx with hx|hx<;>omega,λ_ _=>by omega,λ_=>by omega⟩,hc⟩
 have h1:=of_decide_eq_false h1;refine key n (by omega) _ λx c hx hc=>⟨⟨?_,λh0 _=>?_,λh0=>?_⟩,hc⟩
 rw[hb];rcases hx with hx|hx;omega;rw[hx.2];simp;rw[hb];rcases hx with hx|hx;omega;rw[hx.2];simp;omega;rcases hx with hx|hx;have:x=[]:=bF (by omega);rw[this];rfl;rw[hx.2];rfl
theorem Qq {c:qz}(h:Cu c):Ends (rh c) λr=>(167772161≤r.1∧r.1≤167772163)∧Cu r.2:=by unfold rh;refine(dR h (by decide)).bind λr hr=>Ends.pure ⟨?_,hr.2⟩;have:=hr.1;simp only[wrap64 (n:=167772161+r.1) (by omega) (by omega)];omega
theorem NT {c:qz}(h:Cu c):Ends (pX c) λr=>(0≤r.1∧r.1≤31)∧Cu r.2:=by unfold pX;exact(fy (P:=λx=>0≤x∧x≤31) h (by decide) (by decide)).bind λr hr=>Ends.pure hr
theorem XO {c:qz}(h:Cu c){m:Int}(h0:0≤m)(h1:m≤320):Ends (nb c m) λr=>(mx r.1=true∧(r.1.2.2.2.2.2.2.2.length:Int)≤m)∧Cu r.2:=by
 unfold nb;refine(dR h (by decide)).bind λr1 p1=>(dR p1.2 (by decide)).bind λr2 p2=>?_;refine(fy (P:=λx=>0≤x∧x≤4294967295) p2.2 (by simp) ?_).bind λr3 p3=>?_;have:=p2.1;intro x hx;simp only[bl,List.not_mem_nil,or_false]at hx;omega;refine(fy (P:=λx=>0≤x∧x≤4294967295) p3.2 (by decide) (by decide)).bind λr4 p4=>(NT p4.2).bind λr5 p5=>?_;refine(fy (P:=λx=>0≤x∧x≤65535) p5.2 (by decide) (by decide)).bind λr6 p6=>?_;rw[wrap64 (n:=m+1) (by omega) (by omega)];refine(dR p6.2 (by omega)).bind λr7 p7=>(wE p7.2 r7.1).bind λr8 p8=>(lA p8.2 4).bind λr9 p9=>?_;have a1:=p1.1;have a7:=p7.1;have a8:=p8.1.2.1 a7.1 (by omega);rw[wrap64 (n:=1000+r1.1) (by omega) (by omega)];refine Ends.cond (λ_=>Ends.pure ⟨⟨Ro (by omega) (by omega) (by omega),?_⟩,p9⟩) λ_=>Ends.pure ⟨⟨JD (by omega) (by omega) p3.1 p4.1 p5.1 p6.1 (by omega),?_⟩,p9⟩;all_goals show(r8.1.length:Int)≤m
 all_goals omega
theorem OT {c:qz}(h:Cu c){m:Int}(h0:0≤m)(h1:m≤320):Ends (iZ c m) λr=>(dC r.1=true∧(r.1.2.2.2.2.2.2.2.2.2.2.2.2.2.2.2.length:Int)≤m∧(r.1.2.2.2.2.2.2.2.2.1=6∨r.1.2.2.2.2.2.2.2.2.1=17))∧Cu r.2:=by
 unfold iZ;refine(fy (P:=λx=>0≤x∧x≤281474976710655) h (by decide) (by decide)).bind λr1 p1=>?_;refine(fy (P:=λx=>0≤x∧x≤281474976710655) p1.2 (by decide) (by decide)).bind λr2 p2=>?_;refine(fy (P:=λx=> -1≤x∧x≤4095) p2.2 (by decide) (by decide)).bind λr3 p3=>?_;refine(fy (P:=λx=>0≤x∧x≤255) p3.2 (by decide) (by decide)).bind λr4 p4=>?_;refine(fy (P:=λx=>0≤x∧x≤65535) p4.2 (by decide) (by decide)).bind λr5 p5=>?_;refine(fy (P:=λx=>0≤x∧x≤255) p5.2 (by decide) (by decide)).bind λr6 p6=>?_;refine(Qq p6.2).bind λr7 p7=>?_;refine(XO p7.2 (m:=if 128<m then 128 else m) (by split<;>omega) (by split<;>omega)).bind λr8 p8=>?_;have hh:∀g:cD,mx g=true→lW (r1.1,r2.1,r3.1,r4.1,r5.1,r6.1,r7.1,167772161,g)=true:=λg hg=>Qp p1.1 p2.1 p3.1 p4.1 p5.1 p6.1 (by have:=p7.1;omega) (by omega) hg;have hk:∀g:cD,mx g=true→g.1=6∨g.1=17:=by intro g hg;unfold mx at hg;simp only[ab]at hg;have h2:=hg.2.2.2;cases h17:g.1==17 with|true=>exact Or.inr (by simpa using h17)|false=>rw[h17]at h2;simp only[ai,ab]at h2;exact Or.inl (by simpa using h2.1)
 have hl:(r8.1.2.2.2.2.2.2.2.length:Int)≤128∧(r8.1.2.2.2.2.2.2.2.length:Int)≤m:=by have:=p8.1.2;split at this<;>omega
 have short:∀c':qz,Cu c'→Ends (some ((r1.1,r2.1,r3.1,r4.1,r5.1,r6.1,r7.1,(167772161:Int),r8.1),c')) λr:ax×qz=>(dC r.1=true∧(r.1.2.2.2.2.2.2.2.2.2.2.2.2.2.2.2.length:Int)≤m∧(r.1.2.2.2.2.2.2.2.2.1=6∨r.1.2.2.2.2.2.2.2.2.1=17))∧Cu r.2:=by intro c' hc';refine Ends.pure ⟨⟨?_,hl.2,hk _ p8.1.1⟩,hc'⟩;unfold dC;rw[hh _ p8.1.1,bg];have:decide ((r8.1.2.2.2.2.2.2.2.length:Int)≤128)=true:=aj hl.1;show(decide ((r8.1.2.2.2.2.2.2.2.length:Int)≤128)||_)=true;rw[this,fO]
 refine Ends.cond (λk1=>Ends.cond (λk2=>Ends.cond (λk3=>?_) λ_=>short _ p8.2) λ_=>short _ p8.2) λ_=>short _ p8.2;have k3:=a6 k3;refine(lA p8.2 2).bind λr9 p9=>Ends.cond (λ_=>?_) λ_=>short _ p9;rw[wrap64 (n:=m-128) (by omega) (by omega),wrap64 (n:=m-128+1) (by omega) (by omega)];refine(dR p9 (by omega)).bind λr10 p10=>?_;have a10:=p10.1;rw[wrap64 (n:=128+r10.1) (by omega) (by omega)];refine(wE p10.2 _).bind λr11 p11=>?_;have a11:=p11.1.2.1 (by omega) (by omega);have hs:=O9 p8.1.1 (x:=r11.1) (by omega);refine Ends.pure ⟨⟨?_,by show(r11.1.length:Int)≤m;omega,Or.inl (by simpa using k1)⟩,p11.2⟩;unfold dC;rw[hh _ hs,bg];rw[Cf _ (zI p8.1.1 k1)]at k2;show(_||(r8.1.1==6)&&zf r8.1.2.2.2.2.2.1)=true;rw[k1,k2,dj,fN]
def Plain (p:ax):Prop:=lW p=true∧p.2.2.2.2.2.2.2.2.2.2.2.2.2.2.2.length≤40
theorem Plain.ok {p:ax}(h:Plain p):eS p=true:=(Jn p).2 ⟨h.1,by have:=h.2;omega⟩
theorem yt {c:qz}(h:Cu c):Ends (iZ c 40) λr=>Plain r.1∧Cu r.2:=(OT h (by omega) (by omega)).mono λr hr=>⟨⟨by have:=hr.1.1;unfold dC at this;simp only[ab]at this;exact this.1,by have:=hr.1.2.1;omega⟩,hr.2⟩
theorem QK {R:Type}{Q:R→Prop}{k0:List ax→qz→ax→Option R}{l:List ax}{z n:Int}{c:qz}{p:ax}(hl:l.length≤1000)(hc:Cu c)(hp:Plain p)(hk:∀c' p',Cu c'→Plain p'→Ends (k0 (l++[p]) c' p') Q):Ends (jb k0 l z n c p) Q:=by
 unfold jb;have hi:=TG (H4 hp.1);have hs:=vA hp.1;refine Ends.room (by simp;omega) (Ends.X3 (by decide) (Ends.cond (λh6=>?_) λ_=>hk _ _ hc ⟨wm hp.1 hi hs,hp.2⟩));have h6:p.2.2.2.2.2.2.2.2.1=6:=by simpa using h6
 refine(lA hc 8).bind λr hr=>Ends.cond (λ_=>Ends.X3 (by decide) (hk _ _ hr ⟨wm hp.1 hi ?_,hp.2⟩)) λ_=>hk _ _ hr ⟨wm hp.1 hi hs,hp.2⟩;have k:=Rn hs h6;have hlen:p.2.2.2.2.2.2.2.2.2.2.2.2.2.2.2.length≤320:=by have:=hp.2;omega
 exact JC hs h6 (QW k.2.2.1 hlen) k.2.2.2.2.1 hlen
theorem QJ {R:Type}{Q:R→Prop}{k0:List ax→qz→ax→Option R}{l:List ax}{z n:Int}{c:qz}{p:ax}(hl:l.length≤1000)(hz:1≤z∧z≤40)(hc:Cu c)(hp:Plain p)(hk:∀q c' p',Plain q→Cu c'→Plain p'→Ends (k0 (l++[q]) c' p') Q):Ends (ja k0 l z n c p) Q:=by
 unfold ja;refine Ends.cond (λh6=>?_) λ_=>QK hl hc hp λc' p' h1 h2=>hk _ _ _ hp h1 h2;have h6:p.2.2.2.2.2.2.2.2.1=6:=by simpa using h6
 refine(fy (P:=λx=>0≤x∧x≤31) hc (by decide) (by decide)).bind λr8 p8=>(wE p8.2 z).bind λr9 p9=>?_;have a9:=p9.1.2.1 (by omega) (by omega);have hs:=vA hp.1;have hq:Plain (p.1,p.2.1,p.2.2.1,p.2.2.2.1,p.2.2.2.2.1,p.2.2.2.2.2.1,p.2.2.2.2.2.2.1,p.2.2.2.2.2.2.2.1,p.2.2.2.2.2.2.2.2.1,p.2.2.2.2.2.2.2.2.2.1,p.2.2.2.2.2.2.2.2.2.2.1,p.2.2.2.2.2.2.2.2.2.2.2.1,p.2.2.2.2.2.2.2.2.2.2.2.2.1,r8.1,p.2.2.2.2.2.2.2.2.2.2.2.2.2.2.1,r9.1):=⟨wm hp.1 (H4 hp.1) (JC hs h6 (Rn hs h6).2.2.1 p8.1 (by omega)),by show r9.1.length≤40;omega⟩
 exact QK hl p9.2 hq λc' p' h1 h2=>hk _ _ _ hq h1 h2
theorem Us {R:Type}{Q:R→Prop}{k0:List ax→Int→qz→ax→Option R}{l:List ax}{z n:Int}{c:qz}{p:ax}(hl:l.length≤1000)(hz:1≤z∧z≤40)(hc:Cu c)(hp:Plain p)(hk:∀q z' c' p',Plain q→(1≤z'∧z'≤40)→Cu c'→Plain p'→Ends (k0 (l++[q]) z' c' p') Q):Ends (jO k0 l z n c p) Q:=by unfold jO;refine(lA hc 6).bind λr6 p6=>Ends.cond (λ_=>?_) λ_=>QJ hl hz p6 hp λq c' p' h1 h2 h3=>hk _ _ _ _ h1 hz h2 h3;refine(dR p6 (by decide)).bind λr7 p7=>?_;have a7:=p7.1;rw[wrap64 (n:=1+r7.1) (by omega) (by omega)];exact QJ hl (by omega) p7.2 hp λq c' p' h1 h2 h3=>hk _ _ _ _ h1 (by omega) h2 h3
theorem aa4 {R:Type}{Q:R→Prop}{k0:List ax→Int→Int→qz→ax→Option R}{l:List ax}{z n:Int}{c:qz}{p:ax}(hl:l.length≤1000)(hz:1≤z∧z≤40)(hn:0<n∧n≤1000)(hc:Cu c)(hp:Plain p)(hk:∀q z' c' p',Plain q→(1≤z'∧z'≤40)→Cu c'→Plain p'→Ends (k0 (l++[q]) z' (n-1) c' p') Q):Ends (nd k0 l z n c p) Q:=by unfold nd;have e:aw (n-1)=n-1:=wrap64 (by omega) (by omega);refine(lA hc 5).bind λr4 p4=>Ends.cond (λ_=>?_) λ_=>?_;refine(yt p4).bind λr5 p5=>Us hl hz p5.2 p5.1 λq z' c' p' h1 h2 h3 h4=>?_;unfold jN;rw[e];exact hk _ _ _ _ h1 h2 h3 h4;refine Us hl hz p4 hp λq z' c' p' h1 h2 h3 h4=>?_;unfold jN;rw[e];exact hk _ _ _ _ h1 h2 h3 h4
theorem TA {c:qz}(h:Cu c){m:Int}(h0:0<m)(h1:m≤100):Ends (ri c m) λr=>((∀p∈r.1,Plain p)∧0<r.1.length∧(r.1.length:Int)≤m)∧Cu r.2:=by unfold ri;refine(yt h).bind λr1 p1=>(dR p1.2 (by decide)).bind λr2 p2=>(dR p2.2 h0).bind λr3 p3=>?_;have a2:=p2.1;have a3:=p3.1;rw[wrap64 (n:=r2.1*8) (by omega) (by omega),wrap64 (n:=8+r2.1*8) (by omega) (by omega),wrap64 (n:=1+r3.1) (by omega) (by omega)];refine Ends.qm (λx=>(∀p∈x.1,Plain p)∧(1≤x.2.1∧x.2.1≤40)∧0≤x.2.2.1∧(x.1.length:Int)+x.2.2.1=1+r3.1∧Cu x.2.2.2.1∧Plain x.2.2.2.2) (λx=>x.2.2.1.toNat) ⟨by simp,(by dsimp only;omega),(by dsimp only;omega),by simp,p3.2,p1.1⟩ (by simp;omega) λx nx hx hn=>?_;unfold qE;refine Ends.cond (λk=>?_) λk=>?_;have k:=a6 k;refine aa4 (by omega) hx.2.1 (by omega) hx.2.2.2.2.1 hx.2.2.2.2.2 λq z' c' p' h1 h2 h3 h4=>hn _ ⟨?_,h2,?_,?_,h3,h4⟩ ?_;intro y hy;rcases al.1 hy with hy|hy;exact hx.1 y hy;simp only[bw]at hy;rw[hy];exact h1;show 0≤x.2.2.1-1;omega;show((x.1++[q]).length:Int)+(x.2.2.1-1)=1+r3.1;have:=hx.2.2.2.1;simp;omega;show(x.2.2.1-1).toNat<x.2.2.1.toNat;omega;have k:=of_decide_eq_false k;have:=hx.2.2.2.1;have:=hx.2.2.1;exact Ends.pure ⟨⟨hx.1,(by dsimp only;omega),(by dsimp only;omega)⟩,hx.2.2.2.2.1⟩
theorem TN {c:qz}(h:Cu c){l:List ax}(hl:l.length≤1000000):Ends (rj c l) λr=>(r.1.length≤l.length∧∀s∈r.1,s.2.2.1=[])∧Cu r.2:=by unfold rj;refine Ends.qm (λx=>0≤x.2.1∧(x.1.length:Int)≤x.2.1∧x.2.1≤(l.length:Int)∧(∀s∈x.1,s.2.2.1=[])∧Cu x.2.2) (λx=>((l.length:Int)-x.2.1).toNat) ⟨by simp,by simp,by simp,by simp,h⟩ (by simp;omega) λx nx hx hn=>?_;have e:x.2.1<(l.length:Int)→aw (x.2.1+1)=x.2.1+1:=λ_=>wrap64 (by omega) (by omega);unfold qF;refine Ends.cond (λk=>?_) λk=>Ends.pure ⟨⟨(by dsimp only;omega),hx.2.2.2.1⟩,hx.2.2.2.2⟩;have k:=a6 k;rw[e k];have skip:∀c',Cu c'→Ends (nx (x.1,x.2.1+1,c')) _:=λc' hc'=>hn _ ⟨by show 0≤x.2.1+1;omega,by show(x.1.length:Int)≤x.2.1+1;omega,by show x.2.1+1≤_;omega,hx.2.2.2.1,hc'⟩ (by show((l.length:Int)-(x.2.1+1)).toNat<_;omega);refine Ends.idx hx.1 k λhi=>?_;rw[Rx,ae];refine Ends.cond (λ_=>?_) λ_=>skip _ hx.2.2.2.2;rw[RE _ _ (by omega),ae];refine Ends.cond (λ_=>?_) λ_=>skip _ hx.2.2.2.2;refine(lA hx.2.2.2.2 6).bind λr4 p4=>Ends.cond (λ_=>?_) λ_=>skip _ p4;refine Ends.idx hx.1 k λhi=>(fy (P:=λ_=>True) p4 (by decide) (by simp)).bind λr6 p6=>Ends.room (by simp;omega) (hn _ ⟨by show 0≤x.2.1+1;omega,?_,by show x.2.1+1≤_;omega,?_,p6.2⟩ (by show((l.length:Int)-(x.2.1+1)).toNat<_;omega));show((x.1++[_]).length:Int)≤x.2.1+1;simp;omega;intro s hs;rcases al.1 hs with hs|hs;exact hx.2.2.2.1 s hs;simp only[bw]at hs;rw[hs]
theorem WA {c:qz}(h:Cu c):Ends (ta c) λr=>r.1.length=16∧Cu r.2:=by unfold ta;exact(wE h 16).bind λr hr=>Ends.pure ⟨by have:=hr.1.2.1 (by omega) (by omega);omega,hr.2⟩
structure sC (s:cj):Prop where
 r:s.1.length≤100
 t:s.2.1.length≤100
 k:s.2.2.1.length=16
 p:s.2.2.2.length≤100
theorem HQ {c:qz}(h:Cu c):Ends (oP c) λr=>(r.1.1=2∧(r.1.2.2=[7]∨r.1.2.2=[]))∧Cu r.2:=by unfold oP;exact(lA h 4).bind λr1 p1=>(lA p1 2).bind λr2 p2=>Ends.cond (λ_=>Ends.pure ⟨⟨rfl,Or.inl rfl⟩,p2⟩) λ_=>Ends.pure ⟨⟨rfl,Or.inr rfl⟩,p2⟩
theorem Xq:eN (lX 38)=true:=by decide+kernel
def uX (f:Filter)(s:cj)(c:Bool):List Vector→Host
 |[]=>Ey f s c 38
 |v::vs=>EO ((uX f s c vs).1,(uX f s c vs).2.1,(uX f s c vs).2.2.1,(uX f s c vs).2.2.2.1++[((0,0,0,0),(0,0,0),(0,0,0),((0,0,0,0,0,0,0,0,0,0,0,0,0,0,0,([]:Bytes)),0,0),false,0)],(uX f s c vs).2.2.2.2.1++[(0,0,0,([]:List Int))],(uX f s c vs).2.2.2.2.2.1++[v],(uX f s c vs).2.2.2.2.2.2.1++[false],(uX f s c vs).2.2.2.2.2.2.2) vs.length
def P2 (h:Host):=(h.1,h.2.1,h.2.2.1,h.2.2.2.1,h.2.2.2.2.1,h.2.2.2.2.2.1,h.2.2.2.2.2.2.1)
structure Made (f:Filter) (s:cj) (c:Bool) (k:Nat) (h:Host):Prop where
 mem:dH h.1=true
 ml:h.1.length=38
 maps:h.2.1=lX 38
 tx:h.2.2.1=vY
 rx:h.2.2.2.1.length=k
 rxs:∀r∈h.2.2.2.1,Fg 0 r∧r.2.2.2.2.1=false
 pl:h.2.2.2.2.1.length=k
 pls:∀p∈h.2.2.2.2.1,dX p=true∧p.2.2.2.length≤1000
 vec:h.2.2.2.2.2.1.length=k
 vecs:∀v∈h.2.2.2.2.2.1,kI v=true
 pol:h.2.2.2.2.2.2.1.length=k
 rest:h.2.2.2.2.2.2.2=(f,s,([]:List Stream),c,([]:List Bytes),([]:List Int),([]:List Int),0,0,0,0,0)
 is:∃vs,vs.length=k∧h=uX f s c vs∧∀v∈vs,v.2.1≤3∧v.2.2.2.2.1=false
theorem JG {α:Type}(l:List α)(x y:α):(l++[x]).set l.length y=l++[y]:=by simp
theorem TC {n:Nat}(h:n≤64):dH (sA n)=true:=pg.2 ⟨λx hx=>by rw[(List.mem_replicate.1 hx).2];exact wF 128,by simp[sA];exact h⟩
theorem Ok {f:Filter}{s:cj}{c:Bool}{k:Nat}{h:Host}(m:Made f s c k h)(hk:k≤8){v:Vector}(hv:kI v=true)(h3:v.2.1≤3∧v.2.2.2.2.1=false):Ends (oS (h.1,h.2.1,h.2.2.1,h.2.2.2.1++[((0,0,0,0),(0,0,0),(0,0,0),((0,0,0,0,0,0,0,0,0,0,0,0,0,0,0,([]:Bytes)),0,0),false,0)],h.2.2.2.2.1++[(0,0,0,([]:List Int))],h.2.2.2.2.2.1++[v],h.2.2.2.2.2.2.1++[false],h.2.2.2.2.2.2.2) (k:Int)) λr=>Made f s c (k+1) r.2:=by
 refine Ends.of (JR _ k hk (by simp[m.rx]) (by simp[m.pl]) (by show h.2.1.length≤_;rw[m.maps,tO];omega) (by show h.1.length≤_;rw[m.ml];omega)) ?_;have o:=ON m.mem h.2.1 hk;have e1:(h.2.2.2.1++[(((0,0,0,0),(0,0,0),(0,0,0),((0,0,0,0,0,0,0,0,0,0,0,0,0,0,0,([]:Bytes)),0,0),false,0):eE)])[k]?=some ((0,0,0,0),(0,0,0),(0,0,0),((0,0,0,0,0,0,0,0,0,0,0,0,0,0,0,([]:Bytes)),0,0),false,0):=by rw[←m.rx];simp
 have e2:∀y:eE,(h.2.2.2.1++[(((0,0,0,0),(0,0,0),(0,0,0),((0,0,0,0,0,0,0,0,0,0,0,0,0,0,0,([]:Bytes)),0,0),false,0):eE)]).set k y=h.2.2.2.1++[y]:=λy=>by rw[←m.rx];exact JG _ _ _
 have e3:∀y:dZ,(h.2.2.2.2.1++[(((0,0,0,([]:List Int))):dZ)]).set k y=h.2.2.2.2.1++[y]:=λy=>by rw[←m.pl];exact JG _ _ _
 obtain⟨vs,vl,ve,vb⟩:=m.is;have is0:EO (h.1,h.2.1,h.2.2.1,h.2.2.2.1++[((0,0,0,0),(0,0,0),(0,0,0),((0,0,0,0,0,0,0,0,0,0,0,0,0,0,0,([]:Bytes)),0,0),false,0)],h.2.2.2.2.1++[(0,0,0,([]:List Int))],h.2.2.2.2.2.1++[v],h.2.2.2.2.2.2.1++[false],h.2.2.2.2.2.2.2) k=uX f s c (v::vs):=by rw[uX,←ve,vl]
 unfold EO at is0⊢;simp only[e1,e2,e3]at is0⊢;have hp:(sa h.2.1 h.1 k).2.2.1.2.2.2.length≤1000:=by unfold sa;exact bS (KH ..) (uz _ _ _ (by omega))
 refine⟨o.1,?_,m.maps,m.tx,by show(_++[_]).length=_;rw[ak,m.rx];rfl,?_,by show(_++[_]).length=_;rw[ak,m.pl];rfl,?_,by show(_++[_]).length=_;rw[ak,m.vec];rfl,?_,by show(_++[_]).length=_;rw[ak,m.pol];rfl,m.rest,⟨v::vs,by simp[vl],is0,λw hw=>?_⟩⟩;show(sa h.2.1 h.1 k).1.length=38;rw[OM,m.ml];intro r hr;rcases al.1 hr with hr|hr;exact m.rxs r hr;rw[bw.1 hr];exact⟨Rl hk o.2.1 ⟨eH _,eH _⟩,rfl⟩;intro p hp';rcases al.1 hp' with hp'|hp';exact m.pls p hp';rw[bw.1 hp'];exact⟨o.2.2,hp⟩;intro w hw;rcases al.1 hw with hw|hw;exact m.vecs w hw;rw[bw.1 hw];exact hv;rcases bl.1 hw with e|e;rw[e];exact h3;exact vb w e
structure wK (h:Host):Prop where
 Te:Good 0 h
 sz:Py 2000 h
 maps:∀m∈h.2.1,m.2.2.1<(h.1.length:Int)
 led:h.2.2.1.2.2.1=[]∧h.2.2.2.2.2.2.2.2.2.2.2.1=[]∧h.2.2.2.2.2.2.2.2.2.2.2.2.1=[]∧h.2.2.2.2.2.2.2.2.2.2.2.2.2.1=[]
 is:∃f s c vs,vs.length≤2∧P2 h=P2 (uX f s c vs)∧∀v∈vs,v.2.1≤3∧v.2.2.2.2.1=false
theorem Ll {f:Filter}{s:cj}{c:Bool}{k:Nat}{h:Host}(m:Made f s c k h)(hk:1≤k∧k≤2)(hf:eh f=true)(hf2:f.2.2.length≤1000)(hs:dF s (k:Int)=true)(hz:sC s):wK h:=by have h4:=uz 256 128 8 (by omega);obtain⟨vs,vl,ve,vb⟩:=m.is;obtain⟨m1,m2,m3,m4,m5,m6,m7,m8,m9,m10,m11,m12,_⟩:=m;obtain⟨mem,maps,tx,rx,pl,vec,pol,rest⟩:=h;simp only at m1 m2 m3 m4 m5 m6 m7 m8 m9 m10 m11 m12;subst m12 m3 m4;refine⟨⟨m1,Xq,XW 0 (by omega),hf,?_,by show dF s (rx.length:Int)=true;rw[m5];exact hs,λr hr=>(m6 r hr).1,λp hp=>(m8 p hp).1,m10,?_⟩,⟨?_,?_⟩,?_,⟨rfl,rfl,rfl,rfl⟩,⟨f,s,c,vs,by omega,congrArg P2 ve,vb⟩⟩;unfold yk;simp only[ab,br,aL];omega;intro x hx;simp only[iI,bl,List.not_mem_nil,or_false,or_self]at hx;omega;have hm:=(pg.1 m1).1;refine⟨⟨by show mem.length≤2000;omega,λx hx=>by show x.length≤2000;rw[hm x hx];omega⟩,⟨by show(lX 38).length≤2000;rw[tO];omega,λ_ _=>⟨trivial,trivial,trivial,trivial⟩⟩,?_,?_,?_,?_,?_,⟨trivial,trivial,by show f.2.2.length≤2000;omega,λ_ _=>trivial⟩,?_,⟨bt _,λx hx=>by cases hx⟩,trivial,⟨bt _,λx hx=>by cases hx⟩,⟨bt _,λx hx=>by cases hx⟩,⟨bt _,λx hx=>by cases hx⟩,trivial,trivial,trivial,trivial,trivial⟩;exact⟨⟨trivial,trivial,trivial,trivial⟩,⟨trivial,trivial,trivial,by show List.length (iR 256 128 8).1.2.2.2≤2000;omega,λ_ _=>trivial⟩,⟨bt _,λx hx=>by cases hx⟩,trivial⟩;refine⟨by show rx.length≤2000;omega,λx hx=>?_⟩;have e:=(m6 x hx).1.free (m6 x hx).2;refine⟨⟨trivial,trivial,trivial,trivial⟩,⟨trivial,trivial,trivial⟩,⟨trivial,trivial,trivial⟩,?_,trivial,trivial⟩;rw[e];exact⟨⟨trivial,trivial,trivial,trivial,trivial,trivial,trivial,trivial,trivial,trivial,trivial,trivial,trivial,trivial,trivial,bt _⟩,trivial,trivial⟩;exact⟨by show pl.length≤2000;omega,λx hx=>⟨trivial,trivial,trivial,by have:=(m8 x hx).2;show x.2.2.2.length≤2000;omega,λ_ _=>trivial⟩⟩;exact⟨by show vec.length≤2000;omega,λx hx=>⟨trivial,trivial,trivial,trivial,trivial,trivial⟩⟩;exact⟨by show pol.length≤2000;omega,λx hx=>trivial⟩;exact⟨⟨by have:=hz.r;show s.1.length≤2000;omega,λ_ _=>⟨trivial,trivial,trivial,trivial,trivial,trivial,trivial,trivial,trivial⟩⟩,⟨by have:=hz.t;show s.2.1.length≤2000;omega,λ_ _=>⟨trivial,⟨trivial,trivial,trivial,trivial,trivial⟩,trivial⟩⟩,by have:=hz.k;show s.2.2.1.length≤2000;omega,by have:=hz.p;show s.2.2.2.length≤2000;omega,λ_ _=>trivial⟩;show List.length (iR 256 128 8).1.2.2.2+0≤2000;omega;intro m hm;have hm:m∈lX 38:=hm;simp only[lX,List.mem_map,bf]at hm;obtain⟨i,hi,rfl⟩:=hm;show 37-(i:Int)<(mem.length:Int);omega
theorem OF {a b:Int}(h:(kV a b).2=true):kI (kV a b).1=true:=by unfold kV at h⊢;cases hv:kI (a,b,0,0,false,false)with|false=>rw[hv]at h;cases h|true=>exact hv
theorem QV {a b:Int}(h:(kV a b).2=true)(hb:b≤3):(kV a b).1.2.1≤3∧(kV a b).1.2.2.2.2.1=false:=by unfold kV at h⊢;cases hv:kI (a,b,0,0,false,false)with|false=>rw[hv]at h;cases h|true=>exact⟨hb,rfl⟩
theorem Ly (q:Int)(f:Filter)(s:cj)(c:Bool)(a b:Int)(hf:f.2.2.length≤1000)(hs:sC s)(hb3:b≤3):Ends (lH q f s c a b) λr=>(r.2=true→wK r.1)∧((1≤q∧q≤2)→eh f=true→dF s q=true→(kV a b).2=true→r.2=true):=by
 have z1:=hs.r;have z2:=hs.t;have z3:=hs.p;unfold lH;rw[Da,ae,bV,ae];refine Ends.bind (P:=λx=>(x=false→(1≤q∧q≤2)∧eh f=true∧dF s q=true∧(kV a b).2=true)∧(x=true→(1≤q∧q≤2)→eh f=true→dF s q=true→(kV a b).2=true→False)) ?_ λx hx=>Ends.cond (λhx2=>Ends.pure ⟨(λh=>by cases h),λg1 g2 g3 g4=>(hx.2 hx2 g1 g2 g3 g4).elim⟩) λh=>?_;refine Ends.cond (λk=>Ends.pure ⟨(λh=>by cases h),λ_ g1 _ _ _=>by rw[br.2 g1]at k;cases k⟩) λh1=>?_;rw[sn f (by omega),ae];refine Ends.cond (λk=>Ends.pure ⟨(λh=>by cases h),λ_ _ g2 _ _=>by rw[g2]at k;cases k⟩) λh2=>?_;rw[uI s q (by omega) (by omega) (by omega),ae];refine Ends.cond (λk=>Ends.pure ⟨(λh=>by cases h),λ_ _ _ g3 _=>by rw[g3]at k;cases k⟩) λh3=>Ends.pure ⟨λh4=>?_,λk _ _ _ g4=>by rw[g4]at k;cases k⟩;exact⟨br.1 (by simpa using h1),by simpa using h2,by simpa using h3,by simpa using h4⟩;obtain⟨hq,h1,h2,h3⟩:=hx.1 h;have hm:iX 38=some (sA 38):=C9 38 (by omega);rw[hm,ae,E4,ae,ow f (by omega),ae,tz s (by omega) (by omega) (by omega),ae];have hv:=OF h3;refine Ends.qm (λx=>0≤x.1∧x.1≤38∧x.2=Ey f s c x.1.toNat) (λx=>(38-x.1).toNat) ⟨by simp,by simp,rfl⟩ (by simp) λx nx hx hn=>?_;obtain⟨i,y⟩:=x;obtain⟨x1,x2,x3⟩:=hx;simp only at x1 x2 x3;unfold jH;refine Ends.cond (λk=>?_) λk=>?_;have k:=a6 k;have hl:=tO i.toNat;simp only at k;rw[bV,ae];simp only;rw[wrap64 (n:=i+1) (by omega) (by omega),wrap64 (n:=37-i) (by omega) (by omega)];subst x3;refine Ends.room (by show(lX i.toNat).length+1≤_;omega) (hn _ ⟨by show 0≤i+1;omega,by show i+1≤38;omega,?_⟩ (by show(38-(i+1)).toNat<(38-i).toNat;omega));have e:(i+1).toNat=i.toNat+1:=by omega
 show(sA 38,lX i.toNat++_,_)=Ey f s c (i+1).toNat;rw[e];unfold Ey;rw[CH,show((i.toNat:Nat):Int)=i by omega];have k:=of_decide_eq_false k;simp only at k;have e:i.toNat=38:=by omega
 rw[e]at x3;have hm0:Made f s c 0 y:=by rw[x3];exact⟨TC (by omega),by show(sA 38).length=38;simp[sA],rfl,rfl,rfl,(λ_ hr=>by cases hr),rfl,(λ_ hr=>by cases hr),rfl,(λ_ hr=>by cases hr),rfl,rfl,⟨[],rfl,rfl,λ_ hv=>by cases hv⟩⟩
 simp only;refine Ends.qm (λx=>0≤x.1∧x.1≤q∧Made f s c x.1.toNat x.2) (λx=>(q-x.1).toNat) ⟨by simp,by show(0:Int)≤q;omega,hm0⟩ (by simp;omega) λx nx hx hn=>?_;obtain⟨i,y⟩:=x;obtain⟨x1,x2,m⟩:=hx;simp only at x1 x2 m;unfold iW;refine Ends.cond (λk=>?_) λk=>Ends.pure ⟨λ_=>?_,λ_ _ _ _=>rfl⟩;have k:=a6 k;simp only at k;have l1:=m.rx;have l2:=m.pl;have l3:=m.vec;have l4:=m.pol;refine Ends.room (by simp;omega) (Ends.room (by simp;omega) (Ends.room (by simp;omega) (Ends.room (by simp;omega) ?_)));have ho:=Ok m (by omega) hv (QV h3 hb3);rw[show((i.toNat:Nat):Int)=i by omega]at ho;refine ho.bind λr hr=>?_;simp only;rw[wrap64 (n:=i+1) (by omega) (by omega)];refine hn _ ⟨by show 0≤i+1;omega,by show i+1≤q;omega,?_⟩ (by show(q-(i+1)).toNat<(q-i).toNat;omega);show Made f s c (i+1).toNat r.2;rw[show(i+1).toNat=i.toNat+1 by omega];exact hr;have k:=of_decide_eq_false k;simp only at k;have hi:i=q:=by omega
 subst hi;exact Ll m (by omega) h1 hf (by rw[show((i.toNat:Nat):Int)=i by omega];exact h2) hs
def Vh (a:Act):Prop:=a.2.1.2.2.2.2.2.2.2.2.2.2.2.2.2.2.2.length≤1000∧a.2.2.2.2.1.length≤382∧0≤a.1∧a.1≤6
theorem yl (n x:Int)(h0:0≤n)(h1:n≤1000000):Ends (dI n x) λr=>(r.length:Int)=n:=by unfold dI;rw[au ⟨h0,eH _⟩];refine Ends.room (by omega) (Ends.qm (λy=>(y.1.length:Int)=n∧0≤y.2∧y.2≤n) (λy=>(n-y.2).toNat) ⟨by simp;omega,by simp,h0⟩ (by simp;omega) λy nx hy hn=>?_);unfold jL;refine Ends.cond (λk=>?_) λk=>Ends.pure (by simp[bytesOf];exact hy.1);have k:=a6 k;rw[wrap64 (n:=y.2+1) (by omega) (by omega)];refine Ends.idx hy.2.1 (by omega) λ_=>Ends.idx hy.2.1 (by omega) λ_=>hn _ ⟨?_,?_,?_⟩ ?_;show((List.set _ _ _).length:Int)=n;rw[aP];exact hy.1;show 0≤y.2+1;omega;show y.2+1≤n;omega;show(n-(y.2+1)).toNat<(n-y.2).toNat;omega
theorem Ad:mC=some (List.replicate 8 (0,(0,0,0,0,0),0)):=by unfold mC;rw[au (by decide),aK (by decide)];rfl
theorem Lg {k:Bytes}(hk:k.length=16):dF (([]:List fY),List.replicate 8 (0,(0,0,0,0,0),0),k,[0]) 1=true:=by
 have ht:nr (List.replicate 8 (0,(0,0,0,0,0),0))=true:=by decide+kernel
 have hs:oU (k,[0]) 1=true:=by unfold oU;simp only[hk];decide+kernel
 unfold dF;rw[show si ([]:List fY)=true from rfl,ht,hs];rfl
def qx (h:Host)(s:List Stream):Host:=(h.1,h.2.1,h.2.2.1,h.2.2.2.1,h.2.2.2.2.1,h.2.2.2.2.2.1,h.2.2.2.2.2.2.1,h.2.2.2.2.2.2.2.1,h.2.2.2.2.2.2.2.2.1,s,h.2.2.2.2.2.2.2.2.2.2)
theorem DK {h:Host}(f:wK h){s:List Stream}(h1:s.length≤2000)(h2:∀x∈s,x.2.2.1=[]):wK (qx h s):=by have g:=f.Te;have z:=f.sz.z;refine⟨⟨g.mem,g.maps,g.tx,g.F9,g.lens,g.ste,g.rx,g.pool,g.vec,g.PA⟩,⟨⟨z.1,z.2.1,z.2.2.1,z.2.2.2.1,z.2.2.2.2.1,z.2.2.2.2.2.1,z.2.2.2.2.2.2.1,z.2.2.2.2.2.2.2.1,z.2.2.2.2.2.2.2.2.1,⟨h1,λx hx=>?_⟩,z.2.2.2.2.2.2.2.2.2.2⟩,f.sz.t⟩,f.maps,f.led,f.is⟩;refine⟨⟨trivial,trivial,trivial,trivial,trivial⟩,trivial,?_,trivial⟩;show x.2.2.1.length≤2000;rw[h2 x hx];simp
theorem TV {n:Int}{h:Host}(g:Good n h)(hn:n≤1000000000000):sm h=(h.2.2.2.2.2.2.2.1,h.2.2.2.2.2.2.2.2.1,(h.2.2.2.1.length:Int),h.2.2.2.2.2.2.2.2.2.1,([]:List Bytes))∧sZ (sm h)=true:=by
 have e:sm h=(h.2.2.2.2.2.2.2.1,h.2.2.2.2.2.2.2.2.1,(h.2.2.2.1.length:Int),h.2.2.2.2.2.2.2.2.2.1,([]:List Bytes)):=by unfold sm;rw[g.ok hn];rfl
 refine⟨e,?_⟩;rw[e];unfold sZ;rw[ab];exact⟨g.F9,g.ste⟩
structure zP (n:Int) (c:dJ):Prop where
 ports:(cx c.2.2.1).2=true
 len:c.1.length=c.2.2.1.length∧c.2.1.length=c.2.2.1.length
 fns:eK c.2.1 (cx c.2.2.1).1=true
 boot:¬nK c.2.2.2.1<0
 clock:pa c.2.2.2.2.1=true
 host:∀(i:Nat)(h:Host)(b:aX),c.1[i]?=some h→c.2.2.1[i]?=some b→Good n h∧h.2.2.2.2.2.2.2.1=b.1
 place:∀i,i<c.1.length→ov c.2.1 i=true
 boxn:∀b∈c.2.2.1,b.2.1≤n∧b.2.2.2≤n
 fnn:∀f∈c.2.1,f.2.2.2.2.1≤n∧f.2.2.2.2.2≤n
theorem zP.mono {n m:Int}{c:dJ}(g:zP n c)(h:n≤m):zP m c:=⟨g.ports,g.len,g.fns,g.boot,g.clock,λi a b h1 h2=>⟨(g.host i a b h1 h2).1.mono h,(g.host i a b h1 h2).2⟩,g.place,λb hb=>⟨by have:=(g.boxn b hb).1;omega,by have:=(g.boxn b hb).2;omega⟩,λf hf=>⟨by have:=(g.fnn f hf).1;omega,by have:=(g.fnn f hf).2;omega⟩⟩
theorem zP.ok {n:Int}{c:dJ}(g:zP n c)(hn:n≤1000000000000):xG c=true:=by
 unfold xG;rw[g.ports,g.fns,g.clock,af g.boot];simp only[cp,bg];rw[ab,ab,az,az];refine⟨?_,?_,?_⟩;unfold CE;rw[g.len.1,g.len.2];simp;intro i hi;have hi:=bf.1 hi;have hj:i<c.2.2.1.length:=by have:=g.len.1;omega
 rw[BC i hi hj];have q:=g.host i _ _ (List.getElem?_eq_getElem hi) (List.getElem?_eq_getElem hj);rw[q.1.ok hn,B9 q.2];rfl;intro i hi;exact g.place i (bf.1 hi)
theorem E7:∀(ms:List aX)(s:List Int×List Port),(ms.foldl vS s).2.length=s.2.length+ms.length
 |[],s=>rfl
 |m::ms,s=>by rw[cE,E7 ms];show(s.2++[_]).length+_=_;rw[ak,bR,bD];omega
theorem wu {ms:List aX}(h:(cx ms).2=true):(cx ms).1=ix ms∧(ix ms).length=ms.length+1∧ee (ix ms)=true∧(∀m∈ms,kB m=true)∧1≤ms.length∧ms.length≤3:=by unfold cx at h⊢;cases hq:cM (ms.length:Int) 1 3&&(ms.all kB&&ee (ix ms))with|false=>rw[hq]at h;cases h|true=>simp only[ab,br,az]at hq;refine⟨rfl,?_,hq.2.2,hq.2.1,by omega,by omega⟩;unfold ix;rw[bD,E7];simp
structure Nt (k:Int) (b:aX):Prop where
 TB:b.1.1=k
 vl:b.1.2.2=[7]∨b.1.2.2=[]
 last:0≤b.2.1∧b.2.1≤4
 done:0≤b.2.2.2∧b.2.2.2≤3
theorem Vw {c:qz}(h:Cu c):Ends (td c) λr=>((r.1.1.2.2=[7]∨r.1.1.2.2=[])∧(0≤r.1.2.1∧r.1.2.1≤4)∧0≤r.1.2.2.2∧r.1.2.2.2≤3)∧Cu r.2:=by unfold td;refine(HQ h).bind λr1 p1=>(dR p1.2 (by decide)).bind λr2 p2=>(dR p2.2 (by decide)).bind λr3 p3=>(dR p3.2 (by decide)).bind λr4 p4=>Ends.pure ⟨⟨p1.1.2,?_,?_⟩,p4.2⟩;have:=p2.1;show 0≤r2.1∧r2.1≤4;omega;have:=p4.1;show 0≤r4.1∧r4.1≤3;omega
theorem HY {α:Type}{P:Nat→α→Prop}{l:List α}{a:α}(h:∀i b,l[i]?=some b→P i b)(ha:P l.length a):∀i b,(l++[a])[i]?=some b→P i b:=by
 intro i b hb;rcases bB i l.length with hi|hi;rw[List.getElem?_append_left hi]at hb;exact h i b hb;rw[List.getElem?_append_right hi]at hb;obtain⟨hj,hb⟩:=List.getElem?_eq_some_iff.1 hb;have e:i=l.length:=by simp at hj;omega
 subst e;simp at hb;rw[←hb];exact ha
theorem PZ {c:qz}(h:Cu c):Ends (qb c) λr=>((1≤r.1.length∧r.1.length≤3)∧∀(i:Nat)(b:aX),r.1[i]?=some b→Nt (2*((i:Int)+1)) b)∧Cu r.2:=by unfold qb;refine(dR h (n:=3) (by decide)).bind λr1 p1=>?_;have hp:=p1.1;rw[wrap64 (n:=1+r1.1) (by omega) (by omega)];refine Ends.qm (λx=>0≤x.2.1∧(x.1.length:Int)+x.2.1=1+r1.1∧(∀(i:Nat)(b:aX),x.1[i]?=some b→Nt (2*((i:Int)+1)) b)∧Cu x.2.2) (λx=>x.2.1.toNat) ⟨by show 0≤1+r1.1;omega,by simp,by intro i b hb;simp at hb,p1.2⟩ (by show(1+r1.1).toNat≤_;omega) λx nx hx hn=>?_;obtain⟨l,n,c'⟩:=x;obtain⟨x1,x2,x3,x4⟩:=hx;simp only at x1 x2 x3 x4;unfold px;refine Ends.cond (λk=>?_) λk=>?_;have k:=a6 k;simp only at k⊢;refine(Vw x4).bind λr2 p2=>Ends.room (by simp;omega) ?_;rw[wrap64 (n:=(l.length:Int)+1) (by omega) (by omega),wrap64 (n:=2*((l.length:Int)+1)) (by omega) (by omega),wrap64 (n:=n-1) (by omega) (by omega)];refine hn _ ⟨by show 0≤n-1;omega,by show((l++[_]).length:Int)+(n-1)=_;simp;omega,HY x3 ⟨rfl,p2.1.1,p2.1.2.1,p2.1.2.2⟩,p2.2⟩ (by show(n-1).toNat<n.toNat;omega);have k:=of_decide_eq_false k;simp only at k⊢;exact Ends.pure ⟨⟨⟨by show 1≤l.length;omega,by show l.length≤3;omega⟩,x3⟩,x4⟩
theorem N1 {v:Int}{b:Bytes}:(cK v b).1.length≤96:=by unfold cK;cases hq:cM v 0 1000000&&decide (b.length≤84)with|false=>simp|true=>simp only[ab,aD]at hq;show(Gc v b).length≤96;unfold Gc;have h4:∀v,(dY v).length≤4:=c7;have a:=h4 v;have b1:=h4 (b.length:Int);have c:=h4 (BE ((dY v++dY (b.length:Int))++b));simp only[ak];omega
theorem Cp {c:qz}(h:Cu c):Ends (mG c) λr=>r.1.length≤96∧Cu r.2:=by unfold mG;refine(fy (P:=λ_=>True) h (by decide) (by simp)).bind λr1 p1=>(dR p1.2 (by decide)).bind λr2 p2=>(wE p2.2 r2.1).bind λr3 p3=>?_;rw[C8 _ _ (by have:=p3.1.1;omega),ae];exact Ends.pure ⟨N1,p3.2⟩
theorem KK {c:qz}(h:Cu c):Ends (pZ c) λr=>(r.1.length=2∧∀x∈r.1,x.length=96)∧Cu r.2:=by
 unfold pZ;refine Ends.qm (λx=>0≤x.1∧x.1≤2∧(x.2.2.length:Int)=x.1∧(∀y∈x.2.2,y.length=96)∧Cu x.2.1) (λx=>(2-x.1).toNat) ⟨by simp,by simp,by simp,by simp,h⟩ (by simp) λx nx hx hn=>?_;obtain⟨i,c',l⟩:=x;obtain⟨x1,x2,x3,x4,x5⟩:=hx;simp only at x1 x2 x3 x4 x5;unfold po;refine Ends.cond (λk=>?_) λk=>?_;have k:=a6 k;simp only at k⊢;refine(Cp x5).bind λr1 p1=>(lA p1.2 _).bind λr2 p2=>?_;have fin:∀(s t:Bytes)(c2:qz),s.length+t.length=96→Cu c2→Ends (Go.Dn.room (List.length s+List.length t) (Go.Dn.room (List.length l+List.length [(s++t)]) (nx (aw (i+1),c2,l++[(s++t)])))) (λr=>(r.1.length=2∧∀x∈r.1,x.length=96)∧Cu r.2):=by intro s t c2 hs hc;refine Ends.room (by omega) (Ends.room (by simp;omega) ?_);rw[wrap64 (n:=i+1) (by omega) (by omega)];refine hn _ ⟨by show 0≤i+1;omega,by show i+1≤2;omega,by show((l++[_]).length:Int)=i+1;simp;omega,?_,hc⟩ (by show(2-(i+1)).toNat<(2-i).toNat;omega);intro y hy;rcases al.1 hy with hy|hy;exact x4 y hy;rw[bw.1 hy,ak];exact hs
 refine Ends.cond (λ_=>?_) λ_=>?_;refine(wE p2 30).bind λr3 p3=>?_;have e:=p3.1.2.1 (by omega) (by omega);rw[wrap64 (n:=96-(r3.1.length:Int)) (by omega) (by omega)];exact(yl _ 255 (by omega) (by omega)).bind λr4 p4=>fin _ _ _ (by omega) p3.2;have e:=p1.1;rw[wrap64 (n:=96-(r1.1.length:Int)) (by omega) (by omega)];exact(yl _ 255 (by omega) (by omega)).bind λr4 p4=>fin _ _ _ (by omega) p2;have k:=of_decide_eq_false k;simp only at k⊢;exact Ends.pure ⟨⟨by show l.length=2;omega,x4⟩,x5⟩
theorem DZ {f:Filter}{s:cj}{c:Bool}{a b:Int}(hf:f.2.2.length≤1000)(hs:sC s)(hb3:b≤3)(h:(iQ f s c a b).2=true):wK (iQ f s c a b).1∧(iQ f s c a b).1.2.2.2.2.2.2.2.1=f:=by refine⟨?_,?_⟩;obtain⟨x,e,hx⟩:=Ly 1 f s c a b hf hs hb3;rw[Am f s c a b (by omega) (by have:=hs.r;omega) (by have:=hs.t;omega) (by have:=hs.p;omega)]at e;have e:=bE e;rw[e]at h⊢;exact hx.1 h;unfold iQ at h⊢;cases hq:eh f&&(dF s 1&&(kV a b).2)with|true=>rfl|false=>rw[hq]at h;cases h
def rY (bk:Int×Int×Int)(n:Nat):List aF:=(List.range n).map λ(i:Nat)=>((i:Int),(i:Int)+1,bk,true,0,0)
theorem rZ (bk:Int×Int×Int)(n:Nat):(rY bk n).length=n:=by simp[rY]
theorem Jl (bk:Int×Int×Int)(n:Nat):rY bk (n+1)=rY bk n++[((n:Int),(n:Int)+1,bk,true,0,0)]:=by simp[rY,List.range_succ]
theorem xn (bk:Int×Int×Int){n i:Nat}(h:i<n):(rY bk n).getD i SL=((i:Int),(i:Int)+1,bk,true,0,0):=by rw[bT (by rw[rZ];exact h)];simp[rY]
structure uQ (c:dJ):Prop where
 ports:(cx c.2.2.1).2=true
 box:∀(i:Nat)(b:aX),c.2.2.1[i]?=some b→Nt (2*((i:Int)+1)) b
 len:c.1.length=c.2.2.1.length
 host:∀(i:Nat)(h:Host)(b:aX),c.1[i]?=some h→c.2.2.1[i]?=some b→wK h∧h.2.2.2.2.2.2.2.1=b.1
 fns:∃bk,mI bk=true∧c.2.1=rY bk c.2.2.1.length
 flash:c.2.2.2.1.length=2∧∀x∈c.2.2.2.1,x.length=96
 boot:¬nK c.2.2.2.1<0
 clock:pa c.2.2.2.2.1=true
 rest:c.2.2.2.2.2=(([]:List Int),([]:List Bytes))
theorem uQ.Te {c:dJ}(d:uQ c):zP 4 c:=by
 obtain⟨bk,hb,hf⟩:=d.fns;have p:=wu d.ports;refine⟨d.ports,⟨d.len,by rw[hf,rZ]⟩,?_,d.boot,d.clock,λi h b h1 h2=>⟨(d.host i h b h1 h2).1.Te.mono (by omega),(d.host i h b h1 h2).2⟩,?_,?_,?_⟩;unfold eK;rw[p.1,p.2.2.1,bg,az,hf,rZ];intro i hi;have hi:=bf.1 hi;unfold Up;rw[xn bk hi,p.2.1,ab];refine⟨?_,?_⟩;unfold zX;simp only[hb,ab,br,bg];rw[wrap64 (by omega) (by omega)];push_cast;refine⟨⟨by omega,by omega⟩,⟨by omega,by omega⟩,⟨by decide,by decide⟩,by decide,by decide⟩;rw[az];intro j hj;have hj:=bf.1 hj;rw[xn bk (by omega)];unfold NV;simp only[aB,Bool.or_eq_false_iff,cJ,ne_eq];omega;intro i hi;unfold ov;rw[hf,xn bk (by rw[←d.len];exact hi)];simp;·intro b hb;obtain⟨i,hi⟩:=List.getElem?_of_mem hb;have q:=d.box i b hi;exact⟨q.last.2,by have:=q.done.2;omega⟩
 intro f hh;rw[hf]at hh;simp only[rY,List.mem_map]at hh;obtain⟨i,_,rfl⟩:=hh;exact⟨by show(0:Int)≤4;omega,by show(0:Int)≤4;omega⟩
theorem MX {st:cj}(hs:sC st){cb:Bool}{bk:Int×Int×Int}{f:List Bytes}{t:Int}{ms:List aX}(hm:∀m∈ms,m.1.2.2.length≤1000):∀(l:List aX)(k:Nat)(s:List Host×List aF),k≤ms.length→ms.drop k=l→s.1.length=k→s.2=rY bk k→(∀(i:Nat)(h:Host)(b:aX),s.1[i]?=some h→ms[i]?=some b→wK h∧h.2.2.2.2.2.2.2.1=b.1)→∀x,uG (DY st cb bk) (λs=>some ((s.1,s.2,ms,f,(0,0,t,0),([]:List Int),([]:List Bytes)),true)) l s=some (x,true)→
 ∃hs',x=(hs',rY bk ms.length,ms,f,(0,0,t,0),([]:List Int),([]:List Bytes))∧hs'.length=ms.length∧∀(i:Nat)(h:Host)(b:aX),hs'[i]?=some h→ms[i]?=some b→wK h∧h.2.2.2.2.2.2.2.1=b.1
 |[],k,s,hk,hd,h1,h2,h3,x,hx=>by
  have e:k=ms.length:=by have:=bc (i:=k) (l:=ms);rw[hd]at this;simp at this;omega
  subst e;rw[uG]at hx;have hx:=(Prod.mk.inj (bE hx)).1;exact⟨s.1,by rw[←hx,h2],h1,h3⟩
 |y::l,k,s,hk,hd,h1,h2,h3,x,hx=>by
  have hlt:k<ms.length:=by have:=bc (i:=k) (l:=ms);rw[hd]at this;simp at this;omega
  have hy:=bA hlt;rw[hd]at hy;obtain⟨e1,e2⟩:=List.cons.inj hy;rw[uG]at hx;unfold DY at hx;by_cases hb:(iQ y.1 st cb 1 2).2=true;rw[au hb]at hx;simp only at hx;have hf:=DZ (by rw[e1];exact hm _ (aM hlt)) hs (by omega) hb;refine MX hs hm l (k+1) _ (by omega) e2.symm (by simp[h1]) ?_ ?_ x hx;show s.2++[((s.2.length:Int),(s.2.length:Int)+1,bk,true,0,0)]=_;rw[h2,rZ,Jl];intro i h b g1 g2;refine HY (P:=λi h=>∀b,ms[i]?=some b→wK h∧h.2.2.2.2.2.2.2.1=b.1) (λi h g b g'=>h3 i h b g g') (λb g=>?_) i h g1 b g2;rw[h1,List.getElem?_eq_getElem hlt,←e1]at g;rw[←bE g];exact hf;rw[aq hb]at hx;simp at hx
theorem EN {ms:List aX}{st:cj}{cb:Bool}{bk:Int×Int×Int}{f:List Bytes}{t:Int}{x:dJ}(hs:sC st)(hm:∀(i:Nat)(b:aX),ms[i]?=some b→Nt (2*((i:Int)+1)) b)(hf:f.length=2∧∀y∈f,y.length=96)(h:om ms st cb bk f t=some (x,true)):uQ x:=by
 unfold om at h;cases hq:(cx ms).2&&(mI bk&&(!decide (nK f<0)&&pa (0,0,t,0)))with
 |false=>rw[hq]at h;simp[P0]at h
 |true=>
  rw[hq,ah]at h;simp only[ab,aB,dy]at hq;have hl:∀m∈ms,m.1.2.2.length≤1000:=by intro m hmm;obtain⟨i,hi⟩:=List.getElem?_of_mem hmm;rcases(hm i m hi).vl with e|e<;>rw[e]<;>simp
  obtain⟨hs',e,e1,e2⟩:=MX hs hl ms 0 ([],[]) (by omega) rfl rfl rfl (λi h b g=>by simp at g) x h;rw[e];exact⟨hq.1,hm,e1,e2,⟨bk,hq.2.1,rfl⟩,hf,hq.2.2.1,hq.2.2.2,rfl⟩
theorem MY (st:cj)(cb:Bool)(bk:Int×Int×Int)(F:List Host×List aF→dJ×Bool):∀(l:List aX)(s:List Host×List aF),∃r,uG (DY st cb bk) (λs=>some (F s)) l s=some r
 |[],s=>⟨_,rfl⟩
 |y::l,s=>by rw[uG];unfold DY;by_cases hb:(iQ y.1 st cb 1 2).2=true;rw[au hb];exact MY st cb bk F l _;rw[aq hb];exact⟨_,rfl⟩
theorem Jk (ms:List aX)(st:cj)(cb:Bool)(bk:Int×Int×Int)(f:List Bytes)(t:Int):∃r,om ms st cb bk f t=some r:=by unfold om;cases (cx ms).2&&(mI bk&&(!decide (nK f<0)&&pa (0,0,t,0)))with|false=>exact⟨_,rfl⟩|true=>exact MY st cb bk _ ms _
theorem MW (st:cj)(cb:Bool)(bk:Int×Int×Int)(F:List Host×List aF→dJ):∀(l:List aX)(s:List Host×List aF),(∀y∈l,(iQ y.1 st cb 1 2).2=true)→∃x,uG (DY st cb bk) (λs=>some (F s,true)) l s=some (x,true)
 |[],s,_=>⟨_,rfl⟩
 |y::l,s,h=>by rw[uG];unfold DY;rw[au (h y (List.mem_cons_self ..))];exact MW st cb bk F l _ λz hz=>h z (dv _ hz)
theorem E0 {ms:List aX}{st:cj}(hs:sC st)(hm:∀(i:Nat)(b:aX),ms[i]?=some b→Nt (2*((i:Int)+1)) b)(hl:ms.length≤3){f:List Bytes}(hf:f.length=2)(cb:Bool)(bk:Int×Int×Int)(t:Int):lG ms st cb bk f t=om ms st cb bk f t:=by refine JQ ms st cb bk f t (by omega) (λm hh=>?_) (by omega) (by have:=hs.r;omega) (by have:=hs.t;omega) (by have:=hs.p;omega);obtain⟨i,hi⟩:=List.getElem?_of_mem hh;rcases(hm i m hi).vl with e|e<;>rw[e]<;>simp
theorem abC {R:Type}{Q:R→Prop}{k0:qz→Option R}{k1:qz→dJ→Option R}{v:Int}{c:qz}{b2:dJ}{st:cj}(hs:sC st)(hc:Cu c)(hk0:∀c',Cu c'→Ends (k0 c') Q)(hk1:∀c' x,Cu c'→uQ x→Ends (k1 c' x) Q):Ends (k7 k0 k1 v c b2 st) Q:=by unfold k7;refine(fy (P:=λ_=>True) hc (by decide) (by simp)).bind λr4 p4=>(fy (P:=λ_=>True) p4.2 (by decide) (by simp)).bind λr5 p5=>(PZ p5.2).bind λr6 p6=>(dR p6.2 (by decide)).bind λr7 p7=>(KK p7.2).bind λr8 p8=>(fy (P:=λ_=>True) p8.2 (by decide) (by simp)).bind λr9 p9=>?_;rw[E0 hs p6.1.2 p6.1.1.2 p8.1.1];obtain⟨⟨x,ok⟩,e⟩:=Jk r6.1 st (decide (r7.1>0)) (r4.1,2000,r5.1) r8.1 r9.1;rw[e,ae];refine Ends.cond (λk=>?_) λ_=>hk0 _ p9.2;have k:ok=true:=k;subst k;exact hk1 _ _ p9.2 (EN hs p6.1.2 p8.1 e)
theorem aey {R:Type}{Q:R→Prop}{k0:Int→qz→Option R}{k1:qz→dJ→Option R}{v:Int}{c:qz}{b2:dJ}(hv:0≤v∧v≤100)(hc:Cu c)(hk0:∀c',Cu c'→Ends (k0 (v+1) c') Q)(hk1:∀c' x,Cu c'→uQ x→Ends (k1 c' x) Q):Ends (oT k0 k1 v c b2) Q:=by
 unfold oT;simp only[Ad,ae];refine(WA hc).bind λr2 p2=>(lA p2.2 4).bind λr3 p3=>?_;have k3:∀c',Cu c'→Ends (k6 (λy12=>k0 y12 c') v c' b2) Q:=by intro c' hc';unfold k6;rw[wrap64 (by omega) (by omega)];exact hk0 _ hc'
 refine Ends.cond (λ_=>abC ⟨by simp,by simp,p2.1,by simp⟩ p3 k3 λc' x h1 h2=>hk1 _ _ h1 h2) λ_=>abC ⟨by simp,by simp,p2.1,by simp⟩ p3 k3 λc' x h1 h2=>hk1 _ _ h1 h2
theorem NG {t u:Bytes}(ht:t.length=84)(hu:u.length=96):¬nK [(cK 1 []).1++t,u]<0:=by
 have e:(cK 1 []).1=[0,0,0,1,0,0,0,0]++dY (BE [0,0,0,1,0,0,0,0]):=by decide+kernel
 have el:(cK 1 []).1.length=12:=by rw[e];decide+kernel
 have hv:vd ((cK 1 []).1++t)=1:=by
  have g:∀a:Nat,a+4≤12→dK ((cK 1 []).1++t) (a:Int)=dK (cK 1 []).1 (a:Int):=by
   intro a ha;unfold dK dn bZ;rw[aj (by rw[ak,el];omega),aj (by rw[el];omega)];have b:∀i,i<12→((cK 1 []).1++t).getD i 0=(cK 1 []).1.getD i 0:=by intro i hi;rw[List.getD_eq_getElem?_getD,List.getD_eq_getElem?_getD,List.getElem?_append_left (by omega)]
   simp only[aH];rw[b a (by omega),b (a+1) (by omega),b (a+2) (by omega),b (a+3) (by omega)]
  have g0:dK ((cK 1 []).1++t) 0=1:=(g 0 (by omega)).trans (by decide+kernel);have g4:dK ((cK 1 []).1++t) 4=0:=(g 4 (by omega)).trans (by decide+kernel);unfold vd;rw[g4,au (by rw[ak,el];omega)];unfold SE;have t1:(((cK 1 []).1++t).take (8+(0:Int).toNat)).drop 8=[]:=by rw[cc (by rw[bn];simp;omega)]
  have t2:((cK 1 []).1++t).take (12+(0:Int).toNat)=(cK 1 []).1:=by rw[List.take_left' (by rw[el];rfl)]
  rw[t1,t2,g0];have o:(cK 1 []).2=true:=by decide+kernel
  rw[o,beq_self_eq_true];rfl
 unfold nK;have hf:vx [(cK 1 []).1++t,u]=true:=by unfold vx;show((((2:Nat):Int)==2)&&(((((cK 1 []).1++t).length:Int)==96)&&((u.length:Int)==96)))=true;rw[ak,el,ht,hu];rfl
 rw[hf,ah];have h0:List.getD [(cK 1 []).1++t,u] 0 []=(cK 1 []).1++t:=rfl;rw[h0,hv];split;omega;split<;>omega
theorem QT {c:qz}(h:Cu c):Ends (tf c) λr=>uQ r.1∧Cu r.2:=by
 unfold tf;refine Ends.qm (λx=>0≤x.1∧x.1≤4∧Cu x.2) (λx=>(4-x.1).toNat) ⟨by simp,by simp,h⟩ (by simp) λx nx hx hn=>?_;obtain⟨i,c'⟩:=x;obtain⟨x1,x2,x3⟩:=hx;simp only at x1 x2 x3;unfold su;refine Ends.cond (λk=>?_) λk=>?_;have k:=a6 k;simp only at k⊢;exact aey ⟨by omega,by omega⟩ x3 (λc2 h2=>hn _ ⟨by show 0≤i+1;omega,by show i+1≤4;omega,h2⟩ (by show(4-(i+1)).toNat<(4-i).toNat;omega)) λc2 y h2 d=>Ends.pure ⟨d,h2⟩;have el:(cK 1 []).1.length=12:=by decide+kernel
 simp only[C8 1 [] (by simp),ae];rw[el,wrap64 (n:=96-((12:Nat):Int)) (by omega) (by omega)];refine(yl _ 255 (by omega) (by omega)).bind λr26 p26=>Ends.room (by omega) ((yl 96 255 (by omega) (by omega)).bind λr27 p27=>?_);simp only[Ad,ae];refine(yl 16 5 (by omega) (by omega)).bind λr29 p29=>?_;have hs:sC (([]:List fY),List.replicate 8 (0,(0,0,0,0,0),0),r29,[0]):=⟨by simp,by simp,by show r29.length=16;omega,by simp⟩
 have hm:∀(j:Nat)(b:aX),([((2,false,([]:List Int)),0,0,0),((4,false,([]:List Int)),0,0,0)]:List aX)[j]?=some b→Nt (2*((j:Int)+1)) b:=by intro j b hb;match j with|0=>have e:=bE hb;rw[←e];exact⟨rfl,Or.inr rfl,⟨by decide,by decide⟩,by decide,by decide⟩|1=>have e:=bE hb;rw[←e];exact⟨rfl,Or.inr rfl,⟨by decide,by decide⟩,by decide,by decide⟩|j+2=>simp at hb
 have hb:=NG (t:=r26) (u:=r27) (by omega) (by omega);rw[E0 hs hm (by simp) rfl];have e:∃x,om ([((2,false,([]:List Int)),0,0,0),((4,false,([]:List Int)),0,0,0)]:List aX) (([]:List fY),List.replicate 8 (0,(0,0,0,0,0),0),r29,[0]) true (100,2000,1000) [(cK 1 []).1++r26,r27] 1048576=some (x,true):=by
  unfold om;have p1:(cx [((2,false,([]:List Int)),0,0,0),((4,false,([]:List Int)),0,0,0)]).2=true:=by decide+kernel
  have p2:mI (100,2000,1000)=true:=by decide+kernel
  have p3:pa (0,0,1048576,0)=true:=by decide+kernel
  rw[p1,p2,p3,af hb];refine MW _ _ _ _ _ _ λy hy=>?_;have hst:=Lg (k:=r29) (by omega);have hv:(kV 1 2).2=true:=by decide+kernel
  have hf:eh y.1=true:=by rcases bl.1 hy with e|hy;rw[e];decide+kernel;rw[bw.1 hy];decide+kernel
  unfold iQ;rw[hf,hst,hv];rfl
 obtain⟨x,e⟩:=e;rw[e,ae];refine Ends.pure ⟨EN hs hm ⟨rfl,?_⟩ e,x3⟩;intro y hy;rcases bl.1 hy with e|hy;rw[e,ak,el];omega;rw[bw.1 hy];omega
abbrev OW:ax:=(0,0,0,0,0,0,0,0,0,0,0,0,0,0,0,([]:Bytes))
structure kL (n:Int) (a:bW):Prop where
 kind:0≤a.1∧a.1≤2
 fn:0≤a.2.1∧a.2.1<n
 act:Vh a.2.2.1
 ok:Ke a.2.2.1=true
 msg:0≤a.2.2.2.1.1∧a.2.2.2.1.1≤6
 img:a.2.2.2.2.1.length≤96
 part:0≤a.2.2.2.2.2∧a.2.2.2.2.2≤100
theorem kL.put {n:Int}{a:bW}(h:kL n a){x:Act}(h1:Vh x)(h2:Ke x=true):kL n (a.1,a.2.1,x,a.2.2.2):=⟨h.kind,h.fn,h1,h2,h.msg,h.img,h.part⟩
theorem Ny (p:ax)(s c:Int):Ke (0,p,s,c,([]:Bytes),0)=true:=rfl
theorem Br (b:Int):Ke (5,OW,0,0,([]:Bytes),b)=true:=rfl
theorem Nx {f:Bytes}(h:f.length≤600):Ke (2,OW,0,0,f,0)=true:=by unfold Ke YM;simp only[ae];rw[show cM (2:Int) 0 6=true from br.2 ⟨by omega,by omega⟩,af (by omega)];rfl
theorem nt {k:Int}(h:k=1∨k=3∨k=4∨k=6∨k=0):Ke (k,OW,0,0,([]:Bytes),0)=true:=by rcases h with rfl|rfl|rfl|rfl|rfl<;>rfl
theorem jT {k b:Int}(h:0≤k∧k≤6):Vh (k,OW,0,0,([]:Bytes),b):=⟨by simp,by simp,h.1,h.2⟩
theorem Ag {c:qz}(h:Cu c)(p:ax){n:Int}(hn:0≤n∧n≤100):Ends (k8 c p n) λr=>((0≤r.1.1∧r.1.1≤281474976710655)∧(r.1.2.1=99∨r.1.2.1=2*(n+1))∧r.1.2.2=p.2.2)∧Cu r.2:=by unfold k8;rw[wrap64 (n:=n+1) (by omega) (by omega),wrap64 (n:=2*(n+1)) (by omega) (by omega)];refine(lA h 12).bind λr1 p1=>Ends.cond (λ_=>(fy (P:=λx=>0≤x∧x≤281474976710655) p1 (by decide) (by decide)).bind λr2 p2=>Ends.pure ⟨⟨p2.1,Or.inl rfl,rfl⟩,p2.2⟩) λ_=>(fy (P:=λx=>0≤x∧x≤281474976710655) p1 (by decide) (by decide)).bind λr2 p2=>Ends.pure ⟨⟨p2.1,Or.inr rfl,rfl⟩,p2.2⟩
theorem Lp {c:qz}(h:Cu c):Ends (ng c) λr=>(0≤r.1.1∧r.1.1≤6)∧Cu r.2:=by unfold ng;refine(dR h (by decide)).bind λr1 p1=>(fy (P:=λ_=>True) p1.2 (by decide) (by simp)).bind λr2 p2=>(fy (P:=λ_=>True) p2.2 (by decide) (by simp)).bind λr3 p3=>Ends.pure ⟨?_,p3.2⟩;have:=p1.1;show 0≤r1.1∧r1.1≤6;omega
theorem Bs {n:Int}{l:List bW}{a:bW}(h:kL n a):∀y∈l++[a],y∈l∨kL n y:=by intro y hy;rcases al.1 hy with hy|hy;exact Or.inl hy;rw[bw.1 hy];exact Or.inr h
theorem c25 {R:Type}{Q:R→Prop}{k0:List bW→qz→bW→Option R}{v1 v9 v10 v30:Int}{v2 v63:Bool}{l:List bW}{ps:List ax}{c:qz}{a:bW}(hl:l.length≤1000)(hp:∀p∈ps,Plain p)(h9:0≤v9∧v9<(ps.length:Int))(h10:0≤v10∧v10≤100)(hc:Cu c)(ha:kL v1 a)(hk:∀l' c' a',l'.length≤l.length+1→(∀y∈l',y∈l∨kL v1 y)→Cu c'→kL v1 a'→Ends (k0 l' c' a') Q):Ends (fg k0 v1 v2 l ps v9 v10 v30 v63 c a) Q:=by have same:∀c' a',Cu c'→kL v1 a'→Ends (k0 l c' a') Q:=λc' a' h1 h2=>hk l c' a' (by omega) (λy hy=>Or.inl hy) h1 h2;unfold fg;refine Ends.cond (λ_=>?_) λ_=>?_;refine Ends.idx h9.1 h9.2 λhi=>(Ag hc _ h10).bind λr8 p8=>(dR p8.2 (by decide)).bind λr9 p9=>(fy (P:=λ_=>True) p9.2 (by decide) (by simp)).bind λr10 p10=>Ends.room (by simp;omega) ?_;refine hk _ _ _ (by simp) (Bs (ha.put ⟨?_,by simp,by simp,by simp⟩ (Ny ..))) p10.2 (ha.put (jT (by omega)) (nt (by omega)));show r8.1.2.2.2.2.2.2.2.2.2.2.2.2.2.2.2.length≤1000;rw[p8.1.2.2];have:=(hp _ (aM hi)).2;omega;refine Ends.cond (λ_=>same _ _ hc (ha.put (jT (by omega)) (nt (by omega)))) λ_=>?_;refine Ends.cond (λ_=>(dR hc (by decide)).bind λr11 p11=>same _ _ p11.2 (ha.put (jT (by omega)) (Br _))) λ_=>?_;refine Ends.cond (λ_=>same _ _ hc (ha.put (jT (by omega)) (nt (by omega)))) λ_=>?_;refine Ends.cond (λ_=>(Lp hc).bind λr12 p12=>same _ _ p12.2 ⟨by simp,ha.fn,ha.act,ha.ok,p12.1,ha.img,ha.part⟩) λ_=>?_;refine Ends.cond (λ_=>(lA hc 2).bind λr13 p13=>Ends.cond (λ_=>?_) λ_=>same _ _ p13 (ha.put (jT (by omega)) (nt (by omega)))) λ_=>same _ _ hc ha;refine(Cp p13).bind λr14 p14=>(dR p14.2 (by decide)).bind λr15 p15=>same _ _ p15.2 ⟨by simp,ha.fn,jT (by omega),nt (by omega),ha.msg,p14.1,?_⟩;have:=p15.1;show 0≤r15.1∧r15.1≤100;omega
theorem c19 {R:Type}{Q:R→Prop}{k0:List bW→qz→bW→Option R}{v1 v9 v10 v30:Int}{v2 v46:Bool}{l:List bW}{ps:List ax}{c:qz}{a:bW}(hl:l.length≤1000)(hp:∀p∈ps,Plain p)(h9:0≤v9∧v9<(ps.length:Int))(h10:0≤v10∧v10≤100)(hc:Cu c)(ha:kL v1 a)(hk:∀l' c' a',l'.length≤l.length+1→(∀y∈l',y∈l∨kL v1 y)→Cu c'→kL v1 a'→Ends (k0 l' c' a') Q):Ends (ff k0 v1 v2 l ps v9 v10 v30 v46 c a) Q:=by unfold ff;refine Ends.cond (λ_=>?_) λ_=>?_;refine Ends.idx h9.1 h9.2 λhi=>(Ag hc _ (n:=5) (by omega)).bind λr5 p5=>?_;have hf:=zh r5.1;rw[Pd,ae];exact hk l _ _ (by omega) (λy hy=>Or.inl hy) p5.2 (ha.put ⟨by simp,hf,by simp,by simp⟩ (Nx (by omega)));exact Ends.cond (λ_=>c25 hl hp h9 h10 hc ha hk) λ_=>Ends.cond (λ_=>c25 hl hp h9 h10 hc ha hk) λ_=>Ends.cond (λ_=>c25 hl hp h9 h10 hc ha hk) λ_=>c25 hl hp h9 h10 hc ha hk
theorem c37 {R:Type}{Q:R→Prop}{k0:List bW→qz→Option R}{v1 v9:Int}{v2:Bool}{l:List bW}{ps:List ax}{c:qz}{a:bW}(hl:l.length≤1000)(h1:0<v1)(hc:Cu c)(ha:kL v1 a)(hk:∀l' c',l'.length≤l.length+3→(∀y∈l',y∈l∨kL v1 y)→Cu c'→Ends (k0 l' c') Q):Ends (fi k0 v1 v2 l ps v9 c a) Q:=by unfold fi;refine Ends.room (by simp;omega) ((lA hc 2).bind λr31 p31=>Ends.cond (λ_=>(dR p31 h1).bind λr32 p32=>Ends.room (by simp;omega) (Ends.room (by simp;omega) (hk _ _ (by simp) ?_ p32.2))) λ_=>hk _ _ (by simp) (Bs ha) p31);intro y hy;rcases al.1 hy with hy|hy;rcases al.1 hy with hy|hy;exact Bs ha y hy;rw[bw.1 hy];exact Or.inr ⟨by simp,p32.1,jT (by omega),Br _,by simp,by simp,by simp⟩;rw[bw.1 hy];exact Or.inr ⟨by simp,⟨by simp,h1⟩,jT (by omega),nt (by omega),by simp,by simp,by simp⟩
theorem c6 {R:Type}{Q:R→Prop}{k0:List bW→Int→qz→Option R}{v1 v9:Int}{v2:Bool}{l:List bW}{ps:List ax}{c:qz}(hl:l.length≤900)(h1:0<v1∧v1≤3)(hp:∀p∈ps,Plain p)(h9:0≤v9∧v9<(ps.length:Int))(hn:ps.length≤1000)(hc:Cu c)(hk:∀l' c',l'.length≤l.length+4→(∀y∈l',y∈l∨kL v1 y)→Cu c'→Ends (k0 l' (v9+1) c') Q):Ends (nh k0 v1 v2 l ps v9 c) Q:=by
 unfold nh;refine(dR hc h1.1).bind λr2 p2=>(dR p2.2 (by decide)).bind λr3 p3=>?_;have hf:=p2.1;have a0:kL v1 (0,r2.1,(0,OW,0,0,([]:Bytes),0),(0,0,0),([]:Bytes),0):=⟨by simp,hf,jT (by omega),nt (by omega),by simp,by simp,by simp⟩
 have e:aw (v9+1)=v9+1:=wrap64 (by omega) (by omega);have go:∀(v46:Bool),Ends (ff (λy28 y29 y30=>fi (λy33 y34=>gO (λy35=>k0 y33 y35 y34) v1 v2 y33 ps v9 y34) v1 v2 y28 ps v9 y29 y30) v1 v2 l ps v9 r2.1 r3.1 v46 r3.2 (0,r2.1,(0,OW,0,0,([]:Bytes),0),(0,0,0),([]:Bytes),0)) Q:=by intro v46;refine c19 (by omega) hp h9 ⟨hf.1,by omega⟩ p3.2 a0 λl1 c1 a1 g1 g2 g3 g4=>c37 (by omega) h1.1 g3 g4 λl2 c2 g5 g6 g7=>?_;unfold gO;rw[e];refine hk _ _ (by omega) (λy hy=>?_) g7;rcases g6 y hy with g|g;exact g2 y g;exact Or.inr g
 exact Ends.cond (λ_=>go _) λ_=>Ends.cond (λ_=>go _) λ_=>go _
theorem Nz {c:qz}(h:Cu c){n:Int}(hn:0<n∧n≤3)(b:Bool):Ends (rq c n b) λr=>(r.1.length≤32∧∀a∈r.1,kL n a)∧Cu r.2:=by
 unfold rq;refine(TA h (m:=8) (by omega) (by omega)).bind λr1 p1=>?_;have h8:=p1.1.2.2;refine Ends.qm (λx=>0≤x.2.1∧x.2.1≤(r1.1.length:Int)∧(x.1.length:Int)≤4*x.2.1∧(∀a∈x.1,kL n a)∧Cu x.2.2) (λx=>((r1.1.length:Int)-x.2.1).toNat) ⟨by simp,by simp,by simp,by simp,p1.2⟩ (by simp;omega) λx nx hx hnx=>?_;obtain⟨l,i,c'⟩:=x;obtain⟨x1,x2,x3,x4,x5⟩:=hx;simp only at x1 x2 x3 x4 x5;unfold qG;refine Ends.cond (λk=>?_) λk=>?_;have k:=a6 k;simp only at k⊢;refine c6 (by omega) hn p1.1.1 ⟨x1,k⟩ (by omega) x5 λl' c2 g1 g2 g3=>hnx _ ⟨by show 0≤i+1;omega,by show i+1≤_;omega,by show(l'.length:Int)≤4*(i+1);omega,?_,g3⟩ (by show((r1.1.length:Int)-(i+1)).toNat<((r1.1.length:Int)-i).toNat;omega);intro a ha;rcases g2 a ha with g|g;exact x4 a g;exact g;simp only;have hl:l.length≤32:=by omega
 refine Ends.qm (λy=>0≤y.2∧y.2≤(y.1.length:Int)∧y.1.length=l.length∧∀a∈y.1,kL n a) (λy=>((y.1.length:Int)-y.2).toNat) ⟨by simp,by simp,rfl,x4⟩ (by simp;omega) λy ny hy hm=>?_;obtain⟨q,j⟩:=y;obtain⟨y1,y2,y3,y4⟩:=hy;simp only at y1 y2 y3 y4;unfold pw;refine Ends.cond (λk2=>?_) λk2=>Ends.pure ⟨⟨by show q.length≤32;omega,y4⟩,x5⟩;have k2:=a6 k2;simp only at k2⊢;unfold pq;have step:∀q':List bW,q'.length=l.length→(∀a∈q',kL n a)→Ends (lR (λy61=>ny (q',y61)) q' j c') (λr=>(r.1.length≤32∧∀a∈r.1,kL n a)∧Cu r.2):=by intro q' e1 e2;unfold lR;rw[wrap64 (n:=j+1) (by omega) (by omega)];exact hm _ ⟨by show 0≤j+1;omega,by show j+1≤(q'.length:Int);omega,e1,e2⟩ (by show((q'.length:Int)-(j+1)).toNat<((q.length:Int)-j).toNat;omega)
 refine Ends.bind (P:=λ_=>True) ?_ λz _=>?_;exact Ends.idx y1 k2 λ_=>Ends.cond (λ_=>Ends.idx y1 k2 λ_=>Ends.cond (λ_=>Ends.idx y1 k2 λ_=>Ends.pure trivial) λ_=>Ends.pure trivial) λ_=>Ends.pure trivial;unfold pt;refine Ends.cond (λ_=>Ends.idx y1 k2 λhi=>Ends.idx y1 k2 λ_=>step _ (by rw[aP];exact y3) ?_) λ_=>step q y3 y4;intro a ha;rcases List.mem_or_eq_of_mem_set ha with g|g;exact y4 a g;rw[g];exact(y4 _ (aM hi)).put (jT (by omega)) (nt (by omega))
theorem DF {c:dJ}(d:uQ c){k:Nat}(hk:k<c.1.length){s:List Stream}(h1:s.length≤2000)(h2:∀x∈s,x.2.2.1=[]):uQ (c.1.set k (qx c.1[k] s),c.2):=by refine⟨d.ports,d.box,by rw[aP];exact d.len,λi h b e1 e2=>?_,d.fns,d.flash,d.boot,d.clock,d.rest⟩;by_cases hik:i=k;subst hik;rw[List.getElem?_set_self hk]at e1;have q:=d.host i _ b (List.getElem?_eq_getElem hk) e2;rw[←bE e1];exact⟨DK q.1 h1 h2,q.2⟩;rw[List.getElem?_set_ne (bL hik)]at e1;exact d.host i h b e1 e2
theorem LB {R:Type}{Q:R→Prop}{l:List bW}(hl:l.length≤32)(hf:∀a∈l,a.2.2.1.2.2.2.2.1.length≤382){K:List ax→Int→Option R}{b1 b2:dJ}{b3:qz}(hk:∀ps i,ps.length≤64→Ends (K ps i) Q):Ends (aZ (kD K l b1 b2 b3) fuel (([]:List ax),0)) Q:=by
 refine Ends.qm (λx=>0≤x.2∧x.2≤(l.length:Int)∧(x.1.length:Int)≤2*x.2) (λx=>((l.length:Int)-x.2).toNat) ⟨by simp,by simp,by simp⟩ (by simp;omega) λx nx hx hn=>?_;obtain⟨ps,i⟩:=x;obtain⟨x1,x2,x3⟩:=hx;simp only at x1 x2 x3;unfold kD;refine Ends.cond (λk=>?_) λk=>hk _ _ (by show ps.length≤64;omega);have k:=a6 k;simp only at k⊢;have nxt:∀ps':List ax,ps'.length≤ps.length+2→Ends (nx (ps',aw (i+1))) Q:=by intro ps' h;rw[wrap64 (n:=i+1) (by omega) (by omega)];exact hn _ ⟨by show 0≤i+1;omega,by show i+1≤_;omega,by show(ps'.length:Int)≤2*(i+1);omega⟩ (by show((l.length:Int)-(i+1)).toNat<((l.length:Int)-i).toNat;omega)
 have j10:∀ps':List ax,ps'.length≤ps.length+1→Ends (jv (λy12=>kC (λy13=>nx (y12,y13)) l y12 i b1 b2 b3) l ps' i b1 b2 b3) Q:=by intro ps' h;unfold jv kC;refine Ends.idx x1 k λhi=>?_;have h3:=hf _ (aM hi);rw[E1 _ (by omega),ae];exact Ends.cond (λ_=>Ends.room (by simp;omega) (nxt _ (by simp;omega))) λ_=>nxt _ (by omega)
 unfold oB;refine Ends.bind (P:=λ_=>True) ?_ λq _=>?_;exact Ends.idx x1 k λ_=>Ends.cond (λ_=>Ends.idx x1 k λ_=>Ends.pure trivial) λ_=>Ends.pure trivial;unfold oC;exact Ends.cond (λ_=>Ends.idx x1 k λ_=>Ends.room (by simp;omega) (j10 _ (by simp))) λ_=>j10 _ (by omega)
theorem SH {a:List Int}(ha:a.length≤1048576):Ends (oA a) λr=>uQ r.1∧r.2.length≤32∧∀x∈r.2,kL (r.1.1.length:Int) x:=by
 unfold oA;refine(Xz ha).bind λr1 p1=>(QT p1).bind λr2 p2=>(dR p2.2 (by decide)).bind λr3 p3=>?_;have p:=wu p2.1.ports;have hl:=p2.1.len;refine(Nz p3.2 ⟨by omega,by omega⟩ _).bind λr4 p4=>?_;have h32:=p4.1.1;refine LB h32 (λa ha=>(p4.1.2 a ha).act.2.1) λps i hps=>?_;refine Ends.qm (λx=>0≤x.1∧x.1≤(x.2.1.1.length:Int)∧uQ x.2.1∧x.2.1.1.length=r2.1.1.length∧Cu x.2.2) (λx=>((x.2.1.1.length:Int)-x.1).toNat) ⟨by simp,by simp,p2.1,rfl,p4.2⟩ (by simp;omega) λx nx hx hn=>?_;obtain⟨j,c,cu⟩:=x;obtain⟨x1,x2,x3,x4,x5⟩:=hx;simp only at x1 x2 x3 x4 x5;unfold np;refine Ends.cond (λk=>?_) λk=>Ends.pure ⟨x3,h32,λa ha=>by show kL (c.1.length:Int) a;rw[x4];exact p4.1.2 a ha⟩;have k:=a6 k;simp only at k⊢;unfold nn;refine(TN x5 (by omega)).bind λr18 p18=>?_;obtain⟨j,rfl⟩:∃n:Nat,j=n:=⟨j.toNat,by omega⟩
 have hj:j<c.1.length:=by omega
 rw[bm hj,ae,ae,wrap64 (n:=(j:Int)+1) (by omega) (by omega),aH];have e:(List.set c.1 j (qx c.1[j] r18.1)).length=c.1.length:=aP ..;refine hn _ ⟨by show 0≤(j:Int)+1;omega,?_,DF x3 hj (by omega) p18.1.2,e.trans x4,p18.2⟩ ?_;show(j:Int)+1≤((List.set c.1 j (qx c.1[j] r18.1)).length:Int);rw[e];omega;show(((List.set c.1 j (qx c.1[j] r18.1)).length:Int)-((j:Int)+1)).toNat<((c.1.length:Int)-(j:Int)).toNat;rw[e];omega
def Cm (w:cA)(i:Nat):Bool:=(w.1[i]?.all sZ)&&zU (w.1[i]?.map (·.1)) (w.2.2.2.1[i]?.map (·.1))
def Ac (w:cA):Bool:=((w.1.length:Int)==(w.2.2.2.1.length:Int))&&(((w.2.1.length:Int)==(w.2.2.2.1.length:Int))&&((w.2.2.1.length:Int)==(w.2.2.2.1.length:Int)))
def nk (w:cA):Bool:=(cx w.2.2.2.1).2&&(Ac w&&(eK w.2.2.1 (cx w.2.2.2.1).1&&((List.range w.1.length).all (Cm w)&&(List.range w.1.length).all (ov w.2.2.1))))
structure Mc (w:cA):Prop where
 s0:w.1.length≤1000000000
 f0:w.2.2.1.length≤1000000000
 m:∀m∈w.2.2.2.1,m.1.2.2.length≤1000000000
 s1:∀s∈w.1,s.1.2.2.length≤1000000000
 s2:∀s∈w.1,s.2.1.1.length≤1000000000
 s3:∀s∈w.1,s.2.1.2.1.length≤1000000000
 s4:∀s∈w.1,s.2.1.2.2.2.length≤1000000000
theorem I0 {w:cA}(h:Ac w=true):w.1.length=w.2.2.2.1.length∧w.2.2.1.length=w.2.2.2.1.length:=by unfold Ac at h;simp only[ab,aL]at h;omega
theorem Ew {w:cA}(i:Nat)(hi:i<w.1.length)(hj:i<w.2.2.2.1.length):Cm w i=(sZ w.1[i]&&zU w.1[i].1 w.2.2.2.1[i].1):=by unfold Cm;rw[List.getElem?_eq_getElem hi,List.getElem?_eq_getElem hj];congr 1;apply B8;rw[uh];simp
theorem EA (w:cA)(z:Mc w):nS w=some (nk w):=by
 have hp:=wv w.2.2.2.1;unfold nS nk;simp only[Ab _ z.m,DQ _ _ z.f0 hp.1 hp.2,KT _ z.f0,ae,bh,cT,cF,bne];rw[show((!((w.1.length:Int)==(w.2.2.2.1.length:Int)))||((!((w.2.1.length:Int)==(w.2.2.2.1.length:Int)))|| !((w.2.2.1.length:Int)==(w.2.2.2.1.length:Int))))= !(Ac w) by unfold Ac;simp only[Bool.not_and]];cases (cx w.2.2.2.1).2 with|false=>rfl|true=>?_
 cases hl:Ac w with|false=>rfl|true=>?_
 have hL:=I0 hl;have h0:=z.s0;simp only[ar,cZ,ai,bg];rw[eC (hit:=some false) (fin:=some (eK w.2.2.1 (cx w.2.2.2.1).1&&(List.range w.2.2.1.length).all (ov w.2.2.1))) (Cm w) w.1.length (by omega) (λi nx hi=>?hs) (λnx=>?hf)]
 case hs=>
  have q1:i<w.2.2.2.1.length:=by omega
  have hm:=aM hi
  rw[Ew i hi q1]
  simp only[mM]
  rw[aj (by omega),bm hi,bm q1,wrap64 (n:=(i:Int)+1) (by omega) (by omega)]
  simp only[ah,ae,Ie _ (z.s1 _ hm) (z.s2 _ hm) (z.s3 _ hm) (z.s4 _ hm),xZ _ _ (z.s1 _ hm),bh,cT]
  cases sZ w.1[i]<;>cases zU w.1[i].1 w.2.2.2.1[i].1<;>rfl
 case hf=>
  simp only[mM]
  rw[af (by omega)];rfl
 rw[hL.2,←hL.1];cases (List.range w.1.length).all (Cm w)<;>cases (List.range w.1.length).all (ov w.2.2.1)<;>cases eK w.2.2.1 (cx w.2.2.2.1).1<;>rfl
structure sB (ps:List Port):Prop where
 n:ps.length≤1000000000
 v:∀p∈ps,p.2.1.length≤1000000000
def HZ (ps:List Port)(e:Int)(p:ax):Bool:=ee ps&&(dC p&&cM e 0 ((ps.length:Int)-1))
def G5 (x:Port)(p:ax):Int:=bif p.2.2.1== -1 then x.2.2.1 else p.2.2.1
def gb (ps:List Port)(e:Int)(p:ax):Int:=
 bif !HZ ps e p then-1 else
 bif !hasB (ps.getD e.toNat gH).2.1 (G5 (ps.getD e.toNat gH) p)||((e !=0)&&((ps.getD e.toNat gH).2.2.2&&((ps.getD e.toNat gH).1 !=p.2.1))) then-1 else G5 (ps.getD e.toNat gH) p
theorem L3 {p:ax}(h:dC p=true):(decide (p.2.2.1<0))=(p.2.2.1== -1):=by simp only[dC,lW,ab,br]at h;have:=h.1.2.2.1;rw[bO,aD,aL];omega
theorem Cr (ps:List Port)(e:Int)(p:ax)(z:sB ps):kS ps e p=some (gb ps e p):=by
 have hn:=z.n;unfold kS gb HZ;rw[wo ps hn z.v,ae];cases hp:ee ps with|false=>rfl|true=>?_
 rw[nz,ae];cases hs:dC p with|false=>rfl|true=>?_
 rw[wrap64 (n:=(ps.length:Int)-1) (by omega) (by omega),eY];cases he:cM e 0 ((ps.length:Int)-1)with|false=>rfl|true=>?_
 have h1:=br.1 he;obtain⟨e,rfl⟩:=bd h1.1;have hl:e<ps.length:=by omega
 have hv:=z.v _ (aM hl);simp only[ar,ai,ae,dj,bm hl,aH,bT hl,uq _ _ hv,G5];cases p.2.2.1== -1<;>simp only[ah,ai]<;>cases hasB ps[e].2.1 p.2.2.1<;>cases hasB ps[e].2.1 ps[e].2.2.1<;>cases (e:Int) !=0<;>cases ps[e].2.2.2<;>cases ps[e].1 !=p.2.1<;>rfl
theorem LO (ps:List Port)(e:Int)(p:ax)(z:sB ps):oD ps e p=some (gb ps e p):=by
 have hn:=z.n;unfold oD gb HZ;rw[zM ps hn z.v,ae];cases hp:ee ps with|false=>rfl|true=>?_
 rw[tT,ae];cases hs:dC p with|false=>rfl|true=>?_
 rw[wrap64 (n:=(ps.length:Int)-1) (by omega) (by omega),bV];cases he:cM e 0 ((ps.length:Int)-1)with|false=>rfl|true=>?_
 have h1:=br.1 he;obtain⟨e,rfl⟩:=bd h1.1;have hl:e<ps.length:=by omega
 have hv:=z.v _ (aM hl);rw[L3 hs];simp only[ar,ai,ae,dj,bm hl,aH,bT hl,Bm _ _ hv,G5];cases p.2.2.1== -1<;>simp only[ah,ai]<;>cases hasB ps[e].2.1 p.2.2.1<;>cases hasB ps[e].2.1 ps[e].2.2.1<;>cases (e:Int) !=0<;>cases ps[e].2.2.2<;>cases ps[e].1 !=p.2.1<;>rfl
def xk (ps:List Port)(o v:Int)(p:ax):ax:=
 bif ee ps&&(cM o 0 ((ps.length:Int)-1)&&(hasB (ps.getD o.toNat gH).2.1 v&&dC p)) then
  (bif v==(ps.getD o.toNat gH).2.2.1 then(p.1,p.2.1, -1,p.2.2.2) else(p.1,p.2.1,v,p.2.2.2)) else Uv
theorem N8 (ps:List Port)(o v:Int)(p:ax)(z:sB ps):lh ps o v p=some (xk ps o v p):=by
 have hn:=z.n;unfold lh xk;rw[wo ps hn z.v,ae];cases hp:ee ps with|false=>rfl|true=>?_
 rw[wrap64 (n:=(ps.length:Int)-1) (by omega) (by omega),eY];cases he:cM o 0 ((ps.length:Int)-1)with|false=>rfl|true=>?_
 have h1:=br.1 he;obtain⟨o,rfl⟩:=bd h1.1;have hl:o<ps.length:=by omega
 have hv:=z.v _ (aM hl);simp only[ar,ai,ae,bg,bm hl,aH,bT hl,uq _ _ hv,nz];cases hasB ps[o].2.1 v<;>cases dC p<;>cases v==ps[o].2.2.1<;>rfl
def vF (ps:List Port)(e v:Int)(j:Nat):Bool:=((j:Int) !=e)&&hasB (ps.getD j gH).2.1 v
def gG (l:List Nat):List Int:=l.map Int.ofNat
def PR (p:ax):Bool:=p.1==281474976710655
theorem zV {q:Nat→Bool}(l:List Nat)(i:Nat)(hi:i<l.length):(l.take (i+1)).filter q=bif q l[i] then(l.take i).filter q++[l[i]] else(l.take i).filter q:=by rw[bJ hi,List.filter_append];cases hq:q l[i]<;>simp[hq]
theorem Ce {q:Nat→Bool}(l:List Nat)(i:Nat):((l.take i).filter q).length≤l.length:=bS (List.length_filter_le _ _) (by simp;omega)
theorem Cs (ps:List Port)(e v:Int)(l:List Nat)(hl:l.length≤1000000000)(hb:∀j∈l,j<ps.length)(z:sB ps): aZ (dN (λ(y7:List Int) (y8:Int)=>some y7) ps e v (gG l) ((gG l).length:Int)) fuel (([]:List Int),0)=some (gG (l.filter (vF ps e v))):=by
 refine dT (λi=>(gG ((l.take i).filter (vF ps e v)),(i:Int))) l.length (by omega) (λi nx hi=>?_) (λnx=>?_);have hj:=hb _ (aM hi);have hv:=z.v _ (aM hj);have hi2:i<(gG l).length:=by simpa[gG]using hi
 have e1:(gG l)[i]'hi2=(l[i]:Int):=by simp[gG]
 have hf:=Ce (q:=vF ps e v) l i;simp only[dN];rw[aj (by simpa[gG]using hi),bm hi2,e1,wrap64 (by omega) (by omega)];simp only[ah,ae,bm hj,uq _ _ hv];rw[zV l i hi,vF,bT hj];have hr:∀k:Option (List Int),room (List.length (gG ((l.take i).filter (vF ps e v)))+List.length ([(l[i]:Int)])) k=k:=λk=>aK (by simp only[gG,cg,bR];omega);cases (l[i]:Int) !=e with|false=>rfl|true=>cases hasB ps[l[i]].2.1 v with|false=>rfl|true=>simp only[ah,ae,dj];rw[hr];simp[gG]
 simp only[dN];rw[af (by simp[gG]),cS];rfl
def rQ (ps:List Port)(p:ax):Nat→Nat
 |0=>0
 |i+1=>bif (ps.getD (i+1) gH).1==p.1 then i+1 else rQ ps p i
def oW (ps:List Port)(e:Int)(p:ax):List Nat:=
 (List.range ps.length).filter λj=>vF ps e (gb ps e p) j&&((j==rQ ps p (ps.length-1))||PR p)
def qc (ps:List Port)(e:Int)(p:ax):List Int:=bif decide (gb ps e p<0) then [] else gG (oW ps e p)
theorem JV (ps:List Port)(e:Int)(p:ax)(z:sB ps):kH ps e p=some (qc ps e p):=by
 have hn:=z.n;unfold kH qc;rw[LO ps e p z,ae];cases hd:decide (gb ps e p<0)with|true=>rfl|false=>?_
 have hp:ee ps=true:=by cases hp:ee ps with|true=>rfl|false=>unfold gb HZ at hd;rw[hp]at hd;simp at hd
 have h1:1≤ps.length:=by simp only[ee,ab,br]at hp;omega
 simp only[ai];refine dT (λi=>((rQ ps p i:Int),((i+1:Nat):Int))) (ps.length-1) (by omega) (λi nx hi=>?_) (λnx=>?_);have hj:i+1<ps.length:=by omega
 simp only[hG];rw[aj (by omega),bm hj,wrap64 (by omega) (by omega),rQ,bT hj];simp only[ah,ae];cases ps[i+1].1==p.1<;>rfl
 ·simp only[hG];rw[af (by omega),ai];generalize hv:gb ps e p=v;have hsw:oW ps e p=(List.range ps.length).filter λj=>vF ps e v j&&((j==rQ ps p (ps.length-1))||PR p):=by rw[oW,hv]
  rw[hsw];generalize hq:(λj=>vF ps e v j&&((j==rQ ps p (ps.length-1))||PR p))=q;refine dT (λi=>(gG (((List.range ps.length).take i).filter q),(i:Int))) ps.length (by omega) (λi nx hi=>?_) (λnx=>?_)
  ·have hvv:=z.v _ (aM hi);have hi2:i<(List.range ps.length).length:=by simpa using hi
   have hf:=Ce (q:=q) (List.range ps.length) i;simp only[gE];rw[aj (by omega),bm hi,wrap64 (by omega) (by omega)];simp only[ah,ae,Bm _ _ hvv];rw[zV (List.range ps.length) i hi2,List.getElem_range];have eq:q i=(((i:Int) !=e)&&hasB ps[i].2.1 v&&(((i:Int)==(rQ ps p (ps.length-1):Int))||(p.1==281474976710655))):=by rw[←hq];simp only[vF,bT hi,PR];congr 2;rw[bO,aL,aL];omega
   have hr:∀k:Option (List Int),room (List.length (gG (((List.range ps.length).take i).filter q))+List.length ([(i:Int)])) k=k:=λk=>aK (by simp only[gG,cg,bR];rw[List.length_range]at hf;omega);rw[eq];cases (i:Int) !=e with|false=>rfl|true=>?_
   cases hasB ps[i].2.1 v with|false=>rfl|true=>?_
   simp only[ah,ae,bg];cases ((i:Int)==(rQ ps p (ps.length-1):Int))<;>cases p.1==281474976710655<;>simp only[ah,ai,ae,c9,fN,fO]<;>first|rfl|(rw[hr];simp[gG])
  simp only[gE];rw[af (by omega),bz (by simp)];rfl
theorem Es (q:Nat→Bool):∀l:List Nat,(ui q l= -1∧∀j∈l,q j=false)∨∃j∈l,q j=true∧ui q l=(j:Int)
 |[]=> .inl ⟨rfl,by simp⟩
 |j::l=>by rw[ui];cases hj:q j with|true=>exact .inr ⟨j,by simp,hj,rfl⟩|false=>simp only[ai];rcases Es q l with⟨h1,h2⟩|⟨k,h1,h2,h3⟩;exact .inl ⟨h1,by intro k hk;rcases bl.1 hk with rfl|hk;exact hj;exact h2 k hk⟩;exact .inr ⟨k,by simp[h1],h2,h3⟩
theorem Cl {ps:List Port}{p:ax}:∀i,(∀j,1≤j→j≤i→((ps.getD j gH).1==p.1)=false)→rQ ps p i=0
 |0,_=>rfl
 |i+1,h=>by rw[rQ,h (i+1) (by omega) (by omega)];exact Cl i λj h1 h2=>h j h1 (by omega)
theorem Ev {ps:List Port}{p:ax}{k:Nat}(hk:1≤k)(h:((ps.getD k gH).1==p.1)=true):∀i,k≤i→(∀j,1≤j→j≤i→((ps.getD j gH).1==p.1)=true→j=k)→rQ ps p i=k
 |0,hi,_=>by omega
 |i+1,hi,hu=>by rw[rQ];by_cases he:k=i+1;rw[←he,h];rfl;cases hq:(ps.getD (i+1) gH).1==p.1 with|true=>have:=hu (i+1) (by omega) (by omega) hq;omega|false=>exact Ev hk h i (by omega) λj h1 h2=>hu j h1 (by omega)
theorem MT {ps:List Port}(hp:ee ps=true){i j:Nat}(h1:1≤i)(hij:i<j)(hj:j<ps.length):((ps.getD i gH).1==(ps.getD j gH).1)=false:=by simp only[ee,ab,az,bf,yv,aB]at hp;have:=(hp.2 j hj).2 i hij;simp only[Bool.and_eq_false_iff,bne_eq_false_iff_eq]at this;rcases this with h|h;omega;exact h
theorem filter_one {q:Nat→Bool}{k n:Nat}(hk:k<n):(List.range n).filter (λj=>q j&&(j==k))=[k].filter q:=by
 have h1:(List.range n).filter (λj=>j==k)=[k]:=by
  induction n with
  |zero=>omega
  |succ n ih=>
   rw[List.range_succ,List.filter_append];by_cases he:k=n;subst he;have:(List.range k).filter (λj=>j==k)=[]:=by rw[List.filter_eq_nil_iff];intro j hj;have:=bf.1 hj;simp;omega
   rw[this];simp;rw[ih (by omega)];have:([n]:List Nat).filter (λj=>j==k)=[]:=by simp;omega
   rw[this];rfl
 have h2:(λj=>q j&&(j==k))=λj=>q j&&(λj=>j==k) j:=rfl;rw[h2,←List.filter_filter,h1]
theorem Ih (ps:List Port)(e:Int)(p:ax)(z:sB ps):ku ps e p=some (qc ps e p):=by
 have hn:=z.n;unfold ku qc;rw[Cr ps e p z,ae];cases hd:decide (gb ps e p<0)with|true=>rfl|false=>?_
 have hp:ee ps=true:=by cases hp:ee ps with|true=>rfl|false=>unfold gb HZ at hd;rw[hp]at hd;simp at hd
 have h1:1≤ps.length∧ps.length≤8:=by simp only[ee,ab,br]at hp;omega
 have hmac:∀j,j<ps.length→(ps.getD j gH).1≤281474976710654:=by intro j hj;simp only[ee,ab,az,bf,yv,Bj,eh,br]at hp;exact(hp.2 j hj).1.1.2.1.2
 simp only[ai,Ii ps p.1 hn,ae];generalize hv:gb ps e p=v;have hsw:oW ps e p=(List.range ps.length).filter λj=>vF ps e v j&&((j==rQ ps p (ps.length-1))||PR p):=by rw[oW,hv]
 rw[hsw];have hbcase:PR p=true→∀j,j<ps.length→((ps.getD j gH).1==p.1)=false:=by
  intro hb j hj;have:=hmac j hj;have hb:p.1=281474976710655:=by simpa[PR]using hb
  rw[hb,cJ];omega
 rcases Es (λj=>(j !=0)&&((ps.getD j gH).1==p.1)) (List.range' 0 ps.length)with⟨hf,hno⟩|⟨k,hk,hq,hf⟩;have hno:∀j,1≤j→j<ps.length→((ps.getD j gH).1==p.1)=false:=by intro j h2 h3;have:=hno j (by simp;omega);simp only[Bool.and_eq_false_iff,bne_eq_false_iff_eq]at this;rcases this with h|h;omega;exact h
 have hh:rQ ps p (ps.length-1)=0:=Cl _ λj h2 h3=>hno j h2 (by omega);rw[hf,show decide ((-1:Int)≥0)=false from rfl,ai,hh];rw[show(p.1==281474976710655)=PR p from rfl];cases hb:PR p with|true=>simp only[ah,fN,dL];refine dT (λi=>(gG (List.range i),(i:Int))) ps.length (by omega) (λi nx hi=>?_) (λnx=>?_);simp only[gD];rw[aj (by omega),aK (by simp only[gG,cg,List.length_range,bR];omega),wrap64 (by omega) (by omega),List.range_succ];simp only[ah,gG,List.map_append];rfl;simp only[gD];rw[af (by omega),ai];exact Cs ps e v (List.range ps.length) (by simp;omega) (λj hj=>bf.1 hj) z|false=>simp only[ai,Bool.or_false];rw[filter_one (by omega)];exact Cs ps e v [0] (by simp) (by simp;omega) z
 have hkl:k<ps.length:=by simp at hk;omega
 simp only[ab,bne_iff_ne]at hq;have hb:PR p=false:=by cases hb:PR p with|false=>rfl|true=>rw[hbcase hb k hkl]at hq;cases hq.2
 have hh:rQ ps p (ps.length-1)=k:=Ev (by omega) hq.2 _ (by omega) λj h2 h3 h4=>by rcases Nat.lt_trichotomy j k with g|g|g;have:=MT hp h2 g hkl;have a:=aL.1 h4;have b:=aL.1 hq.2;rw[a,b]at this;simp at this;exact g;have:=MT hp (show 1≤k by omega) g (show j<ps.length by omega);have a:=aL.1 h4;have b:=aL.1 hq.2;rw[a,b]at this;simp at this
 rw[hf,aj (by omega),ah,hh,hb];simp only[Bool.or_false];rw[filter_one hkl];exact Cs ps e v [k] (by simp) (by simp;omega) z
theorem vU {ps:List Port}{e:Int}{p:ax}:∀j∈oW ps e p,j<ps.length:=λj hj=>bf.1 (List.mem_filter.1 hj).1
theorem vT (ps:List Port)(e:Int)(p:ax):(oW ps e p).length≤ps.length:=bS (List.length_filter_le _ _) (by simp)
theorem M1 (ms:List aX):sB (cx ms).1:=⟨(wv ms).1,(wv ms).2⟩
theorem w3 {α:Type}(l:List α)(i:Nat)(hi:i<l.length):l.take i++[l[i]]=l.take (i+1):=(bJ hi).symm
theorem Gn {w:cA}{n:Nat}(z:fB n fM w):∀m∈w.2.2.2.1,m.1.2.2.length≤n:=λm hm=>(z.2.2.2.1.2 m hm).1.2.2.1
theorem Cn {w:cA}(z:fB 1000000000 fM w):Mc w:=⟨z.1.1,z.2.2.1.1,Gn z,λs hs=>(z.1.2 s hs).1.2.2.1,λs hs=>(z.1.2 s hs).2.1.1.1,λs hs=>(z.1.2 s hs).2.1.2.1.1,λs hs=>(z.1.2 s hs).2.1.2.2.2.1⟩
theorem DM (w:cA)(z:fB 1000000000 fM w):n5 w=some w:=by have l1:w.1.length≤1000000000:=z.1.1;have l2:w.2.1.length≤1000000000:=z.2.1.1;unfold n5;simp only[xX _ z.2.2.1.1,DL _ z.2.2.2.1.1 (Gn z),qD _ z.2.2.2.2.1,ae];refine dT (λi=>((i:Int),w.1.take i,([]:List (List Bytes)),w.2.2.1,w.2.2.2.1,w.2.2.2.2)) w.1.length (by omega) (λi nx hi=>?_) (λnx=>?_);simp only[kx];rw[aj (by omega),bm hi,wrap64 (by omega) (by omega)];simp only[ah,ae,xY _ (z.1.2 _ (aM hi))];rw[aK (by simp;omega),w3 _ i hi];rfl;simp only[kx];rw[af (by omega),ai,cS];refine dT (λi=>((i:Int),w.1,w.2.1.take i,w.2.2.1,w.2.2.2.1,w.2.2.2.2)) w.2.1.length (by omega) (λi nx hi=>?_) (λnx=>?_);simp only[ky];rw[aj (by omega),bm hi,wrap64 (by omega) (by omega)];simp only[ah,ae,qD _ (z.2.1.2 _ (aM hi)).1];rw[aK (by simp;omega),w3 _ i hi];rfl;simp only[ky];rw[af (by omega),ai,cS]
def nC (ps:List Port)(v:Int)(p:ax)(w:cA)(j:Nat):cA:=
 bif j==0 then(w.1,w.2.1,w.2.2.1,w.2.2.2.1,w.2.2.2.2++[(uj (xk ps (j:Int) v p)).1])
 else(w.1.set (j-1) (qq (w.1.getD (j-1) UA) (uj (xk ps (j:Int) v p)).1),w.2)
theorem GV (ps:List Port)(v:Int)(p:ax)(w:cA)(j:Nat):(nC ps v p w j).1.length=w.1.length:=by unfold nC;cases j==0 with|true=>rfl|false=>exact aP ..
theorem Pn {ps:List Port}{v:Int}{p:ax}{w:cA}{j n:Nat}(hj:j≤w.1.length)(hn:382≤n)(z:fB n fM w):fB (n+322) fM (nC ps v p w j):=by
 have z':fB (n+322) fM w:=z.mono (by omega);have hfr:=zh (xk ps (j:Int) v p);unfold nC;cases hj0:j==0 with
 |true=>refine⟨z'.1,z'.2.1,z'.2.2.1,z'.2.2.2.1,?_,λx hx=>?_⟩;have:w.2.2.2.2.length≤n:=z.2.2.2.2.1;show(w.2.2.2.2++[_]).length≤_;simp only[ak,bR];omega;rcases al.1 hx with h|h;exact z'.2.2.2.2.2 x h;rw[bw.1 h];show List.length _≤_;omega
 |false=>
  have:j≠0:=by simpa using hj0
  have hl:j-1<w.1.length:=by omega
  refine⟨⟨?_,λx hx=>?_⟩,z'.2⟩;show(w.1.set _ _).length≤_;rw[aP];exact z'.1.1;rcases List.mem_or_eq_of_mem_set hx with h|h;exact z'.1.2 x h;rw[h,bT hl];exact GF (z.1.2 _ (aM hl))
def sj (ps:List Port)(v:Int)(p:ax)(w:cA)(l:List Nat):cA:=l.foldl (nC ps v p) w
theorem GJ (ps:List Port)(v:Int)(p:ax):∀(l:List Nat)(w:cA),(sj ps v p w l).1.length=w.1.length
 |[],w=>rfl
 |j::l,w=>by show(sj ps v p (nC ps v p w j) l).1.length=_;rw[GJ ps v p l,GV]
theorem zF {ps:List Port}{v:Int}{p:ax}:∀(l:List Nat){w:cA}{n:Nat},(∀j∈l,j≤w.1.length)→382≤n→fB n fM w→fB (n+322*l.length) fM (sj ps v p w l)
 |[],w,n,_,_,z=>z
 |j::l,w,n,hj,hn,z=>by have h1:=Pn (ps:=ps) (v:=v) (p:=p) (hj j (by simp)) hn z;have:=zF (ps:=ps) (v:=v) (p:=p) l (w:=nC ps v p w j) (λk hk=>by rw[GV];exact hj k (by simp[hk])) (by omega) h1;exact this.mono (by simp only[bD];omega)
theorem LJ (ps:List Port)(v:Int)(p:ax)(w:cA)(l:List Nat)(i:Nat)(hi:i<l.length):sj ps v p w (l.take (i+1))=nC ps v p (sj ps v p w (l.take i)) l[i]:=by rw[bJ hi,sj,List.foldl_append];rfl
theorem Cv {R:Type}(K:cA→Option R)(ps:List Port)(v:Int)(p:ax)(w:cA)(l:List Nat)(hl:l.length≤8)(hj:∀j∈l,j≤w.1.length)(z:fB 90000000 fM w)(zp:sB ps): aZ (fX (λ(_:Int) (y16:cA)=>K y16) ps v (gG l) ((gG l).length:Int) p (([]:List l5),([]:List (List Bytes)),([]:List aF),([]:List aX),([]:List Bytes))) fuel (0,w)=K (sj ps v p w l):=by
 refine dT (λi=>((i:Int),sj ps v p w (l.take i))) l.length (by omega) (λi nx hi=>?_) (λnx=>?_);have hi2:i<(gG l).length:=by simpa[gG]using hi
 have e1:(gG l)[i]'hi2=(l[i]:Int):=by simp[gG]
 have hn:=GJ ps v p (l.take i) w;have hz:=(zF (ps:=ps) (v:=v) (p:=p) (l.take i) (λj h=>hj j (List.mem_of_mem_take h)) (by omega) z).mono (show 90000000+322*(l.take i).length≤100000000 by rw[bn];omega);have hji:=hj _ (aM hi);have hfr:=zh (xk ps (l[i]:Int) v p);rw[LJ ps v p w l i hi];generalize sj ps v p w (l.take i)=W at hn hz⊢;have hw:W.2.2.2.2.length≤100000000:=hz.2.2.2.2.1;have hw1:W.1.length≤100000000:=hz.1.1;simp only[fX];rw[aj (by simpa[gG]using hi),bm hi2,e1,wrap64 (n:=(i:Int)+1) (by omega) (by omega)];simp only[ah,ae,N8 ps _ v p zp,N5,nC];by_cases h0:l[i]=0;rw[show((l[i]:Int)==0)=true from by simp[h0],show(l[i]==0)=true from by simp[h0]];simp only[ah];rw[aK (by simp only[bR];omega)];rfl;rw[show((l[i]:Int)==0)=false from by simp[h0],show(l[i]==0)=false from by simp[h0]];have hk:l[i]-1<W.1.length:=by omega
 rw[wrap64 (n:=(l[i]:Int)-1) (by omega) (by omega),show(l[i]:Int)-1=((l[i]-1:Nat):Int) by omega];simp only[ai,bm hk,ae,Ib _ _ (hz.1.2 _ (aM hk)) (bS hfr (by omega)),aH,bT hk];rfl;simp only[fX];rw[af (by simp[gG]),ai,cS]
def ed (w:cA)(e:Int)(p:ax):cA:=
 bif nk w&&eS p then(bif decide (gb (cx w.2.2.2.1).1 e p<0) then w else sj (cx w.2.2.2.1).1 (gb (cx w.2.2.2.1).1 e p) p w (oW (cx w.2.2.2.1).1 e p)) else w
theorem GB {w:cA}(h:nk w=true):(cx w.2.2.2.1).1.length=w.1.length+1∧(cx w.2.2.2.1).1.length≤8:=by unfold nk at h;simp only[ab]at h;have hl:=(I0 h.2.1).1;have h2:=h.1;unfold cx at h2⊢;cases hc:cM (w.2.2.2.1.length:Int) 1 3&&(w.2.2.2.1.all kB&&ee (ix w.2.2.2.1))with|false=>rw[hc]at h2;cases h2|true=>simp only[ab]at hc;have:=(xP w.2.2.2.1 0 ([0],[]) ⟨by simp,rfl,by simp⟩ hc.2.1).2.1;have h8:=hc.2.2;simp only[ee,ab,br]at h8;simp only[ah];refine⟨?_,by omega⟩;simp only[ix,bD];rw[this,hl];omega
theorem AW (w:cA)(e:Int)(p:ax)(z:fB 90000000 fM w):lg w e p=some (ed w e p):=by
 have z9:fB 1000000000 fM w:=z.mono (by omega);unfold lg ed;simp only[DM w z9,EA w (Cn z9),xh,ae];cases hi:nk w with|false=>rfl|true=>?_
 cases eS p with|false=>rfl|true=>?_
 have hn:=GB hi;have zp:=M1 w.2.2.2.1;simp only[ar,ai,ae,dj,ah,Ab _ (Gn z9),Cr _ e p zp,Ih _ e p zp];generalize (cx w.2.2.2.1).1=ps at hn zp⊢;unfold qc;cases decide (gb ps e p<0)with|true=>exact Cv (λw=>some w) ps (gb ps e p) p w [] (by simp) (by simp) z zp|false=>exact Cv (λw=>some w) ps (gb ps e p) p w (oW ps e p) (by have:=vT ps e p;omega) (λj hj=>by have:=vU j hj;omega) z zp
structure Ug (n:Nat) (c:dJ):Prop where
 z:fB n wL c
 h:∀x∈c.1,Py n x
theorem Ug.mono {n m:Nat}{c:dJ}(k:Ug n c)(hn:n≤m):Ug m c:=⟨k.z.mono hn,λx hx=>(k.h x hx).mono hn⟩
theorem Ug.sz {n:Nat}{c:dJ}(k:Ug n c)(hn:n≤1000000000):Ka c:=by have z:fB 1000000000 wL c:=k.z.mono hn;exact⟨z.1.1,z.2.1.1,λm hm=>(z.2.2.1.2 m hm).1.2.2.1,λx hx=>(k.h x hx).sz hn⟩
theorem Ug.of {c:dJ}(k:Ec wL c≤1048576):Ug 1048576 c:=by
 refine⟨yL k,λh hh=>Py.of ?_⟩;have h1:=xm (Ec kN) c.1 h hh;have h2:(c.1.map (Ec kN)).sum≤Ec wL c:=by show _≤(c.1.length+(c.1.map (Ec kN)).sum)+_;omega
 omega
theorem Js {w:cA}(h:nk w=true):w.1.length=w.2.2.2.1.length∧w.2.1.length=w.2.2.2.1.length∧w.2.2.1.length=w.2.2.2.1.length∧1≤w.2.2.2.1.length∧w.2.2.2.1.length≤3:=by have h':=h;unfold nk at h';simp only[ab]at h';have h2:=h'.1;have hl:=h'.2.1;simp only[Ac,ab,aL]at hl;unfold cx at h2;cases hc:cM (w.2.2.2.1.length:Int) 1 3&&(w.2.2.2.1.all kB&&ee (ix w.2.2.2.1))with|false=>rw[hc]at h2;cases h2|true=>simp only[ab,br]at hc;omega
theorem xU {w:cA}{e:Int}{p:ax}{n:Nat}(hn:382≤n)(z:fB n fM w):fB (n+1288) fM (ed w e p):=by
 have z':fB (n+1288) fM w:=z.mono (by omega);unfold ed;cases hi:nk w with|false=>exact z'|true=>?_
 cases eS p with|false=>exact z'|true=>?_
 have h:=(GB hi).1;have h4:=Js hi;simp only[dj,ah];generalize (cx w.2.2.2.1).1=ps at h⊢;cases decide (gb ps e p<0)with|true=>exact z'|false=>have h8:=vT ps e p;exact(zF (oW ps e p) (λj hj=>by have:=vU j hj;omega) hn z).mono (by omega)
theorem T5 (ps:List Port)(v:Int)(p:ax)(w:cA)(j:Nat):(nC ps v p w j).2.1=w.2.1∧(nC ps v p w j).2.2.2.1=w.2.2.2.1:=by unfold nC;cases j==0<;>exact⟨rfl,rfl⟩
theorem M7 (ps:List Port)(v:Int)(p:ax):∀(l:List Nat)(w:cA),(sj ps v p w l).2.1=w.2.1∧(sj ps v p w l).2.2.2.1=w.2.2.2.1
 |[],w=>⟨rfl,rfl⟩
 |j::l,w=>by have h1:=M7 ps v p l (nC ps v p w j);have h2:=T5 ps v p w j;exact⟨h1.1.trans h2.1,h1.2.trans h2.2⟩
def X8 (a b:cA):Prop:=b.1.length=a.1.length∧b.2.1=a.2.1∧b.2.2.2.1=a.2.2.2.1
theorem J3 (w:cA)(e:Int)(p:ax):X8 w (ed w e p):=by
 unfold ed;cases nk w&&eS p with|false=>exact⟨rfl,rfl,rfl⟩|true=>?_
 cases hd:decide (gb (cx w.2.2.2.1).1 e p<0)with|true=>exact⟨rfl,rfl,rfl⟩|false=>have h:=M7 (cx w.2.2.2.1).1 (gb (cx w.2.2.2.1).1 e p) p (oW (cx w.2.2.2.1).1 e p) w;exact⟨GJ _ _ _ _ _,h.1,h.2⟩
structure Nu (a b:Host):Prop where
 maps:b.2.1=a.2.1
 mem:b.1.length=a.1.length
theorem Nu.trans {a b c:Host}(h:Nu a b)(g:Nu b c):Nu a c:=⟨g.maps.trans h.maps,g.mem.trans h.mem⟩
theorem Nu.of {k:Nat}{a b:Host}(h:zQ k a b):Nu a b:=⟨h.maps,h.mem⟩
def F9 (h:Host):Filter:=h.2.2.2.2.2.2.2.1
theorem zP.at {n:Int}{c:dJ}(g:zP n c){i:Nat}{h:Host}(hi:c.1[i]?=some h):Good n h:=by obtain⟨hlt,_⟩:=List.getElem?_eq_some_iff.1 hi;exact(g.host i h _ hi (List.getElem?_eq_getElem (by have:=g.len.1;omega))).1
structure Md (a b:dJ):Prop where
 boxes:b.2.2.1=a.2.2.1
 flash:b.2.2.2.1=a.2.2.2.1
 clock:b.2.2.2.2.1=a.2.2.2.2.1
 stamps:b.2.2.2.2.2.1=a.2.2.2.2.2.1
 len:b.1.length=a.1.length
 up:∃w,b.2.2.2.2.2.2=a.2.2.2.2.2.2++w
theorem Md.trans {a b c:dJ}(h:Md a b)(g:Md b c):Md a c:=by obtain⟨w,hw⟩:=h.up;obtain⟨u,hu⟩:=g.up;exact⟨g.boxes.trans h.boxes,g.flash.trans h.flash,g.clock.trans h.clock,g.stamps.trans h.stamps,g.len.trans h.len,⟨w++u,by rw[hu,hw,aC]⟩⟩
theorem Hk {c:dJ}(d:uQ c):Ug 2000 c:=by
 have p:=wu d.ports;obtain⟨bk,_,hf⟩:=d.fns;have hh:∀h∈c.1,wK h:=by intro h hh;obtain⟨i,hi⟩:=List.getElem?_of_mem hh;obtain⟨hlt,_⟩:=List.getElem?_eq_some_iff.1 hi;exact(d.host i h _ hi (List.getElem?_eq_getElem (by rw[←d.len];exact hlt))).1
 refine⟨⟨⟨by have:=d.len;omega,λh hx=>(hh h hx).sz.z⟩,⟨by rw[hf,rZ];omega,λ_ _=>⟨trivial,trivial,⟨trivial,trivial,trivial⟩,trivial,trivial,trivial⟩⟩,⟨by omega,λb hb=>?_⟩,⟨by have:=d.flash.1;omega,λx hx=>by show x.length≤2000;rw[d.flash.2 x hx];omega⟩,⟨trivial,trivial,trivial,trivial⟩,?_,?_⟩,λh hx=>(hh h hx).sz⟩;obtain⟨i,hi⟩:=List.getElem?_of_mem hb;have q:=(d.box i b hi).vl;refine⟨⟨trivial,trivial,?_,λ_ _=>trivial⟩,trivial,trivial,trivial⟩;show b.1.2.2.length≤2000;rcases q with e|e<;>rw[e]<;>simp;rw[show c.2.2.2.2.2.1=[] from congrArg (·.1) d.rest];exact⟨bt _,λ_ _=>trivial⟩;rw[show c.2.2.2.2.2.2=[] from congrArg (·.2) d.rest];exact⟨bt _,λx hx=>by cases hx⟩
structure oY (n:Int) (w:cA):Prop where
 ports:(cx w.2.2.2.1).2=true
 len:w.1.length=w.2.2.2.1.length∧w.2.1.length=w.2.2.2.1.length∧w.2.2.1.length=w.2.2.2.1.length
 fns:eK w.2.2.1 (cx w.2.2.2.1).1=true
 soft:∀(i:Nat)(s:l5)(b:aX),w.1[i]?=some s→w.2.2.2.1[i]?=some b→sZ s=true∧s.1=b.1
 place:∀i,i<w.1.length→ov w.2.2.1 i=true
 boxn:∀b∈w.2.2.2.1,b.2.1≤n∧b.2.2.2≤n
 fnn:∀f∈w.2.2.1,f.2.2.2.2.1≤n∧f.2.2.2.2.2≤n
theorem oY.mono {n m:Int}{w:cA}(g:oY n w)(h:n≤m):oY m w:=⟨g.ports,g.len,g.fns,g.soft,g.place,λb hb=>⟨by have:=(g.boxn b hb).1;omega,by have:=(g.boxn b hb).2;omega⟩,λf hf=>⟨by have:=(g.fnn f hf).1;omega,by have:=(g.fnn f hf).2;omega⟩⟩
theorem oY.ok {n:Int}{w:cA}(g:oY n w):nk w=true:=by
 unfold nk;rw[g.ports,g.fns,bg,bg,ab,ab,az,az];refine⟨?_,?_,?_⟩;unfold Ac;rw[g.len.1,g.len.2.1,g.len.2.2];simp;intro i hi;have hi:=bf.1 hi;have hj:i<w.2.2.2.1.length:=by have:=g.len.1;omega
 rw[Ew i hi hj];have q:=g.soft i _ _ (List.getElem?_eq_getElem hi) (List.getElem?_eq_getElem hj);rw[q.1,B9 q.2];rfl;intro i hi;exact g.place i (bf.1 hi)
theorem oY.at {n:Int}{w:cA}(g:oY n w){i:Nat}{s:l5}(hi:w.1[i]?=some s):sZ s=true:=by obtain⟨hlt,_⟩:=List.getElem?_eq_some_iff.1 hi;exact(g.soft i s _ hi (List.getElem?_eq_getElem (by have:=g.len.1;omega))).1
theorem Cj {n:Int}{w:cA}(g:oY n w){ss:List l5}(hl:ss.length=w.1.length)(h:∀(i:Nat)(s:l5),ss[i]?=some s→∃s0,w.1[i]?=some s0∧sZ s=true∧s.1=s0.1){u:List Bytes}:oY n (ss,w.2.1,w.2.2.1,w.2.2.2.1,u):=by refine⟨g.ports,⟨hl.trans g.len.1,g.len.2⟩,g.fns,λi s b e1 e2=>?_,λi hi=>g.place i (by rw[←hl];exact hi),g.boxn,g.fnn⟩;obtain⟨s0,a,b',e⟩:=h i s e1;exact⟨b',e.trans (g.soft i s0 b a e2).2⟩
theorem Jz (s:l5)(x:Bytes):(qq s x).1=s.1∧sZ (qq s x)=sZ s:=by unfold qq;cases G3 s x<;>exact⟨rfl,rfl⟩
theorem KM {n:Int}{w:cA}(g:oY n w)(ps:List Port)(v:Int)(p:ax){j:Nat}(hj:j≤w.1.length):oY n (nC ps v p w j):=by
 unfold nC;cases hj0:j==0 with
 |true=>exact Cj g rfl λi s e=>⟨s,e,g.at e,rfl⟩
 |false=>
  have:j≠0:=by simpa using hj0
  have hl:j-1<w.1.length:=by omega
  refine Cj (u:=w.2.2.2.2) g (aP ..) λi s e=>?_;by_cases hik:i=j-1;subst hik;rw[List.getElem?_set_self hl,bT hl]at e;have r:=Jz w.1[j-1] (uj (xk ps (j:Int) v p)).1;have q:=g.at (List.getElem?_eq_getElem hl)
  rw[←bE e];exact⟨_,List.getElem?_eq_getElem hl,r.2.trans q,r.1⟩;rw[List.getElem?_set_ne (bL hik)]at e;exact⟨s,e,g.at e,rfl⟩
theorem Eu (ps:List Port)(v:Int)(p:ax):∀(l:List Nat){n:Int}{w:cA},(∀j∈l,j≤w.1.length)→oY n w→oY n (sj ps v p w l)
 |[],n,w,_,g=>g
 |j::l,n,w,hj,g=>Eu ps v p l (w:=nC ps v p w j) (λk hk=>by rw[GV];exact hj k (by simp[hk])) (KM g ps v p (hj j (by simp)))
theorem Ga {n:Int}{w:cA}(g:oY n w)(e:Int)(p:ax):oY n (ed w e p):=by
 have pn:=(GB g.ok).1;unfold ed;cases nk w&&eS p with|false=>exact g|true=>?_
 cases hd:decide (gb (cx w.2.2.2.1).1 e p<0)with|true=>exact g|false=>exact Eu _ _ _ _ (λj hj=>by have:=vU j hj;omega) g
theorem NY {c:dJ}(d:uQ c):oY 4 (kR c)∧fB 2000 fM (kR c)∧(kR c).1.length=c.1.length∧(kR c).2.2.2.2=c.2.2.2.2.2.2∧(kR c).2.1=List.replicate c.1.length []:=by
 have g:=d.Te;have z:=Gb c (Hk d).z;have e:kR c=(c.1.map sm,List.replicate c.1.length ([]:List Bytes),c.2.1,c.2.2.1,c.2.2.2.2.2.2):=by unfold kR;rw[g.ok (by omega)];rfl
 rw[e]at z⊢;refine⟨⟨g.ports,⟨?_,?_,g.len.2⟩,g.fns,λi s b e1 e2=>?_,λi hi=>g.place i ?_,g.boxn,g.fnn⟩,z,cg ..,rfl,rfl⟩;show(c.1.map sm).length=_;rw[cg];exact g.len.1;show(List.replicate c.1.length ([]:List Bytes)).length=_;rw[List.length_replicate];exact g.len.1;have e1:(c.1.map sm)[i]?=some s:=e1;rw[List.getElem?_map]at e1;cases hc:c.1[i]? with|none=>rw[hc]at e1;cases e1|some h=>rw[hc]at e1;have q:=g.host i h b hc e2;have s2:=TV q.1 (by omega);rw[←bE e1];refine⟨s2.2,?_⟩;rw[s2.1];exact q.2
 have hi:i<(c.1.map sm).length:=hi;rw[cg]at hi;exact hi
theorem Vt {a:List Int}{k:Bool→Option Bool}(ht:k true=some true)(hk:a.length≤1048576→Ends (k false) (λb=>b=true)):Ends (aa (yi a) k) (λb=>b=true):=by unfold yi;rw[ae];by_cases h:((a.length:Int))>1048576;rw[aj h,ht];exact Ends.pure rfl;rw[af h];exact hk (by omega)
theorem Ends.true {o:Option Bool}(h:Ends o (λb=>b=true)):o=some true:=by obtain⟨x,h1,rfl⟩:=h;exact h1
theorem zH (l:List Stream)(h:l.length≤1000000000):lz l l=some true:=by refine Ends.true ?_;unfold lz;rw[bne_self_eq_false,ai];refine Ends.qm (λx=>0≤x∧x≤(l.length:Int)) (λx=>((l.length:Int)-x).toNat) ⟨by omega,by omega⟩ (by omega) λx nx hx hn=>?_;unfold l7;refine Ends.cond (λk=>?_) λ_=>Ends.pure rfl;have k:=a6 k;refine Ends.idx hx.1 k λ_=>Ends.idx hx.1 k λ_=>?_;simp only[beq_self_eq_true,dj,ar,ai];rw[wrap64 (by omega) (by omega)];exact hn _ ⟨by omega,by omega⟩ (by omega)
theorem Tf (l:List Int)(x:Int)(hl:l.length≤1000000):yj l x=some (l.any λy=>y==x):=by
 unfold yj;rw[xB (hit:=some true) (fin:=some false) (λy=>y==x) l (by omega) (λi hi nx=>?hs) (λnx=>?hf)]
 case hs=>
  simp only[sT]
  rw[aj (by omega),bm hi,wrap64 (by omega) (by omega)]
  simp only[ah,ae]
  rfl
 case hf=>
  simp only[sT]
  rw[af (by omega)];rfl
 cases l.any λy=>y==x<;>rfl
theorem C1 (ps:List Port)(v:Int)(p:ax){k:Nat}:∀(l:List Nat)(w:cA),(∀j∈l,j≠k+1)→(sj ps v p w l).1[k]?=w.1[k]?
 |[],w,_=>rfl
 |j::l,w,h=>by
  refine(C1 ps v p l (nC ps v p w j) λi hi=>h i (by simp[hi])).trans ?_;have hj:=h j (by simp);unfold nC;cases h0:j==0 with
  |true=>rfl
  |false=>
   have h0:j≠0:=by simpa using h0
   exact List.getElem?_set_ne (by omega)
theorem M8 (ps:List Port)(v:Int)(p:ax):∀(l:List Nat)(w:cA),(∀j∈l,j≠0)→(sj ps v p w l).2.2.2.2=w.2.2.2.2
 |[],w,_=>rfl
 |j::l,w,h=>by refine(M8 ps v p l (nC ps v p w j) λi hi=>h i (by simp[hi])).trans ?_;have hj:=h j (by simp);unfold nC;rw[show(j==0)=false from by rw[cJ];exact hj];rfl
theorem GZ {w:cA}{e:Int}{p:ax}{k:Nat}(h:(qc (cx w.2.2.2.1).1 e p).any (λy=>y==(k:Int)+1)=false):(ed w e p).1[k]?=w.1[k]?:=by
 unfold ed;cases nk w&&eS p with|false=>rfl|true=>?_
 unfold qc at h;cases hd:decide (gb (cx w.2.2.2.1).1 e p<0)with|true=>rfl|false=>rw[hd,ai]at h;refine C1 _ _ _ _ _ λj hj ej=>?_;rw[List.any_eq_false]at h;refine h (Int.ofNat j) (List.mem_map_of_mem hj) ?_;rw[ej,aL];rfl
theorem Pq {w:cA}{p:ax}:(ed w 0 p).2.2.2.2=w.2.2.2.2:=by
 unfold ed;cases nk w&&eS p with|false=>rfl|true=>?_
 cases hd:decide (gb (cx w.2.2.2.1).1 0 p<0)with|true=>rfl|false=>refine M8 _ _ _ _ _ λj hj ej=>?_;have h:=(List.mem_filter.1 hj).2;unfold vF at h;rw[ej]at h;simp at h
theorem AR (a:List Int)(ha:PF (.sl (.int .u8)) a):oh a=some true:=by
 refine Ends.true ?_;unfold oh;refine Vt rfl λhl=>?_;rw[ai];refine(SH hl).bind λr2 p2=>?_;obtain⟨c,l⟩:=r2;simp only at p2⊢;obtain⟨d,hn,hact⟩:=p2;have zc:=Hk d;obtain⟨g0,z0,n0,u0,_⟩:=NY d;rw[JO c (zc.z.mono (by omega)) (zc.sz (by omega)),ae];have p:=wu d.ports;refine Ends.qm (λx=>0≤x.1∧x.1≤(l.length:Int)∧oY 4 x.2∧fB (2000+1288*x.1.toNat) fM x.2∧x.2.2.2.2.2=c.2.2.2.2.2.2) (λx=>((l.length:Int)-x.1).toNat) ⟨by simp,by simp,g0,z0.mono (by omega),u0⟩ (by simp;omega) λx nx hx hn2=>?_;obtain⟨i,w⟩:=x;obtain⟨x1,x2,x3,x4,x5⟩:=hx;simp only at x1 x2 x3 x4 x5;obtain⟨i,rfl⟩:∃k:Nat,i=k:=⟨i.toNat,by omega⟩
 rw[aH]at x4;have hw:=Js x3.ok;unfold kU;refine Ends.cond (λk=>?_) λk=>?_;have k:=a6 k;simp only at k⊢;have hi:i<l.length:=by omega
 have hf:=(hact _ (aM hi)).act.2.1;rw[bm hi,ae,E1 _ (by omega),ae,wrap64 (n:=(i:Int)+1) (by omega) (by omega)];generalize u4 l[i].2.2.1.2.2.2.2.1=rp;have step:∀w',oY 4 w'→fB (2000+1288*(i+1)) fM w'→w'.2.2.2.2=c.2.2.2.2.2.2→Ends (nx ((i:Int)+1,w')) (λb=>b=true):=by intro w' h1 h2 h3;refine hn2 _ ⟨by show 0≤(i:Int)+1;omega,by show(i:Int)+1≤_;omega,h1,?_,h3⟩ (by show((l.length:Int)-((i:Int)+1)).toNat<((l.length:Int)-(i:Int)).toNat;omega);show fB (2000+1288*((i:Int)+1).toNat) fM w';rw[show((i:Int)+1).toNat=i+1 by omega];exact h2
 refine Ends.cond (λ_=>step w x3 (x4.mono (by omega)) x5) λ_=>?_;have z9:fB 90000000 fM w:=x4.mono (by omega);have zl:=xU (e:=0) (p:=rp.1) (by omega) x4;rw[vM _ (Gn (z9.mono (show 90000000≤1000000000 by omega))),ae,JV _ _ _ (M1 _),ae,AW w 0 rp.1 z9,ae];have ln:=(J3 w 0 rp.1).1;rw[ln,bne_self_eq_false,ai];have so:(qc (cx w.2.2.2.1).1 0 rp.1).length≤1000000:=by have h1:=vT (cx w.2.2.2.1).1 0 rp.1;have h2:=(OY w.2.2.2.1).1;unfold qc;cases decide (gb (cx w.2.2.2.1).1 0 rp.1<0)with|true=>simp|false=>rw[ai];unfold gG;rw[cg];omega
 have go:=step _ (Ga x3 0 rp.1) (zl.mono (by omega)) (Pq.trans x5);refine Ends.qm (λy=>0≤y∧y≤(w.1.length:Int)) (λy=>((w.1.length:Int)-y).toNat) ⟨by simp,by simp⟩ (by simp;omega) λy ny hy hm=>?_;unfold kg;refine Ends.cond (λk1=>?_) λ_=>go;have k1:=a6 k1;obtain⟨j,rfl⟩:∃k:Nat,y=k:=⟨y.toNat,by have:=hy.1;omega⟩
 have hj:j<w.1.length:=by omega
 have e1:aw ((j:Int)+1)=(j:Int)+1:=wrap64 (by omega) (by omega);rw[e1,Tf _ _ so,ae];have nxt:=hm ((j:Int)+1) ⟨by omega,by omega⟩ (by omega);refine Ends.bind (P:=λb=>b=false) ?_ λb hb=>by rw[hb,ai];exact nxt
 refine Ends.cond (λk2=>?_) λ_=>Ends.pure rfl;have k2:((qc (cx w.2.2.2.1).1 0 rp.1).any λy=>y==(j:Int)+1)=false:=by simpa using k2
 have e2:=GZ k2;have e3:(ed w 0 rp.1).1[j]?=some w.1[j]:=e2.trans (List.getElem?_eq_getElem hj);have hs:=(z9.1.2 _ (aM hj)).2.2.2.1.1;rw[xW,e3,ae,xW,List.getElem?_eq_getElem hj,ae,zH _ (by omega),ae];exact Ends.pure rfl;have k:=of_decide_eq_false k;simp only at k⊢;rw[EA w (Cn (x4.mono (by omega))),x3.ok,ae,x5,beq_self_eq_true];exact Ends.pure rfl
end
end Go.Pu
