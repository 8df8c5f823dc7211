import Derived.Test.YtgbaemfepmabgaaGreatPure
import Derived.KernelRfl
import Derived.Test.YtgbaemfepmabgaaGreatPuX2
namespace Go.Pu
open Go.Dn
set_option linter.unusedSimpArgs false
set_option linter.unusedVariables false
noncomputable section
variable {v2:Bool} {s x:Bytes} {b2 c c0:cM} {a:dj} {h:Host} {d n v1 v9:Int} {b:bC} {i k:Nat} {p:aG} {q:cj} {g:eX} {st:dp} {t:dM} {R α:Type} {v:Vector} {ms:au bC} {ps:au Port} {l:au aP} {f m:bE} {r:jY}
/- One act, runs of acts, and whether all was delivered: the program's and the reference's results are one. -/
def WH (b:Bool):Int:=bif b then 1 else 0
def EX (h:Host)(a:Act):Host×Int:=
 bif !dK h|| !Dv a then(h, -1) else
 bif a.1==0 then((yx h a.2.1 a.2.2.1 a.2.2.2.1).1,WH (yx h a.2.1 a.2.2.1 a.2.2.2.1).2) else
 bif a.1==1 then(eZ h,0) else
 bif a.1==2 then(ky h a.2.2.2.2.1,0) else
 bif a.1==3 then(uT h,0) else
 bif a.1==4 then(uM h,0) else
 bif a.1==5 then mO h a.2.2.2.2.2 else(rk h,0)
theorem ZZ (h:Host)(a:Act)(k:yI 90000000 h)(hx:a.2.2.2.2.1.length<=1000000000):AP h a=some (EX h a):=by
 have z:cV 1000000000 de h:=k.z.mono;unfold AP EX;rw[tF h (k.sz (by omega)),ab,Ya,ab];cases dK h with|false=>simp only[br,ah,gI,ab,iM h z]|true=>?_
 cases Dv a with|false=>simp only[aj,br,ah,af,gH,ab,iM h z]|true=>?_
 simp only[aj,af,cl,ab,Z9 h _ _ _ (k.mono),FF h (k.mono),FA h _ (k.mono) hx,VX h (k.mono),SU h (k.sz (by omega)) z,SQ h _ (k.mono),DN h (k.sz (by omega)) (k.z.mono)];cases a.1==0 with|true=>(simp only[ah];cases (yx h a.2.1 a.2.2.1 a.2.2.2.1).2<;>rfl)|false=>?_
 cases a.1==1 with|true=>rfl|false=>?_
 cases a.1==2 with|true=>rfl|false=>?_
 cases a.1==3 with|true=>rfl|false=>?_
 cases a.1==4 with|true=>rfl|false=>?_
 cases a.1==5<;>rfl
theorem afE {n:Nat}(hn:1000<=n)(a:Act)(k:yI n h)(f:dK h=true\/Jx h):yI (n+645000) (EX h a).1/\(dK h=true\/Jx h->Jx (EX h a).1\/(EX h a).1=h):=by
 have f:Jx h:=f.elim VB id;unfold EX;cases !dK h|| !Dv a with|true=>exact⟨k.mono,λ_=>Or.inr rfl⟩|false=>?_
 simp only[af];cases a.1==0 with|true=>exact⟨(adP hn _ _ _ k).mono,λ_=>Or.inl (acu hn _ _ _ k f)⟩|false=>?_
 cases a.1==1 with|true=>exact⟨(Br (by omega) k).mono,λ_=>Or.inl (PZ f)⟩|false=>?_
 cases a.1==2 with|true=>exact⟨(CD hn _ k).1.mono,λ_=>Or.inl (RX hn _ k f)⟩|false=>?_
 cases a.1==3 with|true=>exact⟨(ZN hn k).mono,λ_=>Or.inl (ZG f)⟩|false=>?_
 cases a.1==4 with|true=>exact⟨(UN hn k).mono,λ_=>Or.inl (acv f)⟩|false=>?_
 cases a.1==5 with|true=>exact⟨(Uo hn _ k).mono,λ_=>Or.inl (ZH _ f)⟩|false=>exact⟨(Hx hn k f).1,λ_=>Or.inl (Hx hn k f).2⟩
theorem abZ {n:Nat}(hn:1000<=n)(a:Act)(k:yI n h)(f:Jx h):yI (n+645000) (EX h a).1/\Jx (EX h a).1:=by have g:=afE hn a k (Or.inr f);refine⟨g.1,?_⟩;rcases g.2 (Or.inr f)with h1|h1;exact h1;rw[h1];exact f
theorem Wt (h:cL m=true)(a:Int)(s:Bytes):cL (nS m a s).1=true:=by
 unfold nS;cases hw:fT m a (s.length:Int)with|false=>exact h|true=>?_
 simp only[fT,ae,aE]at hw;exact oE.2 (xK s.length (oE.1 hw.1) (by omega)).1
theorem TF:∀(q:au (Int×Int)){m:bE}(s:Bytes),cL m=true->cL (Ht q m s)=true
 |[],_,_,h=>h
 |p::q,m,s,h=>by rw[Ht];exact TF q _ (Wt h _ _)
theorem Cw (h:cL m=true)(l:au aB)(d a:Int)(s:Bytes)(w:Bool):cL (gR l m d a s w).1=true:=by unfold gR;cases (jO l m d a (s.length:Int) w).2 with|false=>exact h|true=>exact TF _ _ h
theorem H6 (h:cL m=true)(l:au aB)(d:Int)(r:jY)(s:Bytes):cL (cU l m d r s).1=true:=by
 unfold cU;cases (nX r==0)||((s.length:Int) !=16)with|true=>exact h|false=>?_
 cases (gR l m d (oa r r.2.2.2) s true).2 with|false=>exact h|true=>exact Cw h ..
theorem CE {b x y:Int}(hb:0<=b/\b<=130944:=by omega)(hn:n=2\/n=4\/n=8\/n=16:=by omega)(hx:0<=x/\x<=2*n-1:=by omega)(hy:0<=y/\y<=2*n-1:=by omega)(hu:(y-x)%(2*n)<=n:=by omega):cZ (b,n,x,y)=true:=by have hs:iB n=true:=gG.2 hn;simp only[cZ,bJ,hs,aS.2 hb,aS.2 hx,aS.2 hy,bT,bj,aE];exact hu
theorem Dk (h:cZ r=true):bJ r=(r.2.2.2-r.2.2.1)%(2*r.2.1)/\0<=bJ r/\bJ r<=r.2.1:=by
 have k:=kJ h;have e:bJ r=(r.2.2.2-r.2.2.1)%(2*r.2.1):=by unfold bJ;rw[aF (gG.2 k.2.2.1)]
 simp only[cZ,ae,aE]at h;exact⟨e,by rw[e];exact eI _ (by omega),h.2.2.2.2⟩
theorem HH {x:Int}(hn:0<n:=by omega)(hx:0<=x/\x<=n-1:=by omega):Int.tmod (x+1) n=if x+1=n then 0 else x+1:=by rw[df (by omega)];split;rename_i h;rw[h];exact Int.emod_self;exact Int.emod_eq_of_lt (by omega) (by omega)
theorem abb (h:cZ r=true)(hf:bJ r<r.2.1):cZ (r.1,r.2.1,r.2.2.1,Int.tmod (r.2.2.2+1) (2*r.2.1))=true/\bJ (r.1,r.2.1,r.2.2.1,Int.tmod (r.2.2.2+1) (2*r.2.1))=bJ r+1:=by
 have k:=kJ h;have u:=Dk h;have e:=HH (x:=r.2.2.2) (n:=2*r.2.1);have u2:(Int.tmod (r.2.2.2+1) (2*r.2.1)-r.2.2.1)%(2*r.2.1)=bJ r+1:=by
  have h1:(Int.tmod (r.2.2.2+1) (2*r.2.1)-r.2.2.1)%(2*r.2.1)=(r.2.2.2+1-r.2.2.1)%(2*r.2.1):=by rw[e];split;rename_i hh;rw[<-hh,show(r.2.2.2+1-r.2.2.1)=(0-r.2.2.1)+(r.2.2.2+1) by omega,Int.add_emod_right];rfl
  rw[h1,show r.2.2.2+1-r.2.2.1=(r.2.2.2-r.2.2.1)+1 by omega];have h0:=u.1;generalize r.2.2.2-r.2.2.1=d at h0⊢;rw[Int.add_emod,<-h0,Int.emod_eq_of_lt (a:=1) (by omega) (by omega),Int.emod_eq_of_lt (by omega) (by omega)]
 refine⟨CE ⟨k.1,k.2.1⟩ k.2.2.1 ⟨k.2.2.2.1,k.2.2.2.2.1⟩ (by rw[e];split<;>omega) (by rw[u2];omega),?_⟩;unfold bJ;rw[aF (gG.2 k.2.2.1)];exact u2
theorem adH (h:cZ r=true)(hf:bJ r≠0):cZ (r.1,r.2.1,Int.tmod (r.2.2.1+1) (2*r.2.1),r.2.2.2)=true/\bJ (r.1,r.2.1,Int.tmod (r.2.2.1+1) (2*r.2.1),r.2.2.2)=bJ r-1:=by
 have k:=kJ h;have u:=Dk h;have e:=HH (x:=r.2.2.1) (n:=2*r.2.1);have u2:(r.2.2.2-Int.tmod (r.2.2.1+1) (2*r.2.1))%(2*r.2.1)=bJ r-1:=by
  have h1:(r.2.2.2-Int.tmod (r.2.2.1+1) (2*r.2.1))%(2*r.2.1)=(r.2.2.2-(r.2.2.1+1))%(2*r.2.1):=by rw[e];split;rename_i hh;rw[<-hh,show(r.2.2.2-0)=(r.2.2.2-(r.2.2.1+1))+(r.2.2.1+1) by omega,Int.add_emod_right];rfl
  rw[h1,show r.2.2.2-(r.2.2.1+1)=(r.2.2.2-r.2.2.1)-1 by omega];have h0:=u.1;generalize r.2.2.2-r.2.2.1=d at h0⊢;rw[Int.sub_emod,<-h0,Int.emod_eq_of_lt (a:=1) (by omega) (by omega),Int.emod_eq_of_lt (by omega) (by omega)]
 refine⟨CE ⟨k.1,k.2.1⟩ k.2.2.1 (by rw[e];split<;>omega) ⟨k.2.2.2.2.2.1,k.2.2.2.2.2.2⟩ (by rw[u2];omega),?_⟩;unfold bJ;rw[aF (gG.2 k.2.2.1)];exact u2
theorem ZP (h:cZ r=true):nX r=r.2.1-bJ r:=by have k:=kJ h;have u:=Dk h;unfold nX;rw[h,ah,ak]
theorem Ue (h:cZ r=true)(l:au aB)(m:bE)(d:Int)(s:Bytes):cZ (cU l m d r s).2.1=true/\(cU l m d r s).2.1.2.1=r.2.1:=by
 unfold cU;cases hc:(nX r==0)||((s.length:Int) !=16)with|true=>exact⟨h,rfl⟩|false=>?_
 cases (gR l m d (oa r r.2.2.2) s true).2 with
 |false=>exact⟨h,rfl⟩
 |true=>
  simp only[cc]at hc;have h1:nX r≠0:=by simpa using hc.1
  rw[ZP h]at h1;have u:=Dk h;exact⟨(abb h (by omega)).1,rfl⟩
theorem N6 (h:cZ r=true)(l:au aB)(m:bE)(d:Int):cZ (bt l m d r).2.1=true/\(bt l m d r).2.1.2.1=r.2.1:=by
 unfold bt;cases hc: !cZ r||(bJ r==0)with|true=>exact⟨h,rfl⟩|false=>?_
 cases (rh l m d (oa r r.2.2.1) 16).2 with|false=>exact⟨h,rfl⟩|true=>simp only[cc]at hc;exact⟨(adH h (by simpa using hc.2)).1,rfl⟩
theorem acC {l:bN}:(List.range l.length).all (Cj n l)=true↔(∀x∈l,0<=x/\x<=n-1)/\l.Nodup:=by
 rw[aC];constructor;intro h;have k:∀i (hi:i<l.length),(0<=l[i]/\l[i]<=n-1)/\l[i]∉l.take i:=by intro i hi;have:=h i (bz.2 hi);unfold Cj at this;rw[cr hi,ae,aS]at this;exact⟨this.1,by simpa using this.2⟩
 refine⟨λx hx=>?_,?_⟩;obtain⟨i,hi,rfl⟩:=List.getElem_of_mem hx;exact(k i hi).1;rw[List.Nodup,List.pairwise_iff_getElem];intro i j hi hj hij he;refine(k j hj).2 ?_;rw[<-he];exact List.mem_take_iff_getElem.2 ⟨i,by omega,rfl⟩;rintro⟨h1,h2⟩ i hi;have hi:=bz.1 hi;unfold Cj;rw[cr hi,ae,aS];refine⟨h1 _ (aL hi),?_⟩;have:l[i]∉l.take i:=by intro hm;obtain⟨j,hj,he⟩:=List.mem_take_iff_getElem.1 hm;rw[List.Nodup,List.pairwise_iff_getElem]at h2;exact h2 j i (by omega) hi (by omega) he
 simpa using this
theorem As {p:c8}:dA p=true↔(0<=p.1/\p.1<=130944)/\(1<=p.2.1/\p.2.1<=512)/\(0<=p.2.2.1/\p.2.2.1<=16)/\(∀x∈p.2.2.2,0<=x/\x<=p.2.2.1-1)/\p.2.2.2.Nodup:=by unfold dA;simp only[ae,aS,acC]
theorem CA {p:c8}(h:dA p=true){l:bN}(hl:l.Sublist p.2.2.2):dA (p.1,p.2.1,p.2.2.1,l)=true:=by have k:=As.1 h;exact As.2 ⟨k.1,k.2.1,k.2.2.1,λx hx=>k.2.2.2.1 x (hl.subset hx),k.2.2.2.2.sublist hl⟩
theorem aa4 {p:c8}(h:dA p=true)(l:bN):dA (Em p l).1=true:=by unfold Em;cases hg:Aa p l with|false=>exact h|true=>unfold Aa at hg;simp only[ae]at hg;exact hg.2
theorem Ga {s:ni}:nM n s=true↔(1<=s.2.1/\s.2.1<=n)/\0<=s.1/\s.1<=65535:=by unfold nM;simp only[ae,aS]
structure EW (t:dM):Prop where
 ring:cZ t.1=true
 next:0<=t.2.2.2/\t.2.2.2<=65535
 sent:∀x∈t.2.2.1,(1<=x.2.1/\x.2.1<=t.1.2.1)/\0<=x.1/\x.1<=65535
 pool:dA (gk t.2.1 (bB t.2.2.1))=true
 EU:dH t.2.2.1<=t.1.2.1
theorem EW.free (h:EW t):dA t.2.1=true:=CA h.pool (List.sublist_append_left _ _)
theorem amg:Me t=true↔EW t:=by constructor;intro h;unfold Me at h;simp only[ae,aS,aC,Ga,aE]at h;obtain⟨h1,h2,h3,h4,h5,h6⟩:=h;unfold Aa at h5;simp only[ae]at h5;exact⟨h1,h3,h4,h5.2,h6⟩;·intro h;unfold Me Aa;simp only[ae,aS,aC,Ga,aE];exact⟨h.ring,h.free,h.next,h.sent,⟨h.free,h.pool⟩,h.EU⟩
theorem HL (a b:au ni):bB (a++b)=bB a++bB b:=by simp[bB]
theorem M5 (a b:au ni):dH (a++b)=dH a+dH b:=by simp[dH]
theorem No:∀(l:au ni)(p:c8),dA (gk p (bB l))=true->pB p l=gk p (bB l)
 |[],p,_=>by simp[pB,bB,gk]
 |x::l,p,h=>by
  have e:bB (x::l)=x.2.2++bB l:=by simp[bB]
  rw[e]at h;have h1:dA (gk p x.2.2)=true:=CA (p:=gk p (x.2.2++bB l)) h (by show(p.2.2.2++x.2.2).Sublist (p.2.2.2++(x.2.2++bB l));rw[<-aU];exact List.sublist_append_left _ _);have h0:dA p=true:=CA (p:=gk p x.2.2) h1 (List.sublist_append_left _ _);have hg:(Em p x.2.2).1=gk p x.2.2:=by unfold Em Aa;rw[h0,h1];rfl
  have ea:gk (gk p x.2.2) (bB l)=gk p (x.2.2++bB l):=by simp[gk]
  rw[pB,hg,No l _ (by rw[ea];exact h),ea,e]
theorem ahc (h:EW t)(hr:cZ r=true)(hn:r.2.1=t.1.2.1):EW (r,t.2):=
 ⟨hr,h.next,λx hx=>by show(1<=x.2.1/\x.2.1<=r.2.1)/\_;rw[hn];exact h.sent x hx,h.pool,by show dH t.2.2.1<=r.2.1;rw[hn];exact h.EU⟩
theorem UQ (h:EW t)(n:Int):EW (kR t n).1:=by
 unfold kR;cases hc:Me t&&cI n 0 (t.2.2.1.length:Int)with|false=>exact h|true=>?_
 simp only[ae,aS]at hc;have hs:t.2.2.1.take n.toNat++t.2.2.1.drop n.toNat=t.2.2.1:=cp _ _;have hb:bB t.2.2.1=bB (t.2.2.1.take n.toNat)++bB (t.2.2.1.drop n.toNat):=by rw[<-HL,hs]
 have hp:dA (gk t.2.1 (bB (t.2.2.1.take n.toNat)))=true:=CA (p:=gk t.2.1 (bB t.2.2.1)) h.pool (by show(t.2.1.2.2.2++_).Sublist (t.2.1.2.2.2++_);rw[hb];exact(List.sublist_append_left _ _).append_left _);have hg:=No _ _ hp;refine⟨h.ring,h.next,λx hx=>h.sent x (List.mem_of_mem_drop hx),?_,?_⟩;show dA (gk (pB t.2.1 (t.2.2.1.take n.toNat)) (bB (t.2.2.1.drop n.toNat)))=true;rw[hg,show gk (gk t.2.1 (bB (t.2.2.1.take n.toNat))) (bB (t.2.2.1.drop n.toNat))=gk t.2.1 (bB t.2.2.1) by rw[hb];simp[gk]];exact h.pool;show dH (t.2.2.1.drop n.toNat)<=t.1.2.1;have h1:dH t.2.2.1=dH (t.2.2.1.take n.toNat)+dH (t.2.2.1.drop n.toNat):=by rw[<-M5,hs]
 have h2:0<=dH (t.2.2.1.take n.toNat):=w7 t.1.2.1 _ (by rw[aC];exact λx hx=>Ga.2 (h.sent x (List.mem_of_mem_take hx)));have:=h.EU;omega
theorem JQ (l:au aB)(m:bE)(d:Int):∀(n:Nat)(acc:au C0)(r:jY),cZ r=true->cZ (tz l m d n acc r).2.1=true/\(tz l m d n acc r).2.1.2.1=r.2.1
 |0,acc,r,h=>⟨h,rfl⟩
 |n+1,acc,r,h=>by have k:=kJ h;have ht:=N6 h l m d;rw[tz];cases !(bt l m d r).2.2|| !(cX (bt l m d r).1).2 with|true=>exact⟨CE ⟨k.1,k.2.1⟩ k.2.2.1 ⟨k.2.2.2.2.2.1,k.2.2.2.2.2.2⟩ ⟨k.2.2.2.2.2.1,k.2.2.2.2.2.2⟩ (by rw[Int.sub_self,Int.zero_emod];omega),rfl⟩|false=>cases Vy (cX (bt l m d r).1).1 with|true=>exact ht|false=>have:=JQ l m d n (acc++[(cX (bt l m d r).1).1]) _ ht.1;exact⟨this.1,this.2.trans ht.2⟩
theorem Vn (h:cZ r=true)(l:au aB)(m:bE)(d:Int):cZ (dc l m d r).2.1=true/\(dc l m d r).2.1.2.1=r.2.1:=by unfold dc;cases !cZ r||(bJ r==0)with|true=>exact⟨h,rfl⟩|false=>exact JQ l m d _ _ _ h
theorem TQ (h:cZ r=true)(l:au aB)(m:bE)(d:Int):cZ (iv l m d r).1=true/\(iv l m d r).1.2.1=r.2.1:=by
 have hc:=Vn h l m d;unfold iv;cases !cZ r||(bJ r==0)with|true=>exact⟨h,rfl⟩|false=>?_
 cases !(dc l m d r).2.2|| !(fw (dc l m d r).1).2.2.2 with|true=>exact hc|false=>?_
 cases !(lX l m d (fw (dc l m d r).1).1).2||(!(w5 (lX l m d (fw (dc l m d r).1).1).1).2||((jk (w5 (lX l m d (fw (dc l m d r).1).1).1).1).2 !=0))with|true=>exact hc|false=>exact hc
theorem CU (l:au aB)(m:bE)(d:Int):∀(n:Nat)(fr:bE)(dn bd:Nat)(r:jY),cZ r=true->cZ (oM l m d n fr dn bd r).1=true/\(oM l m d n fr dn bd r).1.2.1=r.2.1
 |0,fr,dn,bd,r,h=>⟨h,rfl⟩
 |n+1,fr,dn,bd,r,h=>by
  have k:=TQ h l m d;rw[oM];cases (iv l m d r).2.2==0 with|true=>exact⟨h,rfl⟩|false=>?_
  cases (iv l m d r).2.2==1 with|true=>have:=CU l m d n (fr++(iv l m d r).2.1) (dn+1) bd _ k.1;exact⟨this.1,this.2.trans k.2⟩|false=>have:=CU l m d n (fr++(iv l m d r).2.1) dn (bd+1) _ k.1;exact⟨this.1,this.2.trans k.2⟩
theorem F4 (l:au aB)(d:Int):∀(q:bE)(m:bE)(r:jY){x},qH l d q m r=some x->(cZ r=true->cZ x.2=true/\x.2.2.1=r.2.1)/\(cL m=true->cL x.1=true)
 |[],m,r,x,h=>by cases h;exact⟨λh=>⟨h,rfl⟩,λh=>h⟩
 |s::q,m,r,x,h=>by rw[qH]at h;cases hq:(cU l m d r s).2.2 with|false=>rw[hq]at h;cases h|true=>rw[hq]at h;have k:=F4 l d q _ _ h;refine⟨λhr=>?_,λhm=>k.2 (H6 hm ..)⟩;have hp:=Ue hr l m d s;have:=k.1 hp.1;exact⟨this.1,this.2.trans hp.2⟩
theorem NP (l:au aB)(d:Int)(p:c8)(z:Nat):∀(q:bN)(s:Bytes)(m:bE)(a:au gq){x},wk l d p z q s m a=some x->cL m=true->cL x.2=true
 |[],s,m,a,x,h,hm=>by cases h;exact hm
 |b::q,s,m,a,x,h,hm=>by rw[wk]at h;cases hq:(gR l m d (nV p b) (s.take z) false).2 with|false=>rw[hq]at h;cases h|true=>rw[hq]at h;exact NP l d p z q _ _ _ h (Cw hm ..)
theorem aa5 {p:c8}(h:dA p=true){l:bN}(hl:l.Perm p.2.2.2):dA (p.1,p.2.1,p.2.2.1,l)=true:=by have k:=As.1 h;exact As.2 ⟨k.1,k.2.1,k.2.2.1,λx hx=>k.2.2.2.1 x (hl.mem_iff.1 hx),hl.nodup_iff.2 k.2.2.2.2⟩
theorem abl (h:EW t)(hm:cL m=true)(l:au aB)(d c:Int){n:Nat}(hf:HR t n=true)(x:au gq×bE)(hx:cL x.2=true):cL (LL l m d t c n x).1=true/\EW (LL l m d t c n x).2.1:=by
 unfold LL uu;cases hp:qH l d ((pz x.1 c t.2.2.2).map w8) x.2 t.1 with
 |none=>exact⟨hm,h⟩
 |some y=>
  have k:=F4 l d _ _ _ hp;have kr:=k.1 h.ring;refine⟨k.2 hx,?_⟩;unfold HR at hf;simp only[ae,aH,cJ]at hf;have ht:jP t.2.1 (n:Int)=((t.2.1.1,t.2.1.2.1,t.2.1.2.2.1,t.2.1.2.2.2.drop n),t.2.1.2.2.2.take n,true):=by have h1:=hf.1;unfold jP at h1⊢;cases hc:dA t.2.1&&cI (n:Int) 0 (t.2.1.2.2.2.length:Int)with|false=>rw[hc]at h1;cases h1|true=>simp only[ah,ax]
  have h0:0<=dH t.2.2.1:=w7 t.1.2.1 _ (by rw[aC];exact λx hx=>Ga.2 (h.sent x hx));show EW (y.2,(jP t.2.1 (n:Int)).1,t.2.2.1++[(t.2.2.2,(n:Int)+1,(jP t.2.1 (n:Int)).2.1)],Int.tmod (t.2.2.2+1) 65536);rw[ht];have hn:=h.next
  refine⟨kr.1,?_,?_,?_,?_⟩;have:=HH (x:=t.2.2.2) (n:=65536);show 0<=Int.tmod (t.2.2.2+1) 65536/\Int.tmod (t.2.2.2+1) 65536<=65535;rw[this];split<;>omega;intro s hs;show(1<=s.2.1/\s.2.1<=y.2.2.1)/\0<=s.1/\s.1<=65535;rw[kr.2];rcases ay.1 hs with hs|hs;exact h.sent s hs;rw[bu.1 hs];show(1<=(n:Int)+1/\(n:Int)+1<=t.1.2.1)/\0<=t.2.2.2/\t.2.2.2<=65535;omega;refine aa5 (p:=gk t.2.1 (bB t.2.2.1)) h.pool ?_;show(t.2.1.2.2.2.drop n++bB (t.2.2.1++[_])).Perm (t.2.1.2.2.2++bB t.2.2.1);rw[HL,show bB [(t.2.2.2,(n:Int)+1,t.2.1.2.2.2.take n)]=t.2.1.2.2.2.take n by simp[bB]];refine(List.perm_append_comm_assoc _ _ _).trans ?_;refine(List.perm_append_comm).trans ?_;exact((List.perm_append_comm.trans (by rw[cp])).append_right _);show dH (t.2.2.1++[_])<=y.2.2.1;rw[M5,kr.2,show dH [(t.2.2.2,(n:Int)+1,t.2.1.2.2.2.take n)]=(n:Int)+1 by simp[dH]];omega
theorem abk (h:EW t)(hm:cL m=true)(l:au aB)(d:Int)(p:aG)(c z:Int):cL (u9 l m d t p c z).1=true/\EW (u9 l m d t p c z).2.1:=by
 unfold u9;cases Me t&&(dh p&&(cI z 1 t.2.1.2.1&&cI c 1 128))with|false=>exact⟨hm,h⟩|true=>?_
 cases hf:HR t (xW p z.toNat)with|false=>exact⟨hm,h⟩|true=>?_
 simp only[ah];cases hw:wk l d t.2.1 z.toNat (jP t.2.1 (xW p z.toNat:Int)).2.1 (jI p).1 m []with|none=>exact⟨hm,h⟩|some x=>exact abl h hm l d c hf x (NP l d _ _ _ _ _ _ hw hm)
theorem Uk {a b s k f w:Int}(h1:0<=a/\a<=65535)(h2:0<=b/\b<=65535)(h3:0<=s/\s<=4294967295)(h4:0<=k/\k<=4294967295)(h5:0<=f/\f<=31)(h6:0<=w/\w<=65535)(hx:x.length<=320):rR (6,a,b,s,k,f,w,x)=true:=by have hx':decide ((x.length:Int)>320)=false:=gT;simp only[rR,aS.2 h1,aS.2 h2,aS.2 h3,aS.2 h4,aS.2 h5,aS.2 h6,hx'];rfl
theorem adL {a b:Int}(h1:0<=a/\a<=65535)(h2:0<=b/\b<=65535)(hx:x.length<=320):rR (17,a,b,0,0,0,0,x)=true:=by have hx':decide ((x.length:Int)>320)=false:=gT;simp only[rR,aS.2 h1,aS.2 h2,hx'];rfl
theorem abh (h:rR g=true)(hx:x.length<=320):rR (g.1,g.2.1,g.2.2.1,g.2.2.2.1,g.2.2.2.2.1,g.2.2.2.2.2.1,g.2.2.2.2.2.2.1,x)=true:=by have e:decide ((x.length:Int)>320)=false:=gT;unfold rR at h⊢;simp only[ae]at h⊢;exact⟨h.1,h.2.1,by rw[e];rfl,h.2.2.2⟩
theorem acH {a b v t i l s:Int}(h1:0<=a/\a<=281474976710655)(h2:0<=b/\b<=281474976710655)(h3: -1<=v/\v<=4095)(h4:0<=t/\t<=255)(h5:0<=i/\i<=65535)(h6:0<=l/\l<=255)(h7:0<=s/\s<=4294967295)(h8:0<=d/\d<=4294967295)(hg:rR g=true):oR (a,b,v,t,i,l,s,d,g)=true:=by simp only[oR,aS.2 h1,aS.2 h2,aS.2 h3,aS.2 h4,aS.2 h5,aS.2 h6,aS.2 h7,aS.2 h8,hg];rfl
theorem TT (p:aG):dU p=true↔oR p=true/\p.2.2.2.2.2.2.2.2.2.2.2.2.2.2.2.length<=128:=by unfold dU dh;rw[ae,ae,cB,aE];constructor;rintro⟨⟨h1,_⟩,h2⟩;exact⟨h1,by omega⟩;rintro⟨h1,h2⟩;exact⟨⟨h1,Or.inl (by omega)⟩,by omega⟩
theorem YD (h:rR g=true)(h6:g.1=6):(0<=g.2.1/\g.2.1<=65535)/\(0<=g.2.2.1/\g.2.2.1<=65535)/\(0<=g.2.2.2.1/\g.2.2.2.1<=4294967295)/\(0<=g.2.2.2.2.1/\g.2.2.2.2.1<=4294967295)/\(0<=g.2.2.2.2.2.1/\g.2.2.2.2.2.1<=31)/\(0<=g.2.2.2.2.2.2.1/\g.2.2.2.2.2.2.1<=65535)/\g.2.2.2.2.2.2.2.length<=320:=by have hl:=CH h;unfold rR at h;rw[h6]at h;simp only[ae,aS,show((6:Int)==17)=false from rfl,af]at h;exact⟨h.1,h.2.1,h.2.2.2.2.1,h.2.2.2.2.2.1,h.2.2.2.2.2.2.1,h.2.2.2.2.2.2.2,hl⟩
theorem LH (h:rR g=true)(h6:g.1=6){s f:Int}(hs:0<=s/\s<=4294967295)(hf:0<=f/\f<=31)(hx:x.length<=320):rR (g.1,g.2.1,g.2.2.1,s,g.2.2.2.2.1,f,g.2.2.2.2.2.2.1,x)=true:=by have k:=YD h h6;rw[h6];exact Uk k.1 k.2.1 hs k.2.2.2.1 hf k.2.2.2.2.2.1 hx
theorem Ab (h:oR p=true){i:Int}(hi:0<=i/\i<=65535)(hg:rR g=true):oR (p.1,p.2.1,p.2.2.1,p.2.2.2.1,i,p.2.2.2.2.2.1,p.2.2.2.2.2.2.1,p.2.2.2.2.2.2.2.1,g)=true:=by unfold oR at h⊢;simp only[ae]at h⊢;exact⟨h.1,h.2.1,h.2.2.1,h.2.2.2.1,h.2.2.2.2.1,aS.2 hi,h.2.2.2.2.2.2.1,h.2.2.2.2.2.2.2.1,hg⟩
theorem KM (h:oR p=true):0<=p.2.2.2.2.1/\p.2.2.2.2.1<=65535:=by unfold oR at h;simp only[ae]at h;exact aS.1 h.2.2.2.2.2.1
theorem agG {i:Int}(h:0<=i/\i<=65535):0<=Int.tmod (aq (i+1)) 65536/\Int.tmod (aq (i+1)) 65536<=65535:=by rw[ak];have h1:=Int.tmod_nonneg 65536 (a:=i+1) (by omega);have h2:=Int.tmod_lt_of_pos (i+1) (b:=65536) (by omega);omega
theorem adn {s:Int}{n:Nat}(h:0<=s/\s<=4294967295)(hn:n<=320):0<=Int.tmod (aq (s+(n:Int))) 4294967296/\Int.tmod (aq (s+(n:Int))) 4294967296<=4294967295:=by rw[ak];have h1:=Int.tmod_nonneg 4294967296 (a:=s+(n:Int)) (by omega);have h2:=Int.tmod_lt_of_pos (s+(n:Int)) (b:=4294967296) (by omega);omega
theorem C4 (v:Vector):Cc v=true↔1<=v.2.2.1/\(v.1<=v.2.2.1\/v.2.1<=v.2.2.2.1):=by unfold Cc;by_cases h1:v.2.2.1>=1;rw[ar h1,ah];by_cases h2:v.2.2.1>=v.1;rw[ar h2];simp;omega;rw[al h2,af,aE];omega;rw[al h1];simp;omega
theorem amh (v:Vector):eo v=(cI v.1 1 64&&(cI v.2.1 0 64&&(cI v.2.2.1 0 1000000&&(cI v.2.2.2.1 0 1000000&&((decide (v.2.2.1>0)||(v.2.2.2.1==0))&&(v.2.2.2.2.2==(Cc v&& !v.2.2.2.2.1))))))):=by
 have h:=EK v;unfold lP at h;simp only[dy,agV,ab]at h;generalize eo v=w at h⊢;revert h;cases cI v.1 1 64 with|false=>(intro h;cases h;rfl)|true=>?_
 cases cI v.2.1 0 64 with|false=>(intro h;cases h;rfl)|true=>?_
 cases cI v.2.2.1 0 1000000 with|false=>(intro h;cases h;rfl)|true=>?_
 cases cI v.2.2.2.1 0 1000000 with|false=>(intro h;cases h;rfl)|true=>?_
 cases decide (v.2.2.1>0)<;>cases (v.2.2.2.1==0)<;>cases Cc v<;>(intro h;cases h;rfl)
theorem wg (v:Vector):eo v=true↔(1<=v.1/\v.1<=64)/\(0<=v.2.1/\v.2.1<=64)/\(0<=v.2.2.1/\v.2.2.1<=1000000)/\(0<=v.2.2.2.1/\v.2.2.2.1<=1000000)/\(v.2.2.1>0\/v.2.2.2.1=0)/\v.2.2.2.2.2=(Cc v&& !v.2.2.2.2.1):=by rw[amh];simp only[ae,aS,cB,aE,bh]
theorem E5 (h1:1<=v.1/\v.1<=64)(h2:0<=v.2.1/\v.2.1<=64)(h3:0<=v.2.2.1/\v.2.2.1<=1000000)(h4:0<=v.2.2.2.1/\v.2.2.2.1<=1000000)(h5:v.2.2.1>0\/v.2.2.2.1=0)(hr:v.2.2.2.2.2=true->Cc v=true/\v.2.2.2.2.1=false):eo (BW v)=true:=by unfold BW;cases hd:Cc v&& !v.2.2.2.2.1 with|true=>exact(wg _).2 ⟨h1,h2,h3,h4,h5,by show true=(Cc v&& !v.2.2.2.2.1);rw[hd]⟩|false=>refine(wg _).2 ⟨h1,h2,h3,h4,h5,?_⟩;rw[af,hd];cases hv:v.2.2.2.2.2 with|false=>rfl|true=>have:=hr hv;rw[this.1,this.2]at hd;cases hd
theorem Bb (h:eo v=true)(hr:v.2.2.2.2.2=true):Cc v=true/\v.2.2.2.2.1=false:=by have:=((wg v).1 h).2.2.2.2.2;rw[hr]at this;cases hd:Cc v with|false=>rw[hd]at this;cases this|true=>rw[hd]at this;cases hm:v.2.2.2.2.1 with|true=>rw[hm]at this;cases this|false=>exact⟨rfl,rfl⟩
theorem aft (h:0<=n/\n<=1000000):n<=upM n/\0<upM n/\upM n<=1000000:=by unfold upM;rw[ak];split<;>omega
theorem ami (h:eo v=true):eo (evV v)=true:=by have k:=(wg v).1 h;have u:=aft k.2.2.1;unfold evV;rw[h,ah];refine E5 (v:=(v.1,v.2.1,upM v.2.2.1,v.2.2.2)) k.1 k.2.1 ⟨by show 0<=upM v.2.2.1;omega,u.2.2⟩ k.2.2.2.1 (Or.inl u.2.1) λhr=>?_;have d:=Bb h hr;have d1:=(C4 v).1 d.1;exact⟨(C4 _).2 ⟨by show 1<=upM v.2.2.1;omega,by show v.1<=upM v.2.2.1\/v.2.1<=v.2.2.2.1;omega⟩,d.2⟩
theorem afw (h:eo v=true):eo (UO v)=true:=by have k:=(wg v).1 h;have u:=aft k.2.2.2.1;unfold UO;rw[h,ah];by_cases h0:v.2.2.1>0;rw[ar h0,ah];refine E5 (v:=(v.1,v.2.1,v.2.2.1,upM v.2.2.2.1,v.2.2.2.2)) k.1 k.2.1 k.2.2.1 ⟨by show 0<=upM v.2.2.2.1;omega,u.2.2⟩ (Or.inl h0) λhr=>?_;have d:=Bb h hr;have d1:=(C4 v).1 d.1;exact⟨(C4 _).2 ⟨d1.1,by show v.1<=v.2.2.1\/v.2.1<=upM v.2.2.2.1;omega⟩,d.2⟩;rw[al h0,af];exact E5 k.1 k.2.1 k.2.2.1 k.2.2.2.1 k.2.2.2.2.1 λhr=>Bb h hr
theorem afv (h:eo v=true):eo (BP v).1=true:=by have k:=(wg v).1 h;unfold BP;cases eo v&&v.2.2.2.2.2 with|false=>exact h|true=>exact(wg _).2 ⟨k.1,k.2.1,⟨cu _,by show(0:Int)<=1000000;omega⟩,⟨cu _,by show(0:Int)<=1000000;omega⟩,Or.inr rfl,by show false=(_&& !true);simp⟩
theorem Xr (h:eo v=true):eo (Gw v)=true:=by have k:=(wg v).1 h;unfold Gw;rw[h,ah];refine E5 (v:=(v.1,v.2.1,v.2.2.1,v.2.2.2.1,false,v.2.2.2.2.2)) k.1 k.2.1 k.2.2.1 k.2.2.2.1 k.2.2.2.2.1 λhr=>?_;exact⟨(C4 _).2 ((C4 v).1 (Bb h hr).1),rfl⟩
theorem abK (h:eo v=true):eo (v.1,v.2.1,0,0,false,false)=true:=by have k:=(wg v).1 h;exact(wg _).2 ⟨k.1,k.2.1,⟨cu _,by show(0:Int)<=1000000;omega⟩,⟨cu _,by show(0:Int)<=1000000;omega⟩,Or.inr rfl,by simp[Cc]⟩
structure yK (n:Int) (r:cj):Prop where
 ring:cZ r.1=true
 dev:fC r.2.1=true
 drv:fC r.2.2.1=true
 base:r.2.1.1=r.2.2.1.1
 size:r.2.1.2.1=r.2.2.1.2.1
 drop:0<=r.2.2.2.2.2/\r.2.2.2.2.2<=n
 held:r.2.2.2.2.1=true->dh r.2.2.2.1.1=true/\(0<=r.2.2.2.1.2.1/\r.2.2.2.1.2.1<=320)/\1<=r.2.2.2.1.2.2/\r.2.2.2.1.2.2<=320
 free:r.2.2.2.2.1=false->r.2.2.2.1=abF
theorem adK (r:cj):EV r=true↔yK 1000000000000 r:=by constructor;intro h;unfold EV at h;rw[ae]at h;simp only[ae,bh,aS]at h;obtain⟨⟨h1,h2,h3,h4,h5,h6⟩,h7⟩:=h;refine⟨h1,h2,h3,h4,h5,h6,λhh=>?_,λhh=>?_⟩;rw[hh,ah]at h7;simp only[ae,aS]at h7;exact⟨h7.1,h7.2.1,h7.2.2⟩;rw[hh,af]at h7;exact(ad6 _).1 h7;intro h;unfold EV;rw[ae];simp only[ae,bh,aS];refine⟨⟨h.ring,h.dev,h.drv,h.base,h.size,h.drop⟩,?_⟩;cases hh:r.2.2.2.2.1 with|true=>have:=h.held hh;simp only[ah,ae,aS];exact⟨this.1,this.2.1,this.2.2⟩|false=>rw[af];exact(ad6 _).2 (h.free hh)
theorem yK.mono {m:Int}{r:cj}(h:yK n r)(hn:n<=m:=by omega):yK m r:=⟨h.ring,h.dev,h.drv,h.base,h.size,⟨h.drop.1,by have:=h.drop.2;omega⟩,h.held,h.free⟩
theorem yK.rx {r:cj}(h:yK n r)(hn:n<=1000000000000):EV r=true:=(adK r).2 (h.mono hn)
theorem aax (h:cL m=true)(l:au aB)(d:Int)(q:se)(x:ET):cL (zw l m d q x).1=true:=by
 unfold zw;cases !fC q|| !xX x with|true=>exact h|false=>?_
 cases (gR l m d (re q) (PV x (yr q)) true).2 with|false=>exact h|true=>exact Cw h ..
theorem aay (h:cL m=true)(l:au aB)(d:Int)(q:cj)(k s:Bytes):cL (gX l m d q k s).1=true:=by
 unfold gX;cases !(cX s).2||(((cX s).1.1 !=3)||decide ((cX s).1.2.2.1<((dk q.2.2.2.1.1).1.length:Int)))with|true=>exact h|false=>?_
 cases (gR l m d (cX s).1.2.2.2.1 (dk q.2.2.2.1.1).1 true).2 with|false=>exact h|true=>exact aax (Cw h ..) ..
theorem ag8 {l:au aB}{k:Bytes}(hm:cL m=true)(hq:fC q.2.1=true):fC (gX l m d q k s).2.1=true/\(gX l m d q k s).2.1.1=q.2.1.1/\(gX l m d q k s).2.1.2.1=q.2.1.2.1:=(Ot (n:=128) (by omega) (NZ (by omega) (oE.1 hm)) hq).2.2
theorem Ek (hn:n<=900000000000)(h:yK n q)(hm:cL m=true)(l:au aB)(d:Int)(k:Bytes):cL (iu l m d q k).1=true/\yK (n+320) (iu l m d q k).2:=by
 unfold iu;cases hc: !EV q||(!q.2.2.2.2.1||((k.length:Int) !=16))with|true=>exact⟨hm,h.mono⟩|false=>?_
 simp only[cc,dB]at hc;have hh:=h.held hc.2.1;have hd:=h.drop;have hr:=N6 h.ring l m d;have hs:=ag8 (l:=l) (d:=d) (k:=k) (s:=(bt l m d q.1).1) hm h.dev;simp only[af];cases (bt l m d q.1).2.2&&(gX l m d q k (bt l m d q.1).1).2.2 with|true=>exact⟨aay hm ..,hr.1,hs.1,h.drv,hs.2.1.trans h.base,hs.2.2.trans h.size,⟨hd.1,by show q.2.2.2.2.2<=n+320;omega⟩,λhf=>(by cases hf),λ_=>rfl⟩|false=>refine⟨hm,hr.1,h.dev,h.drv,h.base,h.size,?_,λhf=>(by cases hf),λ_=>rfl⟩;show 0<=aq (q.2.2.2.2.2+q.2.2.2.1.2.2)/\aq (q.2.2.2.2.2+q.2.2.2.1.2.2)<=n+320;rw[ak];omega
theorem agj {s:qW}(h:GK s p=true):dh (DQ s p).1=true/\(0<=(DQ s p).2.1/\(DQ s p).2.1<=320)/\1<=(DQ s p).2.2/\(DQ s p).2.2<=320:=by
 have hl:=OQ h;unfold DQ;rw[h,ah];simp only[GK,acI,YI,ae,aE,aS,bh]at h;obtain⟨⟨hs,hp,hpath,h6,h16,hf⟩,⟨hz,hc,hn,hpl,hsum⟩,_⟩:=h;have hcnt:s.2.2+1<=320:=by
  have:s.2.2<=s.2.1*s.2.2:=by have:=Int.mul_le_mul_of_nonneg_right hz (show 0<=s.2.2 by omega);omega
  omega
 have hz320:s.2.1<=320:=by
  have:s.2.1<=s.2.1*s.2.2:=by have:=Int.mul_le_mul_of_nonneg_left hc.1 (show 0<=s.2.1 by omega);omega
  omega
 refine⟨?_,⟨by show 0<=s.2.1;omega,hz320⟩,?_⟩;have hh:oR s.1=true:=by unfold dh at hs;simp only[ae]at hs;exact hs.1
 have hk:s.1.2.2.2.2.2.2.2.2.1=6:=by
  have e:s.1.2.2.2.2.2.2.2.2.1=p.2.2.2.2.2.2.2.2.1:=by have h2:=hpath;unfold TW at h2;simp only[ae,bh]at h2;exact h2.2.2.2.2.2.2.2.1
  rw[e];exact h6
 have hsg:=yg hh;have hfl:cI p.2.2.2.2.2.2.2.2.2.2.2.2.2.1 0 31=true:=F0 hp (by rw[h6];rfl);have hg:=LH hsg hk (YD hsg hk).2.2.1 (aS.1 hfl) (x:=s.1.2.2.2.2.2.2.2.2.2.2.2.2.2.2.2++p.2.2.2.2.2.2.2.2.2.2.2.2.2.2.2) (by rw[ai];omega);unfold dh;rw[ae];refine⟨Ab hh (KM hh) hg,?_⟩;show(_||(s.1.2.2.2.2.2.2.2.2.1==6)&&AH p.2.2.2.2.2.2.2.2.2.2.2.2.2.1)=true;rw[hk,hf];simp;show 1<=aq (s.2.2+1)/\aq (s.2.2+1)<=320;rw[ak];omega
theorem af6 (h:yK n q){s:qW}(hs:dh s.1=true)(h1:0<=s.2.1/\s.2.1<=320)(h2:1<=s.2.2/\s.2.2<=320):yK n (KN q s):=⟨h.ring,h.dev,h.drv,h.base,h.size,h.drop,λ_=>⟨hs,h1,h2⟩,λhf=>(by cases hf)⟩
theorem abo (h:dU p=true):dh (lR p).1=true/\(0<=(lR p).2.1/\(lR p).2.1<=320)/\1<=(lR p).2.2/\(lR p).2.2<=320:=by
 have hl:=EG h;have hs:dh p=true:=by unfold dU at h;simp only[ae]at h;exact h.1
 refine⟨hs,?_,by show(1:Int)<=1/\(1:Int)<=320;omega⟩;show 0<=(p.2.2.2.2.2.2.2.2.2.2.2.2.2.2.2.length:Int)/\(p.2.2.2.2.2.2.2.2.2.2.2.2.2.2.2.length:Int)<=320;omega
theorem Rf (hn:n<=800000000000)(h:yK n q)(hm:cL m=true)(l:au aB)(d:Int)(k:Bytes)(p:aG)(c:Bool):cL (k7 l m d q k p c).1=true/\yK (n+640) (k7 l m d q k p c).2:=by
 unfold k7;cases hc: !EV q||(!dU p||((k.length:Int) !=16))with|true=>exact⟨hm,h.mono⟩|false=>?_
 simp only[cc,dB]at hc;have hs:=abo hc.2.1;have hf:=Ek (by omega) h hm l d k;have hf2:=af6 hf.2 hs.1 hs.2.1 hs.2.2;simp only[af];cases hj:c&&(q.2.2.2.2.1&&GK q.2.2.2.1 p)with|true=>simp only[ae]at hj;have j:=agj hj.2.2;exact⟨hm,h.ring,h.dev,h.drv,h.base,h.size,⟨h.drop.1,by show q.2.2.2.2.2<=n+640;have:=h.drop.2;omega⟩,λ_=>j,λhf=>(by have hf:q.2.2.2.2.1=false:=hf;rw[hj.2.1]at hf;cases hf)⟩|false=>simp only[af];cases c with|true=>exact⟨hf.1,hf2.mono⟩|false=>have:=Ek (by omega) hf2 hf.1 l d k;exact⟨this.1,this.2.mono⟩
theorem alJ {l:au aB}{q:se}(h:fC q=true):fC (ra l m d q).2.1=true/\(ra l m d q).2.1.1=q.1/\(ra l m d q).2.1.2.1=q.2.1:=by unfold ra;cases Qw l m d q with|false=>exact⟨h,rfl,rfl⟩|true=>have k:=uw h;refine⟨?_,rfl,rfl⟩;have e:=Q2 (a:=q.2.2+1) (b:=2*q.2.1);simp only[ah,ahs,fC,ae,aS]at h⊢;refine⟨h.1,h.2.1,?_⟩;rw[xS h.2.1];omega
theorem WR {s:au Stream×cj×c8}(h:yK n s.2.1)(hp:dA s.2.2=true)(l:au aB)(m:bE)(d:Int):yK n (Cz l m d s).2.1/\dA (Cz l m d s).2.2=true:=by have k:=alJ (l:=l) (m:=m) (d:=d) h.drv;exact⟨⟨h.ring,h.dev,k.1,h.base.trans k.2.1.symm,h.size.trans k.2.2.symm,h.drop,h.held,h.free⟩,aa4 hp _⟩
theorem Lt (l:au aB)(m:bE)(d:Int){n:Int}:∀(k:Nat)(s:au Stream×cj×c8),yK n s.2.1->dA s.2.2=true->yK n (jx l m d k s).2.2.1/\dA (jx l m d k s).2.2.2=true
 |0,s,h,hp=>⟨h,hp⟩
 |k+1,s,h,hp=>by rw[jx];cases (ra l m d s.2.1.2.2.1).2.2 with|false=>exact⟨h,hp⟩|true=>have e:=WR h hp l m d;exact Lt l m d k _ e.1 e.2
theorem Kv (l:au aB)(d:Int)(p:c8):∀(q:bN)(m:bE)(r:jY),cL m=true->cZ r=true->cL (lS l d p q m r).2.1=true/\cZ (lS l d p q m r).2.2=true
 |[],m,r,hm,hr=>⟨hm,hr⟩
 |b::q,m,r,hm,hr=>by rw[lS];cases (cU l m d r (eO p b)).2.2 with|false=>exact⟨hm,hr⟩|true=>exact Kv l d p q _ _ (H6 hm ..) (Ue hr ..).1
theorem Nh (hm:cL m=true)(hr:cZ r=true){p:c8}(hp:dA p=true)(l:au aB)(d:Int):cL (s9 l m d r p).1=true/\cZ (s9 l m d r p).2.1=true/\dA (s9 l m d r p).2.2.1=true:=by unfold s9;rw[hr,hp];have k:=Kv l d p p.2.2.2 m r hm hr;exact⟨k.1,k.2,CA hp (List.drop_sublist _ _)⟩
theorem N4 {rx:cj}(h:yK n rx)(hm:cL m=true){pl:c8}(hp:dA pl=true)(l:au aB)(d:Int)(st:au Stream)(c:Int):cL (jj l m d rx pl st c).1=true/\yK n (jj l m d rx pl st c).2.1/\dA (jj l m d rx pl st c).2.2.1=true:=by
 unfold jj;cases !EV rx||(!dA pl|| !cI c 0 1000)with|true=>exact⟨hm,h,hp⟩|false=>?_
 have k:=Lt l m d c.toNat (st,rx,pl) h hp;have f:=Nh hm k.1.ring k.2 l d;exact⟨f.1,⟨f.2.1,k.1.dev,k.1.drv,k.1.base,k.1.size,k.1.drop,k.1.held,k.1.free⟩,f.2.2⟩
structure Good (n:Int) (h:Host):Prop where
 mem:cL h.1=true
 maps:fu h.2.1=true
 tx:EW h.2.2.1
 qe:ei h.2.2.2.2.2.2.2.1=true
 lens:qY h=true
 ste:ew h.2.2.2.2.2.2.2.2.1 (h.2.2.2.1.length:Int)=true
 rx:∀r∈h.2.2.2.1,yK n r
 pool:∀p∈h.2.2.2.2.1,dA p=true
 vec:∀v∈h.2.2.2.2.2.1,eo v=true
 EU:∀x∈hY h,0<=x/\x<=n
theorem Good.mono {m:Int}(g:Good n h)(hn:n<=m:=by omega):Good m h:=⟨g.mem,g.maps,g.tx,g.qe,g.lens,g.ste,λr hr=>(g.rx r hr).mono hn,g.pool,g.vec,λx hx=>⟨(g.EU x hx).1,by have:=(g.EU x hx).2;omega⟩⟩
theorem acK (h:Host):dK h=true↔Good 1000000000000 h:=by unfold dK Uf;simp only[ae,aC,aS,amg,adK];constructor;rintro⟨h1,h2,h3,h4,h5,h6,⟨h7,h8,h9⟩,h10⟩;exact⟨h1,h2,h3,h4,h5,h6,h7,h8,h9,h10⟩;intro g;exact⟨g.mem,g.maps,g.tx,g.qe,g.lens,g.ste,⟨g.rx,g.pool,g.vec⟩,g.EU⟩
theorem Good.ok (g:Good n h)(hn:n<=1000000000000):dK h=true:=(acK h).2 (g.mono hn)
theorem sf {P:α->Prop}{l:au α}{v:α}(h:∀x∈l,P x)(hv:P v):∀x∈l.set i v,P x:=by intro x hx;rcases List.mem_or_eq_of_mem_set hx with g|g;exact h x g;rw[g];exact hv
theorem af3 (g:Good n h)(k:Nat):Good n (evS k h):=by unfold evS;cases hv:h.2.2.2.2.2.1[k]? with|none=>exact g|some v=>exact⟨g.mem,g.maps,g.tx,g.qe,by have:=g.lens;unfold qY at this⊢;rw[aA];exact this,g.ste,g.rx,g.pool,sf g.vec (ami (g.vec v (List.mem_of_getElem? hv))),g.EU⟩
theorem Sm {n:Int}{h:Host}(g:Good n h)(k:Nat):∀i,Good n (X2 k i h)
 |0=>g
 |i+1=>af3 (Sm g k i) k
theorem HY (g:Good n h)(k:Nat)(b:Int){f:bE×cj}(h1:cL f.1=true)(h2:yK n f.2):Good n (ER h k b f):=by refine Sm (h:=F6 h k f) ⟨h1,g.maps,g.tx,g.qe,?_,?_,sf g.rx h2,g.pool,g.vec,g.EU⟩ _ _;have:=g.lens;unfold qY F6 at*;simp only[aA];exact this;show ew _ ((h.2.2.2.1.set k f.2).length:Int)=true;rw[aA];exact g.ste
theorem So (hn:n<=800000000000)(g:Good n h)(k:Nat):Good (n+320) (oJ k h):=by unfold oJ;cases hx:h.2.2.2.1[k]? with|none=>exact g.mono|some x=>have f:=Ek (by omega) (g.rx x (List.mem_of_getElem? hx)) g.mem h.2.1 0 h.2.2.2.2.2.2.2.2.1.2.2.1;exact HY (g.mono) k _ f.1 f.2
theorem VL (hn:n<=700000000000)(g:Good n h):Good (n+640) (uT h):=by
 unfold uT;have hl:=qG g.lens;cases dK h with
 |false=>exact g.mono
 |true=>
  have key:∀k:Nat,k<=2->Good (n+320*(k:Int)) (kQ oJ k h):=by intro k;induction k with|zero=>intro _;exact g.mono|succ k ih=>intro hk;exact(So (by omega) (ih (by omega)) k).mono
  exact(key _ hl.1).mono (by have:=hl.1;omega)
theorem Ns (g:Good n h):Good n (uM h):=by
 unfold uM;cases dK h with
 |false=>exact g
 |true=>
  have key:∀k,Good n (kQ wK k h):=by intro k;induction k with|zero=>exact g|succ k ih=>show Good n (wK k (kQ wK k h));generalize kQ wK k h=s at ih⊢;unfold wK;cases hv:s.2.2.2.2.2.1[k]? with|none=>exact ih|some v=>exact⟨ih.mem,ih.maps,ih.tx,ih.qe,by have:=ih.lens;unfold qY at this⊢;rw[aA];exact this,ih.ste,ih.rx,ih.pool,sf ih.vec (afw (ih.vec v (List.mem_of_getElem? hv))),ih.EU⟩
  exact key _
theorem ZR (g:Good n h)(p:aG)(c z:Int):Good n (yx h p c z).1:=by unfold yx;cases dK h with|false=>exact g|true=>have k:=abk g.tx g.mem h.2.1 0 p c z;exact⟨k.1,g.maps,k.2,g.qe,g.lens,g.ste,g.rx,g.pool,g.vec,g.EU⟩
theorem DG (g:Good n h):Good n (eZ h):=by unfold eZ;cases dK h with|false=>exact g|true=>have r:=CU h.2.1 h.1 0 17 [] 0 0 h.2.2.1.1 g.tx.ring;exact⟨g.mem,g.maps,UQ (ahc g.tx r.1 r.2) _,g.qe,g.lens,g.ste,g.rx,g.pool,g.vec,g.EU⟩
theorem BZ {x:Int}(h:0<=x/\x<=n)(hn:n<=800000000000:=by omega):0<=aq (x+1)/\aq (x+1)<=n+1:=by rw[ak];omega
theorem AK (hn:n<=800000000000)(g:Good n h){a b c:Int}(ha:0<=a/\a<=n+1)(hb:0<=b/\b<=n+1)(hc:0<=c/\c<=n+1)(hd:0<=d/\d<=n+1):Good (n+1) (zK h a b c d):=by have k:=g.mono (show n<=n+1 by omega);refine⟨k.mem,k.maps,k.tx,k.qe,k.lens,k.ste,k.rx,k.pool,k.vec,λx hx=>?_⟩;have h1:=BZ (g.EU _ (List.mem_cons_self ..)) hn;simp only[hY,zK,bG,List.not_mem_nil,or_false]at hx;rcases hx with rfl|rfl|rfl|rfl|rfl;exact h1;exact ha;exact hb;exact hc;exact hd
theorem Fm (hn:n<=700000000000)(g:Good n h)(x:Bytes):Good (n+641) (ky h x):=by
 have c1:=g.EU h.2.2.2.2.2.2.2.2.2.2.2.2.2.2.2.1 (by simp[hY]);have c2:=g.EU h.2.2.2.2.2.2.2.2.2.2.2.2.2.2.2.2.1 (by simp[hY]);have c3:=g.EU h.2.2.2.2.2.2.2.2.2.2.2.2.2.2.2.2.2.1 (by simp[hY]);have c4:=g.EU h.2.2.2.2.2.2.2.2.2.2.2.2.2.2.2.2.2.2 (by simp[hY]);have u:∀{y:Int},0<=y/\y<=n->0<=y/\y<=n+1:=λhy=>⟨hy.1,by omega⟩
 unfold ky;cases dK h with|false=>exact g.mono|true=>?_
 cases (fF x).2 !=0 with|true=>exact(AK (by omega) g (BZ c1) (u c2) (u c3) (u c4)).mono|false=>?_
 cases !wh h.2.2.2.2.2.2.2.1 (fF x).1 with|true=>exact(AK (by omega) g (u c1) (BZ c2) (u c3) (u c4)).mono|false=>?_
 cases rm h.2.2.2.2.2.2.2.2.1 (h.2.2.2.1.length:Int) (fF x).1== -1 with|true=>exact(AK (by omega) g (u c1) (u c2) (BZ c3) (u c4)).mono|false=>?_
 simp only[aj,af];cases hq:h.2.2.2.1[(rm h.2.2.2.2.2.2.2.2.1 (h.2.2.2.1.length:Int) (fF x).1).toNat]? with|none=>exact g.mono|some q=>have a:=Rf (by omega) (g.rx q (List.mem_of_getElem? hq)) g.mem h.2.1 0 h.2.2.2.2.2.2.2.2.1.2.2.1 (fF x).1 h.2.2.2.2.2.2.2.2.2.2.1;exact HY ((AK (by omega) g (u c1) (u c2) (u c3) (BZ c4)).mono) _ _ a.1 (a.2.mono)
theorem Sq (g:Good n h)(i:Nat)(c:Int):Good n (u3 h i c).2:=by
 unfold u3;cases h1:h.2.2.2.1[i]? with|none=>exact g|some rx=>?_
 cases h2:h.2.2.2.2.1[i]? with|none=>exact g|some pl=>?_
 have k:=N4 (g.rx rx (List.mem_of_getElem? h1)) g.mem (g.pool pl (List.mem_of_getElem? h2)) h.2.1 0 h.2.2.2.2.2.2.2.2.2.1 c;refine⟨k.1,g.maps,g.tx,g.qe,?_,?_,sf g.rx k.2.1,sf g.pool k.2.2,g.vec,g.EU⟩;have:=g.lens;unfold qY at*;simp only[aA];exact this;show ew _ ((h.2.2.2.1.set i _).length:Int)=true;rw[aA];exact g.ste
theorem Ss (b:Int)(k:Nat){s:Int×Host}(g:Good n s.2):Good n (Bf b k s).2:=by
 unfold Bf;cases h1:s.2.2.2.2.2.2.1[k]? with|none=>exact g|some v=>?_
 cases h2:s.2.2.2.2.2.2.2.1[k]? with|none=>exact g|some p=>?_
 cases h3:s.2.2.2.2.1[k]? with|none=>exact g|some x=>?_
 cases h4:s.2.2.2.2.2.1[k]? with|none=>exact g|some pl=>?_
 have hv:=afv (g.vec v (List.mem_of_getElem? h1));simp only;cases p||(BP v).2 with|false=>refine⟨g.mem,g.maps,g.tx,g.qe,?_,g.ste,g.rx,g.pool,sf g.vec hv,g.EU⟩;have:=g.lens;unfold qY at*;simp only[af,aA];exact this|true=>have e:=N4 (g.rx x (List.mem_of_getElem? h3)) g.mem (g.pool pl (List.mem_of_getElem? h4)) s.2.2.1 0 s.2.2.2.2.2.2.2.2.2.2.1 b;refine⟨e.1,g.maps,g.tx,g.qe,?_,?_,sf g.rx e.2.1,sf g.pool e.2.2,sf g.vec ?_,g.EU⟩;have:=g.lens;unfold qY at*;simp only[ah,aA];exact this;show ew _ ((s.2.2.2.2.1.set k _).length:Int)=true;rw[aA];exact g.ste;cases decide ((jj s.2.2.1 s.2.1 0 x pl s.2.2.2.2.2.2.2.2.2.2.1 b).2.2.2.2<b)with|true=>exact Xr hv|false=>exact hv
theorem KK {n:Int}(b:Int){h:Host}(g:Good n h):∀k,Good n (rl b k h).2
 |0=>g
 |k+1=>Ss b k (KK b g k)
theorem P6 (g:Good n h)(b:Int):Good n (mO h b).1:=by unfold mO;cases dK h&&cI b 1 1000 with|false=>exact g|true=>exact KK b g _
theorem Fl {n:Int}{h:Host}(g:Good n h):∀k,Good n (sC h k)
 |0=>g
 |k+1=>Sq (Fl g k) k 1000
theorem ZQ (g:Good n h)(l:bN):Good n (YC h l):=⟨g.mem,g.maps,g.tx,g.qe,g.lens,g.ste,g.rx,g.pool,g.vec,g.EU⟩
theorem DE {n:Int}{h:Host}(g:Good n h):∀k,Good n (returned h k)
 |0=>Fl g _
 |k+1=>by show Good n (LC h.2.2.1.2.2.1 k (returned h k));have:=DE g k;unfold LC;cases h.2.2.1.2.2.1[k]? with|none=>exact this|some x=>exact ZQ this _
theorem T1 {a b:Int}(ha:0<=a/\a<=130944:=by omega)(hb:1<=b/\b<=512:=by omega)(hn:0<=n/\n<=16:=by omega):gF a b n=((a,b,n,upto n.toNat),true)/\dA (a,b,n,upto n.toNat)=true:=by have h1:dA (a,b,n,[])=true:=As.2 ⟨ha,hb,hn,by simp,List.nodup_nil⟩;refine⟨by unfold gF;rw[h1];rfl,As.2 ⟨ha,hb,hn,?_,?_⟩⟩;intro x hx;simp only[upto,dP,bz]at hx;obtain⟨i,hi,rfl⟩:=hx;show 0<=Int.ofNat i/\Int.ofNat i<=n-1;simp only[Int.ofNat_eq_natCast];omega;show(upto n.toNat).Nodup;unfold upto;rw[List.Nodup,List.pairwise_map];exact List.nodup_range.imp λh he=>h (Int.ofNat.inj he)
theorem afr (c:Int)(hc:0<=c/\c<=65535):EW (BQ.1,BQ.2.1,BQ.2.2.1,c):=by
 have p:=T1 (a:=256) (b:=128) (n:=8);refine⟨CE,hc,λx hx=>(by cases hx),?_,by show(0:Int)<=16;omega⟩;show dA (gk (gF 256 128 8).1 [])=true;rw[p.1];have e:gk (256,128,8,upto (8:Int).toNat) []=(256,128,8,upto (8:Int).toNat):=by simp[gk]
 show dA (gk (256,128,8,upto (8:Int).toNat) [])=true;rw[e];exact p.2
theorem P5 (g:Good n h):Good n (qc h):=by have k:=DE g h.2.2.1.2.2.1.length;exact⟨k.mem,k.maps,afr _ k.tx.next,k.qe,k.lens,k.ste,k.rx,k.pool,k.vec,k.EU⟩
theorem Xz (h:i<=8):0<=gr i/\gr i<=16000:=by unfold gr;omega
theorem NW (hm:cL m=true)(l:au aB)(hi:i<=8):cL (rb l m i).1=true/\cZ (rb l m i).2.1=true/\dA (rb l m i).2.2.1=true:=by have hb:=Xz hi;have p:=T1 (a:=gr i+128) (b:=384) (n:=4);unfold rb;rw[p.1];exact Nh (Cw hm ..) (CE) p.2 l 0
theorem Uj (hi:i<=8)(hr:cZ r=true)(hd:0<=d/\d<=n):yK n (r,(gr i+64,4,0),(gr i+64,4,0),((0,0,0,0,0,0,0,0,0,0,0,0,0,0,0,([]:Bytes)),0,0),false,d):=by
 have hb:=Xz hi;have hq:fC (gr i+64,4,0)=true:=by have hs:iB 4=true:=gG.2 (by omega);unfold fC;rw[ae,ae];exact⟨aS.2 (by omega),hs,by rw[xS hs];rfl⟩
 exact⟨hr,hq,hq,rfl,rfl,hd,λhf=>(by cases hf),λ_=>rfl⟩
theorem Sr (hn:n<=800000000000)(g:Good n h)(hi:i<=8):Good (n+320) (u7 i h):=by
 have gm:=g.mono (show n<=n+320 by omega);unfold u7;cases h1:h.2.2.2.1[i]? with|none=>exact gm|some x=>?_
 cases h2:h.2.2.2.2.2.1[i]? with|none=>exact gm|some v=>?_
 have o:=NW g.mem h.2.1 hi;have hx:=g.rx x (List.mem_of_getElem? h1);have hd:0<=Dz x/\Dz x<=n+320:=by have d:=hx.drop;unfold Dz;cases hh:x.2.2.2.2.1 with|false=>simp only[af];omega|true=>have:=hx.held hh;rw[ah,ak];omega
 refine⟨o.1,gm.maps,gm.tx,gm.qe,?_,?_,sf gm.rx (Uj hi o.2.1 hd),sf gm.pool o.2.2,sf gm.vec (abK (g.vec v (List.mem_of_getElem? h2))),gm.EU⟩;have:=g.lens;unfold qY DU at*;simp only[aA];exact this;show ew _ (((DU h i (Dz x)).2.2.2.1).length:Int)=true;unfold DU;simp only[aA];exact g.ste
theorem DD {n:Int}(hn:n<=700000000000){h:Host}(g:Good n h):∀k:Nat,k<=8->Good (n+320*(k:Int)) (gS h k)
 |0,_=>g.mono
 |k+1,hk=>(Sr (by omega) (DD hn g k (by omega)) (i:=k) (by omega)).mono
theorem KI (hn:n<=700000000000)(g:Good n h):Good (n+640) (rk h):=by have hl:=qG g.lens;unfold rk;cases dK h with|false=>exact g.mono|true=>exact(DD hn (P5 g) _ (by omega)).mono (by have:=hl.1;omega)
theorem acF (hn:n<=700000000000)(g:Good n h)(a:Act):Good (n+641) (EX h a).1:=by
 unfold EX;cases !dK h|| !Dv a with|true=>exact g.mono|false=>?_
 simp only[af];cases a.1==0 with|true=>exact(ZR g _ _ _).mono|false=>?_
 cases a.1==1 with|true=>exact(DG g).mono|false=>?_
 cases a.1==2 with|true=>exact Fm hn g _|false=>?_
 cases a.1==3 with|true=>exact(VL hn g).mono|false=>?_
 cases a.1==4 with|true=>exact(Ns g).mono|false=>?_
 cases a.1==5 with|true=>exact(P6 g _).mono|false=>exact(KI hn g).mono
structure fN (n:Int) (c:cM):Prop where
 ports:(cW c.2.2.1).2=true
 len:c.1.length=c.2.2.1.length/\c.2.1.length=c.2.2.1.length
 fns:gw c.2.1 (cW c.2.2.1).1=true
 boot:¬gD c.2.2.2.1<0
 clock:pw c.2.2.2.2.1=true
 host:∀(i:Nat)(h:Host)(b:bC),c.1[i]?=some h->c.2.2.1[i]?=some b->Good n h/\h.2.2.2.2.2.2.2.1=b.1
 place:∀i,i<c.1.length->wU c.2.1 i=true
 boxn:∀b∈c.2.2.1,b.2.1<=n/\b.2.2.2<=n
 fnn:∀f∈c.2.1,f.2.2.2.2.1<=n/\f.2.2.2.2.2<=n
theorem fN.mono {m:Int}(g:fN n c)(h:n<=m:=by omega):fN m c:=⟨g.ports,g.len,g.fns,g.boot,g.clock,λi a b h1 h2=>⟨(g.host i a b h1 h2).1.mono h,(g.host i a b h1 h2).2⟩,g.place,λb hb=>⟨by have:=(g.boxn b hb).1;omega,by have:=(g.boxn b hb).2;omega⟩,λf hf=>⟨by have:=(g.fnn f hf).1;omega,by have:=(g.fnn f hf).2;omega⟩⟩
theorem fN.ok (g:fN n c)(hn:n<=1000000000000):kb c=true:=by
 unfold kb;rw[g.ports,g.fns,g.clock,al g.boot];simp only[br,bj];rw[ae,ae,aC,aC];refine⟨?_,?_,?_⟩;unfold La;rw[g.len.1,g.len.2];simp;intro i hi;have hi:=bz.1 hi;have hj:i<c.2.2.1.length:=by have:=g.len.1;omega
 rw[JN i hi hj];have q:=g.host i _ _ (List.getElem?_eq_getElem hi) (List.getElem?_eq_getElem hj);rw[q.1.ok hn,RT q.2];rfl;intro i hi;exact g.place i (bz.1 hi)
theorem Oq:∀(ms:au bC)(s:bN×au Port),(ms.foldl BO s).2.length=s.2.length+ms.length
 |[],s=>rfl
 |m::ms,s=>by rw[dq,Oq ms];show(s.2++[_]).length+_=_;rw[ai,aV,aY];omega
theorem mM (h:(cW ms).2=true):(cW ms).1=kI ms/\(kI ms).length=ms.length+1/\gW (kI ms)=true/\(∀m∈ms,iJ m=true)/\1<=ms.length/\ms.length<=3:=by unfold cW at h⊢;cases hq:cI (ms.length:Int) 1 3&&(ms.all iJ&&gW (kI ms))with|false=>rw[hq]at h;cases h|true=>simp only[ae,aS,aC]at hq;refine⟨rfl,?_,hq.2.2,hq.2.1,by omega,by omega⟩;unfold kI;rw[aY,Oq];simp
theorem map_take {β:Type}(f:α->β)(l:au α)(i:Nat)(hi:i<l.length):(l.take i).map f++[f l[i]]=(l.take (i+1)).map f:=by rw[aW hi,dF];rfl
theorem wQ (m:bC)(h:m.1.2.2.length<=1000000000):jV m=some m:=by simp only[jV,mq _ h,ab]
theorem I9 (m:bC)(h:m.1.2.2.length<=1000000000):xF m=some m:=by simp only[xF,yz _ h,ab]
theorem DK (l:au bC)(h:l.length<=1000000000)(hx:∀m∈l,m.1.2.2.length<=1000000000):pK l=some l:=by unfold pK;refine(da (λi=>(l.take i,(i:Int))) l.length (by omega) (λi nx hi=>?_) (λnx=>?_));simp only[pa];rw[iV,bp hi,ak];simp only[ah,ab,wQ _ (hx _ (aL hi))];rw[aM (by simp;omega),<-aW hi];rfl;simp only[pa];rw[gT,cm];rfl
theorem tE (l:au aP)(h:l.length<=1000000000):iA l=some l:=by simp only[iA,kz h,bW]
theorem Vj (h:kb c=true):c.1.length=c.2.2.1.length/\c.2.1.length=c.2.2.1.length:=by unfold kb at h;simp only[ae]at h;exact Di h.2.1
theorem P8 {l:au α}(h:k<l.length)(x:α):idx (l.set k x) (k:Int)=some x:=by rw[Fq,List.getElem?_set_self h]
theorem YG (l:au α)(k:Nat)(x:α):(l.set k x).length=l.length:=aA ..
def wi (f:Filter)(v:Int):Filter×Bool:=bif ei f&&(!hasB f.2.2 v&&ei (f.1,f.2.1,ins v f.2.2)) then((f.1,f.2.1,ins v f.2.2),true) else(f,false)
theorem SB (f:Filter)(v:Int)(h:f.2.2.length<=100000000):xd f v=some (wi f v):=by have hi:=Ql v f.2.2;simp only[xd,mq f (by omega),pE f (by omega),xa f.2.2 v (by omega),Qa f.2.2 v (by omega),pE (f.1,f.2.1,ins v f.2.2) (show(ins v f.2.2).length<=1000000000 by omega),ab,wi];cases ei f<;>cases hasB f.2.2 v<;>cases ei (f.1,f.2.1,ins v f.2.2)<;>rfl
theorem OG (f:Filter)(v:Int){n:Nat}(h:f.2.2.length<=n)(hn:8<=n):(wi f v).1.2.2.length<=n:=by unfold wi;cases hc:ei f&&(!hasB f.2.2 v&&ei (f.1,f.2.1,ins v f.2.2))with|false=>exact h|true=>simp only[ae]at hc;have:=hc.2.2;simp only[ei,ae,aE]at this;show(ins v f.2.2).length<=n;omega
def s8 (f:Filter)(v:Int):Filter×Bool:=bif ei f&&hasB f.2.2 v then((f.1,f.2.1,f.2.2.filter (λx=>x !=v)),true) else(f,false)
theorem R2 (p:Int->Bool)(l:bN)(i:Nat)(hi:i<l.length):(l.take (i+1)).filter p=bif p l[i] then(l.take i).filter p++[l[i]] else(l.take i).filter p:=by rw[aW hi,List.filter_append];cases hp:p l[i]<;>simp[hp]
theorem IV (p:Int->Bool)(l:bN)(i:Nat):((l.take i).filter p).length<=l.length:=bm (List.length_filter_le _ _) (by simp;omega)
theorem Qd (f:Filter)(v:Int)(h:f.2.2.length<=1000000000):vx f v=some (s8 f v):=by
 simp only[vx,mq f h,pE f h,xa f.2.2 v h,ab,s8];cases ei f with|false=>rfl|true=>?_
 cases hasB f.2.2 v with|false=>rfl|true=>?_
 simp only[aj,af,ab,cq,ah];refine(da (λi=>((i:Int),f.1,f.2.1,(f.2.2.take i).filter (λx=>x !=v))) f.2.2.length (by omega) (λi nx hi=>?_) (λnx=>?_));have hl:=IV (λx=>x !=v) f.2.2 i;simp only[qi];rw[iV,bp hi,ak,R2 _ _ i hi];simp only[ah,ab];rw[aM (by simp only[aV];omega)];cases f.2.2[i] !=v<;>rfl;simp only[qi];rw[gT,cm];rfl
def la (f:Filter)(m:se):Filter×Int:=
 bif m.2.1==1 then(bif ei (m.2.2,f.2) then((m.2.2,f.2),1) else(f,0))
 else bif m.2.1==2 then(bif (wi f m.2.2).2 then((wi f m.2.2).1,1) else(f,0))
 else bif m.2.1==3 then(bif (s8 f m.2.2).2 then((s8 f m.2.2).1,1) else(f,0))
 else bif m.2.1==4 then(f,f.1) else(f,0)
theorem SF (f:Filter)(m:se)(h:f.2.2.length<=100000000):xj f m=some (la f m):=by simp only[xj,mq f (by omega),pE (m.2.2,f.2) (show f.2.2.length<=1000000000 by omega),SB f _ h,Qd f _ (show f.2.2.length<=1000000000 by omega),ab,la];cases m.2.1==1<;>cases m.2.1==2<;>cases m.2.1==3<;>cases m.2.1==4<;>cases ei (m.2.2,f.2)<;>cases (wi f m.2.2).2<;>cases (s8 f m.2.2).2<;>rfl
theorem OS (f:Filter)(m:se){n:Nat}(h:f.2.2.length<=n)(hn:8<=n):(la f m).1.2.2.length<=n:=by
 have ha:=OG f m.2.2 h hn;have hd:(s8 f m.2.2).1.2.2.length<=n:=by unfold s8;cases ei f&&hasB f.2.2 m.2.2 with|false=>exact h|true=>exact bm (List.length_filter_le _ _) h
 unfold la;cases m.2.1==1<;>cases m.2.1==2<;>cases m.2.1==3<;>cases m.2.1==4<;>cases ei (m.2.2,f.2)<;>cases (wi f m.2.2).2<;>cases (s8 f m.2.2).2<;>first|exact h|exact ha|exact hd
def lg (b:bC)(m:se):bC×Int:=
 bif iJ b then(bif m.1==b.2.1 then(b,b.2.2.1) else bif m.1==b.2.1+1 then(((la b.1 m).1,m.1,(la b.1 m).2,b.2.2.2+1),(la b.1 m).2) else(b, -1)) else(b, -1)
theorem TC (h:iJ b=true):0<=b.2.1/\b.2.1<=1000000000000/\0<=b.2.2.2/\b.2.2.2<=1000000000000:=by simp only[iJ,ae,aS]at h;omega
theorem V0 (b:bC)(m:se)(h:b.1.2.2.length<=100000000):nt b m=some (lg b m):=by simp only[nt,wQ b (by omega),SK b (by omega),SF b.1 m h,ab,lg,bne];cases hm:iJ b with|false=>rfl|true=>have hin:=TC hm;rw[ak (n:=b.2.1+1),ak (n:=b.2.2.2+1)];cases m.1==b.2.1<;>cases m.1==b.2.1+1<;>rfl
def nm (ms:au bC)(k:Nat)(m:se):au bC×Int:=
 match ms[k]? with
 |none=>(ms, -1)
 |some b=>bif (cW (ms.set k (lg b m).1)).2 then(ms.set k (lg b m).1,(lg b m).2)
  else(ms.set k (b.1,m.1,0,aq (b.2.2.2+1)),0)
theorem HZ (b:bC)(m:se){n:Nat}(h:b.1.2.2.length<=n)(hn:8<=n):(lg b m).1.1.2.2.length<=n:=by have:=OS b.1 m h hn;unfold lg;cases iJ b<;>cases m.1==b.2.1<;>cases m.1==b.2.1+1<;>first|exact h|exact this
theorem EC {l:au α}{x y:α}(h:y∈l.set k x):y∈l\/y=x:=List.mem_or_eq_of_mem_set h
theorem GX (ms:au bC)(k:Nat)(m:se)(hk:k<ms.length)(hl:ms.length<=1000000000)(h:∀b∈ms,b.1.2.2.length<=100000000):o9 ms (k:Int) m=some (nm ms k m):=by
 have hb:=h _ (aL hk);have hp:∀b∈ms.set k (lg ms[k] m).1,b.1.2.2.length<=1000000000:=by intro b hb';rcases EC hb' with h1|rfl;have:=h b h1;omega;have:=HZ ms[k] m hb (by omega);omega
 unfold o9 nm;simp only[DK ms hl (λb hb=>by have:=h b hb;omega),bp hk,V0 _ m hb,ab,List.getElem?_eq_getElem hk,ax,zg _ hp,wQ ms[k] (by omega)];have hs:∀x:bC,k<(ms.set k x).length:=λx=>by rw[YG];exact hk
 simp only[P8 hk,ab,List.set_set];cases (cW (ms.set k (lg ms[k] m).1)).2<;>rfl
theorem Mo (ms:au bC)(k:Nat)(m:se):(nm ms k m).1.length=ms.length:=by unfold nm;split;rfl;rename_i b _;cases (cW (ms.set k (lg b m).1)).2<;>exact YG ..
theorem Vd (ms:au bC)(k:Nat)(m:se){n:Nat}(hn:8<=n)(h:∀b∈ms,b.1.2.2.length<=n):∀b∈(nm ms k m).1,b.1.2.2.length<=n:=by
 intro b hb;unfold nm at hb;split at hb;exact h b hb;rename_i b0 hb0;have h0:=h b0 (List.mem_of_getElem? hb0);cases hp:(cW (ms.set k (lg b0 m).1)).2 with
 |true=>rw[hp]at hb;rcases EC hb with h1|rfl;exact h b h1;exact HZ b0 m h0 hn
 |false=>rw[hp]at hb;rcases EC hb with h1|rfl;exact h b h1;exact h0
theorem qf (c:cM)(z:cV 1000000000 sZ c):iR c=some c:=by have h0:c.1.length<=1000000000:=z.1.1;unfold iR;simp only[tE _ z.2.1.1,DK _ z.2.2.1.1 (λm hm=>(z.2.2.1.2 m hm).1.2.2.1),ku,kS _ z.2.2.2.1.1,jL _ z.2.2.2.2.2.1.1,kS _ z.2.2.2.2.2.2.1,ab];refine(da (λi=>((i:Int),c.1.take i,c.2)) c.1.length (by omega) (λi nx hi=>?_) (λnx=>?_));simp only[qD];rw[iV,bp hi,ak];simp only[ah,ab,iM _ (z.1.2 _ (aL hi))];rw[aM (by simp;omega),<-aW hi];rfl;simp only[qD];rw[gT,cm];rfl
def sX (h:Host)(f:Filter):Host:=(h.1,h.2.1,h.2.2.1,h.2.2.2.1,h.2.2.2.2.1,h.2.2.2.2.2.1,h.2.2.2.2.2.2.1,f,h.2.2.2.2.2.2.2.2)
def qa (c:cM)(a:Int)(m:se):cM×Int:=
 bif kb c&&cI a 0 ((c.2.2.1.length:Int)-1) then
  (match c.1[a.toNat]?,(nm c.2.2.1 a.toNat m).1[a.toNat]? with
  |some h,some b=>((c.1.set a.toNat (sX h b.1),c.2.1,(nm c.2.2.1 a.toNat m).1,c.2.2.2),(nm c.2.2.1 a.toNat m).2)
  |_,_=>(c, -1))
 else(c, -1)
theorem IW (c:cM)(a:Int)(m:se)(z:cV 100000000 sZ c)(k:UY c):nq c a m=some (qa c a m):=by
 have z9:cV 1000000000 sZ c:=z.mono;have hl:c.2.2.1.length<=100000000:=z.2.2.1.1;unfold nq qa;simp only[qf c z9,Ac c k,bZ,ab,bD];rw[ak (n:=(c.2.2.1.length:Int)-1)];cases hc:kb c with|false=>rfl|true=>?_
 cases ha:cI a 0 ((c.2.2.1.length:Int)-1)with|false=>rfl|true=>?_
 have hL:=Vj hc;have hin:=aS.1 ha;obtain⟨n,rfl⟩:=aN hin.1;have hn:n<c.2.2.1.length:=by omega
 have hn1:n<c.1.length:=by omega
 have hb:=GX c.2.2.1 n m hn (by omega) (λb hb=>(z.2.2.1.2 b hb).1.2.2.1);have hbl:=Mo c.2.2.1 n m;have hbs:=Vd c.2.2.1 n m (n:=100000000) (by omega) (λb hb=>(z.2.2.1.2 b hb).1.2.2.1);have hn2:n<(nm c.2.2.1 n m).1.length:=by omega
 have:=hbs _ (aL hn2);simp only[aj,af,cq,ah,hb,ab,bp hn2,bp hn1,mq (nm c.2.2.1 n m).1[n].1 (by omega),ax,List.getElem?_eq_getElem hn1,List.getElem?_eq_getElem hn2];rfl
structure yN (ps:List Port):Prop where
 n:ps.length<=1000000000
 v:∀p∈ps,p.2.1.length<=1000000000
def acE (ps:au Port)(e:Int)(p:aG):Bool:=gW ps&&(dh p&&cI e 0 ((ps.length:Int)-1))
def Xs (x:Port)(p:aG):Int:=bif p.2.2.1== -1 then x.2.2.1 else p.2.2.1
def np (ps:au Port)(e:Int)(p:aG):Int:=
 bif !acE ps e p then-1 else
 bif !hasB (ps.getD e.toNat kM).2.1 (Xs (ps.getD e.toNat kM) p)||((e !=0)&&((ps.getD e.toNat kM).2.2.2&&((ps.getD e.toNat kM).1 !=p.2.1))) then-1 else Xs (ps.getD e.toNat kM) p
theorem Er (ps:au Port)(e:Int)(p:aG)(z:yN ps):mr ps e p=some (np ps e p):=by
 have hn:=z.n;unfold mr np acE;rw[Df ps hn z.v,ab];cases hp:gW ps with|false=>rfl|true=>?_
 rw[kT,ab];cases hs:dh p with|false=>rfl|true=>?_
 rw[ak (n:=(ps.length:Int)-1),bZ];cases he:cI e 0 ((ps.length:Int)-1)with|false=>rfl|true=>?_
 have h1:=aS.1 he;obtain⟨e,rfl⟩:=aN h1.1;have hl:e<ps.length:=by omega
 have hv:=z.v _ (aL hl);simp only[aj,af,ab,cq,bp hl,ax,cr hl,xa _ _ hv,Xs];cases p.2.2.1== -1<;>simp only[ah,af]<;>cases hasB ps[e].2.1 p.2.2.1<;>cases hasB ps[e].2.1 ps[e].2.2.1<;>cases (e:Int) !=0<;>cases ps[e].2.2.2<;>cases ps[e].1 !=p.2.1<;>rfl
def Ez (ps:au Port)(o v:Int)(p:aG):aG:=
 bif gW ps&&(cI o 0 ((ps.length:Int)-1)&&(hasB (ps.getD o.toNat kM).2.1 v&&dh p)) then
  (bif v==(ps.getD o.toNat kM).2.2.1 then(p.1,p.2.1, -1,p.2.2.2) else(p.1,p.2.1,v,p.2.2.2)) else pk0
theorem Z5 (ps:au Port)(o v:Int)(p:aG)(z:yN ps):qo ps o v p=some (Ez ps o v p):=by
 have hn:=z.n;unfold qo Ez;rw[Df ps hn z.v,ab];cases hp:gW ps with|false=>rfl|true=>?_
 rw[ak (n:=(ps.length:Int)-1),bZ];cases he:cI o 0 ((ps.length:Int)-1)with|false=>rfl|true=>?_
 have h1:=aS.1 he;obtain⟨o,rfl⟩:=aN h1.1;have hl:o<ps.length:=by omega
 have hv:=z.v _ (aL hl);simp only[aj,af,ab,bj,bp hl,ax,cr hl,xa _ _ hv,kT];cases hasB ps[o].2.1 v<;>cases dh p<;>cases v==ps[o].2.2.1<;>rfl
def K4 (ps:au Port)(e v:Int)(j:Nat):Bool:=((j:Int) !=e)&&hasB (ps.getD j kM).2.1 v
def nW (l:eG):bN:=l.map Int.ofNat
def bcB (p:aG):Bool:=p.1==281474976710655
theorem R1 {q:Nat->Bool}(l:eG)(i:Nat)(hi:i<l.length):(l.take (i+1)).filter q=bif q l[i] then(l.take i).filter q++[l[i]] else(l.take i).filter q:=by rw[aW hi,List.filter_append];cases hq:q l[i]<;>simp[hq]
theorem VD {q:Nat->Bool}(l:eG)(i:Nat):((l.take i).filter q).length<=l.length:=bm (List.length_filter_le _ _) (by simp;omega)
theorem KV (ps:au Port)(e v:Int)(l:eG)(hl:l.length<=1000000000)(hb:∀j∈l,j<ps.length)(z:yN ps): bc (fQ (λ(y7:bN) (y8:Int)=>some y7) ps e v (nW l) ((nW l).length:Int)) fuel (([]:bN),0)=some (nW (l.filter (K4 ps e v))):=by
 refine da (λi=>(nW ((l.take i).filter (K4 ps e v)),(i:Int))) l.length (by omega) (λi nx hi=>?_) (λnx=>?_);have hj:=hb _ (aL hi);have hv:=z.v _ (aL hj);have hi2:i<(nW l).length:=by simpa[nW]using hi
 have e1:(nW l)[i]'hi2=(l[i]:Int):=by simp[nW]
 have hf:=VD (q:=K4 ps e v) l i;simp only[fQ];rw[ar (by simpa[nW]using hi),bp hi2,e1,ak];simp only[ah,ab,bp hj,xa _ _ hv];rw[R1 l i hi,K4,cr hj];have hr:∀k:aw bN,room (List.length (nW ((l.take i).filter (K4 ps e v)))+List.length ([(l[i]:Int)])) k=k:=λk=>aM (by simp only[nW,bF,aV];omega);cases (l[i]:Int) !=e with|false=>rfl|true=>cases hasB ps[l[i]].2.1 v with|false=>rfl|true=>simp only[ah,ab,cq];rw[hr];simp[nW]
 simp only[fQ];rw[al (by simp[nW]),cm];rfl
def Fo (ps:au Port)(p:aG):Nat->Nat
 |0=>0
 |i+1=>bif (ps.getD (i+1) kM).1==p.1 then i+1 else Fo ps p i
def zG (ps:au Port)(e:Int)(p:aG):eG:=
 (List.range ps.length).filter λj=>K4 ps e (np ps e p) j&&((j==Fo ps p (ps.length-1))||bcB p)
def Js (ps:au Port)(e:Int)(p:aG):bN:=bif decide (np ps e p<0) then [] else nW (zG ps e p)
theorem Nj (q:Nat->Bool):∀l:eG,(AG q l= -1/\∀j∈l,q j=false)\/∃j∈l,q j=true/\AG q l=(j:Int)
 |[]=> .inl ⟨rfl,by simp⟩
 |j::l=>by rw[AG];cases hj:q j with|true=>exact .inr ⟨j,by simp,hj,rfl⟩|false=>simp only[af];rcases Nj q l with⟨h1,h2⟩|⟨k,h1,h2,h3⟩;exact .inl ⟨h1,by intro k hk;rcases bG.1 hk with rfl|hk;exact hj;exact h2 k hk⟩;exact .inr ⟨k,by simp[h1],h2,h3⟩
theorem KO {ps:au Port}{p:aG}:∀i,(∀j,1<=j->j<=i->((ps.getD j kM).1==p.1)=false)->Fo ps p i=0
 |0,_=>rfl
 |i+1,h=>by rw[Fo,h (i+1) (by omega) (by omega)];exact KO i λj h1 h2=>h j h1 (by omega)
theorem Nt {ps:au Port}{p:aG}{k:Nat}(hk:1<=k)(h:((ps.getD k kM).1==p.1)=true):∀i,k<=i->(∀j,1<=j->j<=i->((ps.getD j kM).1==p.1)=true->j=k)->Fo ps p i=k
 |0,hi,_=>by omega
 |i+1,hi,hu=>by rw[Fo];by_cases he:k=i+1;rw[<-he,h];rfl;cases hq:(ps.getD (i+1) kM).1==p.1 with|true=>have:=hu (i+1) (by omega) (by omega) hq;omega|false=>exact Nt hk h i (by omega) λj h1 h2=>hu j h1 (by omega)
theorem Yn (hp:gW ps=true){j:Nat}(h1:1<=i)(hij:i<j)(hj:j<ps.length):((ps.getD i kM).1==(ps.getD j kM).1)=false:=by simp only[gW,ae,aC,bz,F3,aH]at hp;have:=(hp.2 j hj).2 i hij;simp only[Bool.and_eq_false_iff,bne_eq_false_iff_eq]at this;rcases this with h|h;omega;exact h
theorem filter_one {q:Nat->Bool}{n:Nat}(hk:k<n):(List.range n).filter (λj=>q j&&(j==k))=[k].filter q:=by
 have h1:(List.range n).filter (λj=>j==k)=[k]:=by
  induction n with
  |zero=>omega
  |succ n ih=>
   rw[fW,List.filter_append];by_cases he:k=n;subst he;have:(List.range k).filter (λj=>j==k)=[]:=by rw[List.filter_eq_nil_iff];intro j hj;have:=bz.1 hj;simp;omega
   rw[this];simp;rw[ih (by omega)];have:([n]:eG).filter (λj=>j==k)=[]:=by simp;omega
   rw[this];rfl
 have h2:(λj=>q j&&(j==k))=λj=>q j&&(λj=>j==k) j:=rfl;rw[h2,<-List.filter_filter,h1]
theorem Cp (ps:au Port)(e:Int)(p:aG)(z:yN ps):lv ps e p=some (Js ps e p):=by
 have hn:=z.n;unfold lv Js;rw[Er ps e p z,ab];cases hd:decide (np ps e p<0)with|true=>rfl|false=>?_
 have hp:gW ps=true:=by cases hp:gW ps with|true=>rfl|false=>unfold np acE at hd;rw[hp]at hd;simp at hd
 have h1:1<=ps.length/\ps.length<=8:=by simp only[gW,ae,aS]at hp;omega
 have hmac:∀j,j<ps.length->(ps.getD j kM).1<=281474976710654:=by intro j hj;simp only[gW,ae,aC,bz,F3,Jn,ei,aS]at hp;exact(hp.2 j hj).1.1.2.1.2
 simp only[af,SW ps p.1 hn,ab];generalize hv:np ps e p=v;have hsw:zG ps e p=(List.range ps.length).filter λj=>K4 ps e v j&&((j==Fo ps p (ps.length-1))||bcB p):=by rw[zG,hv]
 rw[hsw];have hbcase:bcB p=true->∀j,j<ps.length->((ps.getD j kM).1==p.1)=false:=by
  intro hb j hj;have:=hmac j hj;have hb:p.1=281474976710655:=by simpa[bcB]using hb
  rw[hb,bP];omega
 rcases Nj (λj=>(j !=0)&&((ps.getD j kM).1==p.1)) (List.range' 0 ps.length)with⟨hf,hno⟩|⟨k,hk,hq,hf⟩;have hno:∀j,1<=j->j<ps.length->((ps.getD j kM).1==p.1)=false:=by intro j h2 h3;have:=hno j (by simp;omega);simp only[Bool.and_eq_false_iff,bne_eq_false_iff_eq]at this;rcases this with h|h;omega;exact h
 have hh:Fo ps p (ps.length-1)=0:=KO _ λj h2 h3=>hno j h2 (by omega);rw[hf,show decide ((-1:Int)>=0)=false from rfl,af,hh];rw[show(p.1==281474976710655)=bcB p from rfl];cases hb:bcB p with|true=>simp only[ah,gH,fi];refine da (λi=>(nW (List.range i),(i:Int))) ps.length (by omega) (λi nx hi=>?_) (λnx=>?_);simp only[kF];rw[iV,aM (by simp only[nW,bF,List.length_range,aV];omega),ak,fW];simp only[ah,nW,dF];rfl;simp only[kF];rw[gT,af];exact KV ps e v (List.range ps.length) (by simp;omega) (λj hj=>bz.1 hj) z|false=>simp only[af,Bool.or_false];rw[filter_one (by omega)];exact KV ps e v [0] (by simp) (by simp;omega) z
 have hkl:k<ps.length:=by simp at hk;omega
 simp only[ae,bne_iff_ne]at hq;have hb:bcB p=false:=by cases hb:bcB p with|false=>rfl|true=>rw[hbcase hb k hkl]at hq;cases hq.2
 have hh:Fo ps p (ps.length-1)=k:=Nt (by omega) hq.2 _ (by omega) λj h2 h3 h4=>by rcases Nat.lt_trichotomy j k with g|g|g;have:=Yn hp h2 g hkl;have a:=bh.1 h4;have b:=bh.1 hq.2;rw[a,b]at this;simp at this;exact g;have:=Yn hp (show 1<=k by omega) g (show j<ps.length by omega);have a:=bh.1 h4;have b:=bh.1 hq.2;rw[a,b]at this;simp at this
 rw[hf,iV,ah,hh,hb];simp only[Bool.or_false];rw[filter_one hkl];exact KV ps e v [k] (by simp) (by simp;omega) z
theorem UI {e:Int}:∀j∈zG ps e p,j<ps.length:=λj hj=>bz.1 (List.mem_filter.1 hj).1
theorem CO (ps:au Port)(e:Int)(p:aG):(zG ps e p).length<=ps.length:=bm (List.length_filter_le _ _) (by simp)
theorem Yv (ms:au bC):yN (cW ms).1:=⟨(Hq ms).1,(Hq ms).2⟩
structure yJ (n:Nat) (c:cM):Prop where
 z:cV n sZ c
 h:∀x∈c.1,yI n x
theorem yJ.mono {n m:Nat}(k:yJ n c)(hn:n<=m:=by omega):yJ m c:=⟨k.z.mono hn,λx hx=>(k.h x hx).mono hn⟩
theorem yJ.sz {n:Nat}(k:yJ n c)(hn:n<=1000000000):UY c:=by have z:cV 1000000000 sZ c:=k.z.mono hn;exact⟨z.1.1,z.2.1.1,λm hm=>(z.2.2.1.2 m hm).1.2.2.1,λx hx=>(k.h x hx).sz hn⟩
theorem yJ.of (k:MT sZ c<=1048576):yJ 1048576 c:=by
 refine⟨Gr k,λh hh=>yI.of ?_⟩;have h1:=ED (MT de) c.1 h hh;have h2:(c.1.map (MT de)).sum<=MT sZ c:=by show _<=(c.1.length+(c.1.map (MT de)).sum)+_;omega
 omega
theorem JO (h:kb c=true):(cW c.2.2.1).1.length=c.1.length+1/\(cW c.2.2.1).1.length<=8/\c.1.length<=3:=by unfold kb at h;simp only[ae]at h;have hl:=(Di h.2.1).1;have h2:=h.1;have h3:=Ig h2;unfold cW at h2⊢;cases hc:cI (c.2.2.1.length:Int) 1 3&&(c.2.2.1.all iJ&&gW (kI c.2.2.1))with|false=>rw[hc]at h2;cases h2|true=>simp only[ae]at hc;have:=(Fh c.2.2.1 0 ([0],[]) ⟨by simp,rfl,by simp⟩ hc.2.1).2.1;have h8:=hc.2.2;simp only[gW,ae,aS]at h8;simp only[ah];refine⟨?_,by omega,by omega⟩;simp only[kI,aY];rw[this,hl];omega
def afy (c:cM)(f:Bytes):cM:=(c.1,c.2.1,c.2.2.1,c.2.2.2.1,c.2.2.2.2.1,c.2.2.2.2.2.1,c.2.2.2.2.2.2++[f])
def QL (c:cM)(k:Nat)(h:Host):cM:=(c.1.set k h,c.2)
def cG (ps:au Port)(v:Int)(p:aG)(c:cM)(j:Nat):cM:=
 bif j==0 then afy c (tB (Ez ps (j:Int) v p)).1 else
 match c.1[j-1]? with
 |some h=>QL c (j-1) (ky h (tB (Ez ps (j:Int) v p)).1)
 |none=>c
theorem Gb {n:Nat}(z:yJ n c)(zh:yI n h):yJ n (QL c k h):=by refine⟨⟨lz z.z.1 zh.z,z.z.2⟩,λx hx=>?_⟩;rcases List.mem_or_eq_of_mem_set hx with g|g;exact z.h x g;rw[g];exact zh
theorem afz {n:Nat}{f:Bytes}(z:yJ n c)(hf:f.length<=n):yJ (n+1) (afy c f):=by have z':=z.mono (show n<=n+1 by omega);refine⟨⟨z'.z.1,z'.z.2.1,z'.z.2.2.1,z'.z.2.2.2.1,z'.z.2.2.2.2.1,z'.z.2.2.2.2.2.1,?_⟩,z'.h⟩;exact Aj (t:=.str) (k:=1) z.z.2.2.2.2.2.2 (λy hy=>by rw[bu.1 hy];exact hf) (by simp)
theorem ad2 {n:Nat}(hn:1000<=n){v:Int}{j:Nat}(z:yJ n c):yJ (n+1) (cG ps v p c j)/\(cG ps v p c j).1.length=c.1.length:=by have hf:=Dc (Ez ps (j:Int) v p);unfold cG;cases j==0 with|true=>exact⟨afz z (by omega),rfl⟩|false=>simp only[af];cases hx:c.1[j-1]? with|none=>exact⟨z.mono,rfl⟩|some h=>have hr:=CD hn (tB (Ez ps (j:Int) v p)).1 (z.h h (List.mem_of_getElem? hx));exact⟨(Gb z hr.1).mono,aA ..⟩
def I6 (ps:au Port)(v:Int)(p:aG)(c:cM)(l:eG):cM:=l.foldl (cG ps v p) c
theorem QK {ps:au Port}{v:Int}{p:aG}:∀(l:eG){c:cM}{n:Nat},1000<=n->yJ n c->yJ (n+l.length) (I6 ps v p c l)/\(I6 ps v p c l).1.length=c.1.length
 |[],c,n,_,z=>⟨z,rfl⟩
 |j::l,c,n,hn,z=>by have h1:=ad2 (ps:=ps) (v:=v) (p:=p) (j:=j) hn z;have:=QK (ps:=ps) (v:=v) (p:=p) l (show 1000<=n+1 by omega) h1.1;exact⟨this.1.mono (by simp only[aY];omega),this.2.trans h1.2⟩
theorem abe (ps:au Port)(v:Int)(p:aG)(c:cM)(l:eG)(i:Nat)(hi:i<l.length):I6 ps v p c (l.take (i+1))=cG ps v p (I6 ps v p c (l.take i)) l[i]:=by rw[aW hi,I6,List.foldl_append];rfl
theorem H2 (K:cM->aw R)(ps:au Port)(v:Int)(p:aG)(c B:cM)(l:eG)(hl:l.length<=8)(hj:∀j∈l,j<=c.1.length)(z:yJ 800000000 c)(zp:yN ps): bc (ki (λ(_:Int) (y16:cM)=>K y16) ps v (nW l) ((nW l).length:Int) p B) fuel (0,c)=K (I6 ps v p c l):=by
 refine da (λi=>((i:Int),I6 ps v p c (l.take i))) l.length (by omega) (λi nx hi=>?_) (λnx=>?_);have hi2:i<(nW l).length:=by simpa[nW]using hi
 have e1:(nW l)[i]'hi2=(l[i]:Int):=by simp[nW]
 have hz:=QK (ps:=ps) (v:=v) (p:=p) (l.take i) (by omega) z;have hzz:=hz.1.mono (show 800000000+(l.take i).length<=900000000 by rw[aO];omega);have hji:=hj _ (aL hi);have hfr:=Dc (Ez ps (l[i]:Int) v p);rw[abe ps v p c l i hi];have hn:=hz.2;generalize I6 ps v p c (l.take i)=W at hn hzz⊢;have hw:W.2.2.2.2.2.2.length<=900000000:=hzz.z.2.2.2.2.2.2.1;simp only[ki];rw[ar (by simpa[nW]using hi),bp hi2,e1,ak (n:=(i:Int)+1)];simp only[ah,ab,Z5 ps _ v p zp,Nx,cG];have hcl:c.1.length<=800000000:=z.z.1.1;by_cases h0:l[i]=0;rw[show((l[i]:Int)==0)=true from by simp[h0],show(l[i]==0)=true from by simp[h0]];simp only[ah];rw[aM (by simp only[aV];omega)];rfl;rw[show((l[i]:Int)==0)=false from by simp[h0],show(l[i]==0)=false from by simp[h0]];have hk:l[i]-1<W.1.length:=by omega
 rw[ak (n:=(l[i]:Int)-1),show(l[i]:Int)-1=((l[i]-1:Nat):Int) by omega];simp only[af,bp hk,ab,FA _ _ (hzz.h _ (aL hk)) (bm hfr (by omega)),ax,List.getElem?_eq_getElem hk];rfl;simp only[ki];rw[al (by simp[nW]),af,cm]
def ou (c:cM)(e:Int)(p:aG):cM:=
 bif decide (np (cW c.2.2.1).1 e p<0) then c else I6 (cW c.2.2.1).1 (np (cW c.2.2.1).1 e p) p c (zG (cW c.2.2.1).1 e p)
def qU (c:cM)(e:Int)(p:aG):cM:=bif kb c&&dU p then ou c e p else c
theorem Cm (c:cM)(e:Int)(p:aG)(k:yJ 800000000 c):kU c e p=some (qU c e p):=by
 have z9:cV 1000000000 sZ c:=k.z.mono;unfold kU qU;simp only[qf c z9,Ac c (k.sz (by omega)),uW,ab];cases h:kb c with|false=>rfl|true=>?_
 cases dU p with|false=>rfl|true=>?_
 have hn:=JO h;have zp:=Yv c.2.2.1;unfold ou;simp only[aj,af,ab,cq,ah,zg _ (λm hm=>(z9.2.2.1.2 m hm).1.2.2.1),Er _ e p zp,Cp _ e p zp];generalize (cW c.2.2.1).1=ps at hn zp⊢;unfold Js;cases decide (np ps e p<0)with|true=>exact H2 (λc=>some c) ps (np ps e p) p c _ [] (by simp) (by simp) k zp|false=>exact H2 (λc=>some c) ps (np ps e p) p c _ (zG ps e p) (by have:=CO ps e p;omega) (λj hj=>by have:=UI j hj;omega) k zp
theorem Iu {n:Nat}(hn:1000<=n){e:Int}(z:yJ n c)(h:kb c=true):yJ (n+8) (ou c e p)/\(ou c e p).1.length=c.1.length:=by have h3:=JO h;unfold ou;generalize (cW c.2.2.1).1=ps at h3⊢;cases decide (np ps e p<0)with|true=>exact⟨z.mono,rfl⟩|false=>have h8:=CO ps e p;have:=QK (ps:=ps) (v:=np ps e p) (p:=p) (zG ps e p) hn z;exact⟨this.1.mono,this.2⟩
def Bj (c:cM):cM:=(c.1,c.2.1,c.2.2.1,c.2.2.2.1,c.2.2.2.2.1,c.2.2.2.2.2.1++[c.2.2.2.2.1.1],c.2.2.2.2.2.2)
def pU (c:cM)(x:Bytes):cM:=bif !kb c then c else bif (fF x).2==0 then ou (Bj c) 0 (fF x).1 else Bj c
theorem Ol {n:Nat}(z:yJ n c):yJ (n+1) (Bj c):=by have z':=z.mono (show n<=n+1 by omega);refine⟨⟨z'.z.1,z'.z.2.1,z'.z.2.2.1,z'.z.2.2.2.1,z'.z.2.2.2.2.1,?_,z'.z.2.2.2.2.2.2⟩,z'.h⟩;exact Aj (t:=.int .i64) (k:=1) z.z.2.2.2.2.2.1 (λ_ _=>trivial) (by simp)
theorem QF (h:((fF x).2==0)=true):dU (fF x).1=true:=by
 unfold fF at h⊢;simp only at h⊢;cases h1:(wO x).2 with|false=>rw[h1]at h;cases h|true=>?_
 rw[h1]at h;simp only[aj,af]at h⊢;cases h2:(jk (wO x).1).2 !=0 with|true=>rw[h2]at h;simp only[bne,ah]at h h2;rw[h]at h2;cases h2|false=>rw[h2]at h;simp only[af]at h⊢;cases h3:dU (jk (wO x).1).1 with|false=>rw[h3]at h;cases h|true=>exact h3
theorem IX (c:cM)(x:Bytes)(k:yJ 700000000 c)(hx:x.length<=1000000000):qh c x=some (pU c x):=by
 have hl:c.2.2.2.2.2.1.length<=700000000:=k.z.2.2.2.2.2.1.1;have ks:=(Ol k).mono (show 700000000+1<=800000000 by omega);unfold qh pU;rw[qf c (k.z.mono),ab,Ac c (k.sz (by omega)),ab];cases h:kb c with|false=>rfl|true=>?_
 have hs:kb (Bj c)=true:=h;simp only[aj,af];rw[aM (by rw[aV];omega),G1 x hx,ab];have hp:=QF (x:=x);generalize fF x=f at hp⊢;cases hf:f.2==0 with|false=>rfl|true=>?_
 have e:=Cm (Bj c) 0 f.1 ks;unfold qU at e;rw[hs,hp hf]at e;simp only[cq,ah]at e⊢;rw[show kU (c.1,c.2.1,c.2.2.1,c.2.2.2.1,c.2.2.2.2.1,c.2.2.2.2.2.1++[c.2.2.2.2.1.1],c.2.2.2.2.2.2) 0 f.1=_ from e,ab]
theorem Uc {n:Nat}(hn:1000<=n)(x:Bytes)(z:yJ n c):yJ (n+9) (pU c x)/\(pU c x).1.length=c.1.length:=by
 unfold pU;cases h:kb c with|false=>exact⟨z.mono,rfl⟩|true=>?_
 have zs:=Ol z;simp only[aj,af];cases (fF x).2==0 with|true=>have:=Iu (show 1000<=n+1 by omega) (e:=0) (p:=(fF x).1) zs (show kb (Bj c)=true from h);exact⟨this.1,this.2⟩|false=>exact⟨zs.mono,rfl⟩
theorem Xo {n:Nat}(hn:1000<=n)(e:Int)(p:aG)(z:yJ n c):yJ (n+8) (qU c e p)/\(qU c e p).1.length=c.1.length:=by
 unfold qU;cases h:kb c with|false=>exact⟨z.mono,rfl⟩|true=>?_
 cases dU p with|false=>exact⟨z.mono,rfl⟩|true=>exact Iu hn z h
theorem Sn (g:Good n h){f:Filter}(hf:ei f=true):Good n (sX h f):=⟨g.mem,g.maps,g.tx,hf,g.lens,g.ste,g.rx,g.pool,g.vec,g.EU⟩
def asc (s:bN×au Port)(f:Filter):bN×au Port:=(f.2.2.foldl uP s.1,s.2++[(f.1,f.2.2.foldl uP [0],0,true)])
theorem L2 (ms:au bC)(s:bN×au Port):ms.foldl BO s=(ms.map (·.1)).foldl asc s:=by rw[List.foldl_map];rfl
theorem T3 {ns:au bC}(h:ms.map (·.1)=ns.map (·.1)):kI ms=kI ns:=by unfold kI;rw[L2,L2,h]
theorem agU {b':bC}(hk:ms[k]?=some b)(h:b'.1=b.1):(ms.set k b').map (·.1)=ms.map (·.1):=by obtain⟨hlt,e⟩:=List.getElem?_eq_some_iff.1 hk;rw[List.map_set,h,<-e,<-List.getElem_map (f:=λx:bC=>x.1) (h:=by rw[bF];exact hlt),List.set_getElem_self]
theorem WT (h:(cW ms).2=true){b':bC}(hk:ms[k]?=some b)(hf:b'.1=b.1)(hm:iJ b'=true):(cW (ms.set k b')).2=true:=by
 have p:=mM h;unfold cW;rw[T3 (agU hk hf),aA,p.2.2.1,aS.2 ⟨by omega,by omega⟩];have:(ms.set k b').all iJ=true:=by rw[aC];intro x hx;rcases List.mem_or_eq_of_mem_set hx with g|g;exact p.2.2.2.1 x g;rw[g];exact hm
 rw[this];rfl
theorem Ve (h:(cW ms).2=true)(hk:ms[k]?=some b){m:se}(hm:m.1=b.2.1+1)(hn:b.2.1<=n/\b.2.2.2<=n)(hn2:n<=100000000000):∃b',nm ms k m=(ms.set k b',b'.2.2.1)/\b'.2.1=m.1/\b'.2.2.2=b.2.2.2+1/\(cW (ms.set k b')).2=true:=by
 have p:=mM h;have hb:iJ b=true:=p.2.2.2.1 b (List.mem_of_getElem? hk);have hi:=TC hb;have hh:lg b m=(((la b.1 m).1,m.1,(la b.1 m).2,b.2.2.2+1),(la b.1 m).2):=by unfold lg;rw[hb,ah,show(m.1==b.2.1)=false from by rw[bP];omega,af,show(m.1==b.2.1+1)=true from by rw[bh];exact hm,ah]
 unfold nm;rw[hk];simp only[hh];cases hp:(cW (ms.set k ((la b.1 m).1,m.1,(la b.1 m).2,b.2.2.2+1))).2 with|true=>exact⟨((la b.1 m).1,m.1,(la b.1 m).2,b.2.2.2+1),rfl,rfl,rfl,hp⟩|false=>refine⟨(b.1,m.1,0,b.2.2.2+1),?_,rfl,rfl,?_⟩;rw[af,ak];refine WT h hk rfl ?_;unfold iJ at hb⊢;simp only[ae,aS]at hb⊢;refine⟨hb.1,⟨?_,?_⟩,?_,?_⟩;show 0<=m.1;omega;show m.1<=_;omega;show 0<=b.2.2.2+1;omega;show b.2.2.2+1<=_;omega
theorem Vf (h:(cW ms).2=true)(hk:ms[k]?=some b){m:se}(hm:m.1=b.2.1):nm ms k m=(ms,b.2.2.1):=by
 have p:=mM h;have hb:iJ b=true:=p.2.2.2.1 b (List.mem_of_getElem? hk);have hh:lg b m=(b,b.2.2.1):=by unfold lg;rw[hb,ah,show(m.1==b.2.1)=true from by rw[bh];exact hm,ah]
 have hs:ms.set k b=ms:=by obtain⟨hlt,e⟩:=List.getElem?_eq_some_iff.1 hk;rw[<-e,List.set_getElem_self]
 unfold nm;rw[hk];simp only[hh];rw[hs,h,ah]
theorem Rk (h:(cW ms).2=true)(hk:ms[k]?=some b){m:se}(h1:m.1≠b.2.1)(h2:m.1≠b.2.1+1):nm ms k m=(ms, -1):=by
 have p:=mM h;have hb:iJ b=true:=p.2.2.2.1 b (List.mem_of_getElem? hk);have hh:lg b m=(b, -1):=by unfold lg;rw[hb,ah,show(m.1==b.2.1)=false from by rw[bP];exact h1,af,show(m.1==b.2.1+1)=false from by rw[bP];exact h2,af]
 have hs:ms.set k b=ms:=by obtain⟨hlt,e⟩:=List.getElem?_eq_some_iff.1 hk;rw[<-e,List.set_getElem_self]
 unfold nm;rw[hk];simp only[hh];rw[hs,h,ah]
def Jv (c:cM)(k:Nat)(h:Host)(b:bC):cM:=(c.1.set k (sX h b.1),c.2.1,c.2.2.1.set k b,c.2.2.2)
theorem acG {m:Int}(g:fN n c)(hm:n<=m)(hh:c.1[k]?=some h)(hp:(cW (c.2.2.1.set k b)).2=true)(h1:b.2.1<=m/\b.2.2.2<=m):fN m (Jv c k h b):=by
 have p:=mM hp;have q:=mM g.ports;obtain⟨hlt,_⟩:=List.getElem?_eq_some_iff.1 hh;have hk:k<c.2.2.1.length:=by have:=g.len.1;omega
 have hb:iJ b=true:=p.2.2.2.1 b (List.mem_of_getElem? (List.getElem?_set_self hk));have hf:ei b.1=true:=by unfold iJ at hb;simp only[ae]at hb;exact hb.1
 have gh:∀h0,c.1[k]?=some h0->Good n h0:=λh0 e=>(g.host k h0 _ e (List.getElem?_eq_getElem hk)).1;refine⟨hp,⟨?_,?_⟩,?_,g.boot,g.clock,λi h' b' e1 e2=>?_,λi hi=>g.place i ?_,λx hx=>?_,λf hf=>⟨by have:=(g.fnn f hf).1;omega,by have:=(g.fnn f hf).2;omega⟩⟩;show(c.1.set k _).length=(c.2.2.1.set k b).length;rw[aA,aA];exact g.len.1;show c.2.1.length=(c.2.2.1.set k b).length;rw[aA];exact g.len.2;have e:=g.fns;unfold gw at e⊢;rw[q.1,q.2.2.1,q.2.1,bj]at e;show(gW (cW (c.2.2.1.set k b)).1&&(List.range c.2.1.length).all (fnB c.2.1 ((cW (c.2.2.1.set k b)).1.length:Int)))=true;rw[p.1,p.2.2.1,bj,p.2.1,aA];exact e;have e1:(c.1.set k (sX h b.1))[i]?=some h':=e1;have e2:(c.2.2.1.set k b)[i]?=some b':=e2;by_cases hi:i=k;subst hi;rw[List.getElem?_set_self hlt]at e1;rw[List.getElem?_set_self hk]at e2;rw[<-bM e1,<-bM e2];exact⟨Sn ((gh h hh).mono hm) hf,rfl⟩;rw[List.getElem?_set_ne (cC hi)]at e1 e2;exact⟨(g.host i h' b' e1 e2).1.mono hm,(g.host i h' b' e1 e2).2⟩;have hi:i<(c.1.set k (sX h b.1)).length:=hi;rw[aA]at hi;exact hi;rcases List.mem_or_eq_of_mem_set hx with e|e;have:=g.boxn x e;omega;rw[e];exact h1
theorem amc {n:Nat}(hn:8<=n)(z:yJ n c)(hh:c.1[k]?=some h)(hb:b.1.2.2.length<=8):yJ n (Jv c k h b):=by
 have zh:=z.h h (List.mem_of_getElem? hh);have zl:cV n lV b.1:=⟨ch,ch,bm hb hn,λ_ _=>trivial⟩
 have y:=zh.z;have zf:yI n (sX h b.1):=⟨⟨y.1,y.2.1,y.2.2.1,y.2.2.2.1,y.2.2.2.2.1,y.2.2.2.2.2.1,y.2.2.2.2.2.2.1,zl,y.2.2.2.2.2.2.2.2⟩,zh.t⟩
 have s:=Gb (k:=k) z zf;exact⟨⟨s.z.1,z.z.2.1,lz z.z.2.2.1 ⟨zl,ch,ch,ch⟩,z.z.2.2.2⟩,s.h⟩
theorem Rq (g:fN n c)(hn:n<=100000000000)(hk:c.2.2.1[k]?=some b){m:se}(hm:m.1=b.2.1+1):∃h b',c.1[k]?=some h/\qa c (k:Int) m=(Jv c k h b',b'.2.2.1)/\b'.2.1=m.1/\b'.2.2.2=b.2.2.2+1/\(cW (c.2.2.1.set k b')).2=true/\fN (n+1) (Jv c k h b'):=by
 obtain⟨hlt,_⟩:=List.getElem?_eq_some_iff.1 hk;have hx:k<c.1.length:=by have:=g.len.1;omega
 have hbn:=g.boxn b (List.mem_of_getElem? hk);obtain⟨b',e1,e2,e3,e4⟩:=Ve g.ports hk hm hbn hn;refine⟨c.1[k],b',List.getElem?_eq_getElem hx,?_,e2,e3,e4,acG g (by omega) (List.getElem?_eq_getElem hx) e4 ⟨by omega,by omega⟩⟩;unfold qa;rw[g.ok (by omega),aS.2 ⟨by omega,by omega⟩];simp only[cq,ah,ax,e1];rw[List.getElem?_eq_getElem hx,List.getElem?_set_self hlt];rfl
theorem Rr (g:fN n c)(hn:n<=100000000000)(hk:c.2.2.1[k]?=some b){m:se}{a:Int}(he:nm c.2.2.1 k m=(c.2.2.1,a)):qa c (k:Int) m=(c,a):=by
 obtain⟨hlt,eb⟩:=List.getElem?_eq_some_iff.1 hk;have hx:k<c.1.length:=by have:=g.len.1;omega
 have hf:=(g.host k _ b (List.getElem?_eq_getElem hx) hk).2;unfold qa;rw[g.ok (by omega),aS.2 ⟨by omega,by omega⟩];simp only[cq,ah,ax,he];rw[List.getElem?_eq_getElem hx,hk];simp only;have e:sX c.1[k] b.1=c.1[k]:=by rw[<-hf];rfl
 rw[e,List.set_getElem_self]
def EL (b:se)(n:Int):se×Bool:=bif gL b&&cI n 0 b.2.2 then((b.1,b.2.1,aq (b.2.2-n)),true) else(b,false)
theorem aad (b:se)(n:Int):qs b n=some (EL b n):=by unfold qs EL;simp only[Eo,ab,bZ];cases gL b<;>cases cI n 0 b.2.2<;>rfl
def X0 (f:aP):aP:=(f.1,f.2.1,f.2.2.1,f.2.2.2.1,f.2.2.2.2.1,aq (f.2.2.2.2.2+1))
def ahv (f:aP)(b:se):aP:=(f.1,f.2.1,b,f.2.2.2.1,aq (f.2.2.2.2.1+1),f.2.2.2.2.2)
def agD (ps:au Port)(f:aP)(p:aG):Bool:=f.2.2.2.1&&(!decide (np ps f.2.1 p<0)&&(EL f.2.2.1 ((dk p).1.length:Int)).2)
def tj (l:au aP)(ps:au Port)(a:Int)(p:aG):au aP×bN×Bool:=
 bif gw l ps&&(dU p&&(!decide (a<0)&& !decide (a>=(l.length:Int)))) then
  match l[a.toNat]? with
  |some f=>bif agD ps f p then(l.set a.toNat (ahv f (EL f.2.2.1 ((dk p).1.length:Int)).1),Js ps f.2.1 p,true) else(l.set a.toNat (X0 f),[],false)
  |none=>(l,[],false)
 else(l,[],false)
theorem aab (l:au aP)(ps:au Port)(a:Int)(p:aG)(h:l.length<=1000000000)(z:yN ps):vG l ps a p=some (tj l ps a p):=by
 unfold vG tj;rw[tE l h,ab,ak (n:=(l.length:Int)-1)];simp only[DM l ps h z.1 z.2,uW,ab,bZ];cases gw l ps with|false=>rfl|true=>?_
 cases dU p with|false=>rfl|true=>?_
 rw[show cI a 0 ((l.length:Int)-1)=(!decide (a<0)&& !decide (a>=(l.length:Int))) from by rw[cn,aS];simp;omega];by_cases h0:a<0;rw[ar h0];rfl;by_cases h1:a>=(l.length:Int)
 rw[al h0,ar h1];rfl;obtain⟨a,rfl⟩:=aN (by omega:0<=a);have ha:a<l.length:=by omega
 rw[al h0,al h1];simp only[ax,List.getElem?_eq_getElem ha,bp ha,ab,aj,br,af,ah,cq,Ad,aad,Er _ _ p z,Cp _ _ p z,agD];generalize l[a]=f;cases h3:f.2.2.2.1 with|false=>simp only[br,ah,af,dw,ab,X0,h3]|true=>simp only[aj,af,bj,P8 ha,ab,List.set_set];cases decide (np ps f.2.1 p<0)with|true=>simp only[aj,ah,dw,af,ab,X0,h3]|false=>simp only[br,af,bj,ab,Cp _ _ p z];cases (EL f.2.2.1 ((dk p).1.length:Int)).2 with|false=>simp only[br,ah,af,X0,h3]|true=>simp only[aj,ah,af,ahv,h3]
theorem Oa (l:au aP)(ps:au Port)(a:Int)(p:aG):(tj l ps a p).1.length=l.length:=by
 unfold tj;cases gw l ps&&(dU p&&(!decide (a<0)&& !decide (a>=(l.length:Int))))with|false=>rfl|true=>?_
 simp only[ah];cases l[a.toNat]? with|none=>rfl|some f=>cases h:agD ps f p<;>simp only[h,ah,af,aA]
theorem adR {a:Int}(h:dU p=false):tj l ps a p=(l,[],false):=by unfold tj;rw[h,dw,ez,af]
theorem WN:dU pk0=false:=by decide
theorem adE (h:((fF x).2==0)=false):dU (fF x).1=false:=by
 unfold fF at h⊢;simp only at h⊢;cases h1:(wO x).2 with|false=>exact WN|true=>?_
 rw[h1]at h;simp only[aj,af]at h⊢;cases h2:(jk (wO x).1).2 !=0 with|true=>exact WN|false=>?_
 rw[h2]at h;simp only[af]at h⊢;cases h3:dU (jk (wO x).1).1 with|false=>exact WN|true=>rw[h3]at h;cases h
def CW (h:Host):bE:=h.2.2.2.2.2.2.2.2.2.2.2.1
theorem OB (h:Host):(CW h).length<=(CW (eZ h)).length/\(CW (eZ h)).length<=(CW h).length+5440:=by
 have hA:=Ay h.2.1 h.1 0 17 [] 0 0 h.2.2.1.1 (λx hx=>by cases hx);unfold eZ;cases dK h with|false=>exact⟨ba _,Nat.le_add_right _ _⟩|true=>?_
 rw[show oM h.2.1 h.1 0 17 [] 0 0 h.2.2.1.1=kB h.2.1 h.1 0 h.2.2.1.1 from rfl]at hA;generalize kB h.2.1 h.1 0 h.2.2.1.1=x at hA⊢;simp only[du]at hA;generalize (if(h.2.2.1.2.2.1.length:Int)<aq (x.2.2.1+x.2.2.2) then(h.2.2.1.2.2.1.length:Int) else aq (x.2.2.1+x.2.2.2))=q;show _<=(CW h++x.2.1).length/\(CW h++x.2.1).length<=_;rw[ai];have:=hA.1;omega
def H7 (h:Host):bE:=(CW (eZ h)).drop (CW h).length
theorem Hj (h:Host):(H7 h).length<=5440:=by have:=OB h;unfold H7;rw[aI];omega
def zy (ps:au Port)(k:Int)(c:cM)(x:Bytes):cM:=
 bif (tj c.2.1 ps k (fF x).1).2.2 then qU (c.1,(tj c.2.1 ps k (fF x).1).1,c.2.2) (aq (k+1)) (fF x).1 else(c.1,(tj c.2.1 ps k (fF x).1).1,c.2.2)
theorem YF {n:Nat}(h:l.length=c.2.1.length)(z:yJ n c):yJ n (c.1,l,c.2.2):=by refine⟨⟨z.z.1,⟨?_,λ_ _=>⟨ch,ch,⟨ch,ch,ch⟩,ch,ch,ch⟩⟩,z.z.2.2⟩,z.h⟩;have:=z.z.2.1.1;show l.length<=n;rw[h];exact this
theorem adO {n:Nat}(hn:1000<=n){k:Int}(z:yJ n c):yJ (n+8) (zy ps k c x)/\(zy ps k c x).1.length=c.1.length:=by have zs:=YF (l:=(tj c.2.1 ps k (fF x).1).1) (Oa ..) z;unfold zy;cases (tj c.2.1 ps k (fF x).1).2.2 with|false=>exact⟨zs.mono,rfl⟩|true=>exact Xo hn _ _ zs
theorem adN {k:Int}(h:((fF x).2==0)=false):zy ps k c x=c:=by unfold zy;rw[adR (adE h)];rfl
def BN (ps:au Port)(k:Int)(c:cM)(l:bE):cM:=l.foldl (zy ps k) c
theorem LJ {ps:au Port}{k:Int}:∀(l:bE){c:cM}{n:Nat},1000<=n->yJ n c->yJ (n+8*l.length) (BN ps k c l)/\(BN ps k c l).1.length=c.1.length
 |[],c,n,_,z=>⟨z,rfl⟩
 |x::l,c,n,hn,z=>by have h1:=adO hn (ps:=ps) (k:=k) (x:=x) z;have:=LJ (ps:=ps) (k:=k) l (show 1000<=n+8 by omega) h1.1;exact⟨this.1.mono (by simp only[aY];omega),this.2.trans h1.2⟩
theorem W7 (ps:au Port)(k:Int)(c:cM)(l:bE)(i:Nat)(hi:i<l.length):BN ps k c (l.take (i+1))=zy ps k (BN ps k c (l.take i)) l[i]:=by rw[aW hi,BN,List.foldl_append];rfl
theorem SE (K:Int->cM->aw R)(ps:au Port)(k:Int)(l:bE)(c B:cM)(hl:l.length<=5440)(hx:∀x∈l,x.length<=1000000000)(z:yJ 700000000 c)(zp:yN ps): bc (ja K k ps l (l.length:Int) B) fuel (0,c)=K (l.length:Int) (BN ps k c l):=by
 have hfu:=dT;refine da (λi=>((i:Int),BN ps k c (l.take i))) l.length (by omega) (λi nx hi=>?_) (λnx=>?_);have hz:=(LJ (ps:=ps) (k:=k) (l.take i) (by omega) z).1.mono (show 700000000+8*(l.take i).length<=800000000 by rw[aO];omega);rw[W7 ps k c l i hi];generalize BN ps k c (l.take i)=W at hz⊢;simp only[ja];rw[iV,ah,bp hi,ab,G1 _ (hx _ (aL hi)),ab,ak (n:=(i:Int)+1)];cases hf:(fF l[i]).2==0 with|false=>rw[adN hf];simp only[bne,hf,br,ah];rfl|true=>have zs:=YF (l:=(tj W.2.1 ps k (fF l[i]).1).1) (Oa ..) hz;simp only[bne,hf,aj,af];rw[aab _ _ _ _ (bm hz.z.2.1.1 (by omega)) zp,ab,Cm _ _ _ zs,ab,zy];cases (tj W.2.1 ps k (fF l[i]).1).2.2<;>rfl
 simp only[ja];rw[gT,af,cm]
def tw (c:cM)(k:Int):cM:=
 bif kb c&&(!decide (k<0)&& !decide (k>=(c.1.length:Int))) then
  match c.1[k.toNat]? with
  |some h=>BN (cW c.2.2.1).1 k (QL c k.toNat (eZ h)) (H7 h)
  |none=>c
 else c
theorem VU (c:cM)(k:Int)(z:yJ 600000000 c):oT c k=some (tw c k):=by
 have z9:cV 1000000000 sZ c:=z.z.mono;have hl:c.2.1.length<=600000000:=z.z.2.1.1;unfold oT tw;rw[qf c z9,ab,Ac c (z.sz (by omega)),ab,bZ,ak (n:=(c.2.1.length:Int)-1)];cases hb:kb c with|false=>rfl|true=>?_
 have h2:c.1.length=c.2.1.length:=by unfold kb at hb;simp only[ae]at hb;have:=Di hb.2.1;omega
 rw[show cI k 0 ((c.2.1.length:Int)-1)=(!decide (k<0)&& !decide (k>=(c.1.length:Int))) from by rw[cn,aS];simp;omega];by_cases h0:k<0;rw[ar h0];rfl;by_cases h1:k>=(c.1.length:Int)
 rw[al h0,ar h1];rfl;obtain⟨k,rfl⟩:=aN (by omega:0<=k);have hk:k<c.1.length:=by omega
 rw[al h0,al h1];have hz:=z.h _ (aL hk);have zt:=Br (by omega) hz;have zc:yJ 700000000 (QL c k (eZ c.1[k])):=(Gb (z.mono (show 600000000<=600005440 by omega)) zt).mono;have hg:=OB c.1[k];have hw:∀x∈H7 c.1[k],x.length<=1000000000:=λx hx=>bm (zt.z.2.2.2.2.2.2.2.2.2.2.2.1.2 x (List.mem_of_mem_drop hx)) (by omega);have hn:=Hj c.1[k];have zp:=Yv c.2.2.1;simp only[ax,List.getElem?_eq_getElem hk,bp hk,P8 hk,ab,aj,br,af,ah,cq,zg _ (λm hm=>(z9.2.2.1.2 m hm).1.2.2.1),FF _ (hz.mono)];rw[show sub (eZ c.1[k]).2.2.2.2.2.2.2.2.2.2.2.1 ((c.1[k].2.2.2.2.2.2.2.2.2.2.2.1).length:Int) (((eZ c.1[k]).2.2.2.2.2.2.2.2.2.2.2.1).length:Int)=some (H7 c.1[k]) from Gq _ _ hg.1];simp only[ab,kS _ (bm hn (by omega:5440<=1000000000))];exact SE (λ_ y=>some y) (cW c.2.2.1).1 (k:Int) (H7 c.1[k]) (QL c k (eZ c.1[k])) _ hn hw zc zp
theorem Vk {n:Nat}(hn:1000<=n)(k:Int)(z:yJ n c):yJ (n+48960) (tw c k)/\(tw c k).1.length=c.1.length:=by
 unfold tw;cases kb c&&(!decide (k<0)&& !decide (k>=(c.1.length:Int)))with|false=>exact⟨z.mono,rfl⟩|true=>?_
 simp only[ah];cases hx:c.1[k.toNat]? with|none=>exact⟨z.mono,rfl⟩|some h=>have zt:=Br (by omega) (z.h h (List.mem_of_getElem? hx));have zc:=Gb (k:=k.toNat) (z.mono (show n<=n+5440 by omega)) zt;have:=LJ (ps:=(cW c.2.2.1).1) (k:=k) (H7 h) (by omega) zc;have hl:=Hj h;refine⟨this.1.mono,this.2.trans ?_⟩;show(c.1.set _ _).length=_;rw[aA]
structure ka (a b:Host):Prop where
 maps:b.2.1=a.2.1
 mem:b.1.length=a.1.length
theorem ka.refl (a:Host):ka a a:=⟨rfl,rfl⟩
theorem ka.trans {a b c:Host}(h:ka a b)(g:ka b c):ka a c:=⟨g.maps.trans h.maps,g.mem.trans h.mem⟩
theorem ka.of {a b:Host}(h:jZ k a b):ka a b:=⟨h.maps,h.mem⟩
theorem ag7 (l:au aB)(m:bE)(d:Int)(q:cj)(k s:Bytes):(gX l m d q k s).1.length=m.length:=by
 unfold gX;cases !(cX s).2||(((cX s).1.1 !=3)||decide ((cX s).1.2.2.1<((dk q.2.2.2.1.1).1.length:Int)))with|true=>rfl|false=>?_
 cases (gR l m d (cX s).1.2.2.2.1 (dk q.2.2.2.1.1).1 true).2 with
 |false=>rfl
 |true=>
  simp only[af,aj];unfold zw;cases !fC q.2.1|| !xX _ with|true=>exact jy ..|false=>?_
  cases (gR l (gR l m d (cX s).1.2.2.2.1 (dk q.2.2.2.1.1).1 true).1 d (re q.2.1) _ true).2 with|false=>exact jy ..|true=>exact(jy ..).trans (jy ..)
theorem P3 (l:au aB)(m:bE)(d:Int)(q:cj)(k:Bytes):(iu l m d q k).1.length=m.length:=by
 unfold iu;cases !EV q||(!q.2.2.2.2.1||((k.length:Int) !=16))with|true=>rfl|false=>?_
 cases (bt l m d q.1).2.2&&(gX l m d q k (bt l m d q.1).1).2.2 with|true=>exact ag7 ..|false=>rfl
theorem ab3 (l:au aB)(m:bE)(d:Int)(q:cj)(k:Bytes)(p:aG)(c:Bool):(k7 l m d q k p c).1.length=m.length:=by
 unfold k7;cases !EV q||(!dU p||((k.length:Int) !=16))with|true=>rfl|false=>?_
 cases c&&(q.2.2.2.2.1&&GK q.2.2.2.1 p)with|true=>rfl|false=>?_
 cases c with|true=>exact P3 ..|false=>exact(P3 ..).trans (P3 ..)
theorem adQ (l:au aB)(m:bE)(d:Int)(t:dM)(p:aG)(c z:Int):(u9 l m d t p c z).1.length=m.length:=by
 unfold u9;cases Me t&&(dh p&&(cI z 1 t.2.1.2.1&&cI c 1 128))with|false=>rfl|true=>?_
 cases HR t (xW p z.toNat)with|false=>rfl|true=>?_
 simp only[ah];cases hw:wk l d t.2.1 z.toNat (jP t.2.1 (xW p z.toNat:Int)).2.1 (jI p).1 m []with|none=>rfl|some x=>have hx:=(Fe _ _ _ _ _ _ _ _ hw).1;simp only;unfold LL uu;cases hp:qH l d ((pz x.1 c t.2.2.2).map w8) x.2 t.1 with|none=>rfl|some y=>exact(Ih _ _ _ _ _ hp).trans hx
theorem abz (h:Host)(p:aG)(c z:Int):ka h (yx h p c z).1:=by unfold yx;cases dK h with|false=>exact ka.refl h|true=>exact⟨rfl,adQ ..⟩
theorem D3 (h:Host):ka h (eZ h):=by unfold eZ;cases dK h with|false=>exact ka.refl h|true=>exact⟨rfl,rfl⟩
theorem Xg (h:Host):ka h (uT h):=by unfold uT;cases dK h with|false=>exact ka.refl h|true=>exact ka.of (nb wm h _)
theorem On (h:Host):ka h (uM h):=by unfold uM;cases dK h with|false=>exact ka.refl h|true=>exact ka.of (nb yG h _)
theorem QS (h:Host)(b:Int):ka h (mO h b).1:=by unfold mO;cases dK h&&cI b 1 1000 with|false=>exact ka.refl h|true=>exact ka.of (xR b h _)
theorem Gn (h:Host)(x:Bytes):ka h (ky h x):=by
 unfold ky;cases dK h with|false=>exact ka.refl h|true=>?_
 cases (fF x).2 !=0 with|true=>exact⟨rfl,rfl⟩|false=>?_
 cases !wh h.2.2.2.2.2.2.2.1 (fF x).1 with|true=>exact⟨rfl,rfl⟩|false=>?_
 cases rm h.2.2.2.2.2.2.2.2.1 (h.2.2.2.1.length:Int) (fF x).1== -1 with|true=>exact⟨rfl,rfl⟩|false=>?_
 simp only[aj,af];cases hq:h.2.2.2.1[(rm h.2.2.2.2.2.2.2.2.1 (h.2.2.2.1.length:Int) (fF x).1).toNat]? with|none=>exact ka.refl h|some q=>exact ka.trans (b:=zK h _ _ _ _) ⟨rfl,rfl⟩ (ka.of (CX (ab3 ..)))
theorem Gm (h:Host):∀k,ka h (sC h k)
 |0=>ka.refl h
 |k+1=>by
  refine(Gm h k).trans ?_;show ka (sC h k) (u3 (sC h k) k 1000).2;generalize sC h k=s;unfold u3;cases s.2.2.2.1[k]? with|none=>exact ka.refl s|some rx=>?_
  cases s.2.2.2.2.1[k]? with|none=>exact ka.refl s|some pl=>?_
  exact⟨rfl,Yu ..⟩
theorem D1 (h:Host):∀k,ka h (returned h k)
 |0=>Gm h _
 |k+1=>by refine(D1 h k).trans ?_;show ka (returned h k) (LC h.2.2.1.2.2.1 k (returned h k));unfold LC;cases h.2.2.1.2.2.1[k]? with|none=>exact ka.refl _|some x=>exact⟨rfl,rfl⟩
theorem LZ (h:Host):ka h (rk h):=by unfold rk;cases dK h with|false=>exact ka.refl h|true=>have k:=vM (qc h) h.2.2.2.1.length;have r:=D1 h h.2.2.1.2.2.1.length;exact⟨k.maps.trans r.maps,k.mem.trans r.mem⟩
theorem ad1 (h:Host)(a:Act):ka h (EX h a).1:=by
 unfold EX;cases !dK h|| !Dv a with|true=>exact ka.refl h|false=>?_
 simp only[af];cases a.1==0 with|true=>exact abz ..|false=>?_
 cases a.1==1 with|true=>exact D3 h|false=>?_
 cases a.1==2 with|true=>exact Gn ..|false=>?_
 cases a.1==3 with|true=>exact Xg h|false=>?_
 cases a.1==4 with|true=>exact On h|false=>?_
 cases a.1==5 with|true=>exact QS ..|false=>exact LZ h
def qe (h:Host):Filter:=h.2.2.2.2.2.2.2.1
theorem af2 (k:Nat)(h:Host):qe (evS k h)=qe h:=by unfold evS;cases h.2.2.2.2.2.1[k]?<;>rfl
theorem X8 (k:Nat)(h:Host):∀i,qe (X2 k i h)=qe h
 |0=>rfl
 |i+1=>(af2 k _).trans (X8 k h i)
theorem VJ (h:Host)(k:Nat)(b:Int)(f:bE×cj):qe (ER h k b f)=qe h:=(X8 k _ _).trans rfl
theorem HT (h:Host)(x:Bytes):qe (ky h x)=qe h:=by
 unfold ky;cases dK h with|false=>rfl|true=>?_
 cases (fF x).2 !=0 with|true=>rfl|false=>?_
 cases !wh h.2.2.2.2.2.2.2.1 (fF x).1 with|true=>rfl|false=>?_
 cases rm h.2.2.2.2.2.2.2.2.1 (h.2.2.2.1.length:Int) (fF x).1== -1 with|true=>rfl|false=>?_
 simp only[aj,af];cases h.2.2.2.1[(rm h.2.2.2.2.2.2.2.2.1 (h.2.2.2.1.length:Int) (fF x).1).toNat]? with|none=>rfl|some q=>exact VJ ..
theorem ZM (h:Host):qe (uT h)=qe h:=by unfold uT;cases dK h with|false=>rfl|true=>exact(nb wm h _).qe
theorem Sc (h:Host):qe (uM h)=qe h:=by unfold uM;cases dK h with|false=>rfl|true=>exact(nb yG h _).qe
theorem Sb (h:Host)(b:Int):qe (mO h b).1=qe h:=by unfold mO;cases dK h&&cI b 1 1000 with|false=>rfl|true=>exact(xR b h _).qe
theorem Fg (h:Host):qe (eZ h)=qe h:=by unfold eZ;cases dK h<;>rfl
theorem acy (h:Host)(p:aG)(c z:Int):qe (yx h p c z).1=qe h:=by unfold yx;cases dK h<;>rfl
theorem VH (h:Host)(i:Nat)(c:Int):qe (u3 h i c).2=qe h:=by
 unfold u3;cases h.2.2.2.1[i]? with|none=>rfl|some rx=>?_
 cases h.2.2.2.2.1[i]? with|none=>rfl|some pl=>rfl
theorem HS (h:Host):∀k,qe (sC h k)=qe h
 |0=>rfl
 |k+1=>(VH _ k 1000).trans (HS h k)
theorem AI (h:Host):∀k,qe (returned h k)=qe h
 |0=>HS h _
 |k+1=>by have e:returned h (k+1)=LC h.2.2.1.2.2.1 k (returned h k):=rfl;rw[e];unfold LC;cases h.2.2.1.2.2.1[k]? with|none=>exact AI h k|some x=>exact(show qe (YC (returned h k) [x.1])=qe (returned h k) from rfl).trans (AI h k)
theorem VI (k:Nat)(h:Host):qe (u7 k h)=qe h:=by
 unfold u7;cases h.2.2.2.1[k]? with|none=>rfl|some x=>?_
 cases h.2.2.2.2.2.1[k]? with|none=>rfl|some v=>rfl
theorem Ff (h:Host):∀k,qe (gS h k)=qe h
 |0=>rfl
 |k+1=>(VI k _).trans (Ff h k)
theorem Nn (h:Host):qe (rk h)=qe h:=by unfold rk;cases dK h with|false=>rfl|true=>exact(Ff _ _).trans ((show qe (qc h)=qe (returned h h.2.2.1.2.2.1.length) from rfl).trans (AI h _))
theorem af1 (h:Host)(a:Act):qe (EX h a).1=qe h:=by
 unfold EX;cases !dK h|| !Dv a with|true=>rfl|false=>?_
 simp only[af];cases a.1==0 with|true=>exact acy ..|false=>?_
 cases a.1==1 with|true=>exact Fg h|false=>?_
 cases a.1==2 with|true=>exact HT ..|false=>?_
 cases a.1==3 with|true=>exact ZM h|false=>?_
 cases a.1==4 with|true=>exact Sc h|false=>?_
 cases a.1==5 with|true=>exact Sb ..|false=>exact Nn h
theorem fN.at (g:fN n c)(hi:c.1[i]?=some h):Good n h:=by obtain⟨hlt,_⟩:=List.getElem?_eq_some_iff.1 hi;exact(g.host i h _ hi (List.getElem?_eq_getElem (by have:=g.len.1;omega))).1
theorem KH {m:Int}(g:fN n c)(hm:n<=m){hs:au Host}(hl:hs.length=c.1.length)(h:∀(i:Nat)(h':Host),hs[i]?=some h'->∃h0,c.1[i]?=some h0/\Good m h'/\qe h'=qe h0):fN m (hs,c.2):=by have q:=g.mono hm;refine⟨q.ports,⟨hl.trans q.len.1,q.len.2⟩,q.fns,q.boot,q.clock,λi h' b e1 e2=>?_,λi hi=>q.place i (by rw[<-hl];exact hi),q.boxn,q.fnn⟩;obtain⟨h0,a,b',e⟩:=h i h' e1;exact⟨b',e.trans (q.host i h0 b a e2).2⟩
theorem GU {m:Int}(g:fN n c)(hm:n<=m){h0:Host}(hk:c.1[k]?=some h0)(gh:Good m h)(e:qe h=qe h0):fN m (QL c k h):=by refine KH g hm (aA ..) λi h' hi=>?_;by_cases hik:i=k;subst hik;obtain⟨hlt,_⟩:=List.getElem?_eq_some_iff.1 hk;rw[List.getElem?_set_self hlt]at hi;rw[<-bM hi];exact⟨h0,hk,gh,e⟩;rw[List.getElem?_set_ne (cC hik)]at hi;exact⟨h',hi,(g.at hi).mono hm,rfl⟩
theorem Nq {m:Int}(g:fN n c)(hm:n<=m){f:Host->Host}(hf:∀h,Good n h->Good m (f h))(he:∀h,qe (f h)=qe h):fN m (c.1.map f,c.2):=by refine KH g hm (bF ..) λi h' hi=>?_;rw[List.getElem?_map]at hi;cases hc:c.1[i]? with|none=>rw[hc]at hi;cases hi|some h0=>rw[hc]at hi;rw[<-bM hi];exact⟨h0,rfl,hf h0 (g.at hc),he h0⟩
theorem VQ (g:fN n c)(f:Bytes):fN n (afy c f):=⟨g.ports,g.len,g.fns,g.boot,g.clock,g.host,g.place,g.boxn,g.fnn⟩
theorem HX (g:fN n c):fN n (Bj c):=⟨g.ports,g.len,g.fns,g.boot,g.clock,g.host,g.place,g.boxn,g.fnn⟩
theorem VO (hn:n<=600000000000)(g:fN n c)(ps:au Port)(v:Int)(p:aG)(j:Nat):fN (n+641) (cG ps v p c j):=by unfold cG;cases j==0 with|true=>exact(VQ g _).mono|false=>simp only[af];cases hc:c.1[j-1]? with|none=>exact g.mono|some h=>exact GU g (by omega) hc (Fm (by omega) (g.at hc) _) (HT ..)
theorem Nr (ps:au Port)(v:Int)(p:aG):∀(l:eG){n:Int}{c:cM},n+641*(l.length:Int)<=600000000000->fN n c->fN (n+641*(l.length:Int)) (I6 ps v p c l)
 |[],n,c,_,g=>g.mono (by simp)
 |j::l,n,c,hn,g=>by simp only[aY]at hn;have i:=Nr ps v p l (n:=n+641) (by omega) (VO (by omega) g ps v p j);exact i.mono (by simp only[aY];push_cast;omega)
theorem DF (hn:n<=500000000000)(g:fN n c)(e:Int)(p:aG):fN (n+2564) (ou c e p):=by unfold ou;cases decide (np (cW c.2.2.1).1 e p<0)with|true=>exact g.mono|false=>have h1:=CO (cW c.2.2.1).1 e p;have h2:=(aa6 c.2.2.1).1;exact(Nr _ _ _ _ (by omega) g).mono
theorem P7 (hn:n<=500000000000)(g:fN n c)(e:Int)(p:aG):fN (n+2564) (qU c e p):=by unfold qU;cases kb c&&dU p with|true=>exact DF hn g e p|false=>exact g.mono
theorem Mv (hn:n<=500000000000)(g:fN n c)(x:Bytes):fN (n+2564) (pU c x):=by
 unfold pU;cases !kb c with|true=>exact g.mono|false=>?_
 cases (fF x).2==0 with|true=>exact DF hn (HX g) 0 _|false=>exact(HX g).mono
theorem acD {f:aP}(hk:k<l.length):(l.set k f).getD i GR=if i=k then f else l.getD i GR:=by rw[List.getD_eq_getElem?_getD,List.getD_eq_getElem?_getD];by_cases h:i=k;subst h;rw[aF rfl,List.getElem?_set_self hk];rfl;rw[aD h,List.getElem?_set_ne (cC h)]
theorem P4:gw l ps=true↔gW ps=true/\∀i,i<l.length->BH (ps.length:Int) (l.getD i GR)=true/\∀j,j<i->ZO (l.getD i GR) (l.getD j GR)=false:=by unfold gw fnB;simp only[ae,aC,bz,aH]
theorem acA {l':au aP}(h:gw l ps=true)(hl:l'.length=l.length)(hx:∀i,i<l.length->(l'.getD i GR).1=(l.getD i GR).1/\(l'.getD i GR).2.1=(l.getD i GR).2.1/\BH (ps.length:Int) (l'.getD i GR)=true):gw l' ps=true:=by rw[P4]at h⊢;refine⟨h.1,λi hi=>⟨(hx i (by omega)).2.2,λj hj=>?_⟩⟩;have q:=(h.2 i (by omega)).2 j hj;have a:=hx i (by omega);have b:=hx j (by omega);unfold ZO at q⊢;rw[a.1,a.2.1,b.1,b.2.1];exact q
theorem WO {l':au aP}(h:wU l i=true)(hx:(l'.getD i GR).1=(l.getD i GR).1/\(l'.getD i GR).2.1=(l.getD i GR).2.1):wU l' i=true:=by unfold wU at h⊢;rw[hx.1,hx.2];exact h
theorem Sp {m:Int}(g:fN n c)(hm:n<=m)(hl:l.length=c.2.1.length)(hx:∀i,i<c.2.1.length->(l.getD i GR).1=(c.2.1.getD i GR).1/\(l.getD i GR).2.1=(c.2.1.getD i GR).2.1/\BH ((cW c.2.2.1).1.length:Int) (l.getD i GR)=true)(hc:∀f∈l,f.2.2.2.2.1<=m/\f.2.2.2.2.2<=m):fN m (c.1,l,c.2.2):=by
 have q:=g.mono hm;refine⟨q.ports,⟨q.len.1,hl.trans q.len.2⟩,acA q.fns hl hx,q.boot,q.clock,q.host,λi hi=>?_,q.boxn,hc⟩;have hi:i<c.1.length:=hi;have hlt:i<c.2.1.length:=by have:=q.len;omega
 exact WO (q.place i hi) ⟨(hx i hlt).1,(hx i hlt).2.1⟩
theorem Ci {f:aP}:BH n f=true↔(0<=f.1/\f.1<=7)/\(1<=f.2.1/\f.2.1<=aq (n-1))/\gL f.2.2.1=true/\(0<=f.2.2.2.2.1/\f.2.2.2.2.1<=1000000000000)/\0<=f.2.2.2.2.2/\f.2.2.2.2.2<=1000000000000:=by unfold BH;simp only[ae,aS]
theorem OO {b:se}(h:gL b=true)(n:Int):gL (EL b n).1=true:=by unfold EL;cases hq:gL b&&cI n 0 b.2.2 with|false=>exact h|true=>simp only[ae,aS]at hq;unfold gL at h⊢;simp only[ae,aS,ah]at h⊢;rw[ak];exact⟨h.1,h.2.1,by omega,by omega⟩
theorem VN (hn:n<=500000000000)(g:fN n c)(k:Int)(p:aG):fN (n+1) (c.1,(tj c.2.1 (cW c.2.2.1).1 k p).1,c.2.2):=by
 have same:fN (n+1) (c.1,c.2.1,c.2.2):=g.mono;unfold tj;cases hq:gw c.2.1 (cW c.2.2.1).1&&(dU p&&(!decide (k<0)&& !decide (k>=(c.2.1.length:Int))))with|false=>exact same|true=>?_
 simp only[ah];cases hf:c.2.1[k.toNat]? with|none=>exact same|some f=>?_
 simp only;obtain⟨hlt,ef⟩:=List.getElem?_eq_some_iff.1 hf;have hF:=(P4.1 g.fns).2;have hfn:=g.fnn f (List.mem_of_getElem? hf);have fin:BH ((cW c.2.2.1).1.length:Int) f=true:=by have:=(hF k.toNat hlt).1;rw[cr hlt,ef]at this;exact this
 have hi:=Ci.1 fin;have go:∀f':aP,f'.1=f.1->f'.2.1=f.2.1->BH ((cW c.2.2.1).1.length:Int) f'=true->(f'.2.2.2.2.1<=n+1/\f'.2.2.2.2.2<=n+1)->fN (n+1) (c.1,c.2.1.set k.toNat f',c.2.2):=by intro f' e1 e2 e3 e4;refine Sp g (by omega) (aA ..) (λi hi=>?_) λx hx=>?_;rw[acD hlt];by_cases hik:i=k.toNat;rw[aF hik,hik,cr hlt,ef];exact⟨e1,e2,e3⟩;rw[aD hik];exact⟨rfl,rfl,(hF i hi).1⟩;rcases List.mem_or_eq_of_mem_set hx with e|e;have:=g.fnn x e;omega;rw[e];exact e4
 cases agD (cW c.2.2.1).1 f p with|true=>refine go _ rfl rfl (Ci.2 ⟨hi.1,hi.2.1,OO hi.2.2.1 _,?_,hi.2.2.2.2⟩) ?_;show 0<=aq (f.2.2.2.2.1+1)/\_;show 0<=aq (f.2.2.2.2.1+1)/\aq (f.2.2.2.2.1+1)<=1000000000000;rw[ak];omega;show aq (f.2.2.2.2.1+1)<=n+1/\f.2.2.2.2.2<=n+1;rw[ak];omega|false=>refine go _ rfl rfl (Ci.2 ⟨hi.1,hi.2.1,hi.2.2.1,hi.2.2.2.1,?_⟩) ?_;show 0<=aq (f.2.2.2.2.2+1)/\aq (f.2.2.2.2.2+1)<=1000000000000;rw[ak];omega;show f.2.2.2.2.1<=n+1/\aq (f.2.2.2.2.2+1)<=n+1;rw[ak];omega
structure oP (a b:cM):Prop where
 boxes:b.2.2.1=a.2.2.1
 flash:b.2.2.2.1=a.2.2.2.1
 clock:b.2.2.2.2.1=a.2.2.2.2.1
 stamps:b.2.2.2.2.2.1=a.2.2.2.2.2.1
 len:b.1.length=a.1.length
 up:∃w,b.2.2.2.2.2.2=a.2.2.2.2.2.2++w
theorem oP.refl (a:cM):oP a a:=⟨rfl,rfl,rfl,rfl,rfl,⟨[],(bw _).symm⟩⟩
theorem oP.trans {a b:cM}(h:oP a b)(g:oP b c):oP a c:=by obtain⟨w,hw⟩:=h.up;obtain⟨u,hu⟩:=g.up;exact⟨g.boxes.trans h.boxes,g.flash.trans h.flash,g.clock.trans h.clock,g.stamps.trans h.stamps,g.len.trans h.len,⟨w++u,by rw[hu,hw,aU]⟩⟩
theorem Wi (ps:au Port)(v:Int)(p:aG)(c:cM)(j:Nat):oP c (cG ps v p c j):=by unfold cG;cases j==0 with|true=>exact⟨rfl,rfl,rfl,rfl,rfl,⟨_,rfl⟩⟩|false=>simp only[af];cases hc:c.1[j-1]? with|none=>exact oP.refl c|some h=>exact⟨rfl,rfl,rfl,rfl,aA ..,⟨[],(bw _).symm⟩⟩
theorem NJ (ps:au Port)(v:Int)(p:aG):∀(l:eG)(c:cM),oP c (I6 ps v p c l)
 |[],c=>oP.refl c
 |j::l,c=>(Wi ps v p c j).trans (NJ ps v p l _)
theorem DR (c:cM)(e:Int)(p:aG):oP c (ou c e p):=by unfold ou;cases decide (np (cW c.2.2.1).1 e p<0)with|true=>exact oP.refl c|false=>exact NJ ..
theorem Qo (c:cM)(e:Int)(p:aG):oP c (qU c e p):=by unfold qU;cases kb c&&dU p with|true=>exact DR ..|false=>exact oP.refl c
theorem K5 (ps:au Port)(k:Int)(c:cM)(x:Bytes):oP c (zy ps k c x):=by
 unfold zy;have e:oP c (c.1,(tj c.2.1 ps k (fF x).1).1,c.2.2):=⟨rfl,rfl,rfl,rfl,rfl,⟨[],(bw _).symm⟩⟩
 cases (tj c.2.1 ps k (fF x).1).2.2 with|true=>exact e.trans (Qo ..)|false=>exact e
theorem K6 (ps:au Port)(k:Int):∀(l:bE)(c:cM),oP c (BN ps k c l)
 |[],c=>oP.refl c
 |x::l,c=>(K5 ps k c x).trans (K6 ps k l _)
theorem ags (c:cM)(k:Int):oP c (tw c k):=by
 unfold tw;cases kb c&&(!decide (k<0)&& !decide (k>=(c.1.length:Int)))with|false=>exact oP.refl c|true=>?_
 simp only[ah];cases c.1[k.toNat]? with|none=>exact oP.refl c|some h=>exact(show oP c (QL c k.toNat (eZ h)) from⟨rfl,rfl,rfl,rfl,aA ..,⟨[],(bw _).symm⟩⟩).trans (K6 ..)
theorem VM (hn:n<=400000000000)(g:fN n c)(k:Int)(x:Bytes):fN (n+2565) (zy (cW c.2.2.1).1 k c x):=by have q:=VN (by omega) g k (fF x).1;unfold zy;cases (tj c.2.1 (cW c.2.2.1).1 k (fF x).1).2.2 with|true=>exact(P7 (by omega) q _ _).mono|false=>exact q.mono
theorem KJ (k:Int)(ps:au Port):∀(l:bE){n:Int}{c:cM},n+2565*(l.length:Int)<=400000000000->ps=(cW c.2.2.1).1->fN n c->fN (n+2565*(l.length:Int)) (BN ps k c l)
 |[],n,c,_,_,g=>g.mono (by simp)
 |x::l,n,c,hn,hp,g=>by simp only[aY]at hn;have s:=VM (by omega) g k x;rw[<-hp]at s;have i:=KJ k ps l (n:=n+2565) (by omega) (by rw[(K5 ps k c x).boxes];exact hp) s;exact i.mono (by simp only[aY];push_cast;omega)
theorem af4 (hn:n<=300000000000)(g:fN n c)(k:Int):fN (n+14000000) (tw c k):=by
 unfold tw;cases kb c&&(!decide (k<0)&& !decide (k>=(c.1.length:Int)))with|false=>exact g.mono|true=>?_
 simp only[ah];cases hc:c.1[k.toNat]? with|none=>exact g.mono|some h=>have q:=GU g (cu n) hc (DG (g.at hc)) (Fg h);have hl:=Hj h;exact(KJ k (cW c.2.2.1).1 (H7 h) (c:=QL c k.toNat (eZ h)) (by omega) rfl q).mono
def Ea (s:Bytes):Prop:=∀x∈s,x=0
theorem Q9 (h:Ea s):s=List.replicate s.length 0:=List.eq_replicate_iff.2 ⟨rfl,h⟩
theorem Mj (n:Nat):Ea (uO n):=by intro x hx;simp only[uO,aJ,List.map_replicate]at hx;exact(List.mem_replicate.1 hx).2
theorem afG {t:Bytes}(h:Ea s)(k:Ea t)(e:s.length=t.length):s=t:=by rw[Q9 h,Q9 k,e]
theorem ar9 {o:Nat}{t:Bytes}(hx:Ea x)(ht:Ea t)(h:o+t.length<=x.length):Aq x o t=x:=by refine afG (λy hy=>?_) hx (NY h);unfold Aq at hy;rcases ay.1 hy with g|g;exact hx y (List.mem_of_mem_take g);rcases ay.1 g with g|g;exact ht y g;exact hx y (List.mem_of_mem_drop g)
theorem afA:∀(n:Nat){m:bE}{a:Nat}{s:Bytes},zR m->(∀x∈m,Ea x)->Ea s->a+s.length<=128*m.length->vq n m a s=m
 |0,m,a,s,_,_,_,_=>rfl
 |n+1,m,a,s,hp,hm,hs,hl=>by rw[vq];by_cases h0:s.length=0;rw[aF h0];rw[aD h0];obtain⟨h1,h2,_⟩:=Bu hp h0 hl;have ho:Aq (m[a/128]'h1) (a%128) (s.take (128-a%128))=m[a/128]'h1:=ar9 (hm _ (aL h1)) (λy hy=>hs y (List.mem_of_mem_take hy)) (by rw[h2,aO];omega);rw[cr h1,ho,List.set_getElem_self];exact afA n hp hm (λy hy=>hs y (List.mem_of_mem_drop hy)) (by rw[aI];omega)
theorem ahh (a:Int)(hm:∀x∈m,Ea x)(hs:Ea s):(nS m a s).1=m:=by
 unfold nS;cases hw:fT m a (s.length:Int)with|false=>rfl|true=>?_
 simp only[fT,ae,aE]at hw;exact afA s.length (oE.1 hw.1) hm hs (by omega)
theorem ahu:∀(q:au (Int×Int)){m:bE}{s:Bytes},(∀x∈m,Ea x)->Ea s->Ht q m s=m
 |[],m,s,_,_=>rfl
 |p::q,m,s,hm,hs=>by rw[Ht,ahh _ hm (λy hy=>hs y (List.mem_of_mem_take hy))];exact ahu q hm (λy hy=>hs y (List.mem_of_mem_drop hy))
theorem asa (hm:∀x∈m,Ea x)(hs:Ea s)(l:au aB)(d a:Int)(w:Bool):(gR l m d a s w).1=m:=by unfold gR;cases (jO l m d a (s.length:Int) w).2 with|false=>rfl|true=>exact ahu _ hm hs
def yM (n:Nat):bE:=List.replicate n (uO 128)
theorem alv {n:Nat}:∀x∈yM n,Ea x:=λx hx=>by rw[(List.mem_replicate.1 hx).2];exact Mj 128
theorem aaw (n:Nat):yM (n+1)=yM n++[uO 128]:=List.replicate_succ'
theorem LR (n:Nat)(h:n<=64:=by omega):mV (n:Int)=some (yM n):=by have hz:fJ 128 0=some (uO 128):=LP 128;unfold mV;refine da (λi=>((i:Int),yM i)) n (by omega) (λi nx hi=>?_) (λnx=>?_);simp only[pn];rw[ar (show(i:Int)<n by omega),ah,iV,ab,ah,hz,ab,aM (by simp[yM];omega),ak,aaw];rfl;simp only[pn];rw[al (show¬(n:Int)<n by omega),af,ab,af]
def pR (a b:Int):Vector×Bool:=bif eo (a,b,0,0,false,false) then((a,b,0,0,false,false),true) else((0,0,0,0,false,false),false)
theorem LS (a b:Int):uB a b=some (pR a b):=by unfold uB pR;rw[EK,ab];cases eo (a,b,0,0,false,false)<;>rfl
def qZ (i:Nat):au aB:=(List.range i).map λ(p:Nat)=>(0,(p:Int),37-(p:Int), !cI (p:Int) 2 9)
theorem Lf (i:Nat):qZ (i+1)=qZ i++[(0,(i:Int),37-(i:Int), !cI (i:Int) 2 9)]:=by simp[qZ,fW]
theorem Am (i:Nat):(qZ i).length=i:=by simp[qZ]
def aoW:Host:=(([]:bE),([]:au aB),((0,0,0,0),(0,0,0,([]:bN)),([]:au ni),0),([]:au cj),([]:au c8),([]:au Vector),([]:au Bool),(0,false,([]:bN)),(([]:au lI),([]:au Slot),([]:Bytes),([]:bN)),([]:au Stream),false,([]:bE),([]:bN),([]:bN),0,0,0,0,0)
def Nu (f:Filter)(s:dp)(c:Bool)(i:Nat):Host:=(yM 38,qZ i,BQ,([]:au cj),([]:au c8),([]:au Vector),([]:au Bool),f,s,([]:au Stream),c,([]:bE),([]:bN),([]:bN),0,0,0,0,0)
def Nc:bE×jY×c8×Int:=s9 (qZ 38) (yM 38) 0 (CG 0).1 (gF (gr 0+128) 384 4).1
def ahp (f:Filter)(s:dp)(c:Bool)(v:Vector):Host:=(Nc.1,qZ 38,BQ,[(Nc.2.1,(CG 0).2)],[Nc.2.2.1],[v],[false],f,s,([]:au Stream),c,([]:bE),([]:bN),([]:bN),0,0,0,0,0)
def mK (f:Filter)(s:dp)(c:Bool)(a b:Int):Host×Bool:=
 bif ei f&&(ew s 1&&(pR a b).2) then(ahp f s c (pR a b).1,true) else(aoW,false)
theorem Im (f:Filter)(s:dp)(c:Bool)(a b:Int)(hf:f.2.2.length<=1000000000)(h1:s.1.length<=1000000000)(h2:s.2.1.length<=1000000000)(h3:s.2.2.2.length<=1000000000):qM 1 f s c a b=some (mK f s c a b):=by
 have hfu:=dT;unfold qM mK;rw[LS,ab,dy,ab,show cI (1:Int) 1 2=true from aS.2 (by omega),Bg f hf,Gi s 1 h1 h2 h3];simp only[aj,af,ab];cases ei f with|false=>rfl|true=>?_
 cases ew s 1 with|false=>rfl|true=>?_
 generalize pR a b=v;cases hv:v.2 with|false=>rfl|true=>?_
 have hm:mV 38=some (yM 38):=LR 38;simp only[aj,af,ab,fi,ah,hm,Oj,yz f hf,DY s h1 h2 h3];refine da (λi=>((i:Int),Nu f s c i)) 38 (by omega) (λi nx hi=>?_) (λnx=>?_);have hl:=Am i;simp only[oc];rw[iV,ah,dy,ab,aM (by show(qZ i).length+1<=_;omega),ak (n:=(i:Int)+1),ak (n:=37-(i:Int))];show nx ((i:Int)+1,yM 38,qZ i++_,_)=nx (((i+1:Nat):Int),yM 38,qZ (i+1),_);rw[Lf];rfl;simp only[oc];rw[gT,af];have h38:=Am 38;have hmem:(yM 38).length<=1000000000:=by rw[yM,List.length_replicate];omega
 have ho:rb (qZ 38) (yM 38) 0=Nc:=by unfold rb Nc;rw[asa alv (Mj 128)];rfl
 have e1:(CG 0).2=((gr 0+64,4,0),(gr 0+64,4,0),((0,0,0,0,0,0,0,0,0,0,0,0,0,0,0,([]:Bytes)),0,0),false,0):=rfl;have hop:=Uv (yM 38,qZ 38,BQ,[((0,0,0,0),(0,0,0),(0,0,0),((0,0,0,0,0,0,0,0,0,0,0,0,0,0,0,([]:Bytes)),0,0),false,0)],[(0,0,0,([]:bN))],[v.1],[false],f,s,([]:au Stream),c,([]:bE),([]:bN),([]:bN),0,0,0,0,0) 0 (by omega) (Nat.lt_succ_self 0) (Nat.lt_succ_self 0) (by show(qZ 38).length<=_;omega) hmem;unfold NV at hop;simp only[ho,List.set_cons_zero,List.getElem?_cons_zero,show((0:Nat):Int)=0 from rfl]at hop;obtain⟨g,hg⟩:∃g,fuel=g+2:=⟨fuel-2,by omega⟩
 unfold Nu ahp;rw[e1];generalize gr 0=bb at hop⊢;generalize Nc=o at hop⊢;generalize yM 38=m at hop⊢;generalize qZ 38=l at hop⊢;rw[hg,bc,mU];rw[iV,ah];simp only;rw[aM (by simp),aM (by simp),aM (by simp),aM (by simp)];simp only[bW];rw[hop,ab,bc,mU,ak,gT,af]
def acb:cM:=(([]:au Host),([]:au aP),([]:au bC),([]:bE),(0,0,0,0),([]:bN),([]:bE))
def MG (st:dp)(c:Bool)(bk:se)(x:bC)(s:au Host×au aP):Except (aw (cM×Bool)) (au Host×au aP):=
 if(mK x.1 st c 1 2).2=true then .ok (s.1++[(mK x.1 st c 1 2).1],s.2++[((s.2.length:Int),(s.2.length:Int)+1,bk,true,0,0)]) else .error (some (acb,false))
def uo (ms:au bC)(st:dp)(c:Bool)(bk:se)(f:bE)(t:Int):aw (cM×Bool):=
 bif (cW ms).2&&(gL bk&&(!decide (gD f<0)&&pw (0,0,t,0))) then
  zT (MG st c bk) (λs=>some ((s.1,s.2,ms,f,(0,0,t,0),([]:bN),([]:bE)),true)) ms ([],[])
 else some (acb,false)
theorem Uu (ms:au bC)(st:dp)(c:Bool)(bk:se)(f:bE)(t:Int)(hm:ms.length<=1000000000)(hx:∀m∈ms,m.1.2.2.length<=1000000000)(hf:f.length<=1000000000)(h1:st.1.length<=1000000000)(h2:st.2.1.length<=1000000000)(h3:st.2.2.2.length<=1000000000):qL ms st c bk f t=uo ms st c bk f t:=by
 have hfu:=dT;unfold qL uo;rw[Uw ms hx,ab,kz];simp only[LO,adT,Oc,ab];cases hp:(cW ms).2 with|false=>rfl|true=>?_
 cases gL bk with|false=>rfl|true=>?_
 cases decide (gD f<0)with|true=>rfl|false=>?_
 cases pw (0,0,t,0)with|false=>rfl|true=>?_
 have h3':=Ig hp;simp only[aj,af,ab,fi,br,ah,bW];refine rQ ms (λs i=>(((i:Int),s.1,s.2,ms.take i,f,(0,0,t,0),([]:bN),([]:bE)):Int×cM)) (λi s=>s.1.length=i/\s.2.length=i) (MG st c bk) _ (by omega) (λi hi s nx hI=>?_) (λi hi s s' hI he=>?_) (λs nx hI=>?_) ([],[]) ⟨rfl,rfl⟩;simp only[sH];rw[iV,ah,bp hi,ab,Im _ st c 1 2 (hx _ (aL hi)) h1 h2 h3,ab];unfold MG;cases hb:(mK ms[i].1 st c 1 2).2 with|false=>rfl|true=>rw[aF rfl];simp only[aj,af];rw[aM (by rw[aV];omega),aM (by rw[aV];omega),ab,I9 _ (hx _ (aL hi)),ab,aM (by rw[aV,aO];omega),ak,hI.2,aW hi];rfl
 unfold MG at he;split at he;injection he with he;rw[<-he];simp[hI.1,hI.2];cases he;simp only[sH];rw[gT,af,cm]
def Ends (o:aw α)(P:α->Prop):Prop:=∃x,o=some x/\P x
theorem Ends.pure {x:α}{P:α->Prop}(h:P x):Ends (some x) P:=⟨x,rfl,h⟩
theorem Ends.bind {o:aw α}{P:α->Prop}{k:α->aw R}{Q:R->Prop}(h:Ends o P)(hk:∀x,P x->Ends (k x) Q):Ends (aa o k) Q:=by obtain⟨x,rfl,hx⟩:=h;exact hk x hx
theorem Ends.mono {o:aw α}{P Q:α->Prop}(h:Ends o P)(hq:∀x,P x->Q x):Ends o Q:=by obtain⟨x,hx,hp⟩:=h;exact⟨x,hx,hq x hp⟩
theorem Ends.cond {α:Type}{c:Bool}{a b:aw α}{P:α->Prop}(h1:c=true->Ends a P)(h2:c=false->Ends b P):Ends (cond c a b) P:=by cases c with|true=>exact h1 rfl|false=>exact h2 rfl
theorem Ends.ifn {p:Prop}[Decidable p]{a:aw α}{P:α->Prop}(h:¬p)(ha:Ends a P):Ends (if p then none else a) P:=by rw[aD h];exact ha
theorem Ends.room {α:Type}{n:Nat}{k:aw α}{P:α->Prop}(h:n<=1073741824)(hk:Ends k P):Ends (room n k) P:=by rw[aM h];exact hk
theorem Ends.of {o:aw α}{x:α}{P:α->Prop}(h:o=some x)(hp:P x):Ends o P:=⟨x,h,hp⟩
theorem Ends.iter {σ:Type}{T:(σ->aw R)->σ->aw R}{Q:R->Prop}(I:σ->Prop)(m:σ->Nat)(hs:∀x nx,I x->(∀y,I y->m y<m x->Ends (nx y) Q)->Ends (T nx x) Q): ∀n x,I x->m x<n->Ends (bc T n x) Q:=by intro n;induction n with|zero=>intro x _ h;omega|succ n ih=>intro x hx hm;rw[bc];exact hs x _ hx λy hy hlt=>ih y hy (by omega)
theorem Ends.uN {σ:Type}{T:(σ->aw R)->σ->aw R}{Q:R->Prop}(I:σ->Prop)(m:σ->Nat){x:σ}(hx:I x)(hm:m x<=1000000000000)(hs:∀x nx,I x->(∀y,I y->m y<m x->Ends (nx y) Q)->Ends (T nx x) Q):Ends (bc T fuel x) Q:=Ends.iter I m hs fuel x hx (by have:=dT;omega)
theorem Ends.idx {α R:Type}{xs:au α}{i:Int}{k:α->aw R}{Q:R->Prop}(h0:0<=i)(h1:i<(xs.length:Int))(hk:∀(h:i.toNat<xs.length),Ends (k xs[i.toNat]) Q):Ends (aa (idx xs i) k) Q:=by
 obtain⟨n,rfl⟩:=aN h0;have hn:n<xs.length:=by omega
 rw[bp hn,ab];exact hk (by simpa using hn)
abbrev w6:=bN×Int×Int
def Cu (c:w6):Prop:=0<=c.2.1/\c.2.1<=(c.1.length:Int)/\c.1.length<=1048576
theorem ab2 (x y:Int)(n:Nat)(hy:(gu y).toNat=n)(hn:n<9223372036854775808):0<=aq (BitVec.toNat (gu x&&&gu y))/\aq (BitVec.toNat (gu x&&&gu y))<=n:=by
 have h:(gu x&&&gu y).toNat<=n:=by rw[BitVec.toNat_and,hy];exact Nat.and_le_right
 generalize (gu x&&&gu y).toNat=k at h;rw[ak];omega
theorem alH {a:bN}(ha:a.length<=1048576):Ends (zC a) Cu:=by
 unfold zC;refine Ends.uN (λx=>0<=x.2/\x.2<=4000) (λx=>(4000-x.2).toNat) ⟨by omega,by omega⟩ (by simp) λx nx hx hn=>?_;unfold yC;refine Ends.bind (P:=λb=>b=true->x.2<(a.length:Int)/\x.2<4000) (Ends.cond (λh=>Ends.pure λh2=>⟨bn h,bn h2⟩) λh=>Ends.pure λh2=>by cases h2) λq hq=>?_;refine Ends.cond (λh=>?_) (λh=>Ends.pure ⟨cu _,by simp,ha⟩);have hq:=hq h;refine Ends.idx hx.1 hq.1 λ_=>hn _ ⟨?_,?_⟩ ?_;all_goals simp only[ak (n:=x.2+1) (by omega) (by omega)]
 all_goals omega
theorem C3 {c:w6}(h:Cu c):Ends (jG c) λr=>(0<=r.1/\r.1<=255)/\Cu r.2:=by
 unfold jG;refine Ends.ifn (by decide) (Ends.ifn (by decide) (Ends.cond (λh1=>?_) λh1=>?_))
 ·have h1:=bn h1;refine Ends.idx h.1 h1 λ_=>Ends.pure ⟨ab2 _ 255 255 rfl (by decide),?_⟩;refine⟨?_,?_,h.2.2⟩;all_goals simp only[ak (n:=c.2.1+1) (by have:=h.1;omega) (by have:=h.2.2;omega)]
  have:=h.1;omega;omega
 exact Ends.pure ⟨ab2 _ 255 255 rfl (by decide),h.1,h.2.1,h.2.2⟩
theorem fX {c:w6}(h:Cu c)(hn:0<n:=by omega):Ends (cD c n) λr=>(0<=r.1/\r.1<n)/\Cu r.2:=by unfold cD;rw[gT];simp only[af];refine Ends.cond (λh1=>?_) λh1=>?_;refine(C3 h).bind λr hr=>Ends.ifn (by omega) (Ends.pure ⟨⟨Int.tmod_nonneg _ hr.1.1,Int.tmod_lt_of_pos _ hn⟩,hr.2⟩);refine(C3 h).bind λr2 h2=>(C3 h2.2).bind λr3 h3=>(C3 h3.2).bind λr4 h4=>(C3 h4.2).bind λr5 h5=>Ends.ifn (by omega) (Ends.pure ⟨⟨Int.tmod_nonneg _ ?_,Int.tmod_lt_of_pos _ hn⟩,h5.2⟩);have a2:=h2.1;have a3:=h3.1;have a4:=h4.1;have a5:=h5.1;rw[ak (n:=r2.1*16777216),ak (n:=r3.1*65536),ak (n:=r4.1*256)];rw[ak (n:=r2.1*16777216+r3.1*65536)];rw[ak (n:=r2.1*16777216+r3.1*65536+r4.1*256)];rw[ak];omega
theorem ab4 {c:w6}(h:Cu c)(n:Int):Ends (cD c n) λr=>(0<=r.1/\(r.1<n\/r.1=0))/\Cu r.2:=by
 rcases Int.lt_or_le 0 n with hn|hn;exact(fX h hn).mono λr hr=>⟨⟨hr.1.1,Or.inl hr.1.2⟩,hr.2⟩
 unfold cD;rw[ar hn];exact Ends.pure ⟨⟨cu _,Or.inr rfl⟩,h⟩
theorem sA {c:w6}(h:Cu c)(n:Int):Ends (fK c n) λr=>Cu r.2:=by unfold fK;exact(ab4 h n).bind λr hr=>Ends.pure hr.2
theorem ji {c:w6}(h:Cu c){l:bN}{P:Int->Prop}(hl:0<l.length)(hp:∀x∈l,P x):Ends (cK c l) λr=>P r.1/\Cu r.2:=by unfold cK;exact(fX h).bind λr hr=>Ends.idx hr.1.1 hr.1.2 λhi=>Ends.pure ⟨hp _ (aL hi),hr.2⟩
theorem Dt {c:w6}(h:Cu c)(n:Int):Ends (jH c n) λr=>(r.1.length<=5000/\(0<=n->n<=5000->(r.1.length:Int)=n)/\(n<=0->r.1=[]))/\Cu r.2:=by
 have key:∀v:Int,v<=5000->∀Q:(Bytes×w6)->Prop,(∀x c,((x.length:Int)=v\/(v<=0/\x=[]))->Cu c->Q (aJ x,c))->Ends (bc (oh (λy _ z=>some (aJ y,z)) v) fuel (([]:bN),0,c)) Q:=by
  intro v hv Q hQ;refine Ends.uN (λx=>(x.1.length:Int)=x.2.1/\(x.2.1<=v\/x.2.1=0)/\Cu x.2.2) (λx=>(v-x.2.1).toNat) ⟨rfl,Or.inr rfl,h⟩ (by simp;omega) λx nx hx hn=>?_;unfold oh;refine Ends.cond (λh1=>?_) λh1=>Ends.pure (hQ _ _ ?_ hx.2.2)
  ·have h1:=bn h1;refine(C3 hx.2.2).bind λr hr=>Ends.room (by simp;omega) (hn _ ⟨?_,?_,hr.2⟩ ?_);all_goals simp only[ak (n:=x.2.1+1) (by omega) (by omega)]
   simp;omega;omega;omega
  have h1:=of_decide_eq_false h1;rcases hx.2.1 with h2|h2;exact Or.inl (by omega);rcases Int.lt_or_le 0 v with h3|h3;omega;exact Or.inr ⟨h3,ca (by omega)⟩
 have hb:∀x:bN,(aJ x).length=x.length:=λx=>by simp[aJ]
 unfold jH;refine Ends.cond (λh1=>?_) λh1=>?_;have h1:=bn h1;refine key 5000 (by omega) _ λx c hx hc=>⟨⟨by rw[hb];rcases hx with hx|hx<;>omega,λ_ _=>by omega,λ_=>by omega⟩,hc⟩
 have h1:=of_decide_eq_false h1;refine key n (by omega) _ λx c hx hc=>⟨⟨?_,λh0 _=>?_,λh0=>?_⟩,hc⟩
 rw[hb];rcases hx with hx|hx;omega;rw[hx.2];simp;rw[hb];rcases hx with hx|hx;omega;rw[hx.2];simp;omega;rcases hx with hx|hx;have:x=[]:=ca (by omega);rw[this];rfl;rw[hx.2];rfl
theorem acJ {c:w6}(h:Cu c):Ends (xx c) λr=>(167772161<=r.1/\r.1<=167772163)/\Cu r.2:=by unfold xx;refine(fX h (by decide)).bind λr hr=>Ends.pure ⟨?_,hr.2⟩;have:=hr.1;simp only[ak (n:=167772161+r.1) (by omega) (by omega)];omega
theorem ZL {c:w6}(h:Cu c):Ends (vY c) λr=>(0<=r.1/\r.1<=31)/\Cu r.2:=by unfold vY;exact(ji (P:=λx=>0<=x/\x<=31) h (by decide) (by decide)).bind λr hr=>Ends.pure hr
theorem al9 {c:w6}(h:Cu c){m:Int}(h0:0<=m)(h1:m<=320):Ends (sN c m) λr=>(rR r.1=true/\(r.1.2.2.2.2.2.2.2.length:Int)<=m)/\Cu r.2:=by
 unfold sN;refine(fX h (by decide)).bind λr1 p1=>(fX p1.2 (by decide)).bind λr2 p2=>?_;refine(ji (P:=λx=>0<=x/\x<=4294967295) p2.2 (by simp) ?_).bind λr3 p3=>?_;have:=p2.1;intro x hx;simp only[bG,List.not_mem_nil,or_false]at hx;omega;refine(ji (P:=λx=>0<=x/\x<=4294967295) p3.2 (by decide) (by decide)).bind λr4 p4=>(ZL p4.2).bind λr5 p5=>?_;refine(ji (P:=λx=>0<=x/\x<=65535) p5.2 (by decide) (by decide)).bind λr6 p6=>?_;rw[ak (n:=m+1)];refine(fX p6.2).bind λr7 p7=>(Dt p7.2 r7.1).bind λr8 p8=>(sA p8.2 4).bind λr9 p9=>?_;have a1:=p1.1;have a7:=p7.1;have a8:=p8.1.2.1 a7.1 (by omega);rw[ak (n:=1000+r1.1)];refine Ends.cond (λ_=>Ends.pure ⟨⟨adL (by omega) (by omega) (by omega),?_⟩,p9⟩) λ_=>Ends.pure ⟨⟨Uk (by omega) (by omega) p3.1 p4.1 p5.1 p6.1 (by omega),?_⟩,p9⟩;all_goals show(r8.1.length:Int)<=m
 all_goals omega
theorem aaY {c:w6}(h:Cu c){m:Int}(h0:0<=m)(h1:m<=320):Ends (mX c m) λr=>(dh r.1=true/\(r.1.2.2.2.2.2.2.2.2.2.2.2.2.2.2.2.length:Int)<=m/\(r.1.2.2.2.2.2.2.2.2.1=6\/r.1.2.2.2.2.2.2.2.2.1=17))/\Cu r.2:=by
 unfold mX;refine(ji (P:=λx=>0<=x/\x<=281474976710655) h (by decide) (by decide)).bind λr1 p1=>?_;refine(ji (P:=λx=>0<=x/\x<=281474976710655) p1.2 (by decide) (by decide)).bind λr2 p2=>?_;refine(ji (P:=λx=> -1<=x/\x<=4095) p2.2 (by decide) (by decide)).bind λr3 p3=>?_;refine(ji (P:=λx=>0<=x/\x<=255) p3.2 (by decide) (by decide)).bind λr4 p4=>?_;refine(ji (P:=λx=>0<=x/\x<=65535) p4.2 (by decide) (by decide)).bind λr5 p5=>?_;refine(ji (P:=λx=>0<=x/\x<=255) p5.2 (by decide) (by decide)).bind λr6 p6=>?_;refine(acJ p6.2).bind λr7 p7=>?_;refine(al9 p7.2 (m:=if 128<m then 128 else m) (by split<;>omega) (by split<;>omega)).bind λr8 p8=>?_;have hh:∀g:eX,rR g=true->oR (r1.1,r2.1,r3.1,r4.1,r5.1,r6.1,r7.1,167772161,g)=true:=λg hg=>acH p1.1 p2.1 p3.1 p4.1 p5.1 p6.1 (by have:=p7.1;omega) (by omega) hg;have hk:∀g:eX,rR g=true->g.1=6\/g.1=17:=by intro g hg;unfold rR at hg;simp only[ae]at hg;have h2:=hg.2.2.2;cases h17:g.1==17 with|true=>exact Or.inr (by simpa using h17)|false=>rw[h17]at h2;simp only[af,ae]at h2;exact Or.inl (by simpa using h2.1)
 have hl:(r8.1.2.2.2.2.2.2.2.length:Int)<=128/\(r8.1.2.2.2.2.2.2.2.length:Int)<=m:=by have:=p8.1.2;split at this<;>omega
 have short:∀c':w6,Cu c'->Ends (some ((r1.1,r2.1,r3.1,r4.1,r5.1,r6.1,r7.1,(167772161:Int),r8.1),c')) λr:aG×w6=>(dh r.1=true/\(r.1.2.2.2.2.2.2.2.2.2.2.2.2.2.2.2.length:Int)<=m/\(r.1.2.2.2.2.2.2.2.2.1=6\/r.1.2.2.2.2.2.2.2.2.1=17))/\Cu r.2:=by intro c' hc';refine Ends.pure ⟨⟨?_,hl.2,hk _ p8.1.1⟩,hc'⟩;unfold dh;rw[hh _ p8.1.1,bj];have:decide ((r8.1.2.2.2.2.2.2.2.length:Int)<=128)=true:=ar hl.1;show(decide ((r8.1.2.2.2.2.2.2.2.length:Int)<=128)||_)=true;rw[this,gI]
 refine Ends.cond (λk1=>Ends.cond (λk2=>Ends.cond (λk3=>?_) λ_=>short _ p8.2) λ_=>short _ p8.2) λ_=>short _ p8.2;have k3:=bn k3;refine(sA p8.2 2).bind λr9 p9=>Ends.cond (λ_=>?_) λ_=>short _ p9;rw[ak (n:=m-128),ak (n:=m-128+1)];refine(fX p9).bind λr10 p10=>?_;have a10:=p10.1;rw[ak (n:=128+r10.1)];refine(Dt p10.2 _).bind λr11 p11=>?_;have a11:=p11.1.2.1 (by omega) (by omega);have hs:=abh p8.1.1 (x:=r11.1) (by omega);refine Ends.pure ⟨⟨?_,by show(r11.1.length:Int)<=m;omega,Or.inl (by simpa using k1)⟩,p11.2⟩;unfold dh;rw[hh _ hs,bj];rw[Kx _ (Dp p8.1.1 k1)]at k2;show(_||(r8.1.1==6)&&AH r8.1.2.2.2.2.2.1)=true;rw[k1,k2,cq,gH]
def Plain (p:aG):Prop:=oR p=true/\p.2.2.2.2.2.2.2.2.2.2.2.2.2.2.2.length<=40
theorem Plain.ok (h:Plain p):dU p=true:=(TT p).2 ⟨h.1,by have:=h.2;omega⟩
theorem F2 {c:w6}(h:Cu c):Ends (mX c 40) λr=>Plain r.1/\Cu r.2:=(aaY h (by omega) (by omega)).mono λr hr=>⟨⟨by have:=hr.1.1;unfold dh at this;simp only[ae]at this;exact this.1,by have:=hr.1.2.1;omega⟩,hr.2⟩
theorem ac9 {Q:R->Prop}{k0:au aG->w6->aG->aw R}{l:au aG}{z:Int}{c:w6}(hl:l.length<=1000)(hc:Cu c)(hp:Plain p)(hk:∀c' p',Cu c'->Plain p'->Ends (k0 (l++[p]) c' p') Q):Ends (mZ k0 l z n c p) Q:=by
 unfold mZ;have hi:=agG (KM hp.1);have hs:=yg hp.1;refine Ends.room (by simp;omega) (Ends.ifn (by decide) (Ends.cond (λh6=>?_) λ_=>hk _ _ hc ⟨Ab hp.1 hi hs,hp.2⟩));have h6:p.2.2.2.2.2.2.2.2.1=6:=by simpa using h6
 refine(sA hc 8).bind λr hr=>Ends.cond (λ_=>Ends.ifn (by decide) (hk _ _ hr ⟨Ab hp.1 hi ?_,hp.2⟩)) λ_=>hk _ _ hr ⟨Ab hp.1 hi hs,hp.2⟩;have k:=YD hs h6;have hlen:p.2.2.2.2.2.2.2.2.2.2.2.2.2.2.2.length<=320:=by have:=hp.2;omega
 exact LH hs h6 (adn k.2.2.1 hlen) k.2.2.2.2.1 hlen
theorem ac8 {Q:R->Prop}{k0:au aG->w6->aG->aw R}{l:au aG}{z:Int}{c:w6}(hl:l.length<=1000)(hz:1<=z/\z<=40)(hc:Cu c)(hp:Plain p)(hk:∀q c' p',Plain q->Cu c'->Plain p'->Ends (k0 (l++[q]) c' p') Q):Ends (mY k0 l z n c p) Q:=by
 unfold mY;refine Ends.cond (λh6=>?_) λ_=>ac9 hl hc hp λc' p' h1 h2=>hk _ _ _ hp h1 h2;have h6:p.2.2.2.2.2.2.2.2.1=6:=by simpa using h6
 refine(ji (P:=λx=>0<=x/\x<=31) hc (by decide) (by decide)).bind λr8 p8=>(Dt p8.2 z).bind λr9 p9=>?_;have a9:=p9.1.2.1 (by omega) (by omega);have hs:=yg hp.1;have hq:Plain (p.1,p.2.1,p.2.2.1,p.2.2.2.1,p.2.2.2.2.1,p.2.2.2.2.2.1,p.2.2.2.2.2.2.1,p.2.2.2.2.2.2.2.1,p.2.2.2.2.2.2.2.2.1,p.2.2.2.2.2.2.2.2.2.1,p.2.2.2.2.2.2.2.2.2.2.1,p.2.2.2.2.2.2.2.2.2.2.2.1,p.2.2.2.2.2.2.2.2.2.2.2.2.1,r8.1,p.2.2.2.2.2.2.2.2.2.2.2.2.2.2.1,r9.1):=⟨Ab hp.1 (KM hp.1) (LH hs h6 (YD hs h6).2.2.1 p8.1 (by omega)),by show r9.1.length<=40;omega⟩
 exact ac9 hl p9.2 hq λc' p' h1 h2=>hk _ _ _ hq h1 h2
theorem ahr {Q:R->Prop}{k0:au aG->Int->w6->aG->aw R}{l:au aG}{z:Int}{c:w6}(hl:l.length<=1000)(hz:1<=z/\z<=40)(hc:Cu c)(hp:Plain p)(hk:∀q z' c' p',Plain q->(1<=z'/\z'<=40)->Cu c'->Plain p'->Ends (k0 (l++[q]) z' c' p') Q):Ends (oo k0 l z n c p) Q:=by unfold oo;refine(sA hc 6).bind λr6 p6=>Ends.cond (λ_=>?_) λ_=>ac8 hl hz p6 hp λq c' p' h1 h2 h3=>hk _ _ _ _ h1 hz h2 h3;refine(fX p6 (by decide)).bind λr7 p7=>?_;have a7:=p7.1;rw[ak (n:=1+r7.1)];exact ac8 hl (by omega) p7.2 hp λq c' p' h1 h2 h3=>hk _ _ _ _ h1 (by omega) h2 h3
theorem aqe {Q:R->Prop}{k0:au aG->Int->Int->w6->aG->aw R}{l:au aG}{z:Int}{c:w6}(hl:l.length<=1000)(hz:1<=z/\z<=40)(hn:0<n/\n<=1000)(hc:Cu c)(hp:Plain p)(hk:∀q z' c' p',Plain q->(1<=z'/\z'<=40)->Cu c'->Plain p'->Ends (k0 (l++[q]) z' (n-1) c' p') Q):Ends (sO k0 l z n c p) Q:=by unfold sO;have e:aq (n-1)=n-1:=ak;refine(sA hc 5).bind λr4 p4=>Ends.cond (λ_=>?_) λ_=>?_;refine(F2 p4).bind λr5 p5=>ahr hl hz p5.2 p5.1 λq z' c' p' h1 h2 h3 h4=>?_;unfold om;rw[e];exact hk _ _ _ _ h1 h2 h3 h4;refine ahr hl hz p4 hp λq z' c' p' h1 h2 h3 h4=>?_;unfold om;rw[e];exact hk _ _ _ _ h1 h2 h3 h4
theorem agC {c:w6}(h:Cu c){m:Int}(h0:0<m)(h1:m<=100):Ends (xy c m) λr=>((∀p∈r.1,Plain p)/\0<r.1.length/\(r.1.length:Int)<=m)/\Cu r.2:=by unfold xy;refine(F2 h).bind λr1 p1=>(fX p1.2 (by decide)).bind λr2 p2=>(fX p2.2 h0).bind λr3 p3=>?_;have a2:=p2.1;have a3:=p3.1;rw[ak (n:=r2.1*8),ak (n:=8+r2.1*8),ak (n:=1+r3.1)];refine Ends.uN (λx=>(∀p∈x.1,Plain p)/\(1<=x.2.1/\x.2.1<=40)/\0<=x.2.2.1/\(x.1.length:Int)+x.2.2.1=1+r3.1/\Cu x.2.2.2.1/\Plain x.2.2.2.2) (λx=>x.2.2.1.toNat) ⟨by simp,(by dsimp only;omega),(by dsimp only;omega),by simp,p3.2,p1.1⟩ (by simp;omega) λx nx hx hn=>?_;unfold wX;refine Ends.cond (λk=>?_) λk=>?_;have k:=bn k;refine aqe (by omega) hx.2.1 (by omega) hx.2.2.2.2.1 hx.2.2.2.2.2 λq z' c' p' h1 h2 h3 h4=>hn _ ⟨?_,h2,?_,?_,h3,h4⟩ ?_;intro y hy;rcases ay.1 hy with hy|hy;exact hx.1 y hy;simp only[bu]at hy;rw[hy];exact h1;show 0<=x.2.2.1-1;omega;show((x.1++[q]).length:Int)+(x.2.2.1-1)=1+r3.1;have:=hx.2.2.2.1;simp;omega;show(x.2.2.1-1).toNat<x.2.2.1.toNat;omega;have k:=of_decide_eq_false k;have:=hx.2.2.2.1;have:=hx.2.2.1;exact Ends.pure ⟨⟨hx.1,(by dsimp only;omega),(by dsimp only;omega)⟩,hx.2.2.2.2.1⟩
theorem aka {c:w6}(h:Cu c):Ends (zD c) λr=>r.1.length=16/\Cu r.2:=by unfold zD;exact(Dt h 16).bind λr hr=>Ends.pure ⟨by have:=hr.1.2.1 (by omega) (by omega);omega,hr.2⟩
structure yO (s:dp):Prop where
 r:s.1.length<=100
 t:s.2.1.length<=100
 k:s.2.2.1.length=16
 p:s.2.2.2.length<=100
theorem R0 {c:w6}(h:Cu c):Ends (uH c) λr=>(r.1.1=2/\(r.1.2.2=[7]\/r.1.2.2=[]))/\Cu r.2:=by unfold uH;exact(sA h 4).bind λr1 p1=>(sA p1 2).bind λr2 p2=>Ends.cond (λ_=>Ends.pure ⟨⟨rfl,Or.inl rfl⟩,p2⟩) λ_=>Ends.pure ⟨⟨rfl,Or.inr rfl⟩,p2⟩
theorem als:fu (qZ 38)=true:=by decide+kernel
def BJ (f:Filter)(s:dp)(c:Bool):au Vector->Host
 |[]=>Nu f s c 38
 |v::vs=>NV ((BJ f s c vs).1,(BJ f s c vs).2.1,(BJ f s c vs).2.2.1,(BJ f s c vs).2.2.2.1++[((0,0,0,0),(0,0,0),(0,0,0),((0,0,0,0,0,0,0,0,0,0,0,0,0,0,0,([]:Bytes)),0,0),false,0)],(BJ f s c vs).2.2.2.2.1++[(0,0,0,([]:bN))],(BJ f s c vs).2.2.2.2.2.1++[v],(BJ f s c vs).2.2.2.2.2.2.1++[false],(BJ f s c vs).2.2.2.2.2.2.2) vs.length
def acf (h:Host):=(h.1,h.2.1,h.2.2.1,h.2.2.2.1,h.2.2.2.2.1,h.2.2.2.2.2.1,h.2.2.2.2.2.2.1)
structure Made (f:Filter) (s:dp) (c:Bool) (k:Nat) (h:Host):Prop where
 mem:cL h.1=true
 ml:h.1.length=38
 maps:h.2.1=qZ 38
 tx:h.2.2.1=BQ
 rx:h.2.2.2.1.length=k
 rxs:∀r∈h.2.2.2.1,yK 0 r/\r.2.2.2.2.1=false
 pl:h.2.2.2.2.1.length=k
 pls:∀p∈h.2.2.2.2.1,dA p=true/\p.2.2.2.length<=1000
 vec:h.2.2.2.2.2.1.length=k
 vecs:∀v∈h.2.2.2.2.2.1,eo v=true
 pol:h.2.2.2.2.2.2.1.length=k
 rest:h.2.2.2.2.2.2.2=(f,s,([]:List Stream),c,([]:List Bytes),([]:List Int),([]:List Int),0,0,0,0,0)
 is:∃vs,vs.length=k/\h=BJ f s c vs/\∀v∈vs,v.2.1<=3/\v.2.2.2.2.1=false
theorem Up (l:au α)(x y:α):(l++[x]).set l.length y=l++[y]:=by simp
theorem agE {n:Nat}(h:n<=64):cL (yM n)=true:=oE.2 ⟨λx hx=>by rw[(List.mem_replicate.1 hx).2];exact Du 128,by simp[yM];exact h⟩
theorem aat {f:Filter}{s:dp}{c:Bool}(m:Made f s c k h)(hk:k<=8)(hv:eo v=true)(h3:v.2.1<=3/\v.2.2.2.2.1=false):Ends (uJ (h.1,h.2.1,h.2.2.1,h.2.2.2.1++[((0,0,0,0),(0,0,0),(0,0,0),((0,0,0,0,0,0,0,0,0,0,0,0,0,0,0,([]:Bytes)),0,0),false,0)],h.2.2.2.2.1++[(0,0,0,([]:bN))],h.2.2.2.2.2.1++[v],h.2.2.2.2.2.2.1++[false],h.2.2.2.2.2.2.2) (k:Int)) λr=>Made f s c (k+1) r.2:=by
 refine Ends.of (Uv _ k hk (by simp[m.rx]) (by simp[m.pl]) (by show h.2.1.length<=_;rw[m.maps,Am];omega) (by show h.1.length<=_;rw[m.ml];omega)) ?_;have o:=NW m.mem h.2.1 hk;have e1:(h.2.2.2.1++[(((0,0,0,0),(0,0,0),(0,0,0),((0,0,0,0,0,0,0,0,0,0,0,0,0,0,0,([]:Bytes)),0,0),false,0):cj)])[k]?=some ((0,0,0,0),(0,0,0),(0,0,0),((0,0,0,0,0,0,0,0,0,0,0,0,0,0,0,([]:Bytes)),0,0),false,0):=by rw[<-m.rx];simp
 have e2:∀y:cj,(h.2.2.2.1++[(((0,0,0,0),(0,0,0),(0,0,0),((0,0,0,0,0,0,0,0,0,0,0,0,0,0,0,([]:Bytes)),0,0),false,0):cj)]).set k y=h.2.2.2.1++[y]:=λy=>by rw[<-m.rx];exact Up _ _ _
 have e3:∀y:c8,(h.2.2.2.2.1++[(((0,0,0,([]:bN))):c8)]).set k y=h.2.2.2.2.1++[y]:=λy=>by rw[<-m.pl];exact Up _ _ _
 obtain⟨vs,vl,ve,vb⟩:=m.is;have is0:NV (h.1,h.2.1,h.2.2.1,h.2.2.2.1++[((0,0,0,0),(0,0,0),(0,0,0),((0,0,0,0,0,0,0,0,0,0,0,0,0,0,0,([]:Bytes)),0,0),false,0)],h.2.2.2.2.1++[(0,0,0,([]:bN))],h.2.2.2.2.2.1++[v],h.2.2.2.2.2.2.1++[false],h.2.2.2.2.2.2.2) k=BJ f s c (v::vs):=by rw[BJ,<-ve,vl]
 unfold NV at is0⊢;simp only[e1,e2,e3]at is0⊢;have hp:(rb h.2.1 h.1 k).2.2.1.2.2.2.length<=1000:=by unfold rb;exact bm (Ei ..) (nJ _ _ _)
 refine⟨o.1,?_,m.maps,m.tx,by show(_++[_]).length=_;rw[ai,m.rx];rfl,?_,by show(_++[_]).length=_;rw[ai,m.pl];rfl,?_,by show(_++[_]).length=_;rw[ai,m.vec];rfl,?_,by show(_++[_]).length=_;rw[ai,m.pol];rfl,m.rest,⟨v::vs,by simp[vl],is0,λw hw=>?_⟩⟩;show(rb h.2.1 h.1 k).1.length=38;rw[NU,m.ml];intro r hr;rcases ay.1 hr with hr|hr;exact m.rxs r hr;rw[bu.1 hr];exact⟨Uj hk o.2.1 ⟨cu _,cu _⟩,rfl⟩;intro p hp';rcases ay.1 hp' with hp'|hp';exact m.pls p hp';rw[bu.1 hp'];exact⟨o.2.2,hp⟩;intro w hw;rcases ay.1 hw with hw|hw;exact m.vecs w hw;rw[bu.1 hw];exact hv;rcases bG.1 hw with e|e;rw[e];exact h3;exact vb w e
structure HI (h:Host):Prop where
 Sl:Good 0 h
 sz:yI 2000 h
 maps:∀m∈h.2.1,m.2.2.1<(h.1.length:Int)
 led:h.2.2.1.2.2.1=[]/\h.2.2.2.2.2.2.2.2.2.2.2.1=[]/\h.2.2.2.2.2.2.2.2.2.2.2.2.1=[]/\h.2.2.2.2.2.2.2.2.2.2.2.2.2.1=[]
 is:∃f s c vs,vs.length<=2/\acf h=acf (BJ f s c vs)/\∀v∈vs,v.2.1<=3/\v.2.2.2.2.1=false
theorem Wq {f:Filter}{s:dp}{c:Bool}(m:Made f s c k h)(hk:1<=k/\k<=2)(hf:ei f=true)(hf2:f.2.2.length<=1000)(hs:ew s (k:Int)=true)(hz:yO s):HI h:=by have h4:=nJ 256 128 8;obtain⟨vs,vl,ve,vb⟩:=m.is;obtain⟨m1,m2,m3,m4,m5,m6,m7,m8,m9,m10,m11,m12,_⟩:=m;obtain⟨mem,maps,tx,rx,pl,vec,pol,rest⟩:=h;simp only at m1 m2 m3 m4 m5 m6 m7 m8 m9 m10 m11 m12;subst m12 m3 m4;refine⟨⟨m1,als,afr 0 (by omega),hf,?_,by show ew s (rx.length:Int)=true;rw[m5];exact hs,λr hr=>(m6 r hr).1,λp hp=>(m8 p hp).1,m10,?_⟩,⟨?_,?_⟩,?_,⟨rfl,rfl,rfl,rfl⟩,⟨f,s,c,vs,by omega,congrArg acf ve,vb⟩⟩;unfold qY;simp only[ae,aS,bh];omega;intro x hx;simp only[hY,bG,List.not_mem_nil,or_false,or_self]at hx;omega;have hm:=(oE.1 m1).1;refine⟨⟨by show mem.length<=2000;omega,λx hx=>by show x.length<=2000;rw[hm x hx];omega⟩,⟨by show(qZ 38).length<=2000;rw[Am];omega,λ_ _=>⟨ch,ch,ch,ch⟩⟩,?_,?_,?_,?_,?_,⟨ch,ch,by show f.2.2.length<=2000;omega,λ_ _=>trivial⟩,?_,⟨bS _,λx hx=>by cases hx⟩,ch,⟨bS _,λx hx=>by cases hx⟩,⟨bS _,λx hx=>by cases hx⟩,⟨bS _,λx hx=>by cases hx⟩,ch,ch,ch,ch,ch⟩;exact⟨⟨ch,ch,ch,ch⟩,⟨ch,ch,ch,by show List.length (gF 256 128 8).1.2.2.2<=2000;omega,λ_ _=>trivial⟩,⟨bS _,λx hx=>by cases hx⟩,ch⟩;refine⟨by show rx.length<=2000;omega,λx hx=>?_⟩;have e:=(m6 x hx).1.free (m6 x hx).2;refine⟨⟨ch,ch,ch,ch⟩,⟨ch,ch,ch⟩,⟨ch,ch,ch⟩,?_,ch,ch⟩;rw[e];exact⟨⟨ch,ch,ch,ch,ch,ch,ch,ch,ch,ch,ch,ch,ch,ch,ch,bS _⟩,ch,ch⟩;exact⟨by show pl.length<=2000;omega,λx hx=>⟨ch,ch,ch,by have:=(m8 x hx).2;show x.2.2.2.length<=2000;omega,λ_ _=>trivial⟩⟩;exact⟨by show vec.length<=2000;omega,λx hx=>⟨ch,ch,ch,ch,ch,ch⟩⟩;exact⟨by show pol.length<=2000;omega,λx hx=>trivial⟩;exact⟨⟨by have:=hz.r;show s.1.length<=2000;omega,λ_ _=>⟨ch,ch,ch,ch,ch,ch,ch,ch,ch⟩⟩,⟨by have:=hz.t;show s.2.1.length<=2000;omega,λ_ _=>⟨ch,⟨ch,ch,ch,ch,ch⟩,ch⟩⟩,by have:=hz.k;show s.2.2.1.length<=2000;omega,by have:=hz.p;show s.2.2.2.length<=2000;omega,λ_ _=>trivial⟩;show List.length (gF 256 128 8).1.2.2.2+0<=2000;omega;intro m hm;have hm:m∈qZ 38:=hm;simp only[qZ,dP,bz]at hm;obtain⟨i,hi,rfl⟩:=hm;show 37-(i:Int)<(mem.length:Int);omega
theorem aaL {a b:Int}(h:(pR a b).2=true):eo (pR a b).1=true:=by unfold pR at h⊢;cases hv:eo (a,b,0,0,false,false)with|false=>rw[hv]at h;cases h|true=>exact hv
theorem adm {a b:Int}(h:(pR a b).2=true)(hb:b<=3):(pR a b).1.2.1<=3/\(pR a b).1.2.2.2.2.1=false:=by unfold pR at h⊢;cases hv:eo (a,b,0,0,false,false)with|false=>rw[hv]at h;cases h|true=>exact⟨hb,rfl⟩
theorem WC (q:Int)(f:Filter)(s:dp)(c:Bool)(a b:Int)(hf:f.2.2.length<=1000)(hs:yO s)(hb3:b<=3):Ends (qM q f s c a b) λr=>(r.2=true->HI r.1)/\((1<=q/\q<=2)->ei f=true->ew s q=true->(pR a b).2=true->r.2=true):=by
 have z1:=hs.r;have z2:=hs.t;have z3:=hs.p;unfold qM;rw[LS,ab,dy,ab];refine Ends.bind (P:=λx=>(x=false->(1<=q/\q<=2)/\ei f=true/\ew s q=true/\(pR a b).2=true)/\(x=true->(1<=q/\q<=2)->ei f=true->ew s q=true->(pR a b).2=true->False)) ?_ λx hx=>Ends.cond (λhx2=>Ends.pure ⟨(λh=>by cases h),λg1 g2 g3 g4=>(hx.2 hx2 g1 g2 g3 g4).elim⟩) λh=>?_;refine Ends.cond (λk=>Ends.pure ⟨(λh=>by cases h),λ_ g1 _ _ _=>by rw[aS.2 g1]at k;cases k⟩) λh1=>?_;rw[Bg f (by omega),ab];refine Ends.cond (λk=>Ends.pure ⟨(λh=>by cases h),λ_ _ g2 _ _=>by rw[g2]at k;cases k⟩) λh2=>?_;rw[Gi s q (by omega) (by omega) (by omega),ab];refine Ends.cond (λk=>Ends.pure ⟨(λh=>by cases h),λ_ _ _ g3 _=>by rw[g3]at k;cases k⟩) λh3=>Ends.pure ⟨λh4=>?_,λk _ _ _ g4=>by rw[g4]at k;cases k⟩;exact⟨aS.1 (by simpa using h1),by simpa using h2,by simpa using h3,by simpa using h4⟩;obtain⟨hq,h1,h2,h3⟩:=hx.1 h;have hm:mV 38=some (yM 38):=LR 38;rw[hm,ab,Oj,ab,yz f (by omega),ab,DY s (by omega) (by omega) (by omega),ab];have hv:=aaL h3;refine Ends.uN (λx=>0<=x.1/\x.1<=38/\x.2=Nu f s c x.1.toNat) (λx=>(38-x.1).toNat) ⟨by simp,by simp,rfl⟩ (by simp) λx nx hx hn=>?_;obtain⟨i,y⟩:=x;obtain⟨x1,x2,x3⟩:=hx;simp only at x1 x2 x3;unfold oc;refine Ends.cond (λk=>?_) λk=>?_;have k:=bn k;have hl:=Am i.toNat;simp only at k;rw[dy,ab];simp only;rw[ak (n:=i+1),ak (n:=37-i)];subst x3;refine Ends.room (by show(qZ i.toNat).length+1<=_;omega) (hn _ ⟨by show 0<=i+1;omega,by show i+1<=38;omega,?_⟩ (by show(38-(i+1)).toNat<(38-i).toNat;omega));have e:(i+1).toNat=i.toNat+1:=by omega
 show(yM 38,qZ i.toNat++_,_)=Nu f s c (i+1).toNat;rw[e];unfold Nu;rw[Lf,show((i.toNat:Nat):Int)=i by omega];have k:=of_decide_eq_false k;simp only at k;have e:i.toNat=38:=by omega
 rw[e]at x3;have hm0:Made f s c 0 y:=by rw[x3];exact⟨agE (by omega),by show(yM 38).length=38;simp[yM],rfl,rfl,rfl,(λ_ hr=>by cases hr),rfl,(λ_ hr=>by cases hr),rfl,(λ_ hr=>by cases hr),rfl,rfl,⟨[],rfl,rfl,λ_ hv=>by cases hv⟩⟩
 simp only;refine Ends.uN (λx=>0<=x.1/\x.1<=q/\Made f s c x.1.toNat x.2) (λx=>(q-x.1).toNat) ⟨by simp,by show(0:Int)<=q;omega,hm0⟩ (by simp;omega) λx nx hx hn=>?_;obtain⟨i,y⟩:=x;obtain⟨x1,x2,m⟩:=hx;simp only at x1 x2 m;unfold mU;refine Ends.cond (λk=>?_) λk=>Ends.pure ⟨λ_=>?_,λ_ _ _ _=>rfl⟩;have k:=bn k;simp only at k;have l1:=m.rx;have l2:=m.pl;have l3:=m.vec;have l4:=m.pol;refine Ends.room (by simp;omega) (Ends.room (by simp;omega) (Ends.room (by simp;omega) (Ends.room (by simp;omega) ?_)));have ho:=aat m (by omega) hv (adm h3 hb3);rw[show((i.toNat:Nat):Int)=i by omega]at ho;refine ho.bind λr hr=>?_;simp only;rw[ak (n:=i+1)];refine hn _ ⟨by show 0<=i+1;omega,by show i+1<=q;omega,?_⟩ (by show(q-(i+1)).toNat<(q-i).toNat;omega);show Made f s c (i+1).toNat r.2;rw[show(i+1).toNat=i.toNat+1 by omega];exact hr;have k:=of_decide_eq_false k;simp only at k;have hi:i=q:=by omega
 subst hi;exact Wq m (by omega) h1 hf (by rw[show((i.toNat:Nat):Int)=i by omega];exact h2) hs
def aib (a:Act):Prop:=a.2.1.2.2.2.2.2.2.2.2.2.2.2.2.2.2.2.length<=1000/\a.2.2.2.2.1.length<=382/\0<=a.1/\a.1<=6
theorem FU (n x:Int)(h0:0<=n:=by omega)(h1:n<=1000000:=by omega):Ends (fJ n x) λr=>(r.length:Int)=n:=by unfold fJ;rw[aF ⟨h0,cu _⟩];refine Ends.room (by omega) (Ends.uN (λy=>(y.1.length:Int)=n/\0<=y.2/\y.2<=n) (λy=>(n-y.2).toNat) ⟨by simp;omega,by simp,h0⟩ (by simp;omega) λy nx hy hn=>?_);unfold og;refine Ends.cond (λk=>?_) λk=>Ends.pure (by simp[aJ];exact hy.1);have k:=bn k;rw[ak (n:=y.2+1)];refine Ends.idx hy.2.1 (by omega) λ_=>Ends.idx hy.2.1 (by omega) λ_=>hn _ ⟨?_,?_,?_⟩ ?_;show((List.set _ _ _).length:Int)=n;rw[aA];exact hy.1;show 0<=y.2+1;omega;show y.2+1<=n;omega;show(n-(y.2+1)).toNat<(n-y.2).toNat;omega
theorem H8:rX=some (List.replicate 8 (0,(0,0,0,0,0),0)):=by unfold rX;rw[aF (by decide),aM (by decide)];rfl
theorem Wl {k:Bytes}(hk:k.length=16):ew (([]:au lI),List.replicate 8 (0,(0,0,0,0,0),0),k,[0]) 1=true:=by
 have ht:rn (List.replicate 8 (0,(0,0,0,0,0),0))=true:=by decide+kernel
 have hs:qT (k,[0]) 1=true:=by unfold qT;simp only[hk];decide+kernel
 unfold ew;rw[show wV ([]:au lI)=true from rfl,ht,hs];rfl
structure Zf (k:Int) (b:bC):Prop where
 Yl:b.1.1=k
 vl:b.1.2.2=[7]\/b.1.2.2=[]
 last:0<=b.2.1/\b.2.1<=4
 done:0<=b.2.2.2/\b.2.2.2<=3
theorem aiu {c:w6}(h:Cu c):Ends (zE c) λr=>((r.1.1.2.2=[7]\/r.1.1.2.2=[])/\(0<=r.1.2.1/\r.1.2.1<=4)/\0<=r.1.2.2.2/\r.1.2.2.2<=3)/\Cu r.2:=by unfold zE;refine(R0 h).bind λr1 p1=>(fX p1.2 (by decide)).bind λr2 p2=>(fX p2.2 (by decide)).bind λr3 p3=>(fX p3.2 (by decide)).bind λr4 p4=>Ends.pure ⟨⟨p1.1.2,?_,?_⟩,p4.2⟩;have:=p2.1;show 0<=r2.1/\r2.1<=4;omega;have:=p4.1;show 0<=r4.1/\r4.1<=3;omega
theorem Sj {P:Nat->α->Prop}{l:au α}{a:α}(h:∀i b,l[i]?=some b->P i b)(ha:P l.length a):∀i b,(l++[a])[i]?=some b->P i b:=by
 intro i b hb;rcases bV i l.length with hi|hi;rw[List.getElem?_append_left hi]at hb;exact h i b hb;rw[List.getElem?_append_right hi]at hb;obtain⟨hj,hb⟩:=List.getElem?_eq_some_iff.1 hb;have e:i=l.length:=by simp at hj;omega
 subst e;simp at hb;rw[<-hb];exact ha
theorem ab9 {c:w6}(h:Cu c):Ends (wc c) λr=>((1<=r.1.length/\r.1.length<=3)/\∀(i:Nat)(b:bC),r.1[i]?=some b->Zf (2*((i:Int)+1)) b)/\Cu r.2:=by unfold wc;refine(fX h (n:=3) (by decide)).bind λr1 p1=>?_;have hp:=p1.1;rw[ak (n:=1+r1.1)];refine Ends.uN (λx=>0<=x.2.1/\(x.1.length:Int)+x.2.1=1+r1.1/\(∀(i:Nat)(b:bC),x.1[i]?=some b->Zf (2*((i:Int)+1)) b)/\Cu x.2.2) (λx=>x.2.1.toNat) ⟨by show 0<=1+r1.1;omega,by simp,by intro i b hb;simp at hb,p1.2⟩ (by show(1+r1.1).toNat<=_;omega) λx nx hx hn=>?_;obtain⟨l,n,c'⟩:=x;obtain⟨x1,x2,x3,x4⟩:=hx;simp only at x1 x2 x3 x4;unfold vm;refine Ends.cond (λk=>?_) λk=>?_;have k:=bn k;simp only at k⊢;refine(aiu x4).bind λr2 p2=>Ends.room (by simp;omega) ?_;rw[ak (n:=(l.length:Int)+1),ak (n:=2*((l.length:Int)+1)),ak (n:=n-1)];refine hn _ ⟨by show 0<=n-1;omega,by show((l++[_]).length:Int)+(n-1)=_;simp;omega,Sj x3 ⟨rfl,p2.1.1,p2.1.2.1,p2.1.2.2⟩,p2.2⟩ (by show(n-1).toNat<n.toNat;omega);have k:=of_decide_eq_false k;simp only at k⊢;exact Ends.pure ⟨⟨⟨by show 1<=l.length;omega,by show l.length<=3;omega⟩,x3⟩,x4⟩
theorem ZV {v:Int}{b:Bytes}:(dE v b).1.length<=96:=by unfold dE;cases hq:cI v 0 1000000&&decide (b.length<=84)with|false=>simp|true=>simp only[ae,aE]at hq;show(P9 v b).length<=96;unfold P9;have h4:∀v,(fD v).length<=4:=dz;have a:=h4 v;have b1:=h4 (b.length:Int);have c:=h4 (HN ((fD v++fD (b.length:Int))++b));simp only[ai];omega
theorem KQ {c:w6}(h:Cu c):Ends (sa c) λr=>r.1.length<=96/\Cu r.2:=by unfold sa;refine(ji (P:=λ_=>True) h (by decide) (by simp)).bind λr1 p1=>(fX p1.2 (by decide)).bind λr2 p2=>(Dt p2.2 r2.1).bind λr3 p3=>?_;rw[LQ _ _ (by have:=p3.1.1;omega),ab];exact Ends.pure ⟨ZV,p3.2⟩
theorem VF {c:w6}(h:Cu c):Ends (wa c) λr=>(r.1.length=2/\∀x∈r.1,x.length=96)/\Cu r.2:=by
 unfold wa;refine Ends.uN (λx=>0<=x.1/\x.1<=2/\(x.2.2.length:Int)=x.1/\(∀y∈x.2.2,y.length=96)/\Cu x.2.1) (λx=>(2-x.1).toNat) ⟨by simp,by simp,by simp,by simp,h⟩ (by simp) λx nx hx hn=>?_;obtain⟨i,c',l⟩:=x;obtain⟨x1,x2,x3,x4,x5⟩:=hx;simp only at x1 x2 x3 x4 x5;unfold vh;refine Ends.cond (λk=>?_) λk=>?_;have k:=bn k;simp only at k⊢;refine(KQ x5).bind λr1 p1=>(sA p1.2 _).bind λr2 p2=>?_;have fin:∀(s t:Bytes)(c2:w6),s.length+t.length=96->Cu c2->Ends (Go.Dn.room (List.length s+List.length t) (Go.Dn.room (List.length l+List.length [(s++t)]) (nx (aq (i+1),c2,l++[(s++t)])))) (λr=>(r.1.length=2/\∀x∈r.1,x.length=96)/\Cu r.2):=by intro s t c2 hs hc;refine Ends.room (by omega) (Ends.room (by simp;omega) ?_);rw[ak (n:=i+1)];refine hn _ ⟨by show 0<=i+1;omega,by show i+1<=2;omega,by show((l++[_]).length:Int)=i+1;simp;omega,?_,hc⟩ (by show(2-(i+1)).toNat<(2-i).toNat;omega);intro y hy;rcases ay.1 hy with hy|hy;exact x4 y hy;rw[bu.1 hy,ai];exact hs
 refine Ends.cond (λ_=>?_) λ_=>?_;refine(Dt p2 30).bind λr3 p3=>?_;have e:=p3.1.2.1 (by omega) (by omega);rw[ak (n:=96-(r3.1.length:Int))];exact(FU _ 255).bind λr4 p4=>fin _ _ _ (by omega) p3.2;have e:=p1.1;rw[ak (n:=96-(r1.1.length:Int))];exact(FU _ 255).bind λr4 p4=>fin _ _ _ (by omega) p2;have k:=of_decide_eq_false k;simp only at k⊢;exact Ends.pure ⟨⟨by show l.length=2;omega,x4⟩,x5⟩
theorem MH {f:Filter}{s:dp}{c:Bool}{a b:Int}(hf:f.2.2.length<=1000)(hs:yO s)(hb3:b<=3)(h:(mK f s c a b).2=true):HI (mK f s c a b).1/\(mK f s c a b).1.2.2.2.2.2.2.2.1=f:=by refine⟨?_,?_⟩;obtain⟨x,e,hx⟩:=WC 1 f s c a b hf hs hb3;rw[Im f s c a b (by omega) (by have:=hs.r;omega) (by have:=hs.t;omega) (by have:=hs.p;omega)]at e;have e:=bM e;rw[e]at h⊢;exact hx.1 h;unfold mK at h⊢;cases hq:ei f&&(ew s 1&&(pR a b).2)with|true=>rfl|false=>rw[hq]at h;cases h
def yp (bk:se)(n:Nat):au aP:=(List.range n).map λ(i:Nat)=>((i:Int),(i:Int)+1,bk,true,0,0)
theorem yq (bk:se)(n:Nat):(yp bk n).length=n:=by simp[yp]
theorem TP (bk:se)(n:Nat):yp bk (n+1)=yp bk n++[((n:Int),(n:Int)+1,bk,true,0,0)]:=by simp[yp,fW]
theorem EE (bk:se){n:Nat}(h:i<n):(yp bk n).getD i GR=((i:Int),(i:Int)+1,bk,true,0,0):=by rw[cr (by rw[yq];exact h)];simp[yp]
structure BT (c:cM):Prop where
 ports:(cW c.2.2.1).2=true
 box:∀(i:Nat)(b:bC),c.2.2.1[i]?=some b->Zf (2*((i:Int)+1)) b
 len:c.1.length=c.2.2.1.length
 host:∀(i:Nat)(h:Host)(b:bC),c.1[i]?=some h->c.2.2.1[i]?=some b->HI h/\h.2.2.2.2.2.2.2.1=b.1
 fns:∃bk,gL bk=true/\c.2.1=yp bk c.2.2.1.length
 flash:c.2.2.2.1.length=2/\∀x∈c.2.2.2.1,x.length=96
 boot:¬gD c.2.2.2.1<0
 clock:pw c.2.2.2.2.1=true
 rest:c.2.2.2.2.2=(([]:List Int),([]:List Bytes))
theorem BT.Sl (d:BT c):fN 4 c:=by
 obtain⟨bk,hb,hf⟩:=d.fns;have p:=mM d.ports;refine⟨d.ports,⟨d.len,by rw[hf,yq]⟩,?_,d.boot,d.clock,λi h b h1 h2=>⟨(d.host i h b h1 h2).1.Sl.mono,(d.host i h b h1 h2).2⟩,?_,?_,?_⟩;unfold gw;rw[p.1,p.2.2.1,bj,aC,hf,yq];intro i hi;have hi:=bz.1 hi;unfold fnB;rw[EE bk hi,p.2.1,ae];refine⟨?_,?_⟩;unfold BH;simp only[hb,ae,aS,bj];rw[ak];push_cast;refine⟨⟨by omega,by omega⟩,⟨by omega,by omega⟩,⟨by decide,by decide⟩,by decide,by decide⟩;rw[aC];intro j hj;have hj:=bz.1 hj;rw[EE bk (by omega)];unfold ZO;simp only[aH,cc,bP,ne_eq];omega;intro i hi;unfold wU;rw[hf,EE bk (by rw[<-d.len];exact hi)];simp;·intro b hb;obtain⟨i,hi⟩:=List.getElem?_of_mem hb;have q:=d.box i b hi;exact⟨q.last.2,by have:=q.done.2;omega⟩
 intro f hh;rw[hf]at hh;simp only[yp,dP]at hh;obtain⟨i,_,rfl⟩:=hh;exact⟨by show(0:Int)<=4;omega,by show(0:Int)<=4;omega⟩
theorem Yr {st:dp}(hs:yO st){cb:Bool}{bk:se}{f:bE}{t:Int}{ms:au bC}(hm:∀m∈ms,m.1.2.2.length<=1000):∀(l:au bC)(k:Nat)(s:au Host×au aP),k<=ms.length->ms.drop k=l->s.1.length=k->s.2=yp bk k->(∀(i:Nat)(h:Host)(b:bC),s.1[i]?=some h->ms[i]?=some b->HI h/\h.2.2.2.2.2.2.2.1=b.1)->∀x,zT (MG st cb bk) (λs=>some ((s.1,s.2,ms,f,(0,0,t,0),([]:bN),([]:bE)),true)) l s=some (x,true)->
 ∃hs',x=(hs',yp bk ms.length,ms,f,(0,0,t,0),([]:bN),([]:bE))/\hs'.length=ms.length/\∀(i:Nat)(h:Host)(b:bC),hs'[i]?=some h->ms[i]?=some b->HI h/\h.2.2.2.2.2.2.2.1=b.1
 |[],k,s,hk,hd,h1,h2,h3,x,hx=>by
  have e:k=ms.length:=by have:=aI (i:=k) (l:=ms);rw[hd]at this;simp at this;omega
  subst e;rw[zT]at hx;have hx:=(Prod.mk.inj (bM hx)).1;exact⟨s.1,by rw[<-hx,h2],h1,h3⟩
 |y::l,k,s,hk,hd,h1,h2,h3,x,hx=>by
  have hlt:k<ms.length:=by have:=aI (i:=k) (l:=ms);rw[hd]at this;simp at this;omega
  have hy:=bQ hlt;rw[hd]at hy;obtain⟨e1,e2⟩:=List.cons.inj hy;rw[zT]at hx;unfold MG at hx;by_cases hb:(mK y.1 st cb 1 2).2=true;rw[aF hb]at hx;simp only at hx;have hf:=MH (by rw[e1];exact hm _ (aL hlt)) hs (by omega) hb;refine Yr hs hm l (k+1) _ (by omega) e2.symm (by simp[h1]) ?_ ?_ x hx;show s.2++[((s.2.length:Int),(s.2.length:Int)+1,bk,true,0,0)]=_;rw[h2,yq,TP];intro i h b g1 g2;refine Sj (P:=λi h=>∀b,ms[i]?=some b->HI h/\h.2.2.2.2.2.2.2.1=b.1) (λi h g b g'=>h3 i h b g g') (λb g=>?_) i h g1 b g2;rw[h1,List.getElem?_eq_getElem hlt,<-e1]at g;rw[<-bM g];exact hf;rw[aD hb]at hx;simp at hx
theorem NS {cb:Bool}{bk:se}{t:Int}{x:cM}(hs:yO st)(hm:∀(i:Nat)(b:bC),ms[i]?=some b->Zf (2*((i:Int)+1)) b)(hf:f.length=2/\∀y∈f,y.length=96)(h:uo ms st cb bk f t=some (x,true)):BT x:=by
 unfold uo at h;cases hq:(cW ms).2&&(gL bk&&(!decide (gD f<0)&&pw (0,0,t,0)))with
 |false=>rw[hq]at h;simp[acb]at h
 |true=>
  rw[hq,ah]at h;simp only[ae,aH,cJ]at hq;have hl:∀m∈ms,m.1.2.2.length<=1000:=by intro m hmm;obtain⟨i,hi⟩:=List.getElem?_of_mem hmm;rcases(hm i m hi).vl with e|e<;>rw[e]<;>simp
  obtain⟨hs',e,e1,e2⟩:=Yr hs hl ms 0 ([],[]) (by omega) rfl rfl rfl (λi h b g=>by simp at g) x h;rw[e];exact⟨hq.1,hm,e1,e2,⟨bk,hq.2.1,rfl⟩,hf,hq.2.2.1,hq.2.2.2,rfl⟩
theorem Ys (st:dp)(cb:Bool)(bk:se)(F:au Host×au aP->cM×Bool):∀(l:au bC)(s:au Host×au aP),∃r,zT (MG st cb bk) (λs=>some (F s)) l s=some r
 |[],s=>⟨_,rfl⟩
 |y::l,s=>by rw[zT];unfold MG;by_cases hb:(mK y.1 st cb 1 2).2=true;rw[aF hb];exact Ys st cb bk F l _;rw[aD hb];exact⟨_,rfl⟩
theorem TO (ms:au bC)(st:dp)(cb:Bool)(bk:se)(f:bE)(t:Int):∃r,uo ms st cb bk f t=some r:=by unfold uo;cases (cW ms).2&&(gL bk&&(!decide (gD f<0)&&pw (0,0,t,0)))with|false=>exact⟨_,rfl⟩|true=>exact Ys st cb bk _ ms _
theorem Yq (st:dp)(cb:Bool)(bk:se)(F:au Host×au aP->cM):∀(l:au bC)(s:au Host×au aP),(∀y∈l,(mK y.1 st cb 1 2).2=true)->∃x,zT (MG st cb bk) (λs=>some (F s,true)) l s=some (x,true)
 |[],s,_=>⟨_,rfl⟩
 |y::l,s,h=>by rw[zT];unfold MG;rw[aF (h y (List.mem_cons_self ..))];exact Yq st cb bk F l _ λz hz=>h z (dZ _ hz)
theorem Og (hs:yO st)(hm:∀(i:Nat)(b:bC),ms[i]?=some b->Zf (2*((i:Int)+1)) b)(hl:ms.length<=3)(hf:f.length=2)(cb:Bool)(bk:se)(t:Int):qL ms st cb bk f t=uo ms st cb bk f t:=by refine Uu ms st cb bk f t (by omega) (λm hh=>?_) (by omega) (by have:=hs.r;omega) (by have:=hs.t;omega) (by have:=hs.p;omega);obtain⟨i,hi⟩:=List.getElem?_of_mem hh;rcases(hm i m hi).vl with e|e<;>rw[e]<;>simp
theorem aq8 {Q:R->Prop}{k0:w6->aw R}{k1:w6->cM->aw R}{v:Int}{c:w6}(hs:yO st)(hc:Cu c)(hk0:∀c',Cu c'->Ends (k0 c') Q)(hk1:∀c' x,Cu c'->BT x->Ends (k1 c' x) Q):Ends (pX k0 k1 v c b2 st) Q:=by unfold pX;refine(ji (P:=λ_=>True) hc (by decide) (by simp)).bind λr4 p4=>(ji (P:=λ_=>True) p4.2 (by decide) (by simp)).bind λr5 p5=>(ab9 p5.2).bind λr6 p6=>(fX p6.2 (by decide)).bind λr7 p7=>(VF p7.2).bind λr8 p8=>(ji (P:=λ_=>True) p8.2 (by decide) (by simp)).bind λr9 p9=>?_;rw[Og hs p6.1.2 p6.1.1.2 p8.1.1];obtain⟨⟨x,ok⟩,e⟩:=TO r6.1 st (decide (r7.1>0)) (r4.1,2000,r5.1) r8.1 r9.1;rw[e,ab];refine Ends.cond (λk=>?_) λ_=>hk0 _ p9.2;have k:ok=true:=k;subst k;exact hk1 _ _ p9.2 (NS hs p6.1.2 p8.1 e)
theorem au5 {Q:R->Prop}{k0:Int->w6->aw R}{k1:w6->cM->aw R}{v:Int}{c:w6}(hv:0<=v/\v<=100)(hc:Cu c)(hk0:∀c',Cu c'->Ends (k0 (v+1) c') Q)(hk1:∀c' x,Cu c'->BT x->Ends (k1 c' x) Q):Ends (uK k0 k1 v c b2) Q:=by
 unfold uK;simp only[H8,ab];refine(aka hc).bind λr2 p2=>(sA p2.2 4).bind λr3 p3=>?_;have k3:∀c',Cu c'->Ends (pW (λy12=>k0 y12 c') v c' b2) Q:=by intro c' hc';unfold pW;rw[ak];exact hk0 _ hc'
 refine Ends.cond (λ_=>aq8 ⟨by simp,by simp,p2.1,by simp⟩ p3 k3 λc' x h1 h2=>hk1 _ _ h1 h2) λ_=>aq8 ⟨by simp,by simp,p2.1,by simp⟩ p3 k3 λc' x h1 h2=>hk1 _ _ h1 h2
theorem Zr {t u:Bytes}(ht:t.length=84)(hu:u.length=96):¬gD [(dE 1 []).1++t,u]<0:=by
 have e:(dE 1 []).1=[0,0,0,1,0,0,0,0]++fD (HN [0,0,0,1,0,0,0,0]):=by decide+kernel
 have el:(dE 1 []).1.length=12:=by rw[e];decide+kernel
 have hv:gO ((dE 1 []).1++t)=1:=by
  have g:∀a:Nat,a+4<=12->dW ((dE 1 []).1++t) (a:Int)=dW (dE 1 []).1 (a:Int):=by
   intro a ha;unfold dW eF bO;rw[ar (by rw[ai,el];omega),ar (by rw[el];omega)];have b:∀i,i<12->((dE 1 []).1++t).getD i 0=(dE 1 []).1.getD i 0:=by intro i hi;rw[List.getD_eq_getElem?_getD,List.getD_eq_getElem?_getD,List.getElem?_append_left (by omega)]
   simp only[ax];rw[b a (by omega),b (a+1) (by omega),b (a+2) (by omega),b (a+3) (by omega)]
  have g0:dW ((dE 1 []).1++t) 0=1:=(g 0 (by omega)).trans (by decide+kernel);have g4:dW ((dE 1 []).1++t) 4=0:=(g 4 (by omega)).trans (by decide+kernel);unfold gO;rw[g4,aF (by rw[ai,el];omega)];unfold abL;have t1:(((dE 1 []).1++t).take (8+(0:Int).toNat)).drop 8=[]:=by rw[cQ (by rw[aO];simp;omega)]
  have t2:((dE 1 []).1++t).take (12+(0:Int).toNat)=(dE 1 []).1:=by rw[List.take_left' (by rw[el];rfl)]
  rw[t1,t2,g0];have o:(dE 1 []).2=true:=by decide+kernel
  rw[o,beq_self_eq_true];rfl
 unfold gD;have hf:jC [(dE 1 []).1++t,u]=true:=by unfold jC;show((((2:Nat):Int)==2)&&(((((dE 1 []).1++t).length:Int)==96)&&((u.length:Int)==96)))=true;rw[ai,el,ht,hu];rfl
 rw[hf,ah];have h0:List.getD [(dE 1 []).1++t,u] 0 []=(dE 1 []).1++t:=rfl;rw[h0,hv];split;omega;split<;>omega
theorem adk {c:w6}(h:Cu c):Ends (zF c) λr=>BT r.1/\Cu r.2:=by
 unfold zF;refine Ends.uN (λx=>0<=x.1/\x.1<=4/\Cu x.2) (λx=>(4-x.1).toNat) ⟨by simp,by simp,h⟩ (by simp) λx nx hx hn=>?_;obtain⟨i,c'⟩:=x;obtain⟨x1,x2,x3⟩:=hx;simp only at x1 x2 x3;unfold yD;refine Ends.cond (λk=>?_) λk=>?_;have k:=bn k;simp only at k⊢;exact au5 ⟨by omega,by omega⟩ x3 (λc2 h2=>hn _ ⟨by show 0<=i+1;omega,by show i+1<=4;omega,h2⟩ (by show(4-(i+1)).toNat<(4-i).toNat;omega)) λc2 y h2 d=>Ends.pure ⟨d,h2⟩;have el:(dE 1 []).1.length=12:=by decide+kernel
 simp only[LQ 1 [] (by simp),ab];rw[el,ak (n:=96-((12:Nat):Int))];refine(FU _ 255).bind λr26 p26=>Ends.room (by omega) ((FU 96 255).bind λr27 p27=>?_);simp only[H8,ab];refine(FU 16 5).bind λr29 p29=>?_;have hs:yO (([]:au lI),List.replicate 8 (0,(0,0,0,0,0),0),r29,[0]):=⟨by simp,by simp,by show r29.length=16;omega,by simp⟩
 have hm:∀(j:Nat)(b:bC),([((2,false,([]:bN)),0,0,0),((4,false,([]:bN)),0,0,0)]:au bC)[j]?=some b->Zf (2*((j:Int)+1)) b:=by intro j b hb;match j with|0=>have e:=bM hb;rw[<-e];exact⟨rfl,Or.inr rfl,⟨by decide,by decide⟩,by decide,by decide⟩|1=>have e:=bM hb;rw[<-e];exact⟨rfl,Or.inr rfl,⟨by decide,by decide⟩,by decide,by decide⟩|j+2=>simp at hb
 have hb:=Zr (t:=r26) (u:=r27) (by omega) (by omega);rw[Og hs hm (by simp) rfl];have e:∃x,uo ([((2,false,([]:bN)),0,0,0),((4,false,([]:bN)),0,0,0)]:au bC) (([]:au lI),List.replicate 8 (0,(0,0,0,0,0),0),r29,[0]) true (100,2000,1000) [(dE 1 []).1++r26,r27] 1048576=some (x,true):=by
  unfold uo;have p1:(cW [((2,false,([]:bN)),0,0,0),((4,false,([]:bN)),0,0,0)]).2=true:=by decide+kernel
  have p2:gL (100,2000,1000)=true:=by decide+kernel
  have p3:pw (0,0,1048576,0)=true:=by decide+kernel
  rw[p1,p2,p3,al hb];refine Yq _ _ _ _ _ _ λy hy=>?_;have hst:=Wl (k:=r29) (by omega);have hv:(pR 1 2).2=true:=by decide+kernel
  have hf:ei y.1=true:=by rcases bG.1 hy with e|hy;rw[e];decide+kernel;rw[bu.1 hy];decide+kernel
  unfold mK;rw[hf,hst,hv];rfl
 obtain⟨x,e⟩:=e;rw[e,ab];refine Ends.pure ⟨NS hs hm ⟨rfl,?_⟩ e,x3⟩;intro y hy;rcases bG.1 hy with e|hy;rw[e,ai,el];omega;rw[bu.1 hy];omega
abbrev aa2:aG:=(0,0,0,0,0,0,0,0,0,0,0,0,0,0,0,([]:Bytes))
structure nd (n:Int) (a:dj):Prop where
 kind:0<=a.1/\a.1<=2
 fn:0<=a.2.1/\a.2.1<n
 act:aib a.2.2.1
 ok:Dv a.2.2.1=true
 msg:0<=a.2.2.2.1.1/\a.2.2.2.1.1<=6
 img:a.2.2.2.2.1.length<=96
 part:0<=a.2.2.2.2.2/\a.2.2.2.2.2<=100
theorem nd.put (h:nd n a){x:Act}(h1:aib x)(h2:Dv x=true):nd n (a.1,a.2.1,x,a.2.2.2):=⟨h.kind,h.fn,h1,h2,h.msg,h.img,h.part⟩
theorem Zj (p:aG)(s c:Int):Dv (0,p,s,c,([]:Bytes),0)=true:=rfl
theorem JA (b:Int):Dv (5,aa2,0,0,([]:Bytes),b)=true:=rfl
theorem Zi {f:Bytes}(h:f.length<=600):Dv (2,aa2,0,0,f,0)=true:=by unfold Dv abY;simp only[ab];rw[show cI (2:Int) 0 6=true from aS.2 ⟨by omega,by omega⟩,gT];rfl
theorem s4 {k:Int}(h:k=1\/k=3\/k=4\/k=6\/k=0:=by omega):Dv (k,aa2,0,0,([]:Bytes),0)=true:=by rcases h with rfl|rfl|rfl|rfl|rfl<;>rfl
theorem oy {k b:Int}(h:0<=k/\k<=6:=by omega):aib (k,aa2,0,0,([]:Bytes),b):=⟨by simp,by simp,h.1,h.2⟩
theorem Ib {c:w6}(h:Cu c)(p:aG)(hn:0<=n/\n<=100):Ends (pY c p n) λr=>((0<=r.1.1/\r.1.1<=281474976710655)/\(r.1.2.1=99\/r.1.2.1=2*(n+1))/\r.1.2.2=p.2.2)/\Cu r.2:=by unfold pY;rw[ak (n:=n+1),ak (n:=2*(n+1))];refine(sA h 12).bind λr1 p1=>Ends.cond (λ_=>(ji (P:=λx=>0<=x/\x<=281474976710655) p1 (by decide) (by decide)).bind λr2 p2=>Ends.pure ⟨⟨p2.1,Or.inl rfl,rfl⟩,p2.2⟩) λ_=>(ji (P:=λx=>0<=x/\x<=281474976710655) p1 (by decide) (by decide)).bind λr2 p2=>Ends.pure ⟨⟨p2.1,Or.inr rfl,rfl⟩,p2.2⟩
theorem Wu {c:w6}(h:Cu c):Ends (sQ c) λr=>(0<=r.1.1/\r.1.1<=6)/\Cu r.2:=by unfold sQ;refine(fX h (by decide)).bind λr1 p1=>(ji (P:=λ_=>True) p1.2 (by decide) (by simp)).bind λr2 p2=>(ji (P:=λ_=>True) p2.2 (by decide) (by simp)).bind λr3 p3=>Ends.pure ⟨?_,p3.2⟩;have:=p1.1;show 0<=r1.1/\r1.1<=6;omega
theorem JB {l:au dj}(h:nd n a):∀y∈l++[a],y∈l\/nd n y:=by intro y hy;rcases ay.1 hy with hy|hy;exact Or.inl hy;rw[bu.1 hy];exact Or.inr h
theorem c25 {Q:R->Prop}{k0:au dj->w6->dj->aw R}{v10 v30:Int}{v63:Bool}{l:au dj}{ps:au aG}{c:w6}(hl:l.length<=1000)(hp:∀p∈ps,Plain p)(h9:0<=v9/\v9<(ps.length:Int))(h10:0<=v10/\v10<=100)(hc:Cu c)(ha:nd v1 a)(hk:∀l' c' a',l'.length<=l.length+1->(∀y∈l',y∈l\/nd v1 y)->Cu c'->nd v1 a'->Ends (k0 l' c' a') Q):Ends (iE k0 v1 v2 l ps v9 v10 v30 v63 c a) Q:=by have same:∀c' a',Cu c'->nd v1 a'->Ends (k0 l c' a') Q:=λc' a' h1 h2=>hk l c' a' (by omega) (λy hy=>Or.inl hy) h1 h2;unfold iE;refine Ends.cond (λ_=>?_) λ_=>?_;refine Ends.idx h9.1 h9.2 λhi=>(Ib hc _ h10).bind λr8 p8=>(fX p8.2 (by decide)).bind λr9 p9=>(ji (P:=λ_=>True) p9.2 (by decide) (by simp)).bind λr10 p10=>Ends.room (by simp;omega) ?_;refine hk _ _ _ (by simp) (JB (ha.put ⟨?_,by simp,by simp,by simp⟩ (Zj ..))) p10.2 (ha.put (oy) (s4));show r8.1.2.2.2.2.2.2.2.2.2.2.2.2.2.2.2.length<=1000;rw[p8.1.2.2];have:=(hp _ (aL hi)).2;omega;refine Ends.cond (λ_=>same _ _ hc (ha.put (oy) (s4))) λ_=>?_;refine Ends.cond (λ_=>(fX hc (by decide)).bind λr11 p11=>same _ _ p11.2 (ha.put (oy) (JA _))) λ_=>?_;refine Ends.cond (λ_=>same _ _ hc (ha.put (oy) (s4))) λ_=>?_;refine Ends.cond (λ_=>(Wu hc).bind λr12 p12=>same _ _ p12.2 ⟨by simp,ha.fn,ha.act,ha.ok,p12.1,ha.img,ha.part⟩) λ_=>?_;refine Ends.cond (λ_=>(sA hc 2).bind λr13 p13=>Ends.cond (λ_=>?_) λ_=>same _ _ p13 (ha.put (oy) (s4))) λ_=>same _ _ hc ha;refine(KQ p13).bind λr14 p14=>(fX p14.2 (by decide)).bind λr15 p15=>same _ _ p15.2 ⟨by simp,ha.fn,oy,s4,ha.msg,p14.1,?_⟩;have:=p15.1;show 0<=r15.1/\r15.1<=100;omega
theorem c19 {Q:R->Prop}{k0:au dj->w6->dj->aw R}{v10 v30:Int}{v46:Bool}{l:au dj}{ps:au aG}{c:w6}(hl:l.length<=1000)(hp:∀p∈ps,Plain p)(h9:0<=v9/\v9<(ps.length:Int))(h10:0<=v10/\v10<=100)(hc:Cu c)(ha:nd v1 a)(hk:∀l' c' a',l'.length<=l.length+1->(∀y∈l',y∈l\/nd v1 y)->Cu c'->nd v1 a'->Ends (k0 l' c' a') Q):Ends (iD k0 v1 v2 l ps v9 v10 v30 v46 c a) Q:=by unfold iD;refine Ends.cond (λ_=>?_) λ_=>?_;refine Ends.idx h9.1 h9.2 λhi=>(Ib hc _ (n:=5) (by omega)).bind λr5 p5=>?_;have hf:=Dc r5.1;rw[abp,ab];exact hk l _ _ (by omega) (λy hy=>Or.inl hy) p5.2 (ha.put ⟨by simp,hf,by simp,by simp⟩ (Zi (by omega)));exact Ends.cond (λ_=>c25 hl hp h9 h10 hc ha hk) λ_=>Ends.cond (λ_=>c25 hl hp h9 h10 hc ha hk) λ_=>Ends.cond (λ_=>c25 hl hp h9 h10 hc ha hk) λ_=>c25 hl hp h9 h10 hc ha hk
theorem c37 {Q:R->Prop}{k0:au dj->w6->aw R}{l:au dj}{ps:au aG}{c:w6}(hl:l.length<=1000)(h1:0<v1)(hc:Cu c)(ha:nd v1 a)(hk:∀l' c',l'.length<=l.length+3->(∀y∈l',y∈l\/nd v1 y)->Cu c'->Ends (k0 l' c') Q):Ends (iG k0 v1 v2 l ps v9 c a) Q:=by unfold iG;refine Ends.room (by simp;omega) ((sA hc 2).bind λr31 p31=>Ends.cond (λ_=>(fX p31 h1).bind λr32 p32=>Ends.room (by simp;omega) (Ends.room (by simp;omega) (hk _ _ (by simp) ?_ p32.2))) λ_=>hk _ _ (by simp) (JB ha) p31);intro y hy;rcases ay.1 hy with hy|hy;rcases ay.1 hy with hy|hy;exact JB ha y hy;rw[bu.1 hy];exact Or.inr ⟨by simp,p32.1,oy,JA _,by simp,by simp,by simp⟩;rw[bu.1 hy];exact Or.inr ⟨by simp,⟨by simp,h1⟩,oy,s4,by simp,by simp,by simp⟩
theorem c6 {Q:R->Prop}{k0:au dj->Int->w6->aw R}{l:au dj}{ps:au aG}{c:w6}(hl:l.length<=900)(h1:0<v1/\v1<=3)(hp:∀p∈ps,Plain p)(h9:0<=v9/\v9<(ps.length:Int))(hn:ps.length<=1000)(hc:Cu c)(hk:∀l' c',l'.length<=l.length+4->(∀y∈l',y∈l\/nd v1 y)->Cu c'->Ends (k0 l' (v9+1) c') Q):Ends (sR k0 v1 v2 l ps v9 c) Q:=by
 unfold sR;refine(fX hc h1.1).bind λr2 p2=>(fX p2.2 (by decide)).bind λr3 p3=>?_;have hf:=p2.1;have a0:nd v1 (0,r2.1,(0,aa2,0,0,([]:Bytes),0),(0,0,0),([]:Bytes),0):=⟨by simp,hf,oy,s4,by simp,by simp,by simp⟩
 have e:aq (v9+1)=v9+1:=ak;have go:∀(v46:Bool),Ends (iD (λy28 y29 y30=>iG (λy33 y34=>kY (λy35=>k0 y33 y35 y34) v1 v2 y33 ps v9 y34) v1 v2 y28 ps v9 y29 y30) v1 v2 l ps v9 r2.1 r3.1 v46 r3.2 (0,r2.1,(0,aa2,0,0,([]:Bytes),0),(0,0,0),([]:Bytes),0)) Q:=by intro v46;refine c19 (by omega) hp h9 ⟨hf.1,by omega⟩ p3.2 a0 λl1 c1 a1 g1 g2 g3 g4=>c37 (by omega) h1.1 g3 g4 λl2 c2 g5 g6 g7=>?_;unfold kY;rw[e];refine hk _ _ (by omega) (λy hy=>?_) g7;rcases g6 y hy with g|g;exact g2 y g;exact Or.inr g
 exact Ends.cond (λ_=>go _) λ_=>Ends.cond (λ_=>go _) λ_=>go _
theorem Zl {c:w6}(h:Cu c)(hn:0<n/\n<=3)(b:Bool):Ends (xG c n b) λr=>(r.1.length<=32/\∀a∈r.1,nd n a)/\Cu r.2:=by
 unfold xG;refine(agC h (m:=8) (by omega) (by omega)).bind λr1 p1=>?_;have h8:=p1.1.2.2;refine Ends.uN (λx=>0<=x.2.1/\x.2.1<=(r1.1.length:Int)/\(x.1.length:Int)<=4*x.2.1/\(∀a∈x.1,nd n a)/\Cu x.2.2) (λx=>((r1.1.length:Int)-x.2.1).toNat) ⟨by simp,by simp,by simp,by simp,p1.2⟩ (by simp;omega) λx nx hx hnx=>?_;obtain⟨l,i,c'⟩:=x;obtain⟨x1,x2,x3,x4,x5⟩:=hx;simp only at x1 x2 x3 x4 x5;unfold wY;refine Ends.cond (λk=>?_) λk=>?_;have k:=bn k;simp only at k⊢;refine c6 (by omega) hn p1.1.1 ⟨x1,k⟩ (by omega) x5 λl' c2 g1 g2 g3=>hnx _ ⟨by show 0<=i+1;omega,by show i+1<=_;omega,by show(l'.length:Int)<=4*(i+1);omega,?_,g3⟩ (by show((r1.1.length:Int)-(i+1)).toNat<((r1.1.length:Int)-i).toNat;omega);intro a ha;rcases g2 a ha with g|g;exact x4 a g;exact g;simp only;have hl:l.length<=32:=by omega
 refine Ends.uN (λy=>0<=y.2/\y.2<=(y.1.length:Int)/\y.1.length=l.length/\∀a∈y.1,nd n a) (λy=>((y.1.length:Int)-y.2).toNat) ⟨by simp,by simp,rfl,x4⟩ (by simp;omega) λy ny hy hm=>?_;obtain⟨q,j⟩:=y;obtain⟨y1,y2,y3,y4⟩:=hy;simp only at y1 y2 y3 y4;unfold vk;refine Ends.cond (λk2=>?_) λk2=>Ends.pure ⟨⟨by show q.length<=32;omega,y4⟩,x5⟩;have k2:=bn k2;simp only at k2⊢;unfold vi;have step:∀q':au dj,q'.length=l.length->(∀a∈q',nd n a)->Ends (qR (λy61=>ny (q',y61)) q' j c') (λr=>(r.1.length<=32/\∀a∈r.1,nd n a)/\Cu r.2):=by intro q' e1 e2;unfold qR;rw[ak (n:=j+1)];exact hm _ ⟨by show 0<=j+1;omega,by show j+1<=(q'.length:Int);omega,e1,e2⟩ (by show((q'.length:Int)-(j+1)).toNat<((q.length:Int)-j).toNat;omega)
 refine Ends.bind (P:=λ_=>True) ?_ λz _=>?_;exact Ends.idx y1 k2 λ_=>Ends.cond (λ_=>Ends.idx y1 k2 λ_=>Ends.cond (λ_=>Ends.idx y1 k2 λ_=>Ends.pure trivial) λ_=>Ends.pure trivial) λ_=>Ends.pure trivial;unfold vj;refine Ends.cond (λ_=>Ends.idx y1 k2 λhi=>Ends.idx y1 k2 λ_=>step _ (by rw[aA];exact y3) ?_) λ_=>step q y3 y4;intro a ha;rcases List.mem_or_eq_of_mem_set ha with g|g;exact y4 a g;rw[g];exact(y4 _ (aL hi)).put (oy) (s4)
theorem Zw {a:bN}(ha:a.length<=1048576):Ends (vR a) λr=>BT r.1/\r.2.length<=32/\∀x∈r.2,nd (r.1.1.length:Int) x:=by unfold vR;refine(alH ha).bind λr1 p1=>(adk p1).bind λr2 p2=>?_;have p:=mM p2.1.ports;have hl:=p2.1.len;exact(Zl p2.2 ⟨by omega,by omega⟩ false).bind λr3 p3=>Ends.pure ⟨p2.1,p3.1.1,p3.1.2⟩
theorem acd (d:BT c):yJ 2000 c:=by
 have p:=mM d.ports;obtain⟨bk,_,hf⟩:=d.fns;have hh:∀h∈c.1,HI h:=by intro h hh;obtain⟨i,hi⟩:=List.getElem?_of_mem hh;obtain⟨hlt,_⟩:=List.getElem?_eq_some_iff.1 hi;exact(d.host i h _ hi (List.getElem?_eq_getElem (by rw[<-d.len];exact hlt))).1
 refine⟨⟨⟨by have:=d.len;omega,λh hx=>(hh h hx).sz.z⟩,⟨by rw[hf,yq];omega,λ_ _=>⟨ch,ch,⟨ch,ch,ch⟩,ch,ch,ch⟩⟩,⟨by omega,λb hb=>?_⟩,⟨by have:=d.flash.1;omega,λx hx=>by show x.length<=2000;rw[d.flash.2 x hx];omega⟩,⟨ch,ch,ch,ch⟩,?_,?_⟩,λh hx=>(hh h hx).sz⟩;obtain⟨i,hi⟩:=List.getElem?_of_mem hb;have q:=(d.box i b hi).vl;refine⟨⟨ch,ch,?_,λ_ _=>trivial⟩,ch,ch,ch⟩;show b.1.2.2.length<=2000;rcases q with e|e<;>rw[e]<;>simp;rw[show c.2.2.2.2.2.1=[] from congrArg (·.1) d.rest];exact⟨bS _,λ_ _=>trivial⟩;rw[show c.2.2.2.2.2.2=[] from congrArg (·.2) d.rest];exact⟨bS _,λx hx=>by cases hx⟩
def E1 (f:bE):Int:=if gO (f.getD 0 [])<0/\gO (f.getD 1 [])<0 then-1 else if gO (f.getD 1 [])>gO (f.getD 0 []) then gO (f.getD 1 []) else gO (f.getD 0 [])
theorem ZX (h:jC f=true):qg f=some (E1 f):=by obtain⟨e,h0,h1⟩:=uS h;unfold qg;rw[KR,ab];unfold gD E1;rw[h,ah];generalize f.getD 0 []=x at e h0 h1⊢;generalize f.getD 1 []=y at e h0 h1⊢;subst e;by_cases a:gO x<0/\gO y<0;rw[aF a,aF a];rfl;rw[aD a,aD a];by_cases b:gO y>gO x;rw[aF b,aF b,gT,af,show idx [x,y] 1=some y from rfl,ab,FG y];rfl;rw[aD b,aD b,gT,af,show idx [x,y] 0=some x from rfl,ab,FG x];rfl
theorem JI (h:¬gD f<0):jC f=true:=by unfold gD at h;cases hf:jC f with|true=>rfl|false=>rw[hf,af]at h;exact absurd (by decide) h
def MX (f g:bE):Prop:=jC g=true/\∀i:Nat,(i:Int)=gD f->g.getD i []=f.getD i []
theorem Wh {g:bE}(h:¬gD f<0)(k:MX f g):¬gD g<0/\E1 f<=E1 g/\0<=E1 f:=by
 have hf:=JI h;obtain⟨k1,k2⟩:=k;unfold gD at h k2;rw[hf,ah]at h k2;unfold gD E1;rw[k1,ah];by_cases a:gO (f.getD 0 [])<0/\gO (f.getD 1 [])<0;rw[aF a]at h;omega;rw[aD a]at h k2⊢;by_cases b:gO (f.getD 1 [])>gO (f.getD 0 []);rw[aF b]at k2⊢;have e:=k2 1 rfl;rw[e];have n:¬(gO (g.getD 0 [])<0/\gO (f.getD 1 [])<0):=by omega
 rw[aD n,aD n];split<;>refine⟨by omega,by omega,by omega⟩;rw[aD b]at k2⊢;have e:=k2 0 rfl;rw[e];have n:¬(gO (f.getD 0 [])<0/\gO (g.getD 1 [])<0):=by omega
 rw[aD n,aD n];split<;>refine⟨by omega,by omega,by omega⟩
theorem abB (x:gA):Ends (ql x) λb=>b=true->(0<=x.2.1/\x.2.1<=1)/\(x.1=0\/(x.2.2.2.length<=8/\0<=x.2.2.1/\x.2.2.1+(x.2.2.2.length:Int)<=96)):=by
 unfold ql;simp only[bZ,ab];refine Ends.cond (λ_=>Ends.pure (by simp)) λk=>?_;have k1:cI x.2.1 0 1=true:=by simpa using k
 have k1:=aS.1 k1;refine Ends.cond (λk2=>?_) λ_=>Ends.cond (λ_=>?_) λ_=>Ends.pure (by simp);refine Ends.bind (P:=λ_=>True) (Ends.cond (λ_=>Ends.pure trivial) λ_=>Ends.pure trivial) λz _=>Ends.pure λ_=>⟨k1,Or.inl (by simpa using k2)⟩
 refine Ends.bind (P:=λb=>b=true->x.2.2.2.length<=8/\0<=x.2.2.1/\x.2.2.1+(x.2.2.2.length:Int)<=96) (Ends.cond (λk3=>Ends.pure λk4=>?_) λ_=>Ends.pure (by simp)) λz hz=>Ends.pure λhb=>⟨k1,Or.inr (hz hb)⟩
 have k3:=aS.1 k3;rw[ak (n:=96-(x.2.2.2.length:Int))]at k4;have k4:=aS.1 k4;omega
theorem Nl (h:jC f=true){k:Int}(hk:0<=k/\k<=1)(hs:s.length=96):jC (f.set k.toNat s)=true/\∀i:Nat,(i:Int)≠k->(f.set k.toNat s).getD i []=f.getD i []:=by obtain⟨e,h0,h1⟩:=uS h;refine⟨?_,λi hi=>?_⟩;rw[e];rcases(by omega:k=0\/k=1)with rfl|rfl;unfold jC;show((((2:Nat):Int)==2)&&(((s.length:Int)==96)&&(((f.getD 1 []).length:Int)==96)))=true;rw[hs,h1];rfl;unfold jC;show((((2:Nat):Int)==2)&&((((f.getD 0 []).length:Int)==96)&&((s.length:Int)==96)))=true;rw[hs,h0];rfl;rw[List.getD_eq_getElem?_getD,List.getD_eq_getElem?_getD,List.getElem?_set_ne (by omega)]
theorem VG (h:jC f=true)(x:gA)(part:Int)(hp:part<=1000):Ends (jS f x part) λg=>jC g=true/\∀i:Nat,(i:Int)≠x.2.1->g.getD i []=f.getD i []:=by
 obtain⟨e,h0,h1⟩:=uS h;have hl:f.length=2:=by rw[e];rfl
 have same:jC f=true/\∀i:Nat,(i:Int)≠x.2.1->f.getD i []=f.getD i []:=⟨h,λ_ _=>rfl⟩
 unfold jS;rw[ku,kS f,ab,GY,ab,h];simp only[ab];refine Ends.bind (P:=λb=>b=false->((0<=x.2.1/\x.2.1<=1)/\(x.1=0\/(x.2.2.2.length<=8/\0<=x.2.2.1/\x.2.2.1+(x.2.2.2.length:Int)<=96)))/\0<=part) ?_ λz hz=>?_;refine Ends.cond (λk=>by simp at k) λ_=>(abB x).bind λb hb=>Ends.cond (λ_=>Ends.pure (by simp)) λk2=>Ends.pure λk3=>⟨hb (by simpa using k2),?_⟩
 have:=of_decide_eq_false k3;omega;refine Ends.cond (λ_=>Ends.pure same) λk=>?_;obtain⟨⟨hb,hx⟩,hp0⟩:=hz k;have hbl:x.2.1.toNat<f.length:=by omega
 have hlen:∀(i:Nat)(hi:i<f.length),f[i].length=96:=by intro i hi;have e0:f[0]'(by omega)=f.getD 0 []:=(cr (by omega) _).symm;have e1:f[1]'(by omega)=f.getD 1 []:=(cr (by omega) _).symm;rcases(by omega:i=0\/i=1)with rfl|rfl;rw[e0];exact h0;rw[e1];exact h1
 refine Ends.idx hb.1 (by omega) λhi=>?_;have h96:=hlen _ hi;refine Ends.room (by omega) (Ends.cond (λ_=>?_) λk0=>?_);refine Ends.uN (λy=>y.1.length=96/\0<=y.2/\y.2<=96) (λy=>(96-y.2).toNat) ⟨by simp[cY,h96],by simp,by simp⟩ (by simp) λy ny hy hn=>?_;unfold ri;refine Ends.cond (λk1=>?_) λ_=>Ends.idx hb.1 (by omega) λ_=>Ends.idx hb.1 (by omega) λ_=>Ends.pure (Nl h hb (by simp[aJ];exact hy.1));have k1:=bn k1;have k2:y.2<96:=by split at k1<;>omega
 rw[ak (n:=y.2+1)];refine Ends.idx hy.2.1 (by have:=hy.1;omega) λ_=>Ends.idx hy.2.1 (by have:=hy.1;omega) λ_=>hn _ ⟨by show(List.set _ _ _).length=96;rw[aA];exact hy.1,by show 0<=y.2+1;omega,by show y.2+1<=96;omega⟩ (by show(96-(y.2+1)).toNat<(96-y.2).toNat;omega);have hx:=hx.resolve_left (by simpa using k0);refine Ends.uN (λy=>y.1.length=96/\0<=y.2/\y.2<=(x.2.2.2.length:Int)) (λy=>((x.2.2.2.length:Int)-y.2).toNat) ⟨by simp[cY,h96],by simp,by simp⟩ (by simp;omega) λy ny hy hn=>?_;unfold pF;refine Ends.cond (λk1=>?_) λ_=>Ends.idx hb.1 (by omega) λ_=>Ends.idx hb.1 (by omega) λ_=>Ends.pure (Nl h hb (by simp[aJ];exact hy.1));have k1:=bn k1;have k2:y.2<(x.2.2.2.length:Int):=by split at k1<;>omega
 have hy1:=hy.1;rw[ak (n:=y.2+1),ak (n:=x.2.2.1+y.2)];refine Ends.idx (by omega) (by omega) λ_=>Ends.idx hy.2.1 k2 λ_=>Ends.idx (by omega) (by omega) λ_=>Ends.idx (by omega) (by omega) λ_=>hn _ ⟨by show(List.set _ _ _).length=96;rw[aA];exact hy.1,by show 0<=y.2+1;omega,by show y.2+1<=_;omega⟩ (by show((x.2.2.2.length:Int)-(y.2+1)).toNat<((x.2.2.2.length:Int)-y.2).toNat;omega)
theorem ad5 {l:Bytes}{i j:Int}(h0:0<=i)(h1:i<=j)(h2:j<=(l.length:Int)):∃s,sub l i j=some s:=by unfold sub;rw[aF ⟨h0,h1,h2⟩];exact⟨_,rfl⟩
theorem L5 {k0:au gA->Int->aw (au gA)}{Q:au gA->Prop}(hs:s.length<=96){b:Int}(hk:∀l i,l.length<=100->(∀x∈l,x.2.1=b)->Ends (k0 l i) Q):Ends (bc (jv k0 s b) fuel ([(0,b,0,([]:Bytes))],8)) Q:=by refine Ends.uN (λy=>8*(y.1.length:Int)<=y.2/\8<=y.2/\y.2<=104/\∀x∈y.1,x.2.1=b) (λy=>(104-y.2).toNat) ⟨by simp,by simp,by simp,by simp⟩ (by simp) λy ny hy hn=>?_;unfold jv;refine Ends.cond (λk=>?_) λ_=>hk _ _ (by have:=hy.1;have:=hy.2.2.1;omega) hy.2.2.2;have k:=bn k;have h1:=hy.1;have h2:=hy.2.1;rw[ak (n:=y.2+8)];obtain⟨t,et⟩:=ad5 (l:=s) (i:=y.2) (j:=if(s.length:Int)<y.2+8 then(s.length:Int) else y.2+8) (by omega) (by split<;>omega) (by split<;>omega);rw[et,ab];refine Ends.room (by simp;omega) (hn _ ⟨by show 8*((y.1++[_]).length:Int)<=y.2+8;simp;omega,by show 8<=y.2+8;omega,by show y.2+8<=104;omega,?_⟩ (by show(104-(y.2+8)).toNat<(104-y.2).toNat;omega));intro x hx;rcases ay.1 hx with hx|hx;exact hy.2.2.2 x hx;rw[bu.1 hx]
theorem ad4 (hs:s.length<=1000):Ends (qA f s) λl=>l.length<=101/\∀x∈l,x.2.1≠gD f:=by
 unfold qA;rw[GY,ab];refine Ends.bind (P:=λb=>b=false->jC f=true/\s.length<=96) ?_ λz hz=>Ends.cond (λ_=>Ends.pure ⟨by simp,by simp⟩) λk=>?_;refine Ends.cond (λ_=>Ends.pure (by simp)) λk1=>Ends.cond (λ_=>Ends.pure (by simp)) λk2=>?_;rw[FG s,ab];have:=of_decide_eq_false k2;exact Ends.pure λ_=>⟨by simpa using k1,by omega⟩
 obtain⟨hf,hl⟩:=hz k;have fin:∀(l:au gA)(b:Int),b≠gD f->l.length<=100->(∀x∈l,x.2.1=b)->Ends (aa (sub s 0 (if(s.length:Int)<8 then(s.length:Int) else 8)) λx8=>Go.Dn.room (List.length l+List.length [((1,b,0,x8):gA)]) (some (l++[(1,b,0,x8)]))) (λl=>l.length<=101/\∀x∈l,x.2.1≠gD f):=by intro l b hb h1 h2;obtain⟨t,et⟩:=ad5 (l:=s) (i:=0) (j:=if(s.length:Int)<8 then(s.length:Int) else 8) (by omega) (by split<;>omega) (by split<;>omega);rw[et,ab];refine Ends.room (by simp;omega) (Ends.pure ⟨by simp;omega,λx hx=>?_⟩);rcases ay.1 hx with hx|hx;rw[h2 x hx];exact hb;rw[bu.1 hx];exact hb
 rw[KR,ab];refine Ends.cond (λk0=>?_) λk0=>?_;have e:gD f=0:=by simpa using k0
 exact L5 hl λl i h1 h2=>fin l 1 (by omega) h1 h2;have e:gD f≠0:=by simpa using k0
 exact L5 hl λl i h1 h2=>fin l 0 (by omega) h1 h2
theorem abJ (h:jC f=true){l:au gA}(hl:l.length<=101)(hb:∀x∈l,x.2.1≠gD f)(n:Int)(hn:n<=1000):Ends (tX f l n 3) (MX f):=by
 have hlen:f.length=2:=by rw[(uS h).1];rfl
 have same:MX f f:=⟨h,λ_ _=>rfl⟩
 have step:∀(g:bE)(i:Nat)(hi:i<l.length)(part:Int),part<=1000->MX f g->Ends (jS g l[i] part) (MX f):=by
  intro g i hi part hp kg;refine(VG kg.1 l[i] part hp).mono λg' hg=>⟨hg.1,λj hj=>?_⟩
  rw[hg.2 j (by rw[hj];exact(hb _ (aL hi)).symm)];exact kg.2 j hj
 unfold tX;rw[ku,kS f,ab];refine Ends.bind (P:=λb=>b=false->0<=n) (Ends.cond (λ_=>Ends.pure (by simp)) λk=>Ends.pure λ_=>by have:=of_decide_eq_false k;omega) λz hz=>Ends.cond (λ_=>Ends.pure same) λk=>?_;have h0:=hz k;refine Ends.uN (λy=>0<=y.1/\y.1<=(l.length:Int)/\MX f y.2) (λy=>((l.length:Int)-y.1).toNat) ⟨by simp,by simp,same⟩ (by simp;omega) λy ny hy hm=>?_;unfold tY;refine Ends.bind (P:=λb=>b=true->y.1<(l.length:Int)) (Ends.cond (λk1=>Ends.pure λ_=>bn k1) λ_=>Ends.pure (by simp)) λw hw=>Ends.cond (λk2=>?_) λ_=>Ends.cond (λk3=>?_) λ_=>Ends.pure hy.2.2;have k2:=hw k2;rw[ak (n:=y.1+1)];exact Ends.idx hy.1 k2 λhi=>(step y.2 _ hi 96 (by omega) hy.2.2).bind λg kg=>hm _ ⟨by show 0<=y.1+1;have:=hy.1;omega,by show y.1+1<=_;omega,kg⟩ (by show((l.length:Int)-(y.1+1)).toNat<((l.length:Int)-y.1).toNat;omega);have k3:=bn k3;exact Ends.idx h0 k3 λhi=>(step y.2 _ hi 3 (by omega) hy.2.2).bind λg kg=>Ends.pure kg
def F7 (b:se)(n:Int):se:=
 bif gL b&&cI n 0 1000000 then(b.1,b.2.1,if b.2.1<aq (b.2.2+aq (b.1*n)) then b.2.1 else aq (b.2.2+aq (b.1*n))) else b
theorem V6 (b:se)(n:Int):o4 b n=some (F7 b n):=by unfold o4 F7;simp only[Eo,ab,bZ];cases gL b<;>cases cI n 0 1000000<;>rfl
def Cv (f:α->α)(l:au α)(i:Nat):au α:=(l.take i).map f++l.drop i
theorem Hb (f:α->α){l:au α}(h:i<l.length):idx (Cv f l i) (i:Int)=some l[i]:=by rw[Fq,Cv,List.getElem?_append_right (by simp only[bF,aO];omega),List.getElem?_drop];rw[show i+(i-((l.take i).map f).length)=i by simp;omega];exact List.getElem?_eq_getElem h
theorem Hc (f:α->α){l:au α}(h:i<l.length):(Cv f l i).set i (f l[i])=Cv f l (i+1):=by
 have hl:((l.take i).map f).length=i:=by simp;omega
 rw[Cv,Cv,List.set_append_right _ _ (by omega),hl,gK,bQ h,List.set_cons_zero,aW h,dF,aU];rfl
theorem Ha (f:α->α)(l:au α):Cv f l l.length=l.map f:=by rw[Cv,cm,gv,bw]
def Zb (n:Int)(f:aP):aP:=(f.1,f.2.1,F7 f.2.2.1 n,f.2.2.2)
theorem SV (l:au aP)(n:Int)(h:l.length<=1000000000):nG l n=some (l.map (Zb n)):=by unfold nG;rw[tE l h,ab];refine da (λi=>(Cv (Zb n) l i,(i:Int))) l.length (by omega) (λi nx hi=>?_) (λnx=>?_);simp only[kG];rw[iV,Hb _ hi,ak];simp only[ah,ab,V6,ax];rw[<-Hc _ hi];rfl;simp only[kG];rw[gT,af,Ha]
def aoH (x:Bytes):Bool:=decide (22<=x.length)
theorem sum_nil (l:au bE):((l.map (λ_=>([]:bE))).map (λq=>q.countP aoH)).sum=0:=by induction l with|nil=>rfl|cons x l ih=>simp only[cS,List.sum_cons,List.countP_nil,cg];exact ih
theorem Mp {b:se}(h:gL b=true)(n:Int):gL (F7 b n)=true:=by
 unfold F7;cases hq:gL b&&cI n 0 1000000 with
 |false=>exact h
 |true=>
  simp only[ae,aS]at hq;have hi:=h;unfold gL at hi;simp only[ae,aS]at hi;have e1:0<=b.1*n/\b.1*n<=10000000000:=⟨Int.mul_nonneg hi.1.1 hq.2.1,by have:=Int.mul_le_mul hi.1.2 hq.2.2 hq.2.1 (by omega:(0:Int)<=10000);omega⟩
  rw[ah,ak (n:=b.1*n),ak (n:=b.2.2+b.1*n)];unfold gL;simp only[ae,aS];refine⟨hi.1,hi.2.1,?_,?_⟩;split<;>omega;split<;>omega
def kL (a b:cM):Prop:=∀(i:Nat)(h:Host),b.1[i]?=some h->∃h0,a.1[i]?=some h0/\ka h0 h
theorem kL.refl (a:cM):kL a a:=λi h e=>⟨h,e,ka.refl h⟩
theorem kL.trans {a b:cM}(h:kL a b)(g:kL b c):kL a c:=by intro i x e;obtain⟨y,e1,s1⟩:=g i x e;obtain⟨w,e2,s2⟩:=h i y e1;exact⟨w,e2,s2.trans s1⟩
theorem Dr {h0:Host}(hk:c.1[k]?=some h0)(s:ka h0 h):kL c (QL c k h):=by intro i x e;have e:(c.1.set k h)[i]?=some x:=e;by_cases hik:i=k;subst hik;obtain⟨hlt,_⟩:=List.getElem?_eq_some_iff.1 hk;rw[List.getElem?_set_self hlt]at e;rw[<-bM e];exact⟨h0,hk,s⟩;rw[List.getElem?_set_ne (cC hik)]at e;exact⟨x,e,ka.refl x⟩
theorem UD {f:Host->Host}(hf:∀h,ka h (f h)){X:au aP×au bC×bE×jY×bN×bE}:kL c (c.1.map f,X):=by intro i x e;have e:(c.1.map f)[i]?=some x:=e;rw[List.getElem?_map]at e;cases hc:c.1[i]? with|none=>rw[hc]at e;cases e|some h0=>rw[hc]at e;rw[<-bM e];exact⟨h0,rfl,hf h0⟩
theorem Xi (ps:au Port)(v:Int)(p:aG)(c:cM)(j:Nat):kL c (cG ps v p c j):=by unfold cG;cases j==0 with|true=>exact λi h e=>⟨h,e,ka.refl h⟩|false=>simp only[af];cases hc:c.1[j-1]? with|none=>exact kL.refl c|some h=>exact Dr hc (Gn ..)
theorem Om (ps:au Port)(v:Int)(p:aG):∀(l:eG)(c:cM),kL c (I6 ps v p c l)
 |[],c=>kL.refl c
 |j::l,c=>(Xi ps v p c j).trans (Om ps v p l _)
theorem D2 (c:cM)(e:Int)(p:aG):kL c (ou c e p):=by unfold ou;cases decide (np (cW c.2.2.1).1 e p<0)with|true=>exact kL.refl c|false=>exact Om _ _ _ _ _
theorem QT (c:cM)(e:Int)(p:aG):kL c (qU c e p):=by unfold qU;cases kb c&&dU p with|true=>exact D2 _ _ _|false=>exact kL.refl c
theorem Xh (ps:au Port)(k:Int)(c:cM)(x:Bytes):kL c (zy ps k c x):=by
 unfold zy;have e:kL c (c.1,(tj c.2.1 ps k (fF x).1).1,c.2.2):=λi h e=>⟨h,e,ka.refl h⟩
 cases (tj c.2.1 ps k (fF x).1).2.2 with|true=>exact e.trans (QT _ _ _)|false=>exact e
theorem L0 (ps:au Port)(k:Int):∀(l:bE)(c:cM),kL c (BN ps k c l)
 |[],c=>kL.refl c
 |x::l,c=>(Xh ps k c x).trans (L0 ps k l _)
theorem ag6 (c:cM)(k:Int):kL c (tw c k):=by
 unfold tw;cases kb c&&(!decide (k<0)&& !decide (k>=(c.1.length:Int)))with|false=>exact kL.refl c|true=>?_
 simp only[ah];cases hc:c.1[k.toNat]? with|none=>exact kL.refl c|some h=>exact(Dr hc (D3 h)).trans (L0 _ _ _ _)
theorem MO (c:cM)(x:Bytes):kL c (pU c x):=by
 unfold pU;cases !kb c with|true=>exact kL.refl c|false=>?_
 cases (fF x).2==0 with|true=>exact(show kL c (Bj c) from λi h e=>⟨h,e,ka.refl h⟩).trans (D2 _ _ _)|false=>exact λi h e=>⟨h,e,ka.refl h⟩
theorem U1 {k:jY}(h:pw k=true):Ends (oS k 1) λr=>pw r=true/\k.1<=r.1:=by
 have hi:=h;unfold pw at hi;simp only[ae,aS]at hi;unfold oS;rw[GW,ab,h,bZ];simp only[aj,af,ab];have same:pw k=true/\k.1<=k.1:=⟨h,cu _⟩
 refine Ends.cond (λ_=>Ends.pure same) λ_=>Ends.ifn (by decide) ?_;unfold G4;rw[ab];refine Ends.ifn (by decide) ?_;rw[GW,ab];refine Ends.cond (λ_=>Ends.pure same) λk2=>Ends.pure ⟨by simpa using k2,?_⟩;rw[ak (n:=k.2.2.1*1),ak (n:=k.2.1+k.2.2.1*1)];have q0:0<=Int.tdiv (k.2.1+k.2.2.1*1) 1048576:=Int.tdiv_nonneg (by omega) (by omega);have q1:Int.tdiv (k.2.1+k.2.2.1*1) 1048576<=k.2.1+k.2.2.1*1:=by rw[Int.tdiv_eq_ediv_of_nonneg (by omega)];omega
 rw[ak (n:=Int.tdiv (k.2.1+k.2.2.1*1) 1048576)];generalize Int.tdiv (k.2.1+k.2.2.1*1) 1048576=q at q0 q1;show k.1<=aq (k.1+aq (q-if k.2.2.2<q then k.2.2.2 else q));split;rw[ak (n:=q-k.2.2.2),ak];omega;rw[ak (n:=q-q),ak];omega
theorem VP (g:fN n c):fN n (c.1,c.2.1.map (Zb 1),c.2.2):=by refine Sp g (cu n) (bF ..) (λi hi=>?_) λf hf=>?_;have q:=((P4.1 g.fns).2 i hi).1;rw[cr hi]at q⊢;rw[cr (by rw[bF];exact hi),List.getElem_map];have w:=Ci.1 q;exact⟨rfl,rfl,Ci.2 ⟨w.1,w.2.1,Mp w.2.2.1 1,w.2.2.2.1,w.2.2.2.2⟩⟩;obtain⟨x,hx,rfl⟩:=dP.1 hf;exact g.fnn x hx
theorem W0 (K:Int->cM->aw R)(b:cM)(hs:au Host)(X:au aP×au bC×bE×jY×bN×bE)(hl:hs.length<=1000)(z:∀h∈hs,yI 90000000 h):bc (n0 K (hs.length:Int) b) fuel (0,hs,X)=K (hs.length:Int) (hs.map rk,X):=by refine da (λi=>((i:Int),Cv rk hs i,X)) hs.length (by omega) (λi nx hi=>?_) (λnx=>?_);simp only[n0];have zh:=z _ (aL hi);rw[iV,Hb _ hi,ak];simp only[ah,ab,DN _ (zh.sz (by omega)) (zh.z.mono),ax];rw[<-Hc _ hi];rfl;simp only[n0];rw[gT,af,Ha]
theorem abI (K:Int->cM->aw R)(b:cM)(hs:au Host)(X:au aP×au bC×bE×jY×bN×bE)(hl:hs.length<=1000)(z:∀h∈hs,yI 90000000 h):bc (kV K (hs.length:Int) b) fuel (0,hs,X)=K (hs.length:Int) (hs.map uM,X):=by refine da (λi=>((i:Int),Cv uM hs i,X)) hs.length (by omega) (λi nx hi=>?_) (λnx=>?_);simp only[kV];have zh:=z _ (aL hi);rw[iV,Hb _ hi,ak];simp only[ah,ab,SU _ (zh.sz (by omega)) (zh.z.mono),ax];rw[<-Hc _ hi];rfl;simp only[kV];rw[gT,af,Ha]
structure Xu (n:Int) (N:Nat) (c:cM) (a:dj) (r:cM×Int):Prop where
 Sl:fN (n+14000000) r.1
 sz:yJ (N+645000) r.1
 len:r.1.1.length=c.1.length
 upd:a.1=2->r.2=E1 r.1.2.2.2.1/\E1 c.2.2.2.1<=E1 r.1.2.2.2.1
 flash:a.1≠2->r.1.2.2.2.1=c.2.2.2.1
 stamps:r.1.2.2.2.2.2.1=c.2.2.2.2.2.1++(if a.1=0/\a.2.2.1.1=2 then [c.2.2.2.2.1.1] else [])
 clock:c.2.2.2.2.1.1<=r.1.2.2.2.2.1.1
 stay:kL c r.1
 alone:(a.1=1\/a.1=0/\(a.2.2.1.1=0\/a.2.2.1.1=3\/a.2.2.1.1=5\/a.2.2.1.1=6))->∀i:Nat,(i:Int)≠a.2.1->r.1.1[i]?=c.1[i]?
theorem XF {N M:Nat}(hN:N<=M)(z:yJ N c){f:Host->Host}(hf:∀h∈c.1,yI M (f h)):yJ M (c.1.map f,c.2):=by have z':=z.mono hN;refine⟨⟨⟨by show(c.1.map f).length<=M;rw[bF];exact z'.z.1.1,λx hx=>?_⟩,z'.z.2⟩,λx hx=>?_⟩;obtain⟨h,hh,rfl⟩:=dP.1 hx;exact(hf h hh).z;obtain⟨h,hh,rfl⟩:=dP.1 hx;exact hf h hh
theorem ZC {N:Nat}(hn:n<=10000000000)(hN:1000<=N/\N<=50000000)(g:fN n c)(z:yJ N c)(ha:nd (c.1.length:Int) a):Ends (td c a) (Xu n N c a):=by
 have p:=mM g.ports;have hlen:=g.len;have z9:cV 1000000000 sZ c:=z.z.mono;have gh:∀h∈c.1,Good n h:=by intro h hh;obtain⟨i,hi⟩:=List.getElem?_of_mem hh;exact g.at hi
 have zh:∀h∈c.1,yI 90000000 h:=λh hh=>(z.h h hh).mono;unfold td;rw[qf c z9,ab,Ac c (z.sz (by omega)),g.ok (by omega),ab];have ok:uc a (c.2.1.length:Int)=some true:=by unfold uc;simp only[Ya,bZ,ab,ha.ok,ah];rw[ak (n:=(c.2.1.length:Int)-1),aS.2 ⟨ha.fn.1,by have:=ha.fn.2;omega⟩,ah,aS.2 ha.kind,ah,aS.2 ha.part];rfl
 simp only[aj,af,ok,ab];obtain⟨k,hk⟩:∃k:Nat,a.2.1=k:=⟨a.2.1.toNat,by have:=ha.fn.1;omega⟩
 have hfn:=ha.fn;rw[hk]at hfn;have hkl:k<c.1.length:=by omega
 have hkb:k<c.2.2.1.length:=by omega
 have base:c.2.2.2.2.2.1=c.2.2.2.2.2.1++[]:=(bw _).symm;refine Ends.cond (λk1=>?_) λk1=>?_;have k1:a.1=1:=by simpa using k1
 rw[IW c _ _ (z.z.mono) (z.sz (by omega)),ab,hk];have hb:=List.getElem?_eq_getElem hkb;have nst:¬(a.1=0/\a.2.2.1.1=2):=by omega
 by_cases e1:a.2.2.2.1.1=c.2.2.1[k].2.1+1;obtain⟨h,b',eh,e2,_,_,e5,e6⟩:=Rq g (by omega) hb (m:=a.2.2.2.1) e1;have pb:=mM e5;have hml:b'.1.2.2.length<=8:=yn (pb.2.2.2.1 b' (List.mem_of_getElem? (List.getElem?_set_self hkb)));rw[e2];refine Ends.pure ⟨e6.mono,(amc (by omega) z eh hml).mono,aA ..,λe=>by omega,λ_=>rfl,by rw[aD nst];exact base,cu _,?_,λ_ i hi=>?_⟩;exact Dr eh ⟨rfl,rfl⟩;show(c.1.set k _)[i]?=c.1[i]?;rw[List.getElem?_set_ne (by rw[hk]at hi;omega)];have e2:∃x,nm c.2.2.1 k a.2.2.2.1=(c.2.2.1,x):=by by_cases e3:a.2.2.2.1.1=c.2.2.1[k].2.1;exact⟨_,Vf g.ports hb e3⟩;exact⟨_,Rk g.ports hb e3 e1⟩
 obtain⟨x,e2⟩:=e2;rw[Rr g (by omega) hb e2];exact Ends.pure ⟨g.mono,z.mono,rfl,λe=>by omega,λ_=>rfl,by rw[aD nst];exact base,cu _,kL.refl c,λ_ i hi=>rfl⟩;have k1:a.1≠1:=by simpa using k1
 refine Ends.cond (λk2=>?_) λk2=>?_;have k2:a.1=2:=by simpa using k2
 have hf:=JI g.boot;have nst:¬(a.1=0/\a.2.2.1.1=2):=by omega
 refine(ad4 (f:=c.2.2.2.1) (s:=a.2.2.2.2.1) (by have:=ha.img;omega)).bind λr6 p6=>(abJ hf p6.1 p6.2 a.2.2.2.2.2 (by have:=ha.part;omega)).bind λf' p7=>?_;have b:=Wh g.boot p7;rw[W0 _ _ c.1 _ (by omega) zh,ZX (show jC f'=true from p7.1),ab];have gm:=Nq g (show n<=n+640 by omega) (f:=rk) (λh q=>KI (by omega) q) Nn;have zm:=XF (M:=N+645000) (by omega) z (f:=rk) λh hh=>(Hx (by omega) (z.h h hh) (VB ((gh h hh).ok (by omega)))).1;obtain⟨fe,f0,f1⟩:=uS p7.1;have fz:cV (N+645000) (.sl .str) f':=by rw[fe];refine⟨by show 2<=N+645000;omega,λx hx=>?_⟩;rcases bG.1 hx with e|hx;rw[e];show(f'.getD 0 []).length<=_;omega;rw[bu.1 hx];show(f'.getD 1 []).length<=_;omega
 refine Ends.pure ⟨?_,⟨⟨zm.z.1,zm.z.2.1,zm.z.2.2.1,fz,zm.z.2.2.2.2⟩,zm.h⟩,bF ..,λ_=>⟨rfl,b.2.1⟩,λe=>absurd k2 e,by rw[aD nst];exact base,cu _,UD LZ,λe=>by omega⟩;have q:=gm.mono (show n+640<=n+14000000 by omega);exact⟨q.ports,q.len,q.fns,b.1,q.clock,q.host,q.place,q.boxn,q.fnn⟩;have k2:a.1≠2:=by simpa using k2
 have k0:a.1=0:=by have:=ha.kind;omega
 have ac:=ha.act;have bound:=ac.2.1;refine Ends.cond (λk3=>?_) λk3=>?_;have k3:a.2.2.1.1=1:=by simpa using k3
 have nst:¬(a.1=0/\a.2.2.1.1=2):=by omega
 rw[VU c _ (z.mono),ab];have kt:=ags c a.2.1;have zt:=(Vk hN.1 a.2.1 z).1;exact Ends.pure ⟨af4 (by omega) g _,zt.mono,kt.len,λe=>absurd e k2,λ_=>kt.flash,by rw[aD nst,bw];exact kt.stamps,by rw[kt.clock];exact cu _,ag6 _ _,λe=>by omega⟩;have k3:a.2.2.1.1≠1:=by simpa using k3
 refine Ends.cond (λk4=>?_) λk4=>?_;have k4:a.2.2.1.1=2:=by simpa using k4
 have yst:a.1=0/\a.2.2.1.1=2:=⟨k0,k4⟩
 rw[IX c _ (z.mono) (by omega),ab];have zr:=Uc hN.1 a.2.2.1.2.2.2.2.1 z;have kr:oP (Bj c) (pU c a.2.2.1.2.2.2.2.1):=by unfold pU;rw[g.ok (by omega)];simp only[aj,af];cases (fF a.2.2.1.2.2.2.2.1).2==0 with|true=>exact DR ..|false=>exact oP.refl _
 exact Ends.pure ⟨(Mv (by omega) g _).mono,zr.1.mono,zr.2,λe=>absurd e k2,λ_=>kr.flash,by rw[aF yst];exact kr.stamps,by rw[kr.clock];exact cu _,MO _ _,λe=>by omega⟩;have k4:a.2.2.1.1≠2:=by simpa using k4
 have nst:¬(a.1=0/\a.2.2.1.1=2):=by omega
 refine Ends.cond (λk5=>?_) λk5=>?_;have k5:a.2.2.1.1=4:=by simpa using k5
 show Ends (bc (kV _ (c.1.length:Int) _) fuel (0,c.1,c.2)) _;rw[abI _ _ c.1 _ (by omega) zh];rw[SV c.2.1 1 (by omega),ab];refine(U1 g.clock).bind λr24 p24=>Ends.pure ?_;have gm:=Nq (VP g) (show n<=n by omega) (f:=uM) (λh q=>Ns q) Sc;have zm:=XF (M:=N+645000) (by omega) z (f:=uM) λh hh=>(UN hN.1 (z.h h hh)).mono;have q:=gm.mono (show n<=n+14000000 by omega);refine⟨⟨q.ports,q.len,q.fns,q.boot,p24.1,q.host,q.place,q.boxn,q.fnn⟩,⟨⟨zm.z.1,⟨?_,λ_ _=>⟨ch,ch,⟨ch,ch,ch⟩,ch,ch,ch⟩⟩,zm.z.2.2.1,zm.z.2.2.2.1,⟨ch,ch,ch,ch⟩,zm.z.2.2.2.2.2⟩,zm.h⟩,bF ..,λe=>absurd e k2,λ_=>rfl,by rw[aD nst];exact base,p24.2,UD On,λe=>by omega⟩;show(c.2.1.map (Zb 1)).length<=_;rw[bF];exact zm.z.2.1.1;rw[hk,bp hkl,ab];have zk:=z.h _ (aL hkl);rw[ZZ _ _ (zk.mono) (by omega),ab,ab,ab];have hg:=List.getElem?_eq_getElem hkl;have hsz:=(abZ hN.1 a.2.2.1 zk (VB ((g.at hg).ok (by omega)))).1;refine Ends.pure ⟨(GU g (show n<=n+641 by omega) hg (acF (by omega) (g.at hg) a.2.2.1) (af1 ..)).mono,Gb (z.mono) hsz,aA ..,λe=>absurd e k2,λ_=>rfl,by rw[aD nst];exact base,cu _,Dr hg (ad1 ..),λ_ i hi=>?_⟩;show(c.1.set ((k:Int).toNat) _)[i]?=c.1[i]?;rw[ax,List.getElem?_set_ne (by rw[hk]at hi;omega)]
theorem air {a:bN}{k:Bool->aw Bool}(ht:k true=some true)(hk:a.length<=1048576->Ends (k false) (λb=>b=true)):Ends (aa (FR a) k) (λb=>b=true):=by unfold FR;rw[ab];by_cases h:((a.length:Int))>1048576;rw[ar h,ht];exact Ends.pure rfl;rw[al h];exact hk (by omega)
theorem Ends.true {o:aw Bool}(h:Ends o (λb=>b=true)):o=some true:=by obtain⟨x,h1,rfl⟩:=h;exact h1
structure IT (c0:cM) (k:Nat) (c:cM):Prop where
 Sl:fN (4+14000000*(k:Int)) c
 sz:yJ (2000+645000*k) c
 len:c.1.length=c0.1.length
 stay:kL c0 c
theorem IT.start (d:BT c):IT c 0 c:=⟨d.Sl.mono,(acd d).mono,rfl,kL.refl c⟩
theorem IT.step (q:IT c0 k c)(hk:k<=40)(ha:nd (c0.1.length:Int) a):Ends (td c a) λr=>Xu (4+14000000*(k:Int)) (2000+645000*k) c a r/\IT c0 (k+1) r.1:=by refine(ZC (by omega) ⟨by omega,by omega⟩ q.Sl q.sz (by rw[q.len];exact ha)).mono λr h=>⟨h,⟨h.Sl.mono (by push_cast;omega),h.sz.mono,h.len.trans q.len,q.stay.trans h.stay⟩⟩
theorem Ends.self {o:aw α}{P:α->Prop}(h:Ends o P):Ends o λx=>P x/\o=some x:=by obtain⟨x,e,p⟩:=h;exact⟨x,e,p,e⟩
theorem W2 (d:BT c0){l:au dj}(hl:l.length<=40)(ha:∀a∈l,nd (c0.1.length:Int) a)(P:Nat->cM->Prop)(h0:P 0 c0)(hs:∀i c r (hi:i<l.length),P i c->IT c0 i c->Xu (4+14000000*(i:Int)) (2000+645000*i) c l[i] r->td c l[i]=some r->P (i+1) r.1):Ends (tW c0 l) λr=>IT c0 l.length r.1/\P l.length r.1/\r.2.length=l.length:=by
 have st:=IT.start d;unfold tW;rw[qf c0 (st.sz.z.mono),ab,Ac c0 (st.sz.sz (by omega)),st.Sl.ok (by omega),ab];simp only[aj,af,ab];rw[gT,af];refine Ends.uN (λx=>0<=x.2.1/\x.2.1<=(l.length:Int)/\(x.1.length:Int)=x.2.1/\IT c0 x.2.1.toNat x.2.2/\P x.2.1.toNat x.2.2) (λx=>((l.length:Int)-x.2.1).toNat) ⟨by simp,by simp,by simp,st,h0⟩ (by simp;omega) λx nx hx hn=>?_;obtain⟨q,i,c⟩:=x;obtain⟨x1,x2,x3,x4,x5⟩:=hx;simp only at x1 x2 x3 x4 x5;obtain⟨i,rfl⟩:∃k:Nat,i=k:=⟨i.toNat,by omega⟩
 rw[ax]at x4 x5;unfold wS;refine Ends.cond (λk=>?_) λk=>?_;have k:=bn k;simp only at k⊢;have hi:i<l.length:=by omega
 rw[bp hi,ab];refine(x4.step (by omega) (ha _ (aL hi))).self.bind λr p'=>Ends.room (by simp;omega) ?_;obtain⟨p,pe⟩:=p';rw[ak (n:=(i:Int)+1)];have e:((i:Int)+1).toNat=i+1:=by omega
 refine hn _ ⟨by show 0<=(i:Int)+1;omega,by show(i:Int)+1<=_;omega,by show((q++[_]).length:Int)=(i:Int)+1;simp;omega,by show IT c0 ((i:Int)+1).toNat r.1;rw[e];exact p.2,by show P ((i:Int)+1).toNat r.1;rw[e];exact hs i c r hi x5 x4 p.1 pe⟩ (by show((l.length:Int)-((i:Int)+1)).toNat<((l.length:Int)-(i:Int)).toNat;omega);have k:=of_decide_eq_false k;simp only at k⊢;have e:i=l.length:=by omega
 subst e;exact Ends.pure ⟨x4,x5,by show q.length=l.length;omega⟩
theorem W3 (d:BT c0){l:au dj}(hl:l.length<=40)(ha:∀a∈l,nd (c0.1.length:Int) a)(P:Nat->cM->Prop)(h0:P 0 c0)(hs:∀i c r (hi:i<l.length),P i c->IT c0 i c->Xu (4+14000000*(i:Int)) (2000+645000*i) c l[i] r->P (i+1) r.1):Ends (tW c0 l) λr=>IT c0 l.length r.1/\P l.length r.1/\r.2.length=l.length:=W2 d hl ha P h0 λi c r hi p q dn _=>hs i c r hi p q dn
theorem XC (b:Bool):Ai b=some (WH b):=by unfold Ai WH;cases b<;>rfl
end
end Go.Pu
