import Derived.Test.YtgbaemfepmabgaaGreatPure
import Derived.KernelRfl
import Derived.Test.YtgbaemfepmabgaaGreatPuX2
namespace Go.Pu
open Go.Dn
set_option linter.unusedSimpArgs false
set_option linter.unusedVariables false
noncomputable section
variable {v2:Bool} {s x:Bytes} {b2 c:dh} {a:ej} {h:Host} {d n v1 v9:Int} {b:bL} {i k:Nat} {p:aI} {q:cy} {g:fO} {st:dJ} {t:eC} {R α:Type} {v:Vector} {ms:aw bL} {ps:aw Port} {l:aw aS} {f m:bO} {r:kO}
/- One act, runs of acts, and whether all was delivered: the program's and the reference's results are one. -/
def aya (b:Bool):Int:=bif b then 1 else 0
def F9 (h:Host)(a:Act):Host×Int:=
 bif !ew h|| !EG a then(h, -1) else
 bif a.1==0 then((Ae h a.2.1 a.2.2.1 a.2.2.2.1).1,aya (Ae h a.2.1 a.2.2.1 a.2.2.2.1).2) else
 bif a.1==1 then(fQ h,0) else
 bif a.1==2 then(lg h a.2.2.2.2.1,0) else
 bif a.1==3 then(we h,0) else
 bif a.1==4 then(vY h,0) else
 bif a.1==5 then nL h a.2.2.2.2.2 else(sD h,0)
theorem aaV (h:Host)(a:Act)(k:Ap 90000000 h)(hx:a.2.2.2.2.1.length<=1000000000):Cf h a=some (F9 h a):=by
 have z:dk 1000000000 dD h:=k.z.mono;unfold Cf F9;rw[uS h (k.sz),ab,Zi,ab];cases ew h with|false=>simp only[bz,ah,il,ab,js h z]|true=>?_
 cases EG a with|false=>simp only[aj,bz,ah,af,ik,ab,js h z]|true=>?_
 simp only[aj,af,cz,ab,aa5 h _ _ _ (k.mono),GQ h (k.mono),GL h _ (k.mono) hx,W4 h (k.mono),TZ h (k.sz) z,TW h _ (k.mono),EX h (k.sz) (k.z.mono)];cases a.1==0 with|true=>(simp only[ah];cases (Ae h a.2.1 a.2.2.1 a.2.2.2.1).2<;>rfl)|false=>?_
 cases a.1==1 with|true=>rfl|false=>?_
 cases a.1==2 with|true=>rfl|false=>?_
 cases a.1==3 with|true=>rfl|false=>?_
 cases a.1==4 with|true=>rfl|false=>?_
 cases a.1==5<;>rfl
theorem agB {n:Nat}(hn:1000<=n)(a:Act)(k:Ap n h)(f:ew h=true\/KA h):Ap (n+645000) (F9 h a).1/\(ew h=true\/KA h->KA (F9 h a).1\/(F9 h a).1=h):=by
 have f:KA h:=f.elim WH id;unfold F9;cases !ew h|| !EG a with|true=>exact⟨k.mono,λ_=>Or.inr rfl⟩|false=>?_
 simp only[af];cases a.1==0 with|true=>exact⟨(aeM hn _ _ _ k).mono,λ_=>Or.inl (adt hn _ _ _ k f)⟩|false=>?_
 cases a.1==1 with|true=>exact⟨(CF (by omega) k).mono,λ_=>Or.inl (Q3 f)⟩|false=>?_
 cases a.1==2 with|true=>exact⟨(DP hn _ k).1.mono,λ_=>Or.inl (S5 hn _ k f)⟩|false=>?_
 cases a.1==3 with|true=>exact⟨(aaK hn k).mono,λ_=>Or.inl (aaD f)⟩|false=>?_
 cases a.1==4 with|true=>exact⟨(VT hn k).mono,λ_=>Or.inl (adu f)⟩|false=>?_
 cases a.1==5 with|true=>exact⟨(Vu hn _ k).mono,λ_=>Or.inl (aaE _ f)⟩|false=>exact⟨(IG hn k f).1,λ_=>Or.inl (IG hn k f).2⟩
theorem acZ {n:Nat}(hn:1000<=n)(a:Act)(k:Ap n h)(f:KA h):Ap (n+645000) (F9 h a).1/\KA (F9 h a).1:=by have g:=agB hn a k (Or.inr f);refine⟨g.1,?_⟩;rcases g.2 (Or.inr f)with h1|h1;exact h1;rw[h1];exact f
theorem Xz (h:db m=true)(a:Int)(s:Bytes):db (oQ m a s).1=true:=by
 unfold oQ;cases hw:gF m a (s.length:Int)with|false=>exact h|true=>?_
 simp only[gF,ae,aH]at hw;exact pL.2 (zd s.length (pL.1 hw.1) (by omega)).1
theorem UL:∀(q:aw (Int×Int)){m:bO}(s:Bytes),db m=true->db (IB q m s)=true
 |[],_,_,h=>h
 |p::q,m,s,h=>by rw[IB];exact UL q _ (Xz h _ _)
theorem DG (h:db m=true)(l:aw aF)(d a:Int)(s:Bytes)(w:Bool):db (iy l m d a s w).1=true:=by unfold iy;cases (kE l m d a (s.length:Int) w).2 with|false=>exact h|true=>exact UL _ _ h
theorem Jh (h:db m=true)(l:aw aF)(d:Int)(r:kO)(s:Bytes):db (dj l m d r s).1=true:=by
 unfold dj;cases (oV r==0)||((s.length:Int) !=16)with|true=>exact h|false=>?_
 cases (iy l m d (pj r r.2.2.2) s true).2 with|false=>exact h|true=>exact DG h ..
theorem DQ {b x y:Int}(hb:0<=b/\b<=130944:=by omega)(hn:n=2\/n=4\/n=8\/n=16:=by omega)(hx:0<=x/\x<=2*n-1:=by omega)(hy:0<=y/\y<=2*n-1:=by omega)(hu:(y-x)%(2*n)<=n:=by omega):dv (b,n,x,y)=true:=by have hs:jh n=true:=ij.2 hn;simp only[dv,bT,hs,aW.2 hb,aW.2 hx,aW.2 hy,cg,bq,aH];exact hu
theorem Ew (h:dv r=true):bT r=(r.2.2.2-r.2.2.1)%(2*r.2.1)/\0<=bT r/\bT r<=r.2.1:=by
 have k:=ly h;have e:bT r=(r.2.2.2-r.2.2.1)%(2*r.2.1):=by unfold bT;rw[aE (ij.2 k.2.2.1)]
 simp only[dv,ae,aH]at h;exact⟨e,by rw[e];exact fy _ (by omega),h.2.2.2.2⟩
theorem IT {x:Int}(hn:0<n:=by omega)(hx:0<=x/\x<=n-1:=by omega):Int.tmod (x+1) n=if x+1=n then 0 else x+1:=by rw[dE (by omega)];split;rename_i h;rw[h];exact Int.emod_self;exact Int.emod_eq_of_lt (by omega) (by omega)
theorem ab8 (h:dv r=true)(hf:bT r<r.2.1):dv (r.1,r.2.1,r.2.2.1,Int.tmod (r.2.2.2+1) (2*r.2.1))=true/\bT (r.1,r.2.1,r.2.2.1,Int.tmod (r.2.2.2+1) (2*r.2.1))=bT r+1:=by
 have k:=ly h;have u:=Ew h;have e:=IT (x:=r.2.2.2) (n:=2*r.2.1);have u2:(Int.tmod (r.2.2.2+1) (2*r.2.1)-r.2.2.1)%(2*r.2.1)=bT r+1:=by
  have h1:(Int.tmod (r.2.2.2+1) (2*r.2.1)-r.2.2.1)%(2*r.2.1)=(r.2.2.2+1-r.2.2.1)%(2*r.2.1):=by rw[e];split;rename_i hh;rw[<-hh,show(r.2.2.2+1-r.2.2.1)=(0-r.2.2.1)+(r.2.2.2+1) by omega,Int.add_emod_right];rfl
  rw[h1,show r.2.2.2+1-r.2.2.1=(r.2.2.2-r.2.2.1)+1 by omega];have h0:=u.1;generalize r.2.2.2-r.2.2.1=d at h0⊢;rw[Int.add_emod,<-h0,Int.emod_eq_of_lt (a:=1) (by omega) (by omega),Int.emod_eq_of_lt (by omega) (by omega)]
 refine⟨DQ ⟨k.1,k.2.1⟩ k.2.2.1 ⟨k.2.2.2.1,k.2.2.2.2.1⟩ (by rw[e];split<;>omega) (by rw[u2];omega),?_⟩;unfold bT;rw[aE (ij.2 k.2.2.1)];exact u2
theorem aeE (h:dv r=true)(hf:bT r≠0):dv (r.1,r.2.1,Int.tmod (r.2.2.1+1) (2*r.2.1),r.2.2.2)=true/\bT (r.1,r.2.1,Int.tmod (r.2.2.1+1) (2*r.2.1),r.2.2.2)=bT r-1:=by
 have k:=ly h;have u:=Ew h;have e:=IT (x:=r.2.2.1) (n:=2*r.2.1);have u2:(r.2.2.2-Int.tmod (r.2.2.1+1) (2*r.2.1))%(2*r.2.1)=bT r-1:=by
  have h1:(r.2.2.2-Int.tmod (r.2.2.1+1) (2*r.2.1))%(2*r.2.1)=(r.2.2.2-(r.2.2.1+1))%(2*r.2.1):=by rw[e];split;rename_i hh;rw[<-hh,show(r.2.2.2-0)=(r.2.2.2-(r.2.2.1+1))+(r.2.2.1+1) by omega,Int.add_emod_right];rfl
  rw[h1,show r.2.2.2-(r.2.2.1+1)=(r.2.2.2-r.2.2.1)-1 by omega];have h0:=u.1;generalize r.2.2.2-r.2.2.1=d at h0⊢;rw[Int.sub_emod,<-h0,Int.emod_eq_of_lt (a:=1) (by omega) (by omega),Int.emod_eq_of_lt (by omega) (by omega)]
 refine⟨DQ ⟨k.1,k.2.1⟩ k.2.2.1 (by rw[e];split<;>omega) ⟨k.2.2.2.2.2.1,k.2.2.2.2.2.2⟩ (by rw[u2];omega),?_⟩;unfold bT;rw[aE (ij.2 k.2.2.1)];exact u2
theorem aaM (h:dv r=true):oV r=r.2.1-bT r:=by have k:=ly h;have u:=Ew h;unfold oV;rw[h,ah,ak]
theorem Vk (h:dv r=true)(l:aw aF)(m:bO)(d:Int)(s:Bytes):dv (dj l m d r s).2.1=true/\(dj l m d r s).2.1.2.1=r.2.1:=by
 unfold dj;cases hc:(oV r==0)||((s.length:Int) !=16)with|true=>exact⟨h,rfl⟩|false=>?_
 cases (iy l m d (pj r r.2.2.2) s true).2 with
 |false=>exact⟨h,rfl⟩
 |true=>
  simp only[cr]at hc;have h1:oV r≠0:=by simpa using hc.1
  rw[aaM h]at h1;have u:=Ew h;exact⟨(ab8 h (by omega)).1,rfl⟩
theorem Pd (h:dv r=true)(l:aw aF)(m:bO)(d:Int):dv (bC l m d r).2.1=true/\(bC l m d r).2.1.2.1=r.2.1:=by
 unfold bC;cases hc: !dv r||(bT r==0)with|true=>exact⟨h,rfl⟩|false=>?_
 cases (sy l m d (pj r r.2.2.1) 16).2 with|false=>exact⟨h,rfl⟩|true=>simp only[cr]at hc;exact⟨(aeE h (by simpa using hc.2)).1,rfl⟩
theorem adB {l:bZ}:(List.range l.length).all (Dr n l)=true↔(∀x∈l,0<=x/\x<=n-1)/\l.Nodup:=by
 rw[aG];constructor;intro h;have k:∀i (hi:i<l.length),(0<=l[i]/\l[i]<=n-1)/\l[i]∉l.take i:=by intro i hi;have:=h i (bF.2 hi);unfold Dr at this;rw[cG hi,ae,aW]at this;exact⟨this.1,by simpa using this.2⟩
 refine⟨λx hx=>?_,?_⟩;obtain⟨i,hi,rfl⟩:=List.getElem_of_mem hx;exact(k i hi).1;rw[List.Nodup,List.pairwise_iff_getElem];intro i j hi hj hij he;refine(k j hj).2 ?_;rw[<-he];exact List.mem_take_iff_getElem.2 ⟨i,by omega,rfl⟩;rintro⟨h1,h2⟩ i hi;have hi:=bF.1 hi;unfold Dr;rw[cG hi,ae,aW];refine⟨h1 _ (aN hi),?_⟩;have:l[i]∉l.take i:=by intro hm;obtain⟨j,hj,he⟩:=List.mem_take_iff_getElem.1 hm;rw[List.Nodup,List.pairwise_iff_getElem]at h2;exact h2 j i (by omega) hi (by omega) he
 simpa using this
theorem BP {p:dw}:dT p=true↔(0<=p.1/\p.1<=130944)/\(1<=p.2.1/\p.2.1<=512)/\(0<=p.2.2.1/\p.2.2.1<=16)/\(∀x∈p.2.2.2,0<=x/\x<=p.2.2.1-1)/\p.2.2.2.Nodup:=by unfold dT;simp only[ae,aW,adB]
theorem DL {p:dw}(h:dT p=true){l:bZ}(hl:l.Sublist p.2.2.2):dT (p.1,p.2.1,p.2.2.1,l)=true:=by have k:=BP.1 h;exact BP.2 ⟨k.1,k.2.1,k.2.2.1,λx hx=>k.2.2.2.1 x (hl.subset hx),k.2.2.2.2.sublist hl⟩
theorem ab1 {p:dw}(h:dT p=true)(l:bZ):dT (Fy p l).1=true:=by unfold Fy;cases hg:Bz p l with|false=>exact h|true=>unfold Bz at hg;simp only[ae]at hg;exact hg.2
theorem Hh {s:oe}:oK n s=true↔(1<=s.2.1/\s.2.1<=n)/\0<=s.1/\s.1<=65535:=by unfold oK;simp only[ae,aW]
structure F8 (t:eC):Prop where
 ring:dv t.1=true
 next:0<=t.2.2.2/\t.2.2.2<=65535
 sent:∀x∈t.2.2.1,(1<=x.2.1/\x.2.1<=t.1.2.1)/\0<=x.1/\x.1<=65535
 pool:dT (gS t.2.1 (bJ t.2.2.1))=true
 F5:ee t.2.2.1<=t.1.2.1
theorem F8.free (h:F8 t):dT t.2.1=true:=DL h.pool (List.sublist_append_left _ _)
theorem anb:Nk t=true↔F8 t:=by constructor;intro h;unfold Nk at h;simp only[ae,aW,aG,Hh,aH]at h;obtain⟨h1,h2,h3,h4,h5,h6⟩:=h;unfold Bz at h5;simp only[ae]at h5;exact⟨h1,h3,h4,h5.2,h6⟩;·intro h;unfold Nk Bz;simp only[ae,aW,aG,Hh,aH];exact⟨h.ring,h.free,h.next,h.sent,⟨h.free,h.pool⟩,h.F5⟩
theorem IX (a b:aw oe):bJ (a++b)=bJ a++bJ b:=by simp[bJ]
theorem Oa (a b:aw oe):ee (a++b)=ee a+ee b:=by simp[ee]
theorem Ov:∀(l:aw oe)(p:dw),dT (gS p (bJ l))=true->qB p l=gS p (bJ l)
 |[],p,_=>by simp[qB,bJ,gS]
 |x::l,p,h=>by
  have e:bJ (x::l)=x.2.2++bJ l:=by simp[bJ]
  rw[e]at h;have h1:dT (gS p x.2.2)=true:=DL (p:=gS p (x.2.2++bJ l)) h (by show(p.2.2.2++x.2.2).Sublist (p.2.2.2++(x.2.2++bJ l));rw[<-aZ];exact List.sublist_append_left _ _);have h0:dT p=true:=DL (p:=gS p x.2.2) h1 (List.sublist_append_left _ _);have hg:(Fy p x.2.2).1=gS p x.2.2:=by unfold Fy Bz;rw[h0,h1];rfl
  have ea:gS (gS p x.2.2) (bJ l)=gS p (x.2.2++bJ l):=by simp[gS]
  rw[qB,hg,Ov l _ (by rw[ea];exact h),ea,e]
theorem ah8 (h:F8 t)(hr:dv r=true)(hn:r.2.1=t.1.2.1):F8 (r,t.2):=
 ⟨hr,h.next,λx hx=>by show(1<=x.2.1/\x.2.1<=r.2.1)/\_;rw[hn];exact h.sent x hx,h.pool,by show ee t.2.2.1<=r.2.1;rw[hn];exact h.F5⟩
theorem VW (h:F8 t)(n:Int):F8 (lG t n).1:=by
 unfold lG;cases hc:Nk t&&cX n 0 (t.2.2.1.length:Int)with|false=>exact h|true=>?_
 simp only[ae,aW]at hc;have hs:t.2.2.1.take n.toNat++t.2.2.1.drop n.toNat=t.2.2.1:=cD _ _;have hb:bJ t.2.2.1=bJ (t.2.2.1.take n.toNat)++bJ (t.2.2.1.drop n.toNat):=by rw[<-IX,hs]
 have hp:dT (gS t.2.1 (bJ (t.2.2.1.take n.toNat)))=true:=DL (p:=gS t.2.1 (bJ t.2.2.1)) h.pool (by show(t.2.1.2.2.2++_).Sublist (t.2.1.2.2.2++_);rw[hb];exact(List.sublist_append_left _ _).append_left _);have hg:=Ov _ _ hp;refine⟨h.ring,h.next,λx hx=>h.sent x (List.mem_of_mem_drop hx),?_,?_⟩;show dT (gS (qB t.2.1 (t.2.2.1.take n.toNat)) (bJ (t.2.2.1.drop n.toNat)))=true;rw[hg,show gS (gS t.2.1 (bJ (t.2.2.1.take n.toNat))) (bJ (t.2.2.1.drop n.toNat))=gS t.2.1 (bJ t.2.2.1) by rw[hb];simp[gS]];exact h.pool;show ee (t.2.2.1.drop n.toNat)<=t.1.2.1;have h1:ee t.2.2.1=ee (t.2.2.1.take n.toNat)+ee (t.2.2.1.drop n.toNat):=by rw[<-Oa,hs]
 have h2:0<=ee (t.2.2.1.take n.toNat):=yp t.1.2.1 _ (by rw[aG];exact λx hx=>Hh.2 (h.sent x (List.mem_of_mem_take hx)));have:=h.F5;omega
theorem KT (l:aw aF)(m:bO)(d:Int):∀(n:Nat)(acc:aw Eb)(r:kO),dv r=true->dv (uL l m d n acc r).2.1=true/\(uL l m d n acc r).2.1.2.1=r.2.1
 |0,acc,r,h=>⟨h,rfl⟩
 |n+1,acc,r,h=>by have k:=ly h;have ht:=Pd h l m d;rw[uL];cases !(bC l m d r).2.2|| !(dq (bC l m d r).1).2 with|true=>exact⟨DQ ⟨k.1,k.2.1⟩ k.2.2.1 ⟨k.2.2.2.2.2.1,k.2.2.2.2.2.2⟩ ⟨k.2.2.2.2.2.1,k.2.2.2.2.2.2⟩ (by rw[Int.sub_self,Int.zero_emod];omega),rfl⟩|false=>cases WD (dq (bC l m d r).1).1 with|true=>exact ht|false=>have:=KT l m d n (acc++[(dq (bC l m d r).1).1]) _ ht.1;exact⟨this.1,this.2.trans ht.2⟩
theorem Ws (h:dv r=true)(l:aw aF)(m:bO)(d:Int):dv (dC l m d r).2.1=true/\(dC l m d r).2.1.2.1=r.2.1:=by unfold dC;cases !dv r||(bT r==0)with|true=>exact⟨h,rfl⟩|false=>exact KT l m d _ _ _ h
theorem UX (h:dv r=true)(l:aw aF)(m:bO)(d:Int):dv (jb l m d r).1=true/\(jb l m d r).1.2.1=r.2.1:=by
 have hc:=Ws h l m d;unfold jb;cases !dv r||(bT r==0)with|true=>exact⟨h,rfl⟩|false=>?_
 cases !(dC l m d r).2.2|| !(fZ (dC l m d r).1).2.2.2 with|true=>exact hc|false=>?_
 cases !(mP l m d (fZ (dC l m d r).1).1).2||(!(ym (mP l m d (fZ (dC l m d r).1).1).1).2||((jP (ym (mP l m d (fZ (dC l m d r).1).1).1).1).2 !=0))with|true=>exact hc|false=>exact hc
theorem D5 (l:aw aF)(m:bO)(d:Int):∀(n:Nat)(fr:bO)(dn bd:Nat)(r:kO),dv r=true->dv (pT l m d n fr dn bd r).1=true/\(pT l m d n fr dn bd r).1.2.1=r.2.1
 |0,fr,dn,bd,r,h=>⟨h,rfl⟩
 |n+1,fr,dn,bd,r,h=>by
  have k:=UX h l m d;rw[pT];cases (jb l m d r).2.2==0 with|true=>exact⟨h,rfl⟩|false=>?_
  cases (jb l m d r).2.2==1 with|true=>have:=D5 l m d n (fr++(jb l m d r).2.1) (dn+1) bd _ k.1;exact⟨this.1,this.2.trans k.2⟩|false=>have:=D5 l m d n (fr++(jb l m d r).2.1) dn (bd+1) _ k.1;exact⟨this.1,this.2.trans k.2⟩
theorem Hb (l:aw aF)(d:Int):∀(q:bO)(m:bO)(r:kO){x},rP l d q m r=some x->(dv r=true->dv x.2=true/\x.2.2.1=r.2.1)/\(db m=true->db x.1=true)
 |[],m,r,x,h=>by cases h;exact⟨λh=>⟨h,rfl⟩,λh=>h⟩
 |s::q,m,r,x,h=>by rw[rP]at h;cases hq:(dj l m d r s).2.2 with|false=>rw[hq]at h;cases h|true=>rw[hq]at h;have k:=Hb l d q _ _ h;refine⟨λhr=>?_,λhm=>k.2 (Jh hm ..)⟩;have hp:=Vk hr l m d s;have:=k.1 hp.1;exact⟨this.1,this.2.trans hp.2⟩
theorem OW (l:aw aF)(d:Int)(p:dw)(z:Nat):∀(q:bZ)(s:Bytes)(m:bO)(a:aw gU){x},xE l d p z q s m a=some x->db m=true->db x.2=true
 |[],s,m,a,x,h,hm=>by cases h;exact hm
 |b::q,s,m,a,x,h,hm=>by rw[xE]at h;cases hq:(iy l m d (oT p b) (s.take z) false).2 with|false=>rw[hq]at h;cases h|true=>rw[hq]at h;exact OW l d p z q _ _ _ h (DG hm ..)
theorem ab2 {p:dw}(h:dT p=true){l:bZ}(hl:l.Perm p.2.2.2):dT (p.1,p.2.1,p.2.2.1,l)=true:=by have k:=BP.1 h;exact BP.2 ⟨k.1,k.2.1,k.2.2.1,λx hx=>k.2.2.2.1 x (hl.mem_iff.1 hx),hl.nodup_iff.2 k.2.2.2.2⟩
theorem acj (h:F8 t)(hm:db m=true)(l:aw aF)(d c:Int){n:Nat}(hf:I3 t n=true)(x:aw gU×bO)(hx:db x.2=true):db (MP l m d t c n x).1=true/\F8 (MP l m d t c n x).2.1:=by
 unfold MP vG;cases hp:rP l d ((qz x.1 c t.2.2.2).map yq) x.2 t.1 with
 |none=>exact⟨hm,h⟩
 |some y=>
  have k:=Hb l d _ _ _ hp;have kr:=k.1 h.ring;refine⟨k.2 hx,?_⟩;unfold I3 at hf;simp only[ae,aJ,cY]at hf;have ht:kF t.2.1 (n:Int)=((t.2.1.1,t.2.1.2.1,t.2.1.2.2.1,t.2.1.2.2.2.drop n),t.2.1.2.2.2.take n,true):=by have h1:=hf.1;unfold kF at h1⊢;cases hc:dT t.2.1&&cX (n:Int) 0 (t.2.1.2.2.2.length:Int)with|false=>rw[hc]at h1;cases h1|true=>simp only[ah,ax]
  have h0:0<=ee t.2.2.1:=yp t.1.2.1 _ (by rw[aG];exact λx hx=>Hh.2 (h.sent x hx));show F8 (y.2,(kF t.2.1 (n:Int)).1,t.2.2.1++[(t.2.2.2,(n:Int)+1,(kF t.2.1 (n:Int)).2.1)],Int.tmod (t.2.2.2+1) 65536);rw[ht];have hn:=h.next
  refine⟨kr.1,?_,?_,?_,?_⟩;have:=IT (x:=t.2.2.2) (n:=65536);show 0<=Int.tmod (t.2.2.2+1) 65536/\Int.tmod (t.2.2.2+1) 65536<=65535;rw[this];split<;>omega;intro s hs;show(1<=s.2.1/\s.2.1<=y.2.2.1)/\0<=s.1/\s.1<=65535;rw[kr.2];rcases ay.1 hs with hs|hs;exact h.sent s hs;rw[bE.1 hs];show(1<=(n:Int)+1/\(n:Int)+1<=t.1.2.1)/\0<=t.2.2.2/\t.2.2.2<=65535;omega;refine ab2 (p:=gS t.2.1 (bJ t.2.2.1)) h.pool ?_;show(t.2.1.2.2.2.drop n++bJ (t.2.2.1++[_])).Perm (t.2.1.2.2.2++bJ t.2.2.1);rw[IX,show bJ [(t.2.2.2,(n:Int)+1,t.2.1.2.2.2.take n)]=t.2.1.2.2.2.take n by simp[bJ]];refine(List.perm_append_comm_assoc _ _ _).trans ?_;refine(List.perm_append_comm).trans ?_;exact((List.perm_append_comm.trans (by rw[cD])).append_right _);show ee (t.2.2.1++[_])<=y.2.2.1;rw[Oa,kr.2,show ee [(t.2.2.2,(n:Int)+1,t.2.1.2.2.2.take n)]=(n:Int)+1 by simp[ee]];omega
theorem aci (h:F8 t)(hm:db m=true)(l:aw aF)(d:Int)(p:aI)(c z:Int):db (wA l m d t p c z).1=true/\F8 (wA l m d t p c z).2.1:=by
 unfold wA;cases Nk t&&(dG p&&(cX z 1 t.2.1.2.1&&cX c 1 128))with|false=>exact⟨hm,h⟩|true=>?_
 cases hf:I3 t (zC p z.toNat)with|false=>exact⟨hm,h⟩|true=>?_
 simp only[ah];cases hw:xE l d t.2.1 z.toNat (kF t.2.1 (zC p z.toNat:Int)).2.1 (kx p).1 m []with|none=>exact⟨hm,h⟩|some x=>exact acj h hm l d c hf x (OW l d _ _ _ _ _ _ hw hm)
theorem Vq {a b s k f w:Int}(h1:0<=a/\a<=65535)(h2:0<=b/\b<=65535)(h3:0<=s/\s<=4294967295)(h4:0<=k/\k<=4294967295)(h5:0<=f/\f<=31)(h6:0<=w/\w<=65535)(hx:x.length<=320):td (6,a,b,s,k,f,w,x)=true:=by have hx':decide ((x.length:Int)>320)=false:=iw;simp only[td,aW.2 h1,aW.2 h2,aW.2 h3,aW.2 h4,aW.2 h5,aW.2 h6,hx'];rfl
theorem aeI {a b:Int}(h1:0<=a/\a<=65535)(h2:0<=b/\b<=65535)(hx:x.length<=320):td (17,a,b,0,0,0,0,x)=true:=by have hx':decide ((x.length:Int)>320)=false:=iw;simp only[td,aW.2 h1,aW.2 h2,hx'];rfl
theorem acf (h:td g=true)(hx:x.length<=320):td (g.1,g.2.1,g.2.2.1,g.2.2.2.1,g.2.2.2.2.1,g.2.2.2.2.2.1,g.2.2.2.2.2.2.1,x)=true:=by have e:decide ((x.length:Int)>320)=false:=iw;unfold td at h⊢;simp only[ae]at h⊢;exact⟨h.1,h.2.1,by rw[e];rfl,h.2.2.2⟩
theorem adG {a b v t i l s:Int}(h1:0<=a/\a<=281474976710655)(h2:0<=b/\b<=281474976710655)(h3: -1<=v/\v<=4095)(h4:0<=t/\t<=255)(h5:0<=i/\i<=65535)(h6:0<=l/\l<=255)(h7:0<=s/\s<=4294967295)(h8:0<=d/\d<=4294967295)(hg:td g=true):pY (a,b,v,t,i,l,s,d,g)=true:=by simp only[pY,aW.2 h1,aW.2 h2,aW.2 h3,aW.2 h4,aW.2 h5,aW.2 h6,aW.2 h7,aW.2 h8,hg];rfl
theorem U0 (p:aI):eK p=true↔pY p=true/\p.2.2.2.2.2.2.2.2.2.2.2.2.2.2.2.length<=128:=by unfold eK dG;rw[ae,ae,cQ,aH];constructor;rintro⟨⟨h1,_⟩,h2⟩;exact⟨h1,by omega⟩;rintro⟨h1,h2⟩;exact⟨⟨h1,Or.inl (by omega)⟩,by omega⟩
theorem ZL (h:td g=true)(h6:g.1=6):(0<=g.2.1/\g.2.1<=65535)/\(0<=g.2.2.1/\g.2.2.1<=65535)/\(0<=g.2.2.2.1/\g.2.2.2.1<=4294967295)/\(0<=g.2.2.2.2.1/\g.2.2.2.2.1<=4294967295)/\(0<=g.2.2.2.2.2.1/\g.2.2.2.2.2.1<=31)/\(0<=g.2.2.2.2.2.2.1/\g.2.2.2.2.2.2.1<=65535)/\g.2.2.2.2.2.2.2.length<=320:=by have hl:=DT h;unfold td at h;rw[h6]at h;simp only[ae,aW,show((6:Int)==17)=false from rfl,af]at h;exact⟨h.1,h.2.1,h.2.2.2.2.1,h.2.2.2.2.2.1,h.2.2.2.2.2.2.1,h.2.2.2.2.2.2.2,hl⟩
theorem MM (h:td g=true)(h6:g.1=6){s f:Int}(hs:0<=s/\s<=4294967295)(hf:0<=f/\f<=31)(hx:x.length<=320):td (g.1,g.2.1,g.2.2.1,s,g.2.2.2.2.1,f,g.2.2.2.2.2.2.1,x)=true:=by have k:=ZL h h6;rw[h6];exact Vq k.1 k.2.1 hs k.2.2.2.1 hf k.2.2.2.2.2.1 hx
theorem BA (h:pY p=true){i:Int}(hi:0<=i/\i<=65535)(hg:td g=true):pY (p.1,p.2.1,p.2.2.1,p.2.2.2.1,i,p.2.2.2.2.2.1,p.2.2.2.2.2.2.1,p.2.2.2.2.2.2.2.1,g)=true:=by unfold pY at h⊢;simp only[ae]at h⊢;exact⟨h.1,h.2.1,h.2.2.1,h.2.2.2.1,h.2.2.2.2.1,aW.2 hi,h.2.2.2.2.2.2.1,h.2.2.2.2.2.2.2.1,hg⟩
theorem LR (h:pY p=true):0<=p.2.2.2.2.1/\p.2.2.2.2.1<=65535:=by unfold pY at h;simp only[ae]at h;exact aW.1 h.2.2.2.2.2.1
theorem ahF {i:Int}(h:0<=i/\i<=65535):0<=Int.tmod (ar (i+1)) 65536/\Int.tmod (ar (i+1)) 65536<=65535:=by rw[ak];have h1:=Int.tmod_nonneg 65536 (a:=i+1) (by omega);have h2:=Int.tmod_lt_of_pos (i+1) (b:=65536) (by omega);omega
theorem aek {s:Int}{n:Nat}(h:0<=s/\s<=4294967295)(hn:n<=320):0<=Int.tmod (ar (s+(n:Int))) 4294967296/\Int.tmod (ar (s+(n:Int))) 4294967296<=4294967295:=by rw[ak];have h1:=Int.tmod_nonneg 4294967296 (a:=s+(n:Int)) (by omega);have h2:=Int.tmod_lt_of_pos (s+(n:Int)) (b:=4294967296) (by omega);omega
theorem Ef (v:Vector):Di v=true↔1<=v.2.2.1/\(v.1<=v.2.2.1\/v.2.1<=v.2.2.2.1):=by unfold Di;by_cases h1:v.2.2.1>=1;rw[au h1,ah];by_cases h2:v.2.2.1>=v.1;rw[au h2];simp;omega;rw[aq h2,af,aH];omega;rw[aq h1];simp;omega
theorem anc (v:Vector):eY v=(cX v.1 1 64&&(cX v.2.1 0 64&&(cX v.2.2.1 0 1000000&&(cX v.2.2.2.1 0 1000000&&((decide (v.2.2.1>0)||(v.2.2.2.1==0))&&(v.2.2.2.2.2==(Di v&& !v.2.2.2.2.1))))))):=by
 have h:=FW v;unfold mH at h;simp only[dR,ahU,ab]at h;generalize eY v=w at h⊢;revert h;cases cX v.1 1 64 with|false=>(intro h;cases h;rfl)|true=>?_
 cases cX v.2.1 0 64 with|false=>(intro h;cases h;rfl)|true=>?_
 cases cX v.2.2.1 0 1000000 with|false=>(intro h;cases h;rfl)|true=>?_
 cases cX v.2.2.2.1 0 1000000 with|false=>(intro h;cases h;rfl)|true=>?_
 cases decide (v.2.2.1>0)<;>cases (v.2.2.2.1==0)<;>cases Di v<;>(intro h;cases h;rfl)
theorem xz (v:Vector):eY v=true↔(1<=v.1/\v.1<=64)/\(0<=v.2.1/\v.2.1<=64)/\(0<=v.2.2.1/\v.2.2.1<=1000000)/\(0<=v.2.2.2.1/\v.2.2.2.1<=1000000)/\(v.2.2.1>0\/v.2.2.2.1=0)/\v.2.2.2.2.2=(Di v&& !v.2.2.2.2.1):=by rw[anc];simp only[ae,aW,cQ,aH,bm]
theorem Gg (h1:1<=v.1/\v.1<=64)(h2:0<=v.2.1/\v.2.1<=64)(h3:0<=v.2.2.1/\v.2.2.1<=1000000)(h4:0<=v.2.2.2.1/\v.2.2.2.1<=1000000)(h5:v.2.2.1>0\/v.2.2.2.1=0)(hr:v.2.2.2.2.2=true->Di v=true/\v.2.2.2.2.1=false):eY (C6 v)=true:=by unfold C6;cases hd:Di v&& !v.2.2.2.2.1 with|true=>exact(xz _).2 ⟨h1,h2,h3,h4,h5,by show true=(Di v&& !v.2.2.2.2.1);rw[hd]⟩|false=>refine(xz _).2 ⟨h1,h2,h3,h4,h5,?_⟩;rw[af,hd];cases hv:v.2.2.2.2.2 with|false=>rfl|true=>have:=hr hv;rw[this.1,this.2]at hd;cases hd
theorem Co (h:eY v=true)(hr:v.2.2.2.2.2=true):Di v=true/\v.2.2.2.2.1=false:=by have:=((xz v).1 h).2.2.2.2.2;rw[hr]at this;cases hd:Di v with|false=>rw[hd]at this;cases this|true=>rw[hd]at this;cases hm:v.2.2.2.2.1 with|true=>rw[hm]at this;cases this|false=>exact⟨rfl,rfl⟩
theorem agq (h:0<=n/\n<=1000000):n<=upM n/\0<upM n/\upM n<=1000000:=by unfold upM;rw[ak];split<;>omega
theorem ane (h:eY v=true):eY (evV v)=true:=by have k:=(xz v).1 h;have u:=agq k.2.2.1;unfold evV;rw[h,ah];refine Gg (v:=(v.1,v.2.1,upM v.2.2.1,v.2.2.2)) k.1 k.2.1 ⟨by show 0<=upM v.2.2.1;omega,u.2.2⟩ k.2.2.2.1 (Or.inl u.2.1) λhr=>?_;have d:=Co h hr;have d1:=(Ef v).1 d.1;exact⟨(Ef _).2 ⟨by show 1<=upM v.2.2.1;omega,by show v.1<=upM v.2.2.1\/v.2.1<=v.2.2.2.1;omega⟩,d.2⟩
theorem agt (h:eY v=true):eY (VU v)=true:=by have k:=(xz v).1 h;have u:=agq k.2.2.2.1;unfold VU;rw[h,ah];by_cases h0:v.2.2.1>0;rw[au h0,ah];refine Gg (v:=(v.1,v.2.1,v.2.2.1,upM v.2.2.2.1,v.2.2.2.2)) k.1 k.2.1 k.2.2.1 ⟨by show 0<=upM v.2.2.2.1;omega,u.2.2⟩ (Or.inl h0) λhr=>?_;have d:=Co h hr;have d1:=(Ef v).1 d.1;exact⟨(Ef _).2 ⟨d1.1,by show v.1<=v.2.2.1\/v.2.1<=upM v.2.2.2.1;omega⟩,d.2⟩;rw[aq h0,af];exact Gg k.1 k.2.1 k.2.2.1 k.2.2.2.1 k.2.2.2.2.1 λhr=>Co h hr
theorem ags (h:eY v=true):eY (C1 v).1=true:=by have k:=(xz v).1 h;unfold C1;cases eY v&&v.2.2.2.2.2 with|false=>exact h|true=>exact(xz _).2 ⟨k.1,k.2.1,⟨cK _,by show(0:Int)<=1000000;omega⟩,⟨cK _,by show(0:Int)<=1000000;omega⟩,Or.inr rfl,by show false=(_&& !true);simp⟩
theorem Ys (h:eY v=true):eY (HB v)=true:=by have k:=(xz v).1 h;unfold HB;rw[h,ah];refine Gg (v:=(v.1,v.2.1,v.2.2.1,v.2.2.2.1,false,v.2.2.2.2.2)) k.1 k.2.1 k.2.2.1 k.2.2.2.1 k.2.2.2.2.1 λhr=>?_;exact⟨(Ef _).2 ((Ef v).1 (Co h hr).1),rfl⟩
theorem acK (h:eY v=true):eY (v.1,v.2.1,0,0,false,false)=true:=by have k:=(xz v).1 h;exact(xz _).2 ⟨k.1,k.2.1,⟨cK _,by show(0:Int)<=1000000;omega⟩,⟨cK _,by show(0:Int)<=1000000;omega⟩,Or.inr rfl,by simp[Di]⟩
structure Ar (n:Int) (r:cy):Prop where
 ring:dv r.1=true
 dev:gj r.2.1=true
 drv:gj r.2.2.1=true
 base:r.2.1.1=r.2.2.1.1
 size:r.2.1.2.1=r.2.2.1.2.1
 drop:0<=r.2.2.2.2.2/\r.2.2.2.2.2<=n
 held:r.2.2.2.2.1=true->dG r.2.2.2.1.1=true/\(0<=r.2.2.2.1.2.1/\r.2.2.2.1.2.1<=320)/\1<=r.2.2.2.1.2.2/\r.2.2.2.1.2.2<=320
 free:r.2.2.2.2.1=false->r.2.2.2.1=acF
theorem aeH (r:cy):F6 r=true↔Ar 1000000000000 r:=by constructor;intro h;unfold F6 at h;rw[ae]at h;simp only[ae,bm,aW]at h;obtain⟨⟨h1,h2,h3,h4,h5,h6⟩,h7⟩:=h;refine⟨h1,h2,h3,h4,h5,h6,λhh=>?_,λhh=>?_⟩;rw[hh,ah]at h7;simp only[ae,aW]at h7;exact⟨h7.1,h7.2.1,h7.2.2⟩;rw[hh,af]at h7;exact(ae2 _).1 h7;intro h;unfold F6;rw[ae];simp only[ae,bm,aW];refine⟨⟨h.ring,h.dev,h.drv,h.base,h.size,h.drop⟩,?_⟩;cases hh:r.2.2.2.2.1 with|true=>have:=h.held hh;simp only[ah,ae,aW];exact⟨this.1,this.2.1,this.2.2⟩|false=>rw[af];exact(ae2 _).2 (h.free hh)
theorem Ar.mono {m:Int}{r:cy}(h:Ar n r)(hn:n<=m:=by omega):Ar m r:=⟨h.ring,h.dev,h.drv,h.base,h.size,⟨h.drop.1,by have:=h.drop.2;omega⟩,h.held,h.free⟩
theorem Ar.rx {r:cy}(h:Ar n r)(hn:n<=1000000000000):F6 r=true:=(aeH r).2 (h.mono hn)
theorem abu (h:db m=true)(l:aw aF)(d:Int)(q:tt)(x:F4):db (AW l m d q x).1=true:=by
 unfold AW;cases !gj q|| !zD x with|true=>exact h|false=>?_
 cases (iy l m d (su q) (QZ x (zZ q)) true).2 with|false=>exact h|true=>exact DG h ..
theorem abv (h:db m=true)(l:aw aF)(d:Int)(q:cy)(k s:Bytes):db (iD l m d q k s).1=true:=by
 unfold iD;cases !(dq s).2||(((dq s).1.1 !=3)||decide ((dq s).1.2.2.1<((dI q.2.2.2.1.1).1.length:Int)))with|true=>exact h|false=>?_
 cases (iy l m d (dq s).1.2.2.2.1 (dI q.2.2.2.1.1).1 true).2 with|false=>exact h|true=>exact abu (DG h ..) ..
theorem ah4 {l:aw aF}{k:Bytes}(hm:db m=true)(hq:gj q.2.1=true):gj (iD l m d q k s).2.1=true/\(iD l m d q k s).2.1.1=q.2.1.1/\(iD l m d q k s).2.1.2.1=q.2.1.2.1:=(PA (n:=128) (by omega) (O6 (by omega) (pL.1 hm)) hq).2.2
theorem Fv (hn:n<=900000000000)(h:Ar n q)(hm:db m=true)(l:aw aF)(d:Int)(k:Bytes):db (ja l m d q k).1=true/\Ar (n+320) (ja l m d q k).2:=by
 unfold ja;cases hc: !F6 q||(!q.2.2.2.2.1||((k.length:Int) !=16))with|true=>exact⟨hm,h.mono⟩|false=>?_
 simp only[cr,dU]at hc;have hh:=h.held hc.2.1;have hd:=h.drop;have hr:=Pd h.ring l m d;have hs:=ah4 (l:=l) (d:=d) (k:=k) (s:=(bC l m d q.1).1) hm h.dev;simp only[af];cases (bC l m d q.1).2.2&&(iD l m d q k (bC l m d q.1).1).2.2 with|true=>exact⟨abv hm ..,hr.1,hs.1,h.drv,hs.2.1.trans h.base,hs.2.2.trans h.size,⟨hd.1,by show q.2.2.2.2.2<=n+320;omega⟩,λhf=>(by cases hf),λ_=>rfl⟩|false=>refine⟨hm,hr.1,h.dev,h.drv,h.base,h.size,?_,λhf=>(by cases hf),λ_=>rfl⟩;show 0<=ar (q.2.2.2.2.2+q.2.2.2.1.2.2)/\ar (q.2.2.2.2.2+q.2.2.2.1.2.2)<=n+320;rw[ak];omega
theorem ahi {s:sk}(h:HO s p=true):dG (EZ s p).1=true/\(0<=(EZ s p).2.1/\(EZ s p).2.1<=320)/\1<=(EZ s p).2.2/\(EZ s p).2.2<=320:=by
 have hl:=P0 h;unfold EZ;rw[h,ah];simp only[HO,adH,ZQ,ae,aH,aW,bm]at h;obtain⟨⟨hs,hp,hpath,h6,h16,hf⟩,⟨hz,hc,hn,hpl,hsum⟩,_⟩:=h;have hcnt:s.2.2+1<=320:=by
  have:s.2.2<=s.2.1*s.2.2:=by have:=Int.mul_le_mul_of_nonneg_right hz (show 0<=s.2.2 by omega);omega
  omega
 have hz320:s.2.1<=320:=by
  have:s.2.1<=s.2.1*s.2.2:=by have:=Int.mul_le_mul_of_nonneg_left hc.1 (show 0<=s.2.1 by omega);omega
  omega
 refine⟨?_,⟨by show 0<=s.2.1;omega,hz320⟩,?_⟩;have hh:pY s.1=true:=by unfold dG at hs;simp only[ae]at hs;exact hs.1
 have hk:s.1.2.2.2.2.2.2.2.2.1=6:=by
  have e:s.1.2.2.2.2.2.2.2.2.1=p.2.2.2.2.2.2.2.2.1:=by have h2:=hpath;unfold U3 at h2;simp only[ae,bm]at h2;exact h2.2.2.2.2.2.2.2.1
  rw[e];exact h6
 have hsg:=zN hh;have hfl:cX p.2.2.2.2.2.2.2.2.2.2.2.2.2.1 0 31=true:=G7 hp (by rw[h6];rfl);have hg:=MM hsg hk (ZL hsg hk).2.2.1 (aW.1 hfl) (x:=s.1.2.2.2.2.2.2.2.2.2.2.2.2.2.2.2++p.2.2.2.2.2.2.2.2.2.2.2.2.2.2.2) (by rw[ai];omega);unfold dG;rw[ae];refine⟨BA hh (LR hh) hg,?_⟩;show(_||(s.1.2.2.2.2.2.2.2.2.1==6)&&B7 p.2.2.2.2.2.2.2.2.2.2.2.2.2.1)=true;rw[hk,hf];simp;show 1<=ar (s.2.2+1)/\ar (s.2.2+1)<=320;rw[ak];omega
theorem ag6 (h:Ar n q){s:sk}(hs:dG s.1=true)(h1:0<=s.2.1/\s.2.1<=320)(h2:1<=s.2.2/\s.2.2<=320):Ar n (LS q s):=⟨h.ring,h.dev,h.drv,h.base,h.size,h.drop,λ_=>⟨hs,h1,h2⟩,λhf=>(by cases hf)⟩
theorem acn (h:eK p=true):dG (mJ p).1=true/\(0<=(mJ p).2.1/\(mJ p).2.1<=320)/\1<=(mJ p).2.2/\(mJ p).2.2<=320:=by
 have hl:=FQ h;have hs:dG p=true:=by unfold eK at h;simp only[ae]at h;exact h.1
 refine⟨hs,?_,by show(1:Int)<=1/\(1:Int)<=320;omega⟩;show 0<=(p.2.2.2.2.2.2.2.2.2.2.2.2.2.2.2.length:Int)/\(p.2.2.2.2.2.2.2.2.2.2.2.2.2.2.2.length:Int)<=320;omega
theorem Sp (hn:n<=800000000000)(h:Ar n q)(hm:db m=true)(l:aw aF)(d:Int)(k:Bytes)(p:aI)(c:Bool):db (lQ l m d q k p c).1=true/\Ar (n+640) (lQ l m d q k p c).2:=by
 unfold lQ;cases hc: !F6 q||(!eK p||((k.length:Int) !=16))with|true=>exact⟨hm,h.mono⟩|false=>?_
 simp only[cr,dU]at hc;have hs:=acn hc.2.1;have hf:=Fv (by omega) h hm l d k;have hf2:=ag6 hf.2 hs.1 hs.2.1 hs.2.2;simp only[af];cases hj:c&&(q.2.2.2.2.1&&HO q.2.2.2.1 p)with|true=>simp only[ae]at hj;have j:=ahi hj.2.2;exact⟨hm,h.ring,h.dev,h.drv,h.base,h.size,⟨h.drop.1,by show q.2.2.2.2.2<=n+640;have:=h.drop.2;omega⟩,λ_=>j,λhf=>(by have hf:q.2.2.2.2.1=false:=hf;rw[hj.2.1]at hf;cases hf)⟩|false=>simp only[af];cases c with|true=>exact⟨hf.1,hf2.mono⟩|false=>have:=Fv (by omega) hf2 hf.1 l d k;exact⟨this.1,this.2.mono⟩
theorem amE {l:aw aF}{q:tt}(h:gj q=true):gj (sq l m d q).2.1=true/\(sq l m d q).2.1.1=q.1/\(sq l m d q).2.1.2.1=q.2.1:=by unfold sq;cases RE l m d q with|false=>exact⟨h,rfl,rfl⟩|true=>have k:=vI h;refine⟨?_,rfl,rfl⟩;have e:=Sb (a:=q.2.2+1) (b:=2*q.2.1);simp only[ah,aip,gj,ae,aW]at h⊢;refine⟨h.1,h.2.1,?_⟩;rw[zw h.2.1];omega
theorem XU {s:aw Stream×cy×dw}(h:Ar n s.2.1)(hp:dT s.2.2=true)(l:aw aF)(m:bO)(d:Int):Ar n (DK l m d s).2.1/\dT (DK l m d s).2.2=true:=by have k:=amE (l:=l) (m:=m) (d:=d) h.drv;exact⟨⟨h.ring,h.dev,k.1,h.base.trans k.2.1.symm,h.size.trans k.2.2.symm,h.drop,h.held,h.free⟩,ab1 hp _⟩
theorem Mz (l:aw aF)(m:bO)(d:Int){n:Int}:∀(k:Nat)(s:aw Stream×cy×dw),Ar n s.2.1->dT s.2.2=true->Ar n (kf l m d k s).2.2.1/\dT (kf l m d k s).2.2.2=true
 |0,s,h,hp=>⟨h,hp⟩
 |k+1,s,h,hp=>by rw[kf];cases (sq l m d s.2.1.2.2.1).2.2 with|false=>exact⟨h,hp⟩|true=>have e:=XU h hp l m d;exact Mz l m d k _ e.1 e.2
theorem Ly (l:aw aF)(d:Int)(p:dw):∀(q:bZ)(m:bO)(r:kO),db m=true->dv r=true->db (mK l d p q m r).2.1=true/\dv (mK l d p q m r).2.2=true
 |[],m,r,hm,hr=>⟨hm,hr⟩
 |b::q,m,r,hm,hr=>by rw[mK];cases (dj l m d r (fF p b)).2.2 with|false=>exact⟨hm,hr⟩|true=>exact Ly l d p q _ _ (Jh hm ..) (Vk hr ..).1
theorem Ol (hm:db m=true)(hr:dv r=true){p:dw}(hp:dT p=true)(l:aw aF)(d:Int):db (uu l m d r p).1=true/\dv (uu l m d r p).2.1=true/\dT (uu l m d r p).2.2.1=true:=by unfold uu;rw[hr,hp];have k:=Ly l d p p.2.2.2 m r hm hr;exact⟨k.1,k.2,DL hp (List.drop_sublist _ _)⟩
theorem Pb {rx:cy}(h:Ar n rx)(hm:db m=true){pl:dw}(hp:dT pl=true)(l:aw aF)(d:Int)(st:aw Stream)(c:Int):db (jO l m d rx pl st c).1=true/\Ar n (jO l m d rx pl st c).2.1/\dT (jO l m d rx pl st c).2.2.1=true:=by
 unfold jO;cases !F6 rx||(!dT pl|| !cX c 0 1000)with|true=>exact⟨hm,h,hp⟩|false=>?_
 have k:=Mz l m d c.toNat (st,rx,pl) h hp;have f:=Ol hm k.1.ring k.2 l d;exact⟨f.1,⟨f.2.1,k.1.dev,k.1.drv,k.1.base,k.1.size,k.1.drop,k.1.held,k.1.free⟩,f.2.2⟩
structure Good (n:Int) (h:Host):Prop where
 mem:db h.1=true
 maps:fY h.2.1=true
 tx:F8 h.2.2.1
 rf:eV h.2.2.2.2.2.2.2.1=true
 lens:sn h=true
 ste:fb h.2.2.2.2.2.2.2.2.1 (h.2.2.2.1.length:Int)=true
 rx:∀r∈h.2.2.2.1,Ar n r
 pool:∀p∈h.2.2.2.2.1,dT p=true
 vec:∀v∈h.2.2.2.2.2.1,eY v=true
 F5:∀x∈iL h,0<=x/\x<=n
theorem Good.mono {m:Int}(g:Good n h)(hn:n<=m:=by omega):Good m h:=⟨g.mem,g.maps,g.tx,g.rf,g.lens,g.ste,λr hr=>(g.rx r hr).mono hn,g.pool,g.vec,λx hx=>⟨(g.F5 x hx).1,by have:=(g.F5 x hx).2;omega⟩⟩
theorem adJ (h:Host):ew h=true↔Good 1000000000000 h:=by unfold ew Vl;simp only[ae,aG,aW,anb,aeH];constructor;rintro⟨h1,h2,h3,h4,h5,h6,⟨h7,h8,h9⟩,h10⟩;exact⟨h1,h2,h3,h4,h5,h6,h7,h8,h9,h10⟩;intro g;exact⟨g.mem,g.maps,g.tx,g.rf,g.lens,g.ste,⟨g.rx,g.pool,g.vec⟩,g.F5⟩
theorem Good.ok (g:Good n h)(hn:n<=1000000000000):ew h=true:=(adJ h).2 (g.mono hn)
theorem tu {P:α->Prop}{l:aw α}{v:α}(h:∀x∈l,P x)(hv:P v):∀x∈l.set i v,P x:=by intro x hx;rcases dp hx with g|g;exact h x g;rw[g];exact hv
theorem ag3 (g:Good n h)(k:Nat):Good n (evS k h):=by unfold evS;cases hv:h.2.2.2.2.2.1[k]? with|none=>exact g|some v=>exact⟨g.mem,g.maps,g.tx,g.rf,by have:=g.lens;unfold sn at this⊢;rw[aB];exact this,g.ste,g.rx,g.pool,tu g.vec (ane (g.vec v (aX hv))),g.F5⟩
theorem Tt {n:Int}{h:Host}(g:Good n h)(k:Nat):∀i,Good n (Za k i h)
 |0=>g
 |i+1=>ag3 (Tt g k i) k
theorem Ja (g:Good n h)(k:Nat)(b:Int){f:bO×cy}(h1:db f.1=true)(h2:Ar n f.2):Good n (F2 h k b f):=by refine Tt (h:=Hd h k f) ⟨h1,g.maps,g.tx,g.rf,?_,?_,tu g.rx h2,g.pool,g.vec,g.F5⟩ _ _;have:=g.lens;unfold sn Hd at*;simp only[aB];exact this;show fb _ ((h.2.2.2.1.set k f.2).length:Int)=true;rw[aB];exact g.ste
theorem Tv (hn:n<=800000000000)(g:Good n h)(k:Nat):Good (n+320) (pQ k h):=by unfold pQ;cases hx:h.2.2.2.1[k]? with|none=>exact g.mono|some x=>have f:=Fv (by omega) (g.rx x (aX hx)) g.mem h.2.1 0 h.2.2.2.2.2.2.2.2.1.2.2.1;exact Ja (g.mono) k _ f.1 f.2
theorem WS (hn:n<=700000000000)(g:Good n h):Good (n+640) (we h):=by
 unfold we;have hl:=rO g.lens;cases ew h with
 |false=>exact g.mono
 |true=>
  have key:∀k:Nat,k<=2->Good (n+320*(k:Int)) (lF pQ k h):=by intro k;induction k with|zero=>intro _;exact g.mono|succ k ih=>intro hk;exact(Tv (by omega) (ih (by omega)) k).mono
  exact(key _ hl.1).mono (by have:=hl.1;omega)
theorem Oz (g:Good n h):Good n (vY h):=by
 unfold vY;cases ew h with
 |false=>exact g
 |true=>
  have key:∀k,Good n (lF xZ k h):=by intro k;induction k with|zero=>exact g|succ k ih=>show Good n (xZ k (lF xZ k h));generalize lF xZ k h=s at ih⊢;unfold xZ;cases hv:s.2.2.2.2.2.1[k]? with|none=>exact ih|some v=>exact⟨ih.mem,ih.maps,ih.tx,ih.rf,by have:=ih.lens;unfold sn at this⊢;rw[aB];exact this,ih.ste,ih.rx,ih.pool,tu ih.vec (agt (ih.vec v (aX hv))),ih.F5⟩
  exact key _
theorem aaO (g:Good n h)(p:aI)(c z:Int):Good n (Ae h p c z).1:=by unfold Ae;cases ew h with|false=>exact g|true=>have k:=aci g.tx g.mem h.2.1 0 p c z;exact⟨k.1,g.maps,k.2,g.rf,g.lens,g.ste,g.rx,g.pool,g.vec,g.F5⟩
theorem ER (g:Good n h):Good n (fQ h):=by unfold fQ;cases ew h with|false=>exact g|true=>have r:=D5 h.2.1 h.1 0 17 [] 0 0 h.2.2.1.1 g.tx.ring;exact⟨g.mem,g.maps,VW (ah8 g.tx r.1 r.2) _,g.rf,g.lens,g.ste,g.rx,g.pool,g.vec,g.F5⟩
theorem C8 {x:Int}(h:0<=x/\x<=n)(hn:n<=800000000000:=by omega):0<=ar (x+1)/\ar (x+1)<=n+1:=by rw[ak];omega
theorem Ca (hn:n<=800000000000)(g:Good n h){a b c:Int}(ha:0<=a/\a<=n+1)(hb:0<=b/\b<=n+1)(hc:0<=c/\c<=n+1)(hd:0<=d/\d<=n+1):Good (n+1) (Bi h a b c d):=by have k:=g.mono (show n<=n+1 by omega);refine⟨k.mem,k.maps,k.tx,k.rf,k.lens,k.ste,k.rx,k.pool,k.vec,λx hx=>?_⟩;have h1:=C8 (g.F5 _ (List.mem_cons_self ..)) hn;simp only[iL,Bi,bQ,List.not_mem_nil,or_false]at hx;rcases hx with rfl|rfl|rfl|rfl|rfl;exact h1;exact ha;exact hb;exact hc;exact hd
theorem Gy (hn:n<=700000000000)(g:Good n h)(x:Bytes):Good (n+641) (lg h x):=by
 have c1:=g.F5 h.2.2.2.2.2.2.2.2.2.2.2.2.2.2.2.1 (by simp[iL]);have c2:=g.F5 h.2.2.2.2.2.2.2.2.2.2.2.2.2.2.2.2.1 (by simp[iL]);have c3:=g.F5 h.2.2.2.2.2.2.2.2.2.2.2.2.2.2.2.2.2.1 (by simp[iL]);have c4:=g.F5 h.2.2.2.2.2.2.2.2.2.2.2.2.2.2.2.2.2.2 (by simp[iL]);have u:∀{y:Int},0<=y/\y<=n->0<=y/\y<=n+1:=λhy=>⟨hy.1,by omega⟩
 unfold lg;cases ew h with|false=>exact g.mono|true=>?_
 cases (gn x).2 !=0 with|true=>exact(Ca (by omega) g (C8 c1) (u c2) (u c3) (u c4)).mono|false=>?_
 cases !xA h.2.2.2.2.2.2.2.1 (gn x).1 with|true=>exact(Ca (by omega) g (u c1) (C8 c2) (u c3) (u c4)).mono|false=>?_
 cases sF h.2.2.2.2.2.2.2.2.1 (h.2.2.2.1.length:Int) (gn x).1== -1 with|true=>exact(Ca (by omega) g (u c1) (u c2) (C8 c3) (u c4)).mono|false=>?_
 simp only[aj,af];cases hq:h.2.2.2.1[(sF h.2.2.2.2.2.2.2.2.1 (h.2.2.2.1.length:Int) (gn x).1).toNat]? with|none=>exact g.mono|some q=>have a:=Sp (by omega) (g.rx q (aX hq)) g.mem h.2.1 0 h.2.2.2.2.2.2.2.2.1.2.2.1 (gn x).1 h.2.2.2.2.2.2.2.2.2.2.1;exact Ja ((Ca (by omega) g (u c1) (u c2) (u c3) (C8 c4)).mono) _ _ a.1 (a.2.mono)
theorem Tx (g:Good n h)(i:Nat)(c:Int):Good n (wu h i c).2:=by
 unfold wu;cases h1:h.2.2.2.1[i]? with|none=>exact g|some rx=>?_
 cases h2:h.2.2.2.2.1[i]? with|none=>exact g|some pl=>?_
 have k:=Pb (g.rx rx (aX h1)) g.mem (g.pool pl (aX h2)) h.2.1 0 h.2.2.2.2.2.2.2.2.2.1 c;refine⟨k.1,g.maps,g.tx,g.rf,?_,?_,tu g.rx k.2.1,tu g.pool k.2.2,g.vec,g.F5⟩;have:=g.lens;unfold sn at*;simp only[aB];exact this;show fb _ ((h.2.2.2.1.set i _).length:Int)=true;rw[aB];exact g.ste
theorem Tz (b:Int)(k:Nat){s:Int×Host}(g:Good n s.2):Good n (Cs b k s).2:=by
 unfold Cs;cases h1:s.2.2.2.2.2.2.1[k]? with|none=>exact g|some v=>?_
 cases h2:s.2.2.2.2.2.2.2.1[k]? with|none=>exact g|some p=>?_
 cases h3:s.2.2.2.2.1[k]? with|none=>exact g|some x=>?_
 cases h4:s.2.2.2.2.2.1[k]? with|none=>exact g|some pl=>?_
 have hv:=ags (g.vec v (aX h1));simp only;cases p||(C1 v).2 with|false=>refine⟨g.mem,g.maps,g.tx,g.rf,?_,g.ste,g.rx,g.pool,tu g.vec hv,g.F5⟩;have:=g.lens;unfold sn at*;simp only[af,aB];exact this|true=>have e:=Pb (g.rx x (aX h3)) g.mem (g.pool pl (aX h4)) s.2.2.1 0 s.2.2.2.2.2.2.2.2.2.2.1 b;refine⟨e.1,g.maps,g.tx,g.rf,?_,?_,tu g.rx e.2.1,tu g.pool e.2.2,tu g.vec ?_,g.F5⟩;have:=g.lens;unfold sn at*;simp only[ah,aB];exact this;show fb _ ((s.2.2.2.2.1.set k _).length:Int)=true;rw[aB];exact g.ste;cases decide ((jO s.2.2.1 s.2.1 0 x pl s.2.2.2.2.2.2.2.2.2.2.1 b).2.2.2.2<b)with|true=>exact Ys hv|false=>exact hv
theorem LP {n:Int}(b:Int){h:Host}(g:Good n h):∀k,Good n (sE b k h).2
 |0=>g
 |k+1=>Tz b k (LP b g k)
theorem Rb (g:Good n h)(b:Int):Good n (nL h b).1:=by unfold nL;cases ew h&&cX b 1 1000 with|false=>exact g|true=>exact LP b g _
theorem Gx {n:Int}{h:Host}(g:Good n h):∀k,Good n (tM h k)
 |0=>g
 |k+1=>Tx (Gx g k) k 1000
theorem aaN (g:Good n h)(l:bZ):Good n (ZK h l):=⟨g.mem,g.maps,g.tx,g.rf,g.lens,g.ste,g.rx,g.pool,g.vec,g.F5⟩
theorem EO {n:Int}{h:Host}(g:Good n h):∀k,Good n (returned h k)
 |0=>Gx g _
 |k+1=>by show Good n (MI h.2.2.1.2.2.1 k (returned h k));have:=EO g k;unfold MI;cases h.2.2.1.2.2.1[k]? with|none=>exact this|some x=>exact aaN this _
theorem U8 {a b:Int}(ha:0<=a/\a<=130944:=by omega)(hb:1<=b/\b<=512:=by omega)(hn:0<=n/\n<=16:=by omega):ig a b n=((a,b,n,upto n.toNat),true)/\dT (a,b,n,upto n.toNat)=true:=by have h1:dT (a,b,n,[])=true:=BP.2 ⟨ha,hb,hn,by simp,List.nodup_nil⟩;refine⟨by unfold ig;rw[h1];rfl,BP.2 ⟨ha,hb,hn,?_,?_⟩⟩;intro x hx;simp only[upto,eF,bF]at hx;obtain⟨i,hi,rfl⟩:=hx;show 0<=Int.ofNat i/\Int.ofNat i<=n-1;simp only[Int.ofNat_eq_natCast];omega;show(upto n.toNat).Nodup;unfold upto;rw[List.Nodup,List.pairwise_map];exact List.nodup_range.imp λh he=>h (Int.ofNat.inj he)
theorem ago (c:Int)(hc:0<=c/\c<=65535):F8 (C2.1,C2.2.1,C2.2.2.1,c):=by
 have p:=U8 (a:=256) (b:=128) (n:=8);refine⟨DQ,hc,λx hx=>(by cases hx),?_,by show(0:Int)<=16;omega⟩;show dT (gS (ig 256 128 8).1 [])=true;rw[p.1];have e:gS (256,128,8,upto (8:Int).toNat) []=(256,128,8,upto (8:Int).toNat):=by simp[gS]
 show dT (gS (256,128,8,upto (8:Int).toNat) [])=true;rw[e];exact p.2
theorem Ra (g:Good n h):Good n (rb h):=by have k:=EO g h.2.2.1.2.2.1.length;exact⟨k.mem,k.maps,ago _ k.tx.next,k.rf,k.lens,k.ste,k.rx,k.pool,k.vec,k.F5⟩
theorem Yz (h:i<=8):0<=gW i/\gW i<=16000:=by unfold gW;omega
theorem O3 (hm:db m=true)(l:aw aF)(hi:i<=8):db (sr l m i).1=true/\dv (sr l m i).2.1=true/\dT (sr l m i).2.2.1=true:=by have hb:=Yz hi;have p:=U8 (a:=gW i+128) (b:=384) (n:=4);unfold sr;rw[p.1];exact Ol (DG hm ..) (DQ) p.2 l 0
theorem Vp (hi:i<=8)(hr:dv r=true)(hd:0<=d/\d<=n):Ar n (r,(gW i+64,4,0),(gW i+64,4,0),((0,0,0,0,0,0,0,0,0,0,0,0,0,0,0,([]:Bytes)),0,0),false,d):=by
 have hb:=Yz hi;have hq:gj (gW i+64,4,0)=true:=by have hs:jh 4=true:=ij.2 (by omega);unfold gj;rw[ae,ae];exact⟨aW.2 (by omega),hs,by rw[zw hs];rfl⟩
 exact⟨hr,hq,hq,rfl,rfl,hd,λhf=>(by cases hf),λ_=>rfl⟩
theorem Ty (hn:n<=800000000000)(g:Good n h)(hi:i<=8):Good (n+320) (wz i h):=by
 have gm:=g.mono (show n<=n+320 by omega);unfold wz;cases h1:h.2.2.2.1[i]? with|none=>exact gm|some x=>?_
 cases h2:h.2.2.2.2.2.1[i]? with|none=>exact gm|some v=>?_
 have o:=O3 g.mem h.2.1 hi;have hx:=g.rx x (aX h1);have hd:0<=EK x/\EK x<=n+320:=by have d:=hx.drop;unfold EK;cases hh:x.2.2.2.2.1 with|false=>simp only[af];omega|true=>have:=hx.held hh;rw[ah,ak];omega
 refine⟨o.1,gm.maps,gm.tx,gm.rf,?_,?_,tu gm.rx (Vp hi o.2.1 hd),tu gm.pool o.2.2,tu gm.vec (acK (g.vec v (aX h2))),gm.F5⟩;have:=g.lens;unfold sn E3 at*;simp only[aB];exact this;show fb _ (((E3 h i (EK x)).2.2.2.1).length:Int)=true;unfold E3;simp only[aB];exact g.ste
theorem EN {n:Int}(hn:n<=700000000000){h:Host}(g:Good n h):∀k:Nat,k<=8->Good (n+320*(k:Int)) (iz h k)
 |0,_=>g.mono
 |k+1,hk=>(Ty (by omega) (EN hn g k (by omega)) (i:=k) (by omega)).mono
theorem LN (hn:n<=700000000000)(g:Good n h):Good (n+640) (sD h):=by have hl:=rO g.lens;unfold sD;cases ew h with|false=>exact g.mono|true=>exact(EN hn (Ra g) _ (by omega)).mono (by have:=hl.1;omega)
theorem adE (hn:n<=700000000000)(g:Good n h)(a:Act):Good (n+641) (F9 h a).1:=by
 unfold F9;cases !ew h|| !EG a with|true=>exact g.mono|false=>?_
 simp only[af];cases a.1==0 with|true=>exact(aaO g _ _ _).mono|false=>?_
 cases a.1==1 with|true=>exact(ER g).mono|false=>?_
 cases a.1==2 with|true=>exact Gy hn g _|false=>?_
 cases a.1==3 with|true=>exact(WS hn g).mono|false=>?_
 cases a.1==4 with|true=>exact(Oz g).mono|false=>?_
 cases a.1==5 with|true=>exact(Rb g _).mono|false=>exact(LN hn g).mono
structure gz (n:Int) (c:dh):Prop where
 ports:(dm c.2.2.1).2=true
 len:c.1.length=c.2.2.1.length/\c.2.1.length=c.2.2.1.length
 fns:hG c.2.1 (dm c.2.2.1).1=true
 boot:¬gZ c.2.2.2.1<0
 clock:qx c.2.2.2.2.1=true
 host:∀(i:Nat)(h:Host)(b:bL),c.1[i]?=some h->c.2.2.1[i]?=some b->Good n h/\h.2.2.2.2.2.2.2.1=b.1
 place:∀i,i<c.1.length->yg c.2.1 i=true
 boxn:∀b∈c.2.2.1,b.2.1<=n/\b.2.2.2<=n
 fnn:∀f∈c.2.1,f.2.2.2.2.1<=n/\f.2.2.2.2.2<=n
theorem gz.mono {m:Int}(g:gz n c)(h:n<=m:=by omega):gz m c:=⟨g.ports,g.len,g.fns,g.boot,g.clock,λi a b h1 h2=>⟨(g.host i a b h1 h2).1.mono h,(g.host i a b h1 h2).2⟩,g.place,λb hb=>⟨by have:=(g.boxn b hb).1;omega,by have:=(g.boxn b hb).2;omega⟩,λf hf=>⟨by have:=(g.fnn f hf).1;omega,by have:=(g.fnn f hf).2;omega⟩⟩
theorem gz.ok (g:gz n c)(hn:n<=1000000000000):kR c=true:=by
 unfold kR;rw[g.ports,g.fns,g.clock,aq g.boot];simp only[bz,bq];rw[ae,ae,aG,aG];refine⟨?_,?_,?_⟩;unfold Mh;rw[g.len.1,g.len.2];simp;intro i hi;have hi:=bF.1 hi;have hj:i<c.2.2.1.length:=by have:=g.len.1;omega
 rw[KP i hi hj];have q:=g.host i _ _ (al hi) (al hj);rw[q.1.ok hn,S2 q.2];rfl;intro i hi;exact g.place i (bF.1 hi)
theorem Pz:∀(ms:aw bL)(s:bZ×aw Port),(ms.foldl C0 s).2.length=s.2.length+ms.length
 |[],s=>rfl
 |m::ms,s=>by rw[dL,Pz ms];show(s.2++[_]).length+_=_;rw[ai,ba,bf];omega
theorem nJ (h:(dm ms).2=true):(dm ms).1=lx ms/\(lx ms).length=ms.length+1/\iC (lx ms)=true/\(∀m∈ms,jo m=true)/\1<=ms.length/\ms.length<=3:=by unfold dm at h⊢;cases hq:cX (ms.length:Int) 1 3&&(ms.all jo&&iC (lx ms))with|false=>rw[hq]at h;cases h|true=>simp only[ae,aW,aG]at hq;refine⟨rfl,?_,hq.2.2,hq.2.1,by omega,by omega⟩;unfold lx;rw[bf,Pz];simp
theorem map_take {β:Type}(f:α->β)(l:aw α)(i:Nat)(hi:i<l.length):(l.take i).map f++[f l[i]]=(l.take (i+1)).map f:=by rw[bp hi,ec];rfl
theorem ye (m:bL)(h:m.1.2.2.length<=1000000000):kL m=some m:=by simp only[kL,nj _ h,ab]
theorem Ka (m:bL)(h:m.1.2.2.length<=1000000000):yX m=some m:=by simp only[yX,Ag _ h,ab]
theorem EU (l:aw bL)(h:l.length<=1000000000)(hx:∀m∈l,m.1.2.2.length<=1000000000):qJ l=some l:=by unfold qJ;refine(dz (λi=>(l.take i,(i:Int))) l.length (by omega) (λi nx hi=>?_) (λnx=>?_));simp only[qm];rw[jz,bu hi,ak];simp only[ah,ab,ye _ (hx _ (aN hi))];rw[aQ (by simp;omega),<-bp hi];rfl;simp only[qm];rw[iw,cO];rfl
theorem uR (l:aw aS)(h:l.length<=1000000000):jg l=some l:=by simp only[jg,lh h,cj]
theorem Wo (h:kR c=true):c.1.length=c.2.2.1.length/\c.2.1.length=c.2.2.1.length:=by unfold kR at h;simp only[ae]at h;exact Eu h.2.1
theorem Rd {l:aw α}(h:k<l.length)(x:α):idx (l.set k x) (k:Int)=some x:=by rw[GB,dx h]
theorem ZO (l:aw α)(k:Nat)(x:α):(l.set k x).length=l.length:=aB ..
def xB (f:Filter)(v:Int):Filter×Bool:=bif eV f&&(!hasB f.2.2 v&&eV (f.1,f.2.1,ins v f.2.2)) then((f.1,f.2.1,ins v f.2.2),true) else(f,false)
theorem TI (f:Filter)(v:Int)(h:f.2.2.length<=100000000):yw f v=some (xB f v):=by have hi:=Rr v f.2.2;simp only[yw,nj f (by omega),qE f (by omega),yt f.2.2 v (by omega),Rf f.2.2 v (by omega),qE (f.1,f.2.1,ins v f.2.2) (show(ins v f.2.2).length<=1000000000 by omega),ab,xB];cases eV f<;>cases hasB f.2.2 v<;>cases eV (f.1,f.2.1,ins v f.2.2)<;>rfl
theorem PO (f:Filter)(v:Int){n:Nat}(h:f.2.2.length<=n)(hn:8<=n):(xB f v).1.2.2.length<=n:=by unfold xB;cases hc:eV f&&(!hasB f.2.2 v&&eV (f.1,f.2.1,ins v f.2.2))with|false=>exact h|true=>simp only[ae]at hc;have:=hc.2.2;simp only[eV,ae,aH]at this;show(ins v f.2.2).length<=n;omega
def ur (f:Filter)(v:Int):Filter×Bool:=bif eV f&&hasB f.2.2 v then((f.1,f.2.1,f.2.2.filter (λx=>x !=v)),true) else(f,false)
theorem Ta (p:Int->Bool)(l:bZ)(i:Nat)(hi:i<l.length):(l.take (i+1)).filter p=bif p l[i] then(l.take i).filter p++[l[i]] else(l.take i).filter p:=by rw[bp hi,List.filter_append];cases hp:p l[i]<;>simp[hp]
theorem JX (p:Int->Bool)(l:bZ)(i:Nat):((l.take i).filter p).length<=l.length:=bt (List.length_filter_le _ _) (by simp;omega)
theorem Rj (f:Filter)(v:Int)(h:f.2.2.length<=1000000000):wS f v=some (ur f v):=by
 simp only[wS,nj f h,qE f h,yt f.2.2 v h,ab,ur];cases eV f with|false=>rfl|true=>?_
 cases hasB f.2.2 v with|false=>rfl|true=>?_
 simp only[aj,af,ab,cE,ah];refine(dz (λi=>((i:Int),f.1,f.2.1,(f.2.2.take i).filter (λx=>x !=v))) f.2.2.length (by omega) (λi nx hi=>?_) (λnx=>?_));have hl:=JX (λx=>x !=v) f.2.2 i;simp only[ri];rw[jz,bu hi,ak,Ta _ _ i hi];simp only[ah,ab];rw[aQ (by simp only[ba];omega)];cases f.2.2[i] !=v<;>rfl;simp only[ri];rw[iw,cO];rfl
def lT (f:Filter)(m:tt):Filter×Int:=
 bif m.2.1==1 then(bif eV (m.2.2,f.2) then((m.2.2,f.2),1) else(f,0))
 else bif m.2.1==2 then(bif (xB f m.2.2).2 then((xB f m.2.2).1,1) else(f,0))
 else bif m.2.1==3 then(bif (ur f m.2.2).2 then((ur f m.2.2).1,1) else(f,0))
 else bif m.2.1==4 then(f,f.1) else(f,0)
theorem TL (f:Filter)(m:tt)(h:f.2.2.length<=100000000):yC f m=some (lT f m):=by simp only[yC,nj f (by omega),qE (m.2.2,f.2) (show f.2.2.length<=1000000000 by omega),TI f _ h,Rj f _ (show f.2.2.length<=1000000000 by omega),ab,lT];cases m.2.1==1<;>cases m.2.1==2<;>cases m.2.1==3<;>cases m.2.1==4<;>cases eV (m.2.2,f.2)<;>cases (xB f m.2.2).2<;>cases (ur f m.2.2).2<;>rfl
theorem P2 (f:Filter)(m:tt){n:Nat}(h:f.2.2.length<=n)(hn:8<=n):(lT f m).1.2.2.length<=n:=by
 have ha:=PO f m.2.2 h hn;have hd:(ur f m.2.2).1.2.2.length<=n:=by unfold ur;cases eV f&&hasB f.2.2 m.2.2 with|false=>exact h|true=>exact bt (List.length_filter_le _ _) h
 unfold lT;cases m.2.1==1<;>cases m.2.1==2<;>cases m.2.1==3<;>cases m.2.1==4<;>cases eV (m.2.2,f.2)<;>cases (xB f m.2.2).2<;>cases (ur f m.2.2).2<;>first|exact h|exact ha|exact hd
def lX (b:bL)(m:tt):bL×Int:=
 bif jo b then(bif m.1==b.2.1 then(b,b.2.2.1) else bif m.1==b.2.1+1 then(((lT b.1 m).1,m.1,(lT b.1 m).2,b.2.2.2+1),(lT b.1 m).2) else(b, -1)) else(b, -1)
theorem UI (h:jo b=true):0<=b.2.1/\b.2.1<=1000000000000/\0<=b.2.2.2/\b.2.2.2<=1000000000000:=by simp only[jo,ae,aW]at h;omega
theorem W7 (b:bL)(m:tt)(h:b.1.2.2.length<=100000000):ou b m=some (lX b m):=by simp only[ou,ye b (by omega),TQ b (by omega),TL b.1 m h,ab,lX,bne];cases hm:jo b with|false=>rfl|true=>have hin:=UI hm;rw[ak (n:=b.2.1+1),ak (n:=b.2.2.2+1)];cases m.1==b.2.1<;>cases m.1==b.2.1+1<;>rfl
def om (ms:aw bL)(k:Nat)(m:tt):aw bL×Int:=
 match ms[k]? with
 |none=>(ms, -1)
 |some b=>bif (dm (ms.set k (lX b m).1)).2 then(ms.set k (lX b m).1,(lX b m).2)
  else(ms.set k (b.1,m.1,0,ar (b.2.2.2+1)),0)
theorem Jb (b:bL)(m:tt){n:Nat}(h:b.1.2.2.length<=n)(hn:8<=n):(lX b m).1.1.2.2.length<=n:=by have:=P2 b.1 m h hn;unfold lX;cases jo b<;>cases m.1==b.2.1<;>cases m.1==b.2.1+1<;>first|exact h|exact this
theorem FL {l:aw α}{x y:α}(h:y∈l.set k x):y∈l\/y=x:=dp h
theorem H0 (ms:aw bL)(k:Nat)(m:tt)(hk:k<ms.length)(hl:ms.length<=1000000000)(h:∀b∈ms,b.1.2.2.length<=100000000):ql ms (k:Int) m=some (om ms k m):=by
 have hb:=h _ (aN hk);have hp:∀b∈ms.set k (lX ms[k] m).1,b.1.2.2.length<=1000000000:=by intro b hb';rcases FL hb' with h1|rfl;have:=h b h1;omega;have:=Jb ms[k] m hb (by omega);omega
 unfold ql om;simp only[EU ms hl (λb hb=>by have:=h b hb;omega),bu hk,W7 _ m hb,ab,al hk,ax,AN _ hp,ye ms[k] (by omega)];have hs:∀x:bL,k<(ms.set k x).length:=λx=>by rw[ZO];exact hk
 simp only[Rd hk,ab,List.set_set];cases (dm (ms.set k (lX ms[k] m).1)).2<;>rfl
theorem Nu (ms:aw bL)(k:Nat)(m:tt):(om ms k m).1.length=ms.length:=by unfold om;split;rfl;rename_i b _;cases (dm (ms.set k (lX b m).1)).2<;>exact ZO ..
theorem Wi (ms:aw bL)(k:Nat)(m:tt){n:Nat}(hn:8<=n)(h:∀b∈ms,b.1.2.2.length<=n):∀b∈(om ms k m).1,b.1.2.2.length<=n:=by
 intro b hb;unfold om at hb;split at hb;exact h b hb;rename_i b0 hb0;have h0:=h b0 (aX hb0);cases hp:(dm (ms.set k (lX b0 m).1)).2 with
 |true=>rw[hp]at hb;rcases FL hb with h1|rfl;exact h b h1;exact Jb b0 m h0 hn
 |false=>rw[hp]at hb;rcases FL hb with h1|rfl;exact h b h1;exact h0
theorem uQ (c:dh)(z:dk 1000000000 uH c):kB c=some c:=by have h0:c.1.length<=1000000000:=z.1.1;unfold kB;simp only[uR _ z.2.1.1,EU _ z.2.2.1.1 (λm hm=>(z.2.2.1.2 m hm).1.2.2.1),lb,lH _ z.2.2.2.1.1,kA _ z.2.2.2.2.2.1.1,lH _ z.2.2.2.2.2.2.1,ab];refine(dz (λi=>((i:Int),c.1.take i,c.2)) c.1.length (by omega) (λi nx hi=>?_) (λnx=>?_));simp only[rL];rw[jz,bu hi,ak];simp only[ah,ab,js _ (z.1.2 _ (aN hi))];rw[aQ (by simp;omega),<-bp hi];rfl;simp only[rL];rw[iw,cO];rfl
def ui (h:Host)(f:Filter):Host:=(h.1,h.2.1,h.2.2.1,h.2.2.2.1,h.2.2.2.2.1,h.2.2.2.2.2.1,h.2.2.2.2.2.2.1,f,h.2.2.2.2.2.2.2.2)
def qZ (c:dh)(a:Int)(m:tt):dh×Int:=
 bif kR c&&cX a 0 ((c.2.2.1.length:Int)-1) then
  (match c.1[a.toNat]?,(om c.2.2.1 a.toNat m).1[a.toNat]? with
  |some h,some b=>((c.1.set a.toNat (ui h b.1),c.2.1,(om c.2.2.1 a.toNat m).1,c.2.2.2),(om c.2.2.1 a.toNat m).2)
  |_,_=>(c, -1))
 else(c, -1)
theorem JY (c:dh)(a:Int)(m:tt)(z:dk 100000000 uH c)(k:V3 c):oq c a m=some (qZ c a m):=by
 have z9:dk 1000000000 uH c:=z.mono;have hl:c.2.2.1.length<=100000000:=z.2.2.1.1;unfold oq qZ;simp only[uQ c z9,BB c k,cn,ab,bM];rw[ak (n:=(c.2.2.1.length:Int)-1)];cases hc:kR c with|false=>rfl|true=>?_
 cases ha:cX a 0 ((c.2.2.1.length:Int)-1)with|false=>rfl|true=>?_
 have hL:=Wo hc;have hin:=aW.1 ha;obtain⟨n,rfl⟩:=aR hin.1;have hn:n<c.2.2.1.length:=by omega
 have hn1:n<c.1.length:=by omega
 have hb:=H0 c.2.2.1 n m hn (by omega) (λb hb=>(z.2.2.1.2 b hb).1.2.2.1);have hbl:=Nu c.2.2.1 n m;have hbs:=Wi c.2.2.1 n m (n:=100000000) (by omega) (λb hb=>(z.2.2.1.2 b hb).1.2.2.1);have hn2:n<(om c.2.2.1 n m).1.length:=by omega
 have:=hbs _ (aN hn2);simp only[aj,af,cE,ah,hb,ab,bu hn2,bu hn1,nj (om c.2.2.1 n m).1[n].1 (by omega),ax,al hn1,al hn2];rfl
structure Av (ps:List Port):Prop where
 n:ps.length<=1000000000
 v:∀p∈ps,p.2.1.length<=1000000000
def adD (ps:aw Port)(e:Int)(p:aI):Bool:=iC ps&&(dG p&&cX e 0 ((ps.length:Int)-1))
def Yt (x:Port)(p:aI):Int:=bif p.2.2.1== -1 then x.2.2.1 else p.2.2.1
def oo (ps:aw Port)(e:Int)(p:aI):Int:=
 bif !adD ps e p then-1 else
 bif !hasB (ps.getD e.toNat lB).2.1 (Yt (ps.getD e.toNat lB) p)||((e !=0)&&((ps.getD e.toNat lB).2.2.2&&((ps.getD e.toNat lB).1 !=p.2.1))) then-1 else Yt (ps.getD e.toNat lB) p
theorem FC (ps:aw Port)(e:Int)(p:aI)(z:Av ps):nm ps e p=some (oo ps e p):=by
 have hn:=z.n;unfold nm oo adD;rw[Er ps hn z.v,ab];cases hp:iC ps with|false=>rfl|true=>?_
 rw[lI,ab];cases hs:dG p with|false=>rfl|true=>?_
 rw[ak (n:=(ps.length:Int)-1),cn];cases he:cX e 0 ((ps.length:Int)-1)with|false=>rfl|true=>?_
 have h1:=aW.1 he;obtain⟨e,rfl⟩:=aR h1.1;have hl:e<ps.length:=by omega
 have hv:=z.v _ (aN hl);simp only[aj,af,ab,cE,bu hl,ax,cG hl,yt _ _ hv,Yt];cases p.2.2.1== -1<;>simp only[ah,af]<;>cases hasB ps[e].2.1 p.2.2.1<;>cases hasB ps[e].2.1 ps[e].2.2.1<;>cases (e:Int) !=0<;>cases ps[e].2.2.2<;>cases ps[e].1 !=p.2.1<;>rfl
def FH (ps:aw Port)(o v:Int)(p:aI):aI:=
 bif iC ps&&(cX o 0 ((ps.length:Int)-1)&&(hasB (ps.getD o.toNat lB).2.1 v&&dG p)) then
  (bif v==(ps.getD o.toNat lB).2.2.1 then(p.1,p.2.1, -1,p.2.2.2) else(p.1,p.2.1,v,p.2.2.2)) else pk0
theorem aa1 (ps:aw Port)(o v:Int)(p:aI)(z:Av ps):rq ps o v p=some (FH ps o v p):=by
 have hn:=z.n;unfold rq FH;rw[Er ps hn z.v,ab];cases hp:iC ps with|false=>rfl|true=>?_
 rw[ak (n:=(ps.length:Int)-1),cn];cases he:cX o 0 ((ps.length:Int)-1)with|false=>rfl|true=>?_
 have h1:=aW.1 he;obtain⟨o,rfl⟩:=aR h1.1;have hl:o<ps.length:=by omega
 have hv:=z.v _ (aN hl);simp only[aj,af,ab,bq,bu hl,ax,cG hl,yt _ _ hv,lI];cases hasB ps[o].2.1 v<;>cases dG p<;>cases v==ps[o].2.2.1<;>rfl
def Ma (ps:aw Port)(e v:Int)(j:Nat):Bool:=((j:Int) !=e)&&hasB (ps.getD j lB).2.1 v
def oU (l:fu):bZ:=l.map Int.ofNat
def bcB (p:aI):Bool:=p.1==281474976710655
theorem S9 {q:Nat->Bool}(l:fu)(i:Nat)(hi:i<l.length):(l.take (i+1)).filter q=bif q l[i] then(l.take i).filter q++[l[i]] else(l.take i).filter q:=by rw[bp hi,List.filter_append];cases hq:q l[i]<;>simp[hq]
theorem WJ {q:Nat->Bool}(l:fu)(i:Nat):((l.take i).filter q).length<=l.length:=bt (List.length_filter_le _ _) (by simp;omega)
theorem L1 (ps:aw Port)(e v:Int)(l:fu)(hl:l.length<=1000000000)(hb:∀j∈l,j<ps.length)(z:Av ps): bl (gC (λ(y7:bZ) (y8:Int)=>some y7) ps e v (oU l) ((oU l).length:Int)) fuel (([]:bZ),0)=some (oU (l.filter (Ma ps e v))):=by
 refine dz (λi=>(oU ((l.take i).filter (Ma ps e v)),(i:Int))) l.length (by omega) (λi nx hi=>?_) (λnx=>?_);have hj:=hb _ (aN hi);have hv:=z.v _ (aN hj);have hi2:i<(oU l).length:=by simpa[oU]using hi
 have e1:(oU l)[i]'hi2=(l[i]:Int):=by simp[oU]
 have hf:=WJ (q:=Ma ps e v) l i;simp only[gC];rw[au (by simpa[oU]using hi),bu hi2,e1,ak];simp only[ah,ab,bu hj,yt _ _ hv];rw[S9 l i hi,Ma,cG hj];have hr:∀k:az bZ,room (List.length (oU ((l.take i).filter (Ma ps e v)))+List.length ([(l[i]:Int)])) k=k:=λk=>aQ (by simp only[oU,bP,ba];omega);cases (l[i]:Int) !=e with|false=>rfl|true=>cases hasB ps[l[i]].2.1 v with|false=>rfl|true=>simp only[ah,ab,cE];rw[hr];simp[oU]
 simp only[gC];rw[aq (by simp[oU]),cO];rfl
def Gz (ps:aw Port)(p:aI):Nat->Nat
 |0=>0
 |i+1=>bif (ps.getD (i+1) lB).1==p.1 then i+1 else Gz ps p i
def Bf (ps:aw Port)(e:Int)(p:aI):fu:=
 (List.range ps.length).filter λj=>Ma ps e (oo ps e p) j&&((j==Gz ps p (ps.length-1))||bcB p)
def Kv (ps:aw Port)(e:Int)(p:aI):bZ:=bif decide (oo ps e p<0) then [] else oU (Bf ps e p)
theorem On (q:Nat->Bool):∀l:fu,(B6 q l= -1/\∀j∈l,q j=false)\/∃j∈l,q j=true/\B6 q l=(j:Int)
 |[]=> .inl ⟨rfl,by simp⟩
 |j::l=>by rw[B6];cases hj:q j with|true=>exact .inr ⟨j,by simp,hj,rfl⟩|false=>simp only[af];rcases On q l with⟨h1,h2⟩|⟨k,h1,h2,h3⟩;exact .inl ⟨h1,by intro k hk;rcases bQ.1 hk with rfl|hk;exact hj;exact h2 k hk⟩;exact .inr ⟨k,by simp[h1],h2,h3⟩
theorem LU {ps:aw Port}{p:aI}:∀i,(∀j,1<=j->j<=i->((ps.getD j lB).1==p.1)=false)->Gz ps p i=0
 |0,_=>rfl
 |i+1,h=>by rw[Gz,h (i+1) (by omega) (by omega)];exact LU i λj h1 h2=>h j h1 (by omega)
theorem OA {ps:aw Port}{p:aI}{k:Nat}(hk:1<=k)(h:((ps.getD k lB).1==p.1)=true):∀i,k<=i->(∀j,1<=j->j<=i->((ps.getD j lB).1==p.1)=true->j=k)->Gz ps p i=k
 |0,hi,_=>by omega
 |i+1,hi,hu=>by rw[Gz];by_cases he:k=i+1;rw[<-he,h];rfl;cases hq:(ps.getD (i+1) lB).1==p.1 with|true=>have:=hu (i+1) (by omega) (by omega) hq;omega|false=>exact OA hk h i (by omega) λj h1 h2=>hu j h1 (by omega)
theorem Zv (hp:iC ps=true){j:Nat}(h1:1<=i)(hij:i<j)(hj:j<ps.length):((ps.getD i lB).1==(ps.getD j lB).1)=false:=by simp only[iC,ae,aG,bF,Ha,aJ]at hp;have:=(hp.2 j hj).2 i hij;simp only[Bool.and_eq_false_iff,bne_eq_false_iff_eq]at this;rcases this with h|h;omega;exact h
theorem filter_one {q:Nat->Bool}{n:Nat}(hk:k<n):(List.range n).filter (λj=>q j&&(j==k))=[k].filter q:=by
 have h1:(List.range n).filter (λj=>j==k)=[k]:=by
  induction n with
  |zero=>omega
  |succ n ih=>
   rw[gJ,List.filter_append];by_cases he:k=n;subst he;have:(List.range k).filter (λj=>j==k)=[]:=by rw[List.filter_eq_nil_iff];intro j hj;have:=bF.1 hj;simp;omega
   rw[this];simp;rw[ih (by omega)];have:([n]:fu).filter (λj=>j==k)=[]:=by simp;omega
   rw[this];rfl
 have h2:(λj=>q j&&(j==k))=λj=>q j&&(λj=>j==k) j:=rfl;rw[h2,<-List.filter_filter,h1]
theorem Dx (ps:aw Port)(e:Int)(p:aI)(z:Av ps):mi ps e p=some (Kv ps e p):=by
 have hn:=z.n;unfold mi Kv;rw[FC ps e p z,ab];cases hd:decide (oo ps e p<0)with|true=>rfl|false=>?_
 have hp:iC ps=true:=by cases hp:iC ps with|true=>rfl|false=>unfold oo adD at hd;rw[hp]at hd;simp at hd
 have h1:1<=ps.length/\ps.length<=8:=by simp only[iC,ae,aW]at hp;omega
 have hmac:∀j,j<ps.length->(ps.getD j lB).1<=281474976710654:=by intro j hj;simp only[iC,ae,aG,bF,Ha,Ko,eV,aW]at hp;exact(hp.2 j hj).1.1.2.1.2
 simp only[af,T1 ps p.1 hn,ab];generalize hv:oo ps e p=v;have hsw:Bf ps e p=(List.range ps.length).filter λj=>Ma ps e v j&&((j==Gz ps p (ps.length-1))||bcB p):=by rw[Bf,hv]
 rw[hsw];have hbcase:bcB p=true->∀j,j<ps.length->((ps.getD j lB).1==p.1)=false:=by
  intro hb j hj;have:=hmac j hj;have hb:p.1=281474976710655:=by simpa[bcB]using hb
  rw[hb,cl];omega
 rcases On (λj=>(j !=0)&&((ps.getD j lB).1==p.1)) (List.range' 0 ps.length)with⟨hf,hno⟩|⟨k,hk,hq,hf⟩;have hno:∀j,1<=j->j<ps.length->((ps.getD j lB).1==p.1)=false:=by intro j h2 h3;have:=hno j (by simp;omega);simp only[Bool.and_eq_false_iff,bne_eq_false_iff_eq]at this;rcases this with h|h;omega;exact h
 have hh:Gz ps p (ps.length-1)=0:=LU _ λj h2 h3=>hno j h2 (by omega);rw[hf,show decide ((-1:Int)>=0)=false from rfl,af,hh];rw[show(p.1==281474976710655)=bcB p from rfl];cases hb:bcB p with|true=>simp only[ah,ik,fV];refine dz (λi=>(oU (List.range i),(i:Int))) ps.length (by omega) (λi nx hi=>?_) (λnx=>?_);simp only[lr];rw[jz,aQ (by simp only[oU,bP,List.length_range,ba];omega),ak,gJ];simp only[ah,oU,ec];rfl;simp only[lr];rw[iw,af];exact L1 ps e v (List.range ps.length) (by simp;omega) (λj hj=>bF.1 hj) z|false=>simp only[af,Bool.or_false];rw[filter_one (by omega)];exact L1 ps e v [0] (by simp) (by simp;omega) z
 have hkl:k<ps.length:=by simp at hk;omega
 simp only[ae,bne_iff_ne]at hq;have hb:bcB p=false:=by cases hb:bcB p with|false=>rfl|true=>rw[hbcase hb k hkl]at hq;cases hq.2
 have hh:Gz ps p (ps.length-1)=k:=OA (by omega) hq.2 _ (by omega) λj h2 h3 h4=>by rcases Nat.lt_trichotomy j k with g|g|g;have:=Zv hp h2 g hkl;have a:=bm.1 h4;have b:=bm.1 hq.2;rw[a,b]at this;simp at this;exact g;have:=Zv hp (show 1<=k by omega) g (show j<ps.length by omega);have a:=bm.1 h4;have b:=bm.1 hq.2;rw[a,b]at this;simp at this
 rw[hf,jz,ah,hh,hb];simp only[Bool.or_false];rw[filter_one hkl];exact L1 ps e v [k] (by simp) (by simp;omega) z
theorem VO {e:Int}:∀j∈Bf ps e p,j<ps.length:=λj hj=>bF.1 (List.mem_filter.1 hj).1
theorem D0 (ps:aw Port)(e:Int)(p:aI):(Bf ps e p).length<=ps.length:=bt (List.length_filter_le _ _) (by simp)
theorem ZD (ms:aw bL):Av (dm ms).1:=⟨(Iy ms).1,(Iy ms).2⟩
structure Aq (n:Nat) (c:dh):Prop where
 z:dk n uH c
 h:∀x∈c.1,Ap n x
theorem Aq.mono {n m:Nat}(k:Aq n c)(hn:n<=m:=by omega):Aq m c:=⟨k.z.mono hn,λx hx=>(k.h x hx).mono hn⟩
theorem Aq.sz {n:Nat}(k:Aq n c)(hn:n<=1000000000:=by omega):V3 c:=by have z:dk 1000000000 uH c:=k.z.mono hn;exact⟨z.1.1,z.2.1.1,λm hm=>(z.2.2.1.2 m hm).1.2.2.1,λx hx=>(k.h x hx).sz hn⟩
theorem Aq.of (k:N0 uH c<=1048576):Aq 1048576 c:=by
 refine⟨Hw k,λh hh=>Ap.of ?_⟩;have h1:=FM (N0 dD) c.1 h hh;have h2:(c.1.map (N0 dD)).sum<=N0 uH c:=by show _<=(c.1.length+(c.1.map (N0 dD)).sum)+_;omega
 omega
theorem KR (h:kR c=true):(dm c.2.2.1).1.length=c.1.length+1/\(dm c.2.2.1).1.length<=8/\c.1.length<=3:=by unfold kR at h;simp only[ae]at h;have hl:=(Eu h.2.1).1;have h2:=h.1;have h3:=Jp h2;unfold dm at h2⊢;cases hc:cX (c.2.2.1.length:Int) 1 3&&(c.2.2.1.all jo&&iC (lx c.2.2.1))with|false=>rw[hc]at h2;cases h2|true=>simp only[ae]at hc;have:=(Gt c.2.2.1 0 ([0],[]) ⟨by simp,rfl,by simp⟩ hc.2.1).2.1;have h8:=hc.2.2;simp only[iC,ae,aW]at h8;simp only[ah];refine⟨?_,by omega,by omega⟩;simp only[lx,bf];rw[this,hl];omega
def agv (c:dh)(f:Bytes):dh:=(c.1,c.2.1,c.2.2.1,c.2.2.2.1,c.2.2.2.2.1,c.2.2.2.2.2.1,c.2.2.2.2.2.2++[f])
def RT (c:dh)(k:Nat)(h:Host):dh:=(c.1.set k h,c.2)
def cW (ps:aw Port)(v:Int)(p:aI)(c:dh)(j:Nat):dh:=
 bif j==0 then agv c (uN (FH ps (j:Int) v p)).1 else
 match c.1[j-1]? with
 |some h=>RT c (j-1) (lg h (uN (FH ps (j:Int) v p)).1)
 |none=>c
theorem Hi {n:Nat}(z:Aq n c)(zh:Ap n h):Aq n (RT c k h):=by refine⟨⟨mn z.z.1 zh.z,z.z.2⟩,λx hx=>?_⟩;rcases dp hx with g|g;exact z.h x g;rw[g];exact zh
theorem agw {n:Nat}{f:Bytes}(z:Aq n c)(hf:f.length<=n):Aq (n+1) (agv c f):=by have z':=z.mono (show n<=n+1 by omega);refine⟨⟨z'.z.1,z'.z.2.1,z'.z.2.2.1,z'.z.2.2.2.1,z'.z.2.2.2.2.1,z'.z.2.2.2.2.2.1,?_⟩,z'.h⟩;exact BH (t:=.str) (k:=1) z.z.2.2.2.2.2.2 (λy hy=>by rw[bE.1 hy];exact hf) (by simp)
theorem aeY {n:Nat}(hn:1000<=n){v:Int}{j:Nat}(z:Aq n c):Aq (n+1) (cW ps v p c j)/\(cW ps v p c j).1.length=c.1.length:=by have hf:=En (FH ps (j:Int) v p);unfold cW;cases j==0 with|true=>exact⟨agw z (by omega),rfl⟩|false=>simp only[af];cases hx:c.1[j-1]? with|none=>exact⟨z.mono,rfl⟩|some h=>have hr:=DP hn (uN (FH ps (j:Int) v p)).1 (z.h h (aX hx));exact⟨(Hi z hr.1).mono,aB ..⟩
def J7 (ps:aw Port)(v:Int)(p:aI)(c:dh)(l:fu):dh:=l.foldl (cW ps v p) c
theorem RS {ps:aw Port}{v:Int}{p:aI}:∀(l:fu){c:dh}{n:Nat},1000<=n->Aq n c->Aq (n+l.length) (J7 ps v p c l)/\(J7 ps v p c l).1.length=c.1.length
 |[],c,n,_,z=>⟨z,rfl⟩
 |j::l,c,n,hn,z=>by have h1:=aeY (ps:=ps) (v:=v) (p:=p) (j:=j) hn z;have:=RS (ps:=ps) (v:=v) (p:=p) l (show 1000<=n+1 by omega) h1.1;exact⟨this.1.mono (by simp only[bf];omega),this.2.trans h1.2⟩
theorem acb (ps:aw Port)(v:Int)(p:aI)(c:dh)(l:fu)(i:Nat)(hi:i<l.length):J7 ps v p c (l.take (i+1))=cW ps v p (J7 ps v p c (l.take i)) l[i]:=by rw[bp hi,J7,List.foldl_append];rfl
theorem Jd (K:dh->az R)(ps:aw Port)(v:Int)(p:aI)(c B:dh)(l:fu)(hl:l.length<=8)(hj:∀j∈l,j<=c.1.length)(z:Aq 800000000 c)(zp:Av ps): bl (kV (λ(_:Int) (y16:dh)=>K y16) ps v (oU l) ((oU l).length:Int) p B) fuel (0,c)=K (J7 ps v p c l):=by
 refine dz (λi=>((i:Int),J7 ps v p c (l.take i))) l.length (by omega) (λi nx hi=>?_) (λnx=>?_);have hi2:i<(oU l).length:=by simpa[oU]using hi
 have e1:(oU l)[i]'hi2=(l[i]:Int):=by simp[oU]
 have hz:=RS (ps:=ps) (v:=v) (p:=p) (l.take i) (by omega) z;have hzz:=hz.1.mono (show 800000000+(l.take i).length<=900000000 by rw[aV];omega);have hji:=hj _ (aN hi);have hfr:=En (FH ps (l[i]:Int) v p);rw[acb ps v p c l i hi];have hn:=hz.2;generalize J7 ps v p c (l.take i)=W at hn hzz⊢;have hw:W.2.2.2.2.2.2.length<=900000000:=hzz.z.2.2.2.2.2.2.1;simp only[kV];rw[au (by simpa[oU]using hi),bu hi2,e1,ak (n:=(i:Int)+1)];simp only[ah,ab,aa1 ps _ v p zp,OF,cW];have hcl:c.1.length<=800000000:=z.z.1.1;by_cases h0:l[i]=0;rw[show((l[i]:Int)==0)=true from by simp[h0],show(l[i]==0)=true from by simp[h0]];simp only[ah];rw[aQ (by simp only[ba];omega)];rfl;rw[show((l[i]:Int)==0)=false from by simp[h0],show(l[i]==0)=false from by simp[h0]];have hk:l[i]-1<W.1.length:=by omega
 rw[ak (n:=(l[i]:Int)-1),show(l[i]:Int)-1=((l[i]-1:Nat):Int) by omega];simp only[af,bu hk,ab,GL _ _ (hzz.h _ (aN hk)) (bt hfr (by omega)),ax,al hk];rfl;simp only[kV];rw[aq (by simp[oU]),af,cO]
def pA (c:dh)(e:Int)(p:aI):dh:=
 bif decide (oo (dm c.2.2.1).1 e p<0) then c else J7 (dm c.2.2.1).1 (oo (dm c.2.2.1).1 e p) p c (Bf (dm c.2.2.1).1 e p)
def si (c:dh)(e:Int)(p:aI):dh:=bif kR c&&eK p then pA c e p else c
theorem Du (c:dh)(e:Int)(p:aI)(k:Aq 800000000 c):lJ c e p=some (si c e p):=by
 have z9:dk 1000000000 uH c:=k.z.mono;unfold lJ si;simp only[uQ c z9,BB c (k.sz),wi,ab];cases h:kR c with|false=>rfl|true=>?_
 cases eK p with|false=>rfl|true=>?_
 have hn:=KR h;have zp:=ZD c.2.2.1;unfold pA;simp only[aj,af,ab,cE,ah,AN _ (λm hm=>(z9.2.2.1.2 m hm).1.2.2.1),FC _ e p zp,Dx _ e p zp];generalize (dm c.2.2.1).1=ps at hn zp⊢;unfold Kv;cases decide (oo ps e p<0)with|true=>exact Jd (λc=>some c) ps (oo ps e p) p c _ [] (by simp) (by simp) k zp|false=>exact Jd (λc=>some c) ps (oo ps e p) p c _ (Bf ps e p) (by have:=D0 ps e p;omega) (λj hj=>by have:=VO j hj;omega) k zp
theorem JB {n:Nat}(hn:1000<=n){e:Int}(z:Aq n c)(h:kR c=true):Aq (n+8) (pA c e p)/\(pA c e p).1.length=c.1.length:=by have h3:=KR h;unfold pA;generalize (dm c.2.2.1).1=ps at h3⊢;cases decide (oo ps e p<0)with|true=>exact⟨z.mono,rfl⟩|false=>have h8:=D0 ps e p;have:=RS (ps:=ps) (v:=oo ps e p) (p:=p) (Bf ps e p) hn z;exact⟨this.1.mono,this.2⟩
def Cx (c:dh):dh:=(c.1,c.2.1,c.2.2.1,c.2.2.2.1,c.2.2.2.2.1,c.2.2.2.2.2.1++[c.2.2.2.2.1.1],c.2.2.2.2.2.2)
def qT (c:dh)(x:Bytes):dh:=bif !kR c then c else bif (gn x).2==0 then pA (Cx c) 0 (gn x).1 else Cx c
theorem Pv {n:Nat}(z:Aq n c):Aq (n+1) (Cx c):=by have z':=z.mono (show n<=n+1 by omega);refine⟨⟨z'.z.1,z'.z.2.1,z'.z.2.2.1,z'.z.2.2.2.1,z'.z.2.2.2.2.1,?_,z'.z.2.2.2.2.2.2⟩,z'.h⟩;exact BH (t:=.int .i64) (k:=1) z.z.2.2.2.2.2.1 (λ_ _=>trivial) (by simp)
theorem RN (h:((gn x).2==0)=true):eK (gn x).1=true:=by
 unfold gn at h⊢;simp only at h⊢;cases h1:(yc x).2 with|false=>rw[h1]at h;cases h|true=>?_
 rw[h1]at h;simp only[aj,af]at h⊢;cases h2:(jP (yc x).1).2 !=0 with|true=>rw[h2]at h;simp only[bne,ah]at h h2;rw[h]at h2;cases h2|false=>rw[h2]at h;simp only[af]at h⊢;cases h3:eK (jP (yc x).1).1 with|false=>rw[h3]at h;cases h|true=>exact h3
theorem JZ (c:dh)(x:Bytes)(k:Aq 700000000 c)(hx:x.length<=1000000000):rh c x=some (qT c x):=by
 have hl:c.2.2.2.2.2.1.length<=700000000:=k.z.2.2.2.2.2.1.1;have ks:=(Pv k).mono (show 700000000+1<=800000000 by omega);unfold rh qT;rw[uQ c (k.z.mono),ab,BB c (k.sz),ab];cases h:kR c with|false=>rfl|true=>?_
 have hs:kR (Cx c)=true:=h;simp only[aj,af];rw[aQ (by rw[ba];omega),H5 x hx,ab];have hp:=RN (x:=x);generalize gn x=f at hp⊢;cases hf:f.2==0 with|false=>rfl|true=>?_
 have e:=Du (Cx c) 0 f.1 ks;unfold si at e;rw[hs,hp hf]at e;simp only[cE,ah]at e⊢;rw[show lJ (c.1,c.2.1,c.2.2.1,c.2.2.2.1,c.2.2.2.2.1,c.2.2.2.2.2.1++[c.2.2.2.2.1.1],c.2.2.2.2.2.2) 0 f.1=_ from e,ab]
theorem Vi {n:Nat}(hn:1000<=n)(x:Bytes)(z:Aq n c):Aq (n+9) (qT c x)/\(qT c x).1.length=c.1.length:=by
 unfold qT;cases h:kR c with|false=>exact⟨z.mono,rfl⟩|true=>?_
 have zs:=Pv z;simp only[aj,af];cases (gn x).2==0 with|true=>have:=JB (show 1000<=n+1 by omega) (e:=0) (p:=(gn x).1) zs (show kR (Cx c)=true from h);exact⟨this.1,this.2⟩|false=>exact⟨zs.mono,rfl⟩
theorem Yp {n:Nat}(hn:1000<=n)(e:Int)(p:aI)(z:Aq n c):Aq (n+8) (si c e p)/\(si c e p).1.length=c.1.length:=by
 unfold si;cases h:kR c with|false=>exact⟨z.mono,rfl⟩|true=>?_
 cases eK p with|false=>exact⟨z.mono,rfl⟩|true=>exact JB hn z h
theorem Tu (g:Good n h){f:Filter}(hf:eV f=true):Good n (ui h f):=⟨g.mem,g.maps,g.tx,hf,g.lens,g.ste,g.rx,g.pool,g.vec,g.F5⟩
def as6 (s:bZ×aw Port)(f:Filter):bZ×aw Port:=(f.2.2.foldl wa s.1,s.2++[(f.1,f.2.2.foldl wa [0],0,true)])
theorem M7 (ms:aw bL)(s:bZ×aw Port):ms.foldl C0 s=(ms.map (·.1)).foldl as6 s:=by rw[List.foldl_map];rfl
theorem U9 {ns:aw bL}(h:ms.map (·.1)=ns.map (·.1)):lx ms=lx ns:=by unfold lx;rw[M7,M7,h]
theorem ahT {b':bL}(hk:ms[k]?=some b)(h:b'.1=b.1):(ms.set k b').map (·.1)=ms.map (·.1):=by obtain⟨hlt,e⟩:=aC.1 hk;rw[List.map_set,h,<-e,<-List.getElem_map (f:=λx:bL=>x.1) (h:=by rw[bP];exact hlt),List.set_getElem_self]
theorem XW (h:(dm ms).2=true){b':bL}(hk:ms[k]?=some b)(hf:b'.1=b.1)(hm:jo b'=true):(dm (ms.set k b')).2=true:=by
 have p:=nJ h;unfold dm;rw[U9 (ahT hk hf),aB,p.2.2.1,aW.2 ⟨by omega,by omega⟩];have:(ms.set k b').all jo=true:=by rw[aG];intro x hx;rcases dp hx with g|g;exact p.2.2.2.1 x g;rw[g];exact hm
 rw[this];rfl
theorem Wj (h:(dm ms).2=true)(hk:ms[k]?=some b){m:tt}(hm:m.1=b.2.1+1)(hn:b.2.1<=n/\b.2.2.2<=n)(hn2:n<=100000000000):∃b',om ms k m=(ms.set k b',b'.2.2.1)/\b'.2.1=m.1/\b'.2.2.2=b.2.2.2+1/\(dm (ms.set k b')).2=true:=by
 have p:=nJ h;have hb:jo b=true:=p.2.2.2.1 b (aX hk);have hi:=UI hb;have hh:lX b m=(((lT b.1 m).1,m.1,(lT b.1 m).2,b.2.2.2+1),(lT b.1 m).2):=by unfold lX;rw[hb,ah,show(m.1==b.2.1)=false from by rw[cl];omega,af,show(m.1==b.2.1+1)=true from by rw[bm];exact hm,ah]
 unfold om;rw[hk];simp only[hh];cases hp:(dm (ms.set k ((lT b.1 m).1,m.1,(lT b.1 m).2,b.2.2.2+1))).2 with|true=>exact⟨((lT b.1 m).1,m.1,(lT b.1 m).2,b.2.2.2+1),rfl,rfl,rfl,hp⟩|false=>refine⟨(b.1,m.1,0,b.2.2.2+1),?_,rfl,rfl,?_⟩;rw[af,ak];refine XW h hk rfl ?_;unfold jo at hb⊢;simp only[ae,aW]at hb⊢;refine⟨hb.1,⟨?_,?_⟩,?_,?_⟩;show 0<=m.1;omega;show m.1<=_;omega;show 0<=b.2.2.2+1;omega;show b.2.2.2+1<=_;omega
theorem Wk (h:(dm ms).2=true)(hk:ms[k]?=some b){m:tt}(hm:m.1=b.2.1):om ms k m=(ms,b.2.2.1):=by
 have p:=nJ h;have hb:jo b=true:=p.2.2.2.1 b (aX hk);have hh:lX b m=(b,b.2.2.1):=by unfold lX;rw[hb,ah,show(m.1==b.2.1)=true from by rw[bm];exact hm,ah]
 have hs:ms.set k b=ms:=by obtain⟨hlt,e⟩:=aC.1 hk;rw[<-e,List.set_getElem_self]
 unfold om;rw[hk];simp only[hh];rw[hs,h,ah]
theorem St (h:(dm ms).2=true)(hk:ms[k]?=some b){m:tt}(h1:m.1≠b.2.1)(h2:m.1≠b.2.1+1):om ms k m=(ms, -1):=by
 have p:=nJ h;have hb:jo b=true:=p.2.2.2.1 b (aX hk);have hh:lX b m=(b, -1):=by unfold lX;rw[hb,ah,show(m.1==b.2.1)=false from by rw[cl];exact h1,af,show(m.1==b.2.1+1)=false from by rw[cl];exact h2,af]
 have hs:ms.set k b=ms:=by obtain⟨hlt,e⟩:=aC.1 hk;rw[<-e,List.set_getElem_self]
 unfold om;rw[hk];simp only[hh];rw[hs,h,ah]
def Ky (c:dh)(k:Nat)(h:Host)(b:bL):dh:=(c.1.set k (ui h b.1),c.2.1,c.2.2.1.set k b,c.2.2.2)
theorem adF {m:Int}(g:gz n c)(hm:n<=m)(hh:c.1[k]?=some h)(hp:(dm (c.2.2.1.set k b)).2=true)(h1:b.2.1<=m/\b.2.2.2<=m):gz m (Ky c k h b):=by
 have p:=nJ hp;have q:=nJ g.ports;obtain⟨hlt,_⟩:=aC.1 hh;have hk:k<c.2.2.1.length:=by have:=g.len.1;omega
 have hb:jo b=true:=p.2.2.2.1 b (aX (dx hk));have hf:eV b.1=true:=by unfold jo at hb;simp only[ae]at hb;exact hb.1
 have gh:∀h0,c.1[k]?=some h0->Good n h0:=λh0 e=>(g.host k h0 _ e (al hk)).1;refine⟨hp,⟨?_,?_⟩,?_,g.boot,g.clock,λi h' b' e1 e2=>?_,λi hi=>g.place i ?_,λx hx=>?_,λf hf=>⟨by have:=(g.fnn f hf).1;omega,by have:=(g.fnn f hf).2;omega⟩⟩;show(c.1.set k _).length=(c.2.2.1.set k b).length;rw[aB,aB];exact g.len.1;show c.2.1.length=(c.2.2.1.set k b).length;rw[aB];exact g.len.2;have e:=g.fns;unfold hG at e⊢;rw[q.1,q.2.2.1,q.2.1,bq]at e;show(iC (dm (c.2.2.1.set k b)).1&&(List.range c.2.1.length).all (fnB c.2.1 ((dm (c.2.2.1.set k b)).1.length:Int)))=true;rw[p.1,p.2.2.1,bq,p.2.1,aB];exact e;have e1:(c.1.set k (ui h b.1))[i]?=some h':=e1;have e2:(c.2.2.1.set k b)[i]?=some b':=e2;by_cases hi:i=k;subst hi;rw[dx hlt]at e1;rw[dx hk]at e2;rw[<-cc e1,<-cc e2];exact⟨Tu ((gh h hh).mono hm) hf,rfl⟩;rw[aP (cR hi)]at e1 e2;exact⟨(g.host i h' b' e1 e2).1.mono hm,(g.host i h' b' e1 e2).2⟩;have hi:i<(c.1.set k (ui h b.1)).length:=hi;rw[aB]at hi;exact hi;rcases dp hx with e|e;have:=g.boxn x e;omega;rw[e];exact h1
theorem am7 {n:Nat}(hn:8<=n)(z:Aq n c)(hh:c.1[k]?=some h)(hb:b.1.2.2.length<=8):Aq n (Ky c k h b):=by
 have zh:=z.h h (aX hh);have zl:dk n mN b.1:=⟨cx,cx,bt hb hn,λ_ _=>trivial⟩
 have y:=zh.z;have zf:Ap n (ui h b.1):=⟨⟨y.1,y.2.1,y.2.2.1,y.2.2.2.1,y.2.2.2.2.1,y.2.2.2.2.2.1,y.2.2.2.2.2.2.1,zl,y.2.2.2.2.2.2.2.2⟩,zh.t⟩
 have s:=Hi (k:=k) z zf;exact⟨⟨s.z.1,z.z.2.1,mn z.z.2.2.1 ⟨zl,cx,cx,cx⟩,z.z.2.2.2⟩,s.h⟩
theorem Sz (g:gz n c)(hn:n<=100000000000)(hk:c.2.2.1[k]?=some b){m:tt}(hm:m.1=b.2.1+1):∃h b',c.1[k]?=some h/\qZ c (k:Int) m=(Ky c k h b',b'.2.2.1)/\b'.2.1=m.1/\b'.2.2.2=b.2.2.2+1/\(dm (c.2.2.1.set k b')).2=true/\gz (n+1) (Ky c k h b'):=by
 obtain⟨hlt,_⟩:=aC.1 hk;have hx:k<c.1.length:=by have:=g.len.1;omega
 have hbn:=g.boxn b (aX hk);obtain⟨b',e1,e2,e3,e4⟩:=Wj g.ports hk hm hbn hn;refine⟨c.1[k],b',al hx,?_,e2,e3,e4,adF g (by omega) (al hx) e4 ⟨by omega,by omega⟩⟩;unfold qZ;rw[g.ok (by omega),aW.2 ⟨by omega,by omega⟩];simp only[cE,ah,ax,e1];rw[al hx,dx hlt];rfl
theorem SA (g:gz n c)(hn:n<=100000000000)(hk:c.2.2.1[k]?=some b){m:tt}{a:Int}(he:om c.2.2.1 k m=(c.2.2.1,a)):qZ c (k:Int) m=(c,a):=by
 obtain⟨hlt,eb⟩:=aC.1 hk;have hx:k<c.1.length:=by have:=g.len.1;omega
 have hf:=(g.host k _ b (al hx) hk).2;unfold qZ;rw[g.ok (by omega),aW.2 ⟨by omega,by omega⟩];simp only[cE,ah,ax,he];rw[al hx,hk];simp only;have e:ui c.1[k] b.1=c.1[k]:=by rw[<-hf];rfl
 rw[e,List.set_getElem_self]
def FX (b:tt)(n:Int):tt×Bool:=bif iq b&&cX n 0 b.2.2 then((b.1,b.2.1,ar (b.2.2-n)),true) else(b,false)
theorem aa9 (b:tt)(n:Int):ry b n=some (FX b n):=by unfold ry FX;simp only[FA,ab,cn];cases iq b<;>cases cX n 0 b.2.2<;>rfl
def YY (f:aS):aS:=(f.1,f.2.1,f.2.2.1,f.2.2.2.1,f.2.2.2.2.1,ar (f.2.2.2.2.2+1))
def ais (f:aS)(b:tt):aS:=(f.1,f.2.1,b,f.2.2.2.1,ar (f.2.2.2.2.1+1),f.2.2.2.2.2)
def ahC (ps:aw Port)(f:aS)(p:aI):Bool:=f.2.2.2.1&&(!decide (oo ps f.2.1 p<0)&&(FX f.2.2.1 ((dI p).1.length:Int)).2)
def uB (l:aw aS)(ps:aw Port)(a:Int)(p:aI):aw aS×bZ×Bool:=
 bif hG l ps&&(eK p&&(!decide (a<0)&& !decide (a>=(l.length:Int)))) then
  match l[a.toNat]? with
  |some f=>bif ahC ps f p then(l.set a.toNat (ais f (FX f.2.2.1 ((dI p).1.length:Int)).1),Kv ps f.2.1 p,true) else(l.set a.toNat (YY f),[],false)
  |none=>(l,[],false)
 else(l,[],false)
theorem aa7 (l:aw aS)(ps:aw Port)(a:Int)(p:aI)(h:l.length<=1000000000)(z:Av ps):xb l ps a p=some (uB l ps a p):=by
 unfold xb uB;rw[uR l h,ab,ak (n:=(l.length:Int)-1)];simp only[EW l ps h z.1 z.2,wi,ab,cn];cases hG l ps with|false=>rfl|true=>?_
 cases eK p with|false=>rfl|true=>?_
 rw[show cX a 0 ((l.length:Int)-1)=(!decide (a<0)&& !decide (a>=(l.length:Int))) from by rw[cC,aW];simp;omega];by_cases h0:a<0;rw[au h0];rfl;by_cases h1:a>=(l.length:Int)
 rw[aq h0,au h1];rfl;obtain⟨a,rfl⟩:=aR (by omega:0<=a);have ha:a<l.length:=by omega
 rw[aq h0,aq h1];simp only[ax,al ha,bu ha,ab,aj,bz,af,ah,cE,BC,aa9,FC _ _ p z,Dx _ _ p z,ahC];generalize l[a]=f;cases h3:f.2.2.2.1 with|false=>simp only[bz,ah,af,dN,ab,YY,h3]|true=>simp only[aj,af,bq,Rd ha,ab,List.set_set];cases decide (oo ps f.2.1 p<0)with|true=>simp only[aj,ah,dN,af,ab,YY,h3]|false=>simp only[bz,af,bq,ab,Dx _ _ p z];cases (FX f.2.2.1 ((dI p).1.length:Int)).2 with|false=>simp only[bz,ah,af,YY,h3]|true=>simp only[aj,ah,af,ais,h3]
theorem Ph (l:aw aS)(ps:aw Port)(a:Int)(p:aI):(uB l ps a p).1.length=l.length:=by
 unfold uB;cases hG l ps&&(eK p&&(!decide (a<0)&& !decide (a>=(l.length:Int))))with|false=>rfl|true=>?_
 simp only[ah];cases l[a.toNat]? with|none=>rfl|some f=>cases h:ahC ps f p<;>simp only[h,ah,af,aB]
theorem aeO {a:Int}(h:eK p=false):uB l ps a p=(l,[],false):=by unfold uB;rw[h,dN,ff,af]
theorem XR:eK pk0=false:=by decide
theorem aeB (h:((gn x).2==0)=false):eK (gn x).1=false:=by
 unfold gn at h⊢;simp only at h⊢;cases h1:(yc x).2 with|false=>exact XR|true=>?_
 rw[h1]at h;simp only[aj,af]at h⊢;cases h2:(jP (yc x).1).2 !=0 with|true=>exact XR|false=>?_
 rw[h2]at h;simp only[af]at h⊢;cases h3:eK (jP (yc x).1).1 with|false=>exact XR|true=>rw[h3]at h;cases h
def D7 (h:Host):bO:=h.2.2.2.2.2.2.2.2.2.2.2.1
theorem PJ (h:Host):(D7 h).length<=(D7 (fQ h)).length/\(D7 (fQ h)).length<=(D7 h).length+5440:=by
 have hA:=BU h.2.1 h.1 0 17 [] 0 0 h.2.2.1.1 (λx hx=>by cases hx);unfold fQ;cases ew h with|false=>exact⟨bh _,Nat.le_add_right _ _⟩|true=>?_
 rw[show pT h.2.1 h.1 0 17 [] 0 0 h.2.2.1.1=ll h.2.1 h.1 0 h.2.2.1.1 from rfl]at hA;generalize ll h.2.1 h.1 0 h.2.2.1.1=x at hA⊢;simp only[dZ]at hA;generalize (if(h.2.2.1.2.2.1.length:Int)<ar (x.2.2.1+x.2.2.2) then(h.2.2.1.2.2.1.length:Int) else ar (x.2.2.1+x.2.2.2))=q;show _<=(D7 h++x.2.1).length/\(D7 h++x.2.1).length<=_;rw[ai];have:=hA.1;omega
def Ji (h:Host):bO:=(D7 (fQ h)).drop (D7 h).length
theorem Ir (h:Host):(Ji h).length<=5440:=by have:=PJ h;unfold Ji;rw[aK];omega
def AY (ps:aw Port)(k:Int)(c:dh)(x:Bytes):dh:=
 bif (uB c.2.1 ps k (gn x).1).2.2 then si (c.1,(uB c.2.1 ps k (gn x).1).1,c.2.2) (ar (k+1)) (gn x).1 else(c.1,(uB c.2.1 ps k (gn x).1).1,c.2.2)
theorem ZN {n:Nat}(h:l.length=c.2.1.length)(z:Aq n c):Aq n (c.1,l,c.2.2):=by refine⟨⟨z.z.1,⟨?_,λ_ _=>⟨cx,cx,⟨cx,cx,cx⟩,cx,cx,cx⟩⟩,z.z.2.2⟩,z.h⟩;have:=z.z.2.1.1;show l.length<=n;rw[h];exact this
theorem aeL {n:Nat}(hn:1000<=n){k:Int}(z:Aq n c):Aq (n+8) (AY ps k c x)/\(AY ps k c x).1.length=c.1.length:=by have zs:=ZN (l:=(uB c.2.1 ps k (gn x).1).1) (Ph ..) z;unfold AY;cases (uB c.2.1 ps k (gn x).1).2.2 with|false=>exact⟨zs.mono,rfl⟩|true=>exact Yp hn _ _ zs
theorem aeK {k:Int}(h:((gn x).2==0)=false):AY ps k c x=c:=by unfold AY;rw[aeO (aeB h)];rfl
def CZ (ps:aw Port)(k:Int)(c:dh)(l:bO):dh:=l.foldl (AY ps k) c
theorem MO {ps:aw Port}{k:Int}:∀(l:bO){c:dh}{n:Nat},1000<=n->Aq n c->Aq (n+8*l.length) (CZ ps k c l)/\(CZ ps k c l).1.length=c.1.length
 |[],c,n,_,z=>⟨z,rfl⟩
 |x::l,c,n,hn,z=>by have h1:=aeL hn (ps:=ps) (k:=k) (x:=x) z;have:=MO (ps:=ps) (k:=k) l (show 1000<=n+8 by omega) h1.1;exact⟨this.1.mono (by simp only[bf];omega),this.2.trans h1.2⟩
theorem X8 (ps:aw Port)(k:Int)(c:dh)(l:bO)(i:Nat)(hi:i<l.length):CZ ps k c (l.take (i+1))=AY ps k (CZ ps k c (l.take i)) l[i]:=by rw[bp hi,CZ,List.foldl_append];rfl
theorem TK (K:Int->dh->az R)(ps:aw Port)(k:Int)(l:bO)(c B:dh)(hl:l.length<=5440)(hx:∀x∈l,x.length<=1000000000)(z:Aq 700000000 c)(zp:Av ps): bl (jF K k ps l (l.length:Int) B) fuel (0,c)=K (l.length:Int) (CZ ps k c l):=by
 have hfu:=eJ;refine dz (λi=>((i:Int),CZ ps k c (l.take i))) l.length (by omega) (λi nx hi=>?_) (λnx=>?_);have hz:=(MO (ps:=ps) (k:=k) (l.take i) (by omega) z).1.mono (show 700000000+8*(l.take i).length<=800000000 by rw[aV];omega);rw[X8 ps k c l i hi];generalize CZ ps k c (l.take i)=W at hz⊢;simp only[jF];rw[jz,ah,bu hi,ab,H5 _ (hx _ (aN hi)),ab,ak (n:=(i:Int)+1)];cases hf:(gn l[i]).2==0 with|false=>rw[aeK hf];simp only[bne,hf,bz,ah];rfl|true=>have zs:=ZN (l:=(uB W.2.1 ps k (gn l[i]).1).1) (Ph ..) hz;simp only[bne,hf,aj,af];rw[aa7 _ _ _ _ (bt hz.z.2.1.1 (by omega)) zp,ab,Du _ _ _ zs,ab,AY];cases (uB W.2.1 ps k (gn l[i]).1).2.2<;>rfl
 simp only[jF];rw[iw,af,cO]
def uK (c:dh)(k:Int):dh:=
 bif kR c&&(!decide (k<0)&& !decide (k>=(c.1.length:Int))) then
  match c.1[k.toNat]? with
  |some h=>CZ (dm c.2.2.1).1 k (RT c k.toNat (fQ h)) (Ji h)
  |none=>c
 else c
theorem W1 (c:dh)(k:Int)(z:Aq 600000000 c):qa c k=some (uK c k):=by
 have z9:dk 1000000000 uH c:=z.z.mono;have hl:c.2.1.length<=600000000:=z.z.2.1.1;unfold qa uK;rw[uQ c z9,ab,BB c (z.sz),ab,cn,ak (n:=(c.2.1.length:Int)-1)];cases hb:kR c with|false=>rfl|true=>?_
 have h2:c.1.length=c.2.1.length:=by unfold kR at hb;simp only[ae]at hb;have:=Eu hb.2.1;omega
 rw[show cX k 0 ((c.2.1.length:Int)-1)=(!decide (k<0)&& !decide (k>=(c.1.length:Int))) from by rw[cC,aW];simp;omega];by_cases h0:k<0;rw[au h0];rfl;by_cases h1:k>=(c.1.length:Int)
 rw[aq h0,au h1];rfl;obtain⟨k,rfl⟩:=aR (by omega:0<=k);have hk:k<c.1.length:=by omega
 rw[aq h0,aq h1];have hz:=z.h _ (aN hk);have zt:=CF (by omega) hz;have zc:Aq 700000000 (RT c k (fQ c.1[k])):=(Hi (z.mono (show 600000000<=600005440 by omega)) zt).mono;have hg:=PJ c.1[k];have hw:∀x∈Ji c.1[k],x.length<=1000000000:=λx hx=>bt (zt.z.2.2.2.2.2.2.2.2.2.2.2.1.2 x (List.mem_of_mem_drop hx)) (by omega);have hn:=Ir c.1[k];have zp:=ZD c.2.2.1;simp only[ax,al hk,bu hk,Rd hk,ab,aj,bz,af,ah,cE,AN _ (λm hm=>(z9.2.2.1.2 m hm).1.2.2.1),GQ _ (hz.mono)];rw[show sub (fQ c.1[k]).2.2.2.2.2.2.2.2.2.2.2.1 ((c.1[k].2.2.2.2.2.2.2.2.2.2.2.1).length:Int) (((fQ c.1[k]).2.2.2.2.2.2.2.2.2.2.2.1).length:Int)=some (Ji c.1[k]) from Hv _ _ hg.1];simp only[ab,lH _ (bt hn (by omega:5440<=1000000000))];exact TK (λ_ y=>some y) (dm c.2.2.1).1 (k:Int) (Ji c.1[k]) (RT c k (fQ c.1[k])) _ hn hw zc zp
theorem Wp {n:Nat}(hn:1000<=n)(k:Int)(z:Aq n c):Aq (n+48960) (uK c k)/\(uK c k).1.length=c.1.length:=by
 unfold uK;cases kR c&&(!decide (k<0)&& !decide (k>=(c.1.length:Int)))with|false=>exact⟨z.mono,rfl⟩|true=>?_
 simp only[ah];cases hx:c.1[k.toNat]? with|none=>exact⟨z.mono,rfl⟩|some h=>have zt:=CF (by omega) (z.h h (aX hx));have zc:=Hi (k:=k.toNat) (z.mono (show n<=n+5440 by omega)) zt;have:=MO (ps:=(dm c.2.2.1).1) (k:=k) (Ji h) (by omega) zc;have hl:=Ir h;refine⟨this.1.mono,this.2.trans ?_⟩;show(c.1.set _ _).length=_;rw[aB]
structure kQ (a b:Host):Prop where
 maps:b.2.1=a.2.1
 mem:b.1.length=a.1.length
theorem kQ.refl (a:Host):kQ a a:=⟨rfl,rfl⟩
theorem kQ.trans {a b c:Host}(h:kQ a b)(g:kQ b c):kQ a c:=⟨g.maps.trans h.maps,g.mem.trans h.mem⟩
theorem kQ.of {a b:Host}(h:kP k a b):kQ a b:=⟨h.maps,h.mem⟩
theorem ah3 (l:aw aF)(m:bO)(d:Int)(q:cy)(k s:Bytes):(iD l m d q k s).1.length=m.length:=by
 unfold iD;cases !(dq s).2||(((dq s).1.1 !=3)||decide ((dq s).1.2.2.1<((dI q.2.2.2.1.1).1.length:Int)))with|true=>rfl|false=>?_
 cases (iy l m d (dq s).1.2.2.2.1 (dI q.2.2.2.1.1).1 true).2 with
 |false=>rfl
 |true=>
  simp only[af,aj];unfold AW;cases !gj q.2.1|| !zD _ with|true=>exact kh ..|false=>?_
  cases (iy l (iy l m d (dq s).1.2.2.2.1 (dI q.2.2.2.1.1).1 true).1 d (su q.2.1) _ true).2 with|false=>exact kh ..|true=>exact(kh ..).trans (kh ..)
theorem Q7 (l:aw aF)(m:bO)(d:Int)(q:cy)(k:Bytes):(ja l m d q k).1.length=m.length:=by
 unfold ja;cases !F6 q||(!q.2.2.2.2.1||((k.length:Int) !=16))with|true=>rfl|false=>?_
 cases (bC l m d q.1).2.2&&(iD l m d q k (bC l m d q.1).1).2.2 with|true=>exact ah3 ..|false=>rfl
theorem ac3 (l:aw aF)(m:bO)(d:Int)(q:cy)(k:Bytes)(p:aI)(c:Bool):(lQ l m d q k p c).1.length=m.length:=by
 unfold lQ;cases !F6 q||(!eK p||((k.length:Int) !=16))with|true=>rfl|false=>?_
 cases c&&(q.2.2.2.2.1&&HO q.2.2.2.1 p)with|true=>rfl|false=>?_
 cases c with|true=>exact Q7 ..|false=>exact(Q7 ..).trans (Q7 ..)
theorem aeN (l:aw aF)(m:bO)(d:Int)(t:eC)(p:aI)(c z:Int):(wA l m d t p c z).1.length=m.length:=by
 unfold wA;cases Nk t&&(dG p&&(cX z 1 t.2.1.2.1&&cX c 1 128))with|false=>rfl|true=>?_
 cases I3 t (zC p z.toNat)with|false=>rfl|true=>?_
 simp only[ah];cases hw:xE l d t.2.1 z.toNat (kF t.2.1 (zC p z.toNat:Int)).2.1 (kx p).1 m []with|none=>rfl|some x=>have hx:=(Gq _ _ _ _ _ _ _ _ hw).1;simp only;unfold MP vG;cases hp:rP l d ((qz x.1 c t.2.2.2).map yq) x.2 t.1 with|none=>rfl|some y=>exact(Jq _ _ _ _ _ hp).trans hx
theorem acz (h:Host)(p:aI)(c z:Int):kQ h (Ae h p c z).1:=by unfold Ae;cases ew h with|false=>exact kQ.refl h|true=>exact⟨rfl,aeN ..⟩
theorem Fc (h:Host):kQ h (fQ h):=by unfold fQ;cases ew h with|false=>exact kQ.refl h|true=>exact⟨rfl,rfl⟩
theorem Yh (h:Host):kQ h (we h):=by unfold we;cases ew h with|false=>exact kQ.refl h|true=>exact kQ.of (nZ xF h _)
theorem Px (h:Host):kQ h (vY h):=by unfold vY;cases ew h with|false=>exact kQ.refl h|true=>exact kQ.of (nZ Am h _)
theorem R1 (h:Host)(b:Int):kQ h (nL h b).1:=by unfold nL;cases ew h&&cX b 1 1000 with|false=>exact kQ.refl h|true=>exact kQ.of (zv b h _)
theorem Ht (h:Host)(x:Bytes):kQ h (lg h x):=by
 unfold lg;cases ew h with|false=>exact kQ.refl h|true=>?_
 cases (gn x).2 !=0 with|true=>exact⟨rfl,rfl⟩|false=>?_
 cases !xA h.2.2.2.2.2.2.2.1 (gn x).1 with|true=>exact⟨rfl,rfl⟩|false=>?_
 cases sF h.2.2.2.2.2.2.2.2.1 (h.2.2.2.1.length:Int) (gn x).1== -1 with|true=>exact⟨rfl,rfl⟩|false=>?_
 simp only[aj,af];cases hq:h.2.2.2.1[(sF h.2.2.2.2.2.2.2.2.1 (h.2.2.2.1.length:Int) (gn x).1).toNat]? with|none=>exact kQ.refl h|some q=>exact kQ.trans (b:=Bi h _ _ _ _) ⟨rfl,rfl⟩ (kQ.of (D8 (ac3 ..)))
theorem Hs (h:Host):∀k,kQ h (tM h k)
 |0=>kQ.refl h
 |k+1=>by
  refine(Hs h k).trans ?_;show kQ (tM h k) (wu (tM h k) k 1000).2;generalize tM h k=s;unfold wu;cases s.2.2.2.1[k]? with|none=>exact kQ.refl s|some rx=>?_
  cases s.2.2.2.2.1[k]? with|none=>exact kQ.refl s|some pl=>?_
  exact⟨rfl,ZC ..⟩
theorem Fa (h:Host):∀k,kQ h (returned h k)
 |0=>Hs h _
 |k+1=>by refine(Fa h k).trans ?_;show kQ (returned h k) (MI h.2.2.1.2.2.1 k (returned h k));unfold MI;cases h.2.2.1.2.2.1[k]? with|none=>exact kQ.refl _|some x=>exact⟨rfl,rfl⟩
theorem M4 (h:Host):kQ h (sD h):=by unfold sD;cases ew h with|false=>exact kQ.refl h|true=>have k:=xh (rb h) h.2.2.2.1.length;have r:=Fa h h.2.2.1.2.2.1.length;exact⟨k.maps.trans r.maps,k.mem.trans r.mem⟩
theorem aeX (h:Host)(a:Act):kQ h (F9 h a).1:=by
 unfold F9;cases !ew h|| !EG a with|true=>exact kQ.refl h|false=>?_
 simp only[af];cases a.1==0 with|true=>exact acz ..|false=>?_
 cases a.1==1 with|true=>exact Fc h|false=>?_
 cases a.1==2 with|true=>exact Ht ..|false=>?_
 cases a.1==3 with|true=>exact Yh h|false=>?_
 cases a.1==4 with|true=>exact Px h|false=>?_
 cases a.1==5 with|true=>exact R1 ..|false=>exact M4 h
def rf (h:Host):Filter:=h.2.2.2.2.2.2.2.1
theorem agZ (k:Nat)(h:Host):rf (evS k h)=rf h:=by unfold evS;cases h.2.2.2.2.2.1[k]?<;>rfl
theorem Zg (k:Nat)(h:Host):∀i,rf (Za k i h)=rf h
 |0=>rfl
 |i+1=>(agZ k _).trans (Zg k h i)
theorem WQ (h:Host)(k:Nat)(b:Int)(f:bO×cy):rf (F2 h k b f)=rf h:=(Zg k _ _).trans rfl
theorem I5 (h:Host)(x:Bytes):rf (lg h x)=rf h:=by
 unfold lg;cases ew h with|false=>rfl|true=>?_
 cases (gn x).2 !=0 with|true=>rfl|false=>?_
 cases !xA h.2.2.2.2.2.2.2.1 (gn x).1 with|true=>rfl|false=>?_
 cases sF h.2.2.2.2.2.2.2.2.1 (h.2.2.2.1.length:Int) (gn x).1== -1 with|true=>rfl|false=>?_
 simp only[aj,af];cases h.2.2.2.1[(sF h.2.2.2.2.2.2.2.2.1 (h.2.2.2.1.length:Int) (gn x).1).toNat]? with|none=>rfl|some q=>exact WQ ..
theorem aaJ (h:Host):rf (we h)=rf h:=by unfold we;cases ew h with|false=>rfl|true=>exact(nZ xF h _).rf
theorem Tk (h:Host):rf (vY h)=rf h:=by unfold vY;cases ew h with|false=>rfl|true=>exact(nZ Am h _).rf
theorem Tj (h:Host)(b:Int):rf (nL h b).1=rf h:=by unfold nL;cases ew h&&cX b 1 1000 with|false=>rfl|true=>exact(zv b h _).rf
theorem Gs (h:Host):rf (fQ h)=rf h:=by unfold fQ;cases ew h<;>rfl
theorem adx (h:Host)(p:aI)(c z:Int):rf (Ae h p c z).1=rf h:=by unfold Ae;cases ew h<;>rfl
theorem WN (h:Host)(i:Nat)(c:Int):rf (wu h i c).2=rf h:=by
 unfold wu;cases h.2.2.2.1[i]? with|none=>rfl|some rx=>?_
 cases h.2.2.2.2.1[i]? with|none=>rfl|some pl=>rfl
theorem I4 (h:Host):∀k,rf (tM h k)=rf h
 |0=>rfl
 |k+1=>(WN _ k 1000).trans (I4 h k)
theorem B8 (h:Host):∀k,rf (returned h k)=rf h
 |0=>I4 h _
 |k+1=>by have e:returned h (k+1)=MI h.2.2.1.2.2.1 k (returned h k):=rfl;rw[e];unfold MI;cases h.2.2.1.2.2.1[k]? with|none=>exact B8 h k|some x=>exact(show rf (ZK (returned h k) [x.1])=rf (returned h k) from rfl).trans (B8 h k)
theorem WO (k:Nat)(h:Host):rf (wz k h)=rf h:=by
 unfold wz;cases h.2.2.2.1[k]? with|none=>rfl|some x=>?_
 cases h.2.2.2.2.2.1[k]? with|none=>rfl|some v=>rfl
theorem Gr (h:Host):∀k,rf (iz h k)=rf h
 |0=>rfl
 |k+1=>(WO k _).trans (Gr h k)
theorem Ou (h:Host):rf (sD h)=rf h:=by unfold sD;cases ew h with|false=>rfl|true=>exact(Gr _ _).trans ((show rf (rb h)=rf (returned h h.2.2.1.2.2.1.length) from rfl).trans (B8 h _))
theorem agY (h:Host)(a:Act):rf (F9 h a).1=rf h:=by
 unfold F9;cases !ew h|| !EG a with|true=>rfl|false=>?_
 simp only[af];cases a.1==0 with|true=>exact adx ..|false=>?_
 cases a.1==1 with|true=>exact Gs h|false=>?_
 cases a.1==2 with|true=>exact I5 ..|false=>?_
 cases a.1==3 with|true=>exact aaJ h|false=>?_
 cases a.1==4 with|true=>exact Tk h|false=>?_
 cases a.1==5 with|true=>exact Tj ..|false=>exact Ou h
theorem gz.at (g:gz n c)(hi:c.1[i]?=some h):Good n h:=by obtain⟨hlt,_⟩:=aC.1 hi;exact(g.host i h _ hi (al (by have:=g.len.1;omega))).1
theorem LM {m:Int}(g:gz n c)(hm:n<=m){hs:aw Host}(hl:hs.length=c.1.length)(h:∀(i:Nat)(h':Host),hs[i]?=some h'->∃h0,c.1[i]?=some h0/\Good m h'/\rf h'=rf h0):gz m (hs,c.2):=by have q:=g.mono hm;refine⟨q.ports,⟨hl.trans q.len.1,q.len.2⟩,q.fns,q.boot,q.clock,λi h' b e1 e2=>?_,λi hi=>q.place i (by rw[<-hl];exact hi),q.boxn,q.fnn⟩;obtain⟨h0,a,b',e⟩:=h i h' e1;exact⟨b',e.trans (q.host i h0 b a e2).2⟩
theorem HX {m:Int}(g:gz n c)(hm:n<=m){h0:Host}(hk:c.1[k]?=some h0)(gh:Good m h)(e:rf h=rf h0):gz m (RT c k h):=by refine LM g hm (aB ..) λi h' hi=>?_;by_cases hik:i=k;subst hik;obtain⟨hlt,_⟩:=aC.1 hk;rw[dx hlt]at hi;rw[<-cc hi];exact⟨h0,hk,gh,e⟩;rw[aP (cR hik)]at hi;exact⟨h',hi,(g.at hi).mono hm,rfl⟩
theorem Ox {m:Int}(g:gz n c)(hm:n<=m){f:Host->Host}(hf:∀h,Good n h->Good m (f h))(he:∀h,rf (f h)=rf h):gz m (c.1.map f,c.2):=by refine LM g hm (bP ..) λi h' hi=>?_;rw[List.getElem?_map]at hi;cases hc:c.1[i]? with|none=>rw[hc]at hi;cases hi|some h0=>rw[hc]at hi;rw[<-cc hi];exact⟨h0,rfl,hf h0 (g.at hc),he h0⟩
theorem WX (g:gz n c)(f:Bytes):gz n (agv c f):=⟨g.ports,g.len,g.fns,g.boot,g.clock,g.host,g.place,g.boxn,g.fnn⟩
theorem I9 (g:gz n c):gz n (Cx c):=⟨g.ports,g.len,g.fns,g.boot,g.clock,g.host,g.place,g.boxn,g.fnn⟩
theorem WV (hn:n<=600000000000)(g:gz n c)(ps:aw Port)(v:Int)(p:aI)(j:Nat):gz (n+641) (cW ps v p c j):=by unfold cW;cases j==0 with|true=>exact(WX g _).mono|false=>simp only[af];cases hc:c.1[j-1]? with|none=>exact g.mono|some h=>exact HX g (by omega) hc (Gy (by omega) (g.at hc) _) (I5 ..)
theorem Oy (ps:aw Port)(v:Int)(p:aI):∀(l:fu){n:Int}{c:dh},n+641*(l.length:Int)<=600000000000->gz n c->gz (n+641*(l.length:Int)) (J7 ps v p c l)
 |[],n,c,_,g=>g.mono (by simp)
 |j::l,n,c,hn,g=>by simp only[bf]at hn;have i:=Oy ps v p l (n:=n+641) (by omega) (WV (by omega) g ps v p j);exact i.mono (by simp only[bf];push_cast;omega)
theorem EP (hn:n<=500000000000)(g:gz n c)(e:Int)(p:aI):gz (n+2564) (pA c e p):=by unfold pA;cases decide (oo (dm c.2.2.1).1 e p<0)with|true=>exact g.mono|false=>have h1:=D0 (dm c.2.2.1).1 e p;have h2:=(ab3 c.2.2.1).1;exact(Oy _ _ _ _ (by omega) g).mono
theorem Rc (hn:n<=500000000000)(g:gz n c)(e:Int)(p:aI):gz (n+2564) (si c e p):=by unfold si;cases kR c&&eK p with|true=>exact EP hn g e p|false=>exact g.mono
theorem NB (hn:n<=500000000000)(g:gz n c)(x:Bytes):gz (n+2564) (qT c x):=by
 unfold qT;cases !kR c with|true=>exact g.mono|false=>?_
 cases (gn x).2==0 with|true=>exact EP hn (I9 g) 0 _|false=>exact(I9 g).mono
theorem adC {f:aS}(hk:k<l.length):(l.set k f).getD i HV=if i=k then f else l.getD i HV:=by rw[bN,bN];by_cases h:i=k;subst h;rw[aE rfl,dx hk];rfl;rw[aD h,aP (cR h)]
theorem Q8:hG l ps=true↔iC ps=true/\∀i,i<l.length->CU (ps.length:Int) (l.getD i HV)=true/\∀j,j<i->aaL (l.getD i HV) (l.getD j HV)=false:=by unfold hG fnB;simp only[ae,aG,bF,aJ]
theorem adz {l':aw aS}(h:hG l ps=true)(hl:l'.length=l.length)(hx:∀i,i<l.length->(l'.getD i HV).1=(l.getD i HV).1/\(l'.getD i HV).2.1=(l.getD i HV).2.1/\CU (ps.length:Int) (l'.getD i HV)=true):hG l' ps=true:=by rw[Q8]at h⊢;refine⟨h.1,λi hi=>⟨(hx i (by omega)).2.2,λj hj=>?_⟩⟩;have q:=(h.2 i (by omega)).2 j hj;have a:=hx i (by omega);have b:=hx j (by omega);unfold aaL at q⊢;rw[a.1,a.2.1,b.1,b.2.1];exact q
theorem XS {l':aw aS}(h:yg l i=true)(hx:(l'.getD i HV).1=(l.getD i HV).1/\(l'.getD i HV).2.1=(l.getD i HV).2.1):yg l' i=true:=by unfold yg at h⊢;rw[hx.1,hx.2];exact h
theorem Tw {m:Int}(g:gz n c)(hm:n<=m)(hl:l.length=c.2.1.length)(hx:∀i,i<c.2.1.length->(l.getD i HV).1=(c.2.1.getD i HV).1/\(l.getD i HV).2.1=(c.2.1.getD i HV).2.1/\CU ((dm c.2.2.1).1.length:Int) (l.getD i HV)=true)(hc:∀f∈l,f.2.2.2.2.1<=m/\f.2.2.2.2.2<=m):gz m (c.1,l,c.2.2):=by
 have q:=g.mono hm;refine⟨q.ports,⟨q.len.1,hl.trans q.len.2⟩,adz q.fns hl hx,q.boot,q.clock,q.host,λi hi=>?_,q.boxn,hc⟩;have hi:i<c.1.length:=hi;have hlt:i<c.2.1.length:=by have:=q.len;omega
 exact XS (q.place i hi) ⟨(hx i hlt).1,(hx i hlt).2.1⟩
theorem Dq {f:aS}:CU n f=true↔(0<=f.1/\f.1<=7)/\(1<=f.2.1/\f.2.1<=ar (n-1))/\iq f.2.2.1=true/\(0<=f.2.2.2.2.1/\f.2.2.2.2.1<=1000000000000)/\0<=f.2.2.2.2.2/\f.2.2.2.2.2<=1000000000000:=by unfold CU;simp only[ae,aW]
theorem PY {b:tt}(h:iq b=true)(n:Int):iq (FX b n).1=true:=by unfold FX;cases hq:iq b&&cX n 0 b.2.2 with|false=>exact h|true=>simp only[ae,aW]at hq;unfold iq at h⊢;simp only[ae,aW,ah]at h⊢;rw[ak];exact⟨h.1,h.2.1,by omega,by omega⟩
theorem WU (hn:n<=500000000000)(g:gz n c)(k:Int)(p:aI):gz (n+1) (c.1,(uB c.2.1 (dm c.2.2.1).1 k p).1,c.2.2):=by
 have same:gz (n+1) (c.1,c.2.1,c.2.2):=g.mono;unfold uB;cases hq:hG c.2.1 (dm c.2.2.1).1&&(eK p&&(!decide (k<0)&& !decide (k>=(c.2.1.length:Int))))with|false=>exact same|true=>?_
 simp only[ah];cases hf:c.2.1[k.toNat]? with|none=>exact same|some f=>?_
 simp only;obtain⟨hlt,ef⟩:=aC.1 hf;have hF:=(Q8.1 g.fns).2;have hfn:=g.fnn f (aX hf);have fin:CU ((dm c.2.2.1).1.length:Int) f=true:=by have:=(hF k.toNat hlt).1;rw[cG hlt,ef]at this;exact this
 have hi:=Dq.1 fin;have go:∀f':aS,f'.1=f.1->f'.2.1=f.2.1->CU ((dm c.2.2.1).1.length:Int) f'=true->(f'.2.2.2.2.1<=n+1/\f'.2.2.2.2.2<=n+1)->gz (n+1) (c.1,c.2.1.set k.toNat f',c.2.2):=by intro f' e1 e2 e3 e4;refine Tw g (by omega) (aB ..) (λi hi=>?_) λx hx=>?_;rw[adC hlt];by_cases hik:i=k.toNat;rw[aE hik,hik,cG hlt,ef];exact⟨e1,e2,e3⟩;rw[aD hik];exact⟨rfl,rfl,(hF i hi).1⟩;rcases dp hx with e|e;have:=g.fnn x e;omega;rw[e];exact e4
 cases ahC (dm c.2.2.1).1 f p with|true=>refine go _ rfl rfl (Dq.2 ⟨hi.1,hi.2.1,PY hi.2.2.1 _,?_,hi.2.2.2.2⟩) ?_;show 0<=ar (f.2.2.2.2.1+1)/\_;show 0<=ar (f.2.2.2.2.1+1)/\ar (f.2.2.2.2.1+1)<=1000000000000;rw[ak];omega;show ar (f.2.2.2.2.1+1)<=n+1/\f.2.2.2.2.2<=n+1;rw[ak];omega|false=>refine go _ rfl rfl (Dq.2 ⟨hi.1,hi.2.1,hi.2.2.1,hi.2.2.2.1,?_⟩) ?_;show 0<=ar (f.2.2.2.2.2+1)/\ar (f.2.2.2.2.2+1)<=1000000000000;rw[ak];omega;show f.2.2.2.2.1<=n+1/\ar (f.2.2.2.2.2+1)<=n+1;rw[ak];omega
structure pX (a b:dh):Prop where
 boxes:b.2.2.1=a.2.2.1
 flash:b.2.2.2.1=a.2.2.2.1
 clock:b.2.2.2.2.1=a.2.2.2.2.1
 stamps:b.2.2.2.2.2.1=a.2.2.2.2.2.1
 len:b.1.length=a.1.length
 up:∃w,b.2.2.2.2.2.2=a.2.2.2.2.2.2++w
theorem pX.refl (a:dh):pX a a:=⟨rfl,rfl,rfl,rfl,rfl,⟨[],(bK _).symm⟩⟩
theorem pX.trans {a b:dh}(h:pX a b)(g:pX b c):pX a c:=by obtain⟨w,hw⟩:=h.up;obtain⟨u,hu⟩:=g.up;exact⟨g.boxes.trans h.boxes,g.flash.trans h.flash,g.clock.trans h.clock,g.stamps.trans h.stamps,g.len.trans h.len,⟨w++u,by rw[hu,hw,aZ]⟩⟩
theorem Xo (ps:aw Port)(v:Int)(p:aI)(c:dh)(j:Nat):pX c (cW ps v p c j):=by unfold cW;cases j==0 with|true=>exact⟨rfl,rfl,rfl,rfl,rfl,⟨_,rfl⟩⟩|false=>simp only[af];cases hc:c.1[j-1]? with|none=>exact pX.refl c|some h=>exact⟨rfl,rfl,rfl,rfl,aB ..,⟨[],(bK _).symm⟩⟩
theorem OQ (ps:aw Port)(v:Int)(p:aI):∀(l:fu)(c:dh),pX c (J7 ps v p c l)
 |[],c=>pX.refl c
 |j::l,c=>(Xo ps v p c j).trans (OQ ps v p l _)
theorem E0 (c:dh)(e:Int)(p:aI):pX c (pA c e p):=by unfold pA;cases decide (oo (dm c.2.2.1).1 e p<0)with|true=>exact pX.refl c|false=>exact OQ ..
theorem Ru (c:dh)(e:Int)(p:aI):pX c (si c e p):=by unfold si;cases kR c&&eK p with|true=>exact E0 ..|false=>exact pX.refl c
theorem Mc (ps:aw Port)(k:Int)(c:dh)(x:Bytes):pX c (AY ps k c x):=by
 unfold AY;have e:pX c (c.1,(uB c.2.1 ps k (gn x).1).1,c.2.2):=⟨rfl,rfl,rfl,rfl,rfl,⟨[],(bK _).symm⟩⟩
 cases (uB c.2.1 ps k (gn x).1).2.2 with|true=>exact e.trans (Ru ..)|false=>exact e
theorem Md (ps:aw Port)(k:Int):∀(l:bO)(c:dh),pX c (CZ ps k c l)
 |[],c=>pX.refl c
 |x::l,c=>(Mc ps k c x).trans (Md ps k l _)
theorem ahr (c:dh)(k:Int):pX c (uK c k):=by
 unfold uK;cases kR c&&(!decide (k<0)&& !decide (k>=(c.1.length:Int)))with|false=>exact pX.refl c|true=>?_
 simp only[ah];cases c.1[k.toNat]? with|none=>exact pX.refl c|some h=>exact(show pX c (RT c k.toNat (fQ h)) from⟨rfl,rfl,rfl,rfl,aB ..,⟨[],(bK _).symm⟩⟩).trans (Md ..)
theorem WT (hn:n<=400000000000)(g:gz n c)(k:Int)(x:Bytes):gz (n+2565) (AY (dm c.2.2.1).1 k c x):=by have q:=WU (by omega) g k (gn x).1;unfold AY;cases (uB c.2.1 (dm c.2.2.1).1 k (gn x).1).2.2 with|true=>exact(Rc (by omega) q _ _).mono|false=>exact q.mono
theorem LO (k:Int)(ps:aw Port):∀(l:bO){n:Int}{c:dh},n+2565*(l.length:Int)<=400000000000->ps=(dm c.2.2.1).1->gz n c->gz (n+2565*(l.length:Int)) (CZ ps k c l)
 |[],n,c,_,_,g=>g.mono (by simp)
 |x::l,n,c,hn,hp,g=>by simp only[bf]at hn;have s:=WT (by omega) g k x;rw[<-hp]at s;have i:=LO k ps l (n:=n+2565) (by omega) (by rw[(Mc ps k c x).boxes];exact hp) s;exact i.mono (by simp only[bf];push_cast;omega)
theorem ag4 (hn:n<=300000000000)(g:gz n c)(k:Int):gz (n+14000000) (uK c k):=by
 unfold uK;cases kR c&&(!decide (k<0)&& !decide (k>=(c.1.length:Int)))with|false=>exact g.mono|true=>?_
 simp only[ah];cases hc:c.1[k.toNat]? with|none=>exact g.mono|some h=>have q:=HX g (cK n) hc (ER (g.at hc)) (Gs h);have hl:=Ir h;exact(LO k (dm c.2.2.1).1 (Ji h) (c:=RT c k.toNat (fQ h)) (by omega) rfl q).mono
def Fj (s:Bytes):Prop:=∀x∈s,x=0
theorem Sj (h:Fj s):s=List.replicate s.length 0:=List.eq_replicate_iff.2 ⟨rfl,h⟩
theorem Np (n:Nat):Fj (vZ n):=by intro x hx;simp only[vZ,aL,List.map_replicate]at hx;exact(List.mem_replicate.1 hx).2
theorem agD {t:Bytes}(h:Fj s)(k:Fj t)(e:s.length=t.length):s=t:=by rw[Sj h,Sj k,e]
theorem as3 {o:Nat}{t:Bytes}(hx:Fj x)(ht:Fj t)(h:o+t.length<=x.length):BN x o t=x:=by refine agD (λy hy=>?_) hx (O5 h);unfold BN at hy;rcases ay.1 hy with g|g;exact hx y (List.mem_of_mem_take g);rcases ay.1 g with g|g;exact ht y g;exact hx y (List.mem_of_mem_drop g)
theorem agx:∀(n:Nat){m:bO}{a:Nat}{s:Bytes},Bo m->(∀x∈m,Fj x)->Fj s->a+s.length<=128*m.length->wN n m a s=m
 |0,m,a,s,_,_,_,_=>rfl
 |n+1,m,a,s,hp,hm,hs,hl=>by rw[wN];by_cases h0:s.length=0;rw[aE h0];rw[aD h0];obtain⟨h1,h2,_⟩:=CI hp h0 hl;have ho:BN (m[a/128]'h1) (a%128) (s.take (128-a%128))=m[a/128]'h1:=as3 (hm _ (aN h1)) (λy hy=>hs y (List.mem_of_mem_take hy)) (by rw[h2,aV];omega);rw[cG h1,ho,List.set_getElem_self];exact agx n hp hm (λy hy=>hs y (List.mem_of_mem_drop hy)) (by rw[aK];omega)
theorem aid (a:Int)(hm:∀x∈m,Fj x)(hs:Fj s):(oQ m a s).1=m:=by
 unfold oQ;cases hw:gF m a (s.length:Int)with|false=>rfl|true=>?_
 simp only[gF,ae,aH]at hw;exact agx s.length (pL.1 hw.1) hm hs (by omega)
theorem air:∀(q:aw (Int×Int)){m:bO}{s:Bytes},(∀x∈m,Fj x)->Fj s->IB q m s=m
 |[],m,s,_,_=>rfl
 |p::q,m,s,hm,hs=>by rw[IB,aid _ hm (λy hy=>hs y (List.mem_of_mem_take hy))];exact air q hm (λy hy=>hs y (List.mem_of_mem_drop hy))
theorem as4 (hm:∀x∈m,Fj x)(hs:Fj s)(l:aw aF)(d a:Int)(w:Bool):(iy l m d a s w).1=m:=by unfold iy;cases (kE l m d a (s.length:Int) w).2 with|false=>rfl|true=>exact air _ hm hs
def Au (n:Nat):bO:=List.replicate n (vZ 128)
theorem amq {n:Nat}:∀x∈Au n,Fj x:=λx hx=>by rw[(List.mem_replicate.1 hx).2];exact Np 128
theorem abt (n:Nat):Au (n+1)=Au n++[vZ 128]:=List.replicate_succ'
theorem MV (n:Nat)(h:n<=64:=by omega):nS (n:Int)=some (Au n):=by have hz:gv 128 0=some (vZ 128):=MT 128;unfold nS;refine dz (λi=>((i:Int),Au i)) n (by omega) (λi nx hi=>?_) (λnx=>?_);simp only[qt];rw[au (show(i:Int)<n by omega),ah,jz,ab,ah,hz,ab,aQ (by simp[Au];omega),ak,abt];rfl;simp only[qt];rw[aq (show¬(n:Int)<n by omega),af,ab,af]
def qQ (a b:Int):Vector×Bool:=bif eY (a,b,0,0,false,false) then((a,b,0,0,false,false),true) else((0,0,0,0,false,false),false)
theorem MW (a b:Int):vN a b=some (qQ a b):=by unfold vN qQ;rw[FW,ab];cases eY (a,b,0,0,false,false)<;>rfl
def so (i:Nat):aw aF:=(List.range i).map λ(p:Nat)=>(0,(p:Int),37-(p:Int), !cX (p:Int) 2 9)
theorem Ml (i:Nat):so (i+1)=so i++[(0,(i:Int),37-(i:Int), !cX (i:Int) 2 9)]:=by simp[so,gJ]
theorem BK (i:Nat):(so i).length=i:=by simp[so]
def apS:Host:=(([]:bO),([]:aw aF),((0,0,0,0),(0,0,0,([]:bZ)),([]:aw oe),0),([]:aw cy),([]:aw dw),([]:aw Vector),([]:aw Bool),(0,false,([]:bZ)),(([]:aw mA),([]:aw Slot),([]:Bytes),([]:bZ)),([]:aw Stream),false,([]:bO),([]:bZ),([]:bZ),0,0,0,0,0)
def OB (f:Filter)(s:dJ)(c:Bool)(i:Nat):Host:=(Au 38,so i,C2,([]:aw cy),([]:aw dw),([]:aw Vector),([]:aw Bool),f,s,([]:aw Stream),c,([]:bO),([]:bZ),([]:bZ),0,0,0,0,0)
def Oh:bO×kO×dw×Int:=uu (so 38) (Au 38) 0 (DS 0).1 (ig (gW 0+128) 384 4).1
def ain (f:Filter)(s:dJ)(c:Bool)(v:Vector):Host:=(Oh.1,so 38,C2,[(Oh.2.1,(DS 0).2)],[Oh.2.2.1],[v],[false],f,s,([]:aw Stream),c,([]:bO),([]:bZ),([]:bZ),0,0,0,0,0)
def nH (f:Filter)(s:dJ)(c:Bool)(a b:Int):Host×Bool:=
 bif eV f&&(fb s 1&&(qQ a b).2) then(ain f s c (qQ a b).1,true) else(apS,false)
theorem Jv (f:Filter)(s:dJ)(c:Bool)(a b:Int)(hf:f.2.2.length<=1000000000)(h1:s.1.length<=1000000000)(h2:s.2.1.length<=1000000000)(h3:s.2.2.2.length<=1000000000):rX 1 f s c a b=some (nH f s c a b):=by
 have hfu:=eJ;unfold rX nH;rw[MW,ab,dR,ab,show cX (1:Int) 1 2=true from aW.2 (by omega),Ct f hf,Ho s 1 h1 h2 h3];simp only[aj,af,ab];cases eV f with|false=>rfl|true=>?_
 cases fb s 1 with|false=>rfl|true=>?_
 generalize qQ a b=v;cases hv:v.2 with|false=>rfl|true=>?_
 have hm:nS 38=some (Au 38):=MV 38;simp only[aj,af,ab,fV,ah,hm,Ps,Ag f hf,E7 s h1 h2 h3];refine dz (λi=>((i:Int),OB f s c i)) 38 (by omega) (λi nx hi=>?_) (λnx=>?_);have hl:=BK i;simp only[pk];rw[jz,ah,dR,ab,aQ (by show(so i).length+1<=_;omega),ak (n:=(i:Int)+1),ak (n:=37-(i:Int))];show nx ((i:Int)+1,Au 38,so i++_,_)=nx (((i+1:Nat):Int),Au 38,so (i+1),_);rw[Ml];rfl;simp only[pk];rw[iw,af];have h38:=BK 38;have hmem:(Au 38).length<=1000000000:=by rw[Au,List.length_replicate];omega
 have ho:sr (so 38) (Au 38) 0=Oh:=by unfold sr Oh;rw[as4 amq (Np 128)];rfl
 have e1:(DS 0).2=((gW 0+64,4,0),(gW 0+64,4,0),((0,0,0,0,0,0,0,0,0,0,0,0,0,0,0,([]:Bytes)),0,0),false,0):=rfl;have hop:=VC (Au 38,so 38,C2,[((0,0,0,0),(0,0,0),(0,0,0),((0,0,0,0,0,0,0,0,0,0,0,0,0,0,0,([]:Bytes)),0,0),false,0)],[(0,0,0,([]:bZ))],[v.1],[false],f,s,([]:aw Stream),c,([]:bO),([]:bZ),([]:bZ),0,0,0,0,0) 0 (by omega) (Nat.lt_succ_self 0) (Nat.lt_succ_self 0) (by show(so 38).length<=_;omega) hmem;unfold O2 at hop;simp only[ho,List.set_cons_zero,cA,show((0:Nat):Int)=0 from rfl]at hop;obtain⟨g,hg⟩:∃g,fuel=g+2:=⟨fuel-2,by omega⟩
 unfold OB ain;rw[e1];generalize gW 0=bb at hop⊢;generalize Oh=o at hop⊢;generalize Au 38=m at hop⊢;generalize so 38=l at hop⊢;rw[hg,bl,nR];rw[jz,ah];simp only;rw[aQ (by simp),aQ (by simp),aQ (by simp),aQ (by simp)];simp only[cj];rw[hop,ab,bl,nR,ak,iw,af]
def adb:dh:=(([]:aw Host),([]:aw aS),([]:aw bL),([]:bO),(0,0,0,0),([]:bZ),([]:bO))
def NN (st:dJ)(c:Bool)(bk:tt)(x:bL)(s:aw Host×aw aS):Except (az (dh×Bool)) (aw Host×aw aS):=
 if(nH x.1 st c 1 2).2=true then .ok (s.1++[(nH x.1 st c 1 2).1],s.2++[((s.2.length:Int),(s.2.length:Int)+1,bk,true,0,0)]) else .error (some (adb,false))
def vD (ms:aw bL)(st:dJ)(c:Bool)(bk:tt)(f:bO)(t:Int):az (dh×Bool):=
 bif (dm ms).2&&(iq bk&&(!decide (gZ f<0)&&qx (0,0,t,0))) then
  Bq (NN st c bk) (λs=>some ((s.1,s.2,ms,f,(0,0,t,0),([]:bZ),([]:bO)),true)) ms ([],[])
 else some (adb,false)
theorem VB (ms:aw bL)(st:dJ)(c:Bool)(bk:tt)(f:bO)(t:Int)(hm:ms.length<=1000000000)(hx:∀m∈ms,m.1.2.2.length<=1000000000)(hf:f.length<=1000000000)(h1:st.1.length<=1000000000)(h2:st.2.1.length<=1000000000)(h3:st.2.2.2.length<=1000000000):rV ms st c bk f t=vD ms st c bk f t:=by
 have hfu:=eJ;unfold rV vD;rw[VD ms hx,ab,lh];simp only[MS,Vz,Pk,ab];cases hp:(dm ms).2 with|false=>rfl|true=>?_
 cases iq bk with|false=>rfl|true=>?_
 cases decide (gZ f<0)with|true=>rfl|false=>?_
 cases qx (0,0,t,0)with|false=>rfl|true=>?_
 have h3':=Jp hp;simp only[aj,af,ab,fV,bz,ah,cj];refine tc ms (λs i=>(((i:Int),s.1,s.2,ms.take i,f,(0,0,t,0),([]:bZ),([]:bO)):Int×dh)) (λi s=>s.1.length=i/\s.2.length=i) (NN st c bk) _ (by omega) (λi hi s nx hI=>?_) (λi hi s s' hI he=>?_) (λs nx hI=>?_) ([],[]) ⟨rfl,rfl⟩;simp only[tR];rw[jz,ah,bu hi,ab,Jv _ st c 1 2 (hx _ (aN hi)) h1 h2 h3,ab];unfold NN;cases hb:(nH ms[i].1 st c 1 2).2 with|false=>rfl|true=>rw[aE rfl];simp only[aj,af];rw[aQ (by rw[ba];omega),aQ (by rw[ba];omega),ab,Ka _ (hx _ (aN hi)),ab,aQ (by rw[ba,aV];omega),ak,hI.2,bp hi];rfl
 unfold NN at he;split at he;injection he with he;rw[<-he];simp[hI.1,hI.2];cases he;simp only[tR];rw[iw,af,cO]
def Ends (o:az α)(P:α->Prop):Prop:=∃x,o=some x/\P x
theorem Ends.pure {x:α}{P:α->Prop}(h:P x):Ends (some x) P:=⟨x,rfl,h⟩
theorem Ends.bind {o:az α}{P:α->Prop}{k:α->az R}{Q:R->Prop}(h:Ends o P)(hk:∀x,P x->Ends (k x) Q):Ends (aa o k) Q:=by obtain⟨x,rfl,hx⟩:=h;exact hk x hx
theorem Ends.mono {o:az α}{P Q:α->Prop}(h:Ends o P)(hq:∀x,P x->Q x):Ends o Q:=by obtain⟨x,hx,hp⟩:=h;exact⟨x,hx,hq x hp⟩
theorem Ends.cond {α:Type}{c:Bool}{a b:az α}{P:α->Prop}(h1:c=true->Ends a P)(h2:c=false->Ends b P):Ends (cond c a b) P:=by cases c with|true=>exact h1 rfl|false=>exact h2 rfl
theorem Ends.ifn {p:Prop}[Decidable p]{a:az α}{P:α->Prop}(h:¬p)(ha:Ends a P):Ends (if p then none else a) P:=by rw[aD h];exact ha
theorem Ends.room {α:Type}{n:Nat}{k:az α}{P:α->Prop}(h:n<=1073741824)(hk:Ends k P):Ends (room n k) P:=by rw[aQ h];exact hk
theorem Ends.of {o:az α}{x:α}{P:α->Prop}(h:o=some x)(hp:P x):Ends o P:=⟨x,h,hp⟩
theorem Ends.iter {σ:Type}{T:(σ->az R)->σ->az R}{Q:R->Prop}(I:σ->Prop)(m:σ->Nat)(hs:∀x nx,I x->(∀y,I y->m y<m x->Ends (nx y) Q)->Ends (T nx x) Q): ∀n x,I x->m x<n->Ends (bl T n x) Q:=by intro n;induction n with|zero=>intro x _ h;omega|succ n ih=>intro x hx hm;rw[bl];exact hs x _ hx λy hy hlt=>ih y hy (by omega)
theorem Ends.yn {σ:Type}{T:(σ->az R)->σ->az R}{Q:R->Prop}(I:σ->Prop)(m:σ->Nat){x:σ}(hx:I x)(hm:m x<=1000000000000)(hs:∀x nx,I x->(∀y,I y->m y<m x->Ends (nx y) Q)->Ends (T nx x) Q):Ends (bl T fuel x) Q:=Ends.iter I m hs fuel x hx (by have:=eJ;omega)
theorem Ends.idx {α R:Type}{xs:aw α}{i:Int}{k:α->az R}{Q:R->Prop}(h0:0<=i)(h1:i<(xs.length:Int))(hk:∀(h:i.toNat<xs.length),Ends (k xs[i.toNat]) Q):Ends (aa (idx xs i) k) Q:=by
 obtain⟨n,rfl⟩:=aR h0;have hn:n<xs.length:=by omega
 rw[bu hn,ab];exact hk (by simpa using hn)
abbrev yo:=bZ×Int×Int
def Cu (c:yo):Prop:=0<=c.2.1/\c.2.1<=(c.1.length:Int)/\c.1.length<=1048576
theorem ac2 (x y:Int)(n:Nat)(hy:(gX y).toNat=n)(hn:n<9223372036854775808):0<=ar (BitVec.toNat (gX x&&&gX y))/\ar (BitVec.toNat (gX x&&&gX y))<=n:=by
 have h:(gX x&&&gX y).toNat<=n:=by rw[BitVec.toNat_and,hy];exact Nat.and_le_right
 generalize (gX x&&&gX y).toNat=k at h;rw[ak];omega
theorem amC {a:bZ}(ha:a.length<=1048576):Ends (Bb a) Cu:=by
 unfold Bb;refine Ends.yn (λx=>0<=x.2/\x.2<=4000) (λx=>(4000-x.2).toNat) ⟨by omega,by omega⟩ (by simp) λx nx hx hn=>?_;unfold Aj;refine Ends.bind (P:=λb=>b=true->x.2<(a.length:Int)/\x.2<4000) (Ends.cond (λh=>Ends.pure λh2=>⟨bB h,bB h2⟩) λh=>Ends.pure λh2=>by cases h2) λq hq=>?_;refine Ends.cond (λh=>?_) (λh=>Ends.pure ⟨cK _,by simp,ha⟩);have hq:=hq h;refine Ends.idx hx.1 hq.1 λ_=>hn _ ⟨?_,?_⟩ ?_;all_goals simp only[ak (n:=x.2+1) (by omega) (by omega)]
 all_goals omega
theorem Ee {c:yo}(h:Cu c):Ends (ku c) λr=>(0<=r.1/\r.1<=255)/\Cu r.2:=by
 unfold ku;refine Ends.ifn (by decide) (Ends.ifn (by decide) (Ends.cond (λh1=>?_) λh1=>?_))
 ·have h1:=bB h1;refine Ends.idx h.1 h1 λ_=>Ends.pure ⟨ac2 _ 255 255 rfl (by decide),?_⟩;refine⟨?_,?_,h.2.2⟩;all_goals simp only[ak (n:=c.2.1+1) (by have:=h.1;omega) (by have:=h.2.2;omega)]
  have:=h.1;omega;omega
 exact Ends.pure ⟨ac2 _ 255 255 rfl (by decide),h.1,h.2.1,h.2.2⟩
theorem gK {c:yo}(h:Cu c)(hn:0<n:=by omega):Ends (cU c n) λr=>(0<=r.1/\r.1<n)/\Cu r.2:=by unfold cU;rw[iw];simp only[af];refine Ends.cond (λh1=>?_) λh1=>?_;refine(Ee h).bind λr hr=>Ends.ifn (by omega) (Ends.pure ⟨⟨Int.tmod_nonneg _ hr.1.1,Int.tmod_lt_of_pos _ hn⟩,hr.2⟩);refine(Ee h).bind λr2 h2=>(Ee h2.2).bind λr3 h3=>(Ee h3.2).bind λr4 h4=>(Ee h4.2).bind λr5 h5=>Ends.ifn (by omega) (Ends.pure ⟨⟨Int.tmod_nonneg _ ?_,Int.tmod_lt_of_pos _ hn⟩,h5.2⟩);have a2:=h2.1;have a3:=h3.1;have a4:=h4.1;have a5:=h5.1;rw[ak (n:=r2.1*16777216),ak (n:=r3.1*65536),ak (n:=r4.1*256)];rw[ak (n:=r2.1*16777216+r3.1*65536)];rw[ak (n:=r2.1*16777216+r3.1*65536+r4.1*256)];rw[ak];omega
theorem ac4 {c:yo}(h:Cu c)(n:Int):Ends (cU c n) λr=>(0<=r.1/\(r.1<n\/r.1=0))/\Cu r.2:=by
 rcases Int.lt_or_le 0 n with hn|hn;exact(gK h hn).mono λr hr=>⟨⟨hr.1.1,Or.inl hr.1.2⟩,hr.2⟩
 unfold cU;rw[au hn];exact Ends.pure ⟨⟨cK _,Or.inr rfl⟩,h⟩
theorem tK {c:yo}(h:Cu c)(n:Int):Ends (gw c n) λr=>Cu r.2:=by unfold gw;exact(ac4 h n).bind λr hr=>Ends.pure hr.2
theorem jN {c:yo}(h:Cu c){l:bZ}{P:Int->Prop}(hl:0<l.length)(hp:∀x∈l,P x):Ends (cZ c l) λr=>P r.1/\Cu r.2:=by unfold cZ;exact(gK h).bind λr hr=>Ends.idx hr.1.1 hr.1.2 λhi=>Ends.pure ⟨hp _ (aN hi),hr.2⟩
theorem EE {c:yo}(h:Cu c)(n:Int):Ends (kv c n) λr=>(r.1.length<=5000/\(0<=n->n<=5000->(r.1.length:Int)=n)/\(n<=0->r.1=[]))/\Cu r.2:=by
 have key:∀v:Int,v<=5000->∀Q:(Bytes×yo)->Prop,(∀x c,((x.length:Int)=v\/(v<=0/\x=[]))->Cu c->Q (aL x,c))->Ends (bl (pt (λy _ z=>some (aL y,z)) v) fuel (([]:bZ),0,c)) Q:=by
  intro v hv Q hQ;refine Ends.yn (λx=>(x.1.length:Int)=x.2.1/\(x.2.1<=v\/x.2.1=0)/\Cu x.2.2) (λx=>(v-x.2.1).toNat) ⟨rfl,Or.inr rfl,h⟩ (by simp;omega) λx nx hx hn=>?_;unfold pt;refine Ends.cond (λh1=>?_) λh1=>Ends.pure (hQ _ _ ?_ hx.2.2)
  ·have h1:=bB h1;refine(Ee hx.2.2).bind λr hr=>Ends.room (by simp;omega) (hn _ ⟨?_,?_,hr.2⟩ ?_);all_goals simp only[ak (n:=x.2.1+1) (by omega) (by omega)]
   simp;omega;omega;omega
  have h1:=eu h1;rcases hx.2.1 with h2|h2;exact Or.inl (by omega);rcases Int.lt_or_le 0 v with h3|h3;omega;exact Or.inr ⟨h3,cp (by omega)⟩
 have hb:∀x:bZ,(aL x).length=x.length:=λx=>by simp[aL]
 unfold kv;refine Ends.cond (λh1=>?_) λh1=>?_;have h1:=bB h1;refine key 5000 (by omega) _ λx c hx hc=>⟨⟨by rw[hb];rcases hx with hx|hx<;>omega,λ_ _=>by omega,λ_=>by omega⟩,hc⟩
 have h1:=eu h1;refine key n (by omega) _ λx c hx hc=>⟨⟨?_,λh0 _=>?_,λh0=>?_⟩,hc⟩
 rw[hb];rcases hx with hx|hx;omega;rw[hx.2];simp;rw[hb];rcases hx with hx|hx;omega;rw[hx.2];simp;omega;rcases hx with hx|hx;have:x=[]:=cp (by omega);rw[this];rfl;rw[hx.2];rfl
theorem adI {c:yo}(h:Cu c):Ends (yP c) λr=>(167772161<=r.1/\r.1<=167772163)/\Cu r.2:=by unfold yP;refine(gK h (by decide)).bind λr hr=>Ends.pure ⟨?_,hr.2⟩;have:=hr.1;simp only[ak (n:=167772161+r.1) (by omega) (by omega)];omega
theorem aaI {c:yo}(h:Cu c):Ends (xt c) λr=>(0<=r.1/\r.1<=31)/\Cu r.2:=by unfold xt;exact(jN (P:=λx=>0<=x/\x<=31) h (by decide) (by decide)).bind λr hr=>Ends.pure hr
theorem am4 {c:yo}(h:Cu c){m:Int}(h0:0<=m)(h1:m<=320):Ends (tX c m) λr=>(td r.1=true/\(r.1.2.2.2.2.2.2.2.length:Int)<=m)/\Cu r.2:=by
 unfold tX;refine(gK h (by decide)).bind λr1 p1=>(gK p1.2 (by decide)).bind λr2 p2=>?_;refine(jN (P:=λx=>0<=x/\x<=4294967295) p2.2 (by simp) ?_).bind λr3 p3=>?_;have:=p2.1;intro x hx;simp only[bQ,List.not_mem_nil,or_false]at hx;omega;refine(jN (P:=λx=>0<=x/\x<=4294967295) p3.2 (by decide) (by decide)).bind λr4 p4=>(aaI p4.2).bind λr5 p5=>?_;refine(jN (P:=λx=>0<=x/\x<=65535) p5.2 (by decide) (by decide)).bind λr6 p6=>?_;rw[ak (n:=m+1)];refine(gK p6.2).bind λr7 p7=>(EE p7.2 r7.1).bind λr8 p8=>(tK p8.2 4).bind λr9 p9=>?_;have a1:=p1.1;have a7:=p7.1;have a8:=p8.1.2.1 a7.1 (by omega);rw[ak (n:=1000+r1.1)];refine Ends.cond (λ_=>Ends.pure ⟨⟨aeI (by omega) (by omega) (by omega),?_⟩,p9⟩) λ_=>Ends.pure ⟨⟨Vq (by omega) (by omega) p3.1 p4.1 p5.1 p6.1 (by omega),?_⟩,p9⟩;all_goals show(r8.1.length:Int)<=m
 all_goals omega
theorem abV {c:yo}(h:Cu c){m:Int}(h0:0<=m)(h1:m<=320):Ends (nU c m) λr=>(dG r.1=true/\(r.1.2.2.2.2.2.2.2.2.2.2.2.2.2.2.2.length:Int)<=m/\(r.1.2.2.2.2.2.2.2.2.1=6\/r.1.2.2.2.2.2.2.2.2.1=17))/\Cu r.2:=by
 unfold nU;refine(jN (P:=λx=>0<=x/\x<=281474976710655) h (by decide) (by decide)).bind λr1 p1=>?_;refine(jN (P:=λx=>0<=x/\x<=281474976710655) p1.2 (by decide) (by decide)).bind λr2 p2=>?_;refine(jN (P:=λx=> -1<=x/\x<=4095) p2.2 (by decide) (by decide)).bind λr3 p3=>?_;refine(jN (P:=λx=>0<=x/\x<=255) p3.2 (by decide) (by decide)).bind λr4 p4=>?_;refine(jN (P:=λx=>0<=x/\x<=65535) p4.2 (by decide) (by decide)).bind λr5 p5=>?_;refine(jN (P:=λx=>0<=x/\x<=255) p5.2 (by decide) (by decide)).bind λr6 p6=>?_;refine(adI p6.2).bind λr7 p7=>?_;refine(am4 p7.2 (m:=if 128<m then 128 else m) (by split<;>omega) (by split<;>omega)).bind λr8 p8=>?_;have hh:∀g:fO,td g=true->pY (r1.1,r2.1,r3.1,r4.1,r5.1,r6.1,r7.1,167772161,g)=true:=λg hg=>adG p1.1 p2.1 p3.1 p4.1 p5.1 p6.1 (by have:=p7.1;omega) (by omega) hg;have hk:∀g:fO,td g=true->g.1=6\/g.1=17:=by intro g hg;unfold td at hg;simp only[ae]at hg;have h2:=hg.2.2.2;cases h17:g.1==17 with|true=>exact Or.inr (by simpa using h17)|false=>rw[h17]at h2;simp only[af,ae]at h2;exact Or.inl (by simpa using h2.1)
 have hl:(r8.1.2.2.2.2.2.2.2.length:Int)<=128/\(r8.1.2.2.2.2.2.2.2.length:Int)<=m:=by have:=p8.1.2;split at this<;>omega
 have short:∀c':yo,Cu c'->Ends (some ((r1.1,r2.1,r3.1,r4.1,r5.1,r6.1,r7.1,(167772161:Int),r8.1),c')) λr:aI×yo=>(dG r.1=true/\(r.1.2.2.2.2.2.2.2.2.2.2.2.2.2.2.2.length:Int)<=m/\(r.1.2.2.2.2.2.2.2.2.1=6\/r.1.2.2.2.2.2.2.2.2.1=17))/\Cu r.2:=by intro c' hc';refine Ends.pure ⟨⟨?_,hl.2,hk _ p8.1.1⟩,hc'⟩;unfold dG;rw[hh _ p8.1.1,bq];have:decide ((r8.1.2.2.2.2.2.2.2.length:Int)<=128)=true:=au hl.1;show(decide ((r8.1.2.2.2.2.2.2.2.length:Int)<=128)||_)=true;rw[this,il]
 refine Ends.cond (λk1=>Ends.cond (λk2=>Ends.cond (λk3=>?_) λ_=>short _ p8.2) λ_=>short _ p8.2) λ_=>short _ p8.2;have k3:=bB k3;refine(tK p8.2 2).bind λr9 p9=>Ends.cond (λ_=>?_) λ_=>short _ p9;rw[ak (n:=m-128),ak (n:=m-128+1)];refine(gK p9).bind λr10 p10=>?_;have a10:=p10.1;rw[ak (n:=128+r10.1)];refine(EE p10.2 _).bind λr11 p11=>?_;have a11:=p11.1.2.1 (by omega) (by omega);have hs:=acf p8.1.1 (x:=r11.1) (by omega);refine Ends.pure ⟨⟨?_,by show(r11.1.length:Int)<=m;omega,Or.inl (by simpa using k1)⟩,p11.2⟩;unfold dG;rw[hh _ hs,bq];rw[LA _ (EA p8.1.1 k1)]at k2;show(_||(r8.1.1==6)&&B7 r8.1.2.2.2.2.2.1)=true;rw[k1,k2,cE,ik]
def Plain (p:aI):Prop:=pY p=true/\p.2.2.2.2.2.2.2.2.2.2.2.2.2.2.2.length<=40
theorem Plain.ok (h:Plain p):eK p=true:=(U0 p).2 ⟨h.1,by have:=h.2;omega⟩
theorem G9 {c:yo}(h:Cu c):Ends (nU c 40) λr=>Plain r.1/\Cu r.2:=(abV h (by omega) (by omega)).mono λr hr=>⟨⟨by have:=hr.1.1;unfold dG at this;simp only[ae]at this;exact this.1,by have:=hr.1.2.1;omega⟩,hr.2⟩
theorem ad8 {Q:R->Prop}{k0:aw aI->yo->aI->az R}{l:aw aI}{z:Int}{c:yo}(hl:l.length<=1000)(hc:Cu c)(hp:Plain p)(hk:∀c' p',Cu c'->Plain p'->Ends (k0 (l++[p]) c' p') Q):Ends (nW k0 l z n c p) Q:=by
 unfold nW;have hi:=ahF (LR hp.1);have hs:=zN hp.1;refine Ends.room (by simp;omega) (Ends.ifn (by decide) (Ends.cond (λh6=>?_) λ_=>hk _ _ hc ⟨BA hp.1 hi hs,hp.2⟩));have h6:p.2.2.2.2.2.2.2.2.1=6:=by simpa using h6
 refine(tK hc 8).bind λr hr=>Ends.cond (λ_=>Ends.ifn (by decide) (hk _ _ hr ⟨BA hp.1 hi ?_,hp.2⟩)) λ_=>hk _ _ hr ⟨BA hp.1 hi hs,hp.2⟩;have k:=ZL hs h6;have hlen:p.2.2.2.2.2.2.2.2.2.2.2.2.2.2.2.length<=320:=by have:=hp.2;omega
 exact MM hs h6 (aek k.2.2.1 hlen) k.2.2.2.2.1 hlen
theorem ad7 {Q:R->Prop}{k0:aw aI->yo->aI->az R}{l:aw aI}{z:Int}{c:yo}(hl:l.length<=1000)(hz:1<=z/\z<=40)(hc:Cu c)(hp:Plain p)(hk:∀q c' p',Plain q->Cu c'->Plain p'->Ends (k0 (l++[q]) c' p') Q):Ends (nV k0 l z n c p) Q:=by
 unfold nV;refine Ends.cond (λh6=>?_) λ_=>ad8 hl hc hp λc' p' h1 h2=>hk _ _ _ hp h1 h2;have h6:p.2.2.2.2.2.2.2.2.1=6:=by simpa using h6
 refine(jN (P:=λx=>0<=x/\x<=31) hc (by decide) (by decide)).bind λr8 p8=>(EE p8.2 z).bind λr9 p9=>?_;have a9:=p9.1.2.1 (by omega) (by omega);have hs:=zN hp.1;have hq:Plain (p.1,p.2.1,p.2.2.1,p.2.2.2.1,p.2.2.2.2.1,p.2.2.2.2.2.1,p.2.2.2.2.2.2.1,p.2.2.2.2.2.2.2.1,p.2.2.2.2.2.2.2.2.1,p.2.2.2.2.2.2.2.2.2.1,p.2.2.2.2.2.2.2.2.2.2.1,p.2.2.2.2.2.2.2.2.2.2.2.1,p.2.2.2.2.2.2.2.2.2.2.2.2.1,r8.1,p.2.2.2.2.2.2.2.2.2.2.2.2.2.2.1,r9.1):=⟨BA hp.1 (LR hp.1) (MM hs h6 (ZL hs h6).2.2.1 p8.1 (by omega)),by show r9.1.length<=40;omega⟩
 exact ad8 hl p9.2 hq λc' p' h1 h2=>hk _ _ _ hq h1 h2
theorem aio {Q:R->Prop}{k0:aw aI->Int->yo->aI->az R}{l:aw aI}{z:Int}{c:yo}(hl:l.length<=1000)(hz:1<=z/\z<=40)(hc:Cu c)(hp:Plain p)(hk:∀q z' c' p',Plain q->(1<=z'/\z'<=40)->Cu c'->Plain p'->Ends (k0 (l++[q]) z' c' p') Q):Ends (px k0 l z n c p) Q:=by unfold px;refine(tK hc 6).bind λr6 p6=>Ends.cond (λ_=>?_) λ_=>ad7 hl hz p6 hp λq c' p' h1 h2 h3=>hk _ _ _ _ h1 hz h2 h3;refine(gK p6 (by decide)).bind λr7 p7=>?_;have a7:=p7.1;rw[ak (n:=1+r7.1)];exact ad7 hl (by omega) p7.2 hp λq c' p' h1 h2 h3=>hk _ _ _ _ h1 (by omega) h2 h3
theorem aq7 {Q:R->Prop}{k0:aw aI->Int->Int->yo->aI->az R}{l:aw aI}{z:Int}{c:yo}(hl:l.length<=1000)(hz:1<=z/\z<=40)(hn:0<n/\n<=1000)(hc:Cu c)(hp:Plain p)(hk:∀q z' c' p',Plain q->(1<=z'/\z'<=40)->Cu c'->Plain p'->Ends (k0 (l++[q]) z' (n-1) c' p') Q):Ends (tY k0 l z n c p) Q:=by unfold tY;have e:ar (n-1)=n-1:=ak;refine(tK hc 5).bind λr4 p4=>Ends.cond (λ_=>?_) λ_=>?_;refine(G9 p4).bind λr5 p5=>aio hl hz p5.2 p5.1 λq z' c' p' h1 h2 h3 h4=>?_;unfold pw;rw[e];exact hk _ _ _ _ h1 h2 h3 h4;refine aio hl hz p4 hp λq z' c' p' h1 h2 h3 h4=>?_;unfold pw;rw[e];exact hk _ _ _ _ h1 h2 h3 h4
theorem ahB {c:yo}(h:Cu c){m:Int}(h0:0<m)(h1:m<=100):Ends (yQ c m) λr=>((∀p∈r.1,Plain p)/\0<r.1.length/\(r.1.length:Int)<=m)/\Cu r.2:=by unfold yQ;refine(G9 h).bind λr1 p1=>(gK p1.2 (by decide)).bind λr2 p2=>(gK p2.2 h0).bind λr3 p3=>?_;have a2:=p2.1;have a3:=p3.1;rw[ak (n:=r2.1*8),ak (n:=8+r2.1*8),ak (n:=1+r3.1)];refine Ends.yn (λx=>(∀p∈x.1,Plain p)/\(1<=x.2.1/\x.2.1<=40)/\0<=x.2.2.1/\(x.1.length:Int)+x.2.2.1=1+r3.1/\Cu x.2.2.2.1/\Plain x.2.2.2.2) (λx=>x.2.2.1.toNat) ⟨by simp,(by dsimp only;omega),(by dsimp only;omega),by simp,p3.2,p1.1⟩ (by simp;omega) λx nx hx hn=>?_;unfold yi;refine Ends.cond (λk=>?_) λk=>?_;have k:=bB k;refine aq7 (by omega) hx.2.1 (by omega) hx.2.2.2.2.1 hx.2.2.2.2.2 λq z' c' p' h1 h2 h3 h4=>hn _ ⟨?_,h2,?_,?_,h3,h4⟩ ?_;intro y hy;rcases ay.1 hy with hy|hy;exact hx.1 y hy;simp only[bE]at hy;rw[hy];exact h1;show 0<=x.2.2.1-1;omega;show((x.1++[q]).length:Int)+(x.2.2.1-1)=1+r3.1;have:=hx.2.2.2.1;simp;omega;show(x.2.2.1-1).toNat<x.2.2.1.toNat;omega;have k:=eu k;have:=hx.2.2.2.1;have:=hx.2.2.1;exact Ends.pure ⟨⟨hx.1,(by dsimp only;omega),(by dsimp only;omega)⟩,hx.2.2.2.2.1⟩
theorem ak5 {c:yo}(h:Cu c):Ends (Bc c) λr=>r.1.length=16/\Cu r.2:=by unfold Bc;exact(EE h 16).bind λr hr=>Ends.pure ⟨by have:=hr.1.2.1 (by omega) (by omega);omega,hr.2⟩
structure Aw (s:dJ):Prop where
 r:s.1.length<=100
 t:s.2.1.length<=100
 k:s.2.2.1.length=16
 p:s.2.2.2.length<=100
theorem S8 {c:yo}(h:Cu c):Ends (vT c) λr=>(r.1.1=2/\(r.1.2.2=[7]\/r.1.2.2=[]))/\Cu r.2:=by unfold vT;exact(tK h 4).bind λr1 p1=>(tK p1 2).bind λr2 p2=>Ends.cond (λ_=>Ends.pure ⟨⟨rfl,Or.inl rfl⟩,p2⟩) λ_=>Ends.pure ⟨⟨rfl,Or.inr rfl⟩,p2⟩
theorem amo:fY (so 38)=true:=by decide+kernel
def CV (f:Filter)(s:dJ)(c:Bool):aw Vector->Host
 |[]=>OB f s c 38
 |v::vs=>O2 ((CV f s c vs).1,(CV f s c vs).2.1,(CV f s c vs).2.2.1,(CV f s c vs).2.2.2.1++[((0,0,0,0),(0,0,0),(0,0,0),((0,0,0,0,0,0,0,0,0,0,0,0,0,0,0,([]:Bytes)),0,0),false,0)],(CV f s c vs).2.2.2.2.1++[(0,0,0,([]:bZ))],(CV f s c vs).2.2.2.2.2.1++[v],(CV f s c vs).2.2.2.2.2.2.1++[false],(CV f s c vs).2.2.2.2.2.2.2) vs.length
def adg (h:Host):=(h.1,h.2.1,h.2.2.1,h.2.2.2.1,h.2.2.2.2.1,h.2.2.2.2.2.1,h.2.2.2.2.2.2.1)
structure Made (f:Filter) (s:dJ) (c:Bool) (k:Nat) (h:Host):Prop where
 mem:db h.1=true
 ml:h.1.length=38
 maps:h.2.1=so 38
 tx:h.2.2.1=C2
 rx:h.2.2.2.1.length=k
 rxs:∀r∈h.2.2.2.1,Ar 0 r/\r.2.2.2.2.1=false
 pl:h.2.2.2.2.1.length=k
 pls:∀p∈h.2.2.2.2.1,dT p=true/\p.2.2.2.length<=1000
 vec:h.2.2.2.2.2.1.length=k
 vecs:∀v∈h.2.2.2.2.2.1,eY v=true
 pol:h.2.2.2.2.2.2.1.length=k
 rest:h.2.2.2.2.2.2.2=(f,s,([]:List Stream),c,([]:List Bytes),([]:List Int),([]:List Int),0,0,0,0,0)
 is:∃vs,vs.length=k/\h=CV f s c vs/\∀v∈vs,v.2.1<=3/\v.2.2.2.2.1=false
theorem Vv (l:aw α)(x y:α):(l++[x]).set l.length y=l++[y]:=by simp
theorem ahD {n:Nat}(h:n<=64):db (Au n)=true:=pL.2 ⟨λx hx=>by rw[(List.mem_replicate.1 hx).2];exact EF 128,by simp[Au];exact h⟩
theorem abp {f:Filter}{s:dJ}{c:Bool}(m:Made f s c k h)(hk:k<=8)(hv:eY v=true)(h3:v.2.1<=3/\v.2.2.2.2.1=false):Ends (vV (h.1,h.2.1,h.2.2.1,h.2.2.2.1++[((0,0,0,0),(0,0,0),(0,0,0),((0,0,0,0,0,0,0,0,0,0,0,0,0,0,0,([]:Bytes)),0,0),false,0)],h.2.2.2.2.1++[(0,0,0,([]:bZ))],h.2.2.2.2.2.1++[v],h.2.2.2.2.2.2.1++[false],h.2.2.2.2.2.2.2) (k:Int)) λr=>Made f s c (k+1) r.2:=by
 refine Ends.of (VC _ k hk (by simp[m.rx]) (by simp[m.pl]) (by show h.2.1.length<=_;rw[m.maps,BK];omega) (by show h.1.length<=_;rw[m.ml];omega)) ?_;have o:=O3 m.mem h.2.1 hk;have e1:(h.2.2.2.1++[(((0,0,0,0),(0,0,0),(0,0,0),((0,0,0,0,0,0,0,0,0,0,0,0,0,0,0,([]:Bytes)),0,0),false,0):cy)])[k]?=some ((0,0,0,0),(0,0,0),(0,0,0),((0,0,0,0,0,0,0,0,0,0,0,0,0,0,0,([]:Bytes)),0,0),false,0):=by rw[<-m.rx];simp
 have e2:∀y:cy,(h.2.2.2.1++[(((0,0,0,0),(0,0,0),(0,0,0),((0,0,0,0,0,0,0,0,0,0,0,0,0,0,0,([]:Bytes)),0,0),false,0):cy)]).set k y=h.2.2.2.1++[y]:=λy=>by rw[<-m.rx];exact Vv _ _ _
 have e3:∀y:dw,(h.2.2.2.2.1++[(((0,0,0,([]:bZ))):dw)]).set k y=h.2.2.2.2.1++[y]:=λy=>by rw[<-m.pl];exact Vv _ _ _
 obtain⟨vs,vl,ve,vb⟩:=m.is;have is0:O2 (h.1,h.2.1,h.2.2.1,h.2.2.2.1++[((0,0,0,0),(0,0,0),(0,0,0),((0,0,0,0,0,0,0,0,0,0,0,0,0,0,0,([]:Bytes)),0,0),false,0)],h.2.2.2.2.1++[(0,0,0,([]:bZ))],h.2.2.2.2.2.1++[v],h.2.2.2.2.2.2.1++[false],h.2.2.2.2.2.2.2) k=CV f s c (v::vs):=by rw[CV,<-ve,vl]
 unfold O2 at is0⊢;simp only[e1,e2,e3]at is0⊢;have hp:(sr h.2.1 h.1 k).2.2.1.2.2.2.length<=1000:=by unfold sr;exact bt (Ft ..) (oH _ _ _)
 refine⟨o.1,?_,m.maps,m.tx,by show(_++[_]).length=_;rw[ai,m.rx];rfl,?_,by show(_++[_]).length=_;rw[ai,m.pl];rfl,?_,by show(_++[_]).length=_;rw[ai,m.vec];rfl,?_,by show(_++[_]).length=_;rw[ai,m.pol];rfl,m.rest,⟨v::vs,by simp[vl],is0,λw hw=>?_⟩⟩;show(sr h.2.1 h.1 k).1.length=38;rw[O1,m.ml];intro r hr;rcases ay.1 hr with hr|hr;exact m.rxs r hr;rw[bE.1 hr];exact⟨Vp hk o.2.1 ⟨cK _,cK _⟩,rfl⟩;intro p hp';rcases ay.1 hp' with hp'|hp';exact m.pls p hp';rw[bE.1 hp'];exact⟨o.2.2,hp⟩;intro w hw;rcases ay.1 hw with hw|hw;exact m.vecs w hw;rw[bE.1 hw];exact hv;rcases bQ.1 hw with e|e;rw[e];exact h3;exact vb w e
structure IU (h:Host):Prop where
 Q9:Good 0 h
 sz:Ap 2000 h
 maps:∀m∈h.2.1,m.2.2.1<(h.1.length:Int)
 led:h.2.2.1.2.2.1=[]/\h.2.2.2.2.2.2.2.2.2.2.2.1=[]/\h.2.2.2.2.2.2.2.2.2.2.2.2.1=[]/\h.2.2.2.2.2.2.2.2.2.2.2.2.2.1=[]
 is:∃f s c vs,vs.length<=2/\adg h=adg (CV f s c vs)/\∀v∈vs,v.2.1<=3/\v.2.2.2.2.1=false
theorem Xw {f:Filter}{s:dJ}{c:Bool}(m:Made f s c k h)(hk:1<=k/\k<=2)(hf:eV f=true)(hf2:f.2.2.length<=1000)(hs:fb s (k:Int)=true)(hz:Aw s):IU h:=by have h4:=oH 256 128 8;obtain⟨vs,vl,ve,vb⟩:=m.is;obtain⟨m1,m2,m3,m4,m5,m6,m7,m8,m9,m10,m11,m12,_⟩:=m;obtain⟨mem,maps,tx,rx,pl,vec,pol,rest⟩:=h;simp only at m1 m2 m3 m4 m5 m6 m7 m8 m9 m10 m11 m12;subst m12 m3 m4;refine⟨⟨m1,amo,ago 0 (by omega),hf,?_,by show fb s (rx.length:Int)=true;rw[m5];exact hs,λr hr=>(m6 r hr).1,λp hp=>(m8 p hp).1,m10,?_⟩,⟨?_,?_⟩,?_,⟨rfl,rfl,rfl,rfl⟩,⟨f,s,c,vs,by omega,congrArg adg ve,vb⟩⟩;unfold sn;simp only[ae,aW,bm];omega;intro x hx;simp only[iL,bQ,List.not_mem_nil,or_false,or_self]at hx;omega;have hm:=(pL.1 m1).1;refine⟨⟨by show mem.length<=2000;omega,λx hx=>by show x.length<=2000;rw[hm x hx];omega⟩,⟨by show(so 38).length<=2000;rw[BK];omega,λ_ _=>⟨cx,cx,cx,cx⟩⟩,?_,?_,?_,?_,?_,⟨cx,cx,by show f.2.2.length<=2000;omega,λ_ _=>trivial⟩,?_,⟨cf _,λx hx=>by cases hx⟩,cx,⟨cf _,λx hx=>by cases hx⟩,⟨cf _,λx hx=>by cases hx⟩,⟨cf _,λx hx=>by cases hx⟩,cx,cx,cx,cx,cx⟩;exact⟨⟨cx,cx,cx,cx⟩,⟨cx,cx,cx,by show List.length (ig 256 128 8).1.2.2.2<=2000;omega,λ_ _=>trivial⟩,⟨cf _,λx hx=>by cases hx⟩,cx⟩;refine⟨by show rx.length<=2000;omega,λx hx=>?_⟩;have e:=(m6 x hx).1.free (m6 x hx).2;refine⟨⟨cx,cx,cx,cx⟩,⟨cx,cx,cx⟩,⟨cx,cx,cx⟩,?_,cx,cx⟩;rw[e];exact⟨⟨cx,cx,cx,cx,cx,cx,cx,cx,cx,cx,cx,cx,cx,cx,cx,cf _⟩,cx,cx⟩;exact⟨by show pl.length<=2000;omega,λx hx=>⟨cx,cx,cx,by have:=(m8 x hx).2;show x.2.2.2.length<=2000;omega,λ_ _=>trivial⟩⟩;exact⟨by show vec.length<=2000;omega,λx hx=>⟨cx,cx,cx,cx,cx,cx⟩⟩;exact⟨by show pol.length<=2000;omega,λx hx=>trivial⟩;exact⟨⟨by have:=hz.r;show s.1.length<=2000;omega,λ_ _=>⟨cx,cx,cx,cx,cx,cx,cx,cx,cx⟩⟩,⟨by have:=hz.t;show s.2.1.length<=2000;omega,λ_ _=>⟨cx,⟨cx,cx,cx,cx,cx⟩,cx⟩⟩,by have:=hz.k;show s.2.2.1.length<=2000;omega,by have:=hz.p;show s.2.2.2.length<=2000;omega,λ_ _=>trivial⟩;show List.length (ig 256 128 8).1.2.2.2+0<=2000;omega;intro m hm;have hm:m∈so 38:=hm;simp only[so,eF,bF]at hm;obtain⟨i,hi,rfl⟩:=hm;show 37-(i:Int)<(mem.length:Int);omega
theorem abI {a b:Int}(h:(qQ a b).2=true):eY (qQ a b).1=true:=by unfold qQ at h⊢;cases hv:eY (a,b,0,0,false,false)with|false=>rw[hv]at h;cases h|true=>exact hv
theorem aej {a b:Int}(h:(qQ a b).2=true)(hb:b<=3):(qQ a b).1.2.1<=3/\(qQ a b).1.2.2.2.2.1=false:=by unfold qQ at h⊢;cases hv:eY (a,b,0,0,false,false)with|false=>rw[hv]at h;cases h|true=>exact⟨hb,rfl⟩
theorem XI (q:Int)(f:Filter)(s:dJ)(c:Bool)(a b:Int)(hf:f.2.2.length<=1000)(hs:Aw s)(hb3:b<=3):Ends (rX q f s c a b) λr=>(r.2=true->IU r.1)/\((1<=q/\q<=2)->eV f=true->fb s q=true->(qQ a b).2=true->r.2=true):=by
 have z1:=hs.r;have z2:=hs.t;have z3:=hs.p;unfold rX;rw[MW,ab,dR,ab];refine Ends.bind (P:=λx=>(x=false->(1<=q/\q<=2)/\eV f=true/\fb s q=true/\(qQ a b).2=true)/\(x=true->(1<=q/\q<=2)->eV f=true->fb s q=true->(qQ a b).2=true->False)) ?_ λx hx=>Ends.cond (λhx2=>Ends.pure ⟨(λh=>by cases h),λg1 g2 g3 g4=>(hx.2 hx2 g1 g2 g3 g4).elim⟩) λh=>?_;refine Ends.cond (λk=>Ends.pure ⟨(λh=>by cases h),λ_ g1 _ _ _=>by rw[aW.2 g1]at k;cases k⟩) λh1=>?_;rw[Ct f (by omega),ab];refine Ends.cond (λk=>Ends.pure ⟨(λh=>by cases h),λ_ _ g2 _ _=>by rw[g2]at k;cases k⟩) λh2=>?_;rw[Ho s q (by omega) (by omega) (by omega),ab];refine Ends.cond (λk=>Ends.pure ⟨(λh=>by cases h),λ_ _ _ g3 _=>by rw[g3]at k;cases k⟩) λh3=>Ends.pure ⟨λh4=>?_,λk _ _ _ g4=>by rw[g4]at k;cases k⟩;exact⟨aW.1 (by simpa using h1),by simpa using h2,by simpa using h3,by simpa using h4⟩;obtain⟨hq,h1,h2,h3⟩:=hx.1 h;have hm:nS 38=some (Au 38):=MV 38;rw[hm,ab,Ps,ab,Ag f (by omega),ab,E7 s (by omega) (by omega) (by omega),ab];have hv:=abI h3;refine Ends.yn (λx=>0<=x.1/\x.1<=38/\x.2=OB f s c x.1.toNat) (λx=>(38-x.1).toNat) ⟨by simp,by simp,rfl⟩ (by simp) λx nx hx hn=>?_;obtain⟨i,y⟩:=x;obtain⟨x1,x2,x3⟩:=hx;simp only at x1 x2 x3;unfold pk;refine Ends.cond (λk=>?_) λk=>?_;have k:=bB k;have hl:=BK i.toNat;simp only at k;rw[dR,ab];simp only;rw[ak (n:=i+1),ak (n:=37-i)];subst x3;refine Ends.room (by show(so i.toNat).length+1<=_;omega) (hn _ ⟨by show 0<=i+1;omega,by show i+1<=38;omega,?_⟩ (by show(38-(i+1)).toNat<(38-i).toNat;omega));have e:(i+1).toNat=i.toNat+1:=by omega
 show(Au 38,so i.toNat++_,_)=OB f s c (i+1).toNat;rw[e];unfold OB;rw[Ml,show((i.toNat:Nat):Int)=i by omega];have k:=eu k;simp only at k;have e:i.toNat=38:=by omega
 rw[e]at x3;have hm0:Made f s c 0 y:=by rw[x3];exact⟨ahD (by omega),by show(Au 38).length=38;simp[Au],rfl,rfl,rfl,(λ_ hr=>by cases hr),rfl,(λ_ hr=>by cases hr),rfl,(λ_ hr=>by cases hr),rfl,rfl,⟨[],rfl,rfl,λ_ hv=>by cases hv⟩⟩
 simp only;refine Ends.yn (λx=>0<=x.1/\x.1<=q/\Made f s c x.1.toNat x.2) (λx=>(q-x.1).toNat) ⟨by simp,by show(0:Int)<=q;omega,hm0⟩ (by simp;omega) λx nx hx hn=>?_;obtain⟨i,y⟩:=x;obtain⟨x1,x2,m⟩:=hx;simp only at x1 x2 m;unfold nR;refine Ends.cond (λk=>?_) λk=>Ends.pure ⟨λ_=>?_,λ_ _ _ _=>rfl⟩;have k:=bB k;simp only at k;have l1:=m.rx;have l2:=m.pl;have l3:=m.vec;have l4:=m.pol;refine Ends.room (by simp;omega) (Ends.room (by simp;omega) (Ends.room (by simp;omega) (Ends.room (by simp;omega) ?_)));have ho:=abp m (by omega) hv (aej h3 hb3);rw[show((i.toNat:Nat):Int)=i by omega]at ho;refine ho.bind λr hr=>?_;simp only;rw[ak (n:=i+1)];refine hn _ ⟨by show 0<=i+1;omega,by show i+1<=q;omega,?_⟩ (by show(q-(i+1)).toNat<(q-i).toNat;omega);show Made f s c (i+1).toNat r.2;rw[show(i+1).toNat=i.toNat+1 by omega];exact hr;have k:=eu k;simp only at k;have hi:i=q:=by omega
 subst hi;exact Xw m (by omega) h1 hf (by rw[show((i.toNat:Nat):Int)=i by omega];exact h2) hs
def ai7 (a:Act):Prop:=a.2.1.2.2.2.2.2.2.2.2.2.2.2.2.2.2.2.length<=1000/\a.2.2.2.2.1.length<=382/\0<=a.1/\a.1<=6
theorem G1 (n x:Int)(h0:0<=n:=by omega)(h1:n<=1000000:=by omega):Ends (gv n x) λr=>(r.length:Int)=n:=by unfold gv;rw[aE ⟨h0,cK _⟩];refine Ends.room (by omega) (Ends.yn (λy=>(y.1.length:Int)=n/\0<=y.2/\y.2<=n) (λy=>(n-y.2).toNat) ⟨by simp;omega,by simp,h0⟩ (by simp;omega) λy nx hy hn=>?_);unfold pq;refine Ends.cond (λk=>?_) λk=>Ends.pure (by simp[aL];exact hy.1);have k:=bB k;rw[ak (n:=y.2+1)];refine Ends.idx hy.2.1 (by omega) λ_=>Ends.idx hy.2.1 (by omega) λ_=>hn _ ⟨?_,?_,?_⟩ ?_;show((List.set _ _ _).length:Int)=n;rw[aB];exact hy.1;show 0<=y.2+1;omega;show y.2+1<=n;omega;show(n-(y.2+1)).toNat<(n-y.2).toNat;omega
theorem Jj:tk=some (List.replicate 8 (0,(0,0,0,0,0),0)):=by unfold tk;rw[aE (by decide),aQ (by decide)];rfl
theorem Xr {k:Bytes}(hk:k.length=16):fb (([]:aw mA),List.replicate 8 (0,(0,0,0,0,0),0),k,[0]) 1=true:=by
 have ht:sG (List.replicate 8 (0,(0,0,0,0,0),0))=true:=by decide+kernel
 have hs:sg (k,[0]) 1=true:=by unfold sg;simp only[hk];decide+kernel
 unfold fb;rw[show yh ([]:aw mA)=true from rfl,ht,hs];rfl
structure aac (k:Int) (b:bL):Prop where
 Zt:b.1.1=k
 vl:b.1.2.2=[7]\/b.1.2.2=[]
 last:0<=b.2.1/\b.2.1<=4
 done:0<=b.2.2.2/\b.2.2.2<=3
theorem ajp {c:yo}(h:Cu c):Ends (Bd c) λr=>((r.1.1.2.2=[7]\/r.1.1.2.2=[])/\(0<=r.1.2.1/\r.1.2.1<=4)/\0<=r.1.2.2.2/\r.1.2.2.2<=3)/\Cu r.2:=by unfold Bd;refine(S8 h).bind λr1 p1=>(gK p1.2 (by decide)).bind λr2 p2=>(gK p2.2 (by decide)).bind λr3 p3=>(gK p3.2 (by decide)).bind λr4 p4=>Ends.pure ⟨⟨p1.1.2,?_,?_⟩,p4.2⟩;have:=p2.1;show 0<=r2.1/\r2.1<=4;omega;have:=p4.1;show 0<=r4.1/\r4.1<=3;omega
theorem Tr {P:Nat->α->Prop}{l:aw α}{a:α}(h:∀i b,l[i]?=some b->P i b)(ha:P l.length a):∀i b,(l++[a])[i]?=some b->P i b:=by
 intro i b hb;rcases cq i l.length with hi|hi;rw[bD hi]at hb;exact h i b hb;rw[bA hi]at hb;obtain⟨hj,hb⟩:=aC.1 hb;have e:i=l.length:=by simp at hj;omega
 subst e;simp at hb;rw[<-hb];exact ha
theorem ac9 {c:yo}(h:Cu c):Ends (xx c) λr=>((1<=r.1.length/\r.1.length<=3)/\∀(i:Nat)(b:bL),r.1[i]?=some b->aac (2*((i:Int)+1)) b)/\Cu r.2:=by unfold xx;refine(gK h (n:=3) (by decide)).bind λr1 p1=>?_;have hp:=p1.1;rw[ak (n:=1+r1.1)];refine Ends.yn (λx=>0<=x.2.1/\(x.1.length:Int)+x.2.1=1+r1.1/\(∀(i:Nat)(b:bL),x.1[i]?=some b->aac (2*((i:Int)+1)) b)/\Cu x.2.2) (λx=>x.2.1.toNat) ⟨by show 0<=1+r1.1;omega,by simp,by intro i b hb;simp at hb,p1.2⟩ (by show(1+r1.1).toNat<=_;omega) λx nx hx hn=>?_;obtain⟨l,n,c'⟩:=x;obtain⟨x1,x2,x3,x4⟩:=hx;simp only at x1 x2 x3 x4;unfold wJ;refine Ends.cond (λk=>?_) λk=>?_;have k:=bB k;simp only at k⊢;refine(ajp x4).bind λr2 p2=>Ends.room (by simp;omega) ?_;rw[ak (n:=(l.length:Int)+1),ak (n:=2*((l.length:Int)+1)),ak (n:=n-1)];refine hn _ ⟨by show 0<=n-1;omega,by show((l++[_]).length:Int)+(n-1)=_;simp;omega,Tr x3 ⟨rfl,p2.1.1,p2.1.2.1,p2.1.2.2⟩,p2.2⟩ (by show(n-1).toNat<n.toNat;omega);have k:=eu k;simp only at k⊢;exact Ends.pure ⟨⟨⟨by show 1<=l.length;omega,by show l.length<=3;omega⟩,x3⟩,x4⟩
theorem aaS {v:Int}{b:Bytes}:(dX v b).1.length<=96:=by unfold dX;cases hq:cX v 0 1000000&&decide (b.length<=84)with|false=>simp|true=>simp only[ae,aH]at hq;show(Re v b).length<=96;unfold Re;have h4:∀v,(gk v).length<=4:=dS;have a:=h4 v;have b1:=h4 (b.length:Int);have c:=h4 (IZ ((gk v++gk (b.length:Int))++b));simp only[ai];omega
theorem LW {c:yo}(h:Cu c):Ends (tq c) λr=>r.1.length<=96/\Cu r.2:=by unfold tq;refine(jN (P:=λ_=>True) h (by decide) (by simp)).bind λr1 p1=>(gK p1.2 (by decide)).bind λr2 p2=>(EE p2.2 r2.1).bind λr3 p3=>?_;rw[MU _ _ (by have:=p3.1.1;omega),ab];exact Ends.pure ⟨aaS,p3.2⟩
theorem WL {c:yo}(h:Cu c):Ends (xv c) λr=>(r.1.length=2/\∀x∈r.1,x.length=96)/\Cu r.2:=by
 unfold xv;refine Ends.yn (λx=>0<=x.1/\x.1<=2/\(x.2.2.length:Int)=x.1/\(∀y∈x.2.2,y.length=96)/\Cu x.2.1) (λx=>(2-x.1).toNat) ⟨by simp,by simp,by simp,by simp,h⟩ (by simp) λx nx hx hn=>?_;obtain⟨i,c',l⟩:=x;obtain⟨x1,x2,x3,x4,x5⟩:=hx;simp only at x1 x2 x3 x4 x5;unfold wF;refine Ends.cond (λk=>?_) λk=>?_;have k:=bB k;simp only at k⊢;refine(LW x5).bind λr1 p1=>(tK p1.2 _).bind λr2 p2=>?_;have fin:∀(s t:Bytes)(c2:yo),s.length+t.length=96->Cu c2->Ends (Go.Dn.room (List.length s+List.length t) (Go.Dn.room (List.length l+List.length [(s++t)]) (nx (ar (i+1),c2,l++[(s++t)])))) (λr=>(r.1.length=2/\∀x∈r.1,x.length=96)/\Cu r.2):=by intro s t c2 hs hc;refine Ends.room (by omega) (Ends.room (by simp;omega) ?_);rw[ak (n:=i+1)];refine hn _ ⟨by show 0<=i+1;omega,by show i+1<=2;omega,by show((l++[_]).length:Int)=i+1;simp;omega,?_,hc⟩ (by show(2-(i+1)).toNat<(2-i).toNat;omega);intro y hy;rcases ay.1 hy with hy|hy;exact x4 y hy;rw[bE.1 hy,ai];exact hs
 refine Ends.cond (λ_=>?_) λ_=>?_;refine(EE p2 30).bind λr3 p3=>?_;have e:=p3.1.2.1 (by omega) (by omega);rw[ak (n:=96-(r3.1.length:Int))];exact(G1 _ 255).bind λr4 p4=>fin _ _ _ (by omega) p3.2;have e:=p1.1;rw[ak (n:=96-(r1.1.length:Int))];exact(G1 _ 255).bind λr4 p4=>fin _ _ _ (by omega) p2;have k:=eu k;simp only at k⊢;exact Ends.pure ⟨⟨by show l.length=2;omega,x4⟩,x5⟩
theorem NO {f:Filter}{s:dJ}{c:Bool}{a b:Int}(hf:f.2.2.length<=1000)(hs:Aw s)(hb3:b<=3)(h:(nH f s c a b).2=true):IU (nH f s c a b).1/\(nH f s c a b).1.2.2.2.2.2.2.2.1=f:=by refine⟨?_,?_⟩;obtain⟨x,e,hx⟩:=XI 1 f s c a b hf hs hb3;rw[Jv f s c a b (by omega) (by have:=hs.r;omega) (by have:=hs.t;omega) (by have:=hs.p;omega)]at e;have e:=cc e;rw[e]at h⊢;exact hx.1 h;unfold nH at h⊢;cases hq:eV f&&(fb s 1&&(qQ a b).2)with|true=>rfl|false=>rw[hq]at h;cases h
def zX (bk:tt)(n:Nat):aw aS:=(List.range n).map λ(i:Nat)=>((i:Int),(i:Int)+1,bk,true,0,0)
theorem zY (bk:tt)(n:Nat):(zX bk n).length=n:=by simp[zX]
theorem UW (bk:tt)(n:Nat):zX bk (n+1)=zX bk n++[((n:Int),(n:Int)+1,bk,true,0,0)]:=by simp[zX,gJ]
theorem FN (bk:tt){n:Nat}(h:i<n):(zX bk n).getD i HV=((i:Int),(i:Int)+1,bk,true,0,0):=by rw[cG (by rw[zY];exact h)];simp[zX]
structure F7 (c:dh):Prop where
 ports:(dm c.2.2.1).2=true
 box:∀(i:Nat)(b:bL),c.2.2.1[i]?=some b->aac (2*((i:Int)+1)) b
 len:c.1.length=c.2.2.1.length
 host:∀(i:Nat)(h:Host)(b:bL),c.1[i]?=some h->c.2.2.1[i]?=some b->IU h/\h.2.2.2.2.2.2.2.1=b.1
 fns:∃bk,iq bk=true/\c.2.1=zX bk c.2.2.1.length
 flash:c.2.2.2.1.length=2/\∀x∈c.2.2.2.1,x.length=96
 boot:¬gZ c.2.2.2.1<0
 clock:qx c.2.2.2.2.1=true
 rest:c.2.2.2.2.2=(([]:List Int),([]:List Bytes))
theorem F7.Q9 (d:F7 c):gz 4 c:=by
 obtain⟨bk,hb,hf⟩:=d.fns;have p:=nJ d.ports;refine⟨d.ports,⟨d.len,by rw[hf,zY]⟩,?_,d.boot,d.clock,λi h b h1 h2=>⟨(d.host i h b h1 h2).1.Q9.mono,(d.host i h b h1 h2).2⟩,?_,?_,?_⟩;unfold hG;rw[p.1,p.2.2.1,bq,aG,hf,zY];intro i hi;have hi:=bF.1 hi;unfold fnB;rw[FN bk hi,p.2.1,ae];refine⟨?_,?_⟩;unfold CU;simp only[hb,ae,aW,bq];rw[ak];push_cast;refine⟨⟨by omega,by omega⟩,⟨by omega,by omega⟩,⟨by decide,by decide⟩,by decide,by decide⟩;rw[aG];intro j hj;have hj:=bF.1 hj;rw[FN bk (by omega)];unfold aaL;simp only[aJ,cr,cl,ne_eq];omega;intro i hi;unfold yg;rw[hf,FN bk (by rw[<-d.len];exact hi)];simp;·intro b hb;obtain⟨i,hi⟩:=List.getElem?_of_mem hb;have q:=d.box i b hi;exact⟨q.last.2,by have:=q.done.2;omega⟩
 intro f hh;rw[hf]at hh;simp only[zX,eF]at hh;obtain⟨i,_,rfl⟩:=hh;exact⟨by show(0:Int)<=4;omega,by show(0:Int)<=4;omega⟩
theorem Zz {st:dJ}(hs:Aw st){cb:Bool}{bk:tt}{f:bO}{t:Int}{ms:aw bL}(hm:∀m∈ms,m.1.2.2.length<=1000):∀(l:aw bL)(k:Nat)(s:aw Host×aw aS),k<=ms.length->ms.drop k=l->s.1.length=k->s.2=zX bk k->(∀(i:Nat)(h:Host)(b:bL),s.1[i]?=some h->ms[i]?=some b->IU h/\h.2.2.2.2.2.2.2.1=b.1)->∀x,Bq (NN st cb bk) (λs=>some ((s.1,s.2,ms,f,(0,0,t,0),([]:bZ),([]:bO)),true)) l s=some (x,true)->
 ∃hs',x=(hs',zX bk ms.length,ms,f,(0,0,t,0),([]:bZ),([]:bO))/\hs'.length=ms.length/\∀(i:Nat)(h:Host)(b:bL),hs'[i]?=some h->ms[i]?=some b->IU h/\h.2.2.2.2.2.2.2.1=b.1
 |[],k,s,hk,hd,h1,h2,h3,x,hx=>by
  have e:k=ms.length:=by have:=aK (i:=k) (l:=ms);rw[hd]at this;simp at this;omega
  subst e;rw[Bq]at hx;have hx:=(Prod.mk.inj (cc hx)).1;exact⟨s.1,by rw[<-hx,h2],h1,h3⟩
 |y::l,k,s,hk,hd,h1,h2,h3,x,hx=>by
  have hlt:k<ms.length:=by have:=aK (i:=k) (l:=ms);rw[hd]at this;simp at this;omega
  have hy:=ca hlt;rw[hd]at hy;obtain⟨e1,e2⟩:=List.cons.inj hy;rw[Bq]at hx;unfold NN at hx;by_cases hb:(nH y.1 st cb 1 2).2=true;rw[aE hb]at hx;simp only at hx;have hf:=NO (by rw[e1];exact hm _ (aN hlt)) hs (by omega) hb;refine Zz hs hm l (k+1) _ (by omega) e2.symm (by simp[h1]) ?_ ?_ x hx;show s.2++[((s.2.length:Int),(s.2.length:Int)+1,bk,true,0,0)]=_;rw[h2,zY,UW];intro i h b g1 g2;refine Tr (P:=λi h=>∀b,ms[i]?=some b->IU h/\h.2.2.2.2.2.2.2.1=b.1) (λi h g b g'=>h3 i h b g g') (λb g=>?_) i h g1 b g2;rw[h1,al hlt,<-e1]at g;rw[<-cc g];exact hf;rw[aD hb]at hx;simp at hx
theorem OZ {cb:Bool}{bk:tt}{t:Int}{x:dh}(hs:Aw st)(hm:∀(i:Nat)(b:bL),ms[i]?=some b->aac (2*((i:Int)+1)) b)(hf:f.length=2/\∀y∈f,y.length=96)(h:vD ms st cb bk f t=some (x,true)):F7 x:=by
 unfold vD at h;cases hq:(dm ms).2&&(iq bk&&(!decide (gZ f<0)&&qx (0,0,t,0)))with
 |false=>rw[hq]at h;simp[adb]at h
 |true=>
  rw[hq,ah]at h;simp only[ae,aJ,cY]at hq;have hl:∀m∈ms,m.1.2.2.length<=1000:=by intro m hmm;obtain⟨i,hi⟩:=List.getElem?_of_mem hmm;rcases(hm i m hi).vl with e|e<;>rw[e]<;>simp
  obtain⟨hs',e,e1,e2⟩:=Zz hs hl ms 0 ([],[]) (by omega) rfl rfl rfl (λi h b g=>by simp at g) x h;rw[e];exact⟨hq.1,hm,e1,e2,⟨bk,hq.2.1,rfl⟩,hf,hq.2.2.1,hq.2.2.2,rfl⟩
theorem ZA (st:dJ)(cb:Bool)(bk:tt)(F:aw Host×aw aS->dh×Bool):∀(l:aw bL)(s:aw Host×aw aS),∃r,Bq (NN st cb bk) (λs=>some (F s)) l s=some r
 |[],s=>⟨_,rfl⟩
 |y::l,s=>by rw[Bq];unfold NN;by_cases hb:(nH y.1 st cb 1 2).2=true;rw[aE hb];exact ZA st cb bk F l _;rw[aD hb];exact⟨_,rfl⟩
theorem UU (ms:aw bL)(st:dJ)(cb:Bool)(bk:tt)(f:bO)(t:Int):∃r,vD ms st cb bk f t=some r:=by unfold vD;cases (dm ms).2&&(iq bk&&(!decide (gZ f<0)&&qx (0,0,t,0)))with|false=>exact⟨_,rfl⟩|true=>exact ZA st cb bk _ ms _
theorem Zy (st:dJ)(cb:Bool)(bk:tt)(F:aw Host×aw aS->dh):∀(l:aw bL)(s:aw Host×aw aS),(∀y∈l,(nH y.1 st cb 1 2).2=true)->∃x,Bq (NN st cb bk) (λs=>some (F s,true)) l s=some (x,true)
 |[],s,_=>⟨_,rfl⟩
 |y::l,s,h=>by rw[Bq];unfold NN;rw[aE (h y (List.mem_cons_self ..))];exact Zy st cb bk F l _ λz hz=>h z (eR _ hz)
theorem Pp (hs:Aw st)(hm:∀(i:Nat)(b:bL),ms[i]?=some b->aac (2*((i:Int)+1)) b)(hl:ms.length<=3)(hf:f.length=2)(cb:Bool)(bk:tt)(t:Int):rV ms st cb bk f t=vD ms st cb bk f t:=by refine VB ms st cb bk f t (by omega) (λm hh=>?_) (by omega) (by have:=hs.r;omega) (by have:=hs.t;omega) (by have:=hs.p;omega);obtain⟨i,hi⟩:=List.getElem?_of_mem hh;rcases(hm i m hi).vl with e|e<;>rw[e]<;>simp
theorem ar4 {Q:R->Prop}{k0:yo->az R}{k1:yo->dh->az R}{v:Int}{c:yo}(hs:Aw st)(hc:Cu c)(hk0:∀c',Cu c'->Ends (k0 c') Q)(hk1:∀c' x,Cu c'->F7 x->Ends (k1 c' x) Q):Ends (qW k0 k1 v c b2 st) Q:=by unfold qW;refine(jN (P:=λ_=>True) hc (by decide) (by simp)).bind λr4 p4=>(jN (P:=λ_=>True) p4.2 (by decide) (by simp)).bind λr5 p5=>(ac9 p5.2).bind λr6 p6=>(gK p6.2 (by decide)).bind λr7 p7=>(WL p7.2).bind λr8 p8=>(jN (P:=λ_=>True) p8.2 (by decide) (by simp)).bind λr9 p9=>?_;rw[Pp hs p6.1.2 p6.1.1.2 p8.1.1];obtain⟨⟨x,ok⟩,e⟩:=UU r6.1 st (decide (r7.1>0)) (r4.1,2000,r5.1) r8.1 r9.1;rw[e,ab];refine Ends.cond (λk=>?_) λ_=>hk0 _ p9.2;have k:ok=true:=k;subst k;exact hk1 _ _ p9.2 (OZ hs p6.1.2 p8.1 e)
theorem avY {Q:R->Prop}{k0:Int->yo->az R}{k1:yo->dh->az R}{v:Int}{c:yo}(hv:0<=v/\v<=100)(hc:Cu c)(hk0:∀c',Cu c'->Ends (k0 (v+1) c') Q)(hk1:∀c' x,Cu c'->F7 x->Ends (k1 c' x) Q):Ends (vW k0 k1 v c b2) Q:=by
 unfold vW;simp only[Jj,ab];refine(ak5 hc).bind λr2 p2=>(tK p2.2 4).bind λr3 p3=>?_;have k3:∀c',Cu c'->Ends (qV (λy12=>k0 y12 c') v c' b2) Q:=by intro c' hc';unfold qV;rw[ak];exact hk0 _ hc'
 refine Ends.cond (λ_=>ar4 ⟨by simp,by simp,p2.1,by simp⟩ p3 k3 λc' x h1 h2=>hk1 _ _ h1 h2) λ_=>ar4 ⟨by simp,by simp,p2.1,by simp⟩ p3 k3 λc' x h1 h2=>hk1 _ _ h1 h2
theorem aao {t u:Bytes}(ht:t.length=84)(hu:u.length=96):¬gZ [(dX 1 []).1++t,u]<0:=by
 have e:(dX 1 []).1=[0,0,0,1,0,0,0,0]++gk (IZ [0,0,0,1,0,0,0,0]):=by decide+kernel
 have el:(dX 1 []).1.length=12:=by rw[e];decide+kernel
 have hv:gO ((dX 1 []).1++t)=1:=by
  have g:∀a:Nat,a+4<=12->eO ((dX 1 []).1++t) (a:Int)=eO (dX 1 []).1 (a:Int):=by
   intro a ha;unfold eO ft bX;rw[au (by rw[ai,el];omega),au (by rw[el];omega)];have b:∀i,i<12->((dX 1 []).1++t).getD i 0=(dX 1 []).1.getD i 0:=by intro i hi;rw[bN,bN,bD (by omega)]
   simp only[ax];rw[b a (by omega),b (a+1) (by omega),b (a+2) (by omega),b (a+3) (by omega)]
  have g0:eO ((dX 1 []).1++t) 0=1:=(g 0 (by omega)).trans (by decide+kernel);have g4:eO ((dX 1 []).1++t) 4=0:=(g 4 (by omega)).trans (by decide+kernel);unfold gO;rw[g4,aE (by rw[ai,el];omega)];unfold acL;have t1:(((dX 1 []).1++t).take (8+(0:Int).toNat)).drop 8=[]:=by rw[df (by rw[aV];simp;omega)]
  have t2:((dX 1 []).1++t).take (12+(0:Int).toNat)=(dX 1 []).1:=by rw[List.take_left' (by rw[el];rfl)]
  rw[t1,t2,g0];have o:(dX 1 []).2=true:=by decide+kernel
  rw[o,beq_self_eq_true];rfl
 unfold gZ;have hf:jT [(dX 1 []).1++t,u]=true:=by unfold jT;show((((2:Nat):Int)==2)&&(((((dX 1 []).1++t).length:Int)==96)&&((u.length:Int)==96)))=true;rw[ai,el,ht,hu];rfl
 rw[hf,ah];have h0:List.getD [(dX 1 []).1++t,u] 0 []=(dX 1 []).1++t:=rfl;rw[h0,hv];split;omega;split<;>omega
theorem aeh {c:yo}(h:Cu c):Ends (Be c) λr=>F7 r.1/\Cu r.2:=by
 unfold Be;refine Ends.yn (λx=>0<=x.1/\x.1<=4/\Cu x.2) (λx=>(4-x.1).toNat) ⟨by simp,by simp,h⟩ (by simp) λx nx hx hn=>?_;obtain⟨i,c'⟩:=x;obtain⟨x1,x2,x3⟩:=hx;simp only at x1 x2 x3;unfold Ak;refine Ends.cond (λk=>?_) λk=>?_;have k:=bB k;simp only at k⊢;exact avY ⟨by omega,by omega⟩ x3 (λc2 h2=>hn _ ⟨by show 0<=i+1;omega,by show i+1<=4;omega,h2⟩ (by show(4-(i+1)).toNat<(4-i).toNat;omega)) λc2 y h2 d=>Ends.pure ⟨d,h2⟩;have el:(dX 1 []).1.length=12:=by decide+kernel
 simp only[MU 1 [] (by simp),ab];rw[el,ak (n:=96-((12:Nat):Int))];refine(G1 _ 255).bind λr26 p26=>Ends.room (by omega) ((G1 96 255).bind λr27 p27=>?_);simp only[Jj,ab];refine(G1 16 5).bind λr29 p29=>?_;have hs:Aw (([]:aw mA),List.replicate 8 (0,(0,0,0,0,0),0),r29,[0]):=⟨by simp,by simp,by show r29.length=16;omega,by simp⟩
 have hm:∀(j:Nat)(b:bL),([((2,false,([]:bZ)),0,0,0),((4,false,([]:bZ)),0,0,0)]:aw bL)[j]?=some b->aac (2*((j:Int)+1)) b:=by intro j b hb;match j with|0=>have e:=cc hb;rw[<-e];exact⟨rfl,Or.inr rfl,⟨by decide,by decide⟩,by decide,by decide⟩|1=>have e:=cc hb;rw[<-e];exact⟨rfl,Or.inr rfl,⟨by decide,by decide⟩,by decide,by decide⟩|j+2=>simp at hb
 have hb:=aao (t:=r26) (u:=r27) (by omega) (by omega);rw[Pp hs hm (by simp) rfl];have e:∃x,vD ([((2,false,([]:bZ)),0,0,0),((4,false,([]:bZ)),0,0,0)]:aw bL) (([]:aw mA),List.replicate 8 (0,(0,0,0,0,0),0),r29,[0]) true (100,2000,1000) [(dX 1 []).1++r26,r27] 1048576=some (x,true):=by
  unfold vD;have p1:(dm [((2,false,([]:bZ)),0,0,0),((4,false,([]:bZ)),0,0,0)]).2=true:=by decide+kernel
  have p2:iq (100,2000,1000)=true:=by decide+kernel
  have p3:qx (0,0,1048576,0)=true:=by decide+kernel
  rw[p1,p2,p3,aq hb];refine Zy _ _ _ _ _ _ λy hy=>?_;have hst:=Xr (k:=r29) (by omega);have hv:(qQ 1 2).2=true:=by decide+kernel
  have hf:eV y.1=true:=by rcases bQ.1 hy with e|hy;rw[e];decide+kernel;rw[bE.1 hy];decide+kernel
  unfold nH;rw[hf,hst,hv];rfl
 obtain⟨x,e⟩:=e;rw[e,ab];refine Ends.pure ⟨OZ hs hm ⟨rfl,?_⟩ e,x3⟩;intro y hy;rcases bQ.1 hy with e|hy;rw[e,ai,el];omega;rw[bE.1 hy];omega
abbrev abZ:aI:=(0,0,0,0,0,0,0,0,0,0,0,0,0,0,0,([]:Bytes))
structure pW (n:Int) (a:ej):Prop where
 kind:0<=a.1/\a.1<=2
 fn:0<=a.2.1/\a.2.1<n
 act:ai7 a.2.2.1
 ok:EG a.2.2.1=true
 msg:0<=a.2.2.2.1.1/\a.2.2.2.1.1<=6
 img:a.2.2.2.2.1.length<=96
 part:0<=a.2.2.2.2.2/\a.2.2.2.2.2<=100
theorem pW.put (h:pW n a){x:Act}(h1:ai7 x)(h2:EG x=true):pW n (a.1,a.2.1,x,a.2.2.2):=⟨h.kind,h.fn,h1,h2,h.msg,h.img,h.part⟩
theorem aag (p:aI)(s c:Int):EG (0,p,s,c,([]:Bytes),0)=true:=rfl
theorem KD (b:Int):EG (5,abZ,0,0,([]:Bytes),b)=true:=rfl
theorem aaf {f:Bytes}(h:f.length<=600):EG (2,abZ,0,0,f,0)=true:=by unfold EG acY;simp only[ab];rw[show cX (2:Int) 0 6=true from aW.2 ⟨by omega,by omega⟩,iw];rfl
theorem uk {k:Int}(h:k=1\/k=3\/k=4\/k=6\/k=0:=by omega):EG (k,abZ,0,0,([]:Bytes),0)=true:=by rcases h with rfl|rfl|rfl|rfl|rfl<;>rfl
theorem pE {k b:Int}(h:0<=k/\k<=6:=by omega):ai7 (k,abZ,0,0,([]:Bytes),b):=⟨by simp,by simp,h.1,h.2⟩
theorem Jm {c:yo}(h:Cu c)(p:aI)(hn:0<=n/\n<=100):Ends (qX c p n) λr=>((0<=r.1.1/\r.1.1<=281474976710655)/\(r.1.2.1=99\/r.1.2.1=2*(n+1))/\r.1.2.2=p.2.2)/\Cu r.2:=by unfold qX;rw[ak (n:=n+1),ak (n:=2*(n+1))];refine(tK h 12).bind λr1 p1=>Ends.cond (λ_=>(jN (P:=λx=>0<=x/\x<=281474976710655) p1 (by decide) (by decide)).bind λr2 p2=>Ends.pure ⟨⟨p2.1,Or.inl rfl,rfl⟩,p2.2⟩) λ_=>(jN (P:=λx=>0<=x/\x<=281474976710655) p1 (by decide) (by decide)).bind λr2 p2=>Ends.pure ⟨⟨p2.1,Or.inr rfl,rfl⟩,p2.2⟩
theorem XA {c:yo}(h:Cu c):Ends (ua c) λr=>(0<=r.1.1/\r.1.1<=6)/\Cu r.2:=by unfold ua;refine(gK h (by decide)).bind λr1 p1=>(jN (P:=λ_=>True) p1.2 (by decide) (by simp)).bind λr2 p2=>(jN (P:=λ_=>True) p2.2 (by decide) (by simp)).bind λr3 p3=>Ends.pure ⟨?_,p3.2⟩;have:=p1.1;show 0<=r1.1/\r1.1<=6;omega
theorem KE {l:aw ej}(h:pW n a):∀y∈l++[a],y∈l\/pW n y:=by intro y hy;rcases ay.1 hy with hy|hy;exact Or.inl hy;rw[bE.1 hy];exact Or.inr h
theorem c25 {Q:R->Prop}{k0:aw ej->yo->ej->az R}{v10 v30:Int}{v63:Bool}{l:aw ej}{ps:aw aI}{c:yo}(hl:l.length<=1000)(hp:∀p∈ps,Plain p)(h9:0<=v9/\v9<(ps.length:Int))(h10:0<=v10/\v10<=100)(hc:Cu c)(ha:pW v1 a)(hk:∀l' c' a',l'.length<=l.length+1->(∀y∈l',y∈l\/pW v1 y)->Cu c'->pW v1 a'->Ends (k0 l' c' a') Q):Ends (jk k0 v1 v2 l ps v9 v10 v30 v63 c a) Q:=by have same:∀c' a',Cu c'->pW v1 a'->Ends (k0 l c' a') Q:=λc' a' h1 h2=>hk l c' a' (by omega) (λy hy=>Or.inl hy) h1 h2;unfold jk;refine Ends.cond (λ_=>?_) λ_=>?_;refine Ends.idx h9.1 h9.2 λhi=>(Jm hc _ h10).bind λr8 p8=>(gK p8.2 (by decide)).bind λr9 p9=>(jN (P:=λ_=>True) p9.2 (by decide) (by simp)).bind λr10 p10=>Ends.room (by simp;omega) ?_;refine hk _ _ _ (by simp) (KE (ha.put ⟨?_,by simp,by simp,by simp⟩ (aag ..))) p10.2 (ha.put (pE) (uk));show r8.1.2.2.2.2.2.2.2.2.2.2.2.2.2.2.2.length<=1000;rw[p8.1.2.2];have:=(hp _ (aN hi)).2;omega;refine Ends.cond (λ_=>same _ _ hc (ha.put (pE) (uk))) λ_=>?_;refine Ends.cond (λ_=>(gK hc (by decide)).bind λr11 p11=>same _ _ p11.2 (ha.put (pE) (KD _))) λ_=>?_;refine Ends.cond (λ_=>same _ _ hc (ha.put (pE) (uk))) λ_=>?_;refine Ends.cond (λ_=>(XA hc).bind λr12 p12=>same _ _ p12.2 ⟨by simp,ha.fn,ha.act,ha.ok,p12.1,ha.img,ha.part⟩) λ_=>?_;refine Ends.cond (λ_=>(tK hc 2).bind λr13 p13=>Ends.cond (λ_=>?_) λ_=>same _ _ p13 (ha.put (pE) (uk))) λ_=>same _ _ hc ha;refine(LW p13).bind λr14 p14=>(gK p14.2 (by decide)).bind λr15 p15=>same _ _ p15.2 ⟨by simp,ha.fn,pE,uk,ha.msg,p14.1,?_⟩;have:=p15.1;show 0<=r15.1/\r15.1<=100;omega
theorem c19 {Q:R->Prop}{k0:aw ej->yo->ej->az R}{v10 v30:Int}{v46:Bool}{l:aw ej}{ps:aw aI}{c:yo}(hl:l.length<=1000)(hp:∀p∈ps,Plain p)(h9:0<=v9/\v9<(ps.length:Int))(h10:0<=v10/\v10<=100)(hc:Cu c)(ha:pW v1 a)(hk:∀l' c' a',l'.length<=l.length+1->(∀y∈l',y∈l\/pW v1 y)->Cu c'->pW v1 a'->Ends (k0 l' c' a') Q):Ends (jj k0 v1 v2 l ps v9 v10 v30 v46 c a) Q:=by unfold jj;refine Ends.cond (λ_=>?_) λ_=>?_;refine Ends.idx h9.1 h9.2 λhi=>(Jm hc _ (n:=5) (by omega)).bind λr5 p5=>?_;have hf:=En r5.1;rw[acp,ab];exact hk l _ _ (by omega) (λy hy=>Or.inl hy) p5.2 (ha.put ⟨by simp,hf,by simp,by simp⟩ (aaf (by omega)));exact Ends.cond (λ_=>c25 hl hp h9 h10 hc ha hk) λ_=>Ends.cond (λ_=>c25 hl hp h9 h10 hc ha hk) λ_=>Ends.cond (λ_=>c25 hl hp h9 h10 hc ha hk) λ_=>c25 hl hp h9 h10 hc ha hk
theorem c37 {Q:R->Prop}{k0:aw ej->yo->az R}{l:aw ej}{ps:aw aI}{c:yo}(hl:l.length<=1000)(h1:0<v1)(hc:Cu c)(ha:pW v1 a)(hk:∀l' c',l'.length<=l.length+3->(∀y∈l',y∈l\/pW v1 y)->Cu c'->Ends (k0 l' c') Q):Ends (jl k0 v1 v2 l ps v9 c a) Q:=by unfold jl;refine Ends.room (by simp;omega) ((tK hc 2).bind λr31 p31=>Ends.cond (λ_=>(gK p31 h1).bind λr32 p32=>Ends.room (by simp;omega) (Ends.room (by simp;omega) (hk _ _ (by simp) ?_ p32.2))) λ_=>hk _ _ (by simp) (KE ha) p31);intro y hy;rcases ay.1 hy with hy|hy;rcases ay.1 hy with hy|hy;exact KE ha y hy;rw[bE.1 hy];exact Or.inr ⟨by simp,p32.1,pE,KD _,by simp,by simp,by simp⟩;rw[bE.1 hy];exact Or.inr ⟨by simp,⟨by simp,h1⟩,pE,uk,by simp,by simp,by simp⟩
theorem c6 {Q:R->Prop}{k0:aw ej->Int->yo->az R}{l:aw ej}{ps:aw aI}{c:yo}(hl:l.length<=900)(h1:0<v1/\v1<=3)(hp:∀p∈ps,Plain p)(h9:0<=v9/\v9<(ps.length:Int))(hn:ps.length<=1000)(hc:Cu c)(hk:∀l' c',l'.length<=l.length+4->(∀y∈l',y∈l\/pW v1 y)->Cu c'->Ends (k0 l' (v9+1) c') Q):Ends (ub k0 v1 v2 l ps v9 c) Q:=by
 unfold ub;refine(gK hc h1.1).bind λr2 p2=>(gK p2.2 (by decide)).bind λr3 p3=>?_;have hf:=p2.1;have a0:pW v1 (0,r2.1,(0,abZ,0,0,([]:Bytes),0),(0,0,0),([]:Bytes),0):=⟨by simp,hf,pE,uk,by simp,by simp,by simp⟩
 have e:ar (v9+1)=v9+1:=ak;have go:∀(v46:Bool),Ends (jj (λy28 y29 y30=>jl (λy33 y34=>lN (λy35=>k0 y33 y35 y34) v1 v2 y33 ps v9 y34) v1 v2 y28 ps v9 y29 y30) v1 v2 l ps v9 r2.1 r3.1 v46 r3.2 (0,r2.1,(0,abZ,0,0,([]:Bytes),0),(0,0,0),([]:Bytes),0)) Q:=by intro v46;refine c19 (by omega) hp h9 ⟨hf.1,by omega⟩ p3.2 a0 λl1 c1 a1 g1 g2 g3 g4=>c37 (by omega) h1.1 g3 g4 λl2 c2 g5 g6 g7=>?_;unfold lN;rw[e];refine hk _ _ (by omega) (λy hy=>?_) g7;rcases g6 y hy with g|g;exact g2 y g;exact Or.inr g
 exact Ends.cond (λ_=>go _) λ_=>Ends.cond (λ_=>go _) λ_=>go _
theorem aai {c:yo}(h:Cu c)(hn:0<n/\n<=3)(b:Bool):Ends (yY c n b) λr=>(r.1.length<=32/\∀a∈r.1,pW n a)/\Cu r.2:=by
 unfold yY;refine(ahB h (m:=8) (by omega) (by omega)).bind λr1 p1=>?_;have h8:=p1.1.2.2;refine Ends.yn (λx=>0<=x.2.1/\x.2.1<=(r1.1.length:Int)/\(x.1.length:Int)<=4*x.2.1/\(∀a∈x.1,pW n a)/\Cu x.2.2) (λx=>((r1.1.length:Int)-x.2.1).toNat) ⟨by simp,by simp,by simp,by simp,p1.2⟩ (by simp;omega) λx nx hx hnx=>?_;obtain⟨l,i,c'⟩:=x;obtain⟨x1,x2,x3,x4,x5⟩:=hx;simp only at x1 x2 x3 x4 x5;unfold yj;refine Ends.cond (λk=>?_) λk=>?_;have k:=bB k;simp only at k⊢;refine c6 (by omega) hn p1.1.1 ⟨x1,k⟩ (by omega) x5 λl' c2 g1 g2 g3=>hnx _ ⟨by show 0<=i+1;omega,by show i+1<=_;omega,by show(l'.length:Int)<=4*(i+1);omega,?_,g3⟩ (by show((r1.1.length:Int)-(i+1)).toNat<((r1.1.length:Int)-i).toNat;omega);intro a ha;rcases g2 a ha with g|g;exact x4 a g;exact g;simp only;have hl:l.length<=32:=by omega
 refine Ends.yn (λy=>0<=y.2/\y.2<=(y.1.length:Int)/\y.1.length=l.length/\∀a∈y.1,pW n a) (λy=>((y.1.length:Int)-y.2).toNat) ⟨by simp,by simp,rfl,x4⟩ (by simp;omega) λy ny hy hm=>?_;obtain⟨q,j⟩:=y;obtain⟨y1,y2,y3,y4⟩:=hy;simp only at y1 y2 y3 y4;unfold wI;refine Ends.cond (λk2=>?_) λk2=>Ends.pure ⟨⟨by show q.length<=32;omega,y4⟩,x5⟩;have k2:=bB k2;simp only at k2⊢;unfold wG;have step:∀q':aw ej,q'.length=l.length->(∀a∈q',pW n a)->Ends (se (λy61=>ny (q',y61)) q' j c') (λr=>(r.1.length<=32/\∀a∈r.1,pW n a)/\Cu r.2):=by intro q' e1 e2;unfold se;rw[ak (n:=j+1)];exact hm _ ⟨by show 0<=j+1;omega,by show j+1<=(q'.length:Int);omega,e1,e2⟩ (by show((q'.length:Int)-(j+1)).toNat<((q.length:Int)-j).toNat;omega)
 refine Ends.bind (P:=λ_=>True) ?_ λz _=>?_;exact Ends.idx y1 k2 λ_=>Ends.cond (λ_=>Ends.idx y1 k2 λ_=>Ends.cond (λ_=>Ends.idx y1 k2 λ_=>Ends.pure trivial) λ_=>Ends.pure trivial) λ_=>Ends.pure trivial;unfold wH;refine Ends.cond (λ_=>Ends.idx y1 k2 λhi=>Ends.idx y1 k2 λ_=>step _ (by rw[aB];exact y3) ?_) λ_=>step q y3 y4;intro a ha;rcases dp ha with g|g;exact y4 a g;rw[g];exact(y4 _ (aN hi)).put (pE) (uk)
theorem aat {a:bZ}(ha:a.length<=1048576):Ends (xl a) λr=>F7 r.1/\r.2.length<=32/\∀x∈r.2,pW (r.1.1.length:Int) x:=by unfold xl;refine(amC ha).bind λr1 p1=>(aeh p1).bind λr2 p2=>?_;have p:=nJ p2.1.ports;have hl:=p2.1.len;exact(aai p2.2 ⟨by omega,by omega⟩ false).bind λr3 p3=>Ends.pure ⟨p2.1,p3.1.1,p3.1.2⟩
theorem ade (d:F7 c):Aq 2000 c:=by
 have p:=nJ d.ports;obtain⟨bk,_,hf⟩:=d.fns;have hh:∀h∈c.1,IU h:=by intro h hh;obtain⟨i,hi⟩:=List.getElem?_of_mem hh;obtain⟨hlt,_⟩:=aC.1 hi;exact(d.host i h _ hi (al (by rw[<-d.len];exact hlt))).1
 refine⟨⟨⟨by have:=d.len;omega,λh hx=>(hh h hx).sz.z⟩,⟨by rw[hf,zY];omega,λ_ _=>⟨cx,cx,⟨cx,cx,cx⟩,cx,cx,cx⟩⟩,⟨by omega,λb hb=>?_⟩,⟨by have:=d.flash.1;omega,λx hx=>by show x.length<=2000;rw[d.flash.2 x hx];omega⟩,⟨cx,cx,cx,cx⟩,?_,?_⟩,λh hx=>(hh h hx).sz⟩;obtain⟨i,hi⟩:=List.getElem?_of_mem hb;have q:=(d.box i b hi).vl;refine⟨⟨cx,cx,?_,λ_ _=>trivial⟩,cx,cx,cx⟩;show b.1.2.2.length<=2000;rcases q with e|e<;>rw[e]<;>simp;rw[show c.2.2.2.2.2.1=[] from congrArg (·.1) d.rest];exact⟨cf _,λ_ _=>trivial⟩;rw[show c.2.2.2.2.2.2=[] from congrArg (·.2) d.rest];exact⟨cf _,λx hx=>by cases hx⟩
def xC (f:bO):Int:=if gO (f.getD 0 [])<0/\gO (f.getD 1 [])<0 then-1 else if gO (f.getD 1 [])>gO (f.getD 0 []) then gO (f.getD 1 []) else gO (f.getD 0 [])
theorem OC (h:jT f=true):nk f=some (xC f):=by obtain⟨e,h0,h1⟩:=uv h;unfold nk;rw[LX,ab];unfold gZ xC;rw[h,ah];generalize f.getD 0 []=x at e h0 h1⊢;generalize f.getD 1 []=y at e h0 h1⊢;subst e;by_cases a:gO x<0/\gO y<0;rw[aE a,aE a];rfl;rw[aD a,aD a];by_cases b:gO y>gO x;rw[aE b,aE b,iw,af,show idx [x,y] 1=some y from rfl,ab,GR y];rfl;rw[aD b,aD b,iw,af,show idx [x,y] 0=some x from rfl,ab,GR x];rfl
theorem aco (h:jT f=true):rR f=some (xC f):=by obtain⟨e,h0,h1⟩:=uv h;unfold rR;rw[Vz,ab];unfold gZ xC;rw[h,ah];generalize f.getD 0 []=x at e h0 h1⊢;generalize f.getD 1 []=y at e h0 h1⊢;subst e;by_cases a:gO x<0/\gO y<0;rw[aE a,aE a];rfl;rw[aD a,aD a];by_cases b:gO y>gO x;rw[aE b,aE b,iw,af,show idx [x,y] 1=some y from rfl,ab,Kt y];rfl;rw[aD b,aD b,iw,af,show idx [x,y] 0=some x from rfl,ab,Kt x];rfl
theorem B0 (h:¬gZ f<0):jT f=true:=by unfold gZ at h;cases hf:jT f with|true=>rfl|false=>rw[hf,af]at h;exact absurd (by decide) h
def N4 (f g:bO):Prop:=jT g=true/\∀i:Nat,(i:Int)=gZ f->g.getD i []=f.getD i []
theorem Mb {g:bO}(h:¬gZ f<0)(k:N4 f g):¬gZ g<0/\xC f<=xC g/\0<=xC f:=by
 have hf:=B0 h;obtain⟨k1,k2⟩:=k;unfold gZ at h k2;rw[hf,ah]at h k2;unfold gZ xC;rw[k1,ah];by_cases a:gO (f.getD 0 [])<0/\gO (f.getD 1 [])<0;rw[aE a]at h;omega;rw[aD a]at h k2⊢;by_cases b:gO (f.getD 1 [])>gO (f.getD 0 []);rw[aE b]at k2⊢;have e:=k2 1 rfl;rw[e];have n:¬(gO (g.getD 0 [])<0/\gO (f.getD 1 [])<0):=by omega
 rw[aD n,aD n];split<;>refine⟨by omega,by omega,by omega⟩;rw[aD b]at k2⊢;have e:=k2 0 rfl;rw[e];have n:¬(gO (f.getD 0 [])<0/\gO (g.getD 1 [])<0):=by omega
 rw[aD n,aD n];split<;>refine⟨by omega,by omega,by omega⟩
theorem acB (x:hZ):Ends (rl x) λb=>b=true->(0<=x.2.1/\x.2.1<=1)/\(x.1=0\/(x.2.2.2.length<=8/\0<=x.2.2.1/\x.2.2.1+(x.2.2.2.length:Int)<=96)):=by
 unfold rl;simp only[cn,ab];refine Ends.cond (λ_=>Ends.pure (by simp)) λk=>?_;have k1:cX x.2.1 0 1=true:=by simpa using k
 have k1:=aW.1 k1;refine Ends.cond (λk2=>?_) λ_=>Ends.cond (λ_=>?_) λ_=>Ends.pure (by simp);refine Ends.bind (P:=λ_=>True) (Ends.cond (λ_=>Ends.pure trivial) λ_=>Ends.pure trivial) λz _=>Ends.pure λ_=>⟨k1,Or.inl (by simpa using k2)⟩
 refine Ends.bind (P:=λb=>b=true->x.2.2.2.length<=8/\0<=x.2.2.1/\x.2.2.1+(x.2.2.2.length:Int)<=96) (Ends.cond (λk3=>Ends.pure λk4=>?_) λ_=>Ends.pure (by simp)) λz hz=>Ends.pure λhb=>⟨k1,Or.inr (hz hb)⟩
 have k3:=aW.1 k3;rw[ak (n:=96-(x.2.2.2.length:Int))]at k4;have k4:=aW.1 k4;omega
theorem Oq (h:jT f=true){k:Int}(hk:0<=k/\k<=1)(hs:s.length=96):jT (f.set k.toNat s)=true/\∀i:Nat,(i:Int)≠k->(f.set k.toNat s).getD i []=f.getD i []:=by obtain⟨e,h0,h1⟩:=uv h;refine⟨?_,λi hi=>?_⟩;rw[e];rcases(by omega:k=0\/k=1)with rfl|rfl;unfold jT;show((((2:Nat):Int)==2)&&(((s.length:Int)==96)&&(((f.getD 1 []).length:Int)==96)))=true;rw[hs,h1];rfl;unfold jT;show((((2:Nat):Int)==2)&&((((f.getD 0 []).length:Int)==96)&&((s.length:Int)==96)))=true;rw[hs,h0];rfl;rw[bN,bN,aP (by omega)]
theorem WM (h:jT f=true)(x:hZ)(part:Int)(hp:part<=1000):Ends (kI f x part) λg=>jT g=true/\∀i:Nat,(i:Int)≠x.2.1->g.getD i []=f.getD i []:=by
 obtain⟨e,h0,h1⟩:=uv h;have hl:f.length=2:=by rw[e];rfl
 have same:jT f=true/\∀i:Nat,(i:Int)≠x.2.1->f.getD i []=f.getD i []:=⟨h,λ_ _=>rfl⟩
 unfold kI;rw[lb,lH f,ab,H2,ab,h];simp only[ab];refine Ends.bind (P:=λb=>b=false->((0<=x.2.1/\x.2.1<=1)/\(x.1=0\/(x.2.2.2.length<=8/\0<=x.2.2.1/\x.2.2.1+(x.2.2.2.length:Int)<=96)))/\0<=part) ?_ λz hz=>?_;refine Ends.cond (λk=>by simp at k) λ_=>(acB x).bind λb hb=>Ends.cond (λ_=>Ends.pure (by simp)) λk2=>Ends.pure λk3=>⟨hb (by simpa using k2),?_⟩
 have:=eu k3;omega;refine Ends.cond (λ_=>Ends.pure same) λk=>?_;obtain⟨⟨hb,hx⟩,hp0⟩:=hz k;have hbl:x.2.1.toNat<f.length:=by omega
 have hlen:∀(i:Nat)(hi:i<f.length),f[i].length=96:=by intro i hi;have e0:f[0]'(by omega)=f.getD 0 []:=(cG (by omega) _).symm;have e1:f[1]'(by omega)=f.getD 1 []:=(cG (by omega) _).symm;rcases(by omega:i=0\/i=1)with rfl|rfl;rw[e0];exact h0;rw[e1];exact h1
 refine Ends.idx hb.1 (by omega) λhi=>?_;have h96:=hlen _ hi;refine Ends.room (by omega) (Ends.cond (λ_=>?_) λk0=>?_);refine Ends.yn (λy=>y.1.length=96/\0<=y.2/\y.2<=96) (λy=>(96-y.2).toNat) ⟨by simp[du,h96],by simp,by simp⟩ (by simp) λy ny hy hn=>?_;unfold sA;refine Ends.cond (λk1=>?_) λ_=>Ends.idx hb.1 (by omega) λ_=>Ends.idx hb.1 (by omega) λ_=>Ends.pure (Oq h hb (by simp[aL];exact hy.1));have k1:=bB k1;have k2:y.2<96:=by split at k1<;>omega
 rw[ak (n:=y.2+1)];refine Ends.idx hy.2.1 (by have:=hy.1;omega) λ_=>Ends.idx hy.2.1 (by have:=hy.1;omega) λ_=>hn _ ⟨by show(List.set _ _ _).length=96;rw[aB];exact hy.1,by show 0<=y.2+1;omega,by show y.2+1<=96;omega⟩ (by show(96-(y.2+1)).toNat<(96-y.2).toNat;omega);have hx:=hx.resolve_left (by simpa using k0);refine Ends.yn (λy=>y.1.length=96/\0<=y.2/\y.2<=(x.2.2.2.length:Int)) (λy=>((x.2.2.2.length:Int)-y.2).toNat) ⟨by simp[du,h96],by simp,by simp⟩ (by simp;omega) λy ny hy hn=>?_;unfold qF;refine Ends.cond (λk1=>?_) λ_=>Ends.idx hb.1 (by omega) λ_=>Ends.idx hb.1 (by omega) λ_=>Ends.pure (Oq h hb (by simp[aL];exact hy.1));have k1:=bB k1;have k2:y.2<(x.2.2.2.length:Int):=by split at k1<;>omega
 have hy1:=hy.1;rw[ak (n:=y.2+1),ak (n:=x.2.2.1+y.2)];refine Ends.idx (by omega) (by omega) λ_=>Ends.idx hy.2.1 k2 λ_=>Ends.idx (by omega) (by omega) λ_=>Ends.idx (by omega) (by omega) λ_=>hn _ ⟨by show(List.set _ _ _).length=96;rw[aB];exact hy.1,by show 0<=y.2+1;omega,by show y.2+1<=_;omega⟩ (by show((x.2.2.2.length:Int)-(y.2+1)).toNat<((x.2.2.2.length:Int)-y.2).toNat;omega)
theorem ae1 {l:Bytes}{i j:Int}(h0:0<=i)(h1:i<=j)(h2:j<=(l.length:Int)):∃s,sub l i j=some s:=by unfold sub;rw[aE ⟨h0,h1,h2⟩];exact⟨_,rfl⟩
theorem Na {k0:aw hZ->Int->az (aw hZ)}{Q:aw hZ->Prop}(hs:s.length<=96){b:Int}(hk:∀l i,l.length<=100->(∀x∈l,x.2.1=b)->Ends (k0 l i) Q):Ends (bl (kb k0 s b) fuel ([(0,b,0,([]:Bytes))],8)) Q:=by refine Ends.yn (λy=>8*(y.1.length:Int)<=y.2/\8<=y.2/\y.2<=104/\∀x∈y.1,x.2.1=b) (λy=>(104-y.2).toNat) ⟨by simp,by simp,by simp,by simp⟩ (by simp) λy ny hy hn=>?_;unfold kb;refine Ends.cond (λk=>?_) λ_=>hk _ _ (by have:=hy.1;have:=hy.2.2.1;omega) hy.2.2.2;have k:=bB k;have h1:=hy.1;have h2:=hy.2.1;rw[ak (n:=y.2+8)];obtain⟨t,et⟩:=ae1 (l:=s) (i:=y.2) (j:=if(s.length:Int)<y.2+8 then(s.length:Int) else y.2+8) (by omega) (by split<;>omega) (by split<;>omega);rw[et,ab];refine Ends.room (by simp;omega) (hn _ ⟨by show 8*((y.1++[_]).length:Int)<=y.2+8;simp;omega,by show 8<=y.2+8;omega,by show y.2+8<=104;omega,?_⟩ (by show(104-(y.2+8)).toNat<(104-y.2).toNat;omega));intro x hx;rcases ay.1 hx with hx|hx;exact hy.2.2.2 x hx;rw[bE.1 hx]
theorem ae0 (hs:s.length<=1000):Ends (rH f s) λl=>l.length<=101/\∀x∈l,x.2.1≠gZ f:=by
 unfold rH;rw[H2,ab];refine Ends.bind (P:=λb=>b=false->jT f=true/\s.length<=96) ?_ λz hz=>Ends.cond (λ_=>Ends.pure ⟨by simp,by simp⟩) λk=>?_;refine Ends.cond (λ_=>Ends.pure (by simp)) λk1=>Ends.cond (λ_=>Ends.pure (by simp)) λk2=>?_;rw[GR s,ab];have:=eu k2;exact Ends.pure λ_=>⟨by simpa using k1,by omega⟩
 obtain⟨hf,hl⟩:=hz k;have fin:∀(l:aw hZ)(b:Int),b≠gZ f->l.length<=100->(∀x∈l,x.2.1=b)->Ends (aa (sub s 0 (if(s.length:Int)<8 then(s.length:Int) else 8)) λx8=>Go.Dn.room (List.length l+List.length [((1,b,0,x8):hZ)]) (some (l++[(1,b,0,x8)]))) (λl=>l.length<=101/\∀x∈l,x.2.1≠gZ f):=by intro l b hb h1 h2;obtain⟨t,et⟩:=ae1 (l:=s) (i:=0) (j:=if(s.length:Int)<8 then(s.length:Int) else 8) (by omega) (by split<;>omega) (by split<;>omega);rw[et,ab];refine Ends.room (by simp;omega) (Ends.pure ⟨by simp;omega,λx hx=>?_⟩);rcases ay.1 hx with hx|hx;rw[h2 x hx];exact hb;rw[bE.1 hx];exact hb
 rw[LX,ab];refine Ends.cond (λk0=>?_) λk0=>?_;have e:gZ f=0:=by simpa using k0
 exact Na hl λl i h1 h2=>fin l 1 (by omega) h1 h2;have e:gZ f≠0:=by simpa using k0
 exact Na hl λl i h1 h2=>fin l 0 (by omega) h1 h2
theorem acJ (h:jT f=true){l:aw hZ}(hl:l.length<=101)(hb:∀x∈l,x.2.1≠gZ f)(n:Int)(hn:n<=1000):Ends (vn f l n 3) (N4 f):=by
 have hlen:f.length=2:=by rw[(uv h).1];rfl
 have same:N4 f f:=⟨h,λ_ _=>rfl⟩
 have step:∀(g:bO)(i:Nat)(hi:i<l.length)(part:Int),part<=1000->N4 f g->Ends (kI g l[i] part) (N4 f):=by
  intro g i hi part hp kg;refine(WM kg.1 l[i] part hp).mono λg' hg=>⟨hg.1,λj hj=>?_⟩
  rw[hg.2 j (by rw[hj];exact(hb _ (aN hi)).symm)];exact kg.2 j hj
 unfold vn;rw[lb,lH f,ab];refine Ends.bind (P:=λb=>b=false->0<=n) (Ends.cond (λ_=>Ends.pure (by simp)) λk=>Ends.pure λ_=>by have:=eu k;omega) λz hz=>Ends.cond (λ_=>Ends.pure same) λk=>?_;have h0:=hz k;refine Ends.yn (λy=>0<=y.1/\y.1<=(l.length:Int)/\N4 f y.2) (λy=>((l.length:Int)-y.1).toNat) ⟨by simp,by simp,same⟩ (by simp;omega) λy ny hy hm=>?_;unfold vo;refine Ends.bind (P:=λb=>b=true->y.1<(l.length:Int)) (Ends.cond (λk1=>Ends.pure λ_=>bB k1) λ_=>Ends.pure (by simp)) λw hw=>Ends.cond (λk2=>?_) λ_=>Ends.cond (λk3=>?_) λ_=>Ends.pure hy.2.2;have k2:=hw k2;rw[ak (n:=y.1+1)];exact Ends.idx hy.1 k2 λhi=>(step y.2 _ hi 96 (by omega) hy.2.2).bind λg kg=>hm _ ⟨by show 0<=y.1+1;have:=hy.1;omega,by show y.1+1<=_;omega,kg⟩ (by show((l.length:Int)-(y.1+1)).toNat<((l.length:Int)-y.1).toNat;omega);have k3:=bB k3;exact Ends.idx h0 k3 λhi=>(step y.2 _ hi 3 (by omega) hy.2.2).bind λg kg=>Ends.pure kg
def He (b:tt)(n:Int):tt:=
 bif iq b&&cX n 0 1000000 then(b.1,b.2.1,if b.2.1<ar (b.2.2+ar (b.1*n)) then b.2.1 else ar (b.2.2+ar (b.1*n))) else b
theorem Xd (b:tt)(n:Int):qi b n=some (He b n):=by unfold qi He;simp only[FA,ab,cn];cases iq b<;>cases cX n 0 1000000<;>rfl
def DF (f:α->α)(l:aw α)(i:Nat):aw α:=(l.take i).map f++l.drop i
theorem Ih (f:α->α){l:aw α}(h:i<l.length):idx (DF f l i) (i:Int)=some l[i]:=by rw[GB,DF,bA (by simp only[bP,aV];omega),bU];rw[show i+(i-((l.take i).map f).length)=i by simp;omega];exact al h
theorem Ii (f:α->α){l:aw α}(h:i<l.length):(DF f l i).set i (f l[i])=DF f l (i+1):=by
 have hl:((l.take i).map f).length=i:=by simp;omega
 rw[DF,DF,List.set_append_right _ _ (by omega),hl,iT,ca h,List.set_cons_zero,bp h,ec,aZ];rfl
theorem Ig (f:α->α)(l:aw α):DF f l l.length=l.map f:=by rw[DF,cO,gY,bK]
def Z8 (n:Int)(f:aS):aS:=(f.1,f.2.1,He f.2.2.1 n,f.2.2.2)
theorem T0 (l:aw aS)(n:Int)(h:l.length<=1000000000):oE l n=some (l.map (Z8 n)):=by unfold oE;rw[uR l h,ab];refine dz (λi=>(DF (Z8 n) l i,(i:Int))) l.length (by omega) (λi nx hi=>?_) (λnx=>?_);simp only[lu];rw[jz,Ih _ hi,ak];simp only[ah,ab,Xd,ax];rw[<-Ii _ hi];rfl;simp only[lu];rw[iw,af,Ig]
def apD (x:Bytes):Bool:=decide (22<=x.length)
theorem sum_nil (l:aw bO):((l.map (λ_=>([]:bO))).map (λq=>q.countP apD)).sum=0:=by induction l with|nil=>rfl|cons x l ih=>simp only[di,fJ,List.countP_nil,cw];exact ih
theorem Nv {b:tt}(h:iq b=true)(n:Int):iq (He b n)=true:=by
 unfold He;cases hq:iq b&&cX n 0 1000000 with
 |false=>exact h
 |true=>
  simp only[ae,aW]at hq;have hi:=h;unfold iq at hi;simp only[ae,aW]at hi;have e1:0<=b.1*n/\b.1*n<=10000000000:=⟨Int.mul_nonneg hi.1.1 hq.2.1,by have:=Int.mul_le_mul hi.1.2 hq.2.2 hq.2.1 (by omega:(0:Int)<=10000);omega⟩
  rw[ah,ak (n:=b.1*n),ak (n:=b.2.2+b.1*n)];unfold iq;simp only[ae,aW];refine⟨hi.1,hi.2.1,?_,?_⟩;split<;>omega;split<;>omega
def lA (a b:dh):Prop:=∀(i:Nat)(h:Host),b.1[i]?=some h->∃h0,a.1[i]?=some h0/\kQ h0 h
theorem lA.refl (a:dh):lA a a:=λi h e=>⟨h,e,kQ.refl h⟩
theorem lA.trans {a b:dh}(h:lA a b)(g:lA b c):lA a c:=by intro i x e;obtain⟨y,e1,s1⟩:=g i x e;obtain⟨w,e2,s2⟩:=h i y e1;exact⟨w,e2,s2.trans s1⟩
theorem EC {h0:Host}(hk:c.1[k]?=some h0)(s:kQ h0 h):lA c (RT c k h):=by intro i x e;have e:(c.1.set k h)[i]?=some x:=e;by_cases hik:i=k;subst hik;obtain⟨hlt,_⟩:=aC.1 hk;rw[dx hlt]at e;rw[<-cc e];exact⟨h0,hk,s⟩;rw[aP (cR hik)]at e;exact⟨x,e,kQ.refl x⟩
theorem VJ {f:Host->Host}(hf:∀h,kQ h (f h)){X:aw aS×aw bL×bO×kO×bZ×bO}:lA c (c.1.map f,X):=by intro i x e;have e:(c.1.map f)[i]?=some x:=e;rw[List.getElem?_map]at e;cases hc:c.1[i]? with|none=>rw[hc]at e;cases e|some h0=>rw[hc]at e;rw[<-cc e];exact⟨h0,rfl,hf h0⟩
theorem Yj (ps:aw Port)(v:Int)(p:aI)(c:dh)(j:Nat):lA c (cW ps v p c j):=by unfold cW;cases j==0 with|true=>exact λi h e=>⟨h,e,kQ.refl h⟩|false=>simp only[af];cases hc:c.1[j-1]? with|none=>exact lA.refl c|some h=>exact EC hc (Ht ..)
theorem Pw (ps:aw Port)(v:Int)(p:aI):∀(l:fu)(c:dh),lA c (J7 ps v p c l)
 |[],c=>lA.refl c
 |j::l,c=>(Yj ps v p c j).trans (Pw ps v p l _)
theorem Fb (c:dh)(e:Int)(p:aI):lA c (pA c e p):=by unfold pA;cases decide (oo (dm c.2.2.1).1 e p<0)with|true=>exact lA.refl c|false=>exact Pw _ _ _ _ _
theorem R2 (c:dh)(e:Int)(p:aI):lA c (si c e p):=by unfold si;cases kR c&&eK p with|true=>exact Fb _ _ _|false=>exact lA.refl c
theorem Yi (ps:aw Port)(k:Int)(c:dh)(x:Bytes):lA c (AY ps k c x):=by
 unfold AY;have e:lA c (c.1,(uB c.2.1 ps k (gn x).1).1,c.2.2):=λi h e=>⟨h,e,kQ.refl h⟩
 cases (uB c.2.1 ps k (gn x).1).2.2 with|true=>exact e.trans (R2 _ _ _)|false=>exact e
theorem M5 (ps:aw Port)(k:Int):∀(l:bO)(c:dh),lA c (CZ ps k c l)
 |[],c=>lA.refl c
 |x::l,c=>(Yi ps k c x).trans (M5 ps k l _)
theorem ah2 (c:dh)(k:Int):lA c (uK c k):=by
 unfold uK;cases kR c&&(!decide (k<0)&& !decide (k>=(c.1.length:Int)))with|false=>exact lA.refl c|true=>?_
 simp only[ah];cases hc:c.1[k.toNat]? with|none=>exact lA.refl c|some h=>exact(EC hc (Fc h)).trans (M5 _ _ _ _)
theorem NV (c:dh)(x:Bytes):lA c (qT c x):=by
 unfold qT;cases !kR c with|true=>exact lA.refl c|false=>?_
 cases (gn x).2==0 with|true=>exact(show lA c (Cx c) from λi h e=>⟨h,e,kQ.refl h⟩).trans (Fb _ _ _)|false=>exact λi h e=>⟨h,e,kQ.refl h⟩
theorem V6 {k:kO}(h:qx k=true):Ends (pZ k 1) λr=>qx r=true/\k.1<=r.1:=by
 have hi:=h;unfold qx at hi;simp only[ae,aW]at hi;unfold pZ;rw[HZ,ab,h,cn];simp only[aj,af,ab];have same:qx k=true/\k.1<=k.1:=⟨h,cK _⟩
 refine Ends.cond (λ_=>Ends.pure same) λ_=>Ends.ifn (by decide) ?_;unfold H8;rw[ab];refine Ends.ifn (by decide) ?_;rw[HZ,ab];refine Ends.cond (λ_=>Ends.pure same) λk2=>Ends.pure ⟨by simpa using k2,?_⟩;rw[ak (n:=k.2.2.1*1),ak (n:=k.2.1+k.2.2.1*1)];have q0:0<=Int.tdiv (k.2.1+k.2.2.1*1) 1048576:=Int.tdiv_nonneg (by omega) (by omega);have q1:Int.tdiv (k.2.1+k.2.2.1*1) 1048576<=k.2.1+k.2.2.1*1:=by rw[Int.tdiv_eq_ediv_of_nonneg (by omega)];omega
 rw[ak (n:=Int.tdiv (k.2.1+k.2.2.1*1) 1048576)];generalize Int.tdiv (k.2.1+k.2.2.1*1) 1048576=q at q0 q1;show k.1<=ar (k.1+ar (q-if k.2.2.2<q then k.2.2.2 else q));split;rw[ak (n:=q-k.2.2.2),ak];omega;rw[ak (n:=q-q),ak];omega
theorem WW (g:gz n c):gz n (c.1,c.2.1.map (Z8 1),c.2.2):=by refine Tw g (cK n) (bP ..) (λi hi=>?_) λf hf=>?_;have q:=((Q8.1 g.fns).2 i hi).1;rw[cG hi]at q⊢;rw[cG (by rw[bP];exact hi),List.getElem_map];have w:=Dq.1 q;exact⟨rfl,rfl,Dq.2 ⟨w.1,w.2.1,Nv w.2.2.1 1,w.2.2.2.1,w.2.2.2.2⟩⟩;obtain⟨x,hx,rfl⟩:=eF.1 hf;exact g.fnn x hx
theorem X3 (K:Int->dh->az R)(b:dh)(hs:aw Host)(X:aw aS×aw bL×bO×kO×bZ×bO)(hl:hs.length<=1000)(z:∀h∈hs,Ap 90000000 h):bl (oY K (hs.length:Int) b) fuel (0,hs,X)=K (hs.length:Int) (hs.map sD,X):=by refine dz (λi=>((i:Int),DF sD hs i,X)) hs.length (by omega) (λi nx hi=>?_) (λnx=>?_);simp only[oY];have zh:=z _ (aN hi);rw[jz,Ih _ hi,ak];simp only[ah,ab,EX _ (zh.sz) (zh.z.mono),ax];rw[<-Ii _ hi];rfl;simp only[oY];rw[iw,af,Ig]
theorem acI (K:Int->dh->az R)(b:dh)(hs:aw Host)(X:aw aS×aw bL×bO×kO×bZ×bO)(hl:hs.length<=1000)(z:∀h∈hs,Ap 90000000 h):bl (lK K (hs.length:Int) b) fuel (0,hs,X)=K (hs.length:Int) (hs.map vY,X):=by refine dz (λi=>((i:Int),DF vY hs i,X)) hs.length (by omega) (λi nx hi=>?_) (λnx=>?_);simp only[lK];have zh:=z _ (aN hi);rw[jz,Ih _ hi,ak];simp only[ah,ab,TZ _ (zh.sz) (zh.z.mono),ax];rw[<-Ii _ hi];rfl;simp only[lK];rw[iw,af,Ig]
structure aif (n:Int) (N:Nat) (c:dh) (a:ej) (r:dh×Int):Prop where
 Q9:gz (n+14000000) r.1
 sz:Aq (N+645000) r.1
 len:r.1.1.length=c.1.length
 upd:a.1=2->r.2=xC r.1.2.2.2.1/\xC c.2.2.2.1<=xC r.1.2.2.2.1
 flash:a.1≠2->r.1.2.2.2.1=c.2.2.2.1
 stamps:r.1.2.2.2.2.2.1=c.2.2.2.2.2.1++(if a.1=0/\a.2.2.1.1=2 then [c.2.2.2.2.1.1] else [])
 clock:c.2.2.2.2.1.1<=r.1.2.2.2.2.1.1
 stay:lA c r.1
 alone:(a.1=1\/a.1=0/\(a.2.2.1.1=0\/a.2.2.1.1=3\/a.2.2.1.1=5\/a.2.2.1.1=6))->∀i:Nat,(i:Int)≠a.2.1->r.1.1[i]?=c.1[i]?
theorem YE {N M:Nat}(hN:N<=M)(z:Aq N c){f:Host->Host}(hf:∀h∈c.1,Ap M (f h)):Aq M (c.1.map f,c.2):=by have z':=z.mono hN;refine⟨⟨⟨by show(c.1.map f).length<=M;rw[bP];exact z'.z.1.1,λx hx=>?_⟩,z'.z.2⟩,λx hx=>?_⟩;obtain⟨h,hh,rfl⟩:=eF.1 hx;exact(hf h hh).z;obtain⟨h,hh,rfl⟩:=eF.1 hx;exact hf h hh
theorem aaz {N:Nat}(hn:n<=10000000000)(hN:1000<=N/\N<=50000000)(g:gz n c)(z:Aq N c)(ha:pW (c.1.length:Int) a):Ends (xI c a) (aif n N c a):=by
 have p:=nJ g.ports;have hlen:=g.len;have z9:dk 1000000000 uH c:=z.z.mono;have gh:∀h∈c.1,Good n h:=by intro h hh;obtain⟨i,hi⟩:=List.getElem?_of_mem hh;exact g.at hi
 have zh:∀h∈c.1,Ap 90000000 h:=λh hh=>(z.h h hh).mono;unfold xI;rw[uQ c z9,ab,BB c (z.sz),g.ok (by omega),ab];have ok:vt a (c.2.1.length:Int)=some true:=by unfold vt;simp only[Zi,cn,ab,ha.ok,ah];rw[ak (n:=(c.2.1.length:Int)-1),aW.2 ⟨ha.fn.1,by have:=ha.fn.2;omega⟩,ah,aW.2 ha.kind,ah,aW.2 ha.part];rfl
 simp only[aj,af,ok,ab];obtain⟨k,hk⟩:∃k:Nat,a.2.1=k:=⟨a.2.1.toNat,by have:=ha.fn.1;omega⟩
 have hfn:=ha.fn;rw[hk]at hfn;have hkl:k<c.1.length:=by omega
 have hkb:k<c.2.2.1.length:=by omega
 have base:c.2.2.2.2.2.1=c.2.2.2.2.2.1++[]:=(bK _).symm;refine Ends.cond (λk1=>?_) λk1=>?_;have k1:a.1=1:=by simpa using k1
 rw[JY c _ _ (z.z.mono) (z.sz),ab,hk];have hb:=al hkb;have nst:¬(a.1=0/\a.2.2.1.1=2):=by omega
 by_cases e1:a.2.2.2.1.1=c.2.2.1[k].2.1+1;obtain⟨h,b',eh,e2,_,_,e5,e6⟩:=Sz g (by omega) hb (m:=a.2.2.2.1) e1;have pb:=nJ e5;have hml:b'.1.2.2.length<=8:=zU (pb.2.2.2.1 b' (aX (dx hkb)));rw[e2];refine Ends.pure ⟨e6.mono,(am7 (by omega) z eh hml).mono,aB ..,λe=>by omega,λ_=>rfl,by rw[aD nst];exact base,cK _,?_,λ_ i hi=>?_⟩;exact EC eh ⟨rfl,rfl⟩;show(c.1.set k _)[i]?=c.1[i]?;rw[aP (by rw[hk]at hi;omega)];have e2:∃x,om c.2.2.1 k a.2.2.2.1=(c.2.2.1,x):=by by_cases e3:a.2.2.2.1.1=c.2.2.1[k].2.1;exact⟨_,Wk g.ports hb e3⟩;exact⟨_,St g.ports hb e3 e1⟩
 obtain⟨x,e2⟩:=e2;rw[SA g (by omega) hb e2];exact Ends.pure ⟨g.mono,z.mono,rfl,λe=>by omega,λ_=>rfl,by rw[aD nst];exact base,cK _,lA.refl c,λ_ i hi=>rfl⟩;have k1:a.1≠1:=by simpa using k1
 refine Ends.cond (λk2=>?_) λk2=>?_;have k2:a.1=2:=by simpa using k2
 have hf:=B0 g.boot;have nst:¬(a.1=0/\a.2.2.1.1=2):=by omega
 refine(ae0 (f:=c.2.2.2.1) (s:=a.2.2.2.2.1) (by have:=ha.img;omega)).bind λr6 p6=>(acJ hf p6.1 p6.2 a.2.2.2.2.2 (by have:=ha.part;omega)).bind λf' p7=>?_;have b:=Mb g.boot p7;rw[X3 _ _ c.1 _ (by omega) zh,OC (show jT f'=true from p7.1),ab];have gm:=Ox g (show n<=n+640 by omega) (f:=sD) (λh q=>LN (by omega) q) Ou;have zm:=YE (M:=N+645000) (by omega) z (f:=sD) λh hh=>(IG (by omega) (z.h h hh) (WH ((gh h hh).ok (by omega)))).1;obtain⟨fe,f0,f1⟩:=uv p7.1;have fz:dk (N+645000) (.sl .str) f':=by rw[fe];refine⟨by show 2<=N+645000;omega,λx hx=>?_⟩;rcases bQ.1 hx with e|hx;rw[e];show(f'.getD 0 []).length<=_;omega;rw[bE.1 hx];show(f'.getD 1 []).length<=_;omega
 refine Ends.pure ⟨?_,⟨⟨zm.z.1,zm.z.2.1,zm.z.2.2.1,fz,zm.z.2.2.2.2⟩,zm.h⟩,bP ..,λ_=>⟨rfl,b.2.1⟩,λe=>absurd k2 e,by rw[aD nst];exact base,cK _,VJ M4,λe=>by omega⟩;have q:=gm.mono (show n+640<=n+14000000 by omega);exact⟨q.ports,q.len,q.fns,b.1,q.clock,q.host,q.place,q.boxn,q.fnn⟩;have k2:a.1≠2:=by simpa using k2
 have k0:a.1=0:=by have:=ha.kind;omega
 have ac:=ha.act;have bound:=ac.2.1;refine Ends.cond (λk3=>?_) λk3=>?_;have k3:a.2.2.1.1=1:=by simpa using k3
 have nst:¬(a.1=0/\a.2.2.1.1=2):=by omega
 rw[W1 c _ (z.mono),ab];have kt:=ahr c a.2.1;have zt:=(Wp hN.1 a.2.1 z).1;exact Ends.pure ⟨ag4 (by omega) g _,zt.mono,kt.len,λe=>absurd e k2,λ_=>kt.flash,by rw[aD nst,bK];exact kt.stamps,by rw[kt.clock];exact cK _,ah2 _ _,λe=>by omega⟩;have k3:a.2.2.1.1≠1:=by simpa using k3
 refine Ends.cond (λk4=>?_) λk4=>?_;have k4:a.2.2.1.1=2:=by simpa using k4
 have yst:a.1=0/\a.2.2.1.1=2:=⟨k0,k4⟩
 rw[JZ c _ (z.mono) (by omega),ab];have zr:=Vi hN.1 a.2.2.1.2.2.2.2.1 z;have kr:pX (Cx c) (qT c a.2.2.1.2.2.2.2.1):=by unfold qT;rw[g.ok (by omega)];simp only[aj,af];cases (gn a.2.2.1.2.2.2.2.1).2==0 with|true=>exact E0 ..|false=>exact pX.refl _
 exact Ends.pure ⟨(NB (by omega) g _).mono,zr.1.mono,zr.2,λe=>absurd e k2,λ_=>kr.flash,by rw[aE yst];exact kr.stamps,by rw[kr.clock];exact cK _,NV _ _,λe=>by omega⟩;have k4:a.2.2.1.1≠2:=by simpa using k4
 have nst:¬(a.1=0/\a.2.2.1.1=2):=by omega
 refine Ends.cond (λk5=>?_) λk5=>?_;have k5:a.2.2.1.1=4:=by simpa using k5
 show Ends (bl (lK _ (c.1.length:Int) _) fuel (0,c.1,c.2)) _;rw[acI _ _ c.1 _ (by omega) zh];rw[T0 c.2.1 1 (by omega),ab];refine(V6 g.clock).bind λr24 p24=>Ends.pure ?_;have gm:=Ox (WW g) (show n<=n by omega) (f:=vY) (λh q=>Oz q) Tk;have zm:=YE (M:=N+645000) (by omega) z (f:=vY) λh hh=>(VT hN.1 (z.h h hh)).mono;have q:=gm.mono (show n<=n+14000000 by omega);refine⟨⟨q.ports,q.len,q.fns,q.boot,p24.1,q.host,q.place,q.boxn,q.fnn⟩,⟨⟨zm.z.1,⟨?_,λ_ _=>⟨cx,cx,⟨cx,cx,cx⟩,cx,cx,cx⟩⟩,zm.z.2.2.1,zm.z.2.2.2.1,⟨cx,cx,cx,cx⟩,zm.z.2.2.2.2.2⟩,zm.h⟩,bP ..,λe=>absurd e k2,λ_=>rfl,by rw[aD nst];exact base,p24.2,VJ Px,λe=>by omega⟩;show(c.2.1.map (Z8 1)).length<=_;rw[bP];exact zm.z.2.1.1;rw[hk,bu hkl,ab];have zk:=z.h _ (aN hkl);rw[aaV _ _ (zk.mono) (by omega),ab,ab,ab];have hg:=al hkl;have hsz:=(acZ hN.1 a.2.2.1 zk (WH ((g.at hg).ok (by omega)))).1;refine Ends.pure ⟨(HX g (show n<=n+641 by omega) hg (adE (by omega) (g.at hg) a.2.2.1) (agY ..)).mono,Hi (z.mono) hsz,aB ..,λe=>absurd e k2,λ_=>rfl,by rw[aD nst];exact base,cK _,EC hg (aeX ..),λ_ i hi=>?_⟩;show(c.1.set ((k:Int).toNat) _)[i]?=c.1[i]?;rw[ax,aP (by rw[hk]at hi;omega)]
theorem ajm {a:bZ}{k:Bool->az Bool}(ht:k true=some true)(hk:a.length<=1048576->Ends (k false) (λb=>b=true)):Ends (aa (G0 a) k) (λb=>b=true):=by unfold G0;rw[ab];by_cases h:((a.length:Int))>1048576;rw[au h,ht];exact Ends.pure rfl;rw[aq h];exact hk (by omega)
theorem Ends.true {o:az Bool}(h:Ends o (λb=>b=true)):o=some true:=by obtain⟨x,h1,rfl⟩:=h;exact h1
structure Sg (c0:dh) (k:Nat) (c:dh):Prop where
 Q9:gz (4+14000000*(k:Int)) c
 sz:Aq (2000+645000*k) c
 len:c.1.length=c0.1.length
 stay:lA c0 c
theorem Sg.start (d:F7 c):Sg c 0 c:=⟨d.Q9.mono,(ade d).mono,rfl,lA.refl c⟩
theorem Sg.step {c0:dh}(q:Sg c0 k c)(hk:k<=40)(ha:pW (c0.1.length:Int) a):Ends (xI c a) λr=>aif (4+14000000*(k:Int)) (2000+645000*k) c a r/\Sg c0 (k+1) r.1:=by refine(aaz (by omega) ⟨by omega,by omega⟩ q.Q9 q.sz (by rw[q.len];exact ha)).mono λr h=>⟨h,⟨h.Q9.mono (by push_cast;omega),h.sz.mono,h.len.trans q.len,q.stay.trans h.stay⟩⟩
theorem KQ (a:bZ)(ha:acS (.sl (.int .u8)) a):wm a=some true:=by
 refine Ends.true ?_;unfold wm;refine ajm rfl λhl=>?_;rw[af];refine(aat hl).bind λr2 p2=>?_;obtain⟨c0,l⟩:=r2;simp only at p2⊢;obtain⟨d,hn,hact⟩:=p2;have hf:=B0 d.boot;have b0:=(Mb d.boot ⟨hf,λ_ _=>rfl⟩).2.2;rw[aco hf,ab];refine Ends.yn (λx=>0<=x.2.1/\x.2.1<=(l.length:Int)/\0<=x.1/\x.1=xC x.2.2.2.2.2.1/\Sg c0 x.2.1.toNat x.2.2) (λx=>((l.length:Int)-x.2.1).toNat) ⟨by simp,by simp,b0,rfl,Sg.start d⟩ (by simp;omega) λx nx hx hn2=>?_;obtain⟨v,i,c⟩:=x;obtain⟨x1,x2,x3,x4,x5⟩:=hx;simp only at x1 x2 x3 x4 x5;unfold sB;refine Ends.cond (λk=>?_) λk=>Ends.pure (au x3);have k:=bB k;simp only at k⊢;obtain⟨i,rfl⟩:∃k:Nat,i=k:=⟨i.toNat,by omega⟩
 rw[ax]at x5;have hi:i<l.length:=by omega
 rw[bu hi,ab];refine(x5.step (by omega) (hact _ (aN hi))).bind λr p=>?_;obtain⟨dn,rn⟩:=p;have hf2:=B0 rn.Q9.boot;have hc:=BB r.1 (rn.sz.sz);rw[rn.Q9.ok (by omega)]at hc;rw[OC hf2,ab,hc,ab];have ge:v<=xC r.1.2.2.2.1:=by rw[x4];by_cases h2:l[i].1=2;exact(dn.upd h2).2;rw[dn.flash h2];exact cK _
 have e:ar ((i:Int)+1)=(i:Int)+1:=ak;have go:Ends (nx (xC r.1.2.2.2.1,(i:Int)+1,r.1)) (λb=>b=true):=hn2 _ ⟨by show 0<=(i:Int)+1;omega,by show(i:Int)+1<=_;omega,by show 0<=xC r.1.2.2.2.1;omega,rfl,by show Sg c0 ((i:Int)+1).toNat r.1;rw[show((i:Int)+1).toNat=i+1 by omega];exact rn⟩ (by show((l.length:Int)-((i:Int)+1)).toNat<((l.length:Int)-(i:Int)).toNat;omega);simp only[aj,af];rw[iw,af,e];by_cases h2:l[i].1=2;have e2:(l[i].1==2)=true:=by rw[bm];exact h2
 have e3:(l[i].1 !=2)=false:=by rw[bne,e2];rfl
 have e4:(r.2 !=xC r.1.2.2.2.1)=false:=by rw[(dn.upd h2).1];simp
 simp only[ab,e2,e4,e3,af,ah];exact go;have e2:(l[i].1==2)=false:=by rw[cl];exact h2
 have e3:(l[i].1 !=2)=true:=by rw[bne,e2];rfl
 have e4:(xC r.1.2.2.2.1 !=v)=false:=by rw[x4,dn.flash h2];simp
 simp only[ab,e2,e4,e3,af,ah];exact go
end
end Go.Pu
