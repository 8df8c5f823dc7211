import Derived.Test.YtbebkmajekhclaaGreatPure
import Derived.KernelRfl
import Derived.Test.YtbebkmajekhclaaGreatPuX2
namespace Go.Pu
open Go.Dn
open List (range replicate)
open Int (tmod)
set_option linter.unusedSimpArgs false
set_option linter.unusedVariables false
noncomputable section
variable {cb v2:Bool} {s x:Bytes} {b2:cE} {a:cS} {h:Host} {b d e n v1 v9:Int} {N i k:Nat} {p:aD} {q:cU} {g:fi} {st:dA} {t:dx} {R α:Type} {v:Vector} {l:aw cS} {ms:aw bF} {ps:aw Port} {f m:bV} {r:od}
/- What is valid stays valid: memory, rings, pools, the sender's queue. -/
theorem adP (h:dv m=true)(a:Int)(s:Bytes):dv (wF m a s).1=true:=by unfold wF;cases hw:je m a (s.length:Int);exact h;simp only[je,af,aG]at hw;exact tT.2 (Cr s.length (tT.1 hw.1) (by omega)).1
theorem aap:∀(q:aw (Int×Int)){m:bV}(s:Bytes),dv m=true->dv (RX q m s)=true
 |[],_,_,h=>h
 |p::q,m,s,h=>by rw[RX];exact aap q _ (adP h _ _)
theorem HN (h:dv m=true)(l:aw aN)(d a:Int)(s:Bytes)(w:Bool):dv (kH l m d a s w).1=true:=by unfold kH;cases (mr l m d a (s.length:Int) w).2 with|false=>exact h|true=>exact aap _ _ h
theorem N6 (h:dv m=true)(l:aw aN)(d:Int)(r:od)(s:Bytes):dv (eu l m d r s).1=true:=by
 unfold eu;cases (uH r==0)||((s.length:Int) !=16);case true=>exact h
 cases (kH l m d (wZ r r.2.2.2) s true).2 with|false=>exact h|true=>exact HN h ..
theorem HV {x y:Int}(hb:0<=b/\b<=130944:=by omega)(hn:n=2\/n=4\/n=8\/n=16:=by omega)(hx:0<=x/\x<=2*n-1:=by omega)(hy:0<=y/\y<=2*n-1:=by omega)(hu:(y-x)%(2*n)<=n:=by omega):dF (b,n,x,y)=true:=by have hs:jB n=true:=hR.2 hn;simp only[dF,cl,hs,aX.2 hb,aX.2 hx,aX.2 hy,cz,aZ,aG];exact hu
theorem IU (h:dF r=true):cl r=(r.2.2.2-r.2.2.1)%(2*r.2.1)/\0<=cl r/\cl r<=r.2.1:=by
 have k:=nT h;have e:cl r=(r.2.2.2-r.2.2.1)%(2*r.2.1):=by unfold cl;rw[aI (hR.2 k.2.2.1)]
 simp only[dF,af,aG]at h;exact⟨e,by rw[e];exact fH _ (by omega),h.2.2.2.2⟩
theorem NB {x:Int}(hn:0<n:=by omega)(hx:0<=x/\x<=n-1:=by omega):tmod (x+1) n=if x+1=n then 0 else x+1:=by rw[ed (by omega)];split;rename_i h;rw[h];exact Int.emod_self;exact Int.emod_eq_of_lt (by omega) (by omega)
theorem aij (h:dF r=true)(hf:cl r<r.2.1):dF (r.1,r.2.1,r.2.2.1,tmod (r.2.2.2+1) (2*r.2.1))=true/\cl (r.1,r.2.1,r.2.2.1,tmod (r.2.2.2+1) (2*r.2.1))=cl r+1:=by
 have k:=nT h;have u:=IU h;have e:=NB (x:=r.2.2.2) (n:=2*r.2.1);have u2:(tmod (r.2.2.2+1) (2*r.2.1)-r.2.2.1)%(2*r.2.1)=cl r+1:=by
  have h1:(tmod (r.2.2.2+1) (2*r.2.1)-r.2.2.1)%(2*r.2.1)=(r.2.2.2+1-r.2.2.1)%(2*r.2.1):=by rw[e];split;rename_i hh;rw[<-hh,show(r.2.2.2+1-r.2.2.1)=(0-r.2.2.1)+(r.2.2.2+1) by omega,Int.add_emod_right];rfl
  rw[h1,show r.2.2.2+1-r.2.2.1=(r.2.2.2-r.2.2.1)+1 by omega];have h0:=u.1;generalize r.2.2.2-r.2.2.1=d at h0⊢;rw[Int.add_emod,<-h0,Int.emod_eq_of_lt (a:=1) (by omega) (by omega),Int.emod_eq_of_lt (by omega) (by omega)]
 refine⟨HV ⟨k.1,k.2.1⟩ k.2.2.1 ⟨k.2.2.2.1,k.2.2.2.2.1⟩ (by rw[e];split<;>omega) (by rw[u2];omega),?_⟩;unfold cl;rw[aI (hR.2 k.2.2.1)];exact u2
theorem alY (h:dF r=true)(hf:cl r≠0):dF (r.1,r.2.1,tmod (r.2.2.1+1) (2*r.2.1),r.2.2.2)=true/\cl (r.1,r.2.1,tmod (r.2.2.1+1) (2*r.2.1),r.2.2.2)=cl r-1:=by
 have k:=nT h;have u:=IU h;have e:=NB (x:=r.2.2.1) (n:=2*r.2.1);have u2:(r.2.2.2-tmod (r.2.2.1+1) (2*r.2.1))%(2*r.2.1)=cl r-1:=by
  have h1:(r.2.2.2-tmod (r.2.2.1+1) (2*r.2.1))%(2*r.2.1)=(r.2.2.2-(r.2.2.1+1))%(2*r.2.1):=by rw[e];split;rename_i hh;rw[<-hh,show(r.2.2.2-0)=(r.2.2.2-(r.2.2.1+1))+(r.2.2.1+1) by omega,Int.add_emod_right];rfl
  rw[h1,show r.2.2.2-(r.2.2.1+1)=(r.2.2.2-r.2.2.1)-1 by omega];have h0:=u.1;generalize r.2.2.2-r.2.2.1=d at h0⊢;rw[Int.sub_emod,<-h0,Int.emod_eq_of_lt (a:=1) (by omega) (by omega),Int.emod_eq_of_lt (by omega) (by omega)]
 refine⟨HV ⟨k.1,k.2.1⟩ k.2.2.1 (by rw[e];split<;>omega) ⟨k.2.2.2.2.2.1,k.2.2.2.2.2.2⟩ (by rw[u2];omega),?_⟩;unfold cl;rw[aI (hR.2 k.2.2.1)];exact u2
theorem agW (h:dF r=true):uH r=r.2.1-cl r:=by have k:=nT h;have u:=IU h;unfold uH;rw[h,ah,aj]
theorem aaW (h:dF r=true)(l:aw aN)(m:bV)(d:Int)(s:Bytes):dF (eu l m d r s).2.1=true/\(eu l m d r s).2.1.2.1=r.2.1:=by
 unfold eu;cases hc:(uH r==0)||((s.length:Int) !=16);case true=>exact⟨h,rfl⟩
 cases (kH l m d (wZ r r.2.2.2) s true).2 with
 |false=>exact⟨h,rfl⟩
 |true=>
  simp only[cI]at hc;have h1:uH r≠0:=by simpa using hc.1
  rw[agW h]at h1;have u:=IU h;exact⟨(aij h (by omega)).1,rfl⟩
theorem Ve (h:dF r=true)(l:aw aN)(m:bV)(d:Int):dF (bL l m d r).2.1=true/\(bL l m d r).2.1.2.1=r.2.1:=by
 unfold bL;cases hc: !dF r||(cl r==0);case true=>exact⟨h,rfl⟩
 cases (uN l m d (wZ r r.2.2.1) 16).2 with|false=>exact⟨h,rfl⟩|true=>simp only[cI]at hc;exact⟨(alY h (by simpa using hc.2)).1,rfl⟩
theorem akE {l:bQ}:(range l.length).all (Hx n l)=true↔(∀x∈l,0<=x/\x<=n-1)/\l.Nodup:=by
 rw[aF];constructor;intro h;have k:∀i (hi:i<l.length),(0<=l[i]/\l[i]<=n-1)/\l[i]∉l.take i:=by intro i hi;have:=h i (bE.2 hi);unfold Hx at this;rw[bN hi,af,aX]at this;exact⟨this.1,by simpa using this.2⟩
 refine⟨λx hx=>?_,?_⟩;obtain⟨i,hi,rfl⟩:=List.getElem_of_mem hx;exact(k i hi).1;rw[List.Nodup,List.pairwise_iff_getElem];intro i j hi hj hij he;refine(k j hj).2 ?_;rw[<-he];exact List.mem_take_iff_getElem.2 ⟨i,by omega,rfl⟩;rintro⟨h1,h2⟩ i hi;have hi:=bE.1 hi;unfold Hx;rw[bN hi,af,aX];refine⟨h1 _ (aB hi),?_⟩;have:l[i]∉l.take i:=by intro hm;obtain⟨j,hj,he⟩:=List.mem_take_iff_getElem.1 hm;rw[List.Nodup,List.pairwise_iff_getElem]at h2;exact h2 j i (by omega) hi (by omega) he
 simpa using this
theorem Ft {p:ei}:dN p=true↔(0<=p.1/\p.1<=130944)/\(1<=p.2.1/\p.2.1<=512)/\(0<=p.2.2.1/\p.2.2.1<=16)/\(∀x∈p.2.2.2,0<=x/\x<=p.2.2.1-1)/\p.2.2.2.Nodup:=by unfold dN;simp only[af,aX,akE]
theorem HR {p:ei}(h:dN p=true){l:bQ}(hl:l.Sublist p.2.2.2):dN (p.1,p.2.1,p.2.2.1,l)=true:=by have k:=Ft.1 h;exact Ft.2 ⟨k.1,k.2.1,k.2.2.1,λx hx=>k.2.2.2.1 x (hl.subset hx),k.2.2.2.2.sublist hl⟩
theorem ah9 {p:ei}(h:dN p=true)(l:bQ):dN (Hz p l).1=true:=by unfold Hz;cases hg:BH p l with|false=>exact h|true=>unfold BH at hg;simp only[af]at hg;exact hg.2
theorem L0 {s:xb}:jT n s=true↔(1<=s.2.1/\s.2.1<=n)/\0<=s.1/\s.1<=65535:=by unfold jT;simp only[af,aX]
structure KT (t:dx):Prop where
 ring:dF t.1=true
 next:0<=t.2.2.2/\t.2.2.2<=65535
 sent:∀x∈t.2.2.1,(1<=x.2.1/\x.2.1<=t.1.2.1)/\0<=x.1/\x.1<=65535
 pool:dN (ic t.2.1 (bG t.2.2.1))=true
 Kb:dI t.2.2.1<=t.1.2.1
theorem KT.free (h:KT t):dN t.2.1=true:=HR h.pool (List.sublist_append_left _ _)
theorem arH:Pm t=true↔KT t:=by constructor;intro h;unfold Pm at h;simp only[af,aX,aF,L0,aG]at h;obtain⟨h1,h2,h3,h4,h5,h6⟩:=h;unfold BH at h5;simp only[af]at h5;exact⟨h1,h3,h4,h5.2,h6⟩;·intro h;unfold Pm BH;simp only[af,aX,aF,L0,aG];exact⟨h.ring,h.free,h.next,h.sent,⟨h.free,h.pool⟩,h.Kb⟩
theorem NJ (a b:aw xb):bG (a++b)=bG a++bG b:=by simp[bG]
theorem TY (a b:aw xb):dI (a++b)=dI a+dI b:=by simp[dI]
theorem Un:∀(l:aw xb)(p:ei),dN (ic p (bG l))=true->sG p l=ic p (bG l)
 |[],p,_=>by simp[sG,bG,ic]
 |x::l,p,h=>by
  have e:bG (x::l)=x.2.2++bG l:=by simp[bG]
  rw[e]at h;have h1:dN (ic p x.2.2)=true:=HR (p:=ic p (x.2.2++bG l)) h (by show(p.2.2.2++x.2.2).Sublist (p.2.2.2++(x.2.2++bG l));rw[<-bj];exact List.sublist_append_left _ _);have h0:dN p=true:=HR (p:=ic p x.2.2) h1 (List.sublist_append_left _ _);have hg:(Hz p x.2.2).1=ic p x.2.2:=by unfold Hz BH;rw[h0,h1];rfl
  have ea:ic (ic p x.2.2) (bG l)=ic p (x.2.2++bG l):=by simp[ic]
  rw[sG,hg,Un l _ (by rw[ea];exact h),ea,e]
theorem aoK (h:KT t)(hr:dF r=true)(hn:r.2.1=t.1.2.1):KT (r,t.2):=
 ⟨hr,h.next,λx hx=>by show(1<=x.2.1/\x.2.1<=r.2.1)/\_;rw[hn];exact h.sent x hx,h.pool,by show dI t.2.2.1<=r.2.1;rw[hn];exact h.Kb⟩
theorem abC (h:KT t)(n:Int):KT (mw t n).1:=by
 unfold mw;cases hc:Pm t&&cY n 0 (t.2.2.1.length:Int);exact h;simp only[af,aX]at hc;have hs:t.2.2.1.take n.toNat++t.2.2.1.drop n.toNat=t.2.2.1:=cW _ _;have hb:bG t.2.2.1=bG (t.2.2.1.take n.toNat)++bG (t.2.2.1.drop n.toNat):=by rw[<-NJ,hs]
 have hp:dN (ic t.2.1 (bG (t.2.2.1.take n.toNat)))=true:=HR (p:=ic t.2.1 (bG t.2.2.1)) h.pool (by show(t.2.1.2.2.2++_).Sublist (t.2.1.2.2.2++_);rw[hb];exact(List.sublist_append_left _ _).append_left _);have hg:=Un _ _ hp;refine⟨h.ring,h.next,λx hx=>h.sent x (List.mem_of_mem_drop hx),?_,?_⟩;show dN (ic (sG t.2.1 (t.2.2.1.take n.toNat)) (bG (t.2.2.1.drop n.toNat)))=true;rw[hg,show ic (ic t.2.1 (bG (t.2.2.1.take n.toNat))) (bG (t.2.2.1.drop n.toNat))=ic t.2.1 (bG t.2.2.1) by rw[hb];simp[ic]];exact h.pool;show dI (t.2.2.1.drop n.toNat)<=t.1.2.1;have h1:dI t.2.2.1=dI (t.2.2.1.take n.toNat)+dI (t.2.2.1.drop n.toNat):=by rw[<-TY,hs]
 have h2:0<=dI (t.2.2.1.take n.toNat):=BL t.1.2.1 _ (by rw[aF];exact λx hx=>L0.2 (h.sent x (List.mem_of_mem_take hx)));have:=h.Kb;omega
theorem Qf (l:aw aN)(m:bV)(d:Int):∀(n:Nat)(acc:aw Ja)(r:od),dF r=true->dF (xi l m d n acc r).2.1=true/\(xi l m d n acc r).2.1.2.1=r.2.1
 |0,acc,r,h=>⟨h,rfl⟩
 |n+1,acc,r,h=>by have k:=nT h;have ht:=Ve h l m d;rw[xi];cases !(bL l m d r).2.2|| !(dJ (bL l m d r).1).2 with|true=>exact⟨HV ⟨k.1,k.2.1⟩ k.2.2.1 ⟨k.2.2.2.2.2.1,k.2.2.2.2.2.2⟩ ⟨k.2.2.2.2.2.1,k.2.2.2.2.2.2⟩ (by rw[Int.sub_self,Int.zero_emod];omega),rfl⟩|false=>cases acP (dJ (bL l m d r).1).1 with|true=>exact ht|false=>have:=Qf l m d n (acc++[(dJ (bL l m d r).1).1]) _ ht.1;exact⟨this.1,this.2.trans ht.2⟩
theorem ab4 (h:dF r=true)(l:aw aN)(m:bV)(d:Int):dF (dE l m d r).2.1=true/\(dE l m d r).2.1.2.1=r.2.1:=by unfold dE;cases !dF r||(cl r==0)with|true=>exact⟨h,rfl⟩|false=>exact Qf l m d _ _ _ h
theorem aaB (h:dF r=true)(l:aw aN)(m:bV)(d:Int):dF (jm l m d r).1=true/\(jm l m d r).1.2.1=r.2.1:=by
 have hc:=ab4 h l m d;unfold jm;cases !dF r||(cl r==0);case true=>exact⟨h,rfl⟩
 cases !(dE l m d r).2.2|| !(gk (dE l m d r).1).2.2.2;case true=>exact hc
 cases !(nL l m d (gk (dE l m d r).1).1).2||(!(BG (nL l m d (gk (dE l m d r).1).1).1).2||((kU (BG (nL l m d (gk (dE l m d r).1).1).1).1).2 !=0))with|true=>exact hc|false=>exact hc
theorem Ii (l:aw aN)(m:bV)(d:Int):∀(n:Nat)(fr:bV)(dn bd:Nat)(r:od),dF r=true->dF (rn l m d n fr dn bd r).1=true/\(rn l m d n fr dn bd r).1.2.1=r.2.1
 |0,fr,dn,bd,r,h=>⟨h,rfl⟩
 |n+1,fr,dn,bd,r,h=>by
  have k:=aaB h l m d;rw[rn];cases (jm l m d r).2.2==0;case true=>exact⟨h,rfl⟩
  cases (jm l m d r).2.2==1 with|true=>have:=Ii l m d n (fr++(jm l m d r).2.1) (dn+1) bd _ k.1;exact⟨this.1,this.2.trans k.2⟩|false=>have:=Ii l m d n (fr++(jm l m d r).2.1) dn (bd+1) _ k.1;exact⟨this.1,this.2.trans k.2⟩
theorem LU (l:aw aN)(d:Int):∀(q:bV)(m:bV)(r:od){x},Aa l d q m r=some x->(dF r=true->dF x.2=true/\x.2.2.1=r.2.1)/\(dv m=true->dv x.1=true)
 |[],m,r,x,h=>by cases h;exact⟨λh=>⟨h,rfl⟩,λh=>h⟩
 |s::q,m,r,x,h=>by rw[Aa]at h;cases hq:(eu l m d r s).2.2 with|false=>rw[hq]at h;cases h|true=>rw[hq]at h;have k:=LU l d q _ _ h;refine⟨λhr=>?_,λhm=>k.2 (N6 hm ..)⟩;have hp:=aaW hr l m d s;have:=k.1 hp.1;exact⟨this.1,this.2.trans hp.2⟩
theorem UT (l:aw aN)(d:Int)(p:ei)(z:Nat):∀(q:bQ)(s:Bytes)(m:bV)(a:aw qi){x},D3 l d p z q s m a=some x->dv m=true->dv x.2=true
 |[],s,m,a,x,h,hm=>by cases h;exact hm
 |b::q,s,m,a,x,h,hm=>by rw[D3]at h;cases hq:(kH l m d (uM p b) (s.take z) false).2 with|false=>rw[hq]at h;cases h|true=>rw[hq]at h;exact UT l d p z q _ _ _ h (HN hm ..)
theorem aia {p:ei}(h:dN p=true){l:bQ}(hl:l.Perm p.2.2.2):dN (p.1,p.2.1,p.2.2.1,l)=true:=by have k:=Ft.1 h;exact Ft.2 ⟨k.1,k.2.1,k.2.2.1,λx hx=>k.2.2.2.1 x (hl.mem_iff.1 hx),hl.nodup_iff.2 k.2.2.2.2⟩
theorem air (h:KT t)(hm:dv m=true)(l:aw aN)(d c:Int){n:Nat}(hf:QJ t n=true)(x:aw qi×bV)(hx:dv x.2=true):dv (Vm l m d t c n x).1=true/\KT (Vm l m d t c n x).2.1:=by
 unfold Vm Ab;cases hp:Aa l d ((uX x.1 c t.2.2.2).map E3) x.2 t.1 with
 |none=>exact⟨hm,h⟩
 |some y=>
  have k:=LU l d _ _ _ hp;have kr:=k.1 h.ring;refine⟨k.2 hx,?_⟩;unfold QJ at hf;simp only[af,aM,cH]at hf;have ht:lX t.2.1 (n:Int)=((t.2.1.1,t.2.1.2.1,t.2.1.2.2.1,t.2.1.2.2.2.drop n),t.2.1.2.2.2.take n,true):=by have h1:=hf.1;unfold lX at h1⊢;cases hc:dN t.2.1&&cY (n:Int) 0 (t.2.1.2.2.2.length:Int)with|false=>rw[hc]at h1;cases h1|true=>simp only[ah,ax]
  have h0:0<=dI t.2.2.1:=BL t.1.2.1 _ (by rw[aF];exact λx hx=>L0.2 (h.sent x hx));show KT (y.2,(lX t.2.1 (n:Int)).1,t.2.2.1++[(t.2.2.2,(n:Int)+1,(lX t.2.1 (n:Int)).2.1)],tmod (t.2.2.2+1) 65536);rw[ht];have hn:=h.next
  refine⟨kr.1,?_,?_,?_,?_⟩;have:=NB (x:=t.2.2.2) (n:=65536);show 0<=tmod (t.2.2.2+1) 65536/\tmod (t.2.2.2+1) 65536<=65535;rw[this];split<;>omega;intro s hs;show(1<=s.2.1/\s.2.1<=y.2.2.1)/\0<=s.1/\s.1<=65535;rw[kr.2];rcases aA.1 hs with hs|hs;exact h.sent s hs;rw[bI.1 hs];show(1<=(n:Int)+1/\(n:Int)+1<=t.1.2.1)/\0<=t.2.2.2/\t.2.2.2<=65535;omega;refine aia (p:=ic t.2.1 (bG t.2.2.1)) h.pool ?_;show(t.2.1.2.2.2.drop n++bG (t.2.2.1++[_])).Perm (t.2.1.2.2.2++bG t.2.2.1);rw[NJ,show bG [(t.2.2.2,(n:Int)+1,t.2.1.2.2.2.take n)]=t.2.1.2.2.2.take n by simp[bG]];refine(List.perm_append_comm_assoc _ _ _).trans ?_;refine(List.perm_append_comm).trans ?_;exact((List.perm_append_comm.trans (by rw[cW])).append_right _);show dI (t.2.2.1++[_])<=y.2.2.1;rw[TY,kr.2,show dI [(t.2.2.2,(n:Int)+1,t.2.1.2.2.2.take n)]=(n:Int)+1 by simp[dI]];omega
theorem aiq (h:KT t)(hm:dv m=true)(l:aw aN)(d:Int)(p:aD)(c z:Int):dv (Dg l m d t p c z).1=true/\KT (Dg l m d t p c z).2.1:=by unfold Dg;cases Pm t&&(dw p&&(cY z 1 t.2.1.2.1&&cY c 1 128));exact⟨hm,h⟩;cases hf:QJ t (DD p z.toNat);exact⟨hm,h⟩;simp only[ah];cases hw:D3 l d t.2.1 z.toNat (lX t.2.1 (DD p z.toNat:Int)).2.1 (kJ p).1 m []with|none=>exact⟨hm,h⟩|some x=>exact air h hm l d c hf x (UT l d _ _ _ _ _ _ hw hm)
theorem aa2 {a s k f w:Int}(h1:0<=a/\a<=65535)(h2:0<=b/\b<=65535)(h3:0<=s/\s<=4294967295)(h4:0<=k/\k<=4294967295)(h5:0<=f/\f<=31)(h6:0<=w/\w<=65535)(hx:x.length<=320):vr (6,a,b,s,k,f,w,x)=true:=by have D6:decide ((x.length:Int)>320)=false:=cD;simp only[vr,aX.2 h1,aX.2 h2,aX.2 h3,aX.2 h4,aX.2 h5,aX.2 h6,D6];rfl
theorem al3 {a:Int}(h1:0<=a/\a<=65535)(h2:0<=b/\b<=65535)(hx:x.length<=320):vr (17,a,b,0,0,0,0,x)=true:=by have D6:decide ((x.length:Int)>320)=false:=cD;simp only[vr,aX.2 h1,aX.2 h2,D6];rfl
theorem aip (h:vr g=true)(hx:x.length<=320):vr (g.1,g.2.1,g.2.2.1,g.2.2.2.1,g.2.2.2.2.1,g.2.2.2.2.2.1,g.2.2.2.2.2.2.1,x)=true:=by have e:decide ((x.length:Int)>320)=false:=cD;unfold vr at h⊢;simp only[af]at h⊢;exact⟨h.1,h.2.1,by rw[e];rfl,h.2.2.2⟩
theorem akM {a v t i l s:Int}(h1:0<=a/\a<=281474976710655)(h2:0<=b/\b<=281474976710655)(h3: -1<=v/\v<=4095)(h4:0<=t/\t<=255)(h5:0<=i/\i<=65535)(h6:0<=l/\l<=255)(h7:0<=s/\s<=4294967295)(h8:0<=d/\d<=4294967295)(hg:vr g=true):ql (a,b,v,t,i,l,s,d,g)=true:=by simp only[ql,aX.2 h1,aX.2 h2,aX.2 h3,aX.2 h4,aX.2 h5,aX.2 h6,aX.2 h7,aX.2 h8,hg];rfl
theorem aaC (p:aD):eQ p=true↔ql p=true/\p.2.2.2.2.2.2.2.2.2.2.2.2.2.2.2.length<=128:=by unfold eQ dw;rw[af,af,dk,aG];constructor;rintro⟨⟨h1,_⟩,h2⟩;exact⟨h1,by omega⟩;rintro⟨h1,h2⟩;exact⟨⟨h1,Or.inl (by omega)⟩,by omega⟩
theorem afT (h:vr g=true)(h6:g.1=6):(0<=g.2.1/\g.2.1<=65535)/\(0<=g.2.2.1/\g.2.2.1<=65535)/\(0<=g.2.2.2.1/\g.2.2.2.1<=4294967295)/\(0<=g.2.2.2.2.1/\g.2.2.2.2.1<=4294967295)/\(0<=g.2.2.2.2.2.1/\g.2.2.2.2.2.1<=31)/\(0<=g.2.2.2.2.2.2.1/\g.2.2.2.2.2.2.1<=65535)/\g.2.2.2.2.2.2.2.length<=320:=by have hl:=H0 h;unfold vr at h;rw[h6]at h;simp only[af,aX,show((6:Int)==17)=false from rfl,ae]at h;exact⟨h.1,h.2.1,h.2.2.2.2.1,h.2.2.2.2.2.1,h.2.2.2.2.2.2.1,h.2.2.2.2.2.2.2,hl⟩
theorem R8 (h:vr g=true)(h6:g.1=6){s f:Int}(hs:0<=s/\s<=4294967295)(hf:0<=f/\f<=31)(hx:x.length<=320):vr (g.1,g.2.1,g.2.2.1,s,g.2.2.2.2.1,f,g.2.2.2.2.2.2.1,x)=true:=by have k:=afT h h6;rw[h6];exact aa2 k.1 k.2.1 hs k.2.2.2.1 hf k.2.2.2.2.2.1 hx
theorem E9 (h:ql p=true){i:Int}(hi:0<=i/\i<=65535)(hg:vr g=true):ql (p.1,p.2.1,p.2.2.1,p.2.2.2.1,i,p.2.2.2.2.2.1,p.2.2.2.2.2.2.1,p.2.2.2.2.2.2.2.1,g)=true:=by unfold ql at h⊢;simp only[af]at h⊢;exact⟨h.1,h.2.1,h.2.2.1,h.2.2.2.1,h.2.2.2.2.1,aX.2 hi,h.2.2.2.2.2.2.1,h.2.2.2.2.2.2.2.1,hg⟩
theorem Q0 (h:ql p=true):0<=p.2.2.2.2.1/\p.2.2.2.2.1<=65535:=by unfold ql at h;simp only[af]at h;exact aX.1 h.2.2.2.2.2.1
theorem aoi {i:Int}(h:0<=i/\i<=65535):0<=tmod (ar (i+1)) 65536/\tmod (ar (i+1)) 65536<=65535:=by rw[aj];have h1:=Int.tmod_nonneg 65536 (a:=i+1) (by omega);have h2:=Int.tmod_lt_of_pos (i+1) (b:=65536) (by omega);omega
theorem alE {s:Int}{n:Nat}(h:0<=s/\s<=4294967295)(hn:n<=320):0<=tmod (ar (s+(n:Int))) 4294967296/\tmod (ar (s+(n:Int))) 4294967296<=4294967295:=by rw[aj];have h1:=Int.tmod_nonneg 4294967296 (a:=s+(n:Int)) (by omega);have h2:=Int.tmod_lt_of_pos (s+(n:Int)) (b:=4294967296) (by omega);omega
theorem Ix (v:Vector):Kf v=true↔1<=v.2.2.1/\(v.1<=v.2.2.1\/v.2.1<=v.2.2.2.1):=by unfold Kf;by_cases h1:v.2.2.1>=1;rw[au h1,ah];by_cases h2:v.2.2.1>=v.1;rw[au h2];simp;omega;rw[aq h2,ae,aG];omega;rw[aq h1];simp;omega
theorem arI (v:Vector):fy v=(cY v.1 1 64&&(cY v.2.1 0 64&&(cY v.2.2.1 0 1000000&&(cY v.2.2.2.1 0 1000000&&((decide (v.2.2.1>0)||(v.2.2.2.1==0))&&(v.2.2.2.2.2==(Kf v&& !v.2.2.2.2.1))))))):=by have h:=sZ v;unfold hZ at h;simp only[cn,af3,ab]at h;generalize fy v=w at h⊢;revert h;cases cY v.1 1 64;(intro h;cases h;rfl);cases cY v.2.1 0 64;(intro h;cases h;rfl);cases cY v.2.2.1 0 1000000;(intro h;cases h;rfl);cases cY v.2.2.2.1 0 1000000;(intro h;cases h;rfl);cases decide (v.2.2.1>0)<;>cases (v.2.2.2.1==0)<;>cases Kf v<;>(intro h;cases h;rfl)
theorem AF (v:Vector):fy v=true↔(1<=v.1/\v.1<=64)/\(0<=v.2.1/\v.2.1<=64)/\(0<=v.2.2.1/\v.2.2.1<=1000000)/\(0<=v.2.2.2.1/\v.2.2.2.1<=1000000)/\(v.2.2.1>0\/v.2.2.2.1=0)/\v.2.2.2.2.2=(Kf v&& !v.2.2.2.2.1):=by rw[arI];simp only[af,aX,dk,aG,ba]
theorem K1 (h1:1<=v.1/\v.1<=64)(h2:0<=v.2.1/\v.2.1<=64)(h3:0<=v.2.2.1/\v.2.2.1<=1000000)(h4:0<=v.2.2.2.1/\v.2.2.2.1<=1000000)(h5:v.2.2.1>0\/v.2.2.2.1=0)(hr:v.2.2.2.2.2=true->Kf v=true/\v.2.2.2.2.1=false):fy (Hf v)=true:=by unfold Hf;cases hd:Kf v&& !v.2.2.2.2.1 with|true=>exact(AF _).2 ⟨h1,h2,h3,h4,h5,by show true=(Kf v&& !v.2.2.2.2.1);rw[hd]⟩|false=>refine(AF _).2 ⟨h1,h2,h3,h4,h5,?_⟩;rw[ae,hd];cases hv:v.2.2.2.2.2 with|false=>rfl|true=>have:=hr hv;rw[this.1,this.2]at hd;cases hd
theorem Gl (h:fy v=true)(hr:v.2.2.2.2.2=true):Kf v=true/\v.2.2.2.2.1=false:=by have:=((AF v).1 h).2.2.2.2.2;rw[hr]at this;cases hd:Kf v with|false=>rw[hd]at this;cases this|true=>rw[hd]at this;cases hm:v.2.2.2.2.1 with|true=>rw[hm]at this;cases this|false=>exact⟨rfl,rfl⟩
theorem amZ (h:0<=n/\n<=1000000):n<=upM n/\0<upM n/\upM n<=1000000:=by unfold upM;rw[aj];split<;>omega
theorem arJ (h:fy v=true):fy (evV v)=true:=by have k:=(AF v).1 h;have u:=amZ k.2.2.1;unfold evV;rw[h,ah];refine K1 (v:=(v.1,v.2.1,upM v.2.2.1,v.2.2.2)) k.1 k.2.1 ⟨by show 0<=upM v.2.2.1;omega,u.2.2⟩ k.2.2.2.1 (Or.inl u.2.1) λhr=>?_;have d:=Gl h hr;have d1:=(Ix v).1 d.1;exact⟨(Ix _).2 ⟨by show 1<=upM v.2.2.1;omega,by show v.1<=upM v.2.2.1\/v.2.1<=v.2.2.2.1;omega⟩,d.2⟩
theorem am2 (h:fy v=true):fy (abA v)=true:=by have k:=(AF v).1 h;have u:=amZ k.2.2.2.1;unfold abA;rw[h,ah];by_cases h0:v.2.2.1>0;rw[au h0,ah];refine K1 (v:=(v.1,v.2.1,v.2.2.1,upM v.2.2.2.1,v.2.2.2.2)) k.1 k.2.1 k.2.2.1 ⟨by show 0<=upM v.2.2.2.1;omega,u.2.2⟩ (Or.inl h0) λhr=>?_;have d:=Gl h hr;have d1:=(Ix v).1 d.1;exact⟨(Ix _).2 ⟨d1.1,by show v.1<=v.2.2.1\/v.2.1<=upM v.2.2.2.1;omega⟩,d.2⟩;rw[aq h0,ae];exact K1 k.1 k.2.1 k.2.2.1 k.2.2.2.1 k.2.2.2.2.1 λhr=>Gl h hr
theorem am1 (h:fy v=true):fy (G5 v).1=true:=by have k:=(AF v).1 h;unfold G5;cases fy v&&v.2.2.2.2.2 with|false=>exact h|true=>exact(AF _).2 ⟨k.1,k.2.1,⟨dB _,by show(0:Int)<=1000000;omega⟩,⟨dB _,by show(0:Int)<=1000000;omega⟩,Or.inr rfl,by show false=(_&& !true);simp⟩
theorem aeT (h:fy v=true):fy (Mu v)=true:=by have k:=(AF v).1 h;unfold Mu;rw[h,ah];refine K1 (v:=(v.1,v.2.1,v.2.2.1,v.2.2.2.1,false,v.2.2.2.2.2)) k.1 k.2.1 k.2.2.1 k.2.2.2.1 k.2.2.2.2.1 λhr=>?_;exact⟨(Ix _).2 ((Ix v).1 (Gl h hr).1),rfl⟩
theorem ai3 (h:fy v=true):fy (v.1,v.2.1,0,0,false,false)=true:=by have k:=(AF v).1 h;exact(AF _).2 ⟨k.1,k.2.1,⟨dB _,by show(0:Int)<=1000000;omega⟩,⟨dB _,by show(0:Int)<=1000000;omega⟩,Or.inr rfl,by simp[Kf]⟩
structure DC (n:Int) (r:cU):Prop where
 ring:dF r.1=true
 dev:gn r.2.1=true
 drv:gn r.2.2.1=true
 base:r.2.1.1=r.2.2.1.1
 size:r.2.1.2.1=r.2.2.1.2.1
 drop:0<=r.2.2.2.2.2/\r.2.2.2.2.2<=n
 held:r.2.2.2.2.1=true->dw r.2.2.2.1.1=true/\(0<=r.2.2.2.1.2.1/\r.2.2.2.1.2.1<=320)/\1<=r.2.2.2.1.2.2/\r.2.2.2.1.2.2<=320
 free:r.2.2.2.2.1=false->r.2.2.2.1=aiZ
theorem al2 (r:cU):KS r=true↔DC 1000000000000 r:=by constructor;intro h;unfold KS at h;rw[af]at h;simp only[af,ba,aX]at h;obtain⟨⟨h1,h2,h3,h4,h5,h6⟩,h7⟩:=h;refine⟨h1,h2,h3,h4,h5,h6,λhh=>?_,λhh=>?_⟩;rw[hh,ah]at h7;simp only[af,aX]at h7;exact⟨h7.1,h7.2.1,h7.2.2⟩;rw[hh,ae]at h7;exact(amp _).1 h7;intro h;unfold KS;rw[af];simp only[af,ba,aX];refine⟨⟨h.ring,h.dev,h.drv,h.base,h.size,h.drop⟩,?_⟩;cases hh:r.2.2.2.2.1 with|true=>have:=h.held hh;simp only[ah,af,aX];exact⟨this.1,this.2.1,this.2.2⟩|false=>rw[ae];exact(amp _).2 (h.free hh)
theorem DC.mono {m:Int}{r:cU}(h:DC n r)(hn:n<=m:=by omega):DC m r:=⟨h.ring,h.dev,h.drv,h.base,h.size,⟨h.drop.1,by have:=h.drop.2;omega⟩,h.held,h.free⟩
theorem DC.rx {r:cU}(h:DC n r)(hn:n<=1000000000000):KS r=true:=(al2 r).2 (h.mono hn)
theorem ahH (h:dv m=true)(l:aw aN)(d:Int)(q:uK)(x:Hc):dv (Fv l m d q x).1=true:=by
 unfold Fv;cases !gn q|| !Ev x;case true=>exact h
 cases (kH l m d (sX q) (Wr x (C9 q)) true).2 with|false=>exact h|true=>exact HN h ..
theorem ahI (h:dv m=true)(l:aw aN)(d:Int)(q:cU)(k s:Bytes):dv (kt l m d q k s).1=true:=by
 unfold kt;cases !(dJ s).2||(((dJ s).1.1 !=3)||decide ((dJ s).1.2.2.1<((dS q.2.2.2.1.1).1.length:Int)));case true=>exact h
 cases (kH l m d (dJ s).1.2.2.2.1 (dS q.2.2.2.1.1).1 true).2 with|false=>exact h|true=>exact ahH (HN h ..) ..
theorem aoE {l:aw aN}{k:Bytes}(hm:dv m=true)(hq:gn q.2.1=true):gn (kt l m d q k s).2.1=true/\(kt l m d q k s).2.1.1=q.2.1.1/\(kt l m d q k s).2.1.2.1=q.2.1.2.1:=(VE (n:=128) (by omega) (U4 (by omega) (tT.1 hm)) hq).2.2
theorem Kk (hn:n<=900000000000)(h:DC n q)(hm:dv m=true)(l:aw aN)(d:Int)(k:Bytes):dv (ki l m d q k).1=true/\DC (n+320) (ki l m d q k).2:=by
 unfold ki;cases hc: !KS q||(!q.2.2.2.2.1||((k.length:Int) !=16));case true=>exact⟨hm,h.mono⟩
 simp only[cI,dX]at hc;have hh:=h.held hc.2.1;have hd:=h.drop;have hr:=Ve h.ring l m d;have hs:=aoE (l:=l) (d:=d) (k:=k) (s:=(bL l m d q.1).1) hm h.dev;simp only[ae];cases (bL l m d q.1).2.2&&(kt l m d q k (bL l m d q.1).1).2.2 with|true=>exact⟨ahI hm ..,hr.1,hs.1,h.drv,hs.2.1.trans h.base,hs.2.2.trans h.size,⟨hd.1,by show q.2.2.2.2.2<=n+320;omega⟩,λhf=>(by cases hf),λ_=>rfl⟩|false=>refine⟨hm,hr.1,h.dev,h.drv,h.base,h.size,?_,λhf=>(by cases hf),λ_=>rfl⟩;show 0<=ar (q.2.2.2.2.2+q.2.2.2.1.2.2)/\ar (q.2.2.2.2.2+q.2.2.2.1.2.2)<=n+320;rw[aj];omega
theorem anZ {s:uF}(h:O3 s p=true):dw (Jy s p).1=true/\(0<=(Jy s p).2.1/\(Jy s p).2.1<=320)/\1<=(Jy s p).2.2/\(Jy s p).2.2<=320:=by
 have hl:=VX h;unfold Jy;rw[h,ah];simp only[O3,akN,Vn,af,aG,aX,ba]at h;obtain⟨⟨hs,hp,asN,h6,h16,hf⟩,⟨hz,hc,hn,Ha,azb⟩,_⟩:=h;have ay9:s.2.2+1<=320:=by
  have:s.2.2<=s.2.1*s.2.2:=by have:=Int.mul_le_mul_of_nonneg_right hz (show 0<=s.2.2 by omega);omega
  omega
 have asV:s.2.1<=320:=by
  have:s.2.1<=s.2.1*s.2.2:=by have:=Int.mul_le_mul_of_nonneg_left hc.1 (show 0<=s.2.1 by omega);omega
  omega
 refine⟨?_,⟨by show 0<=s.2.1;omega,asV⟩,?_⟩;have hh:ql s.1=true:=by unfold dw at hs;simp only[af]at hs;exact hs.1
 have hk:s.1.2.2.2.2.2.2.2.2.1=6:=by
  have e:s.1.2.2.2.2.2.2.2.2.1=p.2.2.2.2.2.2.2.2.1:=by have h2:=asN;unfold aaD at h2;simp only[af,ba]at h2;exact h2.2.2.2.2.2.2.2.1
  rw[e];exact h6
 have hsg:=CU hh;have hfl:cY p.2.2.2.2.2.2.2.2.2.2.2.2.2.1 0 31=true:=LN hp (by rw[h6];rfl);have hg:=R8 hsg hk (afT hsg hk).2.2.1 (aX.1 hfl) (x:=s.1.2.2.2.2.2.2.2.2.2.2.2.2.2.2.2++p.2.2.2.2.2.2.2.2.2.2.2.2.2.2.2) (by rw[ai];omega);unfold dw;rw[af];refine⟨E9 hh (Q0 hh) hg,?_⟩;show(_||(s.1.2.2.2.2.2.2.2.2.1==6)&&FR p.2.2.2.2.2.2.2.2.2.2.2.2.2.1)=true;rw[hk,hf];simp;show 1<=ar (s.2.2+1)/\ar (s.2.2+1)<=320;rw[aj];omega
theorem anG (h:DC n q){s:uF}(hs:dw s.1=true)(h1:0<=s.2.1/\s.2.1<=320)(h2:1<=s.2.2/\s.2.2<=320):DC n (Q1 q s):=⟨h.ring,h.dev,h.drv,h.base,h.size,h.drop,λ_=>⟨hs,h1,h2⟩,λhf=>(by cases hf)⟩
theorem aiu (h:eQ p=true):dw (nB p).1=true/\(0<=(nB p).2.1/\(nB p).2.1<=320)/\1<=(nB p).2.2/\(nB p).2.2<=320:=by
 have hl:=Ky h;have hs:dw p=true:=by unfold eQ at h;simp only[af]at h;exact h.1
 refine⟨hs,?_,by show(1:Int)<=1/\(1:Int)<=320;omega⟩;show 0<=(p.2.2.2.2.2.2.2.2.2.2.2.2.2.2.2.length:Int)/\(p.2.2.2.2.2.2.2.2.2.2.2.2.2.2.2.length:Int)<=320;omega
theorem Yc (hn:n<=800000000000)(h:DC n q)(hm:dv m=true)(l:aw aN)(d:Int)(k:Bytes)(p:aD)(c:Bool):dv (pA l m d q k p c).1=true/\DC (n+640) (pA l m d q k p c).2:=by
 unfold pA;cases hc: !KS q||(!eQ p||((k.length:Int) !=16));case true=>exact⟨hm,h.mono⟩
 simp only[cI,dX]at hc;have hs:=aiu hc.2.1;have hf:=Kk (by omega) h hm l d k;have CV:=anG hf.2 hs.1 hs.2.1 hs.2.2;simp only[ae];cases hj:c&&(q.2.2.2.2.1&&O3 q.2.2.2.1 p)with|true=>simp only[af]at hj;have j:=anZ hj.2.2;exact⟨hm,h.ring,h.dev,h.drv,h.base,h.size,⟨h.drop.1,by show q.2.2.2.2.2<=n+640;have:=h.drop.2;omega⟩,λ_=>j,λhf=>(by have hf:q.2.2.2.2.1=false:=hf;rw[hj.2.1]at hf;cases hf)⟩|false=>simp only[ae];cases c with|true=>exact⟨hf.1,CV.mono⟩|false=>have:=Kk (by omega) CV hf.1 l d k;exact⟨this.1,this.2.mono⟩
theorem arv {l:aw aN}{q:uK}(h:gn q=true):gn (uJ l m d q).2.1=true/\(uJ l m d q).2.1.1=q.1/\(uJ l m d q).2.1.2.1=q.2.1:=by unfold uJ;cases Xd l m d q with|false=>exact⟨h,rfl,rfl⟩|true=>have k:=xT h;refine⟨?_,rfl,rfl⟩;have e:=XV (a:=q.2.2+1) (b:=2*q.2.1);simp only[ah,apg,gn,af,aX]at h⊢;refine⟨h.1,h.2.1,?_⟩;rw[CG h.2.1];omega
theorem ad6 {s:aw Stream×cU×ei}(h:DC n s.2.1)(hp:dN s.2.2=true)(l:aw aN)(m:bV)(d:Int):DC n (HQ l m d s).2.1/\dN (HQ l m d s).2.2=true:=by have k:=arv (l:=l) (m:=m) (d:=d) h.drv;exact⟨⟨h.ring,h.dev,k.1,h.base.trans k.2.1.symm,h.size.trans k.2.2.symm,h.drop,h.held,h.free⟩,ah9 hp _⟩
theorem RR (l:aw aN)(m:bV)(d:Int):∀(k:Nat)(s:aw Stream×cU×ei),DC n s.2.1->dN s.2.2=true->DC n (kS l m d k s).2.2.1/\dN (kS l m d k s).2.2.2=true
 |0,s,h,hp=>⟨h,hp⟩
 |k+1,s,h,hp=>by rw[kS];cases (uJ l m d s.2.1.2.2.1).2.2 with|false=>exact⟨h,hp⟩|true=>have e:=ad6 h hp l m d;exact RR l m d k _ e.1 e.2
theorem QE (l:aw aN)(d:Int)(p:ei):∀(q:bQ)(m:bV)(r:od),dv m=true->dF r=true->dv (uG l d p q m r).2.1=true/\dF (uG l d p q m r).2.2=true
 |[],m,r,hm,hr=>⟨hm,hr⟩
 |b::q,m,r,hm,hr=>by rw[uG];cases (eu l m d r (iB p b)).2.2 with|false=>exact⟨hm,hr⟩|true=>exact QE l d p q _ _ (N6 hm ..) (aaW hr ..).1
theorem Uc (hm:dv m=true)(hr:dF r=true){p:ei}(hp:dN p=true)(l:aw aN)(d:Int):dv (yH l m d r p).1=true/\dF (yH l m d r p).2.1=true/\dN (yH l m d r p).2.2.1=true:=by unfold yH;rw[hr,hp];have k:=QE l d p p.2.2.2 m r hm hr;exact⟨k.1,k.2,HR hp (List.drop_sublist _ _)⟩
theorem Va {rx:cU}(h:DC n rx)(hm:dv m=true){pl:ei}(hp:dN pl=true)(l:aw aN)(d:Int)(st:aw Stream)(c:Int):dv (mS l m d rx pl st c).1=true/\DC n (mS l m d rx pl st c).2.1/\dN (mS l m d rx pl st c).2.2.1=true:=by
 unfold mS;cases !KS rx||(!dN pl|| !cY c 0 1000);case true=>exact⟨hm,h,hp⟩
 have k:=RR l m d c.toNat (st,rx,pl) h hp;have f:=Uc hm k.1.ring k.2 l d;exact⟨f.1,⟨f.2.1,k.1.dev,k.1.drv,k.1.base,k.1.size,k.1.drop,k.1.held,k.1.free⟩,f.2.2⟩
structure Good (n:Int) (h:Host):Prop where
 mem:dv h.1=true
 maps:gF h.2.1=true
 tx:KT h.2.2.1
 sF:dG h.2.2.2.2.2.2.2.1=true
 lens:qu h=true
 SW:eC h.2.2.2.2.2.2.2.2.1 (h.2.2.2.1.length:Int)=true
 rx:∀r∈h.2.2.2.1,DC n r
 pool:∀p∈h.2.2.2.2.1,dN p=true
 vec:∀v∈h.2.2.2.2.2.1,fy v=true
 Kb:∀x∈gX h,0<=x/\x<=n
theorem Good.mono {m:Int}(g:Good n h)(hn:n<=m:=by omega):Good m h:=⟨g.mem,g.maps,g.tx,g.sF,g.lens,g.SW,λr hr=>(g.rx r hr).mono hn,g.pool,g.vec,λx hx=>⟨(g.Kb x hx).1,by have:=(g.Kb x hx).2;omega⟩⟩
theorem akU (h:Host):eL h=true↔Good 1000000000000 h:=by unfold eL Vf;simp only[af,aF,aX,arH,al2];constructor;rintro⟨h1,h2,h3,h4,h5,h6,⟨h7,h8,h9⟩,h10⟩;exact⟨h1,h2,h3,h4,h5,h6,h7,h8,h9,h10⟩;intro g;exact⟨g.mem,g.maps,g.tx,g.sF,g.lens,g.SW,⟨g.rx,g.pool,g.vec⟩,g.Kb⟩
theorem Good.ok (g:Good n h)(hn:n<=1000000000000):eL h=true:=(akU h).2 (g.mono hn)
theorem vI {P:α->Prop}{l:aw α}{v:α}(h:∀x∈l,P x)(hv:P v):∀x∈l.set i v,P x:=by intro x hx;rcases cd hx with g|g;exact h x g;rw[g];exact hv
theorem anC (g:Good n h)(k:Nat):Good n (evS k h):=by unfold evS;cases hv:h.2.2.2.2.2.1[k]? with|none=>exact g|some v=>exact⟨g.mem,g.maps,g.tx,g.sF,by have:=g.lens;unfold qu at this⊢;rw[ay];exact this,g.SW,g.rx,g.pool,vI g.vec (arJ (g.vec v (aU hv))),g.Kb⟩
theorem Zd (g:Good n h)(k:Nat):∀i,Good n (evH k i h)
 |0=>g
 |i+1=>anC (Zd g k i) k
theorem NZ (g:Good n h)(k:Nat)(b:Int){f:bV×cU}(h1:dv f.1=true)(h2:DC n f.2):Good n (KJ h k b f):=by refine Zd (h:=LW h k f) ⟨h1,g.maps,g.tx,g.sF,?_,?_,vI g.rx h2,g.pool,g.vec,g.Kb⟩ _ _;have:=g.lens;unfold qu LW at*;simp only[ay];exact this;show eC _ ((h.2.2.2.1.set k f.2).length:Int)=true;rw[ay];exact g.SW
theorem Zf (hn:n<=800000000000)(g:Good n h)(k:Nat):Good (n+320) (re k h):=by unfold re;cases hx:h.2.2.2.1[k]? with|none=>exact g.mono|some x=>have f:=Kk (by omega) (g.rx x (aU hx)) g.mem h.2.1 0 h.2.2.2.2.2.2.2.2.1.2.2.1;exact NZ (g.mono) k _ f.1 f.2
theorem ac5 (hn:n<=700000000000)(g:Good n h):Good (n+640) (CQ h):=by
 unfold CQ;have hl:=rN g.lens;cases eL h with
 |false=>exact g.mono
 |true=>
  have key:∀k:Nat,k<=2->Good (n+320*(k:Int)) (mu re k h):=by intro k;induction k with|zero=>intro _;exact g.mono|succ k ih=>intro hk;exact(Zf (by omega) (ih (by omega)) k).mono
  exact(key _ hl.1).mono (by have:=hl.1;omega)
theorem Uv (g:Good n h):Good n (Bi h):=by
 unfold Bi;cases eL h with
 |false=>exact g
 |true=>
  have key:∀k,Good n (mu Bj k h):=by intro k;induction k with|zero=>exact g|succ k ih=>show Good n (Bj k (mu Bj k h));generalize mu Bj k h=s at ih⊢;unfold Bj;cases hv:s.2.2.2.2.2.1[k]? with|none=>exact ih|some v=>exact⟨ih.mem,ih.maps,ih.tx,ih.sF,by have:=ih.lens;unfold qu at this⊢;rw[ay];exact this,ih.SW,ih.rx,ih.pool,vI ih.vec (am2 (ih.vec v (aU hv))),ih.Kb⟩
  exact key _
theorem agZ (g:Good n h)(p:aD)(c z:Int):Good n (Fz h p c z).1:=by unfold Fz;cases eL h with|false=>exact g|true=>have k:=aiq g.tx g.mem h.2.1 0 p c z;exact⟨k.1,g.maps,k.2,g.sF,g.lens,g.SW,g.rx,g.pool,g.vec,g.Kb⟩
theorem Jp (g:Good n h):Good n (gy h):=by unfold gy;cases eL h with|false=>exact g|true=>have r:=Ii h.2.1 h.1 0 17 [] 0 0 h.2.2.1.1 g.tx.ring;exact⟨g.mem,g.maps,abC (aoK g.tx r.1 r.2) _,g.sF,g.lens,g.SW,g.rx,g.pool,g.vec,g.Kb⟩
theorem Hi {x:Int}(h:0<=x/\x<=n)(hn:n<=800000000000:=by omega):0<=ar (x+1)/\ar (x+1)<=n+1:=by rw[aj];omega
theorem FW (hn:n<=800000000000)(g:Good n h){a c:Int}(ha:0<=a/\a<=n+1)(hb:0<=b/\b<=n+1)(hc:0<=c/\c<=n+1)(hd:0<=d/\d<=n+1):Good (n+1) (FM h a b c d):=by have k:=g.mono (show n<=n+1 by omega);refine⟨k.mem,k.maps,k.tx,k.sF,k.lens,k.SW,k.rx,k.pool,k.vec,λx hx=>?_⟩;have h1:=Hi (g.Kb _ (List.mem_cons_self ..)) hn;simp only[gX,FM,bZ,List.not_mem_nil,or_false]at hx;rcases hx with rfl|rfl|rfl|rfl|rfl;exact h1;exact ha;exact hb;exact hc;exact hd
theorem Ll (hn:n<=700000000000)(g:Good n h)(x:Bytes):Good (n+641) (oK h x):=by
 have c1:=g.Kb h.2.2.2.2.2.2.2.2.2.2.2.2.2.2.2.1 (by simp[gX]);have c2:=g.Kb h.2.2.2.2.2.2.2.2.2.2.2.2.2.2.2.2.1 (by simp[gX]);have c3:=g.Kb h.2.2.2.2.2.2.2.2.2.2.2.2.2.2.2.2.2.1 (by simp[gX]);have c4:=g.Kb h.2.2.2.2.2.2.2.2.2.2.2.2.2.2.2.2.2.2 (by simp[gX]);have u:∀{y:Int},0<=y/\y<=n->0<=y/\y<=n+1:=λhy=>⟨hy.1,by omega⟩
 unfold oK;cases eL h;exact g.mono;cases (eM x).2 !=0;case true=>exact(FW (by omega) g (Hi c1) (u c2) (u c3) (u c4)).mono
 cases !su h.2.2.2.2.2.2.2.1 (eM x).1;case true=>exact(FW (by omega) g (u c1) (Hi c2) (u c3) (u c4)).mono
 cases rk h.2.2.2.2.2.2.2.2.1 (h.2.2.2.1.length:Int) (eM x).1== -1;case true=>exact(FW (by omega) g (u c1) (u c2) (Hi c3) (u c4)).mono
 simp only[al,ae];cases hq:h.2.2.2.1[(rk h.2.2.2.2.2.2.2.2.1 (h.2.2.2.1.length:Int) (eM x).1).toNat]? with|none=>exact g.mono|some q=>have a:=Yc (by omega) (g.rx q (aU hq)) g.mem h.2.1 0 h.2.2.2.2.2.2.2.2.1.2.2.1 (eM x).1 h.2.2.2.2.2.2.2.2.2.2.1;exact NZ ((FW (by omega) g (u c1) (u c2) (u c3) (Hi c4)).mono) _ _ a.1 (a.2.mono)
theorem Zh (g:Good n h)(i:Nat)(c:Int):Good n (Dc h i c).2:=by unfold Dc;rcases h1:h.2.2.2.1[i]? with _|rx;exact g;rcases h2:h.2.2.2.2.1[i]? with _|pl;exact g;have k:=Va (g.rx rx (aU h1)) g.mem (g.pool pl (aU h2)) h.2.1 0 h.2.2.2.2.2.2.2.2.2.1 c;refine⟨k.1,g.maps,g.tx,g.sF,?_,?_,vI g.rx k.2.1,vI g.pool k.2.2,g.vec,g.Kb⟩;have:=g.lens;unfold qu at*;simp only[ay];exact this;show eC _ ((h.2.2.2.1.set i _).length:Int)=true;rw[ay];exact g.SW
theorem Zj (b:Int)(k:Nat){s:Int×Host}(g:Good n s.2):Good n (Gs b k s).2:=by unfold Gs;rcases h1:s.2.2.2.2.2.2.1[k]? with _|v;exact g;rcases h2:s.2.2.2.2.2.2.2.1[k]? with _|p;exact g;rcases h3:s.2.2.2.2.1[k]? with _|x;exact g;rcases h4:s.2.2.2.2.2.1[k]? with _|pl;exact g;have hv:=am1 (g.vec v (aU h1));simp only;cases p||(G5 v).2 with|false=>refine⟨g.mem,g.maps,g.tx,g.sF,?_,g.SW,g.rx,g.pool,vI g.vec hv,g.Kb⟩;have:=g.lens;unfold qu at*;simp only[ae,ay];exact this|true=>have e:=Va (g.rx x (aU h3)) g.mem (g.pool pl (aU h4)) s.2.2.1 0 s.2.2.2.2.2.2.2.2.2.2.1 b;refine⟨e.1,g.maps,g.tx,g.sF,?_,?_,vI g.rx e.2.1,vI g.pool e.2.2,vI g.vec ?_,g.Kb⟩;have:=g.lens;unfold qu at*;simp only[ah,ay];exact this;show eC _ ((s.2.2.2.2.1.set k _).length:Int)=true;rw[ay];exact g.SW;cases decide ((mS s.2.2.1 s.2.1 0 x pl s.2.2.2.2.2.2.2.2.2.2.1 b).2.2.2.2<b)with|true=>exact aeT hv|false=>exact hv
theorem QU (b:Int)(g:Good n h):∀k,Good n (uS b k h).2
 |0=>g
 |k+1=>Zj b k (QU b g k)
theorem WA (g:Good n h)(b:Int):Good n (sW h b).1:=by unfold sW;cases eL h&&cY b 1 1000 with|false=>exact g|true=>exact QU b g _
theorem Lk (g:Good n h):∀k,Good n (rP h k)
 |0=>g
 |k+1=>Zh (Lk g k) k 1000
theorem agY (g:Good n h)(l:bQ):Good n (afR h l):=⟨g.mem,g.maps,g.tx,g.sF,g.lens,g.SW,g.rx,g.pool,g.vec,g.Kb⟩
theorem Jn (g:Good n h):∀k,Good n (returned h k)
 |0=>Lk g _
 |k+1=>by show Good n (Xs h.2.2.1.2.2.1 k (returned h k));have:=Jn g k;unfold Xs;cases h.2.2.1.2.2.1[k]? with|none=>exact this|some x=>exact agY this _
theorem aaI {a:Int}(ha:0<=a/\a<=130944:=by omega)(hb:1<=b/\b<=512:=by omega)(hn:0<=n/\n<=16:=by omega):kR a b n=((a,b,n,upto n.toNat),true)/\dN (a,b,n,upto n.toNat)=true:=by have h1:dN (a,b,n,[])=true:=Ft.2 ⟨ha,hb,hn,by simp,List.nodup_nil⟩;refine⟨by unfold kR;rw[h1];rfl,Ft.2 ⟨ha,hb,hn,?_,?_⟩⟩;intro x hx;simp only[upto,dH,bE]at hx;obtain⟨i,hi,rfl⟩:=hx;show 0<=Int.ofNat i/\Int.ofNat i<=n-1;simp only[Int.ofNat_eq_natCast];omega;show(upto n.toNat).Nodup;unfold upto;rw[List.Nodup,List.pairwise_map];exact List.nodup_range.imp λh he=>h (Int.ofNat.inj he)
theorem amX (c:Int)(hc:0<=c/\c<=65535):KT (Ep.1,Ep.2.1,Ep.2.2.1,c):=by
 have p:=aaI (a:=256) (b:=128) (n:=8);refine⟨HV,hc,λx hx=>(by cases hx),?_,by show(0:Int)<=16;omega⟩;show dN (ic (kR 256 128 8).1 [])=true;rw[p.1];have e:ic (256,128,8,upto (8:Int).toNat) []=(256,128,8,upto (8:Int).toNat):=by simp[ic]
 show dN (ic (256,128,8,upto (8:Int).toNat) [])=true;rw[e];exact p.2
theorem Wz (g:Good n h):Good n (ry h):=by have k:=Jn g h.2.2.1.2.2.1.length;exact⟨k.mem,k.maps,amX _ k.tx.next,k.sF,k.lens,k.SW,k.rx,k.pool,k.vec,k.Kb⟩
theorem ae1 (h:i<=8):0<=lr i/\lr i<=16000:=by unfold lr;omega
theorem U1 (hm:dv m=true)(l:aw aN)(hi:i<=8):dv (xQ l m i).1=true/\dF (xQ l m i).2.1=true/\dN (xQ l m i).2.2.1=true:=by have hb:=ae1 hi;have p:=aaI (a:=lr i+128) (b:=384) (n:=4);unfold xQ;rw[p.1];exact Uc (HN hm ..) (HV) p.2 l 0
theorem aa1 (hi:i<=8)(hr:dF r=true)(hd:0<=d/\d<=n):DC n (r,(lr i+64,4,0),(lr i+64,4,0),((0,0,0,0,0,0,0,0,0,0,0,0,0,0,0,([]:Bytes)),0,0),false,d):=by
 have hb:=ae1 hi;have hq:gn (lr i+64,4,0)=true:=by have hs:jB 4=true:=hR.2 (by omega);unfold gn;rw[af,af];exact⟨aX.2 (by omega),hs,by rw[CG hs];rfl⟩
 exact⟨hr,hq,hq,rfl,rfl,hd,λhf=>(by cases hf),λ_=>rfl⟩
theorem Zi (hn:n<=800000000000)(g:Good n h)(hi:i<=8):Good (n+320) (yZ i h):=by
 have gm:=g.mono (show n<=n+320 by omega);unfold yZ;rcases h1:h.2.2.2.1[i]? with _|x;exact gm;rcases h2:h.2.2.2.2.2.1[i]? with _|v;exact gm;have o:=U1 g.mem h.2.1 hi;have hx:=g.rx x (aU h1);have hd:0<=Jk x/\Jk x<=n+320:=by have d:=hx.drop;unfold Jk;cases hh:x.2.2.2.2.1 with|false=>simp only[ae];omega|true=>have:=hx.held hh;rw[ah,aj];omega
 refine⟨o.1,gm.maps,gm.tx,gm.sF,?_,?_,vI gm.rx (aa1 hi o.2.1 hd),vI gm.pool o.2.2,vI gm.vec (ai3 (g.vec v (aU h2))),gm.Kb⟩;have:=g.lens;unfold qu C8 at*;simp only[ay];exact this;show eC _ (((C8 h i (Jk x)).2.2.2.1).length:Int)=true;unfold C8;simp only[ay];exact g.SW
theorem Jm (hn:n<=700000000000)(g:Good n h):∀k:Nat,k<=8->Good (n+320*(k:Int)) (im h k)
 |0,_=>g.mono
 |k+1,hk=>(Zi (by omega) (Jm hn g k (by omega)) (i:=k) (by omega)).mono
theorem QS (hn:n<=700000000000)(g:Good n h):Good (n+640) (xV h):=by have hl:=rN g.lens;unfold xV;cases eL h with|false=>exact g.mono|true=>exact(Jm hn (Wz g) _ (by omega)).mono (by have:=hl.1;omega)
theorem akH (hn:n<=700000000000)(g:Good n h)(a:Act):Good (n+641) (O1 h a).1:=by
 unfold O1;cases !eL h|| !G8 a;case true=>exact g.mono
 simp only[ae];cases a.1==0;case true=>exact(agZ g _ _ _).mono
 cases a.1==1;case true=>exact(Jp g).mono
 cases a.1==2;case true=>exact Ll hn g _
 cases a.1==3;case true=>exact(ac5 hn g).mono
 cases a.1==4;case true=>exact(Uv g).mono
 cases a.1==5 with|true=>exact(WA g _).mono|false=>exact(QS hn g).mono
def ID:aE:=(0,0,(0,0,0),false,0,0)
def gU (b:uK):Bool:=cY b.1 0 10000&&(cY b.2.1 0 100000&&cY b.2.2 0 b.2.1)
def yI (n:Int)(f:aE):Bool:=cY f.1 0 7&&(cY f.2.1 1 (ar (n-1))&&(gU f.2.2.1&&(cY f.2.2.2.2.1 0 1000000000000&&cY f.2.2.2.2.2 0 1000000000000)))
def YS (f g:aE):Bool:=(g.1==f.1)||(g.2.1==f.2.1)
def fnB (l:aw aE)(n:Int)(i:Nat):Bool:=yI n (l.getD i ID)&&(range i).all (λj=> !(YS (l.getD i ID) (l.getD j ID)))
def ew (l:aw aE)(ps:aw Port):Bool:=gv ps&&(range l.length).all (fnB l (ps.length:Int))
theorem Dk (b:uK):nu b=some (gU b):=by simp only[nu,cn,ab,bB,cF,gU]
theorem Kt (b:uK):vf b=some (gU b):=Dk b
theorem JO (l:aw aE)(ps:aw Port)(h:l.length<=10^9)(h1:ps.length<=10^9)(h2:∀p∈ps,p.2.1.length<=10^9):oU l ps=some (ew l ps):=by
 unfold oU ew;rw[gO (hit:=some false) (fin:=some true) (fnB l (ps.length:Int)) l.length (by omega) (λi nx hi=>?hs) (λnx=>?hf)]
 case hs=>
  simp only[nV]
  rw[iH,bc hi,aj (n:=(i:Int)+1)]
  simp only[ah,ab,cn,Dk,bB,cT]
  rw[gO (hit:=some false) (fin:=nx ((i:Int)+1)) (λj=> !(YS l[i] (l.getD j ID))) i (by omega) (λj nx' hj=>?hs2) (λnx'=>?CV)]
  case hs2=>
   have X0:j<l.length:=by omega
   simp only[mY]
   rw[iH,bc X0,aj (n:=(j:Int)+1)]
   simp only[ah,ab,bB,cT,bN X0,ff];rfl
  case CV=>
   simp only[mY]
   rw[cD];rfl
  simp only[fnB,bN hi]
  rw[show(!cY l[i].1 0 7||(!cY l[i].2.1 1 (ar ((ps.length:Int)-1))||(!gU l[i].2.2.1||(!cY l[i].2.2.2.2.1 0 1000000000000|| !cY l[i].2.2.2.2.2 0 1000000000000))))= !yI (ps.length:Int) l[i] by unfold yI;simp only[iI]]
  cases yI (ps.length:Int) l[i]<;>cases (range i).all (λj=> !(YS l[i] (l.getD j ID)))<;>rfl
 case hf=>
  simp only[nV]
  rw[cD];rfl
 simp only[I0 ps h1 h2,ab];cases gv ps<;>cases (range l.length).all (fnB l (ps.length:Int))<;>rfl
theorem ED (l:aw aE)(ps:aw Port)(h:l.length<=10^9)(h1:ps.length<=10^9)(h2:∀p∈ps,p.2.1.length<=10^9):lz l ps=some (ew l ps):=by
 unfold lz ew;rw[gO (hit:=some false) (fin:=some true) (fnB l (ps.length:Int)) l.length (by omega) (λi nx hi=>?hs) (λnx=>?hf)]
 case hs=>
  simp only[nM]
  rw[iH,bc hi,aj (n:=(i:Int)+1),Sy l i (by omega)]
  simp only[ah,ab,dW,Kt,bB,cT]
  have hti:(l.take i).length=i:=by simp;omega
  rw[hti,gO (hit:=some false) (fin:=nx ((i:Int)+1)) (λj=> !(YS l[i] (l.getD j ID))) i (by omega) (λj nx' hj=>?hs2) (λnx'=>?CV)]
  case hs2=>
   have X0:j<l.length:=by omega
   have hjt:j<(l.take i).length:=by omega
   simp only[nN]
   rw[iH,bc hjt,aj (n:=(j:Int)+1),List.getElem_take]
   simp only[ah,ab,bB,cT,bN X0,ff];rfl
  case CV=>
   simp only[nN]
   rw[cD];rfl
  simp only[fnB,bN hi]
  rw[show(!cY l[i].1 0 7||(!cY l[i].2.1 1 (ar ((ps.length:Int)-1))||(!gU l[i].2.2.1||(!cY l[i].2.2.2.2.1 0 1000000000000|| !cY l[i].2.2.2.2.2 0 1000000000000))))= !yI (ps.length:Int) l[i] by unfold yI;simp only[iI]]
  cases yI (ps.length:Int) l[i]<;>cases (range i).all (λj=> !(YS l[i] (l.getD j ID)))<;>rfl
 case hf=>
  simp only[nM]
  rw[cD];rfl
 simp only[IL ps h1 h2,ab];cases gv ps<;>cases (range l.length).all (fnB l (ps.length:Int))<;>rfl
def pN (l:aw aE)(i:Nat):Bool:=((l.getD i ID).1==(i:Int))&&((l.getD i ID).2.1==(i:Int)+1)
theorem Rf (l:aw aE)(h:l.length<=10^9):sP l=some ((range l.length).all (pN l)):=by
 unfold sP;rw[gO (hit:=some false) (fin:=some true) (pN l) l.length (by omega) (λi nx hi=>?hs) (λnx=>?hf)]
 case hs=>
  simp only[rM]
  rw[iH,bc hi,aj (n:=(i:Int)+1)]
  simp only[ah,ab,bB,cT,bne,pN,bN hi]
  cases l[i].1==(i:Int)<;>cases l[i].2.1==(i:Int)+1<;>rfl
 case hf=>
  simp only[rM]
  rw[cD];rfl
 cases (range l.length).all (pN l)<;>rfl
theorem XE (a b:Filter)(h:a.2.2.length<=10^9):wO a b=some (MP a b):=F0 a b h
theorem Hw:∀(ms:aw bF)(i:Nat)(s:bQ×aw Port),X3 i s->ms.all iT=true->X3 (i+ms.length) (ms.foldl G4 s)
 |[],i,s,h,_=>h
 |m::ms,i,s,h,hm=>by rw[bX,af]at hm;have hu:=FF m.1.2.2 s.1;have hl:=C3 hm.1;have:=Hw ms (i+1) (G4 s m) (h.port hm.1 _) hm.2;rw[dL,bg,show i+(ms.length+1)=i+1+ms.length by omega];exact this
theorem Of (h:(bU ms).2=true):ms.length<=3:=by unfold bU at h;cases hq:cY (ms.length:Int) 1 3&&(ms.all iT&&gv (jR ms))with|false=>rw[hq]at h;cases h|true=>simp only[af]at hq;have:=aX.1 hq.1;omega
theorem Fu (ms:aw bF):(bU ms).1.length<=10^9/\∀p∈(bU ms).1,p.2.1.length<=10^9:=by unfold bU;cases hc:cY (ms.length:Int) 1 3&&(ms.all iT&&gv (jR ms))with|false=>exact⟨by simp,by simp⟩|true=>simp only[af,aX]at hc;have:=Hw ms 0 ([0],[]) ⟨by simp,rfl,by simp⟩ hc.2.1;rw[cO]at this;exact HP this
theorem aib (ms:aw bF):(bU ms).1.length<=4/\∀p∈(bU ms).1,p.2.1.length<=28:=by unfold bU;cases hc:cY (ms.length:Int) 1 3&&(ms.all iT&&gv (jR ms))with|false=>exact⟨by simp,by simp⟩|true=>simp only[af,aX]at hc;have h:=Hw ms 0 ([0],[]) ⟨by simp,rfl,by simp⟩ hc.2.1;rw[cO]at h;have h1:=h.1;have h2:=h.2.1;simp only[ah,jR];refine⟨by simp only[bg];omega,λp hp=>?_⟩;rcases bZ.1 hp with rfl|hp;simp only;omega;have:=h.2.2 p hp;omega
def WU (v:Int)(b:Bytes):Bytes:=((gw v++gw (b.length:Int))++b)++gw (NM ((gw v++gw (b.length:Int))++b))
def ec (v:Int)(b:Bytes):Bytes×Bool:=bif cY v 0 1000000&&decide (b.length<=84) then(WU v b,true) else([],false)
theorem Sj (v:Int)(b:Bytes)(h:b.length<=10^9):oY v b=some (ec v b):=by have l1:=dT v;have l2:=dT (b.length:Int);unfold oY ec;rw[aj];simp only[cn,ab];cases cY v 0 1000000 with|false=>rfl|true=>by_cases hb:b.length<=84;have l3:=dT (NM ((gw v++gw (b.length:Int))++b));rw[aq (show¬((b.length:Int)+12>96) by omega),au hb];simp only[al,ae,ab,bW,ah,kI];rw[aL,aL (by simp only[ai];omega),af2 _ (by simp only[ai];omega)];simp only[ab,kI];rw[aL (by simp only[ai];omega)];rfl;rw[au (show((b.length:Int)+12>96) by omega),aq hb];rfl
theorem ale (v:Int)(b:Bytes)(h:b.length<=10^9):xy v b=some (ec v b):=by have l1:=dT v;have l2:=dT (b.length:Int);unfold xy ec;rw[aj];simp only[dW,ab];cases cY v 0 1000000 with|false=>rfl|true=>by_cases hb:b.length<=84;have l3:=dT (NM ((gw v++gw (b.length:Int))++b));rw[aq (show¬(12+(b.length:Int)>96) by omega),au hb];simp only[al,ae,ab,bW,ah,CY];rw[aL,aL (by simp only[ai];omega),afu _ (by simp only[ai];omega)];simp only[ab,CY];rw[aL (by simp only[ai];omega)];rfl;rw[au (show(12+(b.length:Int)>96) by omega),aq hb];rfl
def ai4 (s:Bytes)(n:Nat):Int:=bif (ec (eK s 0) ((s.take (8+n)).drop 8)).2&&((ec (eK s 0) ((s.take (8+n)).drop 8)).1==s.take (12+n)) then eK s 0 else-1
def ix (s:Bytes):Int:=if 0<=eK s 4/\eK s 4<=(s.length:Int)-12 then ai4 s (eK s 4).toNat else-1
theorem YY (s:Bytes)(a:Int): -1<=eK s a/\eK s a<=4294967295:=by unfold eK;cases fG s a 4 with|false=>simp only[ae];omega|true=>have b0:=eJ s a.toNat;have b1:=eJ s (a.toNat+1);have b2:=eJ s (a.toNat+2);have b3:=eJ s (a.toNat+3);simp only[ah];omega
theorem ai5 {n:Nat}(h:¬n<=84)(hs:n+12<=s.length):ai4 s n= -1:=by
 have:(ec (eK s 0) ((s.take (8+n)).drop 8)).2=false:=by unfold ec;rw[aq (by simp only[aS,aP];omega),iu];rfl
 unfold ai4;rw[this];rfl
theorem Mj (s:Bytes)(h:s.length<=10^9:=by omega):jc s=some (ix s):=by
 unfold jc ix;have hg:=YY s 4;simp only[zg s _ h,cn,ab];rw[aj (n:=eK s 4+12),aj (n:=8+eK s 4)];generalize eK s 4=n at hg;by_cases hc:0<=n/\n<=(s.length:Int)-12;rw[aI hc];obtain⟨m,rfl⟩:=aO hc.1;by_cases h84:m<=84;have e1:cY (m:Int) 0 84=true:=aX.2 (by omega);have e2:sub s 8 (8+(m:Int))=some ((s.take (8+m)).drop 8):=by unfold sub;rw[zip];rfl
 have e3:sub s 0 ((m:Int)+12)=some (s.take (12+m)):=by unfold sub;rw[zip,show((m:Int)+12).toNat=12+m by omega];rfl
 rw[e1,aq (show¬((m:Int)+12>(s.length:Int)) by omega),e2,e3];simp only[al,ae,ab,ax];rw[Sj _ _ (by simp only[aS,aP];omega)];unfold ai4;simp only[ab];cases (ec (eK s 0) ((s.take (8+m)).drop 8)).2<;>cases ((ec (eK s 0) ((s.take (8+m)).drop 8)).1==s.take (12+m))<;>rfl;have e1:cY (m:Int) 0 84=false:=by rw[Bool.eq_false_iff,ne_eq,aX];omega
 rw[e1,ax,ai5 h84 (by omega)];rfl;rw[aK hc];by_cases hb:cY n 0 84=true;have:=aX.1 hb;rw[hb,au (show n+12>(s.length:Int) by omega)];rfl;have iz:cY n 0 84=false:=by simpa using hb
 rw[iz];rfl
theorem afx (s:Bytes)(h:s.length<=10^9:=by omega):mL s=some (ix s):=by
 unfold mL ix;have hg:=YY s 4;simp only[IJ s _ h,ab];rw[aj (n:=12+eK s 4),aj (n:=8+eK s 4),aj (n:=(s.length:Int)-12)];generalize eK s 4=n at hg;by_cases hc:0<=n/\n<=(s.length:Int)-12;rw[aI hc];obtain⟨m,rfl⟩:=aO hc.1;have e2:sub s 8 (8+(m:Int))=some ((s.take (8+m)).drop 8):=by unfold sub;rw[zip];rfl
 have e3:sub s 0 (12+(m:Int))=some (s.take (12+m)):=by unfold sub;rw[zip,show(12+(m:Int)).toNat=12+m by omega];rfl
 rw[aq (show¬((m:Int)<0) by omega),aq (show¬((m:Int)>(s.length:Int)-12) by omega),e2,e3];simp only[ae,ab,ax];rw[ale _ _ (by simp only[aS,aP];omega)];unfold ai4;simp only[ab];cases (ec (eK s 0) ((s.take (8+m)).drop 8)).2<;>cases ((ec (eK s 0) ((s.take (8+m)).drop 8)).1==s.take (12+m))<;>rfl;rw[aK hc];by_cases h0:n<0;rw[au h0];rfl;rw[aq h0,au (show n>(s.length:Int)-12 by omega)];rfl
def lb (f:bV):Bool:=((f.length:Int)==2)&&((((f.getD 0 []).length:Int)==96)&&(((f.getD 1 []).length:Int)==96))
theorem yR (h:lb f=true):f=[f.getD 0 [],f.getD 1 []]/\(f.getD 0 []).length=96/\(f.getD 1 []).length=96:=by simp only[lb,af,ba]at h;match f,h with|[a,b],h=>have h1:(a.length:Int)=96:=h.2.1;have h2:(b.length:Int)=96:=h.2.2;exact⟨rfl,by show a.length=96;omega,by show b.length=96;omega⟩
theorem IY (f:bV):ub f=some (lb f):=by
 unfold ub lb;match f with
 |[]=>rfl
 |[a]=>rfl
 |[a,b]=>have i0:idx [a,b] 0=some a:=rfl;have i1:idx [a,b] 1=some b:=rfl;rw[i0,i1];simp only[ab,bB,cF];rfl
 |a::b::c::r=>
  have:(((a::b::c::r).length:Int)==2)=false:=by simp only[bg,cg];omega
  rw[this];rfl
theorem ahi (f:bV):F6 f=some (lb f):=IY f
def gW (f:bV):Int:=bif lb f then(if ix (f.getD 0 [])<0/\ix (f.getD 1 [])<0 then-1 else if ix (f.getD 1 [])>ix (f.getD 0 []) then 1 else 0) else-1
theorem L4 (f:bV):nt f=some (gW f):=by unfold nt gW;rw[IY,ab];cases hf:lb f with|false=>rfl|true=>obtain⟨e,l0,l1⟩:=yR hf;generalize f.getD 0 []=a at*;generalize f.getD 1 []=b at*;subst e;have i0:idx [a,b] 0=some a:=rfl;have i1:idx [a,b] 1=some b:=rfl;simp only[al,ae,ah,i0,i1,ab,Mj a,Mj b];by_cases p:ix a<0<;>by_cases q:ix b<0<;>by_cases r:ix b>ix a<;>simp[p,q,r]
theorem ak6 (f:bV):zI f=some (gW f):=by
 unfold zI gW;rw[ahi,ab];cases hf:lb f with
 |false=>rfl
 |true=>
  obtain⟨e,l0,l1⟩:=yR hf;generalize f.getD 0 []=a at*;generalize f.getD 1 []=b at*;subst e;have i0:idx [a,b] 0=some a:=rfl;have i1:idx [a,b] 1=some b:=rfl;simp only[al,ae,ah,i0,i1,ab,afx a,afx b];by_cases r:ix b>ix a;have r':¬ix a>=ix b:=by omega
  by_cases p:ix a<0<;>by_cases q:ix b<0<;>simp[p,q,r,r'];have r':ix a>=ix b:=by omega
  by_cases p:ix a<0<;>by_cases q:ix b<0<;>simp[p,q,r,r']
def rb (c:od):Bool:=cY c.1 0 1125899906842624&&(cY c.2.1 0 1048575&&(cY c.2.2.1 0 67108864&&cY c.2.2.2 0 1099511627776))
theorem FB (c:od):pP c=some (rb c):=by simp only[pP,cn,ab,bB,cF,rb]
theorem ahf (c:od):F5 c=some (rb c):=FB c
def FL (c:cE)(i:Nat):Bool:=(c.1[i]?.all eL)&&MP (c.1[i]?.map (·.2.2.2.2.2.2.2.1)) (c.2.2.1[i]?.map (·.1))
def JA (c:cE):Bool:=((c.1.length:Int)==(c.2.2.1.length:Int))&&((c.2.1.length:Int)==(c.2.2.1.length:Int))
def jI (c:cE):Bool:=(bU c.2.2.1).2&&(JA c&&(ew c.2.1 (bU c.2.2.1).1&&((!decide (gW c.2.2.2.1<0)&&rb c.2.2.2.2.1)&&((range c.1.length).all (FL c)&&(range c.1.length).all (pN c.2.1)))))
structure PO (c:cE):Prop where
 h0:c.1.length<=10^9
 f0:c.2.1.length<=10^9
 m:∀m∈c.2.2.1,m.1.2.2.length<=10^9
 h1:∀h∈c.1,J2 h
theorem IQ {c:cE}(h:JA c=true):c.1.length=c.2.2.1.length/\c.2.1.length=c.2.2.1.length:=by unfold JA at h;simp only[af,ba]at h;omega
theorem J9 {c:cE}(i:Nat)(hi:i<c.1.length)(hj:i<c.2.2.1.length):FL c i=(eL c.1[i]&&MP c.1[i].2.2.2.2.2.2.2.1 c.2.2.1[i].1):=by unfold FL;rw[ak hi,ak hj];congr 1;apply Qy;rw[FO];simp
theorem ajl:∀(l:fA)(p q:Nat->Bool),l.all (λx=>p x&&q x)=(l.all p&&l.all q):=by intro l p q;induction l with|nil=>rfl|cons x l ih=>simp only[bX,ih];cases p x<;>cases q x<;>cases l.all p<;>rfl
theorem FA (c:cE)(z:PO c):mV c=some (jI c):=by
 have hp:=Fu c.2.2.1;unfold mV jI;simp only[Bb _ z.m,JO _ _ z.f0 hp.1 hp.2,L4,FB,ab,bB,cT,bne];rw[show((!((c.1.length:Int)==(c.2.2.1.length:Int)))||((!((c.2.1.length:Int)==(c.2.2.1.length:Int)))||((!ew c.2.1 (bU c.2.2.1).1)||(decide (gW c.2.2.2.1<0)|| !rb c.2.2.2.2.1))))= !(JA c&&(ew c.2.1 (bU c.2.2.1).1&&(!decide (gW c.2.2.2.1<0)&&rb c.2.2.2.2.1))) by unfold JA;simp only[iI,Bool.or_assoc,ff]];cases (bU c.2.2.1).2;rfl;cases hl:JA c;rfl;cases ew c.2.1 (bU c.2.2.1).1;rfl;cases (!decide (gW c.2.2.2.1<0)&&rb c.2.2.2.2.1);rfl;have hL:=IQ hl;have h0:=z.h0;simp only[al,cZ,fC,ae,aZ];rw[gO (hit:=some false) (fin:=some true) (λi=>FL c i&&pN c.2.1 i) c.2.2.1.length (by omega) (λi nx hi=>?hs) (λnx=>?hf)]
 case hs=>
  have q1:i<c.1.length:=by omega
  have q2:i<c.2.1.length:=by omega
  have hm:=aB q1
  rw[J9 i q1 hi]
  simp only[xY]
  rw[iH,bc q1,bc hi,bc q2,aj (n:=(i:Int)+1)]
  simp only[ah,ab,sY _ (z.h1 _ hm),XE _ _ (z.h1 _ hm).f1,bB,cT,bne,pN,bN q2]
  cases eL c.1[i]<;>cases MP c.1[i].2.2.2.2.2.2.2.1 c.2.2.1[i].1<;>cases c.2.1[i].1==(i:Int)<;>cases c.2.1[i].2.1==(i:Int)+1<;>rfl
 case hf=>
  simp only[xY]
  rw[cD];rfl
 rw[ajl,<-hL.1];cases (range c.1.length).all (FL c)<;>cases (range c.1.length).all (pN c.2.1)<;>rfl
theorem ak7 (c:cE)(z:PO c):D8 c=some (jI c):=by
 have hp:=Fu c.2.2.1;unfold D8 jI;simp only[AK _ z.m,ED _ _ z.f0 hp.1 hp.2,Rf _ z.f0,ak6,ahf,ab,bB,cT,cF,bne];rw[show((!((c.1.length:Int)==(c.2.2.1.length:Int)))|| !((c.2.1.length:Int)==(c.2.2.1.length:Int)))= !(JA c) by unfold JA;simp only[iI]];cases (bU c.2.2.1).2;rfl;cases hl:JA c;rfl;have hL:=IQ hl;have h0:=z.h0;simp only[al,cZ,ae,aZ];have hd:decide (gW c.2.2.2.1>=0)= !decide (gW c.2.2.2.1<0):=by by_cases h:gW c.2.2.2.1<0;rw[au h,cD];rfl;rw[aq h,iH];rfl
 rw[hd,gO (hit:=some false) (fin:=some (ew c.2.1 (bU c.2.2.1).1&&((range c.2.1.length).all (pN c.2.1)&&(!decide (gW c.2.2.2.1<0)&&rb c.2.2.2.2.1)))) (FL c) c.1.length (by omega) (λi nx hi=>?hs) (λnx=>?hf)]
 case hs=>
  have q1:i<c.2.2.1.length:=by omega
  have hm:=aB hi
  rw[J9 i hi q1]
  simp only[xq]
  rw[iH,bc hi,bc q1,aj (n:=(i:Int)+1)]
  simp only[ah,ab,ZI _ (z.h1 _ hm),F0 _ _ (z.h1 _ hm).f1,bB,cT]
  cases eL c.1[i]<;>cases MP c.1[i].2.2.2.2.2.2.2.1 c.2.2.1[i].1<;>rfl
 case hf=>
  simp only[xq]
  rw[cD];rfl
 rw[hL.2,<-hL.1];cases (range c.1.length).all (FL c)<;>cases (range c.1.length).all (pN c.2.1)<;>cases ew c.2.1 (bU c.2.2.1).1<;>cases (!decide (gW c.2.2.2.1<0)&&rb c.2.2.2.2.1)<;>rfl
theorem map_take {β:Type}(f:α->β)(l:aw α)(i:Nat)(hi:i<l.length):(l.take i).map f++[f l[i]]=(l.take (i+1)).map f:=by rw[aV hi,eH];rfl
theorem alX (x:α)(i:Nat):replicate i x++[x]=replicate (i+1) x:=by rw[<-List.replicate_append_replicate];rfl
theorem Bt (m:bF)(h:m.1.2.2.length<=10^9):lD m=some m:=by simp only[lD,ov _ h,ab]
theorem qy (m:bF)(h:m.1.2.2.length<=10^9):nk m=some m:=by simp only[nk,km _ h,ab]
theorem EC (l:aw bF)(h:l.length<=10^9)(hx:∀m∈l,m.1.2.2.length<=10^9):oC l=some l:=by unfold oC;refine(cK (λi=>(l.take i,(i:Int))) l.length (by omega) (λi nx hi=>?_) (λnx=>?_));simp only[rH];rw[iH,bc hi,aj];simp only[ah,ab,Bt _ (hx _ (aB hi))];rw[aL (by simp;omega),<-aV hi];rfl;simp only[rH];rw[cD,cf];rfl
theorem rA (l:aw aE)(h:l.length<=10^9):iQ l=some l:=by simp only[iQ,gq h,bz]
def aqG:cm:=(([]:aw yN),([]:aw bV),([]:aw aE),([]:aw bF),([]:bV))
def qn (c:cE):cm:=bif jI c then(c.1.map Dj,replicate c.1.length ([]:bV),c.2.1,c.2.2.1,c.2.2.2.2.2.2) else aqG
theorem ab0 {c:cE}(h:jI c=true):c.1.length=c.2.2.1.length/\c.2.1.length=c.2.2.1.length:=by unfold jI at h;simp only[af]at h;exact IQ h.2.1
theorem ZJ (c:cE)(hl:cB 1000000000 sq c)(z:PO c):xw c=some (qn c):=by have h0:=z.h0;unfold xw qn;rw[ak7 c z,ab];cases hc:jI c with|false=>rfl|true=>simp only[al,ae,ah,rA _ hl.2.1.1,EC _ hl.2.2.1.1 z.m,vL _ hl.2.2.2.2.2.2.1,ab];refine(cK (λi=>((i:Int),(c.1.take i).map Dj,replicate i ([]:bV),c.2.1,c.2.2.1,c.2.2.2.2.2.2)) c.1.length (by omega) (λi nx hi=>?_) (λnx=>?_));have hm:=aB hi;simp only[vN];rw[iH,bc hi,aj];simp only[ah,ab,adu _ (hl.1.2 _ hm) (z.h1 _ hm)];rw[aL (by simp;omega),aL (by simp;omega),map_take _ _ _ hi,alX];rfl;simp only[vN];rw[cD,cf];rfl
theorem WT (c:cE){n:Nat}(z:cB n sq c):cB n fT (qn c):=by unfold qn;cases jI c with|false=>exact⟨⟨bC _,λ_ h=>nomatch h⟩,⟨bC _,λ_ h=>nomatch h⟩,⟨bC _,λ_ h=>nomatch h⟩,⟨bC _,λ_ h=>nomatch h⟩,bC _,λ_ h=>nomatch h⟩|true=>refine⟨⟨?_,λx hx=>?_⟩,⟨?_,λx hx=>?_⟩,z.2.1,z.2.2.1,z.2.2.2.2.2.2⟩;show(c.1.map Dj).length<=n;rw[bw];exact z.1.1;obtain⟨h,hh,rfl⟩:=dH.1 hx;exact Vp h (z.1.2 h hh);show(replicate c.1.length ([]:bV)).length<=n;rw[List.length_replicate];exact z.1.1;have:=List.eq_of_mem_replicate hx;subst this;exact⟨bC _,λ_ h=>nomatch h⟩
def J4 (s:Bytes):Prop:=∀x∈s,x=0
theorem X6 (h:J4 s):s=replicate s.length 0:=List.eq_replicate_iff.2 ⟨rfl,h⟩
theorem SM (n:Nat):J4 (Dx n):=by intro x hx;simp only[Dx,bf,List.map_replicate]at hx;exact(List.mem_replicate.1 hx).2
theorem anh {t:Bytes}(h:J4 s)(k:J4 t)(e:s.length=t.length):s=t:=by rw[X6 h,X6 k,e]
theorem ato {o:Nat}{t:Bytes}(hx:J4 x)(ht:J4 t)(h:o+t.length<=x.length):JE x o t=x:=by refine anh (λy hy=>?_) hx (U3 h);unfold JE at hy;rcases aA.1 hy with g|g;exact hx y (List.mem_of_mem_take g);rcases aA.1 g with g|g;exact ht y g;exact hx y (List.mem_of_mem_drop g)
theorem am8:∀(n:Nat){m:bV}{a:Nat}{s:Bytes},Gf m->(∀x∈m,J4 x)->J4 s->a+s.length<=128*m.length->ET n m a s=m
 |0,m,a,s,_,_,_,_=>rfl
 |n+1,m,a,s,hp,hm,hs,hl=>by rw[ET];by_cases h0:s.length=0;rw[aI h0];rw[aK h0];obtain⟨h1,h2,_⟩:=KL hp h0 hl;have ho:JE (m[a/128]'h1) (a%128) (s.take (128-a%128))=m[a/128]'h1:=ato (hm _ (aB h1)) (λy hy=>hs y (List.mem_of_mem_take hy)) (by rw[h2,aP];omega);rw[bN h1,ho,List.set_getElem_self];exact am8 n hp hm (λy hy=>hs y (List.mem_of_mem_drop hy)) (by rw[aS];omega)
theorem aoP (a:Int)(hm:∀x∈m,J4 x)(hs:J4 s):(wF m a s).1=m:=by unfold wF;cases hw:je m a (s.length:Int);rfl;simp only[je,af,aG]at hw;exact am8 s.length (tT.1 hw.1) hm hs (by omega)
theorem api:∀(q:aw (Int×Int)){m:bV}{s:Bytes},(∀x∈m,J4 x)->J4 s->RX q m s=m
 |[],m,s,_,_=>rfl
 |p::q,m,s,hm,hs=>by rw[RX,aoP _ hm (λy hy=>hs y (List.mem_of_mem_take hy))];exact api q hm (λy hy=>hs y (List.mem_of_mem_drop hy))
theorem atr (hm:∀x∈m,J4 x)(hs:J4 s)(l:aw aN)(d a:Int)(w:Bool):(kH l m d a s w).1=m:=by unfold kH;cases (mr l m d a (s.length:Int) w).2 with|false=>rfl|true=>exact api _ hm hs
def DE (n:Nat):bV:=replicate n (Dx 128)
theorem arc {n:Nat}:∀x∈DE n,J4 x:=λx hx=>by rw[(List.mem_replicate.1 hx).2];exact SM 128
theorem ahG (n:Nat):DE (n+1)=DE n++[Dx 128]:=List.replicate_succ'
theorem Sk (n:Nat)(h:n<=64:=by omega):pa (n:Int)=some (DE n):=by have hz:fZ 128 0=some (Dx 128):=Si 128;unfold pa;refine cK (λi=>((i:Int),DE i)) n (by omega) (λi nx hi=>?_) (λnx=>?_);simp only[sc];rw[au (show(i:Int)<n by omega),ah,iH,ab,ah,hz,ab,aL (by simp[DE];omega),aj,ahG];rfl;simp only[sc];rw[aq (show¬(n:Int)<n by omega),ae,ab,ae]
def sR (a b:Int):Vector×Bool:=bif fy (a,b,0,0,false,false) then((a,b,0,0,false,false),true) else((0,0,0,0,false,false),false)
theorem Sl (a b:Int):yi a b=some (sR a b):=by unfold yi sR;rw[sZ,ab];cases fy (a,b,0,0,false,false)<;>rfl
def uI (i:Nat):aw aN:=(range i).map λ(p:Nat)=>(0,(p:Int),37-(p:Int), !cY (p:Int) 2 9)
theorem RD (i:Nat):uI (i+1)=uI i++[(0,(i:Int),37-(i:Int), !cY (i:Int) 2 9)]:=by simp[uI,gz]
theorem Fp (i:Nat):(uI i).length=i:=by simp[uI]
def asL:Host:=(([]:bV),([]:aw aN),((0,0,0,0),(0,0,0,([]:bQ)),([]:aw xb),0),([]:aw cU),([]:aw ei),([]:aw Vector),([]:aw Bool),(0,false,([]:bQ)),(([]:aw kL),([]:aw Slot),([]:Bytes),([]:bQ)),([]:aw Stream),false,([]:bV),([]:bQ),([]:bQ),0,0,0,0,0)
def UC (f:Filter)(s:dA)(c:Bool)(i:Nat):Host:=(DE 38,uI i,Ep,([]:aw cU),([]:aw ei),([]:aw Vector),([]:aw Bool),f,s,([]:aw Stream),c,([]:bV),([]:bQ),([]:bQ),0,0,0,0,0)
def T7:bV×od×ei×Int:=yH (uI 38) (DE 38) 0 (R5 0).1 (kR (lr 0+128) 384 4).1
def apb (f:Filter)(s:dA)(c:Bool)(v:Vector):Host:=(T7.1,uI 38,Ep,[(T7.2.1,(R5 0).2)],[T7.2.2.1],[v],[false],f,s,([]:aw Stream),c,([]:bV),([]:bQ),([]:bQ),0,0,0,0,0)
def oJ (f:Filter)(s:dA)(c:Bool)(a b:Int):Host×Bool:=
 bif dG f&&(eC s 1&&(sR a b).2) then(apb f s c (sR a b).1,true) else(asL,false)
theorem Ol (f:Filter)(s:dA)(c:Bool)(a b:Int)(hf:f.2.2.length<=10^9)(h1:s.1.length<=10^9)(h2:s.2.1.length<=10^9)(h3:s.2.2.2.length<=10^9):uh 1 f s c a b=some (oJ f s c a b):=by
 have GS:=fb;unfold uh oJ;rw[Sl,ab,cn,ab,show cY (1:Int) 1 2=true from aX.2 (by omega),nr f hf,B7 s 1 h1 h2 h3];simp only[al,ae,ab];cases dG f;rfl;cases eC s 1;rfl;generalize sR a b=v;cases hv:v.2;rfl;have hm:pa 38=some (DE 38):=Sk 38;simp only[al,ae,ab,fC,ah,hm,Nz,km f hf,EM s h1 h2 h3];refine cK (λi=>((i:Int),UC f s c i)) 38 (by omega) (λi nx hi=>?_) (λnx=>?_);have hl:=Fp i;simp only[qC];rw[iH,ah,cn,ab,aL (by show(uI i).length+1<=_;omega),aj (n:=(i:Int)+1),aj (n:=37-(i:Int))];show nx ((i:Int)+1,DE 38,uI i++_,_)=nx (((i+1:Nat):Int),DE 38,uI (i+1),_);rw[RD];rfl;simp only[qC];rw[cD,ae];have h38:=Fp 38;have EB:(DE 38).length<=10^9:=by rw[DE,List.length_replicate];omega
 have ho:xQ (uI 38) (DE 38) 0=T7:=by unfold xQ T7;rw[atr arc (SM 128)];rfl
 have e1:(R5 0).2=((lr 0+64,4,0),(lr 0+64,4,0),((0,0,0,0,0,0,0,0,0,0,0,0,0,0,0,([]:Bytes)),0,0),false,0):=rfl;have hop:=Mc (DE 38,uI 38,Ep,[((0,0,0,0),(0,0,0),(0,0,0),((0,0,0,0,0,0,0,0,0,0,0,0,0,0,0,([]:Bytes)),0,0),false,0)],[(0,0,0,([]:bQ))],[v.1],[false],f,s,([]:aw Stream),c,([]:bV),([]:bQ),([]:bQ),0,0,0,0,0) 0 (by omega) (Nat.lt_succ_self 0) (Nat.lt_succ_self 0) (by show(uI 38).length<=_;omega) EB;unfold JD at hop;simp only[ho,List.set_cons_zero,cR,show((0:Nat):Int)=0 from rfl]at hop;obtain⟨g,hg⟩:∃g,fuel=g+2:=⟨fuel-2,by omega⟩
 unfold UC apb;rw[e1];generalize lr 0=bb at hop⊢;generalize T7=o at hop⊢;generalize DE 38=m at hop⊢;generalize uI 38=l at hop⊢;rw[hg,bh,oZ];rw[iH,ah];simp only;rw[aL (by simp),aL (by simp),aL (by simp),aL (by simp)];simp only[bz];rw[hop,ab,bh,oZ,aj,cD,ae]
def ajt:cE:=(([]:aw Host),([]:aw aE),([]:aw bF),([]:bV),(0,0,0,0),([]:bQ),([]:bV))
def Tu (st:dA)(c:Bool)(bk:uK)(x:bF)(s:aw Host×aw aE):Except (az (cE×Bool)) (aw Host×aw aE):=
 if(oJ x.1 st c 1 2).2=true then .ok (s.1++[(oJ x.1 st c 1 2).1],s.2++[((s.2.length:Int),(s.2.length:Int)+1,bk,true,0,0)]) else .error (some (ajt,false))
def xO (ms:aw bF)(st:dA)(c:Bool)(bk:uK)(f:bV)(t:Int):az (cE×Bool):=
 bif (bU ms).2&&(gU bk&&(!decide (gW f<0)&&rb (0,0,t,0))) then
  EK (Tu st c bk) (λs=>some ((s.1,s.2,ms,f,(0,0,t,0),([]:bQ),([]:bV)),true)) ms ([],[])
 else some (ajt,false)
theorem abl (ms:aw bF)(st:dA)(c:Bool)(bk:uK)(f:bV)(t:Int)(hm:ms.length<=10^9)(hx:∀m∈ms,m.1.2.2.length<=10^9)(hf:f.length<=10^9)(h1:st.1.length<=10^9)(h2:st.2.1.length<=10^9)(h3:st.2.2.2.length<=10^9):ug ms st c bk f t=xO ms st c bk f t:=by
 have GS:=fb;unfold ug xO;rw[Bb ms hx,ab,gq];simp only[Dk,L4,FB,ab];cases hp:(bU ms).2;rfl;cases gU bk;rfl;cases decide (gW f<0);case true=>rfl
 cases rb (0,0,t,0);rfl;have h3':=Of hp;simp only[al,ae,ab,fC,bH,ah,bz];refine sV ms (λs i=>(((i:Int),s.1,s.2,ms.take i,f,(0,0,t,0),([]:bQ),([]:bV)):Int×cE)) (λi s=>s.1.length=i/\s.2.length=i) (Tu st c bk) _ (by omega) (λi hi s nx hI=>?_) (λi hi s s' hI he=>?_) (λs nx hI=>?_) ([],[]) ⟨rfl,rfl⟩;simp only[vY];rw[iH,ah,bc hi,ab,Ol _ st c 1 2 (hx _ (aB hi)) h1 h2 h3,ab];unfold Tu;cases hb:(oJ ms[i].1 st c 1 2).2 with|false=>rfl|true=>rw[aI rfl];simp only[al,ae];rw[aL (by rw[aW];omega),aL (by rw[aW];omega),ab,qy _ (hx _ (aB hi)),ab,aL (by rw[aW,aP];omega),aj,hI.2,aV hi];rfl
 unfold Tu at he;split at he;injection he with he;rw[<-he];simp[hI.1,hI.2];cases he;simp only[vY];rw[cD,ae,cf]
def Ends (o:az α)(P:α->Prop):Prop:=∃x,o=some x/\P x
theorem Ends.pure {x:α}{P:α->Prop}(h:P x):Ends (some x) P:=⟨x,rfl,h⟩
theorem Ends.bind {o:az α}{P:α->Prop}{k:α->az R}{Q:R->Prop}(h:Ends o P)(hk:∀x,P x->Ends (k x) Q):Ends (aa o k) Q:=by obtain⟨x,rfl,hx⟩:=h;exact hk x hx
theorem Ends.mono {o:az α}{P Q:α->Prop}(h:Ends o P)(hq:∀x,P x->Q x):Ends o Q:=by obtain⟨x,hx,hp⟩:=h;exact⟨x,hx,hq x hp⟩
theorem Ends.cond {c:Bool}{a b:az α}{P:α->Prop}(h1:c=true->Ends a P)(h2:c=false->Ends b P):Ends (cond c a b) P:=by cases c with|true=>exact h1 rfl|false=>exact h2 rfl
theorem Ends.ifn {p:Prop}[Decidable p]{a:az α}{P:α->Prop}(h:¬p)(ha:Ends a P):Ends (if p then none else a) P:=by rw[aK h];exact ha
theorem Ends.room {n:Nat}{k:az α}{P:α->Prop}(h:n<=1073741824)(hk:Ends k P):Ends (room n k) P:=by rw[aL h];exact hk
theorem Ends.of {o:az α}{x:α}{P:α->Prop}(h:o=some x)(hp:P x):Ends o P:=⟨x,h,hp⟩
theorem Ends.iter {σ:Type}{T:(σ->az R)->σ->az R}{Q:R->Prop}(I:σ->Prop)(m:σ->Nat)(hs:∀x nx,I x->(∀y,I y->m y<m x->Ends (nx y) Q)->Ends (T nx x) Q): ∀n x,I x->m x<n->Ends (bh T n x) Q:=by intro n;induction n with|zero=>intro x _ h;omega|succ n ih=>intro x hx hm;rw[bh];exact hs x _ hx λy hy gr=>ih y hy (by omega)
theorem Ends.vo {σ:Type}{T:(σ->az R)->σ->az R}{Q:R->Prop}(I:σ->Prop)(m:σ->Nat){x:σ}(hx:I x)(hm:m x<=1000000000000)(hs:∀x nx,I x->(∀y,I y->m y<m x->Ends (nx y) Q)->Ends (T nx x) Q):Ends (bh T fuel x) Q:=Ends.iter I m hs fuel x hx (by have:=fb;omega)
theorem Ends.idx {xs:aw α}{i:Int}{k:α->az R}{Q:R->Prop}(h0:0<=i)(h1:i<(xs.length:Int))(hk:∀(h:i.toNat<xs.length),Ends (k xs[i.toNat]) Q):Ends (aa (idx xs i) k) Q:=by
 obtain⟨n,rfl⟩:=aO h0;have hn:n<xs.length:=by omega
 rw[bc hn,ab];exact hk (by simpa using hn)
abbrev VN:=bQ×Int×Int
variable {c:VN}
def Cu (c:VN):Prop:=0<=c.2.1/\c.2.1<=(c.1.length:Int)/\c.1.length<=1048576
theorem ajm (x y:Int)(n:Nat)(hy:(fQ y).toNat=n)(hn:n<9223372036854775808):0<=ar (BitVec.toNat (fQ x&&&fQ y))/\ar (BitVec.toNat (fQ x&&&fQ y))<=n:=by
 have h:(fQ x&&&fQ y).toNat<=n:=by rw[BitVec.toNat_and,hy];exact Nat.and_le_right
 generalize (fQ x&&&fQ y).toNat=k at h;rw[aj];omega
theorem art {a:bQ}(ha:a.length<=1048576):Ends (Ek a) Cu:=by
 unfold Ek;refine Ends.vo (λx=>0<=x.2/\x.2<=4000) (λx=>(4000-x.2).toNat) ⟨by omega,by omega⟩ (by simp) λx nx hx hn=>?_;unfold Dr;refine Ends.bind (P:=λb=>b=true->x.2<(a.length:Int)/\x.2<4000) (Ends.cond (λh=>Ends.pure λh2=>⟨br h,br h2⟩) λh=>Ends.pure λh2=>by cases h2) λq hq=>?_;refine Ends.cond (λh=>?_) (λh=>Ends.pure ⟨dB _,by simp,ha⟩);have hq:=hq h;refine Ends.idx hx.1 hq.1 λ_=>hn _ ⟨?_,?_⟩ ?_;all_goals simp only[aj (n:=x.2+1) (by omega) (by omega)]
 all_goals omega
theorem Iu (h:Cu c):Ends (ll c) λr=>(0<=r.1/\r.1<=255)/\Cu r.2:=by
 unfold ll;refine Ends.ifn (by decide) (Ends.ifn (by decide) (Ends.cond (λh1=>?_) λh1=>?_))
 ·have h1:=br h1;refine Ends.idx h.1 h1 λ_=>Ends.pure ⟨ajm _ 255 255 rfl (by decide),?_⟩;refine⟨?_,?_,h.2.2⟩;all_goals simp only[aj (n:=c.2.1+1) (by have:=h.1;omega) (by have:=h.2.2;omega)]
  have:=h.1;omega;omega
 exact Ends.pure ⟨ajm _ 255 255 rfl (by decide),h.1,h.2.1,h.2.2⟩
theorem gL (h:Cu c)(hn:0<n:=by omega):Ends (dg c n) λr=>(0<=r.1/\r.1<n)/\Cu r.2:=by unfold dg;rw[cD];simp only[ae];refine Ends.cond (λh1=>?_) λh1=>?_;refine(Iu h).bind λr hr=>Ends.ifn (by omega) (Ends.pure ⟨⟨Int.tmod_nonneg _ hr.1.1,Int.tmod_lt_of_pos _ hn⟩,hr.2⟩);refine(Iu h).bind λr2 h2=>(Iu h2.2).bind λr3 h3=>(Iu h3.2).bind λr4 h4=>(Iu h4.2).bind λr5 h5=>Ends.ifn (by omega) (Ends.pure ⟨⟨Int.tmod_nonneg _ ?_,Int.tmod_lt_of_pos _ hn⟩,h5.2⟩);have a2:=h2.1;have a3:=h3.1;have a4:=h4.1;have a5:=h5.1;rw[aj (n:=r2.1*16777216),aj (n:=r3.1*65536),aj (n:=r4.1*256)];rw[aj (n:=r2.1*16777216+r3.1*65536)];rw[aj (n:=r2.1*16777216+r3.1*65536+r4.1*256)];rw[aj];omega
theorem ajn (h:Cu c)(n:Int):Ends (dg c n) λr=>(0<=r.1/\(r.1<n\/r.1=0))/\Cu r.2:=by
 rcases Int.lt_or_le 0 n with hn|hn;exact(gL h hn).mono λr hr=>⟨⟨hr.1.1,Or.inl hr.1.2⟩,hr.2⟩
 unfold dg;rw[au hn];exact Ends.pure ⟨⟨dB _,Or.inr rfl⟩,h⟩
theorem tS (h:Cu c)(n:Int):Ends (ga c n) λr=>Cu r.2:=by unfold ga;exact(ajn h n).bind λr hr=>Ends.pure hr.2
theorem jQ (h:Cu c){l:bQ}{P:Int->Prop}(hl:0<l.length)(hp:∀x∈l,P x):Ends (di c l) λr=>P r.1/\Cu r.2:=by unfold di;exact(gL h).bind λr hr=>Ends.idx hr.1.1 hr.1.2 λhi=>Ends.pure ⟨hp _ (aB hi),hr.2⟩
theorem I8 (h:Cu c)(n:Int):Ends (ln c n) λr=>(r.1.length<=5000/\(0<=n->n<=5000->(r.1.length:Int)=n)/\(n<=0->r.1=[]))/\Cu r.2:=by
 have key:∀v:Int,v<=5000->∀Q:(Bytes×VN)->Prop,(∀x c,((x.length:Int)=v\/(v<=0/\x=[]))->Cu c->Q (bf x,c))->Ends (bh (qH (λy _ z=>some (bf y,z)) v) fuel (([]:bQ),0,c)) Q:=by
  intro v hv Q hQ;refine Ends.vo (λx=>(x.1.length:Int)=x.2.1/\(x.2.1<=v\/x.2.1=0)/\Cu x.2.2) (λx=>(v-x.2.1).toNat) ⟨rfl,Or.inr rfl,h⟩ (by simp;omega) λx nx hx hn=>?_;unfold qH;refine Ends.cond (λh1=>?_) λh1=>Ends.pure (hQ _ _ ?_ hx.2.2)
  ·have h1:=br h1;refine(Iu hx.2.2).bind λr hr=>Ends.room (by simp;omega) (hn _ ⟨?_,?_,hr.2⟩ ?_);all_goals simp only[aj (n:=x.2.1+1) (by omega) (by omega)]
   simp;omega;omega;omega
  have h1:=dy h1;rcases hx.2.1 with h2|h2;exact Or.inl (by omega);rcases Int.lt_or_le 0 v with h3|h3;omega;exact Or.inr ⟨h3,cQ (by omega)⟩
 have hb:∀x:bQ,(bf x).length=x.length:=λx=>by simp[bf]
 unfold ln;refine Ends.cond (λh1=>?_) λh1=>?_;have h1:=br h1;refine key 5000 (by omega) _ λx c hx hc=>⟨⟨by rw[hb];rcases hx with hx|hx<;>omega,λ_ _=>by omega,λ_=>by omega⟩,hc⟩
 have h1:=dy h1;refine key n (by omega) _ λx c hx hc=>⟨⟨?_,λh0 _=>?_,λh0=>?_⟩,hc⟩
 rw[hb];rcases hx with hx|hx;omega;rw[hx.2];simp;rw[hb];rcases hx with hx|hx;omega;rw[hx.2];simp;omega;rcases hx with hx|hx;have:x=[]:=cQ (by omega);rw[this];rfl;rw[hx.2];rfl
theorem akT (h:Cu c):Ends (Cf c) λr=>(167772161<=r.1/\r.1<=167772163)/\Cu r.2:=by unfold Cf;refine(gL h (by decide)).bind λr hr=>Ends.pure ⟨?_,hr.2⟩;have:=hr.1;simp only[aj (n:=167772161+r.1) (by omega) (by omega)];omega
theorem agT (h:Cu c):Ends (Ax c) λr=>(0<=r.1/\r.1<=31)/\Cu r.2:=by unfold Ax;exact(jQ (P:=λx=>0<=x/\x<=31) h (by decide) (by decide)).bind λr hr=>Ends.pure hr
theorem arC (h:Cu c){m:Int}(h0:0<=m)(h1:m<=320):Ends (wo c m) λr=>(vr r.1=true/\(r.1.2.2.2.2.2.2.2.length:Int)<=m)/\Cu r.2:=by
 unfold wo;refine(gL h (by decide)).bind λr1 p1=>(gL p1.2 (by decide)).bind λr2 p2=>?_;refine(jQ (P:=λx=>0<=x/\x<=4294967295) p2.2 (by simp) ?_).bind λr3 p3=>?_;have:=p2.1;intro x hx;simp only[bZ,List.not_mem_nil,or_false]at hx;omega;refine(jQ (P:=λx=>0<=x/\x<=4294967295) p3.2 (by decide) (by decide)).bind λr4 p4=>(agT p4.2).bind λr5 p5=>?_;refine(jQ (P:=λx=>0<=x/\x<=65535) p5.2 (by decide) (by decide)).bind λr6 p6=>?_;rw[aj (n:=m+1)];refine(gL p6.2).bind λr7 p7=>(I8 p7.2 r7.1).bind λr8 p8=>(tS p8.2 4).bind λr9 p9=>?_;have a1:=p1.1;have a7:=p7.1;have a8:=p8.1.2.1 a7.1 (by omega);rw[aj (n:=1000+r1.1)];refine Ends.cond (λ_=>Ends.pure ⟨⟨al3 (by omega) (by omega) (by omega),?_⟩,p9⟩) λ_=>Ends.pure ⟨⟨aa2 (by omega) (by omega) p3.1 p4.1 p5.1 p6.1 (by omega),?_⟩,p9⟩;all_goals show(r8.1.length:Int)<=m
 all_goals omega
theorem ah3 (h:Cu c){m:Int}(h0:0<=m)(h1:m<=320):Ends (pj c m) λr=>(dw r.1=true/\(r.1.2.2.2.2.2.2.2.2.2.2.2.2.2.2.2.length:Int)<=m/\(r.1.2.2.2.2.2.2.2.2.1=6\/r.1.2.2.2.2.2.2.2.2.1=17))/\Cu r.2:=by
 unfold pj;refine(jQ (P:=λx=>0<=x/\x<=281474976710655) h (by decide) (by decide)).bind λr1 p1=>?_;refine(jQ (P:=λx=>0<=x/\x<=281474976710655) p1.2 (by decide) (by decide)).bind λr2 p2=>?_;refine(jQ (P:=λx=> -1<=x/\x<=4095) p2.2 (by decide) (by decide)).bind λr3 p3=>?_;refine(jQ (P:=λx=>0<=x/\x<=255) p3.2 (by decide) (by decide)).bind λr4 p4=>?_;refine(jQ (P:=λx=>0<=x/\x<=65535) p4.2 (by decide) (by decide)).bind λr5 p5=>?_;refine(jQ (P:=λx=>0<=x/\x<=255) p5.2 (by decide) (by decide)).bind λr6 p6=>?_;refine(akT p6.2).bind λr7 p7=>?_;refine(arC p7.2 (m:=if 128<m then 128 else m) (by split<;>omega) (by split<;>omega)).bind λr8 p8=>?_;have hh:∀g:fi,vr g=true->ql (r1.1,r2.1,r3.1,r4.1,r5.1,r6.1,r7.1,167772161,g)=true:=λg hg=>akM p1.1 p2.1 p3.1 p4.1 p5.1 p6.1 (by have:=p7.1;omega) (by omega) hg;have hk:∀g:fi,vr g=true->g.1=6\/g.1=17:=by intro g hg;unfold vr at hg;simp only[af]at hg;have h2:=hg.2.2.2;cases h17:g.1==17 with|true=>exact Or.inr (by simpa using h17)|false=>rw[h17]at h2;simp only[ae,af]at h2;exact Or.inl (by simpa using h2.1)
 have hl:(r8.1.2.2.2.2.2.2.2.length:Int)<=128/\(r8.1.2.2.2.2.2.2.2.length:Int)<=m:=by have:=p8.1.2;split at this<;>omega
 have short:∀c':VN,Cu c'->Ends (some ((r1.1,r2.1,r3.1,r4.1,r5.1,r6.1,r7.1,(167772161:Int),r8.1),c')) λr:aD×VN=>(dw r.1=true/\(r.1.2.2.2.2.2.2.2.2.2.2.2.2.2.2.2.length:Int)<=m/\(r.1.2.2.2.2.2.2.2.2.1=6\/r.1.2.2.2.2.2.2.2.2.1=17))/\Cu r.2:=by intro c' Cy;refine Ends.pure ⟨⟨?_,hl.2,hk _ p8.1.1⟩,Cy⟩;unfold dw;rw[hh _ p8.1.1,aZ];have:decide ((r8.1.2.2.2.2.2.2.2.length:Int)<=128)=true:=au hl.1;show(decide ((r8.1.2.2.2.2.2.2.2.length:Int)<=128)||_)=true;rw[this,gb]
 refine Ends.cond (λk1=>Ends.cond (λk2=>Ends.cond (λk3=>?_) λ_=>short _ p8.2) λ_=>short _ p8.2) λ_=>short _ p8.2;have k3:=br k3;refine(tS p8.2 2).bind λr9 p9=>Ends.cond (λ_=>?_) λ_=>short _ p9;rw[aj (n:=m-128),aj (n:=m-128+1)];refine(gL p9).bind λqx p10=>?_;have a10:=p10.1;rw[aj (n:=128+qx.1)];refine(I8 p10.2 _).bind λuQ p11=>?_;have a11:=p11.1.2.1 (by omega) (by omega);have hs:=aip p8.1.1 (x:=uQ.1) (by omega);refine Ends.pure ⟨⟨?_,by show(uQ.1.length:Int)<=m;omega,Or.inl (by simpa using k1)⟩,p11.2⟩;unfold dw;rw[hh _ hs,aZ];rw[Ki _ (IW p8.1.1 k1)]at k2;show(_||(r8.1.1==6)&&FR r8.1.2.2.2.2.2.1)=true;rw[k1,k2,bW,iJ]
def Plain (p:aD):Prop:=ql p=true/\p.2.2.2.2.2.2.2.2.2.2.2.2.2.2.2.length<=40
theorem Plain.ok (h:Plain p):eQ p=true:=(aaC p).2 ⟨h.1,by have:=h.2;omega⟩
theorem LP (h:Cu c):Ends (pj c 40) λr=>Plain r.1/\Cu r.2:=(ah3 h (by omega) (by omega)).mono λr hr=>⟨⟨by have:=hr.1.1;unfold dw at this;simp only[af]at this;exact this.1,by have:=hr.1.2.1;omega⟩,hr.2⟩
theorem alq {Q:R->Prop}{k0:aw aD->VN->aD->az R}{l:aw aD}{z:Int}(hl:l.length<=1000)(hc:Cu c)(hp:Plain p)(hk:∀c' p',Cu c'->Plain p'->Ends (k0 (l++[p]) c' p') Q):Ends (po k0 l z n c p) Q:=by
 unfold po;have hi:=aoi (Q0 hp.1);have hs:=CU hp.1;refine Ends.room (by simp;omega) (Ends.ifn (by decide) (Ends.cond (λh6=>?_) λ_=>hk _ _ hc ⟨E9 (p:=p) hp.1 hi hs,hp.2⟩));have h6:p.2.2.2.2.2.2.2.2.1=6:=by simpa using h6
 refine(tS hc 8).bind λr hr=>Ends.cond (λ_=>Ends.ifn (by decide) (hk _ _ hr ⟨E9 (p:=p) hp.1 hi ?_,hp.2⟩)) λ_=>hk _ _ hr ⟨E9 (p:=p) hp.1 hi hs,hp.2⟩;have k:=afT hs h6;have hlen:p.2.2.2.2.2.2.2.2.2.2.2.2.2.2.2.length<=320:=by have:=hp.2;omega
 exact R8 hs h6 (alE k.2.2.1 hlen) k.2.2.2.2.1 hlen
theorem alp {Q:R->Prop}{k0:aw aD->VN->aD->az R}{l:aw aD}{z:Int}(hl:l.length<=1000)(hz:1<=z/\z<=40)(hc:Cu c)(hp:Plain p)(hk:∀q c' p',Plain q->Cu c'->Plain p'->Ends (k0 (l++[q]) c' p') Q):Ends (pk k0 l z n c p) Q:=by
 unfold pk;refine Ends.cond (λh6=>?_) λ_=>alq hl hc hp λc' p' h1 h2=>hk _ _ _ hp h1 h2;have h6:p.2.2.2.2.2.2.2.2.1=6:=by simpa using h6
 refine(jQ (P:=λx=>0<=x/\x<=31) hc (by decide) (by decide)).bind λr8 p8=>(I8 p8.2 z).bind λr9 p9=>?_;have a9:=p9.1.2.1 (by omega) (by omega);have hs:=CU hp.1;have hq:Plain (p.1,p.2.1,p.2.2.1,p.2.2.2.1,p.2.2.2.2.1,p.2.2.2.2.2.1,p.2.2.2.2.2.2.1,p.2.2.2.2.2.2.2.1,p.2.2.2.2.2.2.2.2.1,p.2.2.2.2.2.2.2.2.2.1,p.2.2.2.2.2.2.2.2.2.2.1,p.2.2.2.2.2.2.2.2.2.2.2.1,p.2.2.2.2.2.2.2.2.2.2.2.2.1,r8.1,p.2.2.2.2.2.2.2.2.2.2.2.2.2.2.1,r9.1):=⟨E9 hp.1 (Q0 hp.1) (R8 hs h6 (afT hs h6).2.2.1 p8.1 (by omega)),by show r9.1.length<=40;omega⟩
 exact alq hl p9.2 hq λc' p' h1 h2=>hk _ _ _ hq h1 h2
theorem apf {Q:R->Prop}{k0:aw aD->Int->VN->aD->az R}{l:aw aD}{z:Int}(hl:l.length<=1000)(hz:1<=z/\z<=40)(hc:Cu c)(hp:Plain p)(hk:∀q z' c' p',Plain q->(1<=z'/\z'<=40)->Cu c'->Plain p'->Ends (k0 (l++[q]) z' c' p') Q):Ends (qJ k0 l z n c p) Q:=by unfold qJ;refine(tS hc 6).bind λr6 p6=>Ends.cond (λ_=>?_) λ_=>alp hl hz p6 hp λq c' p' h1 h2 h3=>hk _ _ _ _ h1 hz h2 h3;refine(gL p6 (by decide)).bind λr7 p7=>?_;have a7:=p7.1;rw[aj (n:=1+r7.1)];exact alp hl (by omega) p7.2 hp λq c' p' h1 h2 h3=>hk _ _ _ _ h1 (by omega) h2 h3
theorem ath {Q:R->Prop}{k0:aw aD->Int->Int->VN->aD->az R}{l:aw aD}{z:Int}(hl:l.length<=1000)(hz:1<=z/\z<=40)(hn:0<n/\n<=1000)(hc:Cu c)(hp:Plain p)(hk:∀q z' c' p',Plain q->(1<=z'/\z'<=40)->Cu c'->Plain p'->Ends (k0 (l++[q]) z' (n-1) c' p') Q):Ends (wq k0 l z n c p) Q:=by unfold wq;have e:ar (n-1)=n-1:=aj;refine(tS hc 5).bind λr4 p4=>Ends.cond (λ_=>?_) λ_=>?_;refine(LP p4).bind λr5 p5=>apf hl hz p5.2 p5.1 λq z' c' p' h1 h2 h3 h4=>?_;unfold qI;rw[e];exact hk _ _ _ _ h1 h2 h3 h4;refine apf hl hz p4 hp λq z' c' p' h1 h2 h3 h4=>?_;unfold qI;rw[e];exact hk _ _ _ _ h1 h2 h3 h4
theorem aoe (h:Cu c){m:Int}(h0:0<m)(h1:m<=100):Ends (Cg c m) λr=>((∀p∈r.1,Plain p)/\0<r.1.length/\(r.1.length:Int)<=m)/\Cu r.2:=by unfold Cg;refine(LP h).bind λr1 p1=>(gL p1.2 (by decide)).bind λr2 p2=>(gL p2.2 h0).bind λr3 p3=>?_;have a2:=p2.1;have a3:=p3.1;rw[aj (n:=r2.1*8),aj (n:=8+r2.1*8),aj (n:=1+r3.1)];refine Ends.vo (λx=>(∀p∈x.1,Plain p)/\(1<=x.2.1/\x.2.1<=40)/\0<=x.2.2.1/\(x.1.length:Int)+x.2.2.1=1+r3.1/\Cu x.2.2.2.1/\Plain x.2.2.2.2) (λx=>x.2.2.1.toNat) ⟨by simp,(by dsimp only;omega),(by dsimp only;omega),by simp,p3.2,p1.1⟩ (by simp;omega) λx nx hx hn=>?_;unfold Bw;refine Ends.cond (λk=>?_) λk=>?_;have k:=br k;refine ath (by omega) hx.2.1 (by omega) hx.2.2.2.2.1 hx.2.2.2.2.2 λq z' c' p' h1 h2 h3 h4=>hn _ ⟨?_,h2,?_,?_,h3,h4⟩ ?_;intro y hy;rcases aA.1 hy with hy|hy;exact hx.1 y hy;simp only[bI]at hy;rw[hy];exact h1;show 0<=x.2.2.1-1;omega;show((x.1++[q]).length:Int)+(x.2.2.1-1)=1+r3.1;have:=hx.2.2.2.1;simp;omega;show(x.2.2.1-1).toNat<x.2.2.1.toNat;omega;have k:=dy k;have:=hx.2.2.2.1;have:=hx.2.2.1;exact Ends.pure ⟨⟨hx.1,(by dsimp only;omega),(by dsimp only;omega)⟩,hx.2.2.2.2.1⟩
theorem aol (h:Cu c){l:aw aD}(hl:l.length<=1000000):Ends (Ch c l) λr=>(r.1.length<=l.length/\∀s∈r.1,s.2.2.1=[])/\Cu r.2:=by unfold Ch;refine Ends.vo (λx=>0<=x.2.1/\(x.1.length:Int)<=x.2.1/\x.2.1<=(l.length:Int)/\(∀s∈x.1,s.2.2.1=[])/\Cu x.2.2) (λx=>((l.length:Int)-x.2.1).toNat) ⟨by simp,by simp,by simp,by simp,h⟩ (by simp;omega) λx nx hx hn=>?_;have e:x.2.1<(l.length:Int)->ar (x.2.1+1)=x.2.1+1:=λ_=>aj;unfold Bx;refine Ends.cond (λk=>?_) λk=>Ends.pure ⟨⟨(by dsimp only;omega),hx.2.2.2.1⟩,hx.2.2.2.2⟩;have k:=br k;rw[e k];have skip:∀c',Cu c'->Ends (nx (x.1,x.2.1+1,c')) _:=λc' Cy=>hn _ ⟨by show 0<=x.2.1+1;omega,by show(x.1.length:Int)<=x.2.1+1;omega,by show x.2.1+1<=_;omega,hx.2.2.2.1,Cy⟩ (by show((l.length:Int)-(x.2.1+1)).toNat<_;omega);refine Ends.idx hx.1 k λhi=>?_;rw[L9,ab];refine Ends.cond (λ_=>?_) λ_=>skip _ hx.2.2.2.2;rw[abq _ _ (by omega),ab];refine Ends.cond (λ_=>?_) λ_=>skip _ hx.2.2.2.2;refine(tS hx.2.2.2.2 6).bind λr4 p4=>Ends.cond (λ_=>?_) λ_=>skip _ p4;refine Ends.idx hx.1 k λhi=>(jQ (P:=λ_=>True) p4 (by decide) (by simp)).bind λr6 p6=>Ends.room (by simp;omega) (hn _ ⟨by show 0<=x.2.1+1;omega,?_,by show x.2.1+1<=_;omega,?_,p6.2⟩ (by show((l.length:Int)-(x.2.1+1)).toNat<_;omega));show((x.1++[_]).length:Int)<=x.2.1+1;simp;omega;intro s hs;rcases aA.1 hs with hs|hs;exact hx.2.2.2.1 s hs;simp only[bI]at hs;rw[hs]
theorem ara (h:Cu c):Ends (El c) λr=>r.1.length=16/\Cu r.2:=by unfold El;exact(I8 h 16).bind λr hr=>Ends.pure ⟨by have:=hr.1.2.1 (by omega) (by omega);omega,hr.2⟩
structure DG (s:dA):Prop where
 r:s.1.length<=100
 t:s.2.1.length<=100
 k:s.2.2.1.length=16
 p:s.2.2.2.length<=100
theorem YF (h:Cu c):Ends (yw c) λr=>(r.1.1=2/\(r.1.2.2=[7]\/r.1.2.2=[]))/\Cu r.2:=by unfold yw;exact(tS h 4).bind λr1 p1=>(tS p1 2).bind λr2 p2=>Ends.cond (λ_=>Ends.pure ⟨⟨rfl,Or.inl rfl⟩,p2⟩) λ_=>Ends.pure ⟨⟨rfl,Or.inr rfl⟩,p2⟩
theorem arb:gF (uI 38)=true:=by decide+kernel
def GW (f:Filter)(s:dA)(c:Bool):aw Vector->Host
 |[]=>UC f s c 38
 |v::vs=>JD ((GW f s c vs).1,(GW f s c vs).2.1,(GW f s c vs).2.2.1,(GW f s c vs).2.2.2.1++[((0,0,0,0),(0,0,0),(0,0,0),((0,0,0,0,0,0,0,0,0,0,0,0,0,0,0,([]:Bytes)),0,0),false,0)],(GW f s c vs).2.2.2.2.1++[(0,0,0,([]:bQ))],(GW f s c vs).2.2.2.2.2.1++[v],(GW f s c vs).2.2.2.2.2.2.1++[false],(GW f s c vs).2.2.2.2.2.2.2) vs.length
def ajv (h:Host):=(h.1,h.2.1,h.2.2.1,h.2.2.2.1,h.2.2.2.2.1,h.2.2.2.2.2.1,h.2.2.2.2.2.2.1)
structure Made (f:Filter) (s:dA) (c:Bool) (k:Nat) (h:Host):Prop where
 mem:dv h.1=true
 ml:h.1.length=38
 maps:h.2.1=uI 38
 tx:h.2.2.1=Ep
 rx:h.2.2.2.1.length=k
 rxs:∀r∈h.2.2.2.1,DC 0 r/\r.2.2.2.2.1=false
 pl:h.2.2.2.2.1.length=k
 pls:∀p∈h.2.2.2.2.1,dN p=true/\p.2.2.2.length<=1000
 vec:h.2.2.2.2.2.1.length=k
 TM:∀v∈h.2.2.2.2.2.1,fy v=true
 pol:h.2.2.2.2.2.2.1.length=k
 rest:h.2.2.2.2.2.2.2=(f,s,([]:List Stream),c,([]:List Bytes),([]:List Int),([]:List Int),0,0,0,0,0)
 is:∃vs,vs.length=k/\h=GW f s c vs/\∀v∈vs,v.2.1<=3/\v.2.2.2.2.1=false
theorem aa7 (l:aw α)(x y:α):(l++[x]).set l.length y=l++[y]:=by simp
theorem aof {n:Nat}(h:n<=64):dv (DE n)=true:=tT.2 ⟨λx hx=>by rw[(List.mem_replicate.1 hx).2];exact I9 128,by simp[DE];exact h⟩
theorem ahB {f:Filter}{s:dA}{c:Bool}(m:Made f s c k h)(hk:k<=8)(hv:fy v=true)(h3:v.2.1<=3/\v.2.2.2.2.1=false):Ends (qe (h.1,h.2.1,h.2.2.1,h.2.2.2.1++[((0,0,0,0),(0,0,0),(0,0,0),((0,0,0,0,0,0,0,0,0,0,0,0,0,0,0,([]:Bytes)),0,0),false,0)],h.2.2.2.2.1++[(0,0,0,([]:bQ))],h.2.2.2.2.2.1++[v],h.2.2.2.2.2.2.1++[false],h.2.2.2.2.2.2.2) (k:Int)) λr=>Made f s c (k+1) r.2:=by
 refine Ends.of (Mc _ k hk (by simp[m.rx]) (by simp[m.pl]) (by show h.2.1.length<=_;rw[m.maps,Fp];omega) (by show h.1.length<=_;rw[m.ml];omega)) ?_;have o:=U1 m.mem h.2.1 hk;have e1:(h.2.2.2.1++[(((0,0,0,0),(0,0,0),(0,0,0),((0,0,0,0,0,0,0,0,0,0,0,0,0,0,0,([]:Bytes)),0,0),false,0):cU)])[k]?=some ((0,0,0,0),(0,0,0),(0,0,0),((0,0,0,0,0,0,0,0,0,0,0,0,0,0,0,([]:Bytes)),0,0),false,0):=by rw[<-m.rx];simp
 have e2:∀y:cU,(h.2.2.2.1++[(((0,0,0,0),(0,0,0),(0,0,0),((0,0,0,0,0,0,0,0,0,0,0,0,0,0,0,([]:Bytes)),0,0),false,0):cU)]).set k y=h.2.2.2.1++[y]:=λy=>by rw[<-m.rx];exact aa7 _ _ _
 have e3:∀y:ei,(h.2.2.2.2.1++[(((0,0,0,([]:bQ))):ei)]).set k y=h.2.2.2.2.1++[y]:=λy=>by rw[<-m.pl];exact aa7 _ _ _
 obtain⟨vs,vl,ve,vb⟩:=m.is;have is0:JD (h.1,h.2.1,h.2.2.1,h.2.2.2.1++[((0,0,0,0),(0,0,0),(0,0,0),((0,0,0,0,0,0,0,0,0,0,0,0,0,0,0,([]:Bytes)),0,0),false,0)],h.2.2.2.2.1++[(0,0,0,([]:bQ))],h.2.2.2.2.2.1++[v],h.2.2.2.2.2.2.1++[false],h.2.2.2.2.2.2.2) k=GW f s c (v::vs):=by rw[GW,<-ve,vl]
 unfold JD at is0⊢;simp only[e1,e2,e3]at is0⊢;have hp:(xQ h.2.1 h.1 k).2.2.1.2.2.2.length<=1000:=by unfold xQ;exact bp (Kh ..) (tR _ _ _)
 refine⟨o.1,?_,m.maps,m.tx,by show(_++[_]).length=_;rw[ai,m.rx];rfl,?_,by show(_++[_]).length=_;rw[ai,m.pl];rfl,?_,by show(_++[_]).length=_;rw[ai,m.vec];rfl,?_,by show(_++[_]).length=_;rw[ai,m.pol];rfl,m.rest,⟨v::vs,by simp[vl],is0,λw hw=>?_⟩⟩;show(xQ h.2.1 h.1 k).1.length=38;rw[U0,m.ml];intro r hr;rcases aA.1 hr with hr|hr;exact m.rxs r hr;rw[bI.1 hr];exact⟨aa1 hk o.2.1 ⟨dB _,dB _⟩,rfl⟩;intro p hp';rcases aA.1 hp' with hp'|hp';exact m.pls p hp';rw[bI.1 hp'];exact⟨o.2.2,hp⟩;intro w hw;rcases aA.1 hw with hw|hw;exact m.TM w hw;rw[bI.1 hw];exact hv;rcases bZ.1 hw with e|e;rw[e];exact h3;exact vb w e
def ayZ (h:Host):dA:=h.2.2.2.2.2.2.2.2.1
structure Jh (h:Host):Prop where
 akG:Good 0 h
 sz:Dz 2000 h
 maps:∀m∈h.2.1,m.2.2.1<(h.1.length:Int)
 led:h.2.2.1.2.2.1=[]/\h.2.2.2.2.2.2.2.2.2.2.2.1=[]/\h.2.2.2.2.2.2.2.2.2.2.2.2.1=[]/\h.2.2.2.2.2.2.2.2.2.2.2.2.2.1=[]
 is:∃f s c vs,vs.length<=2/\ajv h=ajv (GW f s c vs)/\∀v∈vs,v.2.1<=3/\v.2.2.2.2.1=false
theorem adM {f:Filter}{s:dA}{c:Bool}(m:Made f s c k h)(hk:1<=k/\k<=2)(hf:dG f=true)(CV:f.2.2.length<=1000)(hs:eC s (k:Int)=true)(hz:DG s):Jh h:=by have h4:=tR 256 128 8;obtain⟨vs,vl,ve,vb⟩:=m.is;obtain⟨m1,m2,m3,m4,m5,m6,m7,m8,m9,m10,m11,m12,_⟩:=m;obtain⟨mem,maps,tx,rx,pl,vec,pol,rest⟩:=h;simp only at m1 m2 m3 m4 m5 m6 m7 m8 m9 m10 m11 m12;subst m12 m3 m4;refine⟨⟨m1,arb,amX 0 (by omega),hf,?_,by show eC s (rx.length:Int)=true;rw[m5];exact hs,λr hr=>(m6 r hr).1,λp hp=>(m8 p hp).1,m10,?_⟩,⟨?_,?_⟩,?_,⟨rfl,rfl,rfl,rfl⟩,⟨f,s,c,vs,by omega,congrArg ajv ve,vb⟩⟩;unfold qu;simp only[af,aX,ba];omega;intro x hx;simp only[gX,bZ,List.not_mem_nil,or_false,or_self]at hx;omega;have hm:=(tT.1 m1).1;refine⟨⟨by show mem.length<=2000;omega,λx hx=>by show x.length<=2000;rw[hm x hx];omega⟩,⟨by show(uI 38).length<=2000;rw[Fp];omega,λ_ _=>⟨cq,cq,cq,cq⟩⟩,?_,?_,?_,?_,?_,⟨cq,cq,by show f.2.2.length<=2000;omega,λ_ _=>trivial⟩,?_,⟨bC _,λx hx=>by cases hx⟩,cq,⟨bC _,λx hx=>by cases hx⟩,⟨bC _,λx hx=>by cases hx⟩,⟨bC _,λx hx=>by cases hx⟩,cq,cq,cq,cq,cq⟩;exact⟨⟨cq,cq,cq,cq⟩,⟨cq,cq,cq,by show List.length (kR 256 128 8).1.2.2.2<=2000;omega,λ_ _=>trivial⟩,⟨bC _,λx hx=>by cases hx⟩,cq⟩;refine⟨by show rx.length<=2000;omega,λx hx=>?_⟩;have e:=(m6 x hx).1.free (m6 x hx).2;refine⟨⟨cq,cq,cq,cq⟩,⟨cq,cq,cq⟩,⟨cq,cq,cq⟩,?_,cq,cq⟩;rw[e];exact⟨⟨cq,cq,cq,cq,cq,cq,cq,cq,cq,cq,cq,cq,cq,cq,cq,bC _⟩,cq,cq⟩;exact⟨by show pl.length<=2000;omega,λx hx=>⟨cq,cq,cq,by have:=(m8 x hx).2;show x.2.2.2.length<=2000;omega,λ_ _=>trivial⟩⟩;exact⟨by show vec.length<=2000;omega,λx hx=>⟨cq,cq,cq,cq,cq,cq⟩⟩;exact⟨by show pol.length<=2000;omega,λx hx=>trivial⟩;exact⟨⟨by have:=hz.r;show s.1.length<=2000;omega,λ_ _=>⟨cq,cq,cq,cq,cq,cq,cq,cq,cq⟩⟩,⟨by have:=hz.t;show s.2.1.length<=2000;omega,λ_ _=>⟨cq,⟨cq,cq,cq,cq,cq⟩,cq⟩⟩,by have:=hz.k;show s.2.2.1.length<=2000;omega,by have:=hz.p;show s.2.2.2.length<=2000;omega,λ_ _=>trivial⟩;show List.length (kR 256 128 8).1.2.2.2+0<=2000;omega;intro m hm;have hm:m∈uI 38:=hm;simp only[uI,dH,bE]at hm;obtain⟨i,hi,rfl⟩:=hm;show 37-(i:Int)<(mem.length:Int);omega
theorem ahV {a:Int}(h:(sR a b).2=true):fy (sR a b).1=true:=by unfold sR at h⊢;cases hv:fy (a,b,0,0,false,false)with|false=>rw[hv]at h;cases h|true=>exact hv
theorem alD {a:Int}(h:(sR a b).2=true)(hb:b<=3):(sR a b).1.2.1<=3/\(sR a b).1.2.2.2.2.1=false:=by unfold sR at h⊢;cases hv:fy (a,b,0,0,false,false)with|false=>rw[hv]at h;cases h|true=>exact⟨hb,rfl⟩
theorem adY (q:Int)(f:Filter)(s:dA)(c:Bool)(a b:Int)(hf:f.2.2.length<=1000)(hs:DG s)(hb3:b<=3):Ends (uh q f s c a b) λr=>(r.2=true->Jh r.1/\ayZ r.1=s)/\((1<=q/\q<=2)->dG f=true->eC s q=true->(sR a b).2=true->r.2=true):=by
 have z1:=hs.r;have z2:=hs.t;have z3:=hs.p;unfold uh;rw[Sl,ab,cn,ab];refine Ends.bind (P:=λx=>(x=false->(1<=q/\q<=2)/\dG f=true/\eC s q=true/\(sR a b).2=true)/\(x=true->(1<=q/\q<=2)->dG f=true->eC s q=true->(sR a b).2=true->False)) ?_ λx hx=>Ends.cond (λhx2=>Ends.pure ⟨(λh=>by cases h),λg1 g2 g3 g4=>(hx.2 hx2 g1 g2 g3 g4).elim⟩) λh=>?_;refine Ends.cond (λk=>Ends.pure ⟨(λh=>by cases h),λ_ g1 _ _ _=>by rw[aX.2 g1]at k;cases k⟩) λh1=>?_;rw[nr f,ab];refine Ends.cond (λk=>Ends.pure ⟨(λh=>by cases h),λ_ _ g2 _ _=>by rw[g2]at k;cases k⟩) λh2=>?_;rw[B7 s q (by omega) (by omega) (by omega),ab];refine Ends.cond (λk=>Ends.pure ⟨(λh=>by cases h),λ_ _ _ g3 _=>by rw[g3]at k;cases k⟩) λh3=>Ends.pure ⟨λh4=>?_,λk _ _ _ g4=>by rw[g4]at k;cases k⟩;exact⟨aX.1 (by simpa using h1),by simpa using h2,by simpa using h3,by simpa using h4⟩;obtain⟨hq,h1,h2,h3⟩:=hx.1 h;have hm:pa 38=some (DE 38):=Sk 38;rw[hm,ab,Nz,ab,km f (by omega),ab,EM s (by omega) (by omega) (by omega),ab];have hv:=ahV h3;refine Ends.vo (λx=>0<=x.1/\x.1<=38/\x.2=UC f s c x.1.toNat) (λx=>(38-x.1).toNat) ⟨by simp,by simp,rfl⟩ (by simp) λx nx hx hn=>?_;obtain⟨i,y⟩:=x;obtain⟨x1,x2,x3⟩:=hx;simp only at x1 x2 x3;unfold qC;refine Ends.cond (λk=>?_) λk=>?_;have k:=br k;have hl:=Fp i.toNat;simp only at k;rw[cn,ab];simp only;rw[aj (n:=i+1),aj (n:=37-i)];subst x3;refine Ends.room (by show(uI i.toNat).length+1<=_;omega) (hn _ ⟨by show 0<=i+1;omega,by show i+1<=38;omega,?_⟩ (by show(38-(i+1)).toNat<(38-i).toNat;omega));have e:(i+1).toNat=i.toNat+1:=by omega
 show(DE 38,uI i.toNat++_,_)=UC f s c (i+1).toNat;rw[e];unfold UC;rw[RD,show((i.toNat:Nat):Int)=i by omega];have k:=dy k;simp only at k;have e:i.toNat=38:=by omega
 rw[e]at x3;have hm0:Made f s c 0 y:=by rw[x3];exact⟨aof (by omega),by show(DE 38).length=38;simp[DE],rfl,rfl,rfl,(λ_ hr=>by cases hr),rfl,(λ_ hr=>by cases hr),rfl,(λ_ hr=>by cases hr),rfl,rfl,⟨[],rfl,rfl,λ_ hv=>by cases hv⟩⟩
 simp only;refine Ends.vo (λx=>0<=x.1/\x.1<=q/\Made f s c x.1.toNat x.2) (λx=>(q-x.1).toNat) ⟨by simp,by show(0:Int)<=q;omega,hm0⟩ (by simp;omega) λx nx hx hn=>?_;obtain⟨i,y⟩:=x;obtain⟨x1,x2,m⟩:=hx;simp only at x1 x2 m;unfold oZ;refine Ends.cond (λk=>?_) λk=>Ends.pure ⟨λ_=>?_,λ_ _ _ _=>rfl⟩;have k:=br k;simp only at k;have l1:=m.rx;have l2:=m.pl;have l3:=m.vec;have l4:=m.pol;refine Ends.room (by simp;omega) (Ends.room (by simp;omega) (Ends.room (by simp;omega) (Ends.room (by simp;omega) ?_)));have ho:=ahB m (by omega) hv (alD h3 hb3);rw[show((i.toNat:Nat):Int)=i by omega]at ho;refine ho.bind λr hr=>?_;simp only;rw[aj (n:=i+1)];refine hn _ ⟨by show 0<=i+1;omega,by show i+1<=q;omega,?_⟩ (by show(q-(i+1)).toNat<(q-i).toNat;omega);show Made f s c (i+1).toNat r.2;rw[show(i+1).toNat=i.toNat+1 by omega];exact hr;have k:=dy k;simp only at k;have hi:i=q:=by omega
 subst hi;exact⟨adM m (by omega) h1 hf (by rw[show((i.toNat:Nat):Int)=i by omega];exact h2) hs,congrArg (λx=>x.2.1) m.rest⟩
def apE (a:Act):Prop:=a.2.1.2.2.2.2.2.2.2.2.2.2.2.2.2.2.2.length<=1000/\a.2.2.2.2.1.length<=382/\0<=a.1/\a.1<=6
theorem IT (n x:Int)(h0:0<=n:=by omega)(h1:n<=1000000:=by omega):Ends (fZ n x) λr=>(r.length:Int)=n:=by unfold fZ;rw[aI ⟨h0,dB _⟩];refine Ends.room (by omega) (Ends.vo (λy=>(y.1.length:Int)=n/\0<=y.2/\y.2<=n) (λy=>(n-y.2).toNat) ⟨by simp;omega,by simp,h0⟩ (by simp;omega) λy nx hy hn=>?_);unfold qG;refine Ends.cond (λk=>?_) λk=>Ends.pure (by simp[bf];exact hy.1);have k:=br k;rw[aj (n:=y.2+1)];refine Ends.idx hy.2.1 (by omega) λ_=>Ends.idx hy.2.1 (by omega) λ_=>hn _ ⟨?_,?_,?_⟩ ?_;show((List.set _ _ _).length:Int)=n;rw[ay];exact hy.1;show 0<=y.2+1;omega;show y.2+1<=n;omega;show(n-(y.2+1)).toNat<(n-y.2).toNat;omega
theorem N8:vz=some (replicate 8 (0,(0,0,0,0,0),0)):=by unfold vz;rw[aI (by decide),aL (by decide)];rfl
theorem adH {k:Bytes}(hk:k.length=16):eC (([]:aw kL),replicate 8 (0,(0,0,0,0,0),0),k,[0]) 1=true:=by
 have ht:rl (replicate 8 (0,(0,0,0,0,0),0))=true:=by decide+kernel
 have hs:sj (k,[0]) 1=true:=by unfold sj;simp only[hk];decide+kernel
 unfold eC;rw[show za ([]:aw kL)=true from rfl,ht,hs];rfl
def Bk (h:Host)(s:aw Stream):Host:=(h.1,h.2.1,h.2.2.1,h.2.2.2.1,h.2.2.2.2.1,h.2.2.2.2.2.1,h.2.2.2.2.2.2.1,h.2.2.2.2.2.2.2.1,h.2.2.2.2.2.2.2.2.1,s,h.2.2.2.2.2.2.2.2.2.2)
theorem S8 (f:Jh h){s:aw Stream}(h1:s.length<=2000)(h2:∀x∈s,x.2.2.1=[]):Jh (Bk h s):=by have g:=f.akG;have z:=f.sz.z;refine⟨⟨g.mem,g.maps,g.tx,g.sF,g.lens,g.SW,g.rx,g.pool,g.vec,g.Kb⟩,⟨⟨z.1,z.2.1,z.2.2.1,z.2.2.2.1,z.2.2.2.2.1,z.2.2.2.2.2.1,z.2.2.2.2.2.2.1,z.2.2.2.2.2.2.2.1,z.2.2.2.2.2.2.2.2.1,⟨h1,λx hx=>?_⟩,z.2.2.2.2.2.2.2.2.2.2⟩,f.sz.t⟩,f.maps,f.led,f.is⟩;refine⟨⟨cq,cq,cq,cq,cq⟩,cq,?_,cq⟩;show x.2.2.1.length<=2000;rw[h2 x hx];simp
theorem aov (g:Good n h)(hn:n<=1000000000000):Dj h=(h.2.2.2.2.2.2.2.1,h.2.2.2.2.2.2.2.2.1,(h.2.2.2.1.length:Int),h.2.2.2.2.2.2.2.2.2.1,([]:bV))/\Di (Dj h)=true:=by
 have e:Dj h=(h.2.2.2.2.2.2.2.1,h.2.2.2.2.2.2.2.2.1,(h.2.2.2.1.length:Int),h.2.2.2.2.2.2.2.2.2.1,([]:bV)):=by unfold Dj;rw[g.ok hn];rfl
 refine⟨e,?_⟩;rw[e];unfold Di;rw[af];exact⟨g.sF,g.SW⟩
structure gD (n:Int) (c:cE):Prop where
 mq:(bU c.2.2.1).2=true
 len:c.1.length=c.2.2.1.length/\c.2.1.length=c.2.2.1.length
 fns:ew c.2.1 (bU c.2.2.1).1=true
 MI:¬gW c.2.2.2.1<0
 clock:rb c.2.2.2.2.1=true
 host:∀(i:Nat)(h:Host)(b:bF),c.1[i]?=some h->c.2.2.1[i]?=some b->Good n h/\h.2.2.2.2.2.2.2.1=b.1
 place:∀i,i<c.1.length->pN c.2.1 i=true
 FJ:∀b∈c.2.2.1,b.2.1<=n/\b.2.2.2<=n
 QP:∀f∈c.2.1,f.2.2.2.2.1<=n/\f.2.2.2.2.2<=n
theorem gD.mono {m:Int}{c:cE}(g:gD n c)(h:n<=m:=by omega):gD m c:=⟨g.mq,g.len,g.fns,g.MI,g.clock,λi a b h1 h2=>⟨(g.host i a b h1 h2).1.mono h,(g.host i a b h1 h2).2⟩,g.place,λb hb=>⟨by have:=(g.FJ b hb).1;omega,by have:=(g.FJ b hb).2;omega⟩,λf hf=>⟨by have:=(g.QP f hf).1;omega,by have:=(g.QP f hf).2;omega⟩⟩
theorem gD.ok {c:cE}(g:gD n c)(hn:n<=1000000000000):jI c=true:=by
 unfold jI;rw[g.mq,g.fns,g.clock,aq g.MI];simp only[bH,aZ];rw[af,af,aF,aF];refine⟨?_,?_,?_⟩;unfold JA;rw[g.len.1,g.len.2];simp;intro i hi;have hi:=bE.1 hi;have hj:i<c.2.2.1.length:=by have:=g.len.1;omega
 rw[J9 i hi hj];have q:=g.host i _ _ (ak hi) (ak hj);rw[q.1.ok hn,Qz q.2];rfl;intro i hi;exact g.place i (bE.1 hi)
theorem VD:∀(ms:aw bF)(s:bQ×aw Port),(ms.foldl G4 s).2.length=s.2.length+ms.length
 |[],s=>rfl
 |m::ms,s=>by rw[dL,VD ms];show(s.2++[_]).length+_=_;rw[ai,aW,bg];omega
theorem lE (h:(bU ms).2=true):(bU ms).1=jR ms/\(jR ms).length=ms.length+1/\gv (jR ms)=true/\(∀m∈ms,iT m=true)/\1<=ms.length/\ms.length<=3:=by unfold bU at h⊢;cases hq:cY (ms.length:Int) 1 3&&(ms.all iT&&gv (jR ms))with|false=>rw[hq]at h;cases h|true=>simp only[af,aX,aF]at hq;refine⟨rfl,?_,hq.2.2,hq.2.1,by omega,by omega⟩;unfold jR;rw[bg,VD];simp
structure agr (k:Int) (b:bF):Prop where
 mac:b.1.1=k
 vl:b.1.2.2=[7]\/b.1.2.2=[]
 last:0<=b.2.1/\b.2.1<=4
 done:0<=b.2.2.2/\b.2.2.2<=3
theorem ap7 (h:Cu c):Ends (Em c) λr=>((r.1.1.2.2=[7]\/r.1.1.2.2=[])/\(0<=r.1.2.1/\r.1.2.1<=4)/\0<=r.1.2.2.2/\r.1.2.2.2<=3)/\Cu r.2:=by unfold Em;refine(YF h).bind λr1 p1=>(gL p1.2 (by decide)).bind λr2 p2=>(gL p2.2 (by decide)).bind λr3 p3=>(gL p3.2 (by decide)).bind λr4 p4=>Ends.pure ⟨⟨p1.1.2,?_,?_⟩,p4.2⟩;have:=p2.1;show 0<=r2.1/\r2.1<=4;omega;have:=p4.1;show 0<=r4.1/\r4.1<=3;omega
theorem Za {P:Nat->α->Prop}{l:aw α}{a:α}(h:∀i b,l[i]?=some b->P i b)(ha:P l.length a):∀i b,(l++[a])[i]?=some b->P i b:=by
 intro i b hb;rcases bT i l.length with hi|hi;rw[bK hi]at hb;exact h i b hb;rw[bA hi]at hb;obtain⟨hj,hb⟩:=aC.1 hb;have e:i=l.length:=by simp at hj;omega
 subst e;simp at hb;rw[<-hb];exact ha
theorem ajr (h:Cu c):Ends (AB c) λr=>((1<=r.1.length/\r.1.length<=3)/\∀(i:Nat)(b:bF),r.1[i]?=some b->agr (2*((i:Int)+1)) b)/\Cu r.2:=by unfold AB;refine(gL h (n:=3) (by decide)).bind λr1 p1=>?_;have hp:=p1.1;rw[aj (n:=1+r1.1)];refine Ends.vo (λx=>0<=x.2.1/\(x.1.length:Int)+x.2.1=1+r1.1/\(∀(i:Nat)(b:bF),x.1[i]?=some b->agr (2*((i:Int)+1)) b)/\Cu x.2.2) (λx=>x.2.1.toNat) ⟨by show 0<=1+r1.1;omega,by simp,by intro i b hb;simp at hb,p1.2⟩ (by show(1+r1.1).toNat<=_;omega) λx nx hx hn=>?_;obtain⟨l,n,c'⟩:=x;obtain⟨x1,x2,x3,x4⟩:=hx;simp only at x1 x2 x3 x4;unfold zB;refine Ends.cond (λk=>?_) λk=>?_;have k:=br k;simp only at k⊢;refine(ap7 x4).bind λr2 p2=>Ends.room (by simp;omega) ?_;rw[aj (n:=(l.length:Int)+1),aj (n:=2*((l.length:Int)+1)),aj (n:=n-1)];refine hn _ ⟨by show 0<=n-1;omega,by show((l++[_]).length:Int)+(n-1)=_;simp;omega,Za x3 ⟨rfl,p2.1.1,p2.1.2.1,p2.1.2.2⟩,p2.2⟩ (by show(n-1).toNat<n.toNat;omega);have k:=dy k;simp only at k⊢;exact Ends.pure ⟨⟨⟨by show 1<=l.length;omega,by show l.length<=3;omega⟩,x3⟩,x4⟩
theorem ahd {v:Int}{b:Bytes}:(ec v b).1.length<=96:=by unfold ec;cases hq:cY v 0 1000000&&decide (b.length<=84)with|false=>simp|true=>simp only[af,aG]at hq;show(WU v b).length<=96;unfold WU;have h4:∀v,(gw v).length<=4:=dT;have a:=h4 v;have b1:=h4 (b.length:Int);have c:=h4 (NM ((gw v++gw (b.length:Int))++b));simp only[ai];omega
theorem Rc (h:Cu c):Ends (vF c) λr=>r.1.length<=96/\Cu r.2:=by unfold vF;refine(jQ (P:=λ_=>True) h (by decide) (by simp)).bind λr1 p1=>(gL p1.2 (by decide)).bind λr2 p2=>(I8 p2.2 r2.1).bind λr3 p3=>?_;rw[Sj _ _ (by have:=p3.1.1;omega),ab];exact Ends.pure ⟨ahd,p3.2⟩
theorem acX (h:Cu c):Ends (AA c) λr=>(r.1.length=2/\∀x∈r.1,x.length=96)/\Cu r.2:=by
 unfold AA;refine Ends.vo (λx=>0<=x.1/\x.1<=2/\(x.2.2.length:Int)=x.1/\(∀y∈x.2.2,y.length=96)/\Cu x.2.1) (λx=>(2-x.1).toNat) ⟨by simp,by simp,by simp,by simp,h⟩ (by simp) λx nx hx hn=>?_;obtain⟨i,c',l⟩:=x;obtain⟨x1,x2,x3,x4,x5⟩:=hx;simp only at x1 x2 x3 x4 x5;unfold zw;refine Ends.cond (λk=>?_) λk=>?_;have k:=br k;simp only at k⊢;refine(Rc x5).bind λr1 p1=>(tS p1.2 _).bind λr2 p2=>?_;have fin:∀(s t:Bytes)(c2:VN),s.length+t.length=96->Cu c2->Ends (Go.Dn.room (List.length s+List.length t) (Go.Dn.room (List.length l+List.length [(s++t)]) (nx (ar (i+1),c2,l++[(s++t)])))) (λr=>(r.1.length=2/\∀x∈r.1,x.length=96)/\Cu r.2):=by intro s t c2 hs hc;refine Ends.room (by omega) (Ends.room (by simp;omega) ?_);rw[aj (n:=i+1)];refine hn _ ⟨by show 0<=i+1;omega,by show i+1<=2;omega,by show((l++[_]).length:Int)=i+1;simp;omega,?_,hc⟩ (by show(2-(i+1)).toNat<(2-i).toNat;omega);intro y hy;rcases aA.1 hy with hy|hy;exact x4 y hy;rw[bI.1 hy,ai];exact hs
 refine Ends.cond (λ_=>?_) λ_=>?_;refine(I8 p2 30).bind λr3 p3=>?_;have e:=p3.1.2.1 (by omega) (by omega);rw[aj (n:=96-(r3.1.length:Int))];exact(IT _ 255).bind λr4 p4=>fin _ _ _ (by omega) p3.2;have e:=p1.1;rw[aj (n:=96-(r1.1.length:Int))];exact(IT _ 255).bind λr4 p4=>fin _ _ _ (by omega) p2;have k:=dy k;simp only at k⊢;exact Ends.pure ⟨⟨by show l.length=2;omega,x4⟩,x5⟩
theorem Tv {f:Filter}{s:dA}{c:Bool}{a:Int}(hf:f.2.2.length<=1000)(hs:DG s)(hb3:b<=3)(h:(oJ f s c a b).2=true):Jh (oJ f s c a b).1/\(oJ f s c a b).1.2.2.2.2.2.2.2.1=f:=by refine⟨?_,?_⟩;obtain⟨x,e,hx⟩:=adY 1 f s c a b hf hs hb3;rw[Ol f s c a b (by omega) (by have:=hs.r;omega) (by have:=hs.t;omega) (by have:=hs.p;omega)]at e;have e:=bM e;rw[e]at h⊢;exact(hx.1 h).1;unfold oJ at h⊢;cases hq:dG f&&(eC s 1&&(sR a b).2)with|true=>rfl|false=>rw[hq]at h;cases h
def C6 (bk:uK)(n:Nat):aw aE:=(range n).map λ(i:Nat)=>((i:Int),(i:Int)+1,bk,true,0,0)
theorem C7 (bk:uK)(n:Nat):(C6 bk n).length=n:=by simp[C6]
theorem aaA (bk:uK)(n:Nat):C6 bk (n+1)=C6 bk n++[((n:Int),(n:Int)+1,bk,true,0,0)]:=by simp[C6,gz]
theorem Kw (bk:uK){n:Nat}(h:i<n):(C6 bk n).getD i ID=((i:Int),(i:Int)+1,bk,true,0,0):=by rw[bN (by rw[C7];exact h)];simp[C6]
structure EZ (c:cE):Prop where
 mq:(bU c.2.2.1).2=true
 box:∀(i:Nat)(b:bF),c.2.2.1[i]?=some b->agr (2*((i:Int)+1)) b
 len:c.1.length=c.2.2.1.length
 host:∀(i:Nat)(h:Host)(b:bF),c.1[i]?=some h->c.2.2.1[i]?=some b->Jh h/\h.2.2.2.2.2.2.2.1=b.1
 fns:∃bk,gU bk=true/\c.2.1=C6 bk c.2.2.1.length
 flash:c.2.2.2.1.length=2/\∀x∈c.2.2.2.1,x.length=96
 MI:¬gW c.2.2.2.1<0
 clock:rb c.2.2.2.2.1=true
 rest:c.2.2.2.2.2=(([]:List Int),([]:List Bytes))
theorem EZ.akG {c:cE}(d:EZ c):gD 4 c:=by
 obtain⟨bk,hb,hf⟩:=d.fns;have p:=lE d.mq;refine⟨d.mq,⟨d.len,by rw[hf,C7]⟩,?_,d.MI,d.clock,λi h b h1 h2=>⟨(d.host i h b h1 h2).1.akG.mono,(d.host i h b h1 h2).2⟩,?_,?_,?_⟩;unfold ew;rw[p.1,p.2.2.1,aZ,aF,hf,C7];intro i hi;have hi:=bE.1 hi;unfold fnB;rw[Kw bk hi,p.2.1,af];refine⟨?_,?_⟩;unfold yI;simp only[hb,af,aX,aZ];rw[aj];push_cast;refine⟨⟨by omega,by omega⟩,⟨by omega,by omega⟩,⟨by decide,by decide⟩,by decide,by decide⟩;rw[aF];intro j hj;have hj:=bE.1 hj;rw[Kw bk (by omega)];unfold YS;simp only[aM,cI,cg,ne_eq];omega;intro i hi;unfold pN;rw[hf,Kw bk (by rw[<-d.len];exact hi)];simp;·intro b hb;obtain⟨i,hi⟩:=List.getElem?_of_mem hb;have q:=d.box i b hi;exact⟨q.last.2,by have:=q.done.2;omega⟩
 intro f hh;rw[hf]at hh;simp only[C6,dH]at hh;obtain⟨i,_,rfl⟩:=hh;exact⟨by show(0:Int)<=4;omega,by show(0:Int)<=4;omega⟩
theorem afH (hs:DG st){bk:uK}{t:Int}(hm:∀m∈ms,m.1.2.2.length<=1000):∀(l:aw bF)(k:Nat)(s:aw Host×aw aE),k<=ms.length->ms.drop k=l->s.1.length=k->s.2=C6 bk k->(∀(i:Nat)(h:Host)(b:bF),s.1[i]?=some h->ms[i]?=some b->Jh h/\h.2.2.2.2.2.2.2.1=b.1)->∀x,EK (Tu st cb bk) (λs=>some ((s.1,s.2,ms,f,(0,0,t,0),([]:bQ),([]:bV)),true)) l s=some (x,true)->
 ∃yD,x=(yD,C6 bk ms.length,ms,f,(0,0,t,0),([]:bQ),([]:bV))/\yD.length=ms.length/\∀(i:Nat)(h:Host)(b:bF),yD[i]?=some h->ms[i]?=some b->Jh h/\h.2.2.2.2.2.2.2.1=b.1
 |[],k,s,hk,hd,h1,h2,h3,x,hx=>by
  have e:k=ms.length:=by have:=aS (i:=k) (l:=ms);rw[hd]at this;simp at this;omega
  subst e;rw[EK]at hx;have hx:=(Prod.mk.inj (bM hx)).1;exact⟨s.1,by rw[<-hx,h2],h1,h3⟩
 |y::l,k,s,hk,hd,h1,h2,h3,x,hx=>by
  have gr:k<ms.length:=by have:=aS (i:=k) (l:=ms);rw[hd]at this;simp at this;omega
  have hy:=cv gr;rw[hd]at hy;obtain⟨e1,e2⟩:=List.cons.inj hy;rw[EK]at hx;unfold Tu at hx;by_cases hb:(oJ y.1 st cb 1 2).2=true;rw[aI hb]at hx;simp only at hx;have hf:=Tv (by rw[e1];exact hm _ (aB gr)) hs (by omega) hb;refine afH hs hm l (k+1) _ (by omega) e2.symm (by simp[h1]) ?_ ?_ x hx;show s.2++[((s.2.length:Int),(s.2.length:Int)+1,bk,true,0,0)]=_;rw[h2,C7,aaA];intro i h b g1 g2;refine Za (P:=λi h=>∀b,ms[i]?=some b->Jh h/\h.2.2.2.2.2.2.2.1=b.1) (λi h g b g'=>h3 i h b g g') (λb g=>?_) i h g1 b g2;rw[h1,ak gr,<-e1]at g;rw[<-bM g];exact hf;rw[aK hb]at hx;simp at hx
theorem UY {bk:uK}{t:Int}{x:cE}(hs:DG st)(hm:∀(i:Nat)(b:bF),ms[i]?=some b->agr (2*((i:Int)+1)) b)(hf:f.length=2/\∀y∈f,y.length=96)(h:xO ms st cb bk f t=some (x,true)):EZ x:=by
 unfold xO at h;cases hq:(bU ms).2&&(gU bk&&(!decide (gW f<0)&&rb (0,0,t,0)))with
 |false=>rw[hq]at h;simp[ajt]at h
 |true=>
  rw[hq,ah]at h;simp only[af,aM,cH]at hq;have hl:∀m∈ms,m.1.2.2.length<=1000:=by intro m hmm;obtain⟨i,hi⟩:=List.getElem?_of_mem hmm;rcases(hm i m hi).vl with e|e<;>rw[e]<;>simp
  obtain⟨yD,e,e1,e2⟩:=afH hs hl ms 0 ([],[]) (by omega) rfl rfl rfl (λi h b g=>by simp at g) x h;rw[e];exact⟨hq.1,hm,e1,e2,⟨bk,hq.2.1,rfl⟩,hf,hq.2.2.1,hq.2.2.2,rfl⟩
theorem afI (st:dA)(cb:Bool)(bk:uK)(F:aw Host×aw aE->cE×Bool):∀(l:aw bF)(s:aw Host×aw aE),∃r,EK (Tu st cb bk) (λs=>some (F s)) l s=some r
 |[],s=>⟨_,rfl⟩
 |y::l,s=>by rw[EK];unfold Tu;by_cases hb:(oJ y.1 st cb 1 2).2=true;rw[aI hb];exact afI st cb bk F l _;rw[aK hb];exact⟨_,rfl⟩
theorem aaz (ms:aw bF)(st:dA)(cb:Bool)(bk:uK)(f:bV)(t:Int):∃r,xO ms st cb bk f t=some r:=by unfold xO;cases (bU ms).2&&(gU bk&&(!decide (gW f<0)&&rb (0,0,t,0)))with|false=>exact⟨_,rfl⟩|true=>exact afI st cb bk _ ms _
theorem afG (st:dA)(cb:Bool)(bk:uK)(F:aw Host×aw aE->cE):∀(l:aw bF)(s:aw Host×aw aE),(∀y∈l,(oJ y.1 st cb 1 2).2=true)->∃x,EK (Tu st cb bk) (λs=>some (F s,true)) l s=some (x,true)
 |[],s,_=>⟨_,rfl⟩
 |y::l,s,h=>by rw[EK];unfold Tu;rw[aI (h y (List.mem_cons_self ..))];exact afG st cb bk F l _ λz hz=>h z (eY _ hz)
theorem Vr (hs:DG st)(hm:∀(i:Nat)(b:bF),ms[i]?=some b->agr (2*((i:Int)+1)) b)(hl:ms.length<=3)(hf:f.length=2)(cb:Bool)(bk:uK)(t:Int):ug ms st cb bk f t=xO ms st cb bk f t:=by refine abl ms st cb bk f t (by omega) (λm hh=>?_) (by omega) (by have:=hs.r;omega) (by have:=hs.t;omega) (by have:=hs.p;omega);obtain⟨i,hi⟩:=List.getElem?_of_mem hh;rcases(hm i m hi).vl with e|e<;>rw[e]<;>simp
theorem atl {Q:R->Prop}{k0:VN->az R}{k1:VN->cE->az R}{v:Int}(hs:DG st)(hc:Cu c)(hk0:∀c',Cu c'->Ends (k0 c') Q)(hk1:∀c' x,Cu c'->EZ x->Ends (k1 c' x) Q):Ends (tn k0 k1 v c b2 st) Q:=by unfold tn;refine(jQ (P:=λ_=>True) hc (by decide) (by simp)).bind λr4 p4=>(jQ (P:=λ_=>True) p4.2 (by decide) (by simp)).bind λr5 p5=>(ajr p5.2).bind λr6 p6=>(gL p6.2 (by decide)).bind λr7 p7=>(acX p7.2).bind λr8 p8=>(jQ (P:=λ_=>True) p8.2 (by decide) (by simp)).bind λr9 p9=>?_;rw[Vr hs p6.1.2 p6.1.1.2 p8.1.1];obtain⟨⟨x,ok⟩,e⟩:=aaz r6.1 st (decide (r7.1>0)) (r4.1,2000,r5.1) r8.1 r9.1;rw[e,ab];refine Ends.cond (λk=>?_) λ_=>hk0 _ p9.2;have k:ok=true:=k;subst k;exact hk1 _ _ p9.2 (UY hs p6.1.2 p8.1 e)
theorem ayI {Q:R->Prop}{k0:Int->VN->az R}{k1:VN->cE->az R}{v:Int}(hv:0<=v/\v<=100)(hc:Cu c)(hk0:∀c',Cu c'->Ends (k0 (v+1) c') Q)(hk1:∀c' x,Cu c'->EZ x->Ends (k1 c' x) Q):Ends (yy k0 k1 v c b2) Q:=by
 unfold yy;simp only[N8,ab];refine(ara hc).bind λr2 p2=>(tS p2.2 4).bind λr3 p3=>?_;have k3:∀c',Cu c'->Ends (tk (λCs=>k0 Cs c') v c' b2) Q:=by intro c' Cy;unfold tk;rw[aj];exact hk0 _ Cy
 refine Ends.cond (λ_=>atl ⟨by simp,by simp,p2.1,by simp⟩ p3 k3 λc' x h1 h2=>hk1 _ _ h1 h2) λ_=>atl ⟨by simp,by simp,p2.1,by simp⟩ p3 k3 λc' x h1 h2=>hk1 _ _ h1 h2
theorem agC {t u:Bytes}(ht:t.length=84)(hu:u.length=96):¬gW [(ec 1 []).1++t,u]<0:=by
 have e:(ec 1 []).1=[0,0,0,1,0,0,0,0]++gw (NM [0,0,0,1,0,0,0,0]):=by decide+kernel
 have el:(ec 1 []).1.length=12:=by rw[e];decide+kernel
 have hv:ix ((ec 1 []).1++t)=1:=by
  have g:∀a:Nat,a+4<=12->eK ((ec 1 []).1++t) (a:Int)=eK (ec 1 []).1 (a:Int):=by
   intro a ha;unfold eK fG ch;rw[au (by rw[ai,el];omega),au (by rw[el];omega)];have b:∀i,i<12->((ec 1 []).1++t).getD i 0=(ec 1 []).1.getD i 0:=by intro i hi;rw[bu,bu,bK (by omega)]
   simp only[ax];rw[b a (by omega),b (a+1) (by omega),b (a+2) (by omega),b (a+3) (by omega)]
  have g0:eK ((ec 1 []).1++t) 0=1:=(g 0 (by omega)).trans (by decide+kernel);have g4:eK ((ec 1 []).1++t) 4=0:=(g 4 (by omega)).trans (by decide+kernel);unfold ix;rw[g4,aI (by rw[ai,el];omega)];unfold ai4;have t1:(((ec 1 []).1++t).take (8+(0:Int).toNat)).drop 8=[]:=by rw[dP (by rw[aP];simp;omega)]
  have t2:((ec 1 []).1++t).take (12+(0:Int).toNat)=(ec 1 []).1:=by rw[List.take_left' (by rw[el];rfl)]
  rw[t1,t2,g0];have o:(ec 1 []).2=true:=by decide+kernel
  rw[o,gG];rfl
 unfold gW;have hf:lb [(ec 1 []).1++t,u]=true:=by unfold lb;show((((2:Nat):Int)==2)&&(((((ec 1 []).1++t).length:Int)==96)&&((u.length:Int)==96)))=true;rw[ai,el,ht,hu];rfl
 rw[hf,ah];have h0:List.getD [(ec 1 []).1++t,u] 0 []=(ec 1 []).1++t:=rfl;rw[h0,hv];split;omega;split<;>omega
theorem alB (h:Cu c):Ends (En c) λr=>EZ r.1/\Cu r.2:=by
 unfold En;refine Ends.vo (λx=>0<=x.1/\x.1<=4/\Cu x.2) (λx=>(4-x.1).toNat) ⟨by simp,by simp,h⟩ (by simp) λx nx hx hn=>?_;obtain⟨i,c'⟩:=x;obtain⟨x1,x2,x3⟩:=hx;simp only at x1 x2 x3;unfold Ds;refine Ends.cond (λk=>?_) λk=>?_;have k:=br k;simp only at k⊢;exact ayI ⟨by omega,by omega⟩ x3 (λc2 h2=>hn _ ⟨by show 0<=i+1;omega,by show i+1<=4;omega,h2⟩ (by show(4-(i+1)).toNat<(4-i).toNat;omega)) λc2 y h2 d=>Ends.pure ⟨d,h2⟩;have el:(ec 1 []).1.length=12:=by decide+kernel
 simp only[Sj 1 [] (by simp),ab];rw[el,aj (n:=96-((12:Nat):Int))];refine(IT _ 255).bind λr26 p26=>Ends.room (by omega) ((IT 96 255).bind λr27 p27=>?_);simp only[N8,ab];refine(IT 16 5).bind λr29 p29=>?_;have hs:DG (([]:aw kL),replicate 8 (0,(0,0,0,0,0),0),r29,[0]):=⟨by simp,by simp,by show r29.length=16;omega,by simp⟩
 have hm:∀(j:Nat)(b:bF),([((2,false,([]:bQ)),0,0,0),((4,false,([]:bQ)),0,0,0)]:aw bF)[j]?=some b->agr (2*((j:Int)+1)) b:=by intro j b hb;match j with|0=>have e:=bM hb;rw[<-e];exact⟨rfl,Or.inr rfl,⟨by decide,by decide⟩,by decide,by decide⟩|1=>have e:=bM hb;rw[<-e];exact⟨rfl,Or.inr rfl,⟨by decide,by decide⟩,by decide,by decide⟩|j+2=>simp at hb
 have hb:=agC (t:=r26) (u:=r27) (by omega) (by omega);rw[Vr hs hm (by simp) rfl];have e:∃x,xO ([((2,false,([]:bQ)),0,0,0),((4,false,([]:bQ)),0,0,0)]:aw bF) (([]:aw kL),replicate 8 (0,(0,0,0,0,0),0),r29,[0]) true (100,2000,1000) [(ec 1 []).1++r26,r27] 1048576=some (x,true):=by
  unfold xO;have p1:(bU [((2,false,([]:bQ)),0,0,0),((4,false,([]:bQ)),0,0,0)]).2=true:=by decide+kernel
  have p2:gU (100,2000,1000)=true:=by decide+kernel
  have p3:rb (0,0,1048576,0)=true:=by decide+kernel
  rw[p1,p2,p3,aq hb];refine afG _ _ _ _ _ _ λy hy=>?_;have nD:=adH (k:=r29) (by omega);have hv:(sR 1 2).2=true:=by decide+kernel
  have hf:dG y.1=true:=by rcases bZ.1 hy with e|hy;rw[e];decide+kernel;rw[bI.1 hy];decide+kernel
  unfold oJ;rw[hf,nD,hv];rfl
 obtain⟨x,e⟩:=e;rw[e,ab];refine Ends.pure ⟨UY hs hm ⟨rfl,?_⟩ e,x3⟩;intro y hy;rcases bZ.1 hy with e|hy;rw[e,ai,el];omega;rw[bI.1 hy];omega
abbrev ah7:aD:=(0,0,0,0,0,0,0,0,0,0,0,0,0,0,0,([]:Bytes))
structure qh (n:Int) (a:cS):Prop where
 kind:0<=a.1/\a.1<=2
 fn:0<=a.2.1/\a.2.1<n
 act:apE a.2.2.1
 ok:G8 a.2.2.1=true
 msg:0<=a.2.2.2.1.1/\a.2.2.2.1.1<=6
 img:a.2.2.2.2.1.length<=96
 part:0<=a.2.2.2.2.2/\a.2.2.2.2.2<=100
theorem qh.put (h:qh n a){x:Act}(h1:apE x)(h2:G8 x=true):qh n (a.1,a.2.1,x,a.2.2.2):=⟨h.kind,h.fn,h1,h2,h.msg,h.img,h.part⟩
theorem agv (p:aD)(s c:Int):G8 (0,p,s,c,([]:Bytes),0)=true:=rfl
theorem PT (b:Int):G8 (5,ah7,0,0,([]:Bytes),b)=true:=rfl
theorem agu {f:Bytes}(h:f.length<=600):G8 (2,ah7,0,0,f,0)=true:=by unfold G8 aji;simp only[ab];rw[show cY (2:Int) 0 6=true from aX.2 ⟨by omega,by omega⟩,cD];rfl
theorem wR {k:Int}(h:k=1\/k=3\/k=4\/k=6\/k=0:=by omega):G8 (k,ah7,0,0,([]:Bytes),0)=true:=by rcases h with rfl|rfl|rfl|rfl|rfl<;>rfl
theorem qP {k:Int}(h:0<=k/\k<=6:=by omega):apE (k,ah7,0,0,([]:Bytes),b):=⟨by simp,by simp,h.1,h.2⟩
theorem Ob (h:Cu c)(p:aD)(hn:0<=n/\n<=100):Ends (tp c p n) λr=>((0<=r.1.1/\r.1.1<=281474976710655)/\(r.1.2.1=99\/r.1.2.1=2*(n+1))/\r.1.2.2=p.2.2)/\Cu r.2:=by unfold tp;rw[aj (n:=n+1),aj (n:=2*(n+1))];refine(tS h 12).bind λr1 p1=>Ends.cond (λ_=>(jQ (P:=λx=>0<=x/\x<=281474976710655) p1 (by decide) (by decide)).bind λr2 p2=>Ends.pure ⟨⟨p2.1,Or.inl rfl,rfl⟩,p2.2⟩) λ_=>(jQ (P:=λx=>0<=x/\x<=281474976710655) p1 (by decide) (by decide)).bind λr2 p2=>Ends.pure ⟨⟨p2.1,Or.inr rfl,rfl⟩,p2.2⟩
theorem adQ (h:Cu c):Ends (wy c) λr=>(0<=r.1.1/\r.1.1<=6)/\Cu r.2:=by unfold wy;refine(gL h (by decide)).bind λr1 p1=>(jQ (P:=λ_=>True) p1.2 (by decide) (by simp)).bind λr2 p2=>(jQ (P:=λ_=>True) p2.2 (by decide) (by simp)).bind λr3 p3=>Ends.pure ⟨?_,p3.2⟩;have:=p1.1;show 0<=r1.1/\r1.1<=6;omega
theorem PW (h:qh n a):∀y∈l++[a],y∈l\/qh n y:=by intro y hy;rcases aA.1 hy with hy|hy;exact Or.inl hy;rw[bI.1 hy];exact Or.inr h
theorem c25 {Q:R->Prop}{k0:aw cS->VN->cS->az R}{v10 v30:Int}{v63:Bool}{ps:aw aD}(hl:l.length<=1000)(hp:∀p∈ps,Plain p)(h9:0<=v9/\v9<(ps.length:Int))(h10:0<=v10/\v10<=100)(hc:Cu c)(ha:qh v1 a)(hk:∀l' c' a',l'.length<=l.length+1->(∀y∈l',y∈l\/qh v1 y)->Cu c'->qh v1 a'->Ends (k0 l' c' a') Q):Ends (jF k0 v1 v2 l ps v9 v10 v30 v63 c a) Q:=by have same:∀c' a',Cu c'->qh v1 a'->Ends (k0 l c' a') Q:=λc' a' h1 h2=>hk l c' a' (by omega) (λy hy=>Or.inl hy) h1 h2;unfold jF;refine Ends.cond (λ_=>?_) λ_=>?_;refine Ends.idx h9.1 h9.2 λhi=>(Ob hc _ h10).bind λr8 p8=>(gL p8.2 (by decide)).bind λr9 p9=>(jQ (P:=λ_=>True) p9.2 (by decide) (by simp)).bind λqx p10=>Ends.room (by simp;omega) ?_;refine hk _ _ _ (by simp) (PW (ha.put ⟨?_,by simp,by simp,by simp⟩ (agv ..))) p10.2 (ha.put (qP) (wR));show r8.1.2.2.2.2.2.2.2.2.2.2.2.2.2.2.2.length<=1000;rw[p8.1.2.2];have:=(hp _ (aB hi)).2;omega;refine Ends.cond (λ_=>same _ _ hc (ha.put (qP) (wR))) λ_=>?_;refine Ends.cond (λ_=>(gL hc (by decide)).bind λuQ p11=>same _ _ p11.2 (ha.put (qP) (PT _))) λ_=>?_;refine Ends.cond (λ_=>same _ _ hc (ha.put (qP) (wR))) λ_=>?_;refine Ends.cond (λ_=>(adQ hc).bind λJH p12=>same _ _ p12.2 ⟨by simp,ha.fn,ha.act,ha.ok,p12.1,ha.img,ha.part⟩) λ_=>?_;refine Ends.cond (λ_=>(tS hc 2).bind λMC p13=>Ends.cond (λ_=>?_) λ_=>same _ _ p13 (ha.put (qP) (wR))) λ_=>same _ _ hc ha;refine(Rc p13).bind λSU p14=>(gL p14.2 (by decide)).bind λJI p15=>same _ _ p15.2 ⟨by simp,ha.fn,qP,wR,ha.msg,p14.1,?_⟩;have:=p15.1;show 0<=JI.1/\JI.1<=100;omega
theorem c19 {Q:R->Prop}{k0:aw cS->VN->cS->az R}{v10 v30:Int}{v46:Bool}{ps:aw aD}(hl:l.length<=1000)(hp:∀p∈ps,Plain p)(h9:0<=v9/\v9<(ps.length:Int))(h10:0<=v10/\v10<=100)(hc:Cu c)(ha:qh v1 a)(hk:∀l' c' a',l'.length<=l.length+1->(∀y∈l',y∈l\/qh v1 y)->Cu c'->qh v1 a'->Ends (k0 l' c' a') Q):Ends (jE k0 v1 v2 l ps v9 v10 v30 v46 c a) Q:=by unfold jE;refine Ends.cond (λ_=>?_) λ_=>?_;refine Ends.idx h9.1 h9.2 λhi=>(Ob hc _ (n:=5) (by omega)).bind λr5 p5=>?_;have hf:=Cw r5.1;rw[Nx,ab];exact hk l _ _ (by omega) (λy hy=>Or.inl hy) p5.2 (ha.put ⟨by simp,hf,by simp,by simp⟩ (agu (by omega)));exact Ends.cond (λ_=>c25 hl hp h9 h10 hc ha hk) λ_=>Ends.cond (λ_=>c25 hl hp h9 h10 hc ha hk) λ_=>Ends.cond (λ_=>c25 hl hp h9 h10 hc ha hk) λ_=>c25 hl hp h9 h10 hc ha hk
theorem c37 {Q:R->Prop}{k0:aw cS->VN->az R}{ps:aw aD}(hl:l.length<=1000)(h1:0<v1)(hc:Cu c)(ha:qh v1 a)(hk:∀l' c',l'.length<=l.length+3->(∀y∈l',y∈l\/qh v1 y)->Cu c'->Ends (k0 l' c') Q):Ends (jG k0 v1 v2 l ps v9 c a) Q:=by unfold jG;refine Ends.room (by simp;omega) ((tS hc 2).bind λr31 p31=>Ends.cond (λ_=>(gL p31 h1).bind λr32 p32=>Ends.room (by simp;omega) (Ends.room (by simp;omega) (hk _ _ (by simp) ?_ p32.2))) λ_=>hk _ _ (by simp) (PW ha) p31);intro y hy;rcases aA.1 hy with hy|hy;rcases aA.1 hy with hy|hy;exact PW ha y hy;rw[bI.1 hy];exact Or.inr ⟨by simp,p32.1,qP,PT _,by simp,by simp,by simp⟩;rw[bI.1 hy];exact Or.inr ⟨by simp,⟨by simp,h1⟩,qP,wR,by simp,by simp,by simp⟩
theorem c6 {Q:R->Prop}{k0:aw cS->Int->VN->az R}{ps:aw aD}(hl:l.length<=900)(h1:0<v1/\v1<=3)(hp:∀p∈ps,Plain p)(h9:0<=v9/\v9<(ps.length:Int))(hn:ps.length<=1000)(hc:Cu c)(hk:∀l' c',l'.length<=l.length+4->(∀y∈l',y∈l\/qh v1 y)->Cu c'->Ends (k0 l' (v9+1) c') Q):Ends (wB k0 v1 v2 l ps v9 c) Q:=by
 unfold wB;refine(gL hc h1.1).bind λr2 p2=>(gL p2.2 (by decide)).bind λr3 p3=>?_;have hf:=p2.1;have a0:qh v1 (0,r2.1,(0,ah7,0,0,([]:Bytes),0),(0,0,0),([]:Bytes),0):=⟨by simp,hf,qP,wR,by simp,by simp,by simp⟩
 have e:ar (v9+1)=v9+1:=aj;have go:∀(v46:Bool),Ends (jE (λy28 y29 y30=>jG (λy33 y34=>mE (λy35=>k0 y33 y35 y34) v1 v2 y33 ps v9 y34) v1 v2 y28 ps v9 y29 y30) v1 v2 l ps v9 r2.1 r3.1 v46 r3.2 (0,r2.1,(0,ah7,0,0,([]:Bytes),0),(0,0,0),([]:Bytes),0)) Q:=by intro v46;refine c19 (by omega) hp h9 ⟨hf.1,by omega⟩ p3.2 a0 λl1 c1 a1 g1 g2 g3 g4=>c37 (by omega) h1.1 g3 g4 λl2 c2 g5 g6 g7=>?_;unfold mE;rw[e];refine hk _ _ (by omega) (λy hy=>?_) g7;rcases g6 y hy with g|g;exact g2 y g;exact Or.inr g
 exact Ends.cond (λ_=>go _) λ_=>Ends.cond (λ_=>go _) λ_=>go _
theorem agx (h:Cu c)(hn:0<n/\n<=3)(b:Bool):Ends (Cm c n b) λr=>(r.1.length<=32/\∀a∈r.1,qh n a)/\Cu r.2:=by
 unfold Cm;refine(aoe h (m:=8) (by omega) (by omega)).bind λr1 p1=>?_;have h8:=p1.1.2.2;refine Ends.vo (λx=>0<=x.2.1/\x.2.1<=(r1.1.length:Int)/\(x.1.length:Int)<=4*x.2.1/\(∀a∈x.1,qh n a)/\Cu x.2.2) (λx=>((r1.1.length:Int)-x.2.1).toNat) ⟨by simp,by simp,by simp,by simp,p1.2⟩ (by simp;omega) λx nx hx hnx=>?_;obtain⟨l,i,c'⟩:=x;obtain⟨x1,x2,x3,x4,x5⟩:=hx;simp only at x1 x2 x3 x4 x5;unfold BA;refine Ends.cond (λk=>?_) λk=>?_;have k:=br k;simp only at k⊢;refine c6 (by omega) hn p1.1.1 ⟨x1,k⟩ (by omega) x5 λl' c2 g1 g2 g3=>hnx _ ⟨by show 0<=i+1;omega,by show i+1<=_;omega,by show(l'.length:Int)<=4*(i+1);omega,?_,g3⟩ (by show((r1.1.length:Int)-(i+1)).toNat<((r1.1.length:Int)-i).toNat;omega);intro a ha;rcases g2 a ha with g|g;exact x4 a g;exact g;simp only;have hl:l.length<=32:=by omega
 refine Ends.vo (λy=>0<=y.2/\y.2<=(y.1.length:Int)/\y.1.length=l.length/\∀a∈y.1,qh n a) (λy=>((y.1.length:Int)-y.2).toNat) ⟨by simp,by simp,rfl,x4⟩ (by simp;omega) λy ny hy hm=>?_;obtain⟨q,j⟩:=y;obtain⟨y1,y2,y3,y4⟩:=hy;simp only at y1 y2 y3 y4;unfold zA;refine Ends.cond (λk2=>?_) λk2=>Ends.pure ⟨⟨by show q.length<=32;omega,y4⟩,x5⟩;have k2:=br k2;simp only at k2⊢;unfold zx;have step:∀q':aw cS,q'.length=l.length->(∀a∈q',qh n a)->Ends (uA (λy61=>ny (q',y61)) q' j c') (λr=>(r.1.length<=32/\∀a∈r.1,qh n a)/\Cu r.2):=by intro q' e1 e2;unfold uA;rw[aj (n:=j+1)];exact hm _ ⟨by show 0<=j+1;omega,by show j+1<=(q'.length:Int);omega,e1,e2⟩ (by show((q'.length:Int)-(j+1)).toNat<((q.length:Int)-j).toNat;omega)
 refine Ends.bind (P:=λ_=>True) ?_ λz _=>?_;exact Ends.idx y1 k2 λ_=>Ends.cond (λ_=>Ends.idx y1 k2 λ_=>Ends.cond (λ_=>Ends.idx y1 k2 λ_=>Ends.pure trivial) λ_=>Ends.pure trivial) λ_=>Ends.pure trivial;unfold zy;refine Ends.cond (λ_=>Ends.idx y1 k2 λhi=>Ends.idx y1 k2 λ_=>step _ (by rw[ay];exact y3) ?_) λ_=>step q y3 y4;intro a ha;rcases cd ha with g|g;exact y4 a g;rw[g];exact(y4 _ (aB hi)).put (qP) (wR)
theorem S4 {c:cE}(d:EZ c)(hk:k<c.1.length){s:aw Stream}(h1:s.length<=2000)(h2:∀x∈s,x.2.2.1=[]):EZ (c.1.set k (Bk c.1[k] s),c.2):=by refine⟨d.mq,d.box,by rw[ay];exact d.len,λi h b e1 e2=>?_,d.fns,d.flash,d.MI,d.clock,d.rest⟩;by_cases WL:i=k;subst WL;rw[cw hk]at e1;have q:=d.host i _ b (ak hk) e2;rw[<-bM e1];exact⟨S8 q.1 h1 h2,q.2⟩;rw[aR (df WL)]at e1;exact d.host i h b e1 e2
theorem ad1 {Q:R->Prop}(hl:l.length<=32)(hf:∀a∈l,a.2.2.1.2.2.2.2.1.length<=382){K:aw aD->Int->az R}{b1:cE}{b3:VN}(hk:∀ps i,ps.length<=64->Ends (K ps i) Q):Ends (bh (rU K l b1 b2 b3) fuel (([]:aw aD),0)) Q:=by
 refine Ends.vo (λx=>0<=x.2/\x.2<=(l.length:Int)/\(x.1.length:Int)<=2*x.2) (λx=>((l.length:Int)-x.2).toNat) ⟨by simp,by simp,by simp⟩ (by simp;omega) λx nx hx hn=>?_;obtain⟨ps,i⟩:=x;obtain⟨x1,x2,x3⟩:=hx;simp only at x1 x2 x3;unfold rU;refine Ends.cond (λk=>?_) λk=>hk _ _ (by show ps.length<=64;omega);have k:=br k;simp only at k⊢;have nxt:∀ps':aw aD,ps'.length<=ps.length+2->Ends (nx (ps',ar (i+1))) Q:=by intro ps' h;rw[aj (n:=i+1)];exact hn _ ⟨by show 0<=i+1;omega,by show i+1<=_;omega,by show(ps'.length:Int)<=2*(i+1);omega⟩ (by show((l.length:Int)-(i+1)).toNat<((l.length:Int)-i).toNat;omega)
 have j10:∀ps':aw aD,ps'.length<=ps.length+1->Ends (pR (λCs=>rT (λEW=>nx (Cs,EW)) l Cs i b1 b2 b3) l ps' i b1 b2 b3) Q:=by intro ps' h;unfold pR rT;refine Ends.idx x1 k λhi=>?_;have h3:=hf _ (aB hi);rw[I1 _ (by omega),ab];exact Ends.cond (λ_=>Ends.room (by simp;omega) (nxt _ (by simp;omega))) λ_=>nxt _ (by omega)
 unfold ya;refine Ends.bind (P:=λ_=>True) ?_ λq _=>?_;exact Ends.idx x1 k λ_=>Ends.cond (λ_=>Ends.idx x1 k λ_=>Ends.pure trivial) λ_=>Ends.pure trivial;unfold yb;exact Ends.cond (λ_=>Ends.idx x1 k λ_=>Ends.room (by simp;omega) (j10 _ (by simp))) λ_=>j10 _ (by omega)
theorem am6 {a:bQ}(ha:a.length<=1048576):Ends (xZ a) λr=>EZ r.1/\r.2.length<=32/\∀x∈r.2,qh (r.1.1.length:Int) x:=by
 unfold xZ;refine(art ha).bind λr1 p1=>(alB p1).bind λr2 p2=>(gL p2.2 (by decide)).bind λr3 p3=>?_;have p:=lE p2.1.mq;have hl:=p2.1.len;refine(agx p3.2 ⟨by omega,by omega⟩ _).bind λr4 p4=>?_;have h32:=p4.1.1;refine ad1 h32 (λa ha=>(p4.1.2 a ha).act.2.1) λps i hps=>?_;refine Ends.vo (λx=>0<=x.1/\x.1<=(x.2.1.1.length:Int)/\EZ x.2.1/\x.2.1.1.length=r2.1.1.length/\Cu x.2.2) (λx=>((x.2.1.1.length:Int)-x.1).toNat) ⟨by simp,by simp,p2.1,rfl,p4.2⟩ (by simp;omega) λx nx hx hn=>?_;obtain⟨j,c,cu⟩:=x;obtain⟨x1,x2,x3,x4,x5⟩:=hx;simp only at x1 x2 x3 x4 x5;unfold wN;refine Ends.cond (λk=>?_) λk=>Ends.pure ⟨x3,h32,λa ha=>by show qh (c.1.length:Int) a;rw[x4];exact p4.1.2 a ha⟩;have k:=br k;simp only at k⊢;unfold wM;refine(aol x5 (by omega)).bind λSV p18=>?_;obtain⟨j,rfl⟩:∃n:Nat,j=n:=⟨j.toNat,by omega⟩
 have hj:j<c.1.length:=by omega
 rw[bc hj,ab,ab,aj (n:=(j:Int)+1),ax];have e:(List.set c.1 j (Bk c.1[j] SV.1)).length=c.1.length:=ay ..;refine hn _ ⟨by show 0<=(j:Int)+1;omega,?_,S4 x3 hj (by omega) p18.1.2,e.trans x4,p18.2⟩ ?_;show(j:Int)+1<=((List.set c.1 j (Bk c.1[j] SV.1)).length:Int)
 rw[e];omega;show(((List.set c.1 j (Bk c.1[j] SV.1)).length:Int)-((j:Int)+1)).toNat<((c.1.length:Int)-(j:Int)).toNat;rw[e];omega
def Q5 (w:cm)(i:Nat):Bool:=(w.1[i]?.all Di)&&MP (w.1[i]?.map (·.1)) (w.2.2.2.1[i]?.map (·.1))
def N5 (w:cm):Bool:=((w.1.length:Int)==(w.2.2.2.1.length:Int))&&(((w.2.1.length:Int)==(w.2.2.2.1.length:Int))&&((w.2.2.1.length:Int)==(w.2.2.2.1.length:Int)))
def sL (w:cm):Bool:=(bU w.2.2.2.1).2&&(N5 w&&(ew w.2.2.1 (bU w.2.2.2.1).1&&((range w.1.length).all (Q5 w)&&(range w.1.length).all (pN w.2.2.1))))
structure aeW (w:cm):Prop where
 s0:w.1.length<=10^9
 f0:w.2.2.1.length<=10^9
 m:∀m∈w.2.2.2.1,m.1.2.2.length<=10^9
 s1:∀s∈w.1,s.1.2.2.length<=10^9
 s2:∀s∈w.1,s.2.1.1.length<=10^9
 s3:∀s∈w.1,s.2.1.2.1.length<=10^9
 s4:∀s∈w.1,s.2.1.2.2.2.length<=10^9
theorem aah {w:cm}(h:N5 w=true):w.1.length=w.2.2.2.1.length/\w.2.2.1.length=w.2.2.2.1.length:=by unfold N5 at h;simp only[af,ba]at h;omega
theorem UB {w:cm}(i:Nat)(hi:i<w.1.length)(hj:i<w.2.2.2.1.length):Q5 w i=(Di w.1[i]&&MP w.1[i].1 w.2.2.2.1[i].1):=by unfold Q5;rw[ak hi,ak hj];congr 1;apply Qy;rw[FO];simp
theorem IK (w:cm)(z:aeW w):pE w=some (sL w):=by
 have hp:=Fu w.2.2.2.1;unfold pE sL;simp only[AK _ z.m,ED _ _ z.f0 hp.1 hp.2,Rf _ z.f0,ab,bB,cT,cF,bne];rw[show((!((w.1.length:Int)==(w.2.2.2.1.length:Int)))||((!((w.2.1.length:Int)==(w.2.2.2.1.length:Int)))|| !((w.2.2.1.length:Int)==(w.2.2.2.1.length:Int))))= !(N5 w) by unfold N5;simp only[iI]];cases (bU w.2.2.2.1).2;rfl;cases hl:N5 w;rfl;have hL:=aah hl;have h0:=z.s0;simp only[al,cZ,ae,aZ];rw[gO (hit:=some false) (fin:=some (ew w.2.2.1 (bU w.2.2.2.1).1&&(range w.2.2.1.length).all (pN w.2.2.1))) (Q5 w) w.1.length (by omega) (λi nx hi=>?hs) (λnx=>?hf)]
 case hs=>
  have q1:i<w.2.2.2.1.length:=by omega
  have hm:=aB hi
  rw[UB i hi q1]
  simp only[vO]
  rw[iH,bc hi,bc q1,aj (n:=(i:Int)+1)]
  simp only[ah,ab,ZP _ (z.s1 _ hm) (z.s2 _ hm) (z.s3 _ hm) (z.s4 _ hm),F0 _ _ (z.s1 _ hm),bB,cT]
  cases Di w.1[i]<;>cases MP w.1[i].1 w.2.2.2.1[i].1<;>rfl
 case hf=>
  simp only[vO]
  rw[cD];rfl
 rw[hL.2,<-hL.1];cases (range w.1.length).all (Q5 w)<;>cases (range w.1.length).all (pN w.2.2.1)<;>cases ew w.2.2.1 (bU w.2.2.2.1).1<;>rfl
structure rr (ps:List Port):Prop where
 n:ps.length<=10^9
 v:∀p∈ps,p.2.1.length<=10^9
def Zc (ps:aw Port)(e:Int)(p:aD):Bool:=gv ps&&(dw p&&cY e 0 ((ps.length:Int)-1))
def XY (x:Port)(p:aD):Int:=bif p.2.2.1== -1 then x.2.2.1 else p.2.2.1
def iq (ps:aw Port)(e:Int)(p:aD):Int:=
 bif !Zc ps e p then-1 else
 bif !hasB (ps.getD e.toNat mn).2.1 (XY (ps.getD e.toNat mn) p)||((e !=0)&&((ps.getD e.toNat mn).2.2.2&&((ps.getD e.toNat mn).1 !=p.2.1))) then-1 else XY (ps.getD e.toNat mn) p
theorem aeN (h:dw p=true):(decide (p.2.2.1<0))=(p.2.2.1== -1):=by simp only[dw,ql,af,aX]at h;have:=h.1.2.2.1;rw[cG,aG,ba];omega
theorem Ku (ps:aw Port)(e:Int)(p:aD)(z:rr ps):ox ps e p=some (iq ps e p):=by
 have hn:=z.n;unfold ox iq Zc;rw[IL ps hn z.v,ab];cases hp:gv ps;rfl;rw[qR,ab];cases hs:dw p;rfl;rw[aj (n:=(ps.length:Int)-1),dW];cases he:cY e 0 ((ps.length:Int)-1);rfl;have h1:=aX.1 he;obtain⟨e,rfl⟩:=aO h1.1;have hl:e<ps.length:=by omega
 have hv:=z.v _ (aB hl);simp only[al,ae,ab,bW,bc hl,ax,bN hl,BQ _ _ hv,XY];cases p.2.2.1== -1<;>simp only[ah,ae]<;>cases hasB ps[e].2.1 p.2.2.1<;>cases hasB ps[e].2.1 ps[e].2.2.1<;>cases (e:Int) !=0<;>cases ps[e].2.2.2<;>cases ps[e].1 !=p.2.1<;>rfl
theorem KA (ps:aw Port)(e:Int)(p:aD)(z:rr ps):oP ps e p=some (iq ps e p):=by
 have hn:=z.n;unfold oP iq Zc;rw[I0 ps hn z.v,ab];cases hp:gv ps;rfl;rw[oN,ab];cases hs:dw p;rfl;rw[aj (n:=(ps.length:Int)-1),cn];cases he:cY e 0 ((ps.length:Int)-1);rfl;have h1:=aX.1 he;obtain⟨e,rfl⟩:=aO h1.1;have hl:e<ps.length:=by omega
 have hv:=z.v _ (aB hl);rw[aeN hs];simp only[al,ae,ab,bW,bc hl,ax,bN hl,Gt _ _ hv,XY];cases p.2.2.1== -1<;>simp only[ah,ae]<;>cases hasB ps[e].2.1 p.2.2.1<;>cases hasB ps[e].2.1 ps[e].2.2.1<;>cases (e:Int) !=0<;>cases ps[e].2.2.2<;>cases ps[e].1 !=p.2.1<;>rfl
def xM (ps:aw Port)(o v:Int)(p:aD):aD:=
 bif gv ps&&(cY o 0 ((ps.length:Int)-1)&&(hasB (ps.getD o.toNat mn).2.1 v&&dw p)) then
  (bif v==(ps.getD o.toNat mn).2.2.1 then(p.1,p.2.1, -1,p.2.2.2) else(p.1,p.2.1,v,p.2.2.2)) else pk0
theorem aiB (ps:aw Port)(o v:Int)(p:aD)(z:rr ps):ue ps o v p=some (xM ps o v p):=by
 have hn:=z.n;unfold ue xM;rw[I0 ps hn z.v,ab];cases hp:gv ps;rfl;rw[aj (n:=(ps.length:Int)-1),cn];cases he:cY o 0 ((ps.length:Int)-1);rfl;have h1:=aX.1 he;obtain⟨o,rfl⟩:=aO h1.1;have hl:o<ps.length:=by omega
 have hv:=z.v _ (aB hl);simp only[al,ae,ab,aZ,bc hl,ax,bN hl,Gt _ _ hv,oN];cases hasB ps[o].2.1 v<;>cases dw p<;>cases v==ps[o].2.2.1<;>rfl
theorem ahk (ps:aw Port)(o v:Int)(p:aD)(z:rr ps):tE ps o v p=some (xM ps o v p):=by
 have hn:=z.n;unfold tE xM;rw[IL ps hn z.v,ab];cases hp:gv ps;rfl;rw[aj (n:=(ps.length:Int)-1),dW];cases he:cY o 0 ((ps.length:Int)-1);rfl;have h1:=aX.1 he;obtain⟨o,rfl⟩:=aO h1.1;have hl:o<ps.length:=by omega
 have hv:=z.v _ (aB hl);simp only[al,ae,ab,aZ,bc hl,ax,bN hl,BQ _ _ hv,qR];cases hasB ps[o].2.1 v<;>cases dw p<;>cases v==ps[o].2.2.1<;>rfl
def Jz (ps:aw Port)(e v:Int)(j:Nat):Bool:=((j:Int) !=e)&&hasB (ps.getD j mn).2.1 v
def jJ (l:fA):bQ:=l.map Int.ofNat
def bcB (p:aD):Bool:=p.1==281474976710655
theorem NQ {q:Nat->Bool}(l:fA)(i:Nat)(hi:i<l.length):(l.take (i+1)).filter q=bif q l[i] then(l.take i).filter q++[l[i]] else(l.take i).filter q:=by rw[aV hi,List.filter_append];cases hq:q l[i]<;>simp[hq]
theorem QG {q:Nat->Bool}(l:fA)(i:Nat):((l.take i).filter q).length<=l.length:=bp (List.length_filter_le _ _) (by simp;omega)
theorem Re (ps:aw Port)(e v:Int)(l:fA)(hl:l.length<=10^9)(hb:∀j∈l,j<ps.length)(z:rr ps): bh (gI (λ(y7:bQ) (y8:Int)=>some y7) ps e v (jJ l) ((jJ l).length:Int)) fuel (([]:bQ),0)=some (jJ (l.filter (Jz ps e v))):=by
 refine cK (λi=>(jJ ((l.take i).filter (Jz ps e v)),(i:Int))) l.length (by omega) (λi nx hi=>?_) (λnx=>?_);have hj:=hb _ (aB hi);have hv:=z.v _ (aB hj);have hi2:i<(jJ l).length:=by simpa[jJ]using hi
 have e1:(jJ l)[i]'hi2=(l[i]:Int):=by simp[jJ]
 have hf:=QG (q:=Jz ps e v) l i;simp only[gI];rw[au (by simpa[jJ]using hi),bc hi2,e1,aj];simp only[ah,ab,bc hj,BQ _ _ hv];rw[NQ l i hi,Jz,bN hj];have hr:∀k:az bQ,room (List.length (jJ ((l.take i).filter (Jz ps e v)))+List.length ([(l[i]:Int)])) k=k:=λk=>aL (by simp only[jJ,bw,aW];omega);cases (l[i]:Int) !=e with|false=>rfl|true=>cases hasB ps[l[i]].2.1 v with|false=>rfl|true=>simp only[ah,ab,bW];rw[hr];simp[jJ]
 simp only[gI];rw[aq (by simp[jJ]),cf];rfl
def CX (ps:aw Port)(p:aD):Nat->Nat
 |0=>0
 |i+1=>bif (ps.getD (i+1) mn).1==p.1 then i+1 else CX ps p i
def sk (ps:aw Port)(e:Int)(p:aD):fA:=
 (range ps.length).filter λj=>Jz ps e (iq ps e p) j&&((j==CX ps p (ps.length-1))||bcB p)
def GC (ps:aw Port)(e:Int)(p:aD):bQ:=bif decide (iq ps e p<0) then [] else jJ (sk ps e p)
theorem Ot (ps:aw Port)(e:Int)(p:aD)(z:rr ps):nh ps e p=some (GC ps e p):=by
 have hn:=z.n;unfold nh GC;rw[KA ps e p z,ab];cases hd:decide (iq ps e p<0);case true=>rfl
 have hp:gv ps=true:=by cases hp:gv ps with|true=>rfl|false=>unfold iq Zc at hd;rw[hp]at hd;simp at hd
 have h1:1<=ps.length:=by simp only[gv,af,aX]at hp;omega
 simp only[ae];refine cK (λi=>((CX ps p i:Int),((i+1:Nat):Int))) (ps.length-1) (by omega) (λi nx hi=>?_) (λnx=>?_);have hj:i+1<ps.length:=by omega
 simp only[ni];rw[iH,bc hj,aj,CX,bN hj];simp only[ah,ab];cases ps[i+1].1==p.1<;>rfl
 ·simp only[ni];rw[cD,ae];generalize hv:iq ps e p=v;have hsw:sk ps e p=(range ps.length).filter λj=>Jz ps e v j&&((j==CX ps p (ps.length-1))||bcB p):=by rw[sk,hv]
  rw[hsw];generalize hq:(λj=>Jz ps e v j&&((j==CX ps p (ps.length-1))||bcB p))=q;refine cK (λi=>(jJ (((range ps.length).take i).filter q),(i:Int))) ps.length (by omega) (λi nx hi=>?_) (λnx=>?_)
  ·have hvv:=z.v _ (aB hi);have hi2:i<(range ps.length).length:=by simpa using hi
   have hf:=QG (q:=q) (range ps.length) i;simp only[mi];rw[iH,bc hi,aj];simp only[ah,ab,Gt _ _ hvv];rw[NQ (range ps.length) i hi2,List.getElem_range];have eq:q i=(((i:Int) !=e)&&hasB ps[i].2.1 v&&(((i:Int)==(CX ps p (ps.length-1):Int))||(p.1==281474976710655))):=by rw[<-hq];simp only[Jz,bN hi,bcB];congr 2;rw[cG,ba,ba];omega
   have hr:∀k:az bQ,room (List.length (jJ (((range ps.length).take i).filter q))+List.length ([(i:Int)])) k=k:=λk=>aL (by simp only[jJ,bw,aW];rw[List.length_range]at hf;omega);rw[eq];cases (i:Int) !=e;rfl;cases hasB ps[i].2.1 v;rfl;simp only[ah,ab,aZ];cases ((i:Int)==(CX ps p (ps.length-1):Int))<;>cases p.1==281474976710655<;>simp only[ah,ae,ab,cc,iJ,gb]<;>first|rfl|(rw[hr];simp[jJ])
  simp only[mi];rw[cD,cx (by simp)];rfl
theorem Ue (q:Nat->Bool):∀l:fA,(FQ q l= -1/\∀j∈l,q j=false)\/∃j∈l,q j=true/\FQ q l=(j:Int)
 |[]=> .inl ⟨rfl,by simp⟩
 |j::l=>by rw[FQ];cases hj:q j with|true=>exact .inr ⟨j,by simp,hj,rfl⟩|false=>simp only[ae];rcases Ue q l with⟨h1,h2⟩|⟨k,h1,h2,h3⟩;exact .inl ⟨h1,by intro k hk;rcases bZ.1 hk with rfl|hk;exact hj;exact h2 k hk⟩;exact .inr ⟨k,by simp[h1],h2,h3⟩
theorem Q4:∀i,(∀j,1<=j->j<=i->((ps.getD j mn).1==p.1)=false)->CX ps p i=0
 |0,_=>rfl
 |i+1,h=>by rw[CX,h (i+1) (by omega) (by omega)];exact Q4 i λj h1 h2=>h j h1 (by omega)
theorem UA (hk:1<=k)(h:((ps.getD k mn).1==p.1)=true):∀i,k<=i->(∀j,1<=j->j<=i->((ps.getD j mn).1==p.1)=true->j=k)->CX ps p i=k
 |0,hi,_=>by omega
 |i+1,hi,hu=>by rw[CX];by_cases he:k=i+1;rw[<-he,h];rfl;cases hq:(ps.getD (i+1) mn).1==p.1 with|true=>have:=hu (i+1) (by omega) (by omega) hq;omega|false=>exact UA hk h i (by omega) λj h1 h2=>hu j h1 (by omega)
theorem afE (hp:gv ps=true){j:Nat}(h1:1<=i)(hij:i<j)(hj:j<ps.length):((ps.getD i mn).1==(ps.getD j mn).1)=false:=by simp only[gv,af,aF,bE,LQ,aM]at hp;have:=(hp.2 j hj).2 i hij;simp only[Bool.and_eq_false_iff,bne_eq_false_iff_eq]at this;rcases this with h|h;omega;exact h
theorem filter_one {q:Nat->Bool}{n:Nat}(hk:k<n):(range n).filter (λj=>q j&&(j==k))=[k].filter q:=by
 have h1:(range n).filter (λj=>j==k)=[k]:=by
  induction n with
  |zero=>omega
  |succ n ih=>
   rw[gz,List.filter_append];by_cases he:k=n;subst he;have:(range k).filter (λj=>j==k)=[]:=by rw[List.filter_eq_nil_iff];intro j hj;have:=bE.1 hj;simp;omega
   rw[this];simp;rw[ih (by omega)];have:([n]:fA).filter (λj=>j==k)=[]:=by simp;omega
   rw[this];rfl
 have h2:(λj=>q j&&(j==k))=λj=>q j&&(λj=>j==k) j:=rfl;rw[h2,<-List.filter_filter,h1]
theorem HJ (ps:aw Port)(e:Int)(p:aD)(z:rr ps):mO ps e p=some (GC ps e p):=by
 have hn:=z.n;unfold mO GC;rw[Ku ps e p z,ab];cases hd:decide (iq ps e p<0);case true=>rfl
 have hp:gv ps=true:=by cases hp:gv ps with|true=>rfl|false=>unfold iq Zc at hd;rw[hp]at hd;simp at hd
 have h1:1<=ps.length/\ps.length<=8:=by simp only[gv,af,aX]at hp;omega
 have ayo:∀j,j<ps.length->(ps.getD j mn).1<=281474976710654:=by intro j hj;simp only[gv,af,aF,bE,LQ,PE,dG,aX]at hp;exact(hp.2 j hj).1.1.2.1.2
 simp only[ae,ZS ps p.1 hn,ab];generalize hv:iq ps e p=v;have hsw:sk ps e p=(range ps.length).filter λj=>Jz ps e v j&&((j==CX ps p (ps.length-1))||bcB p):=by rw[sk,hv]
 rw[hsw];have aqe:bcB p=true->∀j,j<ps.length->((ps.getD j mn).1==p.1)=false:=by
  intro hb j hj;have:=ayo j hj;have hb:p.1=281474976710655:=by simpa[bcB]using hb
  rw[hb,cg];omega
 rcases Ue (λj=>(j !=0)&&((ps.getD j mn).1==p.1)) (List.range' 0 ps.length)with⟨hf,Js⟩|⟨k,hk,hq,hf⟩;have Js:∀j,1<=j->j<ps.length->((ps.getD j mn).1==p.1)=false:=by intro j h2 h3;have:=Js j (by simp;omega);simp only[Bool.and_eq_false_iff,bne_eq_false_iff_eq]at this;rcases this with h|h;omega;exact h
 have hh:CX ps p (ps.length-1)=0:=Q4 _ λj h2 h3=>Js j h2 (by omega);rw[hf,show decide ((-1:Int)>=0)=false from rfl,ae,hh];rw[show(p.1==281474976710655)=bcB p from rfl];cases hb:bcB p with|true=>simp only[ah,iJ,fC];refine cK (λi=>(jJ (range i),(i:Int))) ps.length (by omega) (λi nx hi=>?_) (λnx=>?_);simp only[lZ];rw[iH,aL (by simp only[jJ,bw,List.length_range,aW];omega),aj,gz];simp only[ah,jJ,eH];rfl;simp only[lZ];rw[cD,ae];exact Re ps e v (range ps.length) (by simp;omega) (λj hj=>bE.1 hj) z|false=>simp only[ae,Bool.or_false];rw[filter_one (by omega)];exact Re ps e v [0] (by simp) (by simp;omega) z
 have SQ:k<ps.length:=by simp at hk;omega
 simp only[af,bne_iff_ne]at hq;have hb:bcB p=false:=by cases hb:bcB p with|false=>rfl|true=>rw[aqe hb k SQ]at hq;cases hq.2
 have hh:CX ps p (ps.length-1)=k:=UA (by omega) hq.2 _ (by omega) λj h2 h3 h4=>by rcases Nat.lt_trichotomy j k with g|g|g;have:=afE hp h2 g SQ;have a:=ba.1 h4;have b:=ba.1 hq.2;rw[a,b]at this;simp at this;exact g;have:=afE hp (show 1<=k by omega) g (show j<ps.length by omega);have a:=ba.1 h4;have b:=ba.1 hq.2;rw[a,b]at this;simp at this
 rw[hf,iH,ah,hh,hb];simp only[Bool.or_false];rw[filter_one SQ];exact Re ps e v [k] (by simp) (by simp;omega) z
theorem Eo:∀j∈sk ps e p,j<ps.length:=λj hj=>bE.1 (List.mem_filter.1 hj).1
theorem Bg (ps:aw Port)(e:Int)(p:aD):(sk ps e p).length<=ps.length:=bp (List.length_filter_le _ _) (by simp)
theorem PF (ms:aw bF):rr (bU ms).1:=⟨(Fu ms).1,(Fu ms).2⟩
theorem JW (l:aw α)(i:Nat)(hi:i<l.length):l.take i++[l[i]]=l.take (i+1):=(aV hi).symm
theorem Rx {w:cm}{n:Nat}(z:cB n fT w):∀m∈w.2.2.2.1,m.1.2.2.length<=n:=λm hm=>(z.2.2.2.1.2 m hm).1.2.2.1
theorem FY {w:cm}(z:cB 1000000000 fT w):aeW w:=⟨z.1.1,z.2.2.1.1,Rx z,λs hs=>(z.1.2 s hs).1.2.2.1,λs hs=>(z.1.2 s hs).2.1.1.1,λs hs=>(z.1.2 s hs).2.1.2.1.1,λs hs=>(z.1.2 s hs).2.1.2.2.2.1⟩
theorem zH (w:cm)(z:cB 1000000000 fT w):lO w=some w:=by have l1:w.1.length<=10^9:=z.1.1;have l2:w.2.1.length<=10^9:=z.2.1.1;unfold lO;simp only[rA _ z.2.2.1.1,EC _ z.2.2.2.1.1 (Rx z),vL _ z.2.2.2.2.1,ab];refine cK (λi=>((i:Int),w.1.take i,([]:aw bV),w.2.2.1,w.2.2.2.1,w.2.2.2.2)) w.1.length (by omega) (λi nx hi=>?_) (λnx=>?_);simp only[rJ];rw[iH,bc hi,aj];simp only[ah,ab,FZ _ (z.1.2 _ (aB hi))];rw[aL (by simp;omega),JW _ i hi];rfl;simp only[rJ];rw[cD,ae,cf];refine cK (λi=>((i:Int),w.1,w.2.1.take i,w.2.2.1,w.2.2.2.1,w.2.2.2.2)) w.2.1.length (by omega) (λi nx hi=>?_) (λnx=>?_);simp only[rK];rw[iH,bc hi,aj];simp only[ah,ab,vL _ (z.2.1.2 _ (aB hi)).1];rw[aL (by simp;omega),JW _ i hi];rfl;simp only[rK];rw[cD,ae,cf]
def BJ (ps:aw Port)(v:Int)(p:aD)(w:cm)(j:Nat):cm:=
 bif j==0 then(w.1,w.2.1,w.2.2.1,w.2.2.2.1,w.2.2.2.2++[(rf (xM ps (j:Int) v p)).1])
 else(w.1.set (j-1) (AY (w.1.getD (j-1) apk) (rf (xM ps (j:Int) v p)).1),w.2)
theorem XL (ps:aw Port)(v:Int)(p:aD)(w:cm)(j:Nat):(BJ ps v p w j).1.length=w.1.length:=by unfold BJ;cases j==0 with|true=>rfl|false=>exact ay ..
theorem aiU {v:Int}{w:cm}{j n:Nat}(hj:j<=w.1.length)(hn:382<=n)(z:cB n fT w):cB (n+322) fT (BJ ps v p w j):=by
 have z':cB (n+322) fT w:=z.mono;have jt:=Cw (xM ps (j:Int) v p);unfold BJ;cases hj0:j==0 with
 |true=>refine⟨z'.1,z'.2.1,z'.2.2.1,z'.2.2.2.1,?_,λx hx=>?_⟩;have:w.2.2.2.2.length<=n:=z.2.2.2.2.1;show(w.2.2.2.2++[_]).length<=_;simp only[ai,aW];omega;rcases aA.1 hx with h|h;exact z'.2.2.2.2.2 x h;rw[bI.1 h];show List.length _<=_;omega
 |false=>
  have:j≠0:=by simpa using hj0
  have hl:j-1<w.1.length:=by omega
  refine⟨⟨?_,λx hx=>?_⟩,z'.2⟩;show(w.1.set _ _).length<=_;rw[ay];exact z'.1.1;rcases cd hx with h|h;exact z'.1.2 x h;rw[h,bN hl];exact Xq (z.1.2 _ (aB hl))
def Fy (ps:aw Port)(v:Int)(p:aD)(w:cm)(l:fA):cm:=l.foldl (BJ ps v p) w
theorem Xx (ps:aw Port)(v:Int)(p:aD):∀(l:fA)(w:cm),(Fy ps v p w l).1.length=w.1.length
 |[],w=>rfl
 |j::l,w=>by show(Fy ps v p (BJ ps v p w j) l).1.length=_;rw[Xx ps v p l,XL]
theorem Nm {ps:aw Port}{v:Int}{p:aD}:∀(l:fA){w:cm}{n:Nat},(∀j∈l,j<=w.1.length)->382<=n->cB n fT w->cB (n+322*l.length) fT (Fy ps v p w l)
 |[],w,n,_,_,z=>z
 |j::l,w,n,hj,hn,z=>by have h1:=aiU (ps:=ps) (v:=v) (p:=p) (hj j (by simp)) hn z;have:=Nm (ps:=ps) (v:=v) (p:=p) l (w:=BJ ps v p w j) (λk hk=>by rw[XL];exact hj k (by simp[hk])) (by omega) h1;exact this.mono (by simp only[bg];omega)
theorem aei (ps:aw Port)(v:Int)(p:aD)(w:cm)(l:fA)(i:Nat)(hi:i<l.length):Fy ps v p w (l.take (i+1))=BJ ps v p (Fy ps v p w (l.take i)) l[i]:=by rw[aV hi,Fy,List.foldl_append];rfl
theorem Ri (K:cm->az R)(ps:aw Port)(v:Int)(p:aD)(w:cm)(l:fA)(hl:l.length<=8)(hj:∀j∈l,j<=w.1.length)(z:cB 90000000 fT w)(zp:rr ps): bh (kQ (λ(_:Int) (J1:cm)=>K J1) ps v (jJ l) ((jJ l).length:Int) p (([]:aw yN),([]:aw bV),([]:aw aE),([]:aw bF),([]:bV))) fuel (0,w)=K (Fy ps v p w l):=by
 refine cK (λi=>((i:Int),Fy ps v p w (l.take i))) l.length (by omega) (λi nx hi=>?_) (λnx=>?_);have hi2:i<(jJ l).length:=by simpa[jJ]using hi
 have e1:(jJ l)[i]'hi2=(l[i]:Int):=by simp[jJ]
 have hn:=Xx ps v p (l.take i) w;have hz:=(Nm (ps:=ps) (v:=v) (p:=p) (l.take i) (λj h=>hj j (List.mem_of_mem_take h)) (by omega) z).mono (show 90000000+322*(l.take i).length<=100000000 by rw[aP];omega);have hji:=hj _ (aB hi);have jt:=Cw (xM ps (l[i]:Int) v p);rw[aei ps v p w l i hi];generalize Fy ps v p w (l.take i)=W at hn hz⊢;have hw:W.2.2.2.2.length<=100000000:=hz.2.2.2.2.1;have hw1:W.1.length<=100000000:=hz.1.1;simp only[kQ];rw[au (by simpa[jJ]using hi),bc hi2,e1,aj (n:=(i:Int)+1)];simp only[ah,ab,ahk ps _ v p zp,UH,BJ];by_cases h0:l[i]=0;rw[show((l[i]:Int)==0)=true from by simp[h0],show(l[i]==0)=true from by simp[h0]];simp only[ah];rw[aL (by simp only[aW];omega)];rfl;rw[show((l[i]:Int)==0)=false from by simp[h0],show(l[i]==0)=false from by simp[h0]];have hk:l[i]-1<W.1.length:=by omega
 rw[aj (n:=(l[i]:Int)-1),show(l[i]:Int)-1=((l[i]-1:Nat):Int) by omega];simp only[ae,bc hk,ab,ZM _ _ (hz.1.2 _ (aB hk)) (bp jt (by omega)),ax,bN hk];rfl;simp only[kQ];rw[aq (by simp[jJ]),ae,cf]
def jP (w:cm)(e:Int)(p:aD):cm:=
 bif sL w&&eQ p then(bif decide (iq (bU w.2.2.2.1).1 e p<0) then w else Fy (bU w.2.2.2.1).1 (iq (bU w.2.2.2.1).1 e p) p w (sk (bU w.2.2.2.1).1 e p)) else w
theorem Xk {w:cm}(h:sL w=true):(bU w.2.2.2.1).1.length=w.1.length+1/\(bU w.2.2.2.1).1.length<=8:=by unfold sL at h;simp only[af]at h;have hl:=(aah h.2.1).1;have h2:=h.1;unfold bU at h2⊢;cases hc:cY (w.2.2.2.1.length:Int) 1 3&&(w.2.2.2.1.all iT&&gv (jR w.2.2.2.1))with|false=>rw[hc]at h2;cases h2|true=>simp only[af]at hc;have:=(Hw w.2.2.2.1 0 ([0],[]) ⟨by simp,rfl,by simp⟩ hc.2.1).2.1;have h8:=hc.2.2;simp only[gv,af,aX]at h8;simp only[ah];refine⟨?_,by omega⟩;simp only[jR,bg];rw[this,hl];omega
theorem GY (w:cm)(e:Int)(p:aD)(z:cB 90000000 fT w):oA w e p=some (jP w e p):=by have z9:cB 1000000000 fT w:=z.mono;unfold oA jP;simp only[zH w z9,IK w (FY z9),F1,ab];cases hi:sL w;rfl;cases eQ p;rfl;have hn:=Xk hi;have zp:=PF w.2.2.2.1;simp only[al,ae,ab,bW,ah,AK _ (Rx z9),Ku _ e p zp,HJ _ e p zp];generalize (bU w.2.2.2.1).1=ps at hn zp⊢;unfold GC;cases decide (iq ps e p<0)with|true=>exact Ri (λw=>some w) ps (iq ps e p) p w [] (by simp) (by simp) z zp|false=>exact Ri (λw=>some w) ps (iq ps e p) p w (sk ps e p) (by have:=Bg ps e p;omega) (λj hj=>by have:=Eo j hj;omega) z zp
theorem Lw {l:aw α}(h:k<l.length)(x:α):idx (l.set k x) (k:Int)=some x:=by rw[Lv,cw h]
theorem afW (l:aw α)(k:Nat)(x:α):(l.set k x).length=l.length:=ay ..
def sy (f:Filter)(v:Int):Filter×Bool:=bif dG f&&(!hasB f.2.2 v&&dG (f.1,f.2.1,ins v f.2.2)) then((f.1,f.2.1,ins v f.2.2),true) else(f,false)
theorem ZD (f:Filter)(v:Int)(h:f.2.2.length<=100000000):BT f v=some (sy f v):=by have hi:=Pz v f.2.2;simp only[BT,ov f,pC f (by omega),BQ f.2.2 v (by omega),WV f.2.2 v (by omega),pC (f.1,f.2.1,ins v f.2.2) (show(ins v f.2.2).length<=10^9 by omega),ab,sy];cases dG f<;>cases hasB f.2.2 v<;>cases dG (f.1,f.2.1,ins v f.2.2)<;>rfl
theorem ap2 {l:bQ}(h:(range l.length).all (JZ l)=true):∀(k j:Nat),j<k->k<l.length->l.getD j 0<l.getD k 0:=by
 rw[aF]at h;intro k;induction k with
 |zero=>intro j hj;omega
 |succ k ih=>
  intro j hj hk;have h1:=h (k+1) (bE.2 hk);simp only[JZ,af,aM,Bool.and_eq_false_iff,cH]at h1;have h2:¬l.getD (k+1) 0<=l.getD (k+1-1) 0:=by rcases h1.2 with h2|h2;omega;exact h2
  rw[Nat.add_sub_cancel]at h2;rcases bT j k with h3|h3;have:=ih j h3 (by omega);omega;have:j=k:=by omega
  subst this;omega
theorem anr (f:Filter)(v:Int)(hf:dG f=true)(hv:hasB f.2.2 v=true)(q:Bool):dG (f.1,q,f.2.2.take (f.2.2.findIdx (λx=> !decide (x<v)))++[v]++f.2.2.drop (f.2.2.findIdx (λx=> !decide (x<v))))=false:=by
 have ax8:=ap2 (l:=f.2.2) (by simp only[dG,af]at hf;exact hf.1);generalize f.2.2=l at*;obtain⟨k,hk,hkv⟩:=List.mem_iff_getElem.1 (Ln.1 hv);have hex:∃x∈l,(λx=> !decide (x<v)) x=true:=⟨l[k],aB hk,by simp[hkv]⟩
 have hj:=List.findIdx_lt_length_of_exists hex;have BN:=List.findIdx_getElem (w:=hj);have ayp:l.findIdx (λx=> !decide (x<v))<=k:=by rcases bT k (l.findIdx (λx=> !decide (x<v)))with h|h;have:=List.not_of_lt_findIdx h;simp[hkv]at this;exact h
 generalize l.findIdx (λx=> !decide (x<v))=j at*;have hle:l[j]<=v:=by
  rcases bT j k with h|h;have:=ax8 k j h hk;rw[bN hk,bN hj,hkv]at this;omega;have:j=k:=by omega
  subst this;rw[hkv];omega
 rw[Bool.eq_false_iff];intro hb;simp only[dG,af,aF]at hb;have hlen:(l.take j++[v]++l.drop j).length=l.length+1:=by simp;omega
 have h1:=hb.1 (j+1) (bE.2 (by rw[hlen];omega));have hl1:(l.take j++[v]).length=j+1:=by simp;omega
 have e1:(l.take j++[v]++l.drop j).getD (j+1) 0=l[j]:=by rw[bu,bA (by omega),hl1,gZ,bS,eN,ak hj];rfl
 have e2:(l.take j++[v]++l.drop j).getD j 0=v:=by
  have ht:(l.take j).length=j:=by simp;omega
  rw[bu,bK (by omega),bA (by omega),ht,gZ];rfl
 simp only[JZ,af,aM,Bool.and_eq_false_iff,cH,Nat.add_sub_cancel,e1,e2]at h1;rcases h1.2 with h2|h2;omega;exact h2 hle
theorem abc (f:Filter)(v:Int)(h:f.2.2.length<=100000000):B9 f v=some (sy f v):=by
 unfold B9;rw[km f (by omega),ab]
 let K:Int->az (Filter×Bool):=λy4=>aa (sub f.2.2 0 y4) λx5=>
     room (List.length ([]:bQ)+List.length x5) (
     room (List.length (([]:bQ)++x5)+List.length ([v])) (
     aa (sub f.2.2 y4 ((List.length f.2.2:Int))) λx6=>
     room (List.length ((([]:bQ)++x5)++([v]))+List.length x6) (
     aa (
      aa (gu f) λr7=>
      cond (!r7) (
       some true) (
       aa (gu (f.1,f.2.1,((([]:bQ)++x5)++([v]))++x6)) λr8=>
       some (!r8))) λq9=>
     cond q9 (
      aa (some f) λqx=>
      some (qx,false)) (
      some ((f.1,f.2.1,((([]:bQ)++x5)++([v]))++x6),true)))))
 show bh (qz K v f (0,false,([]:bQ)) f) fuel 0=_;rw[Cv (hit:=K) (fin:=K (f.2.2.length:Int)) (λx=> !decide (x<v)) f.2.2 (by omega) (λi hi nx=>?hs) (λnx=>?hf)]
 case hs=>
  simp only[qz]
  rw[iH,bc hi,aj (n:=(i:Int)+1)]
  simp only[ah,ab]
  cases decide (f.2.2[i]<v)<;>rfl
 case hf=>
  simp only[qz]
  rw[cD];rfl
 refine Eq.trans (YG (λx=> !decide (x<v)) K f.2.2) ?_;have hle:f.2.2.findIdx (λx=> !decide (x<v))<=f.2.2.length:=List.findIdx_le_length;have e:=ady v f.2.2;have d:=anr f v;have hi:=Pz v f.2.2;show K _=_;generalize f.2.2.findIdx (λx=> !decide (x<v))=j at*;simp only[K];rw[Sy _ j hle,Mo _ j hle];simp only[ab,bz];rw[aL (by simp;omega),aL (by simp;omega),aL (by simp;omega),nr f,nr _ (show(f.2.2.take j++[v]++f.2.2.drop j).length<=10^9 by simp;omega)];simp only[ab,sy];cases hf:dG f with|false=>rfl|true=>cases hh:hasB f.2.2 v with|true=>rw[d hf hh];rfl|false=>rw[e (λhm=>by rw[Ln.2 hm]at hh;cases hh)];cases dG (f.1,f.2.1,ins v f.2.2)<;>rfl
theorem VQ (f:Filter)(v:Int){n:Nat}(h:f.2.2.length<=n)(hn:8<=n):(sy f v).1.2.2.length<=n:=by unfold sy;cases hc:dG f&&(!hasB f.2.2 v&&dG (f.1,f.2.1,ins v f.2.2))with|false=>exact h|true=>simp only[af]at hc;have:=hc.2.2;simp only[dG,af,aG]at this;show(ins v f.2.2).length<=n;omega
def ou (f:Filter)(v:Int):Filter×Bool:=bif dG f&&hasB f.2.2 v then((f.1,f.2.1,f.2.2.filter (λx=>x !=v)),true) else(f,false)
theorem NR (p:Int->Bool)(l:bQ)(i:Nat)(hi:i<l.length):(l.take (i+1)).filter p=bif p l[i] then(l.take i).filter p++[l[i]] else(l.take i).filter p:=by rw[aV hi,List.filter_append];cases hp:p l[i]<;>simp[hp]
theorem GQ (p:Int->Bool)(l:bQ)(i:Nat):((l.take i).filter p).length<=l.length:=bp (List.length_filter_le _ _) (by simp;omega)
theorem WX (f:Filter)(v:Int)(h:f.2.2.length<=10^9):zL f v=some (ou f v):=by simp only[zL,ov f h,pC f h,BQ f.2.2 v h,ab,ou];cases dG f;rfl;cases hasB f.2.2 v;rfl;simp only[al,ae,ab,bW,ah];refine(cK (λi=>((i:Int),f.1,f.2.1,(f.2.2.take i).filter (λx=>x !=v))) f.2.2.length (by omega) (λi nx hi=>?_) (λnx=>?_));have hl:=GQ (λx=>x !=v) f.2.2 i;simp only[tB];rw[iH,bc hi,aj,NR _ _ i hi];simp only[ah,ab];rw[aL (by simp only[aW];omega)];cases f.2.2[i] !=v<;>rfl;simp only[tB];rw[cD,cf];rfl
theorem XC (f:Filter)(v:Int)(h:f.2.2.length<=10^9):Ai f v=some (ou f v):=by simp only[Ai,km f h,nr f h,Gt f.2.2 v h,ab,ou];cases dG f;rfl;cases hasB f.2.2 v;rfl;simp only[al,ae,ab,bW,ah];refine(cK (λi=>((i:Int),f.1,f.2.1,(f.2.2.take i).filter (λx=>x !=v))) f.2.2.length (by omega) (λi nx hi=>?_) (λnx=>?_));have hl:=GQ (λx=>x !=v) f.2.2 i;simp only[tZ];rw[iH,bc hi,aj,NR _ _ i hi];simp only[ah,ab];rw[aL (by simp only[aW];omega)];cases f.2.2[i] !=v<;>rfl;simp only[tZ];rw[cD,cf];rfl
def kO (f:Filter)(m:uK):Filter×Int:=
 bif m.2.1==1 then(bif dG (m.2.2,f.2) then((m.2.2,f.2),1) else(f,0))
 else bif m.2.1==2 then(bif (sy f m.2.2).2 then((sy f m.2.2).1,1) else(f,0))
 else bif m.2.1==3 then(bif (ou f m.2.2).2 then((ou f m.2.2).1,1) else(f,0))
 else bif m.2.1==4 then(f,f.1) else(f,0)
theorem ZE (f:Filter)(m:uK)(h:f.2.2.length<=100000000):B0 f m=some (kO f m):=by simp only[B0,ov f,pC (m.2.2,f.2) (show f.2.2.length<=10^9 by omega),ZD f _ h,WX f _ (show f.2.2.length<=10^9 by omega),ab,kO];cases m.2.1==1<;>cases m.2.1==2<;>cases m.2.1==3<;>cases m.2.1==4<;>cases dG (m.2.2,f.2)<;>cases (sy f m.2.2).2<;>cases (ou f m.2.2).2<;>rfl
theorem abe (f:Filter)(m:uK)(h:f.2.2.length<=100000000):wz f m=some (kO f m):=by simp only[wz,km f (by omega),nr (m.2.2,f.2) (show f.2.2.length<=10^9 by omega),abc f _ h,XC f _ (show f.2.2.length<=10^9 by omega),ab,kO];cases m.2.1==1<;>cases m.2.1==2<;>cases m.2.1==3<;>cases m.2.1==4<;>cases dG (m.2.2,f.2)<;>cases (sy f m.2.2).2<;>cases (ou f m.2.2).2<;>rfl
theorem VZ (f:Filter)(m:uK){n:Nat}(h:f.2.2.length<=n)(hn:8<=n):(kO f m).1.2.2.length<=n:=by
 have ha:=VQ f m.2.2 h hn;have hd:(ou f m.2.2).1.2.2.length<=n:=by unfold ou;cases dG f&&hasB f.2.2 m.2.2 with|false=>exact h|true=>exact bp (List.length_filter_le _ _) h
 unfold kO;cases m.2.1==1<;>cases m.2.1==2<;>cases m.2.1==3<;>cases m.2.1==4<;>cases dG (m.2.2,f.2)<;>cases (sy f m.2.2).2<;>cases (ou f m.2.2).2<;>first|exact h|exact ha|exact hd
def jN (b:bF)(m:uK):bF×Int:=
 bif iT b then(bif m.1==b.2.1 then(b,b.2.2.1) else bif m.1==b.2.1+1 then(((kO b.1 m).1,m.1,(kO b.1 m).2,b.2.2.2+1),(kO b.1 m).2) else(b, -1)) else(b, -1)
theorem Rv {b:bF}(h:iT b=true):0<=b.2.1/\b.2.1<=1000000000000/\0<=b.2.2.2/\b.2.2.2<=1000000000000:=by simp only[iT,af,aX]at h;omega
theorem ado (b:bF)(m:uK)(h:b.1.2.2.length<=100000000):pD b m=some (jN b m):=by simp only[pD,Bt b (by omega),ZK b (by omega),ZE b.1 m h,ab,jN,bne];cases hm:iT b with|false=>rfl|true=>have yK:=Rv hm;rw[aj (n:=b.2.1+1),aj (n:=b.2.2.2+1)];cases m.1==b.2.1<;>cases m.1==b.2.1+1<;>rfl
theorem aex (b:bF)(m:uK)(h:b.1.2.2.length<=100000000)(hm1:m.1<=9223372036854775807):pS b m=some (jN b m):=by
 simp only[pS,qy b (by omega),abk b (by omega),abe b.1 m h,ab,jN,bne];cases hm:iT b with
 |false=>rfl
 |true=>
  have yK:=Rv hm;rw[aj (n:=b.2.2.2+1)];by_cases h1:m.1=b.2.1;rw[ba.2 h1];rfl;have e1:(m.1==b.2.1)=false:=cg.2 h1;rw[e1];by_cases h2:m.1<=b.2.1;have e2:(m.1==b.2.1+1)=false:=cg.2 (by omega);rw[e2,au h2];rfl;rw[aq h2,aj (n:=m.1-1)];have e3:(m.1-1==b.2.1)=(m.1==b.2.1+1):=by rw[cG,ba,ba];omega
  rw[e3];cases m.1==b.2.1+1<;>rfl
def jw (ms:aw bF)(k:Nat)(m:uK):aw bF×Int:=
 match ms[k]? with
 |none=>(ms, -1)
 |some b=>bif (bU (ms.set k (jN b m).1)).2 then(ms.set k (jN b m).1,(jN b m).2)
  else(ms.set k (b.1,m.1,0,ar (b.2.2.2+1)),0)
theorem HB (b:bF)(m:uK){n:Nat}(h:b.1.2.2.length<=n)(hn:8<=n):(jN b m).1.1.2.2.length<=n:=by have:=VZ b.1 m h hn;unfold jN;cases iT b<;>cases m.1==b.2.1<;>cases m.1==b.2.1+1<;>first|exact h|exact this
theorem Gd {l:aw α}{x y:α}(h:y∈l.set k x):y∈l\/y=x:=cd h
theorem MW (ms:aw bF)(k:Nat)(m:uK)(hk:k<ms.length)(hl:ms.length<=10^9)(h:∀b∈ms,b.1.2.2.length<=100000000):rG ms (k:Int) m=some (jw ms k m):=by
 have hb:=h _ (aB hk);have hp:∀b∈ms.set k (jN ms[k] m).1,b.1.2.2.length<=10^9:=by intro b iz;rcases Gd iz with h1|rfl;have:=h b h1;omega;have:=HB ms[k] m hb (by omega);omega
 unfold rG jw;simp only[EC ms hl (λb hb=>by have:=h b hb;omega),bc hk,ado _ m hb,ab,ak hk,ax,AK _ hp,Bt ms[k] (by omega)];have hs:∀x:bF,k<(ms.set k x).length:=λx=>by rw[afW];exact hk
 simp only[Lw hk,ab,List.set_set];cases (bU (ms.set k (jN ms[k] m).1)).2<;>rfl
theorem Nu (ms:aw bF)(k:Nat)(m:uK)(hk:k<ms.length)(hl:ms.length<=10^9)(h:∀b∈ms,b.1.2.2.length<=100000000)(hm1:m.1<=9223372036854775807):wC ms (k:Int) m=some (jw ms k m):=by
 have hb:=h _ (aB hk);have hp:∀b∈ms.set k (jN ms[k] m).1,b.1.2.2.length<=10^9:=by intro b iz;rcases Gd iz with h1|rfl;have:=h b h1;omega;have:=HB ms[k] m hb (by omega);omega
 unfold wC jw;refine(cK (λi=>(ms.take i,(i:Int))) ms.length (by omega) (λi nx hi=>?_) (λnx=>?_));simp only[qf];rw[iH,bc hi,aj];have:=h _ (aB hi);simp only[ah,ab,qy ms[i] (by omega)];rw[aL (by simp;omega),<-aV hi];rfl;simp only[qf];rw[cD,cf];simp only[ae,bc hk,aex _ m hb hm1,ab,ak hk,ax,Bb _ hp,qy ms[k] (show ms[k].1.2.2.length<=10^9 by omega)];simp only[Lw hk,ab,List.set_set];cases (bU (ms.set k (jN ms[k] m).1)).2<;>rfl
theorem zG (ms:aw bF)(k:Nat)(m:uK):(jw ms k m).1.length=ms.length:=by unfold jw;split;rfl;rename_i b _;cases (bU (ms.set k (jN b m).1)).2<;>exact afW ..
theorem J8 (ms:aw bF)(k:Nat)(m:uK){n:Nat}(hn:8<=n)(h:∀b∈ms,b.1.2.2.length<=n):∀b∈(jw ms k m).1,b.1.2.2.length<=n:=by
 intro b hb;unfold jw at hb;split at hb;exact h b hb;rename_i b0 Uw;have h0:=h b0 (aU Uw);cases hp:(bU (ms.set k (jN b0 m).1)).2 with
 |true=>rw[hp]at hb;rcases Gd hb with h1|rfl;exact h b h1;exact HB b0 m h0 hn
 |false=>rw[hp]at hb;rcases Gd hb with h1|rfl;exact h b h1;exact h0
theorem tV (c:cE)(z:cB 1000000000 sq c):lp c=some c:=by have h0:c.1.length<=10^9:=z.1.1;have h1:c.2.2.1.length<=10^9:=z.2.2.1.1;unfold lp;simp only[gq z.2.1.1,gq z.2.2.2.1.1,gq z.2.2.2.2.2.1.1,gq z.2.2.2.2.2.2.1,bz];refine(cK (λi=>((i:Int),c.1.take i,c.2.1,([]:aw bF),c.2.2.2)) c.1.length (by omega) (λi nx hi=>?_) (λnx=>?_));simp only[wD];rw[iH,bc hi,aj];simp only[ah,ab,jU _ (z.1.2 _ (aB hi))];rw[aL (by simp;omega),<-aV hi];rfl;simp only[wD];rw[cD,cf];refine(cK (λi=>((i:Int),c.1,c.2.1,c.2.2.1.take i,c.2.2.2)) c.2.2.1.length (by omega) (λi nx hi=>?_) (λnx=>?_));simp only[wE];rw[iH,bc hi,aj];simp only[ah,ab,qy _ (z.2.2.1.2 _ (aB hi)).1.2.2.1];rw[aL (by simp;omega),<-aV hi];rfl;simp only[wE];rw[cD,cf];rfl
def wP (h:Host)(f:Filter):Host:=(h.1,h.2.1,h.2.2.1,h.2.2.2.1,h.2.2.2.2.1,h.2.2.2.2.2.1,h.2.2.2.2.2.2.1,f,h.2.2.2.2.2.2.2.2)
def tu (c:cE)(a:Int)(m:uK):cE×Int:=
 bif jI c&&cY a 0 ((c.2.2.1.length:Int)-1) then
  (match c.1[a.toNat]?,(jw c.2.2.1 a.toNat m).1[a.toNat]? with
  |some h,some b=>((c.1.set a.toNat (wP h b.1),c.2.1,(jw c.2.2.1 a.toNat m).1,c.2.2.2),(jw c.2.2.1 a.toNat m).2)
  |_,_=>(c, -1))
 else(c, -1)
theorem Pf (c:cE)(a:Int)(m:uK)(z:cB 100000000 sq c)(k:PO c)(hm1:m.1<=9223372036854775807):pO c a m=some (tu c a m):=by
 have z9:cB 1000000000 sq c:=z.mono;have hl:c.2.2.1.length<=100000000:=z.2.2.1.1;unfold pO tu;simp only[tV c z9,FA c k,ab,bB];have he:(cond (!jI c) true (cond (decide (a<0)) true (decide (a>=(c.2.2.1.length:Int)))))= !(jI c&&cY a 0 ((c.2.2.1.length:Int)-1)):=by
  cases jI c;rfl;simp only[cY,al,ae,aZ];by_cases h1:a<0;rw[au h1,aq (show¬(0<=a) by omega)];rfl;rw[aq h1,au (show(0<=a) by omega)];by_cases h2:a>=(c.2.2.1.length:Int)
  rw[au h2,cD];rfl;rw[aq h2,iH];rfl
 rw[he];cases hc:jI c;rfl;cases ha:cY a 0 ((c.2.2.1.length:Int)-1);rfl;have hL:=ab0 hc;have yK:=aX.1 ha;obtain⟨n,rfl⟩:=aO yK.1;have hn:n<c.2.2.1.length:=by omega
 have KQ:n<c.1.length:=by omega
 have hb:=Nu c.2.2.1 n m hn (by omega) (λb hb=>(z.2.2.1.2 b hb).1.2.2.1) hm1;have hbl:=zG c.2.2.1 n m;have IG:=J8 c.2.2.1 n m (n:=100000000) (by omega) (λb hb=>(z.2.2.1.2 b hb).1.2.2.1);have Fc:n<(jw c.2.2.1 n m).1.length:=by omega
 have:=IG _ (aB Fc);simp only[al,ae,bW,ah,hb,ab,bc Fc,bc KQ,km (jw c.2.2.1 n m).1[n].1 (by omega),ax,ak KQ,ak Fc];rfl
structure CK (n:Nat) (c:cE):Prop where
 z:cB n sq c
 h:∀x∈c.1,Dz n x
theorem CK.mono {n m:Nat}{c:cE}(k:CK n c)(hn:n<=m:=by omega):CK m c:=⟨k.z.mono hn,λx hx=>(k.h x hx).mono hn⟩
theorem CK.sz {n:Nat}{c:cE}(k:CK n c)(hn:n<=10^9:=by omega):PO c:=by have z:cB 1000000000 sq c:=k.z.mono hn;exact⟨z.1.1,z.2.1.1,λm hm=>(z.2.2.1.2 m hm).1.2.2.1,λx hx=>(k.h x hx).sz hn⟩
theorem CK.of {c:cE}(k:TI sq c<=1048576):CK 1048576 c:=by
 refine⟨Mq k,λh hh=>Dz.of ?_⟩;have h1:=Ge (TI dz) c.1 h hh;have h2:(c.1.map (TI dz)).sum<=TI sq c:=by show _<=(c.1.length+(c.1.map (TI dz)).sum)+_;omega
 omega
theorem Qd {c:cE}(h:jI c=true):(bU c.2.2.1).1.length=c.1.length+1/\(bU c.2.2.1).1.length<=8/\c.1.length<=3:=by unfold jI at h;simp only[af]at h;have hl:=(IQ h.2.1).1;have h2:=h.1;have h3:=Of h2;unfold bU at h2⊢;cases hc:cY (c.2.2.1.length:Int) 1 3&&(c.2.2.1.all iT&&gv (jR c.2.2.1))with|false=>rw[hc]at h2;cases h2|true=>simp only[af]at hc;have:=(Hw c.2.2.1 0 ([0],[]) ⟨by simp,rfl,by simp⟩ hc.2.1).2.1;have h8:=hc.2.2;simp only[gv,af,aX]at h8;simp only[ah];refine⟨?_,by omega,by omega⟩;simp only[jR,bg];rw[this,hl];omega
def am4 (c:cE)(f:Bytes):cE:=(c.1,c.2.1,c.2.2.1,c.2.2.2.1,c.2.2.2.2.1,c.2.2.2.2.2.1,c.2.2.2.2.2.2++[f])
def aa6 (c:cE)(k:Nat)(h:Host):cE:=(c.1.set k h,c.2)
def dp (ps:aw Port)(v:Int)(p:aD)(c:cE)(j:Nat):cE:=
 bif j==0 then am4 c (rf (xM ps (j:Int) v p)).1 else
 match c.1[j-1]? with
 |some h=>aa6 c (j-1) (oK h (rf (xM ps (j:Int) v p)).1)
 |none=>c
theorem L1 {n:Nat}{c:cE}(z:CK n c)(zh:Dz n h):CK n (aa6 c k h):=by refine⟨⟨mP z.z.1 zh.z,z.z.2⟩,λx hx=>?_⟩;rcases cd hx with g|g;exact z.h x g;rw[g];exact zh
theorem am5 {n:Nat}{c:cE}{f:Bytes}(z:CK n c)(hf:f.length<=n):CK (n+1) (am4 c f):=by have z':=z.mono (show n<=n+1 by omega);refine⟨⟨z'.z.1,z'.z.2.1,z'.z.2.2.1,z'.z.2.2.2.1,z'.z.2.2.2.2.1,z'.z.2.2.2.2.2.1,?_⟩,z'.h⟩;exact Fh (t:=.str) (k:=1) z.z.2.2.2.2.2.2 (λy hy=>by rw[bI.1 hy];exact hf) (by simp)
theorem aml {n:Nat}(hn:1000<=n){v:Int}{c:cE}{j:Nat}(z:CK n c):CK (n+1) (dp ps v p c j)/\(dp ps v p c j).1.length=c.1.length:=by have hf:=Cw (xM ps (j:Int) v p);unfold dp;cases j==0 with|true=>exact⟨am5 z (by omega),rfl⟩|false=>simp only[ae];cases hx:c.1[j-1]? with|none=>exact⟨z.mono,rfl⟩|some h=>have hr:=HU hn (rf (xM ps (j:Int) v p)).1 (z.h h (aU hx));exact⟨(L1 z hr.1).mono,ay ..⟩
def R0 (ps:aw Port)(v:Int)(p:aD)(c:cE)(l:fA):cE:=l.foldl (dp ps v p) c
theorem Xw {ps:aw Port}{v:Int}{p:aD}:∀(l:fA){c:cE}{n:Nat},1000<=n->CK n c->CK (n+l.length) (R0 ps v p c l)/\(R0 ps v p c l).1.length=c.1.length
 |[],c,n,_,z=>⟨z,rfl⟩
 |j::l,c,n,hn,z=>by have h1:=aml (ps:=ps) (v:=v) (p:=p) (j:=j) hn z;have:=Xw (ps:=ps) (v:=v) (p:=p) l (show 1000<=n+1 by omega) h1.1;exact⟨this.1.mono (by simp only[bg];omega),this.2.trans h1.2⟩
theorem aik (ps:aw Port)(v:Int)(p:aD)(c:cE)(l:fA)(i:Nat)(hi:i<l.length):R0 ps v p c (l.take (i+1))=dp ps v p (R0 ps v p c (l.take i)) l[i]:=by rw[aV hi,R0,List.foldl_append];rfl
theorem Ok (K:cE->az R)(ps:aw Port)(v:Int)(p:aD)(c:cE)(l:fA)(hl:l.length<=8)(hj:∀j∈l,j<=c.1.length)(z:CK 800000000 c)(zp:rr ps): bh (nm (λ(_:Int) (CJ:cE)=>K CJ) ps (jJ l) v p) fuel (0,c)=K (R0 ps v p c l):=by
 refine cK (λi=>((i:Int),R0 ps v p c (l.take i))) l.length (by omega) (λi nx hi=>?_) (λnx=>?_);have hi2:i<(jJ l).length:=by simpa[jJ]using hi
 have e1:(jJ l)[i]'hi2=(l[i]:Int):=by simp[jJ]
 have hz:=Xw (ps:=ps) (v:=v) (p:=p) (l.take i) (by omega) z;have hzz:=hz.1.mono (show 800000000+(l.take i).length<=900000000 by rw[aP];omega);have hji:=hj _ (aB hi);have jt:=Cw (xM ps (l[i]:Int) v p);rw[aik ps v p c l i hi];have hn:=hz.2;generalize R0 ps v p c (l.take i)=W at hn hzz⊢;have hw:W.2.2.2.2.2.2.length<=900000000:=hzz.z.2.2.2.2.2.2.1;simp only[nm];rw[au (by simpa[jJ]using hi),bc hi2,e1,aj (n:=(i:Int)+1)];simp only[ah,ab,aiB ps _ v p zp,Nx,dp];have hcl:c.1.length<=800000000:=z.z.1.1;by_cases h0:l[i]=0;rw[show((l[i]:Int)==0)=true from by simp[h0],show(l[i]==0)=true from by simp[h0]];simp only[ah];rw[aL (by simp only[aW];omega)];rfl;rw[show((l[i]:Int)==0)=false from by simp[h0],show(l[i]==0)=false from by simp[h0]];have hk:l[i]-1<W.1.length:=by omega
 rw[aj (n:=(l[i]:Int)-1),show(l[i]:Int)-1=((l[i]-1:Nat):Int) by omega];simp only[ae,bc hk,ab,Mf _ _ (hzz.h _ (aB hk)) (bp jt (by omega)),ax,ak hk];rfl;simp only[nm];rw[aq (by simp[jJ]),ae,cf]
def tq (c:cE)(e:Int)(p:aD):cE:=
 bif decide (iq (bU c.2.2.1).1 e p<0) then c else R0 (bU c.2.2.1).1 (iq (bU c.2.2.1).1 e p) p c (sk (bU c.2.2.1).1 e p)
def AD (c:cE)(e:Int)(p:aD):cE:=bif jI c&&eQ p then tq c e p else c
theorem Oq (c:cE)(e:Int)(p:aD)(k:CK 800000000 c)(h:jI c=true):pq c e p=some ((),tq c e p):=by have z9:cB 1000000000 sq c:=k.z.mono;have hn:=Qd h;have zp:=PF c.2.2.1;unfold pq tq;simp only[Bb _ (λm hm=>(z9.2.2.1.2 m hm).1.2.2.1),ab,KA _ e p zp,Ot _ e p zp];generalize (bU c.2.2.1).1=ps at hn zp⊢;unfold GC;cases decide (iq ps e p<0)with|true=>exact Ok (λc=>some ((),c)) ps (iq ps e p) p c [] (by simp) (by simp) k zp|false=>exact Ok (λc=>some ((),c)) ps (iq ps e p) p c (sk ps e p) (by have:=Bg ps e p;omega) (λj hj=>by have:=Eo j hj;omega) k zp
theorem Sg (c:cE)(e:Int)(p:aD)(k:CK 800000000 c):vV c e p=some (AD c e p):=by unfold vV AD;simp only[tV c (k.z.mono),FA c (k.sz),zj,ab];cases h:jI c;rfl;cases eQ p;rfl;simp only[ah,ab,bW,Oq c e p k h]
theorem Ox {n:Nat}(hn:1000<=n){c:cE}(z:CK n c)(h:jI c=true):CK (n+8) (tq c e p)/\(tq c e p).1.length=c.1.length:=by have h3:=Qd h;unfold tq;generalize (bU c.2.2.1).1=ps at h3⊢;cases decide (iq ps e p<0)with|true=>exact⟨z.mono,rfl⟩|false=>have h8:=Bg ps e p;have:=Xw (ps:=ps) (v:=iq ps e p) (p:=p) (sk ps e p) hn z;exact⟨this.1.mono,this.2⟩
def KE (c:cE):cE:=(c.1,c.2.1,c.2.2.1,c.2.2.2.1,c.2.2.2.2.1,c.2.2.2.2.2.1++[c.2.2.2.2.1.1],c.2.2.2.2.2.2)
def Dd (c:cE)(x:Bytes):cE:=bif !jI c then c else bif (eM x).2==0 then tq (KE c) 0 (eM x).1 else KE c
theorem VA {n:Nat}{c:cE}(z:CK n c):CK (n+1) (KE c):=by have z':=z.mono (show n<=n+1 by omega);refine⟨⟨z'.z.1,z'.z.2.1,z'.z.2.2.1,z'.z.2.2.2.1,z'.z.2.2.2.2.1,?_,z'.z.2.2.2.2.2.2⟩,z'.h⟩;exact Fh (t:=.int .i64) (k:=1) z.z.2.2.2.2.2.1 (λ_ _=>trivial) (by simp)
theorem Pg (c:cE)(x:Bytes)(k:CK 700000000 c)(hx:x.length<=10^9):tY c x=some (Dd c x):=by have hl:c.2.2.2.2.2.1.length<=700000000:=k.z.2.2.2.2.2.1.1;have ks:=(VA k).mono (show 700000000+1<=800000000 by omega);unfold tY Dd;rw[tV c (k.z.mono),ab,FA c (k.sz),ab];cases h:jI c;rfl;have hs:jI (KE c)=true:=h;simp only[al,ae];rw[aL (by rw[aW];omega),I1 x hx,ab];generalize eM x=f;cases hf:f.2==0;rfl;have e:=Oq (KE c) 0 f.1 ks hs;simp only[ah];rw[show pq (c.1,c.2.1,c.2.2.1,c.2.2.2.1,c.2.2.2.2.1,c.2.2.2.2.2.1++[c.2.2.2.2.1.1],c.2.2.2.2.2.2) 0 f.1=_ from e,ab]
theorem aaS {n:Nat}(hn:1000<=n){c:cE}(x:Bytes)(z:CK n c):CK (n+9) (Dd c x)/\(Dd c x).1.length=c.1.length:=by unfold Dd;cases h:jI c;exact⟨z.mono,rfl⟩;have zs:=VA z;simp only[al,ae];cases (eM x).2==0 with|true=>have:=Ox (show 1000<=n+1 by omega) (e:=0) (p:=(eM x).1) zs (show jI (KE c)=true from h);exact⟨this.1,this.2⟩|false=>exact⟨zs.mono,rfl⟩
theorem aeO {n:Nat}(hn:1000<=n){c:cE}(e:Int)(p:aD)(z:CK n c):CK (n+8) (AD c e p)/\(AD c e p).1.length=c.1.length:=by unfold AD;cases h:jI c;exact⟨z.mono,rfl⟩;cases eQ p with|false=>exact⟨z.mono,rfl⟩|true=>exact Ox hn z h
def EN (b:uK)(n:Int):uK×Bool:=bif gU b&&cY n 0 b.2.2 then((b.1,b.2.1,ar (b.2.2-n)),true) else(b,false)
theorem aiI (b:uK)(n:Int):uk b n=some (EN b n):=by unfold uk EN;simp only[Dk,ab,cn];cases gU b<;>cases cY n 0 b.2.2<;>rfl
theorem ahq (b:uK)(n:Int):tI b n=some (EN b n):=by unfold tI EN;simp only[Kt,ab,dW];cases gU b<;>cases cY n 0 b.2.2<;>rfl
def Qu (f:aE):aE:=(f.1,f.2.1,f.2.2.1,f.2.2.2.1,f.2.2.2.2.1,ar (f.2.2.2.2.2+1))
def al8 (f:aE)(b:uK):aE:=(f.1,f.2.1,b,f.2.2.2.1,ar (f.2.2.2.2.1+1),f.2.2.2.2.2)
def ahF (ps:aw Port)(f:aE)(p:aD):Bool:=f.2.2.2.1&&(!decide (iq ps f.2.1 p<0)&&(EN f.2.2.1 ((dS p).1.length:Int)).2)
def nE (l:aw aE)(ps:aw Port)(a:Int)(p:aD):aw aE×bQ×Bool:=
 bif ew l ps&&(eQ p&&(!decide (a<0)&& !decide (a>=(l.length:Int)))) then
  match l[a.toNat]? with
  |some f=>bif ahF ps f p then(l.set a.toNat (al8 f (EN f.2.2.1 ((dS p).1.length:Int)).1),GC ps f.2.1 p,true) else(l.set a.toNat (Qu f),[],false)
  |none=>(l,[],false)
 else(l,[],false)
theorem aiG (l:aw aE)(ps:aw Port)(a:Int)(p:aD)(h:l.length<=10^9)(z:rr ps):Au l ps a p=some (nE l ps a p):=by
 unfold Au nE;rw[aL (by simp only[da];omega)];simp only[bz,JO l ps h z.1 z.2,zj,ab];cases ew l ps;rfl;cases eQ p;rfl;by_cases h0:a<0;rw[au h0];rfl;by_cases h1:a>=(l.length:Int)
 rw[aq h0,au h1];rfl;obtain⟨a,rfl⟩:=aO (by omega:0<=a);have ha:a<l.length:=by omega
 rw[aq h0,aq h1];simp only[ax,ak ha,bc ha,ab,al,bH,ae,ah,bW,FC,aiI,KA _ _ p z,Ot _ _ p z,ahF];generalize l[a]=f;cases h3:f.2.2.2.1 with|false=>simp only[bH,ah,ae,eF,ab,Qu,h3]|true=>simp only[al,ae,aZ,Lw ha,ab,List.set_set];cases decide (iq ps f.2.1 p<0)with|true=>simp only[al,ah,eF,ae,ab,Qu,h3]|false=>simp only[bH,ae,aZ,ab];cases (EN f.2.2.1 ((dS p).1.length:Int)).2 with|false=>simp only[bH,ah,ae,Qu,h3]|true=>simp only[al,ah,ae,al8,h3]
theorem ahp (l:aw aE)(ps:aw Port)(a:Int)(p:aD)(h:l.length<=10^9)(z:rr ps):zV l ps a p=some (nE l ps a p):=by
 unfold zV nE;rw[rA l h,ab,aj (n:=(l.length:Int)-1)];simp only[ED l ps h z.1 z.2,F1,ab,dW];cases ew l ps;rfl;cases eQ p;rfl;rw[show cY a 0 ((l.length:Int)-1)=(!decide (a<0)&& !decide (a>=(l.length:Int))) from by rw[cG,aX];simp;omega];by_cases h0:a<0;rw[au h0];rfl;by_cases h1:a>=(l.length:Int)
 rw[aq h0,au h1];rfl;obtain⟨a,rfl⟩:=aO (by omega:0<=a);have ha:a<l.length:=by omega
 rw[aq h0,aq h1];simp only[ax,ak ha,bc ha,ab,al,bH,ae,ah,bW,UI,ahq,Ku _ _ p z,HJ _ _ p z,ahF];generalize l[a]=f;cases h3:f.2.2.2.1 with|false=>simp only[bH,ah,ae,eF,ab,Qu,h3]|true=>simp only[al,ae,aZ,Lw ha,ab,List.set_set];cases decide (iq ps f.2.1 p<0)with|true=>simp only[al,ah,eF,ae,ab,Qu,h3]|false=>simp only[bH,ae,aZ,ab,HJ _ _ p z];cases (EN f.2.2.1 ((dS p).1.length:Int)).2 with|false=>simp only[bH,ah,ae,Qu,h3]|true=>simp only[al,ah,ae,al8,h3]
theorem IX (l:aw aE)(ps:aw Port)(a:Int)(p:aD):(nE l ps a p).1.length=l.length:=by unfold nE;cases ew l ps&&(eQ p&&(!decide (a<0)&& !decide (a>=(l.length:Int))));rfl;simp only[ah];cases l[a.toNat]? with|none=>rfl|some f=>cases h:ahF ps f p<;>simp only[h,ah,ae,ay]
def Gm (b:uK)(n:Int):uK:=
 bif gU b&&cY n 0 1000000 then(b.1,b.2.1,if b.2.1<ar (b.2.2+ar (b.1*n)) then b.2.1 else ar (b.2.2+ar (b.1*n))) else b
theorem adt (b:uK)(n:Int):rF b n=some (Gm b n):=by unfold rF Gm;simp only[Kt,ab,dW];cases gU b<;>cases cY n 0 1000000<;>rfl
theorem aeC (b:uK)(n:Int):sf b n=some (Gm b n):=by
 unfold sf Gm;have e:∀x y:Int,(if x<y then x else y)=if y<x then y else x:=by intro x y;split<;>split<;>omega
 simp only[Dk,ab,cn,e];cases gU b<;>cases cY n 0 1000000<;>rfl
def C4 (f:α->α)(l:aw α)(i:Nat):aw α:=(l.take i).map f++l.drop i
theorem CC (f:α->α)(l:aw α)(i:Nat):(C4 f l i).length=l.length:=by simp only[C4,ai,bw,aP,aS];omega
theorem Fm (f:α->α){l:aw α}(h:i<l.length):idx (C4 f l i) (i:Int)=some l[i]:=by rw[Lv,C4,bA (by simp only[bw,aP];omega),bS];rw[show i+(i-((l.take i).map f).length)=i by simp;omega];exact ak h
theorem Fo (f:α->α){l:aw α}(h:i<l.length):(C4 f l i).set i (f l[i])=C4 f l (i+1):=by
 have hl:((l.take i).map f).length=i:=by simp;omega
 rw[C4,C4,List.set_append_right _ _ (by omega),hl,gZ,cv h,List.set_cons_zero,aV h,eH,bj];rfl
theorem Fl (f:α->α)(l:aw α):C4 f l l.length=l.map f:=by rw[C4,cf,List.drop_length,bR]
def OV (n:Int)(f:aE):aE:=(f.1,f.2.1,Gm f.2.2.1 n,f.2.2.2)
theorem ZR (l:aw aE)(n:Int)(h:l.length<=10^9):pH l n=some (l.map (OV n)):=by unfold pH;rw[rA l h,ab];refine cK (λi=>(C4 (OV n) l i,(i:Int))) l.length (by omega) (λi nx hi=>?_) (λnx=>?_);simp only[ma];rw[iH,Fm _ hi,aj];simp only[ah,ab,adt,ax];rw[<-Fo _ hi];rfl;simp only[ma];rw[cD,ae,Fl]
theorem abt (l:aw aE)(n:Int)(h:l.length<=10^9):qd l n=some (l.map (OV n)):=by unfold qd;rw[gq h,bz];refine cK (λi=>(C4 (OV n) l i,(i:Int))) l.length (by omega) (λi nx hi=>?_) (λnx=>?_);simp only[mj,CC];rw[iH,Fm _ hi,aj];simp only[ah,ab,aeC,ax];rw[<-Fo _ hi];rfl;simp only[mj,CC];rw[cD,ae,Fl]
def noQ (w:cm)(i:Nat):cm:=(w.1,C4 (λ_=>[]) w.2.1 i,w.2.2)
theorem anQ (w b:cm)(h:w.2.1.length<=10^9):bh (ow (λ_ EW=>some EW) ((List.length w.2.1:Int)) b) fuel (0,w)=some (w.1,w.2.1.map (λ_=>[]),w.2.2):=by refine cK (λi=>((i:Int),noQ w i)) w.2.1.length (by omega) (λi nx hi=>?_) (λnx=>?_);simp only[ow,noQ];rw[iH,Fm _ hi,aj];simp only[ah,ab,ax];rw[<-Fo _ hi];rfl;simp only[ow,noQ];rw[cD,ae,Fl]
theorem LR {w:cm}(h:sL w=true):w.1.length=w.2.2.2.1.length/\w.2.1.length=w.2.2.2.1.length/\w.2.2.1.length=w.2.2.2.1.length/\1<=w.2.2.2.1.length/\w.2.2.2.1.length<=3:=by have h':=h;unfold sL at h';simp only[af]at h';have h2:=h'.1;have hl:=h'.2.1;simp only[N5,af,ba]at hl;unfold bU at h2;cases hc:cY (w.2.2.2.1.length:Int) 1 3&&(w.2.2.2.1.all iT&&gv (jR w.2.2.2.1))with|false=>rw[hc]at h2;cases h2|true=>simp only[af,aX]at hc;omega
theorem D7 {w:cm}{n:Nat}(hn:382<=n)(z:cB n fT w):cB (n+1288) fT (jP w e p):=by have z':cB (n+1288) fT w:=z.mono;unfold jP;cases hi:sL w;exact z';cases eQ p;exact z';have h:=(Xk hi).1;have h4:=LR hi;simp only[bW,ah];generalize (bU w.2.2.2.1).1=ps at h⊢;cases decide (iq ps e p<0)with|true=>exact z'|false=>have h8:=Bg ps e p;exact(Nm (sk ps e p) (λj hj=>by have:=Eo j hj;omega) hn z).mono
theorem aoD (ps:aw Port)(v:Int)(p:aD)(w:cm)(j:Nat):(BJ ps v p w j).2.1=w.2.1/\(BJ ps v p w j).2.2.2.1=w.2.2.2.1:=by unfold BJ;cases j==0<;>exact⟨rfl,rfl⟩
theorem afS (ps:aw Port)(v:Int)(p:aD):∀(l:fA)(w:cm),(Fy ps v p w l).2.1=w.2.1/\(Fy ps v p w l).2.2.2.1=w.2.2.2.1
 |[],w=>⟨rfl,rfl⟩
 |j::l,w=>by have h1:=afS ps v p l (BJ ps v p w j);have h2:=aoD ps v p w j;exact⟨h1.1.trans h2.1,h1.2.trans h2.2⟩
def aja (a b:cm):Prop:=b.1.length=a.1.length/\b.2.1=a.2.1/\b.2.2.2.1=a.2.2.2.1
theorem Ib (w:cm)(e:Int)(p:aD):aja w (jP w e p):=by unfold jP;cases sL w&&eQ p;exact⟨rfl,rfl,rfl⟩;cases hd:decide (iq (bU w.2.2.2.1).1 e p<0)with|true=>exact⟨rfl,rfl,rfl⟩|false=>have h:=afS (bU w.2.2.2.1).1 (iq (bU w.2.2.2.1).1 e p) p (sk (bU w.2.2.2.1).1 e p) w;exact⟨Xx _ _ _ _ _,h.1,h.2⟩
def sE (x:Bytes):Bool:=decide (22<=x.length)
theorem aec (h:((eM x).2==0)=true):sE x=true:=by
 unfold sE;refine au (kM λhx=>?_);have hl:(wH x).2=true->(wH x).1.length<18:=by unfold wH;cases h4:decide ((x.length:Int)<4)with|true=>intro h;cases h|false=>cases Cq (x.take ((x.length:Int)-4).toNat)==x with|false=>intro h;cases h|true=>intro _;simp only[cH]at h4;show(x.take ((x.length:Int)-4).toNat).length<18;rw[aP];omega
 unfold eM at h;simp only at h;cases h1:(wH x).2 with
 |false=>rw[h1]at h;simp at h
 |true=>
  have h18:=hl h1;have he:(gj (wH x).1).2=false:=by unfold gj;rw[iH];rfl
  have hr:kU (wH x).1=(pk0,2):=by unfold kU;simp only[he,bH,gb,ah]
  rw[h1,hr]at h;simp at h
def JT (ps:aw Port)(k:Int)(w:cm)(x:Bytes):cm:=
 bif (eM x).2==0 then(bif (nE w.2.2.1 ps k (eM x).1).2.2 then jP (w.1,w.2.1,(nE w.2.2.1 ps k (eM x).1).1,w.2.2.2) (k+1) (eM x).1
  else(w.1,w.2.1,(nE w.2.2.1 ps k (eM x).1).1,w.2.2.2)) else w
def R3 (ps:aw Port)(k:Int)(w:cm)(l:bV):cm:=l.foldl (JT ps k) w
theorem anB {n:Nat}{l:aw aE}(h:l.length<=n):cB n (.sl bm) l:=⟨h,λ_ _=>⟨cq,cq,⟨cq,cq,cq⟩,cq,cq,cq⟩⟩
theorem Il {n:Nat}{w:cm}(z:cB n fT w){l:aw aE}(h:l.length=w.2.2.1.length):cB n fT (w.1,w.2.1,l,w.2.2.2):=⟨z.1,z.2.1,anB (by rw[h];exact z.2.2.1.1),z.2.2.2⟩
theorem aiT {k:Int}{w:cm}{n:Nat}(hn:382<=n)(z:cB n fT w):cB (n+1288*[x].countP sE) fT (JT ps k w x):=by
 unfold JT;cases hr:(eM x).2==0 with
 |false=>exact z.mono
 |true=>
  have e:[x].countP sE=1:=by simp[aec hr]
  have z2:=Il z (IX w.2.2.1 ps k (eM x).1);rw[e];cases (nE w.2.2.1 ps k (eM x).1).2.2 with|false=>exact z2.mono|true=>exact D7 hn z2
theorem R4 {ps:aw Port}{k:Int}:∀(l:bV){w:cm}{n:Nat},382<=n->cB n fT w->cB (n+1288*l.countP sE) fT (R3 ps k w l)
 |[],w,n,_,z=>z
 |x::l,w,n,hn,z=>by have h:=R4 (ps:=ps) (k:=k) l (by omega) (aiT (ps:=ps) (k:=k) (x:=x) hn z);refine h.mono ?_;rw[show x::l=[x]++l from rfl,List.countP_append];omega
theorem Su (ps:aw Port)(k:Int)(w:cm)(x:Bytes):aja w (JT ps k w x):=by unfold JT;cases (eM x).2==0;exact⟨rfl,rfl,rfl⟩;cases (nE w.2.2.1 ps k (eM x).1).2.2 with|false=>exact⟨rfl,rfl,rfl⟩|true=>exact Ib (w.1,w.2.1,(nE w.2.2.1 ps k (eM x).1).1,w.2.2.2) _ _
theorem Nl (ps:aw Port)(k:Int):∀(l:bV)(w:cm),aja w (R3 ps k w l)
 |[],w=>⟨rfl,rfl,rfl⟩
 |x::l,w=>by have h1:=Nl ps k l (JT ps k w x);have h2:=Su ps k w x;exact⟨h1.1.trans h2.1,h1.2.1.trans h2.2.1,h1.2.2.trans h2.2.2⟩
theorem ail (ps:aw Port)(k:Int)(w:cm)(l:bV)(i:Nat)(hi:i<l.length):R3 ps k w (l.take (i+1))=JT ps k (R3 ps k w (l.take i)) l[i]:=by rw[aV hi,R3,List.foldl_append];rfl
theorem Yp (p:α->Bool)(l:aw α)(i:Nat):(l.take i).countP p<=l.countP p:=(List.take_sublist i l).countP_le
theorem ahm (ps:aw Port)(k n:Nat)(w b:cm)(l:bV)(hk:k<=100000000)(hn:382<=n)(z:cB n fT w)(hN:n+1288*l.countP sE<=90000000)(hl:cB 1000000000 (.sl .str) l)(zp:rr ps): bh (js (λ_ Dw=>some Dw) (k:Int) ps l ((List.length l:Int)) b) fuel (0,w)=some (R3 ps k w l):=by
 have hl1:l.length<=10^9:=hl.1;refine cK (λi=>((i:Int),R3 ps k w (l.take i))) l.length (by omega) (λi nx hi=>?_) (λnx=>?_);have hx:l[i].length<=10^9:=hl.2 _ (aB hi);have hc:=Yp sE l i;have hz:cB 90000000 fT (R3 ps k w (l.take i)):=(R4 (ps:=ps) (k:=k) (l.take i) hn z).mono;rw[ail ps k w l i hi];generalize R3 ps k w (l.take i)=W at hz⊢;have hf:W.2.2.1.length<=10^9:=bp hz.2.2.1.1 (by omega);simp only[js];rw[iH,bc hi,aj (n:=(i:Int)+1)];simp only[ah,ab,MY _ hx,JT,bne];cases hr:(eM l[i]).2==0 with|false=>rfl|true=>simp only[al,ae,ah,ahp _ ps _ _ hf zp,ab];have z2:=Il hz (IX W.2.2.1 ps k (eM l[i]).1);cases (nE W.2.2.1 ps k (eM l[i]).1).2.2 with|false=>rfl|true=>rw[aj (n:=(k:Int)+1)];simp only[ah,GY _ _ _ z2,ab];rfl
 simp only[js];rw[cD,ae,cf]
def CI (w:cm)(k:Nat):cm:=R3 (bU w.2.2.2.1).1 k (w.1,w.2.1.set k [],w.2.2) (w.2.1.getD k [])
theorem Ka {n:Nat}{w:cm}(k:Nat)(z:cB n fT w):cB n fT (w.1,w.2.1.set k [],w.2.2):=⟨z.1,⟨by rw[ay];exact z.2.1.1,λx hx=>by rcases cd hx with h|rfl;exact z.2.1.2 x h;exact⟨bC _,λy hy=>by cases hy⟩⟩,z.2.2⟩
theorem Tl (w:cm)(k n:Nat)(hk:k<w.2.1.length)(hn:382<=n)(z:cB n fT w)(hN:n+1288*(w.2.1.getD k []).countP sE<=90000000):pJ w (k:Int)=some (CI w k):=by have z9:cB 1000000000 fT w:=z.mono;have hq:w.2.1.length<=n:=z.2.1.1;rw[bN hk]at hN;unfold pJ CI;simp only[zH w z9,AK _ (Rx z9),ab,bc hk,ax,bN hk];exact ahm _ k n (w.1,w.2.1.set k [],w.2.2) _ _ (by omega) hn (Ka k z) hN (z9.2.1.2 _ (aB hk)) (PF _)
def xj (w:cm)(k:Nat)(m:uK):cm:=
 match (jw w.2.2.2.1 k m).1[k]?,w.1[k]? with
 |some b,some s=>(w.1.set k (b.1,s.2),w.2.1,w.2.2.1,(jw w.2.2.2.1 k m).1,w.2.2.2.2)
 |_,_=>w
def al7 (w:cm)(k:Nat)(p:aD)(n:Int):cm:=(w.1,w.2.1.set k (w.2.1.getD k []++JL p n),w.2.2)
def VP (w:cm)(a:cS)(v:Int):cm:=
 bif a.1==1 then xj w a.2.1.toNat a.2.2.2.1 else
 bif a.1==2 then(w.1,w.2.1.map (λ_=>[]),w.2.2) else
 bif a.2.2.1.1==0 then(bif v==1 then al7 w a.2.1.toNat a.2.2.1.2.1 a.2.2.1.2.2.1 else w) else
 bif a.2.2.1.1==1 then CI w a.2.1.toNat else
 bif a.2.2.1.1==2 then(bif (eM a.2.2.1.2.2.2.2.1).2==0 then jP w 0 (eM a.2.2.1.2.2.2.2.1).1 else w) else
 bif a.2.2.1.1==4 then(w.1,w.2.1,w.2.2.1.map (OV 1),w.2.2.2) else
 bif a.2.2.1.1==6 then(w.1,w.2.1.set a.2.1.toNat [],w.2.2) else w
def okI (w:cm)(a:cS):Bool:=sL w&&(G8 a.2.2.1&&(cY a.2.1 0 ((w.1.length:Int)-1)&&(cY a.1 0 2&&cY a.2.2.2.2.2 0 100)))
def sD (w:cm)(a:cS)(v:Int):cm:=bif okI w a then VP w a v else w
def O0 (N:Nat)(w:cm):Prop:=∃n,382<=n/\cB n fT w/\n+1288*(w.2.1.map (λq=>q.countP sE)).sum<=N
theorem aaq {l:fA}{x:Nat}(h:x∈l):x<=l.sum:=by have:=Ge (λy=>y) l x h;simpa using this
theorem asX {w:cm}{n:Nat}(h:n+1288*(w.2.1.map (λq=>q.countP sE)).sum<=N)(hk:k<w.2.1.length):n+1288*(w.2.1.getD k []).countP sE<=N:=by
 have h1:(w.2.1.getD k []).countP sE<=(w.2.1.map (λq=>q.countP sE)).sum:=by rw[bN hk];exact aaq (List.mem_map_of_mem (aB hk))
 omega
theorem ZG (w:cm)(a:cS)(v:Int)(N:Nat)(hi:O0 N w)(hN:N<=90000000)(hA:cB 1000000000 eo a):BU w a v=some (sD w a v):=by
 obtain⟨n,hn,z,hq⟩:=hi;have z9:cB 1000000000 fT w:=z.mono;have zN:cB 90000000 fT w:=z.mono;have hf9:w.2.2.1.length<=10^9:=z9.2.2.1.1;have hx:a.2.2.1.2.2.2.2.1.length<=10^9:=hA.2.2.1.2.2.2.2.1;unfold BU sD okI C1;simp only[zH w z9,IK w (FY z9),ab];cases hw:sL w;rfl;obtain⟨l1,l2,l3,l4,l5⟩:=LR hw;rw[aj (n:=(w.2.2.1.length:Int)-1),show(w.2.2.1.length:Int)-1=(w.1.length:Int)-1 by omega];simp only[anN,dW,ab,al,ae,aZ];cases G8 a.2.2.1;rfl;cases hk:cY a.2.1 0 ((w.1.length:Int)-1);rfl;cases cY a.1 0 2;rfl;cases cY a.2.2.2.2.2 0 100;rfl;simp only[ah,ab,al,ae,bW];have hk:=aX.1 hk;obtain⟨k,hke⟩:=aO hk.1;have hk1:k<w.1.length:=by omega
 have Uy:k<w.2.1.length:=by omega
 have hk3:k<w.2.2.2.1.length:=by omega
 unfold VP;rw[hke,ax];cases a.1==1 with
 |true=>
  have hb:∀b∈w.2.2.2.1,b.1.2.2.length<=100000000:=λb hb=>bp (Rx zN b hb) (by omega);have hk4:k<(jw w.2.2.2.1 k a.2.2.2.1).1.length:=by rw[zG];exact hk3
  have hl:=J8 w.2.2.2.1 k a.2.2.2.1 (n:=100000000) (by omega) hb _ (aB hk4);simp only[ah,MW _ k _ hk3 (by omega) hb,ab,bc hk4,ov _ (show(jw w.2.2.2.1 k a.2.2.2.1).1[k].1.2.2.length<=10^9 by omega),bc hk1,xj,ak hk4,ak hk1]
 |false=>
  simp only[ae];cases a.1==2 with
  |true=>exact anQ w _ (by omega)
  |false=>
   simp only[ae];cases a.2.2.1.1==0 with
   |true=>simp only[ah];cases v==1 with|false=>rfl|true=>have hs:=(Nr a.2.2.1.2.1 a.2.2.1.2.2.1).1;have hql:w.2.1[k].length<=90000000:=(zN.2.1.2 _ (aB Uy)).1;simp only[ah,ahb,bc Uy,alh,ab,al7,bN Uy];rw[aL]
   |false=>
    simp only[ae];cases a.2.2.1.1==1 with
    |true=>simp only[ah,Tl w k n Uy hn z (by have:=asX hq Uy;omega),ab]
    |false=>
     simp only[ae];cases a.2.2.1.1==2 with
     |true=>simp only[ah,MY _ hx,ab];cases (eM a.2.2.1.2.2.2.2.1).2==0 with|false=>rfl|true=>simp only[ah,GY w 0 _ zN,ab]
     |false=>simp only[ae];cases a.2.2.1.1==4 with|true=>simp only[ah,ZR _ _ hf9,ab]|false=>simp only[ae];cases a.2.2.1.1==6 with|true=>simp only[ah,bc Uy,ab]|false=>rfl
theorem XQ (c:bV->Nat):∀(l:aw bV)(k:Nat)(x:bV)(h:k<l.length),((l.set k x).map c).sum+c l[k]=(l.map c).sum+c x
 |y::l,0,x,_=>by simp only[List.set_cons_zero,db,eI,List.getElem_cons_zero];omega
 |y::l,k+1,x,h=>by have:=XQ c l k x (by simpa using h);simp only[List.set_cons_succ,db,eI,List.getElem_cons_succ];omega
theorem sum_nil (l:aw bV):((l.map (λ_=>([]:bV))).map (λq=>q.countP sE)).sum=0:=by induction l with|nil=>rfl|cons x l ih=>simp only[db,eI,List.countP_nil,cO];exact ih
theorem ajh {w:cm}{v:Int}(hi:O0 N w)(ho:okI w a=true):O0 (N+412542) (VP w a v):=by
 obtain⟨n,hn,z,hq⟩:=hi;simp only[okI,af]at ho;obtain⟨hw,_,hk,_⟩:=ho;obtain⟨l1,l2,l3,l4,l5⟩:=LR hw;have hk:=aX.1 hk;obtain⟨k,hke⟩:=aO hk.1;have hk1:k<w.1.length:=by omega
 have Uy:k<w.2.1.length:=by omega
 have same:O0 (N+412542) w:=⟨n,hn,z,by omega⟩
 have hc:=XQ (λq=>q.countP sE) w.2.1 k [] Uy;simp only[List.countP_nil,eN]at hc;unfold VP;rw[hke,ax];cases a.1==1 with
 |true=>simp only[ah,xj];split;rename_i b s hb hs;have hbm:=J8 w.2.2.2.1 k a.2.2.2.1 (n:=n) (by omega) (λb hb=>(z.2.2.2.1.2 b hb).1.2.2.1);have yD:=z.1.2 _ (aU hs);refine⟨n,hn,⟨⟨by rw[ay];exact z.1.1,λx hx=>?_⟩,z.2.1,z.2.2.1,⟨by rw[zG];exact z.2.2.2.1.1,λx hx=>?_⟩,z.2.2.2.2⟩,by show n+1288*(w.2.1.map (λq=>q.countP sE)).sum<=_;omega⟩;rcases cd hx with h|rfl;exact z.1.2 x h;exact⟨⟨cq,cq,hbm b (aU hb),λ_ _=>trivial⟩,yD.2⟩;exact⟨⟨cq,cq,hbm x hx,λ_ _=>trivial⟩,cq,cq,cq⟩;exact same
 |false=>
  simp only[ae];cases a.1==2 with
  |true=>rw[ah];refine⟨n,hn,⟨z.1,⟨by rw[bw];exact z.2.1.1,λx hx=>?_⟩,z.2.2⟩,?_⟩;obtain⟨_,_,rfl⟩:=dH.1 hx;exact⟨bC _,λy hy=>by cases hy⟩;show n+1288*((w.2.1.map (λ_=>([]:bV))).map (λq=>q.countP sE)).sum<=_;rw[sum_nil];omega
  |false=>
   simp only[ae];cases a.2.2.1.1==0 with
   |true=>simp only[ah];cases v==1 with|false=>exact same|true=>have hs:=Nr a.2.2.1.2.1 a.2.2.1.2.2.1;have hql:=z.2.1.2 _ (aB Uy);have Zm:=XQ (λq=>q.countP sE) w.2.1 k (w.2.1[k]++JL a.2.2.1.2.1 a.2.2.1.2.2.1) Uy;have MB:(JL a.2.2.1.2.1 a.2.2.1.2.2.1).countP sE<=320:=bp List.countP_le_length hs.1;simp only[List.countP_append]at Zm;simp only[ah,al7,bN Uy];have z2:cB (n+320) fT w:=z.mono;refine⟨n+320,by omega,⟨z2.1,⟨by rw[ay];exact z2.2.1.1,λx hx=>?_⟩,z2.2.2⟩,by show n+320+1288*((w.2.1.set k (w.2.1[k]++JL a.2.2.1.2.1 a.2.2.1.2.2.1)).map (λq=>q.countP sE)).sum<=_;omega⟩;rcases cd hx with h|rfl;exact z2.2.1.2 x h;refine⟨by have:=hql.1;rw[ai];omega,λy hy=>?_⟩;rcases aA.1 hy with h|h;exact bp (hql.2 y h) (by omega);exact bp (hs.2 y h) (by omega)
   |false=>
    simp only[ae];cases a.2.2.1.1==1 with
    |true=>simp only[ah,CI,bN Uy];have hkp:=(Nl (bU w.2.2.2.1).1 k w.2.1[k] (w.1,w.2.1.set k [],w.2.2)).2.1;refine⟨_,by omega,R4 w.2.1[k] hn (Ka k z),?_⟩;rw[hkp];show _+1288*((w.2.1.set k []).map (λq=>q.countP sE)).sum<=_;omega
    |false=>
     simp only[ae];cases a.2.2.1.1==2 with
     |true=>simp only[ah];cases (eM a.2.2.1.2.2.2.2.1).2==0 with|false=>exact same|true=>refine⟨n+1288,by omega,D7 hn z,?_⟩;rw[ah,(Ib w 0 (eM a.2.2.1.2.2.2.2.1).1).2.1];omega
     |false=>simp only[ae];cases a.2.2.1.1==4 with|true=>rw[ah];exact⟨n,hn,Il z (bw ..),by show n+1288*(w.2.1.map (λq=>q.countP sE)).sum<=_;omega⟩|false=>simp only[ae];cases a.2.2.1.1==6 with|true=>rw[ah];refine⟨n,hn,Ka k z,?_⟩;show n+1288*((w.2.1.set k []).map (λq=>q.countP sE)).sum<=_;omega|false=>exact same
theorem Wp {w:cm}{v:Int}(hi:O0 N w):O0 (N+412542) (sD w a v):=by unfold sD;cases ho:okI w a with|true=>exact ajh hi ho|false=>obtain⟨n,hn,z,hq⟩:=hi;rw[ae];exact⟨n,hn,z,by omega⟩
theorem apY (w:cm)(a:cS)(v:Int):(VP w a v).1.length=w.1.length/\(VP w a v).2.1.length=w.2.1.length/\(VP w a v).2.2.2.1.length=w.2.2.2.1.length:=by
 have same:w.1.length=w.1.length/\w.2.1.length=w.2.1.length/\w.2.2.2.1.length=w.2.2.2.1.length:=⟨rfl,rfl,rfl⟩
 unfold VP;cases a.1==1 with
 |true=>simp only[ah,xj];split;exact⟨ay ..,rfl,zG _ _ _⟩;exact same
 |false=>
  simp only[ae];cases a.1==2;case true=>exact⟨rfl,bw ..,rfl⟩
  simp only[ae];cases a.2.2.1.1==0 with
  |true=>cases v==1 with|true=>exact⟨rfl,ay ..,rfl⟩|false=>exact same
  |false=>
   simp only[ae];cases a.2.2.1.1==1 with
   |true=>have h:=Nl (bU w.2.2.2.1).1 ((a.2.1.toNat:Nat):Int) (w.2.1.getD a.2.1.toNat []) (w.1,w.2.1.set a.2.1.toNat [],w.2.2);exact⟨h.1,(congrArg List.length h.2.1).trans (ay ..),congrArg List.length h.2.2⟩
   |false=>
    simp only[ae];cases a.2.2.1.1==2 with
    |true=>cases (eM a.2.2.1.2.2.2.2.1).2==0 with|false=>exact same|true=>have h:=Ib w 0 (eM a.2.2.1.2.2.2.2.1).1;exact⟨h.1,congrArg List.length h.2.1,congrArg List.length h.2.2⟩
    |false=>
     simp only[ae];cases a.2.2.1.1==4;case true=>exact same
     simp only[ae];cases a.2.2.1.1==6 with|true=>exact⟨rfl,ay ..,rfl⟩|false=>exact same
theorem acN (w:cm)(a:cS)(v:Int):(sD w a v).1.length=w.1.length/\(sD w a v).2.1.length=w.2.1.length/\(sD w a v).2.2.2.1.length=w.2.2.2.1.length:=by unfold sD;cases okI w a with|true=>exact apY w a v|false=>exact⟨rfl,rfl,rfl⟩
theorem Ji {b:uK}(h:gU b=true)(n:Int):gU (Gm b n)=true:=by
 unfold Gm;cases hq:gU b&&cY n 0 1000000 with
 |false=>exact h
 |true=>
  simp only[af,aX]at hq;have hi:=h;unfold gU at hi;simp only[af,aX]at hi;have e1:0<=b.1*n/\b.1*n<=10000000000:=⟨Int.mul_nonneg hi.1.1 hq.2.1,by have:=Int.mul_le_mul hi.1.2 hq.2.2 hq.2.1 (by omega:(0:Int)<=10000);omega⟩
  rw[ah,aj (n:=b.1*n),aj (n:=b.2.2+b.1*n)];unfold gU;simp only[af,aX];refine⟨hi.1,hi.2.1,?_,?_⟩;split<;>omega;split<;>omega
end
end Go.Pu
