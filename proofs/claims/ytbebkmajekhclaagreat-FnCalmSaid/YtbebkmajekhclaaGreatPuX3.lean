import Derived.Test.YtbebkmajekhclaaGreatPure
import Derived.KernelRfl
import Derived.Test.YtbebkmajekhclaaGreatPuX2
namespace Go.Pu
open Go.Dn
open List (range)
open Int (tmod)
set_option linter.unusedSimpArgs false
set_option linter.unusedVariables false
noncomputable section
variable {cb v2:Bool} {s x:Bytes} {b2 c:cW} {a:eJ} {h:Host} {d n v1 v9:Int} {b:bN} {i k:Nat} {p:aN} {q:bL} {g:gF} {st:dQ} {t:eR} {R α:Type} {v:Vector} {ms:aw bN} {ps:aw Port} {l:aw aZ} {f m:bO} {r:lZ}
/- What is valid stays valid: memory, rings, pools, the sender's queue. -/
theorem adN (h:dq m=true)(a:Int)(s:Bytes):dq (lY m a s).1=true:=by unfold lY;cases hw:ir m a (s.length:Int);exact h;simp only[ir,ae,aJ]at hw;exact nt.2 (Ca s.length (nt.1 hw.1) (by omega)).1
theorem aai:∀(q:aw (Int×Int)){m:bO}(s:Bytes),dq m=true->dq (Gi q m s)=true
 |[],_,_,h=>h
 |p::q,m,s,h=>by rw[Gi];exact aai q _ (adN h _ _)
theorem Hb (h:dq m=true)(l:aw aI)(d a:Int)(s:Bytes)(w:Bool):dq (hH l m d a s w).1=true:=by unfold hH;cases (lb l m d a (s.length:Int) w).2 with|false=>exact h|true=>exact aai _ _ h
theorem NU (h:dq m=true)(l:aw aI)(d:Int)(r:lZ)(s:Bytes):dq (dg l m d r s).1=true:=by
 unfold dg;cases (nG r==0)||((s.length:Int) !=16);case true=>exact h
 cases (hH l m d (mh r r.2.2.2) s true).2 with|false=>exact h|true=>exact Hb h ..
theorem Hl {b x y:Int}(hb:0<=b/\b<=130944:=by omega)(hn:n=2\/n=4\/n=8\/n=16:=by omega)(hx:0<=x/\x<=2*n-1:=by omega)(hy:0<=y/\y<=2*n-1:=by omega)(hu:(y-x)%(2*n)<=n:=by omega):dH (b,n,x,y)=true:=by have hs:jn n=true:=iG.2 hn;simp only[dH,bS,hs,aU.2 hb,aU.2 hx,aU.2 hy,cw,bt,aJ];exact hu
theorem Ib (h:dH r=true):bS r=(r.2.2.2-r.2.2.1)%(2*r.2.1)/\0<=bS r/\bS r<=r.2.1:=by
 have k:=mZ h;have e:bS r=(r.2.2.2-r.2.2.1)%(2*r.2.1):=by unfold bS;rw[aH (iG.2 k.2.2.1)]
 simp only[dH,ae,aJ]at h;exact⟨e,by rw[e];exact fV _ (by omega),h.2.2.2.2⟩
theorem Nj {x:Int}(hn:0<n:=by omega)(hx:0<=x/\x<=n-1:=by omega):tmod (x+1) n=if x+1=n then 0 else x+1:=by rw[dR (by omega)];split;rename_i h;rw[h];exact Int.emod_self;exact Int.emod_eq_of_lt (by omega) (by omega)
theorem aiu (h:dH r=true)(hf:bS r<r.2.1):dH (r.1,r.2.1,r.2.2.1,tmod (r.2.2.2+1) (2*r.2.1))=true/\bS (r.1,r.2.1,r.2.2.1,tmod (r.2.2.2+1) (2*r.2.1))=bS r+1:=by
 have k:=mZ h;have u:=Ib h;have e:=Nj (x:=r.2.2.2) (n:=2*r.2.1);have u2:(tmod (r.2.2.2+1) (2*r.2.1)-r.2.2.1)%(2*r.2.1)=bS r+1:=by
  have h1:(tmod (r.2.2.2+1) (2*r.2.1)-r.2.2.1)%(2*r.2.1)=(r.2.2.2+1-r.2.2.1)%(2*r.2.1):=by rw[e];split;rename_i hh;rw[<-hh,show(r.2.2.2+1-r.2.2.1)=(0-r.2.2.1)+(r.2.2.2+1) by omega,Int.add_emod_right];rfl
  rw[h1,show r.2.2.2+1-r.2.2.1=(r.2.2.2-r.2.2.1)+1 by omega];have h0:=u.1;generalize r.2.2.2-r.2.2.1=d at h0⊢;rw[Int.add_emod,<-h0,Int.emod_eq_of_lt (a:=1) (by omega) (by omega),Int.emod_eq_of_lt (by omega) (by omega)]
 refine⟨Hl ⟨k.1,k.2.1⟩ k.2.2.1 ⟨k.2.2.2.1,k.2.2.2.2.1⟩ (by rw[e];split<;>omega) (by rw[u2];omega),?_⟩;unfold bS;rw[aH (iG.2 k.2.2.1)];exact u2
theorem alV (h:dH r=true)(hf:bS r≠0):dH (r.1,r.2.1,tmod (r.2.2.1+1) (2*r.2.1),r.2.2.2)=true/\bS (r.1,r.2.1,tmod (r.2.2.1+1) (2*r.2.1),r.2.2.2)=bS r-1:=by
 have k:=mZ h;have u:=Ib h;have e:=Nj (x:=r.2.2.1) (n:=2*r.2.1);have u2:(r.2.2.2-tmod (r.2.2.1+1) (2*r.2.1))%(2*r.2.1)=bS r-1:=by
  have h1:(r.2.2.2-tmod (r.2.2.1+1) (2*r.2.1))%(2*r.2.1)=(r.2.2.2-(r.2.2.1+1))%(2*r.2.1):=by rw[e];split;rename_i hh;rw[<-hh,show(r.2.2.2-0)=(r.2.2.2-(r.2.2.1+1))+(r.2.2.1+1) by omega,Int.add_emod_right];rfl
  rw[h1,show r.2.2.2-(r.2.2.1+1)=(r.2.2.2-r.2.2.1)-1 by omega];have h0:=u.1;generalize r.2.2.2-r.2.2.1=d at h0⊢;rw[Int.sub_emod,<-h0,Int.emod_eq_of_lt (a:=1) (by omega) (by omega),Int.emod_eq_of_lt (by omega) (by omega)]
 refine⟨Hl ⟨k.1,k.2.1⟩ k.2.2.1 (by rw[e];split<;>omega) ⟨k.2.2.2.2.2.1,k.2.2.2.2.2.2⟩ (by rw[u2];omega),?_⟩;unfold bS;rw[aH (iG.2 k.2.2.1)];exact u2
theorem agS (h:dH r=true):nG r=r.2.1-bS r:=by have k:=mZ h;have u:=Ib h;unfold nG;rw[h,ah,ak]
theorem aaR (h:dH r=true)(l:aw aI)(m:bO)(d:Int)(s:Bytes):dH (dg l m d r s).2.1=true/\(dg l m d r s).2.1.2.1=r.2.1:=by
 unfold dg;cases hc:(nG r==0)||((s.length:Int) !=16);case true=>exact⟨h,rfl⟩
 cases (hH l m d (mh r r.2.2.2) s true).2 with
 |false=>exact⟨h,rfl⟩
 |true=>
  simp only[cA]at hc;have h1:nG r≠0:=by simpa using hc.1
  rw[agS h]at h1;have u:=Ib h;exact⟨(aiu h (by omega)).1,rfl⟩
theorem U4 (h:dH r=true)(l:aw aI)(m:bO)(d:Int):dH (bC l m d r).2.1=true/\(bC l m d r).2.1.2.1=r.2.1:=by
 unfold bC;cases hc: !dH r||(bS r==0);case true=>exact⟨h,rfl⟩
 cases (qS l m d (mh r r.2.2.1) 16).2 with|false=>exact⟨h,rfl⟩|true=>simp only[cA]at hc;exact⟨(alV h (by simpa using hc.2)).1,rfl⟩
theorem aku {l:cc}:(range l.length).all (Ev n l)=true↔(∀x∈l,0<=x/\x<=n-1)/\l.Nodup:=by
 rw[aF];constructor;intro h;have k:∀i (hi:i<l.length),(0<=l[i]/\l[i]<=n-1)/\l[i]∉l.take i:=by intro i hi;have:=h i (bG.2 hi);unfold Ev at this;rw[cB hi,ae,aU]at this;exact⟨this.1,by simpa using this.2⟩
 refine⟨λx hx=>?_,?_⟩;obtain⟨i,hi,rfl⟩:=gw hx;exact(k i hi).1;rw[List.Nodup,List.pairwise_iff_getElem];intro i j hi hj hij he;refine(k j hj).2 ?_;rw[<-he];exact List.mem_take_iff_getElem.2 ⟨i,by omega,rfl⟩;rintro⟨h1,h2⟩ i hi;have hi:=bG.1 hi;unfold Ev;rw[cB hi,ae,aU];refine⟨h1 _ (aK hi),?_⟩;have:l[i]∉l.take i:=by intro hm;obtain⟨j,hj,he⟩:=List.mem_take_iff_getElem.1 hm;rw[List.Nodup,List.pairwise_iff_getElem]at h2;exact h2 j i (by omega) hi (by omega) he
 simpa using this
theorem EO {p:dD}:dI p=true↔(0<=p.1/\p.1<=130944)/\(1<=p.2.1/\p.2.1<=512)/\(0<=p.2.2.1/\p.2.2.1<=16)/\(∀x∈p.2.2.2,0<=x/\x<=p.2.2.1-1)/\p.2.2.2.Nodup:=by unfold dI;simp only[ae,aU,aku]
theorem Hg {p:dD}(h:dI p=true){l:cc}(hl:l.Sublist p.2.2.2):dI (p.1,p.2.1,p.2.2.1,l)=true:=by have k:=EO.1 h;exact EO.2 ⟨k.1,k.2.1,k.2.2.1,λx hx=>k.2.2.2.1 x (hl.subset hx),k.2.2.2.2.sublist hl⟩
theorem ail {p:dD}(h:dI p=true)(l:cc):dI (Cz p l).1=true:=by unfold Cz;cases hg:CA p l with|false=>exact h|true=>unfold CA at hg;simp only[ae]at hg;exact hg.2
theorem Lx {s:qc}:qG n s=true↔(1<=s.2.1/\s.2.1<=n)/\0<=s.1/\s.1<=65535:=by unfold qG;simp only[ae,aU]
structure Im (t:eR):Prop where
 ring:dH t.1=true
 next:0<=t.2.2.2/\t.2.2.2<=65535
 sent:∀x∈t.2.2.1,(1<=x.2.1/\x.2.1<=t.1.2.1)/\0<=x.1/\x.1<=65535
 pool:dI (iq t.2.1 (bK t.2.2.1))=true
 Er:eS t.2.2.1<=t.1.2.1
theorem Im.free (h:Im t):dI t.2.1=true:=Hg h.pool (List.sublist_append_left _ _)
theorem amP:Pq t=true↔Im t:=by constructor;intro h;unfold Pq at h;simp only[ae,aU,aF,Lx,aJ]at h;obtain⟨h1,h2,h3,h4,h5,h6⟩:=h;unfold CA at h5;simp only[ae]at h5;exact⟨h1,h3,h4,h5.2,h6⟩;·intro h;unfold Pq CA;simp only[ae,aU,aF,Lx,aJ];exact⟨h.ring,h.free,h.next,h.sent,⟨h.free,h.pool⟩,h.Er⟩
theorem Nn (a b:aw qc):bK (a++b)=bK a++bK b:=by simp[bK]
theorem TQ (a b:aw qc):eS (a++b)=eS a+eS b:=by simp[eS]
theorem Ue:∀(l:aw qc)(p:dD),dI (iq p (bK l))=true->ov p l=iq p (bK l)
 |[],p,_=>by simp[ov,bK,iq]
 |x::l,p,h=>by
  have e:bK (x::l)=x.2.2++bK l:=by simp[bK]
  rw[e]at h;have h1:dI (iq p x.2.2)=true:=Hg (p:=iq p (x.2.2++bK l)) h (by show(p.2.2.2++x.2.2).Sublist (p.2.2.2++(x.2.2++bK l));rw[<-aR];exact List.sublist_append_left _ _);have h0:dI p=true:=Hg (p:=iq p x.2.2) h1 (List.sublist_append_left _ _);have hg:(Cz p x.2.2).1=iq p x.2.2:=by unfold Cz CA;rw[h0,h1];rfl
  have ea:iq (iq p x.2.2) (bK l)=iq p (x.2.2++bK l):=by simp[iq]
  rw[ov,hg,Ue l _ (by rw[ea];exact h),ea,e]
theorem aov (h:Im t)(hr:dH r=true)(hn:r.2.1=t.1.2.1):Im (r,t.2):=
 ⟨hr,h.next,λx hx=>by show(1<=x.2.1/\x.2.1<=r.2.1)/\_;rw[hn];exact h.sent x hx,h.pool,by show eS t.2.2.1<=r.2.1;rw[hn];exact h.Er⟩
theorem abt (h:Im t)(n:Int):Im (kU t n).1:=by
 unfold kU;cases hc:Pq t&&di n 0 (t.2.2.1.length:Int);exact h;simp only[ae,aU]at hc;have hs:t.2.2.1.take n.toNat++t.2.2.1.drop n.toNat=t.2.2.1:=cR _ _;have hb:bK t.2.2.1=bK (t.2.2.1.take n.toNat)++bK (t.2.2.1.drop n.toNat):=by rw[<-Nn,hs]
 have hp:dI (iq t.2.1 (bK (t.2.2.1.take n.toNat)))=true:=Hg (p:=iq t.2.1 (bK t.2.2.1)) h.pool (by show(t.2.1.2.2.2++_).Sublist (t.2.1.2.2.2++_);rw[hb];exact(List.sublist_append_left _ _).append_left _);have hg:=Ue _ _ hp;refine⟨h.ring,h.next,λx hx=>h.sent x (List.mem_of_mem_drop hx),?_,?_⟩;show dI (iq (ov t.2.1 (t.2.2.1.take n.toNat)) (bK (t.2.2.1.drop n.toNat)))=true;rw[hg,show iq (iq t.2.1 (bK (t.2.2.1.take n.toNat))) (bK (t.2.2.1.drop n.toNat))=iq t.2.1 (bK t.2.2.1) by rw[hb];simp[iq]];exact h.pool;show eS (t.2.2.1.drop n.toNat)<=t.1.2.1;have h1:eS t.2.2.1=eS (t.2.2.1.take n.toNat)+eS (t.2.2.1.drop n.toNat):=by rw[<-TQ,hs]
 have h2:0<=eS (t.2.2.1.take n.toNat):=Br t.1.2.1 _ (by rw[aF];exact λx hx=>Lx.2 (h.sent x (List.mem_of_mem_take hx)));have:=h.Er;omega
theorem PV (l:aw aI)(m:bO)(d:Int):∀(n:Nat)(acc:aw FW)(r:lZ),dH r=true->dH (sS l m d n acc r).2.1=true/\(sS l m d n acc r).2.1.2.1=r.2.1
 |0,acc,r,h=>⟨h,rfl⟩
 |n+1,acc,r,h=>by have k:=mZ h;have ht:=U4 h l m d;rw[sS];cases !(bC l m d r).2.2|| !(cV (bC l m d r).1).2 with|true=>exact⟨Hl ⟨k.1,k.2.1⟩ k.2.2.1 ⟨k.2.2.2.2.2.1,k.2.2.2.2.2.2⟩ ⟨k.2.2.2.2.2.1,k.2.2.2.2.2.2⟩ (by rw[Int.sub_self,Int.zero_emod];omega),rfl⟩|false=>cases Is (cV (bC l m d r).1).1 with|true=>exact ht|false=>have:=PV l m d n (acc++[(cV (bC l m d r).1).1]) _ ht.1;exact⟨this.1,this.2.trans ht.2⟩
theorem ab1 (h:dH r=true)(l:aw aI)(m:bO)(d:Int):dH (du l m d r).2.1=true/\(du l m d r).2.1.2.1=r.2.1:=by unfold du;cases !dH r||(bS r==0)with|true=>exact⟨h,rfl⟩|false=>exact PV l m d _ _ _ h
theorem aau (h:dH r=true)(l:aw aI)(m:bO)(d:Int):dH (iu l m d r).1=true/\(iu l m d r).1.2.1=r.2.1:=by
 have hc:=ab1 h l m d;unfold iu;cases !dH r||(bS r==0);case true=>exact⟨h,rfl⟩
 cases !(du l m d r).2.2|| !(fN (du l m d r).1).2.2.2;case true=>exact hc
 cases !(lP l m d (fN (du l m d r).1).1).2||(!(yI (lP l m d (fN (du l m d r).1).1).1).2||((kR (yI (lP l m d (fN (du l m d r).1).1).1).1).2 !=0))with|true=>exact hc|false=>exact hc
theorem HA (l:aw aI)(m:bO)(d:Int):∀(n:Nat)(fr:bO)(dn bd:Nat)(r:lZ),dH r=true->dH (nk l m d n fr dn bd r).1=true/\(nk l m d n fr dn bd r).1.2.1=r.2.1
 |0,fr,dn,bd,r,h=>⟨h,rfl⟩
 |n+1,fr,dn,bd,r,h=>by
  have k:=aau h l m d;rw[nk];cases (iu l m d r).2.2==0;case true=>exact⟨h,rfl⟩
  cases (iu l m d r).2.2==1 with|true=>have:=HA l m d n (fr++(iu l m d r).2.1) (dn+1) bd _ k.1;exact⟨this.1,this.2.trans k.2⟩|false=>have:=HA l m d n (fr++(iu l m d r).2.1) dn (bd+1) _ k.1;exact⟨this.1,this.2.trans k.2⟩
theorem Lq (l:aw aI)(d:Int):∀(q:bO)(m:bO)(r:lZ){x},qE l d q m r=some x->(dH r=true->dH x.2=true/\x.2.2.1=r.2.1)/\(dq m=true->dq x.1=true)
 |[],m,r,x,h=>by cases h;exact⟨λh=>⟨h,rfl⟩,λh=>h⟩
 |s::q,m,r,x,h=>by rw[qE]at h;cases hq:(dg l m d r s).2.2 with|false=>rw[hq]at h;cases h|true=>rw[hq]at h;have k:=Lq l d q _ _ h;refine⟨λhr=>?_,λhm=>k.2 (NU hm ..)⟩;have hp:=aaR hr l m d s;have:=k.1 hp.1;exact⟨this.1,this.2.trans hp.2⟩
theorem UL (l:aw aI)(d:Int)(p:dD)(z:Nat):∀(q:cc)(s:Bytes)(m:bO)(a:aw iv){x},wT l d p z q s m a=some x->dq m=true->dq x.2=true
 |[],s,m,a,x,h,hm=>by cases h;exact hm
 |b::q,s,m,a,x,h,hm=>by rw[wT]at h;cases hq:(hH l m d (oy p b) (s.take z) false).2 with|false=>rw[hq]at h;cases h|true=>rw[hq]at h;exact UL l d p z q _ _ _ h (Hb hm ..)
theorem aim {p:dD}(h:dI p=true){l:cc}(hl:l.Perm p.2.2.2):dI (p.1,p.2.1,p.2.2.1,l)=true:=by have k:=EO.1 h;exact EO.2 ⟨k.1,k.2.1,k.2.2.1,λx hx=>k.2.2.2.1 x (hl.mem_iff.1 hx),hl.nodup_iff.2 k.2.2.2.2⟩
theorem aiF (h:Im t)(hm:dq m=true)(l:aw aI)(d c:Int){n:Nat}(hf:IA t n=true)(x:aw iv×bO)(hx:dq x.2=true):dq (Oa l m d t c n x).1=true/\Im (Oa l m d t c n x).2.1:=by
 unfold Oa uy;cases hp:qE l d ((kJ x.1 c t.2.2.2).map kz) x.2 t.1 with
 |none=>exact⟨hm,h⟩
 |some y=>
  have k:=Lq l d _ _ _ hp;have kr:=k.1 h.ring;refine⟨k.2 hx,?_⟩;unfold IA at hf;simp only[ae,aO,df]at hf;have ht:kv t.2.1 (n:Int)=((t.2.1.1,t.2.1.2.1,t.2.1.2.2.1,t.2.1.2.2.2.drop n),t.2.1.2.2.2.take n,true):=by have h1:=hf.1;unfold kv at h1⊢;cases hc:dI t.2.1&&di (n:Int) 0 (t.2.1.2.2.2.length:Int)with|false=>rw[hc]at h1;cases h1|true=>simp only[ah,au]
  have h0:0<=eS t.2.2.1:=Br t.1.2.1 _ (by rw[aF];exact λx hx=>Lx.2 (h.sent x hx));show Im (y.2,(kv t.2.1 (n:Int)).1,t.2.2.1++[(t.2.2.2,(n:Int)+1,(kv t.2.1 (n:Int)).2.1)],tmod (t.2.2.2+1) 65536);rw[ht];have hn:=h.next
  refine⟨kr.1,?_,?_,?_,?_⟩;have:=Nj (x:=t.2.2.2) (n:=65536);show 0<=tmod (t.2.2.2+1) 65536/\tmod (t.2.2.2+1) 65536<=65535;rw[this];split<;>omega;intro s hs;show(1<=s.2.1/\s.2.1<=y.2.2.1)/\0<=s.1/\s.1<=65535;rw[kr.2];rcases aA.1 hs with hs|hs;exact h.sent s hs;rw[br.1 hs];show(1<=(n:Int)+1/\(n:Int)+1<=t.1.2.1)/\0<=t.2.2.2/\t.2.2.2<=65535;omega;refine aim (p:=iq t.2.1 (bK t.2.2.1)) h.pool ?_;show(t.2.1.2.2.2.drop n++bK (t.2.2.1++[_])).Perm (t.2.1.2.2.2++bK t.2.2.1);rw[Nn,show bK [(t.2.2.2,(n:Int)+1,t.2.1.2.2.2.take n)]=t.2.1.2.2.2.take n by simp[bK]];refine(List.perm_append_comm_assoc _ _ _).trans ?_;refine(List.perm_append_comm).trans ?_;exact((List.perm_append_comm.trans (by rw[cR])).append_right _);show eS (t.2.2.1++[_])<=y.2.2.1;rw[TQ,kr.2,show eS [(t.2.2.2,(n:Int)+1,t.2.1.2.2.2.take n)]=(n:Int)+1 by simp[eS]];omega
theorem aiE (h:Im t)(hm:dq m=true)(l:aw aI)(d:Int)(p:aN)(c z:Int):dq (rR l m d t p c z).1=true/\Im (rR l m d t p c z).2.1:=by unfold rR;cases Pq t&&(dS p&&(di z 1 t.2.1.2.1&&di c 1 128));exact⟨hm,h⟩;cases hf:IA t (Ap p z.toNat);exact⟨hm,h⟩;simp only[ah];cases hw:wT l d t.2.1 z.toNat (kv t.2.1 (Ap p z.toNat:Int)).2.1 (lx p).1 m []with|none=>exact⟨hm,h⟩|some x=>exact aiF h hm l d c hf x (UL l d _ _ _ _ _ _ hw hm)
theorem aaY {a b s k f w:Int}(h1:0<=a/\a<=65535)(h2:0<=b/\b<=65535)(h3:0<=s/\s<=4294967295)(h4:0<=k/\k<=4294967295)(h5:0<=f/\f<=31)(h6:0<=w/\w<=65535)(hx:x.length<=320):vG (6,a,b,s,k,f,w,x)=true:=by have Dd:decide ((x.length:Int)>320)=false:=cL;simp only[vG,aU.2 h1,aU.2 h2,aU.2 h3,aU.2 h4,aU.2 h5,aU.2 h6,Dd];rfl
theorem al0 {a b:Int}(h1:0<=a/\a<=65535)(h2:0<=b/\b<=65535)(hx:x.length<=320):vG (17,a,b,0,0,0,0,x)=true:=by have Dd:decide ((x.length:Int)>320)=false:=cL;simp only[vG,aU.2 h1,aU.2 h2,Dd];rfl
theorem aiA (h:vG g=true)(hx:x.length<=320):vG (g.1,g.2.1,g.2.2.1,g.2.2.2.1,g.2.2.2.2.1,g.2.2.2.2.2.1,g.2.2.2.2.2.2.1,x)=true:=by have e:decide ((x.length:Int)>320)=false:=cL;unfold vG at h⊢;simp only[ae]at h⊢;exact⟨h.1,h.2.1,by rw[e];rfl,h.2.2.2⟩
theorem akC {a b v t i l s:Int}(h1:0<=a/\a<=281474976710655)(h2:0<=b/\b<=281474976710655)(h3: -1<=v/\v<=4095)(h4:0<=t/\t<=255)(h5:0<=i/\i<=65535)(h6:0<=l/\l<=255)(h7:0<=s/\s<=4294967295)(h8:0<=d/\d<=4294967295)(hg:vG g=true):sa (a,b,v,t,i,l,s,d,g)=true:=by simp only[sa,aU.2 h1,aU.2 h2,aU.2 h3,aU.2 h4,aU.2 h5,aU.2 h6,aU.2 h7,aU.2 h8,hg];rfl
theorem aav (p:aN):eY p=true↔sa p=true/\p.2.2.2.2.2.2.2.2.2.2.2.2.2.2.2.length<=128:=by unfold eY dS;rw[ae,ae,cY,aJ];constructor;rintro⟨⟨h1,_⟩,h2⟩;exact⟨h1,by omega⟩;rintro⟨h1,h2⟩;exact⟨⟨h1,Or.inl (by omega)⟩,by omega⟩
theorem afM (h:vG g=true)(h6:g.1=6):(0<=g.2.1/\g.2.1<=65535)/\(0<=g.2.2.1/\g.2.2.1<=65535)/\(0<=g.2.2.2.1/\g.2.2.2.1<=4294967295)/\(0<=g.2.2.2.2.1/\g.2.2.2.2.1<=4294967295)/\(0<=g.2.2.2.2.2.1/\g.2.2.2.2.2.1<=31)/\(0<=g.2.2.2.2.2.2.1/\g.2.2.2.2.2.2.1<=65535)/\g.2.2.2.2.2.2.2.length<=320:=by have hl:=Hn h;unfold vG at h;rw[h6]at h;simp only[ae,aU,show((6:Int)==17)=false from rfl,af]at h;exact⟨h.1,h.2.1,h.2.2.2.2.1,h.2.2.2.2.2.1,h.2.2.2.2.2.2.1,h.2.2.2.2.2.2.2,hl⟩
theorem RZ (h:vG g=true)(h6:g.1=6){s f:Int}(hs:0<=s/\s<=4294967295)(hf:0<=f/\f<=31)(hx:x.length<=320):vG (g.1,g.2.1,g.2.2.1,s,g.2.2.2.2.1,f,g.2.2.2.2.2.2.1,x)=true:=by have k:=afM h h6;rw[h6];exact aaY k.1 k.2.1 hs k.2.2.2.1 hf k.2.2.2.2.2.1 hx
theorem Ey (h:sa p=true){i:Int}(hi:0<=i/\i<=65535)(hg:vG g=true):sa (p.1,p.2.1,p.2.2.1,p.2.2.2.1,i,p.2.2.2.2.2.1,p.2.2.2.2.2.2.1,p.2.2.2.2.2.2.2.1,g)=true:=by unfold sa at h⊢;simp only[ae]at h⊢;exact⟨h.1,h.2.1,h.2.2.1,h.2.2.2.1,h.2.2.2.2.1,aU.2 hi,h.2.2.2.2.2.2.1,h.2.2.2.2.2.2.2.1,hg⟩
theorem QH (h:sa p=true):0<=p.2.2.2.2.1/\p.2.2.2.2.1<=65535:=by unfold sa at h;simp only[ae]at h;exact aU.1 h.2.2.2.2.2.1
theorem an5 {i:Int}(h:0<=i/\i<=65535):0<=tmod (ar (i+1)) 65536/\tmod (ar (i+1)) 65536<=65535:=by rw[ak];have h1:=Int.tmod_nonneg 65536 (a:=i+1) (by omega);have h2:=Int.tmod_lt_of_pos (i+1) (b:=65536) (by omega);omega
theorem alB {s:Int}{n:Nat}(h:0<=s/\s<=4294967295)(hn:n<=320):0<=tmod (ar (s+(n:Int))) 4294967296/\tmod (ar (s+(n:Int))) 4294967296<=4294967295:=by rw[ak];have h1:=Int.tmod_nonneg 4294967296 (a:=s+(n:Int)) (by omega);have h2:=Int.tmod_lt_of_pos (s+(n:Int)) (b:=4294967296) (by omega);omega
theorem E6 (v:Vector):E5 v=true↔1<=v.2.2.1/\(v.1<=v.2.2.1\/v.2.1<=v.2.2.2.1):=by unfold E5;by_cases h1:v.2.2.1>=1;rw[ax h1,ah];by_cases h2:v.2.2.1>=v.1;rw[ax h2];simp;omega;rw[aq h2,af,aJ];omega;rw[aq h1];simp;omega
theorem arx (v:Vector):ew v=(di v.1 1 64&&(di v.2.1 0 64&&(di v.2.2.1 0 1000000&&(di v.2.2.2.1 0 1000000&&((decide (v.2.2.1>0)||(v.2.2.2.1==0))&&(v.2.2.2.2.2==(E5 v&& !v.2.2.2.2.1))))))):=by have h:=JS v;unfold ot at h;simp only[dV,aog,ab]at h;generalize ew v=w at h⊢;revert h;cases di v.1 1 64;(intro h;cases h;rfl);cases di v.2.1 0 64;(intro h;cases h;rfl);cases di v.2.2.1 0 1000000;(intro h;cases h;rfl);cases di v.2.2.2.1 0 1000000;(intro h;cases h;rfl);cases decide (v.2.2.1>0)<;>cases (v.2.2.2.1==0)<;>cases E5 v<;>(intro h;cases h;rfl)
theorem uL (v:Vector):ew v=true↔(1<=v.1/\v.1<=64)/\(0<=v.2.1/\v.2.1<=64)/\(0<=v.2.2.1/\v.2.2.1<=1000000)/\(0<=v.2.2.2.1/\v.2.2.2.1<=1000000)/\(v.2.2.1>0\/v.2.2.2.1=0)/\v.2.2.2.2.2=(E5 v&& !v.2.2.2.2.1):=by rw[arx];simp only[ae,aU,cY,aJ,bn]
theorem Kg (h1:1<=v.1/\v.1<=64)(h2:0<=v.2.1/\v.2.1<=64)(h3:0<=v.2.2.1/\v.2.2.1<=1000000)(h4:0<=v.2.2.2.1/\v.2.2.2.1<=1000000)(h5:v.2.2.1>0\/v.2.2.2.1=0)(hr:v.2.2.2.2.2=true->E5 v=true/\v.2.2.2.2.1=false):ew (uP v)=true:=by unfold uP;cases hd:E5 v&& !v.2.2.2.2.1 with|true=>exact(uL _).2 ⟨h1,h2,h3,h4,h5,by show true=(E5 v&& !v.2.2.2.2.1);rw[hd]⟩|false=>refine(uL _).2 ⟨h1,h2,h3,h4,h5,?_⟩;rw[af,hd];cases hv:v.2.2.2.2.2 with|false=>rfl|true=>have:=hr hv;rw[this.1,this.2]at hd;cases hd
theorem Fw (h:ew v=true)(hr:v.2.2.2.2.2=true):E5 v=true/\v.2.2.2.2.1=false:=by have:=((uL v).1 h).2.2.2.2.2;rw[hr]at this;cases hd:E5 v with|false=>rw[hd]at this;cases this|true=>rw[hd]at this;cases hm:v.2.2.2.2.1 with|true=>rw[hm]at this;cases this|false=>exact⟨rfl,rfl⟩
theorem aeF (h:0<=n/\n<=1000000):n<=Pr n/\0<Pr n/\Pr n<=1000000:=by unfold Pr;rw[ak];split<;>omega
theorem amT (h:ew v=true):ew (evV v)=true:=by have k:=(uL v).1 h;have u:=aeF k.2.2.1;unfold evV;rw[h,ah];refine Kg (v:=(v.1,v.2.1,Pr v.2.2.1,v.2.2.2)) k.1 k.2.1 ⟨by show 0<=Pr v.2.2.1;omega,u.2.2⟩ k.2.2.2.1 (Or.inl u.2.1) λhr=>?_;have d:=Fw h hr;have d1:=(E6 v).1 d.1;exact⟨(E6 _).2 ⟨by show 1<=Pr v.2.2.1;omega,by show v.1<=Pr v.2.2.1\/v.2.1<=v.2.2.2.1;omega⟩,d.2⟩
theorem Sw (h:ew v=true):ew (AL v)=true:=by have k:=(uL v).1 h;have u:=aeF k.2.2.2.1;unfold AL;rw[h,ah];by_cases h0:v.2.2.1>0;rw[ax h0,ah];refine Kg (v:=(v.1,v.2.1,v.2.2.1,Pr v.2.2.2.1,v.2.2.2.2)) k.1 k.2.1 k.2.2.1 ⟨by show 0<=Pr v.2.2.2.1;omega,u.2.2⟩ (Or.inl h0) λhr=>?_;have d:=Fw h hr;have d1:=(E6 v).1 d.1;exact⟨(E6 _).2 ⟨d1.1,by show v.1<=v.2.2.1\/v.2.1<=Pr v.2.2.2.1;omega⟩,d.2⟩;rw[aq h0,af];exact Kg k.1 k.2.1 k.2.2.1 k.2.2.2.1 k.2.2.2.2.1 λhr=>Fw h hr
theorem abw (h:ew v=true):ew (tI v).1=true:=by have k:=(uL v).1 h;unfold tI;cases ew v&&v.2.2.2.2.2 with|false=>exact h|true=>exact(uL _).2 ⟨k.1,k.2.1,⟨cU _,by show(0:Int)<=1000000;omega⟩,⟨cU _,by show(0:Int)<=1000000;omega⟩,Or.inr rfl,by show false=(_&& !true);simp⟩
theorem aeG (h:ew v=true):ew (B8 v)=true:=by have k:=(uL v).1 h;unfold B8;rw[h,ah];refine Kg (v:=(v.1,v.2.1,v.2.2.1,v.2.2.2.1,false,v.2.2.2.2.2)) k.1 k.2.1 k.2.2.1 k.2.2.2.1 k.2.2.2.2.1 λhr=>?_;exact⟨(E6 _).2 ((E6 v).1 (Fw h hr).1),rfl⟩
theorem ai2 (h:ew v=true):ew (v.1,v.2.1,0,0,false,false)=true:=by have k:=(uL v).1 h;exact(uL _).2 ⟨k.1,k.2.1,⟨cU _,by show(0:Int)<=1000000;omega⟩,⟨cU _,by show(0:Int)<=1000000;omega⟩,Or.inr rfl,by simp[E5]⟩
structure Co (n:Int) (r:bL):Prop where
 ring:dH r.1=true
 dev:gL r.2.1=true
 drv:gL r.2.2.1=true
 base:r.2.1.1=r.2.2.1.1
 size:r.2.1.2.1=r.2.2.1.2.1
 drop:0<=r.2.2.2.2.2/\r.2.2.2.2.2<=n
 held:r.2.2.2.2.1=true->dS r.2.2.2.1.1=true/\(0<=r.2.2.2.1.2.1/\r.2.2.2.1.2.1<=320)/\1<=r.2.2.2.1.2.2/\r.2.2.2.1.2.2<=320
 free:r.2.2.2.2.1=false->r.2.2.2.1=aiY
theorem RU (r:bL):Gj r=true↔Co 1000000000000 r:=by constructor;intro h;unfold Gj at h;rw[ae]at h;simp only[ae,bn,aU]at h;obtain⟨⟨h1,h2,h3,h4,h5,h6⟩,h7⟩:=h;refine⟨h1,h2,h3,h4,h5,h6,λhh=>?_,λhh=>?_⟩;rw[hh,ah]at h7;simp only[ae,aU]at h7;exact⟨h7.1,h7.2.1,h7.2.2⟩;rw[hh,af]at h7;exact(amk _).1 h7;intro h;unfold Gj;rw[ae];simp only[ae,bn,aU];refine⟨⟨h.ring,h.dev,h.drv,h.base,h.size,h.drop⟩,?_⟩;cases hh:r.2.2.2.2.1 with|true=>have:=h.held hh;simp only[ah,ae,aU];exact⟨this.1,this.2.1,this.2.2⟩|false=>rw[af];exact(amk _).2 (h.free hh)
theorem Co.mono {m:Int}{r:bL}(h:Co n r)(hn:n<=m:=by omega):Co m r:=⟨h.ring,h.dev,h.drv,h.base,h.size,⟨h.drop.1,by have:=h.drop.2;omega⟩,h.held,h.free⟩
theorem Co.rx {r:bL}(h:Co n r)(hn:n<=1000000000000):Gj r=true:=(RU r).2 (h.mono hn)
theorem ahO (h:dq m=true)(l:aw aI)(d:Int)(q:uW)(x:Iv):dq (uN l m d q x).1=true:=by
 unfold uN;cases !gL q|| !uQ x;case true=>exact h
 cases (hH l m d (tD q) (Ko x (Bd q)) true).2 with|false=>exact h|true=>exact Hb h ..
theorem ahP (h:dq m=true)(l:aw aI)(d:Int)(q:bL)(k s:Bytes):dq (ik l m d q k s).1=true:=by
 unfold ik;cases !(cV s).2||(((cV s).1.1 !=3)||decide ((cV s).1.2.2.1<((dE q.2.2.2.1.1).1.length:Int)));case true=>exact h
 cases (hH l m d (cV s).1.2.2.2.1 (dE q.2.2.2.1.1).1 true).2 with|false=>exact h|true=>exact ahO (Hb h ..) ..
theorem aoq {l:aw aI}{k:Bytes}(hm:dq m=true)(hq:gL q.2.1=true):gL (ik l m d q k s).2.1=true/\(ik l m d q k s).2.1.1=q.2.1.1/\(ik l m d q k s).2.1.2.1=q.2.1.2.1:=(Vq (n:=128) (by omega) (UU (by omega) (nt.1 hm)) hq).2.2
theorem Fc (hn:n<=900000000000)(h:Co n q)(hm:dq m=true)(l:aw aI)(d:Int)(k:Bytes):dq (iH l m d q k).1=true/\Co (n+320) (iH l m d q k).2:=by
 unfold iH;cases hc: !Gj q||(!q.2.2.2.2.1||((k.length:Int) !=16));case true=>exact⟨hm,h.mono⟩
 simp only[cA,eF]at hc;have hh:=h.held hc.2.1;have hd:=h.drop;have hr:=U4 h.ring l m d;have hs:=aoq (l:=l) (d:=d) (k:=k) (s:=(bC l m d q.1).1) hm h.dev;simp only[af];cases (bC l m d q.1).2.2&&(ik l m d q k (bC l m d q.1).1).2.2 with|true=>exact⟨ahP hm ..,hr.1,hs.1,h.drv,hs.2.1.trans h.base,hs.2.2.trans h.size,⟨hd.1,by show q.2.2.2.2.2<=n+320;omega⟩,λhf=>(by cases hf),λ_=>rfl⟩|false=>refine⟨hm,hr.1,h.dev,h.drv,h.base,h.size,?_,λhf=>(by cases hf),λ_=>rfl⟩;show 0<=ar (q.2.2.2.2.2+q.2.2.2.1.2.2)/\ar (q.2.2.2.2.2+q.2.2.2.1.2.2)<=n+320;rw[ak];omega
theorem anO {s:qP}(h:Kf s p=true):dS (IU s p).1=true/\(0<=(IU s p).2.1/\(IU s p).2.1<=320)/\1<=(IU s p).2.2/\(IU s p).2.2<=320:=by
 have hl:=VV h;unfold IU;rw[h,ah];simp only[Kf,akD,afR,ae,aJ,aU,bn]at h;obtain⟨⟨hs,hp,asB,h6,Zc,hf⟩,⟨hz,hc,hn,Gf,ayf⟩,_⟩:=h;have ayc:s.2.2+1<=320:=by
  have:s.2.2<=s.2.1*s.2.2:=by have:=Int.mul_le_mul_of_nonneg_right hz (show 0<=s.2.2 by omega);omega
  omega
 have asK:s.2.1<=320:=by
  have:s.2.1<=s.2.1*s.2.2:=by have:=Int.mul_le_mul_of_nonneg_left hc.1 (show 0<=s.2.1 by omega);omega
  omega
 refine⟨?_,⟨by show 0<=s.2.1;omega,asK⟩,?_⟩;have hh:sa s.1=true:=by unfold dS at hs;simp only[ae]at hs;exact hs.1
 have hk:s.1.2.2.2.2.2.2.2.2.1=6:=by
  have e:s.1.2.2.2.2.2.2.2.2.1=p.2.2.2.2.2.2.2.2.1:=by have h2:=asB;unfold aay at h2;simp only[ae,bn]at h2;exact h2.2.2.2.2.2.2.2.1
  rw[e];exact h6
 have hsg:=CD hh;have hfl:di p.2.2.2.2.2.2.2.2.2.2.2.2.2.1 0 31=true:=Ll hp (by rw[h6];rfl);have hg:=RZ hsg hk (afM hsg hk).2.2.1 (aU.1 hfl) (x:=s.1.2.2.2.2.2.2.2.2.2.2.2.2.2.2.2++p.2.2.2.2.2.2.2.2.2.2.2.2.2.2.2) (by rw[ai];omega);unfold dS;rw[ae];refine⟨Ey hh (QH hh) hg,?_⟩;show(_||(s.1.2.2.2.2.2.2.2.2.1==6)&&E9 p.2.2.2.2.2.2.2.2.2.2.2.2.2.1)=true;rw[hk,hf];simp;show 1<=ar (s.2.2+1)/\ar (s.2.2+1)<=320;rw[ak];omega
theorem afj (h:Co n q){s:qP}(hs:dS s.1=true)(h1:0<=s.2.1/\s.2.1<=320)(h2:1<=s.2.2/\s.2.2<=320):Co n (KB q s):=⟨h.ring,h.dev,h.drv,h.base,h.size,h.drop,λ_=>⟨hs,h1,h2⟩,λhf=>(by cases hf)⟩
theorem Va (h:eY p=true):dS (ly p).1=true/\(0<=(ly p).2.1/\(ly p).2.1<=320)/\1<=(ly p).2.2/\(ly p).2.2<=320:=by
 have hl:=JO h;have hs:dS p=true:=by unfold eY at h;simp only[ae]at h;exact h.1
 refine⟨hs,?_,by show(1:Int)<=1/\(1:Int)<=320;omega⟩;show 0<=(p.2.2.2.2.2.2.2.2.2.2.2.2.2.2.2.length:Int)/\(p.2.2.2.2.2.2.2.2.2.2.2.2.2.2.2.length:Int)<=320;omega
theorem Ya (hn:n<=800000000000)(h:Co n q)(hm:dq m=true)(l:aw aI)(d:Int)(k:Bytes)(p:aN)(c:Bool):dq (lL l m d q k p c).1=true/\Co (n+640) (lL l m d q k p c).2:=by
 unfold lL;cases hc: !Gj q||(!eY p||((k.length:Int) !=16));case true=>exact⟨hm,h.mono⟩
 simp only[cA,eF]at hc;have hs:=Va hc.2.1;have hf:=Fc (by omega) h hm l d k;have Dc:=afj hf.2 hs.1 hs.2.1 hs.2.2;simp only[af];cases hj:c&&(q.2.2.2.2.1&&Kf q.2.2.2.1 p)with|true=>simp only[ae]at hj;have j:=anO hj.2.2;exact⟨hm,h.ring,h.dev,h.drv,h.base,h.size,⟨h.drop.1,by show q.2.2.2.2.2<=n+640;have:=h.drop.2;omega⟩,λ_=>j,λhf=>(by have hf:q.2.2.2.2.1=false:=hf;rw[hj.2.1]at hf;cases hf)⟩|false=>simp only[af];cases c with|true=>exact⟨hf.1,Dc.mono⟩|false=>have:=Fc (by omega) Dc hf.1 l d k;exact⟨this.1,this.2.mono⟩
theorem ard {l:aw aI}{q:uW}(h:gL q=true):gL (nf l m d q).2.1=true/\(nf l m d q).2.1.1=q.1/\(nf l m d q).2.1.2.1=q.2.1:=by unfold nf;cases Lh l m d q with|false=>exact⟨h,rfl,rfl⟩|true=>have k:=ym h;refine⟨?_,rfl,rfl⟩;have e:=XQ (a:=q.2.2+1) (b:=2*q.2.1);simp only[ah,alA,gL,ae,aU]at h⊢;refine⟨h.1,h.2.1,?_⟩;rw[yY h.2.1];omega
theorem ad8 {s:aw Stream×bL×dD}(h:Co n s.2.1)(hp:dI s.2.2=true)(l:aw aI)(m:bO)(d:Int):Co n (Bk l m d s).2.1/\dI (Bk l m d s).2.2=true:=by have k:=ard (l:=l) (m:=m) (d:=d) h.drv;exact⟨⟨h.ring,h.dev,k.1,h.base.trans k.2.1.symm,h.size.trans k.2.2.symm,h.drop,h.held,h.free⟩,ail hp _⟩
theorem RH (l:aw aI)(m:bO)(d:Int):∀(k:Nat)(s:aw Stream×bL×dD),Co n s.2.1->dI s.2.2=true->Co n (jE l m d k s).2.2.1/\dI (jE l m d k s).2.2.2=true
 |0,s,h,hp=>⟨h,hp⟩
 |k+1,s,h,hp=>by rw[jE];cases (nf l m d s.2.1.2.2.1).2.2 with|false=>exact⟨h,hp⟩|true=>have e:=ad8 h hp l m d;exact RH l m d k _ e.1 e.2
theorem Qi (l:aw aI)(d:Int)(p:dD):∀(q:cc)(m:bO)(r:lZ),dq m=true->dH r=true->dq (kK l d p q m r).2.1=true/\dH (kK l d p q m r).2.2=true
 |[],m,r,hm,hr=>⟨hm,hr⟩
 |b::q,m,r,hm,hr=>by rw[kK];cases (dg l m d r (fJ p b)).2.2 with|false=>exact⟨hm,hr⟩|true=>exact Qi l d p q _ _ (NU hm ..) (aaR hr ..).1
theorem T6 (hm:dq m=true)(hr:dH r=true){p:dD}(hp:dI p=true)(l:aw aI)(d:Int):dq (oX l m d r p).1=true/\dH (oX l m d r p).2.1=true/\dI (oX l m d r p).2.2.1=true:=by unfold oX;rw[hr,hp];have k:=Qi l d p p.2.2.2 m r hm hr;exact⟨k.1,k.2,Hg hp (List.drop_sublist _ _)⟩
theorem U0 {rx:bL}(h:Co n rx)(hm:dq m=true){pl:dD}(hp:dI pl=true)(l:aw aI)(d:Int)(st:aw Stream)(c:Int):dq (jc l m d rx pl st c).1=true/\Co n (jc l m d rx pl st c).2.1/\dI (jc l m d rx pl st c).2.2.1=true:=by
 unfold jc;cases !Gj rx||(!dI pl|| !di c 0 1000);case true=>exact⟨hm,h,hp⟩
 have k:=RH l m d c.toNat (st,rx,pl) h hp;have f:=T6 hm k.1.ring k.2 l d;exact⟨f.1,⟨f.2.1,k.1.dev,k.1.drv,k.1.base,k.1.size,k.1.drop,k.1.held,k.1.free⟩,f.2.2⟩
structure Good (n:Int) (h:Host):Prop where
 mem:dq h.1=true
 maps:gG h.2.1=true
 tx:Im h.2.2.1
 sN:fK h.2.2.2.2.2.2.2.1=true
 lens:tu h=true
 Tx:fI h.2.2.2.2.2.2.2.2.1 (h.2.2.2.1.length:Int)=true
 rx:∀r∈h.2.2.2.1,Co n r
 pool:∀p∈h.2.2.2.2.1,dI p=true
 vec:∀v∈h.2.2.2.2.2.1,ew v=true
 Er:∀x∈jA h,0<=x/\x<=n
theorem Good.mono {m:Int}(g:Good n h)(hn:n<=m:=by omega):Good m h:=⟨g.mem,g.maps,g.tx,g.sN,g.lens,g.Tx,λr hr=>(g.rx r hr).mono hn,g.pool,g.vec,λx hx=>⟨(g.Er x hx).1,by have:=(g.Er x hx).2;omega⟩⟩
theorem akK (h:Host):eT h=true↔Good 1000000000000 h:=by unfold eT aaT;simp only[ae,aF,aU,amP,RU];constructor;rintro⟨h1,h2,h3,h4,h5,h6,⟨h7,h8,h9⟩,h10⟩;exact⟨h1,h2,h3,h4,h5,h6,h7,h8,h9,h10⟩;intro g;exact⟨g.mem,g.maps,g.tx,g.sN,g.lens,g.Tx,⟨g.rx,g.pool,g.vec⟩,g.Er⟩
theorem Good.ok (g:Good n h)(hn:n<=1000000000000):eT h=true:=(akK h).2 (g.mono hn)
theorem tN {P:α->Prop}{l:aw α}{v:α}(h:∀x∈l,P x)(hv:P v):∀x∈l.set i v,P x:=by intro x hx;rcases cK hx with g|g;exact h x g;rw[g];exact hv
theorem anu (g:Good n h)(k:Nat):Good n (evS k h):=by unfold evS;cases hv:h.2.2.2.2.2.1[k]? with|none=>exact g|some v=>exact⟨g.mem,g.maps,g.tx,g.sN,by have:=g.lens;unfold tu at this⊢;rw[az];exact this,g.Tx,g.rx,g.pool,tN g.vec (amT (g.vec v (aL hv))),g.Er⟩
theorem YW (g:Good n h)(k:Nat):∀i,Good n (evH k i h)
 |0=>g
 |i+1=>anu (YW g k i) k
theorem NG (g:Good n h)(k:Nat)(b:Int){f:bO×bL}(h1:dq f.1=true)(h2:Co n f.2):Good n (C9 h k b f):=by refine YW (h:=I1 h k f) ⟨h1,g.maps,g.tx,g.sN,?_,?_,tN g.rx h2,g.pool,g.vec,g.Er⟩ _ _;have:=g.lens;unfold tu I1 at*;simp only[az];exact this;show fI _ ((h.2.2.2.1.set k f.2).length:Int)=true;rw[az];exact g.Tx
theorem ND (hn:n<=800000000000)(g:Good n h)(k:Nat):Good (n+320) (jY k h):=by unfold jY;cases hx:h.2.2.2.1[k]? with|none=>exact g.mono|some x=>have f:=Fc (by omega) (g.rx x (aL hx)) g.mem h.2.1 0 h.2.2.2.2.2.2.2.2.1.2.2.1;exact NG (g.mono) k _ f.1 f.2
theorem Jv (hn:n<=700000000000)(g:Good n h):Good (n+640) (oY h):=by
 unfold oY;have hl:=oK g.lens;cases eT h with
 |false=>exact g.mono
 |true=>
  have key:∀k:Nat,k<=2->Good (n+320*(k:Int)) (jt jY k h):=by intro k;induction k with|zero=>intro _;exact g.mono|succ k ih=>intro hk;exact(ND (by omega) (ih (by omega)) k).mono
  exact(key _ hl.1).mono (by have:=hl.1;omega)
theorem HV (g:Good n h):Good n (sI h):=by
 unfold sI;cases eT h with
 |false=>exact g
 |true=>
  have key:∀k,Good n (jt ru k h):=by intro k;induction k with|zero=>exact g|succ k ih=>show Good n (ru k (jt ru k h));generalize jt ru k h=s at ih⊢;unfold ru;cases hv:s.2.2.2.2.2.1[k]? with|none=>exact ih|some v=>exact⟨ih.mem,ih.maps,ih.tx,ih.sN,by have:=ih.lens;unfold tu at this⊢;rw[az];exact this,ih.Tx,ih.rx,ih.pool,tN ih.vec (Sw (ih.vec v (aL hv))),ih.Er⟩
  exact key _
theorem agW (g:Good n h)(p:aN)(c z:Int):Good n (AH h p c z).1:=by unfold AH;cases eT h with|false=>exact g|true=>have k:=aiE g.tx g.mem h.2.1 0 p c z;exact⟨k.1,g.maps,k.2,g.sN,g.lens,g.Tx,g.rx,g.pool,g.vec,g.Er⟩
theorem D4 (g:Good n h):Good n (dy h):=by unfold dy;cases eT h with|false=>exact g|true=>have r:=HA h.2.1 h.1 0 17 [] 0 0 h.2.2.1.1 g.tx.ring;exact⟨g.mem,g.maps,abt (aov g.tx r.1 r.2) _,g.sN,g.lens,g.Tx,g.rx,g.pool,g.vec,g.Er⟩
theorem Gs {x:Int}(h:0<=x/\x<=n)(hn:n<=800000000000:=by omega):0<=ar (x+1)/\ar (x+1)<=n+1:=by rw[ak];omega
theorem Ff (hn:n<=800000000000)(g:Good n h){a b c:Int}(ha:0<=a/\a<=n+1)(hb:0<=b/\b<=n+1)(hc:0<=c/\c<=n+1)(hd:0<=d/\d<=n+1):Good (n+1) (AR h a b c d):=by have k:=g.mono (show n<=n+1 by omega);refine⟨k.mem,k.maps,k.tx,k.sN,k.lens,k.Tx,k.rx,k.pool,k.vec,λx hx=>?_⟩;have h1:=Gs (g.Er _ (List.mem_cons_self ..)) hn;simp only[jA,AR,bU,List.not_mem_nil,or_false]at hx;rcases hx with rfl|rfl|rfl|rfl|rfl;exact h1;exact ha;exact hb;exact hc;exact hd
theorem Kx (hn:n<=700000000000)(g:Good n h)(x:Bytes):Good (n+641) (kS h x):=by
 have c1:=g.Er h.2.2.2.2.2.2.2.2.2.2.2.2.2.2.2.1 (by simp[jA]);have c2:=g.Er h.2.2.2.2.2.2.2.2.2.2.2.2.2.2.2.2.1 (by simp[jA]);have c3:=g.Er h.2.2.2.2.2.2.2.2.2.2.2.2.2.2.2.2.2.1 (by simp[jA]);have c4:=g.Er h.2.2.2.2.2.2.2.2.2.2.2.2.2.2.2.2.2.2 (by simp[jA]);have u:∀{y:Int},0<=y/\y<=n->0<=y/\y<=n+1:=λhy=>⟨hy.1,by omega⟩
 unfold kS;cases eT h;exact g.mono;cases (gn x).2 !=0;case true=>exact(Ff (by omega) g (Gs c1) (u c2) (u c3) (u c4)).mono
 cases !xq h.2.2.2.2.2.2.2.1 (gn x).1;case true=>exact(Ff (by omega) g (u c1) (Gs c2) (u c3) (u c4)).mono
 cases rT h.2.2.2.2.2.2.2.2.1 (h.2.2.2.1.length:Int) (gn x).1== -1;case true=>exact(Ff (by omega) g (u c1) (u c2) (Gs c3) (u c4)).mono
 simp only[aj,af];cases hq:h.2.2.2.1[(rT h.2.2.2.2.2.2.2.2.1 (h.2.2.2.1.length:Int) (gn x).1).toNat]? with|none=>exact g.mono|some q=>have a:=Ya (by omega) (g.rx q (aL hq)) g.mem h.2.1 0 h.2.2.2.2.2.2.2.2.1.2.2.1 (gn x).1 h.2.2.2.2.2.2.2.2.2.2.1;exact NG ((Ff (by omega) g (u c1) (u c2) (u c3) (Gs c4)).mono) _ _ a.1 (a.2.mono)
theorem YZ (g:Good n h)(i:Nat)(c:Int):Good n (wM h i c).2:=by unfold wM;rcases h1:h.2.2.2.1[i]? with _|rx;exact g;rcases h2:h.2.2.2.2.1[i]? with _|pl;exact g;have k:=U0 (g.rx rx (aL h1)) g.mem (g.pool pl (aL h2)) h.2.1 0 h.2.2.2.2.2.2.2.2.2.1 c;refine⟨k.1,g.maps,g.tx,g.sN,?_,?_,tN g.rx k.2.1,tN g.pool k.2.2,g.vec,g.Er⟩;have:=g.lens;unfold tu at*;simp only[az];exact this;show fI _ ((h.2.2.2.1.set i _).length:Int)=true;rw[az];exact g.Tx
theorem NF (b:Int)(k:Nat){s:Int×Host}(g:Good n s.2):Good n (CY b k s).2:=by unfold CY;rcases h1:s.2.2.2.2.2.2.1[k]? with _|v;exact g;rcases h2:s.2.2.2.2.2.2.2.1[k]? with _|p;exact g;rcases h3:s.2.2.2.2.1[k]? with _|x;exact g;rcases h4:s.2.2.2.2.2.1[k]? with _|pl;exact g;have hv:=abw (g.vec v (aL h1));simp only;cases p||(tI v).2 with|false=>refine⟨g.mem,g.maps,g.tx,g.sN,?_,g.Tx,g.rx,g.pool,tN g.vec hv,g.Er⟩;have:=g.lens;unfold tu at*;simp only[af,az];exact this|true=>have e:=U0 (g.rx x (aL h3)) g.mem (g.pool pl (aL h4)) s.2.2.1 0 s.2.2.2.2.2.2.2.2.2.2.1 b;refine⟨e.1,g.maps,g.tx,g.sN,?_,?_,tN g.rx e.2.1,tN g.pool e.2.2,tN g.vec ?_,g.Er⟩;have:=g.lens;unfold tu at*;simp only[ah,az];exact this;show fI _ ((s.2.2.2.2.1.set k _).length:Int)=true;rw[az];exact g.Tx;cases decide ((jc s.2.2.1 s.2.1 0 x pl s.2.2.2.2.2.2.2.2.2.2.1 b).2.2.2.2<b)with|true=>exact aeG hv|false=>exact hv
theorem QB (b:Int)(g:Good n h):∀k,Good n (pM b k h).2
 |0=>g
 |k+1=>NF b k (QB b g k)
theorem Ky (g:Good n h)(b:Int):Good n (jF h b).1:=by unfold jF;cases eT h&&di b 1 1000 with|false=>exact g|true=>exact QB b g _
theorem Fg (g:Good n h):∀k,Good n (mX h k)
 |0=>g
 |k+1=>YZ (Fg g k) k 1000
theorem agV (g:Good n h)(l:cc):Good n (aaQ h l):=⟨g.mem,g.maps,g.tx,g.sN,g.lens,g.Tx,g.rx,g.pool,g.vec,g.Er⟩
theorem ID (g:Good n h):∀k,Good n (returned h k)
 |0=>Fg g _
 |k+1=>by show Good n (M6 h.2.2.1.2.2.1 k (returned h k));have:=ID g k;unfold M6;cases h.2.2.1.2.2.1[k]? with|none=>exact this|some x=>exact agV this _
theorem Hf {a b:Int}(ha:0<=a/\a<=130944:=by omega)(hb:1<=b/\b<=512:=by omega)(hn:0<=n/\n<=16:=by omega):gK a b n=((a,b,n,upto n.toNat),true)/\dI (a,b,n,upto n.toNat)=true:=by have h1:dI (a,b,n,[])=true:=EO.2 ⟨ha,hb,hn,by simp,List.nodup_nil⟩;refine⟨by unfold gK;rw[h1];rfl,EO.2 ⟨ha,hb,hn,?_,?_⟩⟩;intro x hx;simp only[upto,dB,bG]at hx;obtain⟨i,hi,rfl⟩:=hx;show 0<=Int.ofNat i/\Int.ofNat i<=n-1;simp only[Int.ofNat_eq_natCast];omega;show(upto n.toNat).Nodup;unfold upto;rw[List.Nodup,List.pairwise_map];exact List.nodup_range.imp λh he=>h (Int.ofNat.inj he)
theorem amQ (c:Int)(hc:0<=c/\c<=65535):Im (Bm.1,Bm.2.1,Bm.2.2.1,c):=by
 have p:=Hf (a:=256) (b:=128) (n:=8);refine⟨Hl,hc,λx hx=>(by cases hx),?_,by show(0:Int)<=16;omega⟩;show dI (iq (gK 256 128 8).1 [])=true;rw[p.1];have e:iq (256,128,8,upto (8:Int).toNat) []=(256,128,8,upto (8:Int).toNat):=by simp[iq]
 show dI (iq (256,128,8,upto (8:Int).toNat) [])=true;rw[e];exact p.2
theorem WB (g:Good n h):Good n (jq h):=by have k:=ID g h.2.2.1.2.2.1.length;exact⟨k.mem,k.maps,amQ _ k.tx.next,k.sN,k.lens,k.Tx,k.rx,k.pool,k.vec,k.Er⟩
theorem aeO (h:i<=8):0<=gR i/\gR i<=16000:=by unfold gR;omega
theorem US (hm:dq m=true)(l:aw aI)(hi:i<=8):dq (kZ l m i).1=true/\dH (kZ l m i).2.1=true/\dI (kZ l m i).2.2.1=true:=by have hb:=aeO hi;have p:=Hf (a:=gR i+128) (b:=384) (n:=4);unfold kZ;rw[p.1];exact T6 (Hb hm ..) (Hl) p.2 l 0
theorem aaX (hi:i<=8)(hr:dH r=true)(hd:0<=d/\d<=n):Co n (r,(gR i+64,4,0),(gR i+64,4,0),((0,0,0,0,0,0,0,0,0,0,0,0,0,0,0,([]:Bytes)),0,0),false,d):=by
 have hb:=aeO hi;have hq:gL (gR i+64,4,0)=true:=by have hs:jn 4=true:=iG.2 (by omega);unfold gL;rw[ae,ae];exact⟨aU.2 (by omega),hs,by rw[yY hs];rfl⟩
 exact⟨hr,hq,hq,rfl,rfl,hd,λhf=>(by cases hf),λ_=>rfl⟩
theorem Za (hn:n<=800000000000)(g:Good n h)(hi:i<=8):Good (n+320) (wN i h):=by
 have gm:=g.mono (show n<=n+320 by omega);unfold wN;rcases h1:h.2.2.2.1[i]? with _|x;exact gm;rcases h2:h.2.2.2.2.2.1[i]? with _|v;exact gm;have o:=US g.mem h.2.1 hi;have hx:=g.rx x (aL h1);have hd:0<=F2 x/\F2 x<=n+320:=by have d:=hx.drop;unfold F2;cases hh:x.2.2.2.2.1 with|false=>simp only[af];omega|true=>have:=hx.held hh;rw[ah,ak];omega
 refine⟨o.1,gm.maps,gm.tx,gm.sN,?_,?_,tN gm.rx (aaX hi o.2.1 hd),tN gm.pool o.2.2,tN gm.vec (ai2 (g.vec v (aL h2))),gm.Er⟩;have:=g.lens;unfold tu Hc at*;simp only[az];exact this;show fI _ (((Hc h i (F2 x)).2.2.2.1).length:Int)=true;unfold Hc;simp only[az];exact g.Tx
theorem IC (hn:n<=700000000000)(g:Good n h):∀k:Nat,k<=8->Good (n+320*(k:Int)) (iQ h k)
 |0,_=>g.mono
 |k+1,hk=>(Za (by omega) (IC hn g k (by omega)) (i:=k) (by omega)).mono
theorem Qx (hn:n<=700000000000)(g:Good n h):Good (n+640) (qF h):=by have hl:=oK g.lens;unfold qF;cases eT h with|false=>exact g.mono|true=>exact(IC hn (WB g) _ (by omega)).mono (by have:=hl.1;omega)
theorem akx (hn:n<=700000000000)(g:Good n h)(a:Act):Good (n+641) (Io h a).1:=by
 unfold Io;cases !eT h|| !Gn a;case true=>exact g.mono
 simp only[af];cases a.1==0;case true=>exact(agW g _ _ _).mono
 cases a.1==1;case true=>exact(D4 g).mono
 cases a.1==2;case true=>exact Kx hn g _
 cases a.1==3;case true=>exact(Jv hn g).mono
 cases a.1==4;case true=>exact(HV g).mono
 cases a.1==5 with|true=>exact(Ky g _).mono|false=>exact(Qx hn g).mono
structure gk (n:Int) (c:cW):Prop where
 uM:(dw c.2.2.1).2=true
 len:c.1.length=c.2.2.1.length/\c.2.1.length=c.2.2.1.length
 fns:iS c.2.1 (dw c.2.2.1).1=true
 L7:¬iZ c.2.2.2.1<0
 clock:sT c.2.2.2.2.1=true
 host:∀(i:Nat)(h:Host)(b:bN),c.1[i]?=some h->c.2.2.1[i]?=some b->Good n h/\h.2.2.2.2.2.2.2.1=b.1
 place:∀i,i<c.1.length->Be c.2.1 i=true
 SS:∀b∈c.2.2.1,b.2.1<=n/\b.2.2.2<=n
 fnn:∀f∈c.2.1,f.2.2.2.2.1<=n/\f.2.2.2.2.2<=n
theorem gk.mono {m:Int}(g:gk n c)(h:n<=m:=by omega):gk m c:=⟨g.uM,g.len,g.fns,g.L7,g.clock,λi a b h1 h2=>⟨(g.host i a b h1 h2).1.mono h,(g.host i a b h1 h2).2⟩,g.place,λb hb=>⟨by have:=(g.SS b hb).1;omega,by have:=(g.SS b hb).2;omega⟩,λf hf=>⟨by have:=(g.fnn f hf).1;omega,by have:=(g.fnn f hf).2;omega⟩⟩
theorem gk.ok (g:gk n c)(hn:n<=1000000000000):jT c=true:=by
 unfold jT;rw[g.uM,g.fns,g.clock,aq g.L7];simp only[bE,bt];rw[ae,ae,aF,aF];refine⟨?_,?_,?_⟩;unfold Rj;rw[g.len.1,g.len.2];simp;intro i hi;have hi:=bG.1 hi;have hj:i<c.2.2.1.length:=by have:=g.len.1;omega
 rw[PQ i hi hj];have q:=g.host i _ _ (al hi) (al hj);rw[q.1.ok hn,Yw q.2];rfl;intro i hi;exact g.place i (bG.1 hi)
theorem Vp:∀(ms:aw bN)(s:cc×aw Port),(ms.foldl Gc s).2.length=s.2.length+ms.length
 |[],s=>rfl
 |m::ms,s=>by rw[dY,Vp ms];show(s.2++[_]).length+_=_;rw[ai,aY,aP];omega
theorem mw (h:(dw ms).2=true):(dw ms).1=mY ms/\(mY ms).length=ms.length+1/\js (mY ms)=true/\(∀m∈ms,kq m=true)/\1<=ms.length/\ms.length<=3:=by unfold dw at h⊢;cases hq:di (ms.length:Int) 1 3&&(ms.all kq&&js (mY ms))with|false=>rw[hq]at h;cases h|true=>simp only[ae,aU,aF]at hq;refine⟨rfl,?_,hq.2.2,hq.2.1,by omega,by omega⟩;unfold mY;rw[aP,Vp];simp
theorem map_take {β:Type}(f:α->β)(l:aw α)(i:Nat)(hi:i<l.length):(l.take i).map f++[f l[i]]=(l.take (i+1)).map f:=by rw[bl hi,cZ];rfl
theorem AZ (m:bN)(h:m.1.2.2.length<=10^9):mr m=some m:=by simp only[mr,oZ _ h,ab]
theorem OZ (m:bN)(h:m.1.2.2.length<=10^9):B4 m=some m:=by simp only[B4,C0 _ h,ab]
theorem IM (l:aw bN)(h:l.length<=10^9)(hx:∀m∈l,m.1.2.2.length<=10^9):tj l=some l:=by unfold tj;refine(dG (λi=>(l.take i,(i:Int))) l.length (by omega) (λi nx hi=>?_) (λnx=>?_));simp only[sA];rw[jP,bB hi,ak];simp only[ah,ab,AZ _ (hx _ (aK hi))];rw[aX (by simp;omega),<-bl hi];rfl;simp only[sA];rw[cL,cO];rfl
theorem xA (l:aw aZ)(h:l.length<=10^9):ka l=some l:=by simp only[ka,mP h,cv]
theorem abW (h:jT c=true):c.1.length=c.2.2.1.length/\c.2.1.length=c.2.2.1.length:=by unfold jT at h;simp only[ae]at h;exact H7 h.2.1
theorem WS {l:aw α}(h:k<l.length)(x:α):idx (l.set k x) (k:Int)=some x:=by rw[KK,bf h]
theorem afP (l:aw α)(k:Nat)(x:α):(l.set k x).length=l.length:=az ..
def Ao (f:Filter)(v:Int):Filter×Bool:=bif fK f&&(!hasB f.2.2 v&&fK (f.1,f.2.1,ins v f.2.2)) then((f.1,f.2.1,ins v f.2.2),true) else(f,false)
theorem Zv (f:Filter)(v:Int)(h:f.2.2.length<=100000000):Bx f v=some (Ao f v):=by have hi:=W5 v f.2.2;simp only[Bx,oZ f (by omega),sZ f (by omega),Bu f.2.2 v (by omega),WV f.2.2 v (by omega),sZ (f.1,f.2.1,ins v f.2.2) (show(ins v f.2.2).length<=10^9 by omega),ab,Ao];cases fK f<;>cases hasB f.2.2 v<;>cases fK (f.1,f.2.1,ins v f.2.2)<;>rfl
theorem VL (f:Filter)(v:Int){n:Nat}(h:f.2.2.length<=n)(hn:8<=n):(Ao f v).1.2.2.length<=n:=by unfold Ao;cases hc:fK f&&(!hasB f.2.2 v&&fK (f.1,f.2.1,ins v f.2.2))with|false=>exact h|true=>simp only[ae]at hc;have:=hc.2.2;simp only[fK,ae,aJ]at this;show(ins v f.2.2).length<=n;omega
def wS (f:Filter)(v:Int):Filter×Bool:=bif fK f&&hasB f.2.2 v then((f.1,f.2.1,f.2.2.filter (λx=>x !=v)),true) else(f,false)
theorem YE (p:Int->Bool)(l:cc)(i:Nat)(hi:i<l.length):(l.take (i+1)).filter p=bif p l[i] then(l.take i).filter p++[l[i]] else(l.take i).filter p:=by rw[bl hi,List.filter_append];cases hp:p l[i]<;>simp[hp]
theorem OM (p:Int->Bool)(l:cc)(i:Nat):((l.take i).filter p).length<=l.length:=bq (List.length_filter_le _ _) (by simp;omega)
theorem WY (f:Filter)(v:Int)(h:f.2.2.length<=10^9):zI f v=some (wS f v):=by simp only[zI,oZ f h,sZ f h,Bu f.2.2 v h,ab,wS];cases fK f;rfl;cases hasB f.2.2 v;rfl;simp only[aj,af,ab,cq,ah];refine(dG (λi=>((i:Int),f.1,f.2.1,(f.2.2.take i).filter (λx=>x !=v))) f.2.2.length (by omega) (λi nx hi=>?_) (λnx=>?_));have hl:=OM (λx=>x !=v) f.2.2 i;simp only[tW];rw[jP,bB hi,ak,YE _ _ i hi];simp only[ah,ab];rw[aX (by simp only[aY];omega)];cases f.2.2[i] !=v<;>rfl;simp only[tW];rw[cL,cO];rfl
def nB (f:Filter)(m:uW):Filter×Int:=
 bif m.2.1==1 then(bif fK (m.2.2,f.2) then((m.2.2,f.2),1) else(f,0))
 else bif m.2.1==2 then(bif (Ao f m.2.2).2 then((Ao f m.2.2).1,1) else(f,0))
 else bif m.2.1==3 then(bif (wS f m.2.2).2 then((wS f m.2.2).1,1) else(f,0))
 else bif m.2.1==4 then(f,f.1) else(f,0)
theorem Zy (f:Filter)(m:uW)(h:f.2.2.length<=100000000):BF f m=some (nB f m):=by simp only[BF,oZ f (by omega),sZ (m.2.2,f.2) (show f.2.2.length<=10^9 by omega),Zv f _ h,WY f _ (show f.2.2.length<=10^9 by omega),ab,nB];cases m.2.1==1<;>cases m.2.1==2<;>cases m.2.1==3<;>cases m.2.1==4<;>cases fK (m.2.2,f.2)<;>cases (Ao f m.2.2).2<;>cases (wS f m.2.2).2<;>rfl
theorem VY (f:Filter)(m:uW){n:Nat}(h:f.2.2.length<=n)(hn:8<=n):(nB f m).1.2.2.length<=n:=by
 have ha:=VL f m.2.2 h hn;have hd:(wS f m.2.2).1.2.2.length<=n:=by unfold wS;cases fK f&&hasB f.2.2 m.2.2 with|false=>exact h|true=>exact bq (List.length_filter_le _ _) h
 unfold nB;cases m.2.1==1<;>cases m.2.1==2<;>cases m.2.1==3<;>cases m.2.1==4<;>cases fK (m.2.2,f.2)<;>cases (Ao f m.2.2).2<;>cases (wS f m.2.2).2<;>first|exact h|exact ha|exact hd
def nH (b:bN)(m:uW):bN×Int:=
 bif kq b then(bif m.1==b.2.1 then(b,b.2.2.1) else bif m.1==b.2.1+1 then(((nB b.1 m).1,m.1,(nB b.1 m).2,b.2.2.2+1),(nB b.1 m).2) else(b, -1)) else(b, -1)
theorem aaf (h:kq b=true):0<=b.2.1/\b.2.1<=1000000000000/\0<=b.2.2.2/\b.2.2.2<=1000000000000:=by simp only[kq,ae,aU]at h;omega
theorem adf (b:bN)(m:uW)(h:b.1.2.2.length<=100000000):qn b m=some (nH b m):=by simp only[qn,AZ b (by omega),ZD b (by omega),Zy b.1 m h,ab,nH,bne];cases hm:kq b with|false=>rfl|true=>have uX:=aaf hm;rw[ak (n:=b.2.1+1),ak (n:=b.2.2.2+1)];cases m.1==b.2.1<;>cases m.1==b.2.1+1<;>rfl
def oT (ms:aw bN)(k:Nat)(m:uW):aw bN×Int:=
 match ms[k]? with
 |none=>(ms, -1)
 |some b=>bif (dw (ms.set k (nH b m).1)).2 then(ms.set k (nH b m).1,(nH b m).2)
  else(ms.set k (b.1,m.1,0,ar (b.2.2.2+1)),0)
theorem NH (b:bN)(m:uW){n:Nat}(h:b.1.2.2.length<=n)(hn:8<=n):(nH b m).1.1.2.2.length<=n:=by have:=VY b.1 m h hn;unfold nH;cases kq b<;>cases m.1==b.2.1<;>cases m.1==b.2.1+1<;>first|exact h|exact this
theorem JK {l:aw α}{x y:α}(h:y∈l.set k x):y∈l\/y=x:=cK h
theorem Mr (ms:aw bN)(k:Nat)(m:uW)(hk:k<ms.length)(hl:ms.length<=10^9)(h:∀b∈ms,b.1.2.2.length<=100000000):sy ms (k:Int) m=some (oT ms k m):=by
 have hb:=h _ (aK hk);have hp:∀b∈ms.set k (nH ms[k] m).1,b.1.2.2.length<=10^9:=by intro b iy;rcases JK iy with h1|rfl;have:=h b h1;omega;have:=NH ms[k] m hb (by omega);omega
 unfold sy oT;simp only[IM ms hl (λb hb=>by have:=h b hb;omega),bB hk,adf _ m hb,ab,al hk,au,DF _ hp,AZ ms[k] (by omega)];have hs:∀x:bN,k<(ms.set k x).length:=λx=>by rw[afP];exact hk
 simp only[WS hk,ab,List.set_set];cases (dw (ms.set k (nH ms[k] m).1)).2<;>rfl
theorem SR (ms:aw bN)(k:Nat)(m:uW):(oT ms k m).1.length=ms.length:=by unfold oT;split;rfl;rename_i b _;cases (dw (ms.set k (nH b m).1)).2<;>exact afP ..
theorem abQ (ms:aw bN)(k:Nat)(m:uW){n:Nat}(hn:8<=n)(h:∀b∈ms,b.1.2.2.length<=n):∀b∈(oT ms k m).1,b.1.2.2.length<=n:=by
 intro b hb;unfold oT at hb;split at hb;exact h b hb;rename_i b0 WE;have h0:=h b0 (aL WE);cases hp:(dw (ms.set k (nH b0 m).1)).2 with
 |true=>rw[hp]at hb;rcases JK hb with h1|rfl;exact h b h1;exact NH b0 m h0 hn
 |false=>rw[hp]at hb;rcases JK hb with h1|rfl;exact h b h1;exact h0
theorem nJ (c:cW)(z:dC 1000000000 uZ c):jv c=some c:=by have h0:c.1.length<=10^9:=z.1.1;unfold jv;simp only[xA _ z.2.1.1,IM _ z.2.2.1.1 (λm hm=>(z.2.2.1.2 m hm).1.2.2.1),mM,nm _ z.2.2.2.1.1,md _ z.2.2.2.2.2.1.1,nm _ z.2.2.2.2.2.2.1,ab];refine(dG (λi=>((i:Int),c.1.take i,c.2)) c.1.length (by omega) (λi nx hi=>?_) (λnx=>?_));simp only[uv];rw[jP,bB hi,ak];simp only[ah,ab,kA _ (z.1.2 _ (aK hi))];rw[aX (by simp;omega),<-bl hi];rfl;simp only[uv];rw[cL,cO];rfl
def tJ (h:Host)(f:Filter):Host:=(h.1,h.2.1,h.2.2.1,h.2.2.2.1,h.2.2.2.2.1,h.2.2.2.2.2.1,h.2.2.2.2.2.2.1,f,h.2.2.2.2.2.2.2.2)
def tO (c:cW)(a:Int)(m:uW):cW×Int:=
 bif jT c&&di a 0 ((c.2.2.1.length:Int)-1) then
  (match c.1[a.toNat]?,(oT c.2.2.1 a.toNat m).1[a.toNat]? with
  |some h,some b=>((c.1.set a.toNat (tJ h b.1),c.2.1,(oT c.2.2.1 a.toNat m).1,c.2.2.2),(oT c.2.2.1 a.toNat m).2)
  |_,_=>(c, -1))
 else(c, -1)
theorem F8 (c:cW)(a:Int)(m:uW)(z:dC 100000000 uZ c)(k:abB c):ql c a m=some (tO c a m):=by
 have z9:dC 1000000000 uZ c:=z.mono;have hl:c.2.2.1.length<=100000000:=z.2.2.1.1;unfold ql tO;simp only[nJ c z9,xz c k,cx,ab,bQ];rw[ak (n:=(c.2.2.1.length:Int)-1)];cases hc:jT c;rfl;cases ha:di a 0 ((c.2.2.1.length:Int)-1);rfl;have hL:=abW hc;have uX:=aU.1 ha;obtain⟨n,rfl⟩:=aD uX.1;have hn:n<c.2.2.1.length:=by omega
 have J4:n<c.1.length:=by omega
 have hb:=Mr c.2.2.1 n m hn (by omega) (λb hb=>(z.2.2.1.2 b hb).1.2.2.1);have hbl:=SR c.2.2.1 n m;have HX:=abQ c.2.2.1 n m (n:=100000000) (by omega) (λb hb=>(z.2.2.1.2 b hb).1.2.2.1);have EA:n<(oT c.2.2.1 n m).1.length:=by omega
 have:=HX _ (aK EA);simp only[aj,af,cq,ah,hb,ab,bB EA,bB J4,oZ (oT c.2.2.1 n m).1[n].1 (by omega),au,al J4,al EA];rfl
structure Dj (ps:List Port):Prop where
 n:ps.length<=10^9
 v:∀p∈ps,p.2.1.length<=10^9
def akw (ps:aw Port)(e:Int)(p:aN):Bool:=js ps&&(dS p&&di e 0 ((ps.length:Int)-1))
def aeH (x:Port)(p:aN):Int:=bif p.2.2.1== -1 then x.2.2.1 else p.2.2.1
def oW (ps:aw Port)(e:Int)(p:aN):Int:=
 bif !akw ps e p then-1 else
 bif !hasB (ps.getD e.toNat ng).2.1 (aeH (ps.getD e.toNat ng) p)||((e !=0)&&((ps.getD e.toNat ng).2.2.2&&((ps.getD e.toNat ng).1 !=p.2.1))) then-1 else aeH (ps.getD e.toNat ng) p
theorem JB (ps:aw Port)(e:Int)(p:aN)(z:Dj ps):pe ps e p=some (oW ps e p):=by
 have hn:=z.n;unfold pe oW akw;rw[H4 ps hn z.v,ab];cases hp:js ps;rfl;rw[nn,ab];cases hs:dS p;rfl;rw[ak (n:=(ps.length:Int)-1),cx];cases he:di e 0 ((ps.length:Int)-1);rfl;have h1:=aU.1 he;obtain⟨e,rfl⟩:=aD h1.1;have hl:e<ps.length:=by omega
 have hv:=z.v _ (aK hl);simp only[aj,af,ab,cq,bB hl,au,cB hl,Bu _ _ hv,aeH];cases p.2.2.1== -1<;>simp only[ah,af]<;>cases hasB ps[e].2.1 p.2.2.1<;>cases hasB ps[e].2.1 ps[e].2.2.1<;>cases (e:Int) !=0<;>cases ps[e].2.2.2<;>cases ps[e].1 !=p.2.1<;>rfl
def JH (ps:aw Port)(o v:Int)(p:aN):aN:=
 bif js ps&&(di o 0 ((ps.length:Int)-1)&&(hasB (ps.getD o.toNat ng).2.1 v&&dS p)) then
  (bif v==(ps.getD o.toNat ng).2.2.1 then(p.1,p.2.1, -1,p.2.2.2) else(p.1,p.2.1,v,p.2.2.2)) else pk0
theorem ahi (ps:aw Port)(o v:Int)(p:aN)(z:Dj ps):ub ps o v p=some (JH ps o v p):=by
 have hn:=z.n;unfold ub JH;rw[H4 ps hn z.v,ab];cases hp:js ps;rfl;rw[ak (n:=(ps.length:Int)-1),cx];cases he:di o 0 ((ps.length:Int)-1);rfl;have h1:=aU.1 he;obtain⟨o,rfl⟩:=aD h1.1;have hl:o<ps.length:=by omega
 have hv:=z.v _ (aK hl);simp only[aj,af,ab,bt,bB hl,au,cB hl,Bu _ _ hv,nn];cases hasB ps[o].2.1 v<;>cases dS p<;>cases v==ps[o].2.2.1<;>rfl
def Rc (ps:aw Port)(e v:Int)(j:Nat):Bool:=((j:Int) !=e)&&hasB (ps.getD j ng).2.1 v
def qQ (l:fM):cc:=l.map Int.ofNat
def bcB (p:aN):Bool:=p.1==281474976710655
theorem YD {q:Nat->Bool}(l:fM)(i:Nat)(hi:i<l.length):(l.take (i+1)).filter q=bif q l[i] then(l.take i).filter q++[l[i]] else(l.take i).filter q:=by rw[bl hi,List.filter_append];cases hq:q l[i]<;>simp[hq]
theorem acN {q:Nat->Bool}(l:fM)(i:Nat):((l.take i).filter q).length<=l.length:=bq (List.length_filter_le _ _) (by simp;omega)
theorem Q1 (ps:aw Port)(e v:Int)(l:fM)(hl:l.length<=10^9)(hb:∀j∈l,j<ps.length)(z:Dj ps): bj (ig (λ(y7:cc) (y8:Int)=>some y7) ps e v (qQ l) ((qQ l).length:Int)) fuel (([]:cc),0)=some (qQ (l.filter (Rc ps e v))):=by
 refine dG (λi=>(qQ ((l.take i).filter (Rc ps e v)),(i:Int))) l.length (by omega) (λi nx hi=>?_) (λnx=>?_);have hj:=hb _ (aK hi);have hv:=z.v _ (aK hj);have hi2:i<(qQ l).length:=by simpa[qQ]using hi
 have e1:(qQ l)[i]'hi2=(l[i]:Int):=by simp[qQ]
 have hf:=acN (q:=Rc ps e v) l i;simp only[ig];rw[ax (by simpa[qQ]using hi),bB hi2,e1,ak];simp only[ah,ab,bB hj,Bu _ _ hv];rw[YD l i hi,Rc,cB hj];have hr:∀k:aB cc,room (List.length (qQ ((l.take i).filter (Rc ps e v)))+List.length ([(l[i]:Int)])) k=k:=λk=>aX (by simp only[qQ,bF,aY];omega);cases (l[i]:Int) !=e with|false=>rfl|true=>cases hasB ps[l[i]].2.1 v with|false=>rfl|true=>simp only[ah,ab,cq];rw[hr];simp[qQ]
 simp only[ig];rw[aq (by simp[qQ]),cO];rfl
def KD (ps:aw Port)(p:aN):Nat->Nat
 |0=>0
 |i+1=>bif (ps.getD (i+1) ng).1==p.1 then i+1 else KD ps p i
def DW (ps:aw Port)(e:Int)(p:aN):fM:=
 (range ps.length).filter λj=>Rc ps e (oW ps e p) j&&((j==KD ps p (ps.length-1))||bcB p)
def Po (ps:aw Port)(e:Int)(p:aN):cc:=bif decide (oW ps e p<0) then [] else qQ (DW ps e p)
theorem T8 (q:Nat->Bool):∀l:fM,(E8 q l= -1/\∀j∈l,q j=false)\/∃j∈l,q j=true/\E8 q l=(j:Int)
 |[]=> .inl ⟨rfl,by simp⟩
 |j::l=>by rw[E8];cases hj:q j with|true=>exact .inr ⟨j,by simp,hj,rfl⟩|false=>simp only[af];rcases T8 q l with⟨h1,h2⟩|⟨k,h1,h2,h3⟩;exact .inl ⟨h1,by intro k hk;rcases bU.1 hk with rfl|hk;exact hj;exact h2 k hk⟩;exact .inr ⟨k,by simp[h1],h2,h3⟩
theorem QL:∀i,(∀j,1<=j->j<=i->((ps.getD j ng).1==p.1)=false)->KD ps p i=0
 |0,_=>rfl
 |i+1,h=>by rw[KD,h (i+1) (by omega) (by omega)];exact QL i λj h1 h2=>h j h1 (by omega)
theorem Uk (hk:1<=k)(h:((ps.getD k ng).1==p.1)=true):∀i,k<=i->(∀j,1<=j->j<=i->((ps.getD j ng).1==p.1)=true->j=k)->KD ps p i=k
 |0,hi,_=>by omega
 |i+1,hi,hu=>by rw[KD];by_cases he:k=i+1;rw[<-he,h];rfl;cases hq:(ps.getD (i+1) ng).1==p.1 with|true=>have:=hu (i+1) (by omega) (by omega) hq;omega|false=>exact Uk hk h i (by omega) λj h1 h2=>hu j h1 (by omega)
theorem afy (hp:js ps=true){j:Nat}(h1:1<=i)(hij:i<j)(hj:j<ps.length):((ps.getD i ng).1==(ps.getD j ng).1)=false:=by simp only[js,ae,aF,bG,Lo,aO]at hp;have:=(hp.2 j hj).2 i hij;simp only[Bool.and_eq_false_iff,bne_eq_false_iff_eq]at this;rcases this with h|h;omega;exact h
theorem filter_one {q:Nat->Bool}{n:Nat}(hk:k<n):(range n).filter (λj=>q j&&(j==k))=[k].filter q:=by
 have h1:(range n).filter (λj=>j==k)=[k]:=by
  induction n with
  |zero=>omega
  |succ n ih=>
   rw[iz,List.filter_append];by_cases he:k=n;subst he;have:(range k).filter (λj=>j==k)=[]:=by rw[List.filter_eq_nil_iff];intro j hj;have:=bG.1 hj;simp;omega
   rw[this];simp;rw[ih (by omega)];have:([n]:fM).filter (λj=>j==k)=[]:=by simp;omega
   rw[this];rfl
 have h2:(λj=>q j&&(j==k))=λj=>q j&&(λj=>j==k) j:=rfl;rw[h2,<-List.filter_filter,h1]
theorem GZ (ps:aw Port)(e:Int)(p:aN)(z:Dj ps):nQ ps e p=some (Po ps e p):=by
 have hn:=z.n;unfold nQ Po;rw[JB ps e p z,ab];cases hd:decide (oW ps e p<0);case true=>rfl
 have hp:js ps=true:=by cases hp:js ps with|true=>rfl|false=>unfold oW akw at hd;rw[hp]at hd;simp at hd
 have h1:1<=ps.length/\ps.length<=8:=by simp only[js,ae,aU]at hp;omega
 have axq:∀j,j<ps.length->(ps.getD j ng).1<=281474976710654:=by intro j hj;simp only[js,ae,aF,bG,Lo,Ph,fK,aU]at hp;exact(hp.2 j hj).1.1.2.1.2
 simp only[af,ZM ps p.1 hn,ab];generalize hv:oW ps e p=v;have hsw:DW ps e p=(range ps.length).filter λj=>Rc ps e v j&&((j==KD ps p (ps.length-1))||bcB p):=by rw[DW,hv]
 rw[hsw];have ap3:bcB p=true->∀j,j<ps.length->((ps.getD j ng).1==p.1)=false:=by
  intro hb j hj;have:=axq j hj;have hb:p.1=281474976710655:=by simpa[bcB]using hb
  rw[hb,bM];omega
 rcases T8 (λj=>(j !=0)&&((ps.getD j ng).1==p.1)) (List.range' 0 ps.length)with⟨hf,H0⟩|⟨k,hk,hq,hf⟩;have H0:∀j,1<=j->j<ps.length->((ps.getD j ng).1==p.1)=false:=by intro j h2 h3;have:=H0 j (by simp;omega);simp only[Bool.and_eq_false_iff,bne_eq_false_iff_eq]at this;rcases this with h|h;omega;exact h
 have hh:KD ps p (ps.length-1)=0:=QL _ λj h2 h3=>H0 j h2 (by omega);rw[hf,show decide ((-1:Int)>=0)=false from rfl,af,hh];rw[show(p.1==281474976710655)=bcB p from rfl];cases hb:bcB p with|true=>simp only[ah,jd,gQ];refine dG (λi=>(qQ (range i),(i:Int))) ps.length (by omega) (λi nx hi=>?_) (λnx=>?_);simp only[mU];rw[jP,aX (by simp only[qQ,bF,List.length_range,aY];omega),ak,iz];simp only[ah,qQ,cZ];rfl;simp only[mU];rw[cL,af];exact Q1 ps e v (range ps.length) (by simp;omega) (λj hj=>bG.1 hj) z|false=>simp only[af,Bool.or_false];rw[filter_one (by omega)];exact Q1 ps e v [0] (by simp) (by simp;omega) z
 have S6:k<ps.length:=by simp at hk;omega
 simp only[ae,bne_iff_ne]at hq;have hb:bcB p=false:=by cases hb:bcB p with|false=>rfl|true=>rw[ap3 hb k S6]at hq;cases hq.2
 have hh:KD ps p (ps.length-1)=k:=Uk (by omega) hq.2 _ (by omega) λj h2 h3 h4=>by rcases Nat.lt_trichotomy j k with g|g|g;have:=afy hp h2 g S6;have a:=bn.1 h4;have b:=bn.1 hq.2;rw[a,b]at this;simp at this;exact g;have:=afy hp (show 1<=k by omega) g (show j<ps.length by omega);have a:=bn.1 h4;have b:=bn.1 hq.2;rw[a,b]at this;simp at this
 rw[hf,jP,ah,hh,hb];simp only[Bool.or_false];rw[filter_one S6];exact Q1 ps e v [k] (by simp) (by simp;omega) z
theorem abk {e:Int}:∀j∈DW ps e p,j<ps.length:=λj hj=>bG.1 (List.mem_filter.1 hj).1
theorem DX (ps:aw Port)(e:Int)(p:aN):(DW ps e p).length<=ps.length:=bq (List.length_filter_le _ _) (by simp)
theorem afG (ms:aw bN):Dj (dw ms).1:=⟨(MX ms).1,(MX ms).2⟩
structure Bn (n:Nat) (c:cW):Prop where
 z:dC n uZ c
 h:∀x∈c.1,zC n x
theorem Bn.mono {n m:Nat}(k:Bn n c)(hn:n<=m:=by omega):Bn m c:=⟨k.z.mono hn,λx hx=>(k.h x hx).mono hn⟩
theorem Bn.sz {n:Nat}(k:Bn n c)(hn:n<=10^9:=by omega):abB c:=by have z:dC 1000000000 uZ c:=k.z.mono hn;exact⟨z.1.1,z.2.1.1,λm hm=>(z.2.2.1.2 m hm).1.2.2.1,λx hx=>(k.h x hx).sz hn⟩
theorem Bn.of (k:TC uZ c<=1048576):Bn 1048576 c:=by
 refine⟨LO k,λh hh=>zC.of ?_⟩;have h1:=JL (TC dT) c.1 h hh;have h2:(c.1.map (TC dT)).sum<=TC uZ c:=by show _<=(c.1.length+(c.1.map (TC dT)).sum)+_;omega
 omega
theorem Jn (h:jT c=true):(dw c.2.2.1).1.length=c.1.length+1/\(dw c.2.2.1).1.length<=8/\c.1.length<=3:=by unfold jT at h;simp only[ae]at h;have hl:=(H7 h.2.1).1;have h2:=h.1;have h3:=N3 h2;unfold dw at h2⊢;cases hc:di (c.2.2.1.length:Int) 1 3&&(c.2.2.1.all kq&&js (mY c.2.2.1))with|false=>rw[hc]at h2;cases h2|true=>simp only[ae]at hc;have:=(Kt c.2.2.1 0 ([0],[]) ⟨by simp,rfl,by simp⟩ hc.2.1).2.1;have h8:=hc.2.2;simp only[js,ae,aU]at h8;simp only[ah];refine⟨?_,by omega,by omega⟩;simp only[mY,aP];rw[this,hl];omega
def amY (c:cW)(f:Bytes):cW:=(c.1,c.2.1,c.2.2.1,c.2.2.2.1,c.2.2.2.2.1,c.2.2.2.2.2.1,c.2.2.2.2.2.2++[f])
def R3 (c:cW)(k:Nat)(h:Host):cW:=(c.1.set k h,c.2)
def dp (ps:aw Port)(v:Int)(p:aN)(c:cW)(j:Nat):cW:=
 bif j==0 then amY c (xw (JH ps (j:Int) v p)).1 else
 match c.1[j-1]? with
 |some h=>R3 c (j-1) (kS h (xw (JH ps (j:Int) v p)).1)
 |none=>c
theorem Ly {n:Nat}(z:Bn n c)(zh:zC n h):Bn n (R3 c k h):=by refine⟨⟨nT z.z.1 zh.z,z.z.2⟩,λx hx=>?_⟩;rcases cK hx with g|g;exact z.h x g;rw[g];exact zh
theorem amZ {n:Nat}{f:Bytes}(z:Bn n c)(hf:f.length<=n):Bn (n+1) (amY c f):=by have z':=z.mono (show n<=n+1 by omega);refine⟨⟨z'.z.1,z'.z.2.1,z'.z.2.2.1,z'.z.2.2.2.1,z'.z.2.2.2.2.1,z'.z.2.2.2.2.2.1,?_⟩,z'.h⟩;exact EH (t:=.str) (k:=1) z.z.2.2.2.2.2.2 (λy hy=>by rw[br.1 hy];exact hf) (by simp)
theorem amh {n:Nat}(hn:1000<=n){v:Int}{j:Nat}(z:Bn n c):Bn (n+1) (dp ps v p c j)/\(dp ps v p c j).1.length=c.1.length:=by have hf:=HS (JH ps (j:Int) v p);unfold dp;cases j==0 with|true=>exact⟨amZ z (by omega),rfl⟩|false=>simp only[af];cases hx:c.1[j-1]? with|none=>exact⟨z.mono,rfl⟩|some h=>have hr:=Hk hn (xw (JH ps (j:Int) v p)).1 (z.h h (aL hx));exact⟨(Ly z hr.1).mono,az ..⟩
def M8 (ps:aw Port)(v:Int)(p:aN)(c:cW)(l:fM):cW:=l.foldl (dp ps v p) c
theorem Xy {ps:aw Port}{v:Int}{p:aN}:∀(l:fM){c:cW}{n:Nat},1000<=n->Bn n c->Bn (n+l.length) (M8 ps v p c l)/\(M8 ps v p c l).1.length=c.1.length
 |[],c,n,_,z=>⟨z,rfl⟩
 |j::l,c,n,hn,z=>by have h1:=amh (ps:=ps) (v:=v) (p:=p) (j:=j) hn z;have:=Xy (ps:=ps) (v:=v) (p:=p) l (show 1000<=n+1 by omega) h1.1;exact⟨this.1.mono (by simp only[aP];omega),this.2.trans h1.2⟩
theorem aix (ps:aw Port)(v:Int)(p:aN)(c:cW)(l:fM)(i:Nat)(hi:i<l.length):M8 ps v p c (l.take (i+1))=dp ps v p (M8 ps v p c (l.take i)) l[i]:=by rw[bl hi,M8,List.foldl_append];rfl
theorem NM (K:cW->aB R)(ps:aw Port)(v:Int)(p:aN)(c B:cW)(l:fM)(hl:l.length<=8)(hj:∀j∈l,j<=c.1.length)(z:Bn 800000000 c)(zp:Dj ps): bj (mG (λ(_:Int) (Gl:cW)=>K Gl) ps v (qQ l) ((qQ l).length:Int) p B) fuel (0,c)=K (M8 ps v p c l):=by
 refine dG (λi=>((i:Int),M8 ps v p c (l.take i))) l.length (by omega) (λi nx hi=>?_) (λnx=>?_);have hi2:i<(qQ l).length:=by simpa[qQ]using hi
 have e1:(qQ l)[i]'hi2=(l[i]:Int):=by simp[qQ]
 have hz:=Xy (ps:=ps) (v:=v) (p:=p) (l.take i) (by omega) z;have hzz:=hz.1.mono (show 800000000+(l.take i).length<=900000000 by rw[aV];omega);have hji:=hj _ (aK hi);have jZ:=HS (JH ps (l[i]:Int) v p);rw[aix ps v p c l i hi];have hn:=hz.2;generalize M8 ps v p c (l.take i)=W at hn hzz⊢;have hw:W.2.2.2.2.2.2.length<=900000000:=hzz.z.2.2.2.2.2.2.1;simp only[mG];rw[ax (by simpa[qQ]using hi),bB hi2,e1,ak (n:=(i:Int)+1)];simp only[ah,ab,ahi ps _ v p zp,Us,dp];have hcl:c.1.length<=800000000:=z.z.1.1;by_cases h0:l[i]=0;rw[show((l[i]:Int)==0)=true from by simp[h0],show(l[i]==0)=true from by simp[h0]];simp only[ah];rw[aX (by simp only[aY];omega)];rfl;rw[show((l[i]:Int)==0)=false from by simp[h0],show(l[i]==0)=false from by simp[h0]];have hk:l[i]-1<W.1.length:=by omega
 rw[ak (n:=(l[i]:Int)-1),show(l[i]:Int)-1=((l[i]-1:Nat):Int) by omega];simp only[af,bB hk,ab,KT _ _ (hzz.h _ (aK hk)) (bq jZ (by omega)),au,al hk];rfl;simp only[mG];rw[aq (by simp[qQ]),af,cO]
def od (c:cW)(e:Int)(p:aN):cW:=
 bif decide (oW (dw c.2.2.1).1 e p<0) then c else M8 (dw c.2.2.1).1 (oW (dw c.2.2.1).1 e p) p c (DW (dw c.2.2.1).1 e p)
def qM (c:cW)(e:Int)(p:aN):cW:=bif jT c&&eY p then od c e p else c
theorem GW (c:cW)(e:Int)(p:aN)(k:Bn 800000000 c):nq c e p=some (qM c e p):=by have z9:dC 1000000000 uZ c:=k.z.mono;unfold nq qM;simp only[nJ c z9,xz c (k.sz),yT,ab];cases h:jT c;rfl;cases eY p;rfl;have hn:=Jn h;have zp:=afG c.2.2.1;unfold od;simp only[aj,af,ab,cq,ah,DF _ (λm hm=>(z9.2.2.1.2 m hm).1.2.2.1),JB _ e p zp,GZ _ e p zp];generalize (dw c.2.2.1).1=ps at hn zp⊢;unfold Po;cases decide (oW ps e p<0)with|true=>exact NM (λc=>some c) ps (oW ps e p) p c _ [] (by simp) (by simp) k zp|false=>exact NM (λc=>some c) ps (oW ps e p) p c _ (DW ps e p) (by have:=DX ps e p;omega) (λj hj=>by have:=abk j hj;omega) k zp
theorem Oj {n:Nat}(hn:1000<=n){e:Int}(z:Bn n c)(h:jT c=true):Bn (n+8) (od c e p)/\(od c e p).1.length=c.1.length:=by have h3:=Jn h;unfold od;generalize (dw c.2.2.1).1=ps at h3⊢;cases decide (oW ps e p<0)with|true=>exact⟨z.mono,rfl⟩|false=>have h8:=DX ps e p;have:=Xy (ps:=ps) (v:=oW ps e p) (p:=p) (DW ps e p) hn z;exact⟨this.1.mono,this.2⟩
def FE (c:cW):cW:=(c.1,c.2.1,c.2.2.1,c.2.2.2.1,c.2.2.2.2.1,c.2.2.2.2.2.1++[c.2.2.2.2.1.1],c.2.2.2.2.2.2)
def pK (c:cW)(x:Bytes):cW:=bif !jT c then c else bif (gn x).2==0 then od (FE c) 0 (gn x).1 else FE c
theorem Vl {n:Nat}(z:Bn n c):Bn (n+1) (FE c):=by have z':=z.mono (show n<=n+1 by omega);refine⟨⟨z'.z.1,z'.z.2.1,z'.z.2.2.1,z'.z.2.2.2.1,z'.z.2.2.2.2.1,?_,z'.z.2.2.2.2.2.2⟩,z'.h⟩;exact EH (t:=.int .i64) (k:=1) z.z.2.2.2.2.2.1 (λ_ _=>trivial) (by simp)
theorem Xt (h:((gn x).2==0)=true):eY (gn x).1=true:=by
 unfold gn at h⊢;simp only at h⊢;cases h1:(AP x).2 with|false=>rw[h1]at h;cases h|true=>?_
 rw[h1]at h;simp only[aj,af]at h⊢;cases h2:(kR (AP x).1).2 !=0 with|true=>rw[h2]at h;simp only[bne,ah]at h h2;rw[h]at h2;cases h2|false=>rw[h2]at h;simp only[af]at h⊢;cases h3:eY (kR (AP x).1).1 with|false=>rw[h3]at h;cases h|true=>exact h3
theorem F9 (c:cW)(x:Bytes)(k:Bn 700000000 c)(hx:x.length<=10^9:=by omega):tV c x=some (pK c x):=by have hl:c.2.2.2.2.2.1.length<=700000000:=k.z.2.2.2.2.2.1.1;have ks:=(Vl k).mono (show 700000000+1<=800000000 by omega);unfold tV pK;rw[nJ c (k.z.mono),ab,xz c (k.sz),ab];cases h:jT c;rfl;have hs:jT (FE c)=true:=h;simp only[aj,af];rw[aX (by rw[aY];omega),Mv x hx,ab];have hp:=Xt (x:=x);generalize gn x=f at hp⊢;cases hf:f.2==0;rfl;have e:=GW (FE c) 0 f.1 ks;unfold qM at e;rw[hs,hp hf]at e;simp only[cq,ah]at e⊢;rw[show nq (c.1,c.2.1,c.2.2.1,c.2.2.2.1,c.2.2.2.2.1,c.2.2.2.2.2.1++[c.2.2.2.2.1.1],c.2.2.2.2.2.2) 0 f.1=_ from e,ab]
theorem aaO {n:Nat}(hn:1000<=n)(x:Bytes)(z:Bn n c):Bn (n+9) (pK c x)/\(pK c x).1.length=c.1.length:=by unfold pK;cases h:jT c;exact⟨z.mono,rfl⟩;have zs:=Vl z;simp only[aj,af];cases (gn x).2==0 with|true=>have:=Oj (show 1000<=n+1 by omega) (e:=0) (p:=(gn x).1) zs (show jT (FE c)=true from h);exact⟨this.1,this.2⟩|false=>exact⟨zs.mono,rfl⟩
theorem aeD {n:Nat}(hn:1000<=n)(e:Int)(p:aN)(z:Bn n c):Bn (n+8) (qM c e p)/\(qM c e p).1.length=c.1.length:=by unfold qM;cases h:jT c;exact⟨z.mono,rfl⟩;cases eY p with|false=>exact⟨z.mono,rfl⟩|true=>exact Oj hn z h
theorem YX (g:Good n h){f:Filter}(hf:fK f=true):Good n (tJ h f):=⟨g.mem,g.maps,g.tx,hf,g.lens,g.Tx,g.rx,g.pool,g.vec,g.Er⟩
def ate (s:cc×aw Port)(f:Filter):cc×aw Port:=(f.2.2.foldl yM s.1,s.2++[(f.1,f.2.2.foldl yM [0],0,true)])
theorem Si (ms:aw bN)(s:cc×aw Port):ms.foldl Gc s=(ms.map (·.1)).foldl ate s:=by rw[List.foldl_map];rfl
theorem aaD {ns:aw bN}(h:ms.map (·.1)=ns.map (·.1)):mY ms=mY ns:=by unfold mY;rw[Si,Si,h]
theorem aof {b':bN}(hk:ms[k]?=some b)(h:b'.1=b.1):(ms.set k b').map (·.1)=ms.map (·.1):=by obtain⟨hG,e⟩:=ay.1 hk;rw[List.map_set,h,<-e,<-List.getElem_map (f:=λx:bN=>x.1) (h:=by rw[bF];exact hG),List.set_getElem_self]
theorem aea (h:(dw ms).2=true){b':bN}(hk:ms[k]?=some b)(hf:b'.1=b.1)(hm:kq b'=true):(dw (ms.set k b')).2=true:=by
 have p:=mw h;unfold dw;rw[aaD (aof hk hf),az,p.2.2.1,aU.2 ⟨by omega,by omega⟩];have:(ms.set k b').all kq=true:=by rw[aF];intro x hx;rcases cK hx with g|g;exact p.2.2.2.1 x g;rw[g];exact hm
 rw[this];rfl
theorem abR (h:(dw ms).2=true)(hk:ms[k]?=some b){m:uW}(hm:m.1=b.2.1+1)(hn:b.2.1<=n/\b.2.2.2<=n)(EA:n<=100000000000):∃b',oT ms k m=(ms.set k b',b'.2.2.1)/\b'.2.1=m.1/\b'.2.2.2=b.2.2.2+1/\(dw (ms.set k b')).2=true:=by
 have p:=mw h;have hb:kq b=true:=p.2.2.2.1 b (aL hk);have hi:=aaf hb;have hh:nH b m=(((nB b.1 m).1,m.1,(nB b.1 m).2,b.2.2.2+1),(nB b.1 m).2):=by unfold nH;rw[hb,ah,show(m.1==b.2.1)=false from by rw[bM];omega,af,show(m.1==b.2.1+1)=true from by rw[bn];exact hm,ah]
 unfold oT;rw[hk];simp only[hh];cases hp:(dw (ms.set k ((nB b.1 m).1,m.1,(nB b.1 m).2,b.2.2.2+1))).2 with|true=>exact⟨((nB b.1 m).1,m.1,(nB b.1 m).2,b.2.2.2+1),rfl,rfl,rfl,hp⟩|false=>refine⟨(b.1,m.1,0,b.2.2.2+1),?_,rfl,rfl,?_⟩;rw[af,ak];refine aea h hk rfl ?_;unfold kq at hb⊢;simp only[ae,aU]at hb⊢;refine⟨hb.1,⟨?_,?_⟩,?_,?_⟩;show 0<=m.1;omega;show m.1<=_;omega;show 0<=b.2.2.2+1;omega;show b.2.2.2+1<=_;omega
theorem PM (h:(dw ms).2=true)(hk:ms[k]?=some b){m:uW}(hm:m.1=b.2.1):oT ms k m=(ms,b.2.2.1):=by
 have p:=mw h;have hb:kq b=true:=p.2.2.2.1 b (aL hk);have hh:nH b m=(b,b.2.2.1):=by unfold nH;rw[hb,ah,show(m.1==b.2.1)=true from by rw[bn];exact hm,ah]
 have hs:ms.set k b=ms:=by obtain⟨hG,e⟩:=ay.1 hk;rw[<-e,List.set_getElem_self]
 unfold oT;rw[hk];simp only[hh];rw[hs,h,ah]
theorem Nm (h:(dw ms).2=true)(hk:ms[k]?=some b){m:uW}(h1:m.1≠b.2.1)(h2:m.1≠b.2.1+1):oT ms k m=(ms, -1):=by
 have p:=mw h;have hb:kq b=true:=p.2.2.2.1 b (aL hk);have hh:nH b m=(b, -1):=by unfold nH;rw[hb,ah,show(m.1==b.2.1)=false from by rw[bM];exact h1,af,show(m.1==b.2.1+1)=false from by rw[bM];exact h2,af]
 have hs:ms.set k b=ms:=by obtain⟨hG,e⟩:=ay.1 hk;rw[<-e,List.set_getElem_self]
 unfold oT;rw[hk];simp only[hh];rw[hs,h,ah]
def Pt (c:cW)(k:Nat)(h:Host)(b:bN):cW:=(c.1.set k (tJ h b.1),c.2.1,c.2.2.1.set k b,c.2.2.2)
theorem aky {m:Int}(g:gk n c)(hm:n<=m)(hh:c.1[k]?=some h)(hp:(dw (c.2.2.1.set k b)).2=true)(h1:b.2.1<=m/\b.2.2.2<=m):gk m (Pt c k h b):=by
 have p:=mw hp;have q:=mw g.uM;obtain⟨hG,_⟩:=ay.1 hh;have hk:k<c.2.2.1.length:=by have:=g.len.1;omega
 have hb:kq b=true:=p.2.2.2.1 b (aL (bf hk));have hf:fK b.1=true:=by unfold kq at hb;simp only[ae]at hb;exact hb.1
 have gh:∀h0,c.1[k]?=some h0->Good n h0:=λh0 e=>(g.host k h0 _ e (al hk)).1;refine⟨hp,⟨?_,?_⟩,?_,g.L7,g.clock,λi h' b' e1 e2=>?_,λi hi=>g.place i ?_,λx hx=>?_,λf hf=>⟨by have:=(g.fnn f hf).1;omega,by have:=(g.fnn f hf).2;omega⟩⟩;show(c.1.set k _).length=(c.2.2.1.set k b).length;rw[az,az];exact g.len.1;show c.2.1.length=(c.2.2.1.set k b).length;rw[az];exact g.len.2;have e:=g.fns;unfold iS at e⊢;rw[q.1,q.2.2.1,q.2.1,bt]at e;show(js (dw (c.2.2.1.set k b)).1&&(range c.2.1.length).all (fnB c.2.1 ((dw (c.2.2.1.set k b)).1.length:Int)))=true;rw[p.1,p.2.2.1,bt,p.2.1,az];exact e;have e1:(c.1.set k (tJ h b.1))[i]?=some h':=e1;have e2:(c.2.2.1.set k b)[i]?=some b':=e2;by_cases hi:i=k;subst hi;rw[bf hG]at e1;rw[bf hk]at e2;rw[<-bP e1,<-bP e2];exact⟨YX ((gh h hh).mono hm) hf,rfl⟩;rw[aE (cl hi)]at e1 e2;exact⟨(g.host i h' b' e1 e2).1.mono hm,(g.host i h' b' e1 e2).2⟩;have hi:i<(c.1.set k (tJ h b.1)).length:=hi;rw[az]at hi;exact hi;rcases cK hx with e|e;have:=g.SS x e;omega;rw[e];exact h1
theorem art {n:Nat}(hn:8<=n)(z:Bn n c)(hh:c.1[k]?=some h)(hb:b.1.2.2.length<=8):Bn n (Pt c k h b):=by
 have zh:=z.h h (aL hh);have zl:dC n qj b.1:=⟨cG,cG,bq hb hn,λ_ _=>trivial⟩
 have y:=zh.z;have zf:zC n (tJ h b.1):=⟨⟨y.1,y.2.1,y.2.2.1,y.2.2.2.1,y.2.2.2.2.1,y.2.2.2.2.2.1,y.2.2.2.2.2.2.1,zl,y.2.2.2.2.2.2.2.2⟩,zh.t⟩
 have s:=Ly (k:=k) z zf;exact⟨⟨s.z.1,z.z.2.1,nT z.z.2.2.1 ⟨zl,cG,cG,cG⟩,z.z.2.2.2⟩,s.h⟩
theorem Np (g:gk n c)(hn:n<=100000000000)(hk:c.2.2.1[k]?=some b){m:uW}(hm:m.1=b.2.1+1):∃h b',c.1[k]?=some h/\tO c (k:Int) m=(Pt c k h b',b'.2.2.1)/\b'.2.1=m.1/\b'.2.2.2=b.2.2.2+1/\(dw (c.2.2.1.set k b')).2=true/\gk (n+1) (Pt c k h b'):=by
 obtain⟨hG,_⟩:=ay.1 hk;have hx:k<c.1.length:=by have:=g.len.1;omega
 have hbn:=g.SS b (aL hk);obtain⟨b',e1,e2,e3,e4⟩:=abR g.uM hk hm hbn hn;refine⟨c.1[k],b',al hx,?_,e2,e3,e4,aky g (by omega) (al hx) e4 ⟨by omega,by omega⟩⟩;unfold tO;rw[g.ok (by omega),aU.2 ⟨by omega,by omega⟩];simp only[cq,ah,au,e1];rw[al hx,bf hG];rfl
theorem Nq (g:gk n c)(hn:n<=100000000000)(hk:c.2.2.1[k]?=some b){m:uW}{a:Int}(he:oT c.2.2.1 k m=(c.2.2.1,a)):tO c (k:Int) m=(c,a):=by
 obtain⟨hG,eb⟩:=ay.1 hk;have hx:k<c.1.length:=by have:=g.len.1;omega
 have hf:=(g.host k _ b (al hx) hk).2;unfold tO;rw[g.ok (by omega),aU.2 ⟨by omega,by omega⟩];simp only[cq,ah,au,he];rw[al hx,hk];simp only;have e:tJ c.1[k] b.1=c.1[k]:=by rw[<-hf];rfl
 rw[e,List.set_getElem_self]
def JT (b:uW)(n:Int):uW×Bool:=bif jg b&&di n 0 b.2.2 then((b.1,b.2.1,ar (b.2.2-n)),true) else(b,false)
theorem ahq (b:uW)(n:Int):ue b n=some (JT b n):=by unfold ue JT;simp only[Jz,ab,cx];cases jg b<;>cases di n 0 b.2.2<;>rfl
def ae6 (f:aZ):aZ:=(f.1,f.2.1,f.2.2.1,f.2.2.2.1,f.2.2.2.2.1,ar (f.2.2.2.2.2+1))
def apc (f:aZ)(b:uW):aZ:=(f.1,f.2.1,b,f.2.2.2.1,ar (f.2.2.2.2.1+1),f.2.2.2.2.2)
def an2 (ps:aw Port)(f:aZ)(p:aN):Bool:=f.2.2.2.1&&(!decide (oW ps f.2.1 p<0)&&(JT f.2.2.1 ((dE p).1.length:Int)).2)
def vH (l:aw aZ)(ps:aw Port)(a:Int)(p:aN):aw aZ×cc×Bool:=
 bif iS l ps&&(eY p&&(!decide (a<0)&& !decide (a>=(l.length:Int)))) then
  match l[a.toNat]? with
  |some f=>bif an2 ps f p then(l.set a.toNat (apc f (JT f.2.2.1 ((dE p).1.length:Int)).1),Po ps f.2.1 p,true) else(l.set a.toNat (ae6 f),[],false)
  |none=>(l,[],false)
 else(l,[],false)
theorem aho (l:aw aZ)(ps:aw Port)(a:Int)(p:aN)(h:l.length<=10^9)(z:Dj ps):zR l ps a p=some (vH l ps a p):=by
 unfold zR vH;rw[xA l h,ab,ak (n:=(l.length:Int)-1)];simp only[IQ l ps h z.1 z.2,yT,ab,cx];cases iS l ps;rfl;cases eY p;rfl;rw[show di a 0 ((l.length:Int)-1)=(!decide (a<0)&& !decide (a>=(l.length:Int))) from by rw[cQ,aU];simp;omega];by_cases h0:a<0;rw[ax h0];rfl;by_cases h1:a>=(l.length:Int)
 rw[aq h0,ax h1];rfl;obtain⟨a,rfl⟩:=aD (by omega:0<=a);have ha:a<l.length:=by omega
 rw[aq h0,aq h1];simp only[au,al ha,bB ha,ab,aj,bE,af,ah,cq,EC,ahq,JB _ _ p z,GZ _ _ p z,an2];generalize l[a]=f;cases h3:f.2.2.2.1 with|false=>simp only[bE,ah,af,eo,ab,ae6,h3]|true=>simp only[aj,af,bt,WS ha,ab,List.set_set];cases decide (oW ps f.2.1 p<0)with|true=>simp only[aj,ah,eo,af,ab,ae6,h3]|false=>simp only[bE,af,bt,ab,GZ _ _ p z];cases (JT f.2.2.1 ((dE p).1.length:Int)).2 with|false=>simp only[bE,ah,af,ae6,h3]|true=>simp only[aj,ah,af,apc,h3]
theorem U9 (l:aw aZ)(ps:aw Port)(a:Int)(p:aN):(vH l ps a p).1.length=l.length:=by unfold vH;cases iS l ps&&(eY p&&(!decide (a<0)&& !decide (a>=(l.length:Int))));rfl;simp only[ah];cases l[a.toNat]? with|none=>rfl|some f=>cases h:an2 ps f p<;>simp only[h,ah,af,az]
theorem al6 {a:Int}(h:eY p=false):vH l ps a p=(l,[],false):=by unfold vH;rw[h,eo,eM,af]
theorem ad4:eY pk0=false:=by decide
theorem alS (h:((gn x).2==0)=false):eY (gn x).1=false:=by
 unfold gn at h⊢;simp only at h⊢;cases h1:(AP x).2;exact ad4;rw[h1]at h;simp only[aj,af]at h⊢;cases h2:(kR (AP x).1).2 !=0;case true=>exact ad4
 rw[h2]at h;simp only[af]at h⊢;cases h3:eY (kR (AP x).1).1 with|false=>exact ad4|true=>rw[h3]at h;cases h
def HC (h:Host):bO:=h.2.2.2.2.2.2.2.2.2.2.2.1
theorem VB (h:Host):(HC h).length<=(HC (dy h)).length/\(HC (dy h)).length<=(HC h).length+5440:=by have hA:=EV h.2.1 h.1 0 17 [] 0 0 h.2.2.1.1 (λx hx=>by cases hx);unfold dy;cases eT h;exact⟨bc _,Nat.le_add_right _ _⟩;rw[show nk h.2.1 h.1 0 17 [] 0 0 h.2.2.1.1=lX h.2.1 h.1 0 h.2.2.1.1 from rfl]at hA;generalize lX h.2.1 h.1 0 h.2.2.1.1=x at hA⊢;simp only[dZ]at hA;generalize (if(h.2.2.1.2.2.1.length:Int)<ar (x.2.2.1+x.2.2.2) then(h.2.2.1.2.2.1.length:Int) else ar (x.2.2.1+x.2.2.2))=q;show _<=(HC h++x.2.1).length/\(HC h++x.2.1).length<=_;rw[ai];have:=hA.1;omega
def Lg (h:Host):bO:=(HC (dy h)).drop (HC h).length
theorem Ia (h:Host):(Lg h).length<=5440:=by have:=VB h;unfold Lg;rw[aM];omega
def Bl (ps:aw Port)(k:Int)(c:cW)(x:Bytes):cW:=
 bif (vH c.2.1 ps k (gn x).1).2.2 then qM (c.1,(vH c.2.1 ps k (gn x).1).1,c.2.2) (ar (k+1)) (gn x).1 else(c.1,(vH c.2.1 ps k (gn x).1).1,c.2.2)
theorem afO {n:Nat}(h:l.length=c.2.1.length)(z:Bn n c):Bn n (c.1,l,c.2.2):=by refine⟨⟨z.z.1,⟨?_,λ_ _=>⟨cG,cG,⟨cG,cG,cG⟩,cG,cG,cG⟩⟩,z.z.2.2⟩,z.h⟩;have:=z.z.2.1.1;show l.length<=n;rw[h];exact this
theorem al3 {n:Nat}(hn:1000<=n){k:Int}(z:Bn n c):Bn (n+8) (Bl ps k c x)/\(Bl ps k c x).1.length=c.1.length:=by have zs:=afO (l:=(vH c.2.1 ps k (gn x).1).1) (U9 ..) z;unfold Bl;cases (vH c.2.1 ps k (gn x).1).2.2 with|false=>exact⟨zs.mono,rfl⟩|true=>exact aeD hn _ _ zs
theorem al2 {k:Int}(h:((gn x).2==0)=false):Bl ps k c x=c:=by unfold Bl;rw[al6 (alS h)];rfl
def ES (ps:aw Port)(k:Int)(c:cW)(l:bO):cW:=l.foldl (Bl ps k) c
theorem R1 {ps:aw Port}{k:Int}:∀(l:bO){c:cW}{n:Nat},1000<=n->Bn n c->Bn (n+8*l.length) (ES ps k c l)/\(ES ps k c l).1.length=c.1.length
 |[],c,n,_,z=>⟨z,rfl⟩
 |x::l,c,n,hn,z=>by have h1:=al3 hn (ps:=ps) (k:=k) (x:=x) z;have:=R1 (ps:=ps) (k:=k) l (show 1000<=n+8 by omega) h1.1;exact⟨this.1.mono (by simp only[aP];omega),this.2.trans h1.2⟩
theorem ael (ps:aw Port)(k:Int)(c:cW)(l:bO)(i:Nat)(hi:i<l.length):ES ps k c (l.take (i+1))=Bl ps k (ES ps k c (l.take i)) l[i]:=by rw[bl hi,ES,List.foldl_append];rfl
theorem Zx (K:Int->cW->aB R)(ps:aw Port)(k:Int)(l:bO)(c B:cW)(hl:l.length<=5440)(hx:∀x∈l,x.length<=10^9)(z:Bn 700000000 c)(zp:Dj ps): bj (kN K k ps l (l.length:Int) B) fuel (0,c)=K (l.length:Int) (ES ps k c l):=by
 have D7:=eX;refine dG (λi=>((i:Int),ES ps k c (l.take i))) l.length (by omega) (λi nx hi=>?_) (λnx=>?_);have hz:=(R1 (ps:=ps) (k:=k) (l.take i) (by omega) z).1.mono (show 700000000+8*(l.take i).length<=800000000 by rw[aV];omega);rw[ael ps k c l i hi];generalize ES ps k c (l.take i)=W at hz⊢;simp only[kN];rw[jP,ah,bB hi,ab,Mv _ (hx _ (aK hi)),ab,ak (n:=(i:Int)+1)];cases hf:(gn l[i]).2==0 with|false=>rw[al2 hf];simp only[bne,hf,bE,ah];rfl|true=>have zs:=afO (l:=(vH W.2.1 ps k (gn l[i]).1).1) (U9 ..) hz;simp only[bne,hf,aj,af];rw[aho _ _ _ _ (bq hz.z.2.1.1 (by omega)) zp,ab,GW _ _ _ zs,ab,Bl];cases (vH W.2.1 ps k (gn l[i]).1).2.2<;>rfl
 simp only[kN];rw[cL,af,cO]
def tP (c:cW)(k:Int):cW:=
 bif jT c&&(!decide (k<0)&& !decide (k>=(c.1.length:Int))) then
  match c.1[k.toNat]? with
  |some h=>ES (dw c.2.2.1).1 k (R3 c k.toNat (dy h)) (Lg h)
  |none=>c
 else c
theorem QW (c:cW)(k:Int)(z:Bn 600000000 c):se c k=some (tP c k):=by
 have z9:dC 1000000000 uZ c:=z.z.mono;have hl:c.2.1.length<=600000000:=z.z.2.1.1;unfold se tP;rw[nJ c z9,ab,xz c (z.sz),ab,cx,ak (n:=(c.2.1.length:Int)-1)];cases hb:jT c;rfl;have h2:c.1.length=c.2.1.length:=by unfold jT at hb;simp only[ae]at hb;have:=H7 hb.2.1;omega
 rw[show di k 0 ((c.2.1.length:Int)-1)=(!decide (k<0)&& !decide (k>=(c.1.length:Int))) from by rw[cQ,aU];simp;omega];by_cases h0:k<0;rw[ax h0];rfl;by_cases h1:k>=(c.1.length:Int)
 rw[aq h0,ax h1];rfl;obtain⟨k,rfl⟩:=aD (by omega:0<=k);have hk:k<c.1.length:=by omega
 rw[aq h0,aq h1];have hz:=z.h _ (aK hk);have zt:=FN (by omega) hz;have zc:Bn 700000000 (R3 c k (dy c.1[k])):=(Ly (z.mono (show 600000000<=600005440 by omega)) zt).mono;have hg:=VB c.1[k];have hw:∀x∈Lg c.1[k],x.length<=10^9:=λx hx=>bq (zt.z.2.2.2.2.2.2.2.2.2.2.2.1.2 x (List.mem_of_mem_drop hx)) (by omega);have hn:=Ia c.1[k];have zp:=afG c.2.2.1;simp only[au,al hk,bB hk,WS hk,ab,aj,bE,af,ah,cq,DF _ (λm hm=>(z9.2.2.1.2 m hm).1.2.2.1),KY _ (hz.mono)];rw[show sub (dy c.1[k]).2.2.2.2.2.2.2.2.2.2.2.1 ((c.1[k].2.2.2.2.2.2.2.2.2.2.2.1).length:Int) (((dy c.1[k]).2.2.2.2.2.2.2.2.2.2.2.1).length:Int)=some (Lg c.1[k]) from LN _ _ hg.1];simp only[ab,nm _ (bq hn (by omega:5440<=10^9))];exact Zx (λ_ y=>some y) (dw c.2.2.1).1 (k:Int) (Lg c.1[k]) (R3 c k (dy c.1[k])) _ hn hw zc zp
theorem abY {n:Nat}(hn:1000<=n)(k:Int)(z:Bn n c):Bn (n+48960) (tP c k)/\(tP c k).1.length=c.1.length:=by unfold tP;cases jT c&&(!decide (k<0)&& !decide (k>=(c.1.length:Int)));exact⟨z.mono,rfl⟩;simp only[ah];cases hx:c.1[k.toNat]? with|none=>exact⟨z.mono,rfl⟩|some h=>have zt:=FN (by omega) (z.h h (aL hx));have zc:=Ly (k:=k.toNat) (z.mono (show n<=n+5440 by omega)) zt;have:=R1 (ps:=(dw c.2.2.1).1) (k:=k) (Lg h) (by omega) zc;have hl:=Ia h;refine⟨this.1.mono,this.2.trans ?_⟩;show(c.1.set _ _).length=_;rw[az]
structure mA (a b:Host):Prop where
 maps:b.2.1=a.2.1
 mem:b.1.length=a.1.length
theorem mA.refl (a:Host):mA a a:=⟨rfl,rfl⟩
theorem mA.trans {a b c:Host}(h:mA a b)(g:mA b c):mA a c:=⟨g.maps.trans h.maps,g.mem.trans h.mem⟩
theorem mA.of {a b:Host}(h:mz k a b):mA a b:=⟨h.maps,h.mem⟩
theorem aop (l:aw aI)(m:bO)(d:Int)(q:bL)(k s:Bytes):(ik l m d q k s).1.length=m.length:=by
 unfold ik;cases !(cV s).2||(((cV s).1.1 !=3)||decide ((cV s).1.2.2.1<((dE q.2.2.2.1.1).1.length:Int)));case true=>rfl
 cases (hH l m d (cV s).1.2.2.2.1 (dE q.2.2.2.1.1).1 true).2 with
 |false=>rfl
 |true=>
  simp only[af,aj];unfold uN;cases !gL q.2.1|| !uQ _;case true=>exact lG ..
  cases (hH l (hH l m d (cV s).1.2.2.2.1 (dE q.2.2.2.1.1).1 true).1 d (tD q.2.1) _ true).2 with|false=>exact lG ..|true=>exact(lG ..).trans (lG ..)
theorem Wy (l:aw aI)(m:bO)(d:Int)(q:bL)(k:Bytes):(iH l m d q k).1.length=m.length:=by
 unfold iH;cases !Gj q||(!q.2.2.2.2.1||((k.length:Int) !=16));case true=>rfl
 cases (bC l m d q.1).2.2&&(ik l m d q k (bC l m d q.1).1).2.2 with|true=>exact aop ..|false=>rfl
theorem ajm (l:aw aI)(m:bO)(d:Int)(q:bL)(k:Bytes)(p:aN)(c:Bool):(lL l m d q k p c).1.length=m.length:=by
 unfold lL;cases !Gj q||(!eY p||((k.length:Int) !=16));case true=>rfl
 cases c&&(q.2.2.2.2.1&&Kf q.2.2.2.1 p);case true=>rfl
 cases c with|true=>exact Wy ..|false=>exact(Wy ..).trans (Wy ..)
theorem al5 (l:aw aI)(m:bO)(d:Int)(t:eR)(p:aN)(c z:Int):(rR l m d t p c z).1.length=m.length:=by unfold rR;cases Pq t&&(dS p&&(di z 1 t.2.1.2.1&&di c 1 128));rfl;cases IA t (Ap p z.toNat);rfl;simp only[ah];cases hw:wT l d t.2.1 z.toNat (kv t.2.1 (Ap p z.toNat:Int)).2.1 (lx p).1 m []with|none=>rfl|some x=>have hx:=(GF _ _ _ _ _ _ _ _ hw).1;simp only;unfold Oa uy;cases hp:qE l d ((kJ x.1 c t.2.2.2).map kz) x.2 t.1 with|none=>rfl|some y=>exact(N4 _ _ _ _ _ hp).trans hx
theorem aiR (h:Host)(p:aN)(c z:Int):mA h (AH h p c z).1:=by unfold AH;cases eT h with|false=>exact mA.refl h|true=>exact⟨rfl,al5 ..⟩
theorem Ja (h:Host):mA h (dy h):=by unfold dy;cases eT h with|false=>exact mA.refl h|true=>exact⟨rfl,rfl⟩
theorem aeu (h:Host):mA h (oY h):=by unfold oY;cases eT h with|false=>exact mA.refl h|true=>exact mA.of (qa wU h _)
theorem Vn (h:Host):mA h (sI h):=by unfold sI;cases eT h with|false=>exact mA.refl h|true=>exact mA.of (qa zy h _)
theorem XG (h:Host)(b:Int):mA h (jF h b).1:=by unfold jF;cases eT h&&di b 1 1000 with|false=>exact mA.refl h|true=>exact mA.of (Cl b h _)
theorem LL (h:Host)(x:Bytes):mA h (kS h x):=by
 unfold kS;cases eT h;exact mA.refl h;cases (gn x).2 !=0;case true=>exact⟨rfl,rfl⟩
 cases !xq h.2.2.2.2.2.2.2.1 (gn x).1;case true=>exact⟨rfl,rfl⟩
 cases rT h.2.2.2.2.2.2.2.2.1 (h.2.2.2.1.length:Int) (gn x).1== -1;case true=>exact⟨rfl,rfl⟩
 simp only[aj,af];cases hq:h.2.2.2.1[(rT h.2.2.2.2.2.2.2.2.1 (h.2.2.2.1.length:Int) (gn x).1).toNat]? with|none=>exact mA.refl h|some q=>exact mA.trans (b:=AR h _ _ _ _) ⟨rfl,rfl⟩ (mA.of (HD (ajm ..)))
theorem LJ (h:Host):∀k,mA h (mX h k)
 |0=>mA.refl h
 |k+1=>by refine(LJ h k).trans ?_;show mA (mX h k) (wM (mX h k) k 1000).2;generalize mX h k=s;unfold wM;rcases s.2.2.2.1[k]? with _|rx;exact mA.refl s;rcases s.2.2.2.2.1[k]? with _|pl;exact mA.refl s;exact⟨rfl,Xn ..⟩
theorem I8 (h:Host):∀k,mA h (returned h k)
 |0=>LJ h _
 |k+1=>by refine(I8 h k).trans ?_;show mA (returned h k) (M6 h.2.2.1.2.2.1 k (returned h k));unfold M6;cases h.2.2.1.2.2.1[k]? with|none=>exact mA.refl _|some x=>exact⟨rfl,rfl⟩
theorem Sf (h:Host):mA h (qF h):=by unfold qF;cases eT h with|false=>exact mA.refl h|true=>have k:=rJ (jq h) h.2.2.2.1.length;have r:=I8 h h.2.2.1.2.2.1.length;exact⟨k.maps.trans r.maps,k.mem.trans r.mem⟩
theorem amg (h:Host)(a:Act):mA h (Io h a).1:=by
 unfold Io;cases !eT h|| !Gn a;case true=>exact mA.refl h
 simp only[af];cases a.1==0;case true=>exact aiR ..
 cases a.1==1;case true=>exact Ja h
 cases a.1==2;case true=>exact LL ..
 cases a.1==3;case true=>exact aeu h
 cases a.1==4;case true=>exact Vn h
 cases a.1==5 with|true=>exact XG ..|false=>exact Sf h
def sN (h:Host):Filter:=h.2.2.2.2.2.2.2.1
theorem ant (k:Nat)(h:Host):sN (evS k h)=sN h:=by unfold evS;cases h.2.2.2.2.2.1[k]?<;>rfl
theorem aff (k:Nat)(h:Host):∀i,sN (evH k i h)=sN h
 |0=>rfl
 |i+1=>(ant k _).trans (aff k h i)
theorem acT (h:Host)(k:Nat)(b:Int)(f:bO×bL):sN (C9 h k b f)=sN h:=(aff k _ _).trans rfl
theorem Nw (h:Host)(x:Bytes):sN (kS h x)=sN h:=by
 unfold kS;cases eT h;rfl;cases (gn x).2 !=0;case true=>rfl
 cases !xq h.2.2.2.2.2.2.2.1 (gn x).1;case true=>rfl
 cases rT h.2.2.2.2.2.2.2.2.1 (h.2.2.2.1.length:Int) (gn x).1== -1;case true=>rfl
 simp only[aj,af];cases h.2.2.2.1[(rT h.2.2.2.2.2.2.2.2.1 (h.2.2.2.1.length:Int) (gn x).1).toNat]? with|none=>rfl|some q=>exact acT ..
theorem Uc (h:Host):sN (oY h)=sN h:=by unfold oY;cases eT h with|false=>rfl|true=>exact(qa wU h _).sN
theorem Qq (h:Host):sN (sI h)=sN h:=by unfold sI;cases eT h with|false=>rfl|true=>exact(qa zy h _).sN
theorem Nx (h:Host)(b:Int):sN (jF h b).1=sN h:=by unfold jF;cases eT h&&di b 1 1000 with|false=>rfl|true=>exact(Cl b h _).sN
theorem Fb (h:Host):sN (dy h)=sN h:=by unfold dy;cases eT h<;>rfl
theorem akq (h:Host)(p:aN)(c z:Int):sN (AH h p c z).1=sN h:=by unfold AH;cases eT h<;>rfl
theorem acR (h:Host)(i:Nat)(c:Int):sN (wM h i c).2=sN h:=by unfold wM;rcases h.2.2.2.1[i]? with _|rx;rfl;cases h.2.2.2.2.1[i]? with|none=>rfl|some pl=>rfl
theorem Nv (h:Host):∀k,sN (mX h k)=sN h
 |0=>rfl
 |k+1=>(acR _ k 1000).trans (Nv h k)
theorem Fa (h:Host):∀k,sN (returned h k)=sN h
 |0=>Nv h _
 |k+1=>by have e:returned h (k+1)=M6 h.2.2.1.2.2.1 k (returned h k):=rfl;rw[e];unfold M6;cases h.2.2.1.2.2.1[k]? with|none=>exact Fa h k|some x=>exact(show sN (aaQ (returned h k) [x.1])=sN (returned h k) from rfl).trans (Fa h k)
theorem acS (k:Nat)(h:Host):sN (wN k h)=sN h:=by unfold wN;rcases h.2.2.2.1[k]? with _|x;rfl;cases h.2.2.2.2.2.1[k]? with|none=>rfl|some v=>rfl
theorem Ks (h:Host):∀k,sN (iQ h k)=sN h
 |0=>rfl
 |k+1=>(acS k _).trans (Ks h k)
theorem Ud (h:Host):sN (qF h)=sN h:=by unfold qF;cases eT h with|false=>rfl|true=>exact(Ks _ _).trans ((show sN (jq h)=sN (returned h h.2.2.1.2.2.1.length) from rfl).trans (Fa h _))
theorem ans (h:Host)(a:Act):sN (Io h a).1=sN h:=by
 unfold Io;cases !eT h|| !Gn a;case true=>rfl
 simp only[af];cases a.1==0;case true=>exact akq ..
 cases a.1==1;case true=>exact Fb h
 cases a.1==2;case true=>exact Nw ..
 cases a.1==3;case true=>exact Uc h
 cases a.1==4;case true=>exact Qq h
 cases a.1==5 with|true=>exact Nx ..|false=>exact Ud h
theorem gk.at (g:gk n c)(hi:c.1[i]?=some h):Good n h:=by obtain⟨hG,_⟩:=ay.1 hi;exact(g.host i h _ hi (al (by have:=g.len.1;omega))).1
theorem Qw {m:Int}(g:gk n c)(hm:n<=m){hs:aw Host}(hl:hs.length=c.1.length)(h:∀(i:Nat)(h':Host),hs[i]?=some h'->∃h0,c.1[i]?=some h0/\Good m h'/\sN h'=sN h0):gk m (hs,c.2):=by have q:=g.mono hm;refine⟨q.uM,⟨hl.trans q.len.1,q.len.2⟩,q.fns,q.L7,q.clock,λi h' b e1 e2=>?_,λi hi=>q.place i (by rw[<-hl];exact hi),q.SS,q.fnn⟩;obtain⟨h0,a,b',e⟩:=h i h' e1;exact⟨b',e.trans (q.host i h0 b a e2).2⟩
theorem HU {m:Int}(g:gk n c)(hm:n<=m){h0:Host}(hk:c.1[k]?=some h0)(gh:Good m h)(e:sN h=sN h0):gk m (R3 c k h):=by refine Qw g hm (az ..) λi h' hi=>?_;by_cases hik:i=k;subst hik;obtain⟨hG,_⟩:=ay.1 hk;rw[bf hG]at hi;rw[<-bP hi];exact⟨h0,hk,gh,e⟩;rw[aE (cl hik)]at hi;exact⟨h',hi,(g.at hi).mono hm,rfl⟩
theorem Mk {m:Int}(g:gk n c)(hm:n<=m){f:Host->Host}(hf:∀h,Good n h->Good m (f h))(he:∀h,sN (f h)=sN h):gk m (c.1.map f,c.2):=by refine Qw g hm (bF ..) λi h' hi=>?_;rw[List.getElem?_map]at hi;cases hc:c.1[i]? with|none=>rw[hc]at hi;cases hi|some h0=>rw[hc]at hi;rw[<-bP hi];exact⟨h0,rfl,hf h0 (g.at hc),he h0⟩
theorem acZ (g:gk n c)(f:Bytes):gk n (amY c f):=⟨g.uM,g.len,g.fns,g.L7,g.clock,g.host,g.place,g.SS,g.fnn⟩
theorem GL (g:gk n c):gk n (FE c):=⟨g.uM,g.len,g.fns,g.L7,g.clock,g.host,g.place,g.SS,g.fnn⟩
theorem QC (hn:n<=600000000000)(g:gk n c)(ps:aw Port)(v:Int)(p:aN)(j:Nat):gk (n+641) (dp ps v p c j):=by unfold dp;cases j==0 with|true=>exact(acZ g _).mono|false=>simp only[af];cases hc:c.1[j-1]? with|none=>exact g.mono|some h=>exact HU g (by omega) hc (Kx (by omega) (g.at hc) _) (Nw ..)
theorem Ug (ps:aw Port)(v:Int)(p:aN):∀(l:fM){n:Int}{c:cW},n+641*(l.length:Int)<=600000000000->gk n c->gk (n+641*(l.length:Int)) (M8 ps v p c l)
 |[],n,c,_,g=>g.mono (by simp)
 |j::l,n,c,hn,g=>by simp only[aP]at hn;have i:=Ug ps v p l (n:=n+641) (by omega) (QC (by omega) g ps v p j);exact i.mono (by simp only[aP];push_cast;omega)
theorem IE (hn:n<=500000000000)(g:gk n c)(e:Int)(p:aN):gk (n+2564) (od c e p):=by unfold od;cases decide (oW (dw c.2.2.1).1 e p<0)with|true=>exact g.mono|false=>have h1:=DX (dw c.2.2.1).1 e p;have h2:=(U1 c.2.2.1).1;exact(Ug _ _ _ _ (by omega) g).mono
theorem WC (hn:n<=500000000000)(g:gk n c)(e:Int)(p:aN):gk (n+2564) (qM c e p):=by unfold qM;cases jT c&&eY p with|true=>exact IE hn g e p|false=>exact g.mono
theorem SZ (hn:n<=500000000000)(g:gk n c)(x:Bytes):gk (n+2564) (pK c x):=by
 unfold pK;cases !jT c;case true=>exact g.mono
 cases (gn x).2==0 with|true=>exact IE hn (GL g) 0 _|false=>exact(GL g).mono
theorem akv {f:aZ}(hk:k<l.length):(l.set k f).getD i Mi=if i=k then f else l.getD i Mi:=by rw[aW,aW];by_cases h:i=k;subst h;rw[aH rfl,bf hk];rfl;rw[aG h,aE (cl h)]
theorem Wz:iS l ps=true↔js ps=true/\∀i,i<l.length->F4 (ps.length:Int) (l.getD i Mi)=true/\∀j,j<i->agQ (l.getD i Mi) (l.getD j Mi)=false:=by unfold iS fnB;simp only[ae,aF,bG,aO]
theorem aks {l':aw aZ}(h:iS l ps=true)(hl:l'.length=l.length)(hx:∀i,i<l.length->(l'.getD i Mi).1=(l.getD i Mi).1/\(l'.getD i Mi).2.1=(l.getD i Mi).2.1/\F4 (ps.length:Int) (l'.getD i Mi)=true):iS l' ps=true:=by rw[Wz]at h⊢;refine⟨h.1,λi hi=>⟨(hx i (by omega)).2.2,λj hj=>?_⟩⟩;have q:=(h.2 i (by omega)).2 j hj;have a:=hx i (by omega);have b:=hx j (by omega);unfold agQ at q⊢;rw[a.1,a.2.1,b.1,b.2.1];exact q
theorem ad5 {l':aw aZ}(h:Be l i=true)(hx:(l'.getD i Mi).1=(l.getD i Mi).1/\(l'.getD i Mi).2.1=(l.getD i Mi).2.1):Be l' i=true:=by unfold Be at h⊢;rw[hx.1,hx.2];exact h
theorem YY {m:Int}(g:gk n c)(hm:n<=m)(hl:l.length=c.2.1.length)(hx:∀i,i<c.2.1.length->(l.getD i Mi).1=(c.2.1.getD i Mi).1/\(l.getD i Mi).2.1=(c.2.1.getD i Mi).2.1/\F4 ((dw c.2.2.1).1.length:Int) (l.getD i Mi)=true)(hc:∀f∈l,f.2.2.2.2.1<=m/\f.2.2.2.2.2<=m):gk m (c.1,l,c.2.2):=by
 have q:=g.mono hm;refine⟨q.uM,⟨q.len.1,hl.trans q.len.2⟩,aks q.fns hl hx,q.L7,q.clock,q.host,λi hi=>?_,q.SS,hc⟩;have hi:i<c.1.length:=hi;have hG:i<c.2.1.length:=by have:=q.len;omega
 exact ad5 (q.place i hi) ⟨(hx i hG).1,(hx i hG).2.1⟩
theorem GJ {f:aZ}:F4 n f=true↔(0<=f.1/\f.1<=7)/\(1<=f.2.1/\f.2.1<=ar (n-1))/\jg f.2.2.1=true/\(0<=f.2.2.2.2.1/\f.2.2.2.2.1<=1000000000000)/\0<=f.2.2.2.2.2/\f.2.2.2.2.2<=1000000000000:=by unfold F4;simp only[ae,aU]
theorem VT {b:uW}(h:jg b=true)(n:Int):jg (JT b n).1=true:=by unfold JT;cases hq:jg b&&di n 0 b.2.2 with|false=>exact h|true=>simp only[ae,aU]at hq;unfold jg at h⊢;simp only[ae,aU,ah]at h⊢;rw[ak];exact⟨h.1,h.2.1,by omega,by omega⟩
theorem QA (hn:n<=500000000000)(g:gk n c)(k:Int)(p:aN):gk (n+1) (c.1,(vH c.2.1 (dw c.2.2.1).1 k p).1,c.2.2):=by
 have same:gk (n+1) (c.1,c.2.1,c.2.2):=g.mono;unfold vH;cases hq:iS c.2.1 (dw c.2.2.1).1&&(eY p&&(!decide (k<0)&& !decide (k>=(c.2.1.length:Int))));exact same;simp only[ah];rcases hf:c.2.1[k.toNat]? with _|f;exact same;simp only;obtain⟨hG,ef⟩:=ay.1 hf;have hF:=(Wz.1 g.fns).2;have SI:=g.fnn f (aL hf);have fin:F4 ((dw c.2.2.1).1.length:Int) f=true:=by have:=(hF k.toNat hG).1;rw[cB hG,ef]at this;exact this
 have hi:=GJ.1 fin;have go:∀f':aZ,f'.1=f.1->f'.2.1=f.2.1->F4 ((dw c.2.2.1).1.length:Int) f'=true->(f'.2.2.2.2.1<=n+1/\f'.2.2.2.2.2<=n+1)->gk (n+1) (c.1,c.2.1.set k.toNat f',c.2.2):=by intro f' e1 e2 e3 e4;refine YY g (by omega) (az ..) (λi hi=>?_) λx hx=>?_;rw[akv hG];by_cases hik:i=k.toNat;rw[aH hik,hik,cB hG,ef];exact⟨e1,e2,e3⟩;rw[aG hik];exact⟨rfl,rfl,(hF i hi).1⟩;rcases cK hx with e|e;have:=g.fnn x e;omega;rw[e];exact e4
 cases an2 (dw c.2.2.1).1 f p with|true=>refine go _ rfl rfl (GJ.2 ⟨hi.1,hi.2.1,VT hi.2.2.1 _,?_,hi.2.2.2.2⟩) ?_;show 0<=ar (f.2.2.2.2.1+1)/\_;show 0<=ar (f.2.2.2.2.1+1)/\ar (f.2.2.2.2.1+1)<=1000000000000;rw[ak];omega;show ar (f.2.2.2.2.1+1)<=n+1/\f.2.2.2.2.2<=n+1;rw[ak];omega|false=>refine go _ rfl rfl (GJ.2 ⟨hi.1,hi.2.1,hi.2.2.1,hi.2.2.2.1,?_⟩) ?_;show 0<=ar (f.2.2.2.2.2+1)/\ar (f.2.2.2.2.2+1)<=1000000000000;rw[ak];omega;show f.2.2.2.2.1<=n+1/\ar (f.2.2.2.2.2+1)<=n+1;rw[ak];omega
structure rZ (a b:cW):Prop where
 boxes:b.2.2.1=a.2.2.1
 flash:b.2.2.2.1=a.2.2.2.1
 clock:b.2.2.2.2.1=a.2.2.2.2.1
 stamps:b.2.2.2.2.2.1=a.2.2.2.2.2.1
 len:b.1.length=a.1.length
 up:∃w,b.2.2.2.2.2.2=a.2.2.2.2.2.2++w
theorem rZ.refl (a:cW):rZ a a:=⟨rfl,rfl,rfl,rfl,rfl,⟨[],(bD _).symm⟩⟩
theorem rZ.trans {a b:cW}(h:rZ a b)(g:rZ b c):rZ a c:=by obtain⟨w,hw⟩:=h.up;obtain⟨u,hu⟩:=g.up;exact⟨g.boxes.trans h.boxes,g.flash.trans h.flash,g.clock.trans h.clock,g.stamps.trans h.stamps,g.len.trans h.len,⟨w++u,by rw[hu,hw,aR]⟩⟩
theorem adx (ps:aw Port)(v:Int)(p:aN)(c:cW)(j:Nat):rZ c (dp ps v p c j):=by unfold dp;cases j==0 with|true=>exact⟨rfl,rfl,rfl,rfl,rfl,⟨_,rfl⟩⟩|false=>simp only[af];cases hc:c.1[j-1]? with|none=>exact rZ.refl c|some h=>exact⟨rfl,rfl,rfl,rfl,az ..,⟨[],(bD _).symm⟩⟩
theorem UD (ps:aw Port)(v:Int)(p:aN):∀(l:fM)(c:cW),rZ c (M8 ps v p c l)
 |[],c=>rZ.refl c
 |j::l,c=>(adx ps v p c j).trans (UD ps v p l _)
theorem IV (c:cW)(e:Int)(p:aN):rZ c (od c e p):=by unfold od;cases decide (oW (dw c.2.2.1).1 e p<0)with|true=>exact rZ.refl c|false=>exact UD ..
theorem W8 (c:cW)(e:Int)(p:aN):rZ c (qM c e p):=by unfold qM;cases jT c&&eY p with|true=>exact IV ..|false=>exact rZ.refl c
theorem JF (ps:aw Port)(k:Int)(c:cW)(x:Bytes):rZ c (Bl ps k c x):=by
 unfold Bl;have e:rZ c (c.1,(vH c.2.1 ps k (gn x).1).1,c.2.2):=⟨rfl,rfl,rfl,rfl,rfl,⟨[],(bD _).symm⟩⟩
 cases (vH c.2.1 ps k (gn x).1).2.2 with|true=>exact e.trans (W8 ..)|false=>exact e
theorem Rd (ps:aw Port)(k:Int):∀(l:bO)(c:cW),rZ c (ES ps k c l)
 |[],c=>rZ.refl c
 |x::l,c=>(JF ps k c x).trans (Rd ps k l _)
theorem anY (c:cW)(k:Int):rZ c (tP c k):=by unfold tP;cases jT c&&(!decide (k<0)&& !decide (k>=(c.1.length:Int)));exact rZ.refl c;simp only[ah];cases c.1[k.toNat]? with|none=>exact rZ.refl c|some h=>exact(show rZ c (R3 c k.toNat (dy h)) from⟨rfl,rfl,rfl,rfl,az ..,⟨[],(bD _).symm⟩⟩).trans (Rd ..)
theorem Qy (hn:n<=400000000000)(g:gk n c)(k:Int)(x:Bytes):gk (n+2565) (Bl (dw c.2.2.1).1 k c x):=by have q:=QA (by omega) g k (gn x).1;unfold Bl;cases (vH c.2.1 (dw c.2.2.1).1 k (gn x).1).2.2 with|true=>exact(WC (by omega) q _ _).mono|false=>exact q.mono
theorem Qz (k:Int)(ps:aw Port):∀(l:bO){n:Int}{c:cW},n+2565*(l.length:Int)<=400000000000->ps=(dw c.2.2.1).1->gk n c->gk (n+2565*(l.length:Int)) (ES ps k c l)
 |[],n,c,_,_,g=>g.mono (by simp)
 |x::l,n,c,hn,hp,g=>by simp only[aP]at hn;have s:=Qy (by omega) g k x;rw[<-hp]at s;have i:=Qz k ps l (n:=n+2565) (by omega) (by rw[(JF ps k c x).boxes];exact hp) s;exact i.mono (by simp only[aP];push_cast;omega)
theorem anv (hn:n<=300000000000)(g:gk n c)(k:Int):gk (n+14000000) (tP c k):=by unfold tP;cases jT c&&(!decide (k<0)&& !decide (k>=(c.1.length:Int)));exact g.mono;simp only[ah];cases hc:c.1[k.toNat]? with|none=>exact g.mono|some h=>have q:=HU g (cU n) hc (D4 (g.at hc)) (Fb h);have hl:=Ia h;exact(Qz k (dw c.2.2.1).1 (Lg h) (c:=R3 c k.toNat (dy h)) (by omega) rfl q).mono
def Jh (s:Bytes):Prop:=∀x∈s,x=0
theorem X3 (h:Jh s):s=List.replicate s.length 0:=List.eq_replicate_iff.2 ⟨rfl,h⟩
theorem SB (n:Nat):Jh (sK n):=by intro x hx;simp only[sK,aQ,List.map_replicate]at hx;exact(List.mem_replicate.1 hx).2
theorem anc {t:Bytes}(h:Jh s)(k:Jh t)(e:s.length=t.length):s=t:=by rw[X3 h,X3 k,e]
theorem as9 {o:Nat}{t:Bytes}(hx:Jh x)(ht:Jh t)(h:o+t.length<=x.length):yj x o t=x:=by refine anc (λy hy=>?_) hx (MS h);unfold yj at hy;rcases aA.1 hy with g|g;exact hx y (List.mem_of_mem_take g);rcases aA.1 g with g|g;exact ht y g;exact hx y (List.mem_of_mem_drop g)
theorem am0:∀(n:Nat){m:bO}{a:Nat}{s:Bytes},Ee m->(∀x∈m,Jh x)->Jh s->a+s.length<=128*m.length->uV n m a s=m
 |0,m,a,s,_,_,_,_=>rfl
 |n+1,m,a,s,hp,hm,hs,hl=>by rw[uV];by_cases h0:s.length=0;rw[aH h0];rw[aG h0];obtain⟨h1,h2,_⟩:=FU hp h0 hl;have ho:yj (m[a/128]'h1) (a%128) (s.take (128-a%128))=m[a/128]'h1:=as9 (hm _ (aK h1)) (λy hy=>hs y (List.mem_of_mem_take hy)) (by rw[h2,aV];omega);rw[cB h1,ho,List.set_getElem_self];exact am0 n hp hm (λy hy=>hs y (List.mem_of_mem_drop hy)) (by rw[aM];omega)
theorem aoA (a:Int)(hm:∀x∈m,Jh x)(hs:Jh s):(lY m a s).1=m:=by unfold lY;cases hw:ir m a (s.length:Int);rfl;simp only[ir,ae,aJ]at hw;exact am0 s.length (nt.1 hw.1) hm hs (by omega)
theorem apb:∀(q:aw (Int×Int)){m:bO}{s:Bytes},(∀x∈m,Jh x)->Jh s->Gi q m s=m
 |[],m,s,_,_=>rfl
 |p::q,m,s,hm,hs=>by rw[Gi,aoA _ hm (λy hy=>hs y (List.mem_of_mem_take hy))];exact apb q hm (λy hy=>hs y (List.mem_of_mem_drop hy))
theorem atb (hm:∀x∈m,Jh x)(hs:Jh s)(l:aw aI)(d a:Int)(w:Bool):(hH l m d a s w).1=m:=by unfold hH;cases (lb l m d a (s.length:Int) w).2 with|false=>rfl|true=>exact apb _ hm hs
def Df (n:Nat):bO:=List.replicate n (sK 128)
theorem aqX {n:Nat}:∀x∈Df n,Jh x:=λx hx=>by rw[(List.mem_replicate.1 hx).2];exact SB 128
theorem ahN (n:Nat):Df (n+1)=Df n++[sK 128]:=List.replicate_succ'
theorem R8 (n:Nat)(h:n<=64:=by omega):pT (n:Int)=some (Df n):=by have hz:gY 128 0=some (sK 128):=R6 128;unfold pT;refine dG (λi=>((i:Int),Df i)) n (by omega) (λi nx hi=>?_) (λnx=>?_);simp only[sG];rw[ax (show(i:Int)<n by omega),ah,jP,ab,ah,hz,ab,aX (by simp[Df];omega),ak,ahN];rfl;simp only[sG];rw[aq (show¬(n:Int)<n by omega),af,ab,af]
def tz (a b:Int):Vector×Bool:=bif ew (a,b,0,0,false,false) then((a,b,0,0,false,false),true) else((0,0,0,0,false,false),false)
theorem R9 (a b:Int):yt a b=some (tz a b):=by unfold yt tz;rw[JS,ab];cases ew (a,b,0,0,false,false)<;>rfl
def bZ (i:Nat):aw aI:=(range i).map λ(p:Nat)=>(0,(p:Int),37-(p:Int), !di (p:Int) 2 9)
theorem Rp (i:Nat):bZ (i+1)=bZ i++[(0,(i:Int),37-(i:Int), !di (i:Int) 2 9)]:=by simp[bZ,iz]
theorem EK (i:Nat):(bZ i).length=i:=by simp[bZ]
def asz:Host:=(([]:bO),([]:aw aI),((0,0,0,0),(0,0,0,([]:cc)),([]:aw qc),0),([]:aw bL),([]:aw dD),([]:aw Vector),([]:aw Bool),(0,false,([]:cc)),(([]:aw oe),([]:aw Slot),([]:Bytes),([]:cc)),([]:aw Stream),false,([]:bO),([]:cc),([]:cc),0,0,0,0,0)
def QO (f:Filter)(s:dQ)(c:Bool)(i:Nat):Host:=(Df 38,bZ i,Bm,([]:aw bL),([]:aw dD),([]:aw Vector),([]:aw Bool),f,s,([]:aw Stream),c,([]:bO),([]:cc),([]:cc),0,0,0,0,0)
def T0:bO×lZ×dD×Int:=oX (bZ 38) (Df 38) 0 (CX 0).1 (gK (gR 0+128) 384 4).1
def ao4 (f:Filter)(s:dQ)(c:Bool)(v:Vector):Host:=(T0.1,bZ 38,Bm,[(T0.2.1,(CX 0).2)],[T0.2.2.1],[v],[false],f,s,([]:aw Stream),c,([]:bO),([]:cc),([]:cc),0,0,0,0,0)
def pG (f:Filter)(s:dQ)(c:Bool)(a b:Int):Host×Bool:=
 bif fK f&&(fI s 1&&(tz a b).2) then(ao4 f s c (tz a b).1,true) else(asz,false)
theorem Od (f:Filter)(s:dQ)(c:Bool)(a b:Int)(hf:f.2.2.length<=10^9)(h1:s.1.length<=10^9)(h2:s.2.1.length<=10^9)(h3:s.2.2.2.length<=10^9):uD 1 f s c a b=some (pG f s c a b):=by
 have D7:=eX;unfold uD pG;rw[R9,ab,dV,ab,show di (1:Int) 1 2=true from aU.2 (by omega),FB f hf,LF s 1 h1 h2 h3];simp only[aj,af,ab];cases fK f;rfl;cases fI s 1;rfl;generalize tz a b=v;cases hv:v.2;rfl;have hm:pT 38=some (Df 38):=R8 38;simp only[aj,af,ab,gQ,ah,hm,Vj,C0 f hf,I5 s h1 h2 h3];refine dG (λi=>((i:Int),QO f s c i)) 38 (by omega) (λi nx hi=>?_) (λnx=>?_);have hl:=EK i;simp only[rh];rw[jP,ah,dV,ab,aX (by show(bZ i).length+1<=_;omega),ak (n:=(i:Int)+1),ak (n:=37-(i:Int))];show nx ((i:Int)+1,Df 38,bZ i++_,_)=nx (((i+1:Nat):Int),Df 38,bZ (i+1),_);rw[Rp];rfl;simp only[rh];rw[cL,af];have h38:=EK 38;have D8:(Df 38).length<=10^9:=by rw[Df,List.length_replicate];omega
 have ho:kZ (bZ 38) (Df 38) 0=T0:=by unfold kZ T0;rw[atb aqX (SB 128)];rfl
 have e1:(CX 0).2=((gR 0+64,4,0),(gR 0+64,4,0),((0,0,0,0,0,0,0,0,0,0,0,0,0,0,0,([]:Bytes)),0,0),false,0):=rfl;have hop:=aa7 (Df 38,bZ 38,Bm,[((0,0,0,0),(0,0,0),(0,0,0),((0,0,0,0,0,0,0,0,0,0,0,0,0,0,0,([]:Bytes)),0,0),false,0)],[(0,0,0,([]:cc))],[v.1],[false],f,s,([]:aw Stream),c,([]:bO),([]:cc),([]:cc),0,0,0,0,0) 0 (by omega) (Nat.lt_succ_self 0) (Nat.lt_succ_self 0) (by show(bZ 38).length<=_;omega) D8;unfold Li at hop;simp only[ho,List.set_cons_zero,cM,show((0:Nat):Int)=0 from rfl]at hop;obtain⟨g,hg⟩:∃g,fuel=g+2:=⟨fuel-2,by omega⟩
 unfold QO ao4;rw[e1];generalize gR 0=bb at hop⊢;generalize T0=o at hop⊢;generalize Df 38=m at hop⊢;generalize bZ 38=l at hop⊢;rw[hg,bj,pS];rw[jP,ah];simp only;rw[aX (by simp),aX (by simp),aX (by simp),aX (by simp)];simp only[cv];rw[hop,ab,bj,pS,ak,cL,af]
def ajx:cW:=(([]:aw Host),([]:aw aZ),([]:aw bN),([]:bO),(0,0,0,0),([]:cc),([]:bO))
def Tl (st:dQ)(c:Bool)(bk:uW)(x:bN)(s:aw Host×aw aZ):Except (aB (cW×Bool)) (aw Host×aw aZ):=
 if(pG x.1 st c 1 2).2=true then .ok (s.1++[(pG x.1 st c 1 2).1],s.2++[((s.2.length:Int),(s.2.length:Int)+1,bk,true,0,0)]) else .error (some (ajx,false))
def yh (ms:aw bN)(st:dQ)(c:Bool)(bk:uW)(f:bO)(t:Int):aB (cW×Bool):=
 bif (dw ms).2&&(jg bk&&(!decide (iZ f<0)&&sT (0,0,t,0))) then
  Eg (Tl st c bk) (λs=>some ((s.1,s.2,ms,f,(0,0,t,0),([]:cc),([]:bO)),true)) ms ([],[])
 else some (ajx,false)
theorem aa6 (ms:aw bN)(st:dQ)(c:Bool)(bk:uW)(f:bO)(t:Int)(hm:ms.length<=10^9)(hx:∀m∈ms,m.1.2.2.length<=10^9)(hf:f.length<=10^9)(h1:st.1.length<=10^9)(h2:st.2.1.length<=10^9)(h3:st.2.2.2.length<=10^9):uC ms st c bk f t=yh ms st c bk f t:=by
 have D7:=eX;unfold uC yh;rw[aa8 ms hx,ab,mP];simp only[R5,al8,Vc,ab];cases hp:(dw ms).2;rfl;cases jg bk;rfl;cases decide (iZ f<0);case true=>rfl
 cases sT (0,0,t,0);rfl;have h3':=N3 hp;simp only[aj,af,ab,gQ,bE,ah,cv];refine vF ms (λs i=>(((i:Int),s.1,s.2,ms.take i,f,(0,0,t,0),([]:cc),([]:bO)):Int×cW)) (λi s=>s.1.length=i/\s.2.length=i) (Tl st c bk) _ (by omega) (λi hi s nx hI=>?_) (λi hi s s' hI he=>?_) (λs nx hI=>?_) ([],[]) ⟨rfl,rfl⟩;simp only[wq];rw[jP,ah,bB hi,ab,Od _ st c 1 2 (hx _ (aK hi)) h1 h2 h3,ab];unfold Tl;cases hb:(pG ms[i].1 st c 1 2).2 with|false=>rfl|true=>rw[aH rfl];simp only[aj,af];rw[aX (by rw[aY];omega),aX (by rw[aY];omega),ab,OZ _ (hx _ (aK hi)),ab,aX (by rw[aY,aV];omega),ak,hI.2,bl hi];rfl
 unfold Tl at he;split at he;injection he with he;rw[<-he];simp[hI.1,hI.2];cases he;simp only[wq];rw[cL,af,cO]
def Ends (o:aB α)(P:α->Prop):Prop:=∃x,o=some x/\P x
theorem Ends.pure {x:α}{P:α->Prop}(h:P x):Ends (some x) P:=⟨x,rfl,h⟩
theorem Ends.bind {o:aB α}{P:α->Prop}{k:α->aB R}{Q:R->Prop}(h:Ends o P)(hk:∀x,P x->Ends (k x) Q):Ends (aa o k) Q:=by obtain⟨x,rfl,hx⟩:=h;exact hk x hx
theorem Ends.mono {o:aB α}{P Q:α->Prop}(h:Ends o P)(hq:∀x,P x->Q x):Ends o Q:=by obtain⟨x,hx,hp⟩:=h;exact⟨x,hx,hq x hp⟩
theorem Ends.cond {c:Bool}{a b:aB α}{P:α->Prop}(h1:c=true->Ends a P)(h2:c=false->Ends b P):Ends (cond c a b) P:=by cases c with|true=>exact h1 rfl|false=>exact h2 rfl
theorem Ends.ifn {p:Prop}[Decidable p]{a:aB α}{P:α->Prop}(h:¬p)(ha:Ends a P):Ends (if p then none else a) P:=by rw[aG h];exact ha
theorem Ends.room {n:Nat}{k:aB α}{P:α->Prop}(h:n<=1073741824)(hk:Ends k P):Ends (room n k) P:=by rw[aX h];exact hk
theorem Ends.of {o:aB α}{x:α}{P:α->Prop}(h:o=some x)(hp:P x):Ends o P:=⟨x,h,hp⟩
theorem Ends.iter {σ:Type}{T:(σ->aB R)->σ->aB R}{Q:R->Prop}(I:σ->Prop)(m:σ->Nat)(hs:∀x nx,I x->(∀y,I y->m y<m x->Ends (nx y) Q)->Ends (T nx x) Q): ∀n x,I x->m x<n->Ends (bj T n x) Q:=by intro n;induction n with|zero=>intro x _ h;omega|succ n ih=>intro x hx hm;rw[bj];exact hs x _ hx λy hy hG=>ih y hy (by omega)
theorem Ends.ye {σ:Type}{T:(σ->aB R)->σ->aB R}{Q:R->Prop}(I:σ->Prop)(m:σ->Nat){x:σ}(hx:I x)(hm:m x<=1000000000000)(hs:∀x nx,I x->(∀y,I y->m y<m x->Ends (nx y) Q)->Ends (T nx x) Q):Ends (bj T fuel x) Q:=Ends.iter I m hs fuel x hx (by have:=eX;omega)
theorem Ends.idx {xs:aw α}{i:Int}{k:α->aB R}{Q:R->Prop}(h0:0<=i)(h1:i<(xs.length:Int))(hk:∀(h:i.toNat<xs.length),Ends (k xs[i.toNat]) Q):Ends (aa (idx xs i) k) Q:=by
 obtain⟨n,rfl⟩:=aD h0;have hn:n<xs.length:=by omega
 rw[bB hn,ab];exact hk (by simpa using hn)
abbrev Bo:=cc×Int×Int
def Cu (c:Bo):Prop:=0<=c.2.1/\c.2.1<=(c.1.length:Int)/\c.1.length<=1048576
theorem ajl (x y:Int)(n:Nat)(hy:(iR y).toNat=n)(hn:n<9223372036854775808):0<=ar (BitVec.toNat (iR x&&&iR y))/\ar (BitVec.toNat (iR x&&&iR y))<=n:=by
 have h:(iR x&&&iR y).toNat<=n:=by rw[BitVec.toNat_and,hy];exact Nat.and_le_right
 generalize (iR x&&&iR y).toNat=k at h;rw[ak];omega
theorem arb {a:cc}(ha:a.length<=1048576):Ends (DS a) Cu:=by
 unfold DS;refine Ends.ye (λx=>0<=x.2/\x.2<=4000) (λx=>(4000-x.2).toNat) ⟨by omega,by omega⟩ (by simp) λx nx hx hn=>?_;unfold C5;refine Ends.bind (P:=λb=>b=true->x.2<(a.length:Int)/\x.2<4000) (Ends.cond (λh=>Ends.pure λh2=>⟨bA h,bA h2⟩) λh=>Ends.pure λh2=>by cases h2) λq hq=>?_;refine Ends.cond (λh=>?_) (λh=>Ends.pure ⟨cU _,by simp,ha⟩);have hq:=hq h;refine Ends.idx hx.1 hq.1 λ_=>hn _ ⟨?_,?_⟩ ?_;all_goals simp only[ak (n:=x.2+1) (by omega) (by omega)]
 all_goals omega
theorem HK {c:Bo}(h:Cu c):Ends (lV c) λr=>(0<=r.1/\r.1<=255)/\Cu r.2:=by
 unfold lV;refine Ends.ifn (by decide) (Ends.ifn (by decide) (Ends.cond (λh1=>?_) λh1=>?_))
 ·have h1:=bA h1;refine Ends.idx h.1 h1 λ_=>Ends.pure ⟨ajl _ 255 255 rfl (by decide),?_⟩;refine⟨?_,?_,h.2.2⟩;all_goals simp only[ak (n:=c.2.1+1) (by have:=h.1;omega) (by have:=h.2.2;omega)]
  have:=h.1;omega;omega
 exact Ends.pure ⟨ajl _ 255 255 rfl (by decide),h.1,h.2.1,h.2.2⟩
theorem iA {c:Bo}(h:Cu c)(hn:0<n:=by omega):Ends (dv c n) λr=>(0<=r.1/\r.1<n)/\Cu r.2:=by unfold dv;rw[cL];simp only[af];refine Ends.cond (λh1=>?_) λh1=>?_;refine(HK h).bind λr hr=>Ends.ifn (by omega) (Ends.pure ⟨⟨Int.tmod_nonneg _ hr.1.1,Int.tmod_lt_of_pos _ hn⟩,hr.2⟩);refine(HK h).bind λr2 h2=>(HK h2.2).bind λr3 h3=>(HK h3.2).bind λr4 h4=>(HK h4.2).bind λr5 h5=>Ends.ifn (by omega) (Ends.pure ⟨⟨Int.tmod_nonneg _ ?_,Int.tmod_lt_of_pos _ hn⟩,h5.2⟩);have a2:=h2.1;have a3:=h3.1;have a4:=h4.1;have a5:=h5.1;rw[ak (n:=r2.1*16777216),ak (n:=r3.1*65536),ak (n:=r4.1*256)];rw[ak (n:=r2.1*16777216+r3.1*65536)];rw[ak (n:=r2.1*16777216+r3.1*65536+r4.1*256)];rw[ak];omega
theorem ajn {c:Bo}(h:Cu c)(n:Int):Ends (dv c n) λr=>(0<=r.1/\(r.1<n\/r.1=0))/\Cu r.2:=by
 rcases Int.lt_or_le 0 n with hn|hn;exact(iA h hn).mono λr hr=>⟨⟨hr.1.1,Or.inl hr.1.2⟩,hr.2⟩
 unfold dv;rw[ax hn];exact Ends.pure ⟨⟨cU _,Or.inr rfl⟩,h⟩
theorem wg {c:Bo}(h:Cu c)(n:Int):Ends (gZ c n) λr=>Cu r.2:=by unfold gZ;exact(ajn h n).bind λr hr=>Ends.pure hr.2
theorem la {c:Bo}(h:Cu c){l:cc}{P:Int->Prop}(hl:0<l.length)(hp:∀x∈l,P x):Ends (dx c l) λr=>P r.1/\Cu r.2:=by unfold dx;exact(iA h).bind λr hr=>Ends.idx hr.1.1 hr.1.2 λhi=>Ends.pure ⟨hp _ (aK hi),hr.2⟩
theorem Ik {c:Bo}(h:Cu c)(n:Int):Ends (lW c n) λr=>(r.1.length<=5000/\(0<=n->n<=5000->(r.1.length:Int)=n)/\(n<=0->r.1=[]))/\Cu r.2:=by
 have key:∀v:Int,v<=5000->∀Q:(Bytes×Bo)->Prop,(∀x c,((x.length:Int)=v\/(v<=0/\x=[]))->Cu c->Q (aQ x,c))->Ends (bj (rl (λy _ z=>some (aQ y,z)) v) fuel (([]:cc),0,c)) Q:=by
  intro v hv Q hQ;refine Ends.ye (λx=>(x.1.length:Int)=x.2.1/\(x.2.1<=v\/x.2.1=0)/\Cu x.2.2) (λx=>(v-x.2.1).toNat) ⟨rfl,Or.inr rfl,h⟩ (by simp;omega) λx nx hx hn=>?_;unfold rl;refine Ends.cond (λh1=>?_) λh1=>Ends.pure (hQ _ _ ?_ hx.2.2)
  ·have h1:=bA h1;refine(HK hx.2.2).bind λr hr=>Ends.room (by simp;omega) (hn _ ⟨?_,?_,hr.2⟩ ?_);all_goals simp only[ak (n:=x.2.1+1) (by omega) (by omega)]
   simp;omega;omega;omega
  have h1:=eH h1;rcases hx.2.1 with h2|h2;exact Or.inl (by omega);rcases Int.lt_or_le 0 v with h3|h3;omega;exact Or.inr ⟨h3,cr (by omega)⟩
 have hb:∀x:cc,(aQ x).length=x.length:=λx=>by simp[aQ]
 unfold lW;refine Ends.cond (λh1=>?_) λh1=>?_;have h1:=bA h1;refine key 5000 (by omega) _ λx c hx hc=>⟨⟨by rw[hb];rcases hx with hx|hx<;>omega,λ_ _=>by omega,λ_=>by omega⟩,hc⟩
 have h1:=eH h1;refine key n (by omega) _ λx c hx hc=>⟨⟨?_,λh0 _=>?_,λh0=>?_⟩,hc⟩
 rw[hb];rcases hx with hx|hx;omega;rw[hx.2];simp;rw[hb];rcases hx with hx|hx;omega;rw[hx.2];simp;omega;rcases hx with hx|hx;have:x=[]:=cr (by omega);rw[this];rfl;rw[hx.2];rfl
theorem akJ {c:Bo}(h:Cu c):Ends (BS c) λr=>(167772161<=r.1/\r.1<=167772163)/\Cu r.2:=by unfold BS;refine(iA h (by decide)).bind λr hr=>Ends.pure ⟨?_,hr.2⟩;have:=hr.1;simp only[ak (n:=167772161+r.1) (by omega) (by omega)];omega
theorem agP {c:Bo}(h:Cu c):Ends (Ah c) λr=>(0<=r.1/\r.1<=31)/\Cu r.2:=by unfold Ah;exact(la (P:=λx=>0<=x/\x<=31) h (by decide) (by decide)).bind λr hr=>Ends.pure hr
theorem aro {c:Bo}(h:Cu c){m:Int}(h0:0<=m)(h1:m<=320):Ends (wA c m) λr=>(vG r.1=true/\(r.1.2.2.2.2.2.2.2.length:Int)<=m)/\Cu r.2:=by
 unfold wA;refine(iA h (by decide)).bind λr1 p1=>(iA p1.2 (by decide)).bind λr2 p2=>?_;refine(la (P:=λx=>0<=x/\x<=4294967295) p2.2 (by simp) ?_).bind λr3 p3=>?_;have:=p2.1;intro x hx;simp only[bU,List.not_mem_nil,or_false]at hx;omega;refine(la (P:=λx=>0<=x/\x<=4294967295) p3.2 (by decide) (by decide)).bind λr4 p4=>(agP p4.2).bind λr5 p5=>?_;refine(la (P:=λx=>0<=x/\x<=65535) p5.2 (by decide) (by decide)).bind λr6 p6=>?_;rw[ak (n:=m+1)];refine(iA p6.2).bind λr7 p7=>(Ik p7.2 r7.1).bind λr8 p8=>(wg p8.2 4).bind λr9 p9=>?_;have a1:=p1.1;have a7:=p7.1;have a8:=p8.1.2.1 a7.1 (by omega);rw[ak (n:=1000+r1.1)];refine Ends.cond (λ_=>Ends.pure ⟨⟨al0 (by omega) (by omega) (by omega),?_⟩,p9⟩) λ_=>Ends.pure ⟨⟨aaY (by omega) (by omega) p3.1 p4.1 p5.1 p6.1 (by omega),?_⟩,p9⟩;all_goals show(r8.1.length:Int)<=m
 all_goals omega
theorem aic {c:Bo}(h:Cu c){m:Int}(h0:0<=m)(h1:m<=320):Ends (pV c m) λr=>(dS r.1=true/\(r.1.2.2.2.2.2.2.2.2.2.2.2.2.2.2.2.length:Int)<=m/\(r.1.2.2.2.2.2.2.2.2.1=6\/r.1.2.2.2.2.2.2.2.2.1=17))/\Cu r.2:=by
 unfold pV;refine(la (P:=λx=>0<=x/\x<=281474976710655) h (by decide) (by decide)).bind λr1 p1=>?_;refine(la (P:=λx=>0<=x/\x<=281474976710655) p1.2 (by decide) (by decide)).bind λr2 p2=>?_;refine(la (P:=λx=> -1<=x/\x<=4095) p2.2 (by decide) (by decide)).bind λr3 p3=>?_;refine(la (P:=λx=>0<=x/\x<=255) p3.2 (by decide) (by decide)).bind λr4 p4=>?_;refine(la (P:=λx=>0<=x/\x<=65535) p4.2 (by decide) (by decide)).bind λr5 p5=>?_;refine(la (P:=λx=>0<=x/\x<=255) p5.2 (by decide) (by decide)).bind λr6 p6=>?_;refine(akJ p6.2).bind λr7 p7=>?_;refine(aro p7.2 (m:=if 128<m then 128 else m) (by split<;>omega) (by split<;>omega)).bind λr8 p8=>?_;have hh:∀g:gF,vG g=true->sa (r1.1,r2.1,r3.1,r4.1,r5.1,r6.1,r7.1,167772161,g)=true:=λg hg=>akC p1.1 p2.1 p3.1 p4.1 p5.1 p6.1 (by have:=p7.1;omega) (by omega) hg;have hk:∀g:gF,vG g=true->g.1=6\/g.1=17:=by intro g hg;unfold vG at hg;simp only[ae]at hg;have h2:=hg.2.2.2;cases h17:g.1==17 with|true=>exact Or.inr (by simpa using h17)|false=>rw[h17]at h2;simp only[af,ae]at h2;exact Or.inl (by simpa using h2.1)
 have hl:(r8.1.2.2.2.2.2.2.2.length:Int)<=128/\(r8.1.2.2.2.2.2.2.2.length:Int)<=m:=by have:=p8.1.2;split at this<;>omega
 have short:∀c':Bo,Cu c'->Ends (some ((r1.1,r2.1,r3.1,r4.1,r5.1,r6.1,r7.1,(167772161:Int),r8.1),c')) λr:aN×Bo=>(dS r.1=true/\(r.1.2.2.2.2.2.2.2.2.2.2.2.2.2.2.2.length:Int)<=m/\(r.1.2.2.2.2.2.2.2.2.1=6\/r.1.2.2.2.2.2.2.2.2.1=17))/\Cu r.2:=by intro c' Cf;refine Ends.pure ⟨⟨?_,hl.2,hk _ p8.1.1⟩,Cf⟩;unfold dS;rw[hh _ p8.1.1,bt];have:decide ((r8.1.2.2.2.2.2.2.2.length:Int)<=128)=true:=ax hl.1;show(decide ((r8.1.2.2.2.2.2.2.2.length:Int)<=128)||_)=true;rw[this,je]
 refine Ends.cond (λk1=>Ends.cond (λk2=>Ends.cond (λk3=>?_) λ_=>short _ p8.2) λ_=>short _ p8.2) λ_=>short _ p8.2;have k3:=bA k3;refine(wg p8.2 2).bind λr9 p9=>Ends.cond (λ_=>?_) λ_=>short _ p9;rw[ak (n:=m-128),ak (n:=m-128+1)];refine(iA p9).bind λxp p10=>?_;have a10:=p10.1;rw[ak (n:=128+xp.1)];refine(Ik p10.2 _).bind λAN p11=>?_;have a11:=p11.1.2.1 (by omega) (by omega);have hs:=aiA p8.1.1 (x:=AN.1) (by omega);refine Ends.pure ⟨⟨?_,by show(AN.1.length:Int)<=m;omega,Or.inl (by simpa using k1)⟩,p11.2⟩;unfold dS;rw[hh _ hs,bt];rw[Ql _ (Ig p8.1.1 k1)]at k2;show(_||(r8.1.1==6)&&E9 r8.1.2.2.2.2.2.1)=true;rw[k1,k2,cq,jd]
def Plain (p:aN):Prop:=sa p=true/\p.2.2.2.2.2.2.2.2.2.2.2.2.2.2.2.length<=40
theorem Plain.ok (h:Plain p):eY p=true:=(aav p).2 ⟨h.1,by have:=h.2;omega⟩
theorem Ln {c:Bo}(h:Cu c):Ends (pV c 40) λr=>Plain r.1/\Cu r.2:=(aic h (by omega) (by omega)).mono λr hr=>⟨⟨by have:=hr.1.1;unfold dS at this;simp only[ae]at this;exact this.1,by have:=hr.1.2.1;omega⟩,hr.2⟩
theorem alj {Q:R->Prop}{k0:aw aN->Bo->aN->aB R}{l:aw aN}{z:Int}{c:Bo}(hl:l.length<=1000)(hc:Cu c)(hp:Plain p)(hk:∀c' p',Cu c'->Plain p'->Ends (k0 (l++[p]) c' p') Q):Ends (pX k0 l z n c p) Q:=by
 unfold pX;have hi:=an5 (QH hp.1);have hs:=CD hp.1;refine Ends.room (by simp;omega) (Ends.ifn (by decide) (Ends.cond (λh6=>?_) λ_=>hk _ _ hc ⟨Ey (p:=p) hp.1 hi hs,hp.2⟩));have h6:p.2.2.2.2.2.2.2.2.1=6:=by simpa using h6
 refine(wg hc 8).bind λr hr=>Ends.cond (λ_=>Ends.ifn (by decide) (hk _ _ hr ⟨Ey (p:=p) hp.1 hi ?_,hp.2⟩)) λ_=>hk _ _ hr ⟨Ey (p:=p) hp.1 hi hs,hp.2⟩;have k:=afM hs h6;have hlen:p.2.2.2.2.2.2.2.2.2.2.2.2.2.2.2.length<=320:=by have:=hp.2;omega
 exact RZ hs h6 (alB k.2.2.1 hlen) k.2.2.2.2.1 hlen
theorem ali {Q:R->Prop}{k0:aw aN->Bo->aN->aB R}{l:aw aN}{z:Int}{c:Bo}(hl:l.length<=1000)(hz:1<=z/\z<=40)(hc:Cu c)(hp:Plain p)(hk:∀q c' p',Plain q->Cu c'->Plain p'->Ends (k0 (l++[q]) c' p') Q):Ends (pW k0 l z n c p) Q:=by
 unfold pW;refine Ends.cond (λh6=>?_) λ_=>alj hl hc hp λc' p' h1 h2=>hk _ _ _ hp h1 h2;have h6:p.2.2.2.2.2.2.2.2.1=6:=by simpa using h6
 refine(la (P:=λx=>0<=x/\x<=31) hc (by decide) (by decide)).bind λr8 p8=>(Ik p8.2 z).bind λr9 p9=>?_;have a9:=p9.1.2.1 (by omega) (by omega);have hs:=CD hp.1;have hq:Plain (p.1,p.2.1,p.2.2.1,p.2.2.2.1,p.2.2.2.2.1,p.2.2.2.2.2.1,p.2.2.2.2.2.2.1,p.2.2.2.2.2.2.2.1,p.2.2.2.2.2.2.2.2.1,p.2.2.2.2.2.2.2.2.2.1,p.2.2.2.2.2.2.2.2.2.2.1,p.2.2.2.2.2.2.2.2.2.2.2.1,p.2.2.2.2.2.2.2.2.2.2.2.2.1,r8.1,p.2.2.2.2.2.2.2.2.2.2.2.2.2.2.1,r9.1):=⟨Ey hp.1 (QH hp.1) (RZ hs h6 (afM hs h6).2.2.1 p8.1 (by omega)),by show r9.1.length<=40;omega⟩
 exact alj hl p9.2 hq λc' p' h1 h2=>hk _ _ _ hq h1 h2
theorem ao8 {Q:R->Prop}{k0:aw aN->Int->Bo->aN->aB R}{l:aw aN}{z:Int}{c:Bo}(hl:l.length<=1000)(hz:1<=z/\z<=40)(hc:Cu c)(hp:Plain p)(hk:∀q z' c' p',Plain q->(1<=z'/\z'<=40)->Cu c'->Plain p'->Ends (k0 (l++[q]) z' c' p') Q):Ends (rn k0 l z n c p) Q:=by unfold rn;refine(wg hc 6).bind λr6 p6=>Ends.cond (λ_=>?_) λ_=>ali hl hz p6 hp λq c' p' h1 h2 h3=>hk _ _ _ _ h1 hz h2 h3;refine(iA p6 (by decide)).bind λr7 p7=>?_;have a7:=p7.1;rw[ak (n:=1+r7.1)];exact ali hl (by omega) p7.2 hp λq c' p' h1 h2 h3=>hk _ _ _ _ h1 (by omega) h2 h3
theorem as2 {Q:R->Prop}{k0:aw aN->Int->Int->Bo->aN->aB R}{l:aw aN}{z:Int}{c:Bo}(hl:l.length<=1000)(hz:1<=z/\z<=40)(hn:0<n/\n<=1000)(hc:Cu c)(hp:Plain p)(hk:∀q z' c' p',Plain q->(1<=z'/\z'<=40)->Cu c'->Plain p'->Ends (k0 (l++[q]) z' (n-1) c' p') Q):Ends (wB k0 l z n c p) Q:=by unfold wB;have e:ar (n-1)=n-1:=ak;refine(wg hc 5).bind λr4 p4=>Ends.cond (λ_=>?_) λ_=>?_;refine(Ln p4).bind λr5 p5=>ao8 hl hz p5.2 p5.1 λq z' c' p' h1 h2 h3 h4=>?_;unfold rm;rw[e];exact hk _ _ _ _ h1 h2 h3 h4;refine ao8 hl hz p4 hp λq z' c' p' h1 h2 h3 h4=>?_;unfold rm;rw[e];exact hk _ _ _ _ h1 h2 h3 h4
theorem an0 {c:Bo}(h:Cu c){m:Int}(h0:0<m)(h1:m<=100):Ends (BT c m) λr=>((∀p∈r.1,Plain p)/\0<r.1.length/\(r.1.length:Int)<=m)/\Cu r.2:=by unfold BT;refine(Ln h).bind λr1 p1=>(iA p1.2 (by decide)).bind λr2 p2=>(iA p2.2 h0).bind λr3 p3=>?_;have a2:=p2.1;have a3:=p3.1;rw[ak (n:=r2.1*8),ak (n:=8+r2.1*8),ak (n:=1+r3.1)];refine Ends.ye (λx=>(∀p∈x.1,Plain p)/\(1<=x.2.1/\x.2.1<=40)/\0<=x.2.2.1/\(x.1.length:Int)+x.2.2.1=1+r3.1/\Cu x.2.2.2.1/\Plain x.2.2.2.2) (λx=>x.2.2.1.toNat) ⟨by simp,(by dsimp only;omega),(by dsimp only;omega),by simp,p3.2,p1.1⟩ (by simp;omega) λx nx hx hn=>?_;unfold Bg;refine Ends.cond (λk=>?_) λk=>?_;have k:=bA k;refine as2 (by omega) hx.2.1 (by omega) hx.2.2.2.2.1 hx.2.2.2.2.2 λq z' c' p' h1 h2 h3 h4=>hn _ ⟨?_,h2,?_,?_,h3,h4⟩ ?_;intro y hy;rcases aA.1 hy with hy|hy;exact hx.1 y hy;simp only[br]at hy;rw[hy];exact h1;show 0<=x.2.2.1-1;omega;show((x.1++[q]).length:Int)+(x.2.2.1-1)=1+r3.1;have:=hx.2.2.2.1;simp;omega;show(x.2.2.1-1).toNat<x.2.2.1.toNat;omega;have k:=eH k;have:=hx.2.2.2.1;have:=hx.2.2.1;exact Ends.pure ⟨⟨hx.1,(by dsimp only;omega),(by dsimp only;omega)⟩,hx.2.2.2.2.1⟩
theorem aqU {c:Bo}(h:Cu c):Ends (DT c) λr=>r.1.length=16/\Cu r.2:=by unfold DT;exact(Ik h 16).bind λr hr=>Ends.pure ⟨by have:=hr.1.2.1 (by omega) (by omega);omega,hr.2⟩
structure Dk (s:dQ):Prop where
 r:s.1.length<=100
 t:s.2.1.length<=100
 k:s.2.2.1.length=16
 p:s.2.2.2.length<=100
theorem YC {c:Bo}(h:Cu c):Ends (yz c) λr=>(r.1.1=2/\(r.1.2.2=[7]\/r.1.2.2=[]))/\Cu r.2:=by unfold yz;exact(wg h 4).bind λr1 p1=>(wg p1 2).bind λr2 p2=>Ends.cond (λ_=>Ends.pure ⟨⟨rfl,Or.inl rfl⟩,p2⟩) λ_=>Ends.pure ⟨⟨rfl,Or.inr rfl⟩,p2⟩
theorem aqV:gG (bZ 38)=true:=by decide+kernel
def Bj (f:Filter)(s:dQ)(c:Bool):aw Vector->Host
 |[]=>QO f s c 38
 |v::vs=>Li ((Bj f s c vs).1,(Bj f s c vs).2.1,(Bj f s c vs).2.2.1,(Bj f s c vs).2.2.2.1++[((0,0,0,0),(0,0,0),(0,0,0),((0,0,0,0,0,0,0,0,0,0,0,0,0,0,0,([]:Bytes)),0,0),false,0)],(Bj f s c vs).2.2.2.2.1++[(0,0,0,([]:cc))],(Bj f s c vs).2.2.2.2.2.1++[v],(Bj f s c vs).2.2.2.2.2.2.1++[false],(Bj f s c vs).2.2.2.2.2.2.2) vs.length
def TP (h:Host):=(h.1,h.2.1,h.2.2.1,h.2.2.2.1,h.2.2.2.2.1,h.2.2.2.2.2.1,h.2.2.2.2.2.2.1)
structure Made (f:Filter) (s:dQ) (c:Bool) (k:Nat) (h:Host):Prop where
 mem:dq h.1=true
 ml:h.1.length=38
 maps:h.2.1=bZ 38
 tx:h.2.2.1=Bm
 rx:h.2.2.2.1.length=k
 rxs:∀r∈h.2.2.2.1,Co 0 r/\r.2.2.2.2.1=false
 pl:h.2.2.2.2.1.length=k
 pls:∀p∈h.2.2.2.2.1,dI p=true/\p.2.2.2.length<=1000
 vec:h.2.2.2.2.2.1.length=k
 abx:∀v∈h.2.2.2.2.2.1,ew v=true
 pol:h.2.2.2.2.2.2.1.length=k
 rest:h.2.2.2.2.2.2.2=(f,s,([]:List Stream),c,([]:List Bytes),([]:List Int),([]:List Int),0,0,0,0,0)
 is:∃vs,vs.length=k/\h=Bj f s c vs/\∀v∈vs,v.2.1<=3/\v.2.2.2.2.1=false
theorem aa1 (l:aw α)(x y:α):(l++[x]).set l.length y=l++[y]:=by simp
theorem an3 {n:Nat}(h:n<=64):dq (Df n)=true:=nt.2 ⟨λx hx=>by rw[(List.mem_replicate.1 hx).2];exact xi 128,by simp[Df];exact h⟩
theorem ahK {f:Filter}{s:dQ}{c:Bool}(m:Made f s c k h)(hk:k<=8)(hv:ew v=true)(h3:v.2.1<=3/\v.2.2.2.2.1=false):Ends (yB (h.1,h.2.1,h.2.2.1,h.2.2.2.1++[((0,0,0,0),(0,0,0),(0,0,0),((0,0,0,0,0,0,0,0,0,0,0,0,0,0,0,([]:Bytes)),0,0),false,0)],h.2.2.2.2.1++[(0,0,0,([]:cc))],h.2.2.2.2.2.1++[v],h.2.2.2.2.2.2.1++[false],h.2.2.2.2.2.2.2) (k:Int)) λr=>Made f s c (k+1) r.2:=by
 refine Ends.of (aa7 _ k hk (by simp[m.rx]) (by simp[m.pl]) (by show h.2.1.length<=_;rw[m.maps,EK];omega) (by show h.1.length<=_;rw[m.ml];omega)) ?_;have o:=US m.mem h.2.1 hk;have e1:(h.2.2.2.1++[(((0,0,0,0),(0,0,0),(0,0,0),((0,0,0,0,0,0,0,0,0,0,0,0,0,0,0,([]:Bytes)),0,0),false,0):bL)])[k]?=some ((0,0,0,0),(0,0,0),(0,0,0),((0,0,0,0,0,0,0,0,0,0,0,0,0,0,0,([]:Bytes)),0,0),false,0):=by rw[<-m.rx];simp
 have e2:∀y:bL,(h.2.2.2.1++[(((0,0,0,0),(0,0,0),(0,0,0),((0,0,0,0,0,0,0,0,0,0,0,0,0,0,0,([]:Bytes)),0,0),false,0):bL)]).set k y=h.2.2.2.1++[y]:=λy=>by rw[<-m.rx];exact aa1 _ _ _
 have e3:∀y:dD,(h.2.2.2.2.1++[(((0,0,0,([]:cc))):dD)]).set k y=h.2.2.2.2.1++[y]:=λy=>by rw[<-m.pl];exact aa1 _ _ _
 obtain⟨vs,vl,ve,vb⟩:=m.is;have is0:Li (h.1,h.2.1,h.2.2.1,h.2.2.2.1++[((0,0,0,0),(0,0,0),(0,0,0),((0,0,0,0,0,0,0,0,0,0,0,0,0,0,0,([]:Bytes)),0,0),false,0)],h.2.2.2.2.1++[(0,0,0,([]:cc))],h.2.2.2.2.2.1++[v],h.2.2.2.2.2.2.1++[false],h.2.2.2.2.2.2.2) k=Bj f s c (v::vs):=by rw[Bj,<-ve,vl]
 unfold Li at is0⊢;simp only[e1,e2,e3]at is0⊢;have hp:(kZ h.2.1 h.1 k).2.2.1.2.2.2.length<=1000:=by unfold kZ;exact bq (Jr ..) (qC _ _ _)
 refine⟨o.1,?_,m.maps,m.tx,by show(_++[_]).length=_;rw[ai,m.rx];rfl,?_,by show(_++[_]).length=_;rw[ai,m.pl];rfl,?_,by show(_++[_]).length=_;rw[ai,m.vec];rfl,?_,by show(_++[_]).length=_;rw[ai,m.pol];rfl,m.rest,⟨v::vs,by simp[vl],is0,λw hw=>?_⟩⟩;show(kZ h.2.1 h.1 k).1.length=38;rw[UR,m.ml];intro r hr;rcases aA.1 hr with hr|hr;exact m.rxs r hr;rw[br.1 hr];exact⟨aaX hk o.2.1 ⟨cU _,cU _⟩,rfl⟩;intro p hp';rcases aA.1 hp' with hp'|hp';exact m.pls p hp';rw[br.1 hp'];exact⟨o.2.2,hp⟩;intro w hw;rcases aA.1 hw with hw|hw;exact m.abx w hw;rw[br.1 hw];exact hv;rcases bU.1 hw with e|e;rw[e];exact h3;exact vb w e
def axZ (h:Host):dQ:=h.2.2.2.2.2.2.2.2.1
structure Iw (h:Host):Prop where
 SY:Good 0 h
 sz:zC 2000 h
 maps:∀m∈h.2.1,m.2.2.1<(h.1.length:Int)
 led:h.2.2.1.2.2.1=[]/\h.2.2.2.2.2.2.2.2.2.2.2.1=[]/\h.2.2.2.2.2.2.2.2.2.2.2.2.1=[]/\h.2.2.2.2.2.2.2.2.2.2.2.2.2.1=[]
 is:∃f s c vs,vs.length<=2/\TP h=TP (Bj f s c vs)/\∀v∈vs,v.2.1<=3/\v.2.2.2.2.1=false
theorem adK {f:Filter}{s:dQ}{c:Bool}(m:Made f s c k h)(hk:1<=k/\k<=2)(hf:fK f=true)(Dc:f.2.2.length<=1000)(hs:fI s (k:Int)=true)(hz:Dk s):Iw h:=by have h4:=qC 256 128 8;obtain⟨vs,vl,ve,vb⟩:=m.is;obtain⟨m1,m2,m3,m4,m5,m6,m7,m8,m9,m10,m11,m12,_⟩:=m;obtain⟨mem,maps,tx,rx,pl,vec,pol,rest⟩:=h;simp only at m1 m2 m3 m4 m5 m6 m7 m8 m9 m10 m11 m12;subst m12 m3 m4;refine⟨⟨m1,aqV,amQ 0 (by omega),hf,?_,by show fI s (rx.length:Int)=true;rw[m5];exact hs,λr hr=>(m6 r hr).1,λp hp=>(m8 p hp).1,m10,?_⟩,⟨?_,?_⟩,?_,⟨rfl,rfl,rfl,rfl⟩,⟨f,s,c,vs,by omega,congrArg TP ve,vb⟩⟩;unfold tu;simp only[ae,aU,bn];omega;intro x hx;simp only[jA,bU,List.not_mem_nil,or_false,or_self]at hx;omega;have hm:=(nt.1 m1).1;refine⟨⟨by show mem.length<=2000;omega,λx hx=>by show x.length<=2000;rw[hm x hx];omega⟩,⟨by show(bZ 38).length<=2000;rw[EK];omega,λ_ _=>⟨cG,cG,cG,cG⟩⟩,?_,?_,?_,?_,?_,⟨cG,cG,by show f.2.2.length<=2000;omega,λ_ _=>trivial⟩,?_,⟨cd _,λx hx=>by cases hx⟩,cG,⟨cd _,λx hx=>by cases hx⟩,⟨cd _,λx hx=>by cases hx⟩,⟨cd _,λx hx=>by cases hx⟩,cG,cG,cG,cG,cG⟩;exact⟨⟨cG,cG,cG,cG⟩,⟨cG,cG,cG,by show List.length (gK 256 128 8).1.2.2.2<=2000;omega,λ_ _=>trivial⟩,⟨cd _,λx hx=>by cases hx⟩,cG⟩;refine⟨by show rx.length<=2000;omega,λx hx=>?_⟩;have e:=(m6 x hx).1.free (m6 x hx).2;refine⟨⟨cG,cG,cG,cG⟩,⟨cG,cG,cG⟩,⟨cG,cG,cG⟩,?_,cG,cG⟩;rw[e];exact⟨⟨cG,cG,cG,cG,cG,cG,cG,cG,cG,cG,cG,cG,cG,cG,cG,cd _⟩,cG,cG⟩;exact⟨by show pl.length<=2000;omega,λx hx=>⟨cG,cG,cG,by have:=(m8 x hx).2;show x.2.2.2.length<=2000;omega,λ_ _=>trivial⟩⟩;exact⟨by show vec.length<=2000;omega,λx hx=>⟨cG,cG,cG,cG,cG,cG⟩⟩;exact⟨by show pol.length<=2000;omega,λx hx=>trivial⟩;exact⟨⟨by have:=hz.r;show s.1.length<=2000;omega,λ_ _=>⟨cG,cG,cG,cG,cG,cG,cG,cG,cG⟩⟩,⟨by have:=hz.t;show s.2.1.length<=2000;omega,λ_ _=>⟨cG,⟨cG,cG,cG,cG,cG⟩,cG⟩⟩,by have:=hz.k;show s.2.2.1.length<=2000;omega,by have:=hz.p;show s.2.2.2.length<=2000;omega,λ_ _=>trivial⟩;show List.length (gK 256 128 8).1.2.2.2+0<=2000;omega;intro m hm;have hm:m∈bZ 38:=hm;simp only[bZ,dB,bG]at hm;obtain⟨i,hi,rfl⟩:=hm;show 37-(i:Int)<(mem.length:Int);omega
theorem ah2 {a b:Int}(h:(tz a b).2=true):ew (tz a b).1=true:=by unfold tz at h⊢;cases hv:ew (a,b,0,0,false,false)with|false=>rw[hv]at h;cases h|true=>exact hv
theorem alz {a b:Int}(h:(tz a b).2=true)(hb:b<=3):(tz a b).1.2.1<=3/\(tz a b).1.2.2.2.2.1=false:=by unfold tz at h⊢;cases hv:ew (a,b,0,0,false,false)with|false=>rw[hv]at h;cases h|true=>exact⟨hb,rfl⟩
theorem adW (q:Int)(f:Filter)(s:dQ)(c:Bool)(a b:Int)(hf:f.2.2.length<=1000)(hs:Dk s)(hb3:b<=3):Ends (uD q f s c a b) λr=>(r.2=true->Iw r.1/\axZ r.1=s)/\((1<=q/\q<=2)->fK f=true->fI s q=true->(tz a b).2=true->r.2=true):=by
 have z1:=hs.r;have z2:=hs.t;have z3:=hs.p;unfold uD;rw[R9,ab,dV,ab];refine Ends.bind (P:=λx=>(x=false->(1<=q/\q<=2)/\fK f=true/\fI s q=true/\(tz a b).2=true)/\(x=true->(1<=q/\q<=2)->fK f=true->fI s q=true->(tz a b).2=true->False)) ?_ λx hx=>Ends.cond (λhx2=>Ends.pure ⟨(λh=>by cases h),λg1 g2 g3 g4=>(hx.2 hx2 g1 g2 g3 g4).elim⟩) λh=>?_;refine Ends.cond (λk=>Ends.pure ⟨(λh=>by cases h),λ_ g1 _ _ _=>by rw[aU.2 g1]at k;cases k⟩) λh1=>?_;rw[FB f (by omega),ab];refine Ends.cond (λk=>Ends.pure ⟨(λh=>by cases h),λ_ _ g2 _ _=>by rw[g2]at k;cases k⟩) λh2=>?_;rw[LF s q (by omega) (by omega) (by omega),ab];refine Ends.cond (λk=>Ends.pure ⟨(λh=>by cases h),λ_ _ _ g3 _=>by rw[g3]at k;cases k⟩) λh3=>Ends.pure ⟨λh4=>?_,λk _ _ _ g4=>by rw[g4]at k;cases k⟩;exact⟨aU.1 (by simpa using h1),by simpa using h2,by simpa using h3,by simpa using h4⟩;obtain⟨hq,h1,h2,h3⟩:=hx.1 h;have hm:pT 38=some (Df 38):=R8 38;rw[hm,ab,Vj,ab,C0 f (by omega),ab,I5 s (by omega) (by omega) (by omega),ab];have hv:=ah2 h3;refine Ends.ye (λx=>0<=x.1/\x.1<=38/\x.2=QO f s c x.1.toNat) (λx=>(38-x.1).toNat) ⟨by simp,by simp,rfl⟩ (by simp) λx nx hx hn=>?_;obtain⟨i,y⟩:=x;obtain⟨x1,x2,x3⟩:=hx;simp only at x1 x2 x3;unfold rh;refine Ends.cond (λk=>?_) λk=>?_;have k:=bA k;have hl:=EK i.toNat;simp only at k;rw[dV,ab];simp only;rw[ak (n:=i+1),ak (n:=37-i)];subst x3;refine Ends.room (by show(bZ i.toNat).length+1<=_;omega) (hn _ ⟨by show 0<=i+1;omega,by show i+1<=38;omega,?_⟩ (by show(38-(i+1)).toNat<(38-i).toNat;omega));have e:(i+1).toNat=i.toNat+1:=by omega
 show(Df 38,bZ i.toNat++_,_)=QO f s c (i+1).toNat;rw[e];unfold QO;rw[Rp,show((i.toNat:Nat):Int)=i by omega];have k:=eH k;simp only at k;have e:i.toNat=38:=by omega
 rw[e]at x3;have hm0:Made f s c 0 y:=by rw[x3];exact⟨an3 (by omega),by show(Df 38).length=38;simp[Df],rfl,rfl,rfl,(λ_ hr=>by cases hr),rfl,(λ_ hr=>by cases hr),rfl,(λ_ hr=>by cases hr),rfl,rfl,⟨[],rfl,rfl,λ_ hv=>by cases hv⟩⟩
 simp only;refine Ends.ye (λx=>0<=x.1/\x.1<=q/\Made f s c x.1.toNat x.2) (λx=>(q-x.1).toNat) ⟨by simp,by show(0:Int)<=q;omega,hm0⟩ (by simp;omega) λx nx hx hn=>?_;obtain⟨i,y⟩:=x;obtain⟨x1,x2,m⟩:=hx;simp only at x1 x2 m;unfold pS;refine Ends.cond (λk=>?_) λk=>Ends.pure ⟨λ_=>?_,λ_ _ _ _=>rfl⟩;have k:=bA k;simp only at k;have l1:=m.rx;have l2:=m.pl;have l3:=m.vec;have l4:=m.pol;refine Ends.room (by simp;omega) (Ends.room (by simp;omega) (Ends.room (by simp;omega) (Ends.room (by simp;omega) ?_)));have ho:=ahK m (by omega) hv (alz h3 hb3);rw[show((i.toNat:Nat):Int)=i by omega]at ho;refine ho.bind λr hr=>?_;simp only;rw[ak (n:=i+1)];refine hn _ ⟨by show 0<=i+1;omega,by show i+1<=q;omega,?_⟩ (by show(q-(i+1)).toNat<(q-i).toNat;omega);show Made f s c (i+1).toNat r.2;rw[show(i+1).toNat=i.toNat+1 by omega];exact hr;have k:=eH k;simp only at k;have hi:i=q:=by omega
 subst hi;exact⟨adK m (by omega) h1 hf (by rw[show((i.toNat:Nat):Int)=i by omega];exact h2) hs,congrArg (λx=>x.2.1) m.rest⟩
def apw (a:Act):Prop:=a.2.1.2.2.2.2.2.2.2.2.2.2.2.2.2.2.2.length<=1000/\a.2.2.2.2.1.length<=382/\0<=a.1/\a.1<=6
theorem La (n x:Int)(h0:0<=n:=by omega)(h1:n<=1000000:=by omega):Ends (gY n x) λr=>(r.length:Int)=n:=by unfold gY;rw[aH ⟨h0,cU _⟩];refine Ends.room (by omega) (Ends.ye (λy=>(y.1.length:Int)=n/\0<=y.2/\y.2<=n) (λy=>(n-y.2).toNat) ⟨by simp;omega,by simp,h0⟩ (by simp;omega) λy nx hy hn=>?_);unfold rk;refine Ends.cond (λk=>?_) λk=>Ends.pure (by simp[aQ];exact hy.1);have k:=bA k;rw[ak (n:=y.2+1)];refine Ends.idx hy.2.1 (by omega) λ_=>Ends.idx hy.2.1 (by omega) λ_=>hn _ ⟨?_,?_,?_⟩ ?_;show((List.set _ _ _).length:Int)=n;rw[az];exact hy.1;show 0<=y.2+1;omega;show y.2+1<=n;omega;show(n-(y.2+1)).toNat<(n-y.2).toNat;omega
theorem NV:vL=some (List.replicate 8 (0,(0,0,0,0,0),0)):=by unfold vL;rw[aH (by decide),aX (by decide)];rfl
theorem adB {k:Bytes}(hk:k.length=16):fI (([]:aw oe),List.replicate 8 (0,(0,0,0,0,0),0),k,[0]) 1=true:=by
 have ht:uU (List.replicate 8 (0,(0,0,0,0,0),0))=true:=by decide+kernel
 have hs:sH (k,[0]) 1=true:=by unfold sH;simp only[hk];decide+kernel
 unfold fI;rw[show Bf ([]:aw oe)=true from rfl,ht,hs];rfl
structure age (k:Int) (b:bN):Prop where
 mac:b.1.1=k
 vl:b.1.2.2=[7]\/b.1.2.2=[]
 last:0<=b.2.1/\b.2.1<=4
 done:0<=b.2.2.2/\b.2.2.2<=3
theorem apU {c:Bo}(h:Cu c):Ends (DU c) λr=>((r.1.1.2.2=[7]\/r.1.1.2.2=[])/\(0<=r.1.2.1/\r.1.2.1<=4)/\0<=r.1.2.2.2/\r.1.2.2.2<=3)/\Cu r.2:=by unfold DU;refine(YC h).bind λr1 p1=>(iA p1.2 (by decide)).bind λr2 p2=>(iA p2.2 (by decide)).bind λr3 p3=>(iA p3.2 (by decide)).bind λr4 p4=>Ends.pure ⟨⟨p1.1.2,?_,?_⟩,p4.2⟩;have:=p2.1;show 0<=r2.1/\r2.1<=4;omega;have:=p4.1;show 0<=r4.1/\r4.1<=3;omega
theorem YU {P:Nat->α->Prop}{l:aw α}{a:α}(h:∀i b,l[i]?=some b->P i b)(ha:P l.length a):∀i b,(l++[a])[i]?=some b->P i b:=by
 intro i b hb;rcases cg i l.length with hi|hi;rw[bp hi]at hb;exact h i b hb;rw[bw hi]at hb;obtain⟨hj,hb⟩:=ay.1 hb;have e:i=l.length:=by simp at hj;omega
 subst e;simp at hb;rw[<-hb];exact ha
theorem ajs {c:Bo}(h:Cu c):Ends (Al c) λr=>((1<=r.1.length/\r.1.length<=3)/\∀(i:Nat)(b:bN),r.1[i]?=some b->age (2*((i:Int)+1)) b)/\Cu r.2:=by unfold Al;refine(iA h (n:=3) (by decide)).bind λr1 p1=>?_;have hp:=p1.1;rw[ak (n:=1+r1.1)];refine Ends.ye (λx=>0<=x.2.1/\(x.1.length:Int)+x.2.1=1+r1.1/\(∀(i:Nat)(b:bN),x.1[i]?=some b->age (2*((i:Int)+1)) b)/\Cu x.2.2) (λx=>x.2.1.toNat) ⟨by show 0<=1+r1.1;omega,by simp,by intro i b hb;simp at hb,p1.2⟩ (by show(1+r1.1).toNat<=_;omega) λx nx hx hn=>?_;obtain⟨l,n,c'⟩:=x;obtain⟨x1,x2,x3,x4⟩:=hx;simp only at x1 x2 x3 x4;unfold zv;refine Ends.cond (λk=>?_) λk=>?_;have k:=bA k;simp only at k⊢;refine(apU x4).bind λr2 p2=>Ends.room (by simp;omega) ?_;rw[ak (n:=(l.length:Int)+1),ak (n:=2*((l.length:Int)+1)),ak (n:=n-1)];refine hn _ ⟨by show 0<=n-1;omega,by show((l++[_]).length:Int)+(n-1)=_;simp;omega,YU x3 ⟨rfl,p2.1.1,p2.1.2.1,p2.1.2.2⟩,p2.2⟩ (by show(n-1).toNat<n.toNat;omega);have k:=eH k;simp only at k⊢;exact Ends.pure ⟨⟨⟨by show 1<=l.length;omega,by show l.length<=3;omega⟩,x3⟩,x4⟩
theorem aha {v:Int}{b:Bytes}:(eK v b).1.length<=96:=by unfold eK;cases hq:di v 0 1000000&&decide (b.length<=84)with|false=>simp|true=>simp only[ae,aJ]at hq;show(WT v b).length<=96;unfold WT;have h4:∀v,(gz v).length<=4:=dU;have a:=h4 v;have b1:=h4 (b.length:Int);have c:=h4 (Nr ((gz v++gz (b.length:Int))++b));simp only[ai];omega
theorem QU {c:Bo}(h:Cu c):Ends (vO c) λr=>r.1.length<=96/\Cu r.2:=by unfold vO;refine(la (P:=λ_=>True) h (by decide) (by simp)).bind λr1 p1=>(iA p1.2 (by decide)).bind λr2 p2=>(Ik p2.2 r2.1).bind λr3 p3=>?_;rw[R7 _ _ (by have:=p3.1.1;omega),ab];exact Ends.pure ⟨aha,p3.2⟩
theorem acP {c:Bo}(h:Cu c):Ends (Aj c) λr=>(r.1.length=2/\∀x∈r.1,x.length=96)/\Cu r.2:=by
 unfold Aj;refine Ends.ye (λx=>0<=x.1/\x.1<=2/\(x.2.2.length:Int)=x.1/\(∀y∈x.2.2,y.length=96)/\Cu x.2.1) (λx=>(2-x.1).toNat) ⟨by simp,by simp,by simp,by simp,h⟩ (by simp) λx nx hx hn=>?_;obtain⟨i,c',l⟩:=x;obtain⟨x1,x2,x3,x4,x5⟩:=hx;simp only at x1 x2 x3 x4 x5;unfold ze;refine Ends.cond (λk=>?_) λk=>?_;have k:=bA k;simp only at k⊢;refine(QU x5).bind λr1 p1=>(wg p1.2 _).bind λr2 p2=>?_;have fin:∀(s t:Bytes)(c2:Bo),s.length+t.length=96->Cu c2->Ends (Go.Dn.room (List.length s+List.length t) (Go.Dn.room (List.length l+List.length [(s++t)]) (nx (ar (i+1),c2,l++[(s++t)])))) (λr=>(r.1.length=2/\∀x∈r.1,x.length=96)/\Cu r.2):=by intro s t c2 hs hc;refine Ends.room (by omega) (Ends.room (by simp;omega) ?_);rw[ak (n:=i+1)];refine hn _ ⟨by show 0<=i+1;omega,by show i+1<=2;omega,by show((l++[_]).length:Int)=i+1;simp;omega,?_,hc⟩ (by show(2-(i+1)).toNat<(2-i).toNat;omega);intro y hy;rcases aA.1 hy with hy|hy;exact x4 y hy;rw[br.1 hy,ai];exact hs
 refine Ends.cond (λ_=>?_) λ_=>?_;refine(Ik p2 30).bind λr3 p3=>?_;have e:=p3.1.2.1 (by omega) (by omega);rw[ak (n:=96-(r3.1.length:Int))];exact(La _ 255).bind λr4 p4=>fin _ _ _ (by omega) p3.2;have e:=p1.1;rw[ak (n:=96-(r1.1.length:Int))];exact(La _ 255).bind λr4 p4=>fin _ _ _ (by omega) p2;have k:=eH k;simp only at k⊢;exact Ends.pure ⟨⟨by show l.length=2;omega,x4⟩,x5⟩
theorem Tm {f:Filter}{s:dQ}{c:Bool}{a b:Int}(hf:f.2.2.length<=1000)(hs:Dk s)(hb3:b<=3)(h:(pG f s c a b).2=true):Iw (pG f s c a b).1/\(pG f s c a b).1.2.2.2.2.2.2.2.1=f:=by refine⟨?_,?_⟩;obtain⟨x,e,hx⟩:=adW 1 f s c a b hf hs hb3;rw[Od f s c a b (by omega) (by have:=hs.r;omega) (by have:=hs.t;omega) (by have:=hs.p;omega)]at e;have e:=bP e;rw[e]at h⊢;exact(hx.1 h).1;unfold pG at h⊢;cases hq:fK f&&(fI s 1&&(tz a b).2)with|true=>rfl|false=>rw[hq]at h;cases h
def CP (bk:uW)(n:Nat):aw aZ:=(range n).map λ(i:Nat)=>((i:Int),(i:Int)+1,bk,true,0,0)
theorem CQ (bk:uW)(n:Nat):(CP bk n).length=n:=by simp[CP]
theorem aas (bk:uW)(n:Nat):CP bk (n+1)=CP bk n++[((n:Int),(n:Int)+1,bk,true,0,0)]:=by simp[CP,iz]
theorem JM (bk:uW){n:Nat}(h:i<n):(CP bk n).getD i Mi=((i:Int),(i:Int)+1,bk,true,0,0):=by rw[cB (by rw[CQ];exact h)];simp[CP]
structure Gm (c:cW):Prop where
 uM:(dw c.2.2.1).2=true
 box:∀(i:Nat)(b:bN),c.2.2.1[i]?=some b->age (2*((i:Int)+1)) b
 len:c.1.length=c.2.2.1.length
 host:∀(i:Nat)(h:Host)(b:bN),c.1[i]?=some h->c.2.2.1[i]?=some b->Iw h/\h.2.2.2.2.2.2.2.1=b.1
 fns:∃bk,jg bk=true/\c.2.1=CP bk c.2.2.1.length
 flash:c.2.2.2.1.length=2/\∀x∈c.2.2.2.1,x.length=96
 L7:¬iZ c.2.2.2.1<0
 clock:sT c.2.2.2.2.1=true
 rest:c.2.2.2.2.2=(([]:List Int),([]:List Bytes))
theorem Gm.SY (d:Gm c):gk 4 c:=by
 obtain⟨bk,hb,hf⟩:=d.fns;have p:=mw d.uM;refine⟨d.uM,⟨d.len,by rw[hf,CQ]⟩,?_,d.L7,d.clock,λi h b h1 h2=>⟨(d.host i h b h1 h2).1.SY.mono,(d.host i h b h1 h2).2⟩,?_,?_,?_⟩;unfold iS;rw[p.1,p.2.2.1,bt,aF,hf,CQ];intro i hi;have hi:=bG.1 hi;unfold fnB;rw[JM bk hi,p.2.1,ae];refine⟨?_,?_⟩;unfold F4;simp only[hb,ae,aU,bt];rw[ak];push_cast;refine⟨⟨by omega,by omega⟩,⟨by omega,by omega⟩,⟨by decide,by decide⟩,by decide,by decide⟩;rw[aF];intro j hj;have hj:=bG.1 hj;rw[JM bk (by omega)];unfold agQ;simp only[aO,cA,bM,ne_eq];omega;intro i hi;unfold Be;rw[hf,JM bk (by rw[<-d.len];exact hi)];simp;·intro b hb;obtain⟨i,hi⟩:=eV hb;have q:=d.box i b hi;exact⟨q.last.2,by have:=q.done.2;omega⟩
 intro f hh;rw[hf]at hh;simp only[CP,dB]at hh;obtain⟨i,_,rfl⟩:=hh;exact⟨by show(0:Int)<=4;omega,by show(0:Int)<=4;omega⟩
theorem afB (hs:Dk st){bk:uW}{t:Int}(hm:∀m∈ms,m.1.2.2.length<=1000):∀(l:aw bN)(k:Nat)(s:aw Host×aw aZ),k<=ms.length->ms.drop k=l->s.1.length=k->s.2=CP bk k->(∀(i:Nat)(h:Host)(b:bN),s.1[i]?=some h->ms[i]?=some b->Iw h/\h.2.2.2.2.2.2.2.1=b.1)->∀x,Eg (Tl st cb bk) (λs=>some ((s.1,s.2,ms,f,(0,0,t,0),([]:cc),([]:bO)),true)) l s=some (x,true)->
 ∃yL,x=(yL,CP bk ms.length,ms,f,(0,0,t,0),([]:cc),([]:bO))/\yL.length=ms.length/\∀(i:Nat)(h:Host)(b:bN),yL[i]?=some h->ms[i]?=some b->Iw h/\h.2.2.2.2.2.2.2.1=b.1
 |[],k,s,hk,hd,h1,h2,h3,x,hx=>by
  have e:k=ms.length:=by have:=aM (i:=k) (l:=ms);rw[hd]at this;simp at this;omega
  subst e;rw[Eg]at hx;have hx:=(Prod.mk.inj (bP hx)).1;exact⟨s.1,by rw[<-hx,h2],h1,h3⟩
 |y::l,k,s,hk,hd,h1,h2,h3,x,hx=>by
  have hG:k<ms.length:=by have:=aM (i:=k) (l:=ms);rw[hd]at this;simp at this;omega
  have hy:=bW hG;rw[hd]at hy;obtain⟨e1,e2⟩:=List.cons.inj hy;rw[Eg]at hx;unfold Tl at hx;by_cases hb:(pG y.1 st cb 1 2).2=true;rw[aH hb]at hx;simp only at hx;have hf:=Tm (by rw[e1];exact hm _ (aK hG)) hs (by omega) hb;refine afB hs hm l (k+1) _ (by omega) e2.symm (by simp[h1]) ?_ ?_ x hx;show s.2++[((s.2.length:Int),(s.2.length:Int)+1,bk,true,0,0)]=_;rw[h2,CQ,aas];intro i h b g1 g2;refine YU (P:=λi h=>∀b,ms[i]?=some b->Iw h/\h.2.2.2.2.2.2.2.1=b.1) (λi h g b g'=>h3 i h b g g') (λb g=>?_) i h g1 b g2;rw[h1,al hG,<-e1]at g;rw[<-bP g];exact hf;rw[aG hb]at hx;simp at hx
theorem UO {bk:uW}{t:Int}{x:cW}(hs:Dk st)(hm:∀(i:Nat)(b:bN),ms[i]?=some b->age (2*((i:Int)+1)) b)(hf:f.length=2/\∀y∈f,y.length=96)(h:yh ms st cb bk f t=some (x,true)):Gm x:=by
 unfold yh at h;cases hq:(dw ms).2&&(jg bk&&(!decide (iZ f<0)&&sT (0,0,t,0)))with
 |false=>rw[hq]at h;simp[ajx]at h
 |true=>
  rw[hq,ah]at h;simp only[ae,aO,df]at hq;have hl:∀m∈ms,m.1.2.2.length<=1000:=by intro m hmm;obtain⟨i,hi⟩:=eV hmm;rcases(hm i m hi).vl with e|e<;>rw[e]<;>simp
  obtain⟨yL,e,e1,e2⟩:=afB hs hl ms 0 ([],[]) (by omega) rfl rfl rfl (λi h b g=>by simp at g) x h;rw[e];exact⟨hq.1,hm,e1,e2,⟨bk,hq.2.1,rfl⟩,hf,hq.2.2.1,hq.2.2.2,rfl⟩
theorem afC (st:dQ)(cb:Bool)(bk:uW)(F:aw Host×aw aZ->cW×Bool):∀(l:aw bN)(s:aw Host×aw aZ),∃r,Eg (Tl st cb bk) (λs=>some (F s)) l s=some r
 |[],s=>⟨_,rfl⟩
 |y::l,s=>by rw[Eg];unfold Tl;by_cases hb:(pG y.1 st cb 1 2).2=true;rw[aH hb];exact afC st cb bk F l _;rw[aG hb];exact⟨_,rfl⟩
theorem aar (ms:aw bN)(st:dQ)(cb:Bool)(bk:uW)(f:bO)(t:Int):∃r,yh ms st cb bk f t=some r:=by unfold yh;cases (dw ms).2&&(jg bk&&(!decide (iZ f<0)&&sT (0,0,t,0)))with|false=>exact⟨_,rfl⟩|true=>exact afC st cb bk _ ms _
theorem afA (st:dQ)(cb:Bool)(bk:uW)(F:aw Host×aw aZ->cW):∀(l:aw bN)(s:aw Host×aw aZ),(∀y∈l,(pG y.1 st cb 1 2).2=true)->∃x,Eg (Tl st cb bk) (λs=>some (F s,true)) l s=some (x,true)
 |[],s,_=>⟨_,rfl⟩
 |y::l,s,h=>by rw[Eg];unfold Tl;rw[aH (h y (List.mem_cons_self ..))];exact afA st cb bk F l _ λz hz=>h z (fB _ hz)
theorem Vg (hs:Dk st)(hm:∀(i:Nat)(b:bN),ms[i]?=some b->age (2*((i:Int)+1)) b)(hl:ms.length<=3)(hf:f.length=2)(cb:Bool)(bk:uW)(t:Int):uC ms st cb bk f t=yh ms st cb bk f t:=by refine aa6 ms st cb bk f t (by omega) (λm hh=>?_) (by omega) (by have:=hs.r;omega) (by have:=hs.t;omega) (by have:=hs.p;omega);obtain⟨i,hi⟩:=eV hh;rcases(hm i m hi).vl with e|e<;>rw[e]<;>simp
theorem as5 {Q:R->Prop}{k0:Bo->aB R}{k1:Bo->cW->aB R}{v:Int}{c:Bo}(hs:Dk st)(hc:Cu c)(hk0:∀c',Cu c'->Ends (k0 c') Q)(hk1:∀c' x,Cu c'->Gm x->Ends (k1 c' x) Q):Ends (tG k0 k1 v c b2 st) Q:=by unfold tG;refine(la (P:=λ_=>True) hc (by decide) (by simp)).bind λr4 p4=>(la (P:=λ_=>True) p4.2 (by decide) (by simp)).bind λr5 p5=>(ajs p5.2).bind λr6 p6=>(iA p6.2 (by decide)).bind λr7 p7=>(acP p7.2).bind λr8 p8=>(la (P:=λ_=>True) p8.2 (by decide) (by simp)).bind λr9 p9=>?_;rw[Vg hs p6.1.2 p6.1.1.2 p8.1.1];obtain⟨⟨x,ok⟩,e⟩:=aar r6.1 st (decide (r7.1>0)) (r4.1,2000,r5.1) r8.1 r9.1;rw[e,ab];refine Ends.cond (λk=>?_) λ_=>hk0 _ p9.2;have k:ok=true:=k;subst k;exact hk1 _ _ p9.2 (UO hs p6.1.2 p8.1 e)
theorem axJ {Q:R->Prop}{k0:Int->Bo->aB R}{k1:Bo->cW->aB R}{v:Int}{c:Bo}(hv:0<=v/\v<=100)(hc:Cu c)(hk0:∀c',Cu c'->Ends (k0 (v+1) c') Q)(hk1:∀c' x,Cu c'->Gm x->Ends (k1 c' x) Q):Ends (yC k0 k1 v c b2) Q:=by
 unfold yC;simp only[NV,ab];refine(aqU hc).bind λr2 p2=>(wg p2.2 4).bind λr3 p3=>?_;have k3:∀c',Cu c'->Ends (tF (λDg=>k0 Dg c') v c' b2) Q:=by intro c' Cf;unfold tF;rw[ak];exact hk0 _ Cf
 refine Ends.cond (λ_=>as5 ⟨by simp,by simp,p2.1,by simp⟩ p3 k3 λc' x h1 h2=>hk1 _ _ h1 h2) λ_=>as5 ⟨by simp,by simp,p2.1,by simp⟩ p3 k3 λc' x h1 h2=>hk1 _ _ h1 h2
theorem agr {t u:Bytes}(ht:t.length=84)(hu:u.length=96):¬iZ [(eK 1 []).1++t,u]<0:=by
 have e:(eK 1 []).1=[0,0,0,1,0,0,0,0]++gz (Nr [0,0,0,1,0,0,0,0]):=by decide+kernel
 have el:(eK 1 []).1.length=12:=by rw[e];decide+kernel
 have hv:jj ((eK 1 []).1++t)=1:=by
  have g:∀a:Nat,a+4<=12->fj ((eK 1 []).1++t) (a:Int)=fj (eK 1 []).1 (a:Int):=by
   intro a ha;unfold fj fT cn;rw[ax (by rw[ai,el];omega),ax (by rw[el];omega)];have b:∀i,i<12->((eK 1 []).1++t).getD i 0=(eK 1 []).1.getD i 0:=by intro i hi;rw[aW,aW,bp (by omega)]
   simp only[au];rw[b a (by omega),b (a+1) (by omega),b (a+2) (by omega),b (a+3) (by omega)]
  have g0:fj ((eK 1 []).1++t) 0=1:=(g 0 (by omega)).trans (by decide+kernel);have g4:fj ((eK 1 []).1++t) 4=0:=(g 4 (by omega)).trans (by decide+kernel);unfold jj;rw[g4,aH (by rw[ai,el];omega)];unfold ai3;have t1:(((eK 1 []).1++t).take (8+(0:Int).toNat)).drop 8=[]:=by rw[cI (by rw[aV];simp;omega)]
  have t2:((eK 1 []).1++t).take (12+(0:Int).toNat)=(eK 1 []).1:=by rw[List.take_left' (by rw[el];rfl)]
  rw[t1,t2,g0];have o:(eK 1 []).2=true:=by decide+kernel
  rw[o,fG];rfl
 unfold iZ;have hf:lg [(eK 1 []).1++t,u]=true:=by unfold lg;show((((2:Nat):Int)==2)&&(((((eK 1 []).1++t).length:Int)==96)&&((u.length:Int)==96)))=true;rw[ai,el,ht,hu];rfl
 rw[hf,ah];have h0:List.getD [(eK 1 []).1++t,u] 0 []=(eK 1 []).1++t:=rfl;rw[h0,hv];split;omega;split<;>omega
theorem alw {c:Bo}(h:Cu c):Ends (DV c) λr=>Gm r.1/\Cu r.2:=by
 unfold DV;refine Ends.ye (λx=>0<=x.1/\x.1<=4/\Cu x.2) (λx=>(4-x.1).toNat) ⟨by simp,by simp,h⟩ (by simp) λx nx hx hn=>?_;obtain⟨i,c'⟩:=x;obtain⟨x1,x2,x3⟩:=hx;simp only at x1 x2 x3;unfold C6;refine Ends.cond (λk=>?_) λk=>?_;have k:=bA k;simp only at k⊢;exact axJ ⟨by omega,by omega⟩ x3 (λc2 h2=>hn _ ⟨by show 0<=i+1;omega,by show i+1<=4;omega,h2⟩ (by show(4-(i+1)).toNat<(4-i).toNat;omega)) λc2 y h2 d=>Ends.pure ⟨d,h2⟩;have el:(eK 1 []).1.length=12:=by decide+kernel
 simp only[R7 1 [] (by simp),ab];rw[el,ak (n:=96-((12:Nat):Int))];refine(La _ 255).bind λr26 p26=>Ends.room (by omega) ((La 96 255).bind λXX p27=>?_);simp only[NV,ab];refine(La 16 5).bind λr29 p29=>?_;have hs:Dk (([]:aw oe),List.replicate 8 (0,(0,0,0,0,0),0),r29,[0]):=⟨by simp,by simp,by show r29.length=16;omega,by simp⟩
 have hm:∀(j:Nat)(b:bN),([((2,false,([]:cc)),0,0,0),((4,false,([]:cc)),0,0,0)]:aw bN)[j]?=some b->age (2*((j:Int)+1)) b:=by intro j b hb;match j with|0=>have e:=bP hb;rw[<-e];exact⟨rfl,Or.inr rfl,⟨by decide,by decide⟩,by decide,by decide⟩|1=>have e:=bP hb;rw[<-e];exact⟨rfl,Or.inr rfl,⟨by decide,by decide⟩,by decide,by decide⟩|j+2=>simp at hb
 have hb:=agr (t:=r26) (u:=XX) (by omega) (by omega);rw[Vg hs hm (by simp) rfl];have e:∃x,yh ([((2,false,([]:cc)),0,0,0),((4,false,([]:cc)),0,0,0)]:aw bN) (([]:aw oe),List.replicate 8 (0,(0,0,0,0,0),0),r29,[0]) true (100,2000,1000) [(eK 1 []).1++r26,XX] 1048576=some (x,true):=by
  unfold yh;have p1:(dw [((2,false,([]:cc)),0,0,0),((4,false,([]:cc)),0,0,0)]).2=true:=by decide+kernel
  have p2:jg (100,2000,1000)=true:=by decide+kernel
  have p3:sT (0,0,1048576,0)=true:=by decide+kernel
  rw[p1,p2,p3,aq hb];refine afA _ _ _ _ _ _ λy hy=>?_;have ow:=adB (k:=r29) (by omega);have hv:(tz 1 2).2=true:=by decide+kernel
  have hf:fK y.1=true:=by rcases bU.1 hy with e|hy;rw[e];decide+kernel;rw[br.1 hy];decide+kernel
  unfold pG;rw[hf,ow,hv];rfl
 obtain⟨x,e⟩:=e;rw[e,ab];refine Ends.pure ⟨UO hs hm ⟨rfl,?_⟩ e,x3⟩;intro y hy;rcases bU.1 hy with e|hy;rw[e,ai,el];omega;rw[br.1 hy];omega
abbrev aii:aN:=(0,0,0,0,0,0,0,0,0,0,0,0,0,0,0,([]:Bytes))
structure qd (n:Int) (a:eJ):Prop where
 kind:0<=a.1/\a.1<=2
 fn:0<=a.2.1/\a.2.1<n
 act:apw a.2.2.1
 ok:Gn a.2.2.1=true
 msg:0<=a.2.2.2.1.1/\a.2.2.2.1.1<=6
 img:a.2.2.2.2.1.length<=96
 part:0<=a.2.2.2.2.2/\a.2.2.2.2.2<=100
theorem qd.put (h:qd n a){x:Act}(h1:apw x)(h2:Gn x=true):qd n (a.1,a.2.1,x,a.2.2.2):=⟨h.kind,h.fn,h1,h2,h.msg,h.img,h.part⟩
theorem agj (p:aN)(s c:Int):Gn (0,p,s,c,([]:Bytes),0)=true:=rfl
theorem Pz (b:Int):Gn (5,aii,0,0,([]:Bytes),b)=true:=rfl
theorem agi {f:Bytes}(h:f.length<=600):Gn (2,aii,0,0,f,0)=true:=by unfold Gn ajh;simp only[ab];rw[show di (2:Int) 0 6=true from aU.2 ⟨by omega,by omega⟩,cL];rfl
theorem wP {k:Int}(h:k=1\/k=3\/k=4\/k=6\/k=0:=by omega):Gn (k,aii,0,0,([]:Bytes),0)=true:=by rcases h with rfl|rfl|rfl|rfl|rfl<;>rfl
theorem rA {k b:Int}(h:0<=k/\k<=6:=by omega):apw (k,aii,0,0,([]:Bytes),b):=⟨by simp,by simp,h.1,h.2⟩
theorem NY {c:Bo}(h:Cu c)(p:aN)(hn:0<=n/\n<=100):Ends (tH c p n) λr=>((0<=r.1.1/\r.1.1<=281474976710655)/\(r.1.2.1=99\/r.1.2.1=2*(n+1))/\r.1.2.2=p.2.2)/\Cu r.2:=by unfold tH;rw[ak (n:=n+1),ak (n:=2*(n+1))];refine(wg h 12).bind λr1 p1=>Ends.cond (λ_=>(la (P:=λx=>0<=x/\x<=281474976710655) p1 (by decide) (by decide)).bind λr2 p2=>Ends.pure ⟨⟨p2.1,Or.inl rfl,rfl⟩,p2.2⟩) λ_=>(la (P:=λx=>0<=x/\x<=281474976710655) p1 (by decide) (by decide)).bind λr2 p2=>Ends.pure ⟨⟨p2.1,Or.inr rfl,rfl⟩,p2.2⟩
theorem adO {c:Bo}(h:Cu c):Ends (wD c) λr=>(0<=r.1.1/\r.1.1<=6)/\Cu r.2:=by unfold wD;refine(iA h (by decide)).bind λr1 p1=>(la (P:=λ_=>True) p1.2 (by decide) (by simp)).bind λr2 p2=>(la (P:=λ_=>True) p2.2 (by decide) (by simp)).bind λr3 p3=>Ends.pure ⟨?_,p3.2⟩;have:=p1.1;show 0<=r1.1/\r1.1<=6;omega
theorem PA {l:aw eJ}(h:qd n a):∀y∈l++[a],y∈l\/qd n y:=by intro y hy;rcases aA.1 hy with hy|hy;exact Or.inl hy;rw[br.1 hy];exact Or.inr h
theorem c25 {Q:R->Prop}{k0:aw eJ->Bo->eJ->aB R}{v10 v30:Int}{v63:Bool}{l:aw eJ}{ps:aw aN}{c:Bo}(hl:l.length<=1000)(hp:∀p∈ps,Plain p)(h9:0<=v9/\v9<(ps.length:Int))(h10:0<=v10/\v10<=100)(hc:Cu c)(ha:qd v1 a)(hk:∀l' c' a',l'.length<=l.length+1->(∀y∈l',y∈l\/qd v1 y)->Cu c'->qd v1 a'->Ends (k0 l' c' a') Q):Ends (kh k0 v1 v2 l ps v9 v10 v30 v63 c a) Q:=by have same:∀c' a',Cu c'->qd v1 a'->Ends (k0 l c' a') Q:=λc' a' h1 h2=>hk l c' a' (by omega) (λy hy=>Or.inl hy) h1 h2;unfold kh;refine Ends.cond (λ_=>?_) λ_=>?_;refine Ends.idx h9.1 h9.2 λhi=>(NY hc _ h10).bind λr8 p8=>(iA p8.2 (by decide)).bind λr9 p9=>(la (P:=λ_=>True) p9.2 (by decide) (by simp)).bind λxp p10=>Ends.room (by simp;omega) ?_;refine hk _ _ _ (by simp) (PA (ha.put ⟨?_,by simp,by simp,by simp⟩ (agj ..))) p10.2 (ha.put (rA) (wP));show r8.1.2.2.2.2.2.2.2.2.2.2.2.2.2.2.2.length<=1000;rw[p8.1.2.2];have:=(hp _ (aK hi)).2;omega;refine Ends.cond (λ_=>same _ _ hc (ha.put (rA) (wP))) λ_=>?_;refine Ends.cond (λ_=>(iA hc (by decide)).bind λAN p11=>same _ _ p11.2 (ha.put (rA) (Pz _))) λ_=>?_;refine Ends.cond (λ_=>same _ _ hc (ha.put (rA) (wP))) λ_=>?_;refine Ends.cond (λ_=>(adO hc).bind λxc p12=>same _ _ p12.2 ⟨by simp,ha.fn,ha.act,ha.ok,p12.1,ha.img,ha.part⟩) λ_=>?_;refine Ends.cond (λ_=>(wg hc 2).bind λCV p13=>Ends.cond (λ_=>?_) λ_=>same _ _ p13 (ha.put (rA) (wP))) λ_=>same _ _ hc ha;refine(QU p13).bind λXs p14=>(iA p14.2 (by decide)).bind λCk p15=>same _ _ p15.2 ⟨by simp,ha.fn,rA,wP,ha.msg,p14.1,?_⟩;have:=p15.1;show 0<=Ck.1/\Ck.1<=100;omega
theorem c19 {Q:R->Prop}{k0:aw eJ->Bo->eJ->aB R}{v10 v30:Int}{v46:Bool}{l:aw eJ}{ps:aw aN}{c:Bo}(hl:l.length<=1000)(hp:∀p∈ps,Plain p)(h9:0<=v9/\v9<(ps.length:Int))(h10:0<=v10/\v10<=100)(hc:Cu c)(ha:qd v1 a)(hk:∀l' c' a',l'.length<=l.length+1->(∀y∈l',y∈l\/qd v1 y)->Cu c'->qd v1 a'->Ends (k0 l' c' a') Q):Ends (kf k0 v1 v2 l ps v9 v10 v30 v46 c a) Q:=by unfold kf;refine Ends.cond (λ_=>?_) λ_=>?_;refine Ends.idx h9.1 h9.2 λhi=>(NY hc _ (n:=5) (by omega)).bind λr5 p5=>?_;have hf:=HS r5.1;rw[aiI,ab];exact hk l _ _ (by omega) (λy hy=>Or.inl hy) p5.2 (ha.put ⟨by simp,hf,by simp,by simp⟩ (agi (by omega)));exact Ends.cond (λ_=>c25 hl hp h9 h10 hc ha hk) λ_=>Ends.cond (λ_=>c25 hl hp h9 h10 hc ha hk) λ_=>Ends.cond (λ_=>c25 hl hp h9 h10 hc ha hk) λ_=>c25 hl hp h9 h10 hc ha hk
theorem c37 {Q:R->Prop}{k0:aw eJ->Bo->aB R}{l:aw eJ}{ps:aw aN}{c:Bo}(hl:l.length<=1000)(h1:0<v1)(hc:Cu c)(ha:qd v1 a)(hk:∀l' c',l'.length<=l.length+3->(∀y∈l',y∈l\/qd v1 y)->Cu c'->Ends (k0 l' c') Q):Ends (ki k0 v1 v2 l ps v9 c a) Q:=by unfold ki;refine Ends.room (by simp;omega) ((wg hc 2).bind λXY p31=>Ends.cond (λ_=>(iA p31 h1).bind λr32 p32=>Ends.room (by simp;omega) (Ends.room (by simp;omega) (hk _ _ (by simp) ?_ p32.2))) λ_=>hk _ _ (by simp) (PA ha) p31);intro y hy;rcases aA.1 hy with hy|hy;rcases aA.1 hy with hy|hy;exact PA ha y hy;rw[br.1 hy];exact Or.inr ⟨by simp,p32.1,rA,Pz _,by simp,by simp,by simp⟩;rw[br.1 hy];exact Or.inr ⟨by simp,⟨by simp,h1⟩,rA,wP,by simp,by simp,by simp⟩
theorem c6 {Q:R->Prop}{k0:aw eJ->Int->Bo->aB R}{l:aw eJ}{ps:aw aN}{c:Bo}(hl:l.length<=900)(h1:0<v1/\v1<=3)(hp:∀p∈ps,Plain p)(h9:0<=v9/\v9<(ps.length:Int))(hn:ps.length<=1000)(hc:Cu c)(hk:∀l' c',l'.length<=l.length+4->(∀y∈l',y∈l\/qd v1 y)->Cu c'->Ends (k0 l' (v9+1) c') Q):Ends (wE k0 v1 v2 l ps v9 c) Q:=by
 unfold wE;refine(iA hc h1.1).bind λr2 p2=>(iA p2.2 (by decide)).bind λr3 p3=>?_;have hf:=p2.1;have a0:qd v1 (0,r2.1,(0,aii,0,0,([]:Bytes),0),(0,0,0),([]:Bytes),0):=⟨by simp,hf,rA,wP,by simp,by simp,by simp⟩
 have e:ar (v9+1)=v9+1:=ak;have go:∀(v46:Bool),Ends (kf (λy28 y29 y30=>ki (λy33 y34=>nv (λy35=>k0 y33 y35 y34) v1 v2 y33 ps v9 y34) v1 v2 y28 ps v9 y29 y30) v1 v2 l ps v9 r2.1 r3.1 v46 r3.2 (0,r2.1,(0,aii,0,0,([]:Bytes),0),(0,0,0),([]:Bytes),0)) Q:=by intro v46;refine c19 (by omega) hp h9 ⟨hf.1,by omega⟩ p3.2 a0 λl1 c1 a1 g1 g2 g3 g4=>c37 (by omega) h1.1 g3 g4 λl2 c2 g5 g6 g7=>?_;unfold nv;rw[e];refine hk _ _ (by omega) (λy hy=>?_) g7;rcases g6 y hy with g|g;exact g2 y g;exact Or.inr g
 exact Ends.cond (λ_=>go _) λ_=>Ends.cond (λ_=>go _) λ_=>go _
theorem agl {c:Bo}(h:Cu c)(hn:0<n/\n<=3)(b:Bool):Ends (B5 c n b) λr=>(r.1.length<=32/\∀a∈r.1,qd n a)/\Cu r.2:=by
 unfold B5;refine(an0 h (m:=8) (by omega) (by omega)).bind λr1 p1=>?_;have h8:=p1.1.2.2;refine Ends.ye (λx=>0<=x.2.1/\x.2.1<=(r1.1.length:Int)/\(x.1.length:Int)<=4*x.2.1/\(∀a∈x.1,qd n a)/\Cu x.2.2) (λx=>((r1.1.length:Int)-x.2.1).toNat) ⟨by simp,by simp,by simp,by simp,p1.2⟩ (by simp;omega) λx nx hx hnx=>?_;obtain⟨l,i,c'⟩:=x;obtain⟨x1,x2,x3,x4,x5⟩:=hx;simp only at x1 x2 x3 x4 x5;unfold Bh;refine Ends.cond (λk=>?_) λk=>?_;have k:=bA k;simp only at k⊢;refine c6 (by omega) hn p1.1.1 ⟨x1,k⟩ (by omega) x5 λl' c2 g1 g2 g3=>hnx _ ⟨by show 0<=i+1;omega,by show i+1<=_;omega,by show(l'.length:Int)<=4*(i+1);omega,?_,g3⟩ (by show((r1.1.length:Int)-(i+1)).toNat<((r1.1.length:Int)-i).toNat;omega);intro a ha;rcases g2 a ha with g|g;exact x4 a g;exact g;simp only;have hl:l.length<=32:=by omega
 refine Ends.ye (λy=>0<=y.2/\y.2<=(y.1.length:Int)/\y.1.length=l.length/\∀a∈y.1,qd n a) (λy=>((y.1.length:Int)-y.2).toNat) ⟨by simp,by simp,rfl,x4⟩ (by simp;omega) λy ny hy hm=>?_;obtain⟨q,j⟩:=y;obtain⟨y1,y2,y3,y4⟩:=hy;simp only at y1 y2 y3 y4;unfold zu;refine Ends.cond (λk2=>?_) λk2=>Ends.pure ⟨⟨by show q.length<=32;omega,y4⟩,x5⟩;have k2:=bA k2;simp only at k2⊢;unfold zg;have step:∀q':aw eJ,q'.length=l.length->(∀a∈q',qd n a)->Ends (uI (λy61=>ny (q',y61)) q' j c') (λr=>(r.1.length<=32/\∀a∈r.1,qd n a)/\Cu r.2):=by intro q' e1 e2;unfold uI;rw[ak (n:=j+1)];exact hm _ ⟨by show 0<=j+1;omega,by show j+1<=(q'.length:Int);omega,e1,e2⟩ (by show((q'.length:Int)-(j+1)).toNat<((q.length:Int)-j).toNat;omega)
 refine Ends.bind (P:=λ_=>True) ?_ λz _=>?_;exact Ends.idx y1 k2 λ_=>Ends.cond (λ_=>Ends.idx y1 k2 λ_=>Ends.cond (λ_=>Ends.idx y1 k2 λ_=>Ends.pure trivial) λ_=>Ends.pure trivial) λ_=>Ends.pure trivial;unfold zn;refine Ends.cond (λ_=>Ends.idx y1 k2 λhi=>Ends.idx y1 k2 λ_=>step _ (by rw[az];exact y3) ?_) λ_=>step q y3 y4;intro a ha;rcases cK ha with g|g;exact y4 a g;rw[g];exact(y4 _ (aK hi)).put (rA) (wP)
theorem agy {a:cc}(ha:a.length<=1048576):Ends (Aa a) λr=>Gm r.1/\r.2.length<=32/\∀x∈r.2,qd (r.1.1.length:Int) x:=by unfold Aa;refine(arb ha).bind λr1 p1=>(alw p1).bind λr2 p2=>?_;have p:=mw p2.1.uM;have hl:=p2.1.len;exact(agl p2.2 ⟨by omega,by omega⟩ false).bind λr3 p3=>Ends.pure ⟨p2.1,p3.1.1,p3.1.2⟩
theorem ajy (d:Gm c):Bn 2000 c:=by
 have p:=mw d.uM;obtain⟨bk,_,hf⟩:=d.fns;have hh:∀h∈c.1,Iw h:=by intro h hh;obtain⟨i,hi⟩:=eV hh;obtain⟨hG,_⟩:=ay.1 hi;exact(d.host i h _ hi (al (by rw[<-d.len];exact hG))).1
 refine⟨⟨⟨by have:=d.len;omega,λh hx=>(hh h hx).sz.z⟩,⟨by rw[hf,CQ];omega,λ_ _=>⟨cG,cG,⟨cG,cG,cG⟩,cG,cG,cG⟩⟩,⟨by omega,λb hb=>?_⟩,⟨by have:=d.flash.1;omega,λx hx=>by show x.length<=2000;rw[d.flash.2 x hx];omega⟩,⟨cG,cG,cG,cG⟩,?_,?_⟩,λh hx=>(hh h hx).sz⟩;obtain⟨i,hi⟩:=eV hb;have q:=(d.box i b hi).vl;refine⟨⟨cG,cG,?_,λ_ _=>trivial⟩,cG,cG,cG⟩;show b.1.2.2.length<=2000;rcases q with e|e<;>rw[e]<;>simp;rw[show c.2.2.2.2.2.1=[] from congrArg (·.1) d.rest];exact⟨cd _,λ_ _=>trivial⟩;rw[show c.2.2.2.2.2.2=[] from congrArg (·.2) d.rest];exact⟨cd _,λx hx=>by cases hx⟩
def Kb (f:bO):Int:=if jj (f.getD 0 [])<0/\jj (f.getD 1 [])<0 then-1 else if jj (f.getD 1 [])>jj (f.getD 0 []) then jj (f.getD 1 []) else jj (f.getD 0 [])
theorem Uo (h:lg f=true):tT f=some (Kb f):=by obtain⟨e,h0,h1⟩:=yP h;unfold tT;rw[QV,ab];unfold iZ Kb;rw[h,ah];generalize f.getD 0 []=x at e h0 h1⊢;generalize f.getD 1 []=y at e h0 h1⊢;subst e;by_cases a:jj x<0/\jj y<0;rw[aH a,aH a];rfl;rw[aG a,aG a];by_cases b:jj y>jj x;rw[aH b,aH b,cL,af,show idx [x,y] 1=some y from rfl,ab,KZ y];rfl;rw[aG b,aG b,cL,af,show idx [x,y] 0=some x from rfl,ab,KZ x];rfl
theorem Jl (h:¬iZ f<0):lg f=true:=by unfold iZ at h;cases hf:lg f with|true=>rfl|false=>rw[hf,af]at h;exact absurd (by decide) h
def TJ (f g:bO):Prop:=lg g=true/\∀i:Nat,(i:Int)=iZ f->g.getD i []=f.getD i []
theorem adw {g:bO}(h:¬iZ f<0)(k:TJ f g):¬iZ g<0/\Kb f<=Kb g/\0<=Kb f:=by
 have hf:=Jl h;obtain⟨k1,k2⟩:=k;unfold iZ at h k2;rw[hf,ah]at h k2;unfold iZ Kb;rw[k1,ah];by_cases a:jj (f.getD 0 [])<0/\jj (f.getD 1 [])<0;rw[aH a]at h;omega;rw[aG a]at h k2⊢;by_cases b:jj (f.getD 1 [])>jj (f.getD 0 []);rw[aH b]at k2⊢;have e:=k2 1 rfl;rw[e];have n:¬(jj (g.getD 0 [])<0/\jj (f.getD 1 [])<0):=by omega
 rw[aG n,aG n];split<;>refine⟨by omega,by omega,by omega⟩;rw[aG b]at k2⊢;have e:=k2 0 rfl;rw[e];have n:¬(jj (f.getD 0 [])<0/\jj (g.getD 1 [])<0):=by omega
 rw[aG n,aG n];split<;>refine⟨by omega,by omega,by omega⟩
theorem aiT (x:iW):Ends (tZ x) λb=>b=true->(0<=x.2.1/\x.2.1<=1)/\(x.1=0\/(x.2.2.2.length<=8/\0<=x.2.2.1/\x.2.2.1+(x.2.2.2.length:Int)<=96)):=by
 unfold tZ;simp only[cx,ab];refine Ends.cond (λ_=>Ends.pure (by simp)) λk=>?_;have k1:di x.2.1 0 1=true:=by simpa using k
 have k1:=aU.1 k1;refine Ends.cond (λk2=>?_) λ_=>Ends.cond (λ_=>?_) λ_=>Ends.pure (by simp);refine Ends.bind (P:=λ_=>True) (Ends.cond (λ_=>Ends.pure trivial) λ_=>Ends.pure trivial) λz _=>Ends.pure λ_=>⟨k1,Or.inl (by simpa using k2)⟩
 refine Ends.bind (P:=λb=>b=true->x.2.2.2.length<=8/\0<=x.2.2.1/\x.2.2.1+(x.2.2.2.length:Int)<=96) (Ends.cond (λk3=>Ends.pure λk4=>?_) λ_=>Ends.pure (by simp)) λz hz=>Ends.pure λhb=>⟨k1,Or.inr (hz hb)⟩
 have k3:=aU.1 k3;rw[ak (n:=96-(x.2.2.2.length:Int))]at k4;have k4:=aU.1 k4;omega
theorem Ua (h:lg f=true){k:Int}(hk:0<=k/\k<=1)(hs:s.length=96):lg (f.set k.toNat s)=true/\∀i:Nat,(i:Int)≠k->(f.set k.toNat s).getD i []=f.getD i []:=by obtain⟨e,h0,h1⟩:=yP h;refine⟨?_,λi hi=>?_⟩;rw[e];rcases(by omega:k=0\/k=1)with rfl|rfl;unfold lg;show((((2:Nat):Int)==2)&&(((s.length:Int)==96)&&(((f.getD 1 []).length:Int)==96)))=true;rw[hs,h1];rfl;unfold lg;show((((2:Nat):Int)==2)&&((((f.getD 0 []).length:Int)==96)&&((s.length:Int)==96)))=true;rw[hs,h0];rfl;rw[aW,aW,aE (by omega)]
theorem acQ (h:lg f=true)(x:iW)(part:Int)(hp:part<=1000):Ends (mm f x part) λg=>lg g=true/\∀i:Nat,(i:Int)≠x.2.1->g.getD i []=f.getD i []:=by
 obtain⟨e,h0,h1⟩:=yP h;have hl:f.length=2:=by rw[e];rfl
 have same:lg f=true/\∀i:Nat,(i:Int)≠x.2.1->f.getD i []=f.getD i []:=⟨h,λ_ _=>rfl⟩
 unfold mm;rw[mM,nm f,ab,Ms,ab,h];simp only[ab];refine Ends.bind (P:=λb=>b=false->((0<=x.2.1/\x.2.1<=1)/\(x.1=0\/(x.2.2.2.length<=8/\0<=x.2.2.1/\x.2.2.1+(x.2.2.2.length:Int)<=96)))/\0<=part) ?_ λz hz=>?_;refine Ends.cond (λk=>by simp at k) λ_=>(aiT x).bind λb hb=>Ends.cond (λ_=>Ends.pure (by simp)) λk2=>Ends.pure λk3=>⟨hb (by simpa using k2),?_⟩
 have:=eH k3;omega;refine Ends.cond (λ_=>Ends.pure same) λk=>?_;obtain⟨⟨hb,hx⟩,hp0⟩:=hz k;have hbl:x.2.1.toNat<f.length:=by omega
 have hlen:∀(i:Nat)(hi:i<f.length),f[i].length=96:=by intro i hi;have e0:f[0]'(by omega)=f.getD 0 []:=(cB (by omega) _).symm;have e1:f[1]'(by omega)=f.getD 1 []:=(cB (by omega) _).symm;rcases(by omega:i=0\/i=1)with rfl|rfl;rw[e0];exact h0;rw[e1];exact h1
 refine Ends.idx hb.1 (by omega) λhi=>?_;have h96:=hlen _ hi;refine Ends.room (by omega) (Ends.cond (λ_=>?_) λk0=>?_);refine Ends.ye (λy=>y.1.length=96/\0<=y.2/\y.2<=96) (λy=>(96-y.2).toNat) ⟨by simp[dJ,h96],by simp,by simp⟩ (by simp) λy ny hy hn=>?_;unfold uS;refine Ends.cond (λk1=>?_) λ_=>Ends.idx hb.1 (by omega) λ_=>Ends.idx hb.1 (by omega) λ_=>Ends.pure (Ua h hb (by simp[aQ];exact hy.1));have k1:=bA k1;have k2:y.2<96:=by split at k1<;>omega
 rw[ak (n:=y.2+1)];refine Ends.idx hy.2.1 (by have:=hy.1;omega) λ_=>Ends.idx hy.2.1 (by have:=hy.1;omega) λ_=>hn _ ⟨by show(List.set _ _ _).length=96;rw[az];exact hy.1,by show 0<=y.2+1;omega,by show y.2+1<=96;omega⟩ (by show(96-(y.2+1)).toNat<(96-y.2).toNat;omega);have hx:=hx.resolve_left (by simpa using k0);refine Ends.ye (λy=>y.1.length=96/\0<=y.2/\y.2<=(x.2.2.2.length:Int)) (λy=>((x.2.2.2.length:Int)-y.2).toNat) ⟨by simp[dJ,h96],by simp,by simp⟩ (by simp;omega) λy ny hy hn=>?_;unfold tc;refine Ends.cond (λk1=>?_) λ_=>Ends.idx hb.1 (by omega) λ_=>Ends.idx hb.1 (by omega) λ_=>Ends.pure (Ua h hb (by simp[aQ];exact hy.1));have k1:=bA k1;have k2:y.2<(x.2.2.2.length:Int):=by split at k1<;>omega
 have hy1:=hy.1;rw[ak (n:=y.2+1),ak (n:=x.2.2.1+y.2)];refine Ends.idx (by omega) (by omega) λ_=>Ends.idx hy.2.1 k2 λ_=>Ends.idx (by omega) (by omega) λ_=>Ends.idx (by omega) (by omega) λ_=>hn _ ⟨by show(List.set _ _ _).length=96;rw[az];exact hy.1,by show 0<=y.2+1;omega,by show y.2+1<=_;omega⟩ (by show((x.2.2.2.length:Int)-(y.2+1)).toNat<((x.2.2.2.length:Int)-y.2).toNat;omega)
theorem amj {l:Bytes}{i j:Int}(h0:0<=i)(h1:i<=j)(h2:j<=(l.length:Int)):∃s,sub l i j=some s:=by unfold sub;rw[aH ⟨h0,h1,h2⟩];exact⟨_,rfl⟩
theorem Sl {k0:aw iW->Int->aB (aw iW)}{Q:aw iW->Prop}(hs:s.length<=96){b:Int}(hk:∀l i,l.length<=100->(∀x∈l,x.2.1=b)->Ends (k0 l i) Q):Ends (bj (lE k0 s b) fuel ([(0,b,0,([]:Bytes))],8)) Q:=by refine Ends.ye (λy=>8*(y.1.length:Int)<=y.2/\8<=y.2/\y.2<=104/\∀x∈y.1,x.2.1=b) (λy=>(104-y.2).toNat) ⟨by simp,by simp,by simp,by simp⟩ (by simp) λy ny hy hn=>?_;unfold lE;refine Ends.cond (λk=>?_) λ_=>hk _ _ (by have:=hy.1;have:=hy.2.2.1;omega) hy.2.2.2;have k:=bA k;have h1:=hy.1;have h2:=hy.2.1;rw[ak (n:=y.2+8)];obtain⟨t,et⟩:=amj (l:=s) (i:=y.2) (j:=if(s.length:Int)<y.2+8 then(s.length:Int) else y.2+8) (by omega) (by split<;>omega) (by split<;>omega);rw[et,ab];refine Ends.room (by simp;omega) (hn _ ⟨by show 8*((y.1++[_]).length:Int)<=y.2+8;simp;omega,by show 8<=y.2+8;omega,by show y.2+8<=104;omega,?_⟩ (by show(104-(y.2+8)).toNat<(104-y.2).toNat;omega));intro x hx;rcases aA.1 hx with hx|hx;exact hy.2.2.2 x hx;rw[br.1 hx]
theorem abg (hs:s.length<=1000):Ends (uq f s) λl=>l.length<=101/\∀x∈l,x.2.1≠iZ f:=by
 unfold uq;rw[Ms,ab];refine Ends.bind (P:=λb=>b=false->lg f=true/\s.length<=96) ?_ λz hz=>Ends.cond (λ_=>Ends.pure ⟨by simp,by simp⟩) λk=>?_;refine Ends.cond (λ_=>Ends.pure (by simp)) λk1=>Ends.cond (λ_=>Ends.pure (by simp)) λk2=>?_;rw[KZ s,ab];have:=eH k2;exact Ends.pure λ_=>⟨by simpa using k1,by omega⟩
 obtain⟨hf,hl⟩:=hz k;have fin:∀(l:aw iW)(b:Int),b≠iZ f->l.length<=100->(∀x∈l,x.2.1=b)->Ends (aa (sub s 0 (if(s.length:Int)<8 then(s.length:Int) else 8)) λx8=>Go.Dn.room (List.length l+List.length [((1,b,0,x8):iW)]) (some (l++[(1,b,0,x8)]))) (λl=>l.length<=101/\∀x∈l,x.2.1≠iZ f):=by intro l b hb h1 h2;obtain⟨t,et⟩:=amj (l:=s) (i:=0) (j:=if(s.length:Int)<8 then(s.length:Int) else 8) (by omega) (by split<;>omega) (by split<;>omega);rw[et,ab];refine Ends.room (by simp;omega) (Ends.pure ⟨by simp;omega,λx hx=>?_⟩);rcases aA.1 hx with hx|hx;rw[h2 x hx];exact hb;rw[br.1 hx];exact hb
 rw[QV,ab];refine Ends.cond (λk0=>?_) λk0=>?_;have e:iZ f=0:=by simpa using k0
 exact Sl hl λl i h1 h2=>fin l 1 (by omega) h1 h2;have e:iZ f≠0:=by simpa using k0
 exact Sl hl λl i h1 h2=>fin l 0 (by omega) h1 h2
theorem Vu (h:lg f=true){l:aw iW}(hl:l.length<=101)(hb:∀x∈l,x.2.1≠iZ f)(n:Int)(hn:n<=1000):Ends (xR f l n 3) (TJ f):=by
 have hlen:f.length=2:=by rw[(yP h).1];rfl
 have same:TJ f f:=⟨h,λ_ _=>rfl⟩
 have step:∀(g:bO)(i:Nat)(hi:i<l.length)(part:Int),part<=1000->TJ f g->Ends (mm g l[i] part) (TJ f):=by
  intro g i hi part hp kg;refine(acQ kg.1 l[i] part hp).mono λg' hg=>⟨hg.1,λj hj=>?_⟩
  rw[hg.2 j (by rw[hj];exact(hb _ (aK hi)).symm)];exact kg.2 j hj
 unfold xR;rw[mM,nm f,ab];refine Ends.bind (P:=λb=>b=false->0<=n) (Ends.cond (λ_=>Ends.pure (by simp)) λk=>Ends.pure λ_=>by have:=eH k;omega) λz hz=>Ends.cond (λ_=>Ends.pure same) λk=>?_;have h0:=hz k;refine Ends.ye (λy=>0<=y.1/\y.1<=(l.length:Int)/\TJ f y.2) (λy=>((l.length:Int)-y.1).toNat) ⟨by simp,by simp,same⟩ (by simp;omega) λy ny hy hm=>?_;unfold xS;refine Ends.bind (P:=λb=>b=true->y.1<(l.length:Int)) (Ends.cond (λk1=>Ends.pure λ_=>bA k1) λ_=>Ends.pure (by simp)) λw hw=>Ends.cond (λk2=>?_) λ_=>Ends.cond (λk3=>?_) λ_=>Ends.pure hy.2.2;have k2:=hw k2;rw[ak (n:=y.1+1)];exact Ends.idx hy.1 k2 λhi=>(step y.2 _ hi 96 (by omega) hy.2.2).bind λg kg=>hm _ ⟨by show 0<=y.1+1;have:=hy.1;omega,by show y.1+1<=_;omega,kg⟩ (by show((l.length:Int)-(y.1+1)).toNat<((l.length:Int)-y.1).toNat;omega);have k3:=bA k3;exact Ends.idx h0 k3 λhi=>(step y.2 _ hi 3 (by omega) hy.2.2).bind λg kg=>Ends.pure kg
def Lt (b:uW)(n:Int):uW:=
 bif jg b&&di n 0 1000000 then(b.1,b.2.1,if b.2.1<ar (b.2.2+ar (b.1*n)) then b.2.1 else ar (b.2.2+ar (b.1*n))) else b
theorem adm (b:uW)(n:Int):sr b n=some (Lt b n):=by unfold sr Lt;simp only[Jz,ab,cx];cases jg b<;>cases di n 0 1000000<;>rfl
def Ha (f:α->α)(l:aw α)(i:Nat):aw α:=(l.take i).map f++l.drop i
theorem MH (f:α->α){l:aw α}(h:i<l.length):idx (Ha f l i) (i:Int)=some l[i]:=by rw[KK,Ha,bw (by simp only[bF,aV];omega),bR];rw[show i+(i-((l.take i).map f).length)=i by simp;omega];exact al h
theorem MI (f:α->α){l:aw α}(h:i<l.length):(Ha f l i).set i (f l[i])=Ha f l (i+1):=by
 have hl:((l.take i).map f).length=i:=by simp;omega
 rw[Ha,Ha,List.set_append_right _ _ (by omega),hl,iC,bW h,List.set_cons_zero,bl h,cZ,aR];rfl
theorem MG (f:α->α)(l:aw α):Ha f l l.length=l.map f:=by rw[Ha,cO,gN,bD]
def agb (n:Int)(f:aZ):aZ:=(f.1,f.2.1,Lt f.2.2.1 n,f.2.2.2)
theorem NR (l:aw aZ)(n:Int)(h:l.length<=10^9:=by omega):qz l n=some (l.map (agb n)):=by unfold qz;rw[xA l h,ab];refine dG (λi=>(Ha (agb n) l i,(i:Int))) l.length (by omega) (λi nx hi=>?_) (λnx=>?_);simp only[mV];rw[jP,MH _ hi,ak];simp only[ah,ab,adm,au];rw[<-MI _ hi];rfl;simp only[mV];rw[cL,af,MG]
def ar8 (x:Bytes):Bool:=decide (22<=x.length)
theorem sum_nil (l:aw bO):((l.map (λ_=>([]:bO))).map (λq=>q.countP ar8)).sum=0:=by induction l with|nil=>rfl|cons x l ih=>simp only[dm,gu,List.countP_nil,cE];exact ih
theorem SU {b:uW}(h:jg b=true)(n:Int):jg (Lt b n)=true:=by
 unfold Lt;cases hq:jg b&&di n 0 1000000 with
 |false=>exact h
 |true=>
  simp only[ae,aU]at hq;have hi:=h;unfold jg at hi;simp only[ae,aU]at hi;have e1:0<=b.1*n/\b.1*n<=10000000000:=⟨Int.mul_nonneg hi.1.1 hq.2.1,by have:=Int.mul_le_mul hi.1.2 hq.2.2 hq.2.1 (by omega:(0:Int)<=10000);omega⟩
  rw[ah,ak (n:=b.1*n),ak (n:=b.2.2+b.1*n)];unfold jg;simp only[ae,aU];refine⟨hi.1,hi.2.1,?_,?_⟩;split<;>omega;split<;>omega
def nb (a b:cW):Prop:=∀(i:Nat)(h:Host),b.1[i]?=some h->∃h0,a.1[i]?=some h0/\mA h0 h
theorem nb.refl (a:cW):nb a a:=λi h e=>⟨h,e,mA.refl h⟩
theorem nb.trans {a b:cW}(h:nb a b)(g:nb b c):nb a c:=by intro i x e;obtain⟨y,e1,s1⟩:=g i x e;obtain⟨w,e2,s2⟩:=h i y e1;exact⟨w,e2,s2.trans s1⟩
theorem Ii {h0:Host}(hk:c.1[k]?=some h0)(s:mA h0 h):nb c (R3 c k h):=by intro i x e;have e:(c.1.set k h)[i]?=some x:=e;by_cases hik:i=k;subst hik;obtain⟨hG,_⟩:=ay.1 hk;rw[bf hG]at e;rw[<-bP e];exact⟨h0,hk,s⟩;rw[aE (cl hik)]at e;exact⟨x,e,mA.refl x⟩
theorem abe {f:Host->Host}(hf:∀h,mA h (f h)){X:aw aZ×aw bN×bO×lZ×cc×bO}:nb c (c.1.map f,X):=by intro i x e;have e:(c.1.map f)[i]?=some x:=e;rw[List.getElem?_map]at e;cases hc:c.1[i]? with|none=>rw[hc]at e;cases e|some h0=>rw[hc]at e;rw[<-bP e];exact⟨h0,rfl,hf h0⟩
theorem aew (ps:aw Port)(v:Int)(p:aN)(c:cW)(j:Nat):nb c (dp ps v p c j):=by unfold dp;cases j==0 with|true=>exact λi h e=>⟨h,e,mA.refl h⟩|false=>simp only[af];cases hc:c.1[j-1]? with|none=>exact nb.refl c|some h=>exact Ii hc (LL ..)
theorem Vm (ps:aw Port)(v:Int)(p:aN):∀(l:fM)(c:cW),nb c (M8 ps v p c l)
 |[],c=>nb.refl c
 |j::l,c=>(aew ps v p c j).trans (Vm ps v p l _)
theorem I9 (c:cW)(e:Int)(p:aN):nb c (od c e p):=by unfold od;cases decide (oW (dw c.2.2.1).1 e p<0)with|true=>exact nb.refl c|false=>exact Vm _ _ _ _ _
theorem XH (c:cW)(e:Int)(p:aN):nb c (qM c e p):=by unfold qM;cases jT c&&eY p with|true=>exact I9 _ _ _|false=>exact nb.refl c
theorem aev (ps:aw Port)(k:Int)(c:cW)(x:Bytes):nb c (Bl ps k c x):=by
 unfold Bl;have e:nb c (c.1,(vH c.2.1 ps k (gn x).1).1,c.2.2):=λi h e=>⟨h,e,mA.refl h⟩
 cases (vH c.2.1 ps k (gn x).1).2.2 with|true=>exact e.trans (XH _ _ _)|false=>exact e
theorem Sg (ps:aw Port)(k:Int):∀(l:bO)(c:cW),nb c (ES ps k c l)
 |[],c=>nb.refl c
 |x::l,c=>(aev ps k c x).trans (Sg ps k l _)
theorem aoo (c:cW)(k:Int):nb c (tP c k):=by unfold tP;cases jT c&&(!decide (k<0)&& !decide (k>=(c.1.length:Int)));exact nb.refl c;simp only[ah];cases hc:c.1[k.toNat]? with|none=>exact nb.refl c|some h=>exact(Ii hc (Ja h)).trans (Sg _ _ _ _)
theorem Tw (c:cW)(x:Bytes):nb c (pK c x):=by
 unfold pK;cases !jT c;case true=>exact nb.refl c
 cases (gn x).2==0 with|true=>exact(show nb c (FE c) from λi h e=>⟨h,e,mA.refl h⟩).trans (I9 _ _ _)|false=>exact λi h e=>⟨h,e,mA.refl h⟩
theorem PB {k:lZ}(h:sT k=true):Ends (sc k 1) λr=>sT r=true/\k.1<=r.1:=by
 have hi:=h;unfold sT at hi;simp only[ae,aU]at hi;unfold sc;rw[Mq,ab,h,cx];simp only[aj,af,ab];have same:sT k=true/\k.1<=k.1:=⟨h,cU _⟩
 refine Ends.cond (λ_=>Ends.pure same) λ_=>Ends.ifn (by decide) ?_;unfold My;rw[ab];refine Ends.ifn (by decide) ?_;rw[Mq,ab];refine Ends.cond (λ_=>Ends.pure same) λk2=>Ends.pure ⟨by simpa using k2,?_⟩;rw[ak (n:=k.2.2.1*1),ak (n:=k.2.1+k.2.2.1*1)];have q0:0<=Int.tdiv (k.2.1+k.2.2.1*1) 1048576:=Int.tdiv_nonneg (by omega) (by omega);have q1:Int.tdiv (k.2.1+k.2.2.1*1) 1048576<=k.2.1+k.2.2.1*1:=by rw[Int.tdiv_eq_ediv_of_nonneg (by omega)];omega
 rw[ak (n:=Int.tdiv (k.2.1+k.2.2.1*1) 1048576)];generalize Int.tdiv (k.2.1+k.2.2.1*1) 1048576=q at q0 q1;show k.1<=ar (k.1+ar (q-if k.2.2.2<q then k.2.2.2 else q));split;rw[ak (n:=q-k.2.2.2),ak];omega;rw[ak (n:=q-q),ak];omega
theorem acX (g:gk n c):gk n (c.1,c.2.1.map (agb 1),c.2.2):=by refine YY g (cU n) (bF ..) (λi hi=>?_) λf hf=>?_;have q:=((Wz.1 g.fns).2 i hi).1;rw[cB hi]at q⊢;rw[cB (by rw[bF];exact hi),List.getElem_map];have w:=GJ.1 q;exact⟨rfl,rfl,GJ.2 ⟨w.1,w.2.1,SU w.2.2.1 1,w.2.2.2.1,w.2.2.2.2⟩⟩;obtain⟨x,hx,rfl⟩:=dB.1 hf;exact g.fnn x hx
theorem RQ (K:Int->cW->aB R)(b:cW)(hs:aw Host)(X:aw aZ×aw bN×bO×lZ×cc×bO)(hl:hs.length<=1000)(z:∀h∈hs,zC 90000000 h):bj (qW K (hs.length:Int) b) fuel (0,hs,X)=K (hs.length:Int) (hs.map qF,X):=by refine dG (λi=>((i:Int),Ha qF hs i,X)) hs.length (by omega) (λi nx hi=>?_) (λnx=>?_);simp only[qW];have zh:=z _ (aK hi);rw[jP,MH _ hi,ak];simp only[ah,ab,IS _ (zh.sz) (zh.z.mono),au];rw[<-MI _ hi];rfl;simp only[qW];rw[cL,af,MG]
theorem Vt (K:Int->cW->aB R)(b:cW)(hs:aw Host)(X:aw aZ×aw bN×bO×lZ×cc×bO)(hl:hs.length<=1000)(z:∀h∈hs,zC 90000000 h):bj (ll K (hs.length:Int) b) fuel (0,hs,X)=K (hs.length:Int) (hs.map sI,X):=by refine dG (λi=>((i:Int),Ha sI hs i,X)) hs.length (by omega) (λi nx hi=>?_) (λnx=>?_);simp only[ll];have zh:=z _ (aK hi);rw[jP,MH _ hi,ak];simp only[ah,ab,Q6 _ (zh.sz) (zh.z.mono),au];rw[<-MI _ hi];rfl;simp only[ll];rw[cL,af,MG]
structure aoC (n:Int) (N:Nat) (c:cW) (a:eJ) (r:cW×Int):Prop where
 SY:gk (n+14000000) r.1
 sz:Bn (N+645000) r.1
 len:r.1.1.length=c.1.length
 upd:a.1=2->r.2=Kb r.1.2.2.2.1/\Kb c.2.2.2.1<=Kb r.1.2.2.2.1
 flash:a.1≠2->r.1.2.2.2.1=c.2.2.2.1
 stamps:r.1.2.2.2.2.2.1=c.2.2.2.2.2.1++(if a.1=0/\a.2.2.1.1=2 then [c.2.2.2.2.1.1] else [])
 clock:c.2.2.2.2.1.1<=r.1.2.2.2.2.1.1
 stay:nb c r.1
 alone:(a.1=1\/a.1=0/\(a.2.2.1.1=0\/a.2.2.1.1=3\/a.2.2.1.1=5\/a.2.2.1.1=6))->∀i:Nat,(i:Int)≠a.2.1->r.1.1[i]?=c.1[i]?
theorem aeV {N M:Nat}(hN:N<=M)(z:Bn N c){f:Host->Host}(hf:∀h∈c.1,zC M (f h)):Bn M (c.1.map f,c.2):=by have z':=z.mono hN;refine⟨⟨⟨by show(c.1.map f).length<=M;rw[bF];exact z'.z.1.1,λx hx=>?_⟩,z'.z.2⟩,λx hx=>?_⟩;obtain⟨h,hh,rfl⟩:=dB.1 hx;exact(hf h hh).z;obtain⟨h,hh,rfl⟩:=dB.1 hx;exact hf h hh
theorem agF {N:Nat}(hn:n<=10000000000)(hN:1000<=N/\N<=50000000)(g:gk n c)(z:Bn N c)(ha:qd (c.1.length:Int) a):Ends (ta c a) (aoC n N c a):=by
 have p:=mw g.uM;have hlen:=g.len;have z9:dC 1000000000 uZ c:=z.z.mono;have gh:∀h∈c.1,Good n h:=by intro h hh;obtain⟨i,hi⟩:=eV hh;exact g.at hi
 have zh:∀h∈c.1,zC 90000000 h:=λh hh=>(z.h h hh).mono;unfold ta;rw[nJ c z9,ab,xz c (z.sz),g.ok (by omega),ab];have ok:py a (c.2.1.length:Int)=some true:=by unfold py;simp only[WU,cx,ab,ha.ok,ah];rw[ak (n:=(c.2.1.length:Int)-1),aU.2 ⟨ha.fn.1,by have:=ha.fn.2;omega⟩,ah,aU.2 ha.kind,ah,aU.2 ha.part];rfl
 simp only[aj,af,ok,ab];obtain⟨k,hk⟩:∃k:Nat,a.2.1=k:=⟨a.2.1.toNat,by have:=ha.fn.1;omega⟩
 have SI:=ha.fn;rw[hk]at SI;have S6:k<c.1.length:=by omega
 have Ui:k<c.2.2.1.length:=by omega
 have base:c.2.2.2.2.2.1=c.2.2.2.2.2.1++[]:=(bD _).symm;refine Ends.cond (λk1=>?_) λk1=>?_;have k1:a.1=1:=by simpa using k1
 rw[F8 c _ _ (z.z.mono) (z.sz),ab,hk];have hb:=al Ui;have nst:¬(a.1=0/\a.2.2.1.1=2):=by omega
 by_cases e1:a.2.2.2.1.1=c.2.2.1[k].2.1+1;obtain⟨h,b',eh,e2,_,_,e5,e6⟩:=Np g (by omega) hb (m:=a.2.2.2.1) e1;have pb:=mw e5;have hml:b'.1.2.2.length<=8:=CN (pb.2.2.2.1 b' (aL (bf Ui)));rw[e2];refine Ends.pure ⟨e6.mono,(art (by omega) z eh hml).mono,az ..,λe=>by omega,λ_=>rfl,by rw[aG nst];exact base,cU _,?_,λ_ i hi=>?_⟩;exact Ii eh ⟨rfl,rfl⟩;show(c.1.set k _)[i]?=c.1[i]?;rw[aE (by rw[hk]at hi;omega)];have e2:∃x,oT c.2.2.1 k a.2.2.2.1=(c.2.2.1,x):=by by_cases e3:a.2.2.2.1.1=c.2.2.1[k].2.1;exact⟨_,PM g.uM hb e3⟩;exact⟨_,Nm g.uM hb e3 e1⟩
 obtain⟨x,e2⟩:=e2;rw[Nq g (by omega) hb e2];exact Ends.pure ⟨g.mono,z.mono,rfl,λe=>by omega,λ_=>rfl,by rw[aG nst];exact base,cU _,nb.refl c,λ_ i hi=>rfl⟩;have k1:a.1≠1:=by simpa using k1
 refine Ends.cond (λk2=>?_) λk2=>?_;have k2:a.1=2:=by simpa using k2
 have hf:=Jl g.L7;have nst:¬(a.1=0/\a.2.2.1.1=2):=by omega
 refine(abg (f:=c.2.2.2.1) (s:=a.2.2.2.2.1) (by have:=ha.img;omega)).bind λr6 p6=>(Vu hf p6.1 p6.2 a.2.2.2.2.2 (by have:=ha.part;omega)).bind λf' p7=>?_;have b:=adw g.L7 p7;rw[RQ _ _ c.1 _ (by omega) zh,Uo (show lg f'=true from p7.1),ab];have gm:=Mk g (show n<=n+640 by omega) (f:=qF) (λh q=>Qx (by omega) q) Ud;have zm:=aeV (M:=N+645000) (by omega) z (f:=qF) λh hh=>(M5 (by omega) (z.h h hh) (acL ((gh h hh).ok (by omega)))).1;obtain⟨fe,f0,f1⟩:=yP p7.1;have fz:dC (N+645000) (.sl .str) f':=by rw[fe];refine⟨by show 2<=N+645000;omega,λx hx=>?_⟩;rcases bU.1 hx with e|hx;rw[e];show(f'.getD 0 []).length<=_;omega;rw[br.1 hx];show(f'.getD 1 []).length<=_;omega
 refine Ends.pure ⟨?_,⟨⟨zm.z.1,zm.z.2.1,zm.z.2.2.1,fz,zm.z.2.2.2.2⟩,zm.h⟩,bF ..,λ_=>⟨rfl,b.2.1⟩,λe=>absurd k2 e,by rw[aG nst];exact base,cU _,abe Sf,λe=>by omega⟩;have q:=gm.mono (show n+640<=n+14000000 by omega);exact⟨q.uM,q.len,q.fns,b.1,q.clock,q.host,q.place,q.SS,q.fnn⟩;have k2:a.1≠2:=by simpa using k2
 have k0:a.1=0:=by have:=ha.kind;omega
 have ac:=ha.act;have bound:=ac.2.1;refine Ends.cond (λk3=>?_) λk3=>?_;have k3:a.2.2.1.1=1:=by simpa using k3
 have nst:¬(a.1=0/\a.2.2.1.1=2):=by omega
 rw[QW c _ (z.mono),ab];have kt:=anY c a.2.1;have zt:=(abY hN.1 a.2.1 z).1;exact Ends.pure ⟨anv (by omega) g _,zt.mono,kt.len,λe=>absurd e k2,λ_=>kt.flash,by rw[aG nst,bD];exact kt.stamps,by rw[kt.clock];exact cU _,aoo _ _,λe=>by omega⟩;have k3:a.2.2.1.1≠1:=by simpa using k3
 refine Ends.cond (λk4=>?_) λk4=>?_;have k4:a.2.2.1.1=2:=by simpa using k4
 have yst:a.1=0/\a.2.2.1.1=2:=⟨k0,k4⟩
 rw[F9 c _ (z.mono),ab];have zr:=aaO hN.1 a.2.2.1.2.2.2.2.1 z;have kr:rZ (FE c) (pK c a.2.2.1.2.2.2.2.1):=by unfold pK;rw[g.ok (by omega)];simp only[aj,af];cases (gn a.2.2.1.2.2.2.2.1).2==0 with|true=>exact IV ..|false=>exact rZ.refl _
 exact Ends.pure ⟨(SZ (by omega) g _).mono,zr.1.mono,zr.2,λe=>absurd e k2,λ_=>kr.flash,by rw[aH yst];exact kr.stamps,by rw[kr.clock];exact cU _,Tw _ _,λe=>by omega⟩;have k4:a.2.2.1.1≠2:=by simpa using k4
 have nst:¬(a.1=0/\a.2.2.1.1=2):=by omega
 refine Ends.cond (λk5=>?_) λk5=>?_;have k5:a.2.2.1.1=4:=by simpa using k5
 show Ends (bj (ll _ (c.1.length:Int) _) fuel (0,c.1,c.2)) _;rw[Vt _ _ c.1 _ (by omega) zh];rw[NR c.2.1 1,ab];refine(PB g.clock).bind λr24 p24=>Ends.pure ?_;have gm:=Mk (acX g) (show n<=n by omega) (f:=sI) (λh q=>HV q) Qq;have zm:=aeV (M:=N+645000) (by omega) z (f:=sI) λh hh=>(LQ hN.1 (z.h h hh)).mono;have q:=gm.mono (show n<=n+14000000 by omega);refine⟨⟨q.uM,q.len,q.fns,q.L7,p24.1,q.host,q.place,q.SS,q.fnn⟩,⟨⟨zm.z.1,⟨?_,λ_ _=>⟨cG,cG,⟨cG,cG,cG⟩,cG,cG,cG⟩⟩,zm.z.2.2.1,zm.z.2.2.2.1,⟨cG,cG,cG,cG⟩,zm.z.2.2.2.2.2⟩,zm.h⟩,bF ..,λe=>absurd e k2,λ_=>rfl,by rw[aG nst];exact base,p24.2,abe Vn,λe=>by omega⟩;show(c.2.1.map (agb 1)).length<=_;rw[bF];exact zm.z.2.1.1;rw[hk,bB S6,ab];have zk:=z.h _ (aK S6);rw[Uq _ _ (zk.mono),ab,ab,ab];have hg:=al S6;have wI:=(aji hN.1 a.2.2.1 zk (acL ((g.at hg).ok (by omega)))).1;refine Ends.pure ⟨(HU g (show n<=n+641 by omega) hg (akx (by omega) (g.at hg) a.2.2.1) (ans ..)).mono,Ly (z.mono) wI,az ..,λe=>absurd e k2,λ_=>rfl,by rw[aG nst];exact base,cU _,Ii hg (amg ..),λ_ i hi=>?_⟩;show(c.1.set ((k:Int).toNat) _)[i]?=c.1[i]?;rw[au,aE (by rw[hk]at hi;omega)]
theorem apR {a:cc}{k:Bool->aB Bool}(ht:k true=some true)(hk:a.length<=1048576->Ends (k false) (λb=>b=true)):Ends (aa (K7 a) k) (λb=>b=true):=by unfold K7;rw[ab];by_cases h:((a.length:Int))>1048576;rw[ax h,ht];exact Ends.pure rfl;rw[aq h];exact hk (by omega)
theorem Ends.true {o:aB Bool}(h:Ends o (λb=>b=true)):o=some true:=by obtain⟨x,h1,rfl⟩:=h;exact h1
theorem RY (l:bO)(h:l.length<=10^9):yf l l=some true:=by refine Ends.true ?_;unfold yf;rw[bne_self_eq_false,af];refine Ends.ye (λx=>0<=x/\x<=(l.length:Int)) (λx=>((l.length:Int)-x).toNat) ⟨by omega,by omega⟩ (by omega) λx nx hx hn=>?_;unfold yg;refine Ends.cond (λk=>?_) λ_=>Ends.pure rfl;have k:=bA k;refine Ends.idx hx.1 k λ_=>Ends.idx hx.1 k λ_=>?_;rw[fG,aj,af,ak];exact hn _ ⟨by omega,by omega⟩ (by omega)
theorem ar6 {a:cc}(ha:agf (.sl (.int .u8)) a)(hl:a.length<=1048576){i:Int}(h0:0<=i)(h1:i<=1000000):Ends (Pf a i) λx=>0<=x/\x<=255:=by
 unfold Pf;refine Ends.cond (λ_=>Ends.pure ⟨cU _,by omega⟩) λk=>?_;have k:((a.length:Int))≠0:=by simpa using k
 have m1:=Int.tmod_nonneg (a.length:Int) (a:=i*5+1) (by omega);have m2:=Int.tmod_lt_of_pos (i*5+1) (b:=(a.length:Int)) (by omega);rw[ak (n:=i*5),ak (n:=i*5+1)];refine Ends.ifn k (Ends.idx m1 m2 λhi=>Ends.pure ?_);have hx:0<=a[(tmod (i*5+1) (a.length:Int)).toNat]/\a[(tmod (i*5+1) (a.length:Int)).toNat]<=255:=ha.2 _ (aK hi);rw[ak];exact hx
structure VI (c0:cW) (k:Nat) (c:cW):Prop where
 SY:gk (4+14000000*(k:Int)) c
 sz:Bn (2000+645000*k) c
 len:c.1.length=c0.1.length
 stay:nb c0 c
theorem VI.start (d:Gm c):VI c 0 c:=⟨d.SY.mono,(ajy d).mono,rfl,nb.refl c⟩
theorem VI.step {c0:cW}(q:VI c0 k c)(hk:k<=40)(ha:qd (c0.1.length:Int) a):Ends (ta c a) λr=>aoC (4+14000000*(k:Int)) (2000+645000*k) c a r/\VI c0 (k+1) r.1:=by refine(agF (by omega) ⟨by omega,by omega⟩ q.SY q.sz (by rw[q.len];exact ha)).mono λr h=>⟨h,⟨h.SY.mono (by push_cast;omega),h.sz.mono,h.len.trans q.len,q.stay.trans h.stay⟩⟩
end
end Go.Pu
