import Derived.Test.YtnmppgnbjfdffaaGreatPuX2
namespace Go.Pu
open Go.Dn
open Int (tmod)
set_option linter.unusedSimpArgs false
set_option linter.unusedVariables false
noncomputable section
variable {f:Filter} {h h0:Host} {a b d n:Int} {i k s:Nat} {p:df} {q:ca} {t:dB} {α:Type} {v:Vector} {l:aw aA} {m:bT} {r:ln}
/- What is valid stays valid: memory, rings, pools, the sender's queue. -/
theorem Ur (h:cB m=true)(a:Int)(s:Bytes):cB (qo m a s).1=true:=by unfold qo;cases hw:gk m a (s.length:Int);exact h;simp only[gk,ae,aC]at hw;exact pY.2 (xk s.length (pY.1 hw.1) (by omega)).1
theorem Rh:∀(q:aw (Int×Int)){m:bT}(s:Bytes),cB m=true->cB (Ku q m s)=true
 |[],_,_,h=>h
 |p::q,m,s,h=>by rw[Ku];exact Rh q _ (Ur h _ _)
theorem BZ (h:cB m=true)(l:aw aA)(d a:Int)(s:Bytes)(w:Bool):cB (hH l m d a s w).1=true:=by unfold hH;cases (kt l m d a (s.length:Int) w).2 with|false=>exact h|true=>exact Rh _ _ h
theorem HB (h:cB m=true)(l:aw aA)(d:Int)(r:ln)(s:Bytes):cB (cK l m d r s).1=true:=by
 unfold cK;cases (nz r==0)||((s.length:Int) !=16);case true=>exact h
 cases (hH l m d (nK r r.2.2.2) s true).2 with|false=>exact h|true=>exact BZ h ..
theorem B8 {x y:Int}(hb:0<=b/\b<=130944:=by omega)(hn:n=2\/n=4\/n=8\/n=16:=by omega)(hx:0<=x/\x<=2*n-1:=by omega)(hy:0<=y/\y<=2*n-1:=by omega)(hu:(y-x)%(2*n)<=n:=by omega):cR (b,n,x,y)=true:=by have hs:iK n=true:=gE.2 hn;simp only[cR,bE,hs,bf.2 hb,bf.2 hx,bf.2 hy,bM,bF,aC];exact hu
theorem CS (h:cR r=true):bE r=(r.2.2.2-r.2.2.1)%(2*r.2.1)/\0<=bE r/\bE r<=r.2.1:=by
 have k:=kD h;have e:bE r=(r.2.2.2-r.2.2.1)%(2*r.2.1):=by unfold bE;rw[aF (gE.2 k.2.2.1)]
 simp only[cR,ae,aC]at h;exact⟨e,by rw[e];exact eE _ (by omega),h.2.2.2.2⟩
theorem He {x:Int}(hn:0<n:=by omega)(hx:0<=x/\x<=n-1:=by omega):tmod (x+1) n=if x+1=n then 0 else x+1:=by rw[cv (by omega)];split;rename_i h;rw[h];exact Int.emod_self;exact Int.emod_eq_of_lt (by omega) (by omega)
theorem Yv (h:cR r=true)(hf:bE r<r.2.1):cR (r.1,r.2.1,r.2.2.1,tmod (r.2.2.2+1) (2*r.2.1))=true/\bE (r.1,r.2.1,r.2.2.1,tmod (r.2.2.2+1) (2*r.2.1))=bE r+1:=by
 have k:=kD h;have u:=CS h;have e:=He (x:=r.2.2.2) (n:=2*r.2.1);have u2:(tmod (r.2.2.2+1) (2*r.2.1)-r.2.2.1)%(2*r.2.1)=bE r+1:=by
  have h1:(tmod (r.2.2.2+1) (2*r.2.1)-r.2.2.1)%(2*r.2.1)=(r.2.2.2+1-r.2.2.1)%(2*r.2.1):=by rw[e];split;rename_i hh;rw[<-hh,show(r.2.2.2+1-r.2.2.1)=(0-r.2.2.1)+(r.2.2.2+1) by omega,Int.add_emod_right];rfl
  rw[h1,show r.2.2.2+1-r.2.2.1=(r.2.2.2-r.2.2.1)+1 by omega];have h0:=u.1;generalize r.2.2.2-r.2.2.1=d at h0⊢;rw[Int.add_emod,<-h0,Int.emod_eq_of_lt (a:=1) (by omega) (by omega),Int.emod_eq_of_lt (by omega) (by omega)]
 refine⟨B8 ⟨k.1,k.2.1⟩ k.2.2.1 ⟨k.2.2.2.1,k.2.2.2.2.1⟩ (by rw[e];split<;>omega) (by rw[u2];omega),?_⟩;unfold bE;rw[aF (gE.2 k.2.2.1)];exact u2
theorem abH (h:cR r=true)(hf:bE r≠0):cR (r.1,r.2.1,tmod (r.2.2.1+1) (2*r.2.1),r.2.2.2)=true/\bE (r.1,r.2.1,tmod (r.2.2.1+1) (2*r.2.1),r.2.2.2)=bE r-1:=by
 have k:=kD h;have u:=CS h;have e:=He (x:=r.2.2.1) (n:=2*r.2.1);have u2:(r.2.2.2-tmod (r.2.2.1+1) (2*r.2.1))%(2*r.2.1)=bE r-1:=by
  have h1:(r.2.2.2-tmod (r.2.2.1+1) (2*r.2.1))%(2*r.2.1)=(r.2.2.2-(r.2.2.1+1))%(2*r.2.1):=by rw[e];split;rename_i hh;rw[<-hh,show(r.2.2.2-0)=(r.2.2.2-(r.2.2.1+1))+(r.2.2.1+1) by omega,Int.add_emod_right];rfl
  rw[h1,show r.2.2.2-(r.2.2.1+1)=(r.2.2.2-r.2.2.1)-1 by omega];have h0:=u.1;generalize r.2.2.2-r.2.2.1=d at h0⊢;rw[Int.sub_emod,<-h0,Int.emod_eq_of_lt (a:=1) (by omega) (by omega),Int.emod_eq_of_lt (by omega) (by omega)]
 refine⟨B8 ⟨k.1,k.2.1⟩ k.2.2.1 (by rw[e];split<;>omega) ⟨k.2.2.2.2.2.1,k.2.2.2.2.2.2⟩ (by rw[u2];omega),?_⟩;unfold bE;rw[aF (gE.2 k.2.2.1)];exact u2
theorem WZ (h:cR r=true):nz r=r.2.1-bE r:=by have k:=kD h;have u:=CS h;unfold nz;rw[h,ah,ak]
theorem RO (h:cR r=true)(l:aw aA)(m:bT)(d:Int)(s:Bytes):cR (cK l m d r s).2.1=true/\(cK l m d r s).2.1.2.1=r.2.1:=by
 unfold cK;cases hc:(nz r==0)||((s.length:Int) !=16);case true=>exact⟨h,rfl⟩
 cases (hH l m d (nK r r.2.2.2) s true).2 with
 |false=>exact⟨h,rfl⟩
 |true=>
  simp only[cc]at hc;have h1:nz r≠0:=by simpa using hc.1
  rw[WZ h]at h1;have u:=CS h;exact⟨(Yv h (by omega)).1,rfl⟩
theorem M4 (h:cR r=true)(l:aw aA)(m:bT)(d:Int):cR (bg l m d r).2.1=true/\(bg l m d r).2.1.2.1=r.2.1:=by
 unfold bg;cases hc: !cR r||(bE r==0);case true=>exact⟨h,rfl⟩
 cases (qu l m d (nK r r.2.2.1) 16).2 with|false=>exact⟨h,rfl⟩|true=>simp only[cc]at hc;exact⟨(abH h (by simpa using hc.2)).1,rfl⟩
theorem aav {l:cP}:(List.range l.length).all (BD n l)=true↔(∀x∈l,0<=x/\x<=n-1)/\l.Nodup:=by
 rw[aI];constructor;intro h;have k:∀i (hi:i<l.length),(0<=l[i]/\l[i]<=n-1)/\l[i]∉l.take i:=by intro i hi;have:=h i (ch.2 hi);unfold BD at this;rw[dg hi,ae,bf]at this;exact⟨this.1,by simpa using this.2⟩
 refine⟨λx hx=>?_,?_⟩;obtain⟨i,hi,rfl⟩:=List.getElem_of_mem hx;exact(k i hi).1;rw[List.Nodup,List.pairwise_iff_getElem];intro i j hi hj hij he;refine(k j hj).2 ?_;rw[<-he];exact List.mem_take_iff_getElem.2 ⟨i,by omega,rfl⟩;rintro⟨h1,h2⟩ i hi;have hi:=ch.1 hi;unfold BD;rw[dg hi,ae,bf];refine⟨h1 _ (bC hi),?_⟩;have:l[i]∉l.take i:=by intro hm;obtain⟨j,hj,he⟩:=List.mem_take_iff_getElem.1 hm;rw[List.Nodup,List.pairwise_iff_getElem]at h2;exact h2 j i (by omega) hi (by omega) he
 simpa using this
theorem zI:dw p=true↔(0<=p.1/\p.1<=130944)/\(1<=p.2.1/\p.2.1<=512)/\(0<=p.2.2.1/\p.2.2.1<=16)/\(∀x∈p.2.2.2,0<=x/\x<=p.2.2.1-1)/\p.2.2.2.Nodup:=by unfold dw;simp only[ae,bf,aav]
theorem B5 {p:df}(h:dw p=true){l:cP}(hl:l.Sublist p.2.2.2):dw (p.1,p.2.1,p.2.2.1,l)=true:=by have k:=zI.1 h;exact zI.2 ⟨k.1,k.2.1,k.2.2.1,λx hx=>k.2.2.2.1 x (hl.subset hx),k.2.2.2.2.sublist hl⟩
theorem Ym (h:dw p=true)(l:cP):dw (DU p l).1=true:=by unfold DU;cases hg:zn p l with|false=>exact h|true=>unfold zn at hg;simp only[ae]at hg;exact hg.2
theorem FH {s:lZ}:nm n s=true↔(1<=s.2.1/\s.2.1<=n)/\0<=s.1/\s.1<=65535:=by unfold nm;simp only[ae,bf]
structure Ey (t:dB):Prop where
 ring:cR t.1=true
 next:0<=t.2.2.2/\t.2.2.2<=65535
 sent:∀x∈t.2.2.1,(1<=x.2.1/\x.2.1<=t.1.2.1)/\0<=x.1/\x.1<=65535
 pool:dw (gh t.2.1 (bp t.2.2.1))=true
 Em:dE t.2.2.1<=t.1.2.1
theorem Ey.free (h:Ey t):dw t.2.1=true:=B5 h.pool (List.sublist_append_left _ _)
theorem agt:IM t=true↔Ey t:=by constructor;intro h;unfold IM at h;simp only[ae,bf,aI,FH,aC]at h;obtain⟨h1,h2,h3,h4,h5,h6⟩:=h;unfold zn at h5;simp only[ae]at h5;exact⟨h1,h3,h4,h5.2,h6⟩;·intro h;unfold IM zn;simp only[ae,bf,aI,FH,aC];exact⟨h.ring,h.free,h.next,h.sent,⟨h.free,h.pool⟩,h.Em⟩
theorem Hj (a b:aw lZ):bp (a++b)=bp a++bp b:=by simp[bp]
theorem L4 (a b:aw lZ):dE (a++b)=dE a+dE b:=by simp[dE]
theorem Mo:∀(l:aw lZ)(p:df),dw (gh p (bp l))=true->oU p l=gh p (bp l)
 |[],p,_=>by simp[oU,bp,gh]
 |x::l,p,h=>by
  have e:bp (x::l)=x.2.2++bp l:=by simp[bp]
  rw[e]at h;have h1:dw (gh p x.2.2)=true:=B5 (p:=gh p (x.2.2++bp l)) h (by show(p.2.2.2++x.2.2).Sublist (p.2.2.2++(x.2.2++bp l));rw[<-aJ];exact List.sublist_append_left _ _);have h0:dw p=true:=B5 (p:=gh p x.2.2) h1 (List.sublist_append_left _ _);have hg:(DU p x.2.2).1=gh p x.2.2:=by unfold DU zn;rw[h0,h1];rfl
  have ea:gh (gh p x.2.2) (bp l)=gh p (x.2.2++bp l):=by simp[gh]
  rw[oU,hg,Mo l _ (by rw[ea];exact h),ea,e]
theorem adZ (h:Ey t)(hr:cR r=true)(hn:r.2.1=t.1.2.1):Ey (r,t.2):=
 ⟨hr,h.next,λx hx=>by show(1<=x.2.1/\x.2.1<=r.2.1)/\_;rw[hn];exact h.sent x hx,h.pool,by show dE t.2.2.1<=r.2.1;rw[hn];exact h.Em⟩
theorem Sm (h:Ey t)(n:Int):Ey (gP t n).1:=by
 unfold gP;cases hc:IM t&&dk n 0 (t.2.2.1.length:Int);exact h;simp only[ae,bf]at hc;have hs:t.2.2.1.take n.toNat++t.2.2.1.drop n.toNat=t.2.2.1:=bU _ _;have hb:bp t.2.2.1=bp (t.2.2.1.take n.toNat)++bp (t.2.2.1.drop n.toNat):=by rw[<-Hj,hs]
 have hp:dw (gh t.2.1 (bp (t.2.2.1.take n.toNat)))=true:=B5 (p:=gh t.2.1 (bp t.2.2.1)) h.pool (by show(t.2.1.2.2.2++_).Sublist (t.2.1.2.2.2++_);rw[hb];exact(List.sublist_append_left _ _).append_left _);have hg:=Mo _ _ hp;refine⟨h.ring,h.next,λx hx=>h.sent x (List.mem_of_mem_drop hx),?_,?_⟩;show dw (gh (oU t.2.1 (t.2.2.1.take n.toNat)) (bp (t.2.2.1.drop n.toNat)))=true;rw[hg,show gh (gh t.2.1 (bp (t.2.2.1.take n.toNat))) (bp (t.2.2.1.drop n.toNat))=gh t.2.1 (bp t.2.2.1) by rw[hb];simp[gh]];exact h.pool;show dE (t.2.2.1.drop n.toNat)<=t.1.2.1;have h1:dE t.2.2.1=dE (t.2.2.1.take n.toNat)+dE (t.2.2.1.drop n.toNat):=by rw[<-L4,hs]
 have h2:0<=dE (t.2.2.1.take n.toNat):=wD t.1.2.1 _ (by rw[aI];exact λx hx=>FH.2 (h.sent x (List.mem_of_mem_take hx)));have:=h.Em;omega
theorem I4 (l:aw aA)(m:bT)(d:Int):∀(n:Nat)(acc:aw Cs)(r:ln),cR r=true->cR (sF l m d n acc r).2.1=true/\(sF l m d n acc r).2.1.2.1=r.2.1
 |0,acc,r,h=>⟨h,rfl⟩
 |n+1,acc,r,h=>by have k:=kD h;have ht:=M4 h l m d;rw[sF];cases !(bg l m d r).2.2|| !(cO (bg l m d r).1).2 with|true=>exact⟨B8 ⟨k.1,k.2.1⟩ k.2.2.1 ⟨k.2.2.2.2.2.1,k.2.2.2.2.2.2⟩ ⟨k.2.2.2.2.2.1,k.2.2.2.2.2.2⟩ (by rw[Int.sub_self,Int.zero_emod];omega),rfl⟩|false=>cases Tu (cO (bg l m d r).1).1 with|true=>exact ht|false=>have:=I4 l m d n (acc++[(cO (bg l m d r).1).1]) _ ht.1;exact⟨this.1,this.2.trans ht.2⟩
theorem S2 (h:cR r=true)(l:aw aA)(m:bT)(d:Int):cR (db l m d r).2.1=true/\(db l m d r).2.1.2.1=r.2.1:=by unfold db;cases !cR r||(bE r==0)with|true=>exact⟨h,rfl⟩|false=>exact I4 l m d _ _ _ h
theorem Rr (h:cR r=true)(l:aw aA)(m:bT)(d:Int):cR (iC l m d r).1=true/\(iC l m d r).1.2.1=r.2.1:=by
 have hc:=S2 h l m d;unfold iC;cases !cR r||(bE r==0);case true=>exact⟨h,rfl⟩
 cases !(db l m d r).2.2|| !(fy (db l m d r).1).2.2.2;case true=>exact hc
 cases !(lM l m d (fy (db l m d r).1).1).2||(!(wu (lM l m d (fy (db l m d r).1).1).1).2||((jF (wu (lM l m d (fy (db l m d r).1).1).1).1).2 !=0))with|true=>exact hc|false=>exact hc
theorem Cm (l:aw aA)(m:bT)(d:Int):∀(n:Nat)(fr:bT)(dn bd:Nat)(r:ln),cR r=true->cR (pt l m d n fr dn bd r).1=true/\(pt l m d n fr dn bd r).1.2.1=r.2.1
 |0,fr,dn,bd,r,h=>⟨h,rfl⟩
 |n+1,fr,dn,bd,r,h=>by
  have k:=Rr h l m d;rw[pt];cases (iC l m d r).2.2==0;case true=>exact⟨h,rfl⟩
  cases (iC l m d r).2.2==1 with|true=>have:=Cm l m d n (fr++(iC l m d r).2.1) (dn+1) bd _ k.1;exact⟨this.1,this.2.trans k.2⟩|false=>have:=Cm l m d n (fr++(iC l m d r).2.1) dn (bd+1) _ k.1;exact⟨this.1,this.2.trans k.2⟩
theorem FB (l:aw aA)(d:Int):∀(q:bT)(m:bT)(r:ln){x},qa l d q m r=some x->(cR r=true->cR x.2=true/\x.2.2.1=r.2.1)/\(cB m=true->cB x.1=true)
 |[],m,r,x,h=>by cases h;exact⟨λh=>⟨h,rfl⟩,λh=>h⟩
 |s::q,m,r,x,h=>by rw[qa]at h;cases hq:(cK l m d r s).2.2 with|false=>rw[hq]at h;cases h|true=>rw[hq]at h;have k:=FB l d q _ _ h;refine⟨λhr=>?_,λhm=>k.2 (HB hm ..)⟩;have hp:=RO hr l m d s;have:=k.1 hp.1;exact⟨this.1,this.2.trans hp.2⟩
theorem ML (l:aw aA)(d:Int)(p:df)(z:Nat):∀(q:cP)(s:Bytes)(m:bT)(a:aw gn){x},tY l d p z q s m a=some x->cB m=true->cB x.2=true
 |[],s,m,a,x,h,hm=>by cases h;exact hm
 |b::q,s,m,a,x,h,hm=>by rw[tY]at h;cases hq:(hH l m d (nw p b) (s.take z) false).2 with|false=>rw[hq]at h;cases h|true=>rw[hq]at h;exact ML l d p z q _ _ _ h (BZ hm ..)
theorem Yn (h:dw p=true){l:cP}(hl:l.Perm p.2.2.2):dw (p.1,p.2.1,p.2.2.1,l)=true:=by have k:=zI.1 h;exact zI.2 ⟨k.1,k.2.1,k.2.2.1,λx hx=>k.2.2.2.1 x (hl.mem_iff.1 hx),hl.nodup_iff.2 k.2.2.2.2⟩
theorem YE (h:Ey t)(hm:cB m=true)(l:aw aA)(d c:Int){n:Nat}(hf:EN t n=true)(x:aw gn×bT)(hx:cB x.2=true):cB (HN l m d t c n x).1=true/\Ey (HN l m d t c n x).2.1:=by
 unfold HN rr;cases hp:qa l d ((ou x.1 c t.2.2.2).map vV) x.2 t.1 with
 |none=>exact⟨hm,h⟩
 |some y=>
  have k:=FB l d _ _ _ hp;have kr:=k.1 h.ring;refine⟨k.2 hx,?_⟩;unfold EN at hf;simp only[ae,aL,cM]at hf;have ht:jH t.2.1 (n:Int)=((t.2.1.1,t.2.1.2.1,t.2.1.2.2.1,t.2.1.2.2.2.drop n),t.2.1.2.2.2.take n,true):=by have h1:=hf.1;unfold jH at h1⊢;cases hc:dw t.2.1&&dk (n:Int) 0 (t.2.1.2.2.2.length:Int)with|false=>rw[hc]at h1;cases h1|true=>simp only[ah,az]
  have h0:0<=dE t.2.2.1:=wD t.1.2.1 _ (by rw[aI];exact λx hx=>FH.2 (h.sent x hx));show Ey (y.2,(jH t.2.1 (n:Int)).1,t.2.2.1++[(t.2.2.2,(n:Int)+1,(jH t.2.1 (n:Int)).2.1)],tmod (t.2.2.2+1) 65536);rw[ht];have hn:=h.next
  refine⟨kr.1,?_,?_,?_,?_⟩;have:=He (x:=t.2.2.2) (n:=65536);show 0<=tmod (t.2.2.2+1) 65536/\tmod (t.2.2.2+1) 65536<=65535;rw[this];split<;>omega;intro s hs;show(1<=s.2.1/\s.2.1<=y.2.2.1)/\0<=s.1/\s.1<=65535;rw[kr.2];rcases ax.1 hs with hs|hs;exact h.sent s hs;rw[cj.1 hs];show(1<=(n:Int)+1/\(n:Int)+1<=t.1.2.1)/\0<=t.2.2.2/\t.2.2.2<=65535;omega;refine Yn (p:=gh t.2.1 (bp t.2.2.1)) h.pool ?_;show(t.2.1.2.2.2.drop n++bp (t.2.2.1++[_])).Perm (t.2.1.2.2.2++bp t.2.2.1);rw[Hj,show bp [(t.2.2.2,(n:Int)+1,t.2.1.2.2.2.take n)]=t.2.1.2.2.2.take n by simp[bp]];refine(List.perm_append_comm_assoc _ _ _).trans ?_;refine(List.perm_append_comm).trans ?_;exact((List.perm_append_comm.trans (by rw[bU])).append_right _);show dE (t.2.2.1++[_])<=y.2.2.1;rw[L4,kr.2,show dE [(t.2.2.2,(n:Int)+1,t.2.1.2.2.2.take n)]=(n:Int)+1 by simp[dE]];omega
theorem YD (h:Ey t)(hm:cB m=true)(l:aw aA)(d:Int)(p:aO)(c z:Int):cB (ur l m d t p c z).1=true/\Ey (ur l m d t p c z).2.1:=by unfold ur;cases IM t&&(dq p&&(dk z 1 t.2.1.2.1&&dk c 1 128));exact⟨hm,h⟩;cases hf:EN t (vU p z.toNat);exact⟨hm,h⟩;simp only[ah];cases hw:tY l d t.2.1 z.toNat (jH t.2.1 (vU p z.toNat:Int)).2.1 (jx p).1 m []with|none=>exact⟨hm,h⟩|some x=>exact YE h hm l d c hf x (ML l d _ _ _ _ _ _ hw hm)
theorem Cy (v:Vector):Bv v=true↔1<=v.2.2.1/\(v.1<=v.2.2.1\/v.2.1<=v.2.2.2.1):=by unfold Bv;by_cases h1:v.2.2.1>=1;rw[au h1,ah];by_cases h2:v.2.2.1>=v.1;rw[au h2];simp;omega;rw[ar h2,af,aC];omega;rw[ar h1];simp;omega
theorem agu (v:Vector):ej v=(dk v.1 1 64&&(dk v.2.1 0 64&&(dk v.2.2.1 0 1000000&&(dk v.2.2.2.1 0 1000000&&((decide (v.2.2.1>0)||(v.2.2.2.1==0))&&(v.2.2.2.2.2==(Bv v&& !v.2.2.2.2.1))))))):=by have h:=Ec v;unfold lA at h;simp only[ed,adM,ab]at h;generalize ej v=w at h⊢;revert h;cases dk v.1 1 64;(intro h;cases h;rfl);cases dk v.2.1 0 64;(intro h;cases h;rfl);cases dk v.2.2.1 0 1000000;(intro h;cases h;rfl);cases dk v.2.2.2.1 0 1000000;(intro h;cases h;rfl);cases decide (v.2.2.1>0)<;>cases (v.2.2.2.1==0)<;>cases Bv v<;>(intro h;cases h;rfl)
theorem vu (v:Vector):ej v=true↔(1<=v.1/\v.1<=64)/\(0<=v.2.1/\v.2.1<=64)/\(0<=v.2.2.1/\v.2.2.1<=1000000)/\(0<=v.2.2.2.1/\v.2.2.2.1<=1000000)/\(v.2.2.1>0\/v.2.2.2.1=0)/\v.2.2.2.2.2=(Bv v&& !v.2.2.2.2.1):=by rw[agu];simp only[ae,bf,cz,aC,bc]
theorem EF (h1:1<=v.1/\v.1<=64)(h2:0<=v.2.1/\v.2.1<=64)(h3:0<=v.2.2.1/\v.2.2.1<=1000000)(h4:0<=v.2.2.2.1/\v.2.2.2.1<=1000000)(h5:v.2.2.1>0\/v.2.2.2.1=0)(hr:v.2.2.2.2.2=true->Bv v=true/\v.2.2.2.2.1=false):ej (Bl v)=true:=by unfold Bl;cases hd:Bv v&& !v.2.2.2.2.1 with|true=>exact(vu _).2 ⟨h1,h2,h3,h4,h5,by show true=(Bv v&& !v.2.2.2.2.1);rw[hd]⟩|false=>refine(vu _).2 ⟨h1,h2,h3,h4,h5,?_⟩;rw[af,hd];cases hv:v.2.2.2.2.2 with|false=>rfl|true=>have:=hr hv;rw[this.1,this.2]at hd;cases hd
theorem Aw (h:ej v=true)(hr:v.2.2.2.2.2=true):Bv v=true/\v.2.2.2.2.1=false:=by have:=((vu v).1 h).2.2.2.2.2;rw[hr]at this;cases hd:Bv v with|false=>rw[hd]at this;cases this|true=>rw[hd]at this;cases hm:v.2.2.2.2.1 with|true=>rw[hm]at this;cases this|false=>exact⟨rfl,rfl⟩
theorem acv (h:0<=n/\n<=1000000):n<=Zb n/\0<Zb n/\Zb n<=1000000:=by unfold Zb;rw[ak];split<;>omega
theorem agv (h:ej v=true):ej (evV v)=true:=by have k:=(vu v).1 h;have u:=acv k.2.2.1;unfold evV;rw[h,ah];refine EF (v:=(v.1,v.2.1,Zb v.2.2.1,v.2.2.2)) k.1 k.2.1 ⟨by show 0<=Zb v.2.2.1;omega,u.2.2⟩ k.2.2.2.1 (Or.inl u.2.1) λhr=>?_;have d:=Aw h hr;have d1:=(Cy v).1 d.1;exact⟨(Cy _).2 ⟨by show 1<=Zb v.2.2.1;omega,by show v.1<=Zb v.2.2.1\/v.2.1<=v.2.2.2.1;omega⟩,d.2⟩
theorem acy (h:ej v=true):ej (Sk v)=true:=by have k:=(vu v).1 h;have u:=acv k.2.2.2.1;unfold Sk;rw[h,ah];by_cases h0:v.2.2.1>0;rw[au h0,ah];refine EF (v:=(v.1,v.2.1,v.2.2.1,Zb v.2.2.2.1,v.2.2.2.2)) k.1 k.2.1 k.2.2.1 ⟨by show 0<=Zb v.2.2.2.1;omega,u.2.2⟩ (Or.inl h0) λhr=>?_;have d:=Aw h hr;have d1:=(Cy v).1 d.1;exact⟨(Cy _).2 ⟨d1.1,by show v.1<=v.2.2.1\/v.2.1<=Zb v.2.2.2.1;omega⟩,d.2⟩;rw[ar h0,af];exact EF k.1 k.2.1 k.2.2.1 k.2.2.2.1 k.2.2.2.2.1 λhr=>Aw h hr
theorem acx (h:ej v=true):ej (zN v).1=true:=by have k:=(vu v).1 h;unfold zN;cases ej v&&v.2.2.2.2.2 with|false=>exact h|true=>exact(vu _).2 ⟨k.1,k.2.1,⟨dY _,by show(0:Int)<=1000000;omega⟩,⟨dY _,by show(0:Int)<=1000000;omega⟩,Or.inr rfl,by show false=(_&& !true);simp⟩
theorem Vf (h:ej v=true):ej (F1 v)=true:=by have k:=(vu v).1 h;unfold F1;rw[h,ah];refine EF (v:=(v.1,v.2.1,v.2.2.1,v.2.2.2.1,false,v.2.2.2.2.2)) k.1 k.2.1 k.2.2.1 k.2.2.2.1 k.2.2.2.2.1 λhr=>?_;exact⟨(Cy _).2 ((Cy v).1 (Aw h hr).1),rfl⟩
theorem Zc (h:ej v=true):ej (v.1,v.2.1,0,0,false,false)=true:=by have k:=(vu v).1 h;exact(vu _).2 ⟨k.1,k.2.1,⟨dY _,by show(0:Int)<=1000000;omega⟩,⟨dY _,by show(0:Int)<=1000000;omega⟩,Or.inr rfl,by simp[Bv]⟩
structure ye (n:Int) (r:ca):Prop where
 ring:cR r.1=true
 dev:fE r.2.1=true
 drv:fE r.2.2.1=true
 base:r.2.1.1=r.2.2.1.1
 size:r.2.1.2.1=r.2.2.1.2.1
 drop:0<=r.2.2.2.2.2/\r.2.2.2.2.2<=n
 held:r.2.2.2.2.1=true->dq r.2.2.2.1.1=true/\(0<=r.2.2.2.1.2.1/\r.2.2.2.1.2.1<=320)/\1<=r.2.2.2.1.2.2/\r.2.2.2.1.2.2<=320
 free:r.2.2.2.2.1=false->r.2.2.2.1=YX
theorem abL (r:ca):Es r=true↔ye 1000000000000 r:=by constructor;intro h;unfold Es at h;rw[ae]at h;simp only[ae,bc,bf]at h;obtain⟨⟨h1,h2,h3,h4,h5,h6⟩,h7⟩:=h;refine⟨h1,h2,h3,h4,h5,h6,λhh=>?_,λhh=>?_⟩;rw[hh,ah]at h7;simp only[ae,bf]at h7;exact⟨h7.1,h7.2.1,h7.2.2⟩;rw[hh,af]at h7;exact(ab0 _).1 h7;intro h;unfold Es;rw[ae];simp only[ae,bc,bf];refine⟨⟨h.ring,h.dev,h.drv,h.base,h.size,h.drop⟩,?_⟩;cases hh:r.2.2.2.2.1 with|true=>have:=h.held hh;simp only[ah,ae,bf];exact⟨this.1,this.2.1,this.2.2⟩|false=>rw[af];exact(ab0 _).2 (h.free hh)
theorem ye.mono {m:Int}{r:ca}(h:ye n r)(hn:n<=m:=by omega):ye m r:=⟨h.ring,h.dev,h.drv,h.base,h.size,⟨h.drop.1,by have:=h.drop.2;omega⟩,h.held,h.free⟩
theorem ye.rx {r:ca}(h:ye n r)(hn:n<=1000000000000):Es r=true:=(abL r).2 (h.mono hn)
theorem XU (h:cB m=true)(l:aw aA)(d:Int)(q:K7)(x:DE):cB (yC l m d q x).1=true:=by
 unfold yC;cases !fE q|| !xz x;case true=>exact h
 cases (hH l m d (qt q) (NX x (xS q)) true).2 with|false=>exact h|true=>exact BZ h ..
theorem XV (h:cB m=true)(l:aw aA)(d:Int)(q:ca)(k s:Bytes):cB (gZ l m d q k s).1=true:=by
 unfold gZ;cases !(cO s).2||(((cO s).1.1 !=3)||decide ((cO s).1.2.2.1<((dx q.2.2.2.1.1).1.length:Int)));case true=>exact h
 cases (hH l m d (cO s).1.2.2.2.1 (dx q.2.2.2.1.1).1 true).2 with|false=>exact h|true=>exact XU (BZ h ..) ..
theorem adV {k s:Bytes}(hm:cB m=true)(hq:fE q.2.1=true):fE (gZ l m d q k s).2.1=true/\(gZ l m d q k s).2.1.1=q.2.1.1/\(gZ l m d q k s).2.1.2.1=q.2.1.2.1:=(Na (n:=128) (by omega) (MU (by omega) (pY.1 hm)) hq).2.2
theorem DS (hn:n<=900000000000)(h:ye n q)(hm:cB m=true)(l:aw aA)(d:Int)(k:Bytes):cB (iB l m d q k).1=true/\ye (n+320) (iB l m d q k).2:=by
 unfold iB;cases hc: !Es q||(!q.2.2.2.2.1||((k.length:Int) !=16));case true=>exact⟨hm,h.mono⟩
 simp only[cc,dy]at hc;have hh:=h.held hc.2.1;have hd:=h.drop;have hr:=M4 h.ring l m d;have hs:=adV (l:=l) (d:=d) (k:=k) (s:=(bg l m d q.1).1) hm h.dev;simp only[af];cases (bg l m d q.1).2.2&&(gZ l m d q k (bg l m d q.1).1).2.2 with|true=>exact⟨XV hm ..,hr.1,hs.1,h.drv,hs.2.1.trans h.base,hs.2.2.trans h.size,⟨hd.1,by show q.2.2.2.2.2<=n+320;omega⟩,λhf=>(by cases hf),λ_=>rfl⟩|false=>refine⟨hm,hr.1,h.dev,h.drv,h.base,h.size,?_,λhf=>(by cases hf),λ_=>rfl⟩;show 0<=aq (q.2.2.2.2.2+q.2.2.2.1.2.2)/\aq (q.2.2.2.2.2+q.2.2.2.1.2.2)<=n+320;rw[ak];omega
theorem adn {s:qp}{p:aO}(h:Gd s p=true):dq (Dj s p).1=true/\(0<=(Dj s p).2.1/\(Dj s p).2.1<=320)/\1<=(Dj s p).2.2/\(Dj s p).2.2<=320:=by
 have hl:=Nw h;unfold Dj;rw[h,ah];simp only[Gd,aaB,Wj,ae,aC,bf,bc]at h;obtain⟨⟨hs,hp,ahx,h6,Zi,hf⟩,⟨hz,hc,hn,CJ,amu⟩,_⟩:=h;have amr:s.2.2+1<=320:=by
  have:s.2.2<=s.2.1*s.2.2:=by have:=Int.mul_le_mul_of_nonneg_right hz (show 0<=s.2.2 by omega);omega
  omega
 have ahG:s.2.1<=320:=by
  have:s.2.1<=s.2.1*s.2.2:=by have:=Int.mul_le_mul_of_nonneg_left hc.1 (show 0<=s.2.1 by omega);omega
  omega
 refine⟨?_,⟨by show 0<=s.2.1;omega,ahG⟩,?_⟩;have hh:ow s.1=true:=by unfold dq at hs;simp only[ae]at hs;exact hs.1
 have hk:s.1.2.2.2.2.2.2.2.2.1=6:=by
  have e:s.1.2.2.2.2.2.2.2.2.1=p.2.2.2.2.2.2.2.2.1:=by have h2:=ahx;unfold Rv at h2;simp only[ae,bc]at h2;exact h2.2.2.2.2.2.2.2.1
  rw[e];exact h6
 have hsg:=xJ hh;have hfl:dk p.2.2.2.2.2.2.2.2.2.2.2.2.2.1 0 31=true:=Fy hp (by rw[h6];rfl);have hg:=KD hsg hk (Wg hsg hk).2.2.1 (bf.1 hfl) (x:=s.1.2.2.2.2.2.2.2.2.2.2.2.2.2.2.2++p.2.2.2.2.2.2.2.2.2.2.2.2.2.2.2) (by rw[ai];omega);unfold dq;rw[ae];refine⟨zu hh (JB hh) hg,?_⟩;show(_||(s.1.2.2.2.2.2.2.2.2.1==6)&&zW p.2.2.2.2.2.2.2.2.2.2.2.2.2.1)=true;rw[hk,hf];simp;show 1<=aq (s.2.2+1)/\aq (s.2.2+1)<=320;rw[ak];omega
theorem ac2 (h:ye n q){s:qp}(hs:dq s.1=true)(h1:0<=s.2.1/\s.2.1<=320)(h2:1<=s.2.2/\s.2.2<=320):ye n (JC q s):=⟨h.ring,h.dev,h.drv,h.base,h.size,h.drop,λ_=>⟨hs,h1,h2⟩,λhf=>(by cases hf)⟩
theorem YH {p:aO}(h:fT p=true):dq (lC p).1=true/\(0<=(lC p).2.1/\(lC p).2.1<=320)/\1<=(lC p).2.2/\(lC p).2.2<=320:=by
 have hl:=D8 h;have hs:dq p=true:=by unfold fT at h;simp only[ae]at h;exact h.1
 refine⟨hs,?_,by show(1:Int)<=1/\(1:Int)<=320;omega⟩;show 0<=(p.2.2.2.2.2.2.2.2.2.2.2.2.2.2.2.length:Int)/\(p.2.2.2.2.2.2.2.2.2.2.2.2.2.2.2.length:Int)<=320;omega
theorem PF (hn:n<=800000000000)(h:ye n q)(hm:cB m=true)(l:aw aA)(d:Int)(k:Bytes)(p:aO)(c:Bool):cB (kO l m d q k p c).1=true/\ye (n+640) (kO l m d q k p c).2:=by
 unfold kO;cases hc: !Es q||(!fT p||((k.length:Int) !=16));case true=>exact⟨hm,h.mono⟩
 simp only[cc,dy]at hc;have hs:=YH hc.2.1;have hf:=DS (by omega) h hm l d k;have Aa:=ac2 hf.2 hs.1 hs.2.1 hs.2.2;simp only[af];cases hj:c&&(q.2.2.2.2.1&&Gd q.2.2.2.1 p)with|true=>simp only[ae]at hj;have j:=adn hj.2.2;exact⟨hm,h.ring,h.dev,h.drv,h.base,h.size,⟨h.drop.1,by show q.2.2.2.2.2<=n+640;have:=h.drop.2;omega⟩,λ_=>j,λhf=>(by have hf:q.2.2.2.2.1=false:=hf;rw[hj.2.1]at hf;cases hf)⟩|false=>simp only[af];cases c with|true=>exact⟨hf.1,Aa.mono⟩|false=>have:=DS (by omega) Aa hf.1 l d k;exact⟨this.1,this.2.mono⟩
theorem agd {q:K7}(h:fE q=true):fE (qs l m d q).2.1=true/\(qs l m d q).2.1.1=q.1/\(qs l m d q).2.1.2.1=q.2.1:=by unfold qs;cases OG l m d q with|false=>exact⟨h,rfl,rfl⟩|true=>have k:=tt h;refine⟨?_,rfl,rfl⟩;have e:=Ph (a:=q.2.2+1) (b:=2*q.2.1);simp only[ah,aey,fE,ae,bf]at h⊢;refine⟨h.1,h.2.1,?_⟩;rw[xv h.2.1];omega
theorem UH {s:aw Stream×ca×df}(h:ye n s.2.1)(hp:dw s.2.2=true)(l:aw aA)(m:bT)(d:Int):ye n (B4 l m d s).2.1/\dw (B4 l m d s).2.2=true:=by have k:=agd (l:=l) (m:=m) (d:=d) h.drv;exact⟨⟨h.ring,h.dev,k.1,h.base.trans k.2.1.symm,h.size.trans k.2.2.symm,h.drop,h.held,h.free⟩,Ym hp _⟩
theorem Ko (l:aw aA)(m:bT)(d:Int):∀(k:Nat)(s:aw Stream×ca×df),ye n s.2.1->dw s.2.2=true->ye n (jC l m d k s).2.2.1/\dw (jC l m d k s).2.2.2=true
 |0,s,h,hp=>⟨h,hp⟩
 |k+1,s,h,hp=>by rw[jC];cases (qs l m d s.2.1.2.2.1).2.2 with|false=>exact⟨h,hp⟩|true=>have e:=UH h hp l m d;exact Ko l m d k _ e.1 e.2
theorem Jl (l:aw aA)(d:Int)(p:df):∀(q:cP)(m:bT)(r:ln),cB m=true->cR r=true->cB (lD l d p q m r).2.1=true/\cR (lD l d p q m r).2.2=true
 |[],m,r,hm,hr=>⟨hm,hr⟩
 |b::q,m,r,hm,hr=>by rw[lD];cases (cK l m d r (eM p b)).2.2 with|false=>exact⟨hm,hr⟩|true=>exact Jl l d p q _ _ (HB hm ..) (RO hr ..).1
theorem Mh (hm:cB m=true)(hr:cR r=true)(hp:dw p=true)(l:aw aA)(d:Int):cB (sI l m d r p).1=true/\cR (sI l m d r p).2.1=true/\dw (sI l m d r p).2.2.1=true:=by unfold sI;rw[hr,hp];have k:=Jl l d p p.2.2.2 m r hm hr;exact⟨k.1,k.2,B5 hp (List.drop_sublist _ _)⟩
theorem MZ {rx:ca}(h:ye n rx)(hm:cB m=true){pl:df}(hp:dw pl=true)(l:aw aA)(d:Int)(st:aw Stream)(c:Int):cB (jn l m d rx pl st c).1=true/\ye n (jn l m d rx pl st c).2.1/\dw (jn l m d rx pl st c).2.2.1=true:=by
 unfold jn;cases !Es rx||(!dw pl|| !dk c 0 1000);case true=>exact⟨hm,h,hp⟩
 have k:=Ko l m d c.toNat (st,rx,pl) h hp;have f:=Mh hm k.1.ring k.2 l d;exact⟨f.1,⟨f.2.1,k.1.dev,k.1.drv,k.1.base,k.1.size,k.1.drop,k.1.held,k.1.free⟩,f.2.2⟩
structure Good (n:Int) (h:Host):Prop where
 mem:cB h.1=true
 maps:fw h.2.1=true
 tx:Ey h.2.2.1
 Iy:pC h.2.2.2.2.2.2.2.1=true
 lens:qq h=true
 O7:fe h.2.2.2.2.2.2.2.2.1 (h.2.2.2.1.length:Int)=true
 rx:∀r∈h.2.2.2.1,ye n r
 pool:∀p∈h.2.2.2.2.1,dw p=true
 vec:∀v∈h.2.2.2.2.2.1,ej v=true
 Em:∀x∈ie h,0<=x/\x<=n
theorem Good.mono {m:Int}(g:Good n h)(hn:n<=m:=by omega):Good m h:=⟨g.mem,g.maps,g.tx,g.Iy,g.lens,g.O7,λr hr=>(g.rx r hr).mono hn,g.pool,g.vec,λx hx=>⟨(g.Em x hx).1,by have:=(g.Em x hx).2;omega⟩⟩
theorem aaH (h:Host):eU h=true↔Good 1000000000000 h:=by unfold eU RP;simp only[ae,aI,bf,agt,abL];constructor;rintro⟨h1,h2,h3,h4,h5,h6,⟨h7,h8,h9⟩,h10⟩;exact⟨h1,h2,h3,h4,h5,h6,h7,h8,h9,h10⟩;intro g;exact⟨g.mem,g.maps,g.tx,g.Iy,g.lens,g.O7,⟨g.rx,g.pool,g.vec⟩,g.Em⟩
theorem Good.ok (g:Good n h)(hn:n<=1000000000000):eU h=true:=(aaH h).2 (g.mono hn)
theorem qZ {P:α->Prop}{l:aw α}{v:α}(h:∀x∈l,P x)(hv:P v):∀x∈l.set i v,P x:=by intro x hx;rcases List.mem_or_eq_of_mem_set hx with g|g;exact h x g;rw[g];exact hv
theorem acZ (g:Good n h)(k:Nat):Good n (evS k h):=by unfold evS;cases hv:h.2.2.2.2.2.1[k]? with|none=>exact g|some v=>exact⟨g.mem,g.maps,g.tx,g.Iy,by have:=g.lens;unfold qq at this⊢;rw[aB];exact this,g.O7,g.rx,g.pool,qZ g.vec (agv (g.vec v (bj hv))),g.Em⟩
theorem Qi (g:Good n h)(k:Nat):∀i,Good n (VG k i h)
 |0=>g
 |i+1=>acZ (Qi g k i) k
theorem Hr (g:Good n h)(k:Nat)(b:Int){f:bT×ca}(h1:cB f.1=true)(h2:ye n f.2):Good n (Ej h k b f):=by refine Qi (h:=FD h k f) ⟨h1,g.maps,g.tx,g.Iy,?_,?_,qZ g.rx h2,g.pool,g.vec,g.Em⟩ _ _;have:=g.lens;unfold qq FD at*;simp only[aB];exact this;show fe _ ((h.2.2.2.1.set k f.2).length:Int)=true;rw[aB];exact g.O7
theorem Qj (hn:n<=800000000000)(g:Good n h)(k:Nat):Good (n+320) (mf k h):=by unfold mf;cases hx:h.2.2.2.1[k]? with|none=>exact g.mono|some x=>have f:=DS (by omega) (g.rx x (bj hx)) g.mem h.2.1 0 h.2.2.2.2.2.2.2.2.1.2.2.1;exact Hr (g.mono) k _ f.1 f.2
theorem TF (hn:n<=700000000000)(g:Good n h):Good (n+640) (xE h):=by
 unfold xE;have hl:=pX g.lens;cases eU h with
 |false=>exact g.mono
 |true=>
  have key:∀k:Nat,k<=2->Good (n+320*(k:Int)) (kv mf k h):=by intro k;induction k with|zero=>intro _;exact g.mono|succ k ih=>intro hk;exact(Qj (by omega) (ih (by omega)) k).mono
  exact(key _ hl.1).mono (by have:=hl.1;omega)
theorem W2 (g:Good n h):Good n (zP h):=by
 unfold zP;cases eU h with
 |false=>exact g
 |true=>
  have key:∀k,Good n (kv tR k h):=by intro k;induction k with|zero=>exact g|succ k ih=>show Good n (tR k (kv tR k h));generalize kv tR k h=s at ih⊢;unfold tR;cases hv:s.2.2.2.2.2.1[k]? with|none=>exact ih|some v=>exact⟨ih.mem,ih.maps,ih.tx,ih.Iy,by have:=ih.lens;unfold qq at this⊢;rw[aB];exact this,ih.O7,ih.rx,ih.pool,qZ ih.vec (acy (ih.vec v (bj hv))),ih.Em⟩
  exact key _
theorem W1 (g:Good n h)(p:aO)(c z:Int):Good n (wA h p c z).1:=by unfold wA;cases eU h with|false=>exact g|true=>have k:=YD g.tx g.mem h.2.1 0 p c z;exact⟨k.1,g.maps,k.2,g.Iy,g.lens,g.O7,g.rx,g.pool,g.vec,g.Em⟩
theorem Lk (g:Good n h):Good n (jr h):=by unfold jr;cases eU h with|false=>exact g|true=>have r:=Cm h.2.1 h.1 0 17 [] 0 0 h.2.2.1.1 g.tx.ring;exact⟨g.mem,g.maps,Sm (adZ g.tx r.1 r.2) _,g.Iy,g.lens,g.O7,g.rx,g.pool,g.vec,g.Em⟩
theorem Bn {x:Int}(h:0<=x/\x<=n)(hn:n<=800000000000:=by omega):0<=aq (x+1)/\aq (x+1)<=n+1:=by rw[ak];omega
theorem zY (hn:n<=800000000000)(g:Good n h){c:Int}(ha:0<=a/\a<=n+1)(hb:0<=b/\b<=n+1)(hc:0<=c/\c<=n+1)(hd:0<=d/\d<=n+1):Good (n+1) (yN h a b c d):=by have k:=g.mono (show n<=n+1 by omega);refine⟨k.mem,k.maps,k.tx,k.Iy,k.lens,k.O7,k.rx,k.pool,k.vec,λx hx=>?_⟩;have h1:=Bn (g.Em _ (List.mem_cons_self ..)) hn;simp only[ie,yN,cg,List.not_mem_nil,or_false]at hx;rcases hx with rfl|rfl|rfl|rfl|rfl;exact h1;exact ha;exact hb;exact hc;exact hd
theorem N5 (hn:n<=700000000000)(g:Good n h)(x:Bytes):Good (n+641) (mB h x):=by
 have c1:=g.Em h.2.2.2.2.2.2.2.2.2.2.2.2.2.2.2.1 (by simp[ie]);have c2:=g.Em h.2.2.2.2.2.2.2.2.2.2.2.2.2.2.2.2.1 (by simp[ie]);have c3:=g.Em h.2.2.2.2.2.2.2.2.2.2.2.2.2.2.2.2.2.1 (by simp[ie]);have c4:=g.Em h.2.2.2.2.2.2.2.2.2.2.2.2.2.2.2.2.2.2 (by simp[ie]);have u:∀{y:Int},0<=y/\y<=n->0<=y/\y<=n+1:=λhy=>⟨hy.1,by omega⟩
 unfold mB;cases eU h;exact g.mono;cases (nJ x).2 !=0;case true=>exact(zY (by omega) g (Bn c1) (u c2) (u c3) (u c4)).mono
 cases !vw h.2.2.2.2.2.2.2.1 (nJ x).1;case true=>exact(zY (by omega) g (u c1) (Bn c2) (u c3) (u c4)).mono
 cases qx h.2.2.2.2.2.2.2.2.1 (h.2.2.2.1.length:Int) (nJ x).1== -1;case true=>exact(zY (by omega) g (u c1) (u c2) (Bn c3) (u c4)).mono
 simp only[aj,af];cases hq:h.2.2.2.1[(qx h.2.2.2.2.2.2.2.2.1 (h.2.2.2.1.length:Int) (nJ x).1).toNat]? with|none=>exact g.mono|some q=>have a:=PF (by omega) (g.rx q (bj hq)) g.mem h.2.1 0 h.2.2.2.2.2.2.2.2.1.2.2.1 (nJ x).1 h.2.2.2.2.2.2.2.2.2.2.1;exact Hr ((zY (by omega) g (u c1) (u c2) (u c3) (Bn c4)).mono) _ _ a.1 (a.2.mono)
theorem Qk (g:Good n h)(i:Nat)(c:Int):Good n (uj h i c).2:=by unfold uj;rcases h1:h.2.2.2.1[i]? with _|rx;exact g;rcases h2:h.2.2.2.2.1[i]? with _|pl;exact g;have k:=MZ (g.rx rx (bj h1)) g.mem (g.pool pl (bj h2)) h.2.1 0 h.2.2.2.2.2.2.2.2.2.1 c;refine⟨k.1,g.maps,g.tx,g.Iy,?_,?_,qZ g.rx k.2.1,qZ g.pool k.2.2,g.vec,g.Em⟩;have:=g.lens;unfold qq at*;simp only[aB];exact this;show fe _ ((h.2.2.2.1.set i _).length:Int)=true;rw[aB];exact g.O7
theorem Qm (b:Int)(k:Nat){s:Int×Host}(g:Good n s.2):Good n (xW b k s).2:=by unfold xW;rcases h1:s.2.2.2.2.2.2.1[k]? with _|v;exact g;rcases h2:s.2.2.2.2.2.2.2.1[k]? with _|p;exact g;rcases h3:s.2.2.2.2.1[k]? with _|x;exact g;rcases h4:s.2.2.2.2.2.1[k]? with _|pl;exact g;have hv:=acx (g.vec v (bj h1));simp only;cases p||(zN v).2 with|false=>refine⟨g.mem,g.maps,g.tx,g.Iy,?_,g.O7,g.rx,g.pool,qZ g.vec hv,g.Em⟩;have:=g.lens;unfold qq at*;simp only[af,aB];exact this|true=>have e:=MZ (g.rx x (bj h3)) g.mem (g.pool pl (bj h4)) s.2.2.1 0 s.2.2.2.2.2.2.2.2.2.2.1 b;refine⟨e.1,g.maps,g.tx,g.Iy,?_,?_,qZ g.rx e.2.1,qZ g.pool e.2.2,qZ g.vec ?_,g.Em⟩;have:=g.lens;unfold qq at*;simp only[ah,aB];exact this;show fe _ ((s.2.2.2.2.1.set k _).length:Int)=true;rw[aB];exact g.O7;cases decide ((jn s.2.2.1 s.2.1 0 x pl s.2.2.2.2.2.2.2.2.2.2.1 b).2.2.2.2<b)with|true=>exact Vf hv|false=>exact hv
theorem Jy (b:Int)(g:Good n h):∀k,Good n (pj b k h).2
 |0=>g
 |k+1=>Qm b k (Jy b g k)
theorem N6 (g:Good n h)(b:Int):Good n (pk h b).1:=by unfold pk;cases eU h&&dk b 1 1000 with|false=>exact g|true=>exact Jy b g _
theorem ET (g:Good n h):∀k,Good n (pZ h k)
 |0=>g
 |k+1=>Qk (ET g k) k 1000
theorem W0 (g:Good n h)(l:cP):Good n (RN h l):=⟨g.mem,g.maps,g.tx,g.Iy,g.lens,g.O7,g.rx,g.pool,g.vec,g.Em⟩
theorem Db (g:Good n h):∀k,Good n (returned h k)
 |0=>ET g _
 |k+1=>by show Good n (KA h.2.2.1.2.2.1 k (returned h k));have:=Db g k;unfold KA;cases h.2.2.1.2.2.1[k]? with|none=>exact this|some x=>exact W0 this _
theorem RB (ha:0<=a/\a<=130944:=by omega)(hb:1<=b/\b<=512:=by omega)(hn:0<=n/\n<=16:=by omega):gT a b n=((a,b,n,upto n.toNat),true)/\dw (a,b,n,upto n.toNat)=true:=by have h1:dw (a,b,n,[])=true:=zI.2 ⟨ha,hb,hn,by simp,List.nodup_nil⟩;refine⟨by unfold gT;rw[h1];rfl,zI.2 ⟨ha,hb,hn,?_,?_⟩⟩;intro x hx;simp only[upto,List.mem_map,ch]at hx;obtain⟨i,hi,rfl⟩:=hx;show 0<=Int.ofNat i/\Int.ofNat i<=n-1;simp only[Int.ofNat_eq_natCast];omega;show(upto n.toNat).Nodup;unfold upto;rw[List.Nodup,List.pairwise_map];exact List.nodup_range.imp λh he=>h (Int.ofNat.inj he)
theorem acs (c:Int)(hc:0<=c/\c<=65535):Ey (tT.1,tT.2.1,tT.2.2.1,c):=by
 have p:=RB (a:=256) (b:=128) (n:=8);refine⟨B8,hc,λx hx=>(by cases hx),?_,by show(0:Int)<=16;omega⟩;show dw (gh (gT 256 128 8).1 [])=true;rw[p.1];have e:gh (256,128,8,upto (8:Int).toNat) []=(256,128,8,upto (8:Int).toNat):=by simp[gh]
 show dw (gh (256,128,8,upto (8:Int).toNat) [])=true;rw[e];exact p.2
theorem N4 (g:Good n h):Good n (pA h):=by have k:=Db g h.2.2.1.2.2.1.length;exact⟨k.mem,k.maps,acs _ k.tx.next,k.Iy,k.lens,k.O7,k.rx,k.pool,k.vec,k.Em⟩
theorem Vq (h:i<=8):0<=gO i/\gO i<=16000:=by unfold gO;omega
theorem MR (hm:cB m=true)(l:aw aA)(hi:i<=8):cB (sn l m i).1=true/\cR (sn l m i).2.1=true/\dw (sn l m i).2.2.1=true:=by have hb:=Vq hi;have p:=RB (a:=gO i+128) (b:=384) (n:=4);unfold sn;rw[p.1];exact Mh (BZ hm ..) (B8) p.2 l 0
theorem RT (hi:i<=8)(hr:cR r=true)(hd:0<=d/\d<=n):ye n (r,(gO i+64,4,0),(gO i+64,4,0),((0,0,0,0,0,0,0,0,0,0,0,0,0,0,0,([]:Bytes)),0,0),false,d):=by
 have hb:=Vq hi;have hq:fE (gO i+64,4,0)=true:=by have hs:iK 4=true:=gE.2 (by omega);unfold fE;rw[ae,ae];exact⟨bf.2 (by omega),hs,by rw[xv hs];rfl⟩
 exact⟨hr,hq,hq,rfl,rfl,hd,λhf=>(by cases hf),λ_=>rfl⟩
theorem Ql (hn:n<=800000000000)(g:Good n h)(hi:i<=8):Good (n+320) (uq i h):=by
 have gm:=g.mono (show n<=n+320 by omega);unfold uq;rcases h1:h.2.2.2.1[i]? with _|x;exact gm;rcases h2:h.2.2.2.2.2.1[i]? with _|v;exact gm;have o:=MR g.mem h.2.1 hi;have hx:=g.rx x (bj h1);have hd:0<=C7 x/\C7 x<=n+320:=by have d:=hx.drop;unfold C7;cases hh:x.2.2.2.2.1 with|false=>simp only[af];omega|true=>have:=hx.held hh;rw[ah,ak];omega
 refine⟨o.1,gm.maps,gm.tx,gm.Iy,?_,?_,qZ gm.rx (RT hi o.2.1 hd),qZ gm.pool o.2.2,qZ gm.vec (Zc (g.vec v (bj h2))),gm.Em⟩;have:=g.lens;unfold qq Dm at*;simp only[aB];exact this;show fe _ (((Dm h i (C7 x)).2.2.2.1).length:Int)=true;unfold Dm;simp only[aB];exact g.O7
theorem Da (hn:n<=700000000000)(g:Good n h):∀k:Nat,k<=8->Good (n+320*(k:Int)) (gU h k)
 |0,_=>g.mono
 |k+1,hk=>(Ql (by omega) (Da hn g k (by omega)) (i:=k) (by omega)).mono
theorem Jx (hn:n<=700000000000)(g:Good n h):Good (n+640) (gD h):=by have hl:=pX g.lens;unfold gD;cases eU h with|false=>exact g.mono|true=>exact(Da hn (N4 g) _ (by omega)).mono (by have:=hl.1;omega)
structure ma (a b:Host):Prop where
 maps:b.2.1=a.2.1
 mem:b.1.length=a.1.length
theorem ma.refl (a:Host):ma a a:=⟨rfl,rfl⟩
theorem ma.trans {a b c:Host}(h:ma a b)(g:ma b c):ma a c:=⟨g.maps.trans h.maps,g.mem.trans h.mem⟩
theorem ma.of {a b:Host}(h:kF k a b):ma a b:=⟨h.maps,h.mem⟩
theorem adU (l:aw aA)(m:bT)(d:Int)(q:ca)(k s:Bytes):(gZ l m d q k s).1.length=m.length:=by
 unfold gZ;cases !(cO s).2||(((cO s).1.1 !=3)||decide ((cO s).1.2.2.1<((dx q.2.2.2.1.1).1.length:Int)));case true=>rfl
 cases (hH l m d (cO s).1.2.2.2.1 (dx q.2.2.2.1.1).1 true).2 with
 |false=>rfl
 |true=>
  simp only[af,aj];unfold yC;cases !fE q.2.1|| !xz _;case true=>exact jD ..
  cases (hH l (hH l m d (cO s).1.2.2.2.1 (dx q.2.2.2.1.1).1 true).1 d (qt q.2.1) _ true).2 with|false=>exact jD ..|true=>exact(jD ..).trans (jD ..)
theorem N3 (l:aw aA)(m:bT)(d:Int)(q:ca)(k:Bytes):(iB l m d q k).1.length=m.length:=by
 unfold iB;cases !Es q||(!q.2.2.2.2.1||((k.length:Int) !=16));case true=>rfl
 cases (bg l m d q.1).2.2&&(gZ l m d q k (bg l m d q.1).1).2.2 with|true=>exact adU ..|false=>rfl
theorem ZE (l:aw aA)(m:bT)(d:Int)(q:ca)(k:Bytes)(p:aO)(c:Bool):(kO l m d q k p c).1.length=m.length:=by
 unfold kO;cases !Es q||(!fT p||((k.length:Int) !=16));case true=>rfl
 cases c&&(q.2.2.2.2.1&&Gd q.2.2.2.1 p);case true=>rfl
 cases c with|true=>exact N3 ..|false=>exact(N3 ..).trans (N3 ..)
theorem abP (l:aw aA)(m:bT)(d:Int)(t:dB)(p:aO)(c z:Int):(ur l m d t p c z).1.length=m.length:=by unfold ur;cases IM t&&(dq p&&(dk z 1 t.2.1.2.1&&dk c 1 128));rfl;cases EN t (vU p z.toNat);rfl;simp only[ah];cases hw:tY l d t.2.1 z.toNat (jH t.2.1 (vU p z.toNat:Int)).2.1 (jx p).1 m []with|none=>rfl|some x=>have hx:=(EM _ _ _ _ _ _ _ _ hw).1;simp only;unfold HN rr;cases hp:qa l d ((ou x.1 c t.2.2.2).map vV) x.2 t.1 with|none=>rfl|some y=>exact(HH _ _ _ _ _ hp).trans hx
theorem YS (h:Host)(p:aO)(c z:Int):ma h (wA h p c z).1:=by unfold wA;cases eU h with|false=>exact ma.refl h|true=>exact⟨rfl,abP ..⟩
theorem LM (h:Host):ma h (jr h):=by unfold jr;cases eU h with|false=>exact ma.refl h|true=>exact⟨rfl,rfl⟩
theorem U4 (h:Host):ma h (xE h):=by unfold xE;cases eU h with|false=>exact ma.refl h|true=>exact ma.of (uB BC h _)
theorem YT (h:Host):ma h (zP h):=by unfold zP;cases eU h with|false=>exact ma.refl h|true=>exact ma.of (uB Ef h _)
theorem O6 (h:Host)(b:Int):ma h (pk h b).1:=by unfold pk;cases eU h&&dk b 1 1000 with|false=>exact ma.refl h|true=>exact ma.of (CW b h _)
theorem O5 (h:Host)(x:Bytes):ma h (mB h x):=by
 unfold mB;cases eU h;exact ma.refl h;cases (nJ x).2 !=0;case true=>exact⟨rfl,rfl⟩
 cases !vw h.2.2.2.2.2.2.2.1 (nJ x).1;case true=>exact⟨rfl,rfl⟩
 cases qx h.2.2.2.2.2.2.2.2.1 (h.2.2.2.1.length:Int) (nJ x).1== -1;case true=>exact⟨rfl,rfl⟩
 simp only[aj,af];cases hq:h.2.2.2.1[(qx h.2.2.2.2.2.2.2.2.1 (h.2.2.2.1.length:Int) (nJ x).1).toNat]? with|none=>exact ma.refl h|some q=>exact ma.trans (b:=yN h _ _ _ _) ⟨rfl,rfl⟩ (ma.of (Co (ZE ..)))
theorem FU (h:Host):∀k,ma h (pZ h k)
 |0=>ma.refl h
 |k+1=>by refine(FU h k).trans ?_;show ma (pZ h k) (uj (pZ h k) k 1000).2;generalize pZ h k=s;unfold uj;rcases s.2.2.2.1[k]? with _|rx;exact ma.refl s;rcases s.2.2.2.2.1[k]? with _|pl;exact ma.refl s;exact⟨rfl,V8 ..⟩
theorem Dx (h:Host):∀k,ma h (returned h k)
 |0=>FU h _
 |k+1=>by refine(Dx h k).trans ?_;show ma (returned h k) (KA h.2.2.1.2.2.1 k (returned h k));unfold KA;cases h.2.2.1.2.2.1[k]? with|none=>exact ma.refl _|some x=>exact⟨rfl,rfl⟩
theorem U5 (h:Host):ma h (gD h):=by unfold gD;cases eU h with|false=>exact ma.refl h|true=>have k:=uZ (pA h) h.2.2.2.1.length;have r:=Dx h h.2.2.1.2.2.1.length;exact⟨k.maps.trans r.maps,k.mem.trans r.mem⟩
def wv (h:Host)(a:Act):Host×Int:=
 bif a.1==0 then((wA h a.2.1 a.2.2.1 a.2.2.2.1).1,age (wA h a.2.1 a.2.2.1 a.2.2.2.1).2) else
 bif a.1==1 then(jr h,0) else
 bif a.1==2 then(mB h a.2.2.2.2.1,0) else
 bif a.1==3 then(xE h,0) else
 bif a.1==4 then(zP h,0) else
 pk h a.2.2.2.2.2
theorem acM (b:Bool):CQ b=some (age b):=by unfold CQ age;cases b<;>rfl
theorem ac0 (h:Host)(a:Act)(k:Bc 90000000 h)(hx:a.2.2.2.2.1.length<=10^9)(h0:0<=a.1)(h5:a.1<=5):ng h a=some (true,wv h a):=by
 have z:cX 1000000000 dJ h:=k.z.mono;unfold ng wv;simp only[ab,Xt h _ _ _ (k.mono),Ox h (k.mono),Ov h _ (k.mono) hx,TT h (k.mono),aa7 h (k.sz (by omega)) z,QR h _ (k.mono),acM];cases e0:a.1==0;case true=>rfl
 cases e1:a.1==1;case true=>rfl
 cases e2:a.1==2;case true=>rfl
 cases e3:a.1==3;case true=>rfl
 cases e4:a.1==4;case true=>rfl
 have e5:(a.1==5)=true:=by simp only[cI,ne_eq]at e0 e1 e2 e3 e4;simp only[bc];omega
 rw[e5];rfl
def kg (s:Host×Int)(a:Act):Host×Int:=
 bif a.1==6 then(gD s.1,s.2) else((wv s.1 a).1,bif a.1==0 then aq (s.2+(wv s.1 a).2) else s.2)
def aaw (h:Host)(l:aw Act):Host×Int:=l.foldl kg (h,0)
theorem TD (hn:n<=700000000000)(g:Good n h)(a:Act)(s:Int):Good (n+641) (kg (h,s) a).1:=by
 unfold kg;cases a.1==6 with
 |true=>exact(Jx hn g).mono
 |false=>
  show Good _ (wv h a).1;unfold wv;cases a.1==0;case true=>exact(W1 g _ _ _).mono
  cases a.1==1;case true=>exact(Lk g).mono
  cases a.1==2;case true=>exact N5 hn g _
  cases a.1==3;case true=>exact(TF hn g).mono
  cases a.1==4;case true=>exact(W2 g).mono
  exact(N6 g _).mono
theorem TE (h:Host)(a:Act)(s:Int):ma h (kg (h,s) a).1:=by
 unfold kg;cases a.1==6 with
 |true=>exact U5 h
 |false=>
  show ma h (wv h a).1;unfold wv;cases a.1==0;case true=>exact YS ..
  cases a.1==1;case true=>exact LM h
  cases a.1==2;case true=>exact O5 ..
  cases a.1==3;case true=>exact U4 h
  cases a.1==4;case true=>exact YT h
  exact O6 ..
theorem aax {n:Nat}(hn:1000<=n)(a:Act)(s:Int)(k:Bc n h)(f:Few h):Bc (n+645000) (kg (h,s) a).1:=by
 unfold kg;cases a.1==6 with
 |true=>exact(M3 hn k f).1
 |false=>
  show Bc _ (wv h a).1;unfold wv;cases a.1==0;case true=>exact(abO hn _ _ _ k).mono
  cases a.1==1;case true=>exact(Pj (by omega) k).mono
  cases a.1==2;case true=>exact(RL hn _ k).1.mono
  cases a.1==3;case true=>exact(WX hn k).mono
  cases a.1==4;case true=>exact(acq hn k).mono
  exact(RZ hn _ k).mono
structure Ew (n:Nat) (h0:Host) (k:Nat) (h:Host):Prop where
 Jw:Good ((n:Int)+641*(k:Int)) h
 sz:Bc (n+645000*k) h
 stay:ma h0 h
theorem CF {n:Nat}(hn:1000<=n/\n<=20000000)(hk:k<=1000)(f:Ew n h0 k h)(a:Act)(s:Int):Ew n h0 (k+1) (kg (h,s) a).1:=by refine⟨(TD (by omega) f.Jw a s).mono (by push_cast;omega),(aax (by omega) a s f.sz (aas (f.Jw.ok (by omega)))).mono,f.stay.trans (TE h a s)⟩
theorem VN {n:Nat}(hn:1000<=n/\n<=20000000):∀(l:aw Act){k:Nat}{h:Host}(s:Int),k+l.length<=1000->Ew n h0 k h->Ew n h0 (k+l.length) (l.foldl kg (h,s)).1
 |[],k,h,s,_,f=>f
 |a::l,k,h,s,hk,f=>by simp only[bq]at hk;have i:=VN hn l (k:=k+1) (h:=(kg (h,s) a).1) (kg (h,s) a).2 (by omega) (CF hn (by omega) f a s);rw[List.foldl_cons,bq,show k+(l.length+1)=k+1+l.length by omega];exact i
theorem Kg (x:α):MP (some (true,x))=some (true,x):=rfl
theorem EP {n:Nat}(hn:1000<=n/\n<=20000000)(hk:k<=100)(f:Ew n h0 k h)(a:Act)(ha:H8 a)(h6:(a.1==6)=false):ng h a=some (true,wv h a):=by refine ac0 h a (f.sz.mono) (by have:=ha.2.1;omega) ha.2.2.1 ?_;have:=ha.2.2.2;simp only[cI,ne_eq]at h6;omega
theorem Mn {n:Nat}(hn:1000<=n/\n<=20000000){R:Type}(k0:Int->Int->Host->ay R)(l:aw Act)(b:Host){h0:Host}(hl:l.length<=100)(ha:∀a∈l,H8 a):∀(m i:Nat)(s:Int)(h:Host)(f:Nat),i+m=l.length->m<f->Ew n h0 i h->
 aW (gR k0 l b) f (s,(i:Int),h)=k0 ((l.drop i).foldl kg (h,s)).2 (l.length:Int) ((l.drop i).foldl kg (h,s)).1
 |0,i,s,h,f+1,e,_,_=>by rw[aW];unfold gR;simp only;rw[cW,af,cy (by omega)];show k0 s (i:Int) h=k0 s _ h;rw[show i=l.length by omega]
 |m+1,i,s,h,f+1,e,hf,q=>by
  have hi:i<l.length:=by omega
  have hx:=ha _ (bC hi);have st:=CF hn (by omega) q l[i] s;have go:=λs' h'=>Mn (h0:=h0) hn k0 l b hl ha m (i+1) s' h' f (by omega) (by omega);have ei:aq ((i:Int)+1)=((i+1:Nat):Int):=by rw[ak];rfl
  have hd:l.drop i=l[i]::l.drop (i+1):=(bK hi)
  rw[aW];generalize aW (gR k0 l b) f=T at go⊢;unfold gR;simp only[ei];rw[lE,ah,bz hi,ab,hd,List.foldl_cons];have fs:kg (h,s) l[i]=bif l[i].1==6 then(gD h,s) else((wv h l[i]).1,bif l[i].1==0 then aq (s+(wv h l[i]).2) else s):=rfl
  rw[fs]at st⊢;cases h6:l[i].1==6 with|true=>rw[h6]at st;rw[ah,yU h (q.sz.sz (by omega)) (q.sz.z.mono),ab];exact go s _ st|false=>rw[h6]at st;simp only[ab,ah,af,EP hn (by omega) q l[i] hx h6,Kg]at st⊢;cases h00:l[i].1==0 with|true=>exact go _ _ st|false=>exact go _ _ st
theorem acY {n:Nat}(hn:1000<=n/\n<=20000000)(h:Host)(l:aw Act)(hl:l.length<=100)(ha:∀a∈l,H8 a)(g:Good (n:Int) h)(z:Bc n h):uX h l=some (!l.isEmpty,aaw h l):=by
 have q:Ew n h 0 h:=⟨by simpa using g,by simpa using z,ma.refl h⟩
 unfold uX;cases l with
 |nil=>rfl
 |cons a t=>
  have hx:=ha a (List.mem_cons_self ..);have st:=CF hn (by omega) q a 0;have go:=λ{R:Type} (k0:Int->Int->Host->ay R) (b:Host) s' h'=>Mn (R:=R) (h0:=h) hn k0 (a::t) b hl ha t.length 1 s' h' fuel (by simp;omega) (by have:=dR;simp at hl;omega);have ei:aq ((0:Int)+1)=((1:Nat):Int):=by decide
  have hd:(a::t).drop 1=t:=rfl;have e0:idx (a::t) 0=some a:=rfl;have fs:kg (h,0) a=bif a.1==6 then(gD h,0) else((wv h a).1,bif a.1==0 then aq (0+(wv h a).2) else 0):=rfl
  rw[au (by simp),ah,e0,ei];simp only[ab];have fa:aaw h (a::t)=t.foldl kg (kg (h,0) a):=rfl;rw[fa,fs];rw[fs]at st;cases h6:a.1==6 with|true=>rw[h6]at st;rw[ah,yU h (z.sz (by omega)) (z.z.mono),ab];simp only[ah]at st⊢;rw[go _ _ _ _ st];rfl|false=>rw[h6]at st;simp only[ab,ah,af,EP hn (by omega) q a hx h6,Kg]at st⊢;cases h00:a.1==0 with|true=>simp only[ah];rw[go _ _ _ _ st];rfl|false=>simp only[af];rw[go _ _ _ _ st];rfl
def nh (h:Host):dB×bT×cP×cP:=(h.2.2.1,h.2.2.2.2.2.2.2.2.2.2.2.1,h.2.2.2.2.2.2.2.2.2.2.2.2.1,h.2.2.2.2.2.2.2.2.2.2.2.2.2.1)
theorem adv (k:Nat)(h:Host):nh (evS k h)=nh h:=by unfold evS;cases h.2.2.2.2.2.1[k]?<;>rfl
theorem V3 (k:Nat)(h:Host):∀i,nh (VG k i h)=nh h
 |0=>rfl
 |i+1=>(adv k _).trans (V3 k h i)
theorem J4 (h:Host)(k:Nat)(b:Int)(f:bT×ca):nh (Ej h k b f)=nh h:=(V3 k _ _).trans rfl
theorem Uh (k:Nat)(h:Host):nh (mf k h)=nh h:=by unfold mf;cases h.2.2.2.1[k]? with|none=>rfl|some x=>exact J4 ..
theorem XL (k:Nat)(h:Host):nh (tR k h)=nh h:=by unfold tR;cases h.2.2.2.2.2.1[k]?<;>rfl
theorem D3 {g:Nat->Host->Host}(hg:∀k h,nh (g k h)=nh h)(h:Host):∀k,nh (kv g k h)=nh h
 |0=>rfl
 |k+1=>(hg k _).trans (D3 hg h k)
theorem XK (h:Host):nh (xE h)=nh h:=by unfold xE;cases eU h with|false=>rfl|true=>exact D3 Uh h _
theorem abd (h:Host):nh (zP h)=nh h:=by unfold zP;cases eU h with|false=>rfl|true=>exact D3 XL h _
theorem Uk (b:Int)(k:Nat)(s:Int×Host):nh (xW b k s).2=nh s.2:=by unfold xW;rcases s.2.2.2.2.2.2.1[k]? with _|v;rfl;rcases s.2.2.2.2.2.2.2.1[k]? with _|p;rfl;rcases s.2.2.2.2.1[k]? with _|x;rfl;rcases s.2.2.2.2.2.1[k]? with _|pl;rfl;simp only;cases p||(zN v).2<;>rfl
theorem J3 (b:Int)(h:Host):∀k,nh (pj b k h).2=nh h
 |0=>rfl
 |k+1=>(Uk b k _).trans (J3 b h k)
theorem Q8 (h:Host)(b:Int):nh (pk h b).1=nh h:=by unfold pk;cases eU h&&dk b 1 1000 with|false=>rfl|true=>exact J3 b h _
theorem Q7 (h:Host)(x:Bytes):nh (mB h x)=nh h:=by
 unfold mB;cases eU h;rfl;cases (nJ x).2 !=0;case true=>rfl
 cases !vw h.2.2.2.2.2.2.2.1 (nJ x).1;case true=>rfl
 cases qx h.2.2.2.2.2.2.2.2.1 (h.2.2.2.1.length:Int) (nJ x).1== -1;case true=>rfl
 simp only[aj,af];cases h.2.2.2.1[(qx h.2.2.2.2.2.2.2.2.1 (h.2.2.2.1.length:Int) (nJ x).1).toNat]? with|none=>rfl|some q=>exact J4 ..
theorem Ui (h:Host)(i:Nat)(c:Int):nh (uj h i c).2=nh h:=by unfold uj;rcases h.2.2.2.1[i]? with _|rx;rfl;cases h.2.2.2.2.1[i]? with|none=>rfl|some pl=>rfl
theorem HA (h:Host):∀k,nh (pZ h k)=nh h
 |0=>rfl
 |k+1=>(Ui _ k 1000).trans (HA h k)
theorem Uj (k:Nat)(h:Host):nh (uq k h)=nh h:=by unfold uq;rcases h.2.2.2.1[k]? with _|x;rfl;cases h.2.2.2.2.2.1[k]? with|none=>rfl|some v=>rfl
theorem Fp (h:Host):∀k,nh (gU h k)=nh h
 |0=>rfl
 |k+1=>(Uj k _).trans (Fp h k)
theorem Fq (h:Host):∀k,k<=h.2.2.1.2.2.1.length->nh (returned h k)=(h.2.2.1,(nh h).2.1,(nh h).2.2.1,(nh h).2.2.2++(h.2.2.1.2.2.1.take k).map (·.1))
 |0,_=>by show nh (pZ h _)=_;rw[HA,List.take_zero,List.map_nil,bt];rfl
 |k+1,hk=>by have i:=Fq h k (by omega);have e:returned h (k+1)=KA h.2.2.1.2.2.1 k (returned h k):=rfl;rw[e];unfold KA;rw[al (by omega)];have j:nh (RN (returned h k) [h.2.2.1.2.2.1[k].1])=((nh (returned h k)).1,(nh (returned h k)).2.1,(nh (returned h k)).2.2.1,(nh (returned h k)).2.2.2++[h.2.2.1.2.2.1[k].1]):=rfl;show nh (RN (returned h k) [h.2.2.1.2.2.1[k].1])=_;rw[j,i,bG (by omega),cY,List.map_singleton,<-aJ]
theorem Gz (hb:eU h=true):nh (gD h)=((tT.1,tT.2.1,tT.2.2.1,h.2.2.1.2.2.2),(nh h).2.1,(nh h).2.2.1,(nh h).2.2.2++h.2.2.1.2.2.1.map (·.1)):=by unfold gD;rw[hb,ah,Fp];have i:=Fq h h.2.2.1.2.2.1.length (aS _);rw[dZ]at i;unfold pA;have e:nh (Pm (returned h h.2.2.1.2.2.1.length))=((tT.1,tT.2.1,tT.2.2.1,(nh (returned h h.2.2.1.2.2.1.length)).1.2.2.2),(nh (returned h h.2.2.1.2.2.1.length)).2):=rfl;rw[e,i]
theorem Ny (t:dB)(n:Int):(gP t n).1.2.2.2=t.2.2.2/\(gP t n).2++(gP t n).1.2.2.1.map (·.1)=t.2.2.1.map (·.1):=by unfold gP;cases IM t&&dk n 0 (t.2.2.1.length:Int)with|false=>exact⟨rfl,rfl⟩|true=>exact⟨rfl,by simp only[ah,<-cY,bU]⟩
theorem OB (h:Host):∃(t:dB)(w:bT)(d:cP),nh (jr h)=(t,(nh h).2.1++w,(nh h).2.2.1++d,(nh h).2.2.2)/\t.2.2.2=h.2.2.1.2.2.2/\d++t.2.2.1.map (·.1)=h.2.2.1.2.2.1.map (·.1):=by unfold jr;cases eU h with|false=>exact⟨h.2.2.1,[],[],by rw[bt,bt];rfl,rfl,rfl⟩|true=>simp only[ah];generalize (if(h.2.2.1.2.2.1.length:Int)<aq ((jP h.2.1 h.1 0 h.2.2.1.1).2.2.1+(jP h.2.1 h.1 0 h.2.2.1.1).2.2.2) then(h.2.2.1.2.2.1.length:Int) else aq ((jP h.2.1 h.1 0 h.2.2.1.1).2.2.1+(jP h.2.1 h.1 0 h.2.2.1.1).2.2.2))=n;have c:=Ny ((jP h.2.1 h.1 0 h.2.2.1.1).1,h.2.2.1.2) n;exact⟨(gP ((jP h.2.1 h.1 0 h.2.2.1.1).1,h.2.2.1.2) n).1,(jP h.2.1 h.1 0 h.2.2.1.1).2.1,(gP ((jP h.2.1 h.1 0 h.2.2.1.1).1,h.2.2.1.2) n).2,rfl,c.1,c.2⟩
theorem abc (h:Host)(p:aO)(c z:Int):nh (wA h p c z).1=nh h/\(wA h p c z).2=false\/(wA h p c z).2=true/\∃t:dB,nh (wA h p c z).1=(t,(nh h).2)/\t.2.2.2=tmod (h.2.2.1.2.2.2+1) 65536/\t.2.2.1.map (·.1)=h.2.2.1.2.2.1.map (·.1)++[h.2.2.1.2.2.2]:=by unfold wA;cases eU h with|false=>exact Or.inl ⟨rfl,rfl⟩|true=>simp only[ah];unfold ur;cases IM h.2.2.1&&(dq p&&(dk z 1 h.2.2.1.2.1.2.1&&dk c 1 128));exact Or.inl ⟨rfl,rfl⟩;cases EN h.2.2.1 (vU p z.toNat);exact Or.inl ⟨rfl,rfl⟩;simp only[ah];cases tY h.2.1 0 h.2.2.1.2.1 z.toNat (jH h.2.2.1.2.1 (vU p z.toNat:Int)).2.1 (jx p).1 h.1 []with|none=>exact Or.inl ⟨rfl,rfl⟩|some x=>simp only;unfold HN;cases (rr h.2.1 x.2 0 h.2.2.1.1 ((ou x.1 c h.2.2.1.2.2.2).map vV)).2.2 with|false=>exact Or.inl ⟨rfl,rfl⟩|true=>exact Or.inr ⟨rfl,_,rfl,rfl,by simp only[ah,cY,cD,List.map_nil]⟩
def acc (h:Host):cP:=(nh h).2.2.1++(nh h).2.2.2++(nh h).1.2.2.1.map (·.1)
structure Acc (a:Int) (s:Nat) (h:Host):Prop where
 perm:(acc h).Perm ((List.range s).map λk:Nat=>(a+(k:Int))%65536)
 next:h.2.2.1.2.2.2=(a+(s:Int))%65536
theorem Bi {g:Host}(q:Acc a s h)(e:nh g=nh h):Acc a s g:=by have e1:g.2.2.1=h.2.2.1:=congrArg (·.1) e;refine⟨?_,by rw[e1];exact q.next⟩;unfold acc;rw[e];exact q.perm
theorem Pw (hb:eU h=true)(q:Acc a s h)(x:Act)(hs:s<=1000:=by omega):∃s',s'<=s+1/\Acc a s' (kg (h,(s:Int)) x).1/\(kg (h,(s:Int)) x).2=(s':Int):=by
 unfold kg;cases x.1==6 with
 |true=>refine⟨s,by omega,⟨?_,?_⟩,rfl⟩;have e:=Gz hb;show(acc (gD h)).Perm _;unfold acc;rw[e];refine List.Perm.trans ?_ q.perm;unfold acc;show(((nh h).2.2.1++((nh h).2.2.2++h.2.2.1.2.2.1.map (λy:lZ=>y.1)))++([]:cP)).Perm _;rw[bt,<-aJ];exact List.Perm.refl _;·have e:(gD h).2.2.1=(tT.1,tT.2.1,tT.2.2.1,h.2.2.1.2.2.2):=congrArg (·.1) (Gz hb);show(gD h).2.2.1.2.2.2=_;rw[e];exact q.next
 |false=>
  simp only[af];unfold wv;cases x.1==0 with
  |true=>
   simp only[ah];rcases abc h x.2.1 x.2.2.1 x.2.2.2.1 with e|⟨e0,t,e,e1,e2⟩;refine⟨s,by omega,Bi q e.1,?_⟩;rw[e.2];show aq ((s:Int)+0)=_;rw[Int.add_zero,ak]
   ·refine⟨s+1,by omega,⟨?_,?_⟩,?_⟩;·unfold acc;rw[e];show((nh h).2.2.1++(nh h).2.2.2++t.2.2.1.map (·.1)).Perm _;rw[e2,<-aJ,List.range_succ,cY,q.next];exact List.Perm.append_right _ q.perm
    ·have e3:(wA h x.2.1 x.2.2.1 x.2.2.2.1).1.2.2.1=t:=congrArg (·.1) e;rw[e3,e1,q.next,cv (by omega)];push_cast;omega
    rw[e0];show aq ((s:Int)+1)=_;rw[ak];rfl
  |false=>
   simp only[af];refine⟨s,by omega,?_,rfl⟩;cases x.1==1 with
   |true=>obtain⟨t,w,d,e,e1,e2⟩:=OB h;refine⟨?_,?_⟩;show(acc (jr h)).Perm _;refine List.Perm.trans ?_ q.perm;unfold acc;rw[e];show((nh h).2.2.1++d++(nh h).2.2.2++t.2.2.1.map (·.1)).Perm ((nh h).2.2.1++(nh h).2.2.2++h.2.2.1.2.2.1.map (·.1));rw[<-e2,aJ,aJ,aJ];refine List.Perm.append_left _ ?_;rw[<-aJ,<-aJ];exact List.Perm.append_right _ List.perm_append_comm;·have e3:(jr h).2.2.1=t:=congrArg (·.1) e;show(jr h).2.2.1.2.2.2=_;rw[e3,e1];exact q.next
   |false=> ?_
   simp only[af];cases x.1==2;case true=>exact Bi q (Q7 ..)
   cases x.1==3;case true=>exact Bi q (XK h)
   cases x.1==4;case true=>exact Bi q (abd h)
   exact Bi q (Q8 ..)
theorem map_take {β:Type}(f:α->β)(l:aw α)(i:Nat)(hi:i<l.length):(l.take i).map f++[f l[i]]=(l.take (i+1)).map f:=by rw[bG hi,cY];rfl
def Ik (n:Nat):bT:=List.replicate n (wB 128)
theorem XT (n:Nat):Ik (n+1)=Ik n++[wB 128]:=List.replicate_succ'
theorem UY (n:Nat)(h:n<=64):po (n:Int)=some (Ik n):=by have hz:il 128 0=some (wB 128):=KJ 128;unfold po;refine ew (λi=>((i:Int),Ik i)) n (by omega) (λi nx hi=>?_) (λnx=>?_);simp only[oL];rw[au (show(i:Int)<n by omega),ah,lE,ab,ah,hz,ab,aR (by simp[Ik];omega),ak,XT];rfl;simp only[oL];rw[ar (show¬(n:Int)<n by omega),af,ab,af]
def wb (a b:Int):Vector×Bool:=bif ej (a,b,0,0,false,false) then((a,b,0,0,false,false),true) else((0,0,0,0,false,false),false)
theorem UZ (a b:Int):tC a b=some (wb a b):=by unfold tC wb;rw[Ec,ab];cases ej (a,b,0,0,false,false)<;>rfl
def zE (i:Nat):aw aA:=(List.range i).map λ(p:Nat)=>(0,(p:Int),37-(p:Int), !dk (p:Int) 2 9)
theorem Uo (i:Nat):zE (i+1)=zE i++[(0,(i:Int),37-(i:Int), !dk (i:Int) 2 9)]:=by simp[zE,List.range_succ]
theorem GD (i:Nat):(zE i).length=i:=by simp[zE]
def VR (f:Filter)(s:dc)(c:Bool)(i:Nat):Host:=(Ik 38,zE i,tT,([]:aw ca),([]:aw df),([]:aw Vector),([]:aw Bool),f,s,([]:aw Stream),c,([]:bT),([]:cP),([]:cP),0,0,0,0,0)
theorem af0:fw (zE 38)=true:=by decide+kernel
def AZ (f:Filter)(s:dc)(c:Bool):aw Vector->Host
 |[]=>VR f s c 38
 |v::vs=>Rs ((AZ f s c vs).1,(AZ f s c vs).2.1,(AZ f s c vs).2.2.1,(AZ f s c vs).2.2.2.1++[((0,0,0,0),(0,0,0),(0,0,0),((0,0,0,0,0,0,0,0,0,0,0,0,0,0,0,([]:Bytes)),0,0),false,0)],(AZ f s c vs).2.2.2.2.1++[(0,0,0,([]:cP))],(AZ f s c vs).2.2.2.2.2.1++[v],(AZ f s c vs).2.2.2.2.2.2.1++[false],(AZ f s c vs).2.2.2.2.2.2.2) vs.length
def ZL (h:Host):=(h.1,h.2.1,h.2.2.1,h.2.2.2.1,h.2.2.2.2.1,h.2.2.2.2.2.1,h.2.2.2.2.2.2.1)
structure Made (f:Filter) (s:dc) (c:Bool) (k:Nat) (h:Host):Prop where
 mem:cB h.1=true
 ml:h.1.length=38
 maps:h.2.1=zE 38
 tx:h.2.2.1=tT
 rx:h.2.2.2.1.length=k
 rxs:∀r∈h.2.2.2.1,ye 0 r/\r.2.2.2.2.1=false
 pl:h.2.2.2.2.1.length=k
 pls:∀p∈h.2.2.2.2.1,dw p=true/\p.2.2.2.length<=1000
 vec:h.2.2.2.2.2.1.length=k
 Sp:∀v∈h.2.2.2.2.2.1,ej v=true
 UF:h.2.2.2.2.2.2.1.length=k
 rest:h.2.2.2.2.2.2.2=(f,s,([]:List Stream),c,([]:List Bytes),([]:List Int),([]:List Int),0,0,0,0,0)
 is:∃vs,vs.length=k/\h=AZ f s c vs/\∀v∈vs,v.2.1<=3/\v.2.2.2.2.1=false
theorem R0 (l:aw α)(x y:α):(l++[x]).set l.length y=l++[y]:=by simp
theorem ady {n:Nat}(h:n<=64):cB (Ik n)=true:=pY.2 ⟨λx hx=>by rw[(List.mem_replicate.1 hx).2];exact C1 128,by simp[Ik];exact h⟩
theorem XQ {s:dc}{c:Bool}(m:Made f s c k h)(hk:k<=8)(hv:ej v=true)(h3:v.2.1<=3/\v.2.2.2.2.1=false):Ends (tO (h.1,h.2.1,h.2.2.1,h.2.2.2.1++[((0,0,0,0),(0,0,0),(0,0,0),((0,0,0,0,0,0,0,0,0,0,0,0,0,0,0,([]:Bytes)),0,0),false,0)],h.2.2.2.2.1++[(0,0,0,([]:cP))],h.2.2.2.2.2.1++[v],h.2.2.2.2.2.2.1++[false],h.2.2.2.2.2.2.2) (k:Int)) λr=>Made f s c (k+1) r.2:=by
 refine Ends.of (abW _ k hk (by simp[m.rx]) (by simp[m.pl]) (by show h.2.1.length<=_;rw[m.maps,GD];omega) (by show h.1.length<=_;rw[m.ml];omega)) ?_;have o:=MR m.mem h.2.1 hk;have e1:(h.2.2.2.1++[(((0,0,0,0),(0,0,0),(0,0,0),((0,0,0,0,0,0,0,0,0,0,0,0,0,0,0,([]:Bytes)),0,0),false,0):ca)])[k]?=some ((0,0,0,0),(0,0,0),(0,0,0),((0,0,0,0,0,0,0,0,0,0,0,0,0,0,0,([]:Bytes)),0,0),false,0):=by rw[<-m.rx];simp
 have e2:∀y:ca,(h.2.2.2.1++[(((0,0,0,0),(0,0,0),(0,0,0),((0,0,0,0,0,0,0,0,0,0,0,0,0,0,0,([]:Bytes)),0,0),false,0):ca)]).set k y=h.2.2.2.1++[y]:=λy=>by rw[<-m.rx];exact R0 _ _ _
 have e3:∀y:df,(h.2.2.2.2.1++[(((0,0,0,([]:cP))):df)]).set k y=h.2.2.2.2.1++[y]:=λy=>by rw[<-m.pl];exact R0 _ _ _
 obtain⟨vs,vl,ve,vb⟩:=m.is;have is0:Rs (h.1,h.2.1,h.2.2.1,h.2.2.2.1++[((0,0,0,0),(0,0,0),(0,0,0),((0,0,0,0,0,0,0,0,0,0,0,0,0,0,0,([]:Bytes)),0,0),false,0)],h.2.2.2.2.1++[(0,0,0,([]:cP))],h.2.2.2.2.2.1++[v],h.2.2.2.2.2.2.1++[false],h.2.2.2.2.2.2.2) k=AZ f s c (v::vs):=by rw[AZ,<-ve,vl]
 unfold Rs at is0⊢;simp only[e1,e2,e3]at is0⊢;have hp:(sn h.2.1 h.1 k).2.2.1.2.2.2.length<=1000:=by unfold sn;exact bk (DQ ..) (nj _ _ _)
 refine⟨o.1,?_,m.maps,m.tx,by show(_++[_]).length=_;rw[ai,m.rx];rfl,?_,by show(_++[_]).length=_;rw[ai,m.pl];rfl,?_,by show(_++[_]).length=_;rw[ai,m.vec];rfl,?_,by show(_++[_]).length=_;rw[ai,m.UF];rfl,m.rest,⟨v::vs,by simp[vl],is0,λw hw=>?_⟩⟩;show(sn h.2.1 h.1 k).1.length=38;rw[MQ,m.ml];intro r hr;rcases ax.1 hr with hr|hr;exact m.rxs r hr;rw[cj.1 hr];exact⟨RT hk o.2.1 ⟨dY _,dY _⟩,rfl⟩;intro p hp';rcases ax.1 hp' with hp'|hp';exact m.pls p hp';rw[cj.1 hp'];exact⟨o.2.2,hp⟩;intro w hw;rcases ax.1 hw with hw|hw;exact m.Sp w hw;rw[cj.1 hw];exact hv;rcases cg.1 hw with e|e;rw[e];exact h3;exact vb w e
def adT (h:Host):dc:=h.2.2.2.2.2.2.2.2.1
structure Hg (h:Host):Prop where
 Jw:Good 0 h
 sz:Bc 2000 h
 maps:∀m∈h.2.1,m.2.2.1<(h.1.length:Int)
 nh:h.2.2.1.2.2.1=[]/\h.2.2.2.2.2.2.2.2.2.2.2.1=[]/\h.2.2.2.2.2.2.2.2.2.2.2.2.1=[]/\h.2.2.2.2.2.2.2.2.2.2.2.2.2.1=[]
 is:∃f s c vs,vs.length<=2/\ZL h=ZL (AZ f s c vs)/\∀v∈vs,v.2.1<=3/\v.2.2.2.2.1=false
theorem Un {s:dc}{c:Bool}(m:Made f s c k h)(hk:1<=k/\k<=2)(hf:pC f=true)(Aa:f.2.2.length<=1000)(hs:fe s (k:Int)=true)(hz:uF s):Hg h:=by have h4:=nj 256 128 8;obtain⟨vs,vl,ve,vb⟩:=m.is;obtain⟨m1,m2,m3,m4,m5,m6,m7,m8,m9,m10,m11,m12,_⟩:=m;obtain⟨mem,maps,tx,rx,pl,vec,UF,rest⟩:=h;simp only at m1 m2 m3 m4 m5 m6 m7 m8 m9 m10 m11 m12;subst m12 m3 m4;refine⟨⟨m1,af0,acs 0 (by omega),hf,?_,by show fe s (rx.length:Int)=true;rw[m5];exact hs,λr hr=>(m6 r hr).1,λp hp=>(m8 p hp).1,m10,?_⟩,⟨?_,?_⟩,?_,⟨rfl,rfl,rfl,rfl⟩,⟨f,s,c,vs,by omega,congrArg ZL ve,vb⟩⟩;unfold qq;simp only[ae,bf,bc];omega;intro x hx;simp only[ie,cg,List.not_mem_nil,or_false,or_self]at hx;omega;have hm:=(pY.1 m1).1;refine⟨⟨by show mem.length<=2000;omega,λx hx=>by show x.length<=2000;rw[hm x hx];omega⟩,⟨by show(zE 38).length<=2000;rw[GD];omega,λ_ _=>⟨cr,cr,cr,cr⟩⟩,?_,?_,?_,?_,?_,⟨cr,cr,by show f.2.2.length<=2000;omega,λ_ _=>trivial⟩,?_,⟨bP _,λx hx=>by cases hx⟩,cr,⟨bP _,λx hx=>by cases hx⟩,⟨bP _,λx hx=>by cases hx⟩,⟨bP _,λx hx=>by cases hx⟩,cr,cr,cr,cr,cr⟩;exact⟨⟨cr,cr,cr,cr⟩,⟨cr,cr,cr,by show List.length (gT 256 128 8).1.2.2.2<=2000;omega,λ_ _=>trivial⟩,⟨bP _,λx hx=>by cases hx⟩,cr⟩;refine⟨by show rx.length<=2000;omega,λx hx=>?_⟩;have e:=(m6 x hx).1.free (m6 x hx).2;refine⟨⟨cr,cr,cr,cr⟩,⟨cr,cr,cr⟩,⟨cr,cr,cr⟩,?_,cr,cr⟩;rw[e];exact⟨⟨cr,cr,cr,cr,cr,cr,cr,cr,cr,cr,cr,cr,cr,cr,cr,bP _⟩,cr,cr⟩;exact⟨by show pl.length<=2000;omega,λx hx=>⟨cr,cr,cr,by have:=(m8 x hx).2;show x.2.2.2.length<=2000;omega,λ_ _=>trivial⟩⟩;exact⟨by show vec.length<=2000;omega,λx hx=>⟨cr,cr,cr,cr,cr,cr⟩⟩;exact⟨by show UF.length<=2000;omega,λx hx=>trivial⟩;exact⟨⟨by have:=hz.r;show s.1.length<=2000;omega,λ_ _=>⟨cr,cr,cr,cr,cr,cr,cr,cr,cr⟩⟩,⟨by have:=hz.t;show s.2.1.length<=2000;omega,λ_ _=>⟨cr,⟨cr,cr,cr,cr,cr⟩,cr⟩⟩,by have:=hz.k;show s.2.2.1.length<=2000;omega,by have:=hz.p;show s.2.2.2.length<=2000;omega,λ_ _=>trivial⟩;show List.length (gT 256 128 8).1.2.2.2+0<=2000;omega;intro m hm;have hm:m∈zE 38:=hm;simp only[zE,List.mem_map,ch]at hm;obtain⟨i,hi,rfl⟩:=hm;show 37-(i:Int)<(mem.length:Int);omega
theorem X9 (h:(wb a b).2=true):ej (wb a b).1=true:=by unfold wb at h⊢;cases hv:ej (a,b,0,0,false,false)with|false=>rw[hv]at h;cases h|true=>exact hv
theorem abp (h:(wb a b).2=true)(hb:b<=3):(wb a b).1.2.1<=3/\(wb a b).1.2.2.2.2.1=false:=by unfold wb at h⊢;cases hv:ej (a,b,0,0,false,false)with|false=>rw[hv]at h;cases h|true=>exact⟨hb,rfl⟩
theorem Ke (q:Int)(f:Filter)(s:dc)(c:Bool)(a b:Int)(hf:f.2.2.length<=1000)(hs:uF s)(hb3:b<=3):Ends (tA q f s c a b) λr=>(r.2=true->Hg r.1/\adT r.1=s)/\((1<=q/\q<=2)->pC f=true->fe s q=true->(wb a b).2=true->r.2=true):=by
 have z1:=hs.r;have z2:=hs.t;have z3:=hs.p;unfold tA;rw[UZ,ab,ed,ab];refine Ends.bind (P:=λx=>(x=false->(1<=q/\q<=2)/\pC f=true/\fe s q=true/\(wb a b).2=true)/\(x=true->(1<=q/\q<=2)->pC f=true->fe s q=true->(wb a b).2=true->False)) ?_ λx hx=>Ends.cond (λVT=>Ends.pure ⟨(λh=>by cases h),λg1 g2 g3 g4=>(hx.2 VT g1 g2 g3 g4).elim⟩) λh=>?_;refine Ends.cond (λk=>Ends.pure ⟨(λh=>by cases h),λ_ g1 _ _ _=>by rw[bf.2 g1]at k;cases k⟩) λh1=>?_;rw[UW f (by omega),ab];refine Ends.cond (λk=>Ends.pure ⟨(λh=>by cases h),λ_ _ g2 _ _=>by rw[g2]at k;cases k⟩) λh2=>?_;rw[O3 s q (by omega) (by omega) (by omega),ab];refine Ends.cond (λk=>Ends.pure ⟨(λh=>by cases h),λ_ _ _ g3 _=>by rw[g3]at k;cases k⟩) λh3=>Ends.pure ⟨λh4=>?_,λk _ _ _ g4=>by rw[g4]at k;cases k⟩;exact⟨bf.1 (by simpa using h1),by simpa using h2,by simpa using h3,by simpa using h4⟩;obtain⟨hq,h1,h2,h3⟩:=hx.1 h;have hm:po 38=some (Ik 38):=UY 38 (by omega);rw[hm,ab,YO,ab,KI f (by omega),ab,LJ s (by omega) (by omega) (by omega),ab];have hv:=X9 h3;refine Ends.wy (λx=>0<=x.1/\x.1<=38/\x.2=VR f s c x.1.toNat) (λx=>(38-x.1).toNat) ⟨by simp,by simp,rfl⟩ (by simp) λx nx hx hn=>?_;obtain⟨i,y⟩:=x;obtain⟨x1,x2,x3⟩:=hx;simp only at x1 x2 x3;unfold we;refine Ends.cond (λk=>?_) λk=>?_;have k:=bh k;have hl:=GD i.toNat;simp only at k;rw[ed,ab];simp only;rw[ak (n:=i+1),ak (n:=37-i)];subst x3;refine Ends.room (by show(zE i.toNat).length+1<=_;omega) (hn _ ⟨by show 0<=i+1;omega,by show i+1<=38;omega,?_⟩ (by show(38-(i+1)).toNat<(38-i).toNat;omega));have e:(i+1).toNat=i.toNat+1:=by omega
 show(Ik 38,zE i.toNat++_,_)=VR f s c (i+1).toNat;rw[e];unfold VR;rw[Uo,show((i.toNat:Nat):Int)=i by omega];have k:=fi k;simp only at k;have e:i.toNat=38:=by omega
 rw[e]at x3;have hm0:Made f s c 0 y:=by rw[x3];exact⟨ady (by omega),by show(Ik 38).length=38;simp[Ik],rfl,rfl,rfl,(λ_ hr=>by cases hr),rfl,(λ_ hr=>by cases hr),rfl,(λ_ hr=>by cases hr),rfl,rfl,⟨[],rfl,rfl,λ_ hv=>by cases hv⟩⟩
 simp only;refine Ends.wy (λx=>0<=x.1/\x.1<=q/\Made f s c x.1.toNat x.2) (λx=>(q-x.1).toNat) ⟨by simp,by show(0:Int)<=q;omega,hm0⟩ (by simp;omega) λx nx hx hn=>?_;obtain⟨i,y⟩:=x;obtain⟨x1,x2,m⟩:=hx;simp only at x1 x2 m;unfold ux;refine Ends.cond (λk=>?_) λk=>Ends.pure ⟨λ_=>?_,λ_ _ _ _=>rfl⟩;have k:=bh k;simp only at k;have l1:=m.rx;have l2:=m.pl;have l3:=m.vec;have l4:=m.UF;refine Ends.room (by simp;omega) (Ends.room (by simp;omega) (Ends.room (by simp;omega) (Ends.room (by simp;omega) ?_)));have ho:=XQ m (by omega) hv (abp h3 hb3);rw[show((i.toNat:Nat):Int)=i by omega]at ho;refine ho.bind λr hr=>?_;simp only;rw[ak (n:=i+1)];refine hn _ ⟨by show 0<=i+1;omega,by show i+1<=q;omega,?_⟩ (by show(q-(i+1)).toNat<(q-i).toNat;omega);show Made f s c (i+1).toNat r.2;rw[show(i+1).toNat=i.toNat+1 by omega];exact hr;have k:=fi k;simp only at k;have hi:i=q:=by omega
 subst hi;exact⟨Un m (by omega) h1 hf (by rw[show((i.toNat:Nat):Int)=i by omega];exact h2) hs,congrArg (λx=>x.2.1) m.rest⟩
theorem adx (n x:Int)(h0:0<=n)(h1:n<=1000000):Ends (il n x) λr=>(r.length:Int)=n:=by unfold il;rw[aF ⟨h0,dY _⟩];refine Ends.room (by omega) (Ends.wy (λy=>(y.1.length:Int)=n/\0<=y.2/\y.2<=n) (λy=>(n-y.2).toNat) ⟨by simp;omega,by simp,h0⟩ (by simp;omega) λy nx hy hn=>?_);unfold nM;refine Ends.cond (λk=>?_) λk=>Ends.pure (by simp[aK];exact hy.1);have k:=bh k;rw[ak (n:=y.2+1)];refine Ends.idx hy.2.1 (by omega) λ_=>Ends.idx hy.2.1 (by omega) λ_=>hn _ ⟨?_,?_,?_⟩ ?_;show((List.set _ _ _).length:Int)=n;rw[aB];exact hy.1;show 0<=y.2+1;omega;show y.2+1<=n;omega;show(n-(y.2+1)).toNat<(n-y.2).toNat;omega
theorem Rq:lz=some (List.replicate 8 (0,(0,0,0,0,0),0)):=by unfold lz;rw[aF (by decide),aR (by decide)];rfl
theorem Ue {k:Bytes}(hk:k.length=16):fe (([]:aw jz),List.replicate 8 (0,(0,0,0,0,0),0),k,[0]) 1=true:=by
 have ht:nu (List.replicate 8 (0,(0,0,0,0,0),0))=true:=by decide+kernel
 have hs:qm (k,[0]) 1=true:=by unfold qm;simp only[hk];decide+kernel
 unfold fe;rw[show wc ([]:aw jz)=true from rfl,ht,hs];rfl
def Vl (l:aw jz):Prop:=∀r∈l,r.2.2.2.2.2.2.1= -2
theorem Xb {c:LX}(h:Cu c):Ends (xe c) λr=>(Hg r.1/\Vl (adT r.1).1)/\Cu r.2:=by
 unfold xe;refine Ends.wy (λx=>0<=x.1/\x.1<=4/\Cu x.2) (λx=>(4-x.1).toNat) ⟨by simp,by simp,h⟩ (by simp) λx nx hx hn=>?_;unfold wj;refine Ends.cond (λk=>?_) λk=>?_;have k:=bh k;refine(abZ hx.2.2).bind λr1 p1=>?_;refine Ends.wy (λy=>(0<=y.1/\∀(j:Nat) r,(j:Int)<y.1->y.2.1[j]?=some r->r.2.2.2.2.2.2.1= -2)/\uF y.2) (λy=>((y.2.1.length:Int)-y.1).toNat) ⟨⟨by simp,λj r hj=>by simp at hj;omega⟩,p1.1.1⟩ (by have:=p1.1.1.r;simp;omega) λy ny hy hm=>?_;unfold wk;refine Ends.cond (λk2=>?_) λk2=>?_;have k2:=bh k2;have hr:=hy.2.r;rw[ak (n:=y.1+1)];refine Ends.idx hy.1.1 k2 λ_=>Ends.idx hy.1.1 k2 λ_=>hm _ ⟨⟨?_,λj r hj hr'=>?_⟩,⟨?_,hy.2.t,hy.2.k,hy.2.p⟩⟩ ?_;show 0<=y.1+1;have:=hy.1.1;omega;have hj:(j:Int)<y.1+1:=hj;have h0:=hy.1.1;by_cases hjy:j=y.1.toNat;subst hjy;rw[List.getElem?_set_self (by omega)]at hr';rw[<-dm hr'];rw[aP (λe=>hjy e.symm)]at hr';exact hy.1.2 j r (by omega) hr';show(List.set _ _ _).length<=100;rw[aB];exact hr;show(((List.set _ _ _).length:Int)-(y.1+1)).toNat<_;rw[aB];omega;refine(P3 p1.2).bind λr6 p6=>(gq p6.2 (by decide)).bind λr7 p7=>(gq p7.2 (by decide)).bind λr8 p8=>(gq p8.2 (by decide)).bind λr9 p9=>?_;have hf:r6.1.2.2.length<=1000:=by rcases p6.1.2 with e|e<;>rw[e]<;>simp
 have vl:Vl y.2.1:=λr hr=>by obtain⟨j,hj⟩:=List.getElem?_of_mem hr;obtain⟨hG,_⟩:=aE.1 hj;exact hy.1.2 j r (by have:=fi k2;omega) hj
 refine(Ke _ _ _ _ _ _ hf hy.2 (by have:=p9.1;omega)).bind λru p10=>Ends.cond (λk3=>Ends.pure ⟨⟨(p10.1 k3).1,by rw[(p10.1 k3).2];exact vl⟩,p9.2⟩) λ_=>?_;rw[ak (n:=x.1+1) (by omega) (by have:=hx.2.1;omega)];refine hn _ ⟨by show 0<=x.1+1;have:=hx.1;omega,by show x.1+1<=4;omega,p9.2⟩ (by show(4-(x.1+1)).toNat<(4-x.1).toNat;omega);simp only[Rq,ab];refine(adx 16 5 (by omega) (by omega)).bind λWc p14=>?_;refine(Ke 1 (2,false,([]:cP)) (([]:aw jz),List.replicate 8 (0,(0,0,0,0,0),0),Wc,[0]) true 1 0 (by simp) ⟨by simp,by simp,by show Wc.length=16;omega,by simp⟩ (by omega)).bind λyZ p15=>?_;have f15:=p15.1 (p15.2 (by omega) (by decide+kernel) (Ue (by omega)) (by decide+kernel));exact Ends.pure ⟨⟨f15.1,by rw[f15.2];exact λr hr=>by cases hr⟩,hx.2.2⟩
def Sr (h:Host)(s:aw Stream):Host:=(h.1,h.2.1,h.2.2.1,h.2.2.2.1,h.2.2.2.2.1,h.2.2.2.2.2.1,h.2.2.2.2.2.2.1,h.2.2.2.2.2.2.2.1,h.2.2.2.2.2.2.2.2.1,s,h.2.2.2.2.2.2.2.2.2.2)
theorem Lj (f:Hg h){s:aw Stream}(h1:s.length<=2000)(h2:∀x∈s,x.2.2.1=[]):Hg (Sr h s):=by have g:=f.Jw;have z:=f.sz.z;refine⟨⟨g.mem,g.maps,g.tx,g.Iy,g.lens,g.O7,g.rx,g.pool,g.vec,g.Em⟩,⟨⟨z.1,z.2.1,z.2.2.1,z.2.2.2.1,z.2.2.2.2.1,z.2.2.2.2.2.1,z.2.2.2.2.2.2.1,z.2.2.2.2.2.2.2.1,z.2.2.2.2.2.2.2.2.1,⟨h1,λx hx=>?_⟩,z.2.2.2.2.2.2.2.2.2.2⟩,f.sz.t⟩,f.maps,f.nh,f.is⟩;refine⟨⟨cr,cr,cr,cr,cr⟩,cr,?_,cr⟩;show x.2.2.1.length<=2000;rw[h2 x hx];simp
theorem TB {c:LX}(h:Cu c){l:aw Act}(hl:l.length<=20)(ha:∀a∈l,H8 a):Ends (vr c l) λr=>(Hg r.1/\Vl (adT r.1).1)/\Cu r.2:=by unfold vr;refine(Xb h).bind λr1 p1=>?_;refine Ends.wy (λx=>0<=x.2/\(x.1.length:Int)<=x.2/\x.2<=(l.length:Int)) (λx=>((l.length:Int)-x.2).toNat) ⟨by simp,by simp,by simp⟩ (by simp;omega) λx nx hx hn=>?_;unfold uA;refine Ends.cond (λk=>?_) λk=>?_;have k:=bh k;rw[ak (n:=x.2+1)];refine Ends.idx hx.1 k λhi=>?_;have VT:=ha _ (bC hi);replace VT:=VT.2.1;rw[YL _ (by omega),ab];refine Ends.cond (λ_=>Ends.room (by simp;omega) (hn _ ⟨?_,?_,?_⟩ ?_)) λ_=>hn _ ⟨?_,?_,?_⟩ ?_;show 0<=x.2+1;omega;show((x.1++[_]).length:Int)<=x.2+1;simp;omega;show x.2+1<=_;omega;show((l.length:Int)-(x.2+1)).toNat<_;omega;show 0<=x.2+1;omega;show(x.1.length:Int)<=x.2+1;omega;show x.2+1<=_;omega;show((l.length:Int)-(x.2+1)).toNat<_;omega;exact(adC p1.2 (by omega)).bind λr6 p6=>Ends.pure ⟨⟨Lj p1.1.1 (by omega) p6.1.2,p1.1.2⟩,p6.2⟩
theorem Pk {a:cP}(ha:a.length<=1048576):Ends (mG a) λr=>(Hg r.1/\Vl (adT r.1).1)/\r.2.length<=20/\∀x∈r.2,H8 x:=by unfold mG;exact(agb ha).bind λr1 p1=>(acI p1 true).bind λr2 p2=>(TB p2.2 p2.1.1 λx hx=>(p2.1.2 x hx).1).bind λr3 p3=>Ends.pure ⟨p3.1,p2.1.1,λx hx=>(p2.1.2 x hx).1⟩
theorem Vd {a:cP}(ha:a.length<=1048576):Ends (mG a) λr=>Hg r.1/\r.2.length<=20/\∀x∈r.2,H8 x:=(Pk ha).mono λr hr=>⟨hr.1.1,hr.2⟩
theorem ae2 {a:cP}{k:Bool->ay Bool}(ht:k true=some true)(hk:a.length<=1048576->Ends (k false) (λb=>b=true)):Ends (aa (Fo a) k) (λb=>b=true):=by unfold Fo;rw[ab];by_cases h:((a.length:Int))>1048576;rw[au h,ht];exact Ends.pure rfl;rw[ar h];exact hk (by omega)
theorem Ends.true {o:ay Bool}(h:Ends o (λb=>b=true)):o=some true:=by obtain⟨x,h1,rfl⟩:=h;exact h1
theorem Px {R:Type}(k0:cP->Int->ay R)(w:aw lZ)(hw:w.length<=1000000):∀(m i:Nat)(r:cP)(f:Nat),i+m=w.length->m<f->r.length+m<=100000000->
 aW (iq k0 w (w.length:Int)) f (r,(i:Int))=k0 (r++(w.drop i).map (·.1)) (w.length:Int)
 |0,i,r,f+1,e,_,_=>by rw[aW];unfold iq;simp only;rw[cW,af,cy (by omega),List.map_nil,bt,show(i:Int)=(w.length:Int) by omega]
 |m+1,i,r,f+1,e,hf,hr=>by
  have hi:i<w.length:=by omega
  have go:=Px k0 w hw m (i+1) (r++[w[i].1]) f (by omega) (by omega) (by simp;omega);rw[aW];generalize aW (iq k0 w (w.length:Int)) f=T at go⊢;unfold iq;simp only;rw[lE,ah,bz hi,ab,aR (by simp;omega),ak,bK hi,cD];rw[aJ]at go;exact go
theorem IS (h:Host){n:Nat}(hn:n<=1000000:=by omega)(ha:(acc h).length<=n:=by omega):mn h=some (acc h):=by have Ab:=dR;unfold acc at ha⊢;rw[ai,ai,cp]at ha;have h1:h.2.2.2.2.2.2.2.2.2.2.2.2.1.length<=n:=bk (bk (Nat.le_add_right _ _) (Nat.le_add_right _ _)) ha;have h2:h.2.2.2.2.2.2.2.2.2.2.2.2.1.length+h.2.2.2.2.2.2.2.2.2.2.2.2.2.1.length+h.2.2.1.2.2.1.length<=n:=ha;unfold mn;rw[jR _ (by omega),ab,aR,show((0:Int))=((0:Nat):Int) from rfl,Px _ _ (by omega) h.2.2.1.2.2.1.length 0 _ _ (by omega) (by omega) (by rw[ai];omega),eD];rfl
theorem afd (l:cP)(x:Int)(hl:l.length<=1000000):BW l x=some (l.any λy=>y==x):=by
 unfold BW;rw[EA (hit:=some true) (fin:=some false) (λy=>y==x) l (by omega) (λi hi nx=>?hs) (λnx=>?hf)]
 case hs=>
  simp only[yw]
  rw[lE,bz hi,ak]
  simp only[ah,ab]
  rfl
 case hf=>
  simp only[yw]
  rw[cW];rfl
 cases l.any λy=>y==x<;>rfl
theorem Vm {n:Nat}(hn:1000<=n/\n<=20000000):∀(l:aw Act){k:Nat}{h:Host}(s:Nat),k+l.length<=900->s<=k->Ew n h0 k h->Acc a s h->∃s',s'<=k+l.length/\Acc a s' (l.foldl kg (h,(s:Int))).1/\(l.foldl kg (h,(s:Int))).2=(s':Int)
 |[],k,h,s,_,hs,_,q=>⟨s,by simpa using hs,q,rfl⟩
 |x::l,k,h,s,hk,hs,f,q=>by
  simp only[bq]at hk⊢;obtain⟨s1,e1,e2,e3⟩:=Pw (f.Jw.ok (by omega)) q x;have st:=CF hn (by omega) f x (s:Int);have e:kg (h,(s:Int)) x=((kg (h,(s:Int)) x).1,(s1:Int)):=by rw[<-e3]
  rw[List.foldl_cons,e];obtain⟨s2,g1,g2,g3⟩:=Vm hn l s1 (by omega) (by omega) st e2;exact⟨s2,by omega,g2,g3⟩
theorem acH (q:Acc a s h)(hs:s<=1000)(ha:0<=a/\a<=65535)(hk:k<s):BW (acc h) (tmod (aq (a+(k:Int))) 65536)=some true:=by
 have hl:=q.perm.length_eq;rw[cp,List.length_range]at hl;rw[afd _ _ (by omega),ak,cv (by omega)];have:(acc h).any (λy=>y==(a+(k:Int))%65536)=true:=by rw[List.any_eq_true];refine⟨(a+(k:Int))%65536,q.perm.symm.subset ?_,by simp⟩;rw[List.mem_map];exact⟨k,ch.2 hk,rfl⟩
 rw[this]
theorem GL (k0:Int->ay Bool)(k1:Bool->Int->ay Bool)(v:Bool)(x:Int){b h y r:Host}(ea:b.2.2.1.2.2.2=a)(q:Acc a s r)(hs:s<=1000)(ha:0<=a/\a<=65535):∀(m i:Nat)(f:Nat),i+m=s->m<f->
 aW (fV k0 k1 v (s:Int) x (acc r) b h y) f (i:Int)=k0 (s:Int)
 |0,i,f+1,e,_=>by rw[aW];unfold fV;rw[cW,af,show(i:Int)=(s:Int) by omega]
 |m+1,i,f+1,e,hf=>by have go:=GL k0 k1 v x (b:=b) (h:=h) (y:=y) ea q hs ha m (i+1) f (by omega) (by omega);rw[aW];generalize aW (fV k0 k1 v (s:Int) x (acc r) b h y) f=T at go⊢;unfold fV;rw[lE,ah,aG (by decide),ea,acH q hs ha (by omega),ab,aj,af,ak (n:=(i:Int)+1)];exact go
theorem Ky (a:cP)(ha:Zv (.sl (.int .u8)) a):uh a=some true:=by
 have Ab:=dR;refine Ends.true ?_;unfold uh;refine ae2 rfl λhl=>?_;rw[af];refine(Vd hl).bind λr2 p2=>?_;obtain⟨h,l⟩:=r2;simp only at p2⊢;obtain⟨f,hn,alj⟩:=p2;have q0:Ew 2000 h 0 h:=⟨f.Jw.mono,by simpa using f.sz,ma.refl h⟩
 rw[acY (n:=2000) (by omega) h l (by omega) alj (f.Jw.mono) f.sz,ab];have a0:Acc h.2.2.1.2.2.2 0 h:=by
  refine⟨?_,?_⟩;unfold acc nh;rw[f.nh.1,f.nh.2.2.1,f.nh.2.2.2];exact List.Perm.refl _
  ·have:=f.Jw.tx.next
   omega
 have hx:=f.Jw.tx.next
 obtain⟨s,e1,e2,e3⟩:=Vm (by omega) l 0 (by omega) (by omega) q0 a0;have r0:=VN (by omega) l 0 (by omega) q0;have hb:=r0.Jw.ok (by omega);obtain⟨s2,_,e4,e5⟩:=Pw hb e2 (6,(0,0,0,0,0,0,0,0,0,0,0,0,0,0,0,([]:Bytes)),0,0,([]:Bytes),0);have e6:(s:Int)=(s2:Int):=e5;have e7:s2=s:=by omega
 subst e7;have e4:Acc h.2.2.1.2.2.2 s2 (gD (l.foldl kg (h,0)).1):=e4;have gr:=Jx (n:=2000+641*((0+l.length:Nat):Int)) (by omega) (r0.Jw.mono);have zr:=(M3 (by omega) r0.sz (aas hb)).1;have lr:(gD (l.foldl kg (h,0)).1).2.2.1=_:=congrArg (·.1) (Gz hb);have e8:(l.foldl kg (h,0)).2=(s2:Int):=e3;have hr:=yU (l.foldl kg (h,0)).1 (r0.sz.sz (by omega)) (r0.sz.z.mono);have e2:Acc h.2.2.1.2.2.2 s2 (l.foldl kg (h,0)).1:=e2;unfold aaw;simp only;generalize (l.foldl kg (h,0)).2=n at e8⊢;generalize (l.foldl kg (h,0)).1=x at e2 e4 r0 hb gr zr lr hr⊢;subst e8;have lI:=vy (gD x) (zr.sz (by omega));rw[gr.ok (by omega)]at lI;have alX:(acc x).length=s2:=by have:=e2.perm.length_eq;rw[cp,List.length_range]at this;exact this
 have alY:(acc (gD x)).length=s2:=by have:=e4.perm.length_eq;rw[cp,List.length_range]at this;exact this
 have c1:=IS x (n:=1000);have c2:=IS (gD x) (n:=1000);have wait:((gD x).2.2.1.2.2.1.length:Int)=0:=by rw[lr];rfl
 have loop:∀(k0:Int->ay Bool)(k1:Bool->Int->ay Bool)(v:Bool),aW (ft k0 k1 v (s2:Int) h x (gD x)) fuel 0=k0 2:=by
  intro k0 k1 v;have step:∀f,2<=f->∃g,f=g+1+1+1\/f=2:=λf hf=>⟨f-3,by omega⟩
  obtain⟨g,hg⟩:∃g,fuel=g+1+1+1:=⟨fuel-3,by omega⟩
  have hgf:1000<fuel:=by omega
  have in1:=λ(k0:Int->ay Bool) (k1:Bool->Int->ay Bool) (v:Bool) (z:Int)=>GL k0 k1 v z (b:=h) (h:=x) (y:=gD x) rfl e2 (by omega) hx s2 0 fuel (by omega) (by omega);have in2:=λ(k0:Int->ay Bool) (k1:Bool->Int->ay Bool) (v:Bool) (z:Int)=>GL k0 k1 v z (b:=h) (h:=x) (y:=gD x) rfl e4 (by omega) hx s2 0 fuel (by omega) (by omega);have body:∀(nx:Int->ay Bool)(i:Int),ft k0 k1 v (s2:Int) h x (gD x) nx i=cond (decide (i<2)) (nx (aq (i+1))) (k0 i):=by intro nx i;unfold ft;rw[c1,c2];simp only[ab,alX,alY,bne_self_eq_false,af];have z0:((0:Nat):Int)=0:=rfl;rw[z0]at in1 in2;rw[in1,in2];cases i==1<;>rfl
  have it:∀(f:Nat)(i:Int),aW (ft k0 k1 v (s2:Int) h x (gD x)) (f+1) i=ft k0 k1 v (s2:Int) h x (gD x) (aW (ft k0 k1 v (s2:Int) h x (gD x)) f) i:=λ_ _=>rfl;have e1:aq ((0:Int)+1)=1:=by decide
  have e2:aq ((1:Int)+1)=2:=by decide
  rw[hg,it,body,e1,it,body,e2,it,body];rfl
 simp only[hr,ab];have fin:(cond (((gD x).2.2.1.2.2.1.length:Int)==0) (aa (gQ (gD x)) λyZ=>some yZ) (some false))=some true:=by rw[wait,lI];rfl
 cases !l.isEmpty with|true=>rw[ah,loop,fin];exact Ends.pure rfl|false=>rw[af,loop,fin];exact Ends.pure rfl
end
end Go.Pu
