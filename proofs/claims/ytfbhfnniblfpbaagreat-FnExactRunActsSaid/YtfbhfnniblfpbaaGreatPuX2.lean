import Derived.Test.YtfbhfnniblfpbaaGreatPuX1
namespace Go.Pu
open Go.Dn
open Int (tmod)
set_option linter.unusedSimpArgs false
set_option linter.unusedVariables false
noncomputable section
variable {s t x:Bytes} {h:Host} {c d:Int} {k:Nat} {g:Nat->Host->Host} {p:aU} {R:Type} {l:aq aA} {m:bt} {f:bt×bh} {r:kW}
/- Writes through mappings: the program's and the reference's results are one. -/
def IY (x:Bytes)(o:Nat)(t:Bytes):Bytes:=x.take o++(t++x.drop (o+t.length))
theorem acC {o:Nat}(h:o+t.length<=x.length):(IY x o t).length=x.length:=by grind[IY]
theorem acF (x:Bytes)(o:Nat)(t:Bytes):aM (Ey (dp x) o (dp t))=IY x o t:=by
 have e:Ey (dp x) o (dp t)=dp (IY x o t):=by grind[Ey,IY,dp,List.map_take,List.map_drop]
 rw[e,Oc]
theorem afs {o:Nat}(h:o+t.length<=x.length):xo x (o:Int) t=IY x o t:=by grind[xo,fJ,IY]
def C0:Nat->bt->Nat->Bytes->bt
 |0,m,_,_=>m
 |n+1,m,a,s=>if s.length=0 then m else
  C0 n (m.set (a/128) (IY (m.getD (a/128) []) (a%128) (s.take (128-a%128)))) (a+min (128-a%128) s.length) (s.drop (128-a%128))
def Fz (m:bt):Prop:=(∀x∈m,x.length=128)/\m.length<=64
theorem Ic:gQ m=true↔Fz m:=mem_iff
theorem L3 {p:Nat}(h:Fz m)(hx:x.length=128):Fz (m.set p x):=by refine⟨λy hy=>?_,by rw[aH];exact h.2⟩;rcases List.mem_or_eq_of_mem_set hy with g|g;exact h.1 y g;rw[g];exact hx
theorem JR (h:Fz m){a:Nat}(hs:s.length≠0)(ha:a+s.length<=128*m.length): ∃(hp:a/128<m.length),(m[a/128]'hp).length=128/\(IY (m[a/128]'hp) (a%128) (s.take (128-a%128))).length=128:=by
 have hp:a/128<m.length:=by omega
 have hl:=h.1 _ (bc hp);grind[acC]
theorem F5:∀(n:Nat){m:bt}{a:Nat}{s:Bytes},Fz m->a+s.length<=128*m.length->Fz (C0 n m a s)/\(C0 n m a s).length=m.length
 |0,m,a,s,h,_=>⟨h,rfl⟩
 |n+1,m,a,s,h,ha=>by rw[C0];split;exact⟨h,rfl⟩;rename_i hs;obtain⟨hp,hl,ho⟩:=JR h hs ha;rw[fM hp];have:=F5 n (m:=m.set (a/128) (IY m[a/128] (a%128) (s.take (128-a%128)))) (a:=a+min (128-a%128) s.length) (s:=s.drop (128-a%128)) (L3 h ho) (by rw[aH,bj];omega);rw[aH]at this;exact this
theorem IU (K:Int->Bytes->bt->au R)(K':bt->au R)(hK:∀a m,K a [] m=K' m):∀(n:Nat)(m:bt)(a:Nat)(s:Bytes)(f:Nat),s.length<=n->n<f->Fz m->a+s.length<=128*m.length->
 aI (nm K ([]:bt)) f ((a:Int),s,m)=K' (C0 n m a s)
 |n,m,a,s,0,_,hf,_,_=>by omega
 |n,m,a,s,f+1,hs,hf,hm,ha=>by
  rw[aI];simp only[nm];by_cases h0:s.length=0;have:s=[]:=cz h0;subst this;rw[ar (by simp),ae,hK];cases n<;>simp[C0];cases n with
  |zero=>omega
  |succ n=>
   obtain⟨hp,hl,ho⟩:=JR hm h0 ha;have h64:=hm.2;have e1:Int.tdiv (a:Int) 128=((a/128:Nat):Int):=aa0 a 128;have e2:tmod (a:Int) 128=((a%128:Nat):Int):=Xf a 128;rw[jF,af,mI,e1,e2,aj (n:=((a/128:Nat):Int)) (by omega) (by omega),aX hp,ab,aQ (by omega),mI];have qa:sub (dp m[a/128]) ((a%128:Nat):Int) ((dp m[a/128]).length:Int)=some ((dp m[a/128]).drop (a%128)):=by rw[NQ _ _ _ (by rw[Ky];omega) (aR _),bB (by rw[bj];exact aR _)]
   rw[qa,ab,mI,ab,ab];have hd:((dp m[a/128]).drop (a%128)).length=128-a%128:=by rw[bj,Ky,hl]
   rw[hd];have hdr:s.drop (min (128-a%128) s.length)=s.drop (128-a%128):=by by_cases h3:128-a%128<=s.length;rw[iW h3];rw[Nat.min_eq_right (by omega),cS (aR _),cS (by omega)]
   have ajz:sub s (((min (128-a%128) s.length:Nat)):Int) ((s.length:Int))=some (s.drop (128-a%128)):=by rw[<-hdr];unfold sub;rw[zip];simp
   rw[ajz,ab,aj (n:=(a:Int)+((min (128-a%128) s.length:Nat):Int)) (by omega) (by omega),ay,ay,acF];rw[C0,aF h0,fM hp,show(a:Int)+((min (128-a%128) s.length:Nat):Int)=((a+min (128-a%128) s.length:Nat):Int) by omega];exact IU K K' hK n _ _ _ f (by rw[bj];omega) (by omega) (L3 hm ho) (by rw[aH,bj];omega)
theorem I6 (K:Int->Bytes->bt->au R)(K':bt->au R)(hK:∀a m,K a [] m=K' m):∀(n:Nat)(m:bt)(a:Nat)(s:Bytes)(f:Nat),s.length<=n->n<f->Fz m->a+s.length<=128*m.length->
 aI (nu K ([]:bt)) f ((a:Int),s,m)=K' (C0 n m a s)
 |n,m,a,s,0,_,hf,_,_=>by omega
 |n,m,a,s,f+1,hs,hf,hm,ha=>by
  rw[aI];simp only[nu];by_cases h0:s.length=0;have:s=[]:=cz h0;subst this;rw[ar (by simp),ae,hK];cases n<;>simp[C0];cases n with
  |zero=>omega
  |succ n=>
   obtain⟨hp,hl,ho⟩:=JR hm h0 ha;have h64:=hm.2;have e1:Int.tdiv (a:Int) 128=((a/128:Nat):Int):=aa0 a 128;have e2:tmod (a:Int) 128=((a%128:Nat):Int):=Xf a 128;rw[jF,af,mI,mI,mI,e1,e2,aj (n:=((a/128:Nat):Int)) (by omega) (by omega),aj (n:=128-((a%128:Nat):Int)) (by omega) (by omega),aX hp,ab];obtain⟨c,hc⟩:∃c,min (128-a%128) s.length=c:=⟨_,rfl⟩
   rw[show(if 128-((a%128:Nat):Int)<(s.length:Int) then 128-((a%128:Nat):Int) else(s.length:Int))=(c:Int) by split<;>omega];have ht:s.take c=s.take (128-a%128):=by by_cases h3:128-a%128<=s.length;rw[<-hc,iW h3];rw[<-hc,Nat.min_eq_right (by omega),bB (aR _),bB (by omega)]
   have hdr:s.drop c=s.drop (128-a%128):=by by_cases h3:128-a%128<=s.length;rw[<-hc,iW h3];rw[<-hc,Nat.min_eq_right (by omega),cS (aR _),cS (by omega)]
   have hs1:sub s 0 (c:Int)=some (s.take (128-a%128)):=by rw[<-ht];unfold sub;rw[zip];simp
   have hs2:sub s (c:Int) (s.length:Int)=some (s.drop (128-a%128)):=by rw[<-hdr];unfold sub;rw[zip];simp
   rw[hs1,ab,FP _ _ _ (by omega),ab,ab,ab,hs2,ab,afs (by rw[bm,hl];omega),aj (n:=(a:Int)+(c:Int)) (by omega) (by omega),ay];rw[C0,aF h0,fM hp,hc,show(a:Int)+(c:Int)=((a+c:Nat):Int) by omega];exact I6 K K' hK n _ _ _ f (by rw[bj];omega) (by omega) (L3 hm ho) (by rw[aH,bj];omega)
def xR (m:bt)(a:Int)(s:Bytes):bt×Bool:=bif gG m a (s.length:Int) then(C0 s.length m a.toNat s,true) else(m,false)
theorem YO (m:bt)(a:Int)(s:Bytes)(h:m.length<=10^9)(hs:s.length<=10^9):sn m a s=some (xR m a s):=by have xS:=cR;unfold sn xR;rw[fT m,ab,Hj m _ _ h,ab];cases hw:gG m a (s.length:Int);rfl;simp only[gG,ah,bE]at hw;obtain⟨a,rfl⟩:=aJ hw.2.2.1;simp only[ai,ae,af,ay];exact IU _ (λm=>some (m,true)) (λ_ _=>rfl) s.length m a s fuel (aR _) (by omega) (Ic.1 hw.1) (by omega)
theorem ZM (m:bt)(a:Int)(s:Bytes)(h:m.length<=10^9)(hs:s.length<=10^9):sW m a s=some (xR m a s):=by have xS:=cR;unfold sW xR;rw[hY m,ab,HG m _ _ h,ab];cases hw:gG m a (s.length:Int);rfl;simp only[gG,ah,bE]at hw;obtain⟨a,rfl⟩:=aJ hw.2.2.1;simp only[ai,ae,af,ay];exact I6 _ (λm=>some (m,true)) (λ_ _=>rfl) s.length m a s fuel (aR _) (by omega) (Ic.1 hw.1) (by omega)
theorem HO (m:bt)(a:Int)(s:Bytes):(xR m a s).1.length=m.length:=by grind[xR,gG,F5,Ic]
def T6:aq (Int×Int)->bt->Bytes->bt
 |[],m,_=>m
 |p::q,m,s=>T6 q (xR m p.1 (s.take p.2.toNat)).1 (s.drop p.2.toNat)
theorem Wv:∀(q:aq (Int×Int))(m:bt)(s:Bytes),(T6 q m s).length=m.length
 |[],m,s=>rfl
 |p::q,m,s=>by rw[T6,Wv q,HO]
def Q9 (q:aq (Int×Int)):Int:=(q.map (·.2)).sum
theorem aaW:∀(q:aq (Int×Int)),(∀p∈q,0<=p.2)->0<=Q9 q
 |[],_=>Int.le_refl _
 |p::q,h=>by have:=aaW q (λx hx=>h x (by simp[hx]));grind[Q9]
theorem Wz {p:Int×Int}{q:aq (Int×Int)}(hc:∀x∈p::q,0<=x.2)(hs:(s.length:Int)=Q9 (p::q)):0<=p.2/\p.2<=(s.length:Int)/\((s.drop p.2.toNat).length:Int)=Q9 q:=by have h1:=hc p (by simp);have h2:=aaW q (λx hx=>hc x (by simp[hx]));grind[Q9]
theorem SF (h0:0<=c)(h1:c<=(s.length:Int)):sub s 0 c=some (s.take c.toNat):=by grind[sub]
theorem W8 (h0:0<=c)(h1:c<=(s.length:Int)):sub s c (s.length:Int)=some (s.drop c.toNat):=by simp_all[sub]
theorem ME (K:Bytes->Int->bt->au (bt×Bool))(hK:∀s i m,K s i m=some (m,true)):∀(rest pre:aq (Int×Int))(m:bt)(s:Bytes)(f:Nat),rest.length<f->pre.length+rest.length<=1000000->(∀x∈rest,0<=x.2)->(s.length:Int)=Q9 rest->m.length<=10^9->s.length<=1000000->
 aI (zT K (pre++rest) ((pre++rest).length:Int) ([]:bt)) f (s,(pre.length:Int),m)=some (T6 rest m s,true)
 |rest,pre,m,s,0,hf,_,_,_,_,_=>by omega
 |[],pre,m,s,f+1,_,_,_,_,_,_=>by rw[aI];simp only[zT];rw[ar (by simp),ae,hK];rfl
 |p::q,pre,m,s,f+1,hf,hn,hc,hs,hm,hl=>by
  obtain⟨h1,h2,h3⟩:=Wz hc hs;simp only[bC]at hf hn;have hi:pre.length<(pre++p::q).length:=by simp
  have hp:(pre++p::q)[pre.length]=p:=by simp
  rw[aI];simp only[zT];rw[ax (by simp;omega),aX hi,hp,aj (by omega) (by omega)];simp only[af,ab,SF h1 h2,W8 h1 h2,YO m _ _ hm (show(s.take p.2.toNat).length<=10^9 by rw[bm];omega)];have key:=ME K hK q (pre++[p]) (xR m p.1 (s.take p.2.toNat)).1 (s.drop p.2.toNat) f (by omega) (by simp;omega) (λx hx=>hc x (by simp[hx])) h3 (by rw[HO];exact hm) (by rw[bj];omega);grind[T6]
theorem MV (K:Bytes->Int->bt->au (bt×Bool))(hK:∀s i m,K s i m=some (m,true)):∀(rest pre:aq (Int×Int))(m:bt)(s:Bytes)(f:Nat),rest.length<f->pre.length+rest.length<=1000000->(∀x∈rest,0<=x.2)->(s.length:Int)=Q9 rest->m.length<=10^9->s.length<=1000000->
 aI (nU K ((pre++rest).map (·.1)) ((pre++rest).map (·.2)) ([]:bt)) f (s,(pre.length:Int),m)=some (T6 rest m s,true)
 |rest,pre,m,s,0,hf,_,_,_,_,_=>by omega
 |[],pre,m,s,f+1,_,_,_,_,_,_=>by rw[aI];simp only[nU];rw[ar (by simp),ae,hK];rfl
 |p::q,pre,m,s,f+1,hf,hn,hc,hs,hm,hl=>by
  obtain⟨h1,h2,h3⟩:=Wz hc hs;simp only[bC]at hf hn;have hi:pre.length<(pre++p::q).length:=by simp
  have hp:(pre++p::q)[pre.length]=p:=by simp
  have i1:idx ((pre++p::q).map (·.1)) (pre.length:Int)=some p.1:=by grind[aX]
  have i2:idx ((pre++p::q).map (·.2)) (pre.length:Int)=some p.2:=by grind[aX]
  rw[aI];simp only[nU];rw[ax (by simp;omega),i1,i2,aj (by omega) (by omega)];simp only[af,ab,SF h1 h2,W8 h1 h2,ZM m _ _ hm (show(s.take p.2.toNat).length<=10^9 by rw[bm];omega)];have key:=MV K hK q (pre++[p]) (xR m p.1 (s.take p.2.toNat)).1 (s.drop p.2.toNat) f (by omega) (by simp;omega) (λx hx=>hc x (by simp[hx])) h3 (by rw[HO];exact hm) (by rw[bj];omega);grind[T6]
theorem Ps (l:aq aA)(m:bt)(d:Int)(w:Bool):∀(n a r:Nat)(q:aq (Int×Int)),r<=n->lN l m d w n a r=some q->Q9 q=(r:Int)/\(∀p∈q,0<=p.2)/\q.length<=n
 |0,a,r,q,hr,h=>by simp only[lN,aZ]at h;subst h;exact⟨by show(0:Int)=_;omega,by simp,by simp⟩
 |n+1,a,r,q,hr,h=>by simp only[lN]at h;split at h;simp only[aZ]at h;subst h;exact⟨by show(0:Int)=_;omega,by simp,by simp⟩;split at h;simp only[Option.map_eq_some_iff]at h;obtain⟨q',h1,rfl⟩:=h;obtain⟨i1,i2,i3⟩:=Ps l m d w n _ _ q' (by omega) h1;refine⟨?_,?_,by simp only[bC];omega⟩;simp only[Q9,ed,List.sum_cons]at i1⊢;rw[i1];omega;intro p hp;rcases cv.1 hp with rfl|hp;show(0:Int)<=((min (128-a%128) r:Nat):Int);omega;exact i2 p hp;cases h
theorem Sn (l:aq aA)(m:bt)(d a n:Int)(w:Bool)(h:(oA l m d a n w).2=true):Q9 (oA l m d a n w).1=n/\(∀p∈(oA l m d a n w).1,0<=p.2)/\(oA l m d a n w).1.length<=4096/\n<=4096:=by
 unfold oA at h⊢;cases hB:fG l&&(gQ m&&dI n 0 4096)with|false=>grind|true=>?_
 rw[hB]at h;simp only[ah,bO]at hB;simp only[af]at h⊢;cases h0:n==0 with
 |true=>
  have:n=0:=by simpa using h0
  subst this;exact⟨rfl,by simp,by simp,by omega⟩
 |false=>rw[h0]at h;simp only[ae]at h⊢;cases ha:decide (a<0)with|true=>grind|false=>rw[ha]at h;simp only[ae]at h⊢;cases hq:lN l m d w n.toNat a.toNat n.toNat with|none=>grind|some q=>obtain⟨i1,i2,i3⟩:=Ps l m d w _ _ _ q (aR _) hq;grind
def mP (l:aq aA)(m:bt)(d a:Int)(s:Bytes)(w:Bool):bt×Bool:=
 bif (oA l m d a (s.length:Int) w).2 then(T6 (oA l m d a (s.length:Int) w).1 m s,true) else(m,false)
theorem mx (l:aq aA)(m:bt)(d a:Int)(s:Bytes)(w:Bool):(mP l m d a s w).1.length=m.length:=by grind[mP,Wv]
theorem VY (l:aq aA)(m:bt)(d a:Int)(s:Bytes)(w:Bool)(hl:l.length<=10^9)(hm:m.length<=10^9)(ha:a<=9223372036854775807):Hl l m d a s w=some (mP l m d a s w):=by have xS:=cR;unfold Hl mP;rw[fT m,ab,V0 l m d a _ w hl hm ha,ab];have hS:=Sn l m d a (s.length:Int) w;generalize oA l m d a (s.length:Int) w=r at hS⊢;cases hr:r.2;rfl;obtain⟨h1,h2,h3,h4⟩:=hS hr;simp only[ai,ae,af];exact ME _ (λ_ _ _=>rfl) r.1 [] m s fuel (by omega) (by simp;omega) h2 h1.symm hm (by omega)
theorem Br (l:aq aA)(m:bt)(d a:Int)(s:Bytes)(hl:l.length<=10^9)(hm:m.length<=10^9)(ha:a<=9223372036854775807):mT l m d a s=some (mP l m d a s true):=by have xS:=cR;unfold mT mP;rw[Sw l m d a _ true hl hm ha,ab,hY m,ab];have hS:=Sn l m d a (s.length:Int) true;generalize oA l m d a (s.length:Int) true=r at hS⊢;cases hr:r.2;rfl;obtain⟨h1,h2,h3,h4⟩:=hS hr;simp only[ai,ae,af];exact MV _ (λ_ _ _=>rfl) r.1 [] m s fuel (by omega) (by simp;omega) h2 h1.symm hm (by omega)
theorem E6 (l:aq aA)(m:bt)(d a:Int)(s:Bytes)(hl:l.length<=10^9)(hm:m.length<=10^9)(ha:a<=9223372036854775807):pP l m d a s=some (mP l m d a s true):=by simp_all[pP,VY]
def wrM (x:aA):aA:=(x.1,x.2.1,x.2.2.1,true)
theorem getD_map {i:Nat}(hi:i<l.length):(l.map wrM).getD i TP=wrM (l.getD i TP):=by grind
theorem TQ (l:aq aA):fG (l.map wrM)=fG l:=by
 unfold fG;rw[cr];congr 1;rw[fj,aW,aW];have key:∀i,i<l.length->TN (l.map wrM) i=TN l i:=by
  intro i hi;unfold TN;rw[getD_map hi];congr 1;rw[fj,aW,aW];constructor;intro h j hj;have hjl:j<l.length:=by have:=dy.1 hj;omega
  have:=h j hj;rw[getD_map hjl]at this;exact this;intro h j hj;have hjl:j<l.length:=by have:=dy.1 hj;omega
  rw[getD_map hjl];exact h j hj
 constructor;intro h i hi;rw[<-key i (dy.1 hi)];exact h i hi;intro h i hi;rw[key i (dy.1 hi)];exact h i hi
theorem afo (l:aq aA)(d p:Int):vJ (l.map wrM) d p true=vJ l d p false:=by grind[vJ,TO,wrM,vI,List.findIdx?_eq_some_iff_getElem]
theorem Sf (l:aq aA)(m:bt)(d:Int):∀n a r,lN (l.map wrM) m d true n a r=lN l m d false n a r
 |0,a,r=>rfl
 |n+1,a,r=>by simp only[lN,afo,Sf l m d n]
theorem ag6 (l:aq aA)(m:bt)(d a:Int)(s:Bytes):mP (l.map wrM) m d a s true=mP l m d a s false:=by
 have e:oA (l.map wrM) m d a (s.length:Int) true=oA l m d a (s.length:Int) false:=by simp only[oA,TQ,Sf]
 simp only[mP,e]
theorem I5 (l:aq aA)(m:bt)(d a:Int)(s:Bytes)(hl:l.length<=10^9)(hm:m.length<=10^9)(ha:a<=9223372036854775807):rD l m d a s=some (mP l m d a s false):=by unfold rD;refine cC (λi=>((l.take i).map wrM,(i:Int))) l.length (by omega) (λi nx hi=>?_) (λnx=>?_);simp only[qD];rw[jF,aX hi,aj (by omega) (by omega)];simp only[af,ab];rw[aQ (by simp;omega),bg hi,List.map_append];rfl;simp only[qD];rw[gr,ae,cD,Br _ m d a s (by rw[cr];exact hl) hm ha,ag6];rfl
theorem DU (l:aq aA)(m:bt)(d a:Int)(s:Bytes)(hl:l.length<=10^9)(hm:m.length<=10^9)(ha:a<=9223372036854775807:=by omega):jy l m d a s=some (mP l m d a s false):=by simp_all[jy,VY]
def qQ (d:Ea):Bool:=dI d.1 0 3&&(dI d.2.1 0 3&&(dI d.2.2.1 0 65535&&(dI d.2.2.2.2.1 0 65535&&(dI d.2.2.2.2.2 0 65535&&dI d.2.2.2.1 0 4294967295))))
theorem VS (d:Ea):zQ d=some (qQ d):=by simp only[zQ,dh,ab,qQ];cases dI d.1 0 3<;>cases dI d.2.1 0 3<;>cases dI d.2.2.1 0 65535<;>cases dI d.2.2.2.2.1 0 65535<;>cases dI d.2.2.2.2.2 0 65535<;>rfl
theorem KV (d:Ea):rC d=some (qQ d):=by simp only[rC,cO,ab,qQ];cases dI d.1 0 3<;>cases dI d.2.1 0 3<;>cases dI d.2.2.1 0 65535<;>cases dI d.2.2.2.2.1 0 65535<;>cases dI d.2.2.2.2.2 0 65535<;>rfl
def AZ (d:Ea):Bytes:=
 bif qQ d then((((aM [gx d.1,gx d.2.1]++bW d.2.2.1)++jd d.2.2.2.1)++bW d.2.2.2.2.1)++bW d.2.2.2.2.2)++jd 0 else []
theorem Uk (d:Ea):lW d=some (AZ d):=by have h1:=bu d.2.2.1;have h2:=dH d.2.2.2.1;have h3:=bu d.2.2.2.2.1;have h4:=bu d.2.2.2.2.2;have h5:=dH 0;have h0:(aM [gx d.1,gx d.2.1]).length=2:=rfl;unfold lW AZ;rw[KV,ab];cases qQ d;all_goals simp(disch:=omega)[ia,mS,aQ]
theorem TB (d:Ea):lU d=some (AZ d):=by have h1:=bu d.2.2.1;have h2:=dH d.2.2.2.1;have h3:=bu d.2.2.2.2.1;have h4:=bu d.2.2.2.2.2;have h5:=dH 0;have h0:(aM [gx d.1,gx d.2.1]).length=2:=rfl;unfold lU AZ;rw[VS,ab];cases qQ d;all_goals simp(disch:=omega)[la,Cf,aQ]
def vZ (r:kW):Int:=bif fI r then ak (r.2.1-da r) else 0
def AX (r:kW)(c:Int):Int:=bif !fI r||decide (c<0) then-1 else r.1+tmod c r.2.1*16
theorem qy (h:fI r=true):0<=r.1/\r.1<=130944/\(r.2.1=2\/r.2.1=4\/r.2.1=8\/r.2.1=16)/\0<=r.2.2.1/\r.2.2.1<=2*r.2.1-1/\0<=r.2.2.2/\r.2.2.2<=2*r.2.1-1:=by grind[fI,bO,mQ]
theorem EH (r:kW)(c:Int): -1<=AX r c/\AX r c<=200000:=by unfold AX;cases hc: !fI r||decide (c<0)with|true=>grind|false=>simp only[dC,eK,dm]at hc;have h:=qy hc.1;grind
def dA (l:aq aA)(m:bt)(d:Int)(r:kW)(s:Bytes):bt×kW×Bool:=
 bif (vZ r==0)||((s.length:Int) !=16) then(m,r,false) else
 bif !(mP l m d (AX r r.2.2.2) s true).2 then(m,r,false) else
 ((mP l m d (AX r r.2.2.2) s true).1,(r.1,r.2.1,r.2.2.1,tmod (r.2.2.2+1) (2*r.2.1)),true)
theorem Sh {a:Int}{w:Bool}(h:(mP l m d a s w).2=false):(mP l m d a s w).1=m:=by grind[mP]
theorem Ij (r:kW):pY r=some (vZ r):=by grind[pY,vZ,Ai,ab,CU]
theorem Sz (r:kW)(c:Int):od r c=some (AX r c):=by
 have uw:=EH r c;unfold od;rw[Ai,ab];unfold AX at uw⊢;cases hb:fI r;rfl;have h:=qy hb;by_cases hc:c<0;rw[ax hc];rfl;rw[hb,ar hc]at uw;rw[ar hc];have h2:0<=tmod c r.2.1/\tmod c r.2.1<r.2.1:=by rw[eP (by omega)];exact⟨Int.emod_nonneg _ (by omega),gb _ (by omega)⟩
 simp only[ai,ae,ab,bM]at uw⊢;rw[mI,aj (n:=16*tmod c r.2.1) (by omega) (by omega),aj (by omega) (by omega)];congr 1;omega
theorem MW (l:aq aA)(m:bt)(d:Int)(r:kW)(s:Bytes)(hl:l.length<=10^9)(hm:m.length<=10^9):xE l m d r s=some (dA l m d r s):=by
 have hA:=EH r r.2.2.2;unfold xE dA;simp only[Ij,ab,Sz,Br l m d _ s hl hm (show AX r r.2.2.2<=9223372036854775807 by omega),hY m (show m.length<=1073741824 by omega)];cases hf:vZ r==0;case true=>rfl
 cases (s.length:Int) !=16;case true=>rfl
 have hb:fI r=true:=by grind[vZ]
 have h:=qy hb;grind[ab,aj]
theorem RN (r:kW):tL r=some (vZ r):=by grind[tL,vZ,zP,ab,Cd]
theorem RS (r:kW)(c:Int):nG r c=some (AX r c):=by
 have uw:=EH r c;unfold nG;rw[zP,ab];unfold AX at uw⊢;cases hb:fI r;rfl;have h:=qy hb;by_cases hc:c<0;rw[ax hc];rfl;rw[hb,ar hc]at uw;rw[ar hc];have h2:0<=tmod c r.2.1/\tmod c r.2.1<r.2.1:=by rw[eP (by omega)];exact⟨Int.emod_nonneg _ (by omega),gb _ (by omega)⟩
 simp only[ai,ae,ab,bM]at uw⊢;rw[mI,aj (n:=tmod c r.2.1*16) (by omega) (by omega),aj (by omega) (by omega)]
theorem MF (l:aq aA)(m:bt)(d:Int)(r:kW)(s:Bytes)(hl:l.length<=10^9)(hm:m.length<=10^9):wC l m d r s=some (dA l m d r s):=by
 have hA:=EH r r.2.2.2;unfold wC dA;simp only[RN,ab,RS,E6 l m d _ s hl hm (show AX r r.2.2.2<=9223372036854775807 by omega),fT m (show m.length<=1073741824 by omega)];cases hf:vZ r==0;case true=>rfl
 cases (s.length:Int) !=16;case true=>rfl
 have hb:fI r=true:=by grind[vZ]
 have h:=qy hb;grind[ab,Sh,aj]
theorem DF {p:cj}(h:gq p=true):0<=p.1/\p.1<=130944/\1<=p.2.1/\p.2.1<=512/\0<=p.2.2.1/\p.2.2.1<=16:=by grind[gq,bO]
def lK (p:cj)(i:Int):Int:=bif !gq p|| !dI i 0 (p.2.2.1-1) then-1 else p.1+i*p.2.1
theorem aad {p:cj}{i:Int}(hp:gq p=true)(hi:dI i 0 (p.2.2.1-1)=true):ak (p.1+ak (i*p.2.1))=p.1+i*p.2.1:=by have h:=DF hp;have h2:=bO.1 hi;have h3:0<=i*p.2.1:=Int.mul_nonneg h2.1 (by omega);have h4:i*p.2.1<=16*512:=Int.mul_le_mul (by omega) (by omega) (by omega) (by omega);grind[aj]
theorem PN (p:cj)(i:Int)(h:p.2.2.2.length<=10^9):jc p i=some (lK p i):=by grind[jc,lK,ug,ab,gq,aj,cO,dI,aad]
theorem Ki (p:cj)(i:Int)(h:p.2.2.2.length<=10^9):fN p i=some (lK p i):=by grind[fN,lK,wh,ab,gq,aj,dh,dI,aad]
def upto (n:Nat):ew:=(List.range n).map Int.ofNat
theorem SM (n:Nat):upto (n+1)=upto n++[(n:Int)]:=by simp[upto,List.range_succ]
theorem af6 {n i:Nat}(h:i<n):(upto n).getD i 0=(i:Int):=by grind[upto]
theorem Zo (a b:Int)(n:Nat)(hn:n<=16):gq (a,b,(n:Int),upto n)=gq (a,b,(n:Int),[]):=by
 unfold gq;congr 3;have h1:(List.range (upto n).length).all (Ms (n:Int) (upto n))=true:=by
  rw[aW];intro i hi;have hi:i<n:=by simpa[upto]using hi
  simp only[Ms,af6 hi,ah,bO,aP];refine⟨by omega,?_⟩;rw[Bool.eq_false_iff,ne_eq,List.contains_iff_mem];intro hm;simp only[upto,<-List.map_take,List.mem_map]at hm;grind
 rw[h1];rfl
def ln (a b n:Int):cj×Bool:=bif gq (a,b,n,[]) then((a,b,n,upto n.toNat),true) else((0,0,0,[]),false)
theorem MD (a b n:Int):wy a b n=some (ln a b n):=by
 unfold wy ln;rw[wh _ (by simp),ab];cases hp:gq (a,b,n,[]);rfl;have uw:=DF hp;obtain⟨n,rfl⟩:=aJ (show 0<=n from uw.2.2.2.2.1);have Xx:n<=16:=by have:=uw.2.2.2.2.2;simp only at this;omega
 simp only[ai,ae,af,ay];refine cC (λi=>((i:Int),a,b,(n:Int),upto i)) n (by omega) (λi nx hi=>?_) (λnx=>?_);simp only[uB];rw[jF,aQ (by simp[upto];omega),aj (by omega) (by omega),SM];rfl;simp only[uB];rw[gr];rfl
theorem MU (a b n:Int):xB a b n=some (ln a b n):=by
 have xS:=cR;unfold xB ln;by_cases hn:0<=n/\n<=16;obtain⟨n,rfl⟩:=aJ hn.1;have Xx:n<=16:=by omega
 refine cC (λi=>((i:Int),a,b,(n:Int),upto i)) n (by omega) (λi nx hi=>?_) (λnx=>?_);simp only[pD];rw[ax (show(i:Int)<n by omega),ax (show(n:Int)<=16 by omega)];simp only[af,ab];rw[aQ (by simp[upto];omega),aj (by omega) (by omega),SM];rfl;simp only[pD];rw[ar (show¬(n:Int)<n by omega)];simp only[ae,ab,ug (a,b,(n:Int),upto n) (show(upto n).length<=10^9 by simp[upto];omega),Zo a b n Xx,ay];cases gq (a,b,(n:Int),[])<;>rfl;have hb:gq (a,b,n,[])=false:=by cases hp:gq (a,b,n,[])with|false=>rfl|true=>have:=DF hp;exact absurd ⟨this.2.2.2.2.1,this.2.2.2.2.2⟩ hn
 obtain⟨f,hf⟩:∃f,fuel=f+1:=⟨fuel-1,by omega⟩
 rw[hf,aI];simp only[pD];have hc:(cond (decide ((0:Int)<n)) (some (decide (n<=16))) (some false))=some false:=by by_cases h0:(0:Int)<n;rw[ax h0,gr];rfl;rw[ar h0];rfl
 rw[hc];simp only[ab,ae,ug (a,b,n,[]) (show([]:ew).length<=10^9 by simp),hb];rfl
def fX (p:cj)(b:Int):Bytes:=AZ (3,0,p.2.1,lK p b,0,b)
def qR (l:aq aA)(d:Int)(p:cj):ew->bt->kW->Nat×bt×kW
 |[],m,r=>(0,m,r)
 |b::q,m,r=>bif (dA l m d r (fX p b)).2.2 then
   ((qR l d p q (dA l m d r (fX p b)).1 (dA l m d r (fX p b)).2.1).1+1,(qR l d p q (dA l m d r (fX p b)).1 (dA l m d r (fX p b)).2.1).2)
  else(0,m,r)
theorem xp (l:aq aA)(m:bt)(d:Int)(r:kW)(s:Bytes):(dA l m d r s).1.length=m.length:=by grind[dA,mx]
theorem Lw (l:aq aA)(d:Int)(p:cj):∀(q:ew)(m:bt)(r:kW),(qR l d p q m r).2.1.length=m.length/\(qR l d p q m r).1<=q.length
 |[],m,r=>⟨rfl,aR _⟩
 |b::q,m,r=>by rw[qR];cases (dA l m d r (fX p b)).2.2 with|false=>grind|true=>have:=Lw l d p q (dA l m d r (fX p b)).1 (dA l m d r (fX p b)).2.1;grind[xp]
theorem Vs (r:kW):0<=vZ r:=by unfold vZ;cases hb:fI r with|false=>exact Int.le_refl _|true=>have h:=qy hb;grind[fI,da,aj]
theorem T7 (h:¬vZ r>0):dA l m d r s=(m,r,false):=by have h0:=Vs r;grind[dA]
theorem Kk (K:Int->Int->kW->bt->au R)(K':Nat->kW->bt->au R)(hK:∀(c:Nat) i r m,K (c:Int) i r m=K' c r m)(l:aq aA)(d:Int)(p p2 p3:cj)(hp:p.2.2.2.length<=10^9)(hl:l.length<=10^9):∀(rest pre:ew)(m:bt)(r:kW)(f:Nat),rest.length<f->pre.length+rest.length<=10^9->m.length<=10^9->
 aI (nB K l d (pre++rest) ((pre++rest).length:Int) p ([]:bt) (0,0,0,0) p2 p3) f ((pre.length:Int),(pre.length:Int),r,m)=K' (pre.length+(qR l d p rest m r).1) (qR l d p rest m r).2.2 (qR l d p rest m r).2.1
 |rest,pre,m,r,0,hf,_,_=>by omega
 |[],pre,m,r,f+1,_,_,_=>by rw[aI];simp only[nB];rw[ar (by simp),ae,hK];rfl
 |b::q,pre,m,r,f+1,hf,hn,hm=>by
  simp only[bC]at hf hn;have hi:pre.length<(pre++b::q).length:=by simp
  have hb:(pre++b::q)[pre.length]=b:=by simp
  rw[aI];simp only[nB];rw[ax (by simp;omega),aX hi,hb];simp only[af,ab,Ki p b hp,TB,MF l m d r _ hl hm];rw[show AZ (3,0,p.2.1,lK p b,0,b)=fX p b from rfl,qR];cases hq:(dA l m d r (fX p b)).2.2 with|false=>grind|true=>simp only[ai,ae,af];rw[aj (n:=(pre.length:Int)+1) (by omega) (by omega)];have key:=Kk K K' hK l d p p2 p3 hp hl q (pre++[b]) (dA l m d r (fX p b)).1 (dA l m d r (fX p b)).2.1 f (by omega) (by simp;omega) (by rw[xp];exact hm);grind
theorem KX (K:Int->kW->bt->cj->au R)(l:aq aA)(d:Int)(p p2:cj)(hp:p.2.2.2.length<=10^9)(hl:l.length<=10^9)(A B C:Int):∀(rest:ew)(c:Nat)(m:bt)(r:kW)(f:Nat),rest.length<f->c+rest.length<=10^9->m.length<=10^9->
 aI (nV K l d p ([]:bt) (0,0,0,0) p2) f ((c:Int),r,m,A,B,C,rest)=K ((c+(qR l d p rest m r).1:Nat):Int) (qR l d p rest m r).2.2 (qR l d p rest m r).2.1 (A,B,C,rest.drop (qR l d p rest m r).1)
 |rest,c,m,r,0,hf,_,_=>by omega
 |[],c,m,r,f+1,_,_,_=>by
  rw[aI];simp only[nV,Ij,ab];have hc:(cond (decide (vZ r>0)) (some (decide ((([]:ew).length:Int)>0))) (some false))=some false:=by cases decide (vZ r>0)<;>rfl
  rw[hc];rfl
 |b::q,c,m,r,f+1,hf,hn,hm=>by
  simp only[bC]at hf hn;rw[aI];simp only[nV,Ij,ab];by_cases hr:vZ r>0;rw[ax hr,ax (show(((b::q).length:Nat):Int)>0 by simp)];have hi:idx (b::q) 0=some b:=rfl;have hs:sub (b::q) 1 ((b::q).length:Int)=some q:=by unfold sub;rw[aG (by simp;omega)];simp
  simp only[af,ab,hi,PN p b hp,Uk,MW l m d r _ hl hm];rw[show AZ (3,0,p.2.1,lK p b,0,b)=fX p b from rfl,qR];cases hq:(dA l m d r (fX p b)).2.2 with|false=>rfl|true=>simp only[ai,ae,af,hs,ab];rw[gm (by omega),aj (n:=(c:Int)+1) (by omega) (by omega),bU];have key:=KX K l d p p2 hp hl A B C q (c+1) (dA l m d r (fX p b)).1 (dA l m d r (fX p b)).2.1 f (by omega) (by omega) (by rw[xp];exact hm);rw[show((c+1:Nat):Int)=(c:Int)+1 by omega]at key;refine Eq.trans key ?_;rw[show c+1+(qR l d p q (dA l m d r (fX p b)).1 (dA l m d r (fX p b)).2.1).1=c+((qR l d p q (dA l m d r (fX p b)).1 (dA l m d r (fX p b)).2.1).1+1) by omega];rfl
  rw[ar hr,qR,T7 hr];rfl
def B6 (l:aq aA)(m:bt)(d:Int)(r:kW)(p:cj):bt×kW×cj×Int:=
 bif !fI r|| !gq p then(m,r,p,0) else
 ((qR l d p p.2.2.2 m r).2.1,(qR l d p p.2.2.2 m r).2.2,(p.1,p.2.1,p.2.2.1,p.2.2.2.drop (qR l d p p.2.2.2 m r).1),((qR l d p p.2.2.2 m r).1:Int))
theorem VU (l:aq aA)(m:bt)(d:Int)(r:kW)(p:cj)(hl:l.length<=10^9)(hm:m.length<=10^9)(hp:p.2.2.2.length<=10^9):jj l m d r p=some (B6 l m d r p):=by have xS:=cR;unfold jj B6;simp only[fT m (show m.length<=1073741824 by omega),vw p hp,zP,wh p hp,ab];cases fI r;rfl;cases gq p;rfl;simp only[ai,ae,ab,bM];have hlen:=(Lw l d p p.2.2.2 m r).2;refine(Kk _ (λc r m=>aa (sub p.2.2.2 (c:Int) (p.2.2.2.length:Int)) λx14=>aa (fV x14) λzh=>some (m,r,(p.1,p.2.1,p.2.2.1,zh),(c:Int))) (λ_ _ _ _=>rfl) l d p _ p hp hl p.2.2.2 [] m r fuel (by omega) (by simp;omega) hm).trans ?_;grind[NQ,ab,ot]
theorem WU (l:aq aA)(m:bt)(d:Int)(r:kW)(p:cj)(hl:l.length<=10^9)(hm:m.length<=10^9)(hp:p.2.2.2.length<=10^9):ui l m d r p=some (B6 l m d r p):=by have xS:=cR;unfold ui B6;simp only[hY m (show m.length<=1073741824 by omega),yi p hp,Ai,ug p hp,ab];cases fI r;rfl;cases gq p;rfl;simp only[ai,ae,ab,bM];refine(KX _ l d p _ hp hl p.1 p.2.1 p.2.2.1 p.2.2.2 0 m r fuel (by omega) (by omega) hm).trans ?_;rw[cm]
def kO (p:cj)(n:Int):cj×ew×Bool:=bif gq p&&dI n 0 (p.2.2.2.length:Int) then((p.1,p.2.1,p.2.2.1,p.2.2.2.drop n.toNat),p.2.2.2.take n.toNat,true) else(p,[],false)
theorem ada (p:cj)(n:Int)(h:p.2.2.2.length<=10^9):sU p n=some (kO p n):=by unfold sU kO;rw[yi p h,ab,ug p h,ab,cO];grind[bO,ab,DN,aQ,W7]
theorem ab0 (p:cj)(n:Int)(h:p.2.2.2.length<=10^9):sk p n=some (kO p n):=by unfold sk kO;rw[vw p h,ab,wh p h,ab,dh];cases gq p;rfl;cases hi:dI n 0 (p.2.2.2.length:Int);rfl;have hn:=bO.1 hi;obtain⟨n,rfl⟩:=aJ hn.1;simp only[ai,ae,ab,dZ,af,ay];grind[ab,ot,sub]
theorem zN:∀l:aq gH,(∀x∈l,0<=x.2.1/\x.2.1<=16)->0<=ef l/\ef l<=16*(l.length:Int)
 |[],_=>by simp[ef]
 |y::l,h=>by have h1:=zN l (λx hx=>h x (ee _ hx));grind[ef]
theorem Oe (l:aq gH)(i:Nat)(hi:i<l.length):ef (l.take (i+1))=ef (l.take i)+l[i].2.1:=by grind[bg,ef]
theorem ac6 (t:bA)(h:t.2.2.1.length<=1000000)(hs:∀x∈t.2.2.1,0<=x.2.1/\x.2.1<=16):zH t=some (ef t.2.2.1):=by
 have xS:=cR;unfold zH;refine cC (λi=>(ef (t.2.2.1.take i),(i:Int))) t.2.2.1.length (by omega) (λi nx hi=>?_) (λnx=>?_);have hb:=zN (t.2.2.1.take i) (λx hx=>hs x (List.mem_of_mem_take hx));have hc:=hs _ (bc hi);have hl:(t.2.2.1.take i).length<=1000000:=by rw[bm];omega
 rw[Oe _ _ hi];simp only[sZ];rw[jF,af,aX hi,ab,aj (n:=(i:Int)+1) (by omega) (by omega),aj (by omega) (by omega)];rfl;simp only[sZ];rw[gr,ae,cD]
theorem abW (t:bA)(h:t.2.2.1.length<=1000000)(hs:∀x∈t.2.2.1,0<=x.2.1/\x.2.1<=16):qu t=some (ef t.2.2.1):=by
 have xS:=cR;unfold qu;refine cC (λi=>(ef (t.2.2.1.take i),(i:Int))) t.2.2.1.length (by omega) (λi nx hi=>?_) (λnx=>?_);have hb:=zN (t.2.2.1.take i) (λx hx=>hs x (List.mem_of_mem_take hx));have hc:=hs _ (bc hi);have hl:(t.2.2.1.take i).length<=1000000:=by rw[bm];omega
 rw[Oe _ _ hi];simp only[mm];rw[jF,af,aX hi,ab,aj (n:=(i:Int)+1) (by omega) (by omega),aj (by omega) (by omega)];rfl;simp only[mm];rw[gr,ae,cD]
def Bp (l:aq aA)(d:Int):bt->bt->kW->au (bt×kW)
 |[],m,r=>some (m,r)
 |s::q,m,r=>bif (dA l m d r s).2.2 then Bp l d q (dA l m d r s).1 (dA l m d r s).2.1 else none
def afk (m:bt)(r:kW):au (bt×kW)->bt×kW×Bool
 |some x=>(x.1,x.2,true)
 |none=>(m,r,false)
def xn (l:aq aA)(m:bt)(d:Int)(r:kW)(q:bt):bt×kW×Bool:=afk m r (Bp l d q m r)
theorem Hh (l:aq aA)(d:Int)(M:bt)(A B2:kW)(B1:bt)(hl:l.length<=10^9)(hM:M.length<=10^9):∀(rest pre:bt)(m:bt)(r:kW)(f:Nat),rest.length<f->(pre++rest).length<=10^9->m.length<=10^9->
 aI (lh (λ_ y6 y7=>some (y6,y7,true)) (λy8 _ vQ BU _ _=>some (vQ,BU,y8)) l d false (pre++rest) ((pre++rest).length:Int) M A B1 B2) f ((pre.length:Int),m,r)=some (afk M A (Bp l d rest m r))
 |rest,pre,m,r,0,hf,_,_=>by omega
 |[],pre,m,r,f+1,_,_,_=>by rw[aI];simp only[lh];rw[ar (by simp),ae];rfl
 |s::q,pre,m,r,f+1,hf,hn,hm=>by
  simp only[bC,aw]at hf hn;have hi:pre.length<(pre++s::q).length:=by simp
  have hb:(pre++s::q)[pre.length]=s:=by simp
  rw[aI];simp only[lh];rw[ax (by simp;omega),aX hi,hb];simp only[af,ab,MF l m d r _ hl hm];rw[Bp];cases hq:(dA l m d r s).2.2 with|false=>simp only[cf,af,ae,fT M,ab];rfl|true=>simp only[ai,ae,af];rw[aj (n:=(pre.length:Int)+1) (by omega) (by omega)];have key:=Hh l d M A B2 B1 hl hM q (pre++[s]) (dA l m d r s).1 (dA l m d r s).2.1 f (by omega) (by simp;omega) (by rw[xp];exact hm);grind
theorem HD (l:aq aA)(d:Int)(M:bt)(A B2:kW)(B1:bt)(hl:l.length<=10^9)(hM:M.length<=10^9):∀(rest pre:bt)(m:bt)(r:kW)(f:Nat),rest.length<f->(pre++rest).length<=10^9->m.length<=10^9->
 aI (lq (λ_ y6 y7=>some (y6,y7,true)) (λy8 _ vQ BU _ _=>some (vQ,BU,y8)) l d (pre++rest) false M A B1 B2) f ((pre.length:Int),m,r)=some (afk M A (Bp l d rest m r))
 |rest,pre,m,r,0,hf,_,_=>by omega
 |[],pre,m,r,f+1,_,_,_=>by rw[aI];simp only[lq];rw[ar (by simp),ae];rfl
 |s::q,pre,m,r,f+1,hf,hn,hm=>by
  simp only[bC,aw]at hf hn;have hi:pre.length<(pre++s::q).length:=by simp
  have hb:(pre++s::q)[pre.length]=s:=by simp
  rw[aI];simp only[lq];rw[ax (by simp;omega),aX hi,hb];simp only[af,ab,MW l m d r _ hl hm];rw[Bp];cases hq:(dA l m d r s).2.2 with|false=>simp only[cf,af,ae,hY M,ab];rfl|true=>simp only[ai,ae,af];rw[aj (n:=(pre.length:Int)+1) (by omega) (by omega)];have key:=HD l d M A B2 B1 hl hM q (pre++[s]) (dA l m d r s).1 (dA l m d r s).2.1 f (by omega) (by simp;omega) (by rw[xp];exact hm);grind
theorem YK (l:aq aA)(m:bt)(d:Int)(r:kW)(q:bt)(hl:l.length<=10^9)(hm:m.length<=10^9)(hq:q.length<=10^9):jX l m d r q=some (xn l m d r q):=by have xS:=cR;unfold jX xn;rw[fT m,ab];exact Hh l d m r _ _ hl hm q [] m r fuel (by omega) (by simpa using hq) hm
theorem ZJ (l:aq aA)(m:bt)(d:Int)(r:kW)(q:bt)(hl:l.length<=10^9)(hm:m.length<=10^9)(hq:q.length<=10^9):uX l m d r q=some (xn l m d r q):=by have xS:=cR;unfold uX xn;rw[hY m,ab];exact HD l d m r _ _ hl hm q [] m r fuel (by omega) (by simpa using hq) hm
theorem Pr (l:aq aA)(m:bt)(d:Int)(w:Bool):∀(n a r:Nat)(q:aq (Int×Int)),lN l m d w n a r=some q->q.length<=n
 |0,a,r,q,h=>by simp only[lN,aZ]at h;subst h;simp
 |n+1,a,r,q,h=>by simp only[lN]at h;split at h;simp only[aZ]at h;subst h;simp;split at h;simp only[Option.map_eq_some_iff]at h;obtain⟨q',h1,rfl⟩:=h;have:=Pr l m d w n _ _ q' h1;simp only[bC];omega;cases h
theorem Ig (l:aq aA)(m:bt)(d a n:Int)(w:Bool):(oA l m d a n w).1.length<=4096:=by
 unfold oA;cases hB:fG l&&(gQ m&&dI n 0 4096);simp;simp only[ah,bO]at hB;simp only[af];cases n==0;case true=>simp
 cases decide (a<0);case true=>simp
 simp only[ae];split;rename_i q hq;have:=Pr _ _ _ _ _ _ _ _ hq;show q.length<=4096;omega;simp
def pV (m:bt)(p:Int×Int):Bytes:=bif gG m p.1 p.2 then AW m p.1.toNat p.2.toNat else []
theorem D0 (m:bt)(p:Int×Int):(pV m p).length<=8192:=by grind[pV,gG,afw,mem_iff]
theorem ry (m:bt):∀q:aq (Int×Int),(q.flatMap (pV m)).length<=8192*q.length
 |[]=>by simp
 |p::q=>by have:=ry m q;grind[D0]
def qJ (l:aq aA)(m:bt)(d a n:Int):Bytes×Bool:=
 bif (oA l m d a n false).2 then((oA l m d a n false).1.flatMap (pV m),true) else([],false)
theorem J5 {α β:Type}(g:α->aq β)(l:aq α)(i:Nat)(hi:i<l.length):(l.take (i+1)).flatMap g=(l.take i).flatMap g++g l[i]:=by grind[bg]
theorem Dj (l:aq aA)(m:bt)(d a n:Int)(hl:l.length<=10^9)(hm:m.length<=10^9)(ha:a<=9223372036854775807):oD l m d a n=some (qJ l m d a n):=by
 unfold oD qJ;rw[V0 l m d a n false hl hm ha,ab];have hL:=Ig l m d a n false;generalize oA l m d a n false=r at hL⊢;cases hr:r.2;rfl;simp only[ai,ae,af];refine(cC (λi=>((r.1.take i).flatMap (pV m),(i:Int))) r.1.length (by omega) (λi nx hi=>?_) (λnx=>?_));simp only[uz];rw[jF,aX hi,aj (by omega) (by omega)];have e:po m r.1[i].1 r.1[i].2=some (pV m r.1[i],gG m r.1[i].1 r.1[i].2):=by rw[aeP m _ _ hm,pV];cases gG m r.1[i].1 r.1[i].2<;>rfl
 have h1:=ry m (r.1.take i);have h2:=D0 m r.1[i];simp only[af,ab,e];rw[aQ (by rw[bm]at h1;omega),<-J5];rfl;simp only[uz];rw[gr,cD];rfl
theorem DL (l:aq aA)(m:bt)(d a n:Int)(hl:l.length<=10^9)(hm:m.length<=10^9)(ha:a<=9223372036854775807):oS l m d a n=some (qJ l m d a n):=by
 unfold oS qJ;rw[Sw l m d a n false hl hm ha,ab];have hL:=Ig l m d a n false;generalize oA l m d a n false=r at hL⊢;cases hr:r.2;rfl;simp only[ai,ae,af];refine(cC (λi=>((r.1.take i).flatMap (pV m),(i:Int))) r.1.length (by omega) (λi nx hi=>?_) (λnx=>?_));simp only[uV];have i1:idx (r.1.map (·.1)) (i:Int)=some r.1[i].1:=by rw[aX (by simpa using hi),List.getElem_map]
 have i2:idx (r.1.map (·.2)) (i:Int)=some r.1[i].2:=by rw[aX (by simpa using hi),List.getElem_map]
 rw[ax (by rw[cr];omega),i1,i2,aj (by omega) (by omega)];have e:pE m r.1[i].1 r.1[i].2=some (pV m r.1[i],gG m r.1[i].1 r.1[i].2):=by rw[afN m _ _ hm,pV];cases gG m r.1[i].1 r.1[i].2<;>rfl
 have h1:=ry m (r.1.take i);have h2:=D0 m r.1[i];simp only[af,ab,e];rw[aQ (by rw[bm]at h1;omega),<-J5];rfl;simp only[uV];rw[ar (by rw[cr];omega),cD];rfl
theorem GW (l:aq aA)(m:bt)(d a n:Int):(qJ l m d a n).1.length<=100000000:=by have hL:=Ig l m d a n false;have h1:=ry m (oA l m d a n false).1;grind[qJ]
def vX (s:Bytes):F6×Int×Bool:=
 bif ((s.length:Int) !=16)||decide (fg s 12>1) then((0,0,0,0,0),0,false) else((cx s 0,cx s 2,cx s 4,cx s 6,fg s 8),fg s 12,true)
theorem YD (s:Bytes)(h:s.length<=10^9):lz s=some (vX s):=by
 unfold lz vX;cases (s.length:Int) !=16;case true=>rfl
 simp only[yf s _ h,BN s _ h,ab,ae,cL];grind
theorem ZC (s:Bytes)(h:s.length<=10^9):lD s=some (vX s):=by
 unfold lD vX;cases (s.length:Int) !=16;case true=>rfl
 simp only[sH s _ h,BS s _ h,ab,ae,cL];grind
def DY (q:Nw):Int:=bif decide (q.2.2<q.2.1) then 1 else 0
theorem RP (q:Nw):wK q=some (DY q):=by grind[wK,DY]
theorem my {q:Nw}(h:hZ q=true):0<=q.1/\q.1<=130944/\(q.2.1=2\/q.2.1=4\/q.2.1=8\/q.2.1=16)/\0<=q.2.2/\q.2.2<=2*q.2.1-1:=by grind[hZ,bO,Ii,mQ]
theorem Sx (q:Nw)(h:hZ q=true):ur q=some (DY q):=by
 obtain⟨_,_,h3,h4,h5⟩:=my h;have e:Int.tdiv q.2.2 q.2.1=if q.2.2<q.2.1 then 0 else 1:=by grind
 unfold ur DY;rw[mI,e];by_cases hq:q.2.2<q.2.1;rw[aG hq,ax hq];rfl;rw[aF hq,ar hq];rfl
def mA (q:Nw):Int:=q.1+tmod q.2.2 q.2.1*16
theorem NO {q:Nw}(h:hZ q=true):0<=tmod q.2.2 q.2.1/\tmod q.2.2 q.2.1<16:=by obtain⟨_,_,h3,h4,h5⟩:=my h;grind
theorem RT (q:Nw)(h:hZ q=true):nK q=some (mA q):=by obtain⟨h1,h2,h3,h4,h5⟩:=my h;grind[nK,mA,aj]
def ajH (q:Nw):Nw:=(q.1,q.2.1,tmod (q.2.2+1) (2*q.2.1))
def TY (l:aq aA)(m:bt)(d:Int)(q:Nw):Bool:=
 hZ q&&((qJ l m d (mA q) 16).2&&((vX (qJ l m d (mA q) 16).1).2.2&&((vX (qJ l m d (mA q) 16).1).2.1==DY q)))
def ua (l:aq aA)(m:bt)(d:Int)(q:Nw):F6×Nw×Bool:=
 bif TY l m d q then((vX (qJ l m d (mA q) 16).1).1,ajH q,true) else((0,0,0,0,0),q,false)
theorem aeM (l:aq aA)(m:bt)(d:Int)(q:Nw)(hl:l.length<=10^9)(hm:m.length<=10^9):ni l m d q=some (ua l m d q):=by unfold ni ua TY;rw[LF q,ab];cases hq:hZ q;rfl;obtain⟨h1,h2,h3,h4,h5⟩:=my hq;have hs:=NO hq;have hd:=GW l m d (mA q) 16;simp only[ai,ae,RT q hq,ab,Dj l m d (mA q) 16 hl hm (by unfold mA;omega),bF];cases (qJ l m d (mA q) 16).2;rfl;simp only[ai,ae,YD _ (aE hd (by omega)),ab,bF];cases (vX (qJ l m d (mA q) 16).1).2.2;rfl;simp only[ai,ae,RP,ab,bF,bne];cases (vX (qJ l m d (mA q) 16).1).2.1==DY q;rfl;simp only[ai,ae,af];rw[aj (n:=2*q.2.1) (by omega) (by omega),mI,aj (n:=q.2.2+1) (by omega) (by omega)];rfl
theorem afJ (l:aq aA)(m:bt)(d:Int)(q:Nw)(hl:l.length<=10^9)(hm:m.length<=10^9):ns l m d q=some (ua l m d q):=by
 unfold ns ua TY;rw[Mg q,ab];cases hq:hZ q;rfl;obtain⟨h1,h2,h3,h4,h5⟩:=my hq;have hs:=NO hq;have hd:=GW l m d (mA q) 16;have es:ak (q.1+ak (16*tmod q.2.2 q.2.1))=mA q:=by grind[aj,mA]
 simp only[ai,ae];rw[mI,es];simp only[DL l m d (mA q) 16 hl hm (by unfold mA;omega),ab,bF,ZC _ (aE hd (by omega)),Sx q hq,bne];cases (qJ l m d (mA q) 16).2;rfl;cases (vX (qJ l m d (mA q) 16).1).2.2;rfl;cases (vX (qJ l m d (mA q) 16).1).2.1==DY q;rfl;simp only[ai,ae,af,ab,bF];rw[aj (n:=2*q.2.1) (by omega) (by omega),mI,aj (n:=q.2.2+1) (by omega) (by omega)];rfl
theorem aae (p:cj)(i:Int):lK p i= -1\/(0<=lK p i/\lK p i<=200000):=by unfold lK;cases hp:gq p;exact .inl rfl;cases hi:dI i 0 (p.2.2.1-1);exact .inl rfl;have h:=DF hp;have h2:=bO.1 hi;have h3:0<=i*p.2.1:=Int.mul_nonneg h2.1 (by omega);have h4:i*p.2.1<=16*512:=Int.mul_le_mul (by omega) (by omega) (by omega) (by omega);grind
def abw (l:aq aA)(m:bt)(d a n:Int):Bool:=(qJ l m d a n).2&&((vL (qJ l m d a n).1).2==0)
theorem agy {n:Int}:abw l m d (-1) n=false:=by unfold abw qJ oA;cases fG l&&(gQ m&&dI n 0 4096);rfl;simp only[af];cases n==0 with|true=>rfl|false=>rfl
def EA (l:aq aA)(m:bt)(d:Int)(s:aq Stream×bh×cj):aq Stream×bh×cj:=
 ((bif abw l m d (lK s.2.2 (ua l m d s.2.1.2.2.1).1.1) (ua l m d s.2.1.2.2.1).1.2.1 then BW s.1 (vL (qJ l m d (lK s.2.2 (ua l m d s.2.1.2.2.1).1.1) (ua l m d s.2.1.2.2.1).1.2.1).1).1 else s.1),
   (s.2.1.1,s.2.1.2.1,(ua l m d s.2.1.2.2.1).2.1,s.2.1.2.2.2),(OF s.2.2 [(ua l m d s.2.1.2.2.1).1.1]).1)
def iM (l:aq aA)(m:bt)(d:Int):Nat->aq Stream×bh×cj->Nat×(aq Stream×bh×cj)
 |0,s=>(0,s)
 |k+1,s=>bif !(ua l m d s.2.1.2.2.1).2.2 then(0,s) else((iM l m d k (EA l m d s)).1+1,(iM l m d k (EA l m d s)).2)
structure GP (n:Nat) (s:List Stream×bh×cj):Prop where
 st:br n (.sl dF) s.1
 pl:s.2.2.2.2.2.length<=n
theorem Vv (p:cj)(l:ew):(OF p l).1.2.2.2.length<=p.2.2.2.length+l.length:=by grind[OF,T5]
theorem Hw {s:aq Stream×bh×cj}{n:Nat}(h:GP n s):GP (n+322) (EA l m d s):=by
 refine⟨?_,?_⟩;unfold EA;cases abw l m d (lK s.2.2 (ua l m d s.2.1.2.2.1).1.1) (ua l m d s.2.1.2.2.1).1.2.1 with|false=>exact h.st.mono|true=>exact S8 h.st
 have:=Vv s.2.2 [(ua l m d s.2.1.2.2.1).1.1];have h2:=h.pl;show(OF s.2.2 [(ua l m d s.2.1.2.2.1).1.1]).1.2.2.2.length<=_;simp only[bf]at this;omega
theorem Ko (K:aq Stream->Int->bh->cj->au R)(l:aq aA)(m:bt)(d:Int)(N:Nat)(hN:N<=1000)(B1:bt)(B2:bh)(B3:cj)(hl:l.length<=10^9)(hm:m.length<=10^9):∀(k i:Nat)(s:aq Stream×bh×cj)(f:Nat),i+k=N->k<f->GP (500000000+322*i) s->
 aI (mj K l d (N:Int) B1 B2 B3 m) f (s.1,(i:Int),s.2.1,s.2.2)=K (iM l m d k s).2.1 ((i+(iM l m d k s).1:Nat):Int) (iM l m d k s).2.2.1 (iM l m d k s).2.2.2
 |k,i,s,0,_,hf,_=>by omega
 |0,i,s,f+1,hi,hf,z=>by rw[aI];simp only[mj];rw[gr,ae];rfl
 |k+1,i,s,f+1,hi,hf,z=>by have lH:br 900000000 (.sl dF) s.1:=z.st.mono;have C3:s.2.2.2.2.2.length<=900000000:=aE z.pl (by omega);rw[aI];simp only[mj];rw[jF];simp only[af,aeM l m d _ hl hm,ab,iM];cases hnx:(ua l m d s.2.1.2.2.1).2.2 with|false=>rfl|true=>have key:=Ko K l m d N hN B1 B2 B3 hl hm k (i+1) (EA l m d s) f (by omega) (by omega) ((Hw z).st.mono|>λa=>⟨a,aE (Hw z).pl (by omega)⟩);rw[show i+1+(iM l m d k (EA l m d s)).1=i+((iM l m d k (EA l m d s)).1+1) by omega]at key;simp only[ai,ae];rw[<-key];unfold EA;generalize ua l m d s.2.1.2.2.1=c;have ha:=aae s.2.2 c.1.1;have hd:=GW l m d (lK s.2.2 c.1.1) c.1.2.1;simp only[Ki _ _ (show s.2.2.2.2.2.length<=10^9 by omega),Dj l m d _ c.1.2.1 hl hm (show lK s.2.2 c.1.1<=9223372036854775807 by omega),ab,H7 _ (aE hd (by omega)),TA _ _ lH,OZ s.2.2 [c.1.1] (show s.2.2.2.2.2.length+1<=10^9 by omega)];rw[aj (n:=(i:Int)+1) (by omega) (by omega),show((i+1:Nat):Int)=(i:Int)+1 by omega];grind[abw]
theorem K0 (K:aq Stream->Int->bh->cj->au R)(l:aq aA)(m:bt)(d:Int)(N:Nat)(hN:N<=1000)(B1:bt)(B2:bh)(B3:cj)(hl:l.length<=10^9)(hm:m.length<=10^9):∀(k i:Nat)(s:aq Stream×bh×cj)(f:Nat),i+k=N->k<f->GP (500000000+322*i) s->
 aI (mF K l d (N:Int) m B1 B2 B3) f (s.1,(i:Int),s.2.1,s.2.2)=K (iM l m d k s).2.1 ((i+(iM l m d k s).1:Nat):Int) (iM l m d k s).2.2.1 (iM l m d k s).2.2.2
 |k,i,s,0,_,hf,_=>by omega
 |0,i,s,f+1,hi,hf,z=>by rw[aI];simp only[mF];rw[gr,ae];rfl
 |k+1,i,s,f+1,hi,hf,z=>by have lH:br 900000000 (.sl dF) s.1:=z.st.mono;have C3:s.2.2.2.2.2.length<=900000000:=aE z.pl (by omega);rw[aI];simp only[mF];rw[jF];simp only[af,afJ l m d _ hl hm,ab,iM];cases hnx:(ua l m d s.2.1.2.2.1).2.2 with|false=>rfl|true=>have key:=K0 K l m d N hN B1 B2 B3 hl hm k (i+1) (EA l m d s) f (by omega) (by omega) ((Hw z).st.mono|>λa=>⟨a,aE (Hw z).pl (by omega)⟩);rw[show i+1+(iM l m d k (EA l m d s)).1=i+((iM l m d k (EA l m d s)).1+1) by omega]at key;simp only[ai,ae];rw[<-key];unfold EA;generalize ua l m d s.2.1.2.2.1=c;have ha:=aae s.2.2 c.1.1;have hd:=GW l m d (lK s.2.2 c.1.1) c.1.2.1;simp only[PN _ _ (show s.2.2.2.2.2.length<=10^9 by omega),DL l m d _ c.1.2.1 hl hm (show lK s.2.2 c.1.1<=9223372036854775807 by omega),ab,Il _ (aE hd (by omega)),Uj _ _ lH,PU s.2.2 [c.1.1] (show s.2.2.2.2.2.length+1<=10^9 by omega)];rw[aj (n:=(i:Int)+1) (by omega) (by omega),show((i+1:Nat):Int)=(i:Int)+1 by omega];rcases ha with ha|ha;rw[ha,agy];rfl;rw[ax (show lK s.2.2 c.1.1>=0 by omega)];unfold abw;cases (qJ l m d (lK s.2.2 c.1.1) c.1.2.1).2<;>cases (vL (qJ l m d (lK s.2.2 c.1.1) c.1.2.1).1).2==0<;>rfl
theorem KI {l:aq aA}{m:bt}{d:Int}:∀(k:Nat){s:aq Stream×bh×cj}{n:Nat},GP n s->GP (n+322*k) (iM l m d k s).2
 |0,s,n,h=>h
 |k+1,s,n,h=>by rw[iM];cases (ua l m d s.2.1.2.2.1).2.2 with|false=>exact⟨h.st.mono,aE h.pl (by omega)⟩|true=>have:=KI (l:=l) (m:=m) (d:=d) k (Hw (l:=l) (m:=m) (d:=d) h);grind
def kL (l:aq aA)(m:bt)(d:Int)(rx:bh)(pl:cj)(st:aq Stream)(n:Int):bt×bh×cj×aq Stream×Int:=
 bif !PE rx||(!gq pl|| !dI n 0 1000) then(m,rx,pl,st,0) else
 ((B6 l m d (iM l m d n.toNat (st,rx,pl)).2.2.1.1 (iM l m d n.toNat (st,rx,pl)).2.2.2).1,
   ((B6 l m d (iM l m d n.toNat (st,rx,pl)).2.2.1.1 (iM l m d n.toNat (st,rx,pl)).2.2.2).2.1,(iM l m d n.toNat (st,rx,pl)).2.2.1.2),
   (B6 l m d (iM l m d n.toNat (st,rx,pl)).2.2.1.1 (iM l m d n.toNat (st,rx,pl)).2.2.2).2.2.1,(iM l m d n.toNat (st,rx,pl)).2.1,((iM l m d n.toNat (st,rx,pl)).1:Int))
theorem VX (l:aq aA)(m:bt)(d:Int)(rx:bh)(pl:cj)(st:aq Stream)(n:Int)(hl:l.length<=10^9)(hm:m.length<=10^9)(hp:pl.2.2.2.length<=500000000)(hs:br 500000000 (.sl dF) st):wz l m d rx pl st n=some (kL l m d rx pl st n):=by
 have xS:=cR;have hsl:st.length<=500000000:=hs.1;unfold wz kL;simp only[fT m (show m.length<=1073741824 by omega),vw pl (show pl.2.2.2.length<=10^9 by omega),AB st,TI,wh pl (show pl.2.2.2.length<=10^9 by omega),dh,ab];cases PE rx;rfl;cases gq pl;rfl;cases hn:dI n 0 1000;rfl;have h:=bO.1 hn;obtain⟨n,rfl⟩:=aJ h.1;simp only[ai,ae,ab,bM,ay];have z:GP (500000000+322*0) (st,rx,pl):=⟨hs,hp⟩
 have hz:=KI (l:=l) (m:=m) (d:=d) n z;refine(Ko _ l m d n (by omega) _ _ _ hl hm n 0 (st,rx,pl) fuel (by omega) (by omega) z).trans ?_;rw[cm];simp only[VU l m d _ _ hl hm (show(iM l m d n (st,rx,pl)).2.2.2.2.2.2.length<=10^9 from aE hz.pl (by omega)),ab]
theorem W0 (l:aq aA)(m:bt)(d:Int)(rx:bh)(pl:cj)(st:aq Stream)(n:Int)(hl:l.length<=10^9)(hm:m.length<=10^9)(hp:pl.2.2.2.length<=500000000)(hs:br 500000000 (.sl dF) st):oc l m d rx pl st n=some (kL l m d rx pl st n):=by
 have xS:=cR;have hsl:st.length<=500000000:=hs.1;unfold oc kL;rw[gm (by omega)];simp only[bU,yi pl (show pl.2.2.2.length<=10^9 by omega),hY m (show m.length<=1073741824 by omega),Uq,ug pl (show pl.2.2.2.length<=10^9 by omega),cO,ab];cases PE rx;rfl;cases gq pl;rfl;cases hn:dI n 0 1000;rfl;have h:=bO.1 hn;obtain⟨n,rfl⟩:=aJ h.1;simp only[ai,ae,ab,bM,ay];have z:GP (500000000+322*0) (st,rx,pl):=⟨hs,hp⟩
 have hz:=KI (l:=l) (m:=m) (d:=d) n z;refine(K0 _ l m d n (by omega) _ _ _ hl hm n 0 (st,rx,pl) fuel (by omega) (by omega) z).trans ?_;rw[cm];simp only[WU l m d _ _ hl hm (show(iM l m d n (st,rx,pl)).2.2.2.2.2.2.length<=10^9 from aE hz.pl (by omega)),ab]
def jJ (i:Nat):Int:=1280+(i:Int)*1792
theorem aaa {i:Nat}(h:i<=8):ak (1280+ak ((i:Int)*1792))=jJ i:=by rw[aj (n:=(i:Int)*1792) (by omega) (by omega),aj (by omega) (by omega)];rfl
theorem VQ (i:Nat)(h:i<=8):ra (i:Int)=some (jJ i):=by rw[ra,aaa h]
theorem xk (a b n:Int)(h:n<=1000:=by omega):(ln a b n).1.2.2.2.length<=1000:=by grind[ln,upto]
def PF (i:Nat):bh:=((jJ i,4,0,0),(jJ i+64,4,0),(jJ i+64,4,0),((0,0,0,0,0,0,0,0,0,0,0,0,0,0,0,([]:Bytes)),0,0),false,0)
theorem abT (i:Nat)(h:i<=8):yh (i:Int)=some (PF i,(ln (jJ i+128) 384 4).1):=by have hb:jJ i=1280+(i:Int)*1792:=rfl;simp only[yh,VQ i h,ab];rw[aj (n:=jJ i+128) (by omega) (by omega),aj (n:=jJ i+64) (by omega) (by omega),MD];rfl
def M6:bA:=((0,16,0,0),(ln 256 128 8).1,([]:aq gH),0)
theorem ab4:Fe=some M6:=by rw[Fe,MD];rfl
theorem adg:zJ=some M6:=by rw[zJ,MU];rfl
def Gx (l:aq aA)(m:bt)(i:Nat):bt×kW×cj×Int:=
 B6 l (mP l m 0 (jJ i) (EL 128) false).1 0 (jJ i,4,0,0) (ln (jJ i+128) 384 4).1
def Sc (h:Host)(i:Nat):Host:=
 ((Gx h.2.1 h.1 i).1,h.2.1,h.2.2.1,h.2.2.2.1.set i ((Gx h.2.1 h.1 i).2.1,(jJ i+64,4,0),(jJ i+64,4,0),((0,0,0,0,0,0,0,0,0,0,0,0,0,0,0,([]:Bytes)),0,0),false,(match h.2.2.2.1[i]? with|some x=>x.2.2.2.2.2|none=>0)),h.2.2.2.2.1.set i (Gx h.2.1 h.1 i).2.2.1,h.2.2.2.2.2)
theorem WY (h:Host)(i:Nat)(hi:i<=8)(h1:i<h.2.2.2.1.length)(h2:i<h.2.2.2.2.1.length)(hl:h.2.1.length<=10^9)(hm:h.1.length<=10^9):xM h (i:Int)=some ((),Sc h i):=by have hb:jJ i=1280+(i:Int)*1792:=rfl;have hz:sX 128 0=some (EL 128):=WX 128;have hf:=WU h.2.1 (mP h.2.1 h.1 0 (jJ i) (EL 128) false).1 0 (jJ i,4,0,0) (ln (jJ i+128) 384 4).1 hl (by rw[mx];exact hm) (aE (xk (jJ i+128) 384 4) (by omega));unfold xM;simp only[aaa hi];rw[aj (n:=jJ i+128) (by omega) (by omega),aj (n:=jJ i+64) (by omega) (by omega),MU,hz];simp only[aX h1,aX h2,ab,I5 h.2.1 h.1 0 (jJ i) (EL 128) hl hm (by omega),hf,ay,Sc,Gx,al h1]
def FB (h:Host)(i:Nat)(n:Int):Int×Host:=
 match h.2.2.2.1[i]?,h.2.2.2.2.1[i]? with
 |some rx,some pl=>
  ((kL h.2.1 h.1 0 rx pl h.2.2.2.2.2.2.2.2.2.1 n).2.2.2.2,(kL h.2.1 h.1 0 rx pl h.2.2.2.2.2.2.2.2.2.1 n).1,h.2.1,h.2.2.1,h.2.2.2.1.set i (kL h.2.1 h.1 0 rx pl h.2.2.2.2.2.2.2.2.2.1 n).2.1,h.2.2.2.2.1.set i (kL h.2.1 h.1 0 rx pl h.2.2.2.2.2.2.2.2.2.1 n).2.2.1,h.2.2.2.2.2.1,h.2.2.2.2.2.2.1,h.2.2.2.2.2.2.2.1,h.2.2.2.2.2.2.2.2.1,(kL h.2.1 h.1 0 rx pl h.2.2.2.2.2.2.2.2.2.1 n).2.2.2.1,h.2.2.2.2.2.2.2.2.2.2)
 |_,_=>(0,h)
theorem TG (h:Host)(i:Nat)(n:Int)(h1:i<h.2.2.2.1.length)(h2:i<h.2.2.2.2.1.length)(z:br 500000000 cI h):kK h (i:Int) n=some (FB h i n):=by have hl:h.2.1.length<=500000000:=z.2.1.1;have hm:h.1.length<=500000000:=z.1.1;have hp:h.2.2.2.2.1[i].2.2.2.length<=500000000:=(z.2.2.2.2.1.2 _ (bc h2)).2.2.2.1;unfold kK;simp only[aX h1,aX h2,ab,VX h.2.1 h.1 0 _ _ _ n (show h.2.1.length<=10^9 by omega) (show h.1.length<=10^9 by omega) hp z.2.2.2.2.2.2.2.2.2.1,ay,FB,al h1,al h2]
theorem px {n:Nat}{t:CT}{l:aq t.D}{i:Nat}{x:t.D}(z:br n (.sl t) l)(hx:br n t x):br n (.sl t) (l.set i x):=by refine⟨?_,λy hy=>?_⟩;show(l.set i x).length<=n;rw[aH];exact z.1;rcases List.mem_or_eq_of_mem_set hy with h|h;exact z.2 y h;rw[h];exact hx
theorem acH {n:Nat}(hn:128<=n)(h:Fz m):br n (.sl .str) m:=⟨aE h.2 (by omega),λx hx=>aE (fD (h.1 x hx)) hn⟩
theorem Xu {n:Nat}(hn:128<=n)(z:br n (.sl .str) m)(a:Int)(s:Bytes):br n (.sl .str) (xR m a s).1:=by grind[xR,gG,acH,F5,Ic]
theorem Ww {n:Nat}(hn:128<=n):∀(q:aq (Int×Int)){m:bt}(s:Bytes),br n (.sl .str) m->br n (.sl .str) (T6 q m s)
 |[],m,s,z=>z
 |p::q,m,s,z=>Ww hn q _ (Xu hn z _ _)
theorem Hx {n:Nat}(hn:128<=n)(z:br n (.sl .str) m)(l:aq aA)(d a:Int)(s:Bytes)(w:Bool):br n (.sl .str) (mP l m d a s w).1:=by grind[mP,Ww]
theorem KK {n:Nat}(hn:128<=n)(z:br n (.sl .str) m)(l:aq aA)(d:Int)(r:kW)(s:Bytes):br n (.sl .str) (dA l m d r s).1:=by grind[dA,Hx]
theorem Rs {n:Nat}(hn:128<=n)(l:aq aA)(d:Int)(p:cj):∀(q:ew){m:bt}(r:kW),br n (.sl .str) m->br n (.sl .str) (qR l d p q m r).2.1
 |[],m,r,z=>z
 |b::q,m,r,z=>by rw[qR];cases (dA l m d r (fX p b)).2.2 with|false=>exact z|true=>exact Rs hn l d p q _ (KK hn z ..)
theorem Rt {n:Nat}(hn:128<=n)(z:br n (.sl .str) m)(l:aq aA)(d:Int)(r:kW)(p:cj):br n (.sl .str) (B6 l m d r p).1:=by unfold B6;cases !fI r|| !gq p with|true=>exact z|false=>exact Rs hn _ _ _ _ _ z
theorem aan (l:aq aA)(m:bt)(d:Int)(r:kW)(p:cj):(B6 l m d r p).1.length=m.length:=by grind[B6,Lw]
theorem Ou (l:aq aA)(m:bt)(d:Int)(r:kW)(p:cj):(B6 l m d r p).2.2.1.2.2.2.length<=p.2.2.2.length:=by grind[B6]
theorem Wr (l:aq aA)(m:bt)(d:Int):∀(k:Nat)(s:aq Stream×bh×cj),(iM l m d k s).2.2.1.2.2.2=s.2.1.2.2.2/\(iM l m d k s).1<=k
 |0,s=>⟨rfl,aR _⟩
 |k+1,s=>by rw[iM];cases (ua l m d s.2.1.2.2.1).2.2 with|false=>grind|true=>have:=Wr l m d k (EA l m d s);simp only[ai,ae];exact⟨this.1,by omega⟩
theorem Sg {n:Nat}(hn:128<=n){rx:bh}{pl:cj}{st:aq Stream}(c:Int)(zm:br n (.sl .str) m)(zr:br n cX rx)(zp:br n fY pl)(zs:br n (.sl dF) st): br n (.sl .str) (kL l m d rx pl st c).1/\br n cX (kL l m d rx pl st c).2.1/\br (n+322000) fY (kL l m d rx pl st c).2.2.1/\br (n+322000) (.sl dF) (kL l m d rx pl st c).2.2.2.1/\0<=(kL l m d rx pl st c).2.2.2.2/\(kL l m d rx pl st c).2.2.2.2<=1000:=by
 unfold kL;cases hc: !PE rx||(!gq pl|| !dI c 0 1000)with
 |true=>exact⟨zm,zr,zp.mono,zs.mono,Int.le_refl _,by show(0:Int)<=1000;omega⟩
 |false=>
  have hi:dI c 0 1000=true:=by cases h:dI c 0 1000 with|true=>rfl|false=>rw[h]at hc;simp at hc
  have h:=bO.1 hi;have z:=KI (l:=l) (m:=m) (d:=d) c.toNat (s:=(st,rx,pl)) (n:=n) ⟨zs,zp.2.2.2.1⟩;have hx:=Wr l m d c.toNat (st,rx,pl);refine⟨Rt hn zm ..,⟨?_,?_,?_,?_⟩,⟨bN,bN,bN,?_,λ_ _=>trivial⟩,z.st.mono,by show(0:Int)<=((iM l m d c.toNat (st,rx,pl)).1:Int);omega,by show((iM l m d c.toNat (st,rx,pl)).1:Int)<=1000;omega⟩;exact⟨bN,bN,bN,bN⟩;exact⟨bN,bN,bN⟩;exact⟨bN,bN,bN⟩;have e:=congrArg (λq=>br n cX (rx.1,rx.2.1,rx.2.2.1,q)) hx.1;exact(e.mpr zr).2.2.2;have:=Ou l m d (iM l m d c.toNat (st,rx,pl)).2.2.1.1 (iM l m d c.toNat (st,rx,pl)).2.2.2;have h2:=z.pl;show(B6 l m d (iM l m d c.toNat (st,rx,pl)).2.2.1.1 (iM l m d c.toNat (st,rx,pl)).2.2.2).2.2.1.2.2.2.length<=_;omega
theorem Zn {n:Nat}(hn:128<=n)(i:Nat)(c:Int)(z:br n cI h):br (n+322000) cI (FB h i c).2:=by unfold FB;rcases h1:h.2.2.2.1[i]? with _|rx;exact z.mono;rcases h2:h.2.2.2.2.1[i]? with _|pl;exact z.mono;have zr:=z.2.2.2.1.2 _ (cU h1);have zp:=z.2.2.2.2.1.2 _ (cU h2);have hp:=Sg hn (l:=h.2.1) (d:=0) c z.1 zr zp z.2.2.2.2.2.2.2.2.2.1;have z':br (n+322000) cI h:=z.mono;exact⟨hp.1.mono,z'.2.1,z'.2.2.1,px z'.2.2.2.1 (hp.2.1.mono),px z'.2.2.2.2.1 hp.2.2.1,z'.2.2.2.2.2.1,z'.2.2.2.2.2.2.1,z'.2.2.2.2.2.2.2.1,z'.2.2.2.2.2.2.2.2.1,hp.2.2.2.1,z'.2.2.2.2.2.2.2.2.2.2⟩
def bK (l:aq aA)(m:bt)(d:Int)(r:kW):Bytes×kW×Bool:=
 bif !fI r||(da r==0) then([],r,false) else
 bif !(qJ l m d (AX r r.2.2.1) 16).2 then([],r,false) else
 ((qJ l m d (AX r r.2.2.1) 16).1,(r.1,r.2.1,tmod (r.2.2.1+1) (2*r.2.1),r.2.2.2),true)
theorem K4 (l:aq aA)(m:bt)(d:Int)(r:kW)(hl:l.length<=10^9)(hm:m.length<=10^9):um l m d r=some (bK l m d r):=by have hA:=EH r r.2.2.1;unfold um bK;simp only[Ai,CU,ab,Sz,DL l m d _ 16 hl hm (show AX r r.2.2.1<=9223372036854775807 by omega)];cases hb:fI r;rfl;have h:=qy hb;grind[ab,aj]
theorem Ku (l:aq aA)(m:bt)(d:Int)(r:kW)(hl:l.length<=10^9)(hm:m.length<=10^9):tM l m d r=some (bK l m d r):=by have hA:=EH r r.2.2.1;unfold tM bK;simp only[zP,Cd,ab,RS,Dj l m d _ 16 hl hm (show AX r r.2.2.1<=9223372036854775807 by omega)];cases hb:fI r;rfl;have h:=qy hb;grind[ab,aj]
theorem zK (l:aq aA)(m:bt)(d:Int)(r:kW):(bK l m d r).1.length<=100000000:=by grind[bK,GW]
theorem CY (h:(bK l m d r).2.2=true): fI (bK l m d r).2.1=true/\da (bK l m d r).2.1=da r-1/\(bK l m d r).2.1.1=r.1/\(bK l m d r).2.1.2.1=r.2.1/\(bK l m d r).2.1.2.2.2=r.2.2.2:=by
 unfold bK at h⊢;cases hb:fI r with|false=>grind|true=>?_
 cases hu:da r==0 with|true=>grind|false=>?_
 cases hd:(qJ l m d (AX r r.2.2.1) 16).2 with|false=>grind|true=>?_
 grind[qy,fI,da,bO]
theorem mz (h:fI r=true):0<=da r/\da r<=16:=by have hr:=qy h;grind[fI,da]
def Gc:Ea:=(0,0,0,0,0,0)
def GV (s:Bytes):Ea:=((bI s 0:Int),(bI s 1:Int),cx s 2,fg s 4,cx s 8,cx s 10)
def eE (s:Bytes):Ea×Bool:=
 bif ((s.length:Int) !=16) then(Gc,false) else bif !(AZ (GV s)==s) then(Gc,false) else(GV s,true)
theorem WS (s:Bytes)(h:s.length<=10^9):pB s=some (eE s):=by
 unfold pB eE;cases hn:(s.length:Int) !=16;case true=>rfl
 have hl:s.length=16:=by grind
 have b0:=ky (s[0]'(by omega));have b1:=ky (s[1]'(by omega));have i0:idx s 0=some (s[0]'(by omega)):=aX (i:=0) (by omega);have i1:idx s 1=some (s[1]'(by omega)):=aX (i:=1) (by omega);have e:(((s[0]'(by omega)).toNat:Int),((s[1]'(by omega)).toNat:Int),cx s 2,fg s 4,cx s 8,cx s 10)=GV s:=by grind[GV,bI]
 simp only[ae,i0,i1,ab,sH s _ h,BS s _ h];rw[fQ (n:=(s[0]'(by omega)).toNat) (by omega),fQ (n:=(s[1]'(by omega)).toNat) (by omega),e,Uk,ab];cases AZ (GV s)==s<;>rfl
theorem VR (s:Bytes)(h:s.length<=10^9):pj s=some (eE s):=by
 unfold pj eE;cases hn:(s.length:Int) !=16;case true=>rfl
 have hl:s.length=16:=by grind
 have b0:=ky (s[0]'(by omega));have b1:=ky (s[1]'(by omega));have i0:idx s 0=some (s[0]'(by omega)):=aX (i:=0) (by omega);have i1:idx s 1=some (s[1]'(by omega)):=aX (i:=1) (by omega);have e:(((s[0]'(by omega)).toNat:Int),((s[1]'(by omega)).toNat:Int),cx s 2,fg s 4,cx s 8,cx s 10)=GV s:=by grind[GV,bI]
 simp only[ae,i0,i1,ab,yf s _ h,BN s _ h];rw[fQ (n:=(s[0]'(by omega)).toNat) (by omega),fQ (n:=(s[1]'(by omega)).toNat) (by omega),e,TB,ab];cases AZ (GV s)==s<;>rfl
theorem Of (h:(eE s).2=true):qQ (eE s).1=true:=by grind[eE,AZ]
def S9 (x:Ea):Bool:=bif x.1==1 then(ak (BitVec.toNat (fR x.2.1&&&fR 1))) !=0 else false
def Av (l:aq aA)(m:bt)(d:Int):Nat->aq Ea->kW->aq Ea×kW×Bool
 |0,acc,r=>(acc,r,true)
 |n+1,acc,r=>
  bif !(bK l m d r).2.2|| !(eE (bK l m d r).1).2 then([],(r.1,r.2.1,r.2.2.2,r.2.2.2),false) else
  bif S9 (eE (bK l m d r).1).1 then(acc++[(eE (bK l m d r).1).1],(bK l m d r).2.1,true) else
  Av l m d n (acc++[(eE (bK l m d r).1).1]) (bK l m d r).2.1
def eJ (l:aq aA)(m:bt)(d:Int)(r:kW):aq Ea×kW×Bool:=
 bif !fI r||(da r==0) then([],r,false) else Av l m d (da r).toNat [] r
theorem IS (k0:aq Ea->kW->au R)(k1:aq Ea->Bool->aq Ea->kW->kW->au R)(K:aq Ea×kW×Bool->au R)
 (h0:∀a r,k0 a r=K (a,r,true)) (l:aq aA) (m:bt) (d:Int) (B E:kW) (h1:∀a r,k1 [] false a r E=K ([],E,false)) (hl:l.length<=10^9) (hm:m.length<=10^9):∀(n:Nat)(acc:aq Ea)(r:kW)(f:Nat),
 n<f->fI r=true->(da r).toNat=n->acc.length+n<=1000->E=(r.1,r.2.1,r.2.2.2,r.2.2.2)->aI (ml k0 k1 l d ([]:aq Ea) false m B E) f (acc,r)=K (Av l m d n acc r)
 |n,acc,r,0,hf,_,_,_,_=>by omega
 |0,acc,r,f+1,hf,hb,hu,ha,hE=>by rw[aI];simp only[ml,Cd,ab];rw[gr,ae,h0];rfl
 |n+1,acc,r,f+1,hf,hb,hu,ha,hE=>by
  have hlen:=zK l m d r;have hk:=CY (l:=l) (m:=m) (d:=d) (r:=r);rw[aI];simp only[ml,Cd,ab];rw[jF,af,Ku l m d r hl hm,ab,Av];generalize bK l m d r=t at hlen hk⊢;cases ht:t.2.2 with
  |false=>grind
  |true=>
   have hk:=hk ht;simp only[ai,ae,cL];rw[VR _ (show t.1.length<=10^9 by omega),ab];generalize eE t.1=x;cases x.2 with
   |false=>grind
   |true=>
    simp only[ai,ae];rw[aQ (by rw[bf];omega)];have e:(aa (cond (x.1.1==1) (some ((ak (BitVec.toNat (fR x.1.2.1&&&fR 1))) !=0)) (some false)):(Bool->au R)->au R)=λK=>K (S9 x.1):=by funext K;simp_all[S9]
    rw[e];cases S9 x.1 with|true=>simp only[af,h0]|false=>simp only[ae];exact IS k0 k1 K h0 l m d B E h1 hl hm n _ _ f (by omega) hk.1 (by omega) (by simp;omega) (by grind)
theorem I3 (k0:aq Ea->kW->au R)(k1:aq Ea->Bool->aq Ea->kW->kW->au R)(K:aq Ea×kW×Bool->au R)
 (h0:∀a r,k0 a r=K (a,r,true)) (l:aq aA) (m:bt) (d:Int) (B:kW) (h1:∀a r,k1 [] false a r r=K ([],r,false)) (hl:l.length<=10^9) (hm:m.length<=10^9):∀(n:Nat)(acc:aq Ea)(r:kW)(f:Nat),
 n<f->fI r=true->(da r).toNat=n->acc.length+n<=1000->aI (mH k0 k1 l d ([]:aq Ea) false m B) f (acc,r)=K (Av l m d n acc r)
 |n,acc,r,0,hf,_,_,_=>by omega
 |0,acc,r,f+1,hf,hb,hu,ha=>by rw[aI];simp only[mH,CU,ab];rw[gr,ae,h0];rfl
 |n+1,acc,r,f+1,hf,hb,hu,ha=>by
  have hlen:=zK l m d r;have hk:=CY (l:=l) (m:=m) (d:=d) (r:=r);rw[aI];simp only[mH,CU,ab];rw[jF,af,K4 l m d r hl hm,ab,Av];generalize bK l m d r=t at hlen hk⊢;rw[WS _ (show t.1.length<=10^9 by omega),ab];generalize eE t.1=x;cases ht:t.2.2 with
  |false=>simp_all
  |true=>
   have hk:=hk ht;simp only[ai,ae,ab,cL];cases x.2 with
   |false=>grind
   |true=>
    simp only[ai,ae];rw[aQ (by rw[bf];omega)];have e:(aa (cond (x.1.1==1) (some ((ak (BitVec.toNat (fR x.1.2.1&&&fR 1))) !=0)) (some false)):(Bool->au R)->au R)=λK=>K (S9 x.1):=by funext K;simp_all[S9]
    rw[e];cases S9 x.1 with|true=>simp only[af,h0]|false=>simp only[ae];exact I3 k0 k1 K h0 l m d B h1 hl hm n _ _ f (by omega) hk.1 (by omega) (by simp;omega)
theorem QO (l:aq aA)(m:bt)(d:Int)(r:kW)(hl:l.length<=10^9)(hm:m.length<=10^9):wE l m d r=some (eJ l m d r):=by
 have xS:=cR;unfold wE eJ;simp only[zP,Cd,ab];cases hb:fI r;rfl;cases da r==0;case true=>rfl
 have hu:=mz hb;simp only[ai,ae,ab,bM];exact IS _ _ (λx=>some x) (λ_ _=>rfl) l m d _ _ (λ_ _=>rfl) hl hm _ [] r fuel (by omega) hb rfl (by simp;omega) rfl
theorem Q5 (l:aq aA)(m:bt)(d:Int)(r:kW)(hl:l.length<=10^9)(hm:m.length<=10^9):xH l m d r=some (eJ l m d r):=by
 have xS:=cR;unfold xH eJ;simp only[Ai,CU,ab];cases hb:fI r;rfl;cases da r==0;case true=>rfl
 have hu:=mz hb;simp only[ai,ae,ab,bM];exact I3 _ _ (λx=>some x) (λ_ _=>rfl) l m d _ (λ_ _=>rfl) hl hm _ [] r fuel (by omega) hb rfl (by simp;omega)
def Ae (x:Int×Int):Bool:=decide (x.1<0)|| !dI x.2 0 4096
def lC (l:aq (Int×Int)):Bool:= !l.any Ae&&decide ((l.length:Int)<=16)
theorem Pw (l:aq (Int×Int)):(bif l.any Ae then some false else some (decide ((l.length:Int)<=16)))=some (lC l):=by grind[lC]
theorem O0 (l:aq (Int×Int))(h:l.length<=10^9):yP l=some (lC l):=by
 rw[<-Pw];refine GQ Ae l (by omega) (λi hi nx=>?_) (λnx=>?_);simp only[rZ];rw[jF,af,aX hi,ab,dh,aj (by omega) (by omega)];unfold Ae;cases decide (l[i].1<0)with|true=>rfl|false=>rfl
 simp only[rZ];rw[gr,ae]
theorem PV (l:aq (Int×Int))(h:l.length<=10^9):zD l=some (lC l):=by
 rw[<-Pw];refine GQ Ae l (by omega) (λi hi nx=>?_) (λnx=>?_);simp only[sN];rw[jF,af,aX hi,ab,ab,cO,aj (by omega) (by omega)];unfold Ae;cases decide (l[i].1<0)with|true=>rfl|false=>rfl
 simp only[sN];rw[gr,ae]
theorem Ez {l:aq (Int×Int)}(h:lC l=true):l.length<=16/\∀x∈l,0<=x.1/\0<=x.2/\x.2<=4096:=by grind[lC,Ae,bO]
def dsc (n:Nat)(c:Int)(i:Nat)(x:Int×Int):Ea:=(1,(if i+1=n then 1 else 0),x.2,x.1,0,c)
def tD (ps:aq (Int×Int))(c:Int):Nat->aq Ea
 |0=>[]
 |i+1=>tD ps c i++[dsc ps.length c i (ps.getD i (0,0))]
theorem BK (ps:aq (Int×Int))(c:Int):∀i,(tD ps c i).length=i
 |0=>rfl
 |i+1=>by rw[tD,aw,BK ps c i];rfl
theorem HU (ps:aq (Int×Int))(c:Int)(q:Ea->Bool):∀i,(tD ps c i).all q=(List.range i).all (λj=>q (dsc ps.length c j (ps.getD j (0,0))))
 |0=>rfl
 |i+1=>by rw[tD,List.all_append,HU ps c q i,List.range_succ,List.all_append];rfl
def ou (ps:aq (Int×Int))(z c:Int):aq Ea:=
 bif ((ps.length:Int)==0)||(!lC ps|| !dI z 1 128) then [] else
 bif ([(2,0,0,0,z,c)]++tD ps c ps.length).all qQ then [(2,0,0,0,z,c)]++tD ps c ps.length else []
theorem E5 (ps:aq (Int×Int))(z c:Int)(h:ps.length<=10^9:=by omega):∃b,iG ps z c=some (b,ou ps z c)/\(b=false->ou ps z c=[]):=by
 unfold iG ou;rw[O0 ps h,dh];cases ((ps.length:Int)==0);case true=>exact⟨false,rfl,λ_=>rfl⟩
 cases lC ps;exact⟨false,rfl,λ_=>rfl⟩;cases dI z 1 128;exact⟨false,rfl,λ_=>rfl⟩;refine⟨([(2,0,0,0,z,c)]++tD ps c ps.length).all qQ,?_,λhb=>by rw[hb];rfl⟩;refine cC (λi=>(([(2,0,0,0,z,c)]++tD ps c i,(i:Int)))) ps.length (by omega) (λi nx hi=>?_) (λnx=>?_);have hl:=BK ps c i;simp only[kB];rw[jF,af,aX hi,ab,aj (by omega) (by omega),aj (by omega) (by omega)];have e:[(2,0,0,0,z,c)]++tD ps c (i+1)=([(2,0,0,0,z,c)]++tD ps c i)++[dsc ps.length c i ps[i]]:=by rw[tD,fM hi,aN]
 rw[e];unfold dsc;by_cases hc:i+1=ps.length;rw[show((i:Int)==(ps.length)-1)=true from by rw[bD];omega,aG hc];rw[aQ (by simp only[aw,bf];omega)];rfl;rw[show((i:Int)==(ps.length)-1)=false from by rw[cG];omega,aF hc];simp only[ae];rw[aQ (by simp only[aw,bf];omega)];rfl;simp only[kB];rw[gr,ae];have hl:=BK ps c ps.length;generalize hq:[(2,0,0,0,z,c)]++tD ps c ps.length=q;have hn:q.length<=1000000001:=by rw[<-hq];simp only[aw,bf];omega
 rw[rN (fin:=some (true,q)) qQ q (by omega) (λi hi nx=>?_) (λnx=>?_)];cases q.all qQ<;>rfl;simp only[jM];rw[jF,af,aX hi,ab,VS,ab,aj (by omega) (by omega)];rfl;simp only[jM];rw[gr,ae]
theorem KW (ps:aq (Int×Int))(z c:Int)(h:ps.length<=10^9):kq ps z c=some (ou ps z c):=by
 unfold kq ou;rw[PV ps h,cO];cases ((ps.length:Int)==0);case true=>rfl
 cases lC ps;rfl;cases dI z 1 128;rfl;have i0:idx [((2,0,0,0,z,c):Ea)] 0=some (2,0,0,0,z,c):=rfl;simp only[ai,ae,ab,bM,i0,KV,List.all_append,bQ,List.all_nil,ig];cases qQ (2,0,0,0,z,c);rfl;rw[HU];refine(Lp (fin:=some ([(2,0,0,0,z,c)]++tD ps c ps.length)) (hit:=some []) (λi=>(([(2,0,0,0,z,c)]++tD ps c i,(i:Int)))) (λj=>qQ (dsc ps.length c j (ps.getD j (0,0)))) ps.length (by omega) (λi nx hi _=>?_) (λ_ nx=>?_)).trans ?_;have hl:=BK ps c i;simp only[kG];rw[jF,af,aX hi,ab,ab,aj (by omega) (by omega),aj (by omega) (by omega)];have e:[(2,0,0,0,z,c)]++tD ps c (i+1)=([(2,0,0,0,z,c)]++tD ps c i)++[dsc ps.length c i ps[i]]:=by rw[tD,fM hi,aN]
 rw[e,fM hi];unfold dsc;by_cases hc:i+1=ps.length;rw[show((i:Int)==(ps.length)-1)=true from by rw[bD];omega,aG hc];simp only[af,KV,ab];rw[aQ (by simp only[aw,bf];omega)];rfl;rw[show((i:Int)==(ps.length)-1)=false from by rw[cG];omega,aF hc];simp only[ae,KV,ab];rw[aQ (by simp only[aw,bf];omega)];rfl;simp only[kG];rw[gr,ae];cases (List.range ps.length).all (λj=>qQ (dsc ps.length c j (ps.getD j (0,0))))<;>rfl
def HB (x y:Ea):Bool:=(x.1==y.1)&&((x.2.1==y.2.1)&&((x.2.2.1==y.2.2.1)&&((x.2.2.2.1==y.2.2.2.1)&&((x.2.2.2.2.1==y.2.2.2.2.1)&&((x.2.2.2.2.2==y.2.2.2.2.2)&&true)))))
def FF (a b:aq Ea):Bool:=((a.length:Int)==(b.length:Int))&&(List.range a.length).all λi=>HB (a.getD i Gc) (b.getD i Gc)
theorem ac3 (a b:aq Ea)(ha:a.length<=10^9):BE a b=some (FF a b):=by
 unfold BE FF;cases hl:((a.length:Int)==(b.length))with
 |false=>simp only[bne,hl,cf,af,gO]
 |true=>
  have hn:a.length=b.length:=by have:=ik hl;omega
  simp only[bne,hl,ai,ae,bF];rw[pL (λi=>HB (a.getD i Gc) (b.getD i Gc)) a.length (by omega) (λi nx hi=>?_) (λnx=>?_)];cases (List.range a.length).all (λi=>HB (a.getD i Gc) (b.getD i Gc))<;>rfl;have hi2:i<b.length:=by omega
  simp only[vi];rw[jF,af,aX hi,aX hi2,ab,ab,aj (by omega) (by omega),fM hi,fM hi2];rfl;simp only[vi];rw[gr,ae]
def gJ (l:aq Ea):aq (Int×Int):=(l.drop 1).map λx=>(x.2.2.2.1,x.2.2.1)
def ja (l:aq Ea):aq (Int×Int)×Int×Int×Bool:=
 match l with
 |h::x::r=>bif FF (ou (gJ l) h.2.2.2.2.1 h.2.2.2.2.2) l then(gJ l,h.2.2.2.2.1,h.2.2.2.2.2,true) else([],0,0,false)
 |_=>([],0,0,false)
theorem Rk (ps:aq (Int×Int))(z c:Int):(ou ps z c).length<=ps.length+1:=by
 unfold ou;cases ((ps.length:Int)==0)||(!lC ps|| !dI z 1 128);case true=>simp
 cases ([(2,0,0,0,z,c)]++tD ps c ps.length).all qQ with|false=>simp|true=>simp only[ae,af,aw,bf,BK];omega
theorem Uo (l:aq Ea)(hl:l.length<=10^9):oV l=some (ja l):=by
 unfold oV;match l,hl with
 |[],_=>
  obtain⟨g,hg⟩:∃g,fuel=g+1:=⟨fuel-1,by have:=cR;omega⟩
  rw[hg,aI];rfl
 |h::q,hl=>
  simp only[bC]at hl;refine cC (λi=>(((q.take i).map (λx=>(x.2.2.2.1,x.2.2.1)),((i+1:Nat):Int)))) q.length (by omega) (λi nx hi=>?_) (λnx=>?_);have hi2:i+1<(h::q).length:=by simp;omega
  have e2:(h::q)[i+1]=q[i]:=rfl;simp only[lF];rw[jF,af,aX hi2,ab,ab,aQ (by simp only[cr,bm,bf];omega),aj (by omega) (by omega),e2,bg hi,List.map_append];rfl;have i0:idx (h::q) 0=some h:=rfl;simp only[lF];rw[ar (by simp only[bC];omega),ae,cD];have hp:q.map (λx=>(x.2.2.2.1,x.2.2.1))=gJ (h::q):=rfl;have C3:(gJ (h::q)).length=q.length:=by rw[<-hp,cr]
  rw[hp];have hdl:=Rk (gJ (h::q)) h.2.2.2.2.1 h.2.2.2.2.2;simp only[i0,ab,KW (gJ (h::q)) _ _ (show(gJ (h::q)).length<=10^9 by omega),ac3 _ (h::q) (show(ou (gJ (h::q)) h.2.2.2.2.1 h.2.2.2.2.2).length<=10^9 by omega)];cases q with|nil=>rfl|cons x r=>simp only[ae,ab,ja];cases FF (ou (gJ (h::x::r)) h.2.2.2.2.1 h.2.2.2.2.2) (h::x::r)<;>rfl
theorem TF (l:aq Ea)(hl:l.length<=10^9):oG l=some (ja l):=by
 unfold oG;match l,hl with
 |[],_=>rfl
 |[h],_=>rfl
 |h::y::r,hl=>
  generalize hq:y::r=q;have Yx:1<=q.length:=by rw[<-hq];simp
  have hlen:q.length+1<=10^9:=by rw[<-hq];simpa using hl
  have i0:idx (h::q) 0=some h:=rfl;have s0:sub (h::q) 1 (((h::q).length))=some q:=tc 1 (by simp) rfl;rw[ar (by simp only[bC];omega),ae,s0,ab];refine cC (λi=>(((q.take i).map (λx=>(x.2.2.2.1,x.2.2.1)),(i:Int)))) q.length (by omega) (λi nx hi=>?_) (λnx=>?_);simp only[lB];rw[jF,af,aX hi,ab,aQ (by simp only[cr,bm,bf];omega),aj (by omega) (by omega),bg hi,List.map_append];rfl;simp only[lB];rw[gr,ae,cD];have hp:q.map (λx=>(x.2.2.2.1,x.2.2.1))=gJ (h::q):=rfl;have C3:(gJ (h::q)).length=q.length:=by rw[<-hp,cr]
  rw[hp];have hdl:=Rk (gJ (h::q)) h.2.2.2.2.1 h.2.2.2.2.2;obtain⟨b,hd,hb⟩:=E5 (gJ (h::q)) h.2.2.2.2.1 h.2.2.2.2.2;have hR:ja (h::q)=bif FF (ou (gJ (h::q)) h.2.2.2.2.1 h.2.2.2.2.2) (h::q) then(gJ (h::q),h.2.2.2.2.1,h.2.2.2.2.2,true) else([],0,0,false):=by rw[<-hq];rfl
  rw[hR];simp only[i0,ab,hd];have hlc:(((h::q).length):Int)=(q.length)+1:=by simp only[bC];omega
  generalize ou (gJ (h::q)) h.2.2.2.2.1 h.2.2.2.2.2=w at hdl hb⊢
  have core:∀(K:au (aq (Int×Int)×Int×Int×Bool))(w':aq Ea),w'=w->(bif ((w'.length):Int) !=(((h::q).length)) then some (([]),(0),(0),false) else
   aI (gC (λvQ=>some (gJ (h::q),h.2.2.2.2.1,h.2.2.2.2.2,true)) (λBU Jb GC EN NX=>some (BU,Jb,GC,EN)) (h::q) (gJ (h::q)) h.2.2.2.2.1 h.2.2.2.2.2 w' ((w'.length))) fuel 0)=some (bif FF w (h::q) then(gJ (h::q),h.2.2.2.2.1,h.2.2.2.2.2,true) else([],0,0,false)):=by
   intro K w' e
   subst e
   unfold FF
   cases hl:((w'.length)==(((h::q).length):Int))with
   |false=>simp only[bne,hl,cf,af,gO,ae]
   |true=>
    simp only[bne,hl,ai,ae,bF]
    rw[pL (fin:=some (gJ (h::q),h.2.2.2.2.1,h.2.2.2.2.2,true)) (λi=>HB (w'.getD i Gc) ((h::q).getD i Gc)) w'.length (by omega) (λi nx hi=>?_) (λnx=>?_)]
    ·cases (List.range w'.length).all (λi=>HB (w'.getD i Gc) ((h::q).getD i Gc))<;>rfl
    ·have hi2:i<(h::q).length:=by omega
     simp only[gC]
     rw[jF,af,aX hi,aX hi2,ab,ab,aj (by omega) (by omega),fM hi,fM hi2];rfl
    ·simp only[gC]
     rw[gr,ae]
  cases b with|true=>exact core none w rfl|false=>exact core none [] (hb rfl).symm
theorem MN {l:aq Ea}(h:(ja l).2.2.2=true):lC (ja l).1=true/\∀p∈(ja l).1,p.1<=4294967295:=by match l,h with|hd::x::r,h=>unfold ja at h⊢;simp only at h⊢;cases hs:FF (ou (gJ (hd::x::r)) hd.2.2.2.2.1 hd.2.2.2.2.2) (hd::x::r)with|false=>grind|true=>generalize hw:gJ (hd::x::r)=ps at hs⊢;unfold FF at hs;simp only[ah]at hs;have hn:=ik hs.1;unfold ou at hn;cases hc:((ps.length)==0)||(!lC ps|| !dI hd.2.2.2.2.1 1 128)with|true=>grind|false=>cases ha:([(2,0,0,0,hd.2.2.2.2.1,hd.2.2.2.2.2)]++tD ps hd.2.2.2.2.2 ps.length).all qQ with|false=>grind|true=>simp only[dC,eK]at hc;refine⟨hc.2.1,λp hp=>?_⟩;rw[List.all_append,HU,ah]at ha;obtain⟨i,hi,rfl⟩:=List.getElem_of_mem hp;simp_all[qQ,dsc,bO]
theorem Ee (l:aq aA)(m:bt)(d a n:Int):(qJ l m d a n).1.length<=33554432:=by grind[Ig,ry,qJ]
def EZ (l:aq aA)(m:bt)(d:Int):aq (Int×Int)->Bytes->Bytes×Bool
 |[],acc=>(acc,true)
 |p::ps,acc=>bif (qJ l m d p.1 p.2).2 then EZ l m d ps (acc++(qJ l m d p.1 p.2).1) else([],false)
def yD (l:aq aA)(m:bt)(d:Int)(ps:aq (Int×Int)):Bytes×Bool:=bif lC ps then EZ l m d ps [] else([],false)
def De (l:aq aA)(m:bt)(d:Int)(p:Int×Int)(s:Bytes):Except (au (Bytes×Bool)) Bytes:=
 if(qJ l m d p.1 p.2).2=true then .ok (s++(qJ l m d p.1 p.2).1) else .error (some ([],false))
theorem Jr (l:aq aA)(m:bt)(d:Int):∀(ps:aq (Int×Int))(s:Bytes),WH (De l m d) (λs=>some (s,true)) ps s=some (EZ l m d ps s)
 |[],s=>rfl
 |p::ps,s=>by rw[WH,EZ];unfold De;cases hd:(qJ l m d p.1 p.2).2 with|false=>rfl|true=>exact Jr l m d ps _
theorem Mu (l:aq aA)(m:bt)(d:Int):∀(ps:aq (Int×Int))(s:Bytes),(EZ l m d ps s).1.length<=s.length+33554432*ps.length
 |[],s=>by simp[EZ]
 |p::ps,s=>by have h1:=Ee l m d p.1 p.2;rw[EZ];cases (qJ l m d p.1 p.2).2 with|false=>simp|true=>have:=Mu l m d ps (s++(qJ l m d p.1 p.2).1);grind
theorem Mv (l:aq aA)(m:bt)(d:Int)(ps:aq (Int×Int)):(yD l m d ps).1.length<=10^9:=by unfold yD;cases hp:lC ps with|false=>simp|true=>have:=(Ez hp).1;have:=Mu l m d ps [];grind
theorem YG (l:aq aA)(m:bt)(d:Int)(ps:aq (Int×Int))(hl:l.length<=10^9)(hm:m.length<=10^9)(hn:ps.length<=10^9)(ha:∀p∈ps,p.1<=9223372036854775807):qh l m d ps=some (yD l m d ps):=by
 unfold qh yD;rw[O0 ps hn,ab];cases hp:lC ps;rfl;have Xx:=(Ez hp).1;simp only[ai,ae,af];rw[<-Jr];refine EG ps (λs i=>(s,(i:Int))) (λi s=>s.length<=33554432*i) (De l m d) _ (by omega) (λi hi s nx hI=>?_) (λi hi s s' hI he=>?_) (λs nx hI=>?_) [] (by simp);have h1:=Ee l m d ps[i].1 ps[i].2;simp only[mi];rw[jF,af,aX hi,ab,Dj l m d _ _ hl hm (ha _ (bc hi)),ab];unfold De;cases hd:(qJ l m d ps[i].1 ps[i].2).2 with|false=>rfl|true=>rw[aG rfl,aQ (by omega),aj (by omega) (by omega)];rfl
 have h1:=Ee l m d ps[i].1 ps[i].2;unfold De at he;split at he;injection he with he;rw[<-he,aw];omega;cases he;simp only[mi];rw[gr,ae]
theorem ZF (l:aq aA)(m:bt)(d:Int)(ps:aq (Int×Int))(hl:l.length<=10^9)(hm:m.length<=10^9)(hn:ps.length<=10^9)(ha:∀p∈ps,p.1<=9223372036854775807):qz l m d ps=some (yD l m d ps):=by
 unfold qz yD;rw[PV ps hn,ab];cases hp:lC ps;rfl;have Xx:=(Ez hp).1;simp only[ai,ae,af];rw[<-Jr];refine EG ps (λs i=>(s,(i:Int))) (λi s=>s.length<=33554432*i) (De l m d) _ (by omega) (λi hi s nx hI=>?_) (λi hi s s' hI he=>?_) (λs nx hI=>?_) [] (by simp);have h1:=Ee l m d ps[i].1 ps[i].2;simp only[mD];rw[jF,af,aX hi,ab,ab,DL l m d _ _ hl hm (ha _ (bc hi)),ab];unfold De;cases hd:(qJ l m d ps[i].1 ps[i].2).2 with|false=>rfl|true=>rw[aG rfl,aQ (by omega),aj (by omega) (by omega)];rfl
 have h1:=Ee l m d ps[i].1 ps[i].2;unfold De at he;split at he;injection he with he;rw[<-he,aw];omega;cases he;simp only[mD];rw[gr,ae]
def tZ (t:Bytes):Int:=cx t ((bX t+2:Nat):Int)
def Nv (t:Bytes):Int:=S1 ((t.take (bX t+20)).drop (bX t))
def QZ (t:Bytes):Bytes:=(t.take (bX t+(tZ t).toNat)).drop (bX t+20)
def agz (t:Bytes):Bytes:=yq (fg t ((bX t+12:Nat):Int)) (fg t ((bX t+16:Nat):Int)) (iL t:Int) (tZ t-20)
def K9 (t:Bytes):Int:=bif ((iL t:Int)==17)&&(S1 (agz t++QZ t)==0) then 65535 else S1 (agz t++QZ t)
def Vl (t s:Bytes):Bytes×Bool:=bif ((vL s).2==0)&&((iR (vL s).1).1==t) then eS (vL s).1 else([],false)
def Ei (t:Bytes):Bytes×Bool:=Vl t (qx t (bW (Nv t)) (bW (K9 t)))
theorem Bb (h:¬(TOk t/\cx t (xO t:Int)=0/\cx t (rG t:Int)=0)):Ei t=([],false):=by have ha:F7 (qx t (bW (Nv t)) (bW (K9 t))) t:=I1 t (bu _) (bu _);grind[Ei,Vl,vL,aiT,adk]
theorem Uz (t:Bytes)(o n:Nat):(t.drop o).take n=(t.take (o+n)).drop o:=by grind[List.drop_take]
theorem MO (h1:bX t+20<=t.length)(h2:20<=tZ t)(h3:tZ t<=(t.length:Int))(h4:t.length<=10^9):Bo (fg t ((bX t+12:Nat):Int)) (fg t ((bX t+16:Nat):Int)) (iL t:Int) (tZ t-20)=true:=by have a1:=El (s:=t) (a:=((bX t+12:Nat):Int));have a2:=El (s:=t) (a:=((bX t+16:Nat):Int));have a3:=eY t (bX t+9);have a4:=Ek (s:=t) (a:=((bX t+2:Nat):Int));grind[Bo,bO,iL,tZ]
theorem acY (t:Bytes)(hl:t.length<=10^9):zt t=some (Ei t):=by
 have hp:=Af t
 have hk:=Ir (iL t)
 have RE:iL t<256:=eY t (bX t+9)
 unfold zt
 rw[PW t hl,ab]
 by_cases h1:t.length<bX t+46
 ·rw[ax h1,Bb λh=>by have:=h.1.l1;omega];rfl
 rw[ar h1]
 simp only[ae]
 rw[ar (show¬(xO t:Int)<0 by omega)]
 simp only[ae,sH t _ hl,ab]
 cases h2:cx t (xO t:Int) !=0 with
 |true=>simp_all[Bb]
 |false=>
 simp only[ae,ab]
 cases h3:cx t (rG t:Int) !=0 with
 |true=>grind[Bb]
 |false=>
 have w1:ak ((xO t:Int)-10)=(bX t:Int):=by grind[aj]
 have w2:ak ((bX t:Int)+2)=((bX t+2:Nat):Int):=by grind[aj]
 have w9:ak ((bX t:Int)+9)=((bX t+9:Nat):Int):=by grind[aj]
 have w12:ak ((bX t:Int)+12)=((bX t+12:Nat):Int):=by grind[aj]
 have w16:ak ((bX t:Int)+16)=((bX t+16:Nat):Int):=by grind[aj]
 have w20:ak ((bX t:Int)+20)=((bX t+20:Nat):Int):=by grind[aj]
 have wb:ak ((rG t:Int)+2)=(rG t:Int)+2:=by grind[aj]
 have wc:ak ((rG t:Int)+2-(bX t:Int))=(rG t:Int)+2-(bX t:Int):=by grind[aj]
 have wl:ak ((t.length:Int)-(bX t:Int))=(t.length:Int)-(bX t:Int):=by grind[aj]
 obtain⟨x,hx,ex⟩:=ki (s:=t) (i:=bX t+9)
 have a4:=Ek (s:=t) (a:=((bX t+2:Nat):Int))
 simp only[ae,ab,w1,w2,w9,hx,wb,wc,wl]
 rw[show cx t ((bX t+2:Nat):Int)=tZ t from rfl]at a4⊢
 by_cases h4:tZ t<(rG t:Int)+2-(bX t:Int)
 ·rw[ax h4,Bb λh=>by have:=h.1.n1;grind[tZ]];rfl
 rw[ar h4]
 simp only[ae,ab]
 by_cases h5:tZ t>(t.length:Int)-(bX t:Int)
 ·rw[ax h5,Bb λh=>by have:=h.1.n2;grind[tZ]];rfl
 rw[ar h5]
 obtain⟨n,hn⟩:=aJ a4.1
 have wn:ak ((bX t:Int)+tZ t)=((bX t+n:Nat):Int):=by grind[aj]
 have wm:ak (tZ t-20)=tZ t-20:=by grind[aj]
 have s1:sub t (bX t:Int) ((bX t+20:Nat):Int)=some ((t.take (bX t+20)).drop (bX t)):=by grind[K8,ay]
 have s2:sub t ((bX t+20:Nat):Int) ((bX t+n:Nat):Int)=some (QZ t):=by grind[K8,ay,QZ]
 have hps:=Ie (fg t ((bX t+12:Nat):Int)) (fg t ((bX t+16:Nat):Int)) (iL t:Int) (tZ t-20)
 have Hf:(QZ t).length<=65535:=by unfold QZ;grind
 have hk2:ak ((UInt8.toNat x:Int))=(iL t:Int):=by grind[fQ,iL]
 simp only[ae,ab,w12,w16,w20,wn,wm,s1,s2,BS t _ hl,hk2,FO,MO (show bX t+20<=t.length by omega) (show 20<=tZ t by omega) (show tZ t<=(t.length:Int) by omega) hl,af]
 rw[show yq (fg t ((bX t+12:Nat):Int)) (fg t ((bX t+16:Nat):Int)) (iL t:Int) (tZ t-20)=agz t from rfl]at hps⊢
 rw[KU _ (by grind),ab,aQ (by omega),KU _ (by rw[aw];omega),ab]
 rw[show S1 ((t.take (bX t+20)).drop (bX t))=Nv t from rfl]
 have lG:∀y:Int,K9 t=y->(aa (bR (Nv t)) λGy=>aa (eH t (xO t:Int) Gy) λKL=>aa (bR y) λZr=>aa (eH KL (rG t:Int) Zr) λXF=>aa (iE XF) λGL=>
  bif GL.2 !=0 then some (([]:Bytes),false) else aa (mV GL.1) λxU=>bif !(xU.1==t) then some (([]:Bytes),false) else aa (hG GL.1) λr22=>some r22)=some (Ei t):=by
  intro y hy
  subst hy
  rw[ia,ab,FP t _ _ hl,ab,ia,ab,FP _ _ _ (by rw[Ag];exact hl),ab]
  have hlen:=DJ t (bW (Nv t)) (bW (K9 t))
  unfold Ei
  rw[show xo (xo t (xO t:Int) (bW (Nv t))) (rG t:Int) (bW (K9 t))=qx t (bW (Nv t)) (bW (K9 t)) from rfl]
  grind[Il,ab,SB,Ik,Vl]
 grind[K9,ab]
theorem abN (t:Bytes)(hl:t.length<=10^9):yH t=some (Ei t):=by
 have hp:=Af t
 have hk:=Ir (iL t)
 have RE:iL t<256:=eY t (bX t+9)
 have G8:=FA t
 unfold yH
 rw[Kn t hl,ab,yf _ _ (by omega),ab]
 cases h1:(fP t).2 with
 |false=>rw[Bb λh=>by have:=h.1.eth;grind];rfl
 |true=>
 have he:=L4 h1
 rw[he.1]
 simp only[ai,ae,ab]
 have en:cx (t.drop (bX t)) 2=tZ t:=OD (a:=2)
 rw[en]
 by_cases h4:tZ t<20
 ·rw[ax h4,Bb λh=>by have:=h.1.n1;grind[tZ]];rfl
 rw[ar h4]
 simp only[ae,ab]
 by_cases h5:tZ t>((t.drop (bX t)).length:Int)
 ·rw[ax h5,Bb λh=>by have:=h.1.n2;grind[tZ]];rfl
 rw[ar h5]
 rw[bj]at h5
 have hdl:(t.drop (bX t)).length=t.length-bX t:=bj ..
 obtain⟨n,hn⟩:=aJ (show 0<=tZ t by omega)
 obtain⟨x,hx,ex⟩:=ki (s:=t.drop (bX t)) (i:=9)
 have hx9:idx (t.drop (bX t)) 9=some x:=hx
 have s1:sub (t.drop (bX t)) 0 20=some ((t.take (bX t+20)).drop (bX t)):=by grind[DN]
 have s2:sub (t.drop (bX t)) 20 (tZ t)=some (QZ t):=by rw[K8 (l:=t.drop (bX t)) 20 (a:=20) rfl (by omega) (by omega),hn,ay,Uz,ec];grind[QZ]
 have hps:=Ie (fg t ((bX t+12:Nat):Int)) (fg t ((bX t+16:Nat):Int)) (iL t:Int) (tZ t-20)
 have Hf:((QZ t).length:Int)=tZ t-20:=by grind[QZ]
 have hk2:ak ((UInt8.toNat x:Int))=(iL t:Int):=by grind[fQ,bI,iL]
 have g12:fg (t.drop (bX t)) 12=fg t ((bX t+12:Nat):Int):=OE (a:=12)
 have g16:fg (t.drop (bX t)) 16=fg t ((bX t+16:Nat):Int):=OE (a:=16)
 have hw:ak ((Ns (iL t):Int)+2)=(Ns (iL t):Int)+2:=by grind[aj]
 simp only[ae,ab,Kt t hl,s1,s2,hx9,BN _ _ (show(t.drop (bX t)).length<=10^9 by omega),hk2,O1,Hf,g12,g16,MO (show bX t+20<=t.length by omega) (show 20<=tZ t by omega) (show tZ t<=(t.length:Int) by omega) hl,af,ai,LG _ RE,hw]
 rw[show yq (fg t ((bX t+12:Nat):Int)) (fg t ((bX t+16:Nat):Int)) (iL t:Int) (tZ t-20)=agz t from rfl]at hps⊢
 by_cases h6:(Ns (iL t):Int)+2>tZ t-20
 ·rw[ax h6,Bb λh=>by have:=h.1.n1;grind[tZ]];rfl
 rw[ar h6]
 simp only[ae]
 have hck:((t.take (bX t+20)).drop (bX t)).length<=10^9:=by grind
 rw[aQ (by omega),NK _ (by rw[aw];omega),ab]
 have lG:∀y:Int,K9 t=y->(aa (ji ((t.take (bX t+20)).drop (bX t))) λr25=>aa (cd r25) λr26=>aa (fH t (xO t:Int) r26) λSi=>aa (cd y) λQu=>aa (fH Si (rG t:Int) Qu) λr29=>aa (iB r29) λr30=>aa (mL r30.1) λUL=>
  aa (bif r30.2 !=0 then some true else bif !UL.2 then some true else some (!(UL.1==t))) λq32=>bif q32 then some (([]:Bytes),false) else aa (gY r30.1) λUM=>some UM)=some (Ei t):=by
  intro y hy
  subst hy
  have b1:=bu (Nv t)
  have b2:=bu (K9 t)
  rw[NK _ hck,ab,show S1 ((t.take (bX t+20)).drop (bX t))=Nv t from rfl]
  rw[la,ab,E8 t _ _ hl,ab,la,ab,E8 _ _ _ (by rw[Ag];exact hl),ab]
  have hlen:=DJ t (bW (Nv t)) (bW (K9 t))
  unfold Ei
  rw[show xo (xo t (xO t:Int) (bW (Nv t))) (rG t:Int) (bW (K9 t))=qx t (bW (Nv t)) (bW (K9 t)) from rfl]
  grind[H7,ab,RV,H6,Vl,iR]
 cases h8:(iL t:Int)==17 with
 |false=>simp_all[K9]
 |true=>
  grind[ab,K9]
theorem Ru (t:Bytes):(Ei t).1.length<=378:=by grind[Ei,Vl,ye]
theorem Jj (l:aq aA)(m:bt)(d:Int):∀(n:Nat)(acc:aq Ea)(r:kW),(Av l m d n acc r).1.length<=acc.length+n
 |0,acc,r=>aR _
 |n+1,acc,r=>by
  rw[Av];cases !(bK l m d r).2.2|| !(eE (bK l m d r).1).2;case true=>exact dR _
  cases S9 (eE (bK l m d r).1).1 with|true=>grind|false=>have:=Jj l m d n (acc++[(eE (bK l m d r).1).1]) (bK l m d r).2.1;grind
theorem Zv (h:fI r=true):fI (r.1,r.2.1,r.2.2.2,r.2.2.2)=true/\da (r.1,r.2.1,r.2.2.2,r.2.2.2)=0:=by grind[fI,da,Int.zero_emod,bO]
theorem Mo (l:aq aA)(m:bt)(d:Int):∀(n:Nat)(acc:aq Ea)(r:kW),fI r=true->(da r).toNat=n->
 fI (Av l m d n acc r).2.1=true/\da (Av l m d n acc r).2.1<=da r/\(0<da r->da (Av l m d n acc r).2.1<da r)
 |0,acc,r,hb,hu=>⟨hb,Int.le_refl _,λh=>by omega⟩
 |n+1,acc,r,hb,hu=>by have hk:=CY (l:=l) (m:=m) (d:=d) (r:=r);have he:=Zv hb;rw[Av];cases hc: !(bK l m d r).2.2|| !(eE (bK l m d r).1).2 with|true=>grind|false=>simp only[dC,eK]at hc;have hk:=hk hc.1;cases S9 (eE (bK l m d r).1).1 with|true=>grind|false=>have:=Mo l m d n (acc++[(eE (bK l m d r).1).1]) (bK l m d r).2.1 hk.1 (by omega);grind
def kD (l:aq aA)(m:bt)(d:Int)(r:kW):kW×bt×Int:=
 bif !fI r||(da r==0) then(r,[],0) else
 bif !(eJ l m d r).2.2|| !(ja (eJ l m d r).1).2.2.2 then((eJ l m d r).2.1,[],2) else
 bif !(yD l m d (ja (eJ l m d r).1).1).2||(!(Ei (yD l m d (ja (eJ l m d r).1).1).1).2||((vL (Ei (yD l m d (ja (eJ l m d r).1).1).1).1).2 !=0)) then((eJ l m d r).2.1,[],2) else
 ((eJ l m d r).2.1,Sq (vL (Ei (yD l m d (ja (eJ l m d r).1).1).1).1).1 (ja (eJ l m d r).1).2.1,1)
theorem YJ (l:aq aA)(m:bt)(d:Int)(r:kW)(hl:l.length<=10^9)(hm:m.length<=10^9):qq l m d r=some (kD l m d r):=by
 unfold qq kD;simp only[zP,Cd,ab,QO l m d r hl hm];cases hb:fI r;rfl;cases da r==0;case true=>rfl
 have hu:=mz hb;have hcl:(eJ l m d r).1.length<=16:=by unfold eJ;cases !fI r||(da r==0)with|true=>exact dR _|false=>have:=Jj l m d (da r).toNat [] r;grind
 simp only[ai,ae,ab,bM];generalize eJ l m d r=c at hcl⊢;cases c.2.2;rfl;simp only[ai,ae,ab,cL,TF c.1 (show c.1.length<=10^9 by omega)];have hpo:=MN (l:=c.1);grind[Ez,Mv,ab,YG,Ru,abN,H7,aeR]
theorem ZI (l:aq aA)(m:bt)(d:Int)(r:kW)(hl:l.length<=10^9)(hm:m.length<=10^9):qG l m d r=some (kD l m d r):=by
 unfold qG kD;simp only[Ai,CU,ab,Q5 l m d r hl hm];cases hb:fI r;rfl;cases da r==0;case true=>rfl
 have hu:=mz hb;have hcl:(eJ l m d r).1.length<=16:=by unfold eJ;cases !fI r||(da r==0)with|true=>exact dR _|false=>have:=Jj l m d (da r).toNat [] r;grind
 simp only[ai,ae,ab,bM];generalize eJ l m d r=c at hcl⊢;simp only[Uo c.1 (show c.1.length<=10^9 by omega),ab];cases c.2.2;rfl;simp only[ai,ae,ab,cL];have hpo:=MN (l:=c.1);generalize ja c.1=p at hpo⊢;cases hp:p.2.2.2;rfl;have hpo:=hpo hp;have Xx:=(Ez hpo.1).1;have hg:=Mv l m d p.1;simp only[ai,ae,ab,cL,ZF l m d p.1 hl hm (show p.1.length<=10^9 by omega) (λq hq=>Int.le_trans (hpo.2 q hq) (by omega))];grind[Ru,acY,ab,Il,afO]
theorem LY (l:aq aA)(m:bt)(d:Int)(r:kW): ((kD l m d r).2.2=0->(kD l m d r).1=r)/\((kD l m d r).2.2≠0->0<da r/\fI r=true/\fI (kD l m d r).1=true/\da (kD l m d r).1<da r)/\(kD l m d r).2.1.length<=320/\(∀x∈(kD l m d r).2.1,x.length<=382)/\((kD l m d r).2.2=0\/(kD l m d r).2.2=1\/(kD l m d r).2.2=2):=by
 unfold kD;cases hc: !fI r||(da r==0)with
 |true=>grind
 |false=>
  simp only[dC,eK,cG]at hc;have hu:=mz hc.1;have hch:fI (eJ l m d r).2.1=true/\da (eJ l m d r).2.1<da r:=by have:=Mo l m d (da r).toNat [] r hc.1 rfl;grind[eJ]
  grind[acT]
def rH (l:aq aA)(m:bt)(d:Int):Nat->bt->Nat->Nat->kW->kW×bt×Int×Int
 |0,fr,dn,bd,r=>(r,fr,(dn:Int),(bd:Int))
 |n+1,fr,dn,bd,r=>
  bif (kD l m d r).2.2==0 then(r,fr,(dn:Int),(bd:Int)) else
  bif (kD l m d r).2.2==1 then rH l m d n (fr++(kD l m d r).2.1) (dn+1) bd (kD l m d r).1 else
  rH l m d n (fr++(kD l m d r).2.1) dn (bd+1) (kD l m d r).1
def kH (l:aq aA)(m:bt)(d:Int)(r:kW):kW×bt×Int×Int:=rH l m d 17 [] 0 0 r
theorem JA (l:aq aA)(m:bt)(d:Int)(hl:l.length<=10^9)(hm:m.length<=10^9):∀(n:Nat)(fr:bt)(dn bd:Nat)(r:kW)(f:Nat),n<f->(fI r=true->da r<n)->0<n->fr.length+320*n<=10000->dn+bd+n<=1000->
 aI (nk (λy2 y3 y4 _ _ _ _ y9=>some (y9,y2,y3,y4)) l d ([]:bt) 0 0 m (0,0,0,0)) f (fr,(dn:Int),(bd:Int),r)=some (rH l m d n fr dn bd r)
 |0,fr,dn,bd,r,f,_,_,h0,_,_=>by omega
 |n+1,fr,dn,bd,r,0,hf,_,_,_,_=>by omega
 |n+1,fr,dn,bd,r,f+1,hf,hr,_,gP,hc=>by have ok:=LY l m d r;rw[aI,rH];simp only[nk,YJ l m d r hl hm,ab];generalize kD l m d r=x at ok⊢;cases h0:x.2.2==0 with|true=>grind|false=>have hk:=ok.2.1 (by simpa using h0);have hu:=hr hk.2.1;have hu2:=(mz hk.2.2.1).1;simp only[ae];cases x.2.2==1 with|true=>simp only[af];rw[aQ (by omega),aj (by omega) (by omega)];exact JA l m d hl hm n _ (dn+1) bd _ f (by omega) (λ_=>by omega) (by omega) (by rw[aw];omega) (by omega)|false=>simp only[ae];rw[aQ (by omega),aj (by omega) (by omega)];exact JA l m d hl hm n _ dn (bd+1) _ f (by omega) (λ_=>by omega) (by omega) (by rw[aw];omega) (by omega)
theorem JJ (l:aq aA)(m:bt)(d:Int)(hl:l.length<=10^9)(hm:m.length<=10^9):∀(n:Nat)(fr:bt)(dn bd:Nat)(r:kW)(f:Nat),n<f->(fI r=true->da r<n)->0<n->fr.length+320*n<=10000->dn+bd+n<=1000->
 aI (nt (λy2 y3 y4 _ _ _ _ y9=>some (y9,y2,y3,y4)) l d ([]:bt) 0 0 m (0,0,0,0)) f (fr,(dn:Int),(bd:Int),r)=some (rH l m d n fr dn bd r)
 |0,fr,dn,bd,r,f,_,_,h0,_,_=>by omega
 |n+1,fr,dn,bd,r,0,hf,_,_,_,_=>by omega
 |n+1,fr,dn,bd,r,f+1,hf,hr,_,gP,hc=>by have ok:=LY l m d r;rw[aI,rH];simp only[nt,ZI l m d r hl hm,ab];generalize kD l m d r=x at ok⊢;cases h0:x.2.2==0 with|true=>rfl|false=>have hk:=ok.2.1 (by simpa using h0);have hu:=hr hk.2.1;have hu2:=(mz hk.2.2.1).1;simp only[ae];rw[aQ (by omega)];cases x.2.2==1 with|true=>simp only[af];rw[aj (by omega) (by omega)];exact JJ l m d hl hm n _ (dn+1) bd _ f (by omega) (λ_=>by omega) (by omega) (by rw[aw];omega) (by omega)|false=>simp only[ae];rw[aj (by omega) (by omega)];exact JJ l m d hl hm n _ dn (bd+1) _ f (by omega) (λ_=>by omega) (by omega) (by rw[aw];omega) (by omega)
theorem ab3 (l:aq aA)(m:bt)(d:Int)(r:kW)(hl:l.length<=10^9)(hm:m.length<=10^9):sm l m d r=some (kH l m d r):=by have xS:=cR;unfold sm;exact JA l m d hl hm 17 [] 0 0 r fuel (by omega) (λh=>by have:=(mz h).2;omega) (by omega) (by simp) (by omega)
theorem adf (l:aq aA)(m:bt)(d:Int)(r:kW)(hl:l.length<=10^9)(hm:m.length<=10^9):sV l m d r=some (kH l m d r):=by have xS:=cR;unfold sV;exact JJ l m d hl hm 17 [] 0 0 r fuel (by omega) (λh=>by have:=(mz h).2;omega) (by omega) (by simp) (by omega)
theorem EJ (l:aq aA)(m:bt)(d:Int):∀(n:Nat)(fr:bt)(dn bd:Nat)(r:kW),(∀x∈fr,x.length<=382)->
 (rH l m d n fr dn bd r).2.1.length<=fr.length+320*n/\(∀x∈(rH l m d n fr dn bd r).2.1,x.length<=382)/\0<=(rH l m d n fr dn bd r).2.2.1/\(rH l m d n fr dn bd r).2.2.1<=(dn+n:Nat)/\0<=(rH l m d n fr dn bd r).2.2.2/\(rH l m d n fr dn bd r).2.2.2<=(bd+n:Nat)
 |0,fr,dn,bd,r,h=>⟨aR _,h,by show(0:Int)<=(dn:Int);omega,by show(dn:Int)<=_;omega,by show(0:Int)<=(bd:Int);omega,by show(bd:Int)<=_;omega⟩
 |n+1,fr,dn,bd,r,h=>by
  have ok:=LY l m d r;rw[rH];generalize kD l m d r=x at ok⊢;have h2:∀y∈fr++x.2.1,y.length<=382:=λy hy=>by grind
  cases x.2.2==0 with|true=>grind|false=>cases x.2.2==1 with|true=>have i:=EJ l m d n (fr++x.2.1) (dn+1) bd x.1 h2;grind|false=>have i:=EJ l m d n (fr++x.2.1) dn (bd+1) x.1 h2;grind
def adP (v:Vector):Bool:=bif decide (v.2.2.1>=1) then(bif decide (v.2.2.1>=v.1) then true else decide (v.2.2.2.1>=v.2.1)) else false
theorem agJ (v:Vector):Es v=some (adP v):=by unfold Es adP;cases decide (v.2.2.1>=1);all_goals simp_all
theorem ahd (v:Vector):rF v=some (adP v):=by unfold rF adP;cases decide (v.2.2.1>=1);all_goals simp_all
def GS (v:Vector):Vector:=bif adP v&& !v.2.2.2.2.1 then(v.1,v.2.1,v.2.2.1,v.2.2.2.1,v.2.2.2.2.1,true) else v
theorem LC (v:Vector):oM v=some (GS v):=by grind[oM,GS,agJ,ab]
theorem Md (v:Vector):mW v=some (GS v):=by grind[mW,GS,ahd,ab]
def upM (n:Int):Int:=if 1000000<ak (n+1) then 1000000 else ak (n+1)
theorem aa1 (n:Int):(if ak (n+1)<1000000 then ak (n+1) else 1000000)=upM n:=by grind[upM]
def evV (v:Vector):Vector:=bif th v then GS (v.1,v.2.1,upM v.2.2.1,v.2.2.2) else v
theorem abI (v:Vector):yE v=some (evV v):=by unfold yE evV;rw[Ce,ab,LC,ab];cases th v<;>rfl
theorem acV (v:Vector):zk v=some (evV v):=by grind[zk,evV,yu,ab,aa1,Md]
def Xe (v:Vector):Vector:=bif th v then(bif decide (v.2.2.1>0) then GS (v.1,v.2.1,v.2.2.1,upM v.2.2.2.1,v.2.2.2.2) else GS v) else v
theorem ab2 (v:Vector):uG v=some (Xe v):=by unfold uG Xe;simp only[Ce,ab,LC];cases th v;rfl;cases decide (v.2.2.1>0)<;>rfl
theorem ade (v:Vector):ve v=some (Xe v):=by grind[ve,Xe,yu,ab,aa1,Md]
def GB (v:Vector):Vector×Bool:=bif th v&&v.2.2.2.2.2 then((v.1,v.2.1,0,0,true,false),true) else(v,false)
theorem ab1 (v:Vector):oL v=some (GB v):=by grind[oL,GB,Ce,ab]
theorem adb (v:Vector):pb v=some (GB v):=by grind[pb,GB,yu,ab]
def Lf (v:Vector):Vector:=bif th v then GS (v.1,v.2.1,v.2.2.1,v.2.2.2.1,false,v.2.2.2.2.2) else v
theorem O3 (v:Vector):zR v=some (Lf v):=by grind[zR,Lf,Ce,ab,LC]
theorem PY (v:Vector):Aj v=some (Lf v):=by grind[Aj,Lf,yu,ab,Md]
structure lJ (k:Nat) (a b:Host):Prop where
 mem:b.1.length=a.1.length
 maps:b.2.1=a.2.1
 tx:b.2.2.1=a.2.2.1
 rx:b.2.2.2.1.length=a.2.2.2.1.length
 rxs:∀j,k<=j->b.2.2.2.1[j]?=a.2.2.2.1[j]?
 pl:b.2.2.2.2.1.length=a.2.2.2.2.1.length
 vec:b.2.2.2.2.2.1.length=a.2.2.2.2.2.1.length
 Xq:∀j,k<=j->b.2.2.2.2.2.1[j]?=a.2.2.2.2.2.1[j]?
 pol:b.2.2.2.2.2.2.1.length=a.2.2.2.2.2.2.1.length
 flt:b.2.2.2.2.2.2.2.1=a.2.2.2.2.2.2.2.1
 ste:b.2.2.2.2.2.2.2.2.1=a.2.2.2.2.2.2.2.2.1
theorem lJ.refl (k:Nat)(a:Host):lJ k a a:=⟨rfl,rfl,rfl,rfl,λ_ _=>rfl,rfl,rfl,λ_ _=>rfl,rfl,rfl,rfl⟩
theorem lJ.trans {a b c:Host}(h:lJ k a b)(g:lJ k b c):lJ k a c:=⟨g.mem.trans h.mem,g.maps.trans h.maps,g.tx.trans h.tx,g.rx.trans h.rx,λj hj=>(g.rxs j hj).trans (h.rxs j hj),g.pl.trans h.pl,g.vec.trans h.vec,λj hj=>(g.Xq j hj).trans (h.Xq j hj),g.pol.trans h.pol,g.flt.trans h.flt,g.ste.trans h.ste⟩
theorem lJ.up {m:Nat}{a b:Host}(h:lJ k a b)(hk:k<=m):lJ m a b:=⟨h.mem,h.maps,h.tx,h.rx,λj hj=>h.rxs j (by omega),h.pl,h.vec,λj hj=>h.Xq j (by omega),h.pol,h.flt,h.ste⟩
def ic (g:Nat->Host->Host):Nat->Host->Host
 |0,h=>h
 |k+1,h=>g k (ic g k h)
theorem ta (hg:∀k h,lJ (k+1) h (g k h))(h:Host):∀k,lJ k h (ic g k h)
 |0=>lJ.refl 0 h
 |k+1=>((ta hg h k).up (by omega)).trans (hg k _)
theorem CW {d n:Nat}(hn:1000<=n)(hg:∀k h m,1000<=m->br m cI h->br (m+d) cI (g k h))(z:br n cI h):∀k,br (n+d*k) cI (ic g k h)
 |0=>z
 |k+1=>(hg k _ _ (by omega) (CW hn hg z k)).mono (by rw[Nat.mul_add];omega)
def xQ (i:Nat)(h:Host):Host:=
 match h.2.2.2.2.2.1[i]? with
 |some v=>(h.1,h.2.1,h.2.2.1,h.2.2.2.1,h.2.2.2.2.1,h.2.2.2.2.2.1.set i (Xe v),h.2.2.2.2.2.2)
 |none=>h
theorem F0 (i:Nat)(h:Host):lJ (i+1) h (xQ i h):=by unfold xQ;cases h.2.2.2.2.2.1[i]? with|none=>exact lJ.refl _ _|some v=>exact⟨rfl,rfl,rfl,rfl,λ_ _=>rfl,rfl,aH ..,λj hj=>aO (by omega),rfl,rfl,rfl⟩
theorem NW {n:Nat}{l:aq Vector}{i:Nat}{v:Vector}(z:br n (.sl fy) l):br n (.sl fy) (l.set i v):=px z ⟨bN,bN,bN,bN,bN,bN⟩
theorem adq (i:Nat)(h:Host)(n:Nat)(hn:1000<=n)(z:br n cI h):br (n+0) cI (xQ i h):=by unfold xQ;cases h.2.2.2.2.2.1[i]? with|none=>exact z|some v=>exact⟨z.1,z.2.1,z.2.2.1,z.2.2.2.1,z.2.2.2.2.1,NW z.2.2.2.2.2.1,z.2.2.2.2.2.2⟩
def HL (h:Host):Host:=bif fi h then ic xQ h.2.2.2.2.2.1.length h else h
theorem af3 {n:Nat}(hn:1000<=n)(z:br n cI h):br n cI (HL h)/\(HL h).2.2.1=h.2.2.1:=by unfold HL;cases fi h with|false=>exact⟨z,rfl⟩|true=>exact⟨(CW hn adq z _).mono,(ta F0 h _).tx⟩
theorem aeT (h:Host)(k:Jc h)(z:br 1000000000 cI h):yN h=some (HL h):=by
 have xS:=cR;unfold yN HL;rw[jh h z,ab,wg h k,ab];cases hb:fi h;rfl;have hv:h.2.2.2.2.2.1.length<=10^9:=z.2.2.2.2.2.1.1;simp only[ai,ae,af];refine cC (λi=>((i:Int),ic xQ i h)) h.2.2.2.2.2.1.length (by omega) (λi nx hi=>?_) (λnx=>?_);have kk:=ta F0 h i;have i1:i<(ic xQ i h).2.2.2.2.2.1.length:=by rw[kk.vec];exact hi
 rw[show ic xQ (i+1) h=xQ i (ic xQ i h) from rfl];generalize ic xQ i h=s at i1⊢;simp only[rY,xQ];rw[jF,af,al i1];simp only[aX i1,ab,ab2,ay];rw[aj (by omega) (by omega)];rfl;simp only[rY];rw[gr,ae]
theorem afQ (h:Host)(k:Jc h)(z:br 1000000000 cI h):zA h=some (HL h):=by
 have xS:=cR;unfold zA HL;rw[jm h z,ab];have hv:h.2.2.2.2.2.1.length<=10^9:=z.2.2.2.2.2.1.1;cases hb:fi h with
 |false=>
  obtain⟨g,hg⟩:∃g,fuel=g+1:=⟨fuel-1,by omega⟩
  rw[hg,aI,oa,rA h k,hb];cases decide ((0:Int)<(h.2.2.2.2.2.1.length:Int))<;>rfl
 |true=>
  simp only[af];refine cC (λi=>((i:Int),ic xQ i h)) h.2.2.2.2.2.1.length (by omega) (λi nx hi=>?_) (λnx=>?_);have kk:=ta F0 h i;have i1:i<(ic xQ i h).2.2.2.2.2.1.length:=by rw[kk.vec];exact hi
  have e1:=kk.Xq i (aR _);rw[al i1,al hi]at e1;have e2:=cE e1;rw[show ic xQ (i+1) h=xQ i (ic xQ i h) from rfl];generalize ic xQ i h=s at i1 e2⊢;simp only[oa,xQ,rA h k,hb];rw[jF,af,al i1];simp only[aX i1,aX hi,ab,ade,ay,af,e2];rw[aj (by omega) (by omega)];rfl;simp only[oa];rw[gr,ae,ab,ae]
structure Ar (n:Nat) (h:Host):Prop where
 z:br n cI h
 t:h.2.2.1.2.1.2.2.2.length+(ch h.2.2.1.2.2.1).length<=n
theorem Ar.mono {n m:Nat}(k:Ar n h)(hn:n<=m:=by omega):Ar m h:=⟨k.z.mono hn,aE k.t hn⟩
theorem Ar.sz {n:Nat}(k:Ar n h)(hn:n<=10^9:=by omega):Jc h:=by have z:br 1000000000 cI h:=k.z.mono hn;exact⟨z.1.1,z.2.1.1,z.2.2.1.2.2.1.1,aE k.t hn,z.2.2.2.2.2.2.2.1.2.2.1,z.2.2.2.2.2.2.2.2.1.1.1,z.2.2.2.2.2.2.2.2.1.2.1.1,z.2.2.2.2.2.2.2.2.1.2.2.2.1,λp hp=>(z.2.2.2.2.1.2 p hp).2.2.2.1⟩
theorem Ar.of (k:qK cI h<=1048576):Ar 1048576 h:=by refine⟨Iu k,?_⟩;have hb:=aaf h.2.2.1.2.2.1;simp_all[qK];omega
def vx (p:cj):aq gH->cj
 |[]=>p
 |x::l=>vx (OF p x.2.2).1 l
theorem H4:∀(l:aq gH)(p:cj),(vx p l).2.2.2.length<=p.2.2.2.length+(ch l).length
 |[],p=>by simp[vx]
 |x::l,p=>by have h1:=Vv p x.2.2;have h2:=H4 l (OF p x.2.2).1;grind[vx,ch]
theorem Lz:∀(l:aq gH)(p:cj)(x:gH),vx p (l++[x])=(OF (vx p l) x.2.2).1
 |[],p,x=>rfl
 |y::l,p,x=>by rw[List.cons_append,vx,vx,Lz l]
theorem N9 (a b:aq gH):(ch (a++b)).length=(ch a).length+(ch b).length:=by grind[ch]
theorem Oa (l:aq gH)(n:Nat):(ch (l.take n)).length+(ch (l.drop n)).length=(ch l).length:=by rw[<-N9,cp]
def lS (t:bA)(n:Int):bA×ew:=
 bif Qi t&&dI n 0 (t.2.2.1.length:Int) then((t.1,vx t.2.1 (t.2.2.1.take n.toNat),t.2.2.1.drop n.toNat,t.2.2.2),(t.2.2.1.take n.toNat).map (·.1)) else(t,[])
theorem aaN {l:aq gH}(h:(ch l).length<=10^9:=by omega):∀x∈l,x.2.2.length<=10^9:=by intro x hx;induction l with|nil=>cases hx|cons y l ih=>grind[ch]
theorem Tz (t:bA)(n:Int)(hw:t.2.2.1.length<=10^9)(hs:t.2.1.2.2.2.length+(ch t.2.2.1).length<=10^9):mf t n=some (lS t n):=by
 have hx:=aaN (l:=t.2.2.1);unfold mf lS;rw[Jy t ⟨by omega,hw,hx⟩,ab,YN t hw hs];simp only[ab,dh];cases Qi t;rfl;cases hn:dI n 0 (t.2.2.1.length:Int);rfl;have h:=bO.1 hn;obtain⟨n,rfl⟩:=aJ h.1;have hl:n<=t.2.2.1.length:=by omega
 simp only[ai,ae,ab,dZ,af,ay];rw[DN (by omega) (by omega),ab,ay];have htl:(t.2.2.1.take n).length=n:=by rw[bm];omega
 rw[htl];refine cC (λi=>(((t.2.2.1.take i).map (·.1),(i:Int),t.1,vx t.2.1 (t.2.2.1.take i),t.2.2):ew×Int×bA)) n (by omega) (λi nx hi=>?_) (λnx=>?_);have hi2:i<(t.2.2.1.take n).length:=by omega
 have hi3:i<t.2.2.1.length:=by omega
 have e1:(t.2.2.1.take n)[i]=t.2.2.1[i]:=List.getElem_take ..;have g1:=H4 (t.2.2.1.take i) t.2.1;have g2:=Oa t.2.2.1 (i+1);have g3:(ch (t.2.2.1.take (i+1))).length=(ch (t.2.2.1.take i)).length+t.2.2.1[i].2.2.length:=by rw[bg hi3,N9];simp[ch]
 simp only[jL];rw[jF,af,aX hi2,e1,ab,OZ _ _ (by omega),ab,aQ (by simp only[cr,bm,bf];omega),aj (by omega) (by omega),bg hi3,Lz,List.map_append];rfl;simp only[jL];rw[gr,ae,tc (l:=t.2.2.1) n hl rfl,ab,Kj _ (by rw[bj];omega) (λx AR=>hx x (List.mem_of_mem_drop AR)),ab]
theorem Ui (t:bA)(n:Int)(hw:t.2.2.1.length<=10^9)(hs:t.2.1.2.2.2.length+(ch t.2.2.1).length<=10^9):mB t n=some (lS t n):=by
 have hx:=aaN (l:=t.2.2.1);unfold mB lS;rw[CR t ⟨by omega,hw,hx⟩,ab,ZL t hw hs];simp only[ab,cO];cases Qi t;rfl;cases hn:dI n 0 (t.2.2.1.length:Int);rfl;have h:=bO.1 hn;obtain⟨n,rfl⟩:=aJ h.1;have hl:n<=t.2.2.1.length:=by omega
 simp only[ai,ae,ab,dZ,af,ay];refine cC (λi=>(((t.2.2.1.take i).map (·.1),(i:Int),t.1,vx t.2.1 (t.2.2.1.take i),t.2.2):ew×Int×bA)) n (by omega) (λi nx hi=>?_) (λnx=>?_);have hi3:i<t.2.2.1.length:=by omega
 have g1:=H4 (t.2.2.1.take i) t.2.1;have g2:=Oa t.2.2.1 (i+1);have g3:(ch (t.2.2.1.take (i+1))).length=(ch (t.2.2.1.take i)).length+t.2.2.1[i].2.2.length:=by rw[bg hi3,N9];simp[ch]
 simp only[jR];rw[jF,af,aX hi3,ab,aQ (by simp only[cr,bm,bf];omega),ab,PU _ _ (by omega),ab,aj (by omega) (by omega),bg hi3,Lz,List.map_append];rfl;simp only[jR];rw[gr,ae,tc (l:=t.2.2.1) n hl rfl,ab]
theorem Rj (n:Int):∀l:aq gH,l.all (jP n)=true->(l.length:Int)<=ef l
 |[],_=>by simp[ef]
 |x::l,h=>by simp only[bQ,ah]at h;have:=Rj n l h.2;grind[jP,bO,ef]
theorem F2 {t:bA}(h:Qi t=true):t.2.2.1.length<=16:=by unfold Qi at h;simp only[ah,bE]at h;have h1:=Rj _ _ h.2.2.2.1;have h2:=(qy h.1).2.2.1;omega
theorem EV {t:bA}(n:Int)(z:br k fE t)(hs:t.2.1.2.2.2.length+(ch t.2.2.1).length<=k): br k fE (lS t n).1/\(lS t n).1.2.1.2.2.2.length+(ch (lS t n).1.2.2.1).length<=k/\(lS t n).2.length<=16:=by unfold lS;cases h:Qi t&&dI n 0 (t.2.2.1.length:Int)with|false=>exact⟨z,hs,dR _⟩|true=>simp only[ah]at h;have Xx:=F2 h.1;have g1:=H4 (t.2.2.1.take n.toNat) t.2.1;have g2:=Oa t.2.2.1 n.toNat;have hw:t.2.2.1.length<=k:=z.2.2.1.1;refine⟨⟨z.1,⟨bN,bN,bN,?_,λ_ _=>trivial⟩,⟨?_,λx hx=>z.2.2.1.2 x (List.mem_of_mem_drop hx)⟩,z.2.2.2⟩,?_,?_⟩;show(vx t.2.1 (t.2.2.1.take n.toNat)).2.2.2.length<=k;omega;show(t.2.2.1.drop n.toNat).length<=k;rw[bj];omega;show(vx t.2.1 (t.2.2.1.take n.toNat)).2.2.2.length+(ch (t.2.2.1.drop n.toNat)).length<=k;omega;show((t.2.2.1.take n.toNat).map (·.1)).length<=16;rw[cr,bm];omega
theorem LO {n:Nat}{t:CT}{l q:aq t.D}(z:br n (.sl t) l)(hq:∀y∈q,br n t y)(hk:q.length<=k):br (n+k) (.sl t) (l++q):=by refine⟨?_,λy hy=>?_⟩;show(l++q).length<=n+k;have:=z.1;rw[aw];omega;rcases az.1 hy with h|h;exact(z.2 y h).mono;exact(hq y h).mono
def td (h:Host):Host:=bif fi h then
    (h.1,h.2.1,(lS ((kH h.2.1 h.1 0 h.2.2.1.1).1,h.2.2.1.2) (if(h.2.2.1.2.2.1.length:Int)<ak ((kH h.2.1 h.1 0 h.2.2.1.1).2.2.1+(kH h.2.1 h.1 0 h.2.2.1.1).2.2.2) then(h.2.2.1.2.2.1.length:Int) else ak ((kH h.2.1 h.1 0 h.2.2.1.1).2.2.1+(kH h.2.1 h.1 0 h.2.2.1.1).2.2.2))).1,
      h.2.2.2.1,h.2.2.2.2.1,h.2.2.2.2.2.1,h.2.2.2.2.2.2.1,h.2.2.2.2.2.2.2.1,h.2.2.2.2.2.2.2.2.1,h.2.2.2.2.2.2.2.2.2.1,h.2.2.2.2.2.2.2.2.2.2.1,h.2.2.2.2.2.2.2.2.2.2.2.1++(kH h.2.1 h.1 0 h.2.2.1.1).2.1,
      h.2.2.2.2.2.2.2.2.2.2.2.2.1++(lS ((kH h.2.1 h.1 0 h.2.2.1.1).1,h.2.2.1.2) (if(h.2.2.1.2.2.1.length:Int)<ak ((kH h.2.1 h.1 0 h.2.2.1.1).2.2.1+(kH h.2.1 h.1 0 h.2.2.1.1).2.2.2) then(h.2.2.1.2.2.1.length:Int) else ak ((kH h.2.1 h.1 0 h.2.2.1.1).2.2.1+(kH h.2.1 h.1 0 h.2.2.1.1).2.2.2))).2,h.2.2.2.2.2.2.2.2.2.2.2.2.2) else h
theorem TJ (h:Host)(k:Ar 900000000 h):qm h=some (td h):=by have z:br 1000000000 cI h:=k.z.mono;have hz:=k.sz;have hm:h.1.length<=900000000:=k.z.1.1;have hl:h.2.1.length<=900000000:=k.z.2.1.1;have hw:h.2.2.1.2.2.1.length<=900000000:=k.z.2.2.1.2.2.1.1;have hwi:h.2.2.2.2.2.2.2.2.2.2.2.1.length<=900000000:=k.z.2.2.2.2.2.2.2.2.2.2.2.1.1;have hco:h.2.2.2.2.2.2.2.2.2.2.2.2.1.length<=900000000:=k.z.2.2.2.2.2.2.2.2.2.2.2.2.1.1;have hA:=EJ h.2.1 h.1 0 17 [] 0 0 h.2.2.1.1 (λx hx=>by cases hx);unfold qm td;rw[jh h z,ab,wg h hz,ab];cases fi h;rfl;simp only[ai,ae,af,ab3 h.2.1 h.1 0 _ (show h.2.1.length<=10^9 by omega) (show h.1.length<=10^9 by omega),ab];rw[show rH h.2.1 h.1 0 17 [] 0 0 h.2.2.1.1=kH h.2.1 h.1 0 h.2.2.1.1 from rfl]at hA;generalize kH h.2.1 h.1 0 h.2.2.1.1=x at hA⊢;simp only[ej]at hA;have hC:=EV (k:=900000000) (t:=(x.1,h.2.2.1.2)) (if(h.2.2.1.2.2.1.length:Int)<ak (x.2.2.1+x.2.2.2) then(h.2.2.1.2.2.1.length:Int) else ak (x.2.2.1+x.2.2.2)) ⟨⟨bN,bN,bN,bN⟩,k.z.2.2.1.2⟩ k.t;rw[aQ (by omega),Tz (x.1,h.2.2.1.2) _ (by grind) (aE k.t (by omega)),ab,aQ (by omega)]
theorem Ur (h:Host)(k:Ar 900000000 h):qC h=some (td h):=by have z:br 1000000000 cI h:=k.z.mono;have hz:=k.sz;have hm:h.1.length<=900000000:=k.z.1.1;have hl:h.2.1.length<=900000000:=k.z.2.1.1;have hw:h.2.2.1.2.2.1.length<=900000000:=k.z.2.2.1.2.2.1.1;have hwi:h.2.2.2.2.2.2.2.2.2.2.2.1.length<=900000000:=k.z.2.2.2.2.2.2.2.2.2.2.2.1.1;have hco:h.2.2.2.2.2.2.2.2.2.2.2.2.1.length<=900000000:=k.z.2.2.2.2.2.2.2.2.2.2.2.2.1.1;have hA:=EJ h.2.1 h.1 0 17 [] 0 0 h.2.2.1.1 (λx hx=>by cases hx);unfold qC td;rw[jm h z,ab,rA h hz,ab];cases fi h;rfl;simp only[ai,ae,af,adf h.2.1 h.1 0 _ (show h.2.1.length<=10^9 by omega) (show h.1.length<=10^9 by omega),ab];rw[show rH h.2.1 h.1 0 17 [] 0 0 h.2.2.1.1=kH h.2.1 h.1 0 h.2.2.1.1 from rfl]at hA;generalize kH h.2.1 h.1 0 h.2.2.1.1=x at hA⊢;simp only[ej]at hA;have hC:=EV (k:=900000000) (t:=(x.1,h.2.2.1.2)) (if(h.2.2.1.2.2.1.length:Int)<ak (x.2.2.1+x.2.2.2) then(h.2.2.1.2.2.1.length:Int) else ak (x.2.2.1+x.2.2.2)) ⟨⟨bN,bN,bN,bN⟩,k.z.2.2.1.2⟩ k.t;rw[aQ (by omega),Ui (x.1,h.2.2.1.2) _ (by grind) (aE k.t (by omega)),ab,aQ (by omega)]
theorem UD {n:Nat}(hn:400<=n)(k:Ar n h):Ar (n+5440) (td h):=by have k':Ar (n+5440) h:=k.mono;have hA:=EJ h.2.1 h.1 0 17 [] 0 0 h.2.2.1.1 (λx hx=>by cases hx);unfold td;cases fi h;exact k';rw[show rH h.2.1 h.1 0 17 [] 0 0 h.2.2.1.1=kH h.2.1 h.1 0 h.2.2.1.1 from rfl]at hA;generalize kH h.2.1 h.1 0 h.2.2.1.1=x at hA⊢;simp only[ej]at hA;generalize (if(h.2.2.1.2.2.1.length:Int)<ak (x.2.2.1+x.2.2.2) then(h.2.2.1.2.2.1.length:Int) else ak (x.2.2.1+x.2.2.2))=q;have hC:=EV (k:=n) (t:=(x.1,h.2.2.1.2)) q ⟨⟨bN,bN,bN,bN⟩,k.z.2.2.1.2⟩ k.t;have z:=k'.z;refine⟨⟨z.1,z.2.1,hC.1.mono,z.2.2.2.1,z.2.2.2.2.1,z.2.2.2.2.2.1,z.2.2.2.2.2.2.1,z.2.2.2.2.2.2.2.1,z.2.2.2.2.2.2.2.2.1,z.2.2.2.2.2.2.2.2.2.1,bN,?_,?_,z.2.2.2.2.2.2.2.2.2.2.2.2.2⟩,aE hC.2.1 (by omega)⟩;exact LO (t:=.str) (n:=n) (k:=5440) k.z.2.2.2.2.2.2.2.2.2.2.2.1 (λy hy=>by show y.length<=_;grind) (by omega);exact(LO (t:=.int .i64) (n:=n) (k:=16) k.z.2.2.2.2.2.2.2.2.2.2.2.2.1 (λ_ _=>trivial) hC.2.2).mono
def AP (l:aq aA)(d:Int)(p:cj)(z:Nat):ew->Bytes->bt->aq eZ->au (aq eZ×bt)
 |[],_,m,a=>some (a,m)
 |b::q,s,m,a=>bif (mP l m d (lK p b) (s.take z) false).2 then AP l d p z q (s.drop z) (mP l m d (lK p b) (s.take z) false).1 (a++[(lK p b,((s.take z).length:Int))]) else none
theorem J4 (l:aq aA)(d:Int)(p:cj)(z:Nat):∀(q:ew)(s:Bytes)(m:bt)(a:aq eZ){x},AP l d p z q s m a=some x->
 x.2.length=m.length/\x.1.length=a.length+q.length/\∀y∈x.1,y∈a\/((∃b∈q,y.1=lK p b)/\0<=y.2/\y.2<=(z:Int))
 |[],s,m,a,x,h=>by cases h;exact⟨rfl,rfl,λy hy=>Or.inl hy⟩
 |b::q,s,m,a,x,h=>by rw[AP]at h;cases hq:(mP l m d (lK p b) (s.take z) false).2 with|false=>rw[hq]at h;cases h|true=>rw[hq]at h;obtain⟨h1,h2,h3⟩:=J4 l d p z q _ _ _ h;rw[mx]at h1;rw[aw,bf]at h2;refine⟨h1,by rw[bC];omega,λy hy=>?_⟩;rcases h3 y hy with g|⟨⟨b',gL,g⟩,g2⟩;rcases az.1 g with g|g;exact Or.inl g;rw[eL.1 g];refine Or.inr ⟨⟨b,List.mem_cons_self ..,rfl⟩,?_,?_⟩;show(0:Int)<=((s.take z).length:Int);omega;show((s.take z).length:Int)<=(z:Int);rw[bm];omega;exact Or.inr ⟨⟨b',ee _ gL,g⟩,g2⟩
theorem Nx (p:cj)(i:Int): -1<=lK p i/\lK p i<=139136:=by unfold lK;cases hb: !gq p|| !dI i 0 (p.2.2.1-1)with|true=>grind|false=>simp only[dC,eK]at hb;have h:=DF hb.1;have h2:=bO.1 hb.2;have h3:0<=i*p.2.1:=Int.mul_nonneg h2.1 (by omega);have h4:i*p.2.1<=16*512:=Int.mul_le_mul (by omega) (by omega) (by omega) (by omega);simp only[ae];omega
theorem adH {p:cj}(hp:gq p=true){b:Int}(hb:b∈p.2.2.2):0<=lK p b:=by obtain⟨i,hi,rfl⟩:=List.getElem_of_mem hb;have hq:=hp;simp only[gq,ah]at hq;have:=aW.1 hq.2.2.2 i (dy.2 hi);simp only[Ms,ah,fM hi]at this;have hn:=this.1;have h:=DF hp;have h2:=bO.1 hn;have h3:0<=p.2.2.2[i]*p.2.1:=Int.mul_nonneg h2.1 (by omega);grind[lK]
theorem Xd (s:Bytes)(z:Nat):sub s 0 (if(s.length:Int)<(z:Int) then(s.length:Int) else(z:Int))=some (s.take z):=by grind[DN,bB]
theorem Vb (s:Bytes)(z:Nat):sub s ((s.take z).length:Int) (s.length:Int)=some (s.drop z):=by grind[W7,List.drop_eq_nil_of_le]
def adx:au (aq eZ×bt)->au (Bool×bt×aq eZ×Bool)->Prop
 |some x,r=>r=some (true,x.2,x.1,true)
 |none,r=>∃c m,r=some (c,m,[],false)
theorem IT (l:aq aA)(d:Int)(p:cj)(z:Nat)(B:bt)(hp:p.2.2.2.length<=10^9)(hl:l.length<=10^9):∀(rest pre:ew)(s:Bytes)(m:bt)(a:aq eZ)(f:Nat),rest.length<f->(pre++rest).length<=1000000->a.length+rest.length<=1000000->m.length<=10^9->
 adx (AP l d p z rest s m a) (aI (kj (λ_ EN _ SQ=>some (true,SQ,EN,true)) (λ_ XH Z4 _ _ _ y23=>some (true,y23,XH,Z4)) l d (z:Int) ([]:aq eZ) false (pre++rest) ((pre++rest).length:Int) p B) f (s,a,(pre.length:Int),m))
 |rest,pre,s,m,a,0,hf,_,_,_=>by omega
 |[],pre,s,m,a,f+1,_,_,_,_=>by rw[aI];simp only[kj];rw[ar (by simp),ae];rfl
 |b::q,pre,s,m,a,f+1,hf,hn,ha,hm=>by
  simp only[bC,aw]at hf hn ha;have hi:pre.length<(pre++b::q).length:=by simp
  have hb:(pre++b::q)[pre.length]=b:=by simp
  have hA:=Nx p b;rw[aI];simp only[kj];rw[ax (by simp;omega),aX hi,hb];simp only[af,ab,Xd,Vb,Ki p b hp,DU l m d (lK p b) (s.take z) hl hm];rw[AP];cases hq:(mP l m d (lK p b) (s.take z) false).2 with|false=>exact⟨_,_,rfl⟩|true=>simp only[ai,ae,af];rw[aj (n:=(pre.length:Int)+1) (by omega) (by omega),aQ (by grind)];have key:=IT l d p z B hp hl q (pre++[b]) (s.drop z) (mP l m d (lK p b) (s.take z) false).1 (a++[(lK p b,((s.take z).length:Int))]) f (by omega) (by simp;omega) (by simp;omega) (by rw[mx];exact hm);grind
theorem abM (l:aq aA)(m:bt)(d:Int)(p:cj)(q:ew)(s:Bytes)(z:Nat)(hp:p.2.2.2.length<=10^9)(hl:l.length<=10^9)(hm:m.length<=10^9)(hq:q.length<=1000)(h0:0<q.length): adx (AP l d p z q s m []) (nI l m d p q s (z:Int)):=by have xS:=cR;cases q with|nil=>cases h0|cons b q=>simp only[bC]at hq;have hA:=Nx p b;have hi:idx (b::q) 0=some b:=rfl;unfold nI;rw[ax (by simp),af,hi];simp only[ab,Xd,Vb,Ki p b hp,DU l m d (lK p b) (s.take z) hl hm];rw[AP];cases hq':(mP l m d (lK p b) (s.take z) false).2 with|false=>exact⟨_,_,rfl⟩|true=>simp only[ai,ae,af];rw[aQ (by simp),show ak (0+1)=1 from rfl];exact IT l d p z _ hp hl q [b] (s.drop z) (mP l m d (lK p b) (s.take z) false).1 [(lK p b,((s.take z).length:Int))] fuel (by omega) (by simp;omega) (by simp;omega) (by rw[mx];exact hm)
theorem I4 (K:aq eZ->Int->bt->au (bt×bA×Bool))(l:aq aA)(d c N:Int)(z:Nat)(t:Bytes)(M:bt)(A B2:bA)(B1:bt)(B3:cj)(hp:A.2.1.2.2.2.length<=10^9)(hl:l.length<=10^9)(hM:M.length<=10^9)(hA:XM A)(ht:t.length<=1000)(hz:z<=1000):∀(rest pre:ew)(m:bt)(a:aq eZ)(f:Nat),rest.length<f->(pre++rest).length<=1000->a.length+rest.length<=1000000->m.length<=10^9->(∀i<(pre++rest).length,i*z<=t.length)->N=((pre++rest).length:Int)->
 aI (ks K (λy34 _ _ y37 y38 _=>some (y37,y38,y34)) l d c (z:Int) false t N (pre++rest) M A B1 B2 B3) f (a,(pre.length:Int),m)=
  (match AP l d A.2.1 z rest (t.drop (pre.length*z)) m a with|some x=>K x.1 N x.2|none=>some (M,A,false))
 |rest,pre,m,a,0,hf,_,_,_,_,_=>by omega
 |[],pre,m,a,f+1,_,_,_,_,_,hN=>by rw[aI];simp only[ks];rw[ar (by rw[hN];simp),ae,hN,bp];rfl
 |b::q,pre,m,a,f+1,hf,hn,ha,hm,hiz,hN=>by
  simp only[bC]at hf ha;have hi:pre.length<(pre++b::q).length:=by simp
  have hb:(pre++b::q)[pre.length]=b:=by simp
  have hB:=Nx A.2.1 b;have h1:=hiz pre.length hi;have h2:(pre.length+1)*z=pre.length*z+z:=Nat.succ_mul ..;have hs:sub t (ak ((pre.length:Int)*(z:Int))) (if ak (ak ((pre.length:Int)+1)*(z:Int))<(t.length:Int) then ak (ak ((pre.length:Int)+1)*(z:Int)) else(t.length:Int))=some ((t.drop (pre.length*z)).take z):=by rw[aj (n:=(pre.length:Int)+1) (by omega) (by omega),show(pre.length:Int)*(z:Int)=((pre.length*z:Nat):Int) by simp,show((pre.length:Int)+1)*(z:Int)=((pre.length*z+z:Nat):Int) by rw[<-h2];simp];generalize pre.length*z=g at h1⊢;rw[aj (n:=(g:Int)) (by omega) (by omega),aj (n:=((g+z:Nat):Int)) (by omega) (by omega)];by_cases gV:((g+z:Nat):Int)<(t.length:Int);rw[aG gV];unfold sub;rw[zip];simp only[ay,aZ];rw[List.drop_take,Nat.add_sub_cancel_left];rw[aF gV];unfold sub;rw[zip];simp only[ay,aZ];rw[bB (aR _),bB (by rw[bj];omega)]
  rw[aI];simp only[ks];rw[jF,af,hs,aX hi,hb];simp only[ab,PN A.2.1 b hp,I5 l m d (lK A.2.1 b) _ hl hm (show lK A.2.1 b<=9223372036854775807 by omega)];rw[AP];cases hq:(mP l m d (lK A.2.1 b) ((t.drop (pre.length*z)).take z) false).2 with
  |false=>simp only[cf,af,ae,hY M,CR A hA,ab]
  |true=>
   simp only[ai,ae,af];rw[aj (n:=(pre.length:Int)+1) (by omega) (by omega),aQ (by simp only[bf];omega)];have key:=I4 K l d c N z t M A B2 B1 B3 hp hl hM hA ht hz q (pre++[b]) (mP l m d (lK A.2.1 b) ((t.drop (pre.length*z)).take z) false).1 (a++[(lK A.2.1 b,(((t.drop (pre.length*z)).take z).length:Int))]) f (by omega) (by simpa using hn) (by simp;omega) (by rw[mx];exact hm) (by simpa using hiz) (by simpa using hN);have el:((pre++[b]).length:Int)=(pre.length:Int)+1:=by simp
   have el2:(pre++[b]).length=pre.length+1:=by simp
   rw[aN,List.singleton_append,el,el2,h2,<-ec]at key;exact key
theorem adO {ps:aq eZ}{z:Int}(h0:0<ps.length)(Xx:ps.length<=16)(hp:∀x∈ps,0<=x.1/\x.1<=200000/\0<=x.2/\x.2<=4096)(hz:dI z 1 128=true)(hc:dI c 0 65535=true):(ou ps z c).length=ps.length+1:=by
 have hz2:=bO.1 hz;have Yn:=bO.1 hc;have e1:lC ps=true:=by unfold lC;rw[ah,aP,bE];refine⟨List.any_eq_false.2 λx hx=>?_,by omega⟩;have:=hp x hx;unfold Ae;rw[gr,cL,aP,Bool.eq_false_iff];intro h;exact h (bO.2 (by omega))
 have e2:([((2:Int),(0:Int),(0:Int),(0:Int),z,c)]++tD ps c ps.length).all qQ=true:=by rw[List.all_append,ah];constructor;simp only[bQ,List.all_nil,ig,qQ,ah,bO];omega;rw[HU];refine aW.2 λj hj=>?_;have hj:=dy.1 hj;have:=hp _ (bc hj);simp only[dsc,fM hj,qQ,ah,bO];refine⟨by omega,?_,by omega,by omega,by omega,by omega⟩;by_cases hq:j+1=ps.length;rw[aG hq];omega;rw[aF hq];omega
 unfold ou;rw[e1,hz,e2,show((ps.length:Int)==0)=false from by rw[cG];omega];simp only[ai,bM,ae,af,aw,bf,BK];omega
theorem VT (K:bt->Int->au R)(l:aq aA)(d:Int)(q:ew)(ds ds2:aq ir)(t1 t2 t3 t4:bA)(m1 m2 m3:bt)(h:ds.length<=1000): aI (ga K l d q ds2 ds (ds.length:Int) t1 m1 t2 m2 t3 t4 m3) fuel (([]:bt),0)=K (ds.map AZ) (ds.length:Int):=by
 have xS:=cR;refine cC (λi=>((ds.take i).map AZ,(i:Int))) ds.length (by omega) (λi nx hi=>?_) (λnx=>?_);have e:((ds.take i).map AZ).length<=1000:=by simp;omega
 rw[bg hi,List.map_append];simp only[ga];rw[jF,af,aX hi,ab,TB,ab,aQ (by simp only[bf];omega),aj (by omega) (by omega)];rfl;simp only[ga];rw[gr,ae,cD]
theorem WT (K:bt->Int->au R)(l:aq aA)(d n:Int)(q:ew)(ds:aq ir)(t1 t2:bA)(p:cj)(m1 m2 m3:bt)(h:ds.length<=1000): aI (kt K l d n q ds m1 t1 m2 t2 p m3) fuel (([]:bt),0)=K (ds.map AZ) (ds.length:Int):=by
 have xS:=cR;refine cC (λi=>((ds.take i).map AZ,(i:Int))) ds.length (by omega) (λi nx hi=>?_) (λnx=>?_);have e:((ds.take i).map AZ).length<=1000:=by simp;omega
 rw[bg hi,List.map_append];simp only[kt];rw[jF,af,aX hi,ab,Uk,ab,aQ (by simp only[bf];omega),aj (by omega) (by omega)];rfl;simp only[kt];rw[gr,ae,cD]
def qO (p:aU)(z:Nat):Nat:=((iR p).1.length+z-1)/z
def aaM (l:aq aA)(m:bt)(d:Int)(t:bA)(c:Int)(n:Nat)(x:aq eZ×bt):bt×bA×Bool:=
 bif (xn l x.2 d t.1 ((ou x.1 c t.2.2.2).map AZ)).2.2 then
  ((xn l x.2 d t.1 ((ou x.1 c t.2.2.2).map AZ)).1,((xn l x.2 d t.1 ((ou x.1 c t.2.2.2).map AZ)).2.1,(kO t.2.1 (n:Int)).1,t.2.2.1++[(t.2.2.2,(n:Int)+1,(kO t.2.1 (n:Int)).2.1)],tmod (t.2.2.2+1) 65536),true)
 else(m,t,false)
def Vm (t:bA)(n:Nat):Bool:=(kO t.2.1 (n:Int)).2.2&&(!decide ((n:Int)>16)&&(!decide ((n:Int)+1>vZ t.1)&& !decide (ef t.2.2.1+(n:Int)+1>t.1.2.1)))
def D2 (l:aq aA)(m:bt)(d:Int)(t:bA)(p:aU)(c z:Int):bt×bA×Bool:=
 bif Qi t&&(eu p&&(dI z 1 t.2.1.2.1&&dI c 1 128)) then
  bif Vm t (qO p z.toNat) then
   match AP l d t.2.1 z.toNat (kO t.2.1 (qO p z.toNat:Int)).2.1 (iR p).1 m []with
   |some x=>aaM l m d t c (qO p z.toNat) x
   |none=>(m,t,false)
  else(m,t,false)
 else(m,t,false)
theorem Qb (h:eu p=true):0<(iR p).1.length/\(iR p).1.length<=378:=by grind[ye,MC,iR,DJ]
theorem adI (len z:Nat)(h:len<=1000:=by omega)(hz:z<=1000:=by omega)(h0:0<z:=by omega):ak (Int.tdiv (ak (ak ((len:Int)+(z:Int))-1)) (z:Int))=(((len+z-1)/z:Nat):Int):=by have hd:(len+z-1)/z<=len+z-1:=Nat.div_le_self ..;grind[aj]
theorem P6 {p:cj}{n:Nat}(h:(kO p (n:Int)).2.2=true):gq p=true/\n<=p.2.2.2.length/\(kO p (n:Int)).2.1=p.2.2.2.take n:=by grind[kO,bO]
theorem Rx {t:bA}{z n:Nat}{x:aq eZ×bt}(ht:Qi t=true)(hz:z<=512)(hc:dI c 1 128=true)(h0:0<n)(Xx:n<=16)(hk:(kO t.2.1 (n:Int)).2.2=true)(hx:AP l d t.2.1 z (kO t.2.1 (n:Int)).2.1 s m []=some x):x.2.length=m.length/\(ou x.1 c t.2.2.2).length=n+1:=by
 obtain⟨hp,hn,hb⟩:=P6 hk;rw[hb]at hx;obtain⟨h1,h2,h3⟩:=J4 l d t.2.1 z _ _ _ _ hx;simp only[ej,bm,cm]at h2;have e:x.1.length=n:=by omega
 refine⟨h1,?_⟩;rw[adO (by omega) (by omega) (λy hy=>?_) hc (by simp only[Qi,ah]at ht;exact ht.2.2.1),e];rcases h3 y hy with g|⟨⟨b,gL,g⟩,g2⟩;cases g;have q1:=adH hp (List.mem_of_mem_take gL);have q2:=Nx t.2.1 b;rw[g];omega
theorem ac5 (l:aq aA)(m:bt)(d:Int)(t:bA)(p:aU)(c z:Int)(hl:l.length<=10^9)(hm:m.length<=10^9)(ht:XM t)(h1:t.2.2.1.length<=10^9)(h2:t.2.1.2.2.2.length+(ch t.2.2.1).length<=10^9):vc l m d t p c z=some (D2 l m d t p c z):=by
 have xS:=cR;unfold vc D2;rw[SB,ab,ZL t h1 h2,ab,cO,cO];have e0:(iR p).2=eu p:=by grind[iR]
 rw[e0];simp only[hY m,CR t ht,ab];cases hb:Qi t;rfl;cases hp:eu p;rfl;cases hz:dI z 1 t.2.1.2.1;rfl;cases hc:dI c 1 128;rfl;have hT:=Qb hp;have hz2:=bO.1 hz;have hq:=hb;simp only[Qi,ah]at hq;have C3:=DF hq.2.1;have Xx:=F2 hb;have VI:=qy hq.1;have hnx:=bO.1 hq.2.2.1;obtain⟨z,rfl⟩:=aJ (by omega:0<=z);have hzn:(z:Int)≠0:=by omega
 have hS:∀x∈t.2.2.1,0<=x.2.1/\x.2.1<=16:=λx hx=>by grind[jP,bO]
 have hcb:=zN _ hS;have hN:qO p z<=1000:=by have:qO p z<=(iR p).1.length+z-1:=Nat.div_le_self ..;omega
 have hN0:0<qO p z:=Nat.div_pos (by omega) (by omega);have hce:=adI (iR p).1.length z;rw[show((iR p).1.length+z-1)/z=qO p z from rfl]at hce;have hfi: -1<=vZ t.1:=by have:=Vs t.1;omega
 simp only[ai,ae,ab,dZ,af,ay,aF hzn,hce,ada _ _ (show t.2.1.2.2.2.length<=10^9 by omega),Ij,ac6 t (by omega) hS,Vm];rw[aj (n:=(qO p z:Int)+1) (by omega) (by omega),aj (n:=ef t.2.2.1+(qO p z:Int)) (by omega) (by omega),aj (n:=ef t.2.2.1+(qO p z:Int)+1) (by omega) (by omega)];cases hk:(kO t.2.1 (qO p z:Int)).2.2;rfl;by_cases g1:(qO p z:Int)>16;rw[ax g1];rfl;rw[ar g1];simp only[ai,cf,ae,bF];cases decide ((qO p z:Int)+1>vZ t.1);case true=>rfl
 simp only[ai,cf,ae,bF,ab];cases decide (ef t.2.2.1+(qO p z:Int)+1>t.1.2.1);case true=>rfl
 simp only[ai,cf,ae,af,ab];obtain⟨_,hkn,RE⟩:=P6 hk;have hkl:(kO t.2.1 (qO p z:Int)).2.1.length=qO p z:=by rw[RE,bm];omega
 have hiz:∀i<qO p z,i*z<=(iR p).1.length:=λi hi=>by have:=(Nat.le_div_iff_mul_le (by omega:0<z)).1 (show i+1<=((iR p).1.length+z-1)/z from hi);grind
 refine(I4 _ l d c _ z (iR p).1 m t _ _ _ (by omega) hl hm ht (by omega) (by omega) (kO t.2.1 (qO p z:Int)).2.1 [] m [] fuel (by omega) (by rw[bU];omega) (by rw[ej];omega) hm (λi hi=>hiz i (by grind)) (by rw[bU,hkl])).trans ?_;simp only[ej,Nat.zero_mul,fa];cases hx:AP l d t.2.1 z (kO t.2.1 (qO p z:Int)).2.1 (iR p).1 m []with|none=>rfl|some x=>obtain⟨x1,x2⟩:=Rx hb (by omega) hc hN0 (by omega) hk hx;obtain⟨_,x3,_⟩:=J4 l d t.2.1 z _ _ _ _ hx;simp only[ej]at x3;simp only[KW x.1 c t.2.2.2 (by omega),ab,aaM];rw[WT _ _ _ _ _ _ _ _ _ _ _ _ (by omega)];simp only[ZJ l x.2 d t.1 _ hl (by omega) (show((ou x.1 c t.2.2.2).map AZ).length<=10^9 by rw[cr];omega),ab,hY m (show m.length<=1073741824 by omega),CR t ht];cases (xn l x.2 d t.1 ((ou x.1 c t.2.2.2).map AZ)).2.2 with|false=>rfl|true=>rw[show(((ou x.1 c t.2.2.2).length:Int)==0)=false from by rw[cG];omega];grind[ab,aQ,aj]
theorem abV (l:aq aA)(m:bt)(d:Int)(t:bA)(p:aU)(c z:Int)(hl:l.length<=10^9)(hm:m.length<=10^9)(ht:XM t)(h1:t.2.2.1.length<=10^9)(h2:t.2.1.2.2.2.length+(ch t.2.2.1).length<=10^9):uE l m d t p c z=some (D2 l m d t p c z):=by
 have xS:=cR;unfold uE D2;rw[fT m,ab,Jy t ht,ab,YN t h1 h2,ab,pN,dh,dh];simp only[ab];cases hb:Qi t;rfl;cases hp:eu p;rfl;cases hz:dI z 1 t.2.1.2.1;rfl;cases hc:dI c 1 128;rfl;have hT:=Qb hp;have hz2:=bO.1 hz;have hq:=hb;simp only[Qi,ah]at hq;have C3:=DF hq.2.1;have Xx:=F2 hb;have VI:=qy hq.1;have hnx:=bO.1 hq.2.2.1;obtain⟨z,rfl⟩:=aJ (by omega:0<=z);have hzn:¬(z:Int)=0:=by omega
 have hS:∀x∈t.2.2.1,0<=x.2.1/\x.2.1<=16:=λx hx=>by grind[jP,bO]
 have hcb:=zN _ hS;have hN:qO p z<=1000:=by have:qO p z<=(iR p).1.length+z-1:=Nat.div_le_self ..;omega
 have hN0:0<qO p z:=Nat.div_pos (by omega) (by omega);have hce:=adI (iR p).1.length z;rw[show((iR p).1.length+z-1)/z=qO p z from rfl]at hce;simp only[ai,ae,ab,dZ,af,ay,RV,aF hzn,hce,ab0 _ _ (show t.2.1.2.2.2.length<=10^9 by omega),RN,abW t (by omega) hS,Vm];rw[aj (n:=(qO p z:Int)+1) (by omega) (by omega),aj (n:=ef t.2.2.1+(qO p z:Int)) (by omega) (by omega),aj (n:=ef t.2.2.1+(qO p z:Int)+1) (by omega) (by omega)];by_cases g1:(qO p z:Int)>16;simp_all;rw[ar g1];simp only[cf,ae,bF];cases decide ((qO p z:Int)+1>vZ t.1)with|true=>simp_all|false=> ?_
 simp only[cf,ae,bF,ab];cases decide (ef t.2.2.1+(qO p z:Int)+1>t.1.2.1)with|true=>grind|false=> ?_
 simp only[cf,ae,ig,ab];cases hk:(kO t.2.1 (qO p z:Int)).2.2;rfl;simp only[ai,ae,af,fT m (show m.length<=1073741824 by omega),ab];obtain⟨_,hkn,RE⟩:=P6 hk;have hkl:(kO t.2.1 (qO p z:Int)).2.1.length=qO p z:=by rw[RE,bm];omega
 have key:=abM l m d t.2.1 (kO t.2.1 (qO p z:Int)).2.1 (iR p).1 z (by omega) hl hm (by omega) (by omega);cases hx:AP l d t.2.1 z (kO t.2.1 (qO p z:Int)).2.1 (iR p).1 m []with
 |none=>rw[hx]at key;obtain⟨a,b,e⟩:=key;obtain⟨f,g,_⟩:=E5 [] c t.2.2.2 (by simp);simp_all
 |some x=>
  rw[hx]at key;have key:nI _ _ _ _ _ _ _=_:=key;obtain⟨x1,x2⟩:=Rx hb (by omega) hc hN0 (by omega) hk hx;obtain⟨_,x3,_⟩:=J4 l d t.2.1 z _ _ _ _ hx;simp only[ej]at x3;obtain⟨f,g,hf⟩:=E5 x.1 c t.2.2.2;have hft:f=true:=by grind
  subst hft;simp only[key,g,ab,af,ai,ae,aF (show¬(ou x.1 c t.2.2.2).length=0 by omega),aaM];grind[VT,YK,ab,aQ,aj]
def Ut (g:Nat->Host->Host):Nat->Host->Host
 |0,h=>h
 |k+1,h=>g k (Ut g k h)
structure F8 (a b:Host):Prop where
 maps:b.2.1=a.2.1
 tx:b.2.2.1=a.2.2.1
 rx:b.2.2.2.1.length=a.2.2.2.1.length
 pl:b.2.2.2.2.1.length=a.2.2.2.2.1.length
 vec:b.2.2.2.2.2.1=a.2.2.2.2.2.1
 pol:b.2.2.2.2.2.2.1=a.2.2.2.2.2.2.1
 ret:b.2.2.2.2.2.2.2.2.2.2.2.2.2.1=a.2.2.2.2.2.2.2.2.2.2.2.2.2.1
theorem F8.refl (a:Host):F8 a a:=⟨rfl,rfl,rfl,rfl,rfl,rfl,rfl⟩
theorem F8.trans {a b c:Host}(h:F8 a b)(k:F8 b c):F8 a c:=⟨k.1.trans h.1,k.2.trans h.2,k.3.trans h.3,k.4.trans h.4,k.5.trans h.5,k.6.trans h.6,k.7.trans h.7⟩
theorem Wq (h:Host)(i:Nat)(c:Int):F8 h (FB h i c).2:=by unfold FB;rcases h1:h.2.2.2.1[i]? with _|rx;exact F8.refl h;rcases h2:h.2.2.2.2.1[i]? with _|pl;exact F8.refl h;exact⟨rfl,rfl,aH ..,aH ..,rfl,rfl,rfl⟩
def sG (h:Host)(k:Nat):Host:=Ut (λi s=>(FB s i 1000).2) k h
theorem CM {n:Nat}(hn:128<=n)(z:br n cI h):∀k,F8 h (sG h k)/\br (n+322000*k) cI (sG h k)
 |0=>⟨F8.refl h,z⟩
 |k+1=>by have i:=CM hn z k;exact⟨i.1.trans (Wq ..),(Zn (by omega) k 1000 i.2).mono⟩
def ajN (h:Host)(l:ew):Host:=(h.1,h.2.1,h.2.2.1,h.2.2.2.1,h.2.2.2.2.1,h.2.2.2.2.2.1,h.2.2.2.2.2.2.1,h.2.2.2.2.2.2.2.1,h.2.2.2.2.2.2.2.2.1,h.2.2.2.2.2.2.2.2.2.1,h.2.2.2.2.2.2.2.2.2.2.1,h.2.2.2.2.2.2.2.2.2.2.2.1,h.2.2.2.2.2.2.2.2.2.2.2.2.1,h.2.2.2.2.2.2.2.2.2.2.2.2.2.1++l,h.2.2.2.2.2.2.2.2.2.2.2.2.2.2)
def UE (h:Host):Host:=(h.1,h.2.1,(M6.1,M6.2.1,M6.2.2.1,h.2.2.1.2.2.2),h.2.2.2)
def Gw (h:Host)(i:Nat)(dr:Int):Host:=
 ((Gx h.2.1 h.1 i).1,h.2.1,h.2.2.1,h.2.2.2.1.set i ((Gx h.2.1 h.1 i).2.1,(PF i).2.1,(PF i).2.2.1,(PF i).2.2.2.1,(PF i).2.2.2.2.1,dr),h.2.2.2.2.1.set i (Gx h.2.1 h.1 i).2.2.1,h.2.2.2.2.2)
theorem ag3 {i:Nat}{x:bh}(hx:h.2.2.2.1[i]?=some x):Sc h i=Gw h i x.2.2.2.2.2:=by unfold Sc Gw;rw[hx];rfl
theorem acz (h:Host){i:Nat}(x:bh)(hi:i<h.2.2.2.1.length):Sc (h.1,h.2.1,h.2.2.1,h.2.2.2.1.set i x,h.2.2.2.2) i=Gw h i x.2.2.2.2.2:=by unfold Sc Gw;simp only[List.getElem?_set_self hi,eo];rfl
def Rm (x:bh):Int:=bif x.2.2.2.2.1 then ak (x.2.2.2.2.2+x.2.2.2.1.2.2) else x.2.2.2.2.2
def CO (i:Nat)(h:Host):Host:=
 match h.2.2.2.1[i]?,h.2.2.2.2.2.1[i]? with
 |some x,some v=>((Gw h i (Rm x)).1,h.2.1,h.2.2.1,(Gw h i (Rm x)).2.2.2.1,(Gw h i (Rm x)).2.2.2.2.1,h.2.2.2.2.2.1.set i (v.1,v.2.1,0,0,false,false),h.2.2.2.2.2.2.1.set i false,h.2.2.2.2.2.2.2)
 |_,_=>h
structure ahB (k:Nat) (a b:Host):Prop where
 mem:b.1.length=a.1.length
 maps:b.2.1=a.2.1
 rx:b.2.2.2.1.length=a.2.2.2.1.length
 pl:b.2.2.2.2.1.length=a.2.2.2.2.1.length
 vec:b.2.2.2.2.2.1.length=a.2.2.2.2.2.1.length
 Xq:∀j,k<=j->b.2.2.2.2.2.1[j]?=a.2.2.2.2.2.1[j]?
 pol:b.2.2.2.2.2.2.1.length=a.2.2.2.2.2.2.1.length
theorem acy (l:aq aA)(m:bt)(i:Nat):(Gx l m i).1.length=m.length:=by grind[Gx,aan,mx]
theorem WB (i:Nat)(h:Host):ahB (i+1) h (CO i h):=by unfold CO;rcases h1:h.2.2.2.1[i]? with _|x;exact⟨rfl,rfl,rfl,rfl,rfl,λ_ _=>rfl,rfl⟩;rcases h2:h.2.2.2.2.2.1[i]? with _|v;exact⟨rfl,rfl,rfl,rfl,rfl,λ_ _=>rfl,rfl⟩;have e1:=acy h.2.1 h.1 i;exact⟨e1,rfl,aH ..,aH ..,aH ..,λj hj=>aO (by omega),aH ..⟩
def eT (h:Host)(k:Nat):Host:=Ut CO k h
theorem uf (h:Host):∀k,ahB k h (eT h k)
 |0=>⟨rfl,rfl,rfl,rfl,rfl,λ_ _=>rfl,rfl⟩
 |k+1=>by have a:=uf h k;have b:=WB k (eT h k);exact⟨b.mem.trans a.mem,b.maps.trans a.maps,b.rx.trans a.rx,b.pl.trans a.pl,b.vec.trans a.vec,λj hj=>(b.Xq j hj).trans (a.Xq j (by omega)),b.pol.trans a.pol⟩
theorem acx {n:Nat}(hn:1000<=n)(i:Nat)(d:Int)(z:br n cI h):br n cI (Gw h i d):=by unfold Gw Gx;have h4:=xk (jJ i+128) 384 4;have hf:=Ou h.2.1 (mP h.2.1 h.1 0 (jJ i) (EL 128) false).1 0 (jJ i,4,0,0) (ln (jJ i+128) 384 4).1;refine⟨Rt (by omega) (Hx (by omega) z.1 ..) ..,z.2.1,z.2.2.1,px z.2.2.2.1 ?_,px z.2.2.2.2.1 ?_,z.2.2.2.2.2⟩;refine⟨⟨bN,bN,bN,bN⟩,⟨bN,bN,bN⟩,⟨bN,bN,bN⟩,⟨⟨bN,bN,bN,bN,bN,bN,bN,bN,bN,bN,bN,bN,bN,bN,bN,?_⟩,bN,bN⟩,bN,bN⟩;exact dR _;exact⟨bN,bN,bN,by omega,λ_ _=>trivial⟩
theorem Zt {n:Nat}(hn:1000<=n)(i:Nat)(z:br n cI h):br n cI (CO i h):=by unfold CO;rcases h1:h.2.2.2.1[i]? with _|x;exact z;rcases h2:h.2.2.2.2.2.1[i]? with _|v;exact z;have zo:=acx hn i (Rm x) z;exact⟨zo.1,z.2.1,z.2.2.1,zo.2.2.2.1,zo.2.2.2.2.1,px z.2.2.2.2.2.1 ⟨bN,bN,bN,bN,bN,bN⟩,px z.2.2.2.2.2.2.1 trivial,z.2.2.2.2.2.2.2⟩
theorem Bq {n:Nat}(hn:1000<=n)(z:br n cI h):∀k,br n cI (eT h k)
 |0=>z
 |k+1=>Zt hn k (Bq hn z k)
def Zu (W:aq gH)(i:Nat)(s:Host):Host:=match W[i]? with|some x=>ajN s [x.1]|none=>s
def polled (h:Host):Host:=sG h h.2.2.2.1.length
def returned (h:Host)(k:Nat):Host:=Ut (Zu h.2.2.1.2.2.1) k (polled h)
structure aiY (a b:Host):Prop where
 e:b=(a.1,a.2.1,a.2.2.1,a.2.2.2.1,a.2.2.2.2.1,a.2.2.2.2.2.1,a.2.2.2.2.2.2.1,a.2.2.2.2.2.2.2.1,a.2.2.2.2.2.2.2.2.1,a.2.2.2.2.2.2.2.2.2.1,a.2.2.2.2.2.2.2.2.2.2.1,a.2.2.2.2.2.2.2.2.2.2.2.1,a.2.2.2.2.2.2.2.2.2.2.2.2.1,b.2.2.2.2.2.2.2.2.2.2.2.2.2.1,a.2.2.2.2.2.2.2.2.2.2.2.2.2.2)
theorem vM {n:Nat}(z:br n cI (polled h)):∀k,aiY (polled h) (returned h k)/\(returned h k).2.2.2.2.2.2.2.2.2.2.2.2.2.1.length<=n+k
 |0=>⟨⟨rfl⟩,by have:=z.2.2.2.2.2.2.2.2.2.2.2.2.2.1.1;exact aE this (by omega)⟩
 |k+1=>by have i:=vM z k;have e:returned h (k+1)=Zu h.2.2.1.2.2.1 k (returned h k):=rfl;rw[e];unfold Zu;cases h.2.2.1.2.2.1[k]? with|none=>exact⟨i.1,aE i.2 (by omega)⟩|some x=>refine⟨⟨?_⟩,?_⟩;have e:=i.1.e;rw[e];rfl;show(_++[_]).length<=_;rw[aw,bf];omega
theorem Ua {n:Nat}(z:br n cI (polled h))(k:Nat):br (n+k) cI (returned h k):=by have i:=vM z k;have z':br (n+k) cI (polled h):=z.mono;rw[i.1.e];exact⟨z'.1,z'.2.1,z'.2.2.1,z'.2.2.2.1,z'.2.2.2.2.1,z'.2.2.2.2.2.1,z'.2.2.2.2.2.2.1,z'.2.2.2.2.2.2.2.1,z'.2.2.2.2.2.2.2.2.1,z'.2.2.2.2.2.2.2.2.2.1,z'.2.2.2.2.2.2.2.2.2.2.1,z'.2.2.2.2.2.2.2.2.2.2.2.1,z'.2.2.2.2.2.2.2.2.2.2.2.2.1,⟨i.2,λ_ _=>trivial⟩,z'.2.2.2.2.2.2.2.2.2.2.2.2.2.2⟩
theorem Xm {n:Nat}(hn:1000<=n)(z:br n cI h):br n cI (UE h):=by have h4:=xk 256 128 8;exact⟨z.1,z.2.1,⟨⟨bN,bN,bN,bN⟩,⟨bN,bN,bN,by show List.length (ln 256 128 8).1.2.2.2<=n;omega,λ_ _=>trivial⟩,⟨dR _,λx hx=>by cases hx⟩,bN⟩,z.2.2.2⟩
def rR (h:Host):Host:=UE (returned h h.2.2.1.2.2.1.length)
def Hy (h:Host):Host:=bif fi h then eT (rR h) h.2.2.2.1.length else h
theorem Jw (hb:fi h=true):xj h=true:=by grind[fi]
theorem GX {n:Nat}(hn:1000<=n)(z:br n cI h)(hl:h.2.2.2.1.length<=2):br (n+644000+h.2.2.1.2.2.1.length) cI (rR h):=by have hp:=CM (by omega) z h.2.2.2.1.length;exact Xm (by omega) (Ua (hp.2.mono) _)
theorem ajL (l:aq aA)(X:bt)(q:bh)(P:cj)(o:bt×kW×cj×Int)(k:bh×cj->bt×kW×cj×Int->au R)(h:jj l X 0 q.1 P=some o):(aa (jj l X 0 (q,P).1.1 (q,P).2) λKL=>k (q,P) KL)=k (q,P) o:=by simp_all
theorem RO (l:aq aA)(m:bt)(i:Nat)(hi:i<=8)(hl:l.length<=10^9)(hm:m.length<=10^9)(k:bh×cj->bt×kW×cj×Int->au R): (aa (ra (i:Int)) λxq=>aa (ov 0 128) λQt=>aa (jy l m 0 xq Qt) λzh=>aa (yh (i:Int)) λGy=>aa (jj l zh.1 0 Gy.1.1 Gy.2) λKL=>k Gy KL)=k (PF i,(ln (jJ i+128) 384 4).1) (Gx l m i):=by
 have hb:jJ i=1280+(i)*1792:=rfl;have GG:jJ i<=9223372036854775807:=by omega
 have hz:ov 0 128=some (EL 128):=aav 128;have hf:=VU l (mP l m 0 (jJ i) (EL 128) false).1 0 (jJ i,4,0,0) (ln (jJ i+128) 384 4).1 hl (by rw[mx];exact hm) (aE (xk (jJ i+128) 384 4) (by omega));rw[VQ i hi,ab,hz,ab,DU l m 0 (jJ i) (EL 128) hl hm GG,ab,abT i hi,ab];exact ajL l _ (PF i) _ (Gx l m i) k hf
theorem QN (K:Int->Host->au Host)(s0 B:Host)(N:Nat)(hN:N<=2)(h1:s0.2.2.2.1.length=N)(h2:s0.2.2.2.2.1.length=N)(h3:s0.2.2.2.2.2.1.length=N)(h4:s0.2.2.2.2.2.2.1.length=N)(z:br 900000000 cI s0): aI (lf K (N:Int) B) fuel (0,s0)=K (N:Int) (eT s0 N):=by
 refine cC (λi=>((i:Int),eT s0 i)) N (by omega) (λi nx hi=>?_) (λnx=>?_);have kr:=uf s0 i;have zr:=Bq (by omega) z i;have z1:(eT s0 i).1.length<=10^9:=aE zr.1.1 (by omega);have z2:(eT s0 i).2.1.length<=10^9:=aE zr.2.1.1 (by omega);have i1:i<(eT s0 i).2.2.2.1.length:=by rw[kr.rx,h1];exact hi
 have i2:i<(eT s0 i).2.2.2.2.1.length:=by rw[kr.pl,h2];exact hi
 have i3:i<(eT s0 i).2.2.2.2.2.1.length:=by rw[kr.vec,h3];exact hi
 have i4:i<(eT s0 i).2.2.2.2.2.2.1.length:=by rw[kr.pol,h4];exact hi
 rw[show eT s0 (i+1)=CO i (eT s0 i) from rfl];generalize eT s0 i=s at z1 z2 i1 i2 i3 i4⊢;unfold CO Rm Gw;simp only[al i1,al i3];simp only[lf];rw[jF,af];simp only[aX i1,ab];rw[RO s.2.1 s.1 i (by omega) z2 z1,RO s.2.1 s.1 i (by omega) z2 z1];simp only[aX i2,aX i3,aX i4,ab];rw[aj (by omega) (by omega),ay];cases s.2.2.2.1[i].2.2.2.2.1<;>rfl;simp only[lf];rw[gr,ae]
theorem J1 {n:Nat}(hq:F8 h (polled h))(hz:br n cI (polled h)):(rR h).2.2.2.1.length=h.2.2.2.1.length/\(rR h).2.2.2.2.1.length=h.2.2.2.2.1.length/\(rR h).2.2.2.2.2.1=h.2.2.2.2.2.1/\(rR h).2.2.2.2.2.2.1=h.2.2.2.2.2.2.1:=by have er:=(vM hz h.2.2.1.2.2.1.length).1.e;refine⟨?_,?_,?_,?_⟩;show(returned h h.2.2.1.2.2.1.length).2.2.2.1.length=_;rw[er];exact hq.rx;show(returned h h.2.2.1.2.2.1.length).2.2.2.2.1.length=_;rw[er];exact hq.pl;show(returned h h.2.2.1.2.2.1.length).2.2.2.2.2.1=_;rw[er];exact hq.vec;show(returned h h.2.2.1.2.2.1.length).2.2.2.2.2.2.1=_;rw[er];exact hq.pol
theorem QM (h:Host)(k:Jc h)(z:br 100000000 cI h):wv h=some (Hy h):=by
 unfold wv Hy;rw[jh h (z.mono),ab,wg h k,ab];cases hb:fi h;rfl;have hl:=nn (Jw hb);have hw:=z.2.2.1.2.2.1.1;have hp:=CM (by omega) z;refine cC (λi=>((i:Int),sG h i)) h.2.2.2.1.length (by omega) (λi nx hi=>?_) (λnx=>?_);simp only[ql];rw[jF,af,TG (sG h i) i 1000 (by rw[(hp i).1.rx];exact hi) (by rw[(hp i).1.pl];omega) ((hp i).2.mono),ab,aj (by omega) (by omega)];rfl;simp only[ql];rw[gr,ae];have hq:=hp h.2.2.2.1.length;have hr:=vM hq.2;have e1:(sG h h.2.2.2.1.length).2.2.1.2.2.1=h.2.2.1.2.2.1:=by rw[hq.1.tx]
 rw[e1];refine cC (λi=>((i:Int),returned h i)) h.2.2.1.2.2.1.length (by omega) (λi nx hi=>?_) (λnx=>?_);have hri:=(hr i).2;simp only[oE];rw[jF,af,aX hi,ab,aQ (by rw[bf];omega),aj (by omega) (by omega)];rw[show returned h (i+1)=Zu h.2.2.1.2.2.1 i (returned h i) from rfl,Zu,al hi];rfl;simp only[oE];rw[gr,ae];simp only[ab4,ab];have hE:=GX (by omega) z hl.1;have hk:=J1 hq.1 hq.2;have eN:((List.length (returned h h.2.2.1.2.2.1.length).2.2.2.1))=(h.2.2.2.1.length):=congrArg Nat.cast hk.1;rw[eN];exact QN _ (rR h) _ h.2.2.2.1.length hl.1 hk.1 (hk.2.1.trans hl.2.1) (by rw[hk.2.2.1];exact hl.2.2.1) (by rw[hk.2.2.2];exact hl.2.2.2) (hE.mono)
theorem Q4 (K:Int->Host->au Host)(h s0 B:Host)(N:Nat)(hN:N<=2)(h1:s0.2.2.2.1.length=N)(h2:s0.2.2.2.2.1.length=N)(h3:s0.2.2.2.2.2.1=h.2.2.2.2.2.1)(h5:h.2.2.2.2.2.1.length=N)(h4:s0.2.2.2.2.2.2.1.length=N)(z:br 900000000 cI s0): aI (lp K h B) fuel (0,s0)=K (N:Int) (eT s0 N):=by
 refine cC (λi=>((i:Int),eT s0 i)) N (by omega) (λi nx hi=>?_) (λnx=>?_);have kr:=uf s0 i;have zr:=Bq (by omega) z i;have z1:(eT s0 i).1.length<=10^9:=aE zr.1.1 (by omega);have z2:(eT s0 i).2.1.length<=10^9:=aE zr.2.1.1 (by omega);have i1:i<(eT s0 i).2.2.2.1.length:=by rw[kr.rx,h1];exact hi
 have iN:(eT s0 i).2.2.2.1.length=N:=by rw[kr.rx,h1]
 have i2:i<(eT s0 i).2.2.2.2.1.length:=by rw[kr.pl,h2];exact hi
 have i3:i<(eT s0 i).2.2.2.2.2.1.length:=by rw[kr.vec,h3,h5];exact hi
 have i4:i<(eT s0 i).2.2.2.2.2.2.1.length:=by rw[kr.pol,h4];exact hi
 have i5:i<h.2.2.2.2.2.1.length:=by rw[h5];exact hi
 have iv:(eT s0 i).2.2.2.2.2.1[i]=h.2.2.2.2.2.1[i]:=by have:=kr.Xq i (aR _);rw[al i3,h3,al i5]at this;exact cE this
 rw[show eT s0 (i+1)=CO i (eT s0 i) from rfl];generalize eT s0 i=s at z1 z2 iN i1 i2 i3 i4 iv⊢;have g1:=al i1;unfold CO;rw[g1,al i3];simp only[lp];rw[jF,af];simp only[aX i1,ab];have o1:=WY s i (by omega) i1 i2 z2 z1;rw[ag3 g1]at o1;have o2:=λx:bh=>WY (s.1,s.2.1,s.2.2.1,s.2.2.2.1.set i x,s.2.2.2.2) i (by omega) (by rw[aH];exact i1) i2 z2 z1;simp only[acz s _ i1]at o2;rw[ay,aj (n:=(i)+1) (by omega) (by omega),o1,o2,ab,ab];simp only[aX i5,ab,iv];have j3:∀d,i<(Gw s i d).2.2.2.2.2.1.length:=λd=>i3;have j4:∀d,i<(Gw s i d).2.2.2.2.2.2.1.length:=λd=>i4;simp only[aX (j3 _),aX (j4 _),ab];unfold Rm;cases s.2.2.2.1[i].2.2.2.2.1<;>rfl;have kN:=(uf s0 N).rx;simp only[lp];rw[gr,ae]
theorem Q3 (h:Host)(k:Jc h)(z:br 100000000 cI h):xz h=some (Hy h):=by
 unfold xz Hy;rw[jm h (z.mono),ab,rA h k,ab];cases hb:fi h;rfl;have hl:=nn (Jw hb);have hw:=z.2.2.1.2.2.1.1;have hp:=CM (by omega) z;refine cC (λi=>((i:Int),sG h i)) h.2.2.2.1.length (by omega) (λi nx hi=>?_) (λnx=>?_);have h1:i<(sG h i).2.2.2.1.length:=by rw[(hp i).1.rx];exact hi
 have h2:i<(sG h i).2.2.2.2.1.length:=by rw[(hp i).1.pl];omega
 have zi:br 500000000 cI (sG h i):=(hp i).2.mono;have hz2:=zi.2.1.1;have hz1:=zi.1.1;have em:=(hp i).1.maps;rw[show sG h (i+1)=(FB (sG h i) i 1000).2 from rfl];generalize sG h i=s at h1 h2 zi hz1 hz2 em⊢;have C3:=(zi.2.2.2.2.1.2 _ (bc h2)).2.2.2.1;simp only[qB];rw[jF,af,<-em];simp only[aX h1,aX h2,ab,W0 s.2.1 s.1 0 _ _ _ 1000 (show s.2.1.length<=10^9 by omega) (show s.1.length<=10^9 by omega) C3 zi.2.2.2.2.2.2.2.2.2.1,ay,FB,al h1,al h2];rw[aj (by omega) (by omega)];rfl;simp only[qB];rw[gr,ae];have hq:=hp h.2.2.2.1.length;have hr:=vM hq.2;refine cC (λi=>((i:Int),returned h i)) h.2.2.1.2.2.1.length (by omega) (λi nx hi=>?_) (λnx=>?_);have hri:=(hr i).2;simp only[oT];rw[jF,af,aX hi,ab,aQ (by rw[bf];omega),aj (by omega) (by omega)];rw[show returned h (i+1)=Zu h.2.2.1.2.2.1 i (returned h i) from rfl,Zu,al hi];rfl;simp only[oT];rw[gr,ae];simp only[adg,ab];have hE:=GX (by omega) z hl.1;have hk:=J1 hq.1 hq.2;have ex:rR h=((returned h h.2.2.1.2.2.1.length).1,(returned h h.2.2.1.2.2.1.length).2.1,(M6.1,M6.2.1,M6.2.2.1,h.2.2.1.2.2.2),(returned h h.2.2.1.2.2.1.length).2.2.2):=by
  have et:(returned h h.2.2.1.2.2.1.length).2.2.1=h.2.2.1:=by rw[(hr h.2.2.1.2.2.1.length).1.e];exact hq.1.tx
  unfold rR UE;rw[et]
 rw[<-ex];exact Q4 _ h (rR h) _ h.2.2.2.1.length hl.1 hk.1 (hk.2.1.trans hl.2.1) hk.2.2.1 hl.2.2.1 (by rw[hk.2.2.2];exact hl.2.2.2) (hE.mono)
def EU (x:F6):Bool:=dI x.1 0 65535&&(dI x.2.1 0 65535&&(dI x.2.2.1 0 65535&&(dI x.2.2.2.1 0 65535&&dI x.2.2.2.2 0 4294967295)))
theorem RL (x:F6):mh x=some (EU x):=by simp_all[mh,dh,cw,EU]
theorem Sv (x:F6):mC x=some (EU x):=by simp_all[mC,cO,cw,EU]
def X9 (x:F6)(p:Int):Bytes:=bif EU x&&dI p 0 1 then((((bW x.1++bW x.2.1)++bW x.2.2.1)++bW x.2.2.2.1)++jd x.2.2.2.2)++jd p else []
theorem aeG (x:F6)(p:Int):lA x p=some (X9 x p):=by have h1:=bu x.1;have h2:=bu x.2.1;have h3:=bu x.2.2.1;have h4:=bu x.2.2.2.1;have h5:=dH x.2.2.2.2;have h6:=dH p;unfold lA X9;simp only[RL,dh,ab,la,Cf];grind[ab,aQ]
theorem afE (x:F6)(p:Int):lE x p=some (X9 x p):=by have h1:=bu x.1;have h2:=bu x.2.1;have h3:=bu x.2.2.1;have h4:=bu x.2.2.2.1;have h5:=dH x.2.2.2.2;have h6:=dH p;unfold lE X9;simp only[Sv,cO,ab,ia,mS];grind[ab,aQ]
def EB (l:aq aA)(m:bt)(d:Int)(q:Nw)(x:F6):bt×Nw×Bool:=
 bif !hZ q|| !EU x then(m,q,false) else
 bif !(mP l m d (mA q) (X9 x (DY q)) true).2 then(m,q,false) else
 ((mP l m d (mA q) (X9 x (DY q)) true).1,(q.1,q.2.1,tmod (q.2.2+1) (2*q.2.1)),true)
theorem aeO (l:aq aA)(m:bt)(d:Int)(q:Nw)(x:F6)(hl:l.length<=10^9)(hm:m.length<=10^9):oH l m d q x=some (EB l m d q x):=by unfold oH EB;simp only[LF,RL,ab,fT m (show m.length<=1073741824 by omega),RP,aeG];cases hq:hZ q;rfl;have h:=my hq;have hs:=NO hq;cases EU x;rfl;simp only[ai,ae,ab,bM,RT q hq,E6 l m d _ _ hl hm (show mA q<=9223372036854775807 by unfold mA;omega)];grind[Sh,aj]
theorem afM (l:aq aA)(m:bt)(d:Int)(q:Nw)(x:F6)(hl:l.length<=10^9)(hm:m.length<=10^9):oW l m d q x=some (EB l m d q x):=by
 unfold oW EB;simp only[Mg,Sv,ab,hY m (show m.length<=1073741824 by omega),afE];cases hq:hZ q;rfl;have h:=my hq;have hs:=NO hq;cases EU x;rfl;have e:ak (q.1+ak (16*tmod q.2.2 q.2.1))=mA q:=by grind[aj,mA]
 simp only[ai,ae,ab,bM,Sx q hq,e,Br l m d _ _ hl hm (show mA q<=9223372036854775807 by unfold mA;omega)];grind[aj]
theorem acN {n:Nat}(hn:128<=n)(z:br n (.sl .str) m)(l:aq aA)(d:Int)(q:Nw)(x:F6):br n (.sl .str) (EB l m d q x).1/\(EB l m d q x).1.length=m.length:=by grind[EB,Hx,mx]
theorem ag5 {q:Nw}{x:F6}(h:hZ q=true):hZ (EB l m d q x).2.1=true/\(EB l m d q x).2.1.1=q.1/\(EB l m d q x).2.1.2.1=q.2.1:=by have hq:=my h;grind[EB,hZ,bO,Ii]
def og (l:aq aA)(m:bt)(d:Int)(q:bh)(k:Bytes)(s:Bytes):bt×Nw×Bool:=
 bif !(eE s).2||(((eE s).1.1 !=3)||decide ((eE s).1.2.2.1<((eS q.2.2.2.1.1).1.length:Int))) then(m,q.2.1,false) else
 bif !(mP l m d (eE s).1.2.2.2.1 (eS q.2.2.2.1.1).1 true).2 then(m,q.2.1,false) else
 EB l (mP l m d (eE s).1.2.2.2.1 (eS q.2.2.2.1.1).1 true).1 d q.2.1 ((eE s).1.2.2.2.2.2,((eS q.2.2.2.1.1).1.length:Int),q.2.2.2.1.2.1,q.2.2.2.1.2.2,Df k (Ay (mJ q.2.2.2.1.1)))
theorem ac9 (l:aq aA)(m:bt)(d:Int)(q:bh)(k s:Bytes)(hl:l.length<=10^9)(hm:m.length<=10^9)(hs:s.length<=10^9):zI l m d q s k=some (og l m d q k s):=by
 unfold zI og;have ku:=Of (s:=s);simp only[WS s hs,Ik,ab,hY m (show m.length<=1073741824 by omega)];generalize eE s=x at ku⊢;cases hx:x.2;rfl;have hd:=ku hx;simp only[qQ,ah,bO]at hd;cases x.1.1 !=3;case true=>rfl
 cases decide (x.1.2.2.1<((eS q.2.2.2.1.1).1.length:Int));all_goals grind[ab,Br,PR,KY,afM,mx]
theorem abZ (l:aq aA)(m:bt)(d:Int)(q:bh)(k s:Bytes)(hl:l.length<=10^9)(hm:m.length<=10^9)(hs:s.length<=10^9)(hh:eu q.2.2.2.1.1=true):∃b,wN l m d q k s=some (b,og l m d q k s)/\(b=false->og l m d q k s=(m,q.2.1,false)):=by
 unfold wN og;have ku:=Of (s:=s);simp only[VR s hs,H6,ab,Eo hh];generalize eE s=x at ku⊢;cases hx:x.2;exact⟨false,rfl,λ_=>rfl⟩;have hd:=ku hx;simp only[qQ,ah,bO]at hd;cases x.1.1 !=3;case true=>simp_all
 cases decide (x.1.2.2.1<((eS q.2.2.2.1.1).1.length:Int));case true=>simp_all
 simp only[ai,ae,ab,bM,E6 l m d _ _ hl hm (show x.1.2.2.2.1<=9223372036854775807 by omega)];cases (mP l m d x.1.2.2.2.1 (eS q.2.2.2.1.1).1 true).2;exact⟨false,rfl,λ_=>rfl⟩;simp only[ai,ae,OY,ab,Kl,aeO l _ d _ _ hl (show(mP l m d x.1.2.2.2.1 (eS q.2.2.2.1.1).1 true).1.length<=10^9 by rw[mx];exact hm)];grind
theorem adi {n:Nat}(hn:128<=n){q:bh}{k:Bytes}(z:br n (.sl .str) m)(hq:hZ q.2.1=true): br n (.sl .str) (og l m d q k s).1/\(og l m d q k s).1.length=m.length/\hZ (og l m d q k s).2.1=true/\(og l m d q k s).2.1.1=q.2.1.1/\(og l m d q k s).2.1.2.1=q.2.1.2.1:=by
 unfold og;cases !(eE s).2||(((eE s).1.1 !=3)||decide ((eE s).1.2.2.1<((eS q.2.2.2.1.1).1.length:Int)));case true=>grind
 cases (mP l m d (eE s).1.2.2.2.1 (eS q.2.2.2.1.1).1 true).2;all_goals grind[Hx,mx,acN,ag5]
def jV (l:aq aA)(m:bt)(d:Int)(q:bh)(k:Bytes):bt×bh:=
 bif !PE q||(!q.2.2.2.2.1||((k.length:Int) !=16)) then(m,q) else
 bif (bK l m d q.1).2.2&&(og l m d q k (bK l m d q.1).1).2.2 then
  ((og l m d q k (bK l m d q.1).1).1,(bK l m d q.1).2.1,(og l m d q k (bK l m d q.1).1).2.1,q.2.2.1,aiQ,false,q.2.2.2.2.2)
 else(m,(bK l m d q.1).2.1,q.2.1,q.2.2.1,aiQ,false,ak (q.2.2.2.2.2+q.2.2.2.1.2.2))
theorem Xc (h:(bK l m d r).2.2=false):(bK l m d r).2.1=r:=by grind[bK]
theorem Ah {q:bh}(h:PE q=true):hZ q.2.1=true/\(q.2.2.2.2.1=true->eu q.2.2.2.1.1=true):=by grind[PE]
theorem Mf (l:aq aA)(m:bt)(d:Int)(q:bh)(k:Bytes)(hl:l.length<=10^9)(hm:m.length<=10^9):nX l m d q k=some (jV l m d q k):=by
 have ht:=zK l m d q.1;unfold nX jV;simp only[Uq,ab,hY m (show m.length<=1073741824 by omega),K4 l m d q.1 hl hm,ac9 l m d q k _ hl hm (show(bK l m d q.1).1.length<=10^9 by omega)];cases PE q;rfl;cases q.2.2.2.2.1;rfl;cases (k.length:Int) !=16;case true=>rfl
 simp only[ai,ae,ab,bM];cases (bK l m d q.1).2.2;rfl;cases (og l m d q k (bK l m d q.1).1).2.2<;>rfl
theorem LD (l:aq aA)(m:bt)(d:Int)(q:bh)(k:Bytes)(hl:l.length<=10^9)(hm:m.length<=10^9):nC l m d q k=some (jV l m d q k):=by
 have ht:=zK l m d q.1;have JT:=Xc (l:=l) (m:=m) (d:=d) (r:=q.1);unfold nC jV;simp only[TI,ab,fT m (show m.length<=1073741824 by omega),Ku l m d q.1 hl hm];cases hr:PE q;rfl;cases hh:q.2.2.2.2.1;rfl;cases (k.length:Int) !=16;case true=>rfl
 obtain⟨b,hb,GG⟩:=abZ l m d q k (bK l m d q.1).1 hl hm (by omega) ((Ah hr).2 hh);simp only[ai,ae,ab,bM,hb];generalize og l m d q k (bK l m d q.1).1=s at hb GG⊢;cases hk:(bK l m d q.1).2.2 with|false=>rw[JT hk];rfl|true=>?_
 cases b with|true=>cases hs:s.2.2<;>rfl|false=>rw[GG rfl];rfl
theorem H0 {n:Nat}(hn:128<=n){q:bh}{k:Bytes}(z:br n (.sl .str) m)(zq:br n cX q): br n (.sl .str) (jV l m d q k).1/\(jV l m d q k).1.length=m.length/\br n cX (jV l m d q k).2/\(PE q=true->hZ (jV l m d q k).2.2.1=true/\(jV l m d q k).2.2.1.2.1=q.2.1.2.1):=by
 unfold jV;cases hc: !PE q||(!q.2.2.2.2.1||((k.length:Int) !=16));case true=>grind[Ah]
 simp only[dC,eK]at hc;have hq:=(Ah hc.1).1;have hs:=adi hn (l:=l) (d:=d) (k:=k) (s:=(bK l m d q.1).1) z hq;have e0:br n cX ((bK l m d q.1).2.1,(og l m d q k (bK l m d q.1).1).2.1,q.2.2.1,aiQ,false,q.2.2.2.2.2):=⟨⟨bN,bN,bN,bN⟩,⟨bN,bN,bN⟩,⟨bN,bN,bN⟩,⟨⟨bN,bN,bN,bN,bN,bN,bN,bN,bN,bN,bN,bN,bN,bN,bN,dR _⟩,bN,bN⟩,bN,bN⟩
 cases (bK l m d q.1).2.2&&(og l m d q k (bK l m d q.1).1).2.2 with|true=>grind|false=>exact⟨z,rfl,⟨⟨bN,bN,bN,bN⟩,⟨bN,bN,bN⟩,⟨bN,bN,bN⟩,⟨⟨bN,bN,bN,bN,bN,bN,bN,bN,bN,bN,bN,bN,bN,bN,bN,dR _⟩,bN,bN⟩,bN,bN⟩,λ_=>⟨hq,rfl⟩⟩
def evS (k:Nat)(h:Host):Host:=
 match h.2.2.2.2.2.1[k]? with
 |some v=>(h.1,h.2.1,h.2.2.1,h.2.2.2.1,h.2.2.2.2.1,h.2.2.2.2.2.1.set k (evV v),h.2.2.2.2.2.2)
 |none=>h
def UH (k:Nat):Nat->Host->Host
 |0,h=>h
 |i+1,h=>evS k (UH k i h)
theorem ad2 (k:Nat)(h:Host):lJ (k+1) h (evS k h):=by unfold evS;cases h.2.2.2.2.2.1[k]? with|none=>exact lJ.refl _ _|some v=>exact⟨rfl,rfl,rfl,rfl,λ_ _=>rfl,rfl,aH ..,λj hj=>aO (by omega),rfl,rfl,rfl⟩
theorem J2 (k:Nat)(h:Host):∀i,lJ (k+1) h (UH k i h)
 |0=>lJ.refl _ _
 |i+1=>(J2 k h i).trans (ad2 k _)
theorem agv {n:Nat}(k:Nat)(z:br n cI h):br n cI (evS k h):=by unfold evS;cases h.2.2.2.2.2.1[k]? with|none=>exact z|some v=>exact⟨z.1,z.2.1,z.2.2.1,z.2.2.2.1,z.2.2.2.2.1,NW z.2.2.2.2.2.1,z.2.2.2.2.2.2⟩
theorem aal {n:Nat}(k:Nat)(z:br n cI h):∀i,br n cI (UH k i h)
 |0=>z
 |i+1=>agv k (aal k z i)
theorem YA (h:Host)(k:Nat)(b:Int)(h1:k<h.2.2.2.1.length)(h2:k<h.2.2.2.2.2.1.length)(hq:hZ h.2.2.2.1[k].2.1=true)(hb:0<=b/\b<=31):lj h (k:Int) b=some ((),UH k ((h.2.2.2.1[k].2.1.2.2-b)%(2*h.2.2.2.1[k].2.1.2.1)).toNat h):=by
 have xS:=cR;have q:=my hq;unfold lj;rw[aX h1,ab];generalize h.2.2.2.1[k]=x at q⊢;rw[aj (n:=x.2.1.2.2-b) (by omega) (by omega),aj (n:=2*x.2.1.2.1) (by omega) (by omega),LV _ _,ab];have hm:0<=(x.2.1.2.2-b)%(2*x.2.1.2.1)/\(x.2.1.2.2-b)%(2*x.2.1.2.1)<32:=by have g1:=Int.emod_nonneg (x.2.1.2.2-b) (show 2*x.2.1.2.1≠0 by omega);have g2:=gb (x.2.1.2.2-b) (show 0<2*x.2.1.2.1 by omega);omega
 generalize (x.2.1.2.2-b)%(2*x.2.1.2.1)=c at hm⊢;obtain⟨c,rfl⟩:=aJ hm.1;rw[ay];have e0:((c:Int),h)=(((c:Int)-((0:Nat):Int)),UH k 0 h):=by simp[UH]
 rw[e0];refine cC (λi=>((c:Int)-(i:Int),UH k i h)) c (by omega) (λi nx hi=>?_) (λnx=>?_);have kk:=J2 k h i;have i1:k<(UH k i h).2.2.2.2.2.1.length:=by rw[kk.vec];exact h2
 rw[show UH k (i+1) h=evS k (UH k i h) from rfl];generalize UH k i h=s at i1⊢;simp only[qs,evS];rw[jF,af,al i1];simp only[aX i1,ab,abI,ay];rw[aj (by omega) (by omega),show(c:Int)-(i:Int)-1=(c:Int)-((i+1:Nat):Int) by omega];simp only[qs];rw[gr,ae]
theorem Zz (h:Host)(k:Nat)(b:Int)(h1:k<h.2.2.2.1.length)(h2:k<h.2.2.2.2.2.1.length)(hq:hZ h.2.2.2.1[k].2.1=true)(hb:0<=b/\b<=31):lu h (k:Int) b=some ((),UH k ((h.2.2.2.1[k].2.1.2.2-b)%(2*h.2.2.2.1[k].2.1.2.1)).toNat h):=by
 have xS:=cR;have q:=my hq;unfold lu;rw[aX h1,ab,ab];generalize h.2.2.2.1[k]=x at q⊢;have em:ak (BitVec.toNat (fR (x.2.1.2.2-b)&&&fR (2*x.2.1.2.1-1)))=(x.2.1.2.2-b)%(2*x.2.1.2.1):=by
  have key:∀j:Nat,j<63->2*x.2.1.2.1=2^j->ak (BitVec.toNat (fR (x.2.1.2.2-b)&&&fR (2*x.2.1.2.1-1)))=(x.2.1.2.2-b)%(2*x.2.1.2.1):=by intro j hj e;have:=Ed (x.2.1.2.2-b) j hj;rw[<-e]at this;rw[this];have g1:=Int.emod_nonneg (x.2.1.2.2-b) (show 2*x.2.1.2.1≠0 by omega);have g2:=gb (x.2.1.2.2-b) (show 0<2*x.2.1.2.1 by omega);exact aj (by omega) (by omega)
  rcases q.2.2.1 with e|e|e|e;exact key 2 (by omega) (by rw[e];rfl);exact key 3 (by omega) (by rw[e];rfl);exact key 4 (by omega) (by rw[e];rfl);exact key 5 (by omega) (by rw[e];rfl)
 rw[aj (n:=x.2.1.2.2-b) (by omega) (by omega),aj (n:=2*x.2.1.2.1) (by omega) (by omega),aj (n:=2*x.2.1.2.1-1) (by omega) (by omega),em];have hm:0<=(x.2.1.2.2-b)%(2*x.2.1.2.1)/\(x.2.1.2.2-b)%(2*x.2.1.2.1)<32:=by have g1:=Int.emod_nonneg (x.2.1.2.2-b) (show 2*x.2.1.2.1≠0 by omega);have g2:=gb (x.2.1.2.2-b) (show 0<2*x.2.1.2.1 by omega);omega
 generalize (x.2.1.2.2-b)%(2*x.2.1.2.1)=c at hm⊢;obtain⟨c,rfl⟩:=aJ hm.1;rw[ay];refine cC (λi=>((i:Int),UH k i h)) c (by omega) (λi nx hi=>?_) (λnx=>?_);have kk:=J2 k h i;have i1:k<(UH k i h).2.2.2.2.2.1.length:=by rw[kk.vec];exact h2
 rw[show UH k (i+1) h=evS k (UH k i h) from rfl];generalize UH k i h=s at i1⊢;simp only[qH,evS];rw[jF,af,al i1];simp only[aX i1,ab,acV,ay];rw[aj (by omega) (by omega)];rfl;simp only[qH];rw[gr,ae]
def I0 (h:Host)(k:Nat)(f:bt×bh):Host:=(f.1,h.2.1,h.2.2.1,h.2.2.2.1.set k f.2,h.2.2.2.2)
def Mj (h:Host)(k:Nat)(b:Int)(f:bt×bh):Host:=UH k ((f.2.2.1.2.2-b)%(2*f.2.2.1.2.1)).toNat (I0 h k f)
def jW (k:Nat)(h:Host):Host:=
 match h.2.2.2.1[k]? with
 |some x=>Mj h k x.2.1.2.2 (jV h.2.1 h.1 0 x h.2.2.2.2.2.2.2.2.1.2.2.1)
 |none=>h
theorem M9 {b:Int}(hf:f.1.length=h.1.length):lJ (k+1) h (Mj h k b f):=by
 have a:lJ (k+1) h (I0 h k f):=⟨hf,rfl,rfl,aH ..,λj hj=>aO (by omega),rfl,rfl,λ_ _=>rfl,rfl,rfl,rfl⟩
 exact a.trans (J2 k (I0 h k f) _)
theorem Qm {n:Nat}{b:Int}(z:br n cI h)(h1:br n (.sl .str) f.1)(h2:br n cX f.2):br n cI (Mj h k b f):=by
 have a:br n cI (I0 h k f):=⟨h1,z.2.1,z.2.2.1,px z.2.2.2.1 h2,z.2.2.2.2⟩
 exact aal k a _
theorem OC {q:bh}{k:Bytes}:(jV l m d q k).1.length=m.length:=by
 have hs:(og l m d q k (bK l m d q.1).1).1.length=m.length:=by
  unfold og;cases !(eE (bK l m d q.1).1).2||(((eE (bK l m d q.1).1).1.1 !=3)||decide ((eE (bK l m d q.1).1).1.2.2.1<((eS q.2.2.2.1.1).1.length:Int)));case true=>rfl
  cases (mP l m d (eE (bK l m d q.1).1).1.2.2.2.1 (eS q.2.2.2.1.1).1 true).2;rfl;have h2:=mx l m d (eE (bK l m d q.1).1).1.2.2.2.1 (eS q.2.2.2.1.1).1 true;simp only[ae,ai];unfold EB;cases !hZ q.2.1|| !EU ((eE (bK l m d q.1).1).1.2.2.2.2.2,((eS q.2.2.2.1.1).1.length:Int),q.2.2.2.1.2.1,q.2.2.2.1.2.2,Df k (Ay (mJ q.2.2.2.1.1)));case true=>exact h2
  cases (mP l (mP l m d (eE (bK l m d q.1).1).1.2.2.2.1 (eS q.2.2.2.1.1).1 true).1 d (mA q.2.1) (X9 ((eE (bK l m d q.1).1).1.2.2.2.2.2,((eS q.2.2.2.1.1).1.length:Int),q.2.2.2.1.2.1,q.2.2.2.1.2.2,Df k (Ay (mJ q.2.2.2.1.1))) (DY q.2.1)) true).2 with|false=>exact h2|true=>exact(mx ..).trans h2
 unfold jV;grind
theorem Dd (k:Nat)(h:Host):lJ (k+1) h (jW k h):=by grind[jW,lJ.refl,M9,OC]
theorem Jp (k:Nat)(h:Host)(n:Nat)(hn:1000<=n)(z:br n cI h):br (n+0) cI (jW k h):=by unfold jW;cases hx:h.2.2.2.1[k]? with|none=>exact z|some x=>have hf:=H0 (show 128<=n by omega) (l:=h.2.1) (d:=0) (k:=h.2.2.2.2.2.2.2.2.1.2.2.1) z.1 (z.2.2.2.1.2 _ (cU hx));exact Qm z hf.1 hf.2.2.1
def EY (h:Host):Host:=bif fi h then ic jW h.2.2.2.1.length h else h
theorem abt {n:Nat}(hn:1000<=n)(k:Ar n h):Ar n (EY h):=by unfold EY;cases fi h with|false=>exact k|true=>refine⟨(CW hn Jp k.z _).mono,?_⟩;simp only[af];rw[(ta Dd h _).tx];exact k.t
theorem Cc (hb:fi h=true):∀i (hi:i<h.2.2.2.1.length),PE h.2.2.2.1[i]=true:=by grind[fi,WC]
theorem M8 {b:Int}(h1:k<h.2.2.2.1.length)(h2:k<h.2.2.2.2.2.1.length)(hq:hZ f.2.2.1=true)(hb:0<=b/\b<=31:=by omega): lj (f.1,h.2.1,h.2.2.1,h.2.2.2.1.set k f.2,h.2.2.2.2) (k:Int) b=some ((),Mj h k b f):=by
 have h3:k<(I0 h k f).2.2.2.1.length:=by show k<(h.2.2.2.1.set k f.2).length;rw[aH];exact h1
 have e:(I0 h k f).2.2.2.1[k]=f.2:=List.getElem_set_self _;have a:=YA (I0 h k f) k b h3 h2 (by rw[e];exact hq) hb;rw[e]at a;exact a
theorem Na {b:Int}(h1:k<h.2.2.2.1.length)(h2:k<h.2.2.2.2.2.1.length)(hq:hZ f.2.2.1=true)(hb:0<=b/\b<=31:=by omega): lu (f.1,h.2.1,h.2.2.1,h.2.2.2.1.set k f.2,h.2.2.2.2) (k:Int) b=some ((),Mj h k b f):=by
 have h3:k<(I0 h k f).2.2.2.1.length:=by show k<(h.2.2.2.1.set k f.2).length;rw[aH];exact h1
 have e:(I0 h k f).2.2.2.1[k]=f.2:=List.getElem_set_self _;have c:=Zz (I0 h k f) k b h3 h2 (by rw[e];exact hq) hb;rw[e]at c;exact c
theorem YE (h:Host)(k:Ar 900000000 h):wq h=some (EY h):=by
 have xS:=cR;unfold wq EY;rw[jh h (k.z.mono),ab,wg h (k.sz),ab];cases hb:fi h;rfl;have hl:=nn (by simp only[fi,ah]at hb;exact hb.2.2.2.2.1:xj h=true);have hr:=Cc hb;simp only[ai,ae,af];refine cC (λi=>((i:Int),ic jW i h)) h.2.2.2.1.length (by omega) (λi nx hi=>?_) (λnx=>?_);have kk:=ta Dd h i;have zz:br 900000000 cI (ic jW i h):=(CW (by omega) Jp k.z i).mono;have i1:i<(ic jW i h).2.2.2.1.length:=by rw[kk.rx];exact hi
 have i2:i<(ic jW i h).2.2.2.2.2.1.length:=by rw[kk.vec];omega
 have e1:(ic jW i h).2.2.2.1[i]=h.2.2.2.1[i]:=by have:=kk.rxs i (aR _);rw[al i1,al hi]at this;exact cE this
 rw[show ic jW (i+1) h=jW i (ic jW i h) from rfl];generalize ic jW i h=s at zz i1 i2 e1⊢;have z1:s.1.length<=900000000:=zz.1.1;have z2:s.2.1.length<=900000000:=zz.2.1.1;have VK:=hr i hi;rw[<-e1]at VK;have hqd:=my (Ah VK).1;have hf:=H0 (show 128<=900000000 by omega) (l:=s.2.1) (d:=0) (k:=s.2.2.2.2.2.2.2.2.1.2.2.1) zz.1 (zz.2.2.2.1.2 _ (bc i1));have ev:=M8 (h:=s) (k:=i) (b:=s.2.2.2.1[i].2.1.2.2) (f:=jV s.2.1 s.1 0 s.2.2.2.1[i] s.2.2.2.2.2.2.2.2.1.2.2.1) i1 i2 (hf.2.2.2 VK).1;simp only[qj,jW];rw[jF,af,al i1];simp only[aX i1,aX hi,ab,LD s.2.1 s.1 0 _ _ (show s.2.1.length<=10^9 by omega) (show s.1.length<=10^9 by omega),ay,<-e1,ev];rw[aj (by omega) (by omega)];rfl;simp only[qj];rw[gr,ae]
theorem ZD (h:Host)(k:Ar 900000000 h):xx h=some (EY h):=by
 have xS:=cR;unfold xx EY;rw[jm h (k.z.mono),ab];have hv:h.2.2.2.1.length<=900000000:=k.z.2.2.2.1.1;cases hb:fi h with
 |false=>
  obtain⟨g,hg⟩:∃g,fuel=g+1:=⟨fuel-1,by omega⟩
  rw[hg,aI,mE,rA h (k.sz),hb];cases decide ((0:Int)<(h.2.2.2.1.length:Int))<;>rfl
 |true=>
  have hl:=nn (by simp only[fi,ah]at hb;exact hb.2.2.2.2.1:xj h=true);have hr:=Cc hb;simp only[af];refine cC (λi=>((i:Int),ic jW i h)) h.2.2.2.1.length (by omega) (λi nx hi=>?_) (λnx=>?_);have kk:=ta Dd h i;have zz:br 900000000 cI (ic jW i h):=(CW (by omega) Jp k.z i).mono;have i1:i<(ic jW i h).2.2.2.1.length:=by rw[kk.rx];exact hi
  have i2:i<(ic jW i h).2.2.2.2.2.1.length:=by rw[kk.vec];omega
  have e1:(ic jW i h).2.2.2.1[i]=h.2.2.2.1[i]:=by have:=kk.rxs i (aR _);rw[al i1,al hi]at this;exact cE this
  have em:=kk.maps;have es:=kk.ste;rw[show ic jW (i+1) h=jW i (ic jW i h) from rfl];generalize ic jW i h=s at zz i1 i2 e1 em es⊢;have z1:s.1.length<=900000000:=zz.1.1;have z2:s.2.1.length<=900000000:=zz.2.1.1;have VK:=hr i hi;rw[<-e1]at VK;have hqd:=my (Ah VK).1;have hf:=H0 (show 128<=900000000 by omega) (l:=s.2.1) (d:=0) (k:=s.2.2.2.2.2.2.2.2.1.2.2.1) zz.1 (zz.2.2.2.1.2 _ (bc i1));have ev:=Na (h:=s) (k:=i) (b:=s.2.2.2.1[i].2.1.2.2) (f:=jV s.2.1 s.1 0 s.2.2.2.1[i] s.2.2.2.2.2.2.2.2.1.2.2.1) i1 i2 (hf.2.2.2 VK).1;simp only[mE,jW,rA h (k.sz (by omega)),hb];rw[jF,af,al i1];simp only[aX i1,aX hi,ab,af,<-em,<-es,<-e1,Mf s.2.1 s.1 0 _ _ (show s.2.1.length<=10^9 by omega) (show s.1.length<=10^9 by omega),ay,ev];rw[aj (by omega) (by omega)];rfl;simp only[mE];rw[gr,ae,ab,ae]
def Pt (a b:aU):Bool:=(a.1==b.1)&&((a.2.1==b.2.1)&&((a.2.2.1==b.2.2.1)&&((a.2.2.2.1==b.2.2.2.1)&&((a.2.2.2.2.2.1==b.2.2.2.2.2.1)&&((a.2.2.2.2.2.2.1==b.2.2.2.2.2.2.1)&&((a.2.2.2.2.2.2.2.1==b.2.2.2.2.2.2.2.1)&&((a.2.2.2.2.2.2.2.2.1==b.2.2.2.2.2.2.2.2.1)&&((a.2.2.2.2.2.2.2.2.2.1==b.2.2.2.2.2.2.2.2.2.1)&&((a.2.2.2.2.2.2.2.2.2.2.1==b.2.2.2.2.2.2.2.2.2.2.1)&&((a.2.2.2.2.2.2.2.2.2.2.2.2.1==b.2.2.2.2.2.2.2.2.2.2.2.2.1)&&((a.2.2.2.2.2.2.2.2.2.2.2.2.2.2.1==b.2.2.2.2.2.2.2.2.2.2.2.2.2.2.1))))))))))))
theorem afL (a b:aU):zE a b=some (Pt a b):=by simp_all[zE,Pt]
theorem aeN (a b:aU):yQ a b=some (Pt a b):=by simp_all[yQ,Pt]
def aiO (s:kc)(p:aU):Bool:=(p.2.2.2.2.2.2.2.2.2.2.2.1==tmod (ak (s.1.2.2.2.2.2.2.2.2.2.2.2.1+(s.1.2.2.2.2.2.2.2.2.2.2.2.2.2.2.2.length:Int))) 4294967296)&&(p.2.2.2.2.1==tmod (ak (s.1.2.2.2.2.1+s.2.2)) 65536)
def Ss (s:kc)(p:aU):Bool:=decide (1<=s.2.1)&&(dI s.2.2 1 320&&(decide ((s.1.2.2.2.2.2.2.2.2.2.2.2.2.2.2.2.length:Int)=s.2.1*s.2.2)&&(dI (p.2.2.2.2.2.2.2.2.2.2.2.2.2.2.2.length:Int) 1 s.2.1&&decide ((s.1.2.2.2.2.2.2.2.2.2.2.2.2.2.2.2.length:Int)+(p.2.2.2.2.2.2.2.2.2.2.2.2.2.2.2.length:Int)<=320))))
def aek (s:kc)(p:aU):Bool:=eu s.1&&(jN p&&(Pt s.1 p&&((p.2.2.2.2.2.2.2.2.1==6)&&((s.1.2.2.2.2.2.2.2.2.2.2.2.2.2.1==16)&&G3 p.2.2.2.2.2.2.2.2.2.2.2.2.2.1))))
def Ls (s:kc)(p:aU):Bool:=aek s p&&(Ss s p&&aiO s p)
theorem KH (h:jN p=true)(h6:(p.2.2.2.2.2.2.2.2.1==6)=true):dI p.2.2.2.2.2.2.2.2.2.2.2.2.2.1 0 31=true:=by grind[jN,eu,Mc,ON]
theorem JG (h:jN p=true):p.2.2.2.2.2.2.2.2.2.2.2.2.2.2.2.length<=128:=by grind[jN]
theorem aaQ (s:kc)(p:aU):xu s p=some (Ls s p):=by
 unfold xu Ls aek;rw[sI,ab,FN,ab,afL,ab];cases hs:eu s.1;rfl;cases hp:jN p;rfl;cases Pt s.1 p;rfl;cases h6:p.2.2.2.2.2.2.2.2.1==6 with|false=>simp only[bne,h6];rfl|true=>?_
 cases Xx:s.1.2.2.2.2.2.2.2.2.2.2.2.2.2.1==16 with|false=>simp only[bne,h6,Xx];rfl|true=>?_
 have hf:=KH hp h6;have hsl:=yA hs;have C3:=JG hp;simp only[bne,h6,Xx,ai,ae,ab,Oy _ hf,bF];cases G3 p.2.2.2.2.2.2.2.2.2.2.2.2.2.1;rfl;simp only[ai,ae,cO,ab,bF,cw];have tw:(bif !dI s.2.1 1 320 then some true else bif !dI s.2.2 1 320 then some true else bif !((s.1.2.2.2.2.2.2.2.2.2.2.2.2.2.2.2.length:Int)==ak (s.2.1*s.2.2)) then some true else bif !dI (p.2.2.2.2.2.2.2.2.2.2.2.2.2.2.2.length:Int) 1 s.2.1 then some true else some (decide (ak ((s.1.2.2.2.2.2.2.2.2.2.2.2.2.2.2.2.length:Int)+(p.2.2.2.2.2.2.2.2.2.2.2.2.2.2.2.length:Int))>320)))=some (!Ss s p):=by
  unfold Ss;generalize s.1.2.2.2.2.2.2.2.2.2.2.2.2.2.2.2.length=n at hsl⊢;generalize p.2.2.2.2.2.2.2.2.2.2.2.2.2.2.2.length=m at C3⊢;rw[aj (n:=(n:Int)+(m:Int)) (by omega) (by omega)];cases h2:dI s.2.2 1 320 with
  |false=>cases dI s.2.1 1 320<;>cases decide (1<=s.2.1)<;>rfl
  |true=>
   have UI:=bO.1 h2;by_cases h1:1<=s.2.1;rw[ax h1];by_cases h3:s.2.1<=320;have hb:s.2.1*s.2.2<=320*320:=Int.mul_le_mul h3 UI.2 (by omega) (by omega);have UJ:0<=s.2.1*s.2.2:=Int.mul_nonneg (by omega) (by omega);rw[bO.2 ⟨h1,h3⟩,aj (n:=s.2.1*s.2.2) (by omega) (by omega)];by_cases h4:(n:Int)=s.2.1*s.2.2;rw[show((n:Int)==s.2.1*s.2.2)=true from by rw[bD];exact h4,ax h4];cases dI (m:Int) 1 s.2.1 with|false=>rfl|true=>by_cases h5:(n:Int)+(m:Int)<=320;rw[ax h5,ar (show¬(n:Int)+(m:Int)>320 by omega)];rfl;rw[ar h5,ax (show(n:Int)+(m:Int)>320 by omega)];rfl
   rw[show((n:Int)==s.2.1*s.2.2)=false from by rw[cG];exact h4,ar h4];rfl;have hb:321*1<=s.2.1*s.2.2:=Int.mul_le_mul (by omega) (by omega) (by omega) (by omega);rw[show dI s.2.1 1 320=false from by rw[Bool.eq_false_iff];intro hc;have:=bO.1 hc;omega,ar (show¬(n:Int)=s.2.1*s.2.2 by omega)];rfl;rw[ar h1,show dI s.2.1 1 320=false from by rw[Bool.eq_false_iff];intro hc;have:=bO.1 hc;omega];rfl
 simp only[bne,cw]at tw⊢;rw[cE tw];cases Ss s p;rfl;rw[mI,mI];simp only[ai,ae,cw,ab,cF,bF];rfl
theorem aat (s:kc)(p:aU):wj s p=some (Ls s p):=by
 unfold wj Ls aek;rw[pN,ab,E7,ab,aeN,ab];cases hs:eu s.1;rfl;cases hp:jN p;rfl;cases Pt s.1 p;rfl;cases h6:p.2.2.2.2.2.2.2.2.1==6 with|false=>simp only[bne,h6];rfl|true=>?_
 cases Xx:s.1.2.2.2.2.2.2.2.2.2.2.2.2.2.1==16 with|false=>simp only[bne,h6,Xx];rfl|true=>?_
 have hf:=KH hp h6;have hsl:=yA hs;have C3:=JG hp;simp only[bne,h6,Xx,ai,ae,ab,Ox _ hf,bF];cases G3 p.2.2.2.2.2.2.2.2.2.2.2.2.2.1;rfl;simp only[ai,ae,dh,ab,bF];rw[aF (show¬(4294967296:Nat)=0 by omega),aF (show¬(65536:Nat)=0 by omega)];simp only[cw,cF];rw[show((p.2.2.2.2.2.2.2.2.2.2.2.1==tmod (ak (s.1.2.2.2.2.2.2.2.2.2.2.2.1+(s.1.2.2.2.2.2.2.2.2.2.2.2.2.2.2.2.length:Int))) 4294967296)&&(p.2.2.2.2.1==tmod (ak (s.1.2.2.2.2.1+s.2.2)) 65536))=aiO s p from rfl];unfold Ss;generalize aiO s p=q;generalize s.1.2.2.2.2.2.2.2.2.2.2.2.2.2.2.2.length=n at hsl⊢;generalize p.2.2.2.2.2.2.2.2.2.2.2.2.2.2.2.length=m at C3⊢;rw[aj (n:=(n:Int)+(m:Int)) (by omega) (by omega)];by_cases h1:s.2.1<1;rw[ax h1,ar (show¬1<=s.2.1 by omega)];rfl;rw[ar h1,ax (show 1<=s.2.1 by omega)];cases h2:dI s.2.2 1 320;rfl;have UI:=bO.1 h2;simp only[ai,ae,ab,bF];rw[mI,mI];have e1:tmod (n:Int) s.2.2=(n:Int)%s.2.2:=eP (by omega);have e2:Int.tdiv (n:Int) s.2.2=(n:Int)/s.2.2:=Int.tdiv_eq_ediv_of_nonneg (by omega);have hdm:=Int.emod_add_mul_ediv (n:Int) s.2.2;have hq0:0<=(n:Int)/s.2.2:=Int.ediv_nonneg (by omega) (by omega);have Yx:(n:Int)/s.2.2<=(n:Int):=Int.ediv_le_self _ (by omega);rw[e1,e2,aj (n:=(n:Int)/s.2.2) (by omega) (by omega)];by_cases h3:(n:Int)=s.2.1*s.2.2;have h4:(n:Int)%s.2.2=0:=by rw[h3];exact Int.mul_emod_left ..
 have h5:(n:Int)/s.2.2=s.2.1:=by rw[h3];exact Int.mul_ediv_cancel _ (by omega)
 rw[h4,h5,ax h3];simp only[fZ,ai,ae,ab,bF];cases dI (m:Int) 1 s.2.1;rfl;cases decide ((n:Int)+(m:Int)<=320)<;>rfl;rw[ar h3];cases h4:(n:Int)%s.2.2==0 with
 |false=>rfl
 |true=>
  have h4':(n:Int)%s.2.2=0:=by simpa using h4
  have h5:((n:Int)/s.2.2==s.2.1)=false:=by rw[cG];intro h5;rw[h4',h5]at hdm;exact h3 (by rw[Int.mul_comm];omega)
  simp only[ai,ae,h5,cf,ab,af];rfl
def RY (s:kc)(p:aU):kc:=bif Ls s p then((s.1.1,s.1.2.1,s.1.2.2.1,s.1.2.2.2.1,s.1.2.2.2.2.1,s.1.2.2.2.2.2.1,s.1.2.2.2.2.2.2.1,s.1.2.2.2.2.2.2.2.1,s.1.2.2.2.2.2.2.2.2.1,s.1.2.2.2.2.2.2.2.2.2.1,s.1.2.2.2.2.2.2.2.2.2.2.1,s.1.2.2.2.2.2.2.2.2.2.2.2.1,s.1.2.2.2.2.2.2.2.2.2.2.2.2.1,p.2.2.2.2.2.2.2.2.2.2.2.2.2.1,s.1.2.2.2.2.2.2.2.2.2.2.2.2.2.2.1,s.1.2.2.2.2.2.2.2.2.2.2.2.2.2.2.2++p.2.2.2.2.2.2.2.2.2.2.2.2.2.2.2),s.2.1,ak (s.2.2+1)) else s
theorem S0 {s:kc}(h:Ls s p=true):s.1.2.2.2.2.2.2.2.2.2.2.2.2.2.2.2.length+p.2.2.2.2.2.2.2.2.2.2.2.2.2.2.2.length<=320:=by grind[Ls,Ss]
theorem afI (s:kc)(p:aU):Iq s p=some (RY s p):=by unfold Iq RY;rw[aaQ,ab];cases h:Ls s p;rfl;have:=S0 h;grind[aQ]
theorem aeL (s:kc)(p:aU):H8 s p=some (RY s p):=by unfold H8 RY;rw[aat,ab];cases h:Ls s p;rfl;have:=S0 h;grind[aQ]
def singleR (p:aU):kc:=(p,(p.2.2.2.2.2.2.2.2.2.2.2.2.2.2.2.length:Int),1)
theorem YL (p:aU):Hk p=some (singleR p):=rfl
theorem ZK (p:aU):HH p=some (singleR p):=rfl
def RB (q:bh)(s:kc):bh:=(q.1,q.2.1,q.2.2.1,s,true,q.2.2.2.2.2)
def lX (l:aq aA)(m:bt)(d:Int)(q:bh)(k:Bytes)(p:aU)(c:Bool):bt×bh:=
 bif !PE q||(!jN p||((k.length:Int) !=16)) then(m,q) else
 bif c&&(q.2.2.2.2.1&&Ls q.2.2.2.1 p) then(m,q.1,q.2.1,q.2.2.1,RY q.2.2.2.1 p,q.2.2.2.2) else
 bif c then((jV l m d q k).1,RB (jV l m d q k).2 (singleR p)) else jV l (jV l m d q k).1 d (RB (jV l m d q k).2 (singleR p)) k
theorem YB (l:aq aA)(m:bt)(d:Int)(q:bh)(k:Bytes)(p:aU)(c:Bool)(hl:l.length<=10^9)(hm:m.length<=10^9):oJ l m d q k p c=some (lX l m d q k p c):=by
 unfold oJ lX RB;simp only[TI,E7,ab,fT m (show m.length<=1073741824 by omega),aat,aeL,LD l m d q k hl hm,YL,LD l (jV l m d q k).1 d _ k hl (show(jV l m d q k).1.length<=10^9 by rw[OC];exact hm)];cases PE q;rfl;cases jN p;rfl;cases (k.length:Int) !=16;case true=>rfl
 cases c;rfl;cases q.2.2.2.2.1;rfl;cases Ls q.2.2.2.1 p<;>rfl
theorem ZA (l:aq aA)(m:bt)(d:Int)(q:bh)(k:Bytes)(p:aU)(c:Bool)(hl:l.length<=10^9)(hm:m.length<=10^9):oZ l m d q k p c=some (lX l m d q k p c):=by
 unfold oZ lX RB;simp only[Uq,FN,ab,hY m (show m.length<=1073741824 by omega),aaQ,afI,Mf l m d q k hl hm,ZK,Mf l (jV l m d q k).1 d _ k hl (show(jV l m d q k).1.length<=10^9 by rw[OC];exact hm)];cases PE q;rfl;cases jN p;rfl;cases (k.length:Int) !=16;case true=>rfl
 cases c;rfl;cases q.2.2.2.2.1;rfl;cases Ls q.2.2.2.1 p<;>rfl
theorem abz {n:Nat}{q:bh}{s:kc}(h:s.1.2.2.2.2.2.2.2.2.2.2.2.2.2.2.2.length<=n):br n cX (RB q s):=⟨⟨bN,bN,bN,bN⟩,⟨bN,bN,bN⟩,⟨bN,bN,bN⟩,⟨⟨bN,bN,bN,bN,bN,bN,bN,bN,bN,bN,bN,bN,bN,bN,bN,h⟩,bN,bN⟩,bN,bN⟩
theorem Jg {n:Nat}(hn:1000<=n){q:bh}{k:Bytes}{c:Bool}(z:br n (.sl .str) m)(zq:br n cX q)(hq:hZ q.2.1=true): br n (.sl .str) (lX l m d q k p c).1/\(lX l m d q k p c).1.length=m.length/\br n cX (lX l m d q k p c).2/\hZ (lX l m d q k p c).2.2.1=true:=by
 unfold lX;cases hc: !PE q||(!jN p||((k.length:Int) !=16));case true=>grind
 simp only[dC,eK]at hc;have hp:=JG hc.2.1;cases hj:c&&(q.2.2.2.2.1&&Ls q.2.2.2.1 p)with|true=>simp only[ah]at hj;have:=S0 hj.2.2;refine⟨z,rfl,⟨⟨bN,bN,bN,bN⟩,⟨bN,bN,bN⟩,⟨bN,bN,bN⟩,⟨?_,bN,bN⟩,bN,bN⟩,hq⟩;refine⟨bN,bN,bN,bN,bN,bN,bN,bN,bN,bN,bN,bN,bN,bN,bN,?_⟩;unfold RY;rw[hj.2.2];show List.length (q.2.2.2.1.1.2.2.2.2.2.2.2.2.2.2.2.2.2.2.2++p.2.2.2.2.2.2.2.2.2.2.2.2.2.2.2)<=n;rw[aw];omega|false=>grind[H0,RB,jV,singleR,abz]
theorem WE {r:gj}(h:EF r=true):0<=r.2.2.2.2.2.2.2.2:=by
 by_cases h0:0<=r.2.2.2.2.2.2.2.2;exact h0;exfalso;have e:∀b:Int,dI r.2.2.2.2.2.2.2.2 0 b=false:=λb=>by rw[Bool.eq_false_iff];intro hc;have:=bO.1 hc;omega
 have e1:(r.2.2.2.2.2.2.2.2==0)=false:=by rw[cG];omega
 revert h;unfold EF;have z:∀c:Bool,(bif c then false else false)=false:=by intro c;cases c<;>rfl
 simp only[mG,cO,ab,cw,e,e1,fz,z,ae];intro h;cases h
theorem SE {s:dY}{q:Int}:yx s q p= -1\/∃n:Nat,yx s q p=(n:Int)/\(n:Int)<q:=by
 unfold yx;cases hb: !iH s q|| !eu p;case true=>exact .inl rfl
 simp only[dC,eK]at hb;have hs:=hb.1;simp only[iH,ah]at hs;simp only[ae];cases hd:decide (G1 s.1 p>=0)with
 |true=>obtain⟨n,hn,hl⟩:=Ow s.1 p (ik hd);simp only[af,hn,ay,fM hl];cases s.1[n].2.2.2.2.2.2.2.1==1 with|true=>exact .inl rfl|false=>have h1:=aW.1 hs.1.2 _ (bc hl);have h2:=hs.1.1.1.1;simp only[CP,ah]at h2;have h3:=WE (aW.1 h2.1 _ (bc hl));simp only[aP,dm]at h1;exact .inr ⟨s.1[n].2.2.2.2.2.2.2.2.toNat,by grind,by omega⟩
 |false=>
  simp only[ae];cases Xz:decide (findF s.2.1 (mJ p)>=0)with
  |true=>obtain⟨n,hn,hl⟩:=Ov s.2.1 (mJ p) (ik Xz);simp only[af,hn,ay,fM hl];have h1:=aW.1 hs.2 _ (bc hl);have h2:=hs.1.1.1.2;simp only[xP,ah,bD]at h2;have h3:=aW.1 h2.2 n (dy.2 (by omega));unfold nT Su at h3;rw[yt hl]at h3;simp only[ah,bO]at h3;simp only[aP,dm]at h1;exact .inr ⟨s.2.1[n].2.2.toNat,by omega,by omega⟩
  |false=>
   simp only[ae];unfold Is;cases hc: !BG s.2.2 q||decide (DR s.2.2 (mJ p)<0);case true=>exact .inl rfl
   simp only[dC,eK,dm]at hc;obtain⟨n,hn,hl⟩:=Lu s.2.2 (mJ p) hc.2;have h1:=hc.1;simp only[BG,ah]at h1;have h2:=bO.1 (aW.1 h1.2 _ (bc hl));simp only[ae,hn,ay,fM hl];exact .inr ⟨s.2.2.2[n].toNat,by omega,by omega⟩
def GU (h:Host)(a b c d:Int):Host:=(h.1,h.2.1,h.2.2.1,h.2.2.2.1,h.2.2.2.2.1,h.2.2.2.2.2.1,h.2.2.2.2.2.2.1,h.2.2.2.2.2.2.2.1,h.2.2.2.2.2.2.2.2.1,h.2.2.2.2.2.2.2.2.2.1,h.2.2.2.2.2.2.2.2.2.2.1,h.2.2.2.2.2.2.2.2.2.2.2.1,h.2.2.2.2.2.2.2.2.2.2.2.2.1,h.2.2.2.2.2.2.2.2.2.2.2.2.2.1,ak (h.2.2.2.2.2.2.2.2.2.2.2.2.2.2.1+1),a,b,c,d)
def ue (h:Host)(x:Bytes):Host:=
 bif !fi h then h else
 bif (EC x).2 !=0 then GU h (ak (h.2.2.2.2.2.2.2.2.2.2.2.2.2.2.2.1+1)) h.2.2.2.2.2.2.2.2.2.2.2.2.2.2.2.2.1 h.2.2.2.2.2.2.2.2.2.2.2.2.2.2.2.2.2.1 h.2.2.2.2.2.2.2.2.2.2.2.2.2.2.2.2.2.2 else
 bif !zM h.2.2.2.2.2.2.2.1 (EC x).1 then GU h h.2.2.2.2.2.2.2.2.2.2.2.2.2.2.2.1 (ak (h.2.2.2.2.2.2.2.2.2.2.2.2.2.2.2.2.1+1)) h.2.2.2.2.2.2.2.2.2.2.2.2.2.2.2.2.2.1 h.2.2.2.2.2.2.2.2.2.2.2.2.2.2.2.2.2.2 else
 bif yx h.2.2.2.2.2.2.2.2.1 (h.2.2.2.1.length:Int) (EC x).1== -1 then GU h h.2.2.2.2.2.2.2.2.2.2.2.2.2.2.2.1 h.2.2.2.2.2.2.2.2.2.2.2.2.2.2.2.2.1 (ak (h.2.2.2.2.2.2.2.2.2.2.2.2.2.2.2.2.2.1+1)) h.2.2.2.2.2.2.2.2.2.2.2.2.2.2.2.2.2.2 else
 match h.2.2.2.1[(yx h.2.2.2.2.2.2.2.2.1 (h.2.2.2.1.length:Int) (EC x).1).toNat]? with
 |some q=>Mj (GU h h.2.2.2.2.2.2.2.2.2.2.2.2.2.2.2.1 h.2.2.2.2.2.2.2.2.2.2.2.2.2.2.2.2.1 h.2.2.2.2.2.2.2.2.2.2.2.2.2.2.2.2.2.1 (ak (h.2.2.2.2.2.2.2.2.2.2.2.2.2.2.2.2.2.2+1))) (yx h.2.2.2.2.2.2.2.2.1 (h.2.2.2.1.length:Int) (EC x).1).toNat q.2.1.2.2 (lX h.2.1 h.1 0 q h.2.2.2.2.2.2.2.2.1.2.2.1 (EC x).1 h.2.2.2.2.2.2.2.2.2.2.1)
 |none=>h
theorem TH (h:Host)(x:Bytes)(k:Ar 900000000 h)(hx:x.length<=10^9):rV h x=some (ue h x):=by
 have z:=k.z;have z1:h.1.length<=900000000:=z.1.1;have z2:h.2.1.length<=900000000:=z.2.1.1;have zf:h.2.2.2.2.2.2.2.1.2.2.length<=900000000:=z.2.2.2.2.2.2.2.1.2.2.1;have s1:h.2.2.2.2.2.2.2.2.1.1.length<=900000000:=z.2.2.2.2.2.2.2.2.1.1.1;have s2:h.2.2.2.2.2.2.2.2.1.2.1.length<=900000000:=z.2.2.2.2.2.2.2.2.1.2.1.1;have s3:h.2.2.2.2.2.2.2.2.1.2.2.2.length<=900000000:=z.2.2.2.2.2.2.2.2.1.2.2.2.1;unfold rV ue;rw[jh h (z.mono),ab,wg h (k.sz),ab];cases hb:fi h;rfl;have hl:=nn (by grind[fi]:xj h=true);have hr:=Cc hb;simp only[ai,ae,abS x hx,ab,VO h.2.2.2.2.2.2.2.1 _ (show h.2.2.2.2.2.2.2.1.2.2.length<=10^9 by omega),abY h.2.2.2.2.2.2.2.2.1 _ _ (show h.2.2.2.2.2.2.2.2.1.1.length<=10^9 by omega) (show h.2.2.2.2.2.2.2.2.1.2.1.length<=10^9 by omega) (show h.2.2.2.2.2.2.2.2.1.2.2.2.length<=10^9 by omega)];generalize EC x=f;cases f.2 !=0;case true=>rfl
 cases zM h.2.2.2.2.2.2.2.1 f.1;rfl;simp only[ai,ae];have lH:=SE (s:=h.2.2.2.2.2.2.2.2.1) (q:=(h.2.2.2.1.length:Int)) (p:=f.1);generalize yx h.2.2.2.2.2.2.2.2.1 (h.2.2.2.1.length:Int) f.1=r at lH⊢;rcases lH with rfl|⟨n,rfl,hn⟩;rfl;have i1:n<h.2.2.2.1.length:=by omega
 have i2:n<h.2.2.2.2.2.1.length:=by omega
 have hq:=(Ah (hr n i1)).1;have hqi:=my hq;have ha:=Jg (show 1000<=900000000 by omega) (l:=h.2.1) (d:=0) (k:=h.2.2.2.2.2.2.2.2.1.2.2.1) (p:=f.1) (c:=h.2.2.2.2.2.2.2.2.2.2.1) z.1 (z.2.2.2.1.2 _ (bc i1)) hq;have ev:=M8 (h:=GU h h.2.2.2.2.2.2.2.2.2.2.2.2.2.2.2.1 h.2.2.2.2.2.2.2.2.2.2.2.2.2.2.2.2.1 h.2.2.2.2.2.2.2.2.2.2.2.2.2.2.2.2.2.1 (ak (h.2.2.2.2.2.2.2.2.2.2.2.2.2.2.2.2.2.2+1))) (k:=n) (b:=h.2.2.2.1[n].2.1.2.2) (f:=lX h.2.1 h.1 0 h.2.2.2.1[n] h.2.2.2.2.2.2.2.2.1.2.2.1 f.1 h.2.2.2.2.2.2.2.2.2.2.1) i1 i2 ha.2.2.2;rw[show((n:Int)== -1)=false from by rw[cG];omega,ay,al i1];simp only[ae,aX i1,ab,YB h.2.1 h.1 0 _ _ _ _ (show h.2.1.length<=10^9 by omega) (show h.1.length<=10^9 by omega)];rw[show(lj ((lX h.2.1 h.1 0 h.2.2.2.1[n] h.2.2.2.2.2.2.2.2.1.2.2.1 f.1 h.2.2.2.2.2.2.2.2.2.2.1).1,h.2.1,h.2.2.1,h.2.2.2.1.set n (lX h.2.1 h.1 0 h.2.2.2.1[n] h.2.2.2.2.2.2.2.2.1.2.2.1 f.1 h.2.2.2.2.2.2.2.2.2.2.1).2,h.2.2.2.2.1,h.2.2.2.2.2.1,h.2.2.2.2.2.2.1,h.2.2.2.2.2.2.2.1,h.2.2.2.2.2.2.2.2.1,h.2.2.2.2.2.2.2.2.2.1,h.2.2.2.2.2.2.2.2.2.2.1,h.2.2.2.2.2.2.2.2.2.2.2.1,h.2.2.2.2.2.2.2.2.2.2.2.2.1,h.2.2.2.2.2.2.2.2.2.2.2.2.2.1,ak (h.2.2.2.2.2.2.2.2.2.2.2.2.2.2.1+1),h.2.2.2.2.2.2.2.2.2.2.2.2.2.2.2.1,h.2.2.2.2.2.2.2.2.2.2.2.2.2.2.2.2.1,h.2.2.2.2.2.2.2.2.2.2.2.2.2.2.2.2.2.1,ak (h.2.2.2.2.2.2.2.2.2.2.2.2.2.2.2.2.2.2+1)) (n:Int) h.2.2.2.1[n].2.1.2.2)=_ from ev,ab]
theorem Up (h:Host)(x:Bytes)(k:Ar 900000000 h)(hx:x.length<=10^9):sK h x=some (ue h x):=by
 have z:=k.z;have z1:h.1.length<=900000000:=z.1.1;have z2:h.2.1.length<=900000000:=z.2.1.1;have zf:h.2.2.2.2.2.2.2.1.2.2.length<=900000000:=z.2.2.2.2.2.2.2.1.2.2.1;have s1:h.2.2.2.2.2.2.2.2.1.1.length<=900000000:=z.2.2.2.2.2.2.2.2.1.1.1;have s2:h.2.2.2.2.2.2.2.2.1.2.1.length<=900000000:=z.2.2.2.2.2.2.2.2.1.2.1.1;have s3:h.2.2.2.2.2.2.2.2.1.2.2.2.length<=900000000:=z.2.2.2.2.2.2.2.2.1.2.2.2.1;unfold sK ue;rw[jm h (z.mono),ab,rA h (k.sz),ab];cases hb:fi h;rfl;have hl:=nn (by grind[fi]:xj h=true);have hr:=Cc hb;simp only[ai,ae,ac2 x hx,ab,WR h.2.2.2.2.2.2.2.1 _ (show h.2.2.2.2.2.2.2.1.2.2.length<=10^9 by omega),ac8 h.2.2.2.2.2.2.2.2.1 _ _ (show h.2.2.2.2.2.2.2.2.1.1.length<=10^9 by omega) (show h.2.2.2.2.2.2.2.2.1.2.1.length<=10^9 by omega) (show h.2.2.2.2.2.2.2.2.1.2.2.2.length<=10^9 by omega)];generalize EC x=f;cases f.2 !=0;case true=>rfl
 cases zM h.2.2.2.2.2.2.2.1 f.1;rfl;simp only[ai,ae];have lH:=SE (s:=h.2.2.2.2.2.2.2.2.1) (q:=(h.2.2.2.1.length:Int)) (p:=f.1);generalize yx h.2.2.2.2.2.2.2.2.1 (h.2.2.2.1.length:Int) f.1=r at lH⊢;rcases lH with rfl|⟨n,rfl,hn⟩;rfl;have i1:n<h.2.2.2.1.length:=by omega
 have i2:n<h.2.2.2.2.2.1.length:=by omega
 have hq:=(Ah (hr n i1)).1;have hqi:=my hq;have ha:=Jg (show 1000<=900000000 by omega) (l:=h.2.1) (d:=0) (k:=h.2.2.2.2.2.2.2.2.1.2.2.1) (p:=f.1) (c:=h.2.2.2.2.2.2.2.2.2.2.1) z.1 (z.2.2.2.1.2 _ (bc i1)) hq;have ev:=Na (h:=GU h h.2.2.2.2.2.2.2.2.2.2.2.2.2.2.2.1 h.2.2.2.2.2.2.2.2.2.2.2.2.2.2.2.2.1 h.2.2.2.2.2.2.2.2.2.2.2.2.2.2.2.2.2.1 (ak (h.2.2.2.2.2.2.2.2.2.2.2.2.2.2.2.2.2.2+1))) (k:=n) (b:=h.2.2.2.1[n].2.1.2.2) (f:=lX h.2.1 h.1 0 h.2.2.2.1[n] h.2.2.2.2.2.2.2.2.1.2.2.1 f.1 h.2.2.2.2.2.2.2.2.2.2.1) i1 i2 ha.2.2.2;rw[show((n:Int)== -1)=false from by rw[cG];omega,ar (show¬(n:Int)<0 by omega),ay,al i1];simp only[ae,aX i1,ab,ZA h.2.1 h.1 0 _ _ _ _ (show h.2.1.length<=10^9 by omega) (show h.1.length<=10^9 by omega)];rw[show(lu ((lX h.2.1 h.1 0 h.2.2.2.1[n] h.2.2.2.2.2.2.2.2.1.2.2.1 f.1 h.2.2.2.2.2.2.2.2.2.2.1).1,h.2.1,h.2.2.1,h.2.2.2.1.set n (lX h.2.1 h.1 0 h.2.2.2.1[n] h.2.2.2.2.2.2.2.2.1.2.2.1 f.1 h.2.2.2.2.2.2.2.2.2.2.1).2,h.2.2.2.2.1,h.2.2.2.2.2.1,h.2.2.2.2.2.2.1,h.2.2.2.2.2.2.2.1,h.2.2.2.2.2.2.2.2.1,h.2.2.2.2.2.2.2.2.2.1,h.2.2.2.2.2.2.2.2.2.2.1,h.2.2.2.2.2.2.2.2.2.2.2.1,h.2.2.2.2.2.2.2.2.2.2.2.2.1,h.2.2.2.2.2.2.2.2.2.2.2.2.2.1,ak (h.2.2.2.2.2.2.2.2.2.2.2.2.2.2.1+1),h.2.2.2.2.2.2.2.2.2.2.2.2.2.2.2.1,h.2.2.2.2.2.2.2.2.2.2.2.2.2.2.2.2.1,h.2.2.2.2.2.2.2.2.2.2.2.2.2.2.2.2.2.1,ak (h.2.2.2.2.2.2.2.2.2.2.2.2.2.2.2.2.2.2+1)) (n:Int) h.2.2.2.1[n].2.1.2.2)=_ from ev,ab]
theorem MQ {n:Nat}(hn:1000<=n)(x:Bytes)(k:Ar n h):Ar n (ue h x)/\(ue h x).2.2.1=h.2.2.1/\(ue h x).2.2.2.2.1.length=h.2.2.2.2.1.length:=by
 have z:=k.z;have zc:∀a b c d,Ar n (GU h a b c d):=λa b c d=>⟨⟨z.1,z.2.1,z.2.2.1,z.2.2.2.1,z.2.2.2.2.1,z.2.2.2.2.2.1,z.2.2.2.2.2.2.1,z.2.2.2.2.2.2.2.1,z.2.2.2.2.2.2.2.2.1,z.2.2.2.2.2.2.2.2.2.1,z.2.2.2.2.2.2.2.2.2.2.1,z.2.2.2.2.2.2.2.2.2.2.2.1,z.2.2.2.2.2.2.2.2.2.2.2.2.1,z.2.2.2.2.2.2.2.2.2.2.2.2.2.1,bN,bN,bN,bN,bN⟩,k.t⟩
 unfold ue;cases hb:fi h;exact⟨k,rfl,rfl⟩;have hr:=Cc hb;generalize EC x=f;cases f.2 !=0;case true=>exact⟨zc ..,rfl,rfl⟩
 cases zM h.2.2.2.2.2.2.2.1 f.1;exact⟨zc ..,rfl,rfl⟩;simp only[ai,ae];generalize yx h.2.2.2.2.2.2.2.2.1 (h.2.2.2.1.length:Int) f.1=r;cases r== -1;case true=>exact⟨zc ..,rfl,rfl⟩
 simp only[ae];rcases hq:h.2.2.2.1[r.toNat]? with _|q;exact⟨k,rfl,rfl⟩;obtain⟨hi,hqe⟩:=aD.1 hq;have hqd:=(Ah (hr _ hi)).1;rw[hqe]at hqd;have ha:=Jg hn (l:=h.2.1) (d:=0) (k:=h.2.2.2.2.2.2.2.2.1.2.2.1) (p:=f.1) (c:=h.2.2.2.2.2.2.2.2.2.2.1) z.1 (z.2.2.2.1.2 _ (cU hq)) hqd;have zc':=zc h.2.2.2.2.2.2.2.2.2.2.2.2.2.2.2.1 h.2.2.2.2.2.2.2.2.2.2.2.2.2.2.2.2.1 h.2.2.2.2.2.2.2.2.2.2.2.2.2.2.2.2.2.1 (ak (h.2.2.2.2.2.2.2.2.2.2.2.2.2.2.2.2.2.2+1));have kk:=M9 (h:=GU h h.2.2.2.2.2.2.2.2.2.2.2.2.2.2.2.1 h.2.2.2.2.2.2.2.2.2.2.2.2.2.2.2.2.1 h.2.2.2.2.2.2.2.2.2.2.2.2.2.2.2.2.2.1 (ak (h.2.2.2.2.2.2.2.2.2.2.2.2.2.2.2.2.2.2+1))) (k:=r.toNat) (b:=q.2.1.2.2) (f:=lX h.2.1 h.1 0 q h.2.2.2.2.2.2.2.2.1.2.2.1 f.1 h.2.2.2.2.2.2.2.2.2.2.1) ha.2.1;exact⟨⟨Qm zc'.z ha.1 ha.2.2.1,by rw[kk.tx];exact k.t⟩,kk.tx,kk.pl⟩
theorem ag4 (l:aq aA)(m:bt)(d:Int)(rx:bh)(pl:cj)(st:aq Stream)(c:Int):(kL l m d rx pl st c).1.length=m.length:=by grind[kL,aan]
def FI (b:Int)(k:Nat)(s:Int×Host):Int×Host:=
 match s.2.2.2.2.2.2.1[k]?,s.2.2.2.2.2.2.2.1[k]?,s.2.2.2.2.1[k]?,s.2.2.2.2.2.1[k]? with
 |some v,some p,some x,some pl=>
  bif p||(GB v).2 then
   (ak (s.1+(kL s.2.2.1 s.2.1 0 x pl s.2.2.2.2.2.2.2.2.2.2.1 b).2.2.2.2),
    (kL s.2.2.1 s.2.1 0 x pl s.2.2.2.2.2.2.2.2.2.2.1 b).1,s.2.2.1,s.2.2.2.1,s.2.2.2.2.1.set k (kL s.2.2.1 s.2.1 0 x pl s.2.2.2.2.2.2.2.2.2.2.1 b).2.1,s.2.2.2.2.2.1.set k (kL s.2.2.1 s.2.1 0 x pl s.2.2.2.2.2.2.2.2.2.2.1 b).2.2.1,
    s.2.2.2.2.2.2.1.set k (bif decide ((kL s.2.2.1 s.2.1 0 x pl s.2.2.2.2.2.2.2.2.2.2.1 b).2.2.2.2<b) then Lf (GB v).1 else(GB v).1),
    s.2.2.2.2.2.2.2.1.set k (!decide ((kL s.2.2.1 s.2.1 0 x pl s.2.2.2.2.2.2.2.2.2.2.1 b).2.2.2.2<b)),s.2.2.2.2.2.2.2.2.1,s.2.2.2.2.2.2.2.2.2.1,(kL s.2.2.1 s.2.1 0 x pl s.2.2.2.2.2.2.2.2.2.2.1 b).2.2.2.1,s.2.2.2.2.2.2.2.2.2.2.2)
  else(s.1,s.2.1,s.2.2.1,s.2.2.2.1,s.2.2.2.2.1,s.2.2.2.2.2.1,s.2.2.2.2.2.2.1.set k (GB v).1,s.2.2.2.2.2.2.2.1.set k false,s.2.2.2.2.2.2.2.2)
 |_,_,_,_=>s
theorem WL (b:Int)(k:Nat)(s:Int×Host):lJ (k+1) s.2 (FI b k s).2:=by unfold FI;rcases s.2.2.2.2.2.2.1[k]? with _|v;exact lJ.refl _ _;rcases s.2.2.2.2.2.2.2.1[k]? with _|p;exact lJ.refl _ _;rcases s.2.2.2.2.1[k]? with _|x;exact lJ.refl _ _;rcases s.2.2.2.2.2.1[k]? with _|pl;exact lJ.refl _ _;simp only;cases p||(GB v).2 with|true=>exact⟨ag4 ..,rfl,rfl,aH ..,λj hj=>aO (by omega),aH ..,aH ..,λj hj=>aO (by omega),aH ..,rfl,rfl⟩|false=>exact⟨rfl,rfl,rfl,rfl,λ_ _=>rfl,rfl,aH ..,λj hj=>aO (by omega),aH ..,rfl,rfl⟩
theorem Zw (b:Int)(k:Nat)(s:Int×Host){n:Nat}(hn:1000<=n)(z:br n cI s.2):br (n+322000) cI (FI b k s).2:=by have z':br (n+322000) cI s.2:=z.mono;unfold FI;rcases s.2.2.2.2.2.2.1[k]? with _|v;exact z';rcases s.2.2.2.2.2.2.2.1[k]? with _|p;exact z';rcases h1:s.2.2.2.2.1[k]? with _|x;exact z';rcases h2:s.2.2.2.2.2.1[k]? with _|pl;exact z';simp only;cases p||(GB v).2 with|true=>have hp:=Sg (by omega) (l:=s.2.2.1) (d:=0) b z.1 (z.2.2.2.1.2 _ (cU h1)) (z.2.2.2.2.1.2 _ (cU h2)) z.2.2.2.2.2.2.2.2.2.1;exact⟨hp.1.mono,z'.2.1,z'.2.2.1,px z'.2.2.2.1 (hp.2.1.mono),px z'.2.2.2.2.1 hp.2.2.1,NW z'.2.2.2.2.2.1,px z'.2.2.2.2.2.2.1 trivial,z'.2.2.2.2.2.2.2.1,z'.2.2.2.2.2.2.2.2.1,hp.2.2.2.1,z'.2.2.2.2.2.2.2.2.2.2⟩|false=>exact⟨z'.1,z'.2.1,z'.2.2.1,z'.2.2.2.1,z'.2.2.2.2.1,NW z'.2.2.2.2.2.1,px z'.2.2.2.2.2.2.1 trivial,z'.2.2.2.2.2.2.2⟩
def kb (b:Int):Nat->Host->Int×Host
 |0,h=>(0,h)
 |k+1,h=>FI b k (kb b k h)
theorem BR (b:Int)(h:Host):∀k,lJ k h (kb b k h).2
 |0=>lJ.refl 0 h
 |k+1=>((BR b h k).up (by omega)).trans (WL b k _)
theorem FG (b:Int){n:Nat}(hn:1000<=n)(z:br n cI h):∀k,br (n+322000*k) cI (kb b k h).2
 |0=>z
 |k+1=>(Zw b k _ (by omega) (FG b hn z k)).mono
def xr (h:Host)(b:Int):Host×Int:=bif fi h&&dI b 1 1000 then((kb b h.2.2.2.1.length h).2,(kb b h.2.2.2.1.length h).1) else(h,0)
theorem WM {n:Nat}(hn:1000<=n)(b:Int)(k:Ar n h):Ar (n+644000) (xr h b).1:=by unfold xr;cases hb:fi h&&dI b 1 1000 with|false=>exact k.mono|true=>simp only[ah]at hb;have hl:=nn (by grind[fi]:xj h=true);refine⟨(FG b hn k.z _).mono,?_⟩;simp only[af];rw[(BR b h _).tx];exact aE k.t (by omega)
theorem V1 (h:Host)(b:Int)(k:Ar 400000000 h):rX h b=some (xr h b):=by
 have xS:=cR;unfold rX xr;rw[jh h (k.z.mono),ab,wg h (k.sz),ab,dh];cases hb:fi h;rfl;cases hi0:dI b 1 1000;rfl;have hl:=nn (by simp only[fi,ah]at hb;exact hb.2.2.2.2.1:xj h=true);simp only[ai,ae,ab,dZ,af];refine cC (λi=>((kb b i h).1,(i:Int),(kb b i h).2)) h.2.2.2.1.length (by omega) (λi nx hi=>?_) (λnx=>?_);have kk:=BR b h i;have zz:br 500000000 cI (kb b i h).2:=(FG b (by omega) k.z i).mono;have i1:i<(kb b i h).2.2.2.2.1.length:=by rw[kk.rx];exact hi
 have i2:i<(kb b i h).2.2.2.2.2.1.length:=by rw[kk.pl];omega
 have i3:i<(kb b i h).2.2.2.2.2.2.1.length:=by rw[kk.vec];omega
 have i4:i<(kb b i h).2.2.2.2.2.2.2.1.length:=by rw[kk.pol];omega
 rw[show kb b (i+1) h=FI b i (kb b i h) from rfl];generalize kb b i h=s at zz i1 i2 i3 i4⊢;have gp:∀(V:aq Vector)(P:aq Bool),kK (s.2.1,s.2.2.1,s.2.2.2.1,s.2.2.2.2.1,s.2.2.2.2.2.1,V,P,s.2.2.2.2.2.2.2.2) (i:Int) b=some ((kL s.2.2.1 s.2.1 0 s.2.2.2.2.1[i] s.2.2.2.2.2.1[i] s.2.2.2.2.2.2.2.2.2.2.1 b).2.2.2.2,(kL s.2.2.1 s.2.1 0 s.2.2.2.2.1[i] s.2.2.2.2.2.1[i] s.2.2.2.2.2.2.2.2.2.2.1 b).1,s.2.2.1,s.2.2.2.1,s.2.2.2.2.1.set i (kL s.2.2.1 s.2.1 0 s.2.2.2.2.1[i] s.2.2.2.2.2.1[i] s.2.2.2.2.2.2.2.2.2.2.1 b).2.1,s.2.2.2.2.2.1.set i (kL s.2.2.1 s.2.1 0 s.2.2.2.2.1[i] s.2.2.2.2.2.1[i] s.2.2.2.2.2.2.2.2.2.2.1 b).2.2.1,V,P,s.2.2.2.2.2.2.2.2.1,s.2.2.2.2.2.2.2.2.2.1,(kL s.2.2.1 s.2.1 0 s.2.2.2.2.1[i] s.2.2.2.2.2.1[i] s.2.2.2.2.2.2.2.2.2.2.1 b).2.2.2.1,s.2.2.2.2.2.2.2.2.2.2.2):=by intro V P;have C3:s.2.2.2.2.2.1[i].2.2.2.length<=500000000:=(zz.2.2.2.2.1.2 _ (bc i2)).2.2.2.1;have hm:s.2.1.length<=500000000:=zz.1.1;have hp:s.2.2.1.length<=500000000:=zz.2.1.1;unfold kK;simp only[aX i1,aX i2,ab,VX s.2.2.1 s.2.1 0 _ _ _ b (show s.2.2.1.length<=10^9 by omega) (show s.2.1.length<=10^9 by omega) C3 zz.2.2.2.2.2.2.2.2.2.1,ay]
 have DT:∀V:Vector,s.2.2.2.2.2.2.1.set i V=s.2.2.2.2.2.2.1.set i V:=λ_=>rfl;unfold FI;rw[al i1,al i2,al i3,al i4];simp only[nh];rw[jF,af];simp only[aX i3,aX i4,ab,ab1,ay,gp];generalize GB s.2.2.2.2.2.2.1[i]=w;generalize kL s.2.2.1 s.2.1 0 s.2.2.2.2.1[i] s.2.2.2.2.2.1[i] s.2.2.2.2.2.2.2.2.2.2.1 b=pr;have i5:∀V:Vector,i<(s.2.2.2.2.2.2.1.set i V).length:=λV=>by rw[aH];exact i3
 have i6:∀q:Bool,i<(s.2.2.2.2.2.2.2.1.set i q).length:=λq=>by rw[aH];exact i4
 have e5:∀V:Vector,idx (s.2.2.2.2.2.2.1.set i V) (i:Int)=some V:=λV=>by rw[aX (i5 V),List.getElem_set_self]
 have e6:∀q:Bool,idx (s.2.2.2.2.2.2.2.1.set i q) (i:Int)=some q:=λq=>by rw[aX (i6 q),List.getElem_set_self]
 rw[aj (n:=(i:Int)+1) (by omega) (by omega)];have Di:s.2.2.2.2.2.2.2.1.set i (s.2.2.2.2.2.2.2.1[i])=s.2.2.2.2.2.2.2.1:=List.set_getElem_self ..;generalize hp:s.2.2.2.2.2.2.2.1[i]=p at Di⊢;cases hw:w.2 with
 |true=>simp only[Bool.or_true,af,e6,e5,ab,ai,ae,O3,eo];cases decide (pr.2.2.2.2<b)<;>rfl
 |false=>
  simp only[Bool.or_false,ae];cases p with
  |false=>rw[Di];rfl
  |true=>
   have e7:idx s.2.2.2.2.2.2.2.1 (i:Int)=some true:=by rw[aX i4,hp]
   simp only[af,ai,ae,e5,e7,ab,O3,eo];cases decide (pr.2.2.2.2<b)with|true=>rfl|false=>simp only[ae,cf,Di];rfl
 simp only[nh];rw[gr,ae]
theorem W2 (h:Host)(b:Int)(k:Ar 400000000 h):sL h b=some (xr h b):=by
 have xS:=cR;unfold sL xr;rw[jm h (k.z.mono),ab,rA h (k.sz),ab,cO];cases hb:fi h;rfl;cases hi0:dI b 1 1000;rfl;have hl:=nn (by simp only[fi,ah]at hb;exact hb.2.2.2.2.1:xj h=true);simp only[ai,ae,ab,dZ,af];refine cC (λi=>((kb b i h).1,(i:Int),(kb b i h).2)) h.2.2.2.1.length (by omega) (λi nx hi=>?_) (λnx=>?_);have kk:=BR b h i;have zz:br 500000000 cI (kb b i h).2:=(FG b (by omega) k.z i).mono;have i1:i<(kb b i h).2.2.2.2.1.length:=by rw[kk.rx];exact hi
 have i2:i<(kb b i h).2.2.2.2.2.1.length:=by rw[kk.pl];omega
 have i3:i<(kb b i h).2.2.2.2.2.2.1.length:=by rw[kk.vec];omega
 have i4:i<(kb b i h).2.2.2.2.2.2.2.1.length:=by rw[kk.pol];omega
 have em:=kk.maps;rw[show kb b (i+1) h=FI b i (kb b i h) from rfl];generalize kb b i h=s at zz i1 i2 i3 i4 em⊢;have C3:s.2.2.2.2.2.1[i].2.2.2.length<=500000000:=(zz.2.2.2.2.1.2 _ (bc i2)).2.2.2.1;have hm:s.2.1.length<=500000000:=zz.1.1;have hp:s.2.2.1.length<=500000000:=zz.2.1.1;have gp:=W0 s.2.2.1 s.2.1 0 s.2.2.2.2.1[i] s.2.2.2.2.2.1[i] s.2.2.2.2.2.2.2.2.2.2.1 b (show s.2.2.1.length<=10^9 by omega) (show s.2.1.length<=10^9 by omega) C3 zz.2.2.2.2.2.2.2.2.2.1;unfold FI;rw[al i1,al i2,al i3,al i4];simp only[nq];rw[jF,af,<-em];simp only[aX i1,aX i2,aX i3,aX i4,ab,adb,ay,gp];generalize GB s.2.2.2.2.2.2.1[i]=w;generalize kL s.2.2.1 s.2.1 0 s.2.2.2.2.1[i] s.2.2.2.2.2.1[i] s.2.2.2.2.2.2.2.2.2.2.1 b=pr;have i5:∀V:Vector,i<(s.2.2.2.2.2.2.1.set i V).length:=λV=>by rw[aH];exact i3
 have i6:∀q:Bool,i<(s.2.2.2.2.2.2.2.1.set i q).length:=λq=>by rw[aH];exact i4
 have e5:∀V:Vector,idx (s.2.2.2.2.2.2.1.set i V) (i:Int)=some V:=λV=>by rw[aX (i5 V),List.getElem_set_self]
 have e6:∀q:Bool,idx (s.2.2.2.2.2.2.2.1.set i q) (i:Int)=some q:=λq=>by rw[aX (i6 q),List.getElem_set_self]
 rw[aj (n:=(i:Int)+1) (by omega) (by omega)];generalize s.2.2.2.2.2.2.2.1[i]=p;cases p with|true=>simp only[jU,af,e6,e5,ab,ai,ae,PY,eo];cases decide (pr.2.2.2.2<b)<;>rfl|false=>simp only[cL,ae,e6,e5,ab,PY,eo];cases w.2 with|false=>rfl|true=>simp only[ai,ae,af];cases decide (pr.2.2.2.2<b)<;>rfl
 simp only[nq];rw[ar (by have:=(BR b h h.2.2.2.1.length).rx;omega),ae]
theorem af4 {n:Nat}(hn:1000<=n)(k:Ar n h):Ar n (HL h):=by have:=af3 hn k.z;exact⟨this.1,by rw[this.2];exact k.t⟩
end
end Go.Pu
