import Derived.KernelRfl
import Derived.Test.YtnmppgnbjfdffaaGreatPure
import Derived.Test.YtnmppgnbjfdffaaGreatPuX1
namespace Go.Pu
open Go.Dn
open Int (tmod)
set_option linter.unusedSimpArgs false
set_option linter.unusedVariables false
noncomputable section
variable {s x:Bytes} {h:Host} {a b d z:Int} {i k n:Nat} {p:aN} {q:bR} {g:eh} {t:dD} {R α:Type} {l:aw aA} {m:bM} {f:bM×bR} {r:lN}
/- Writes through mappings: the program's and the reference's results are one. -/
def Eb (x:Bytes)(o:Nat)(t:Bytes):Bytes:=x.take o++(t++x.drop (o+t.length))
theorem ZN {o:Nat}{t:Bytes}(h:o+t.length<=x.length):(Eb x o t).length=x.length:=by simp only[Eb,ai,aY,aM];omega
theorem ZQ (x:Bytes)(o:Nat)(t:Bytes):aJ (Az (dj x) o (dj t))=Eb x o t:=by
 have e:Az (dj x) o (dj t)=dj (Eb x o t):=by simp only[Az,Eb,dj,List.map_append,List.map_take,List.map_drop,da]
 rw[e,JR]
theorem ada {o:Nat}{t:Bytes}(h:o+t.length<=x.length):uV x (o:Int) t=Eb x o t:=by unfold uV eV;rw[ar ⟨by omega,by omega⟩];simp only[ah,az,Eb,aQ]
def yN:Nat->bM->Nat->Bytes->bM
 |0,m,_,_=>m
 |n+1,m,a,s=>if s.length=0 then m else
  yN n (m.set (a/128) (Eb (m.getD (a/128) []) (a%128) (s.take (128-a%128)))) (a+min (128-a%128) s.length) (s.drop (128-a%128))
def Bm (m:bM):Prop:=(∀x∈m,x.length=128)/\m.length<=64
theorem qC:cE m=true↔Bm m:=mem_iff
theorem HE {p:Nat}(h:Bm m)(hx:x.length=128):Bm (m.set p x):=by refine⟨λy hy=>?_,by rw[aC];exact h.2⟩;rcases List.mem_or_eq_of_mem_set hy with g|g;exact h.1 y g;rw[g];exact hx
theorem E7 (h:Bm m){a:Nat}(hs:s.length≠0)(ha:a+s.length<=128*m.length): ∃(hp:a/128<m.length),(m[a/128]'hp).length=128/\(Eb (m[a/128]'hp) (a%128) (s.take (128-a%128))).length=128:=by
 have hp:a/128<m.length:=by omega
 have hl:=h.1 _ (bk hp);refine⟨hp,hl,?_⟩;rw[ZN (by rw[aY,hl];omega),hl]
theorem xS:∀(n:Nat){m:bM}{a:Nat}{s:Bytes},Bm m->a+s.length<=128*m.length->Bm (yN n m a s)/\(yN n m a s).length=m.length
 |0,m,a,s,h,_=>⟨h,rfl⟩
 |n+1,m,a,s,h,ha=>by rw[yN];split;exact⟨h,rfl⟩;rename_i hs;obtain⟨hp,hl,ho⟩:=E7 h hs ha;rw[cL hp];have:=xS n (m:=m.set (a/128) (Eb m[a/128] (a%128) (s.take (128-a%128)))) (a:=a+min (128-a%128) s.length) (s:=s.drop (128-a%128)) (HE h ho) (by rw[aC,aM];omega);rw[aC]at this;exact this
theorem D6 (K:Int->Bytes->bM->ax R)(K':bM->ax R)(hK:∀a m,K a [] m=K' m):∀(n:Nat)(m:bM)(a:Nat)(s:Bytes)(f:Nat),s.length<=n->n<f->Bm m->a+s.length<=128*m.length->
 aX (mw K ([]:bM)) f ((a:Int),s,m)=K' (yN n m a s)
 |n,m,a,s,0,_,hf,_,_=>by omega
 |n,m,a,s,f+1,hs,hf,hm,ha=>by
  rw[aX];simp only[mw];by_cases h0:s.length=0;have:s=[]:=bS h0;subst this;rw[aq (by simp),af,hK];cases n<;>simp[yN];cases n with
  |zero=>omega
  |succ n=>
   obtain⟨hp,hl,ho⟩:=E7 hm h0 ha;have h64:=hm.2;have e1:Int.tdiv (a:Int) 128=((a/128:Nat):Int):=Ts a 128;have e2:tmod (a:Int) 128=((a%128:Nat):Int):=Ob a 128;rw[jU,ah,lZ,e1,e2,ak (n:=((a/128:Nat):Int)),bf hp,ab,aP,lZ];have oP:sub (dj m[a/128]) ((a%128:Nat):Int) ((dj m[a/128]).length:Int)=some ((dj m[a/128]).drop (a%128)):=by rw[JA _ _ _ (by rw[F6];omega) (aU _),bK (by rw[aM];exact aU _)]
   rw[oP,ab,lZ,ab,ab];have hd:((dj m[a/128]).drop (a%128)).length=128-a%128:=by rw[aM,F6,hl]
   rw[hd];have hdr:s.drop (min (128-a%128) s.length)=s.drop (128-a%128):=by by_cases h3:128-a%128<=s.length;rw[gL h3];rw[Nat.min_eq_right (by omega),cK (aU _),cK (by omega)]
   have aji:sub s (((min (128-a%128) s.length:Nat)):Int) ((s.length:Int))=some (s.drop (128-a%128)):=by rw[<-hdr];unfold sub;rw[zip];simp
   rw[aji,ab,ak (n:=(a:Int)+((min (128-a%128) s.length:Nat):Int)),az,az,ZQ];rw[yN,aH h0,cL hp,show(a:Int)+((min (128-a%128) s.length:Nat):Int)=((a+min (128-a%128) s.length:Nat):Int) by omega];exact D6 K K' hK n _ _ _ f (by rw[aM];omega) (by omega) (HE hm ho) (by rw[aC,aM];omega)
theorem Eh (K:Int->Bytes->bM->ax R)(K':bM->ax R)(hK:∀a m,K a [] m=K' m):∀(n:Nat)(m:bM)(a:Nat)(s:Bytes)(f:Nat),s.length<=n->n<f->Bm m->a+s.length<=128*m.length->
 aX (mE K ([]:bM)) f ((a:Int),s,m)=K' (yN n m a s)
 |n,m,a,s,0,_,hf,_,_=>by omega
 |n,m,a,s,f+1,hs,hf,hm,ha=>by
  rw[aX];simp only[mE];by_cases h0:s.length=0;have:s=[]:=bS h0;subst this;rw[aq (by simp),af,hK];cases n<;>simp[yN];cases n with
  |zero=>omega
  |succ n=>
   obtain⟨hp,hl,ho⟩:=E7 hm h0 ha;have h64:=hm.2;have e1:Int.tdiv (a:Int) 128=((a/128:Nat):Int):=Ts a 128;have e2:tmod (a:Int) 128=((a%128:Nat):Int):=Ob a 128;rw[jU,ah,lZ,lZ,lZ,e1,e2,ak (n:=((a/128:Nat):Int)),ak (n:=128-((a%128:Nat):Int)),bf hp,ab];obtain⟨c,hc⟩:∃c,min (128-a%128) s.length=c:=⟨_,rfl⟩
   rw[show(if 128-((a%128:Nat):Int)<(s.length:Int) then 128-((a%128:Nat):Int) else(s.length:Int))=(c:Int) by split<;>omega];have ht:s.take c=s.take (128-a%128):=by by_cases h3:128-a%128<=s.length;rw[<-hc,gL h3];rw[<-hc,Nat.min_eq_right (by omega),bK (aU _),bK (by omega)]
   have hdr:s.drop c=s.drop (128-a%128):=by by_cases h3:128-a%128<=s.length;rw[<-hc,gL h3];rw[<-hc,Nat.min_eq_right (by omega),cK (aU _),cK (by omega)]
   have hs1:sub s 0 (c:Int)=some (s.take (128-a%128)):=by rw[<-ht];unfold sub;rw[zip];simp
   have hs2:sub s (c:Int) (s.length:Int)=some (s.drop (128-a%128)):=by rw[<-hdr];unfold sub;rw[zip];simp
   rw[hs1,ab,GA _ _ _,ab,ab,ab,hs2,ab,ada (by rw[aY,hl];omega),ak (n:=(a:Int)+(c:Int)),az];rw[yN,aH h0,cL hp,hc,show(a:Int)+(c:Int)=((a+c:Nat):Int) by omega];exact Eh K K' hK n _ _ _ f (by rw[aM];omega) (by omega) (HE hm ho) (by rw[aC,aM];omega)
def qR (m:bM)(a:Int)(s:Bytes):bM×Bool:=bif gr m a (s.length:Int) then(yN s.length m a.toNat s,true) else(m,false)
theorem Vj (m:bM)(a:Int)(s:Bytes)(h:m.length<=10^9)(hs:s.length<=10^9):qx m a s=some (qR m a s):=by have Ak:=dR;unfold qx qR;rw[eS m,ab,CC m _ _ h,ab];cases hw:gr m a (s.length:Int);rfl;simp only[gr,ae,aB]at hw;obtain⟨a,rfl⟩:=aV hw.2.2.1;simp only[aj,af,ah,az];exact D6 _ (λm=>some (m,true)) (λ_ _=>rfl) s.length m a s fuel (aU _) (by omega) (qC.1 hw.1) (by omega)
theorem Wi (m:bM)(a:Int)(s:Bytes)(h:m.length<=10^9)(hs:s.length<=10^9):qL m a s=some (qR m a s):=by have Ak:=dR;unfold qL qR;rw[Bk m,ab,IK m _ _ h,ab];cases hw:gr m a (s.length:Int);rfl;simp only[gr,ae,aB]at hw;obtain⟨a,rfl⟩:=aV hw.2.2.1;simp only[aj,af,ah,az];exact Eh _ (λm=>some (m,true)) (λ_ _=>rfl) s.length m a s fuel (aU _) (by omega) (qC.1 hw.1) (by omega)
theorem C6 (m:bM)(a:Int)(s:Bytes):(qR m a s).1.length=m.length:=by unfold qR;cases hw:gr m a (s.length:Int);rfl;simp only[gr,ae,aB]at hw;exact(xS s.length (qC.1 hw.1) (by omega)).2
def Lm:aw (Int×Int)->bM->Bytes->bM
 |[],m,_=>m
 |p::q,m,s=>Lm q (qR m p.1 (s.take p.2.toNat)).1 (s.drop p.2.toNat)
theorem SQ:∀(q:aw (Int×Int))(m:bM)(s:Bytes),(Lm q m s).length=m.length
 |[],m,s=>rfl
 |p::q,m,s=>by rw[Lm,SQ q,C6]
def Jj (q:aw (Int×Int)):Int:=(q.map (·.2)).sum
theorem XI:∀(q:aw (Int×Int)),(∀p∈q,0<=p.2)->0<=Jj q
 |[],_=>dL _
 |p::q,h=>by have:=XI q (λx hx=>h x (by simp[hx]));have:=h p (by simp);simp only[Jj,cV,List.sum_cons]at*;omega
theorem SV {p:Int×Int}{q:aw (Int×Int)}(hc:∀x∈p::q,0<=x.2)(hs:(s.length:Int)=Jj (p::q)):0<=p.2/\p.2<=(s.length:Int)/\((s.drop p.2.toNat).length:Int)=Jj q:=by
 have h1:=hc p (by simp);have h2:=XI q (λx hx=>hc x (by simp[hx]));have h3:Jj (p::q)=p.2+Jj q:=by simp[Jj]
 rw[h3]at hs;refine⟨h1,by omega,?_⟩;rw[aM];omega
theorem N9 {c:Int}(h0:0<=c)(h1:c<=(s.length:Int)):sub s 0 c=some (s.take c.toNat):=by unfold sub;rw[zip];simp
theorem To {c:Int}(h0:0<=c)(h1:c<=(s.length:Int)):sub s c (s.length:Int)=some (s.drop c.toNat):=by unfold sub;rw[zip];simp
theorem Iq (K:Bytes->Int->bM->ax (bM×Bool))(hK:∀s i m,K s i m=some (m,true)):∀(rest pre:aw (Int×Int))(m:bM)(s:Bytes)(f:Nat),rest.length<f->pre.length+rest.length<=1000000->(∀x∈rest,0<=x.2)->(s.length:Int)=Jj rest->m.length<=10^9->s.length<=1000000->
 aX (wo K (pre++rest) ((pre++rest).length:Int) ([]:bM)) f (s,(pre.length:Int),m)=some (Lm rest m s,true)
 |rest,pre,m,s,0,hf,_,_,_,_,_=>by omega
 |[],pre,m,s,f+1,_,_,_,_,_,_=>by rw[aX];simp only[wo];rw[aq (by simp),af,hK];rfl
 |p::q,pre,m,s,f+1,hf,hn,hc,hs,hm,hl=>by
  obtain⟨h1,h2,h3⟩:=SV hc hs;simp only[bc]at hf hn;have hi:pre.length<(pre++p::q).length:=by simp
  have hp:(pre++p::q)[pre.length]=p:=by simp
  rw[aX];simp only[wo];rw[ar (by simp;omega),bf hi,hp,ak];simp only[ah,ab,N9 h1 h2,To h1 h2,Vj m _ _ hm (show(s.take p.2.toNat).length<=10^9 by rw[aY];omega)];have key:=Iq K hK q (pre++[p]) (qR m p.1 (s.take p.2.toNat)).1 (s.drop p.2.toNat) f (by omega) (by simp;omega) (λx hx=>hc x (by simp[hx])) h3 (by rw[C6];exact hm) (by rw[aM];omega);have el:((pre++[p]).length:Int)=(pre.length:Int)+1:=by simp
  rw[aQ,List.singleton_append,el]at key;rw[Lm];exact key
theorem IJ (K:Bytes->Int->bM->ax (bM×Bool))(hK:∀s i m,K s i m=some (m,true)):∀(rest pre:aw (Int×Int))(m:bM)(s:Bytes)(f:Nat),rest.length<f->pre.length+rest.length<=1000000->(∀x∈rest,0<=x.2)->(s.length:Int)=Jj rest->m.length<=10^9->s.length<=1000000->
 aX (na K ((pre++rest).map (·.1)) ((pre++rest).map (·.2)) ([]:bM)) f (s,(pre.length:Int),m)=some (Lm rest m s,true)
 |rest,pre,m,s,0,hf,_,_,_,_,_=>by omega
 |[],pre,m,s,f+1,_,_,_,_,_,_=>by rw[aX];simp only[na];rw[aq (by simp),af,hK];rfl
 |p::q,pre,m,s,f+1,hf,hn,hc,hs,hm,hl=>by
  obtain⟨h1,h2,h3⟩:=SV hc hs;simp only[bc]at hf hn;have hi:pre.length<(pre++p::q).length:=by simp
  have hp:(pre++p::q)[pre.length]=p:=by simp
  have i1:idx ((pre++p::q).map (·.1)) (pre.length:Int)=some p.1:=by rw[bf (by simp),List.getElem_map,hp]
  have i2:idx ((pre++p::q).map (·.2)) (pre.length:Int)=some p.2:=by rw[bf (by simp),List.getElem_map,hp]
  rw[aX];simp only[na];rw[ar (by simp;omega),i1,i2,ak];simp only[ah,ab,N9 h1 h2,To h1 h2,Wi m _ _ hm (show(s.take p.2.toNat).length<=10^9 by rw[aY];omega)];have key:=IJ K hK q (pre++[p]) (qR m p.1 (s.take p.2.toNat)).1 (s.drop p.2.toNat) f (by omega) (by simp;omega) (λx hx=>hc x (by simp[hx])) h3 (by rw[C6];exact hm) (by rw[aM];omega);have el:((pre++[p]).length:Int)=(pre.length:Int)+1:=by simp
  rw[aQ,List.singleton_append,el]at key;rw[Lm];exact key
theorem Lf (l:aw aA)(m:bM)(d:Int)(w:Bool):∀(n a r:Nat)(q:aw (Int×Int)),r<=n->kU l m d w n a r=some q->Jj q=(r:Int)/\(∀p∈q,0<=p.2)/\q.length<=n
 |0,a,r,q,hr,h=>by simp only[kU,aZ]at h;subst h;exact⟨by show(0:Int)=_;omega,by simp,by simp⟩
 |n+1,a,r,q,hr,h=>by simp only[kU]at h;split at h;simp only[aZ]at h;subst h;exact⟨by show(0:Int)=_;omega,by simp,by simp⟩;split at h;simp only[Option.map_eq_some_iff]at h;obtain⟨q',h1,rfl⟩:=h;obtain⟨i1,i2,i3⟩:=Lf l m d w n _ _ q' (by omega) h1;refine⟨?_,?_,by simp only[bc];omega⟩;simp only[Jj,cV,List.sum_cons]at i1⊢;rw[i1];omega;intro p hp;rcases bO.1 hp with rfl|hp;show(0:Int)<=((min (128-a%128) r:Nat):Int);omega;exact i2 p hp;cases h
theorem N3 (l:aw aA)(m:bM)(d a n:Int)(w:Bool)(h:(kD l m d a n w).2=true):Jj (kD l m d a n w).1=n/\(∀p∈(kD l m d a n w).1,0<=p.2)/\(kD l m d a n w).1.length<=4096/\n<=4096:=by
 unfold kD at h⊢;cases hB:dF l&&(cE m&&dm n 0 4096)with|false=>rw[hB]at h;simp at h|true=>?_
 rw[hB]at h;simp only[ae,bg]at hB;simp only[ah]at h⊢;cases h0:n==0 with
 |true=>
  have:n=0:=by simpa using h0
  subst this;exact⟨rfl,by simp,by simp,by omega⟩
 |false=>rw[h0]at h;simp only[af]at h⊢;cases ha:decide (a<0)with|true=>rw[ha]at h;simp at h|false=>rw[ha]at h;simp only[af]at h⊢;cases hq:kU l m d w n.toNat a.toNat n.toNat with|none=>rw[hq]at h;cases h|some q=>obtain⟨i1,i2,i3⟩:=Lf l m d w _ _ _ q (aU _) hq;exact⟨by simp only;rw[i1];omega,i2,by simp only;omega,by omega⟩
def hH (l:aw aA)(m:bM)(d a:Int)(s:Bytes)(w:Bool):bM×Bool:=
 bif (kD l m d a (s.length:Int) w).2 then(Lm (kD l m d a (s.length:Int) w).1 m s,true) else(m,false)
theorem jE (l:aw aA)(m:bM)(d a:Int)(s:Bytes)(w:Bool):(hH l m d a s w).1.length=m.length:=by unfold hH;cases (kD l m d a (s.length:Int) w).2 with|false=>rfl|true=>exact SQ _ _ _
theorem RY (l:aw aA)(m:bM)(d a:Int)(s:Bytes)(w:Bool)(hl:l.length<=10^9)(hm:m.length<=10^9)(ha:a<=9223372036854775807):CE l m d a s w=some (hH l m d a s w):=by have Ak:=dR;unfold CE hH;rw[eS m,ab,RZ l m d a _ w hl hm ha,ab];have hS:=N3 l m d a (s.length:Int) w;generalize kD l m d a (s.length:Int) w=r at hS⊢;cases hr:r.2;rfl;obtain⟨h1,h2,h3,h4⟩:=hS hr;simp only[aj,af,ah];exact Iq _ (λ_ _ _=>rfl) r.1 [] m s fuel (by omega) (by simp;omega) h2 h1.symm hm (by omega)
theorem Gx (l:aw aA)(m:bM)(d a:Int)(s:Bytes)(hl:l.length<=10^9)(hm:m.length<=10^9)(ha:a<=9223372036854775807):rK l m d a s=some (hH l m d a s true):=by have Ak:=dR;unfold rK hH;rw[aan l m d a _ true hl hm ha,ab,Bk m,ab];have hS:=N3 l m d a (s.length:Int) true;generalize kD l m d a (s.length:Int) true=r at hS⊢;cases hr:r.2;rfl;obtain⟨h1,h2,h3,h4⟩:=hS hr;simp only[aj,af,ah];exact IJ _ (λ_ _ _=>rfl) r.1 [] m s fuel (by omega) (by simp;omega) h2 h1.symm hm (by omega)
theorem Ba (l:aw aA)(m:bM)(d a:Int)(s:Bytes)(hl:l.length<=10^9)(hm:m.length<=10^9)(ha:a<=9223372036854775807):oJ l m d a s=some (hH l m d a s true):=by rw[oJ,RY l m d a s true hl hm ha];rfl
def wrM (x:aA):aA:=(x.1,x.2.1,x.2.2.1,true)
theorem getD_map (hi:i<l.length):(l.map wrM).getD i Hu=wrM (l.getD i Hu):=by rw[cL (by simpa using hi),cL hi,List.getElem_map]
theorem PH (l:aw aA):dF (l.map wrM)=dF l:=by
 unfold dF;rw[da];congr 1;rw[cq,aG,aG];have key:∀i,i<l.length->Ht (l.map wrM) i=Ht l i:=by
  intro i hi;unfold Ht;rw[getD_map hi];congr 1;rw[cq,aG,aG];constructor;intro h j hj;have hjl:j<l.length:=by have:=bT.1 hj;omega
  have:=h j hj;rw[getD_map hjl]at this;exact this;intro h j hj;have hjl:j<l.length:=by have:=bT.1 hj;omega
  rw[getD_map hjl];exact h j hj
 constructor;intro h i hi;rw[<-key i (bT.1 hi)];exact h i hi;intro h i hi;rw[key i (bT.1 hi)];exact h i hi
theorem ac6 (l:aw aA)(d p:Int):rF (l.map wrM) d p true=rF l d p false:=by
 unfold rF;rw[List.findIdx?_map];have e:(EP d p true∘wrM)=EP d p false:=by funext x;simp only[Function.comp,EP,kB,wrM,bF,jt,ir]
 rw[e];cases hf:l.findIdx? (EP d p false)with|none=>rfl|some i=>obtain⟨hi,_⟩:=List.findIdx?_eq_some_iff_getElem.1 hf;simp only[getD_map hi];rfl
theorem NX (l:aw aA)(m:bM)(d:Int):∀n a r,kU (l.map wrM) m d true n a r=kU l m d false n a r
 |0,a,r=>rfl
 |n+1,a,r=>by simp only[kU,ac6,NX l m d n]
theorem afc (l:aw aA)(m:bM)(d a:Int)(s:Bytes):hH (l.map wrM) m d a s true=hH l m d a s false:=by
 have e:kD (l.map wrM) m d a (s.length:Int) true=kD l m d a (s.length:Int) false:=by simp only[kD,PH,NX]
 simp only[hH,e]
theorem MG (l:aw aA)(m:bM)(d a:Int)(s:Bytes)(hl:l.length<=10^9)(hm:m.length<=10^9)(ha:a<=9223372036854775807):uh l m d a s=some (hH l m d a s false):=by unfold uh;refine eG (λi=>((l.take i).map wrM,(i:Int))) l.length (by omega) (λi nx hi=>?_) (λnx=>?_);simp only[py];rw[jU,bf hi,ak];simp only[ah,ab];rw[aP (by simp;omega),bQ hi,List.map_append];rfl;simp only[py];rw[cC,af,eR,Gx _ m d a s (by rw[da];exact hl) hm ha,afc];rfl
theorem zR (l:aw aA)(m:bM)(d a:Int)(s:Bytes)(hl:l.length<=10^9)(hm:m.length<=10^9)(ha:a<=9223372036854775807:=by omega):jg l m d a s=some (hH l m d a s false):=by rw[jg,RY l m d a s false hl hm ha];rfl
def sR (d:Da):Bool:=dm d.1 0 3&&(dm d.2.1 0 3&&(dm d.2.2.1 0 65535&&(dm d.2.2.2.2.1 0 65535&&(dm d.2.2.2.2.2 0 65535&&dm d.2.2.2.1 0 4294967295))))
theorem RS (d:Da):wj d=some (sR d):=by simp only[wj,di,ab,sR];cases dm d.1 0 3<;>cases dm d.2.1 0 3<;>cases dm d.2.2.1 0 65535<;>cases dm d.2.2.2.2.1 0 65535<;>cases dm d.2.2.2.2.2 0 65535<;>rfl
theorem adu (d:Da):zD d=some (sR d):=by simp only[zD,eu,ab,sR];cases dm d.1 0 3<;>cases dm d.2.1 0 3<;>cases dm d.2.2.1 0 65535<;>cases dm d.2.2.2.2.1 0 65535<;>cases dm d.2.2.2.2.2 0 65535<;>rfl
def xk (d:Da):Bytes:=
 bif sR d then((((aJ [fU d.1,fU d.2.1]++bP d.2.2.1)++iP d.2.2.2.1)++bP d.2.2.2.2.1)++bP d.2.2.2.2.2)++iP 0 else []
theorem afm (d:Da):sr d=some (xk d):=by have h1:=bD d.2.2.1;have h2:=ez d.2.2.2.1;have h3:=bD d.2.2.2.2.1;have h4:=bD d.2.2.2.2.2;have h5:=ez 0;have h0:(aJ [fU d.1,fU d.2.1]).length=2:=rfl;unfold sr xk;rw[adu,ab];cases sR d;rfl;simp only[aj,af,ah,nN,pY,ab];rw[aP,aP (by simp only[ai];omega),aP (by simp only[ai];omega),aP (by simp only[ai];omega),aP (by simp only[ai];omega)]
theorem Pt (d:Da):kX d=some (xk d):=by have h1:=bD d.2.2.1;have h2:=ez d.2.2.2.1;have h3:=bD d.2.2.2.2.1;have h4:=bD d.2.2.2.2.2;have h5:=ez 0;have h0:(aJ [fU d.1,fU d.2.1]).length=2:=rfl;unfold kX xk;rw[RS,ab];cases sR d;rfl;simp only[aj,af,ah,kt,yy,ab];rw[aP,aP (by simp only[ai];omega),aP (by simp only[ai];omega),aP (by simp only[ai];omega),aP (by simp only[ai];omega)]
def nW (r:lN):Int:=bif cW r then au (r.2.1-bE r) else 0
def om (r:lN)(c:Int):Int:=bif !cW r||decide (c<0) then-1 else r.1+tmod c r.2.1*16
theorem kL (h:cW r=true):0<=r.1/\r.1<=130944/\(r.2.1=2\/r.2.1=4\/r.2.1=8\/r.2.1=16)/\0<=r.2.2.1/\r.2.2.1<=2*r.2.1-1/\0<=r.2.2.2/\r.2.2.2<=2*r.2.1-1:=by simp only[cW,ae,bg]at h;exact⟨h.1.1,h.1.2,gG.1 h.2.1,h.2.2.1.1,h.2.2.1.2,h.2.2.2.1.1,h.2.2.2.1.2⟩
theorem CS (r:lN)(c:Int): -1<=om r c/\om r c<=200000:=by
 unfold om;cases hc: !cW r||decide (c<0)with
 |true=>exact⟨dL _,by simp⟩
 |false=>
  simp only[cg,dz,cP]at hc;have h:=kL hc.1;have h2:0<=tmod c r.2.1/\tmod c r.2.1<r.2.1:=by rw[df (by omega)];exact⟨eI _ (by omega),eJ _ (by omega)⟩
  simp only[af];omega
def cM (l:aw aA)(m:bM)(d:Int)(r:lN)(s:Bytes):bM×lN×Bool:=
 bif (nW r==0)||((s.length:Int) !=16) then(m,r,false) else
 bif !(hH l m d (om r r.2.2.2) s true).2 then(m,r,false) else
 ((hH l m d (om r r.2.2.2) s true).1,(r.1,r.2.1,r.2.2.1,tmod (r.2.2.2+1) (2*r.2.1)),true)
theorem HJ {w:Bool}(h:(hH l m d a s w).2=false):(hH l m d a s w).1=m:=by unfold hH at h⊢;cases hr:(kD l m d a (s.length:Int) w).2 with|false=>rfl|true=>rw[hr]at h;cases h
theorem HT (r:lN):rO r=some (nW r):=by unfold rO nW;rw[LF,ab];cases cW r;rfl;simp only[aj,af,ah,Tj,ab]
theorem aaq (r:lN)(c:Int):qG r c=some (om r c):=by
 have sJ:=CS r c;unfold qG;rw[LF,ab];unfold om at sJ⊢;cases hb:cW r;rfl;have h:=kL hb;by_cases hc:c<0;rw[ar hc];rfl;rw[hb,aq hc]at sJ;rw[aq hc];have h2:0<=tmod c r.2.1/\tmod c r.2.1<r.2.1:=by rw[df (by omega)];exact⟨eI _ (by omega),eJ _ (by omega)⟩
 simp only[aj,af,ab,bZ]at sJ⊢;rw[lZ,ak (n:=16*tmod c r.2.1),ak];congr 1;omega
theorem Th (l:aw aA)(m:bM)(d:Int)(r:lN)(s:Bytes)(hl:l.length<=10^9)(hm:m.length<=10^9):xB l m d r s=some (cM l m d r s):=by
 have hA:=CS r r.2.2.2;unfold xB cM;simp only[HT,ab,aaq,Gx l m d _ s hl hm (show om r r.2.2.2<=9223372036854775807 by omega),Bk m (show m.length<=1073741824 by omega)];cases hf:nW r==0;case true=>rfl
 cases (s.length:Int) !=16;case true=>rfl
 have hb:cW r=true:=by cases hb:cW r with|true=>rfl|false=>unfold nW at hf;rw[hb]at hf;cases hf
 have h:=kL hb;simp only[af,ab,bZ];cases hp:(hH l m d (om r r.2.2.2) s true).2 with|false=>simp only[bF,ah,HJ hp]|true=>simp only[aj,af];rw[ak (n:=2*r.2.1),lZ,ak (n:=r.2.2.2+1)]
theorem Nr (r:lN):ru r=some (nW r):=by unfold ru nW;rw[wi,ab];cases cW r;rfl;simp only[aj,af,ah,yw,ab]
theorem Nw (r:lN)(c:Int):mP r c=some (om r c):=by
 have sJ:=CS r c;unfold mP;rw[wi,ab];unfold om at sJ⊢;cases hb:cW r;rfl;have h:=kL hb;by_cases hc:c<0;rw[ar hc];rfl;rw[hb,aq hc]at sJ;rw[aq hc];have h2:0<=tmod c r.2.1/\tmod c r.2.1<r.2.1:=by rw[df (by omega)];exact⟨eI _ (by omega),eJ _ (by omega)⟩
 simp only[aj,af,ab,bZ]at sJ⊢;rw[lZ,ak (n:=tmod c r.2.1*16),ak]
theorem Ir (l:aw aA)(m:bM)(d:Int)(r:lN)(s:Bytes)(hl:l.length<=10^9)(hm:m.length<=10^9):tN l m d r s=some (cM l m d r s):=by
 have hA:=CS r r.2.2.2;unfold tN cM;simp only[Nr,ab,Nw,Ba l m d _ s hl hm (show om r r.2.2.2<=9223372036854775807 by omega),eS m (show m.length<=1073741824 by omega)];cases hf:nW r==0;case true=>rfl
 cases (s.length:Int) !=16;case true=>rfl
 have hb:cW r=true:=by cases hb:cW r with|true=>rfl|false=>unfold nW at hf;rw[hb]at hf;cases hf
 have h:=kL hb;simp only[af,ab,bZ];cases hp:(hH l m d (om r r.2.2.2) s true).2 with|false=>simp only[bF,ah,HJ hp]|true=>simp only[aj,af];rw[ak (n:=2*r.2.1),lZ,ak (n:=r.2.2.2+1)]
theorem xw {p:cR}(h:dx p=true):0<=p.1/\p.1<=130944/\1<=p.2.1/\p.2.1<=512/\0<=p.2.2.1/\p.2.2.1<=16:=by simp only[dx,ae,bg]at h;exact⟨h.1.1,h.1.2,h.2.1.1,h.2.1.2,h.2.2.1.1,h.2.2.1.2⟩
def nV (p:cR)(i:Int):Int:=bif !dx p|| !dm i 0 (p.2.2.1-1) then-1 else p.1+i*p.2.1
theorem WM {p:cR}{i:Int}(hp:dx p=true)(hi:dm i 0 (p.2.2.1-1)=true):au (p.1+au (i*p.2.1))=p.1+i*p.2.1:=by have h:=xw hp;have h2:=bg.1 hi;have h3:0<=i*p.2.1:=Int.mul_nonneg h2.1 (by omega);have h4:i*p.2.1<=16*512:=Int.mul_le_mul (by omega) (by omega) (by omega) (by omega);rw[ak (n:=i*p.2.1),ak]
theorem adt (p:cR)(i:Int)(h:p.2.2.2.length<=10^9):nO p i=some (nV p i):=by unfold nO nV;rw[Gz p h,ab];cases hp:dx p;rfl;have sJ:=xw hp;rw[ak (n:=p.2.2.1-1),eu];cases hi:dm i 0 (p.2.2.1-1);rfl;simp only[aj,af,ab,bZ,WM hp hi]
theorem FP (p:cR)(i:Int)(h:p.2.2.2.length<=10^9):fL p i=some (nV p i):=by unfold fL nV;rw[tB p h,ab];cases hp:dx p;rfl;have sJ:=xw hp;rw[ak (n:=p.2.2.1-1),di];cases hi:dm i 0 (p.2.2.1-1);rfl;simp only[aj,af,ab,bZ,WM hp hi]
def upto (n:Nat):cw:=(List.range n).map Int.ofNat
theorem Oc (n:Nat):upto (n+1)=upto n++[(n:Int)]:=by simp[upto,List.range_succ]
theorem ad5 (h:i<n):(upto n).getD i 0=(i:Int):=by rw[cL (by simpa[upto]using h)];simp[upto]
theorem VW (a b:Int)(n:Nat)(hn:n<=16):dx (a,b,(n:Int),upto n)=dx (a,b,(n:Int),[]):=by
 unfold dx;congr 3;have h1:(List.range (upto n).length).all (Cn (n:Int) (upto n))=true:=by
  rw[aG];intro i hi;have hi:i<n:=by simpa[upto]using hi
  simp only[Cn,ad5 hi,ae,bg,aK];refine⟨by omega,?_⟩;rw[Bool.eq_false_iff,ne_eq,List.contains_iff_mem];intro hm;simp only[upto,<-List.map_take,List.mem_map]at hm;obtain⟨j,hj,he⟩:=hm;rw[List.take_range]at hj;have:=bT.1 hj;have:(j:Int)=(i:Int):=he;omega
 rw[h1];rfl
def gT (a b n:Int):cR×Bool:=bif dx (a,b,n,[]) then((a,b,n,upto n.toNat),true) else((0,0,0,[]),false)
theorem Io (a b n:Int):tJ a b n=some (gT a b n):=by
 unfold tJ gT;rw[tB _ (by simp),ab];cases hp:dx (a,b,n,[]);rfl;have sJ:=xw hp;obtain⟨n,rfl⟩:=aV (show 0<=n from sJ.2.2.2.2.1);have h16:n<=16:=by have:=sJ.2.2.2.2.2;simp only at this;omega
 simp only[aj,af,ah,az];refine eG (λi=>((i:Int),a,b,(n:Int),upto i)) n (by omega) (λi nx hi=>?_) (λnx=>?_);simp only[sa];rw[jU,aP (by simp[upto];omega),ak,Oc];rfl;simp only[sa];rw[cC];rfl
theorem II (a b n:Int):uj a b n=some (gT a b n):=by
 have Ak:=dR;unfold uj gT;by_cases hn:0<=n/\n<=16;obtain⟨n,rfl⟩:=aV hn.1;have h16:n<=16:=by omega
 refine eG (λi=>((i:Int),a,b,(n:Int),upto i)) n (by omega) (λi nx hi=>?_) (λnx=>?_);simp only[oo];rw[ar (show(i:Int)<n by omega),ar (show(n:Int)<=16 by omega)];simp only[ah,ab];rw[aP (by simp[upto];omega),ak,Oc];rfl;simp only[oo];rw[aq (show¬(n:Int)<n by omega)];simp only[af,ab,Gz (a,b,(n:Int),upto n) (show(upto n).length<=10^9 by simp[upto];omega),VW a b n h16,az];cases dx (a,b,(n:Int),[])<;>rfl;have hb:dx (a,b,n,[])=false:=by cases hp:dx (a,b,n,[])with|false=>rfl|true=>have:=xw hp;exact absurd ⟨this.2.2.2.2.1,this.2.2.2.2.2⟩ hn
 obtain⟨f,hf⟩:∃f,fuel=f+1:=⟨fuel-1,by omega⟩
 rw[hf,aX];simp only[oo];have hc:(cond (decide ((0:Int)<n)) (some (decide (n<=16))) (some false))=some false:=by by_cases h0:(0:Int)<n;rw[ar h0,cC];rfl;rw[aq h0];rfl
 rw[hc];simp only[ab,af,Gz (a,b,n,[]) (show([]:cw).length<=10^9 by simp),hb];rfl
def eP (p:cR)(b:Int):Bytes:=xk (3,0,p.2.1,nV p b,0,b)
def lY (l:aw aA)(d:Int)(p:cR):cw->bM->lN->Nat×bM×lN
 |[],m,r=>(0,m,r)
 |b::q,m,r=>bif (cM l m d r (eP p b)).2.2 then
   ((lY l d p q (cM l m d r (eP p b)).1 (cM l m d r (eP p b)).2.1).1+1,(lY l d p q (cM l m d r (eP p b)).1 (cM l m d r (eP p b)).2.1).2)
  else(0,m,r)
theorem uc (l:aw aA)(m:bM)(d:Int)(r:lN)(s:Bytes):(cM l m d r s).1.length=m.length:=by
 unfold cM;cases (nW r==0)||((s.length:Int) !=16);case true=>rfl
 cases (hH l m d (om r r.2.2.2) s true).2 with|false=>rfl|true=>exact jE ..
theorem Ha (l:aw aA)(d:Int)(p:cR):∀(q:cw)(m:bM)(r:lN),(lY l d p q m r).2.1.length=m.length/\(lY l d p q m r).1<=q.length
 |[],m,r=>⟨rfl,aU _⟩
 |b::q,m,r=>by rw[lY];cases (cM l m d r (eP p b)).2.2 with|false=>exact⟨rfl,bW _⟩|true=>have:=Ha l d p q (cM l m d r (eP p b)).1 (cM l m d r (eP p b)).2.1;simp only[ah,bc];exact⟨by rw[this.1,uc],by omega⟩
theorem abU (r:lN):0<=nW r:=by
 unfold nW;cases hb:cW r with
 |false=>exact dL _
 |true=>
  have h:=kL hb;simp only[cW,ae,aB]at hb;have hu:=hb.2.2.2.2;have h0:0<=bE r:=by unfold bE;split;exact eI _ (by omega);exact dL _
  simp only[ah];rw[ak];omega
theorem PU (h:¬nW r>0):cM l m d r s=(m,r,false):=by
 have h0:=abU r;have:nW r=0:=by omega
 unfold cM;rw[this];rfl
theorem FR (K:Int->Int->lN->bM->ax R)(K':Nat->lN->bM->ax R)(hK:∀(c:Nat) i r m,K (c:Int) i r m=K' c r m)(l:aw aA)(d:Int)(p p2 p3:cR)(hp:p.2.2.2.length<=10^9)(hl:l.length<=10^9):∀(rest pre:cw)(m:bM)(r:lN)(f:Nat),rest.length<f->pre.length+rest.length<=10^9->m.length<=10^9->
 aX (mK K l d (pre++rest) ((pre++rest).length:Int) p ([]:bM) (0,0,0,0) p2 p3) f ((pre.length:Int),(pre.length:Int),r,m)=K' (pre.length+(lY l d p rest m r).1) (lY l d p rest m r).2.2 (lY l d p rest m r).2.1
 |rest,pre,m,r,0,hf,_,_=>by omega
 |[],pre,m,r,f+1,_,_,_=>by rw[aX];simp only[mK];rw[aq (by simp),af,hK];rfl
 |b::q,pre,m,r,f+1,hf,hn,hm=>by
  simp only[bc]at hf hn;have hi:pre.length<(pre++b::q).length:=by simp
  have hb:(pre++b::q)[pre.length]=b:=by simp
  rw[aX];simp only[mK];rw[ar (by simp;omega),bf hi,hb];simp only[ah,ab,FP p b hp,Pt,Ir l m d r _ hl hm];rw[show xk (3,0,p.2.1,nV p b,0,b)=eP p b from rfl,lY];cases hq:(cM l m d r (eP p b)).2.2 with
  |false=>simp only[bF,ah,af,hK,dT]
  |true=>
   simp only[aj,af,ah];rw[ak (n:=(pre.length:Int)+1)];have key:=FR K K' hK l d p p2 p3 hp hl q (pre++[b]) (cM l m d r (eP p b)).1 (cM l m d r (eP p b)).2.1 f (by omega) (by simp;omega) (by rw[uc];exact hm);have el:((pre++[b]).length:Int)=(pre.length:Int)+1:=by simp
   have el2:(pre++[b]).length=pre.length+1:=by simp
   rw[aQ,List.singleton_append,el,el2]at key;rw[show pre.length+((lY l d p q (cM l m d r (eP p b)).1 (cM l m d r (eP p b)).2.1).1+1)=pre.length+1+(lY l d p q (cM l m d r (eP p b)).1 (cM l m d r (eP p b)).2.1).1 by omega];exact key
theorem Gy (K:Int->lN->bM->cR->ax R)(l:aw aA)(d:Int)(p p2:cR)(hp:p.2.2.2.length<=10^9)(hl:l.length<=10^9)(A B C:Int):∀(rest:cw)(c:Nat)(m:bM)(r:lN)(f:Nat),rest.length<f->c+rest.length<=10^9->m.length<=10^9->
 aX (nd K l d p ([]:bM) (0,0,0,0) p2) f ((c:Int),r,m,A,B,C,rest)=K ((c+(lY l d p rest m r).1:Nat):Int) (lY l d p rest m r).2.2 (lY l d p rest m r).2.1 (A,B,C,rest.drop (lY l d p rest m r).1)
 |rest,c,m,r,0,hf,_,_=>by omega
 |[],c,m,r,f+1,_,_,_=>by
  rw[aX];simp only[nd,HT,ab];have hc:(cond (decide (nW r>0)) (some (decide ((([]:cw).length:Int)>0))) (some false))=some false:=by cases decide (nW r>0)<;>rfl
  rw[hc];rfl
 |b::q,c,m,r,f+1,hf,hn,hm=>by
  simp only[bc]at hf hn;rw[aX];simp only[nd,HT,ab];by_cases hr:nW r>0;rw[ar hr,ar (show(((b::q).length:Nat):Int)>0 by simp)];have hi:idx (b::q) 0=some b:=rfl;have hs:sub (b::q) 1 ((b::q).length:Int)=some q:=by unfold sub;rw[aE (by simp;omega)];simp
  simp only[ah,ab,hi,adt p b hp,afm,Th l m d r _ hl hm];rw[show xk (3,0,p.2.1,nV p b,0,b)=eP p b from rfl,lY];cases hq:(cM l m d r (eP p b)).2.2 with|false=>rfl|true=>simp only[aj,af,ah,hs,ab];rw[mX (by omega),ak (n:=(c:Int)+1),cA];have key:=Gy K l d p p2 hp hl A B C q (c+1) (cM l m d r (eP p b)).1 (cM l m d r (eP p b)).2.1 f (by omega) (by omega) (by rw[uc];exact hm);rw[show((c+1:Nat):Int)=(c:Int)+1 by omega]at key;refine Eq.trans key ?_;rw[show c+1+(lY l d p q (cM l m d r (eP p b)).1 (cM l m d r (eP p b)).2.1).1=c+((lY l d p q (cM l m d r (eP p b)).1 (cM l m d r (eP p b)).2.1).1+1) by omega];rfl
  rw[aq hr,lY,PU hr];rfl
def tt (l:aw aA)(m:bM)(d:Int)(r:lN)(p:cR):bM×lN×cR×Int:=
 bif !cW r|| !dx p then(m,r,p,0) else
 ((lY l d p p.2.2.2 m r).2.1,(lY l d p p.2.2.2 m r).2.2,(p.1,p.2.1,p.2.2.1,p.2.2.2.drop (lY l d p p.2.2.2 m r).1),((lY l d p p.2.2.2 m r).1:Int))
theorem RU (l:aw aA)(m:bM)(d:Int)(r:lN)(p:cR)(hl:l.length<=10^9)(hm:m.length<=10^9)(hp:p.2.2.2.length<=10^9):hU l m d r p=some (tt l m d r p):=by have Ak:=dR;unfold hU tt;simp only[eS m (show m.length<=1073741824 by omega),sQ p hp,wi,tB p hp,ab];cases cW r;rfl;cases dx p;rfl;simp only[aj,af,ab,bZ];have hlen:=(Ha l d p p.2.2.2 m r).2;refine(FR _ (λc r m=>aa (sub p.2.2.2 (c:Int) (p.2.2.2.length:Int)) λx14=>aa (eT x14) λzV=>some (m,r,(p.1,p.2.1,p.2.2.1,zV),(c:Int))) (λ_ _ _ _=>rfl) l d p _ p hp hl p.2.2.2 [] m r fuel (by omega) (by simp;omega) hm).trans ?_;rw[ef,ca,JA _ _ _ hlen (aU _),ab,bK (by rw[aM];exact aU _),lj _ (by rw[aM];omega)];rfl
theorem adv (l:aw aA)(m:bM)(d:Int)(r:lN)(p:cR)(hl:l.length<=10^9)(hm:m.length<=10^9)(hp:p.2.2.2.length<=10^9):vR l m d r p=some (tt l m d r p):=by have Ak:=dR;unfold vR tt;simp only[Bk m (show m.length<=1073741824 by omega),Vs p hp,LF,Gz p hp,ab];cases cW r;rfl;cases dx p;rfl;simp only[aj,af,ab,bZ];refine(Gy _ l d p _ hp hl p.1 p.2.1 p.2.2.1 p.2.2.2 0 m r fuel (by omega) (by omega) hm).trans ?_;rw[ca]
def jZ (p:cR)(n:Int):cR×cw×Bool:=bif dx p&&dm n 0 (p.2.2.2.length:Int) then((p.1,p.2.1,p.2.2.1,p.2.2.2.drop n.toNat),p.2.2.2.take n.toNat,true) else(p,[],false)
theorem YY (p:cR)(n:Int)(h:p.2.2.2.length<=10^9):qv p n=some (jZ p n):=by unfold qv jZ;rw[sQ p h,ab,tB p h,ab,di];cases dx p;rfl;cases hi:dm n 0 (p.2.2.2.length:Int);rfl;have hn:=bg.1 hi;obtain⟨n,rfl⟩:=aV hn.1;simp only[aj,af,ab,eY,ah,az];rw[Tn _ n (by omega),ab,lj _ (by simp;omega),ab,show sub p.2.2.2 0 (n:Int)=some (p.2.2.2.take n) from by rw[xO (by omega) hn.2,az],ab,lj _ (by simp;omega),ab]
theorem B6:∀l:aw kO,(∀x∈l,0<=x.2.1/\x.2.1<=16)->0<=dH l/\dH l<=16*(l.length:Int)
 |[],_=>by simp[dH]
 |y::l,h=>by have h1:=B6 l (λx hx=>h x (ec _ hx));have h2:=h y (List.mem_cons_self ..);simp only[dH,cV,List.sum_cons,bc]at h1⊢;omega
theorem Ub (l:aw kO)(i:Nat)(hi:i<l.length):dH (l.take (i+1))=dH (l.take i)+l[i].2.1:=by rw[bQ hi];simp only[dH,List.map_append,List.sum_append,cV,List.map_nil,List.sum_cons,List.sum_nil,Int.add_zero]
theorem YU (t:dD)(h:t.2.2.1.length<=1000000)(hs:∀x∈t.2.2.1,0<=x.2.1/\x.2.1<=16):po t=some (dH t.2.2.1):=by
 have Ak:=dR;unfold po;refine eG (λi=>(dH (t.2.2.1.take i),(i:Int))) t.2.2.1.length (by omega) (λi nx hi=>?_) (λnx=>?_);have hb:=B6 (t.2.2.1.take i) (λx hx=>hs x (List.mem_of_mem_take hx));have hc:=hs _ (bk hi);have hl:(t.2.2.1.take i).length<=1000000:=by rw[aY];omega
 rw[Ub _ _ hi];simp only[lA];rw[jU,ah,bf hi,ab,ak (n:=(i:Int)+1),ak];rfl;simp only[lA];rw[cC,af,eR]
def qD (l:aw aA)(d:Int):bM->bM->lN->ax (bM×lN)
 |[],m,r=>some (m,r)
 |s::q,m,r=>bif (cM l m d r s).2.2 then qD l d q (cM l m d r s).1 (cM l m d r s).2.1 else none
def agc (m:bM)(r:lN):ax (bM×lN)->bM×lN×Bool
 |some x=>(x.1,x.2,true)
 |none=>(m,r,false)
def ub (l:aw aA)(m:bM)(d:Int)(r:lN)(q:bM):bM×lN×Bool:=agc m r (qD l d q m r)
theorem IA (l:aw aA)(d:Int):∀(q:bM)(m:bM)(r:lN){x},qD l d q m r=some x->x.1.length=m.length
 |[],m,r,x,h=>by cases h;rfl
 |s::q,m,r,x,h=>by rw[qD]at h;cases hq:(cM l m d r s).2.2 with|false=>rw[hq]at h;cases h|true=>rw[hq]at h;exact(IA l d q _ _ h).trans (uc ..)
theorem CA (l:aw aA)(d:Int)(M:bM)(A B2:lN)(B1:bM)(hl:l.length<=10^9)(hM:M.length<=10^9):∀(rest pre:bM)(m:bM)(r:lN)(f:Nat),rest.length<f->(pre++rest).length<=10^9->m.length<=10^9->
 aX (kx (λ_ y6 y7=>some (y6,y7,true)) (λy8 _ DK C7 _ _=>some (DK,C7,y8)) l d false (pre++rest) ((pre++rest).length:Int) M A B1 B2) f ((pre.length:Int),m,r)=some (agc M A (qD l d rest m r))
 |rest,pre,m,r,0,hf,_,_=>by omega
 |[],pre,m,r,f+1,_,_,_=>by rw[aX];simp only[kx];rw[aq (by simp),af];rfl
 |s::q,pre,m,r,f+1,hf,hn,hm=>by
  simp only[bc,ai]at hf hn;have hi:pre.length<(pre++s::q).length:=by simp
  have hb:(pre++s::q)[pre.length]=s:=by simp
  rw[aX];simp only[kx];rw[ar (by simp;omega),bf hi,hb];simp only[ah,ab,Ir l m d r _ hl hm];rw[qD];cases hq:(cM l m d r s).2.2 with
  |false=>simp only[bF,ah,af,eS M,ab];rfl
  |true=>
   simp only[aj,af,ah];rw[ak (n:=(pre.length:Int)+1)];have key:=CA l d M A B2 B1 hl hM q (pre++[s]) (cM l m d r s).1 (cM l m d r s).2.1 f (by omega) (by simp;omega) (by rw[uc];exact hm);have el:((pre++[s]).length:Int)=(pre.length:Int)+1:=by simp
   rw[aQ,List.singleton_append,el]at key;exact key
theorem Vd (l:aw aA)(m:bM)(d:Int)(r:lN)(q:bM)(hl:l.length<=10^9)(hm:m.length<=10^9)(hq:q.length<=10^9):jv l m d r q=some (ub l m d r q):=by have Ak:=dR;unfold jv ub;rw[eS m,ab];exact CA l d m r _ _ hl hm q [] m r fuel (by omega) (by simpa using hq) hm
theorem Ld (l:aw aA)(m:bM)(d:Int)(w:Bool):∀(n a r:Nat)(q:aw (Int×Int)),kU l m d w n a r=some q->q.length<=n
 |0,a,r,q,h=>by simp only[kU,aZ]at h;subst h;simp
 |n+1,a,r,q,h=>by simp only[kU]at h;split at h;simp only[aZ]at h;subst h;simp;split at h;simp only[Option.map_eq_some_iff]at h;obtain⟨q',h1,rfl⟩:=h;have:=Ld l m d w n _ _ q' h1;simp only[bc];omega;cases h
theorem HP (l:aw aA)(m:bM)(d a n:Int)(w:Bool):(kD l m d a n w).1.length<=4096:=by
 unfold kD;cases hB:dF l&&(cE m&&dm n 0 4096);simp;simp only[ae,bg]at hB;simp only[ah];cases n==0;case true=>simp
 cases decide (a<0);case true=>simp
 simp only[af];split;rename_i q hq;have:=Ld _ _ _ _ _ _ _ _ hq;show q.length<=4096;omega;simp
def uW (m:bM)(p:Int×Int):Bytes:=bif gr m p.1 p.2 then AB m p.1.toNat p.2.toNat else []
theorem Ee (m:bM)(p:Int×Int):(uW m p).length<=8192:=by unfold uW;cases h:gr m p.1 p.2 with|false=>simp|true=>simp only[gr,ae,aB]at h;have:=adf m p.1.toNat p.2.toNat;have:=(mem_iff.1 h.1).2;simp only[ah];omega
theorem ue (m:bM):∀q:aw (Int×Int),(q.flatMap (uW m)).length<=8192*q.length
 |[]=>by simp
 |p::q=>by have:=ue m q;have:=Ee m p;simp only[List.flatMap_cons,ai,bc];omega
def qY (l:aw aA)(m:bM)(d a n:Int):Bytes×Bool:=
 bif (kD l m d a n false).2 then((kD l m d a n false).1.flatMap (uW m),true) else([],false)
theorem O5 {β:Type}(g:α->aw β)(l:aw α)(i:Nat)(hi:i<l.length):(l.take (i+1)).flatMap g=(l.take i).flatMap g++g l[i]:=by rw[bQ hi,List.flatMap_append];simp
theorem zl (l:aw aA)(m:bM)(d a n:Int)(hl:l.length<=10^9)(hm:m.length<=10^9)(ha:a<=9223372036854775807):nv l m d a n=some (qY l m d a n):=by
 unfold nv qY;rw[RZ l m d a n false hl hm ha,ab];have hL:=HP l m d a n false;generalize kD l m d a n false=r at hL⊢;cases hr:r.2;rfl;simp only[aj,af,ah];refine(eG (λi=>((r.1.take i).flatMap (uW m),(i:Int))) r.1.length (by omega) (λi nx hi=>?_) (λnx=>?_));simp only[rX];rw[jU,bf hi,ak];have e:oa m r.1[i].1 r.1[i].2=some (uW m r.1[i],gr m r.1[i].1 r.1[i].2):=by rw[acA m _ _ hm,uW];cases gr m r.1[i].1 r.1[i].2<;>rfl
 have h1:=ue m (r.1.take i);have h2:=Ee m r.1[i];simp only[ah,ab,e];rw[aP (by rw[aY]at h1;omega),<-O5];rfl;simp only[rX];rw[cC,eR];rfl
theorem J2 (l:aw aA)(m:bM)(d a n:Int):(qY l m d a n).1.length<=100000000:=by have hL:=HP l m d a n false;have h1:=ue m (kD l m d a n false).1;unfold qY;cases (kD l m d a n false).2 with|false=>simp|true=>simp only[ah];omega
def AM (s:Bytes):Ep×Int×Bool:=
 bif ((s.length:Int) !=16)||decide (fF s 12>1) then((0,0,0,0,0),0,false) else((ch s 0,ch s 2,ch s 4,ch s 6,fF s 8),fF s 12,true)
theorem U6 (s:Bytes)(h:s.length<=10^9):kG s=some (AM s):=by
 unfold kG AM;cases (s.length:Int) !=16;case true=>rfl
 simp only[uP s _ h,ya s _ h,ab,af,cG];cases decide (fF s 12>1)<;>rfl
def yC (q:L3):Int:=bif decide (q.2.2<q.2.1) then 1 else 0
theorem Nt (q:L3):tU q=some (yC q):=by unfold tU yC;cases decide (q.2.2<q.2.1)<;>rfl
theorem ud {q:L3}(h:fI q=true):0<=q.1/\q.1<=130944/\(q.2.1=2\/q.2.1=4\/q.2.1=8\/q.2.1=16)/\0<=q.2.2/\q.2.2<=2*q.2.1-1:=by simp only[fI,ae,bg]at h;obtain⟨h1,h2,h3⟩:=h;rw[ye h2]at h3;exact⟨h1.1,h1.2,gG.1 h2,h3⟩
def qX (q:L3):Int:=q.1+tmod q.2.2 q.2.1*16
theorem Qq (h:0<=a:=by omega)(hb:0<b:=by omega):0<=tmod a b/\tmod a b<b:=by rw[df h];exact⟨eI _ (by omega),eJ _ hb⟩
theorem P7 {q:L3}(h:fI q=true):0<=tmod q.2.2 q.2.1/\tmod q.2.2 q.2.1<16:=by obtain⟨_,_,h3,h4,h5⟩:=ud h;have:=Qq h4 (show 0<q.2.1 by omega);omega
theorem Nx (q:L3)(h:fI q=true):mS q=some (qX q):=by obtain⟨h1,h2,h3,h4,h5⟩:=ud h;have:=P7 h;unfold mS qX;rw[lZ,ak (n:=tmod q.2.2 q.2.1*16),ak]
def agb (q:L3):L3:=(q.1,q.2.1,tmod (q.2.2+1) (2*q.2.1))
def PL (l:aw aA)(m:bM)(d:Int)(q:L3):Bool:=
 fI q&&((qY l m d (qX q) 16).2&&((AM (qY l m d (qX q) 16).1).2.2&&((AM (qY l m d (qX q) 16).1).2.1==yC q)))
def qV (l:aw aA)(m:bM)(d:Int)(q:L3):Ep×L3×Bool:=
 bif PL l m d q then((AM (qY l m d (qX q) 16).1).1,agb q,true) else((0,0,0,0,0),q,false)
theorem acw (l:aw aA)(m:bM)(d:Int)(q:L3)(hl:l.length<=10^9)(hm:m.length<=10^9):mm l m d q=some (qV l m d q):=by unfold mm qV PL;rw[Hj q,ab];cases hq:fI q;rfl;obtain⟨h1,h2,h3,h4,h5⟩:=ud hq;have hs:=P7 hq;have hd:=J2 l m d (qX q) 16;simp only[aj,af,Nx q hq,ab,zl l m d (qX q) 16 hl hm (by unfold qX;omega),bp];cases (qY l m d (qX q) 16).2;rfl;simp only[aj,af,U6 _ (bw hd (by omega)),ab,bp];cases (AM (qY l m d (qX q) 16).1).2.2;rfl;simp only[aj,af,Nt,ab,bp,bne];cases (AM (qY l m d (qX q) 16).1).2.1==yC q;rfl;simp only[aj,af,ah];rw[ak (n:=2*q.2.1),lZ,ak (n:=q.2.2+1)];rfl
theorem aem (p:cR)(i:Int):nV p i= -1\/(0<=nV p i/\nV p i<=200000):=by unfold nV;cases hp:dx p;exact .inl rfl;cases hi:dm i 0 (p.2.2.1-1);exact .inl rfl;have h:=xw hp;have h2:=bg.1 hi;have h3:0<=i*p.2.1:=Int.mul_nonneg h2.1 (by omega);have h4:i*p.2.1<=16*512:=Int.mul_le_mul (by omega) (by omega) (by omega) (by omega);simp only[aj,bZ,af];exact .inr (by omega)
def agQ (l:aw aA)(m:bM)(d a n:Int):Bool:=(qY l m d a n).2&&((jG (qY l m d a n).1).2==0)
def CJ (l:aw aA)(m:bM)(d:Int)(s:aw Stream×bR×cR):aw Stream×bR×cR:=
 ((bif agQ l m d (nV s.2.2 (qV l m d s.2.1.2.2.1).1.1) (qV l m d s.2.1.2.2.1).1.2.1 then Cd s.1 (jG (qY l m d (nV s.2.2 (qV l m d s.2.1.2.2.1).1.1) (qV l m d s.2.1.2.2.1).1.2.1).1).1 else s.1),
   (s.2.1.1,s.2.1.2.1,(qV l m d s.2.1.2.2.1).2.1,s.2.1.2.2.2),(EF s.2.2 [(qV l m d s.2.1.2.2.1).1.1]).1)
def jD (l:aw aA)(m:bM)(d:Int):Nat->aw Stream×bR×cR->Nat×(aw Stream×bR×cR)
 |0,s=>(0,s)
 |k+1,s=>bif !(qV l m d s.2.1.2.2.1).2.2 then(0,s) else((jD l m d k (CJ l m d s)).1+1,(jD l m d k (CJ l m d s)).2)
structure GW (n:Nat) (s:List Stream×bR×cR):Prop where
 st:cX n (.sl dG) s.1
 pl:s.2.2.2.2.2.length<=n
theorem Rn (p:cR)(l:cw):(EF p l).1.2.2.2.length<=p.2.2.2.length+l.length:=by unfold EF;cases Ah p l with|false=>show p.2.2.2.length<=_;omega|true=>simp[gj]
theorem Lj {s:aw Stream×bR×cR}(h:GW n s):GW (n+322) (CJ l m d s):=by
 refine⟨?_,?_⟩;unfold CJ;cases agQ l m d (nV s.2.2 (qV l m d s.2.1.2.2.1).1.1) (qV l m d s.2.1.2.2.1).1.2.1 with|false=>exact h.st.mono|true=>exact OV h.st
 have:=Rn s.2.2 [(qV l m d s.2.1.2.2.1).1.1];have h2:=h.pl;show(EF s.2.2 [(qV l m d s.2.1.2.2.1).1.1]).1.2.2.2.length<=_;simp only[bA]at this;omega
theorem FX (K:aw Stream->Int->bR->cR->ax R)(l:aw aA)(m:bM)(d:Int)(N:Nat)(hN:N<=1000)(B1:bM)(B2:bR)(B3:cR)(hl:l.length<=10^9)(hm:m.length<=10^9):∀(k i:Nat)(s:aw Stream×bR×cR)(f:Nat),i+k=N->k<f->GW (500000000+322*i) s->
 aX (ly K l d (N:Int) B1 B2 B3 m) f (s.1,(i:Int),s.2.1,s.2.2)=K (jD l m d k s).2.1 ((i+(jD l m d k s).1:Nat):Int) (jD l m d k s).2.2.1 (jD l m d k s).2.2.2
 |k,i,s,0,_,hf,_=>by omega
 |0,i,s,f+1,hi,hf,z=>by rw[aX];simp only[ly];rw[cC,af];rfl
 |k+1,i,s,f+1,hi,hf,z=>by have mi:cX 900000000 (.sl dG) s.1:=z.st.mono;have Dr:s.2.2.2.2.2.length<=900000000:=bw z.pl (by omega);rw[aX];simp only[ly];rw[jU];simp only[ah,acw l m d _ hl hm,ab,jD];cases hnx:(qV l m d s.2.1.2.2.1).2.2 with|false=>rfl|true=>have key:=FX K l m d N hN B1 B2 B3 hl hm k (i+1) (CJ l m d s) f (by omega) (by omega) ((Lj z).st.mono|>λa=>⟨a,bw (Lj z).pl (by omega)⟩);rw[show i+1+(jD l m d k (CJ l m d s)).1=i+((jD l m d k (CJ l m d s)).1+1) by omega]at key;simp only[aj,af];rw[<-key];unfold CJ;generalize qV l m d s.2.1.2.2.1=c;have ha:=aem s.2.2 c.1.1;have hd:=J2 l m d (nV s.2.2 c.1.1) c.1.2.1;simp only[FP _ _ (show s.2.2.2.2.2.length<=10^9 by omega),zl l m d _ c.1.2.1 hl hm (show nV s.2.2 c.1.1<=9223372036854775807 by omega),ab,Dv _ (bw hd (by omega)),Ps _ _ mi,KG s.2.2 [c.1.1] (show s.2.2.2.2.2.length+1<=10^9 by omega)];rw[ak (n:=(i:Int)+1),show((i+1:Nat):Int)=(i:Int)+1 by omega];unfold agQ;cases (qY l m d (nV s.2.2 c.1.1) c.1.2.1).2<;>cases (jG (qY l m d (nV s.2.2 c.1.1) c.1.2.1).1).2==0<;>rfl
theorem Li {l:aw aA}{m:bM}{d:Int}:∀(k:Nat){s:aw Stream×bR×cR}{n:Nat},GW n s->GW (n+322*k) (jD l m d k s).2
 |0,s,n,h=>h
 |k+1,s,n,h=>by rw[jD];cases (qV l m d s.2.1.2.2.1).2.2 with|false=>exact⟨h.st.mono,bw h.pl (by omega)⟩|true=>have:=Li (l:=l) (m:=m) (d:=d) k (Lj (l:=l) (m:=m) (d:=d) h);exact⟨this.st.mono,bw this.pl (by omega)⟩
def jn (l:aw aA)(m:bM)(d:Int)(rx:bR)(pl:cR)(st:aw Stream)(n:Int):bM×bR×cR×aw Stream×Int:=
 bif !Ff rx||(!dx pl|| !dm n 0 1000) then(m,rx,pl,st,0) else
 ((tt l m d (jD l m d n.toNat (st,rx,pl)).2.2.1.1 (jD l m d n.toNat (st,rx,pl)).2.2.2).1,
   ((tt l m d (jD l m d n.toNat (st,rx,pl)).2.2.1.1 (jD l m d n.toNat (st,rx,pl)).2.2.2).2.1,(jD l m d n.toNat (st,rx,pl)).2.2.1.2),
   (tt l m d (jD l m d n.toNat (st,rx,pl)).2.2.1.1 (jD l m d n.toNat (st,rx,pl)).2.2.2).2.2.1,(jD l m d n.toNat (st,rx,pl)).2.1,((jD l m d n.toNat (st,rx,pl)).1:Int))
theorem RX (l:aw aA)(m:bM)(d:Int)(rx:bR)(pl:cR)(st:aw Stream)(n:Int)(hl:l.length<=10^9)(hm:m.length<=10^9)(hp:pl.2.2.2.length<=500000000)(hs:cX 500000000 (.sl dG) st):tK l m d rx pl st n=some (jn l m d rx pl st n):=by
 have Ak:=dR;have hsl:st.length<=500000000:=hs.1;unfold tK jn;simp only[eS m (show m.length<=1073741824 by omega),sQ pl (show pl.2.2.2.length<=10^9 by omega),wP st,PB,tB pl (show pl.2.2.2.length<=10^9 by omega),di,ab];cases Ff rx;rfl;cases dx pl;rfl;cases hn:dm n 0 1000;rfl;have h:=bg.1 hn;obtain⟨n,rfl⟩:=aV h.1;simp only[aj,af,ab,bZ,az];have z:GW (500000000+322*0) (st,rx,pl):=⟨hs,hp⟩
 have hz:=Li (l:=l) (m:=m) (d:=d) n z;refine(FX _ l m d n (by omega) _ _ _ hl hm n 0 (st,rx,pl) fuel (by omega) (by omega) z).trans ?_;rw[ca];simp only[RU l m d _ _ hl hm (show(jD l m d n (st,rx,pl)).2.2.2.2.2.2.length<=10^9 from bw hz.pl (by omega)),ab]
def gP (i:Nat):Int:=1280+(i:Int)*1792
theorem WI (h:i<=8):au (1280+au ((i:Int)*1792))=gP i:=by rw[ak (n:=(i:Int)*1792),ak];rfl
theorem RP (i:Nat)(h:i<=8):pS (i:Int)=some (gP i):=by rw[pS,WI h]
theorem nK (a b n:Int)(h:n<=1000:=by omega):(gT a b n).1.2.2.2.length<=1000:=by unfold gT;cases dx (a,b,n,[])with|false=>simp|true=>simp[upto];omega
def IH (i:Nat):bR:=((gP i,4,0,0),(gP i+64,4,0),(gP i+64,4,0),((0,0,0,0,0,0,0,0,0,0,0,0,0,0,0,([]:Bytes)),0,0),false,0)
theorem YQ (i:Nat)(h:i<=8):uR (i:Int)=some (IH i,(gT (gP i+128) 384 4).1):=by have hb:gP i=1280+(i:Int)*1792:=rfl;simp only[uR,RP i h,ab];rw[ak (n:=gP i+128),ak (n:=gP i+64),Io];rfl
def En:dD:=((0,16,0,0),(gT 256 128 8).1,([]:aw kO),0)
theorem Zc:Bf=some En:=by rw[Bf,Io];rfl
theorem aar:wa=some En:=by rw[wa,II];rfl
def sX (l:aw aA)(m:bM)(i:Nat):bM×lN×cR×Int:=
 tt l (hH l m 0 (gP i) (xi 128) false).1 0 (gP i,4,0,0) (gT (gP i+128) 384 4).1
def SE (h:Host)(i:Nat):Host:=
 ((sX h.2.1 h.1 i).1,h.2.1,h.2.2.1,h.2.2.2.1.set i ((sX h.2.1 h.1 i).2.1,(gP i+64,4,0),(gP i+64,4,0),((0,0,0,0,0,0,0,0,0,0,0,0,0,0,0,([]:Bytes)),0,0),false,(match h.2.2.2.1[i]? with|some x=>x.2.2.2.2.2|none=>0)),h.2.2.2.2.1.set i (sX h.2.1 h.1 i).2.2.1,h.2.2.2.2.2)
theorem ady (h:Host)(i:Nat)(hi:i<=8)(h1:i<h.2.2.2.1.length)(h2:i<h.2.2.2.2.1.length)(hl:h.2.1.length<=10^9)(hm:h.1.length<=10^9):uB h (i:Int)=some ((),SE h i):=by have hb:gP i=1280+(i:Int)*1792:=rfl;have hz:il 128 0=some (xi 128):=LC 128;have hf:=adv h.2.1 (hH h.2.1 h.1 0 (gP i) (xi 128) false).1 0 (gP i,4,0,0) (gT (gP i+128) 384 4).1 hl (by rw[jE];exact hm) (bw (nK (gP i+128) 384 4) (by omega));unfold uB;simp only[WI hi];rw[ak (n:=gP i+128),ak (n:=gP i+64),II,hz];simp only[bf h1,bf h2,ab,MG h.2.1 h.1 0 (gP i) (xi 128) hl hm (by omega),hf,az,SE,sX,al h1]
def yF (h:Host)(i:Nat)(n:Int):Int×Host:=
 match h.2.2.2.1[i]?,h.2.2.2.2.1[i]? with
 |some rx,some pl=>
  ((jn h.2.1 h.1 0 rx pl h.2.2.2.2.2.2.2.2.2.1 n).2.2.2.2,(jn h.2.1 h.1 0 rx pl h.2.2.2.2.2.2.2.2.2.1 n).1,h.2.1,h.2.2.1,h.2.2.2.1.set i (jn h.2.1 h.1 0 rx pl h.2.2.2.2.2.2.2.2.2.1 n).2.1,h.2.2.2.2.1.set i (jn h.2.1 h.1 0 rx pl h.2.2.2.2.2.2.2.2.2.1 n).2.2.1,h.2.2.2.2.2.1,h.2.2.2.2.2.2.1,h.2.2.2.2.2.2.2.1,h.2.2.2.2.2.2.2.2.1,(jn h.2.1 h.1 0 rx pl h.2.2.2.2.2.2.2.2.2.1 n).2.2.2.1,h.2.2.2.2.2.2.2.2.2.2)
 |_,_=>(0,h)
theorem Pz (h:Host)(i:Nat)(n:Int)(h1:i<h.2.2.2.1.length)(h2:i<h.2.2.2.2.1.length)(z:cX 500000000 dC h):jX h (i:Int) n=some (yF h i n):=by have hl:h.2.1.length<=500000000:=z.2.1.1;have hm:h.1.length<=500000000:=z.1.1;have hp:h.2.2.2.2.1[i].2.2.2.length<=500000000:=(z.2.2.2.2.1.2 _ (bk h2)).2.2.2.1;unfold jX;simp only[bf h1,bf h2,ab,RX h.2.1 h.1 0 _ _ _ n (show h.2.1.length<=10^9 by omega) (show h.1.length<=10^9 by omega) hp z.2.2.2.2.2.2.2.2.2.1,az,yF,al h1,al h2]
theorem og {t:CT}{l:aw t.D}{x:t.D}(z:cX n (.sl t) l)(hx:cX n t x):cX n (.sl t) (l.set i x):=by refine⟨?_,λy hy=>?_⟩;show(l.set i x).length<=n;rw[aC];exact z.1;rcases List.mem_or_eq_of_mem_set hy with h|h;exact z.2 y h;rw[h];exact hx
theorem NV (hn:128<=n)(h:Bm m):cX n (.sl .str) m:=⟨bw h.2 (by omega),λx hx=>bw (Nat.le_of_eq (h.1 x hx)) hn⟩
theorem TD (hn:128<=n)(z:cX n (.sl .str) m)(a:Int)(s:Bytes):cX n (.sl .str) (qR m a s).1:=by unfold qR;cases hw:gr m a (s.length:Int);exact z;simp only[gr,ae,aB]at hw;exact NV hn (xS s.length (qC.1 hw.1) (by omega)).1
theorem SR (hn:128<=n):∀(q:aw (Int×Int)){m:bM}(s:Bytes),cX n (.sl .str) m->cX n (.sl .str) (Lm q m s)
 |[],m,s,z=>z
 |p::q,m,s,z=>SR hn q _ (TD hn z _ _)
theorem CL (hn:128<=n)(z:cX n (.sl .str) m)(l:aw aA)(d a:Int)(s:Bytes)(w:Bool):cX n (.sl .str) (hH l m d a s w).1:=by unfold hH;cases (kD l m d a (s.length:Int) w).2 with|false=>exact z|true=>exact SR hn _ _ z
theorem Gn (hn:128<=n)(z:cX n (.sl .str) m)(l:aw aA)(d:Int)(r:lN)(s:Bytes):cX n (.sl .str) (cM l m d r s).1:=by
 unfold cM;cases (nW r==0)||((s.length:Int) !=16);case true=>exact z
 cases (hH l m d (om r r.2.2.2) s true).2 with|false=>exact z|true=>exact CL hn z ..
theorem M7 (hn:128<=n)(l:aw aA)(d:Int)(p:cR):∀(q:cw){m:bM}(r:lN),cX n (.sl .str) m->cX n (.sl .str) (lY l d p q m r).2.1
 |[],m,r,z=>z
 |b::q,m,r,z=>by rw[lY];cases (cM l m d r (eP p b)).2.2 with|false=>exact z|true=>exact M7 hn l d p q _ (Gn hn z ..)
theorem M8 (hn:128<=n)(z:cX n (.sl .str) m)(l:aw aA)(d:Int)(r:lN)(p:cR):cX n (.sl .str) (tt l m d r p).1:=by unfold tt;cases !cW r|| !dx p with|true=>exact z|false=>exact M7 hn _ _ _ _ _ z
theorem W3 (l:aw aA)(m:bM)(d:Int)(r:lN)(p:cR):(tt l m d r p).1.length=m.length:=by unfold tt;cases !cW r|| !dx p with|true=>rfl|false=>exact(Ha ..).1
theorem EB (l:aw aA)(m:bM)(d:Int)(r:lN)(p:cR):(tt l m d r p).2.2.1.2.2.2.length<=p.2.2.2.length:=by unfold tt;cases !cW r|| !dx p with|true=>exact aU _|false=>show(p.2.2.2.drop _).length<=_;rw[aM];omega
theorem SK (l:aw aA)(m:bM)(d:Int):∀(k:Nat)(s:aw Stream×bR×cR),(jD l m d k s).2.2.1.2.2.2=s.2.1.2.2.2/\(jD l m d k s).1<=k
 |0,s=>⟨rfl,aU _⟩
 |k+1,s=>by rw[jD];cases (qV l m d s.2.1.2.2.1).2.2 with|false=>exact⟨rfl,bW _⟩|true=>have:=SK l m d k (CJ l m d s);simp only[aj,af];exact⟨this.1,by omega⟩
theorem NZ (hn:128<=n){rx:bR}{pl:cR}{st:aw Stream}(c:Int)(zm:cX n (.sl .str) m)(zr:cX n dI rx)(zp:cX n gZ pl)(zs:cX n (.sl dG) st): cX n (.sl .str) (jn l m d rx pl st c).1/\cX n dI (jn l m d rx pl st c).2.1/\cX (n+322000) gZ (jn l m d rx pl st c).2.2.1/\cX (n+322000) (.sl dG) (jn l m d rx pl st c).2.2.2.1/\0<=(jn l m d rx pl st c).2.2.2.2/\(jn l m d rx pl st c).2.2.2.2<=1000:=by
 unfold jn;cases hc: !Ff rx||(!dx pl|| !dm c 0 1000)with
 |true=>exact⟨zm,zr,zp.mono,zs.mono,dL _,by show(0:Int)<=1000;omega⟩
 |false=>
  have hi:dm c 0 1000=true:=by cases h:dm c 0 1000 with|true=>rfl|false=>rw[h]at hc;simp at hc
  have h:=bg.1 hi;have z:=Li (l:=l) (m:=m) (d:=d) c.toNat (s:=(st,rx,pl)) (n:=n) ⟨zs,zp.2.2.2.1⟩;have hx:=SK l m d c.toNat (st,rx,pl);refine⟨M8 hn zm ..,⟨?_,?_,?_,?_⟩,⟨cv,cv,cv,?_,λ_ _=>trivial⟩,z.st.mono,by show(0:Int)<=((jD l m d c.toNat (st,rx,pl)).1:Int);omega,by show((jD l m d c.toNat (st,rx,pl)).1:Int)<=1000;omega⟩;exact⟨cv,cv,cv,cv⟩;exact⟨cv,cv,cv⟩;exact⟨cv,cv,cv⟩;have e:=congrArg (λq=>cX n dI (rx.1,rx.2.1,rx.2.2.1,q)) hx.1;exact(e.mpr zr).2.2.2;have:=EB l m d (jD l m d c.toNat (st,rx,pl)).2.2.1.1 (jD l m d c.toNat (st,rx,pl)).2.2.2;have h2:=z.pl;show(tt l m d (jD l m d c.toNat (st,rx,pl)).2.2.1.1 (jD l m d c.toNat (st,rx,pl)).2.2.2).2.2.1.2.2.2.length<=_;omega
theorem VU (hn:128<=n)(i:Nat)(c:Int)(z:cX n dC h):cX (n+322000) dC (yF h i c).2:=by unfold yF;rcases h1:h.2.2.2.1[i]? with _|rx;exact z.mono;rcases h2:h.2.2.2.2.1[i]? with _|pl;exact z.mono;have zr:=z.2.2.2.1.2 _ (bn h1);have zp:=z.2.2.2.2.1.2 _ (bn h2);have hp:=NZ hn (l:=h.2.1) (d:=0) c z.1 zr zp z.2.2.2.2.2.2.2.2.2.1;have z':cX (n+322000) dC h:=z.mono;exact⟨hp.1.mono,z'.2.1,z'.2.2.1,og z'.2.2.2.1 (hp.2.1.mono),og z'.2.2.2.2.1 hp.2.2.1,z'.2.2.2.2.2.1,z'.2.2.2.2.2.2.1,z'.2.2.2.2.2.2.2.1,z'.2.2.2.2.2.2.2.2.1,hp.2.2.2.1,z'.2.2.2.2.2.2.2.2.2.2⟩
def bm (l:aw aA)(m:bM)(d:Int)(r:lN):Bytes×lN×Bool:=
 bif !cW r||(bE r==0) then([],r,false) else
 bif !(qY l m d (om r r.2.2.1) 16).2 then([],r,false) else
 ((qY l m d (om r r.2.2.1) 16).1,(r.1,r.2.1,tmod (r.2.2.1+1) (2*r.2.1),r.2.2.2),true)
theorem F2 (l:aw aA)(m:bM)(d:Int)(r:lN)(hl:l.length<=10^9)(hm:m.length<=10^9):ry l m d r=some (bm l m d r):=by
 have hA:=CS r r.2.2.1;unfold ry bm;simp only[wi,yw,ab,Nw,zl l m d _ 16 hl hm (show om r r.2.2.1<=9223372036854775807 by omega)];cases hb:cW r;rfl;have h:=kL hb;cases bE r==0;case true=>rfl
 simp only[aj,af,ab,bZ];cases (qY l m d (om r r.2.2.1) 16).2;rfl;simp only[aj,af];rw[ak (n:=2*r.2.1),lZ,ak (n:=r.2.2.1+1)]
theorem El (l:aw aA)(m:bM)(d:Int)(r:lN):(bm l m d r).1.length<=100000000:=by
 unfold bm;cases !cW r||(bE r==0);case true=>exact bW _
 cases (qY l m d (om r r.2.2.1) 16).2 with|false=>exact bW _|true=>exact J2 ..
theorem CZ (h:(bm l m d r).2.2=true): cW (bm l m d r).2.1=true/\bE (bm l m d r).2.1=bE r-1/\(bm l m d r).2.1.1=r.1/\(bm l m d r).2.1.2.1=r.2.1/\(bm l m d r).2.1.2.2.2=r.2.2.2:=by
 unfold bm at h⊢;cases hb:cW r with|false=>rw[hb]at h;cases h|true=>?_
 cases hu:bE r==0 with|true=>rw[hb,hu]at h;cases h|false=>?_
 cases hd:(qY l m d (om r r.2.2.1) 16).2 with|false=>rw[hb,hu,hd]at h;cases h|true=>?_
 simp only[aj,bZ,af];have hr:=kL hb;have hq:=hb;simp only[cW,ae,aB]at hq;have h1:=hq.2.2.2.2;have hs:=hq.2.1;have Pn:bE r≠0:=by simpa using hu
 have e:tmod (r.2.2.1+1) (2*r.2.1)=(r.2.2.1+1)%(2*r.2.1):=df (by omega);rw[e];unfold bE at h1 Pn⊢;simp only[hs,bN]at h1 Pn⊢;have key:(r.2.2.2-(r.2.2.1+1)%(2*r.2.1))%(2*r.2.1)=(r.2.2.2-r.2.2.1)%(2*r.2.1)-1/\0<=(r.2.2.1+1)%(2*r.2.1)/\(r.2.2.1+1)%(2*r.2.1)<=2*r.2.1-1:=by rcases hr.2.2.1 with hn|hn|hn|hn<;>rw[hn]at h1 Pn hr⊢<;>omega
 refine⟨?_,key.1,cv,cv,cv⟩;simp only[cW,bE,hs,bN,ae,aB,bg];refine⟨by omega,cv,by omega,by omega,?_⟩;rw[key.1];omega
theorem wD (h:cW r=true):0<=bE r/\bE r<=16:=by have hr:=kL h;have hq:=h;simp only[cW,ae,aB]at hq;refine⟨?_,by have:=hq.2.2.2.2;omega⟩;unfold bE;rw[hq.2.1,aE rfl];exact eI _ (by omega)
def H8:Da:=(0,0,0,0,0,0)
def Ce (s:Bytes):Da:=((bG s 0:Int),(bG s 1:Int),ch s 2,fF s 4,ch s 8,ch s 10)
def cQ (s:Bytes):Da×Bool:=
 bif ((s.length:Int) !=16) then(H8,false) else bif !(xk (Ce s)==s) then(H8,false) else(Ce s,true)
theorem RR (s:Bytes)(h:s.length<=10^9):nY s=some (cQ s):=by
 unfold nY cQ;cases hn:(s.length:Int) !=16;case true=>rfl
 have hl:s.length=16:=by
  have:((s.length:Int)==16)=true:=by simpa using hn
  have:=bl this;omega
 have b0:=mf (s[0]'(by omega));have b1:=mf (s[1]'(by omega));have i0:idx s 0=some (s[0]'(by omega)):=bf (i:=0) (by omega);have i1:idx s 1=some (s[1]'(by omega)):=bf (i:=1) (by omega);have e:(((s[0]'(by omega)).toNat:Int),((s[1]'(by omega)).toNat:Int),ch s 2,fF s 4,ch s 8,ch s 10)=Ce s:=by simp only[Ce,bG,cL (show 0<s.length by omega),cL (show 1<s.length by omega)]
 simp only[af,i0,i1,ab,uP s _ h,ya s _ h];rw[gV (n:=(s[0]'(by omega)).toNat),gV (n:=(s[1]'(by omega)).toNat),e,Pt,ab];cases xk (Ce s)==s<;>rfl
theorem UC (h:(cQ s).2=true):sR (cQ s).1=true:=by
 unfold cQ at h⊢;cases hn:(s.length:Int) !=16 with|true=>rw[hn]at h;cases h|false=>?_
 cases he:xk (Ce s)==s with|false=>rw[hn,he]at h;cases h|true=>?_
 simp only[af,aj];cases hd:sR (Ce s)with
 |true=>rfl
 |false=>
  have:xk (Ce s)=[]:=by unfold xk;rw[hd];rfl
  rw[this]at he;cases s with|nil=>simp at hn|cons x y=>cases he
def UE (x:Da):Bool:=bif x.1==1 then(au (BitVec.toNat (ga x.2.1&&&ga 1))) !=0 else false
def tp (l:aw aA)(m:bM)(d:Int):Nat->aw Da->lN->aw Da×lN×Bool
 |0,acc,r=>(acc,r,true)
 |n+1,acc,r=>
  bif !(bm l m d r).2.2|| !(cQ (bm l m d r).1).2 then([],(r.1,r.2.1,r.2.2.2,r.2.2.2),false) else
  bif UE (cQ (bm l m d r).1).1 then(acc++[(cQ (bm l m d r).1).1],(bm l m d r).2.1,true) else
  tp l m d n (acc++[(cQ (bm l m d r).1).1]) (bm l m d r).2.1
def de (l:aw aA)(m:bM)(d:Int)(r:lN):aw Da×lN×Bool:=
 bif !cW r||(bE r==0) then([],r,false) else tp l m d (bE r).toNat [] r
theorem D2 (k0:aw Da->lN->ax R)(k1:aw Da->Bool->aw Da->lN->lN->ax R)(K:aw Da×lN×Bool->ax R)
 (h0:∀a r,k0 a r=K (a,r,true)) (l:aw aA) (m:bM) (d:Int) (B E:lN) (h1:∀a r,k1 [] false a r E=K ([],E,false)) (hl:l.length<=10^9) (hm:m.length<=10^9):∀(n:Nat)(acc:aw Da)(r:lN)(f:Nat),
 n<f->cW r=true->(bE r).toNat=n->acc.length+n<=1000->E=(r.1,r.2.1,r.2.2.2,r.2.2.2)->aX (lz k0 k1 l d ([]:aw Da) false m B E) f (acc,r)=K (tp l m d n acc r)
 |n,acc,r,0,hf,_,_,_,_=>by omega
 |0,acc,r,f+1,hf,hb,hu,ha,hE=>by rw[aX];simp only[lz,yw,ab];rw[cC,af,h0];rfl
 |n+1,acc,r,f+1,hf,hb,hu,ha,hE=>by
  have hlen:=El l m d r;have hk:=CZ (l:=l) (m:=m) (d:=d) (r:=r);rw[aX];simp only[lz,yw,ab];rw[jU,ah,F2 l m d r hl hm,ab,tp];generalize bm l m d r=t at hlen hk⊢;cases ht:t.2.2 with
  |false=>simp only[bF,ah,ir,<-hE,h1]
  |true=>
   have hk:=hk ht;simp only[aj,af,cG];rw[RR _ (show t.1.length<=10^9 by omega),ab];generalize cQ t.1=x;cases x.2 with
   |false=>simp only[bF,ah,<-hE,h1]
   |true=>
    simp only[aj,af];rw[aP (by rw[bA];omega)];have e:(aa (cond (x.1.1==1) (some ((au (BitVec.toNat (ga x.1.2.1&&&ga 1))) !=0)) (some false)):(Bool->ax R)->ax R)=λK=>K (UE x.1):=by funext K;unfold UE;cases x.1.1==1<;>rfl
    rw[e];cases UE x.1 with|true=>simp only[ah,h0]|false=>simp only[af];exact D2 k0 k1 K h0 l m d B E h1 hl hm n _ _ f (by omega) hk.1 (by omega) (by simp;omega) (by rw[hE,hk.2.2.1,hk.2.2.2.1,hk.2.2.2.2])
theorem Mt (l:aw aA)(m:bM)(d:Int)(r:lN)(hl:l.length<=10^9)(hm:m.length<=10^9):tP l m d r=some (de l m d r):=by
 have Ak:=dR;unfold tP de;simp only[wi,yw,ab];cases hb:cW r;rfl;cases bE r==0;case true=>rfl
 have hu:=wD hb;simp only[aj,af,ab,bZ];exact D2 _ _ (λx=>some x) (λ_ _=>rfl) l m d _ _ (λ_ _=>rfl) hl hm _ [] r fuel (by omega) hb rfl (by simp;omega) rfl
def yD (x:Int×Int):Bool:=decide (x.1<0)|| !dm x.2 0 4096
def nL (l:aw (Int×Int)):Bool:= !l.any yD&&decide ((l.length:Int)<=16)
theorem VS (l:aw (Int×Int)):(bif l.any yD then some false else some (decide ((l.length:Int)<=16)))=some (nL l):=by unfold nL;cases l.any yD<;>rfl
theorem KI (l:aw (Int×Int))(h:l.length<=10^9):rr l=some (nL l):=by
 unfold rr;rw[<-VS];refine Fl yD l (by omega) (λi hi nx=>?_) (λnx=>?_);simp only[qn];rw[jU,ah,bf hi,ab,di,ak];unfold yD;cases decide (l[i].1<0)with|true=>rfl|false=>simp only[af,ab,cG];rfl
 simp only[qn];rw[cC,af]
theorem HG {l:aw (Int×Int)}(h:nL l=true):l.length<=16/\∀x∈l,0<=x.1/\0<=x.2/\x.2<=4096:=by unfold nL at h;simp only[ae,aB,aK]at h;refine⟨by omega,λx hx=>?_⟩;have:=List.any_eq_false.1 h.1 x hx;unfold yD at this;simp only[cz,aB,aK,not_or,Bool.not_eq_false,bg]at this;omega
def dsc (n:Nat)(c:Int)(i:Nat)(x:Int×Int):Da:=(1,(if i+1=n then 1 else 0),x.2,x.1,0,c)
def xd (ps:aw (Int×Int))(c:Int):Nat->aw Da
 |0=>[]
 |i+1=>xd ps c i++[dsc ps.length c i (ps.getD i (0,0))]
theorem Ad (ps:aw (Int×Int))(c:Int):∀i,(xd ps c i).length=i
 |0=>rfl
 |i+1=>by rw[xd,ai,Ad ps c i];rfl
theorem G3 (ps:aw (Int×Int))(c:Int)(q:Da->Bool):∀i,(xd ps c i).all q=(List.range i).all (λj=>q (dsc ps.length c j (ps.getD j (0,0))))
 |0=>rfl
 |i+1=>by rw[xd,List.all_append,G3 ps c q i,List.range_succ,List.all_append];rfl
def pK (ps:aw (Int×Int))(z c:Int):aw Da:=
 bif ((ps.length:Int)==0)||(!nL ps|| !dm z 1 128) then [] else
 bif ([(2,0,0,0,z,c)]++xd ps c ps.length).all sR then [(2,0,0,0,z,c)]++xd ps c ps.length else []
theorem AZ (ps:aw (Int×Int))(z c:Int)(h:ps.length<=10^9:=by omega):∃b,im ps z c=some (b,pK ps z c)/\(b=false->pK ps z c=[]):=by
 unfold im pK;rw[KI ps h,di];simp only[ab];cases ((ps.length:Int)==0);case true=>exact⟨false,rfl,λ_=>rfl⟩
 cases nL ps;exact⟨false,rfl,λ_=>rfl⟩;cases dm z 1 128;exact⟨false,rfl,λ_=>rfl⟩;simp only[aj,af,ab,bZ];refine⟨([(2,0,0,0,z,c)]++xd ps c ps.length).all sR,?_,λhb=>by rw[hb];rfl⟩;refine eG (λi=>(([(2,0,0,0,z,c)]++xd ps c i,(i:Int)):aw Da×Int)) ps.length (by omega) (λi nx hi=>?_) (λnx=>?_);have hl:=Ad ps c i;simp only[jM];rw[jU,ah,bf hi,ab,ak (n:=(ps.length:Int)-1),ak];have e:[(2,0,0,0,z,c)]++xd ps c (i+1)=([(2,0,0,0,z,c)]++xd ps c i)++[dsc ps.length c i ps[i]]:=by rw[xd,cL hi,aQ]
 rw[e];unfold dsc;by_cases hc:i+1=ps.length;rw[show((i:Int)==(ps.length:Int)-1)=true from by rw[aS];omega,aE hc];simp only[ah];rw[aP (by simp only[ai,bA];omega)];rfl;rw[show((i:Int)==(ps.length:Int)-1)=false from by rw[cI];omega,aH hc];simp only[af];rw[aP (by simp only[ai,bA];omega)];rfl;simp only[jM];rw[cC,af];have hl:=Ad ps c ps.length;generalize hq:[(2,0,0,0,z,c)]++xd ps c ps.length=q;have hn:q.length<=1000000001:=by rw[<-hq];simp only[ai,bA];omega
 rw[oE (fin:=some (true,q)) (hit:=some (false,[])) sR q (by omega) (λi hi nx=>?_) (λnx=>?_)];cases q.all sR<;>rfl;simp only[jl];rw[jU,ah,bf hi,ab,RS,ab,ak];rfl;simp only[jl];rw[cC,af]
def Lu (x y:Da):Bool:=(x.1==y.1)&&((x.2.1==y.2.1)&&((x.2.2.1==y.2.2.1)&&((x.2.2.2.1==y.2.2.2.1)&&((x.2.2.2.2.1==y.2.2.2.2.1)&&((x.2.2.2.2.2==y.2.2.2.2.2)&&true)))))
def HQ (a b:aw Da):Bool:=((a.length:Int)==(b.length:Int))&&(List.range a.length).all λi=>Lu (a.getD i H8) (b.getD i H8)
def kC (l:aw Da):aw (Int×Int):=(l.drop 1).map λx=>(x.2.2.2.1,x.2.2.1)
def fD (l:aw Da):aw (Int×Int)×Int×Int×Bool:=
 match l with
 |h::x::r=>bif HQ (pK (kC l) h.2.2.2.2.1 h.2.2.2.2.2) l then(kC l,h.2.2.2.2.1,h.2.2.2.2.2,true) else([],0,0,false)
 |_=>([],0,0,false)
theorem X8 (ps:aw (Int×Int))(z c:Int):(pK ps z c).length<=ps.length+1:=by
 unfold pK;cases ((ps.length:Int)==0)||(!nL ps|| !dm z 1 128);case true=>simp
 cases ([(2,0,0,0,z,c)]++xd ps c ps.length).all sR with|false=>simp|true=>simp only[af,ah,ai,bA,Ad];omega
theorem Py (l:aw Da)(hl:l.length<=10^9):nA l=some (fD l):=by
 unfold nA;match l,hl with
 |[],_=>rfl
 |[h],_=>rfl
 |h::y::r,hl=>
  generalize hq:y::r=q;have hq1:1<=q.length:=by rw[<-hq];simp
  have hlen:q.length+1<=10^9:=by rw[<-hq];simpa using hl
  have i0:idx (h::q) 0=some h:=rfl;have s0:sub (h::q) 1 (((h::q).length:Nat):Int)=some q:=uE (l:=h::q) 1 (by simp) (a:=1) rfl;rw[aq (by simp only[bc];omega),af,s0,ab];refine eG (λi=>(((q.take i).map (λx=>(x.2.2.2.1,x.2.2.1)),(i:Int)):aw (Int×Int)×Int)) q.length (by omega) (λi nx hi=>?_) (λnx=>?_);simp only[kI];rw[jU,ah,bf hi,ab,aP (by simp only[da,aY,bA];omega),ak,bQ hi,List.map_append];rfl;simp only[kI];rw[cC,af,eR];have hp:q.map (λx=>(x.2.2.2.1,x.2.2.1))=kC (h::q):=rfl;have Dr:(kC (h::q)).length=q.length:=by rw[<-hp,da]
  rw[hp];have hdl:=X8 (kC (h::q)) h.2.2.2.2.1 h.2.2.2.2.2;obtain⟨b,hd,hb⟩:=AZ (kC (h::q)) h.2.2.2.2.1 h.2.2.2.2.2;have hR:fD (h::q)=bif HQ (pK (kC (h::q)) h.2.2.2.2.1 h.2.2.2.2.2) (h::q) then(kC (h::q),h.2.2.2.2.1,h.2.2.2.2.2,true) else([],0,0,false):=by rw[<-hq];rfl
  rw[hR];simp only[i0,ab,hd];have hlc:(((h::q).length:Nat):Int)=(q.length:Int)+1:=by simp only[bc];omega
  generalize pK (kC (h::q)) h.2.2.2.2.1 h.2.2.2.2.2=w at hdl hb⊢
  have core:∀(K:ax (aw (Int×Int)×Int×Int×Bool))(w':aw Da),w'=w->(bif ((w'.length:Nat):Int) !=(((h::q).length:Nat):Int) then some (([]:aw (Int×Int)),(0:Int),(0:Int),false) else
   aX (gh (λDK=>some (kC (h::q),h.2.2.2.2.1,h.2.2.2.2.2,true)) (λC7 GR C8 BW Fh=>some (C7,GR,C8,BW)) (h::q) (kC (h::q)) h.2.2.2.2.1 h.2.2.2.2.2 w' ((w'.length:Nat):Int)) fuel 0)=some (bif HQ w (h::q) then(kC (h::q),h.2.2.2.2.1,h.2.2.2.2.2,true) else([],0,0,false)):=by
   intro K w' e
   subst e
   unfold HQ
   cases hl:((w'.length:Int)==(((h::q).length:Nat):Int))with
   |false=>simp only[bne,hl,bF,ah,dN,af]
   |true=>
    have hn:w'.length=(h::q).length:=by have:=bl hl;omega
    simp only[bne,hl,aj,af,bp]
    rw[oF (fin:=some (kC (h::q),h.2.2.2.2.1,h.2.2.2.2.2,true)) (hit:=some ([],0,0,false)) (λi=>Lu (w'.getD i H8) ((h::q).getD i H8)) w'.length (by omega) (λi nx hi=>?_) (λnx=>?_)]
    ·cases (List.range w'.length).all (λi=>Lu (w'.getD i H8) ((h::q).getD i H8))<;>rfl
    ·have hi2:i<(h::q).length:=by omega
     simp only[gh]
     rw[jU,ah,bf hi,bf hi2,ab,ab,ak,cL hi,cL hi2];rfl
    ·simp only[gh]
     rw[cC,af]
  cases b with|true=>exact core none w rfl|false=>exact core none [] (hb rfl).symm
theorem SI {l:aw Da}(h:(fD l).2.2.2=true):nL (fD l).1=true/\∀p∈(fD l).1,p.1<=4294967295:=by match l,h with|hd::x::r,h=>unfold fD at h⊢;simp only at h⊢;cases hs:HQ (pK (kC (hd::x::r)) hd.2.2.2.2.1 hd.2.2.2.2.2) (hd::x::r)with|false=>rw[hs]at h;cases h|true=>simp only[ah];generalize hw:kC (hd::x::r)=ps at hs⊢;unfold HQ at hs;simp only[ae]at hs;have hn:=bl hs.1;unfold pK at hn;cases hc:((ps.length:Int)==0)||(!nL ps|| !dm hd.2.2.2.2.1 1 128)with|true=>rw[hc]at hn;simp at hn;omega|false=>rw[hc]at hn;cases ha:([(2,0,0,0,hd.2.2.2.2.1,hd.2.2.2.2.2)]++xd ps hd.2.2.2.2.2 ps.length).all sR with|false=>rw[ha]at hn;simp at hn;omega|true=>simp only[cg,dz]at hc;refine⟨hc.2.1,λp hp=>?_⟩;rw[List.all_append,G3,ae]at ha;obtain⟨i,hi,rfl⟩:=eZ hp;have:=aG.1 ha.2 i (bT.2 hi);rw[cL hi]at this;simp only[sR,dsc,ae,bg]at this;omega
theorem G4 (l:aw aA)(m:bM)(d a n:Int):(qY l m d a n).1.length<=33554432:=by have hL:=HP l m d a n false;have h1:=ue m (kD l m d a n false).1;unfold qY;cases (kD l m d a n false).2 with|false=>simp|true=>simp only[ah];omega
def AQ (l:aw aA)(m:bM)(d:Int):aw (Int×Int)->Bytes->Bytes×Bool
 |[],acc=>(acc,true)
 |p::ps,acc=>bif (qY l m d p.1 p.2).2 then AQ l m d ps (acc++(qY l m d p.1 p.2).1) else([],false)
def mh (l:aw aA)(m:bM)(d:Int)(ps:aw (Int×Int)):Bytes×Bool:=bif nL ps then AQ l m d ps [] else([],false)
def FC (l:aw aA)(m:bM)(d:Int)(p:Int×Int)(s:Bytes):Except (ax (Bytes×Bool)) Bytes:=
 if(qY l m d p.1 p.2).2=true then .ok (s++(qY l m d p.1 p.2).1) else .error (some ([],false))
theorem Kj (l:aw aA)(m:bM)(d:Int):∀(ps:aw (Int×Int))(s:Bytes),P3 (FC l m d) (λs=>some (s,true)) ps s=some (AQ l m d ps s)
 |[],s=>rfl
 |p::ps,s=>by rw[P3,AQ];unfold FC;cases hd:(qY l m d p.1 p.2).2 with|false=>rfl|true=>rw[aE rfl];exact Kj l m d ps _
theorem Ig (l:aw aA)(m:bM)(d:Int):∀(ps:aw (Int×Int))(s:Bytes),(AQ l m d ps s).1.length<=s.length+33554432*ps.length
 |[],s=>by simp[AQ]
 |p::ps,s=>by have h1:=G4 l m d p.1 p.2;rw[AQ];cases (qY l m d p.1 p.2).2 with|false=>simp|true=>have:=Ig l m d ps (s++(qY l m d p.1 p.2).1);rw[ai]at this;simp only[ah,bc,Nat.mul_add];omega
theorem Rl (l:aw aA)(m:bM)(d:Int)(ps:aw (Int×Int)):(mh l m d ps).1.length<=10^9:=by unfold mh;cases hp:nL ps with|false=>simp|true=>have:=(HG hp).1;have:=Ig l m d ps [];simp only[ef]at this;simp only[ah];omega
theorem U9 (l:aw aA)(m:bM)(d:Int)(ps:aw (Int×Int))(hl:l.length<=10^9)(hm:m.length<=10^9)(hn:ps.length<=10^9)(ha:∀p∈ps,p.1<=9223372036854775807):oX l m d ps=some (mh l m d ps):=by
 unfold oX mh;rw[KI ps hn,ab];cases hp:nL ps;rfl;have h16:=(HG hp).1;simp only[aj,af,ah];rw[<-Kj];refine Gs ps (λs i=>(s,(i:Int))) (λi s=>s.length<=33554432*i) (FC l m d) _ (by omega) (λi hi s nx hI=>?_) (λi hi s s' hI he=>?_) (λs nx hI=>?_) [] (by simp);have h1:=G4 l m d ps[i].1 ps[i].2;simp only[lx];rw[jU,ah,bf hi,ab,zl l m d _ _ hl hm (ha _ (bk hi)),ab];unfold FC;cases hd:(qY l m d ps[i].1 ps[i].2).2 with|false=>rfl|true=>rw[aE rfl,aP,ak];rfl
 have h1:=G4 l m d ps[i].1 ps[i].2;unfold FC at he;split at he;injection he with he;rw[<-he,ai];omega;cases he;simp only[lx];rw[cC,af]
def yT (t:Bytes):Int:=ch t ((dk t+2:Nat):Int)
def ML (t:Bytes):Int:=MU ((t.take (dk t+20)).drop (dk t))
def V7 (t:Bytes):Bytes:=(t.take (dk t+(yT t).toNat)).drop (dk t+20)
def aeA (t:Bytes):Bytes:=uU (fF t ((dk t+12:Nat):Int)) (fF t ((dk t+16:Nat):Int)) (jY t:Int) (yT t-20)
def HY (t:Bytes):Int:=bif ((jY t:Int)==17)&&(MU (aeA t++V7 t)==0) then 65535 else MU (aeA t++V7 t)
def W4 (t s:Bytes):Bytes×Bool:=bif ((jG s).2==0)&&((jT (jG s).1).1==t) then dy (jG s).1 else([],false)
def xe (t:Bytes):Bytes×Bool:=W4 t (lD t (bP (ML t)) (bP (HY t)))
theorem Jo {t:Bytes}(h:¬(TOk t/\ch t (zX t:Int)=0/\ch t (xP t:Int)=0)):xe t=([],false):=by
 have ha:BF (lD t (bP (ML t)) (bP (HY t))) t:=Ed t (bD _) (bD _);unfold xe W4;generalize lD t (bP (ML t)) (bP (HY t))=s at ha⊢;cases h1:(jG s).2==0;rfl;have L5:(jG s).2=0:=by simpa using h1
 cases h2:(jT (jG s).1).1==t;rfl;have Qw:(jT (jG s).1).1=t:=eq_of_beq h2;have ht:=ah8 ha L5;exact absurd ⟨ht,aaz Qw (Lo L5).2.2.1 ht⟩ h
theorem GI (t:Bytes)(o n:Nat):(t.drop o).take n=(t.take (o+n)).drop o:=by rw[List.drop_take];congr 1;omega
theorem SN {t:Bytes}(h1:dk t+20<=t.length)(h2:20<=yT t)(h3:yT t<=(t.length:Int))(h4:t.length<=10^9):xx (fF t ((dk t+12:Nat):Int)) (fF t ((dk t+16:Nat):Int)) (jY t:Int) (yT t-20)=true:=by have a1:=Ag (s:=t) (a:=((dk t+12:Nat):Int));have a2:=Ag (s:=t) (a:=((dk t+16:Nat):Int));have a3:=eE t (dk t+9);have a4:=Cp (s:=t) (a:=((dk t+2:Nat):Int));unfold xx;rw[bg.2 a1,bg.2 a2,bg.2 (show 0<=(jY t:Int)/\(jY t:Int)<=255 by unfold jY;omega),bg.2 (show 0<=yT t-20/\yT t-20<=65535 by unfold yT at*;omega)];rfl
theorem YI (t:Bytes)(hl:t.length<=10^9):vu t=some (xe t):=by
 have hp:=yE t
 have hk:=GC (jY t)
 have UX:jY t<256:=eE t (dk t+9)
 have Cr:=Bn t
 unfold vu
 rw[FW t hl,ab,uP _ _ (by omega),ab]
 cases h1:(fJ t).2 with
 |false=>rw[Jo λh=>by have:=h.1.eth;rw[h1]at this;cases this];rfl
 |true=>
 have he:=HF h1
 rw[he.1]
 simp only[aj,af,ab]
 have en:ch (t.drop (dk t)) 2=yT t:=Kk (a:=2)
 rw[en]
 by_cases h4:yT t<20
 ·rw[ar h4,Jo λh=>by have:=h.1.n1;unfold yT at h4;omega];rfl
 rw[aq h4]
 simp only[af,ab]
 by_cases h5:yT t>((t.drop (dk t)).length:Int)
 ·rw[ar h5,Jo λh=>by have:=h.1.n2;unfold yT at h5;rw[aM]at h5;omega];rfl
 rw[aq h5]
 rw[aM]at h5
 have hdl:(t.drop (dk t)).length=t.length-dk t:=aM ..
 obtain⟨n,hn⟩:=aV (show 0<=yT t by omega)
 obtain⟨x,hx,ex⟩:=ln (s:=t.drop (dk t)) (i:=9)
 have hx9:idx (t.drop (dk t)) 9=some x:=hx
 have s1:sub (t.drop (dk t)) 0 20=some ((t.take (dk t+20)).drop (dk t)):=by rw[xO,<-GI];rfl
 have s2:sub (t.drop (dk t)) 20 (yT t)=some (V7 t):=by rw[Qm (l:=t.drop (dk t)) 20 (a:=20) rfl,hn,az,GI,eH];unfold V7;rw[hn];rfl
 have hps:=HI (fF t ((dk t+12:Nat):Int)) (fF t ((dk t+16:Nat):Int)) (jY t:Int) (yT t-20)
 have acg:((V7 t).length:Int)=yT t-20:=by unfold V7;rw[aM,aY,hn];omega
 have hk2:au ((UInt8.toNat x:Int))=(jY t:Int):=by rw[ex,lg,gV (show bG t (dk t+9)<9223372036854775808 by unfold jY at UX;omega)];rfl
 have g12:fF (t.drop (dk t)) 12=fF t ((dk t+12:Nat):Int):=Kl (a:=12)
 have g16:fF (t.drop (dk t)) 16=fF t ((dk t+16:Nat):Int):=Kl (a:=16)
 have hw:au ((LH (jY t):Int)+2)=(LH (jY t):Int)+2:=by rw[ak]
 simp only[af,ab,F1 t hl,s1,s2,hx9,ya _ _ (show(t.drop (dk t)).length<=10^9 by omega),hk2,KK,acg,g12,g16,SN (show dk t+20<=t.length by omega) (show 20<=yT t by omega) (show yT t<=(t.length:Int) by omega) hl,ah,aj,Hk _ UX,hw]
 rw[show uU (fF t ((dk t+12:Nat):Int)) (fF t ((dk t+16:Nat):Int)) (jY t:Int) (yT t-20)=aeA t from rfl]at hps⊢
 by_cases h6:(LH (jY t):Int)+2>yT t-20
 ·rw[ar h6,Jo λh=>by have:=h.1.n1;unfold yT at h6;omega];rfl
 rw[aq h6]
 simp only[af]
 have hck:((t.take (dk t+20)).drop (dk t)).length<=10^9:=by rw[aM,aY];omega
 rw[aP,Ju _ (by rw[ai];omega),ab]
 have pC:∀y:Int,HY t=y->(aa (iU ((t.take (dk t+20)).drop (dk t))) λr25=>aa (bX r25) λr26=>aa (fG t (zX t:Int) r26) λZ0=>aa (bX y) λr28=>aa (fG Z0 (xP t:Int) r28) λr29=>aa (ig r29) λXw=>aa (lQ Xw.1) λZ1=>
  aa (bif Xw.2 !=0 then some true else bif !Z1.2 then some true else some (!(Z1.1==t))) λq32=>bif q32 then some (([]:Bytes),false) else aa (gJ Xw.1) λr33=>some r33)=some (xe t):=by
  intro y hy
  subst hy
  have b1:=bD (ML t)
  have b2:=bD (HY t)
  rw[Ju _ hck,ab,show MU ((t.take (dk t+20)).drop (dk t))=ML t from rfl]
  rw[kt,ab,Bc t _ _ hl,ab,kt,ab,Bc _ _ _ (by rw[wB];exact hl),ab]
  have hlen:=CM t (bP (ML t)) (bP (HY t))
  unfold xe
  rw[show uV (uV t (zX t:Int) (bP (ML t))) (xP t:Int) (bP (HY t))=lD t (bP (ML t)) (bP (HY t)) from rfl]
  generalize lD t (bP (ML t)) (bP (HY t))=s at hlen⊢
  simp only[Dv s (by omega),ab,Nz,Du,W4,bne]
  cases h1:(jG s).2==0;rfl
  have Xa:=(Lo (show(jG s).2=0 by simpa using h1)).2.2.1
  have h2:(jT (jG s).1).2=true:=by unfold jT;rw[Xa];rfl
  rw[h2]
  cases (jT (jG s).1).1==t<;>rfl
 cases h8:(jY t:Int)==17 with
 |false=>exact pC _ (by unfold HY;rw[h8];rfl)
 |true=>
  simp only[ah,ab]
  cases h7:MU (aeA t++V7 t)==0 with
  |false=>exact pC _ (by unfold HY;rw[h7,fE];rfl)
  |true=>exact pC _ (by unfold HY;rw[h7,h8];rfl)
theorem Yd (t:Bytes):(xe t).1.length<=378:=by unfold xe W4;generalize lD t (bP (ML t)) (bP (HY t))=s;cases ((jG s).2==0)&&((jT (jG s).1).1==t)with|false=>exact bW _|true=>exact xZ _
theorem JS (l:aw aA)(m:bM)(d:Int):∀(n:Nat)(acc:aw Da)(r:lN),(tp l m d n acc r).1.length<=acc.length+n
 |0,acc,r=>aU _
 |n+1,acc,r=>by
  rw[tp];cases !(bm l m d r).2.2|| !(cQ (bm l m d r).1).2;case true=>exact bW _
  cases UE (cQ (bm l m d r).1).1 with|true=>simp only[af,ah,ai,bA];omega|false=>have:=JS l m d n (acc++[(cQ (bm l m d r).1).1]) (bm l m d r).2.1;simp only[ai,bA]at this;simp only[af];omega
theorem V2 (h:cW r=true):cW (r.1,r.2.1,r.2.2.2,r.2.2.2)=true/\bE (r.1,r.2.1,r.2.2.2,r.2.2.2)=0:=by
 have hr:=kL h;have hq:=h;simp only[cW,ae,aB]at hq;have hu:bE (r.1,r.2.1,r.2.2.2,r.2.2.2)=0:=by unfold bE;simp only[Int.sub_self,Int.zero_emod,ite_self]
 refine⟨?_,hu⟩;simp only[cW,ae,aB,bg,hu,hq.2.1,true_and];omega
theorem H7 (l:aw aA)(m:bM)(d:Int):∀(n:Nat)(acc:aw Da)(r:lN),cW r=true->(bE r).toNat=n->
 cW (tp l m d n acc r).2.1=true/\bE (tp l m d n acc r).2.1<=bE r/\(0<bE r->bE (tp l m d n acc r).2.1<bE r)
 |0,acc,r,hb,hu=>⟨hb,dL _,λh=>by omega⟩
 |n+1,acc,r,hb,hu=>by have hk:=CZ (l:=l) (m:=m) (d:=d) (r:=r);have he:=V2 hb;rw[tp];cases hc: !(bm l m d r).2.2|| !(cQ (bm l m d r).1).2 with|true=>exact⟨he.1,by show bE (r.1,r.2.1,r.2.2.2,r.2.2.2)<=_;rw[he.2];omega,λ_=>by show bE (r.1,r.2.1,r.2.2.2,r.2.2.2)<_;rw[he.2];omega⟩|false=>simp only[cg,dz]at hc;have hk:=hk hc.1;cases UE (cQ (bm l m d r).1).1 with|true=>exact⟨hk.1,by show bE (bm l m d r).2.1<=_;omega,λ_=>by show bE (bm l m d r).2.1<_;omega⟩|false=>have:=H7 l m d n (acc++[(cQ (bm l m d r).1).1]) (bm l m d r).2.1 hk.1 (by omega);simp only[af];exact⟨this.1,by omega,λ_=>by omega⟩
def iD (l:aw aA)(m:bM)(d:Int)(r:lN):lN×bM×Int:=
 bif !cW r||(bE r==0) then(r,[],0) else
 bif !(de l m d r).2.2|| !(fD (de l m d r).1).2.2.2 then((de l m d r).2.1,[],2) else
 bif !(mh l m d (fD (de l m d r).1).1).2||(!(xe (mh l m d (fD (de l m d r).1).1).1).2||((jG (xe (mh l m d (fD (de l m d r).1).1).1).1).2 !=0)) then((de l m d r).2.1,[],2) else
 ((de l m d r).2.1,S5 (jG (xe (mh l m d (fD (de l m d r).1).1).1).1).1 (fD (de l m d r).1).2.1,1)
theorem Vc (l:aw aA)(m:bM)(d:Int)(r:lN)(hl:l.length<=10^9)(hm:m.length<=10^9):ph l m d r=some (iD l m d r):=by
 unfold ph iD;simp only[wi,yw,ab,Mt l m d r hl hm];cases hb:cW r;rfl;cases bE r==0;case true=>rfl
 have hu:=wD hb;have hcl:(de l m d r).1.length<=16:=by unfold de;cases !cW r||(bE r==0)with|true=>exact bW _|false=>have:=JS l m d (bE r).toNat [] r;simp only[ef]at this;show(tp l m d (bE r).toNat [] r).1.length<=16;omega
 simp only[aj,af,ab,bZ];generalize de l m d r=c at hcl⊢;cases c.2.2;rfl;simp only[aj,af,ab,cG,Py c.1 (show c.1.length<=10^9 by omega)];have hpo:=SI (l:=c.1);generalize fD c.1=p at hpo⊢;cases hp:p.2.2.2;rfl;have hpo:=hpo hp;have h16:=(HG hpo.1).1;have hg:=Rl l m d p.1;simp only[aj,af,ab,cG,U9 l m d p.1 hl hm (show p.1.length<=10^9 by omega) (λq hq=>Int.le_trans (hpo.2 q hq) (by omega))];generalize mh l m d p.1=g at hg⊢;cases g.2;rfl;have hf:=Yd g.1;simp only[aj,af,ab,cG,YI g.1 hg];generalize xe g.1=f at hf⊢;cases f.2;rfl;simp only[aj,af,ab,cG,Dv f.1 (show f.1.length<=10^9 by omega)];generalize jG f.1=i;cases i.2 !=0;case true=>rfl
 simp only[af,acC,ab]
theorem NM (l:aw aA)(m:bM)(d:Int)(r:lN): ((iD l m d r).2.2=0->(iD l m d r).1=r)/\((iD l m d r).2.2≠0->0<bE r/\cW r=true/\cW (iD l m d r).1=true/\bE (iD l m d r).1<bE r)/\(iD l m d r).2.1.length<=320/\(∀x∈(iD l m d r).2.1,x.length<=382)/\((iD l m d r).2.2=0\/(iD l m d r).2.2=1\/(iD l m d r).2.2=2):=by
 unfold iD;cases hc: !cW r||(bE r==0)with
 |true=>exact⟨λ_=>rfl,λh=>absurd rfl h,bW _,(λx hx=>by cases hx),.inl rfl⟩
 |false=>
  simp only[cg,dz,cI]at hc;have hu:=wD hc.1;have hch:cW (de l m d r).2.1=true/\bE (de l m d r).2.1<bE r:=by have:=H7 l m d (bE r).toNat [] r hc.1 rfl;unfold de;rw[show(!cW r||(bE r==0))=false from by rw[hc.1];simpa using hc.2];exact⟨this.1,this.2.2 (by omega)⟩
  cases !(de l m d r).2.2|| !(fD (de l m d r).1).2.2.2 with|true=>exact⟨(λh=>by cases h),λ_=>⟨by omega,hc.1,hch⟩,bW _,(λx hx=>by cases hx),.inr (.inr rfl)⟩|false=>cases !(mh l m d (fD (de l m d r).1).1).2||(!(xe (mh l m d (fD (de l m d r).1).1).1).2||((jG (xe (mh l m d (fD (de l m d r).1).1).1).1).2 !=0))with|true=>exact⟨(λh=>by cases h),λ_=>⟨by omega,hc.1,hch⟩,bW _,(λx hx=>by cases hx),.inr (.inr rfl)⟩|false=>have hs:=aaf (jG (xe (mh l m d (fD (de l m d r).1).1).1).1).1 (fD (de l m d r).1).2.1;exact⟨(λh=>by cases h),λ_=>⟨by omega,hc.1,hch⟩,hs.1,hs.2,.inr (.inl rfl)⟩
def qb (l:aw aA)(m:bM)(d:Int):Nat->bM->Nat->Nat->lN->lN×bM×Int×Int
 |0,fr,dn,bd,r=>(r,fr,(dn:Int),(bd:Int))
 |n+1,fr,dn,bd,r=>
  bif (iD l m d r).2.2==0 then(r,fr,(dn:Int),(bd:Int)) else
  bif (iD l m d r).2.2==1 then qb l m d n (fr++(iD l m d r).2.1) (dn+1) bd (iD l m d r).1 else
  qb l m d n (fr++(iD l m d r).2.1) dn (bd+1) (iD l m d r).1
def re (l:aw aA)(m:bM)(d:Int)(r:lN):lN×bM×Int×Int:=qb l m d 17 [] 0 0 r
theorem EM (l:aw aA)(m:bM)(d:Int)(hl:l.length<=10^9)(hm:m.length<=10^9):∀(n:Nat)(fr:bM)(dn bd:Nat)(r:lN)(f:Nat),n<f->(cW r=true->bE r<n)->0<n->fr.length+320*n<=10000->dn+bd+n<=1000->
 aX (mr (λy2 y3 y4 _ _ _ _ y9=>some (y9,y2,y3,y4)) l d ([]:bM) 0 0 m (0,0,0,0)) f (fr,(dn:Int),(bd:Int),r)=some (qb l m d n fr dn bd r)
 |0,fr,dn,bd,r,f,_,_,h0,_,_=>by omega
 |n+1,fr,dn,bd,r,0,hf,_,_,_,_=>by omega
 |n+1,fr,dn,bd,r,f+1,hf,hr,_,jf,hc=>by have ok:=NM l m d r;rw[aX,qb];simp only[mr,Vc l m d r hl hm,ab];generalize iD l m d r=x at ok⊢;cases h0:x.2.2==0 with|true=>simp only[ah,ok.1 (by simpa using h0)]|false=>have hk:=ok.2.1 (by simpa using h0);have hu:=hr hk.2.1;have hu2:=(wD hk.2.2.1).1;simp only[af];cases x.2.2==1 with|true=>simp only[ah];rw[aP,ak];exact EM l m d hl hm n _ (dn+1) bd _ f (by omega) (λ_=>by omega) (by omega) (by rw[ai];omega) (by omega)|false=>simp only[af];rw[aP,ak];exact EM l m d hl hm n _ dn (bd+1) _ f (by omega) (λ_=>by omega) (by omega) (by rw[ai];omega) (by omega)
theorem Zb (l:aw aA)(m:bM)(d:Int)(r:lN)(hl:l.length<=10^9)(hm:m.length<=10^9):qw l m d r=some (re l m d r):=by have Ak:=dR;unfold qw;exact EM l m d hl hm 17 [] 0 0 r fuel (by omega) (λh=>by have:=(wD h).2;omega) (by omega) (by simp) (by omega)
theorem DH (l:aw aA)(m:bM)(d:Int):∀(n:Nat)(fr:bM)(dn bd:Nat)(r:lN),(∀x∈fr,x.length<=382)->
 (qb l m d n fr dn bd r).2.1.length<=fr.length+320*n/\(∀x∈(qb l m d n fr dn bd r).2.1,x.length<=382)/\0<=(qb l m d n fr dn bd r).2.2.1/\(qb l m d n fr dn bd r).2.2.1<=(dn+n:Nat)/\0<=(qb l m d n fr dn bd r).2.2.2/\(qb l m d n fr dn bd r).2.2.2<=(bd+n:Nat)
 |0,fr,dn,bd,r,h=>⟨aU _,h,by show(0:Int)<=(dn:Int);omega,by show(dn:Int)<=_;omega,by show(0:Int)<=(bd:Int);omega,by show(bd:Int)<=_;omega⟩
 |n+1,fr,dn,bd,r,h=>by
  have ok:=NM l m d r;rw[qb];generalize iD l m d r=x at ok⊢;have h2:∀y∈fr++x.2.1,y.length<=382:=λy hy=>by rcases ay.1 hy with g|g;exact h y g;exact ok.2.2.2.1 y g
  cases x.2.2==0 with|true=>exact⟨by show fr.length<=_;omega,h,by show(0:Int)<=(dn:Int);omega,by show(dn:Int)<=_;omega,by show(0:Int)<=(bd:Int);omega,by show(bd:Int)<=_;omega⟩|false=>cases x.2.2==1 with|true=>have i:=DH l m d n (fr++x.2.1) (dn+1) bd x.1 h2;rw[ai]at i;simp only[af,ah];exact⟨by omega,i.2.1,i.2.2.1,by omega,i.2.2.2.2.1,by omega⟩|false=>have i:=DH l m d n (fr++x.2.1) dn (bd+1) x.1 h2;rw[ai]at i;simp only[af,ah];exact⟨by omega,i.2.1,i.2.2.1,by omega,i.2.2.2.2.1,by omega⟩
def Cf (v:Vector):Bool:=bif decide (v.2.2.1>=1) then(bif decide (v.2.2.1>=v.1) then true else decide (v.2.2.2.1>=v.2.1)) else false
theorem aeJ (v:Vector):As v=some (Cf v):=by unfold As Cf;cases decide (v.2.2.1>=1);rfl;cases decide (v.2.2.1>=v.1)<;>rfl
theorem afl (v:Vector):td v=some (Cf v):=by unfold td Cf;cases decide (v.2.2.1>=1);rfl;cases decide (v.2.2.1>=v.1)<;>rfl
def B5 (v:Vector):Vector:=bif Cf v&& !v.2.2.2.2.1 then(v.1,v.2.1,v.2.2.1,v.2.2.2.1,v.2.2.2.2.1,true) else v
theorem Hh (v:Vector):nH v=some (B5 v):=by unfold nH B5;rw[aeJ,ab];cases Cf v;rfl;cases v.2.2.2.2.1<;>rfl
def upM (n:Int):Int:=if 1000000<au (n+1) then 1000000 else au (n+1)
def evV (v:Vector):Vector:=bif eD v then B5 (v.1,v.2.1,upM v.2.2.1,v.2.2.2) else v
theorem YD (v:Vector):vq v=some (evV v):=by unfold vq evV;rw[yx,ab,Hh,ab];cases eD v<;>rfl
def Tt (v:Vector):Vector:=bif eD v then(bif decide (v.2.2.1>0) then B5 (v.1,v.2.1,v.2.2.1,upM v.2.2.2.1,v.2.2.2.2) else B5 v) else v
theorem Za (v:Vector):sg v=some (Tt v):=by unfold sg Tt;simp only[yx,ab,Hh];cases eD v;rfl;cases decide (v.2.2.1>0)<;>rfl
def BT (v:Vector):Vector×Bool:=bif eD v&&v.2.2.2.2.2 then((v.1,v.2.1,0,0,true,false),true) else(v,false)
theorem YZ (v:Vector):nG v=some (BT v):=by unfold nG BT;rw[yx,ab];cases eD v;rfl;cases v.2.2.2.2.2<;>rfl
def GN (v:Vector):Vector:=bif eD v then B5 (v.1,v.2.1,v.2.2.1,v.2.2.2.1,false,v.2.2.2.2.2) else v
theorem KM (v:Vector):wk v=some (GN v):=by unfold wk GN;rw[yx,ab,Hh,ab];cases eD v<;>rfl
structure kQ (k:Nat) (a b:Host):Prop where
 mem:b.1.length=a.1.length
 maps:b.2.1=a.2.1
 tx:b.2.2.1=a.2.2.1
 rx:b.2.2.2.1.length=a.2.2.2.1.length
 rxs:∀j,k<=j->b.2.2.2.1[j]?=a.2.2.2.1[j]?
 pl:b.2.2.2.2.1.length=a.2.2.2.2.1.length
 vec:b.2.2.2.2.2.1.length=a.2.2.2.2.2.1.length
 Ty:∀j,k<=j->b.2.2.2.2.2.1[j]?=a.2.2.2.2.2.1[j]?
 VT:b.2.2.2.2.2.2.1.length=a.2.2.2.2.2.2.1.length
 Jp:b.2.2.2.2.2.2.2.1=a.2.2.2.2.2.2.2.1
 Qg:b.2.2.2.2.2.2.2.2.1=a.2.2.2.2.2.2.2.2.1
theorem kQ.refl (k:Nat)(a:Host):kQ k a a:=⟨rfl,rfl,rfl,rfl,λ_ _=>rfl,rfl,rfl,λ_ _=>rfl,rfl,rfl,rfl⟩
theorem kQ.trans {a b c:Host}(h:kQ k a b)(g:kQ k b c):kQ k a c:=⟨g.mem.trans h.mem,g.maps.trans h.maps,g.tx.trans h.tx,g.rx.trans h.rx,λj hj=>(g.rxs j hj).trans (h.rxs j hj),g.pl.trans h.pl,g.vec.trans h.vec,λj hj=>(g.Ty j hj).trans (h.Ty j hj),g.VT.trans h.VT,g.Jp.trans h.Jp,g.Qg.trans h.Qg⟩
theorem kQ.up {m:Nat}{a b:Host}(h:kQ k a b)(hk:k<=m):kQ m a b:=⟨h.mem,h.maps,h.tx,h.rx,λj hj=>h.rxs j (by omega),h.pl,h.vec,λj hj=>h.Ty j (by omega),h.VT,h.Jp,h.Qg⟩
def kV (g:Nat->Host->Host):Nat->Host->Host
 |0,h=>h
 |k+1,h=>g k (kV g k h)
theorem vh {g:Nat->Host->Host}(hg:∀k h,kQ (k+1) h (g k h))(h:Host):∀k,kQ k h (kV g k h)
 |0=>kQ.refl 0 h
 |k+1=>((vh hg h k).up (by omega)).trans (hg k _)
theorem Bx {g:Nat->Host->Host}{d:Nat}(hn:1000<=n)(hg:∀k h m,1000<=m->cX m dC h->cX (m+d) dC (g k h))(z:cX n dC h):∀k,cX (n+d*k) dC (kV g k h)
 |0=>z
 |k+1=>(hg k _ _ (by omega) (Bx hn hg z k)).mono (by rw[Nat.mul_add];omega)
def wG (i:Nat)(h:Host):Host:=
 match h.2.2.2.2.2.1[i]? with
 |some v=>(h.1,h.2.1,h.2.2.1,h.2.2.2.1,h.2.2.2.2.1,h.2.2.2.2.2.1.set i (Tt v),h.2.2.2.2.2.2)
 |none=>h
theorem E2 (i:Nat)(h:Host):kQ (i+1) h (wG i h):=by unfold wG;cases h.2.2.2.2.2.1[i]? with|none=>exact kQ.refl _ _|some v=>exact⟨rfl,rfl,rfl,rfl,λ_ _=>rfl,rfl,aC ..,λj hj=>aO (by omega),rfl,rfl,rfl⟩
theorem JD {l:aw Vector}{v:Vector}(z:cX n (.sl fA) l):cX n (.sl fA) (l.set i v):=og z ⟨cv,cv,cv,cv,cv,cv⟩
theorem aaD (i:Nat)(h:Host)(n:Nat)(hn:1000<=n)(z:cX n dC h):cX (n+0) dC (wG i h):=by unfold wG;cases h.2.2.2.2.2.1[i]? with|none=>exact z|some v=>exact⟨z.1,z.2.1,z.2.2.1,z.2.2.2.1,z.2.2.2.2.1,JD z.2.2.2.2.2.1,z.2.2.2.2.2.2⟩
def C1 (h:Host):Host:=bif fy h then kV wG h.2.2.2.2.2.1.length h else h
theorem adZ (hn:1000<=n)(z:cX n dC h):cX n dC (C1 h)/\(C1 h).2.2.1=h.2.2.1:=by unfold C1;cases fy h with|false=>exact⟨z,rfl⟩|true=>exact⟨(Bx hn aaD z _).mono,(vh E2 h _).tx⟩
theorem acE (h:Host)(k:JH h)(z:cX 1000000000 dC h):vC h=some (C1 h):=by
 have Ak:=dR;unfold vC C1;rw[lp h z,ab,tA h k,ab];cases hb:fy h;rfl;have hv:h.2.2.2.2.2.1.length<=10^9:=z.2.2.2.2.2.1.1;simp only[aj,af,ah];refine eG (λi=>((i:Int),kV wG i h)) h.2.2.2.2.2.1.length (by omega) (λi nx hi=>?_) (λnx=>?_);have kk:=vh E2 h i;have i1:i<(kV wG i h).2.2.2.2.2.1.length:=by rw[kk.vec];exact hi
 rw[show kV wG (i+1) h=wG i (kV wG i h) from rfl];generalize kV wG i h=s at i1⊢;simp only[qm,wG];rw[jU,ah,al i1];simp only[bf i1,ab,Za,az];rw[ak];rfl;simp only[qm];rw[cC,af]
structure BG (n:Nat) (h:Host):Prop where
 z:cX n dC h
 t:h.2.2.1.2.1.2.2.2.length+(bu h.2.2.1.2.2.1).length<=n
theorem BG.mono {m:Nat}(k:BG n h)(hn:n<=m:=by omega):BG m h:=⟨k.z.mono hn,bw k.t hn⟩
theorem BG.sz (k:BG n h)(hn:n<=10^9):JH h:=by have z:cX 1000000000 dC h:=k.z.mono hn;exact⟨z.1.1,z.2.1.1,z.2.2.1.2.2.1.1,bw k.t hn,z.2.2.2.2.2.2.2.1.2.2.1,z.2.2.2.2.2.2.2.2.1.1.1,z.2.2.2.2.2.2.2.2.1.2.1.1,z.2.2.2.2.2.2.2.2.1.2.2.2.1,λp hp=>(z.2.2.2.2.1.2 p hp).2.2.2.1⟩
theorem BG.of (k:TM dC h<=1048576):BG 1048576 h:=by
 refine⟨JB k,?_⟩;have hb:=WN h.2.2.1.2.2.1;have h1:TM ko h.2.2.1<=TM dC h:=by simp only[TM];omega
 have hp:h.2.2.1.2.1.2.2.2.length+TM (.sl hG) h.2.2.1.2.2.1<=TM ko h.2.2.1:=by simp only[TM];omega
 omega
def pL (p:cR):aw kO->cR
 |[]=>p
 |x::l=>pL (EF p x.2.2).1 l
theorem Hc:∀(l:aw kO)(p:cR),(pL p l).2.2.2.length<=p.2.2.2.length+(bu l).length
 |[],p=>by simp[pL]
 |x::l,p=>by have h1:=Rn p x.2.2;have h2:=Hc l (EF p x.2.2).1;simp only[pL,bu,List.flatMap_cons,ai]at h2⊢;omega
theorem Nj:∀(l:aw kO)(p:cR)(x:kO),pL p (l++[x])=(EF (pL p l) x.2.2).1
 |[],p,x=>rfl
 |y::l,p,x=>by rw[List.cons_append,pL,pL,Nj l]
theorem QO (a b:aw kO):(bu (a++b)).length=(bu a).length+(bu b).length:=by simp only[bu,List.flatMap_append,ai]
theorem QP (l:aw kO)(n:Nat):(bu (l.take n)).length+(bu (l.drop n)).length=(bu l).length:=by rw[<-QO,cl]
def mH (t:dD)(n:Int):dD×cw:=
 bif L8 t&&dm n 0 (t.2.2.1.length:Int) then((t.1,pL t.2.1 (t.2.2.1.take n.toNat),t.2.2.1.drop n.toNat,t.2.2.2),(t.2.2.1.take n.toNat).map (·.1)) else(t,[])
theorem afj {l:aw kO}(h:(bu l).length<=10^9):∀x∈l,x.2.2.length<=10^9:=by intro x hx;induction l with|nil=>cases hx|cons y l ih=>simp only[bu,List.flatMap_cons,ai]at h;rcases bO.1 hx with rfl|g;omega;exact ih (by simp only[bu];omega) g
theorem Pr (t:dD)(n:Int)(hw:t.2.2.1.length<=10^9)(hs:t.2.1.2.2.2.length+(bu t.2.2.1).length<=10^9):lr t n=some (mH t n):=by
 have hx:=afj (l:=t.2.2.1) (by omega);unfold lr mH;rw[EK t ⟨by omega,hw,hx⟩,ab,Vi t hw hs];simp only[ab,di];cases L8 t;rfl;cases hn:dm n 0 (t.2.2.1.length:Int);rfl;have h:=bg.1 hn;obtain⟨n,rfl⟩:=aV h.1;have hl:n<=t.2.2.1.length:=by omega
 simp only[aj,af,ab,eY,ah,az];rw[xO,ab,az];have htl:(t.2.2.1.take n).length=n:=by rw[aY];omega
 rw[htl];refine eG (λi=>(((t.2.2.1.take i).map (·.1),(i:Int),t.1,pL t.2.1 (t.2.2.1.take i),t.2.2):cw×Int×dD)) n (by omega) (λi nx hi=>?_) (λnx=>?_);have hi2:i<(t.2.2.1.take n).length:=by omega
 have hi3:i<t.2.2.1.length:=by omega
 have e1:(t.2.2.1.take n)[i]=t.2.2.1[i]:=List.getElem_take ..;have g1:=Hc (t.2.2.1.take i) t.2.1;have g2:=QP t.2.2.1 (i+1);have g3:(bu (t.2.2.1.take (i+1))).length=(bu (t.2.2.1.take i)).length+t.2.2.1[i].2.2.length:=by rw[bQ hi3,QO];simp[bu]
 simp only[jk];rw[jU,ah,bf hi2,e1,ab,KG _ _ (by omega),ab,aP (by simp only[da,aY,bA];omega),ak,bQ hi3,Nj,List.map_append];rfl;simp only[jk];rw[cC,af,uE (l:=t.2.2.1) n hl rfl,ab,FQ _ (by rw[aM];omega) (λx zQ=>hx x (List.mem_of_mem_drop zQ)),ab]
theorem MX (n:Int):∀l:aw kO,l.all (nM n)=true->(l.length:Int)<=dH l
 |[],_=>by simp[dH]
 |x::l,h=>by simp only[cb,ae]at h;have:=MX n l h.2;have hx:=h.1;unfold nM at hx;simp only[ae,bg]at hx;simp only[dH,cV,List.sum_cons,bc]at this⊢;omega
theorem E3 (h:L8 t=true):t.2.2.1.length<=16:=by unfold L8 at h;simp only[ae,aB]at h;have h1:=MX _ _ h.2.2.2.1;have h2:=(kL h.1).2.2.1;have h3:=h.2.2.2.2.2;omega
theorem Ft (n:Int)(z:cX k ko t)(hs:t.2.1.2.2.2.length+(bu t.2.2.1).length<=k): cX k ko (mH t n).1/\(mH t n).1.2.1.2.2.2.length+(bu (mH t n).1.2.2.1).length<=k/\(mH t n).2.length<=16:=by unfold mH;cases h:L8 t&&dm n 0 (t.2.2.1.length:Int)with|false=>exact⟨z,hs,bW _⟩|true=>simp only[ae]at h;have h16:=E3 h.1;have g1:=Hc (t.2.2.1.take n.toNat) t.2.1;have g2:=QP t.2.2.1 n.toNat;have hw:t.2.2.1.length<=k:=z.2.2.1.1;refine⟨⟨z.1,⟨cv,cv,cv,?_,λ_ _=>trivial⟩,⟨?_,λx hx=>z.2.2.1.2 x (List.mem_of_mem_drop hx)⟩,z.2.2.2⟩,?_,?_⟩;show(pL t.2.1 (t.2.2.1.take n.toNat)).2.2.2.length<=k;omega;show(t.2.2.1.drop n.toNat).length<=k;rw[aM];omega;show(pL t.2.1 (t.2.2.1.take n.toNat)).2.2.2.length+(bu (t.2.2.1.drop n.toNat)).length<=k;omega;show((t.2.2.1.take n.toNat).map (·.1)).length<=16;rw[da,aY];omega
theorem Hr {t:CT}{l q:aw t.D}(z:cX n (.sl t) l)(hq:∀y∈q,cX n t y)(hk:q.length<=k):cX (n+k) (.sl t) (l++q):=by refine⟨?_,λy hy=>?_⟩;show(l++q).length<=n+k;have:=z.1;rw[ai];omega;rcases ay.1 hy with h|h;exact(z.2 y h).mono;exact(hq y h).mono
def qP (h:Host):Host:=bif fy h then
    (h.1,h.2.1,(mH ((re h.2.1 h.1 0 h.2.2.1.1).1,h.2.2.1.2) (if(h.2.2.1.2.2.1.length:Int)<au ((re h.2.1 h.1 0 h.2.2.1.1).2.2.1+(re h.2.1 h.1 0 h.2.2.1.1).2.2.2) then(h.2.2.1.2.2.1.length:Int) else au ((re h.2.1 h.1 0 h.2.2.1.1).2.2.1+(re h.2.1 h.1 0 h.2.2.1.1).2.2.2))).1,
      h.2.2.2.1,h.2.2.2.2.1,h.2.2.2.2.2.1,h.2.2.2.2.2.2.1,h.2.2.2.2.2.2.2.1,h.2.2.2.2.2.2.2.2.1,h.2.2.2.2.2.2.2.2.2.1,h.2.2.2.2.2.2.2.2.2.2.1,h.2.2.2.2.2.2.2.2.2.2.2.1++(re h.2.1 h.1 0 h.2.2.1.1).2.1,
      h.2.2.2.2.2.2.2.2.2.2.2.2.1++(mH ((re h.2.1 h.1 0 h.2.2.1.1).1,h.2.2.1.2) (if(h.2.2.1.2.2.1.length:Int)<au ((re h.2.1 h.1 0 h.2.2.1.1).2.2.1+(re h.2.1 h.1 0 h.2.2.1.1).2.2.2) then(h.2.2.1.2.2.1.length:Int) else au ((re h.2.1 h.1 0 h.2.2.1.1).2.2.1+(re h.2.1 h.1 0 h.2.2.1.1).2.2.2))).2,h.2.2.2.2.2.2.2.2.2.2.2.2.2) else h
theorem PC (h:Host)(k:BG 900000000 h):pb h=some (qP h):=by have z:cX 1000000000 dC h:=k.z.mono;have hz:=k.sz (by omega);have hm:h.1.length<=900000000:=k.z.1.1;have hl:h.2.1.length<=900000000:=k.z.2.1.1;have hw:h.2.2.1.2.2.1.length<=900000000:=k.z.2.2.1.2.2.1.1;have hwi:h.2.2.2.2.2.2.2.2.2.2.2.1.length<=900000000:=k.z.2.2.2.2.2.2.2.2.2.2.2.1.1;have hco:h.2.2.2.2.2.2.2.2.2.2.2.2.1.length<=900000000:=k.z.2.2.2.2.2.2.2.2.2.2.2.2.1.1;have hA:=DH h.2.1 h.1 0 17 [] 0 0 h.2.2.1.1 (λx hx=>by cases hx);unfold pb qP;rw[lp h z,ab,tA h hz,ab];cases fy h;rfl;simp only[aj,af,ah,Zb h.2.1 h.1 0 _ (show h.2.1.length<=10^9 by omega) (show h.1.length<=10^9 by omega),ab];rw[show qb h.2.1 h.1 0 17 [] 0 0 h.2.2.1.1=re h.2.1 h.1 0 h.2.2.1.1 from rfl]at hA;generalize re h.2.1 h.1 0 h.2.2.1.1=x at hA⊢;simp only[ef]at hA;have hC:=Ft (k:=900000000) (t:=(x.1,h.2.2.1.2)) (if(h.2.2.1.2.2.1.length:Int)<au (x.2.2.1+x.2.2.2) then(h.2.2.1.2.2.1.length:Int) else au (x.2.2.1+x.2.2.2)) ⟨⟨cv,cv,cv,cv⟩,k.z.2.2.1.2⟩ k.t;rw[aP,Pr (x.1,h.2.2.1.2) _ (by show h.2.2.1.2.2.1.length<=_;omega) (bw k.t (by omega)),ab,aP]
theorem Qr (hn:400<=n)(k:BG n h):BG (n+5440) (qP h):=by have k':BG (n+5440) h:=k.mono;have hA:=DH h.2.1 h.1 0 17 [] 0 0 h.2.2.1.1 (λx hx=>by cases hx);unfold qP;cases fy h;exact k';rw[show qb h.2.1 h.1 0 17 [] 0 0 h.2.2.1.1=re h.2.1 h.1 0 h.2.2.1.1 from rfl]at hA;generalize re h.2.1 h.1 0 h.2.2.1.1=x at hA⊢;simp only[ef]at hA;generalize (if(h.2.2.1.2.2.1.length:Int)<au (x.2.2.1+x.2.2.2) then(h.2.2.1.2.2.1.length:Int) else au (x.2.2.1+x.2.2.2))=q;have hC:=Ft (k:=n) (t:=(x.1,h.2.2.1.2)) q ⟨⟨cv,cv,cv,cv⟩,k.z.2.2.1.2⟩ k.t;have z:=k'.z;refine⟨⟨z.1,z.2.1,hC.1.mono,z.2.2.2.1,z.2.2.2.2.1,z.2.2.2.2.2.1,z.2.2.2.2.2.2.1,z.2.2.2.2.2.2.2.1,z.2.2.2.2.2.2.2.2.1,z.2.2.2.2.2.2.2.2.2.1,cv,?_,?_,z.2.2.2.2.2.2.2.2.2.2.2.2.2⟩,bw hC.2.1 (by omega)⟩;exact Hr (t:=.str) (n:=n) (k:=5440) k.z.2.2.2.2.2.2.2.2.2.2.2.1 (λy hy=>by show y.length<=_;have:=hA.2.1 y hy;omega) (by omega);exact(Hr (t:=.int .i64) (n:=n) (k:=16) k.z.2.2.2.2.2.2.2.2.2.2.2.2.1 (λ_ _=>trivial) hC.2.2).mono
def wh (l:aw aA)(d:Int)(p:cR)(z:Nat):cw->Bytes->bM->aw gu->ax (aw gu×bM)
 |[],_,m,a=>some (a,m)
 |b::q,s,m,a=>bif (hH l m d (nV p b) (s.take z) false).2 then wh l d p z q (s.drop z) (hH l m d (nV p b) (s.take z) false).1 (a++[(nV p b,((s.take z).length:Int))]) else none
theorem Fz (l:aw aA)(d:Int)(p:cR)(z:Nat):∀(q:cw)(s:Bytes)(m:bM)(a:aw gu){x},wh l d p z q s m a=some x->
 x.2.length=m.length/\x.1.length=a.length+q.length/\∀y∈x.1,y∈a\/((∃b∈q,y.1=nV p b)/\0<=y.2/\y.2<=(z:Int))
 |[],s,m,a,x,h=>by cases h;exact⟨rfl,rfl,λy hy=>Or.inl hy⟩
 |b::q,s,m,a,x,h=>by rw[wh]at h;cases hq:(hH l m d (nV p b) (s.take z) false).2 with|false=>rw[hq]at h;cases h|true=>rw[hq]at h;obtain⟨h1,h2,h3⟩:=Fz l d p z q _ _ _ h;rw[jE]at h1;rw[ai,bA]at h2;refine⟨h1,by rw[bc];omega,λy hy=>?_⟩;rcases h3 y hy with g|⟨⟨b',gM,g⟩,g2⟩;rcases ay.1 g with g|g;exact Or.inl g;rw[cf.1 g];refine Or.inr ⟨⟨b,List.mem_cons_self ..,rfl⟩,?_,?_⟩;show(0:Int)<=((s.take z).length:Int);omega;show((s.take z).length:Int)<=(z:Int);rw[aY];omega;exact Or.inr ⟨⟨b',ec _ gM,g⟩,g2⟩
theorem Ow (p:cR)(i:Int): -1<=nV p i/\nV p i<=139136:=by unfold nV;cases hb: !dx p|| !dm i 0 (p.2.2.1-1)with|true=>exact⟨dL _,show(-1:Int)<=139136 by omega⟩|false=>simp only[cg,dz]at hb;have h:=xw hb.1;have h2:=bg.1 hb.2;have h3:0<=i*p.2.1:=Int.mul_nonneg h2.1 (by omega);have h4:i*p.2.1<=16*512:=Int.mul_le_mul (by omega) (by omega) (by omega) (by omega);simp only[af];omega
theorem aa0 {p:cR}(hp:dx p=true)(hb:b∈p.2.2.2):0<=nV p b:=by obtain⟨i,hi,rfl⟩:=eZ hb;have hq:=hp;simp only[dx,ae]at hq;have:=aG.1 hq.2.2.2 i (bT.2 hi);simp only[Cn,ae,cL hi]at this;have hn:=this.1;have h:=xw hp;have h2:=bg.1 hn;have h3:0<=p.2.2.2[i]*p.2.1:=Int.mul_nonneg h2.1 (by omega);unfold nV;rw[hp,hn];show 0<=p.1+p.2.2.2[i]*p.2.1;omega
theorem Tr (s:Bytes)(z:Nat):sub s 0 (if(s.length:Int)<(z:Int) then(s.length:Int) else(z:Int))=some (s.take z):=by by_cases h:(s.length:Int)<(z:Int);rw[aE h,xO,az,eR,bK (by omega)];rw[aH h,xO,az]
theorem Q1 (s:Bytes)(z:Nat):sub s ((s.take z).length:Int) (s.length:Int)=some (s.drop z):=by rw[Tn _ _ (by rw[aY];omega),aY];by_cases h:z<=s.length;rw[gL h];rw[Nat.min_eq_right (by omega),List.drop_length,List.drop_eq_nil_of_le (by omega)]
def aaJ:ax (aw gu×bM)->ax (Bool×bM×aw gu×Bool)->Prop
 |some x,r=>r=some (true,x.2,x.1,true)
 |none,r=>∃c m,r=some (c,m,[],false)
theorem D4 (l:aw aA)(d:Int)(p:cR)(z:Nat)(B:bM)(hp:p.2.2.2.length<=10^9)(hl:l.length<=10^9):∀(rest pre:cw)(s:Bytes)(m:bM)(a:aw gu)(f:Nat),rest.length<f->(pre++rest).length<=1000000->a.length+rest.length<=1000000->m.length<=10^9->
 aaJ (wh l d p z rest s m a) (aX (jC (λ_ BW _ H2=>some (true,H2,BW,true)) (λ_ JE TE _ _ _ y23=>some (true,y23,JE,TE)) l d (z:Int) ([]:aw gu) false (pre++rest) ((pre++rest).length:Int) p B) f (s,a,(pre.length:Int),m))
 |rest,pre,s,m,a,0,hf,_,_,_=>by omega
 |[],pre,s,m,a,f+1,_,_,_,_=>by rw[aX];simp only[jC];rw[aq (by simp),af];rfl
 |b::q,pre,s,m,a,f+1,hf,hn,ha,hm=>by
  simp only[bc,ai]at hf hn ha;have hi:pre.length<(pre++b::q).length:=by simp
  have hb:(pre++b::q)[pre.length]=b:=by simp
  have hA:=Ow p b;rw[aX];simp only[jC];rw[ar (by simp;omega),bf hi,hb];simp only[ah,ab,Tr,Q1,FP p b hp,zR l m d (nV p b) (s.take z) hl hm];rw[wh];cases hq:(hH l m d (nV p b) (s.take z) false).2 with
  |false=>exact⟨_,_,rfl⟩
  |true=>
   simp only[aj,af,ah];rw[ak (n:=(pre.length:Int)+1),aP (by simp only[bA];omega)];have key:=D4 l d p z B hp hl q (pre++[b]) (s.drop z) (hH l m d (nV p b) (s.take z) false).1 (a++[(nV p b,((s.take z).length:Int))]) f (by omega) (by simp;omega) (by simp;omega) (by rw[jE];exact hm);have el:((pre++[b]).length:Int)=(pre.length:Int)+1:=by simp
   rw[aQ,List.singleton_append,el]at key;exact key
theorem YH (l:aw aA)(m:bM)(d:Int)(p:cR)(q:cw)(s:Bytes)(z:Nat)(hp:p.2.2.2.length<=10^9)(hl:l.length<=10^9)(hm:m.length<=10^9)(hq:q.length<=1000)(h0:0<q.length): aaJ (wh l d p z q s m []) (mQ l m d p q s (z:Int)):=by have Ak:=dR;cases q with|nil=>cases h0|cons b q=>simp only[bc]at hq;have hA:=Ow p b;have hi:idx (b::q) 0=some b:=rfl;unfold mQ;rw[ar (by simp),ah,hi];simp only[ab,Tr,Q1,FP p b hp,zR l m d (nV p b) (s.take z) hl hm];rw[wh];cases hq':(hH l m d (nV p b) (s.take z) false).2 with|false=>exact⟨_,_,rfl⟩|true=>simp only[aj,af,ah];rw[aP (by simp),show au (0+1)=1 from rfl];exact D4 l d p z _ hp hl q [b] (s.drop z) (hH l m d (nV p b) (s.take z) false).1 [(nV p b,((s.take z).length:Int))] fuel (by omega) (by simp;omega) (by simp;omega) (by rw[jE];exact hm)
theorem abK {ps:aw gu}{c:Int}(h0:0<ps.length)(h16:ps.length<=16)(hp:∀x∈ps,0<=x.1/\x.1<=200000/\0<=x.2/\x.2<=4096)(hz:dm z 1 128=true)(hc:dm c 0 65535=true):(pK ps z c).length=ps.length+1:=by
 have hz2:=bg.1 hz;have UT:=bg.1 hc;have e1:nL ps=true:=by unfold nL;rw[ae,aK,aB];refine⟨List.any_eq_false.2 λx hx=>?_,by omega⟩;have:=hp x hx;unfold yD;rw[cC,cG,aK,Bool.eq_false_iff];intro h;exact h (bg.2 (by omega))
 have e2:([((2:Int),(0:Int),(0:Int),(0:Int),z,c)]++xd ps c ps.length).all sR=true:=by rw[List.all_append,ae];constructor;simp only[cb,List.all_nil,dS,sR,ae,bg];omega;rw[G3];refine aG.2 λj hj=>?_;have hj:=bT.1 hj;have:=hp _ (bk hj);simp only[dsc,cL hj,sR,ae,bg];refine⟨by omega,?_,by omega,by omega,by omega,by omega⟩;by_cases hq:j+1=ps.length;rw[aE hq];omega;rw[aH hq];omega
 unfold pK;rw[e1,hz,e2,show((ps.length:Int)==0)=false from by rw[cI];omega];simp only[aj,bZ,af,ah,ai,bA,Ad];omega
theorem RT (K:bM->Int->ax R)(l:aw aA)(d:Int)(q:cw)(ds ds2:aw oN)(t1 t2 t3 t4:dD)(m1 m2 m3:bM)(h:ds.length<=1000): aX (fO K l d q ds2 ds (ds.length:Int) t1 m1 t2 m2 t3 t4 m3) fuel (([]:bM),0)=K (ds.map xk) (ds.length:Int):=by
 have Ak:=dR;refine eG (λi=>((ds.take i).map xk,(i:Int))) ds.length (by omega) (λi nx hi=>?_) (λnx=>?_);have e:((ds.take i).map xk).length<=1000:=by simp;omega
 rw[bQ hi,List.map_append];simp only[fO];rw[jU,ah,bf hi,ab,Pt,ab,aP (by simp only[bA];omega),ak];rfl;simp only[fO];rw[cC,af,eR]
def yj (p:aN)(z:Nat):Nat:=((jT p).1.length+z-1)/z
def Ly (l:aw aA)(m:bM)(d:Int)(t:dD)(c:Int)(n:Nat)(x:aw gu×bM):bM×dD×Bool:=
 bif (ub l x.2 d t.1 ((pK x.1 c t.2.2.2).map xk)).2.2 then
  ((ub l x.2 d t.1 ((pK x.1 c t.2.2.2).map xk)).1,((ub l x.2 d t.1 ((pK x.1 c t.2.2.2).map xk)).2.1,(jZ t.2.1 (n:Int)).1,t.2.2.1++[(t.2.2.2,(n:Int)+1,(jZ t.2.1 (n:Int)).2.1)],tmod (t.2.2.2+1) 65536),true)
 else(m,t,false)
def Ib (t:dD)(n:Nat):Bool:=(jZ t.2.1 (n:Int)).2.2&&(!decide ((n:Int)>16)&&(!decide ((n:Int)+1>nW t.1)&& !decide (dH t.2.2.1+(n:Int)+1>t.1.2.1)))
def wU (l:aw aA)(m:bM)(d:Int)(t:dD)(p:aN)(c z:Int):bM×dD×Bool:=
 bif L8 t&&(dw p&&(dm z 1 t.2.1.2.1&&dm c 1 128)) then
  bif Ib t (yj p z.toNat) then
   match wh l d t.2.1 z.toNat (jZ t.2.1 (yj p z.toNat:Int)).2.1 (jT p).1 m []with
   |some x=>Ly l m d t c (yj p z.toNat) x
   |none=>(m,t,false)
  else(m,t,false)
 else(m,t,false)
theorem Wu (h:dw p=true):0<(jT p).1.length/\(jT p).1.length<=378:=by have hl:=xZ p;have hs:=RM h;unfold jT;rw[h];show 0<(lD (dy p).1 (bP 0) (bP 0)).length/\(lD (dy p).1 (bP 0) (bP 0)).length<=378;rw[CM];omega
theorem agK (len z:Nat)(h:len<=1000)(hz:z<=1000)(h0:0<z):au (Int.tdiv (au (au ((len:Int)+(z:Int))-1)) (z:Int))=(((len+z-1)/z:Nat):Int):=by have hd:(len+z-1)/z<=len+z-1:=Nat.div_le_self ..;rw[ak (n:=(len:Int)+(z:Int)),ak (n:=(len:Int)+(z:Int)-1),show(len:Int)+(z:Int)-1=((len+z-1:Nat):Int) by omega,show Int.tdiv ((len+z-1:Nat):Int) (z:Int)=(((len+z-1)/z:Nat):Int) from rfl];generalize (len+z-1)/z=N at hd⊢;rw[ak]
theorem Tp {p:cR}(h:(jZ p (n:Int)).2.2=true):dx p=true/\n<=p.2.2.2.length/\(jZ p (n:Int)).2.1=p.2.2.2.take n:=by unfold jZ at h⊢;cases hq:dx p&&dm (n:Int) 0 (p.2.2.2.length:Int)with|false=>rw[hq]at h;cases h|true=>simp only[ae,bg]at hq;exact⟨hq.1,by omega,rfl⟩
theorem Ye {c:Int}{z:Nat}{x:aw gu×bM}(ht:L8 t=true)(hz:z<=512)(hc:dm c 1 128=true)(h0:0<n)(h16:n<=16)(hk:(jZ t.2.1 (n:Int)).2.2=true)(hx:wh l d t.2.1 z (jZ t.2.1 (n:Int)).2.1 s m []=some x):x.2.length=m.length/\(pK x.1 c t.2.2.2).length=n+1:=by
 obtain⟨hp,hn,hb⟩:=Tp hk;rw[hb]at hx;obtain⟨h1,h2,h3⟩:=Fz l d t.2.1 z _ _ _ _ hx;simp only[ef,aY,ca]at h2;have e:x.1.length=n:=by omega
 refine⟨h1,?_⟩;rw[abK (by omega) (by omega) (λy hy=>?_) hc (by simp only[L8,ae]at ht;exact ht.2.2.1),e];rcases h3 y hy with g|⟨⟨b,gM,g⟩,g2⟩;cases g;have q1:=aa0 hp (List.mem_of_mem_take gM);have q2:=Ow t.2.1 b;rw[g];omega
theorem YS (l:aw aA)(m:bM)(d:Int)(t:dD)(p:aN)(c z:Int)(hl:l.length<=10^9)(hm:m.length<=10^9)(ht:aeg t)(h1:t.2.2.1.length<=10^9)(h2:t.2.1.2.2.2.length+(bu t.2.2.1).length<=10^9):se l m d t p c z=some (wU l m d t p c z):=by
 have Ak:=dR;unfold se wU;rw[eS m,ab,EK t ht,ab,Vi t h1 h2,ab,oH,di,di];simp only[ab];cases hb:L8 t;rfl;cases hp:dw p;rfl;cases hz:dm z 1 t.2.1.2.1;rfl;cases hc:dm c 1 128;rfl;have hT:=Wu hp;have hz2:=bg.1 hz;have hq:=hb;simp only[L8,ae]at hq;have Dr:=xw hq.2.1;have h16:=E3 hb;have TJ:=kL hq.1;have hnx:=bg.1 hq.2.2.1;obtain⟨z,rfl⟩:=aV (by omega:0<=z);have hzn:¬(z:Int)=0:=by omega
 have hS:∀x∈t.2.2.1,0<=x.2.1/\x.2.1<=16:=λx hx=>by have:=aG.1 hq.2.2.2.1 x hx;simp only[nM,ae,bg]at this;omega
 have hcb:=B6 _ hS;have hN:yj p z<=1000:=by have:yj p z<=(jT p).1.length+z-1:=Nat.div_le_self ..;omega
 have hN0:0<yj p z:=Nat.div_pos (by omega) (by omega);have hce:=agK (jT p).1.length z (by omega) (by omega) (by omega);rw[show((jT p).1.length+z-1)/z=yj p z from rfl]at hce;simp only[aj,af,ab,eY,ah,az,Nz,aH hzn,hce,YY _ _ (show t.2.1.2.2.2.length<=10^9 by omega),Nr,YU t (by omega) hS,Ib];rw[ak (n:=(yj p z:Int)+1),ak (n:=dH t.2.2.1+(yj p z:Int)),ak (n:=dH t.2.2.1+(yj p z:Int)+1)];by_cases g1:(yj p z:Int)>16;rw[ar g1];simp only[ah,ab,aj,dN,fE,af];rw[aq g1];simp only[bF,af,bp];cases decide ((yj p z:Int)+1>nW t.1)with|true=>simp only[ah,ab,aj,dN,fE,af]|false=> ?_
 simp only[bF,af,bp,ab];cases decide (dH t.2.2.1+(yj p z:Int)+1>t.1.2.1)with|true=>simp only[ah,ab,aj,dN,fE,af]|false=> ?_
 simp only[bF,af,dS,ab];cases hk:(jZ t.2.1 (yj p z:Int)).2.2;rfl;simp only[aj,af,ah,eS m (show m.length<=1073741824 by omega),ab];obtain⟨_,hkn,UX⟩:=Tp hk;have hkl:(jZ t.2.1 (yj p z:Int)).2.1.length=yj p z:=by rw[UX,aY];omega
 have key:=YH l m d t.2.1 (jZ t.2.1 (yj p z:Int)).2.1 (jT p).1 z (by omega) hl hm (by omega) (by omega);cases hx:wh l d t.2.1 z (jZ t.2.1 (yj p z:Int)).2.1 (jT p).1 m []with
 |none=>rw[hx]at key;obtain⟨a,b,e⟩:=key;obtain⟨f,g,_⟩:=AZ [] c t.2.2.2 (by simp);rw[e,ab];simp only[g,ab];cases a<;>cases f<;>rfl
 |some x=>
  rw[hx]at key;have key:mQ _ _ _ _ _ _ _=_:=key;obtain⟨x1,x2⟩:=Ye hb (by omega) hc hN0 (by omega) hk hx;obtain⟨_,x3,_⟩:=Fz l d t.2.1 z _ _ _ _ hx;simp only[ef]at x3;obtain⟨f,g,hf⟩:=AZ x.1 c t.2.2.2;have hft:f=true:=by cases f with|true=>rfl|false=>have:=hf rfl;rw[this]at x2;cases x2
  subst hft;simp only[key,g,ab,ah,aj,af,aH (show¬(pK x.1 c t.2.2.2).length=0 by omega),Ly];rw[RT _ _ _ _ _ _ _ _ _ _ _ _ _ (by omega)];simp only[Vd l x.2 d t.1 _ hl (by omega) (show((pK x.1 c t.2.2.2).map xk).length<=10^9 by rw[da];omega),ab];cases (ub l x.2 d t.1 ((pK x.1 c t.2.2.2).map xk)).2.2 with|false=>rfl|true=>simp only[aj,af,ab,ah];rw[aP (by simp only[bA];omega),lZ,ak,x2];rfl
def Qh (g:Nat->Host->Host):Nat->Host->Host
 |0,h=>h
 |k+1,h=>g k (Qh g k h)
structure BH (a b:Host):Prop where
 maps:b.2.1=a.2.1
 tx:b.2.2.1=a.2.2.1
 rx:b.2.2.2.1.length=a.2.2.2.1.length
 pl:b.2.2.2.2.1.length=a.2.2.2.2.1.length
 vec:b.2.2.2.2.2.1=a.2.2.2.2.2.1
 VT:b.2.2.2.2.2.2.1=a.2.2.2.2.2.2.1
 ret:b.2.2.2.2.2.2.2.2.2.2.2.2.2.1=a.2.2.2.2.2.2.2.2.2.2.2.2.2.1
theorem BH.refl (a:Host):BH a a:=⟨rfl,rfl,rfl,rfl,rfl,rfl,rfl⟩
theorem BH.trans {a b c:Host}(h:BH a b)(k:BH b c):BH a c:=⟨k.1.trans h.1,k.2.trans h.2,k.3.trans h.3,k.4.trans h.4,k.5.trans h.5,k.6.trans h.6,k.7.trans h.7⟩
theorem SJ (h:Host)(i:Nat)(c:Int):BH h (yF h i c).2:=by unfold yF;rcases h1:h.2.2.2.1[i]? with _|rx;exact BH.refl h;rcases h2:h.2.2.2.2.1[i]? with _|pl;exact BH.refl h;exact⟨rfl,rfl,aC ..,aC ..,rfl,rfl,rfl⟩
def ua (h:Host)(k:Nat):Host:=Qh (λi s=>(yF s i 1000).2) k h
theorem Bo (hn:128<=n)(z:cX n dC h):∀k,BH h (ua h k)/\cX (n+322000*k) dC (ua h k)
 |0=>⟨BH.refl h,z⟩
 |k+1=>by have i:=Bo hn z k;exact⟨i.1.trans (SJ ..),(VU (by omega) k 1000 i.2).mono⟩
def adh (h:Host)(l:cw):Host:=(h.1,h.2.1,h.2.2.1,h.2.2.2.1,h.2.2.2.2.1,h.2.2.2.2.2.1,h.2.2.2.2.2.2.1,h.2.2.2.2.2.2.2.1,h.2.2.2.2.2.2.2.2.1,h.2.2.2.2.2.2.2.2.2.1,h.2.2.2.2.2.2.2.2.2.2.1,h.2.2.2.2.2.2.2.2.2.2.2.1,h.2.2.2.2.2.2.2.2.2.2.2.2.1,h.2.2.2.2.2.2.2.2.2.2.2.2.2.1++l,h.2.2.2.2.2.2.2.2.2.2.2.2.2.2)
def XQ (h:Host):Host:=(h.1,h.2.1,(En.1,En.2.1,En.2.2.1,h.2.2.1.2.2.2),h.2.2.2)
def Ea (h:Host)(i:Nat)(dr:Int):Host:=
 ((sX h.2.1 h.1 i).1,h.2.1,h.2.2.1,h.2.2.2.1.set i ((sX h.2.1 h.1 i).2.1,(IH i).2.1,(IH i).2.2.1,(IH i).2.2.2.1,(IH i).2.2.2.2.1,dr),h.2.2.2.2.1.set i (sX h.2.1 h.1 i).2.2.1,h.2.2.2.2.2)
def DT (x:bR):Int:=bif x.2.2.2.2.1 then au (x.2.2.2.2.2+x.2.2.2.1.2.2) else x.2.2.2.2.2
def yH (i:Nat)(h:Host):Host:=
 match h.2.2.2.1[i]?,h.2.2.2.2.2.1[i]? with
 |some x,some v=>((Ea h i (DT x)).1,h.2.1,h.2.2.1,(Ea h i (DT x)).2.2.2.1,(Ea h i (DT x)).2.2.2.2.1,h.2.2.2.2.2.1.set i (v.1,v.2.1,0,0,false,false),h.2.2.2.2.2.2.1.set i false,h.2.2.2.2.2.2.2)
 |_,_=>h
structure afF (k:Nat) (a b:Host):Prop where
 mem:b.1.length=a.1.length
 maps:b.2.1=a.2.1
 rx:b.2.2.2.1.length=a.2.2.2.1.length
 pl:b.2.2.2.2.1.length=a.2.2.2.2.1.length
 vec:b.2.2.2.2.2.1.length=a.2.2.2.2.2.1.length
 Ty:∀j,k<=j->b.2.2.2.2.2.1[j]?=a.2.2.2.2.2.1[j]?
 VT:b.2.2.2.2.2.2.1.length=a.2.2.2.2.2.2.1.length
theorem NQ (l:aw aA)(m:bM)(i:Nat):(sX l m i).1.length=m.length:=by unfold sX;rw[W3,jE]
theorem SX (i:Nat)(h:Host):afF (i+1) h (yH i h):=by unfold yH;rcases h1:h.2.2.2.1[i]? with _|x;exact⟨rfl,rfl,rfl,rfl,rfl,λ_ _=>rfl,rfl⟩;rcases h2:h.2.2.2.2.2.1[i]? with _|v;exact⟨rfl,rfl,rfl,rfl,rfl,λ_ _=>rfl,rfl⟩;have e1:(Ea h i (DT x)).1.length=h.1.length:=NQ h.2.1 h.1 i;exact⟨e1,rfl,aC ..,aC ..,aC ..,λj hj=>aO (by omega),aC ..⟩
def ik (h:Host)(k:Nat):Host:=Qh yH k h
theorem vN (h:Host):∀k,afF k h (ik h k)
 |0=>⟨rfl,rfl,rfl,rfl,rfl,λ_ _=>rfl,rfl⟩
 |k+1=>by have a:=vN h k;have b:=SX k (ik h k);exact⟨b.mem.trans a.mem,b.maps.trans a.maps,b.rx.trans a.rx,b.pl.trans a.pl,b.vec.trans a.vec,λj hj=>(b.Ty j hj).trans (a.Ty j (by omega)),b.VT.trans a.VT⟩
theorem ZK (hn:1000<=n)(i:Nat)(d:Int)(z:cX n dC h):cX n dC (Ea h i d):=by unfold Ea sX;have h4:=nK (gP i+128) 384 4;have hf:=EB h.2.1 (hH h.2.1 h.1 0 (gP i) (xi 128) false).1 0 (gP i,4,0,0) (gT (gP i+128) 384 4).1;refine⟨M8 (by omega) (CL (by omega) z.1 ..) ..,z.2.1,z.2.2.1,og z.2.2.2.1 ?_,og z.2.2.2.2.1 ?_,z.2.2.2.2.2⟩;refine⟨⟨cv,cv,cv,cv⟩,⟨cv,cv,cv⟩,⟨cv,cv,cv⟩,⟨⟨cv,cv,cv,cv,cv,cv,cv,cv,cv,cv,cv,cv,cv,cv,cv,?_⟩,cv,cv⟩,cv,cv⟩;exact bW _;exact⟨cv,cv,cv,by show List.length _<=_;omega,λ_ _=>trivial⟩
theorem V1 (hn:1000<=n)(i:Nat)(z:cX n dC h):cX n dC (yH i h):=by unfold yH;rcases h1:h.2.2.2.1[i]? with _|x;exact z;rcases h2:h.2.2.2.2.2.1[i]? with _|v;exact z;have zo:=ZK hn i (DT x) z;exact⟨zo.1,z.2.1,z.2.2.1,zo.2.2.2.1,zo.2.2.2.2.1,og z.2.2.2.2.2.1 ⟨cv,cv,cv,cv,cv,cv⟩,og z.2.2.2.2.2.2.1 trivial,z.2.2.2.2.2.2.2⟩
theorem Bs (hn:1000<=n)(z:cX n dC h):∀k,cX n dC (ik h k)
 |0=>z
 |k+1=>V1 hn k (Bs hn z k)
def PY (W:aw kO)(i:Nat)(s:Host):Host:=match W[i]? with|some x=>adh s [x.1]|none=>s
def polled (h:Host):Host:=ua h h.2.2.2.1.length
def returned (h:Host)(k:Nat):Host:=Qh (PY h.2.2.1.2.2.1) k (polled h)
structure air (a b:Host):Prop where
 e:b=(a.1,a.2.1,a.2.2.1,a.2.2.2.1,a.2.2.2.2.1,a.2.2.2.2.2.1,a.2.2.2.2.2.2.1,a.2.2.2.2.2.2.2.1,a.2.2.2.2.2.2.2.2.1,a.2.2.2.2.2.2.2.2.2.1,a.2.2.2.2.2.2.2.2.2.2.1,a.2.2.2.2.2.2.2.2.2.2.2.1,a.2.2.2.2.2.2.2.2.2.2.2.2.1,b.2.2.2.2.2.2.2.2.2.2.2.2.2.1,a.2.2.2.2.2.2.2.2.2.2.2.2.2.2)
theorem wC (z:cX n dC (polled h)):∀k,air (polled h) (returned h k)/\(returned h k).2.2.2.2.2.2.2.2.2.2.2.2.2.1.length<=n+k
 |0=>⟨⟨rfl⟩,by have:=z.2.2.2.2.2.2.2.2.2.2.2.2.2.1.1;exact bw this (by omega)⟩
 |k+1=>by have i:=wC z k;have e:returned h (k+1)=PY h.2.2.1.2.2.1 k (returned h k):=rfl;rw[e];unfold PY;cases h.2.2.1.2.2.1[k]? with|none=>exact⟨i.1,bw i.2 (by omega)⟩|some x=>refine⟨⟨?_⟩,?_⟩;show adh _ _=_;have e:=i.1.e;generalize returned h k=r at e⊢;rw[e];rfl;show(_++[_]).length<=_;rw[ai,bA];omega
theorem PZ (z:cX n dC (polled h))(k:Nat):cX (n+k) dC (returned h k):=by have i:=wC z k;have z':cX (n+k) dC (polled h):=z.mono;rw[i.1.e];exact⟨z'.1,z'.2.1,z'.2.2.1,z'.2.2.2.1,z'.2.2.2.2.1,z'.2.2.2.2.2.1,z'.2.2.2.2.2.2.1,z'.2.2.2.2.2.2.2.1,z'.2.2.2.2.2.2.2.2.1,z'.2.2.2.2.2.2.2.2.2.1,z'.2.2.2.2.2.2.2.2.2.2.1,z'.2.2.2.2.2.2.2.2.2.2.2.1,z'.2.2.2.2.2.2.2.2.2.2.2.2.1,⟨i.2,λ_ _=>trivial⟩,z'.2.2.2.2.2.2.2.2.2.2.2.2.2.2⟩
theorem Tu (hn:1000<=n)(z:cX n dC h):cX n dC (XQ h):=by have h4:=nK 256 128 8;exact⟨z.1,z.2.1,⟨⟨cv,cv,cv,cv⟩,⟨cv,cv,cv,by show List.length (gT 256 128 8).1.2.2.2<=n;omega,λ_ _=>trivial⟩,⟨bW _,λx hx=>by cases hx⟩,cv⟩,z.2.2.2⟩
def rT (h:Host):Host:=XQ (returned h h.2.2.1.2.2.1.length)
def wS (h:Host):Host:=bif fy h then ik (rT h) h.2.2.2.1.length else h
theorem Kw (hb:fy h=true):qU h=true:=by simp only[fy,ae]at hb;exact hb.2.2.2.2.1
theorem H9 (hn:1000<=n)(z:cX n dC h)(hl:h.2.2.2.1.length<=2):cX (n+644000+h.2.2.1.2.2.1.length) dC (rT h):=by have hp:=Bo (by omega) z h.2.2.2.1.length;exact Tu (by omega) (PZ (hp.2.mono) _)
theorem ajI (l:aw aA)(X:bM)(q:bR)(P:cR)(o:bM×lN×cR×Int)(k:bR×cR->bM×lN×cR×Int->ax R)(h:hU l X 0 q.1 P=some o):(aa (hU l X 0 (q,P).1.1 (q,P).2) λPW=>k (q,P) PW)=k (q,P) o:=by show aa (hU l X 0 q.1 P) (λPW=>k (q,P) PW)=k (q,P) o;rw[h,ab]
theorem Ns (l:aw aA)(m:bM)(i:Nat)(hi:i<=8)(hl:l.length<=10^9)(hm:m.length<=10^9)(k:bR×cR->bM×lN×cR×Int->ax R): (aa (pS (i:Int)) λxh=>aa (nr 0 128) λXv=>aa (jg l m 0 xh Xv) λzV=>aa (uR (i:Int)) λDz=>aa (hU l zV.1 0 Dz.1.1 Dz.2) λPW=>k Dz PW)=k (IH i,(gT (gP i+128) 384 4).1) (sX l m i):=by
 have hb:gP i=1280+(i:Int)*1792:=rfl;have Js:gP i<=9223372036854775807:=by omega
 have hz:nr 0 128=some (xi 128):=Xg 128;have hf:=RU l (hH l m 0 (gP i) (xi 128) false).1 0 (gP i,4,0,0) (gT (gP i+128) 384 4).1 hl (by rw[jE];exact hm) (bw (nK (gP i+128) 384 4) (by omega));rw[RP i hi,ab,hz,ab,zR l m 0 (gP i) (xi 128) hl hm Js,ab,YQ i hi,ab];exact ajI l _ (IH i) _ (sX l m i) k hf
theorem Ms (K:Int->Host->ax Host)(s0 B:Host)(N:Nat)(hN:N<=2)(h1:s0.2.2.2.1.length=N)(h2:s0.2.2.2.2.1.length=N)(h3:s0.2.2.2.2.2.1.length=N)(h4:s0.2.2.2.2.2.2.1.length=N)(z:cX 900000000 dC s0): aX (ku K (N:Int) B) fuel (0,s0)=K (N:Int) (ik s0 N):=by
 refine eG (λi=>((i:Int),ik s0 i)) N (by omega) (λi nx hi=>?_) (λnx=>?_);have kr:=vN s0 i;have zr:=Bs (by omega) z i;have z1:(ik s0 i).1.length<=10^9:=bw zr.1.1 (by omega);have z2:(ik s0 i).2.1.length<=10^9:=bw zr.2.1.1 (by omega);have i1:i<(ik s0 i).2.2.2.1.length:=by rw[kr.rx,h1];exact hi
 have i2:i<(ik s0 i).2.2.2.2.1.length:=by rw[kr.pl,h2];exact hi
 have i3:i<(ik s0 i).2.2.2.2.2.1.length:=by rw[kr.vec,h3];exact hi
 have i4:i<(ik s0 i).2.2.2.2.2.2.1.length:=by rw[kr.VT,h4];exact hi
 rw[show ik s0 (i+1)=yH i (ik s0 i) from rfl];generalize ik s0 i=s at z1 z2 i1 i2 i3 i4⊢;unfold yH DT Ea;simp only[al i1,al i3];simp only[ku];rw[jU,ah];simp only[bf i1,ab];rw[Ns s.2.1 s.1 i (by omega) z2 z1,Ns s.2.1 s.1 i (by omega) z2 z1];generalize IH i=q;generalize sX s.2.1 s.1 i=o;simp only[bf i1,bf i2,bf i3,bf i4,ab];rw[ak (n:=(i:Int)+1),az];cases s.2.2.2.1[i].2.2.2.2.1<;>rfl;simp only[ku];rw[cC,af]
theorem OX (hq:BH h (polled h))(hz:cX n dC (polled h)):(rT h).2.2.2.1.length=h.2.2.2.1.length/\(rT h).2.2.2.2.1.length=h.2.2.2.2.1.length/\(rT h).2.2.2.2.2.1=h.2.2.2.2.2.1/\(rT h).2.2.2.2.2.2.1=h.2.2.2.2.2.2.1:=by have er:=(wC hz h.2.2.1.2.2.1.length).1.e;refine⟨?_,?_,?_,?_⟩;show(returned h h.2.2.1.2.2.1.length).2.2.2.1.length=_;rw[er];exact hq.rx;show(returned h h.2.2.1.2.2.1.length).2.2.2.2.1.length=_;rw[er];exact hq.pl;show(returned h h.2.2.1.2.2.1.length).2.2.2.2.2.1=_;rw[er];exact hq.vec;show(returned h h.2.2.1.2.2.1.length).2.2.2.2.2.2.1=_;rw[er];exact hq.VT
theorem D5 (h:Host)(k:JH h)(z:cX 100000000 dC h):pO h=some (wS h):=by
 have Ak:=dR;unfold pO wS;rw[lp h (z.mono),ab,tA h k,ab];cases hb:fy h;rfl;have hl:=qB (Kw hb);have hw:h.2.2.1.2.2.1.length<=100000000:=z.2.2.1.2.2.1.1;have hp:=Bo (n:=100000000) (by omega) z;simp only[aj,af,ah];refine eG (λi=>((i:Int),ua h i)) h.2.2.2.1.length (by omega) (λi nx hi=>?_) (λnx=>?_);simp only[pa];rw[jU,ah,Pz (ua h i) i 1000 (by rw[(hp i).1.rx];exact hi) (by rw[(hp i).1.pl];omega) ((hp i).2.mono),ab,ak];rfl;simp only[pa];rw[cC,af];have hq:=hp h.2.2.2.1.length;have hr:=wC (n:=100000000+322000*h.2.2.2.1.length) hq.2;have e1:(ua h h.2.2.2.1.length).2.2.1.2.2.1=h.2.2.1.2.2.1:=by rw[hq.1.tx]
 rw[e1];refine eG (λi=>((i:Int),returned h i)) h.2.2.1.2.2.1.length (by omega) (λi nx hi=>?_) (λnx=>?_);have hri:=(hr i).2;simp only[nw];rw[jU,ah,bf hi,ab,aP (by rw[bA];omega),ak];rw[show returned h (i+1)=PY h.2.2.1.2.2.1 i (returned h i) from rfl,PY,al hi];rfl;simp only[nw];rw[cC,af];simp only[Zc,ab];have hE:=H9 (n:=100000000) (by omega) z hl.1;have hk:=OX hq.1 hq.2;have eN:((List.length (returned h h.2.2.1.2.2.1.length).2.2.2.1:Nat):Int)=(h.2.2.2.1.length:Int):=congrArg Nat.cast hk.1;rw[eN];exact Ms _ (rT h) _ h.2.2.2.1.length hl.1 hk.1 (hk.2.1.trans hl.2.1) (by rw[hk.2.2.1];exact hl.2.2.1) (by rw[hk.2.2.2];exact hl.2.2.2) (hE.mono)
def yk (x:Ep):Bool:=dm x.1 0 65535&&(dm x.2.1 0 65535&&(dm x.2.2.1 0 65535&&(dm x.2.2.2.1 0 65535&&dm x.2.2.2.2 0 4294967295)))
theorem Np (x:Ep):lu x=some (yk x):=by simp only[lu,di,ab,bL,cF,yk]
def OY (x:Ep)(p:Int):Bytes:=bif yk x&&dm p 0 1 then((((bP x.1++bP x.2.1)++bP x.2.2.1)++bP x.2.2.2.1)++iP x.2.2.2.2)++iP p else []
theorem acn (x:Ep)(p:Int):kH x p=some (OY x p):=by have h1:=bD x.1;have h2:=bD x.2.1;have h3:=bD x.2.2.1;have h4:=bD x.2.2.2.1;have h5:=ez x.2.2.2.2;have h6:=ez p;unfold kH OY;simp only[Np,di,ab,kt,yy];cases yk x;rfl;cases dm p 0 1;rfl;simp only[aj,af,ab,eY,ah];rw[aP,aP (by simp only[ai];omega),aP (by simp only[ai];omega),aP (by simp only[ai];omega),aP (by simp only[ai];omega)]
def zA (l:aw aA)(m:bM)(d:Int)(q:L3)(x:Ep):bM×L3×Bool:=
 bif !fI q|| !yk x then(m,q,false) else
 bif !(hH l m d (qX q) (OY x (yC q)) true).2 then(m,q,false) else
 ((hH l m d (qX q) (OY x (yC q)) true).1,(q.1,q.2.1,tmod (q.2.2+1) (2*q.2.1)),true)
theorem acz (l:aw aA)(m:bM)(d:Int)(q:L3)(x:Ep)(hl:l.length<=10^9)(hm:m.length<=10^9):nB l m d q x=some (zA l m d q x):=by unfold nB zA;simp only[Hj,Np,ab,eS m (show m.length<=1073741824 by omega),Nt,acn];cases hq:fI q;rfl;have h:=ud hq;have hs:=P7 hq;cases yk x;rfl;simp only[aj,af,ab,bZ,Nx q hq,Ba l m d _ _ hl hm (show qX q<=9223372036854775807 by unfold qX;omega)];cases hp:(hH l m d (qX q) (OY x (yC q)) true).2 with|false=>simp only[bF,ah,HJ hp]|true=>simp only[aj,af];rw[ak (n:=2*q.2.1),lZ,ak (n:=q.2.2+1)]
theorem ZY (hn:128<=n)(z:cX n (.sl .str) m)(l:aw aA)(d:Int)(q:L3)(x:Ep):cX n (.sl .str) (zA l m d q x).1/\(zA l m d q x).1.length=m.length:=by
 unfold zA;cases !fI q|| !yk x;case true=>exact⟨z,rfl⟩
 cases (hH l m d (qX q) (OY x (yC q)) true).2 with|false=>exact⟨z,rfl⟩|true=>exact⟨CL hn z ..,jE ..⟩
theorem Xt {q:L3}{x:Ep}(h:fI q=true):fI (zA l m d q x).2.1=true/\(zA l m d q x).2.1.1=q.1/\(zA l m d q x).2.1.2.1=q.2.1:=by
 have hq:=ud h;unfold zA;cases !fI q|| !yk x;case true=>exact⟨h,rfl,rfl⟩
 cases (hH l m d (qX q) (OY x (yC q)) true).2 with|false=>exact⟨h,rfl,rfl⟩|true=>refine⟨?_,rfl,rfl⟩;have e:=Qq (a:=q.2.2+1) (b:=2*q.2.1);simp only[af,aj,fI,ae,bg]at h⊢;refine⟨h.1,h.2.1,?_⟩;rw[ye h.2.1];omega
def gY (l:aw aA)(m:bM)(d:Int)(q:bR)(k:Bytes)(s:Bytes):bM×L3×Bool:=
 bif !(cQ s).2||(((cQ s).1.1 !=3)||decide ((cQ s).1.2.2.1<((dy q.2.2.2.1.1).1.length:Int))) then(m,q.2.1,false) else
 bif !(hH l m d (cQ s).1.2.2.2.1 (dy q.2.2.2.1.1).1 true).2 then(m,q.2.1,false) else
 zA l (hH l m d (cQ s).1.2.2.2.1 (dy q.2.2.2.1.1).1 true).1 d q.2.1 ((cQ s).1.2.2.2.2.2,((dy q.2.2.2.1.1).1.length:Int),q.2.2.2.1.2.1,q.2.2.2.1.2.2,yq k (tw (kS q.2.2.2.1.1)))
theorem YX (l:aw aA)(m:bM)(d:Int)(q:bR)(k s:Bytes)(hl:l.length<=10^9)(hm:m.length<=10^9)(hs:s.length<=10^9)(hh:dw q.2.2.2.1.1=true):∃b,tX l m d q k s=some (b,gY l m d q k s)/\(b=false->gY l m d q k s=(m,q.2.1,false)):=by
 unfold tX gY;have nn:=UC (s:=s);simp only[RR s hs,Du,ab,Dt hh];generalize cQ s=x at nn⊢;cases hx:x.2;exact⟨false,rfl,λ_=>rfl⟩;have hd:=nn hx;simp only[sR,ae,bg]at hd;cases x.1.1 !=3;case true=>exact⟨false,rfl,λ_=>rfl⟩
 cases decide (x.1.2.2.1<((dy q.2.2.2.1.1).1.length:Int));case true=>exact⟨false,rfl,λ_=>rfl⟩
 simp only[aj,af,ab,bZ,Ba l m d _ _ hl hm (show x.1.2.2.2.1<=9223372036854775807 by omega)];cases (hH l m d x.1.2.2.2.1 (dy q.2.2.2.1.1).1 true).2;exact⟨false,rfl,λ_=>rfl⟩;simp only[aj,af,KF,ab,FU,acz l _ d _ _ hl (show(hH l m d x.1.2.2.2.1 (dy q.2.2.2.1.1).1 true).1.length<=10^9 by rw[jE];exact hm)];exact⟨true,rfl,λh=>by cases h⟩
theorem N8 (hn:128<=n){k:Bytes}(z:cX n (.sl .str) m)(hq:fI q.2.1=true): cX n (.sl .str) (gY l m d q k s).1/\(gY l m d q k s).1.length=m.length/\fI (gY l m d q k s).2.1=true/\(gY l m d q k s).2.1.1=q.2.1.1/\(gY l m d q k s).2.1.2.1=q.2.1.2.1:=by
 unfold gY;cases !(cQ s).2||(((cQ s).1.1 !=3)||decide ((cQ s).1.2.2.1<((dy q.2.2.2.1.1).1.length:Int)));case true=>exact⟨z,rfl,hq,rfl,rfl⟩
 cases (hH l m d (cQ s).1.2.2.2.1 (dy q.2.2.2.1.1).1 true).2;exact⟨z,rfl,hq,rfl,rfl⟩;have h1:=CL hn z l d (cQ s).1.2.2.2.1 (dy q.2.2.2.1.1).1 true;have h2:=jE l m d (cQ s).1.2.2.2.1 (dy q.2.2.2.1.1).1 true;generalize (hH l m d (cQ s).1.2.2.2.1 (dy q.2.2.2.1.1).1 true).1=w at h1 h2;have h3:=ZY hn h1 l d q.2.1 ((cQ s).1.2.2.2.2.2,((dy q.2.2.2.1.1).1.length:Int),q.2.2.2.1.2.1,q.2.2.2.1.2.2,yq k (tw (kS q.2.2.2.1.1)));have h4:=Xt (l:=l) (m:=w) (d:=d) (x:=((cQ s).1.2.2.2.2.2,((dy q.2.2.2.1.1).1.length:Int),q.2.2.2.1.2.1,q.2.2.2.1.2.2,yq k (tw (kS q.2.2.2.1.1)))) hq;exact⟨h3.1,h3.2.trans h2,h4⟩
def iC (l:aw aA)(m:bM)(d:Int)(q:bR)(k:Bytes):bM×bR:=
 bif !Ff q||(!q.2.2.2.2.1||((k.length:Int) !=16)) then(m,q) else
 bif (bm l m d q.1).2.2&&(gY l m d q k (bm l m d q.1).1).2.2 then
  ((gY l m d q k (bm l m d q.1).1).1,(bm l m d q.1).2.1,(gY l m d q k (bm l m d q.1).1).2.1,q.2.2.1,aaA,false,q.2.2.2.2.2)
 else(m,(bm l m d q.1).2.1,q.2.1,q.2.2.1,aaA,false,au (q.2.2.2.2.2+q.2.2.2.1.2.2))
theorem Tq (h:(bm l m d r).2.2=false):(bm l m d r).2.1=r:=by
 unfold bm at h⊢;cases hc: !cW r||(bE r==0);case true=>rfl
 cases hd:(qY l m d (om r r.2.2.1) 16).2 with|false=>rfl|true=>rw[hc,hd]at h;cases h
theorem AE (h:Ff q=true):fI q.2.1=true/\(q.2.2.2.2.1=true->dw q.2.2.2.1.1=true):=by unfold Ff at h;simp only[ae]at h;refine⟨h.1.2.1,λhh=>?_⟩;have h2:=h.2;rw[hh]at h2;simp only[ah,ae]at h2;exact h2.1
theorem Hi (l:aw aA)(m:bM)(d:Int)(q:bR)(k:Bytes)(hl:l.length<=10^9)(hm:m.length<=10^9):mL l m d q k=some (iC l m d q k):=by
 have ht:=El l m d q.1;have Fc:=Tq (l:=l) (m:=m) (d:=d) (r:=q.1);unfold mL iC;simp only[PB,ab,eS m (show m.length<=1073741824 by omega),F2 l m d q.1 hl hm];cases hr:Ff q;rfl;cases hh:q.2.2.2.2.1;rfl;cases (k.length:Int) !=16;case true=>rfl
 obtain⟨b,hb,Js⟩:=YX l m d q k (bm l m d q.1).1 hl hm (by omega) ((AE hr).2 hh);simp only[aj,af,ab,bZ,hb];generalize gY l m d q k (bm l m d q.1).1=s at hb Js⊢;cases hk:(bm l m d q.1).2.2 with|false=>rw[Fc hk];rfl|true=>?_
 cases b with|true=>cases hs:s.2.2<;>rfl|false=>rw[Js rfl];rfl
theorem Dl (hn:128<=n){k:Bytes}(z:cX n (.sl .str) m)(zq:cX n dI q): cX n (.sl .str) (iC l m d q k).1/\(iC l m d q k).1.length=m.length/\cX n dI (iC l m d q k).2/\(Ff q=true->fI (iC l m d q k).2.2.1=true/\(iC l m d q k).2.2.1.2.1=q.2.1.2.1):=by
 unfold iC;cases hc: !Ff q||(!q.2.2.2.2.1||((k.length:Int) !=16));case true=>exact⟨z,rfl,zq,λh=>⟨(AE h).1,rfl⟩⟩
 simp only[cg,dz]at hc;have hq:=(AE hc.1).1;have hs:=N8 hn (l:=l) (d:=d) (k:=k) (s:=(bm l m d q.1).1) z hq;have e0:cX n dI ((bm l m d q.1).2.1,(gY l m d q k (bm l m d q.1).1).2.1,q.2.2.1,aaA,false,q.2.2.2.2.2):=⟨⟨cv,cv,cv,cv⟩,⟨cv,cv,cv⟩,⟨cv,cv,cv⟩,⟨⟨cv,cv,cv,cv,cv,cv,cv,cv,cv,cv,cv,cv,cv,cv,cv,bW _⟩,cv,cv⟩,cv,cv⟩
 cases (bm l m d q.1).2.2&&(gY l m d q k (bm l m d q.1).1).2.2 with|true=>exact⟨hs.1,hs.2.1,e0,λ_=>⟨hs.2.2.1,hs.2.2.2.2⟩⟩|false=>exact⟨z,rfl,⟨⟨cv,cv,cv,cv⟩,⟨cv,cv,cv⟩,⟨cv,cv,cv⟩,⟨⟨cv,cv,cv,cv,cv,cv,cv,cv,cv,cv,cv,cv,cv,cv,cv,bW _⟩,cv,cv⟩,cv,cv⟩,λ_=>⟨hq,rfl⟩⟩
def evS (k:Nat)(h:Host):Host:=
 match h.2.2.2.2.2.1[k]? with
 |some v=>(h.1,h.2.1,h.2.2.1,h.2.2.2.1,h.2.2.2.2.1,h.2.2.2.2.2.1.set k (evV v),h.2.2.2.2.2.2)
 |none=>h
def Yb (k:Nat):Nat->Host->Host
 |0,h=>h
 |i+1,h=>evS k (Yb k i h)
theorem abR (k:Nat)(h:Host):kQ (k+1) h (evS k h):=by unfold evS;cases h.2.2.2.2.2.1[k]? with|none=>exact kQ.refl _ _|some v=>exact⟨rfl,rfl,rfl,rfl,λ_ _=>rfl,rfl,aC ..,λj hj=>aO (by omega),rfl,rfl,rfl⟩
theorem J8 (k:Nat)(h:Host):∀i,kQ (k+1) h (Yb k i h)
 |0=>kQ.refl _ _
 |i+1=>(J8 k h i).trans (abR k _)
theorem aev (k:Nat)(z:cX n dC h):cX n dC (evS k h):=by unfold evS;cases h.2.2.2.2.2.1[k]? with|none=>exact z|some v=>exact⟨z.1,z.2.1,z.2.2.1,z.2.2.2.1,z.2.2.2.2.1,JD z.2.2.2.2.2.1,z.2.2.2.2.2.2⟩
theorem W0 (k:Nat)(z:cX n dC h):∀i,cX n dC (Yb k i h)
 |0=>z
 |i+1=>aev k (W0 k z i)
theorem U2 (h:Host)(k:Nat)(b:Int)(h1:k<h.2.2.2.1.length)(h2:k<h.2.2.2.2.2.1.length)(hq:fI h.2.2.2.1[k].2.1=true)(hb:0<=b/\b<=31):ky h (k:Int) b=some ((),Yb k ((h.2.2.2.1[k].2.1.2.2-b)%(2*h.2.2.2.1[k].2.1.2.1)).toNat h):=by
 have Ak:=dR;have q:=ud hq;unfold ky;rw[bf h1,ab];generalize h.2.2.2.1[k]=x at q⊢;rw[ak (n:=x.2.1.2.2-b),ak (n:=2*x.2.1.2.1),Hy _ _,ab];have hm:0<=(x.2.1.2.2-b)%(2*x.2.1.2.1)/\(x.2.1.2.2-b)%(2*x.2.1.2.1)<32:=by have g1:=eI (x.2.1.2.2-b) (show 2*x.2.1.2.1≠0 by omega);have g2:=eJ (x.2.1.2.2-b) (show 0<2*x.2.1.2.1 by omega);omega
 generalize (x.2.1.2.2-b)%(2*x.2.1.2.1)=c at hm⊢;obtain⟨c,rfl⟩:=aV hm.1;rw[az];have e0:((c:Int),h)=(((c:Int)-((0:Nat):Int)),Yb k 0 h):=by simp[Yb]
 rw[e0];refine eG (λi=>((c:Int)-(i:Int),Yb k i h)) c (by omega) (λi nx hi=>?_) (λnx=>?_);have kk:=J8 k h i;have i1:k<(Yb k i h).2.2.2.2.2.1.length:=by rw[kk.vec];exact h2
 rw[show Yb k (i+1) h=evS k (Yb k i h) from rfl];generalize Yb k i h=s at i1⊢;simp only[pj,evS];rw[jU,ah,al i1];simp only[bf i1,ab,YD,az];rw[ak,show(c:Int)-(i:Int)-1=(c:Int)-((i+1:Nat):Int) by omega];simp only[pj];rw[cC,af]
def Gp (h:Host)(k:Nat)(f:bM×bR):Host:=(f.1,h.2.1,h.2.2.1,h.2.2.2.1.set k f.2,h.2.2.2.2)
def H0 (h:Host)(k:Nat)(b:Int)(f:bM×bR):Host:=Yb k ((f.2.2.1.2.2-b)%(2*f.2.2.1.2.1)).toNat (Gp h k f)
def oO (k:Nat)(h:Host):Host:=
 match h.2.2.2.1[k]? with
 |some x=>H0 h k x.2.1.2.2 (iC h.2.1 h.1 0 x h.2.2.2.2.2.2.2.2.1.2.2.1)
 |none=>h
theorem C5 (hf:f.1.length=h.1.length):kQ (k+1) h (H0 h k b f):=by
 have a:kQ (k+1) h (Gp h k f):=⟨hf,rfl,rfl,aC ..,λj hj=>aO (by omega),rfl,rfl,λ_ _=>rfl,rfl,rfl,rfl⟩
 exact a.trans (J8 k (Gp h k f) _)
theorem L0 (z:cX n dC h)(h1:cX n (.sl .str) f.1)(h2:cX n dI f.2):cX n dC (H0 h k b f):=by
 have a:cX n dC (Gp h k f):=⟨h1,z.2.1,z.2.2.1,og z.2.2.2.1 h2,z.2.2.2.2⟩
 exact W0 k a _
theorem Rh {k:Bytes}:(iC l m d q k).1.length=m.length:=by
 have hs:(gY l m d q k (bm l m d q.1).1).1.length=m.length:=by
  unfold gY;cases !(cQ (bm l m d q.1).1).2||(((cQ (bm l m d q.1).1).1.1 !=3)||decide ((cQ (bm l m d q.1).1).1.2.2.1<((dy q.2.2.2.1.1).1.length:Int)));case true=>rfl
  cases (hH l m d (cQ (bm l m d q.1).1).1.2.2.2.1 (dy q.2.2.2.1.1).1 true).2;rfl;have h2:=jE l m d (cQ (bm l m d q.1).1).1.2.2.2.1 (dy q.2.2.2.1.1).1 true;simp only[af,aj];unfold zA;cases !fI q.2.1|| !yk ((cQ (bm l m d q.1).1).1.2.2.2.2.2,((dy q.2.2.2.1.1).1.length:Int),q.2.2.2.1.2.1,q.2.2.2.1.2.2,yq k (tw (kS q.2.2.2.1.1)));case true=>exact h2
  cases (hH l (hH l m d (cQ (bm l m d q.1).1).1.2.2.2.1 (dy q.2.2.2.1.1).1 true).1 d (qX q.2.1) (OY ((cQ (bm l m d q.1).1).1.2.2.2.2.2,((dy q.2.2.2.1.1).1.length:Int),q.2.2.2.1.2.1,q.2.2.2.1.2.2,yq k (tw (kS q.2.2.2.1.1))) (yC q.2.1)) true).2 with|false=>exact h2|true=>exact(jE ..).trans h2
 unfold iC;cases !Ff q||(!q.2.2.2.2.1||((k.length:Int) !=16));case true=>rfl
 cases (bm l m d q.1).2.2&&(gY l m d q k (bm l m d q.1).1).2.2 with|true=>exact hs|false=>rfl
theorem Cm (k:Nat)(h:Host):kQ (k+1) h (oO k h):=by unfold oO;cases h.2.2.2.1[k]? with|none=>exact kQ.refl _ _|some x=>exact C5 Rh
theorem Kh (k:Nat)(h:Host)(n:Nat)(hn:1000<=n)(z:cX n dC h):cX (n+0) dC (oO k h):=by unfold oO;cases hx:h.2.2.2.1[k]? with|none=>exact z|some x=>have hf:=Dl (show 128<=n by omega) (l:=h.2.1) (d:=0) (k:=h.2.2.2.2.2.2.2.2.1.2.2.1) z.1 (z.2.2.2.1.2 _ (bn hx));exact L0 z hf.1 hf.2.2.1
def AP (h:Host):Host:=bif fy h then kV oO h.2.2.2.1.length h else h
theorem Yi (hn:1000<=n)(k:BG n h):BG n (AP h):=by unfold AP;cases fy h with|false=>exact k|true=>refine⟨(Bx hn Kh k.z _).mono,?_⟩;simp only[ah];rw[(vh Cm h _).tx];exact k.t
theorem EI (hb:fy h=true):∀i (hi:i<h.2.2.2.1.length),Ff h.2.2.2.1[i]=true:=by simp only[fy,SZ,ae]at hb;exact λi hi=>aG.1 hb.2.2.2.2.2.2.1.1 _ (bk hi)
theorem I3 (h1:k<h.2.2.2.1.length)(h2:k<h.2.2.2.2.2.1.length)(hq:fI f.2.2.1=true)(hb:0<=b/\b<=31:=by omega): ky (f.1,h.2.1,h.2.2.1,h.2.2.2.1.set k f.2,h.2.2.2.2) (k:Int) b=some ((),H0 h k b f):=by
 have h3:k<(Gp h k f).2.2.2.1.length:=by show k<(h.2.2.2.1.set k f.2).length;rw[aC];exact h1
 have e:(Gp h k f).2.2.2.1[k]=f.2:=List.getElem_set_self _;have a:=U2 (Gp h k f) k b h3 h2 (by rw[e];exact hq) hb;rw[e]at a;exact a
theorem U7 (h:Host)(k:BG 900000000 h):tG h=some (AP h):=by
 have Ak:=dR;unfold tG AP;rw[lp h (k.z.mono),ab,tA h (k.sz (by omega)),ab];cases hb:fy h;rfl;have hl:=qB (by simp only[fy,ae]at hb;exact hb.2.2.2.2.1:qU h=true);have hr:=EI hb;simp only[aj,af,ah];refine eG (λi=>((i:Int),kV oO i h)) h.2.2.2.1.length (by omega) (λi nx hi=>?_) (λnx=>?_);have kk:=vh Cm h i;have zz:cX 900000000 dC (kV oO i h):=(Bx (by omega) Kh k.z i).mono;have i1:i<(kV oO i h).2.2.2.1.length:=by rw[kk.rx];exact hi
 have i2:i<(kV oO i h).2.2.2.2.2.1.length:=by rw[kk.vec];omega
 have e1:(kV oO i h).2.2.2.1[i]=h.2.2.2.1[i]:=by have:=kk.rxs i (aU _);rw[al i1,al hi]at this;exact dp this
 rw[show kV oO (i+1) h=oO i (kV oO i h) from rfl];generalize kV oO i h=s at zz i1 i2 e1⊢;have z1:s.1.length<=900000000:=zz.1.1;have z2:s.2.1.length<=900000000:=zz.2.1.1;have Yz:=hr i hi;rw[<-e1]at Yz;have hqd:=ud (AE Yz).1;have hf:=Dl (show 128<=900000000 by omega) (l:=s.2.1) (d:=0) (k:=s.2.2.2.2.2.2.2.2.1.2.2.1) zz.1 (zz.2.2.2.1.2 _ (bk i1));have ev:=I3 (h:=s) (k:=i) (b:=s.2.2.2.1[i].2.1.2.2) (f:=iC s.2.1 s.1 0 s.2.2.2.1[i] s.2.2.2.2.2.2.2.2.1.2.2.1) i1 i2 (hf.2.2.2 Yz).1;simp only[oZ,oO];rw[jU,ah,al i1];simp only[bf i1,bf hi,ab,Hi s.2.1 s.1 0 _ _ (show s.2.1.length<=10^9 by omega) (show s.1.length<=10^9 by omega),az,<-e1,ev];rw[ak];rfl;simp only[oZ];rw[cC,af]
def SH (a b:aN):Bool:=(a.1==b.1)&&((a.2.1==b.2.1)&&((a.2.2.1==b.2.2.1)&&((a.2.2.2.1==b.2.2.2.1)&&((a.2.2.2.2.2.1==b.2.2.2.2.2.1)&&((a.2.2.2.2.2.2.1==b.2.2.2.2.2.2.1)&&((a.2.2.2.2.2.2.2.1==b.2.2.2.2.2.2.2.1)&&((a.2.2.2.2.2.2.2.2.1==b.2.2.2.2.2.2.2.2.1)&&((a.2.2.2.2.2.2.2.2.2.1==b.2.2.2.2.2.2.2.2.2.1)&&((a.2.2.2.2.2.2.2.2.2.2.1==b.2.2.2.2.2.2.2.2.2.2.1)&&((a.2.2.2.2.2.2.2.2.2.2.2.2.1==b.2.2.2.2.2.2.2.2.2.2.2.2.1)&&((a.2.2.2.2.2.2.2.2.2.2.2.2.2.2.1==b.2.2.2.2.2.2.2.2.2.2.2.2.2.2.1))))))))))))
theorem acy (a b:aN):vE a b=some (SH a b):=by unfold vE SH;simp only[beq_self_eq_true,bp,dS]
def ah5 (s:qS)(p:aN):Bool:=(p.2.2.2.2.2.2.2.2.2.2.2.1==tmod (au (s.1.2.2.2.2.2.2.2.2.2.2.2.1+(s.1.2.2.2.2.2.2.2.2.2.2.2.2.2.2.2.length:Int))) 4294967296)&&(p.2.2.2.2.1==tmod (au (s.1.2.2.2.2.1+s.2.2)) 65536)
def XC (s:qS)(p:aN):Bool:=decide (1<=s.2.1)&&(dm s.2.2 1 320&&(decide ((s.1.2.2.2.2.2.2.2.2.2.2.2.2.2.2.2.length:Int)=s.2.1*s.2.2)&&(dm (p.2.2.2.2.2.2.2.2.2.2.2.2.2.2.2.length:Int) 1 s.2.1&&decide ((s.1.2.2.2.2.2.2.2.2.2.2.2.2.2.2.2.length:Int)+(p.2.2.2.2.2.2.2.2.2.2.2.2.2.2.2.length:Int)<=320))))
def ab1 (s:qS)(p:aN):Bool:=dw s.1&&(fV p&&(SH s.1 p&&((p.2.2.2.2.2.2.2.2.1==6)&&((s.1.2.2.2.2.2.2.2.2.2.2.2.2.2.1==16)&&AO p.2.2.2.2.2.2.2.2.2.2.2.2.2.1))))
def G1 (s:qS)(p:aN):Bool:=ab1 s p&&(XC s p&&ah5 s p)
theorem Gj (h:fV p=true)(h6:(p.2.2.2.2.2.2.2.2.1==6)=true):dm p.2.2.2.2.2.2.2.2.2.2.2.2.2.1 0 31=true:=by simp only[fV,dw,ae]at h;exact DD (yu h.1.1) h6
theorem EU (h:fV p=true):p.2.2.2.2.2.2.2.2.2.2.2.2.2.2.2.length<=128:=by simp only[fV,ae,aB]at h;omega
theorem Xe (s:qS)(p:aN):tD s p=some (G1 s p):=by
 unfold tD G1 ab1;rw[oH,ab,Bb,ab,acy,ab];cases hs:dw s.1;rfl;cases hp:fV p;rfl;cases SH s.1 p;rfl;cases h6:p.2.2.2.2.2.2.2.2.1==6 with|false=>simp only[bne,h6];rfl|true=>?_
 cases h16:s.1.2.2.2.2.2.2.2.2.2.2.2.2.2.1==16 with|false=>simp only[bne,h6,h16];rfl|true=>?_
 have hf:=Gj hp h6;have hsl:=BA hs;have Dr:=EU hp;simp only[bne,h6,h16,aj,af,ab,Kb _ hf,bp];cases AO p.2.2.2.2.2.2.2.2.2.2.2.2.2.1;rfl;simp only[aj,af,di,ab,bp];rw[aH (show¬(4294967296:Nat)=0 by omega),aH (show¬(65536:Nat)=0 by omega)];simp only[bL,cF];rw[show((p.2.2.2.2.2.2.2.2.2.2.2.1==tmod (au (s.1.2.2.2.2.2.2.2.2.2.2.2.1+(s.1.2.2.2.2.2.2.2.2.2.2.2.2.2.2.2.length:Int))) 4294967296)&&(p.2.2.2.2.1==tmod (au (s.1.2.2.2.2.1+s.2.2)) 65536))=ah5 s p from rfl];unfold XC;generalize ah5 s p=q;generalize s.1.2.2.2.2.2.2.2.2.2.2.2.2.2.2.2.length=n at hsl⊢;generalize p.2.2.2.2.2.2.2.2.2.2.2.2.2.2.2.length=m at Dr⊢;rw[ak (n:=(n:Int)+(m:Int))];by_cases h1:s.2.1<1;rw[ar h1,aq (show¬1<=s.2.1 by omega)];rfl;rw[aq h1,ar (show 1<=s.2.1 by omega)];cases h2:dm s.2.2 1 320;rfl;have Qw:=bg.1 h2;simp only[aj,af,ab,bp];rw[lZ,lZ];have e1:tmod (n:Int) s.2.2=(n:Int)%s.2.2:=df (by omega);have e2:Int.tdiv (n:Int) s.2.2=(n:Int)/s.2.2:=Int.tdiv_eq_ediv_of_nonneg (by omega);have hdm:=Int.emod_add_mul_ediv (n:Int) s.2.2;have hq0:0<=(n:Int)/s.2.2:=Int.ediv_nonneg (by omega) (by omega);have hq1:(n:Int)/s.2.2<=(n:Int):=Int.ediv_le_self _ (by omega);rw[e1,e2,ak (n:=(n:Int)/s.2.2)];by_cases h3:(n:Int)=s.2.1*s.2.2;have h4:(n:Int)%s.2.2=0:=by rw[h3];exact Int.mul_emod_left ..
 have h5:(n:Int)/s.2.2=s.2.1:=by rw[h3];exact Int.mul_ediv_cancel _ (by omega)
 rw[h4,h5,ar h3];simp only[beq_self_eq_true,aj,af,ab,bp];cases dm (m:Int) 1 s.2.1;rfl;cases decide ((n:Int)+(m:Int)<=320)<;>rfl;rw[aq h3];cases h4:(n:Int)%s.2.2==0 with
 |false=>rfl
 |true=>
  have h4':(n:Int)%s.2.2=0:=by simpa using h4
  have h5:((n:Int)/s.2.2==s.2.1)=false:=by rw[cI];intro h5;rw[h4',h5]at hdm;exact h3 (by rw[Int.mul_comm];omega)
  simp only[aj,af,h5,bF,ab,ah];rfl
def D7 (s:qS)(p:aN):qS:=bif G1 s p then((s.1.1,s.1.2.1,s.1.2.2.1,s.1.2.2.2.1,s.1.2.2.2.2.1,s.1.2.2.2.2.2.1,s.1.2.2.2.2.2.2.1,s.1.2.2.2.2.2.2.2.1,s.1.2.2.2.2.2.2.2.2.1,s.1.2.2.2.2.2.2.2.2.2.1,s.1.2.2.2.2.2.2.2.2.2.2.1,s.1.2.2.2.2.2.2.2.2.2.2.2.1,s.1.2.2.2.2.2.2.2.2.2.2.2.2.1,p.2.2.2.2.2.2.2.2.2.2.2.2.2.1,s.1.2.2.2.2.2.2.2.2.2.2.2.2.2.2.1,s.1.2.2.2.2.2.2.2.2.2.2.2.2.2.2.2++p.2.2.2.2.2.2.2.2.2.2.2.2.2.2.2),s.2.1,au (s.2.2+1)) else s
theorem Ox {s:qS}(h:G1 s p=true):s.1.2.2.2.2.2.2.2.2.2.2.2.2.2.2.2.length+p.2.2.2.2.2.2.2.2.2.2.2.2.2.2.2.length<=320:=by simp only[G1,XC,ae,aB]at h;have:=h.2.1.2.2.2.2;omega
theorem acu (s:qS)(p:aN):Dw s p=some (D7 s p):=by unfold Dw D7;rw[Xe,ab];cases h:G1 s p;rfl;have:=Ox h;simp only[aj,af,ah];rw[aP]
def lX (p:aN):qS:=(p,(p.2.2.2.2.2.2.2.2.2.2.2.2.2.2.2.length:Int),1)
theorem Vf (p:aN):CD p=some (lX p):=rfl
def Kr (q:bR)(s:qS):bR:=(q.1,q.2.1,q.2.2.1,s,true,q.2.2.2.2.2)
def ld (l:aw aA)(m:bM)(d:Int)(q:bR)(k:Bytes)(p:aN)(c:Bool):bM×bR:=
 bif !Ff q||(!fV p||((k.length:Int) !=16)) then(m,q) else
 bif c&&(q.2.2.2.2.1&&G1 q.2.2.2.1 p) then(m,q.1,q.2.1,q.2.2.1,D7 q.2.2.2.1 p,q.2.2.2.2) else
 bif c then((iC l m d q k).1,Kr (iC l m d q k).2 (lX p)) else iC l (iC l m d q k).1 d (Kr (iC l m d q k).2 (lX p)) k
theorem U3 (l:aw aA)(m:bM)(d:Int)(q:bR)(k:Bytes)(p:aN)(c:Bool)(hl:l.length<=10^9)(hm:m.length<=10^9):nD l m d q k p c=some (ld l m d q k p c):=by
 unfold nD ld Kr;simp only[PB,Bb,ab,eS m (show m.length<=1073741824 by omega),Xe,acu,Hi l m d q k hl hm,Vf,Hi l (iC l m d q k).1 d _ k hl (show(iC l m d q k).1.length<=10^9 by rw[Rh];exact hm)];cases Ff q;rfl;cases fV p;rfl;cases (k.length:Int) !=16;case true=>rfl
 cases c;rfl;cases q.2.2.2.2.1;rfl;cases G1 q.2.2.2.1 p<;>rfl
theorem Ri {k:Bytes}(h:fI q.2.1=true):fI (iC l m d q k).2.2.1=true:=by
 unfold iC;cases !Ff q||(!q.2.2.2.2.1||((k.length:Int) !=16));case true=>exact h
 have hs:fI (gY l m d q k (bm l m d q.1).1).2.1=true:=by
  unfold gY;cases !(cQ (bm l m d q.1).1).2||(((cQ (bm l m d q.1).1).1.1 !=3)||decide ((cQ (bm l m d q.1).1).1.2.2.1<((dy q.2.2.2.1.1).1.length:Int)));case true=>exact h
  cases (hH l m d (cQ (bm l m d q.1).1).1.2.2.2.1 (dy q.2.2.2.1.1).1 true).2;exact h;exact(Xt h).1
 cases (bm l m d q.1).2.2&&(gY l m d q k (bm l m d q.1).1).2.2 with|true=>exact hs|false=>exact h
theorem Yr {s:qS}(h:s.1.2.2.2.2.2.2.2.2.2.2.2.2.2.2.2.length<=n):cX n dI (Kr q s):=⟨⟨cv,cv,cv,cv⟩,⟨cv,cv,cv⟩,⟨cv,cv,cv⟩,⟨⟨cv,cv,cv,cv,cv,cv,cv,cv,cv,cv,cv,cv,cv,cv,cv,h⟩,cv,cv⟩,cv,cv⟩
theorem JJ (hn:1000<=n){k:Bytes}{c:Bool}(z:cX n (.sl .str) m)(zq:cX n dI q)(hq:fI q.2.1=true): cX n (.sl .str) (ld l m d q k p c).1/\(ld l m d q k p c).1.length=m.length/\cX n dI (ld l m d q k p c).2/\fI (ld l m d q k p c).2.2.1=true:=by
 unfold ld;cases hc: !Ff q||(!fV p||((k.length:Int) !=16));case true=>exact⟨z,rfl,zq,hq⟩
 simp only[cg,dz]at hc;have hp:=EU hc.2.1;cases hj:c&&(q.2.2.2.2.1&&G1 q.2.2.2.1 p)with|true=>simp only[ae]at hj;have:=Ox hj.2.2;refine⟨z,rfl,⟨⟨cv,cv,cv,cv⟩,⟨cv,cv,cv⟩,⟨cv,cv,cv⟩,⟨?_,cv,cv⟩,cv,cv⟩,hq⟩;refine⟨cv,cv,cv,cv,cv,cv,cv,cv,cv,cv,cv,cv,cv,cv,cv,?_⟩;unfold D7;rw[hj.2.2];show List.length (q.2.2.2.1.1.2.2.2.2.2.2.2.2.2.2.2.2.2.2.2++p.2.2.2.2.2.2.2.2.2.2.2.2.2.2.2)<=n;rw[ai];omega|false=>have hf:=Dl (show 128<=n by omega) (l:=l) (d:=d) (k:=k) z zq;have hfq:=Ri (l:=l) (m:=m) (d:=d) (k:=k) hq;have hh:cX n dI (Kr (iC l m d q k).2 (lX p)):=Yr (by show p.2.2.2.2.2.2.2.2.2.2.2.2.2.2.2.length<=n;omega);cases c with|true=>exact⟨hf.1,hf.2.1,hh,hfq⟩|false=>have AW:=Dl (show 128<=n by omega) (l:=l) (d:=d) (k:=k) hf.1 hh;exact⟨AW.1,AW.2.1.trans hf.2.1,AW.2.2.1,Ri (q:=Kr (iC l m d q k).2 (lX p)) hfq⟩
theorem S1 {r:iA}(h:zB r=true):0<=r.2.2.2.2.2.2.2.2:=by
 by_cases h0:0<=r.2.2.2.2.2.2.2.2;exact h0;exfalso;have e:∀b:Int,dm r.2.2.2.2.2.2.2.2 0 b=false:=λb=>by rw[Bool.eq_false_iff];intro hc;have:=bg.1 hc;omega
 have e1:(r.2.2.2.2.2.2.2.2==0)=false:=by rw[cI];omega
 revert h;unfold zB;have z:∀c:Bool,(bif c then false else false)=false:=by intro c;cases c<;>rfl
 simp only[lK,eu,ab,bL,e,e1,fB,z,af];intro h;cases h
theorem aax {s:cS}{q:Int}:uC s q p= -1\/∃n:Nat,uC s q p=(n:Int)/\(n:Int)<q:=by
 unfold uC;cases hb: !fu s q|| !dw p;case true=>exact .inl rfl
 simp only[cg,dz]at hb;have hs:=hb.1;simp only[fu,ae]at hs;simp only[af];cases hd:decide (DU s.1 p>=0)with
 |true=>obtain⟨n,hn,hl⟩:=Ra s.1 p (bl hd);simp only[ah,hn,az,cL hl];cases s.1[n].2.2.2.2.2.2.2.1==1 with|true=>exact .inl rfl|false=>have h1:=aG.1 hs.1.2 _ (bk hl);have h2:=hs.1.1.1.1;simp only[wT,ae]at h2;have h3:=S1 (aG.1 h2.1 _ (bk hl));simp only[aK,cP]at h1;exact .inr ⟨s.1[n].2.2.2.2.2.2.2.2.toNat,by simp only[af];omega,by omega⟩
 |false=>
  simp only[af];cases Qy:decide (findF s.2.1 (kS p)>=0)with
  |true=>obtain⟨n,hn,hl⟩:=Q9 s.2.1 (kS p) (bl Qy);simp only[ah,hn,az,cL hl];have h1:=aG.1 hs.2 _ (bk hl);have h2:=hs.1.1.1.2;simp only[nT,ae,aS]at h2;have h3:=aG.1 h2.2 n (bT.2 (by omega));unfold mZ N5 at h3;rw[uY hl]at h3;simp only[ae,bg]at h3;simp only[aK,cP]at h1;exact .inr ⟨s.2.1[n].2.2.toNat,by omega,by omega⟩
  |false=>
   simp only[af];unfold Jz;cases hc: !qO s.2.2 q||decide (AN s.2.2 (kS p)<0);case true=>exact .inl rfl
   simp only[cg,dz,cP]at hc;obtain⟨n,hn,hl⟩:=M5 s.2.2 (kS p) hc.2;have h1:=hc.1;simp only[qO,ae]at h1;have h2:=bg.1 (aG.1 h1.2 _ (bk hl));simp only[af,hn,az,cL hl];exact .inr ⟨s.2.2.2[n].toNat,by omega,by omega⟩
def zK (h:Host)(a b c d:Int):Host:=(h.1,h.2.1,h.2.2.1,h.2.2.2.1,h.2.2.2.2.1,h.2.2.2.2.2.1,h.2.2.2.2.2.2.1,h.2.2.2.2.2.2.2.1,h.2.2.2.2.2.2.2.2.1,h.2.2.2.2.2.2.2.2.2.1,h.2.2.2.2.2.2.2.2.2.2.1,h.2.2.2.2.2.2.2.2.2.2.2.1,h.2.2.2.2.2.2.2.2.2.2.2.2.1,h.2.2.2.2.2.2.2.2.2.2.2.2.2.1,au (h.2.2.2.2.2.2.2.2.2.2.2.2.2.2.1+1),a,b,c,d)
def pX (h:Host)(x:Bytes):Host:=
 bif !fy h then h else
 bif (rG x).2 !=0 then zK h (au (h.2.2.2.2.2.2.2.2.2.2.2.2.2.2.2.1+1)) h.2.2.2.2.2.2.2.2.2.2.2.2.2.2.2.2.1 h.2.2.2.2.2.2.2.2.2.2.2.2.2.2.2.2.2.1 h.2.2.2.2.2.2.2.2.2.2.2.2.2.2.2.2.2.2 else
 bif !yg h.2.2.2.2.2.2.2.1 (rG x).1 then zK h h.2.2.2.2.2.2.2.2.2.2.2.2.2.2.2.1 (au (h.2.2.2.2.2.2.2.2.2.2.2.2.2.2.2.2.1+1)) h.2.2.2.2.2.2.2.2.2.2.2.2.2.2.2.2.2.1 h.2.2.2.2.2.2.2.2.2.2.2.2.2.2.2.2.2.2 else
 bif uC h.2.2.2.2.2.2.2.2.1 (h.2.2.2.1.length:Int) (rG x).1== -1 then zK h h.2.2.2.2.2.2.2.2.2.2.2.2.2.2.2.1 h.2.2.2.2.2.2.2.2.2.2.2.2.2.2.2.2.1 (au (h.2.2.2.2.2.2.2.2.2.2.2.2.2.2.2.2.2.1+1)) h.2.2.2.2.2.2.2.2.2.2.2.2.2.2.2.2.2.2 else
 match h.2.2.2.1[(uC h.2.2.2.2.2.2.2.2.1 (h.2.2.2.1.length:Int) (rG x).1).toNat]? with
 |some q=>H0 (zK h h.2.2.2.2.2.2.2.2.2.2.2.2.2.2.2.1 h.2.2.2.2.2.2.2.2.2.2.2.2.2.2.2.2.1 h.2.2.2.2.2.2.2.2.2.2.2.2.2.2.2.2.2.1 (au (h.2.2.2.2.2.2.2.2.2.2.2.2.2.2.2.2.2.2+1))) (uC h.2.2.2.2.2.2.2.2.1 (h.2.2.2.1.length:Int) (rG x).1).toNat q.2.1.2.2 (ld h.2.1 h.1 0 q h.2.2.2.2.2.2.2.2.1.2.2.1 (rG x).1 h.2.2.2.2.2.2.2.2.2.2.1)
 |none=>h
theorem PA (h:Host)(x:Bytes)(k:BG 900000000 h)(hx:x.length<=10^9):qj h x=some (pX h x):=by
 have z:=k.z;have z1:h.1.length<=900000000:=z.1.1;have z2:h.2.1.length<=900000000:=z.2.1.1;have zf:h.2.2.2.2.2.2.2.1.2.2.length<=900000000:=z.2.2.2.2.2.2.2.1.2.2.1;have s1:h.2.2.2.2.2.2.2.2.1.1.length<=900000000:=z.2.2.2.2.2.2.2.2.1.1.1;have s2:h.2.2.2.2.2.2.2.2.1.2.1.length<=900000000:=z.2.2.2.2.2.2.2.2.1.2.1.1;have s3:h.2.2.2.2.2.2.2.2.1.2.2.2.length<=900000000:=z.2.2.2.2.2.2.2.2.1.2.2.2.1;unfold qj pX;rw[lp h (z.mono),ab,tA h (k.sz (by omega)),ab];cases hb:fy h;rfl;have hl:=qB (by simp only[fy,ae]at hb;exact hb.2.2.2.2.1:qU h=true);have hr:=EI hb;simp only[aj,af,YO x hx,ab,RN h.2.2.2.2.2.2.2.1 _ (show h.2.2.2.2.2.2.2.1.2.2.length<=10^9 by omega),YW h.2.2.2.2.2.2.2.2.1 _ _ (show h.2.2.2.2.2.2.2.2.1.1.length<=10^9 by omega) (show h.2.2.2.2.2.2.2.2.1.2.1.length<=10^9 by omega) (show h.2.2.2.2.2.2.2.2.1.2.2.2.length<=10^9 by omega)];generalize rG x=f;cases f.2 !=0;case true=>rfl
 cases yg h.2.2.2.2.2.2.2.1 f.1;rfl;simp only[aj,af];have mi:=aax (s:=h.2.2.2.2.2.2.2.2.1) (q:=(h.2.2.2.1.length:Int)) (p:=f.1);generalize uC h.2.2.2.2.2.2.2.2.1 (h.2.2.2.1.length:Int) f.1=r at mi⊢;rcases mi with rfl|⟨n,rfl,hn⟩;rfl;have i1:n<h.2.2.2.1.length:=by omega
 have i2:n<h.2.2.2.2.2.1.length:=by omega
 have hq:=(AE (hr n i1)).1;have hqi:=ud hq;have ha:=JJ (show 1000<=900000000 by omega) (l:=h.2.1) (d:=0) (k:=h.2.2.2.2.2.2.2.2.1.2.2.1) (p:=f.1) (c:=h.2.2.2.2.2.2.2.2.2.2.1) z.1 (z.2.2.2.1.2 _ (bk i1)) hq;have ev:=I3 (h:=zK h h.2.2.2.2.2.2.2.2.2.2.2.2.2.2.2.1 h.2.2.2.2.2.2.2.2.2.2.2.2.2.2.2.2.1 h.2.2.2.2.2.2.2.2.2.2.2.2.2.2.2.2.2.1 (au (h.2.2.2.2.2.2.2.2.2.2.2.2.2.2.2.2.2.2+1))) (k:=n) (b:=h.2.2.2.1[n].2.1.2.2) (f:=ld h.2.1 h.1 0 h.2.2.2.1[n] h.2.2.2.2.2.2.2.2.1.2.2.1 f.1 h.2.2.2.2.2.2.2.2.2.2.1) i1 i2 ha.2.2.2;rw[show((n:Int)== -1)=false from by rw[cI];omega,az,al i1];simp only[af,bf i1,ab,U3 h.2.1 h.1 0 _ _ _ _ (show h.2.1.length<=10^9 by omega) (show h.1.length<=10^9 by omega)];rw[show(ky ((ld h.2.1 h.1 0 h.2.2.2.1[n] h.2.2.2.2.2.2.2.2.1.2.2.1 f.1 h.2.2.2.2.2.2.2.2.2.2.1).1,h.2.1,h.2.2.1,h.2.2.2.1.set n (ld h.2.1 h.1 0 h.2.2.2.1[n] h.2.2.2.2.2.2.2.2.1.2.2.1 f.1 h.2.2.2.2.2.2.2.2.2.2.1).2,h.2.2.2.2.1,h.2.2.2.2.2.1,h.2.2.2.2.2.2.1,h.2.2.2.2.2.2.2.1,h.2.2.2.2.2.2.2.2.1,h.2.2.2.2.2.2.2.2.2.1,h.2.2.2.2.2.2.2.2.2.2.1,h.2.2.2.2.2.2.2.2.2.2.2.1,h.2.2.2.2.2.2.2.2.2.2.2.2.1,h.2.2.2.2.2.2.2.2.2.2.2.2.2.1,au (h.2.2.2.2.2.2.2.2.2.2.2.2.2.2.1+1),h.2.2.2.2.2.2.2.2.2.2.2.2.2.2.2.1,h.2.2.2.2.2.2.2.2.2.2.2.2.2.2.2.2.1,h.2.2.2.2.2.2.2.2.2.2.2.2.2.2.2.2.2.1,au (h.2.2.2.2.2.2.2.2.2.2.2.2.2.2.2.2.2.2+1)) (n:Int) h.2.2.2.1[n].2.1.2.2)=_ from ev,ab]
theorem SW (hn:1000<=n)(x:Bytes)(k:BG n h):BG n (pX h x)/\(pX h x).2.2.1=h.2.2.1/\(pX h x).2.2.2.2.1.length=h.2.2.2.2.1.length:=by
 have z:=k.z;have zc:∀a b c d,BG n (zK h a b c d):=λa b c d=>⟨⟨z.1,z.2.1,z.2.2.1,z.2.2.2.1,z.2.2.2.2.1,z.2.2.2.2.2.1,z.2.2.2.2.2.2.1,z.2.2.2.2.2.2.2.1,z.2.2.2.2.2.2.2.2.1,z.2.2.2.2.2.2.2.2.2.1,z.2.2.2.2.2.2.2.2.2.2.1,z.2.2.2.2.2.2.2.2.2.2.2.1,z.2.2.2.2.2.2.2.2.2.2.2.2.1,z.2.2.2.2.2.2.2.2.2.2.2.2.2.1,cv,cv,cv,cv,cv⟩,k.t⟩
 unfold pX;cases hb:fy h;exact⟨k,rfl,rfl⟩;have hr:=EI hb;generalize rG x=f;cases f.2 !=0;case true=>exact⟨zc ..,rfl,rfl⟩
 cases yg h.2.2.2.2.2.2.2.1 f.1;exact⟨zc ..,rfl,rfl⟩;simp only[aj,af];generalize uC h.2.2.2.2.2.2.2.2.1 (h.2.2.2.1.length:Int) f.1=r;cases r== -1;case true=>exact⟨zc ..,rfl,rfl⟩
 simp only[af];rcases hq:h.2.2.2.1[r.toNat]? with _|q;exact⟨k,rfl,rfl⟩;obtain⟨hi,hqe⟩:=aF.1 hq;have hqd:=(AE (hr _ hi)).1;rw[hqe]at hqd;have ha:=JJ hn (l:=h.2.1) (d:=0) (k:=h.2.2.2.2.2.2.2.2.1.2.2.1) (p:=f.1) (c:=h.2.2.2.2.2.2.2.2.2.2.1) z.1 (z.2.2.2.1.2 _ (bn hq)) hqd;have zc':=zc h.2.2.2.2.2.2.2.2.2.2.2.2.2.2.2.1 h.2.2.2.2.2.2.2.2.2.2.2.2.2.2.2.2.1 h.2.2.2.2.2.2.2.2.2.2.2.2.2.2.2.2.2.1 (au (h.2.2.2.2.2.2.2.2.2.2.2.2.2.2.2.2.2.2+1));have kk:=C5 (h:=zK h h.2.2.2.2.2.2.2.2.2.2.2.2.2.2.2.1 h.2.2.2.2.2.2.2.2.2.2.2.2.2.2.2.2.1 h.2.2.2.2.2.2.2.2.2.2.2.2.2.2.2.2.2.1 (au (h.2.2.2.2.2.2.2.2.2.2.2.2.2.2.2.2.2.2+1))) (k:=r.toNat) (b:=q.2.1.2.2) (f:=ld h.2.1 h.1 0 q h.2.2.2.2.2.2.2.2.1.2.2.1 f.1 h.2.2.2.2.2.2.2.2.2.2.1) ha.2.1;exact⟨⟨L0 zc'.z ha.1 ha.2.2.1,by rw[kk.tx];exact k.t⟩,kk.tx,kk.pl⟩
theorem Xr (l:aw aA)(m:bM)(d:Int)(rx:bR)(pl:cR)(st:aw Stream)(c:Int):(jn l m d rx pl st c).1.length=m.length:=by unfold jn;cases !Ff rx||(!dx pl|| !dm c 0 1000)with|true=>rfl|false=>exact W3 ..
def Bu (b:Int)(k:Nat)(s:Int×Host):Int×Host:=
 match s.2.2.2.2.2.2.1[k]?,s.2.2.2.2.2.2.2.1[k]?,s.2.2.2.2.1[k]?,s.2.2.2.2.2.1[k]? with
 |some v,some p,some x,some pl=>
  bif p||(BT v).2 then
   (au (s.1+(jn s.2.2.1 s.2.1 0 x pl s.2.2.2.2.2.2.2.2.2.2.1 b).2.2.2.2),
    (jn s.2.2.1 s.2.1 0 x pl s.2.2.2.2.2.2.2.2.2.2.1 b).1,s.2.2.1,s.2.2.2.1,s.2.2.2.2.1.set k (jn s.2.2.1 s.2.1 0 x pl s.2.2.2.2.2.2.2.2.2.2.1 b).2.1,s.2.2.2.2.2.1.set k (jn s.2.2.1 s.2.1 0 x pl s.2.2.2.2.2.2.2.2.2.2.1 b).2.2.1,
    s.2.2.2.2.2.2.1.set k (bif decide ((jn s.2.2.1 s.2.1 0 x pl s.2.2.2.2.2.2.2.2.2.2.1 b).2.2.2.2<b) then GN (BT v).1 else(BT v).1),
    s.2.2.2.2.2.2.2.1.set k (!decide ((jn s.2.2.1 s.2.1 0 x pl s.2.2.2.2.2.2.2.2.2.2.1 b).2.2.2.2<b)),s.2.2.2.2.2.2.2.2.1,s.2.2.2.2.2.2.2.2.2.1,(jn s.2.2.1 s.2.1 0 x pl s.2.2.2.2.2.2.2.2.2.2.1 b).2.2.2.1,s.2.2.2.2.2.2.2.2.2.2.2)
  else(s.1,s.2.1,s.2.2.1,s.2.2.2.1,s.2.2.2.2.1,s.2.2.2.2.2.1,s.2.2.2.2.2.2.1.set k (BT v).1,s.2.2.2.2.2.2.2.1.set k false,s.2.2.2.2.2.2.2.2)
 |_,_,_,_=>s
theorem S7 (b:Int)(k:Nat)(s:Int×Host):kQ (k+1) s.2 (Bu b k s).2:=by unfold Bu;rcases s.2.2.2.2.2.2.1[k]? with _|v;exact kQ.refl _ _;rcases s.2.2.2.2.2.2.2.1[k]? with _|p;exact kQ.refl _ _;rcases s.2.2.2.2.1[k]? with _|x;exact kQ.refl _ _;rcases s.2.2.2.2.2.1[k]? with _|pl;exact kQ.refl _ _;simp only;cases p||(BT v).2 with|true=>exact⟨Xr ..,rfl,rfl,aC ..,λj hj=>aO (by omega),aC ..,aC ..,λj hj=>aO (by omega),aC ..,rfl,rfl⟩|false=>exact⟨rfl,rfl,rfl,rfl,λ_ _=>rfl,rfl,aC ..,λj hj=>aO (by omega),aC ..,rfl,rfl⟩
theorem V8 (b:Int)(k:Nat)(s:Int×Host)(hn:1000<=n)(z:cX n dC s.2):cX (n+322000) dC (Bu b k s).2:=by have z':cX (n+322000) dC s.2:=z.mono;unfold Bu;rcases s.2.2.2.2.2.2.1[k]? with _|v;exact z';rcases s.2.2.2.2.2.2.2.1[k]? with _|p;exact z';rcases h1:s.2.2.2.2.1[k]? with _|x;exact z';rcases h2:s.2.2.2.2.2.1[k]? with _|pl;exact z';simp only;cases p||(BT v).2 with|true=>have hp:=NZ (by omega) (l:=s.2.2.1) (d:=0) b z.1 (z.2.2.2.1.2 _ (bn h1)) (z.2.2.2.2.1.2 _ (bn h2)) z.2.2.2.2.2.2.2.2.2.1;exact⟨hp.1.mono,z'.2.1,z'.2.2.1,og z'.2.2.2.1 (hp.2.1.mono),og z'.2.2.2.2.1 hp.2.2.1,JD z'.2.2.2.2.2.1,og z'.2.2.2.2.2.2.1 trivial,z'.2.2.2.2.2.2.2.1,z'.2.2.2.2.2.2.2.2.1,hp.2.2.2.1,z'.2.2.2.2.2.2.2.2.2.2⟩|false=>exact⟨z'.1,z'.2.1,z'.2.2.1,z'.2.2.2.1,z'.2.2.2.2.1,JD z'.2.2.2.2.2.1,og z'.2.2.2.2.2.2.1 trivial,z'.2.2.2.2.2.2.2⟩
def rb (b:Int):Nat->Host->Int×Host
 |0,h=>(0,h)
 |k+1,h=>Bu b k (rb b k h)
theorem DE (b:Int)(h:Host):∀k,kQ k h (rb b k h).2
 |0=>kQ.refl 0 h
 |k+1=>((DE b h k).up (by omega)).trans (S7 b k _)
theorem EW (b:Int)(hn:1000<=n)(z:cX n dC h):∀k,cX (n+322000*k) dC (rb b k h).2
 |0=>z
 |k+1=>(V8 b k _ (by omega) (EW b hn z k)).mono
def uf (h:Host)(b:Int):Host×Int:=bif fy h&&dm b 1 1000 then((rb b h.2.2.2.1.length h).2,(rb b h.2.2.2.1.length h).1) else(h,0)
theorem S8 (hn:1000<=n)(b:Int)(k:BG n h):BG (n+644000) (uf h b).1:=by unfold uf;cases hb:fy h&&dm b 1 1000 with|false=>exact k.mono|true=>simp only[ae]at hb;have hl:=qB (by have:=hb.1;simp only[fy,ae]at this;exact this.2.2.2.2.1:qU h=true);refine⟨(EW b hn k.z _).mono,?_⟩;simp only[ah];rw[(DE b h _).tx];exact bw k.t (by omega)
theorem R0 (h:Host)(b:Int)(k:BG 400000000 h):ql h b=some (uf h b):=by
 have Ak:=dR;unfold ql uf;rw[lp h (k.z.mono),ab,tA h (k.sz (by omega)),ab,di];cases hb:fy h;rfl;cases hi0:dm b 1 1000;rfl;have hl:=qB (by simp only[fy,ae]at hb;exact hb.2.2.2.2.1:qU h=true);simp only[aj,af,ab,eY,ah];refine eG (λi=>((rb b i h).1,(i:Int),(rb b i h).2)) h.2.2.2.1.length (by omega) (λi nx hi=>?_) (λnx=>?_);have kk:=DE b h i;have zz:cX 500000000 dC (rb b i h).2:=(EW b (by omega) k.z i).mono;have i1:i<(rb b i h).2.2.2.2.1.length:=by rw[kk.rx];exact hi
 have i2:i<(rb b i h).2.2.2.2.2.1.length:=by rw[kk.pl];omega
 have i3:i<(rb b i h).2.2.2.2.2.2.1.length:=by rw[kk.vec];omega
 have i4:i<(rb b i h).2.2.2.2.2.2.2.1.length:=by rw[kk.VT];omega
 rw[show rb b (i+1) h=Bu b i (rb b i h) from rfl];generalize rb b i h=s at zz i1 i2 i3 i4⊢;have gp:∀(V:aw Vector)(P:aw Bool),jX (s.2.1,s.2.2.1,s.2.2.2.1,s.2.2.2.2.1,s.2.2.2.2.2.1,V,P,s.2.2.2.2.2.2.2.2) (i:Int) b=some ((jn s.2.2.1 s.2.1 0 s.2.2.2.2.1[i] s.2.2.2.2.2.1[i] s.2.2.2.2.2.2.2.2.2.2.1 b).2.2.2.2,(jn s.2.2.1 s.2.1 0 s.2.2.2.2.1[i] s.2.2.2.2.2.1[i] s.2.2.2.2.2.2.2.2.2.2.1 b).1,s.2.2.1,s.2.2.2.1,s.2.2.2.2.1.set i (jn s.2.2.1 s.2.1 0 s.2.2.2.2.1[i] s.2.2.2.2.2.1[i] s.2.2.2.2.2.2.2.2.2.2.1 b).2.1,s.2.2.2.2.2.1.set i (jn s.2.2.1 s.2.1 0 s.2.2.2.2.1[i] s.2.2.2.2.2.1[i] s.2.2.2.2.2.2.2.2.2.2.1 b).2.2.1,V,P,s.2.2.2.2.2.2.2.2.1,s.2.2.2.2.2.2.2.2.2.1,(jn s.2.2.1 s.2.1 0 s.2.2.2.2.1[i] s.2.2.2.2.2.1[i] s.2.2.2.2.2.2.2.2.2.2.1 b).2.2.2.1,s.2.2.2.2.2.2.2.2.2.2.2):=by intro V P;have Dr:s.2.2.2.2.2.1[i].2.2.2.length<=500000000:=(zz.2.2.2.2.1.2 _ (bk i2)).2.2.2.1;have hm:s.2.1.length<=500000000:=zz.1.1;have hp:s.2.2.1.length<=500000000:=zz.2.1.1;unfold jX;simp only[bf i1,bf i2,ab,RX s.2.2.1 s.2.1 0 _ _ _ b (show s.2.2.1.length<=10^9 by omega) (show s.2.1.length<=10^9 by omega) Dr zz.2.2.2.2.2.2.2.2.2.1,az]
 have Cy:∀V:Vector,s.2.2.2.2.2.2.1.set i V=s.2.2.2.2.2.2.1.set i V:=λ_=>rfl;unfold Bu;rw[al i1,al i2,al i3,al i4];simp only[mj];rw[jU,ah];simp only[bf i3,bf i4,ab,YZ,az,gp];generalize BT s.2.2.2.2.2.2.1[i]=w;generalize jn s.2.2.1 s.2.1 0 s.2.2.2.2.1[i] s.2.2.2.2.2.1[i] s.2.2.2.2.2.2.2.2.2.2.1 b=pr;have i5:∀V:Vector,i<(s.2.2.2.2.2.2.1.set i V).length:=λV=>by rw[aC];exact i3
 have i6:∀q:Bool,i<(s.2.2.2.2.2.2.2.1.set i q).length:=λq=>by rw[aC];exact i4
 have e5:∀V:Vector,idx (s.2.2.2.2.2.2.1.set i V) (i:Int)=some V:=λV=>by rw[bf (i5 V),List.getElem_set_self]
 have e6:∀q:Bool,idx (s.2.2.2.2.2.2.2.1.set i q) (i:Int)=some q:=λq=>by rw[bf (i6 q),List.getElem_set_self]
 rw[ak (n:=(i:Int)+1)];have zk:s.2.2.2.2.2.2.2.1.set i (s.2.2.2.2.2.2.2.1[i])=s.2.2.2.2.2.2.2.1:=List.set_getElem_self ..;generalize hp:s.2.2.2.2.2.2.2.1[i]=p at zk⊢;cases hw:w.2 with
 |true=>simp only[jt,ah,e6,e5,ab,aj,af,KM,List.set_set];cases decide (pr.2.2.2.2<b)<;>rfl
 |false=>
  simp only[Bool.or_false,af];cases p with
  |false=>rw[zk];rfl
  |true=>
   have e7:idx s.2.2.2.2.2.2.2.1 (i:Int)=some true:=by rw[bf i4,hp]
   simp only[ah,aj,af,e5,e7,ab,KM,List.set_set];cases decide (pr.2.2.2.2<b)with|true=>rfl|false=>simp only[af,bF,zk];rfl
 simp only[mj];rw[cC,af]
theorem ad0 (hn:1000<=n)(k:BG n h):BG n (C1 h):=by have:=adZ hn k.z;exact⟨this.1,by rw[this.2];exact k.t⟩
def txt (_:Int):Bytes:=[]
def E8:(t:CT)->t.D->Nat
 | .int _,_=>1
 | .bool,_=>1
 | .str,_=>1
 | .sl e,xs=>(xs.map (E8 e)).sum
 | .pair a b,x=>E8 a x.1+E8 b x.2
def mkL (f:α->Int->α)(c:α->Nat):aw α->Int->aw α
 |[],_=>[]
 |x::xs,k=>f x k::mkL f c xs (k+c x)
def mk:(t:CT)->t.D->Int->t.D
 | .int _,_,k=>k
 | .bool,_,k=>tmod k 3==0
 | .str,_,k=>txt k
 | .sl e,xs,k=>mkL (mk e) (E8 e) xs k
 | .pair a b,x,k=>(mk a x.1 k,mk b x.2 (k+E8 a x.1))
structure Few (h:Host):Prop where
 pl:h.2.2.2.2.1.length<=2
 w:h.2.2.1.2.2.1.length<=16
theorem agO (hb:fy h=true):Few h:=by have hl:=qB (by have:=hb;simp only[fy,ae]at this;exact this.2.2.2.2.1:qU h=true);have ht:=E3 (t:=h.2.2.1) (by simp only[fy,ae]at hb;exact hb.2.2.1);exact⟨by omega,ht⟩
theorem BG.tx (k:BG n h)(hn:n<=10^9):aeg h.2.2.1:=
 have z:cX 1000000000 dC h:=k.z.mono hn
 ⟨z.2.2.1.2.1.2.2.2.1,z.2.2.1.2.2.1.1,λx hx=>(z.2.2.1.2.2.1.2 x hx).2.2.1⟩
def Ef (h:Host)(p:aN)(c z:Int):Host×Bool:=
 bif fy h then(((wU h.2.1 h.1 0 h.2.2.1 p c z).1,h.2.1,(wU h.2.1 h.1 0 h.2.2.1 p c z).2.1,h.2.2.2),(wU h.2.1 h.1 0 h.2.2.1 p c z).2.2) else(h,false)
theorem YR (h:Host)(p:aN)(c z:Int)(k:BG 900000000 h):vB h p c z=some (Ef h p c z):=by have zz:cX 1000000000 dC h:=k.z.mono;unfold vB Ef;rw[lp h zz,ab,tA h (k.sz (by omega)),ab];cases fy h;rfl;simp only[aj,af,ah,YS _ _ _ _ _ _ _ zz.2.1.1 zz.1.1 (k.tx (by omega)) zz.2.2.1.2.2.1.1 (bw k.t (by omega)),ab]
theorem M9 (hn:128<=n)(l:aw aA)(d:Int)(p:cR)(z:Nat):∀(q:cw)(s:Bytes)(m:bM)(a:aw gu){x},cX n (.sl .str) m->wh l d p z q s m a=some x->cX n (.sl .str) x.2
 |[],s,m,a,x,hm,h=>by cases h;exact hm
 |b::q,s,m,a,x,hm,h=>by rw[wh]at h;cases hq:(hH l m d (nV p b) (s.take z) false).2 with|false=>rw[hq]at h;cases h|true=>rw[hq]at h;exact M9 hn l d p z q _ _ _ (CL hn hm ..) h
theorem IB (hn:128<=n)(l:aw aA)(d:Int):∀(q:bM)(m:bM)(r:lN){x},cX n (.sl .str) m->qD l d q m r=some x->cX n (.sl .str) x.1
 |[],m,r,x,hm,h=>by cases h;exact hm
 |s::q,m,r,x,hm,h=>by rw[qD]at h;cases hq:(cM l m d r s).2.2 with|false=>rw[hq]at h;cases h|true=>rw[hq]at h;exact IB hn l d q _ _ (Gn hn hm ..) h
theorem SO (hn:128<=n){q:bM}(hm:cX n (.sl .str) m):cX n (.sl .str) (ub l m d r q).1:=by unfold ub;cases hx:qD l d q m r with|none=>exact hm|some x=>exact IB hn l d q m r hm hx
theorem aaC (p:cR)(n:Int):(jZ p n).1.2.2.2.length+(jZ p n).2.1.length=p.2.2.2.length:=by unfold jZ;cases dx p&&dm n 0 (p.2.2.2.length:Int)with|false=>rfl|true=>simp only[ah,aM,aY];omega
theorem X1 (a:aw kO)(x:kO):(bu (a++[x])).length=(bu a).length+x.2.2.length:=by simp[bu]
theorem S6:∀l:aw kO,(∀x∈l,1<=x.2.1)->(l.length:Int)<=dH l
 |[],_=>by simp[dH]
 |y::l,h=>by have h1:=S6 l (λx hx=>h x (ec _ hx));have h2:=h y (List.mem_cons_self ..);simp only[dH,cV,List.sum_cons,bc]at h1⊢;omega
structure afH (n:Nat) (m:List Bytes) (t:dD) (r:List Bytes×dD×Bool):Prop where
 mem:cX n (.sl .str) r.1
 tx:cX (n+1) ko r.2.1
 sum:r.2.1.2.1.2.2.2.length+(bu r.2.1.2.2.1).length<=n
 w:r.2.1.2.2.1.length<=16\/r.2.1.2.2.1=t.2.2.1
theorem aae (hn:128<=n){c:Int}(d:Int)(hm:cX n (.sl .str) m)(ht:cX n ko t)(hs:t.2.1.2.2.2.length+(bu t.2.2.1).length<=n):afH n m t (wU l m d t p c z):=by
 have old:afH n m t (m,t,false):=⟨hm,ht.mono,hs,Or.inr rfl⟩
 unfold wU;cases hg:L8 t&&(dw p&&(dm z 1 t.2.1.2.1&&dm c 1 128));exact old;simp only[ae]at hg;simp only[ah];generalize yj p z.toNat=k;cases hk:Ib t k;exact old;simp only[ah];rcases hx:wh l d t.2.1 z.toNat (jZ t.2.1 (k:Int)).2.1 (jT p).1 m []with _|x;exact old;simp only;unfold Ly;have hpm:=SO (n:=n) hn (l:=l) (d:=d) (q:=(pK x.1 c t.2.2.2).map xk) (r:=t.1) (M9 hn l d t.2.1 z.toNat _ _ _ _ hm hx);generalize ub l x.2 d t.1 ((pK x.1 c t.2.2.2).map xk)=w at hpm⊢;cases w.2.2;exact old;have hl:=aaC t.2.1 (k:Int);have hb:=X1 t.2.2.1 (t.2.2.2,(k:Int)+1,(jZ t.2.1 (k:Int)).2.1);have hb:(bu (t.2.2.1++[(t.2.2.2,(k:Int)+1,(jZ t.2.1 (k:Int)).2.1)])).length=(bu t.2.2.1).length+(jZ t.2.1 (k:Int)).2.1.length:=hb;refine⟨hpm,⟨⟨cv,cv,cv,cv⟩,⟨cv,cv,cv,?_,λ_ _=>trivial⟩,?_,cv⟩,?_,Or.inl ?_⟩;show(jZ t.2.1 (k:Int)).1.2.2.2.length<=n+1;omega;exact Hr (t:=hG) (k:=1) ht.2.2.1 (λy hy=>by rw[cf.1 hy];exact⟨cv,cv,by show(jZ t.2.1 (k:Int)).2.1.length<=n;omega,λ_ _=>trivial⟩) (by simp);show(jZ t.2.1 (k:Int)).1.2.2.2.length+(bu (t.2.2.1++[(t.2.2.2,(k:Int)+1,(jZ t.2.1 (k:Int)).2.1)])).length<=n;omega;show(t.2.2.1++[_]).length<=16;have hq:=hg.1;simp only[L8,ae]at hq;have TJ:=kL hq.1;have hc:=S6 t.2.2.1 (λx hx=>by have:=aG.1 hq.2.2.2.1 x hx;simp only[nM,ae,bg]at this;omega);unfold Ib at hk;simp only[ae,aK,cP]at hk;rw[ai,bA];omega
theorem adq (hn:1000<=n)(p:aN)(c z:Int)(k:BG n h):BG (n+1) (Ef h p c z).1:=by unfold Ef;cases fy h;exact k.mono;have zz:=k.z;have s:=aae (by omega) (l:=h.2.1) (p:=p) (c:=c) (z:=z) 0 zz.1 zz.2.2.1 k.t;have z1:cX (n+1) dC h:=zz.mono;exact⟨⟨s.mem.mono,z1.2.1,s.tx,z1.2.2.2⟩,bw s.sum (by omega)⟩
theorem IC (h:Host):∀k,(ik h k).2.2.1=h.2.2.1
 |0=>rfl
 |k+1=>by show(yH k (ik h k)).2.2.1=_;rw[<-IC h k];generalize ik h k=s;unfold yH;rcases h1:s.2.2.2.1[k]? with _|x;rfl;cases h2:s.2.2.2.2.2.1[k]? with|none=>rfl|some v=>rfl
theorem Z5 (hn:1000<=n)(k:BG n h)(f:Few h):BG (n+645000) (wS h)/\Few (wS h):=by
 unfold wS;cases hb:fy h;exact⟨k.mono,f⟩;have hl:=qB (Kw hb);have e:=H9 hn k.z hl.1;have hw:=f.w;have hp:=Bo (n:=n) (by omega) k.z h.2.2.2.1.length;have ht:=(wC (n:=n+322000*h.2.2.2.1.length) (h:=h) hp.2 h.2.2.1.2.2.1.length).1.e;have h4:=nK 256 128 8;simp only[ah];have hx:=IC (rT h) h.2.2.2.1.length;have hk:=(vN (rT h) h.2.2.2.1.length).pl;have Dr:(rT h).2.2.2.2.1.length=h.2.2.2.2.1.length:=by show(returned h h.2.2.1.2.2.1.length).2.2.2.2.1.length=_;rw[ht];exact hp.1.pl
 refine⟨⟨(Bs (by omega) e _).mono,?_⟩,?_,?_⟩;rw[hx];show(gT 256 128 8).1.2.2.2.length+0<=_;omega;rw[hk,Dr];exact f.pl;rw[hx];show 0<=16;omega
def abT (f:iz):aw Stream->Int->Int
 |[],_=> -1
 |s::r,i=>if s.1=f then i else abT f r (i+1)
def aaS (a b:aw Stream)(f:iz):Bool:=
 match idx a (abT f a 0),idx b (abT f b 0)with
 |some x,some y=>decide (x=y)
 |_,_=>false
def ahV (b:Bool):Int:=bif b then 1 else 0
def Ends (o:ax α)(P:α->Prop):Prop:=∃x,o=some x/\P x
theorem Ends.pure {x:α}{P:α->Prop}(h:P x):Ends (some x) P:=⟨x,rfl,h⟩
theorem Ends.bind {o:ax α}{P:α->Prop}{k:α->ax R}{Q:R->Prop}(h:Ends o P)(hk:∀x,P x->Ends (k x) Q):Ends (aa o k) Q:=by obtain⟨x,rfl,hx⟩:=h;exact hk x hx
theorem Ends.mono {o:ax α}{P Q:α->Prop}(h:Ends o P)(hq:∀x,P x->Q x):Ends o Q:=by obtain⟨x,hx,hp⟩:=h;exact⟨x,hx,hq x hp⟩
theorem Ends.cond {c:Bool}{a b:ax α}{P:α->Prop}(h1:c=true->Ends a P)(h2:c=false->Ends b P):Ends (cond c a b) P:=by cases c with|true=>exact h1 rfl|false=>exact h2 rfl
theorem Ends.ifn {p:Prop}[Decidable p]{a:ax α}{P:α->Prop}(h:¬p)(ha:Ends a P):Ends (if p then none else a) P:=by rw[aH h];exact ha
theorem Ends.room {k:ax α}{P:α->Prop}(h:n<=1073741824)(hk:Ends k P):Ends (room n k) P:=by rw[aP h];exact hk
theorem Ends.of {o:ax α}{x:α}{P:α->Prop}(h:o=some x)(hp:P x):Ends o P:=⟨x,h,hp⟩
theorem Ends.iter {σ:Type}{T:(σ->ax R)->σ->ax R}{Q:R->Prop}(I:σ->Prop)(m:σ->Nat)(hs:∀x nx,I x->(∀y,I y->m y<m x->Ends (nx y) Q)->Ends (T nx x) Q): ∀n x,I x->m x<n->Ends (aX T n x) Q:=by intro n;induction n with|zero=>intro x _ h;omega|succ n ih=>intro x hx hm;rw[aX];exact hs x _ hx λy hy gQ=>ih y hy (by omega)
theorem Ends.wv {σ:Type}{T:(σ->ax R)->σ->ax R}{Q:R->Prop}(I:σ->Prop)(m:σ->Nat){x:σ}(hx:I x)(hm:m x<=1000000000000)(hs:∀x nx,I x->(∀y,I y->m y<m x->Ends (nx y) Q)->Ends (T nx x) Q):Ends (aX T fuel x) Q:=Ends.iter I m hs fuel x hx (by have:=dR;omega)
theorem Ends.idx {xs:aw α}{i:Int}{k:α->ax R}{Q:R->Prop}(h0:0<=i)(h1:i<(xs.length:Int))(hk:∀(h:i.toNat<xs.length),Ends (k xs[i.toNat]) Q):Ends (aa (idx xs i) k) Q:=by
 obtain⟨n,rfl⟩:=aV h0;have hn:n<xs.length:=by omega
 rw[bf hn,ab];exact hk (by simpa using hn)
abbrev Oi:=cw×Int×Int
variable {c:Oi}
def Cu (c:Oi):Prop:=0<=c.2.1/\c.2.1<=(c.1.length:Int)/\c.1.length<=1048576
theorem aaU (x y:Int)(n:Nat)(hy:(ga y).toNat=n)(hn:n<9223372036854775808):0<=au (BitVec.toNat (ga x&&&ga y))/\au (BitVec.toNat (ga x&&&ga y))<=n:=by
 have h:(ga x&&&ga y).toNat<=n:=by rw[BitVec.toNat_and,hy];exact Nat.and_le_right
 generalize (ga x&&&ga y).toNat=k at h;rw[ak];omega
theorem ahS {a:cw}(ha:a.length<=1048576):Ends (zE a) Cu:=by
 unfold zE;refine Ends.wv (λx=>0<=x.2/\x.2<=4000) (λx=>(4000-x.2).toNat) ⟨by omega,by omega⟩ (by simp) λx nx hx hn=>?_;unfold yK;refine Ends.bind (P:=λb=>b=true->x.2<(a.length:Int)/\x.2<4000) (Ends.cond (λh=>Ends.pure λh2=>⟨bl h,bl h2⟩) λh=>Ends.pure λh2=>by cases h2) λq hq=>?_;refine Ends.cond (λh=>?_) (λh=>Ends.pure ⟨dL _,by simp,ha⟩);have hq:=hq h;refine Ends.idx hx.1 hq.1 λ_=>hn _ ⟨?_,?_⟩ ?_;all_goals simp only[ak (n:=x.2+1) (by omega) (by omega)]
 all_goals omega
theorem De (h:Cu c):Ends (jS c) λr=>(0<=r.1/\r.1<=255)/\Cu r.2:=by
 unfold jS;refine Ends.ifn (by decide) (Ends.ifn (by decide) (Ends.cond (λh1=>?_) λh1=>?_))
 ·have h1:=bl h1;refine Ends.idx h.1 h1 λ_=>Ends.pure ⟨aaU _ 255 255 rfl (by decide),?_⟩;refine⟨?_,?_,h.2.2⟩;all_goals simp only[ak (n:=c.2.1+1) (by have:=h.1;omega) (by have:=h.2.2;omega)]
  have:=h.1;omega;omega
 exact Ends.pure ⟨aaU _ 255 255 rfl (by decide),h.1,h.2.1,h.2.2⟩
theorem gv (h:Cu c){n:Int}(hn:0<n:=by omega):Ends (cd c n) λr=>(0<=r.1/\r.1<n)/\Cu r.2:=by unfold cd;rw[cC];simp only[af];refine Ends.cond (λh1=>?_) λh1=>?_;refine(De h).bind λr hr=>Ends.ifn (by omega) (Ends.pure ⟨⟨Int.tmod_nonneg _ hr.1.1,Int.tmod_lt_of_pos _ hn⟩,hr.2⟩);refine(De h).bind λr2 h2=>(De h2.2).bind λr3 h3=>(De h3.2).bind λr4 h4=>(De h4.2).bind λr5 h5=>Ends.ifn (by omega) (Ends.pure ⟨⟨Int.tmod_nonneg _ ?_,Int.tmod_lt_of_pos _ hn⟩,h5.2⟩);have a2:=h2.1;have a3:=h3.1;have a4:=h4.1;have a5:=h5.1;rw[ak (n:=r2.1*16777216),ak (n:=r3.1*65536),ak (n:=r4.1*256)];rw[ak (n:=r2.1*16777216+r3.1*65536)];rw[ak (n:=r2.1*16777216+r3.1*65536+r4.1*256)];rw[ak];omega
theorem Fo (h:Cu c)(n:Int):Ends (cd c n) λr=>(0<=r.1/\(r.1<n\/r.1=0))/\Cu r.2:=by
 rcases Int.lt_or_le 0 n with hn|hn;exact(gv h hn).mono λr hr=>⟨⟨hr.1.1,Or.inl hr.1.2⟩,hr.2⟩
 unfold cd;rw[ar hn];exact Ends.pure ⟨⟨dL _,Or.inr rfl⟩,h⟩
theorem vM (h:Cu c)(n:Int):Ends (gq c n) λr=>Cu r.2:=by unfold gq;exact(Fo h n).bind λr hr=>Ends.pure hr.2
theorem iG (h:Cu c){l:cw}{P:Int->Prop}(hl:0<l.length)(hp:∀x∈l,P x):Ends (cp c l) λr=>P r.1/\Cu r.2:=by unfold cp;exact(gv h).bind λr hr=>Ends.idx hr.1.1 hr.1.2 λhi=>Ends.pure ⟨hp _ (bk hi),hr.2⟩
theorem GJ (h:Cu c)(n:Int):Ends (lL c n) λr=>(r.1.length<=5000/\(0<=n->n<=5000->(r.1.length:Int)=n)/\(n<=0->r.1=[]))/\Cu r.2:=by
 have key:∀v:Int,v<=5000->∀Q:(Bytes×Oi)->Prop,(∀x c,((x.length:Int)=v\/(v<=0/\x=[]))->Cu c->Q (aJ x,c))->Ends (aX (ot (λy _ z=>some (aJ y,z)) v) fuel (([]:cw),0,c)) Q:=by
  intro v hv Q hQ;refine Ends.wv (λx=>(x.1.length:Int)=x.2.1/\(x.2.1<=v\/x.2.1=0)/\Cu x.2.2) (λx=>(v-x.2.1).toNat) ⟨rfl,Or.inr rfl,h⟩ (by simp;omega) λx nx hx hn=>?_;unfold ot;refine Ends.cond (λh1=>?_) λh1=>Ends.pure (hQ _ _ ?_ hx.2.2)
  ·have h1:=bl h1;refine(De hx.2.2).bind λr hr=>Ends.room (by simp;omega) (hn _ ⟨?_,?_,hr.2⟩ ?_);all_goals simp only[ak (n:=x.2.1+1) (by omega) (by omega)]
   simp;omega;omega;omega
  have h1:=eK h1;rcases hx.2.1 with h2|h2;exact Or.inl (by omega);rcases Int.lt_or_le 0 v with h3|h3;omega;exact Or.inr ⟨h3,bS (by omega)⟩
 have hb:∀x:cw,(aJ x).length=x.length:=λx=>by simp[aJ]
 unfold lL;refine Ends.cond (λh1=>?_) λh1=>?_;have h1:=bl h1;refine key 5000 (by omega) _ λx c hx hc=>⟨⟨by rw[hb];rcases hx with hx|hx<;>omega,λ_ _=>by omega,λ_=>by omega⟩,hc⟩
 have h1:=eK h1;refine key n (by omega) _ λx c hx hc=>⟨⟨?_,λh0 _=>?_,λh0=>?_⟩,hc⟩
 rw[hb];rcases hx with hx|hx;omega;rw[hx.2];simp;rw[hb];rcases hx with hx|hx;omega;rw[hx.2];simp;omega;rcases hx with hx|hx;have:x=[]:=bS (by omega);rw[this];rfl;rw[hx.2];rfl
theorem S4 {s k f w:Int}(h1:0<=a/\a<=65535)(h2:0<=b/\b<=65535)(h3:0<=s/\s<=4294967295)(h4:0<=k/\k<=4294967295)(h5:0<=f/\f<=31)(h6:0<=w/\w<=65535)(hx:x.length<=320):rH (6,a,b,s,k,f,w,x)=true:=by have zQ:decide ((x.length:Int)>320)=false:=cC;simp only[rH,bg.2 h1,bg.2 h2,bg.2 h3,bg.2 h4,bg.2 h5,bg.2 h6,zQ];rfl
theorem ado (h1:0<=a/\a<=65535)(h2:0<=b/\b<=65535)(hx:x.length<=320):rH (17,a,b,0,0,0,0,x)=true:=by have zQ:decide ((x.length:Int)>320)=false:=cC;simp only[rH,bg.2 h1,bg.2 h2,zQ];rfl
theorem aad (h:rH g=true)(hx:x.length<=320):rH (g.1,g.2.1,g.2.2.1,g.2.2.2.1,g.2.2.2.2.1,g.2.2.2.2.2.1,g.2.2.2.2.2.2.1,x)=true:=by have e:decide ((x.length:Int)>320)=false:=cC;unfold rH at h⊢;simp only[ae]at h⊢;exact⟨h.1,h.2.1,by rw[e];rfl,h.2.2.2⟩
theorem ab0 {v t i l s:Int}(h1:0<=a/\a<=281474976710655)(h2:0<=b/\b<=281474976710655)(h3: -1<=v/\v<=4095)(h4:0<=t/\t<=255)(h5:0<=i/\i<=65535)(h6:0<=l/\l<=255)(h7:0<=s/\s<=4294967295)(h8:0<=d/\d<=4294967295)(hg:rH g=true):oV (a,b,v,t,i,l,s,d,g)=true:=by simp only[oV,bg.2 h1,bg.2 h2,bg.2 h3,bg.2 h4,bg.2 h5,bg.2 h6,bg.2 h7,bg.2 h8,hg];rfl
theorem SF (p:aN):fV p=true↔oV p=true/\p.2.2.2.2.2.2.2.2.2.2.2.2.2.2.2.length<=128:=by unfold fV dw;rw[ae,ae,cz,aB];constructor;rintro⟨⟨h1,_⟩,h2⟩;exact⟨h1,by omega⟩;rintro⟨h1,h2⟩;exact⟨⟨h1,Or.inl (by omega)⟩,by omega⟩
theorem Xz (h:rH g=true)(h6:g.1=6):(0<=g.2.1/\g.2.1<=65535)/\(0<=g.2.2.1/\g.2.2.1<=65535)/\(0<=g.2.2.2.1/\g.2.2.2.1<=4294967295)/\(0<=g.2.2.2.2.1/\g.2.2.2.2.1<=4294967295)/\(0<=g.2.2.2.2.2.1/\g.2.2.2.2.2.1<=31)/\(0<=g.2.2.2.2.2.2.1/\g.2.2.2.2.2.2.1<=65535)/\g.2.2.2.2.2.2.2.length<=320:=by have hl:=CP h;unfold rH at h;rw[h6]at h;simp only[ae,bg,show((6:Int)==17)=false from rfl,af]at h;exact⟨h.1,h.2.1,h.2.2.2.2.1,h.2.2.2.2.2.1,h.2.2.2.2.2.2.1,h.2.2.2.2.2.2.2,hl⟩
theorem Lv (h:rH g=true)(h6:g.1=6){s f:Int}(hs:0<=s/\s<=4294967295)(hf:0<=f/\f<=31)(hx:x.length<=320):rH (g.1,g.2.1,g.2.2.1,s,g.2.2.2.2.1,f,g.2.2.2.2.2.2.1,x)=true:=by have k:=Xz h h6;rw[h6];exact S4 k.1 k.2.1 hs k.2.2.2.1 hf k.2.2.2.2.2.1 hx
theorem Aj (h:oV p=true){i:Int}(hi:0<=i/\i<=65535)(hg:rH g=true):oV (p.1,p.2.1,p.2.2.1,p.2.2.2.1,i,p.2.2.2.2.2.1,p.2.2.2.2.2.2.1,p.2.2.2.2.2.2.2.1,g)=true:=by unfold oV at h⊢;simp only[ae]at h⊢;exact⟨h.1,h.2.1,h.2.2.1,h.2.2.2.1,h.2.2.2.2.1,bg.2 hi,h.2.2.2.2.2.2.1,h.2.2.2.2.2.2.2.1,hg⟩
theorem Kq (h:oV p=true):0<=p.2.2.2.2.1/\p.2.2.2.2.1<=65535:=by unfold oV at h;simp only[ae]at h;exact bg.1 h.2.2.2.2.2.1
theorem ae9 {i:Int}(h:0<=i/\i<=65535):0<=tmod (au (i+1)) 65536/\tmod (au (i+1)) 65536<=65535:=by rw[ak];have h1:=Int.tmod_nonneg 65536 (a:=i+1) (by omega);have h2:=Int.tmod_lt_of_pos (i+1) (b:=65536) (by omega);omega
theorem acZ {s:Int}(h:0<=s/\s<=4294967295)(hn:n<=320):0<=tmod (au (s+(n:Int))) 4294967296/\tmod (au (s+(n:Int))) 4294967296<=4294967295:=by rw[ak];have h1:=Int.tmod_nonneg 4294967296 (a:=s+(n:Int)) (by omega);have h2:=Int.tmod_lt_of_pos (s+(n:Int)) (b:=4294967296) (by omega);omega
theorem Kv (h:Cu c):Ends (qM c) λr=>(167772161<=r.1/\r.1<=167772163)/\Cu r.2:=by unfold qM;refine(gv h (by decide)).bind λr hr=>Ends.pure ⟨?_,hr.2⟩;have:=hr.1;simp only[ak (n:=167772161+r.1) (by omega) (by omega)];omega
theorem Yg (h:Cu c):Ends (vX c) λr=>(0<=r.1/\r.1<=31)/\Cu r.2:=by unfold vX;exact(iG (P:=λx=>0<=x/\x<=31) h (by decide) (by decide)).bind λr hr=>Ends.pure hr
theorem ah4 (h:Cu c){m:Int}(h0:0<=m)(h1:m<=320):Ends (sC c m) λr=>(rH r.1=true/\(r.1.2.2.2.2.2.2.2.length:Int)<=m)/\Cu r.2:=by
 unfold sC;refine(gv h (by decide)).bind λr1 p1=>(gv p1.2 (by decide)).bind λr2 p2=>?_;refine(iG (P:=λx=>0<=x/\x<=4294967295) p2.2 (by simp) ?_).bind λr3 p3=>?_;have:=p2.1;intro x hx;simp only[bO,List.not_mem_nil,or_false]at hx;omega;refine(iG (P:=λx=>0<=x/\x<=4294967295) p3.2 (by decide) (by decide)).bind λr4 p4=>(Yg p4.2).bind λr5 p5=>?_;refine(iG (P:=λx=>0<=x/\x<=65535) p5.2 (by decide) (by decide)).bind λr6 p6=>?_;rw[ak (n:=m+1)];refine(gv p6.2).bind λr7 p7=>(GJ p7.2 r7.1).bind λr8 p8=>(vM p8.2 4).bind λr9 p9=>?_;have a1:=p1.1;have a7:=p7.1;have a8:=p8.1.2.1 a7.1 (by omega);rw[ak (n:=1000+r1.1)];refine Ends.cond (λ_=>Ends.pure ⟨⟨ado (by omega) (by omega) (by omega),?_⟩,p9⟩) λ_=>Ends.pure ⟨⟨S4 (by omega) (by omega) p3.1 p4.1 p5.1 p6.1 (by omega),?_⟩,p9⟩;all_goals show(r8.1.length:Int)<=m
 all_goals omega
theorem NT (h:Cu c){m:Int}(h0:0<=m:=by omega)(h1:m<=320:=by omega):Ends (kE c m) λr=>(dw r.1=true/\(r.1.2.2.2.2.2.2.2.2.2.2.2.2.2.2.2.length:Int)<=m/\(r.1.2.2.2.2.2.2.2.2.1=6\/r.1.2.2.2.2.2.2.2.2.1=17))/\Cu r.2:=by
 unfold kE;refine(iG (P:=λx=>0<=x/\x<=281474976710655) h (by decide) (by decide)).bind λr1 p1=>?_;refine(iG (P:=λx=>0<=x/\x<=281474976710655) p1.2 (by decide) (by decide)).bind λr2 p2=>?_;refine(iG (P:=λx=> -1<=x/\x<=4095) p2.2 (by decide) (by decide)).bind λr3 p3=>?_;refine(iG (P:=λx=>0<=x/\x<=255) p3.2 (by decide) (by decide)).bind λr4 p4=>?_;refine(iG (P:=λx=>0<=x/\x<=65535) p4.2 (by decide) (by decide)).bind λr5 p5=>?_;refine(iG (P:=λx=>0<=x/\x<=255) p5.2 (by decide) (by decide)).bind λr6 p6=>?_;refine(Kv p6.2).bind λr7 p7=>?_;refine(ah4 p7.2 (m:=if 128<m then 128 else m) (by split<;>omega) (by split<;>omega)).bind λr8 p8=>?_;have hh:∀g:eh,rH g=true->oV (r1.1,r2.1,r3.1,r4.1,r5.1,r6.1,r7.1,167772161,g)=true:=λg hg=>ab0 p1.1 p2.1 p3.1 p4.1 p5.1 p6.1 (by have:=p7.1;omega) (by omega) hg;have hk:∀g:eh,rH g=true->g.1=6\/g.1=17:=by intro g hg;unfold rH at hg;simp only[ae]at hg;have h2:=hg.2.2.2;cases h17:g.1==17 with|true=>exact Or.inr (by simpa using h17)|false=>rw[h17]at h2;simp only[af,ae]at h2;exact Or.inl (by simpa using h2.1)
 have hl:(r8.1.2.2.2.2.2.2.2.length:Int)<=128/\(r8.1.2.2.2.2.2.2.2.length:Int)<=m:=by have:=p8.1.2;split at this<;>omega
 have short:∀c':Oi,Cu c'->Ends (some ((r1.1,r2.1,r3.1,r4.1,r5.1,r6.1,r7.1,(167772161:Int),r8.1),c')) λr:aN×Oi=>(dw r.1=true/\(r.1.2.2.2.2.2.2.2.2.2.2.2.2.2.2.2.length:Int)<=m/\(r.1.2.2.2.2.2.2.2.2.1=6\/r.1.2.2.2.2.2.2.2.2.1=17))/\Cu r.2:=by intro c' xg;refine Ends.pure ⟨⟨?_,hl.2,hk _ p8.1.1⟩,xg⟩;unfold dw;rw[hh _ p8.1.1,bp];have:decide ((r8.1.2.2.2.2.2.2.2.length:Int)<=128)=true:=ar hl.1;show(decide ((r8.1.2.2.2.2.2.2.2.length:Int)<=128)||_)=true;rw[this,ir]
 refine Ends.cond (λk1=>Ends.cond (λk2=>Ends.cond (λk3=>?_) λ_=>short _ p8.2) λ_=>short _ p8.2) λ_=>short _ p8.2;have k3:=bl k3;refine(vM p8.2 2).bind λr9 p9=>Ends.cond (λ_=>?_) λ_=>short _ p9;rw[ak (n:=m-128),ak (n:=m-128+1)];refine(gv p9).bind λqW p10=>?_;have a10:=p10.1;rw[ak (n:=128+qW.1)];refine(GJ p10.2 _).bind λuG p11=>?_;have a11:=p11.1.2.1 (by omega) (by omega);have hs:=aad p8.1.1 (x:=uG.1) (by omega);refine Ends.pure ⟨⟨?_,by show(uG.1.length:Int)<=m;omega,Or.inl (by simpa using k1)⟩,p11.2⟩;unfold dw;rw[hh _ hs,bp];rw[Kc _ (DD p8.1.1 k1)]at k2;show(_||(r8.1.1==6)&&AO r8.1.2.2.2.2.2.1)=true;rw[k1,k2,eY,jt]
def Plain (p:aN):Prop:=oV p=true/\p.2.2.2.2.2.2.2.2.2.2.2.2.2.2.2.length<=40
theorem Plain.ok (h:Plain p):fV p=true:=(SF p).2 ⟨h.1,by have:=h.2;omega⟩
theorem Gk (h:Cu c):Ends (kE c 40) λr=>Plain r.1/\Cu r.2:=(NT h).mono λr hr=>⟨⟨by have:=hr.1.1;unfold dw at this;simp only[ae]at this;exact this.1,by have:=hr.1.2.1;omega⟩,hr.2⟩
theorem acN {Q:R->Prop}{k0:aw aN->Oi->aN->ax R}{l:aw aN}{n:Int}(hl:l.length<=1000)(hc:Cu c)(hp:Plain p)(hk:∀c' p',Cu c'->Plain p'->Ends (k0 (l++[p]) c' p') Q):Ends (ni k0 l z n c p) Q:=by
 unfold ni;have hi:=ae9 (Kq hp.1);have hs:=yu hp.1;refine Ends.room (by simp;omega) (Ends.ifn (by decide) (Ends.cond (λh6=>?_) λ_=>hk _ _ hc ⟨Aj (p:=p) hp.1 hi hs,hp.2⟩));have h6:p.2.2.2.2.2.2.2.2.1=6:=by simpa using h6
 refine(vM hc 8).bind λr hr=>Ends.cond (λ_=>Ends.ifn (by decide) (hk _ _ hr ⟨Aj (p:=p) hp.1 hi ?_,hp.2⟩)) λ_=>hk _ _ hr ⟨Aj (p:=p) hp.1 hi hs,hp.2⟩;have k:=Xz hs h6;have hlen:p.2.2.2.2.2.2.2.2.2.2.2.2.2.2.2.length<=320:=by have:=hp.2;omega
 exact Lv hs h6 (acZ k.2.2.1 hlen) k.2.2.2.2.1 hlen
theorem acM {Q:R->Prop}{k0:aw aN->Oi->aN->ax R}{l:aw aN}{n:Int}(hl:l.length<=1000)(hz:1<=z/\z<=40)(hc:Cu c)(hp:Plain p)(hk:∀q c' p',Plain q->Cu c'->Plain p'->Ends (k0 (l++[q]) c' p') Q):Ends (nh k0 l z n c p) Q:=by
 unfold nh;refine Ends.cond (λh6=>?_) λ_=>acN hl hc hp λc' p' h1 h2=>hk _ _ _ hp h1 h2;have h6:p.2.2.2.2.2.2.2.2.1=6:=by simpa using h6
 refine(iG (P:=λx=>0<=x/\x<=31) hc (by decide) (by decide)).bind λr8 p8=>(GJ p8.2 z).bind λr9 p9=>?_;have a9:=p9.1.2.1 (by omega) (by omega);have hs:=yu hp.1;have hq:Plain (p.1,p.2.1,p.2.2.1,p.2.2.2.1,p.2.2.2.2.1,p.2.2.2.2.2.1,p.2.2.2.2.2.2.1,p.2.2.2.2.2.2.2.1,p.2.2.2.2.2.2.2.2.1,p.2.2.2.2.2.2.2.2.2.1,p.2.2.2.2.2.2.2.2.2.2.1,p.2.2.2.2.2.2.2.2.2.2.2.1,p.2.2.2.2.2.2.2.2.2.2.2.2.1,r8.1,p.2.2.2.2.2.2.2.2.2.2.2.2.2.2.1,r9.1):=⟨Aj hp.1 (Kq hp.1) (Lv hs h6 (Xz hs h6).2.2.1 p8.1 (by omega)),by show r9.1.length<=40;omega⟩
 exact acN hl p9.2 hq λc' p' h1 h2=>hk _ _ _ hq h1 h2
theorem aga {Q:R->Prop}{k0:aw aN->Int->Oi->aN->ax R}{l:aw aN}{n:Int}(hl:l.length<=1000)(hz:1<=z/\z<=40)(hc:Cu c)(hp:Plain p)(hk:∀q z' c' p',Plain q->(1<=z'/\z'<=40)->Cu c'->Plain p'->Ends (k0 (l++[q]) z' c' p') Q):Ends (ov k0 l z n c p) Q:=by unfold ov;refine(vM hc 6).bind λr6 p6=>Ends.cond (λ_=>?_) λ_=>acM hl hz p6 hp λq c' p' h1 h2 h3=>hk _ _ _ _ h1 hz h2 h3;refine(gv p6 (by decide)).bind λr7 p7=>?_;have a7:=p7.1;rw[ak (n:=1+r7.1)];exact acM hl (by omega) p7.2 hp λq c' p' h1 h2 h3=>hk _ _ _ _ h1 (by omega) h2 h3
theorem ajB {Q:R->Prop}{k0:aw aN->Int->Int->Oi->aN->ax R}{l:aw aN}{n:Int}(hl:l.length<=1000)(hz:1<=z/\z<=40)(hn:0<n/\n<=1000)(hc:Cu c)(hp:Plain p)(hk:∀q z' c' p',Plain q->(1<=z'/\z'<=40)->Cu c'->Plain p'->Ends (k0 (l++[q]) z' (n-1) c' p') Q):Ends (sD k0 l z n c p) Q:=by unfold sD;have e:au (n-1)=n-1:=ak;refine(vM hc 5).bind λr4 p4=>Ends.cond (λ_=>?_) λ_=>?_;refine(Gk p4).bind λr5 p5=>aga hl hz p5.2 p5.1 λq z' c' p' h1 h2 h3 h4=>?_;unfold ou;rw[e];exact hk _ _ _ _ h1 h2 h3 h4;refine aga hl hz p4 hp λq z' c' p' h1 h2 h3 h4=>?_;unfold ou;rw[e];exact hk _ _ _ _ h1 h2 h3 h4
theorem ae4 (h:Cu c){m:Int}(h0:0<m)(h1:m<=100):Ends (xD c m) λr=>((∀p∈r.1,Plain p)/\0<r.1.length/\(r.1.length:Int)<=m)/\Cu r.2:=by unfold xD;refine(Gk h).bind λr1 p1=>(gv p1.2 (by decide)).bind λr2 p2=>(gv p2.2 h0).bind λr3 p3=>?_;have a2:=p2.1;have a3:=p3.1;rw[ak (n:=r2.1*8),ak (n:=8+r2.1*8),ak (n:=1+r3.1)];refine Ends.wv (λx=>(∀p∈x.1,Plain p)/\(1<=x.2.1/\x.2.1<=40)/\0<=x.2.2.1/\(x.1.length:Int)+x.2.2.1=1+r3.1/\Cu x.2.2.2.1/\Plain x.2.2.2.2) (λx=>x.2.2.1.toNat) ⟨by simp,(by dsimp only;omega),(by dsimp only;omega),by simp,p3.2,p1.1⟩ (by simp;omega) λx nx hx hn=>?_;unfold wX;refine Ends.cond (λk=>?_) λk=>?_;have k:=bl k;refine ajB (by omega) hx.2.1 (by omega) hx.2.2.2.2.1 hx.2.2.2.2.2 λq z' c' p' h1 h2 h3 h4=>hn _ ⟨?_,h2,?_,?_,h3,h4⟩ ?_;intro y hy;rcases ay.1 hy with hy|hy;exact hx.1 y hy;simp only[cf]at hy;rw[hy];exact h1;show 0<=x.2.2.1-1;omega;show((x.1++[q]).length:Int)+(x.2.2.1-1)=1+r3.1;have:=hx.2.2.2.1;simp;omega;show(x.2.2.1-1).toNat<x.2.2.1.toNat;omega;have k:=eK k;have:=hx.2.2.2.1;have:=hx.2.2.1;exact Ends.pure ⟨⟨hx.1,(by dsimp only;omega),(by dsimp only;omega)⟩,hx.2.2.2.2.1⟩
theorem afb (h:Cu c){l:aw aN}(hl:l.length<=1000000):Ends (xE c l) λr=>(r.1.length<=l.length/\∀s∈r.1,s.2.2.1=[])/\Cu r.2:=by unfold xE;refine Ends.wv (λx=>0<=x.2.1/\(x.1.length:Int)<=x.2.1/\x.2.1<=(l.length:Int)/\(∀s∈x.1,s.2.2.1=[])/\Cu x.2.2) (λx=>((l.length:Int)-x.2.1).toNat) ⟨by simp,by simp,by simp,by simp,h⟩ (by simp;omega) λx nx hx hn=>?_;have e:x.2.1<(l.length:Int)->au (x.2.1+1)=x.2.1+1:=λ_=>ak;unfold wY;refine Ends.cond (λk=>?_) λk=>Ends.pure ⟨⟨(by dsimp only;omega),hx.2.2.2.1⟩,hx.2.2.2.2⟩;have k:=bl k;rw[e k];have skip:∀c',Cu c'->Ends (nx (x.1,x.2.1+1,c')) _:=λc' xg=>hn _ ⟨by show 0<=x.2.1+1;omega,by show(x.1.length:Int)<=x.2.1+1;omega,by show x.2.1+1<=_;omega,hx.2.2.2.1,xg⟩ (by show((l.length:Int)-(x.2.1+1)).toNat<_;omega);refine Ends.idx hx.1 k λhi=>?_;rw[adw,ab];refine Ends.cond (λ_=>?_) λ_=>skip _ hx.2.2.2.2;rw[adA _ _ (by omega),ab];refine Ends.cond (λ_=>?_) λ_=>skip _ hx.2.2.2.2;refine(vM hx.2.2.2.2 6).bind λr4 p4=>Ends.cond (λ_=>?_) λ_=>skip _ p4;refine Ends.idx hx.1 k λhi=>(iG (P:=λ_=>True) p4 (by decide) (by simp)).bind λr6 p6=>Ends.room (by simp;omega) (hn _ ⟨by show 0<=x.2.1+1;omega,?_,by show x.2.1+1<=_;omega,?_,p6.2⟩ (by show((l.length:Int)-(x.2.1+1)).toNat<_;omega));show((x.1++[_]).length:Int)<=x.2.1+1;simp;omega;intro s hs;rcases ay.1 hs with hs|hs;exact hx.2.2.2.1 s hs;simp only[cf]at hs;rw[hs]
end
end Go.Pu
