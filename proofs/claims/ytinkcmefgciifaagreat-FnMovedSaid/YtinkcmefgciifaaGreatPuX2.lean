import Derived.KernelRfl
import Derived.Test.YtinkcmefgciifaaGreatPure
import Derived.Test.YtinkcmefgciifaaGreatPuX1
namespace Go.Pu
open Go.Dn
open Int (tmod)
set_option linter.unusedSimpArgs false
set_option linter.unusedVariables false
noncomputable section
variable {s x:Bytes} {h:Host} {a b d z:Int} {i k n:Nat} {p:aN} {q:bR} {g:eh} {t:dD} {R α:Type} {l:aw aA} {m:bM} {f:bM×bR} {r:lN}
/- Writes through mappings: the program's and the reference's results are one. -/
def Ec (x:Bytes)(o:Nat)(t:Bytes):Bytes:=x.take o++(t++x.drop (o+t.length))
theorem ZQ {o:Nat}{t:Bytes}(h:o+t.length<=x.length):(Ec x o t).length=x.length:=by simp only[Ec,ai,aY,aM];omega
theorem ZT (x:Bytes)(o:Nat)(t:Bytes):aJ (Az (dj x) o (dj t))=Ec x o t:=by
 have e:Az (dj x) o (dj t)=dj (Ec x o t):=by simp only[Az,Ec,dj,List.map_append,List.map_take,List.map_drop,da]
 rw[e,JP]
theorem adb {o:Nat}{t:Bytes}(h:o+t.length<=x.length):uW x (o:Int) t=Ec x o t:=by unfold uW eV;rw[ar ⟨by omega,by omega⟩];simp only[ah,az,Ec,aR]
def yN:Nat->bM->Nat->Bytes->bM
 |0,m,_,_=>m
 |n+1,m,a,s=>if s.length=0 then m else
  yN n (m.set (a/128) (Ec (m.getD (a/128) []) (a%128) (s.take (128-a%128)))) (a+min (128-a%128) s.length) (s.drop (128-a%128))
def Bm (m:bM):Prop:=(∀x∈m,x.length=128)/\m.length<=64
theorem qC:cE m=true↔Bm m:=mem_iff
theorem HD {p:Nat}(h:Bm m)(hx:x.length=128):Bm (m.set p x):=by refine⟨λy hy=>?_,by rw[aC];exact h.2⟩;rcases List.mem_or_eq_of_mem_set hy with g|g;exact h.1 y g;rw[g];exact hx
theorem E8 (h:Bm m){a:Nat}(hs:s.length≠0)(ha:a+s.length<=128*m.length): ∃(hp:a/128<m.length),(m[a/128]'hp).length=128/\(Ec (m[a/128]'hp) (a%128) (s.take (128-a%128))).length=128:=by
 have hp:a/128<m.length:=by omega
 have hl:=h.1 _ (bk hp);refine⟨hp,hl,?_⟩;rw[ZQ (by rw[aY,hl];omega),hl]
theorem xT:∀(n:Nat){m:bM}{a:Nat}{s:Bytes},Bm m->a+s.length<=128*m.length->Bm (yN n m a s)/\(yN n m a s).length=m.length
 |0,m,a,s,h,_=>⟨h,rfl⟩
 |n+1,m,a,s,h,ha=>by rw[yN];split;exact⟨h,rfl⟩;rename_i hs;obtain⟨hp,hl,ho⟩:=E8 h hs ha;rw[cL hp];have:=xT n (m:=m.set (a/128) (Ec m[a/128] (a%128) (s.take (128-a%128)))) (a:=a+min (128-a%128) s.length) (s:=s.drop (128-a%128)) (HD h ho) (by rw[aC,aM];omega);rw[aC]at this;exact this
theorem D7 (K:Int->Bytes->bM->ax R)(K':bM->ax R)(hK:∀a m,K a [] m=K' m):∀(n:Nat)(m:bM)(a:Nat)(s:Bytes)(f:Nat),s.length<=n->n<f->Bm m->a+s.length<=128*m.length->
 aX (mw K ([]:bM)) f ((a:Int),s,m)=K' (yN n m a s)
 |n,m,a,s,0,_,hf,_,_=>by omega
 |n,m,a,s,f+1,hs,hf,hm,ha=>by
  rw[aX];simp only[mw];by_cases h0:s.length=0;have:s=[]:=bS h0;subst this;rw[aq (by simp),af,hK];cases n<;>simp[yN];cases n with
  |zero=>omega
  |succ n=>
   obtain⟨hp,hl,ho⟩:=E8 hm h0 ha;have h64:=hm.2;have e1:Int.tdiv (a:Int) 128=((a/128:Nat):Int):=Tq a 128;have e2:tmod (a:Int) 128=((a%128:Nat):Int):=N9 a 128;rw[jK,ah,lZ,e1,e2,ak (n:=((a/128:Nat):Int)),bf hp,ab,aP,lZ];have oP:sub (dj m[a/128]) ((a%128:Nat):Int) ((dj m[a/128]).length:Int)=some ((dj m[a/128]).drop (a%128)):=by rw[Jy _ _ _ (by rw[F7];omega) (aU _),bK (by rw[aM];exact aU _)]
   rw[oP,ab,lZ,ab,ab];have hd:((dj m[a/128]).drop (a%128)).length=128-a%128:=by rw[aM,F7,hl]
   rw[hd];have hdr:s.drop (min (128-a%128) s.length)=s.drop (128-a%128):=by by_cases h3:128-a%128<=s.length;rw[gN h3];rw[Nat.min_eq_right (by omega),cK (aU _),cK (by omega)]
   have ajl:sub s (((min (128-a%128) s.length:Nat)):Int) ((s.length:Int))=some (s.drop (128-a%128)):=by rw[<-hdr];unfold sub;rw[zip];simp
   rw[ajl,ab,ak (n:=(a:Int)+((min (128-a%128) s.length:Nat):Int)),az,az,ZT];rw[yN,aH h0,cL hp,show(a:Int)+((min (128-a%128) s.length:Nat):Int)=((a+min (128-a%128) s.length:Nat):Int) by omega];exact D7 K K' hK n _ _ _ f (by rw[aM];omega) (by omega) (HD hm ho) (by rw[aC,aM];omega)
theorem Ei (K:Int->Bytes->bM->ax R)(K':bM->ax R)(hK:∀a m,K a [] m=K' m):∀(n:Nat)(m:bM)(a:Nat)(s:Bytes)(f:Nat),s.length<=n->n<f->Bm m->a+s.length<=128*m.length->
 aX (mE K ([]:bM)) f ((a:Int),s,m)=K' (yN n m a s)
 |n,m,a,s,0,_,hf,_,_=>by omega
 |n,m,a,s,f+1,hs,hf,hm,ha=>by
  rw[aX];simp only[mE];by_cases h0:s.length=0;have:s=[]:=bS h0;subst this;rw[aq (by simp),af,hK];cases n<;>simp[yN];cases n with
  |zero=>omega
  |succ n=>
   obtain⟨hp,hl,ho⟩:=E8 hm h0 ha;have h64:=hm.2;have e1:Int.tdiv (a:Int) 128=((a/128:Nat):Int):=Tq a 128;have e2:tmod (a:Int) 128=((a%128:Nat):Int):=N9 a 128;rw[jK,ah,lZ,lZ,lZ,e1,e2,ak (n:=((a/128:Nat):Int)),ak (n:=128-((a%128:Nat):Int)),bf hp,ab];obtain⟨c,hc⟩:∃c,min (128-a%128) s.length=c:=⟨_,rfl⟩
   rw[show(if 128-((a%128:Nat):Int)<(s.length:Int) then 128-((a%128:Nat):Int) else(s.length:Int))=(c:Int) by split<;>omega];have ht:s.take c=s.take (128-a%128):=by by_cases h3:128-a%128<=s.length;rw[<-hc,gN h3];rw[<-hc,Nat.min_eq_right (by omega),bK (aU _),bK (by omega)]
   have hdr:s.drop c=s.drop (128-a%128):=by by_cases h3:128-a%128<=s.length;rw[<-hc,gN h3];rw[<-hc,Nat.min_eq_right (by omega),cK (aU _),cK (by omega)]
   have hs1:sub s 0 (c:Int)=some (s.take (128-a%128)):=by rw[<-ht];unfold sub;rw[zip];simp
   have hs2:sub s (c:Int) (s.length:Int)=some (s.drop (128-a%128)):=by rw[<-hdr];unfold sub;rw[zip];simp
   rw[hs1,ab,GB _ _ _,ab,ab,ab,hs2,ab,adb (by rw[aY,hl];omega),ak (n:=(a:Int)+(c:Int)),az];rw[yN,aH h0,cL hp,hc,show(a:Int)+(c:Int)=((a+c:Nat):Int) by omega];exact Ei K K' hK n _ _ _ f (by rw[aM];omega) (by omega) (HD hm ho) (by rw[aC,aM];omega)
def qR (m:bM)(a:Int)(s:Bytes):bM×Bool:=bif gu m a (s.length:Int) then(yN s.length m a.toNat s,true) else(m,false)
theorem Vo (m:bM)(a:Int)(s:Bytes)(h:m.length<=10^9)(hs:s.length<=10^9):qx m a s=some (qR m a s):=by have Ak:=dR;unfold qx qR;rw[eS m,ab,CD m _ _ h,ab];cases hw:gu m a (s.length:Int);rfl;simp only[gu,ae,aB]at hw;obtain⟨a,rfl⟩:=aV hw.2.2.1;simp only[aj,af,ah,az];exact D7 _ (λm=>some (m,true)) (λ_ _=>rfl) s.length m a s fuel (aU _) (by omega) (qC.1 hw.1) (by omega)
theorem Wm (m:bM)(a:Int)(s:Bytes)(h:m.length<=10^9)(hs:s.length<=10^9):qL m a s=some (qR m a s):=by have Ak:=dR;unfold qL qR;rw[Bk m,ab,II m _ _ h,ab];cases hw:gu m a (s.length:Int);rfl;simp only[gu,ae,aB]at hw;obtain⟨a,rfl⟩:=aV hw.2.2.1;simp only[aj,af,ah,az];exact Ei _ (λm=>some (m,true)) (λ_ _=>rfl) s.length m a s fuel (aU _) (by omega) (qC.1 hw.1) (by omega)
theorem C7 (m:bM)(a:Int)(s:Bytes):(qR m a s).1.length=m.length:=by unfold qR;cases hw:gu m a (s.length:Int);rfl;simp only[gu,ae,aB]at hw;exact(xT s.length (qC.1 hw.1) (by omega)).2
def Ll:aw (Int×Int)->bM->Bytes->bM
 |[],m,_=>m
 |p::q,m,s=>Ll q (qR m p.1 (s.take p.2.toNat)).1 (s.drop p.2.toNat)
theorem SO:∀(q:aw (Int×Int))(m:bM)(s:Bytes),(Ll q m s).length=m.length
 |[],m,s=>rfl
 |p::q,m,s=>by rw[Ll,SO q,C7]
def Jh (q:aw (Int×Int)):Int:=(q.map (·.2)).sum
theorem XL:∀(q:aw (Int×Int)),(∀p∈q,0<=p.2)->0<=Jh q
 |[],_=>dL _
 |p::q,h=>by have:=XL q (λx hx=>h x (by simp[hx]));have:=h p (by simp);simp only[Jh,cV,List.sum_cons]at*;omega
theorem SS {p:Int×Int}{q:aw (Int×Int)}(hc:∀x∈p::q,0<=x.2)(hs:(s.length:Int)=Jh (p::q)):0<=p.2/\p.2<=(s.length:Int)/\((s.drop p.2.toNat).length:Int)=Jh q:=by
 have h1:=hc p (by simp);have h2:=XL q (λx hx=>hc x (by simp[hx]));have h3:Jh (p::q)=p.2+Jh q:=by simp[Jh]
 rw[h3]at hs;refine⟨h1,by omega,?_⟩;rw[aM];omega
theorem N7 {c:Int}(h0:0<=c)(h1:c<=(s.length:Int)):sub s 0 c=some (s.take c.toNat):=by unfold sub;rw[zip];simp
theorem Tm {c:Int}(h0:0<=c)(h1:c<=(s.length:Int)):sub s c (s.length:Int)=some (s.drop c.toNat):=by unfold sub;rw[zip];simp
theorem Io (K:Bytes->Int->bM->ax (bM×Bool))(hK:∀s i m,K s i m=some (m,true)):∀(rest pre:aw (Int×Int))(m:bM)(s:Bytes)(f:Nat),rest.length<f->pre.length+rest.length<=1000000->(∀x∈rest,0<=x.2)->(s.length:Int)=Jh rest->m.length<=10^9->s.length<=1000000->
 aX (wo K (pre++rest) ((pre++rest).length:Int) ([]:bM)) f (s,(pre.length:Int),m)=some (Ll rest m s,true)
 |rest,pre,m,s,0,hf,_,_,_,_,_=>by omega
 |[],pre,m,s,f+1,_,_,_,_,_,_=>by rw[aX];simp only[wo];rw[aq (by simp),af,hK];rfl
 |p::q,pre,m,s,f+1,hf,hn,hc,hs,hm,hl=>by
  obtain⟨h1,h2,h3⟩:=SS hc hs;simp only[bc]at hf hn;have hi:pre.length<(pre++p::q).length:=by simp
  have hp:(pre++p::q)[pre.length]=p:=by simp
  rw[aX];simp only[wo];rw[ar (by simp;omega),bf hi,hp,ak];simp only[ah,ab,N7 h1 h2,Tm h1 h2,Vo m _ _ hm (show(s.take p.2.toNat).length<=10^9 by rw[aY];omega)];have key:=Io K hK q (pre++[p]) (qR m p.1 (s.take p.2.toNat)).1 (s.drop p.2.toNat) f (by omega) (by simp;omega) (λx hx=>hc x (by simp[hx])) h3 (by rw[C7];exact hm) (by rw[aM];omega);have el:((pre++[p]).length:Int)=(pre.length:Int)+1:=by simp
  rw[aR,List.singleton_append,el]at key;rw[Ll];exact key
theorem IH (K:Bytes->Int->bM->ax (bM×Bool))(hK:∀s i m,K s i m=some (m,true)):∀(rest pre:aw (Int×Int))(m:bM)(s:Bytes)(f:Nat),rest.length<f->pre.length+rest.length<=1000000->(∀x∈rest,0<=x.2)->(s.length:Int)=Jh rest->m.length<=10^9->s.length<=1000000->
 aX (na K ((pre++rest).map (·.1)) ((pre++rest).map (·.2)) ([]:bM)) f (s,(pre.length:Int),m)=some (Ll rest m s,true)
 |rest,pre,m,s,0,hf,_,_,_,_,_=>by omega
 |[],pre,m,s,f+1,_,_,_,_,_,_=>by rw[aX];simp only[na];rw[aq (by simp),af,hK];rfl
 |p::q,pre,m,s,f+1,hf,hn,hc,hs,hm,hl=>by
  obtain⟨h1,h2,h3⟩:=SS hc hs;simp only[bc]at hf hn;have hi:pre.length<(pre++p::q).length:=by simp
  have hp:(pre++p::q)[pre.length]=p:=by simp
  have i1:idx ((pre++p::q).map (·.1)) (pre.length:Int)=some p.1:=by rw[bf (by simp),List.getElem_map,hp]
  have i2:idx ((pre++p::q).map (·.2)) (pre.length:Int)=some p.2:=by rw[bf (by simp),List.getElem_map,hp]
  rw[aX];simp only[na];rw[ar (by simp;omega),i1,i2,ak];simp only[ah,ab,N7 h1 h2,Tm h1 h2,Wm m _ _ hm (show(s.take p.2.toNat).length<=10^9 by rw[aY];omega)];have key:=IH K hK q (pre++[p]) (qR m p.1 (s.take p.2.toNat)).1 (s.drop p.2.toNat) f (by omega) (by simp;omega) (λx hx=>hc x (by simp[hx])) h3 (by rw[C7];exact hm) (by rw[aM];omega);have el:((pre++[p]).length:Int)=(pre.length:Int)+1:=by simp
  rw[aR,List.singleton_append,el]at key;rw[Ll];exact key
theorem Ld (l:aw aA)(m:bM)(d:Int)(w:Bool):∀(n a r:Nat)(q:aw (Int×Int)),r<=n->kU l m d w n a r=some q->Jh q=(r:Int)/\(∀p∈q,0<=p.2)/\q.length<=n
 |0,a,r,q,hr,h=>by simp only[kU,aZ]at h;subst h;exact⟨by show(0:Int)=_;omega,by simp,by simp⟩
 |n+1,a,r,q,hr,h=>by simp only[kU]at h;split at h;simp only[aZ]at h;subst h;exact⟨by show(0:Int)=_;omega,by simp,by simp⟩;split at h;simp only[Option.map_eq_some_iff]at h;obtain⟨q',h1,rfl⟩:=h;obtain⟨i1,i2,i3⟩:=Ld l m d w n _ _ q' (by omega) h1;refine⟨?_,?_,by simp only[bc];omega⟩;simp only[Jh,cV,List.sum_cons]at i1⊢;rw[i1];omega;intro p hp;rcases bO.1 hp with rfl|hp;show(0:Int)<=((min (128-a%128) r:Nat):Int);omega;exact i2 p hp;cases h
theorem N1 (l:aw aA)(m:bM)(d a n:Int)(w:Bool)(h:(kD l m d a n w).2=true):Jh (kD l m d a n w).1=n/\(∀p∈(kD l m d a n w).1,0<=p.2)/\(kD l m d a n w).1.length<=4096/\n<=4096:=by
 unfold kD at h⊢;cases hB:dF l&&(cE m&&dm n 0 4096)with|false=>rw[hB]at h;simp at h|true=>?_
 rw[hB]at h;simp only[ae,bg]at hB;simp only[ah]at h⊢;cases h0:n==0 with
 |true=>
  have:n=0:=by simpa using h0
  subst this;exact⟨rfl,by simp,by simp,by omega⟩
 |false=>rw[h0]at h;simp only[af]at h⊢;cases ha:decide (a<0)with|true=>rw[ha]at h;simp at h|false=>rw[ha]at h;simp only[af]at h⊢;cases hq:kU l m d w n.toNat a.toNat n.toNat with|none=>rw[hq]at h;cases h|some q=>obtain⟨i1,i2,i3⟩:=Ld l m d w _ _ _ q (aU _) hq;exact⟨by simp only;rw[i1];omega,i2,by simp only;omega,by omega⟩
def hY (l:aw aA)(m:bM)(d a:Int)(s:Bytes)(w:Bool):bM×Bool:=
 bif (kD l m d a (s.length:Int) w).2 then(Ll (kD l m d a (s.length:Int) w).1 m s,true) else(m,false)
theorem jG (l:aw aA)(m:bM)(d a:Int)(s:Bytes)(w:Bool):(hY l m d a s w).1.length=m.length:=by unfold hY;cases (kD l m d a (s.length:Int) w).2 with|false=>rfl|true=>exact SO _ _ _
theorem RV (l:aw aA)(m:bM)(d a:Int)(s:Bytes)(w:Bool)(hl:l.length<=10^9)(hm:m.length<=10^9)(ha:a<=9223372036854775807):CF l m d a s w=some (hY l m d a s w):=by have Ak:=dR;unfold CF hY;rw[eS m,ab,RX l m d a _ w hl hm ha,ab];have hS:=N1 l m d a (s.length:Int) w;generalize kD l m d a (s.length:Int) w=r at hS⊢;cases hr:r.2;rfl;obtain⟨h1,h2,h3,h4⟩:=hS hr;simp only[aj,af,ah];exact Io _ (λ_ _ _=>rfl) r.1 [] m s fuel (by omega) (by simp;omega) h2 h1.symm hm (by omega)
theorem Gy (l:aw aA)(m:bM)(d a:Int)(s:Bytes)(hl:l.length<=10^9)(hm:m.length<=10^9)(ha:a<=9223372036854775807):rK l m d a s=some (hY l m d a s true):=by have Ak:=dR;unfold rK hY;rw[aaq l m d a _ true hl hm ha,ab,Bk m,ab];have hS:=N1 l m d a (s.length:Int) true;generalize kD l m d a (s.length:Int) true=r at hS⊢;cases hr:r.2;rfl;obtain⟨h1,h2,h3,h4⟩:=hS hr;simp only[aj,af,ah];exact IH _ (λ_ _ _=>rfl) r.1 [] m s fuel (by omega) (by simp;omega) h2 h1.symm hm (by omega)
theorem Ba (l:aw aA)(m:bM)(d a:Int)(s:Bytes)(hl:l.length<=10^9)(hm:m.length<=10^9)(ha:a<=9223372036854775807):oJ l m d a s=some (hY l m d a s true):=by rw[oJ,RV l m d a s true hl hm ha];rfl
def wrM (x:aA):aA:=(x.1,x.2.1,x.2.2.1,true)
theorem getD_map (hi:i<l.length):(l.map wrM).getD i Ht=wrM (l.getD i Ht):=by rw[cL (by simpa using hi),cL hi,List.getElem_map]
theorem PG (l:aw aA):dF (l.map wrM)=dF l:=by
 unfold dF;rw[da];congr 1;rw[cq,aG,aG];have key:∀i,i<l.length->Hs (l.map wrM) i=Hs l i:=by
  intro i hi;unfold Hs;rw[getD_map hi];congr 1;rw[cq,aG,aG];constructor;intro h j hj;have hjl:j<l.length:=by have:=bT.1 hj;omega
  have:=h j hj;rw[getD_map hjl]at this;exact this;intro h j hj;have hjl:j<l.length:=by have:=bT.1 hj;omega
  rw[getD_map hjl];exact h j hj
 constructor;intro h i hi;rw[<-key i (bT.1 hi)];exact h i hi;intro h i hi;rw[key i (bT.1 hi)];exact h i hi
theorem ac7 (l:aw aA)(d p:Int):rF (l.map wrM) d p true=rF l d p false:=by
 unfold rF;rw[List.findIdx?_map];have e:(ER d p true∘wrM)=ER d p false:=by funext x;simp only[Function.comp,ER,kB,wrM,bF,jv,iv]
 rw[e];cases hf:l.findIdx? (ER d p false)with|none=>rfl|some i=>obtain⟨hi,_⟩:=List.findIdx?_eq_some_iff_getElem.1 hf;simp only[getD_map hi];rfl
theorem NV (l:aw aA)(m:bM)(d:Int):∀n a r,kU (l.map wrM) m d true n a r=kU l m d false n a r
 |0,a,r=>rfl
 |n+1,a,r=>by simp only[kU,ac7,NV l m d n]
theorem aff (l:aw aA)(m:bM)(d a:Int)(s:Bytes):hY (l.map wrM) m d a s true=hY l m d a s false:=by
 have e:kD (l.map wrM) m d a (s.length:Int) true=kD l m d a (s.length:Int) false:=by simp only[kD,PG,NV]
 simp only[hY,e]
theorem ME (l:aw aA)(m:bM)(d a:Int)(s:Bytes)(hl:l.length<=10^9)(hm:m.length<=10^9)(ha:a<=9223372036854775807):ui l m d a s=some (hY l m d a s false):=by unfold ui;refine eG (λi=>((l.take i).map wrM,(i:Int))) l.length (by omega) (λi nx hi=>?_) (λnx=>?_);simp only[py];rw[jK,bf hi,ak];simp only[ah,ab];rw[aP (by simp;omega),bQ hi,List.map_append];rfl;simp only[py];rw[cB,af,eR,Gy _ m d a s (by rw[da];exact hl) hm ha,aff];rfl
theorem zR (l:aw aA)(m:bM)(d a:Int)(s:Bytes)(hl:l.length<=10^9)(hm:m.length<=10^9)(ha:a<=9223372036854775807:=by omega):ji l m d a s=some (hY l m d a s false):=by rw[ji,RV l m d a s false hl hm ha];rfl
def sR (d:Db):Bool:=dm d.1 0 3&&(dm d.2.1 0 3&&(dm d.2.2.1 0 65535&&(dm d.2.2.2.2.1 0 65535&&(dm d.2.2.2.2.2 0 65535&&dm d.2.2.2.1 0 4294967295))))
theorem RQ (d:Db):wj d=some (sR d):=by simp only[wj,di,ab,sR];cases dm d.1 0 3<;>cases dm d.2.1 0 3<;>cases dm d.2.2.1 0 65535<;>cases dm d.2.2.2.2.1 0 65535<;>cases dm d.2.2.2.2.2 0 65535<;>rfl
theorem adv (d:Db):zD d=some (sR d):=by simp only[zD,eu,ab,sR];cases dm d.1 0 3<;>cases dm d.2.1 0 3<;>cases dm d.2.2.1 0 65535<;>cases dm d.2.2.2.2.1 0 65535<;>cases dm d.2.2.2.2.2 0 65535<;>rfl
def xk (d:Db):Bytes:=
 bif sR d then((((aJ [fU d.1,fU d.2.1]++bP d.2.2.1)++iR d.2.2.2.1)++bP d.2.2.2.2.1)++bP d.2.2.2.2.2)++iR 0 else []
theorem afp (d:Db):sr d=some (xk d):=by have h1:=bD d.2.2.1;have h2:=ez d.2.2.2.1;have h3:=bD d.2.2.2.2.1;have h4:=bD d.2.2.2.2.2;have h5:=ez 0;have h0:(aJ [fU d.1,fU d.2.1]).length=2:=rfl;unfold sr xk;rw[adv,ab];cases sR d;rfl;simp only[aj,af,ah,nN,pY,ab];rw[aP,aP (by simp only[ai];omega),aP (by simp only[ai];omega),aP (by simp only[ai];omega),aP (by simp only[ai];omega)]
theorem Ps (d:Db):kX d=some (xk d):=by have h1:=bD d.2.2.1;have h2:=ez d.2.2.2.1;have h3:=bD d.2.2.2.2.1;have h4:=bD d.2.2.2.2.2;have h5:=ez 0;have h0:(aJ [fU d.1,fU d.2.1]).length=2:=rfl;unfold kX xk;rw[RQ,ab];cases sR d;rfl;simp only[aj,af,ah,kt,yy,ab];rw[aP,aP (by simp only[ai];omega),aP (by simp only[ai];omega),aP (by simp only[ai];omega),aP (by simp only[ai];omega)]
def nW (r:lN):Int:=bif cW r then au (r.2.1-bE r) else 0
def om (r:lN)(c:Int):Int:=bif !cW r||decide (c<0) then-1 else r.1+tmod c r.2.1*16
theorem kL (h:cW r=true):0<=r.1/\r.1<=130944/\(r.2.1=2\/r.2.1=4\/r.2.1=8\/r.2.1=16)/\0<=r.2.2.1/\r.2.2.1<=2*r.2.1-1/\0<=r.2.2.2/\r.2.2.2<=2*r.2.1-1:=by simp only[cW,ae,bg]at h;exact⟨h.1.1,h.1.2,gI.1 h.2.1,h.2.2.1.1,h.2.2.1.2,h.2.2.2.1.1,h.2.2.2.1.2⟩
theorem CU (r:lN)(c:Int): -1<=om r c/\om r c<=200000:=by
 unfold om;cases hc: !cW r||decide (c<0)with
 |true=>exact⟨dL _,by simp⟩
 |false=>
  simp only[cg,dz,cP]at hc;have h:=kL hc.1;have h2:0<=tmod c r.2.1/\tmod c r.2.1<r.2.1:=by rw[df (by omega)];exact⟨eI _ (by omega),eJ _ (by omega)⟩
  simp only[af];omega
def cM (l:aw aA)(m:bM)(d:Int)(r:lN)(s:Bytes):bM×lN×Bool:=
 bif (nW r==0)||((s.length:Int) !=16) then(m,r,false) else
 bif !(hY l m d (om r r.2.2.2) s true).2 then(m,r,false) else
 ((hY l m d (om r r.2.2.2) s true).1,(r.1,r.2.1,r.2.2.1,tmod (r.2.2.2+1) (2*r.2.1)),true)
theorem HI {w:Bool}(h:(hY l m d a s w).2=false):(hY l m d a s w).1=m:=by unfold hY at h⊢;cases hr:(kD l m d a (s.length:Int) w).2 with|false=>rfl|true=>rw[hr]at h;cases h
theorem HS (r:lN):rO r=some (nW r):=by unfold rO nW;rw[LD,ab];cases cW r;rfl;simp only[aj,af,ah,Th,ab]
theorem aat (r:lN)(c:Int):qG r c=some (om r c):=by
 have sJ:=CU r c;unfold qG;rw[LD,ab];unfold om at sJ⊢;cases hb:cW r;rfl;have h:=kL hb;by_cases hc:c<0;rw[ar hc];rfl;rw[hb,aq hc]at sJ;rw[aq hc];have h2:0<=tmod c r.2.1/\tmod c r.2.1<r.2.1:=by rw[df (by omega)];exact⟨eI _ (by omega),eJ _ (by omega)⟩
 simp only[aj,af,ab,bZ]at sJ⊢;rw[lZ,ak (n:=16*tmod c r.2.1),ak];congr 1;omega
theorem Tf (l:aw aA)(m:bM)(d:Int)(r:lN)(s:Bytes)(hl:l.length<=10^9)(hm:m.length<=10^9):xC l m d r s=some (cM l m d r s):=by
 have hA:=CU r r.2.2.2;unfold xC cM;simp only[HS,ab,aat,Gy l m d _ s hl hm (show om r r.2.2.2<=9223372036854775807 by omega),Bk m (show m.length<=1073741824 by omega)];cases hf:nW r==0;case true=>rfl
 cases (s.length:Int) !=16;case true=>rfl
 have hb:cW r=true:=by cases hb:cW r with|true=>rfl|false=>unfold nW at hf;rw[hb]at hf;cases hf
 have h:=kL hb;simp only[af,ab,bZ];cases hp:(hY l m d (om r r.2.2.2) s true).2 with|false=>simp only[bF,ah,HI hp]|true=>simp only[aj,af];rw[ak (n:=2*r.2.1),lZ,ak (n:=r.2.2.2+1)]
theorem Np (r:lN):ru r=some (nW r):=by unfold ru nW;rw[wi,ab];cases cW r;rfl;simp only[aj,af,ah,yw,ab]
theorem Nu (r:lN)(c:Int):mP r c=some (om r c):=by
 have sJ:=CU r c;unfold mP;rw[wi,ab];unfold om at sJ⊢;cases hb:cW r;rfl;have h:=kL hb;by_cases hc:c<0;rw[ar hc];rfl;rw[hb,aq hc]at sJ;rw[aq hc];have h2:0<=tmod c r.2.1/\tmod c r.2.1<r.2.1:=by rw[df (by omega)];exact⟨eI _ (by omega),eJ _ (by omega)⟩
 simp only[aj,af,ab,bZ]at sJ⊢;rw[lZ,ak (n:=tmod c r.2.1*16),ak]
theorem Iq (l:aw aA)(m:bM)(d:Int)(r:lN)(s:Bytes)(hl:l.length<=10^9)(hm:m.length<=10^9):tO l m d r s=some (cM l m d r s):=by
 have hA:=CU r r.2.2.2;unfold tO cM;simp only[Np,ab,Nu,Ba l m d _ s hl hm (show om r r.2.2.2<=9223372036854775807 by omega),eS m (show m.length<=1073741824 by omega)];cases hf:nW r==0;case true=>rfl
 cases (s.length:Int) !=16;case true=>rfl
 have hb:cW r=true:=by cases hb:cW r with|true=>rfl|false=>unfold nW at hf;rw[hb]at hf;cases hf
 have h:=kL hb;simp only[af,ab,bZ];cases hp:(hY l m d (om r r.2.2.2) s true).2 with|false=>simp only[bF,ah,HI hp]|true=>simp only[aj,af];rw[ak (n:=2*r.2.1),lZ,ak (n:=r.2.2.2+1)]
theorem xx {p:cR}(h:dx p=true):0<=p.1/\p.1<=130944/\1<=p.2.1/\p.2.1<=512/\0<=p.2.2.1/\p.2.2.1<=16:=by simp only[dx,ae,bg]at h;exact⟨h.1.1,h.1.2,h.2.1.1,h.2.1.2,h.2.2.1.1,h.2.2.1.2⟩
def nV (p:cR)(i:Int):Int:=bif !dx p|| !dm i 0 (p.2.2.1-1) then-1 else p.1+i*p.2.1
theorem WR {p:cR}{i:Int}(hp:dx p=true)(hi:dm i 0 (p.2.2.1-1)=true):au (p.1+au (i*p.2.1))=p.1+i*p.2.1:=by have h:=xx hp;have h2:=bg.1 hi;have h3:0<=i*p.2.1:=Int.mul_nonneg h2.1 (by omega);have h4:i*p.2.1<=16*512:=Int.mul_le_mul (by omega) (by omega) (by omega) (by omega);rw[ak (n:=i*p.2.1),ak]
theorem adu (p:cR)(i:Int)(h:p.2.2.2.length<=10^9):nO p i=some (nV p i):=by unfold nO nV;rw[GA p h,ab];cases hp:dx p;rfl;have sJ:=xx hp;rw[ak (n:=p.2.2.1-1),eu];cases hi:dm i 0 (p.2.2.1-1);rfl;simp only[aj,af,ab,bZ,WR hp hi]
theorem FQ (p:cR)(i:Int)(h:p.2.2.2.length<=10^9):fL p i=some (nV p i):=by unfold fL nV;rw[tC p h,ab];cases hp:dx p;rfl;have sJ:=xx hp;rw[ak (n:=p.2.2.1-1),di];cases hi:dm i 0 (p.2.2.1-1);rfl;simp only[aj,af,ab,bZ,WR hp hi]
def upto (n:Nat):cw:=(List.range n).map Int.ofNat
theorem Oa (n:Nat):upto (n+1)=upto n++[(n:Int)]:=by simp[upto,List.range_succ]
theorem ad8 (h:i<n):(upto n).getD i 0=(i:Int):=by rw[cL (by simpa[upto]using h)];simp[upto]
theorem V0 (a b:Int)(n:Nat)(hn:n<=16):dx (a,b,(n:Int),upto n)=dx (a,b,(n:Int),[]):=by
 unfold dx;congr 3;have h1:(List.range (upto n).length).all (Cn (n:Int) (upto n))=true:=by
  rw[aG];intro i hi;have hi:i<n:=by simpa[upto]using hi
  simp only[Cn,ad8 hi,ae,bg,aK];refine⟨by omega,?_⟩;rw[Bool.eq_false_iff,ne_eq,List.contains_iff_mem];intro hm;simp only[upto,<-List.map_take,List.mem_map]at hm;obtain⟨j,hj,he⟩:=hm;rw[List.take_range]at hj;have:=bT.1 hj;have:(j:Int)=(i:Int):=he;omega
 rw[h1];rfl
def gV (a b n:Int):cR×Bool:=bif dx (a,b,n,[]) then((a,b,n,upto n.toNat),true) else((0,0,0,[]),false)
theorem Im (a b n:Int):tK a b n=some (gV a b n):=by
 unfold tK gV;rw[tC _ (by simp),ab];cases hp:dx (a,b,n,[]);rfl;have sJ:=xx hp;obtain⟨n,rfl⟩:=aV (show 0<=n from sJ.2.2.2.2.1);have h16:n<=16:=by have:=sJ.2.2.2.2.2;simp only at this;omega
 simp only[aj,af,ah,az];refine eG (λi=>((i:Int),a,b,(n:Int),upto i)) n (by omega) (λi nx hi=>?_) (λnx=>?_);simp only[sa];rw[jK,aP (by simp[upto];omega),ak,Oa];rfl;simp only[sa];rw[cB];rfl
theorem IG (a b n:Int):uk a b n=some (gV a b n):=by
 have Ak:=dR;unfold uk gV;by_cases hn:0<=n/\n<=16;obtain⟨n,rfl⟩:=aV hn.1;have h16:n<=16:=by omega
 refine eG (λi=>((i:Int),a,b,(n:Int),upto i)) n (by omega) (λi nx hi=>?_) (λnx=>?_);simp only[oo];rw[ar (show(i:Int)<n by omega),ar (show(n:Int)<=16 by omega)];simp only[ah,ab];rw[aP (by simp[upto];omega),ak,Oa];rfl;simp only[oo];rw[aq (show¬(n:Int)<n by omega)];simp only[af,ab,GA (a,b,(n:Int),upto n) (show(upto n).length<=10^9 by simp[upto];omega),V0 a b n h16,az];cases dx (a,b,(n:Int),[])<;>rfl;have hb:dx (a,b,n,[])=false:=by cases hp:dx (a,b,n,[])with|false=>rfl|true=>have:=xx hp;exact absurd ⟨this.2.2.2.2.1,this.2.2.2.2.2⟩ hn
 obtain⟨f,hf⟩:∃f,fuel=f+1:=⟨fuel-1,by omega⟩
 rw[hf,aX];simp only[oo];have hc:(cond (decide ((0:Int)<n)) (some (decide (n<=16))) (some false))=some false:=by by_cases h0:(0:Int)<n;rw[ar h0,cB];rfl;rw[aq h0];rfl
 rw[hc];simp only[ab,af,GA (a,b,n,[]) (show([]:cw).length<=10^9 by simp),hb];rfl
def eP (p:cR)(b:Int):Bytes:=xk (3,0,p.2.1,nV p b,0,b)
def lY (l:aw aA)(d:Int)(p:cR):cw->bM->lN->Nat×bM×lN
 |[],m,r=>(0,m,r)
 |b::q,m,r=>bif (cM l m d r (eP p b)).2.2 then
   ((lY l d p q (cM l m d r (eP p b)).1 (cM l m d r (eP p b)).2.1).1+1,(lY l d p q (cM l m d r (eP p b)).1 (cM l m d r (eP p b)).2.1).2)
  else(0,m,r)
theorem ud (l:aw aA)(m:bM)(d:Int)(r:lN)(s:Bytes):(cM l m d r s).1.length=m.length:=by
 unfold cM;cases (nW r==0)||((s.length:Int) !=16);case true=>rfl
 cases (hY l m d (om r r.2.2.2) s true).2 with|false=>rfl|true=>exact jG ..
theorem G7 (l:aw aA)(d:Int)(p:cR):∀(q:cw)(m:bM)(r:lN),(lY l d p q m r).2.1.length=m.length/\(lY l d p q m r).1<=q.length
 |[],m,r=>⟨rfl,aU _⟩
 |b::q,m,r=>by rw[lY];cases (cM l m d r (eP p b)).2.2 with|false=>exact⟨rfl,bW _⟩|true=>have:=G7 l d p q (cM l m d r (eP p b)).1 (cM l m d r (eP p b)).2.1;simp only[ah,bc];exact⟨by rw[this.1,ud],by omega⟩
theorem abV (r:lN):0<=nW r:=by
 unfold nW;cases hb:cW r with
 |false=>exact dL _
 |true=>
  have h:=kL hb;simp only[cW,ae,aB]at hb;have hu:=hb.2.2.2.2;have h0:0<=bE r:=by unfold bE;split;exact eI _ (by omega);exact dL _
  simp only[ah];rw[ak];omega
theorem PT (h:¬nW r>0):cM l m d r s=(m,r,false):=by
 have h0:=abV r;have:nW r=0:=by omega
 unfold cM;rw[this];rfl
theorem FU (K:Int->Int->lN->bM->ax R)(K':Nat->lN->bM->ax R)(hK:∀(c:Nat) i r m,K (c:Int) i r m=K' c r m)(l:aw aA)(d:Int)(p p2 p3:cR)(hp:p.2.2.2.length<=10^9)(hl:l.length<=10^9):∀(rest pre:cw)(m:bM)(r:lN)(f:Nat),rest.length<f->pre.length+rest.length<=10^9->m.length<=10^9->
 aX (mK K l d (pre++rest) ((pre++rest).length:Int) p ([]:bM) (0,0,0,0) p2 p3) f ((pre.length:Int),(pre.length:Int),r,m)=K' (pre.length+(lY l d p rest m r).1) (lY l d p rest m r).2.2 (lY l d p rest m r).2.1
 |rest,pre,m,r,0,hf,_,_=>by omega
 |[],pre,m,r,f+1,_,_,_=>by rw[aX];simp only[mK];rw[aq (by simp),af,hK];rfl
 |b::q,pre,m,r,f+1,hf,hn,hm=>by
  simp only[bc]at hf hn;have hi:pre.length<(pre++b::q).length:=by simp
  have hb:(pre++b::q)[pre.length]=b:=by simp
  rw[aX];simp only[mK];rw[ar (by simp;omega),bf hi,hb];simp only[ah,ab,FQ p b hp,Ps,Iq l m d r _ hl hm];rw[show xk (3,0,p.2.1,nV p b,0,b)=eP p b from rfl,lY];cases hq:(cM l m d r (eP p b)).2.2 with
  |false=>simp only[bF,ah,af,hK,dT]
  |true=>
   simp only[aj,af,ah];rw[ak (n:=(pre.length:Int)+1)];have key:=FU K K' hK l d p p2 p3 hp hl q (pre++[b]) (cM l m d r (eP p b)).1 (cM l m d r (eP p b)).2.1 f (by omega) (by simp;omega) (by rw[ud];exact hm);have el:((pre++[b]).length:Int)=(pre.length:Int)+1:=by simp
   have el2:(pre++[b]).length=pre.length+1:=by simp
   rw[aR,List.singleton_append,el,el2]at key;rw[show pre.length+((lY l d p q (cM l m d r (eP p b)).1 (cM l m d r (eP p b)).2.1).1+1)=pre.length+1+(lY l d p q (cM l m d r (eP p b)).1 (cM l m d r (eP p b)).2.1).1 by omega];exact key
theorem Gz (K:Int->lN->bM->cR->ax R)(l:aw aA)(d:Int)(p p2:cR)(hp:p.2.2.2.length<=10^9)(hl:l.length<=10^9)(A B C:Int):∀(rest:cw)(c:Nat)(m:bM)(r:lN)(f:Nat),rest.length<f->c+rest.length<=10^9->m.length<=10^9->
 aX (nd K l d p ([]:bM) (0,0,0,0) p2) f ((c:Int),r,m,A,B,C,rest)=K ((c+(lY l d p rest m r).1:Nat):Int) (lY l d p rest m r).2.2 (lY l d p rest m r).2.1 (A,B,C,rest.drop (lY l d p rest m r).1)
 |rest,c,m,r,0,hf,_,_=>by omega
 |[],c,m,r,f+1,_,_,_=>by
  rw[aX];simp only[nd,HS,ab];have hc:(cond (decide (nW r>0)) (some (decide ((([]:cw).length:Int)>0))) (some false))=some false:=by cases decide (nW r>0)<;>rfl
  rw[hc];rfl
 |b::q,c,m,r,f+1,hf,hn,hm=>by
  simp only[bc]at hf hn;rw[aX];simp only[nd,HS,ab];by_cases hr:nW r>0;rw[ar hr,ar (show(((b::q).length:Nat):Int)>0 by simp)];have hi:idx (b::q) 0=some b:=rfl;have hs:sub (b::q) 1 ((b::q).length:Int)=some q:=by unfold sub;rw[aE (by simp;omega)];simp
  simp only[ah,ab,hi,adu p b hp,afp,Tf l m d r _ hl hm];rw[show xk (3,0,p.2.1,nV p b,0,b)=eP p b from rfl,lY];cases hq:(cM l m d r (eP p b)).2.2 with|false=>rfl|true=>simp only[aj,af,ah,hs,ab];rw[mX (by omega),ak (n:=(c:Int)+1),cA];have key:=Gz K l d p p2 hp hl A B C q (c+1) (cM l m d r (eP p b)).1 (cM l m d r (eP p b)).2.1 f (by omega) (by omega) (by rw[ud];exact hm);rw[show((c+1:Nat):Int)=(c:Int)+1 by omega]at key;refine Eq.trans key ?_;rw[show c+1+(lY l d p q (cM l m d r (eP p b)).1 (cM l m d r (eP p b)).2.1).1=c+((lY l d p q (cM l m d r (eP p b)).1 (cM l m d r (eP p b)).2.1).1+1) by omega];rfl
  rw[aq hr,lY,PT hr];rfl
def tu (l:aw aA)(m:bM)(d:Int)(r:lN)(p:cR):bM×lN×cR×Int:=
 bif !cW r|| !dx p then(m,r,p,0) else
 ((lY l d p p.2.2.2 m r).2.1,(lY l d p p.2.2.2 m r).2.2,(p.1,p.2.1,p.2.2.1,p.2.2.2.drop (lY l d p p.2.2.2 m r).1),((lY l d p p.2.2.2 m r).1:Int))
theorem RS (l:aw aA)(m:bM)(d:Int)(r:lN)(p:cR)(hl:l.length<=10^9)(hm:m.length<=10^9)(hp:p.2.2.2.length<=10^9):hZ l m d r p=some (tu l m d r p):=by have Ak:=dR;unfold hZ tu;simp only[eS m (show m.length<=1073741824 by omega),sQ p hp,wi,tC p hp,ab];cases cW r;rfl;cases dx p;rfl;simp only[aj,af,ab,bZ];have hlen:=(G7 l d p p.2.2.2 m r).2;refine(FU _ (λc r m=>aa (sub p.2.2.2 (c:Int) (p.2.2.2.length:Int)) λx14=>aa (eT x14) λzV=>some (m,r,(p.1,p.2.1,p.2.2.1,zV),(c:Int))) (λ_ _ _ _=>rfl) l d p _ p hp hl p.2.2.2 [] m r fuel (by omega) (by simp;omega) hm).trans ?_;rw[ef,ca,Jy _ _ _ hlen (aU _),ab,bK (by rw[aM];exact aU _),lj _ (by rw[aM];omega)];rfl
theorem adw (l:aw aA)(m:bM)(d:Int)(r:lN)(p:cR)(hl:l.length<=10^9)(hm:m.length<=10^9)(hp:p.2.2.2.length<=10^9):vR l m d r p=some (tu l m d r p):=by have Ak:=dR;unfold vR tu;simp only[Bk m (show m.length<=1073741824 by omega),Vw p hp,LD,GA p hp,ab];cases cW r;rfl;cases dx p;rfl;simp only[aj,af,ab,bZ];refine(Gz _ l d p _ hp hl p.1 p.2.1 p.2.2.1 p.2.2.2 0 m r fuel (by omega) (by omega) hm).trans ?_;rw[ca]
def jZ (p:cR)(n:Int):cR×cw×Bool:=bif dx p&&dm n 0 (p.2.2.2.length:Int) then((p.1,p.2.1,p.2.2.1,p.2.2.2.drop n.toNat),p.2.2.2.take n.toNat,true) else(p,[],false)
theorem Zb (p:cR)(n:Int)(h:p.2.2.2.length<=10^9):qv p n=some (jZ p n):=by unfold qv jZ;rw[sQ p h,ab,tC p h,ab,di];cases dx p;rfl;cases hi:dm n 0 (p.2.2.2.length:Int);rfl;have hn:=bg.1 hi;obtain⟨n,rfl⟩:=aV hn.1;simp only[aj,af,ab,eY,ah,az];rw[Tl _ n (by omega),ab,lj _ (by simp;omega),ab,show sub p.2.2.2 0 (n:Int)=some (p.2.2.2.take n) from by rw[xP (by omega) hn.2,az],ab,lj _ (by simp;omega),ab]
theorem B6:∀l:aw kO,(∀x∈l,0<=x.2.1/\x.2.1<=16)->0<=dH l/\dH l<=16*(l.length:Int)
 |[],_=>by simp[dH]
 |y::l,h=>by have h1:=B6 l (λx hx=>h x (ec _ hx));have h2:=h y (List.mem_cons_self ..);simp only[dH,cV,List.sum_cons,bc]at h1⊢;omega
theorem T9 (l:aw kO)(i:Nat)(hi:i<l.length):dH (l.take (i+1))=dH (l.take i)+l[i].2.1:=by rw[bQ hi];simp only[dH,List.map_append,List.sum_append,cV,List.map_nil,List.sum_cons,List.sum_nil,Int.add_zero]
theorem YX (t:dD)(h:t.2.2.1.length<=1000000)(hs:∀x∈t.2.2.1,0<=x.2.1/\x.2.1<=16):po t=some (dH t.2.2.1):=by
 have Ak:=dR;unfold po;refine eG (λi=>(dH (t.2.2.1.take i),(i:Int))) t.2.2.1.length (by omega) (λi nx hi=>?_) (λnx=>?_);have hb:=B6 (t.2.2.1.take i) (λx hx=>hs x (List.mem_of_mem_take hx));have hc:=hs _ (bk hi);have hl:(t.2.2.1.take i).length<=1000000:=by rw[aY];omega
 rw[T9 _ _ hi];simp only[lA];rw[jK,ah,bf hi,ab,ak (n:=(i:Int)+1),ak];rfl;simp only[lA];rw[cB,af,eR]
def qD (l:aw aA)(d:Int):bM->bM->lN->ax (bM×lN)
 |[],m,r=>some (m,r)
 |s::q,m,r=>bif (cM l m d r s).2.2 then qD l d q (cM l m d r s).1 (cM l m d r s).2.1 else none
def agc (m:bM)(r:lN):ax (bM×lN)->bM×lN×Bool
 |some x=>(x.1,x.2,true)
 |none=>(m,r,false)
def uc (l:aw aA)(m:bM)(d:Int)(r:lN)(q:bM):bM×lN×Bool:=agc m r (qD l d q m r)
theorem Iy (l:aw aA)(d:Int):∀(q:bM)(m:bM)(r:lN){x},qD l d q m r=some x->x.1.length=m.length
 |[],m,r,x,h=>by cases h;rfl
 |s::q,m,r,x,h=>by rw[qD]at h;cases hq:(cM l m d r s).2.2 with|false=>rw[hq]at h;cases h|true=>rw[hq]at h;exact(Iy l d q _ _ h).trans (ud ..)
theorem CA (l:aw aA)(d:Int)(M:bM)(A B2:lN)(B1:bM)(hl:l.length<=10^9)(hM:M.length<=10^9):∀(rest pre:bM)(m:bM)(r:lN)(f:Nat),rest.length<f->(pre++rest).length<=10^9->m.length<=10^9->
 aX (kx (λ_ y6 y7=>some (y6,y7,true)) (λy8 _ DL C8 _ _=>some (DL,C8,y8)) l d false (pre++rest) ((pre++rest).length:Int) M A B1 B2) f ((pre.length:Int),m,r)=some (agc M A (qD l d rest m r))
 |rest,pre,m,r,0,hf,_,_=>by omega
 |[],pre,m,r,f+1,_,_,_=>by rw[aX];simp only[kx];rw[aq (by simp),af];rfl
 |s::q,pre,m,r,f+1,hf,hn,hm=>by
  simp only[bc,ai]at hf hn;have hi:pre.length<(pre++s::q).length:=by simp
  have hb:(pre++s::q)[pre.length]=s:=by simp
  rw[aX];simp only[kx];rw[ar (by simp;omega),bf hi,hb];simp only[ah,ab,Iq l m d r _ hl hm];rw[qD];cases hq:(cM l m d r s).2.2 with
  |false=>simp only[bF,ah,af,eS M,ab];rfl
  |true=>
   simp only[aj,af,ah];rw[ak (n:=(pre.length:Int)+1)];have key:=CA l d M A B2 B1 hl hM q (pre++[s]) (cM l m d r s).1 (cM l m d r s).2.1 f (by omega) (by simp;omega) (by rw[ud];exact hm);have el:((pre++[s]).length:Int)=(pre.length:Int)+1:=by simp
   rw[aR,List.singleton_append,el]at key;exact key
theorem Vh (l:aw aA)(m:bM)(d:Int)(r:lN)(q:bM)(hl:l.length<=10^9)(hm:m.length<=10^9)(hq:q.length<=10^9):jx l m d r q=some (uc l m d r q):=by have Ak:=dR;unfold jx uc;rw[eS m,ab];exact CA l d m r _ _ hl hm q [] m r fuel (by omega) (by simpa using hq) hm
theorem Lc (l:aw aA)(m:bM)(d:Int)(w:Bool):∀(n a r:Nat)(q:aw (Int×Int)),kU l m d w n a r=some q->q.length<=n
 |0,a,r,q,h=>by simp only[kU,aZ]at h;subst h;simp
 |n+1,a,r,q,h=>by simp only[kU]at h;split at h;simp only[aZ]at h;subst h;simp;split at h;simp only[Option.map_eq_some_iff]at h;obtain⟨q',h1,rfl⟩:=h;have:=Lc l m d w n _ _ q' h1;simp only[bc];omega;cases h
theorem HO (l:aw aA)(m:bM)(d a n:Int)(w:Bool):(kD l m d a n w).1.length<=4096:=by
 unfold kD;cases hB:dF l&&(cE m&&dm n 0 4096);simp;simp only[ae,bg]at hB;simp only[ah];cases n==0;case true=>simp
 cases decide (a<0);case true=>simp
 simp only[af];split;rename_i q hq;have:=Lc _ _ _ _ _ _ _ _ hq;show q.length<=4096;omega;simp
def uX (m:bM)(p:Int×Int):Bytes:=bif gu m p.1 p.2 then AB m p.1.toNat p.2.toNat else []
theorem Ef (m:bM)(p:Int×Int):(uX m p).length<=8192:=by unfold uX;cases h:gu m p.1 p.2 with|false=>simp|true=>simp only[gu,ae,aB]at h;have:=adg m p.1.toNat p.2.toNat;have:=(mem_iff.1 h.1).2;simp only[ah];omega
theorem uf (m:bM):∀q:aw (Int×Int),(q.flatMap (uX m)).length<=8192*q.length
 |[]=>by simp
 |p::q=>by have:=uf m q;have:=Ef m p;simp only[List.flatMap_cons,ai,bc];omega
def qY (l:aw aA)(m:bM)(d a n:Int):Bytes×Bool:=
 bif (kD l m d a n false).2 then((kD l m d a n false).1.flatMap (uX m),true) else([],false)
theorem O4 {β:Type}(g:α->aw β)(l:aw α)(i:Nat)(hi:i<l.length):(l.take (i+1)).flatMap g=(l.take i).flatMap g++g l[i]:=by rw[bQ hi,List.flatMap_append];simp
theorem zl (l:aw aA)(m:bM)(d a n:Int)(hl:l.length<=10^9)(hm:m.length<=10^9)(ha:a<=9223372036854775807):nv l m d a n=some (qY l m d a n):=by
 unfold nv qY;rw[RX l m d a n false hl hm ha,ab];have hL:=HO l m d a n false;generalize kD l m d a n false=r at hL⊢;cases hr:r.2;rfl;simp only[aj,af,ah];refine(eG (λi=>((r.1.take i).flatMap (uX m),(i:Int))) r.1.length (by omega) (λi nx hi=>?_) (λnx=>?_));simp only[rX];rw[jK,bf hi,ak];have e:oa m r.1[i].1 r.1[i].2=some (uX m r.1[i],gu m r.1[i].1 r.1[i].2):=by rw[acB m _ _ hm,uX];cases gu m r.1[i].1 r.1[i].2<;>rfl
 have h1:=uf m (r.1.take i);have h2:=Ef m r.1[i];simp only[ah,ab,e];rw[aP (by rw[aY]at h1;omega),<-O4];rfl;simp only[rX];rw[cB,eR];rfl
theorem J1 (l:aw aA)(m:bM)(d a n:Int):(qY l m d a n).1.length<=100000000:=by have hL:=HO l m d a n false;have h1:=uf m (kD l m d a n false).1;unfold qY;cases (kD l m d a n false).2 with|false=>simp|true=>simp only[ah];omega
def AM (s:Bytes):Er×Int×Bool:=
 bif ((s.length:Int) !=16)||decide (fF s 12>1) then((0,0,0,0,0),0,false) else((ch s 0,ch s 2,ch s 4,ch s 6,fF s 8),fF s 12,true)
theorem Va (s:Bytes)(h:s.length<=10^9):kG s=some (AM s):=by
 unfold kG AM;cases (s.length:Int) !=16;case true=>rfl
 simp only[uQ s _ h,ya s _ h,ab,af,cG];cases decide (fF s 12>1)<;>rfl
def yC (q:L2):Int:=bif decide (q.2.2<q.2.1) then 1 else 0
theorem Nr (q:L2):tV q=some (yC q):=by unfold tV yC;cases decide (q.2.2<q.2.1)<;>rfl
theorem ue {q:L2}(h:fI q=true):0<=q.1/\q.1<=130944/\(q.2.1=2\/q.2.1=4\/q.2.1=8\/q.2.1=16)/\0<=q.2.2/\q.2.2<=2*q.2.1-1:=by simp only[fI,ae,bg]at h;obtain⟨h1,h2,h3⟩:=h;rw[ye h2]at h3;exact⟨h1.1,h1.2,gI.1 h2,h3⟩
def qX (q:L2):Int:=q.1+tmod q.2.2 q.2.1*16
theorem Qp (h:0<=a:=by omega)(hb:0<b:=by omega):0<=tmod a b/\tmod a b<b:=by rw[df h];exact⟨eI _ (by omega),eJ _ hb⟩
theorem P6 {q:L2}(h:fI q=true):0<=tmod q.2.2 q.2.1/\tmod q.2.2 q.2.1<16:=by obtain⟨_,_,h3,h4,h5⟩:=ue h;have:=Qp h4 (show 0<q.2.1 by omega);omega
theorem Nv (q:L2)(h:fI q=true):mS q=some (qX q):=by obtain⟨h1,h2,h3,h4,h5⟩:=ue h;have:=P6 h;unfold mS qX;rw[lZ,ak (n:=tmod q.2.2 q.2.1*16),ak]
def agb (q:L2):L2:=(q.1,q.2.1,tmod (q.2.2+1) (2*q.2.1))
def PK (l:aw aA)(m:bM)(d:Int)(q:L2):Bool:=
 fI q&&((qY l m d (qX q) 16).2&&((AM (qY l m d (qX q) 16).1).2.2&&((AM (qY l m d (qX q) 16).1).2.1==yC q)))
def qV (l:aw aA)(m:bM)(d:Int)(q:L2):Er×L2×Bool:=
 bif PK l m d q then((AM (qY l m d (qX q) 16).1).1,agb q,true) else((0,0,0,0,0),q,false)
theorem acx (l:aw aA)(m:bM)(d:Int)(q:L2)(hl:l.length<=10^9)(hm:m.length<=10^9):mm l m d q=some (qV l m d q):=by unfold mm qV PK;rw[Hi q,ab];cases hq:fI q;rfl;obtain⟨h1,h2,h3,h4,h5⟩:=ue hq;have hs:=P6 hq;have hd:=J1 l m d (qX q) 16;simp only[aj,af,Nv q hq,ab,zl l m d (qX q) 16 hl hm (by unfold qX;omega),bp];cases (qY l m d (qX q) 16).2;rfl;simp only[aj,af,Va _ (bw hd (by omega)),ab,bp];cases (AM (qY l m d (qX q) 16).1).2.2;rfl;simp only[aj,af,Nr,ab,bp,bne];cases (AM (qY l m d (qX q) 16).1).2.1==yC q;rfl;simp only[aj,af,ah];rw[ak (n:=2*q.2.1),lZ,ak (n:=q.2.2+1)];rfl
theorem aeq (p:cR)(i:Int):nV p i= -1\/(0<=nV p i/\nV p i<=200000):=by unfold nV;cases hp:dx p;exact .inl rfl;cases hi:dm i 0 (p.2.2.1-1);exact .inl rfl;have h:=xx hp;have h2:=bg.1 hi;have h3:0<=i*p.2.1:=Int.mul_nonneg h2.1 (by omega);have h4:i*p.2.1<=16*512:=Int.mul_le_mul (by omega) (by omega) (by omega) (by omega);simp only[aj,bZ,af];exact .inr (by omega)
def agO (l:aw aA)(m:bM)(d a n:Int):Bool:=(qY l m d a n).2&&((jI (qY l m d a n).1).2==0)
def CK (l:aw aA)(m:bM)(d:Int)(s:aw Stream×bR×cR):aw Stream×bR×cR:=
 ((bif agO l m d (nV s.2.2 (qV l m d s.2.1.2.2.1).1.1) (qV l m d s.2.1.2.2.1).1.2.1 then Cd s.1 (jI (qY l m d (nV s.2.2 (qV l m d s.2.1.2.2.1).1.1) (qV l m d s.2.1.2.2.1).1.2.1).1).1 else s.1),
   (s.2.1.1,s.2.1.2.1,(qV l m d s.2.1.2.2.1).2.1,s.2.1.2.2.2),(EG s.2.2 [(qV l m d s.2.1.2.2.1).1.1]).1)
def jF (l:aw aA)(m:bM)(d:Int):Nat->aw Stream×bR×cR->Nat×(aw Stream×bR×cR)
 |0,s=>(0,s)
 |k+1,s=>bif !(qV l m d s.2.1.2.2.1).2.2 then(0,s) else((jF l m d k (CK l m d s)).1+1,(jF l m d k (CK l m d s)).2)
structure GX (n:Nat) (s:List Stream×bR×cR):Prop where
 st:cX n (.sl dG) s.1
 pl:s.2.2.2.2.2.length<=n
theorem Rl (p:cR)(l:cw):(EG p l).1.2.2.2.length<=p.2.2.2.length+l.length:=by unfold EG;cases Ah p l with|false=>show p.2.2.2.length<=_;omega|true=>simp[gj]
theorem Li {s:aw Stream×bR×cR}(h:GX n s):GX (n+322) (CK l m d s):=by
 refine⟨?_,?_⟩;unfold CK;cases agO l m d (nV s.2.2 (qV l m d s.2.1.2.2.1).1.1) (qV l m d s.2.1.2.2.1).1.2.1 with|false=>exact h.st.mono|true=>exact OU h.st
 have:=Rl s.2.2 [(qV l m d s.2.1.2.2.1).1.1];have h2:=h.pl;show(EG s.2.2 [(qV l m d s.2.1.2.2.1).1.1]).1.2.2.2.length<=_;simp only[bA]at this;omega
theorem FY (K:aw Stream->Int->bR->cR->ax R)(l:aw aA)(m:bM)(d:Int)(N:Nat)(hN:N<=1000)(B1:bM)(B2:bR)(B3:cR)(hl:l.length<=10^9)(hm:m.length<=10^9):∀(k i:Nat)(s:aw Stream×bR×cR)(f:Nat),i+k=N->k<f->GX (500000000+322*i) s->
 aX (ly K l d (N:Int) B1 B2 B3 m) f (s.1,(i:Int),s.2.1,s.2.2)=K (jF l m d k s).2.1 ((i+(jF l m d k s).1:Nat):Int) (jF l m d k s).2.2.1 (jF l m d k s).2.2.2
 |k,i,s,0,_,hf,_=>by omega
 |0,i,s,f+1,hi,hf,z=>by rw[aX];simp only[ly];rw[cB,af];rfl
 |k+1,i,s,f+1,hi,hf,z=>by have mi:cX 900000000 (.sl dG) s.1:=z.st.mono;have Ds:s.2.2.2.2.2.length<=900000000:=bw z.pl (by omega);rw[aX];simp only[ly];rw[jK];simp only[ah,acx l m d _ hl hm,ab,jF];cases hnx:(qV l m d s.2.1.2.2.1).2.2 with|false=>rfl|true=>have key:=FY K l m d N hN B1 B2 B3 hl hm k (i+1) (CK l m d s) f (by omega) (by omega) ((Li z).st.mono|>λa=>⟨a,bw (Li z).pl (by omega)⟩);rw[show i+1+(jF l m d k (CK l m d s)).1=i+((jF l m d k (CK l m d s)).1+1) by omega]at key;simp only[aj,af];rw[<-key];unfold CK;generalize qV l m d s.2.1.2.2.1=c;have ha:=aeq s.2.2 c.1.1;have hd:=J1 l m d (nV s.2.2 c.1.1) c.1.2.1;simp only[FQ _ _ (show s.2.2.2.2.2.length<=10^9 by omega),zl l m d _ c.1.2.1 hl hm (show nV s.2.2 c.1.1<=9223372036854775807 by omega),ab,Dw _ (bw hd (by omega)),Pr _ _ mi,KF s.2.2 [c.1.1] (show s.2.2.2.2.2.length+1<=10^9 by omega)];rw[ak (n:=(i:Int)+1),show((i+1:Nat):Int)=(i:Int)+1 by omega];unfold agO;cases (qY l m d (nV s.2.2 c.1.1) c.1.2.1).2<;>cases (jI (qY l m d (nV s.2.2 c.1.1) c.1.2.1).1).2==0<;>rfl
theorem Lh {l:aw aA}{m:bM}{d:Int}:∀(k:Nat){s:aw Stream×bR×cR}{n:Nat},GX n s->GX (n+322*k) (jF l m d k s).2
 |0,s,n,h=>h
 |k+1,s,n,h=>by rw[jF];cases (qV l m d s.2.1.2.2.1).2.2 with|false=>exact⟨h.st.mono,bw h.pl (by omega)⟩|true=>have:=Lh (l:=l) (m:=m) (d:=d) k (Li (l:=l) (m:=m) (d:=d) h);exact⟨this.st.mono,bw this.pl (by omega)⟩
def jq (l:aw aA)(m:bM)(d:Int)(rx:bR)(pl:cR)(st:aw Stream)(n:Int):bM×bR×cR×aw Stream×Int:=
 bif !Fg rx||(!dx pl|| !dm n 0 1000) then(m,rx,pl,st,0) else
 ((tu l m d (jF l m d n.toNat (st,rx,pl)).2.2.1.1 (jF l m d n.toNat (st,rx,pl)).2.2.2).1,
   ((tu l m d (jF l m d n.toNat (st,rx,pl)).2.2.1.1 (jF l m d n.toNat (st,rx,pl)).2.2.2).2.1,(jF l m d n.toNat (st,rx,pl)).2.2.1.2),
   (tu l m d (jF l m d n.toNat (st,rx,pl)).2.2.1.1 (jF l m d n.toNat (st,rx,pl)).2.2.2).2.2.1,(jF l m d n.toNat (st,rx,pl)).2.1,((jF l m d n.toNat (st,rx,pl)).1:Int))
theorem RU (l:aw aA)(m:bM)(d:Int)(rx:bR)(pl:cR)(st:aw Stream)(n:Int)(hl:l.length<=10^9)(hm:m.length<=10^9)(hp:pl.2.2.2.length<=500000000)(hs:cX 500000000 (.sl dG) st):tL l m d rx pl st n=some (jq l m d rx pl st n):=by
 have Ak:=dR;have hsl:st.length<=500000000:=hs.1;unfold tL jq;simp only[eS m (show m.length<=1073741824 by omega),sQ pl (show pl.2.2.2.length<=10^9 by omega),wP st,PA,tC pl (show pl.2.2.2.length<=10^9 by omega),di,ab];cases Fg rx;rfl;cases dx pl;rfl;cases hn:dm n 0 1000;rfl;have h:=bg.1 hn;obtain⟨n,rfl⟩:=aV h.1;simp only[aj,af,ab,bZ,az];have z:GX (500000000+322*0) (st,rx,pl):=⟨hs,hp⟩
 have hz:=Lh (l:=l) (m:=m) (d:=d) n z;refine(FY _ l m d n (by omega) _ _ _ hl hm n 0 (st,rx,pl) fuel (by omega) (by omega) z).trans ?_;rw[ca];simp only[RS l m d _ _ hl hm (show(jF l m d n (st,rx,pl)).2.2.2.2.2.2.length<=10^9 from bw hz.pl (by omega)),ab]
def gR (i:Nat):Int:=1280+(i:Int)*1792
theorem WM (h:i<=8):au (1280+au ((i:Int)*1792))=gR i:=by rw[ak (n:=(i:Int)*1792),ak];rfl
theorem RN (i:Nat)(h:i<=8):pS (i:Int)=some (gR i):=by rw[pS,WM h]
theorem nK (a b n:Int)(h:n<=1000:=by omega):(gV a b n).1.2.2.2.length<=1000:=by unfold gV;cases dx (a,b,n,[])with|false=>simp|true=>simp[upto];omega
def IE (i:Nat):bR:=((gR i,4,0,0),(gR i+64,4,0),(gR i+64,4,0),((0,0,0,0,0,0,0,0,0,0,0,0,0,0,0,([]:Bytes)),0,0),false,0)
theorem YT (i:Nat)(h:i<=8):uS (i:Int)=some (IE i,(gV (gR i+128) 384 4).1):=by have hb:gR i=1280+(i:Int)*1792:=rfl;simp only[uS,RN i h,ab];rw[ak (n:=gR i+128),ak (n:=gR i+64),Im];rfl
def Eo:dD:=((0,16,0,0),(gV 256 128 8).1,([]:aw kO),0)
theorem Zf:Bf=some Eo:=by rw[Bf,Im];rfl
theorem aau:wa=some Eo:=by rw[wa,IG];rfl
def sX (l:aw aA)(m:bM)(i:Nat):bM×lN×cR×Int:=
 tu l (hY l m 0 (gR i) (xi 128) false).1 0 (gR i,4,0,0) (gV (gR i+128) 384 4).1
def SB (h:Host)(i:Nat):Host:=
 ((sX h.2.1 h.1 i).1,h.2.1,h.2.2.1,h.2.2.2.1.set i ((sX h.2.1 h.1 i).2.1,(gR i+64,4,0),(gR i+64,4,0),((0,0,0,0,0,0,0,0,0,0,0,0,0,0,0,([]:Bytes)),0,0),false,(match h.2.2.2.1[i]? with|some x=>x.2.2.2.2.2|none=>0)),h.2.2.2.2.1.set i (sX h.2.1 h.1 i).2.2.1,h.2.2.2.2.2)
theorem adz (h:Host)(i:Nat)(hi:i<=8)(h1:i<h.2.2.2.1.length)(h2:i<h.2.2.2.2.1.length)(hl:h.2.1.length<=10^9)(hm:h.1.length<=10^9):uC h (i:Int)=some ((),SB h i):=by have hb:gR i=1280+(i:Int)*1792:=rfl;have hz:iq 128 0=some (xi 128):=LB 128;have hf:=adw h.2.1 (hY h.2.1 h.1 0 (gR i) (xi 128) false).1 0 (gR i,4,0,0) (gV (gR i+128) 384 4).1 hl (by rw[jG];exact hm) (bw (nK (gR i+128) 384 4) (by omega));unfold uC;simp only[WM hi];rw[ak (n:=gR i+128),ak (n:=gR i+64),IG,hz];simp only[bf h1,bf h2,ab,ME h.2.1 h.1 0 (gR i) (xi 128) hl hm (by omega),hf,az,SB,sX,al h1]
def yF (h:Host)(i:Nat)(n:Int):Int×Host:=
 match h.2.2.2.1[i]?,h.2.2.2.2.1[i]? with
 |some rx,some pl=>
  ((jq h.2.1 h.1 0 rx pl h.2.2.2.2.2.2.2.2.2.1 n).2.2.2.2,(jq h.2.1 h.1 0 rx pl h.2.2.2.2.2.2.2.2.2.1 n).1,h.2.1,h.2.2.1,h.2.2.2.1.set i (jq h.2.1 h.1 0 rx pl h.2.2.2.2.2.2.2.2.2.1 n).2.1,h.2.2.2.2.1.set i (jq h.2.1 h.1 0 rx pl h.2.2.2.2.2.2.2.2.2.1 n).2.2.1,h.2.2.2.2.2.1,h.2.2.2.2.2.2.1,h.2.2.2.2.2.2.2.1,h.2.2.2.2.2.2.2.2.1,(jq h.2.1 h.1 0 rx pl h.2.2.2.2.2.2.2.2.2.1 n).2.2.2.1,h.2.2.2.2.2.2.2.2.2.2)
 |_,_=>(0,h)
theorem Py (h:Host)(i:Nat)(n:Int)(h1:i<h.2.2.2.1.length)(h2:i<h.2.2.2.2.1.length)(z:cX 500000000 dC h):jX h (i:Int) n=some (yF h i n):=by have hl:h.2.1.length<=500000000:=z.2.1.1;have hm:h.1.length<=500000000:=z.1.1;have hp:h.2.2.2.2.1[i].2.2.2.length<=500000000:=(z.2.2.2.2.1.2 _ (bk h2)).2.2.2.1;unfold jX;simp only[bf h1,bf h2,ab,RU h.2.1 h.1 0 _ _ _ n (show h.2.1.length<=10^9 by omega) (show h.1.length<=10^9 by omega) hp z.2.2.2.2.2.2.2.2.2.1,az,yF,al h1,al h2]
theorem og {t:CT}{l:aw t.D}{x:t.D}(z:cX n (.sl t) l)(hx:cX n t x):cX n (.sl t) (l.set i x):=by refine⟨?_,λy hy=>?_⟩;show(l.set i x).length<=n;rw[aC];exact z.1;rcases List.mem_or_eq_of_mem_set hy with h|h;exact z.2 y h;rw[h];exact hx
theorem NT (hn:128<=n)(h:Bm m):cX n (.sl .str) m:=⟨bw h.2 (by omega),λx hx=>bw (Nat.le_of_eq (h.1 x hx)) hn⟩
theorem TB (hn:128<=n)(z:cX n (.sl .str) m)(a:Int)(s:Bytes):cX n (.sl .str) (qR m a s).1:=by unfold qR;cases hw:gu m a (s.length:Int);exact z;simp only[gu,ae,aB]at hw;exact NT hn (xT s.length (qC.1 hw.1) (by omega)).1
theorem SP (hn:128<=n):∀(q:aw (Int×Int)){m:bM}(s:Bytes),cX n (.sl .str) m->cX n (.sl .str) (Ll q m s)
 |[],m,s,z=>z
 |p::q,m,s,z=>SP hn q _ (TB hn z _ _)
theorem CM (hn:128<=n)(z:cX n (.sl .str) m)(l:aw aA)(d a:Int)(s:Bytes)(w:Bool):cX n (.sl .str) (hY l m d a s w).1:=by unfold hY;cases (kD l m d a (s.length:Int) w).2 with|false=>exact z|true=>exact SP hn _ _ z
theorem Gp (hn:128<=n)(z:cX n (.sl .str) m)(l:aw aA)(d:Int)(r:lN)(s:Bytes):cX n (.sl .str) (cM l m d r s).1:=by
 unfold cM;cases (nW r==0)||((s.length:Int) !=16);case true=>exact z
 cases (hY l m d (om r r.2.2.2) s true).2 with|false=>exact z|true=>exact CM hn z ..
theorem M5 (hn:128<=n)(l:aw aA)(d:Int)(p:cR):∀(q:cw){m:bM}(r:lN),cX n (.sl .str) m->cX n (.sl .str) (lY l d p q m r).2.1
 |[],m,r,z=>z
 |b::q,m,r,z=>by rw[lY];cases (cM l m d r (eP p b)).2.2 with|false=>exact z|true=>exact M5 hn l d p q _ (Gp hn z ..)
theorem M6 (hn:128<=n)(z:cX n (.sl .str) m)(l:aw aA)(d:Int)(r:lN)(p:cR):cX n (.sl .str) (tu l m d r p).1:=by unfold tu;cases !cW r|| !dx p with|true=>exact z|false=>exact M5 hn _ _ _ _ _ z
theorem W6 (l:aw aA)(m:bM)(d:Int)(r:lN)(p:cR):(tu l m d r p).1.length=m.length:=by unfold tu;cases !cW r|| !dx p with|true=>rfl|false=>exact(G7 ..).1
theorem EC (l:aw aA)(m:bM)(d:Int)(r:lN)(p:cR):(tu l m d r p).2.2.1.2.2.2.length<=p.2.2.2.length:=by unfold tu;cases !cW r|| !dx p with|true=>exact aU _|false=>show(p.2.2.2.drop _).length<=_;rw[aM];omega
theorem SI (l:aw aA)(m:bM)(d:Int):∀(k:Nat)(s:aw Stream×bR×cR),(jF l m d k s).2.2.1.2.2.2=s.2.1.2.2.2/\(jF l m d k s).1<=k
 |0,s=>⟨rfl,aU _⟩
 |k+1,s=>by rw[jF];cases (qV l m d s.2.1.2.2.1).2.2 with|false=>exact⟨rfl,bW _⟩|true=>have:=SI l m d k (CK l m d s);simp only[aj,af];exact⟨this.1,by omega⟩
theorem NX (hn:128<=n){rx:bR}{pl:cR}{st:aw Stream}(c:Int)(zm:cX n (.sl .str) m)(zr:cX n dI rx)(zp:cX n hH pl)(zs:cX n (.sl dG) st): cX n (.sl .str) (jq l m d rx pl st c).1/\cX n dI (jq l m d rx pl st c).2.1/\cX (n+322000) hH (jq l m d rx pl st c).2.2.1/\cX (n+322000) (.sl dG) (jq l m d rx pl st c).2.2.2.1/\0<=(jq l m d rx pl st c).2.2.2.2/\(jq l m d rx pl st c).2.2.2.2<=1000:=by
 unfold jq;cases hc: !Fg rx||(!dx pl|| !dm c 0 1000)with
 |true=>exact⟨zm,zr,zp.mono,zs.mono,dL _,by show(0:Int)<=1000;omega⟩
 |false=>
  have hi:dm c 0 1000=true:=by cases h:dm c 0 1000 with|true=>rfl|false=>rw[h]at hc;simp at hc
  have h:=bg.1 hi;have z:=Lh (l:=l) (m:=m) (d:=d) c.toNat (s:=(st,rx,pl)) (n:=n) ⟨zs,zp.2.2.2.1⟩;have hx:=SI l m d c.toNat (st,rx,pl);refine⟨M6 hn zm ..,⟨?_,?_,?_,?_⟩,⟨cv,cv,cv,?_,λ_ _=>trivial⟩,z.st.mono,by show(0:Int)<=((jF l m d c.toNat (st,rx,pl)).1:Int);omega,by show((jF l m d c.toNat (st,rx,pl)).1:Int)<=1000;omega⟩;exact⟨cv,cv,cv,cv⟩;exact⟨cv,cv,cv⟩;exact⟨cv,cv,cv⟩;have e:=congrArg (λq=>cX n dI (rx.1,rx.2.1,rx.2.2.1,q)) hx.1;exact(e.mpr zr).2.2.2;have:=EC l m d (jF l m d c.toNat (st,rx,pl)).2.2.1.1 (jF l m d c.toNat (st,rx,pl)).2.2.2;have h2:=z.pl;show(tu l m d (jF l m d c.toNat (st,rx,pl)).2.2.1.1 (jF l m d c.toNat (st,rx,pl)).2.2.2).2.2.1.2.2.2.length<=_;omega
theorem VY (hn:128<=n)(i:Nat)(c:Int)(z:cX n dC h):cX (n+322000) dC (yF h i c).2:=by unfold yF;rcases h1:h.2.2.2.1[i]? with _|rx;exact z.mono;rcases h2:h.2.2.2.2.1[i]? with _|pl;exact z.mono;have zr:=z.2.2.2.1.2 _ (bn h1);have zp:=z.2.2.2.2.1.2 _ (bn h2);have hp:=NX hn (l:=h.2.1) (d:=0) c z.1 zr zp z.2.2.2.2.2.2.2.2.2.1;have z':cX (n+322000) dC h:=z.mono;exact⟨hp.1.mono,z'.2.1,z'.2.2.1,og z'.2.2.2.1 (hp.2.1.mono),og z'.2.2.2.2.1 hp.2.2.1,z'.2.2.2.2.2.1,z'.2.2.2.2.2.2.1,z'.2.2.2.2.2.2.2.1,z'.2.2.2.2.2.2.2.2.1,hp.2.2.2.1,z'.2.2.2.2.2.2.2.2.2.2⟩
def bm (l:aw aA)(m:bM)(d:Int)(r:lN):Bytes×lN×Bool:=
 bif !cW r||(bE r==0) then([],r,false) else
 bif !(qY l m d (om r r.2.2.1) 16).2 then([],r,false) else
 ((qY l m d (om r r.2.2.1) 16).1,(r.1,r.2.1,tmod (r.2.2.1+1) (2*r.2.1),r.2.2.2),true)
theorem F3 (l:aw aA)(m:bM)(d:Int)(r:lN)(hl:l.length<=10^9)(hm:m.length<=10^9):ry l m d r=some (bm l m d r):=by
 have hA:=CU r r.2.2.1;unfold ry bm;simp only[wi,yw,ab,Nu,zl l m d _ 16 hl hm (show om r r.2.2.1<=9223372036854775807 by omega)];cases hb:cW r;rfl;have h:=kL hb;cases bE r==0;case true=>rfl
 simp only[aj,af,ab,bZ];cases (qY l m d (om r r.2.2.1) 16).2;rfl;simp only[aj,af];rw[ak (n:=2*r.2.1),lZ,ak (n:=r.2.2.1+1)]
theorem Em (l:aw aA)(m:bM)(d:Int)(r:lN):(bm l m d r).1.length<=100000000:=by
 unfold bm;cases !cW r||(bE r==0);case true=>exact bW _
 cases (qY l m d (om r r.2.2.1) 16).2 with|false=>exact bW _|true=>exact J1 ..
theorem C0 (h:(bm l m d r).2.2=true): cW (bm l m d r).2.1=true/\bE (bm l m d r).2.1=bE r-1/\(bm l m d r).2.1.1=r.1/\(bm l m d r).2.1.2.1=r.2.1/\(bm l m d r).2.1.2.2.2=r.2.2.2:=by
 unfold bm at h⊢;cases hb:cW r with|false=>rw[hb]at h;cases h|true=>?_
 cases hu:bE r==0 with|true=>rw[hb,hu]at h;cases h|false=>?_
 cases hd:(qY l m d (om r r.2.2.1) 16).2 with|false=>rw[hb,hu,hd]at h;cases h|true=>?_
 simp only[aj,bZ,af];have hr:=kL hb;have hq:=hb;simp only[cW,ae,aB]at hq;have h1:=hq.2.2.2.2;have hs:=hq.2.1;have Pm:bE r≠0:=by simpa using hu
 have e:tmod (r.2.2.1+1) (2*r.2.1)=(r.2.2.1+1)%(2*r.2.1):=df (by omega);rw[e];unfold bE at h1 Pm⊢;simp only[hs,bN]at h1 Pm⊢;have key:(r.2.2.2-(r.2.2.1+1)%(2*r.2.1))%(2*r.2.1)=(r.2.2.2-r.2.2.1)%(2*r.2.1)-1/\0<=(r.2.2.1+1)%(2*r.2.1)/\(r.2.2.1+1)%(2*r.2.1)<=2*r.2.1-1:=by rcases hr.2.2.1 with hn|hn|hn|hn<;>rw[hn]at h1 Pm hr⊢<;>omega
 refine⟨?_,key.1,cv,cv,cv⟩;simp only[cW,bE,hs,bN,ae,aB,bg];refine⟨by omega,cv,by omega,by omega,?_⟩;rw[key.1];omega
theorem wD (h:cW r=true):0<=bE r/\bE r<=16:=by have hr:=kL h;have hq:=h;simp only[cW,ae,aB]at hq;refine⟨?_,by have:=hq.2.2.2.2;omega⟩;unfold bE;rw[hq.2.1,aE rfl];exact eI _ (by omega)
def H7:Db:=(0,0,0,0,0,0)
def Ce (s:Bytes):Db:=((bG s 0:Int),(bG s 1:Int),ch s 2,fF s 4,ch s 8,ch s 10)
def cQ (s:Bytes):Db×Bool:=
 bif ((s.length:Int) !=16) then(H7,false) else bif !(xk (Ce s)==s) then(H7,false) else(Ce s,true)
theorem RP (s:Bytes)(h:s.length<=10^9):nY s=some (cQ s):=by
 unfold nY cQ;cases hn:(s.length:Int) !=16;case true=>rfl
 have hl:s.length=16:=by
  have:((s.length:Int)==16)=true:=by simpa using hn
  have:=bl this;omega
 have b0:=mf (s[0]'(by omega));have b1:=mf (s[1]'(by omega));have i0:idx s 0=some (s[0]'(by omega)):=bf (i:=0) (by omega);have i1:idx s 1=some (s[1]'(by omega)):=bf (i:=1) (by omega);have e:(((s[0]'(by omega)).toNat:Int),((s[1]'(by omega)).toNat:Int),ch s 2,fF s 4,ch s 8,ch s 10)=Ce s:=by simp only[Ce,bG,cL (show 0<s.length by omega),cL (show 1<s.length by omega)]
 simp only[af,i0,i1,ab,uQ s _ h,ya s _ h];rw[gX (n:=(s[0]'(by omega)).toNat),gX (n:=(s[1]'(by omega)).toNat),e,Ps,ab];cases xk (Ce s)==s<;>rfl
theorem UG (h:(cQ s).2=true):sR (cQ s).1=true:=by
 unfold cQ at h⊢;cases hn:(s.length:Int) !=16 with|true=>rw[hn]at h;cases h|false=>?_
 cases he:xk (Ce s)==s with|false=>rw[hn,he]at h;cases h|true=>?_
 simp only[af,aj];cases hd:sR (Ce s)with
 |true=>rfl
 |false=>
  have:xk (Ce s)=[]:=by unfold xk;rw[hd];rfl
  rw[this]at he;cases s with|nil=>simp at hn|cons x y=>cases he
def UI (x:Db):Bool:=bif x.1==1 then(au (BitVec.toNat (ga x.2.1&&&ga 1))) !=0 else false
def tp (l:aw aA)(m:bM)(d:Int):Nat->aw Db->lN->aw Db×lN×Bool
 |0,acc,r=>(acc,r,true)
 |n+1,acc,r=>
  bif !(bm l m d r).2.2|| !(cQ (bm l m d r).1).2 then([],(r.1,r.2.1,r.2.2.2,r.2.2.2),false) else
  bif UI (cQ (bm l m d r).1).1 then(acc++[(cQ (bm l m d r).1).1],(bm l m d r).2.1,true) else
  tp l m d n (acc++[(cQ (bm l m d r).1).1]) (bm l m d r).2.1
def de (l:aw aA)(m:bM)(d:Int)(r:lN):aw Db×lN×Bool:=
 bif !cW r||(bE r==0) then([],r,false) else tp l m d (bE r).toNat [] r
theorem D3 (k0:aw Db->lN->ax R)(k1:aw Db->Bool->aw Db->lN->lN->ax R)(K:aw Db×lN×Bool->ax R)
 (h0:∀a r,k0 a r=K (a,r,true)) (l:aw aA) (m:bM) (d:Int) (B E:lN) (h1:∀a r,k1 [] false a r E=K ([],E,false)) (hl:l.length<=10^9) (hm:m.length<=10^9):∀(n:Nat)(acc:aw Db)(r:lN)(f:Nat),
 n<f->cW r=true->(bE r).toNat=n->acc.length+n<=1000->E=(r.1,r.2.1,r.2.2.2,r.2.2.2)->aX (lz k0 k1 l d ([]:aw Db) false m B E) f (acc,r)=K (tp l m d n acc r)
 |n,acc,r,0,hf,_,_,_,_=>by omega
 |0,acc,r,f+1,hf,hb,hu,ha,hE=>by rw[aX];simp only[lz,yw,ab];rw[cB,af,h0];rfl
 |n+1,acc,r,f+1,hf,hb,hu,ha,hE=>by
  have hlen:=Em l m d r;have hk:=C0 (l:=l) (m:=m) (d:=d) (r:=r);rw[aX];simp only[lz,yw,ab];rw[jK,ah,F3 l m d r hl hm,ab,tp];generalize bm l m d r=t at hlen hk⊢;cases ht:t.2.2 with
  |false=>simp only[bF,ah,iv,<-hE,h1]
  |true=>
   have hk:=hk ht;simp only[aj,af,cG];rw[RP _ (show t.1.length<=10^9 by omega),ab];generalize cQ t.1=x;cases x.2 with
   |false=>simp only[bF,ah,<-hE,h1]
   |true=>
    simp only[aj,af];rw[aP (by rw[bA];omega)];have e:(aa (cond (x.1.1==1) (some ((au (BitVec.toNat (ga x.1.2.1&&&ga 1))) !=0)) (some false)):(Bool->ax R)->ax R)=λK=>K (UI x.1):=by funext K;unfold UI;cases x.1.1==1<;>rfl
    rw[e];cases UI x.1 with|true=>simp only[ah,h0]|false=>simp only[af];exact D3 k0 k1 K h0 l m d B E h1 hl hm n _ _ f (by omega) hk.1 (by omega) (by simp;omega) (by rw[hE,hk.2.2.1,hk.2.2.2.1,hk.2.2.2.2])
theorem Mr (l:aw aA)(m:bM)(d:Int)(r:lN)(hl:l.length<=10^9)(hm:m.length<=10^9):tQ l m d r=some (de l m d r):=by
 have Ak:=dR;unfold tQ de;simp only[wi,yw,ab];cases hb:cW r;rfl;cases bE r==0;case true=>rfl
 have hu:=wD hb;simp only[aj,af,ab,bZ];exact D3 _ _ (λx=>some x) (λ_ _=>rfl) l m d _ _ (λ_ _=>rfl) hl hm _ [] r fuel (by omega) hb rfl (by simp;omega) rfl
def yD (x:Int×Int):Bool:=decide (x.1<0)|| !dm x.2 0 4096
def nL (l:aw (Int×Int)):Bool:= !l.any yD&&decide ((l.length:Int)<=16)
theorem VW (l:aw (Int×Int)):(bif l.any yD then some false else some (decide ((l.length:Int)<=16)))=some (nL l):=by unfold nL;cases l.any yD<;>rfl
theorem KH (l:aw (Int×Int))(h:l.length<=10^9):rr l=some (nL l):=by
 unfold rr;rw[<-VW];refine Fm yD l (by omega) (λi hi nx=>?_) (λnx=>?_);simp only[qn];rw[jK,ah,bf hi,ab,di,ak];unfold yD;cases decide (l[i].1<0)with|true=>rfl|false=>simp only[af,ab,cG];rfl
 simp only[qn];rw[cB,af]
theorem HF {l:aw (Int×Int)}(h:nL l=true):l.length<=16/\∀x∈l,0<=x.1/\0<=x.2/\x.2<=4096:=by unfold nL at h;simp only[ae,aB,aK]at h;refine⟨by omega,λx hx=>?_⟩;have:=List.any_eq_false.1 h.1 x hx;unfold yD at this;simp only[cz,aB,aK,not_or,Bool.not_eq_false,bg]at this;omega
def dsc (n:Nat)(c:Int)(i:Nat)(x:Int×Int):Db:=(1,(if i+1=n then 1 else 0),x.2,x.1,0,c)
def xd (ps:aw (Int×Int))(c:Int):Nat->aw Db
 |0=>[]
 |i+1=>xd ps c i++[dsc ps.length c i (ps.getD i (0,0))]
theorem Ad (ps:aw (Int×Int))(c:Int):∀i,(xd ps c i).length=i
 |0=>rfl
 |i+1=>by rw[xd,ai,Ad ps c i];rfl
theorem G4 (ps:aw (Int×Int))(c:Int)(q:Db->Bool):∀i,(xd ps c i).all q=(List.range i).all (λj=>q (dsc ps.length c j (ps.getD j (0,0))))
 |0=>rfl
 |i+1=>by rw[xd,List.all_append,G4 ps c q i,List.range_succ,List.all_append];rfl
def pK (ps:aw (Int×Int))(z c:Int):aw Db:=
 bif ((ps.length:Int)==0)||(!nL ps|| !dm z 1 128) then [] else
 bif ([(2,0,0,0,z,c)]++xd ps c ps.length).all sR then [(2,0,0,0,z,c)]++xd ps c ps.length else []
theorem AZ (ps:aw (Int×Int))(z c:Int)(h:ps.length<=10^9:=by omega):∃b,ir ps z c=some (b,pK ps z c)/\(b=false->pK ps z c=[]):=by
 unfold ir pK;rw[KH ps h,di];simp only[ab];cases ((ps.length:Int)==0);case true=>exact⟨false,rfl,λ_=>rfl⟩
 cases nL ps;exact⟨false,rfl,λ_=>rfl⟩;cases dm z 1 128;exact⟨false,rfl,λ_=>rfl⟩;simp only[aj,af,ab,bZ];refine⟨([(2,0,0,0,z,c)]++xd ps c ps.length).all sR,?_,λhb=>by rw[hb];rfl⟩;refine eG (λi=>(([(2,0,0,0,z,c)]++xd ps c i,(i:Int)):aw Db×Int)) ps.length (by omega) (λi nx hi=>?_) (λnx=>?_);have hl:=Ad ps c i;simp only[jO];rw[jK,ah,bf hi,ab,ak (n:=(ps.length:Int)-1),ak];have e:[(2,0,0,0,z,c)]++xd ps c (i+1)=([(2,0,0,0,z,c)]++xd ps c i)++[dsc ps.length c i ps[i]]:=by rw[xd,cL hi,aR]
 rw[e];unfold dsc;by_cases hc:i+1=ps.length;rw[show((i:Int)==(ps.length:Int)-1)=true from by rw[aQ];omega,aE hc];simp only[ah];rw[aP (by simp only[ai,bA];omega)];rfl;rw[show((i:Int)==(ps.length:Int)-1)=false from by rw[cI];omega,aH hc];simp only[af];rw[aP (by simp only[ai,bA];omega)];rfl;simp only[jO];rw[cB,af];have hl:=Ad ps c ps.length;generalize hq:[(2,0,0,0,z,c)]++xd ps c ps.length=q;have hn:q.length<=1000000001:=by rw[<-hq];simp only[ai,bA];omega
 rw[oE (fin:=some (true,q)) (hit:=some (false,[])) sR q (by omega) (λi hi nx=>?_) (λnx=>?_)];cases q.all sR<;>rfl;simp only[jn];rw[jK,ah,bf hi,ab,RQ,ab,ak];rfl;simp only[jn];rw[cB,af]
def Lt (x y:Db):Bool:=(x.1==y.1)&&((x.2.1==y.2.1)&&((x.2.2.1==y.2.2.1)&&((x.2.2.2.1==y.2.2.2.1)&&((x.2.2.2.2.1==y.2.2.2.2.1)&&((x.2.2.2.2.2==y.2.2.2.2.2)&&true)))))
def HP (a b:aw Db):Bool:=((a.length:Int)==(b.length:Int))&&(List.range a.length).all λi=>Lt (a.getD i H7) (b.getD i H7)
def kC (l:aw Db):aw (Int×Int):=(l.drop 1).map λx=>(x.2.2.2.1,x.2.2.1)
def fD (l:aw Db):aw (Int×Int)×Int×Int×Bool:=
 match l with
 |h::x::r=>bif HP (pK (kC l) h.2.2.2.2.1 h.2.2.2.2.2) l then(kC l,h.2.2.2.2.1,h.2.2.2.2.2,true) else([],0,0,false)
 |_=>([],0,0,false)
theorem Yb (ps:aw (Int×Int))(z c:Int):(pK ps z c).length<=ps.length+1:=by
 unfold pK;cases ((ps.length:Int)==0)||(!nL ps|| !dm z 1 128);case true=>simp
 cases ([(2,0,0,0,z,c)]++xd ps c ps.length).all sR with|false=>simp|true=>simp only[af,ah,ai,bA,Ad];omega
theorem Px (l:aw Db)(hl:l.length<=10^9):nA l=some (fD l):=by
 unfold nA;match l,hl with
 |[],_=>rfl
 |[h],_=>rfl
 |h::y::r,hl=>
  generalize hq:y::r=q;have hq1:1<=q.length:=by rw[<-hq];simp
  have hlen:q.length+1<=10^9:=by rw[<-hq];simpa using hl
  have i0:idx (h::q) 0=some h:=rfl;have s0:sub (h::q) 1 (((h::q).length:Nat):Int)=some q:=uF (l:=h::q) 1 (by simp) (a:=1) rfl;rw[aq (by simp only[bc];omega),af,s0,ab];refine eG (λi=>(((q.take i).map (λx=>(x.2.2.2.1,x.2.2.1)),(i:Int)):aw (Int×Int)×Int)) q.length (by omega) (λi nx hi=>?_) (λnx=>?_);simp only[kI];rw[jK,ah,bf hi,ab,aP (by simp only[da,aY,bA];omega),ak,bQ hi,List.map_append];rfl;simp only[kI];rw[cB,af,eR];have hp:q.map (λx=>(x.2.2.2.1,x.2.2.1))=kC (h::q):=rfl;have Ds:(kC (h::q)).length=q.length:=by rw[<-hp,da]
  rw[hp];have hdl:=Yb (kC (h::q)) h.2.2.2.2.1 h.2.2.2.2.2;obtain⟨b,hd,hb⟩:=AZ (kC (h::q)) h.2.2.2.2.1 h.2.2.2.2.2;have hR:fD (h::q)=bif HP (pK (kC (h::q)) h.2.2.2.2.1 h.2.2.2.2.2) (h::q) then(kC (h::q),h.2.2.2.2.1,h.2.2.2.2.2,true) else([],0,0,false):=by rw[<-hq];rfl
  rw[hR];simp only[i0,ab,hd];have hlc:(((h::q).length:Nat):Int)=(q.length:Int)+1:=by simp only[bc];omega
  generalize pK (kC (h::q)) h.2.2.2.2.1 h.2.2.2.2.2=w at hdl hb⊢
  have core:∀(K:ax (aw (Int×Int)×Int×Int×Bool))(w':aw Db),w'=w->(bif ((w'.length:Nat):Int) !=(((h::q).length:Nat):Int) then some (([]:aw (Int×Int)),(0:Int),(0:Int),false) else
   aX (gh (λDL=>some (kC (h::q),h.2.2.2.2.1,h.2.2.2.2.2,true)) (λC8 GS C9 BW Fi=>some (C8,GS,C9,BW)) (h::q) (kC (h::q)) h.2.2.2.2.1 h.2.2.2.2.2 w' ((w'.length:Nat):Int)) fuel 0)=some (bif HP w (h::q) then(kC (h::q),h.2.2.2.2.1,h.2.2.2.2.2,true) else([],0,0,false)):=by
   intro K w' e
   subst e
   unfold HP
   cases hl:((w'.length:Int)==(((h::q).length:Nat):Int))with
   |false=>simp only[bne,hl,bF,ah,dN,af]
   |true=>
    have hn:w'.length=(h::q).length:=by have:=bl hl;omega
    simp only[bne,hl,aj,af,bp]
    rw[oF (fin:=some (kC (h::q),h.2.2.2.2.1,h.2.2.2.2.2,true)) (hit:=some ([],0,0,false)) (λi=>Lt (w'.getD i H7) ((h::q).getD i H7)) w'.length (by omega) (λi nx hi=>?_) (λnx=>?_)]
    ·cases (List.range w'.length).all (λi=>Lt (w'.getD i H7) ((h::q).getD i H7))<;>rfl
    ·have hi2:i<(h::q).length:=by omega
     simp only[gh]
     rw[jK,ah,bf hi,bf hi2,ab,ab,ak,cL hi,cL hi2];rfl
    ·simp only[gh]
     rw[cB,af]
  cases b with|true=>exact core none w rfl|false=>exact core none [] (hb rfl).symm
theorem SF {l:aw Db}(h:(fD l).2.2.2=true):nL (fD l).1=true/\∀p∈(fD l).1,p.1<=4294967295:=by match l,h with|hd::x::r,h=>unfold fD at h⊢;simp only at h⊢;cases hs:HP (pK (kC (hd::x::r)) hd.2.2.2.2.1 hd.2.2.2.2.2) (hd::x::r)with|false=>rw[hs]at h;cases h|true=>simp only[ah];generalize hw:kC (hd::x::r)=ps at hs⊢;unfold HP at hs;simp only[ae]at hs;have hn:=bl hs.1;unfold pK at hn;cases hc:((ps.length:Int)==0)||(!nL ps|| !dm hd.2.2.2.2.1 1 128)with|true=>rw[hc]at hn;simp at hn;omega|false=>rw[hc]at hn;cases ha:([(2,0,0,0,hd.2.2.2.2.1,hd.2.2.2.2.2)]++xd ps hd.2.2.2.2.2 ps.length).all sR with|false=>rw[ha]at hn;simp at hn;omega|true=>simp only[cg,dz]at hc;refine⟨hc.2.1,λp hp=>?_⟩;rw[List.all_append,G4,ae]at ha;obtain⟨i,hi,rfl⟩:=eZ hp;have:=aG.1 ha.2 i (bT.2 hi);rw[cL hi]at this;simp only[sR,dsc,ae,bg]at this;omega
theorem G5 (l:aw aA)(m:bM)(d a n:Int):(qY l m d a n).1.length<=33554432:=by have hL:=HO l m d a n false;have h1:=uf m (kD l m d a n false).1;unfold qY;cases (kD l m d a n false).2 with|false=>simp|true=>simp only[ah];omega
def AQ (l:aw aA)(m:bM)(d:Int):aw (Int×Int)->Bytes->Bytes×Bool
 |[],acc=>(acc,true)
 |p::ps,acc=>bif (qY l m d p.1 p.2).2 then AQ l m d ps (acc++(qY l m d p.1 p.2).1) else([],false)
def mh (l:aw aA)(m:bM)(d:Int)(ps:aw (Int×Int)):Bytes×Bool:=bif nL ps then AQ l m d ps [] else([],false)
def FD (l:aw aA)(m:bM)(d:Int)(p:Int×Int)(s:Bytes):Except (ax (Bytes×Bool)) Bytes:=
 if(qY l m d p.1 p.2).2=true then .ok (s++(qY l m d p.1 p.2).1) else .error (some ([],false))
theorem Ki (l:aw aA)(m:bM)(d:Int):∀(ps:aw (Int×Int))(s:Bytes),P2 (FD l m d) (λs=>some (s,true)) ps s=some (AQ l m d ps s)
 |[],s=>rfl
 |p::ps,s=>by rw[P2,AQ];unfold FD;cases hd:(qY l m d p.1 p.2).2 with|false=>rfl|true=>rw[aE rfl];exact Ki l m d ps _
theorem Ie (l:aw aA)(m:bM)(d:Int):∀(ps:aw (Int×Int))(s:Bytes),(AQ l m d ps s).1.length<=s.length+33554432*ps.length
 |[],s=>by simp[AQ]
 |p::ps,s=>by have h1:=G5 l m d p.1 p.2;rw[AQ];cases (qY l m d p.1 p.2).2 with|false=>simp|true=>have:=Ie l m d ps (s++(qY l m d p.1 p.2).1);rw[ai]at this;simp only[ah,bc,Nat.mul_add];omega
theorem Rj (l:aw aA)(m:bM)(d:Int)(ps:aw (Int×Int)):(mh l m d ps).1.length<=10^9:=by unfold mh;cases hp:nL ps with|false=>simp|true=>have:=(HF hp).1;have:=Ie l m d ps [];simp only[ef]at this;simp only[ah];omega
theorem Vd (l:aw aA)(m:bM)(d:Int)(ps:aw (Int×Int))(hl:l.length<=10^9)(hm:m.length<=10^9)(hn:ps.length<=10^9)(ha:∀p∈ps,p.1<=9223372036854775807):oX l m d ps=some (mh l m d ps):=by
 unfold oX mh;rw[KH ps hn,ab];cases hp:nL ps;rfl;have h16:=(HF hp).1;simp only[aj,af,ah];rw[<-Ki];refine Gt ps (λs i=>(s,(i:Int))) (λi s=>s.length<=33554432*i) (FD l m d) _ (by omega) (λi hi s nx hI=>?_) (λi hi s s' hI he=>?_) (λs nx hI=>?_) [] (by simp);have h1:=G5 l m d ps[i].1 ps[i].2;simp only[lx];rw[jK,ah,bf hi,ab,zl l m d _ _ hl hm (ha _ (bk hi)),ab];unfold FD;cases hd:(qY l m d ps[i].1 ps[i].2).2 with|false=>rfl|true=>rw[aE rfl,aP,ak];rfl
 have h1:=G5 l m d ps[i].1 ps[i].2;unfold FD at he;split at he;injection he with he;rw[<-he,ai];omega;cases he;simp only[lx];rw[cB,af]
def yT (t:Bytes):Int:=ch t ((dk t+2:Nat):Int)
def MJ (t:Bytes):Int:=MS ((t.take (dk t+20)).drop (dk t))
def Wb (t:Bytes):Bytes:=(t.take (dk t+(yT t).toNat)).drop (dk t+20)
def aeD (t:Bytes):Bytes:=uV (fF t ((dk t+12:Nat):Int)) (fF t ((dk t+16:Nat):Int)) (jY t:Int) (yT t-20)
def HX (t:Bytes):Int:=bif ((jY t:Int)==17)&&(MS (aeD t++Wb t)==0) then 65535 else MS (aeD t++Wb t)
def W7 (t s:Bytes):Bytes×Bool:=bif ((jI s).2==0)&&((jU (jI s).1).1==t) then dy (jI s).1 else([],false)
def xe (t:Bytes):Bytes×Bool:=W7 t (lD t (bP (MJ t)) (bP (HX t)))
theorem Jm {t:Bytes}(h:¬(TOk t/\ch t (zX t:Int)=0/\ch t (xQ t:Int)=0)):xe t=([],false):=by
 have ha:BF (lD t (bP (MJ t)) (bP (HX t))) t:=Ee t (bD _) (bD _);unfold xe W7;generalize lD t (bP (MJ t)) (bP (HX t))=s at ha⊢;cases h1:(jI s).2==0;rfl;have L4:(jI s).2=0:=by simpa using h1
 cases h2:(jU (jI s).1).1==t;rfl;have Qv:(jU (jI s).1).1=t:=eq_of_beq h2;have ht:=ah9 ha L4;exact absurd ⟨ht,aaC Qv (Ln L4).2.2.1 ht⟩ h
theorem GJ (t:Bytes)(o n:Nat):(t.drop o).take n=(t.take (o+n)).drop o:=by rw[List.drop_take];congr 1;omega
theorem SL {t:Bytes}(h1:dk t+20<=t.length)(h2:20<=yT t)(h3:yT t<=(t.length:Int))(h4:t.length<=10^9):xy (fF t ((dk t+12:Nat):Int)) (fF t ((dk t+16:Nat):Int)) (jY t:Int) (yT t-20)=true:=by have a1:=Ag (s:=t) (a:=((dk t+12:Nat):Int));have a2:=Ag (s:=t) (a:=((dk t+16:Nat):Int));have a3:=eE t (dk t+9);have a4:=Cp (s:=t) (a:=((dk t+2:Nat):Int));unfold xy;rw[bg.2 a1,bg.2 a2,bg.2 (show 0<=(jY t:Int)/\(jY t:Int)<=255 by unfold jY;omega),bg.2 (show 0<=yT t-20/\yT t-20<=65535 by unfold yT at*;omega)];rfl
theorem YL (t:Bytes)(hl:t.length<=10^9):vu t=some (xe t):=by
 have hp:=yE t
 have hk:=GD (jY t)
 have U1:jY t<256:=eE t (dk t+9)
 have Cr:=Bn t
 unfold vu
 rw[FX t hl,ab,uQ _ _ (by omega),ab]
 cases h1:(fJ t).2 with
 |false=>rw[Jm λh=>by have:=h.1.eth;rw[h1]at this;cases this];rfl
 |true=>
 have he:=HE h1
 rw[he.1]
 simp only[aj,af,ab]
 have en:ch (t.drop (dk t)) 2=yT t:=Kj (a:=2)
 rw[en]
 by_cases h4:yT t<20
 ·rw[ar h4,Jm λh=>by have:=h.1.n1;unfold yT at h4;omega];rfl
 rw[aq h4]
 simp only[af,ab]
 by_cases h5:yT t>((t.drop (dk t)).length:Int)
 ·rw[ar h5,Jm λh=>by have:=h.1.n2;unfold yT at h5;rw[aM]at h5;omega];rfl
 rw[aq h5]
 rw[aM]at h5
 have hdl:(t.drop (dk t)).length=t.length-dk t:=aM ..
 obtain⟨n,hn⟩:=aV (show 0<=yT t by omega)
 obtain⟨x,hx,ex⟩:=ln (s:=t.drop (dk t)) (i:=9)
 have hx9:idx (t.drop (dk t)) 9=some x:=hx
 have s1:sub (t.drop (dk t)) 0 20=some ((t.take (dk t+20)).drop (dk t)):=by rw[xP,<-GJ];rfl
 have s2:sub (t.drop (dk t)) 20 (yT t)=some (Wb t):=by rw[Ql (l:=t.drop (dk t)) 20 (a:=20) rfl,hn,az,GJ,eH];unfold Wb;rw[hn];rfl
 have hps:=HH (fF t ((dk t+12:Nat):Int)) (fF t ((dk t+16:Nat):Int)) (jY t:Int) (yT t-20)
 have ach:((Wb t).length:Int)=yT t-20:=by unfold Wb;rw[aM,aY,hn];omega
 have hk2:au ((UInt8.toNat x:Int))=(jY t:Int):=by rw[ex,lg,gX (show bG t (dk t+9)<9223372036854775808 by unfold jY at U1;omega)];rfl
 have g12:fF (t.drop (dk t)) 12=fF t ((dk t+12:Nat):Int):=Kk (a:=12)
 have g16:fF (t.drop (dk t)) 16=fF t ((dk t+16:Nat):Int):=Kk (a:=16)
 have hw:au ((LG (jY t):Int)+2)=(LG (jY t):Int)+2:=by rw[ak]
 simp only[af,ab,F2 t hl,s1,s2,hx9,ya _ _ (show(t.drop (dk t)).length<=10^9 by omega),hk2,KJ,ach,g12,g16,SL (show dk t+20<=t.length by omega) (show 20<=yT t by omega) (show yT t<=(t.length:Int) by omega) hl,ah,aj,Hj _ U1,hw]
 rw[show uV (fF t ((dk t+12:Nat):Int)) (fF t ((dk t+16:Nat):Int)) (jY t:Int) (yT t-20)=aeD t from rfl]at hps⊢
 by_cases h6:(LG (jY t):Int)+2>yT t-20
 ·rw[ar h6,Jm λh=>by have:=h.1.n1;unfold yT at h6;omega];rfl
 rw[aq h6]
 simp only[af]
 have hck:((t.take (dk t+20)).drop (dk t)).length<=10^9:=by rw[aM,aY];omega
 rw[aP,Js _ (by rw[ai];omega),ab]
 have pC:∀y:Int,HX t=y->(aa (iW ((t.take (dk t+20)).drop (dk t))) λr25=>aa (bX r25) λr26=>aa (fG t (zX t:Int) r26) λZ3=>aa (bX y) λr28=>aa (fG Z3 (xQ t:Int) r28) λr29=>aa (ik r29) λXz=>aa (lQ Xz.1) λZ4=>
  aa (bif Xz.2 !=0 then some true else bif !Z4.2 then some true else some (!(Z4.1==t))) λq32=>bif q32 then some (([]:Bytes),false) else aa (gL Xz.1) λr33=>some r33)=some (xe t):=by
  intro y hy
  subst hy
  have b1:=bD (MJ t)
  have b2:=bD (HX t)
  rw[Js _ hck,ab,show MS ((t.take (dk t+20)).drop (dk t))=MJ t from rfl]
  rw[kt,ab,Bc t _ _ hl,ab,kt,ab,Bc _ _ _ (by rw[wB];exact hl),ab]
  have hlen:=CN t (bP (MJ t)) (bP (HX t))
  unfold xe
  rw[show uW (uW t (zX t:Int) (bP (MJ t))) (xQ t:Int) (bP (HX t))=lD t (bP (MJ t)) (bP (HX t)) from rfl]
  generalize lD t (bP (MJ t)) (bP (HX t))=s at hlen⊢
  simp only[Dw s (by omega),ab,Nx,Dv,W7,bne]
  cases h1:(jI s).2==0;rfl
  have Xd:=(Ln (show(jI s).2=0 by simpa using h1)).2.2.1
  have h2:(jU (jI s).1).2=true:=by unfold jU;rw[Xd];rfl
  rw[h2]
  cases (jU (jI s).1).1==t<;>rfl
 cases h8:(jY t:Int)==17 with
 |false=>exact pC _ (by unfold HX;rw[h8];rfl)
 |true=>
  simp only[ah,ab]
  cases h7:MS (aeD t++Wb t)==0 with
  |false=>exact pC _ (by unfold HX;rw[h7,fE];rfl)
  |true=>exact pC _ (by unfold HX;rw[h7,h8];rfl)
theorem Yg (t:Bytes):(xe t).1.length<=378:=by unfold xe W7;generalize lD t (bP (MJ t)) (bP (HX t))=s;cases ((jI s).2==0)&&((jU (jI s).1).1==t)with|false=>exact bW _|true=>exact xZ _
theorem JQ (l:aw aA)(m:bM)(d:Int):∀(n:Nat)(acc:aw Db)(r:lN),(tp l m d n acc r).1.length<=acc.length+n
 |0,acc,r=>aU _
 |n+1,acc,r=>by
  rw[tp];cases !(bm l m d r).2.2|| !(cQ (bm l m d r).1).2;case true=>exact bW _
  cases UI (cQ (bm l m d r).1).1 with|true=>simp only[af,ah,ai,bA];omega|false=>have:=JQ l m d n (acc++[(cQ (bm l m d r).1).1]) (bm l m d r).2.1;simp only[ai,bA]at this;simp only[af];omega
theorem V6 (h:cW r=true):cW (r.1,r.2.1,r.2.2.2,r.2.2.2)=true/\bE (r.1,r.2.1,r.2.2.2,r.2.2.2)=0:=by
 have hr:=kL h;have hq:=h;simp only[cW,ae,aB]at hq;have hu:bE (r.1,r.2.1,r.2.2.2,r.2.2.2)=0:=by unfold bE;simp only[Int.sub_self,Int.zero_emod,ite_self]
 refine⟨?_,hu⟩;simp only[cW,ae,aB,bg,hu,hq.2.1,true_and];omega
theorem H6 (l:aw aA)(m:bM)(d:Int):∀(n:Nat)(acc:aw Db)(r:lN),cW r=true->(bE r).toNat=n->
 cW (tp l m d n acc r).2.1=true/\bE (tp l m d n acc r).2.1<=bE r/\(0<bE r->bE (tp l m d n acc r).2.1<bE r)
 |0,acc,r,hb,hu=>⟨hb,dL _,λh=>by omega⟩
 |n+1,acc,r,hb,hu=>by have hk:=C0 (l:=l) (m:=m) (d:=d) (r:=r);have he:=V6 hb;rw[tp];cases hc: !(bm l m d r).2.2|| !(cQ (bm l m d r).1).2 with|true=>exact⟨he.1,by show bE (r.1,r.2.1,r.2.2.2,r.2.2.2)<=_;rw[he.2];omega,λ_=>by show bE (r.1,r.2.1,r.2.2.2,r.2.2.2)<_;rw[he.2];omega⟩|false=>simp only[cg,dz]at hc;have hk:=hk hc.1;cases UI (cQ (bm l m d r).1).1 with|true=>exact⟨hk.1,by show bE (bm l m d r).2.1<=_;omega,λ_=>by show bE (bm l m d r).2.1<_;omega⟩|false=>have:=H6 l m d n (acc++[(cQ (bm l m d r).1).1]) (bm l m d r).2.1 hk.1 (by omega);simp only[af];exact⟨this.1,by omega,λ_=>by omega⟩
def iG (l:aw aA)(m:bM)(d:Int)(r:lN):lN×bM×Int:=
 bif !cW r||(bE r==0) then(r,[],0) else
 bif !(de l m d r).2.2|| !(fD (de l m d r).1).2.2.2 then((de l m d r).2.1,[],2) else
 bif !(mh l m d (fD (de l m d r).1).1).2||(!(xe (mh l m d (fD (de l m d r).1).1).1).2||((jI (xe (mh l m d (fD (de l m d r).1).1).1).1).2 !=0)) then((de l m d r).2.1,[],2) else
 ((de l m d r).2.1,S3 (jI (xe (mh l m d (fD (de l m d r).1).1).1).1).1 (fD (de l m d r).1).2.1,1)
theorem Vg (l:aw aA)(m:bM)(d:Int)(r:lN)(hl:l.length<=10^9)(hm:m.length<=10^9):ph l m d r=some (iG l m d r):=by
 unfold ph iG;simp only[wi,yw,ab,Mr l m d r hl hm];cases hb:cW r;rfl;cases bE r==0;case true=>rfl
 have hu:=wD hb;have hcl:(de l m d r).1.length<=16:=by unfold de;cases !cW r||(bE r==0)with|true=>exact bW _|false=>have:=JQ l m d (bE r).toNat [] r;simp only[ef]at this;show(tp l m d (bE r).toNat [] r).1.length<=16;omega
 simp only[aj,af,ab,bZ];generalize de l m d r=c at hcl⊢;cases c.2.2;rfl;simp only[aj,af,ab,cG,Px c.1 (show c.1.length<=10^9 by omega)];have hpo:=SF (l:=c.1);generalize fD c.1=p at hpo⊢;cases hp:p.2.2.2;rfl;have hpo:=hpo hp;have h16:=(HF hpo.1).1;have hg:=Rj l m d p.1;simp only[aj,af,ab,cG,Vd l m d p.1 hl hm (show p.1.length<=10^9 by omega) (λq hq=>Int.le_trans (hpo.2 q hq) (by omega))];generalize mh l m d p.1=g at hg⊢;cases g.2;rfl;have hf:=Yg g.1;simp only[aj,af,ab,cG,YL g.1 hg];generalize xe g.1=f at hf⊢;cases f.2;rfl;simp only[aj,af,ab,cG,Dw f.1 (show f.1.length<=10^9 by omega)];generalize jI f.1=i;cases i.2 !=0;case true=>rfl
 simp only[af,acD,ab]
theorem NK (l:aw aA)(m:bM)(d:Int)(r:lN): ((iG l m d r).2.2=0->(iG l m d r).1=r)/\((iG l m d r).2.2≠0->0<bE r/\cW r=true/\cW (iG l m d r).1=true/\bE (iG l m d r).1<bE r)/\(iG l m d r).2.1.length<=320/\(∀x∈(iG l m d r).2.1,x.length<=382)/\((iG l m d r).2.2=0\/(iG l m d r).2.2=1\/(iG l m d r).2.2=2):=by
 unfold iG;cases hc: !cW r||(bE r==0)with
 |true=>exact⟨λ_=>rfl,λh=>absurd rfl h,bW _,(λx hx=>by cases hx),.inl rfl⟩
 |false=>
  simp only[cg,dz,cI]at hc;have hu:=wD hc.1;have hch:cW (de l m d r).2.1=true/\bE (de l m d r).2.1<bE r:=by have:=H6 l m d (bE r).toNat [] r hc.1 rfl;unfold de;rw[show(!cW r||(bE r==0))=false from by rw[hc.1];simpa using hc.2];exact⟨this.1,this.2.2 (by omega)⟩
  cases !(de l m d r).2.2|| !(fD (de l m d r).1).2.2.2 with|true=>exact⟨(λh=>by cases h),λ_=>⟨by omega,hc.1,hch⟩,bW _,(λx hx=>by cases hx),.inr (.inr rfl)⟩|false=>cases !(mh l m d (fD (de l m d r).1).1).2||(!(xe (mh l m d (fD (de l m d r).1).1).1).2||((jI (xe (mh l m d (fD (de l m d r).1).1).1).1).2 !=0))with|true=>exact⟨(λh=>by cases h),λ_=>⟨by omega,hc.1,hch⟩,bW _,(λx hx=>by cases hx),.inr (.inr rfl)⟩|false=>have hs:=aai (jI (xe (mh l m d (fD (de l m d r).1).1).1).1).1 (fD (de l m d r).1).2.1;exact⟨(λh=>by cases h),λ_=>⟨by omega,hc.1,hch⟩,hs.1,hs.2,.inr (.inl rfl)⟩
def qb (l:aw aA)(m:bM)(d:Int):Nat->bM->Nat->Nat->lN->lN×bM×Int×Int
 |0,fr,dn,bd,r=>(r,fr,(dn:Int),(bd:Int))
 |n+1,fr,dn,bd,r=>
  bif (iG l m d r).2.2==0 then(r,fr,(dn:Int),(bd:Int)) else
  bif (iG l m d r).2.2==1 then qb l m d n (fr++(iG l m d r).2.1) (dn+1) bd (iG l m d r).1 else
  qb l m d n (fr++(iG l m d r).2.1) dn (bd+1) (iG l m d r).1
def re (l:aw aA)(m:bM)(d:Int)(r:lN):lN×bM×Int×Int:=qb l m d 17 [] 0 0 r
theorem EN (l:aw aA)(m:bM)(d:Int)(hl:l.length<=10^9)(hm:m.length<=10^9):∀(n:Nat)(fr:bM)(dn bd:Nat)(r:lN)(f:Nat),n<f->(cW r=true->bE r<n)->0<n->fr.length+320*n<=10000->dn+bd+n<=1000->
 aX (mr (λy2 y3 y4 _ _ _ _ y9=>some (y9,y2,y3,y4)) l d ([]:bM) 0 0 m (0,0,0,0)) f (fr,(dn:Int),(bd:Int),r)=some (qb l m d n fr dn bd r)
 |0,fr,dn,bd,r,f,_,_,h0,_,_=>by omega
 |n+1,fr,dn,bd,r,0,hf,_,_,_,_=>by omega
 |n+1,fr,dn,bd,r,f+1,hf,hr,_,jh,hc=>by have ok:=NK l m d r;rw[aX,qb];simp only[mr,Vg l m d r hl hm,ab];generalize iG l m d r=x at ok⊢;cases h0:x.2.2==0 with|true=>simp only[ah,ok.1 (by simpa using h0)]|false=>have hk:=ok.2.1 (by simpa using h0);have hu:=hr hk.2.1;have hu2:=(wD hk.2.2.1).1;simp only[af];cases x.2.2==1 with|true=>simp only[ah];rw[aP,ak];exact EN l m d hl hm n _ (dn+1) bd _ f (by omega) (λ_=>by omega) (by omega) (by rw[ai];omega) (by omega)|false=>simp only[af];rw[aP,ak];exact EN l m d hl hm n _ dn (bd+1) _ f (by omega) (λ_=>by omega) (by omega) (by rw[ai];omega) (by omega)
theorem Ze (l:aw aA)(m:bM)(d:Int)(r:lN)(hl:l.length<=10^9)(hm:m.length<=10^9):qw l m d r=some (re l m d r):=by have Ak:=dR;unfold qw;exact EN l m d hl hm 17 [] 0 0 r fuel (by omega) (λh=>by have:=(wD h).2;omega) (by omega) (by simp) (by omega)
theorem DJ (l:aw aA)(m:bM)(d:Int):∀(n:Nat)(fr:bM)(dn bd:Nat)(r:lN),(∀x∈fr,x.length<=382)->
 (qb l m d n fr dn bd r).2.1.length<=fr.length+320*n/\(∀x∈(qb l m d n fr dn bd r).2.1,x.length<=382)/\0<=(qb l m d n fr dn bd r).2.2.1/\(qb l m d n fr dn bd r).2.2.1<=(dn+n:Nat)/\0<=(qb l m d n fr dn bd r).2.2.2/\(qb l m d n fr dn bd r).2.2.2<=(bd+n:Nat)
 |0,fr,dn,bd,r,h=>⟨aU _,h,by show(0:Int)<=(dn:Int);omega,by show(dn:Int)<=_;omega,by show(0:Int)<=(bd:Int);omega,by show(bd:Int)<=_;omega⟩
 |n+1,fr,dn,bd,r,h=>by
  have ok:=NK l m d r;rw[qb];generalize iG l m d r=x at ok⊢;have h2:∀y∈fr++x.2.1,y.length<=382:=λy hy=>by rcases ay.1 hy with g|g;exact h y g;exact ok.2.2.2.1 y g
  cases x.2.2==0 with|true=>exact⟨by show fr.length<=_;omega,h,by show(0:Int)<=(dn:Int);omega,by show(dn:Int)<=_;omega,by show(0:Int)<=(bd:Int);omega,by show(bd:Int)<=_;omega⟩|false=>cases x.2.2==1 with|true=>have i:=DJ l m d n (fr++x.2.1) (dn+1) bd x.1 h2;rw[ai]at i;simp only[af,ah];exact⟨by omega,i.2.1,i.2.2.1,by omega,i.2.2.2.2.1,by omega⟩|false=>have i:=DJ l m d n (fr++x.2.1) dn (bd+1) x.1 h2;rw[ai]at i;simp only[af,ah];exact⟨by omega,i.2.1,i.2.2.1,by omega,i.2.2.2.2.1,by omega⟩
def Cf (v:Vector):Bool:=bif decide (v.2.2.1>=1) then(bif decide (v.2.2.1>=v.1) then true else decide (v.2.2.2.1>=v.2.1)) else false
theorem aeM (v:Vector):As v=some (Cf v):=by unfold As Cf;cases decide (v.2.2.1>=1);rfl;cases decide (v.2.2.1>=v.1)<;>rfl
theorem afo (v:Vector):td v=some (Cf v):=by unfold td Cf;cases decide (v.2.2.1>=1);rfl;cases decide (v.2.2.1>=v.1)<;>rfl
def B5 (v:Vector):Vector:=bif Cf v&& !v.2.2.2.2.1 then(v.1,v.2.1,v.2.2.1,v.2.2.2.1,v.2.2.2.2.1,true) else v
theorem Hg (v:Vector):nH v=some (B5 v):=by unfold nH B5;rw[aeM,ab];cases Cf v;rfl;cases v.2.2.2.2.1<;>rfl
def upM (n:Int):Int:=if 1000000<au (n+1) then 1000000 else au (n+1)
def evV (v:Vector):Vector:=bif eD v then B5 (v.1,v.2.1,upM v.2.2.1,v.2.2.2) else v
theorem YG (v:Vector):vq v=some (evV v):=by unfold vq evV;rw[yx,ab,Hg,ab];cases eD v<;>rfl
def Tr (v:Vector):Vector:=bif eD v then(bif decide (v.2.2.1>0) then B5 (v.1,v.2.1,v.2.2.1,upM v.2.2.2.1,v.2.2.2.2) else B5 v) else v
theorem Zd (v:Vector):sg v=some (Tr v):=by unfold sg Tr;simp only[yx,ab,Hg];cases eD v;rfl;cases decide (v.2.2.1>0)<;>rfl
def BT (v:Vector):Vector×Bool:=bif eD v&&v.2.2.2.2.2 then((v.1,v.2.1,0,0,true,false),true) else(v,false)
theorem Zc (v:Vector):nG v=some (BT v):=by unfold nG BT;rw[yx,ab];cases eD v;rfl;cases v.2.2.2.2.2<;>rfl
def GO (v:Vector):Vector:=bif eD v then B5 (v.1,v.2.1,v.2.2.1,v.2.2.2.1,false,v.2.2.2.2.2) else v
theorem KL (v:Vector):wk v=some (GO v):=by unfold wk GO;rw[yx,ab,Hg,ab];cases eD v<;>rfl
structure kQ (k:Nat) (a b:Host):Prop where
 mem:b.1.length=a.1.length
 maps:b.2.1=a.2.1
 tx:b.2.2.1=a.2.2.1
 rx:b.2.2.2.1.length=a.2.2.2.1.length
 rxs:∀j,k<=j->b.2.2.2.1[j]?=a.2.2.2.1[j]?
 pl:b.2.2.2.2.1.length=a.2.2.2.2.1.length
 vec:b.2.2.2.2.2.1.length=a.2.2.2.2.2.1.length
 Tw:∀j,k<=j->b.2.2.2.2.2.1[j]?=a.2.2.2.2.2.1[j]?
 VX:b.2.2.2.2.2.2.1.length=a.2.2.2.2.2.2.1.length
 Jn:b.2.2.2.2.2.2.2.1=a.2.2.2.2.2.2.2.1
 Qf:b.2.2.2.2.2.2.2.2.1=a.2.2.2.2.2.2.2.2.1
theorem kQ.refl (k:Nat)(a:Host):kQ k a a:=⟨rfl,rfl,rfl,rfl,λ_ _=>rfl,rfl,rfl,λ_ _=>rfl,rfl,rfl,rfl⟩
theorem kQ.trans {a b c:Host}(h:kQ k a b)(g:kQ k b c):kQ k a c:=⟨g.mem.trans h.mem,g.maps.trans h.maps,g.tx.trans h.tx,g.rx.trans h.rx,λj hj=>(g.rxs j hj).trans (h.rxs j hj),g.pl.trans h.pl,g.vec.trans h.vec,λj hj=>(g.Tw j hj).trans (h.Tw j hj),g.VX.trans h.VX,g.Jn.trans h.Jn,g.Qf.trans h.Qf⟩
theorem kQ.up {m:Nat}{a b:Host}(h:kQ k a b)(hk:k<=m):kQ m a b:=⟨h.mem,h.maps,h.tx,h.rx,λj hj=>h.rxs j (by omega),h.pl,h.vec,λj hj=>h.Tw j (by omega),h.VX,h.Jn,h.Qf⟩
def kV (g:Nat->Host->Host):Nat->Host->Host
 |0,h=>h
 |k+1,h=>g k (kV g k h)
theorem vi {g:Nat->Host->Host}(hg:∀k h,kQ (k+1) h (g k h))(h:Host):∀k,kQ k h (kV g k h)
 |0=>kQ.refl 0 h
 |k+1=>((vi hg h k).up (by omega)).trans (hg k _)
theorem Bx {g:Nat->Host->Host}{d:Nat}(hn:1000<=n)(hg:∀k h m,1000<=m->cX m dC h->cX (m+d) dC (g k h))(z:cX n dC h):∀k,cX (n+d*k) dC (kV g k h)
 |0=>z
 |k+1=>(hg k _ _ (by omega) (Bx hn hg z k)).mono (by rw[Nat.mul_add];omega)
def wG (i:Nat)(h:Host):Host:=
 match h.2.2.2.2.2.1[i]? with
 |some v=>(h.1,h.2.1,h.2.2.1,h.2.2.2.1,h.2.2.2.2.1,h.2.2.2.2.2.1.set i (Tr v),h.2.2.2.2.2.2)
 |none=>h
theorem E3 (i:Nat)(h:Host):kQ (i+1) h (wG i h):=by unfold wG;cases h.2.2.2.2.2.1[i]? with|none=>exact kQ.refl _ _|some v=>exact⟨rfl,rfl,rfl,rfl,λ_ _=>rfl,rfl,aC ..,λj hj=>aO (by omega),rfl,rfl,rfl⟩
theorem JB {l:aw Vector}{v:Vector}(z:cX n (.sl fA) l):cX n (.sl fA) (l.set i v):=og z ⟨cv,cv,cv,cv,cv,cv⟩
theorem aaG (i:Nat)(h:Host)(n:Nat)(hn:1000<=n)(z:cX n dC h):cX (n+0) dC (wG i h):=by unfold wG;cases h.2.2.2.2.2.1[i]? with|none=>exact z|some v=>exact⟨z.1,z.2.1,z.2.2.1,z.2.2.2.1,z.2.2.2.2.1,JB z.2.2.2.2.2.1,z.2.2.2.2.2.2⟩
def C2 (h:Host):Host:=bif fy h then kV wG h.2.2.2.2.2.1.length h else h
theorem ad2 (hn:1000<=n)(z:cX n dC h):cX n dC (C2 h)/\(C2 h).2.2.1=h.2.2.1:=by unfold C2;cases fy h with|false=>exact⟨z,rfl⟩|true=>exact⟨(Bx hn aaG z _).mono,(vi E3 h _).tx⟩
theorem acF (h:Host)(k:JF h)(z:cX 1000000000 dC h):vC h=some (C2 h):=by
 have Ak:=dR;unfold vC C2;rw[lp h z,ab,tB h k,ab];cases hb:fy h;rfl;have hv:h.2.2.2.2.2.1.length<=10^9:=z.2.2.2.2.2.1.1;simp only[aj,af,ah];refine eG (λi=>((i:Int),kV wG i h)) h.2.2.2.2.2.1.length (by omega) (λi nx hi=>?_) (λnx=>?_);have kk:=vi E3 h i;have i1:i<(kV wG i h).2.2.2.2.2.1.length:=by rw[kk.vec];exact hi
 rw[show kV wG (i+1) h=wG i (kV wG i h) from rfl];generalize kV wG i h=s at i1⊢;simp only[qm,wG];rw[jK,ah,al i1];simp only[bf i1,ab,Zd,az];rw[ak];rfl;simp only[qm];rw[cB,af]
structure BG (n:Nat) (h:Host):Prop where
 z:cX n dC h
 t:h.2.2.1.2.1.2.2.2.length+(bu h.2.2.1.2.2.1).length<=n
theorem BG.mono {m:Nat}(k:BG n h)(hn:n<=m:=by omega):BG m h:=⟨k.z.mono hn,bw k.t hn⟩
theorem BG.sz (k:BG n h)(hn:n<=10^9):JF h:=by have z:cX 1000000000 dC h:=k.z.mono hn;exact⟨z.1.1,z.2.1.1,z.2.2.1.2.2.1.1,bw k.t hn,z.2.2.2.2.2.2.2.1.2.2.1,z.2.2.2.2.2.2.2.2.1.1.1,z.2.2.2.2.2.2.2.2.1.2.1.1,z.2.2.2.2.2.2.2.2.1.2.2.2.1,λp hp=>(z.2.2.2.2.1.2 p hp).2.2.2.1⟩
theorem BG.of (k:TK dC h<=1048576):BG 1048576 h:=by
 refine⟨Jz k,?_⟩;have hb:=WS h.2.2.1.2.2.1;have h1:TK ko h.2.2.1<=TK dC h:=by simp only[TK];omega
 have hp:h.2.2.1.2.1.2.2.2.length+TK (.sl hU) h.2.2.1.2.2.1<=TK ko h.2.2.1:=by simp only[TK];omega
 omega
def pL (p:cR):aw kO->cR
 |[]=>p
 |x::l=>pL (EG p x.2.2).1 l
theorem Hb:∀(l:aw kO)(p:cR),(pL p l).2.2.2.length<=p.2.2.2.length+(bu l).length
 |[],p=>by simp[pL]
 |x::l,p=>by have h1:=Rl p x.2.2;have h2:=Hb l (EG p x.2.2).1;simp only[pL,bu,List.flatMap_cons,ai]at h2⊢;omega
theorem Nh:∀(l:aw kO)(p:cR)(x:kO),pL p (l++[x])=(EG (pL p l) x.2.2).1
 |[],p,x=>rfl
 |y::l,p,x=>by rw[List.cons_append,pL,pL,Nh l]
theorem QN (a b:aw kO):(bu (a++b)).length=(bu a).length+(bu b).length:=by simp only[bu,List.flatMap_append,ai]
theorem QO (l:aw kO)(n:Nat):(bu (l.take n)).length+(bu (l.drop n)).length=(bu l).length:=by rw[<-QN,cl]
def mH (t:dD)(n:Int):dD×cw:=
 bif L7 t&&dm n 0 (t.2.2.1.length:Int) then((t.1,pL t.2.1 (t.2.2.1.take n.toNat),t.2.2.1.drop n.toNat,t.2.2.2),(t.2.2.1.take n.toNat).map (·.1)) else(t,[])
theorem afm {l:aw kO}(h:(bu l).length<=10^9):∀x∈l,x.2.2.length<=10^9:=by intro x hx;induction l with|nil=>cases hx|cons y l ih=>simp only[bu,List.flatMap_cons,ai]at h;rcases bO.1 hx with rfl|g;omega;exact ih (by simp only[bu];omega) g
theorem Pq (t:dD)(n:Int)(hw:t.2.2.1.length<=10^9)(hs:t.2.1.2.2.2.length+(bu t.2.2.1).length<=10^9):lr t n=some (mH t n):=by
 have hx:=afm (l:=t.2.2.1) (by omega);unfold lr mH;rw[EL t ⟨by omega,hw,hx⟩,ab,Vn t hw hs];simp only[ab,di];cases L7 t;rfl;cases hn:dm n 0 (t.2.2.1.length:Int);rfl;have h:=bg.1 hn;obtain⟨n,rfl⟩:=aV h.1;have hl:n<=t.2.2.1.length:=by omega
 simp only[aj,af,ab,eY,ah,az];rw[xP,ab,az];have htl:(t.2.2.1.take n).length=n:=by rw[aY];omega
 rw[htl];refine eG (λi=>(((t.2.2.1.take i).map (·.1),(i:Int),t.1,pL t.2.1 (t.2.2.1.take i),t.2.2):cw×Int×dD)) n (by omega) (λi nx hi=>?_) (λnx=>?_);have hi2:i<(t.2.2.1.take n).length:=by omega
 have hi3:i<t.2.2.1.length:=by omega
 have e1:(t.2.2.1.take n)[i]=t.2.2.1[i]:=List.getElem_take ..;have g1:=Hb (t.2.2.1.take i) t.2.1;have g2:=QO t.2.2.1 (i+1);have g3:(bu (t.2.2.1.take (i+1))).length=(bu (t.2.2.1.take i)).length+t.2.2.1[i].2.2.length:=by rw[bQ hi3,QN];simp[bu]
 simp only[jm];rw[jK,ah,bf hi2,e1,ab,KF _ _ (by omega),ab,aP (by simp only[da,aY,bA];omega),ak,bQ hi3,Nh,List.map_append];rfl;simp only[jm];rw[cB,af,uF (l:=t.2.2.1) n hl rfl,ab,FR _ (by rw[aM];omega) (λx zQ=>hx x (List.mem_of_mem_drop zQ)),ab]
theorem MV (n:Int):∀l:aw kO,l.all (nM n)=true->(l.length:Int)<=dH l
 |[],_=>by simp[dH]
 |x::l,h=>by simp only[cb,ae]at h;have:=MV n l h.2;have hx:=h.1;unfold nM at hx;simp only[ae,bg]at hx;simp only[dH,cV,List.sum_cons,bc]at this⊢;omega
theorem E4 (h:L7 t=true):t.2.2.1.length<=16:=by unfold L7 at h;simp only[ae,aB]at h;have h1:=MV _ _ h.2.2.2.1;have h2:=(kL h.1).2.2.1;have h3:=h.2.2.2.2.2;omega
theorem Fu (n:Int)(z:cX k ko t)(hs:t.2.1.2.2.2.length+(bu t.2.2.1).length<=k): cX k ko (mH t n).1/\(mH t n).1.2.1.2.2.2.length+(bu (mH t n).1.2.2.1).length<=k/\(mH t n).2.length<=16:=by unfold mH;cases h:L7 t&&dm n 0 (t.2.2.1.length:Int)with|false=>exact⟨z,hs,bW _⟩|true=>simp only[ae]at h;have h16:=E4 h.1;have g1:=Hb (t.2.2.1.take n.toNat) t.2.1;have g2:=QO t.2.2.1 n.toNat;have hw:t.2.2.1.length<=k:=z.2.2.1.1;refine⟨⟨z.1,⟨cv,cv,cv,?_,λ_ _=>trivial⟩,⟨?_,λx hx=>z.2.2.1.2 x (List.mem_of_mem_drop hx)⟩,z.2.2.2⟩,?_,?_⟩;show(pL t.2.1 (t.2.2.1.take n.toNat)).2.2.2.length<=k;omega;show(t.2.2.1.drop n.toNat).length<=k;rw[aM];omega;show(pL t.2.1 (t.2.2.1.take n.toNat)).2.2.2.length+(bu (t.2.2.1.drop n.toNat)).length<=k;omega;show((t.2.2.1.take n.toNat).map (·.1)).length<=16;rw[da,aY];omega
theorem Hq {t:CT}{l q:aw t.D}(z:cX n (.sl t) l)(hq:∀y∈q,cX n t y)(hk:q.length<=k):cX (n+k) (.sl t) (l++q):=by refine⟨?_,λy hy=>?_⟩;show(l++q).length<=n+k;have:=z.1;rw[ai];omega;rcases ay.1 hy with h|h;exact(z.2 y h).mono;exact(hq y h).mono
def qP (h:Host):Host:=bif fy h then
    (h.1,h.2.1,(mH ((re h.2.1 h.1 0 h.2.2.1.1).1,h.2.2.1.2) (if(h.2.2.1.2.2.1.length:Int)<au ((re h.2.1 h.1 0 h.2.2.1.1).2.2.1+(re h.2.1 h.1 0 h.2.2.1.1).2.2.2) then(h.2.2.1.2.2.1.length:Int) else au ((re h.2.1 h.1 0 h.2.2.1.1).2.2.1+(re h.2.1 h.1 0 h.2.2.1.1).2.2.2))).1,
      h.2.2.2.1,h.2.2.2.2.1,h.2.2.2.2.2.1,h.2.2.2.2.2.2.1,h.2.2.2.2.2.2.2.1,h.2.2.2.2.2.2.2.2.1,h.2.2.2.2.2.2.2.2.2.1,h.2.2.2.2.2.2.2.2.2.2.1,h.2.2.2.2.2.2.2.2.2.2.2.1++(re h.2.1 h.1 0 h.2.2.1.1).2.1,
      h.2.2.2.2.2.2.2.2.2.2.2.2.1++(mH ((re h.2.1 h.1 0 h.2.2.1.1).1,h.2.2.1.2) (if(h.2.2.1.2.2.1.length:Int)<au ((re h.2.1 h.1 0 h.2.2.1.1).2.2.1+(re h.2.1 h.1 0 h.2.2.1.1).2.2.2) then(h.2.2.1.2.2.1.length:Int) else au ((re h.2.1 h.1 0 h.2.2.1.1).2.2.1+(re h.2.1 h.1 0 h.2.2.1.1).2.2.2))).2,h.2.2.2.2.2.2.2.2.2.2.2.2.2) else h
theorem PB (h:Host)(k:BG 900000000 h):pb h=some (qP h):=by have z:cX 1000000000 dC h:=k.z.mono;have hz:=k.sz (by omega);have hm:h.1.length<=900000000:=k.z.1.1;have hl:h.2.1.length<=900000000:=k.z.2.1.1;have hw:h.2.2.1.2.2.1.length<=900000000:=k.z.2.2.1.2.2.1.1;have hwi:h.2.2.2.2.2.2.2.2.2.2.2.1.length<=900000000:=k.z.2.2.2.2.2.2.2.2.2.2.2.1.1;have hco:h.2.2.2.2.2.2.2.2.2.2.2.2.1.length<=900000000:=k.z.2.2.2.2.2.2.2.2.2.2.2.2.1.1;have hA:=DJ h.2.1 h.1 0 17 [] 0 0 h.2.2.1.1 (λx hx=>by cases hx);unfold pb qP;rw[lp h z,ab,tB h hz,ab];cases fy h;rfl;simp only[aj,af,ah,Ze h.2.1 h.1 0 _ (show h.2.1.length<=10^9 by omega) (show h.1.length<=10^9 by omega),ab];rw[show qb h.2.1 h.1 0 17 [] 0 0 h.2.2.1.1=re h.2.1 h.1 0 h.2.2.1.1 from rfl]at hA;generalize re h.2.1 h.1 0 h.2.2.1.1=x at hA⊢;simp only[ef]at hA;have hC:=Fu (k:=900000000) (t:=(x.1,h.2.2.1.2)) (if(h.2.2.1.2.2.1.length:Int)<au (x.2.2.1+x.2.2.2) then(h.2.2.1.2.2.1.length:Int) else au (x.2.2.1+x.2.2.2)) ⟨⟨cv,cv,cv,cv⟩,k.z.2.2.1.2⟩ k.t;rw[aP,Pq (x.1,h.2.2.1.2) _ (by show h.2.2.1.2.2.1.length<=_;omega) (bw k.t (by omega)),ab,aP]
theorem Qq (hn:400<=n)(k:BG n h):BG (n+5440) (qP h):=by have k':BG (n+5440) h:=k.mono;have hA:=DJ h.2.1 h.1 0 17 [] 0 0 h.2.2.1.1 (λx hx=>by cases hx);unfold qP;cases fy h;exact k';rw[show qb h.2.1 h.1 0 17 [] 0 0 h.2.2.1.1=re h.2.1 h.1 0 h.2.2.1.1 from rfl]at hA;generalize re h.2.1 h.1 0 h.2.2.1.1=x at hA⊢;simp only[ef]at hA;generalize (if(h.2.2.1.2.2.1.length:Int)<au (x.2.2.1+x.2.2.2) then(h.2.2.1.2.2.1.length:Int) else au (x.2.2.1+x.2.2.2))=q;have hC:=Fu (k:=n) (t:=(x.1,h.2.2.1.2)) q ⟨⟨cv,cv,cv,cv⟩,k.z.2.2.1.2⟩ k.t;have z:=k'.z;refine⟨⟨z.1,z.2.1,hC.1.mono,z.2.2.2.1,z.2.2.2.2.1,z.2.2.2.2.2.1,z.2.2.2.2.2.2.1,z.2.2.2.2.2.2.2.1,z.2.2.2.2.2.2.2.2.1,z.2.2.2.2.2.2.2.2.2.1,cv,?_,?_,z.2.2.2.2.2.2.2.2.2.2.2.2.2⟩,bw hC.2.1 (by omega)⟩;exact Hq (t:=.str) (n:=n) (k:=5440) k.z.2.2.2.2.2.2.2.2.2.2.2.1 (λy hy=>by show y.length<=_;have:=hA.2.1 y hy;omega) (by omega);exact(Hq (t:=.int .i64) (n:=n) (k:=16) k.z.2.2.2.2.2.2.2.2.2.2.2.2.1 (λ_ _=>trivial) hC.2.2).mono
def wh (l:aw aA)(d:Int)(p:cR)(z:Nat):cw->Bytes->bM->aw gv->ax (aw gv×bM)
 |[],_,m,a=>some (a,m)
 |b::q,s,m,a=>bif (hY l m d (nV p b) (s.take z) false).2 then wh l d p z q (s.drop z) (hY l m d (nV p b) (s.take z) false).1 (a++[(nV p b,((s.take z).length:Int))]) else none
theorem FA (l:aw aA)(d:Int)(p:cR)(z:Nat):∀(q:cw)(s:Bytes)(m:bM)(a:aw gv){x},wh l d p z q s m a=some x->
 x.2.length=m.length/\x.1.length=a.length+q.length/\∀y∈x.1,y∈a\/((∃b∈q,y.1=nV p b)/\0<=y.2/\y.2<=(z:Int))
 |[],s,m,a,x,h=>by cases h;exact⟨rfl,rfl,λy hy=>Or.inl hy⟩
 |b::q,s,m,a,x,h=>by rw[wh]at h;cases hq:(hY l m d (nV p b) (s.take z) false).2 with|false=>rw[hq]at h;cases h|true=>rw[hq]at h;obtain⟨h1,h2,h3⟩:=FA l d p z q _ _ _ h;rw[jG]at h1;rw[ai,bA]at h2;refine⟨h1,by rw[bc];omega,λy hy=>?_⟩;rcases h3 y hy with g|⟨⟨b',gO,g⟩,g2⟩;rcases ay.1 g with g|g;exact Or.inl g;rw[cf.1 g];refine Or.inr ⟨⟨b,List.mem_cons_self ..,rfl⟩,?_,?_⟩;show(0:Int)<=((s.take z).length:Int);omega;show((s.take z).length:Int)<=(z:Int);rw[aY];omega;exact Or.inr ⟨⟨b',ec _ gO,g⟩,g2⟩
theorem Ou (p:cR)(i:Int): -1<=nV p i/\nV p i<=139136:=by unfold nV;cases hb: !dx p|| !dm i 0 (p.2.2.1-1)with|true=>exact⟨dL _,show(-1:Int)<=139136 by omega⟩|false=>simp only[cg,dz]at hb;have h:=xx hb.1;have h2:=bg.1 hb.2;have h3:0<=i*p.2.1:=Int.mul_nonneg h2.1 (by omega);have h4:i*p.2.1<=16*512:=Int.mul_le_mul (by omega) (by omega) (by omega) (by omega);simp only[af];omega
theorem aa3 {p:cR}(hp:dx p=true)(hb:b∈p.2.2.2):0<=nV p b:=by obtain⟨i,hi,rfl⟩:=eZ hb;have hq:=hp;simp only[dx,ae]at hq;have:=aG.1 hq.2.2.2 i (bT.2 hi);simp only[Cn,ae,cL hi]at this;have hn:=this.1;have h:=xx hp;have h2:=bg.1 hn;have h3:0<=p.2.2.2[i]*p.2.1:=Int.mul_nonneg h2.1 (by omega);unfold nV;rw[hp,hn];show 0<=p.1+p.2.2.2[i]*p.2.1;omega
theorem Tp (s:Bytes)(z:Nat):sub s 0 (if(s.length:Int)<(z:Int) then(s.length:Int) else(z:Int))=some (s.take z):=by by_cases h:(s.length:Int)<(z:Int);rw[aE h,xP,az,eR,bK (by omega)];rw[aH h,xP,az]
theorem QZ (s:Bytes)(z:Nat):sub s ((s.take z).length:Int) (s.length:Int)=some (s.drop z):=by rw[Tl _ _ (by rw[aY];omega),aY];by_cases h:z<=s.length;rw[gN h];rw[Nat.min_eq_right (by omega),List.drop_length,List.drop_eq_nil_of_le (by omega)]
def aaM:ax (aw gv×bM)->ax (Bool×bM×aw gv×Bool)->Prop
 |some x,r=>r=some (true,x.2,x.1,true)
 |none,r=>∃c m,r=some (c,m,[],false)
theorem D5 (l:aw aA)(d:Int)(p:cR)(z:Nat)(B:bM)(hp:p.2.2.2.length<=10^9)(hl:l.length<=10^9):∀(rest pre:cw)(s:Bytes)(m:bM)(a:aw gv)(f:Nat),rest.length<f->(pre++rest).length<=1000000->a.length+rest.length<=1000000->m.length<=10^9->
 aaM (wh l d p z rest s m a) (aX (jE (λ_ BW _ H0=>some (true,H0,BW,true)) (λ_ JC TC _ _ _ y23=>some (true,y23,JC,TC)) l d (z:Int) ([]:aw gv) false (pre++rest) ((pre++rest).length:Int) p B) f (s,a,(pre.length:Int),m))
 |rest,pre,s,m,a,0,hf,_,_,_=>by omega
 |[],pre,s,m,a,f+1,_,_,_,_=>by rw[aX];simp only[jE];rw[aq (by simp),af];rfl
 |b::q,pre,s,m,a,f+1,hf,hn,ha,hm=>by
  simp only[bc,ai]at hf hn ha;have hi:pre.length<(pre++b::q).length:=by simp
  have hb:(pre++b::q)[pre.length]=b:=by simp
  have hA:=Ou p b;rw[aX];simp only[jE];rw[ar (by simp;omega),bf hi,hb];simp only[ah,ab,Tp,QZ,FQ p b hp,zR l m d (nV p b) (s.take z) hl hm];rw[wh];cases hq:(hY l m d (nV p b) (s.take z) false).2 with
  |false=>exact⟨_,_,rfl⟩
  |true=>
   simp only[aj,af,ah];rw[ak (n:=(pre.length:Int)+1),aP (by simp only[bA];omega)];have key:=D5 l d p z B hp hl q (pre++[b]) (s.drop z) (hY l m d (nV p b) (s.take z) false).1 (a++[(nV p b,((s.take z).length:Int))]) f (by omega) (by simp;omega) (by simp;omega) (by rw[jG];exact hm);have el:((pre++[b]).length:Int)=(pre.length:Int)+1:=by simp
   rw[aR,List.singleton_append,el]at key;exact key
theorem YK (l:aw aA)(m:bM)(d:Int)(p:cR)(q:cw)(s:Bytes)(z:Nat)(hp:p.2.2.2.length<=10^9)(hl:l.length<=10^9)(hm:m.length<=10^9)(hq:q.length<=1000)(h0:0<q.length): aaM (wh l d p z q s m []) (mQ l m d p q s (z:Int)):=by have Ak:=dR;cases q with|nil=>cases h0|cons b q=>simp only[bc]at hq;have hA:=Ou p b;have hi:idx (b::q) 0=some b:=rfl;unfold mQ;rw[ar (by simp),ah,hi];simp only[ab,Tp,QZ,FQ p b hp,zR l m d (nV p b) (s.take z) hl hm];rw[wh];cases hq':(hY l m d (nV p b) (s.take z) false).2 with|false=>exact⟨_,_,rfl⟩|true=>simp only[aj,af,ah];rw[aP (by simp),show au (0+1)=1 from rfl];exact D5 l d p z _ hp hl q [b] (s.drop z) (hY l m d (nV p b) (s.take z) false).1 [(nV p b,((s.take z).length:Int))] fuel (by omega) (by simp;omega) (by simp;omega) (by rw[jG];exact hm)
theorem abL {ps:aw gv}{c:Int}(h0:0<ps.length)(h16:ps.length<=16)(hp:∀x∈ps,0<=x.1/\x.1<=200000/\0<=x.2/\x.2<=4096)(hz:dm z 1 128=true)(hc:dm c 0 65535=true):(pK ps z c).length=ps.length+1:=by
 have hz2:=bg.1 hz;have UY:=bg.1 hc;have e1:nL ps=true:=by unfold nL;rw[ae,aK,aB];refine⟨List.any_eq_false.2 λx hx=>?_,by omega⟩;have:=hp x hx;unfold yD;rw[cB,cG,aK,Bool.eq_false_iff];intro h;exact h (bg.2 (by omega))
 have e2:([((2:Int),(0:Int),(0:Int),(0:Int),z,c)]++xd ps c ps.length).all sR=true:=by rw[List.all_append,ae];constructor;simp only[cb,List.all_nil,dS,sR,ae,bg];omega;rw[G4];refine aG.2 λj hj=>?_;have hj:=bT.1 hj;have:=hp _ (bk hj);simp only[dsc,cL hj,sR,ae,bg];refine⟨by omega,?_,by omega,by omega,by omega,by omega⟩;by_cases hq:j+1=ps.length;rw[aE hq];omega;rw[aH hq];omega
 unfold pK;rw[e1,hz,e2,show((ps.length:Int)==0)=false from by rw[cI];omega];simp only[aj,bZ,af,ah,ai,bA,Ad];omega
theorem RR (K:bM->Int->ax R)(l:aw aA)(d:Int)(q:cw)(ds ds2:aw oN)(t1 t2 t3 t4:dD)(m1 m2 m3:bM)(h:ds.length<=1000): aX (fO K l d q ds2 ds (ds.length:Int) t1 m1 t2 m2 t3 t4 m3) fuel (([]:bM),0)=K (ds.map xk) (ds.length:Int):=by
 have Ak:=dR;refine eG (λi=>((ds.take i).map xk,(i:Int))) ds.length (by omega) (λi nx hi=>?_) (λnx=>?_);have e:((ds.take i).map xk).length<=1000:=by simp;omega
 rw[bQ hi,List.map_append];simp only[fO];rw[jK,ah,bf hi,ab,Ps,ab,aP (by simp only[bA];omega),ak];rfl;simp only[fO];rw[cB,af,eR]
def yj (p:aN)(z:Nat):Nat:=((jU p).1.length+z-1)/z
def Lx (l:aw aA)(m:bM)(d:Int)(t:dD)(c:Int)(n:Nat)(x:aw gv×bM):bM×dD×Bool:=
 bif (uc l x.2 d t.1 ((pK x.1 c t.2.2.2).map xk)).2.2 then
  ((uc l x.2 d t.1 ((pK x.1 c t.2.2.2).map xk)).1,((uc l x.2 d t.1 ((pK x.1 c t.2.2.2).map xk)).2.1,(jZ t.2.1 (n:Int)).1,t.2.2.1++[(t.2.2.2,(n:Int)+1,(jZ t.2.1 (n:Int)).2.1)],tmod (t.2.2.2+1) 65536),true)
 else(m,t,false)
def Ia (t:dD)(n:Nat):Bool:=(jZ t.2.1 (n:Int)).2.2&&(!decide ((n:Int)>16)&&(!decide ((n:Int)+1>nW t.1)&& !decide (dH t.2.2.1+(n:Int)+1>t.1.2.1)))
def wU (l:aw aA)(m:bM)(d:Int)(t:dD)(p:aN)(c z:Int):bM×dD×Bool:=
 bif L7 t&&(dw p&&(dm z 1 t.2.1.2.1&&dm c 1 128)) then
  bif Ia t (yj p z.toNat) then
   match wh l d t.2.1 z.toNat (jZ t.2.1 (yj p z.toNat:Int)).2.1 (jU p).1 m []with
   |some x=>Lx l m d t c (yj p z.toNat) x
   |none=>(m,t,false)
  else(m,t,false)
 else(m,t,false)
theorem Wy (h:dw p=true):0<(jU p).1.length/\(jU p).1.length<=378:=by have hl:=xZ p;have hs:=RK h;unfold jU;rw[h];show 0<(lD (dy p).1 (bP 0) (bP 0)).length/\(lD (dy p).1 (bP 0) (bP 0)).length<=378;rw[CN];omega
theorem agI (len z:Nat)(h:len<=1000)(hz:z<=1000)(h0:0<z):au (Int.tdiv (au (au ((len:Int)+(z:Int))-1)) (z:Int))=(((len+z-1)/z:Nat):Int):=by have hd:(len+z-1)/z<=len+z-1:=Nat.div_le_self ..;rw[ak (n:=(len:Int)+(z:Int)),ak (n:=(len:Int)+(z:Int)-1),show(len:Int)+(z:Int)-1=((len+z-1:Nat):Int) by omega,show Int.tdiv ((len+z-1:Nat):Int) (z:Int)=(((len+z-1)/z:Nat):Int) from rfl];generalize (len+z-1)/z=N at hd⊢;rw[ak]
theorem Tn {p:cR}(h:(jZ p (n:Int)).2.2=true):dx p=true/\n<=p.2.2.2.length/\(jZ p (n:Int)).2.1=p.2.2.2.take n:=by unfold jZ at h⊢;cases hq:dx p&&dm (n:Int) 0 (p.2.2.2.length:Int)with|false=>rw[hq]at h;cases h|true=>simp only[ae,bg]at hq;exact⟨hq.1,by omega,rfl⟩
theorem Yh {c:Int}{z:Nat}{x:aw gv×bM}(ht:L7 t=true)(hz:z<=512)(hc:dm c 1 128=true)(h0:0<n)(h16:n<=16)(hk:(jZ t.2.1 (n:Int)).2.2=true)(hx:wh l d t.2.1 z (jZ t.2.1 (n:Int)).2.1 s m []=some x):x.2.length=m.length/\(pK x.1 c t.2.2.2).length=n+1:=by
 obtain⟨hp,hn,hb⟩:=Tn hk;rw[hb]at hx;obtain⟨h1,h2,h3⟩:=FA l d t.2.1 z _ _ _ _ hx;simp only[ef,aY,ca]at h2;have e:x.1.length=n:=by omega
 refine⟨h1,?_⟩;rw[abL (by omega) (by omega) (λy hy=>?_) hc (by simp only[L7,ae]at ht;exact ht.2.2.1),e];rcases h3 y hy with g|⟨⟨b,gO,g⟩,g2⟩;cases g;have q1:=aa3 hp (List.mem_of_mem_take gO);have q2:=Ou t.2.1 b;rw[g];omega
theorem YV (l:aw aA)(m:bM)(d:Int)(t:dD)(p:aN)(c z:Int)(hl:l.length<=10^9)(hm:m.length<=10^9)(ht:aek t)(h1:t.2.2.1.length<=10^9)(h2:t.2.1.2.2.2.length+(bu t.2.2.1).length<=10^9):se l m d t p c z=some (wU l m d t p c z):=by
 have Ak:=dR;unfold se wU;rw[eS m,ab,EL t ht,ab,Vn t h1 h2,ab,oH,di,di];simp only[ab];cases hb:L7 t;rfl;cases hp:dw p;rfl;cases hz:dm z 1 t.2.1.2.1;rfl;cases hc:dm c 1 128;rfl;have hT:=Wy hp;have hz2:=bg.1 hz;have hq:=hb;simp only[L7,ae]at hq;have Ds:=xx hq.2.1;have h16:=E4 hb;have TH:=kL hq.1;have hnx:=bg.1 hq.2.2.1;obtain⟨z,rfl⟩:=aV (by omega:0<=z);have hzn:¬(z:Int)=0:=by omega
 have hS:∀x∈t.2.2.1,0<=x.2.1/\x.2.1<=16:=λx hx=>by have:=aG.1 hq.2.2.2.1 x hx;simp only[nM,ae,bg]at this;omega
 have hcb:=B6 _ hS;have hN:yj p z<=1000:=by have:yj p z<=(jU p).1.length+z-1:=Nat.div_le_self ..;omega
 have hN0:0<yj p z:=Nat.div_pos (by omega) (by omega);have hce:=agI (jU p).1.length z (by omega) (by omega) (by omega);rw[show((jU p).1.length+z-1)/z=yj p z from rfl]at hce;simp only[aj,af,ab,eY,ah,az,Nx,aH hzn,hce,Zb _ _ (show t.2.1.2.2.2.length<=10^9 by omega),Np,YX t (by omega) hS,Ia];rw[ak (n:=(yj p z:Int)+1),ak (n:=dH t.2.2.1+(yj p z:Int)),ak (n:=dH t.2.2.1+(yj p z:Int)+1)];by_cases g1:(yj p z:Int)>16;rw[ar g1];simp only[ah,ab,aj,dN,fE,af];rw[aq g1];simp only[bF,af,bp];cases decide ((yj p z:Int)+1>nW t.1)with|true=>simp only[ah,ab,aj,dN,fE,af]|false=> ?_
 simp only[bF,af,bp,ab];cases decide (dH t.2.2.1+(yj p z:Int)+1>t.1.2.1)with|true=>simp only[ah,ab,aj,dN,fE,af]|false=> ?_
 simp only[bF,af,dS,ab];cases hk:(jZ t.2.1 (yj p z:Int)).2.2;rfl;simp only[aj,af,ah,eS m (show m.length<=1073741824 by omega),ab];obtain⟨_,hkn,U1⟩:=Tn hk;have hkl:(jZ t.2.1 (yj p z:Int)).2.1.length=yj p z:=by rw[U1,aY];omega
 have key:=YK l m d t.2.1 (jZ t.2.1 (yj p z:Int)).2.1 (jU p).1 z (by omega) hl hm (by omega) (by omega);cases hx:wh l d t.2.1 z (jZ t.2.1 (yj p z:Int)).2.1 (jU p).1 m []with
 |none=>rw[hx]at key;obtain⟨a,b,e⟩:=key;obtain⟨f,g,_⟩:=AZ [] c t.2.2.2 (by simp);rw[e,ab];simp only[g,ab];cases a<;>cases f<;>rfl
 |some x=>
  rw[hx]at key;have key:mQ _ _ _ _ _ _ _=_:=key;obtain⟨x1,x2⟩:=Yh hb (by omega) hc hN0 (by omega) hk hx;obtain⟨_,x3,_⟩:=FA l d t.2.1 z _ _ _ _ hx;simp only[ef]at x3;obtain⟨f,g,hf⟩:=AZ x.1 c t.2.2.2;have hft:f=true:=by cases f with|true=>rfl|false=>have:=hf rfl;rw[this]at x2;cases x2
  subst hft;simp only[key,g,ab,ah,aj,af,aH (show¬(pK x.1 c t.2.2.2).length=0 by omega),Lx];rw[RR _ _ _ _ _ _ _ _ _ _ _ _ _ (by omega)];simp only[Vh l x.2 d t.1 _ hl (by omega) (show((pK x.1 c t.2.2.2).map xk).length<=10^9 by rw[da];omega),ab];cases (uc l x.2 d t.1 ((pK x.1 c t.2.2.2).map xk)).2.2 with|false=>rfl|true=>simp only[aj,af,ab,ah];rw[aP (by simp only[bA];omega),lZ,ak,x2];rfl
def Qg (g:Nat->Host->Host):Nat->Host->Host
 |0,h=>h
 |k+1,h=>g k (Qg g k h)
structure BH (a b:Host):Prop where
 maps:b.2.1=a.2.1
 tx:b.2.2.1=a.2.2.1
 rx:b.2.2.2.1.length=a.2.2.2.1.length
 pl:b.2.2.2.2.1.length=a.2.2.2.2.1.length
 vec:b.2.2.2.2.2.1=a.2.2.2.2.2.1
 VX:b.2.2.2.2.2.2.1=a.2.2.2.2.2.2.1
 ret:b.2.2.2.2.2.2.2.2.2.2.2.2.2.1=a.2.2.2.2.2.2.2.2.2.2.2.2.2.1
theorem BH.refl (a:Host):BH a a:=⟨rfl,rfl,rfl,rfl,rfl,rfl,rfl⟩
theorem BH.trans {a b c:Host}(h:BH a b)(k:BH b c):BH a c:=⟨k.1.trans h.1,k.2.trans h.2,k.3.trans h.3,k.4.trans h.4,k.5.trans h.5,k.6.trans h.6,k.7.trans h.7⟩
theorem SH (h:Host)(i:Nat)(c:Int):BH h (yF h i c).2:=by unfold yF;rcases h1:h.2.2.2.1[i]? with _|rx;exact BH.refl h;rcases h2:h.2.2.2.2.1[i]? with _|pl;exact BH.refl h;exact⟨rfl,rfl,aC ..,aC ..,rfl,rfl,rfl⟩
def ub (h:Host)(k:Nat):Host:=Qg (λi s=>(yF s i 1000).2) k h
theorem Bo (hn:128<=n)(z:cX n dC h):∀k,BH h (ub h k)/\cX (n+322000*k) dC (ub h k)
 |0=>⟨BH.refl h,z⟩
 |k+1=>by have i:=Bo hn z k;exact⟨i.1.trans (SH ..),(VY (by omega) k 1000 i.2).mono⟩
def adi (h:Host)(l:cw):Host:=(h.1,h.2.1,h.2.2.1,h.2.2.2.1,h.2.2.2.2.1,h.2.2.2.2.2.1,h.2.2.2.2.2.2.1,h.2.2.2.2.2.2.2.1,h.2.2.2.2.2.2.2.2.1,h.2.2.2.2.2.2.2.2.2.1,h.2.2.2.2.2.2.2.2.2.2.1,h.2.2.2.2.2.2.2.2.2.2.2.1,h.2.2.2.2.2.2.2.2.2.2.2.2.1,h.2.2.2.2.2.2.2.2.2.2.2.2.2.1++l,h.2.2.2.2.2.2.2.2.2.2.2.2.2.2)
def XT (h:Host):Host:=(h.1,h.2.1,(Eo.1,Eo.2.1,Eo.2.2.1,h.2.2.1.2.2.2),h.2.2.2)
def Eb (h:Host)(i:Nat)(dr:Int):Host:=
 ((sX h.2.1 h.1 i).1,h.2.1,h.2.2.1,h.2.2.2.1.set i ((sX h.2.1 h.1 i).2.1,(IE i).2.1,(IE i).2.2.1,(IE i).2.2.2.1,(IE i).2.2.2.2.1,dr),h.2.2.2.2.1.set i (sX h.2.1 h.1 i).2.2.1,h.2.2.2.2.2)
def DU (x:bR):Int:=bif x.2.2.2.2.1 then au (x.2.2.2.2.2+x.2.2.2.1.2.2) else x.2.2.2.2.2
def yH (i:Nat)(h:Host):Host:=
 match h.2.2.2.1[i]?,h.2.2.2.2.2.1[i]? with
 |some x,some v=>((Eb h i (DU x)).1,h.2.1,h.2.2.1,(Eb h i (DU x)).2.2.2.1,(Eb h i (DU x)).2.2.2.2.1,h.2.2.2.2.2.1.set i (v.1,v.2.1,0,0,false,false),h.2.2.2.2.2.2.1.set i false,h.2.2.2.2.2.2.2)
 |_,_=>h
structure afI (k:Nat) (a b:Host):Prop where
 mem:b.1.length=a.1.length
 maps:b.2.1=a.2.1
 rx:b.2.2.2.1.length=a.2.2.2.1.length
 pl:b.2.2.2.2.1.length=a.2.2.2.2.1.length
 vec:b.2.2.2.2.2.1.length=a.2.2.2.2.2.1.length
 Tw:∀j,k<=j->b.2.2.2.2.2.1[j]?=a.2.2.2.2.2.1[j]?
 VX:b.2.2.2.2.2.2.1.length=a.2.2.2.2.2.2.1.length
theorem NO (l:aw aA)(m:bM)(i:Nat):(sX l m i).1.length=m.length:=by unfold sX;rw[W6,jG]
theorem SV (i:Nat)(h:Host):afI (i+1) h (yH i h):=by unfold yH;rcases h1:h.2.2.2.1[i]? with _|x;exact⟨rfl,rfl,rfl,rfl,rfl,λ_ _=>rfl,rfl⟩;rcases h2:h.2.2.2.2.2.1[i]? with _|v;exact⟨rfl,rfl,rfl,rfl,rfl,λ_ _=>rfl,rfl⟩;have e1:(Eb h i (DU x)).1.length=h.1.length:=NO h.2.1 h.1 i;exact⟨e1,rfl,aC ..,aC ..,aC ..,λj hj=>aO (by omega),aC ..⟩
def im (h:Host)(k:Nat):Host:=Qg yH k h
theorem vN (h:Host):∀k,afI k h (im h k)
 |0=>⟨rfl,rfl,rfl,rfl,rfl,λ_ _=>rfl,rfl⟩
 |k+1=>by have a:=vN h k;have b:=SV k (im h k);exact⟨b.mem.trans a.mem,b.maps.trans a.maps,b.rx.trans a.rx,b.pl.trans a.pl,b.vec.trans a.vec,λj hj=>(b.Tw j hj).trans (a.Tw j (by omega)),b.VX.trans a.VX⟩
theorem ZN (hn:1000<=n)(i:Nat)(d:Int)(z:cX n dC h):cX n dC (Eb h i d):=by unfold Eb sX;have h4:=nK (gR i+128) 384 4;have hf:=EC h.2.1 (hY h.2.1 h.1 0 (gR i) (xi 128) false).1 0 (gR i,4,0,0) (gV (gR i+128) 384 4).1;refine⟨M6 (by omega) (CM (by omega) z.1 ..) ..,z.2.1,z.2.2.1,og z.2.2.2.1 ?_,og z.2.2.2.2.1 ?_,z.2.2.2.2.2⟩;refine⟨⟨cv,cv,cv,cv⟩,⟨cv,cv,cv⟩,⟨cv,cv,cv⟩,⟨⟨cv,cv,cv,cv,cv,cv,cv,cv,cv,cv,cv,cv,cv,cv,cv,?_⟩,cv,cv⟩,cv,cv⟩;exact bW _;exact⟨cv,cv,cv,by show List.length _<=_;omega,λ_ _=>trivial⟩
theorem V5 (hn:1000<=n)(i:Nat)(z:cX n dC h):cX n dC (yH i h):=by unfold yH;rcases h1:h.2.2.2.1[i]? with _|x;exact z;rcases h2:h.2.2.2.2.2.1[i]? with _|v;exact z;have zo:=ZN hn i (DU x) z;exact⟨zo.1,z.2.1,z.2.2.1,zo.2.2.2.1,zo.2.2.2.2.1,og z.2.2.2.2.2.1 ⟨cv,cv,cv,cv,cv,cv⟩,og z.2.2.2.2.2.2.1 trivial,z.2.2.2.2.2.2.2⟩
theorem Bs (hn:1000<=n)(z:cX n dC h):∀k,cX n dC (im h k)
 |0=>z
 |k+1=>V5 hn k (Bs hn z k)
def PX (W:aw kO)(i:Nat)(s:Host):Host:=match W[i]? with|some x=>adi s [x.1]|none=>s
def polled (h:Host):Host:=ub h h.2.2.2.1.length
def returned (h:Host)(k:Nat):Host:=Qg (PX h.2.2.1.2.2.1) k (polled h)
structure aiu (a b:Host):Prop where
 e:b=(a.1,a.2.1,a.2.2.1,a.2.2.2.1,a.2.2.2.2.1,a.2.2.2.2.2.1,a.2.2.2.2.2.2.1,a.2.2.2.2.2.2.2.1,a.2.2.2.2.2.2.2.2.1,a.2.2.2.2.2.2.2.2.2.1,a.2.2.2.2.2.2.2.2.2.2.1,a.2.2.2.2.2.2.2.2.2.2.2.1,a.2.2.2.2.2.2.2.2.2.2.2.2.1,b.2.2.2.2.2.2.2.2.2.2.2.2.2.1,a.2.2.2.2.2.2.2.2.2.2.2.2.2.2)
theorem wC (z:cX n dC (polled h)):∀k,aiu (polled h) (returned h k)/\(returned h k).2.2.2.2.2.2.2.2.2.2.2.2.2.1.length<=n+k
 |0=>⟨⟨rfl⟩,by have:=z.2.2.2.2.2.2.2.2.2.2.2.2.2.1.1;exact bw this (by omega)⟩
 |k+1=>by have i:=wC z k;have e:returned h (k+1)=PX h.2.2.1.2.2.1 k (returned h k):=rfl;rw[e];unfold PX;cases h.2.2.1.2.2.1[k]? with|none=>exact⟨i.1,bw i.2 (by omega)⟩|some x=>refine⟨⟨?_⟩,?_⟩;show adi _ _=_;have e:=i.1.e;generalize returned h k=r at e⊢;rw[e];rfl;show(_++[_]).length<=_;rw[ai,bA];omega
theorem PY (z:cX n dC (polled h))(k:Nat):cX (n+k) dC (returned h k):=by have i:=wC z k;have z':cX (n+k) dC (polled h):=z.mono;rw[i.1.e];exact⟨z'.1,z'.2.1,z'.2.2.1,z'.2.2.2.1,z'.2.2.2.2.1,z'.2.2.2.2.2.1,z'.2.2.2.2.2.2.1,z'.2.2.2.2.2.2.2.1,z'.2.2.2.2.2.2.2.2.1,z'.2.2.2.2.2.2.2.2.2.1,z'.2.2.2.2.2.2.2.2.2.2.1,z'.2.2.2.2.2.2.2.2.2.2.2.1,z'.2.2.2.2.2.2.2.2.2.2.2.2.1,⟨i.2,λ_ _=>trivial⟩,z'.2.2.2.2.2.2.2.2.2.2.2.2.2.2⟩
theorem Ts (hn:1000<=n)(z:cX n dC h):cX n dC (XT h):=by have h4:=nK 256 128 8;exact⟨z.1,z.2.1,⟨⟨cv,cv,cv,cv⟩,⟨cv,cv,cv,by show List.length (gV 256 128 8).1.2.2.2<=n;omega,λ_ _=>trivial⟩,⟨bW _,λx hx=>by cases hx⟩,cv⟩,z.2.2.2⟩
def rT (h:Host):Host:=XT (returned h h.2.2.1.2.2.1.length)
def wS (h:Host):Host:=bif fy h then im (rT h) h.2.2.2.1.length else h
theorem Kv (hb:fy h=true):qU h=true:=by simp only[fy,ae]at hb;exact hb.2.2.2.2.1
theorem H8 (hn:1000<=n)(z:cX n dC h)(hl:h.2.2.2.1.length<=2):cX (n+644000+h.2.2.1.2.2.1.length) dC (rT h):=by have hp:=Bo (by omega) z h.2.2.2.1.length;exact Ts (by omega) (PY (hp.2.mono) _)
theorem ajK (l:aw aA)(X:bM)(q:bR)(P:cR)(o:bM×lN×cR×Int)(k:bR×cR->bM×lN×cR×Int->ax R)(h:hZ l X 0 q.1 P=some o):(aa (hZ l X 0 (q,P).1.1 (q,P).2) λPV=>k (q,P) PV)=k (q,P) o:=by show aa (hZ l X 0 q.1 P) (λPV=>k (q,P) PV)=k (q,P) o;rw[h,ab]
theorem Nq (l:aw aA)(m:bM)(i:Nat)(hi:i<=8)(hl:l.length<=10^9)(hm:m.length<=10^9)(k:bR×cR->bM×lN×cR×Int->ax R): (aa (pS (i:Int)) λxh=>aa (ns 0 128) λXy=>aa (ji l m 0 xh Xy) λzV=>aa (uS (i:Int)) λDA=>aa (hZ l zV.1 0 DA.1.1 DA.2) λPV=>k DA PV)=k (IE i,(gV (gR i+128) 384 4).1) (sX l m i):=by
 have hb:gR i=1280+(i:Int)*1792:=rfl;have Jq:gR i<=9223372036854775807:=by omega
 have hz:ns 0 128=some (xi 128):=Xj 128;have hf:=RS l (hY l m 0 (gR i) (xi 128) false).1 0 (gR i,4,0,0) (gV (gR i+128) 384 4).1 hl (by rw[jG];exact hm) (bw (nK (gR i+128) 384 4) (by omega));rw[RN i hi,ab,hz,ab,zR l m 0 (gR i) (xi 128) hl hm Jq,ab,YT i hi,ab];exact ajK l _ (IE i) _ (sX l m i) k hf
theorem Mq (K:Int->Host->ax Host)(s0 B:Host)(N:Nat)(hN:N<=2)(h1:s0.2.2.2.1.length=N)(h2:s0.2.2.2.2.1.length=N)(h3:s0.2.2.2.2.2.1.length=N)(h4:s0.2.2.2.2.2.2.1.length=N)(z:cX 900000000 dC s0): aX (ku K (N:Int) B) fuel (0,s0)=K (N:Int) (im s0 N):=by
 refine eG (λi=>((i:Int),im s0 i)) N (by omega) (λi nx hi=>?_) (λnx=>?_);have kr:=vN s0 i;have zr:=Bs (by omega) z i;have z1:(im s0 i).1.length<=10^9:=bw zr.1.1 (by omega);have z2:(im s0 i).2.1.length<=10^9:=bw zr.2.1.1 (by omega);have i1:i<(im s0 i).2.2.2.1.length:=by rw[kr.rx,h1];exact hi
 have i2:i<(im s0 i).2.2.2.2.1.length:=by rw[kr.pl,h2];exact hi
 have i3:i<(im s0 i).2.2.2.2.2.1.length:=by rw[kr.vec,h3];exact hi
 have i4:i<(im s0 i).2.2.2.2.2.2.1.length:=by rw[kr.VX,h4];exact hi
 rw[show im s0 (i+1)=yH i (im s0 i) from rfl];generalize im s0 i=s at z1 z2 i1 i2 i3 i4⊢;unfold yH DU Eb;simp only[al i1,al i3];simp only[ku];rw[jK,ah];simp only[bf i1,ab];rw[Nq s.2.1 s.1 i (by omega) z2 z1,Nq s.2.1 s.1 i (by omega) z2 z1];generalize IE i=q;generalize sX s.2.1 s.1 i=o;simp only[bf i1,bf i2,bf i3,bf i4,ab];rw[ak (n:=(i:Int)+1),az];cases s.2.2.2.1[i].2.2.2.2.1<;>rfl;simp only[ku];rw[cB,af]
theorem OW (hq:BH h (polled h))(hz:cX n dC (polled h)):(rT h).2.2.2.1.length=h.2.2.2.1.length/\(rT h).2.2.2.2.1.length=h.2.2.2.2.1.length/\(rT h).2.2.2.2.2.1=h.2.2.2.2.2.1/\(rT h).2.2.2.2.2.2.1=h.2.2.2.2.2.2.1:=by have er:=(wC hz h.2.2.1.2.2.1.length).1.e;refine⟨?_,?_,?_,?_⟩;show(returned h h.2.2.1.2.2.1.length).2.2.2.1.length=_;rw[er];exact hq.rx;show(returned h h.2.2.1.2.2.1.length).2.2.2.2.1.length=_;rw[er];exact hq.pl;show(returned h h.2.2.1.2.2.1.length).2.2.2.2.2.1=_;rw[er];exact hq.vec;show(returned h h.2.2.1.2.2.1.length).2.2.2.2.2.2.1=_;rw[er];exact hq.VX
theorem D6 (h:Host)(k:JF h)(z:cX 100000000 dC h):pO h=some (wS h):=by
 have Ak:=dR;unfold pO wS;rw[lp h (z.mono),ab,tB h k,ab];cases hb:fy h;rfl;have hl:=qB (Kv hb);have hw:h.2.2.1.2.2.1.length<=100000000:=z.2.2.1.2.2.1.1;have hp:=Bo (n:=100000000) (by omega) z;simp only[aj,af,ah];refine eG (λi=>((i:Int),ub h i)) h.2.2.2.1.length (by omega) (λi nx hi=>?_) (λnx=>?_);simp only[pa];rw[jK,ah,Py (ub h i) i 1000 (by rw[(hp i).1.rx];exact hi) (by rw[(hp i).1.pl];omega) ((hp i).2.mono),ab,ak];rfl;simp only[pa];rw[cB,af];have hq:=hp h.2.2.2.1.length;have hr:=wC (n:=100000000+322000*h.2.2.2.1.length) hq.2;have e1:(ub h h.2.2.2.1.length).2.2.1.2.2.1=h.2.2.1.2.2.1:=by rw[hq.1.tx]
 rw[e1];refine eG (λi=>((i:Int),returned h i)) h.2.2.1.2.2.1.length (by omega) (λi nx hi=>?_) (λnx=>?_);have hri:=(hr i).2;simp only[nw];rw[jK,ah,bf hi,ab,aP (by rw[bA];omega),ak];rw[show returned h (i+1)=PX h.2.2.1.2.2.1 i (returned h i) from rfl,PX,al hi];rfl;simp only[nw];rw[cB,af];simp only[Zf,ab];have hE:=H8 (n:=100000000) (by omega) z hl.1;have hk:=OW hq.1 hq.2;have eN:((List.length (returned h h.2.2.1.2.2.1.length).2.2.2.1:Nat):Int)=(h.2.2.2.1.length:Int):=congrArg Nat.cast hk.1;rw[eN];exact Mq _ (rT h) _ h.2.2.2.1.length hl.1 hk.1 (hk.2.1.trans hl.2.1) (by rw[hk.2.2.1];exact hl.2.2.1) (by rw[hk.2.2.2];exact hl.2.2.2) (hE.mono)
def yk (x:Er):Bool:=dm x.1 0 65535&&(dm x.2.1 0 65535&&(dm x.2.2.1 0 65535&&(dm x.2.2.2.1 0 65535&&dm x.2.2.2.2 0 4294967295)))
theorem Nn (x:Er):lu x=some (yk x):=by simp only[lu,di,ab,bL,cF,yk]
def OX (x:Er)(p:Int):Bytes:=bif yk x&&dm p 0 1 then((((bP x.1++bP x.2.1)++bP x.2.2.1)++bP x.2.2.2.1)++iR x.2.2.2.2)++iR p else []
theorem aco (x:Er)(p:Int):kH x p=some (OX x p):=by have h1:=bD x.1;have h2:=bD x.2.1;have h3:=bD x.2.2.1;have h4:=bD x.2.2.2.1;have h5:=ez x.2.2.2.2;have h6:=ez p;unfold kH OX;simp only[Nn,di,ab,kt,yy];cases yk x;rfl;cases dm p 0 1;rfl;simp only[aj,af,ab,eY,ah];rw[aP,aP (by simp only[ai];omega),aP (by simp only[ai];omega),aP (by simp only[ai];omega),aP (by simp only[ai];omega)]
def zA (l:aw aA)(m:bM)(d:Int)(q:L2)(x:Er):bM×L2×Bool:=
 bif !fI q|| !yk x then(m,q,false) else
 bif !(hY l m d (qX q) (OX x (yC q)) true).2 then(m,q,false) else
 ((hY l m d (qX q) (OX x (yC q)) true).1,(q.1,q.2.1,tmod (q.2.2+1) (2*q.2.1)),true)
theorem acA (l:aw aA)(m:bM)(d:Int)(q:L2)(x:Er)(hl:l.length<=10^9)(hm:m.length<=10^9):nB l m d q x=some (zA l m d q x):=by unfold nB zA;simp only[Hi,Nn,ab,eS m (show m.length<=1073741824 by omega),Nr,aco];cases hq:fI q;rfl;have h:=ue hq;have hs:=P6 hq;cases yk x;rfl;simp only[aj,af,ab,bZ,Nv q hq,Ba l m d _ _ hl hm (show qX q<=9223372036854775807 by unfold qX;omega)];cases hp:(hY l m d (qX q) (OX x (yC q)) true).2 with|false=>simp only[bF,ah,HI hp]|true=>simp only[aj,af];rw[ak (n:=2*q.2.1),lZ,ak (n:=q.2.2+1)]
theorem Z1 (hn:128<=n)(z:cX n (.sl .str) m)(l:aw aA)(d:Int)(q:L2)(x:Er):cX n (.sl .str) (zA l m d q x).1/\(zA l m d q x).1.length=m.length:=by
 unfold zA;cases !fI q|| !yk x;case true=>exact⟨z,rfl⟩
 cases (hY l m d (qX q) (OX x (yC q)) true).2 with|false=>exact⟨z,rfl⟩|true=>exact⟨CM hn z ..,jG ..⟩
theorem Xw {q:L2}{x:Er}(h:fI q=true):fI (zA l m d q x).2.1=true/\(zA l m d q x).2.1.1=q.1/\(zA l m d q x).2.1.2.1=q.2.1:=by
 have hq:=ue h;unfold zA;cases !fI q|| !yk x;case true=>exact⟨h,rfl,rfl⟩
 cases (hY l m d (qX q) (OX x (yC q)) true).2 with|false=>exact⟨h,rfl,rfl⟩|true=>refine⟨?_,rfl,rfl⟩;have e:=Qp (a:=q.2.2+1) (b:=2*q.2.1);simp only[af,aj,fI,ae,bg]at h⊢;refine⟨h.1,h.2.1,?_⟩;rw[ye h.2.1];omega
def hG (l:aw aA)(m:bM)(d:Int)(q:bR)(k:Bytes)(s:Bytes):bM×L2×Bool:=
 bif !(cQ s).2||(((cQ s).1.1 !=3)||decide ((cQ s).1.2.2.1<((dy q.2.2.2.1.1).1.length:Int))) then(m,q.2.1,false) else
 bif !(hY l m d (cQ s).1.2.2.2.1 (dy q.2.2.2.1.1).1 true).2 then(m,q.2.1,false) else
 zA l (hY l m d (cQ s).1.2.2.2.1 (dy q.2.2.2.1.1).1 true).1 d q.2.1 ((cQ s).1.2.2.2.2.2,((dy q.2.2.2.1.1).1.length:Int),q.2.2.2.1.2.1,q.2.2.2.1.2.2,yq k (tz (kS q.2.2.2.1.1)))
theorem Za (l:aw aA)(m:bM)(d:Int)(q:bR)(k s:Bytes)(hl:l.length<=10^9)(hm:m.length<=10^9)(hs:s.length<=10^9)(hh:dw q.2.2.2.1.1=true):∃b,tY l m d q k s=some (b,hG l m d q k s)/\(b=false->hG l m d q k s=(m,q.2.1,false)):=by
 unfold tY hG;have nn:=UG (s:=s);simp only[RP s hs,Dv,ab,Du hh];generalize cQ s=x at nn⊢;cases hx:x.2;exact⟨false,rfl,λ_=>rfl⟩;have hd:=nn hx;simp only[sR,ae,bg]at hd;cases x.1.1 !=3;case true=>exact⟨false,rfl,λ_=>rfl⟩
 cases decide (x.1.2.2.1<((dy q.2.2.2.1.1).1.length:Int));case true=>exact⟨false,rfl,λ_=>rfl⟩
 simp only[aj,af,ab,bZ,Ba l m d _ _ hl hm (show x.1.2.2.2.1<=9223372036854775807 by omega)];cases (hY l m d x.1.2.2.2.1 (dy q.2.2.2.1.1).1 true).2;exact⟨false,rfl,λ_=>rfl⟩;simp only[aj,af,KE,ab,FV,acA l _ d _ _ hl (show(hY l m d x.1.2.2.2.1 (dy q.2.2.2.1.1).1 true).1.length<=10^9 by rw[jG];exact hm)];exact⟨true,rfl,λh=>by cases h⟩
theorem N6 (hn:128<=n){k:Bytes}(z:cX n (.sl .str) m)(hq:fI q.2.1=true): cX n (.sl .str) (hG l m d q k s).1/\(hG l m d q k s).1.length=m.length/\fI (hG l m d q k s).2.1=true/\(hG l m d q k s).2.1.1=q.2.1.1/\(hG l m d q k s).2.1.2.1=q.2.1.2.1:=by
 unfold hG;cases !(cQ s).2||(((cQ s).1.1 !=3)||decide ((cQ s).1.2.2.1<((dy q.2.2.2.1.1).1.length:Int)));case true=>exact⟨z,rfl,hq,rfl,rfl⟩
 cases (hY l m d (cQ s).1.2.2.2.1 (dy q.2.2.2.1.1).1 true).2;exact⟨z,rfl,hq,rfl,rfl⟩;have h1:=CM hn z l d (cQ s).1.2.2.2.1 (dy q.2.2.2.1.1).1 true;have h2:=jG l m d (cQ s).1.2.2.2.1 (dy q.2.2.2.1.1).1 true;generalize (hY l m d (cQ s).1.2.2.2.1 (dy q.2.2.2.1.1).1 true).1=w at h1 h2;have h3:=Z1 hn h1 l d q.2.1 ((cQ s).1.2.2.2.2.2,((dy q.2.2.2.1.1).1.length:Int),q.2.2.2.1.2.1,q.2.2.2.1.2.2,yq k (tz (kS q.2.2.2.1.1)));have h4:=Xw (l:=l) (m:=w) (d:=d) (x:=((cQ s).1.2.2.2.2.2,((dy q.2.2.2.1.1).1.length:Int),q.2.2.2.1.2.1,q.2.2.2.1.2.2,yq k (tz (kS q.2.2.2.1.1)))) hq;exact⟨h3.1,h3.2.trans h2,h4⟩
def iE (l:aw aA)(m:bM)(d:Int)(q:bR)(k:Bytes):bM×bR:=
 bif !Fg q||(!q.2.2.2.2.1||((k.length:Int) !=16)) then(m,q) else
 bif (bm l m d q.1).2.2&&(hG l m d q k (bm l m d q.1).1).2.2 then
  ((hG l m d q k (bm l m d q.1).1).1,(bm l m d q.1).2.1,(hG l m d q k (bm l m d q.1).1).2.1,q.2.2.1,aaD,false,q.2.2.2.2.2)
 else(m,(bm l m d q.1).2.1,q.2.1,q.2.2.1,aaD,false,au (q.2.2.2.2.2+q.2.2.2.1.2.2))
theorem To (h:(bm l m d r).2.2=false):(bm l m d r).2.1=r:=by
 unfold bm at h⊢;cases hc: !cW r||(bE r==0);case true=>rfl
 cases hd:(qY l m d (om r r.2.2.1) 16).2 with|false=>rfl|true=>rw[hc,hd]at h;cases h
theorem AE (h:Fg q=true):fI q.2.1=true/\(q.2.2.2.2.1=true->dw q.2.2.2.1.1=true):=by unfold Fg at h;simp only[ae]at h;refine⟨h.1.2.1,λhh=>?_⟩;have h2:=h.2;rw[hh]at h2;simp only[ah,ae]at h2;exact h2.1
theorem Hh (l:aw aA)(m:bM)(d:Int)(q:bR)(k:Bytes)(hl:l.length<=10^9)(hm:m.length<=10^9):mL l m d q k=some (iE l m d q k):=by
 have ht:=Em l m d q.1;have Fe:=To (l:=l) (m:=m) (d:=d) (r:=q.1);unfold mL iE;simp only[PA,ab,eS m (show m.length<=1073741824 by omega),F3 l m d q.1 hl hm];cases hr:Fg q;rfl;cases hh:q.2.2.2.2.1;rfl;cases (k.length:Int) !=16;case true=>rfl
 obtain⟨b,hb,Jq⟩:=Za l m d q k (bm l m d q.1).1 hl hm (by omega) ((AE hr).2 hh);simp only[aj,af,ab,bZ,hb];generalize hG l m d q k (bm l m d q.1).1=s at hb Jq⊢;cases hk:(bm l m d q.1).2.2 with|false=>rw[Fe hk];rfl|true=>?_
 cases b with|true=>cases hs:s.2.2<;>rfl|false=>rw[Jq rfl];rfl
theorem Dm (hn:128<=n){k:Bytes}(z:cX n (.sl .str) m)(zq:cX n dI q): cX n (.sl .str) (iE l m d q k).1/\(iE l m d q k).1.length=m.length/\cX n dI (iE l m d q k).2/\(Fg q=true->fI (iE l m d q k).2.2.1=true/\(iE l m d q k).2.2.1.2.1=q.2.1.2.1):=by
 unfold iE;cases hc: !Fg q||(!q.2.2.2.2.1||((k.length:Int) !=16));case true=>exact⟨z,rfl,zq,λh=>⟨(AE h).1,rfl⟩⟩
 simp only[cg,dz]at hc;have hq:=(AE hc.1).1;have hs:=N6 hn (l:=l) (d:=d) (k:=k) (s:=(bm l m d q.1).1) z hq;have e0:cX n dI ((bm l m d q.1).2.1,(hG l m d q k (bm l m d q.1).1).2.1,q.2.2.1,aaD,false,q.2.2.2.2.2):=⟨⟨cv,cv,cv,cv⟩,⟨cv,cv,cv⟩,⟨cv,cv,cv⟩,⟨⟨cv,cv,cv,cv,cv,cv,cv,cv,cv,cv,cv,cv,cv,cv,cv,bW _⟩,cv,cv⟩,cv,cv⟩
 cases (bm l m d q.1).2.2&&(hG l m d q k (bm l m d q.1).1).2.2 with|true=>exact⟨hs.1,hs.2.1,e0,λ_=>⟨hs.2.2.1,hs.2.2.2.2⟩⟩|false=>exact⟨z,rfl,⟨⟨cv,cv,cv,cv⟩,⟨cv,cv,cv⟩,⟨cv,cv,cv⟩,⟨⟨cv,cv,cv,cv,cv,cv,cv,cv,cv,cv,cv,cv,cv,cv,cv,bW _⟩,cv,cv⟩,cv,cv⟩,λ_=>⟨hq,rfl⟩⟩
def evS (k:Nat)(h:Host):Host:=
 match h.2.2.2.2.2.1[k]? with
 |some v=>(h.1,h.2.1,h.2.2.1,h.2.2.2.1,h.2.2.2.2.1,h.2.2.2.2.2.1.set k (evV v),h.2.2.2.2.2.2)
 |none=>h
def Ye (k:Nat):Nat->Host->Host
 |0,h=>h
 |i+1,h=>evS k (Ye k i h)
theorem abS (k:Nat)(h:Host):kQ (k+1) h (evS k h):=by unfold evS;cases h.2.2.2.2.2.1[k]? with|none=>exact kQ.refl _ _|some v=>exact⟨rfl,rfl,rfl,rfl,λ_ _=>rfl,rfl,aC ..,λj hj=>aO (by omega),rfl,rfl,rfl⟩
theorem J7 (k:Nat)(h:Host):∀i,kQ (k+1) h (Ye k i h)
 |0=>kQ.refl _ _
 |i+1=>(J7 k h i).trans (abS k _)
theorem aey (k:Nat)(z:cX n dC h):cX n dC (evS k h):=by unfold evS;cases h.2.2.2.2.2.1[k]? with|none=>exact z|some v=>exact⟨z.1,z.2.1,z.2.2.1,z.2.2.2.1,z.2.2.2.2.1,JB z.2.2.2.2.2.1,z.2.2.2.2.2.2⟩
theorem W3 (k:Nat)(z:cX n dC h):∀i,cX n dC (Ye k i h)
 |0=>z
 |i+1=>aey k (W3 k z i)
theorem U6 (h:Host)(k:Nat)(b:Int)(h1:k<h.2.2.2.1.length)(h2:k<h.2.2.2.2.2.1.length)(hq:fI h.2.2.2.1[k].2.1=true)(hb:0<=b/\b<=31):ky h (k:Int) b=some ((),Ye k ((h.2.2.2.1[k].2.1.2.2-b)%(2*h.2.2.2.1[k].2.1.2.1)).toNat h):=by
 have Ak:=dR;have q:=ue hq;unfold ky;rw[bf h1,ab];generalize h.2.2.2.1[k]=x at q⊢;rw[ak (n:=x.2.1.2.2-b),ak (n:=2*x.2.1.2.1),Hx _ _,ab];have hm:0<=(x.2.1.2.2-b)%(2*x.2.1.2.1)/\(x.2.1.2.2-b)%(2*x.2.1.2.1)<32:=by have g1:=eI (x.2.1.2.2-b) (show 2*x.2.1.2.1≠0 by omega);have g2:=eJ (x.2.1.2.2-b) (show 0<2*x.2.1.2.1 by omega);omega
 generalize (x.2.1.2.2-b)%(2*x.2.1.2.1)=c at hm⊢;obtain⟨c,rfl⟩:=aV hm.1;rw[az];have e0:((c:Int),h)=(((c:Int)-((0:Nat):Int)),Ye k 0 h):=by simp[Ye]
 rw[e0];refine eG (λi=>((c:Int)-(i:Int),Ye k i h)) c (by omega) (λi nx hi=>?_) (λnx=>?_);have kk:=J7 k h i;have i1:k<(Ye k i h).2.2.2.2.2.1.length:=by rw[kk.vec];exact h2
 rw[show Ye k (i+1) h=evS k (Ye k i h) from rfl];generalize Ye k i h=s at i1⊢;simp only[pj,evS];rw[jK,ah,al i1];simp only[bf i1,ab,YG,az];rw[ak,show(c:Int)-(i:Int)-1=(c:Int)-((i+1:Nat):Int) by omega];simp only[pj];rw[cB,af]
def Gq (h:Host)(k:Nat)(f:bM×bR):Host:=(f.1,h.2.1,h.2.2.1,h.2.2.2.1.set k f.2,h.2.2.2.2)
def HZ (h:Host)(k:Nat)(b:Int)(f:bM×bR):Host:=Ye k ((f.2.2.1.2.2-b)%(2*f.2.2.1.2.1)).toNat (Gq h k f)
def oO (k:Nat)(h:Host):Host:=
 match h.2.2.2.1[k]? with
 |some x=>HZ h k x.2.1.2.2 (iE h.2.1 h.1 0 x h.2.2.2.2.2.2.2.2.1.2.2.1)
 |none=>h
theorem C6 (hf:f.1.length=h.1.length):kQ (k+1) h (HZ h k b f):=by
 have a:kQ (k+1) h (Gq h k f):=⟨hf,rfl,rfl,aC ..,λj hj=>aO (by omega),rfl,rfl,λ_ _=>rfl,rfl,rfl,rfl⟩
 exact a.trans (J7 k (Gq h k f) _)
theorem LZ (z:cX n dC h)(h1:cX n (.sl .str) f.1)(h2:cX n dI f.2):cX n dC (HZ h k b f):=by
 have a:cX n dC (Gq h k f):=⟨h1,z.2.1,z.2.2.1,og z.2.2.2.1 h2,z.2.2.2.2⟩
 exact W3 k a _
theorem Re {k:Bytes}:(iE l m d q k).1.length=m.length:=by
 have hs:(hG l m d q k (bm l m d q.1).1).1.length=m.length:=by
  unfold hG;cases !(cQ (bm l m d q.1).1).2||(((cQ (bm l m d q.1).1).1.1 !=3)||decide ((cQ (bm l m d q.1).1).1.2.2.1<((dy q.2.2.2.1.1).1.length:Int)));case true=>rfl
  cases (hY l m d (cQ (bm l m d q.1).1).1.2.2.2.1 (dy q.2.2.2.1.1).1 true).2;rfl;have h2:=jG l m d (cQ (bm l m d q.1).1).1.2.2.2.1 (dy q.2.2.2.1.1).1 true;simp only[af,aj];unfold zA;cases !fI q.2.1|| !yk ((cQ (bm l m d q.1).1).1.2.2.2.2.2,((dy q.2.2.2.1.1).1.length:Int),q.2.2.2.1.2.1,q.2.2.2.1.2.2,yq k (tz (kS q.2.2.2.1.1)));case true=>exact h2
  cases (hY l (hY l m d (cQ (bm l m d q.1).1).1.2.2.2.1 (dy q.2.2.2.1.1).1 true).1 d (qX q.2.1) (OX ((cQ (bm l m d q.1).1).1.2.2.2.2.2,((dy q.2.2.2.1.1).1.length:Int),q.2.2.2.1.2.1,q.2.2.2.1.2.2,yq k (tz (kS q.2.2.2.1.1))) (yC q.2.1)) true).2 with|false=>exact h2|true=>exact(jG ..).trans h2
 unfold iE;cases !Fg q||(!q.2.2.2.2.1||((k.length:Int) !=16));case true=>rfl
 cases (bm l m d q.1).2.2&&(hG l m d q k (bm l m d q.1).1).2.2 with|true=>exact hs|false=>rfl
theorem Cm (k:Nat)(h:Host):kQ (k+1) h (oO k h):=by unfold oO;cases h.2.2.2.1[k]? with|none=>exact kQ.refl _ _|some x=>exact C6 Re
theorem Kg (k:Nat)(h:Host)(n:Nat)(hn:1000<=n)(z:cX n dC h):cX (n+0) dC (oO k h):=by unfold oO;cases hx:h.2.2.2.1[k]? with|none=>exact z|some x=>have hf:=Dm (show 128<=n by omega) (l:=h.2.1) (d:=0) (k:=h.2.2.2.2.2.2.2.2.1.2.2.1) z.1 (z.2.2.2.1.2 _ (bn hx));exact LZ z hf.1 hf.2.2.1
def AP (h:Host):Host:=bif fy h then kV oO h.2.2.2.1.length h else h
theorem Yl (hn:1000<=n)(k:BG n h):BG n (AP h):=by unfold AP;cases fy h with|false=>exact k|true=>refine⟨(Bx hn Kg k.z _).mono,?_⟩;simp only[ah];rw[(vi Cm h _).tx];exact k.t
theorem EJ (hb:fy h=true):∀i (hi:i<h.2.2.2.1.length),Fg h.2.2.2.1[i]=true:=by simp only[fy,SX,ae]at hb;exact λi hi=>aG.1 hb.2.2.2.2.2.2.1.1 _ (bk hi)
theorem I1 (h1:k<h.2.2.2.1.length)(h2:k<h.2.2.2.2.2.1.length)(hq:fI f.2.2.1=true)(hb:0<=b/\b<=31:=by omega): ky (f.1,h.2.1,h.2.2.1,h.2.2.2.1.set k f.2,h.2.2.2.2) (k:Int) b=some ((),HZ h k b f):=by
 have h3:k<(Gq h k f).2.2.2.1.length:=by show k<(h.2.2.2.1.set k f.2).length;rw[aC];exact h1
 have e:(Gq h k f).2.2.2.1[k]=f.2:=List.getElem_set_self _;have a:=U6 (Gq h k f) k b h3 h2 (by rw[e];exact hq) hb;rw[e]at a;exact a
theorem Vb (h:Host)(k:BG 900000000 h):tH h=some (AP h):=by
 have Ak:=dR;unfold tH AP;rw[lp h (k.z.mono),ab,tB h (k.sz (by omega)),ab];cases hb:fy h;rfl;have hl:=qB (by simp only[fy,ae]at hb;exact hb.2.2.2.2.1:qU h=true);have hr:=EJ hb;simp only[aj,af,ah];refine eG (λi=>((i:Int),kV oO i h)) h.2.2.2.1.length (by omega) (λi nx hi=>?_) (λnx=>?_);have kk:=vi Cm h i;have zz:cX 900000000 dC (kV oO i h):=(Bx (by omega) Kg k.z i).mono;have i1:i<(kV oO i h).2.2.2.1.length:=by rw[kk.rx];exact hi
 have i2:i<(kV oO i h).2.2.2.2.2.1.length:=by rw[kk.vec];omega
 have e1:(kV oO i h).2.2.2.1[i]=h.2.2.2.1[i]:=by have:=kk.rxs i (aU _);rw[al i1,al hi]at this;exact dp this
 rw[show kV oO (i+1) h=oO i (kV oO i h) from rfl];generalize kV oO i h=s at zz i1 i2 e1⊢;have z1:s.1.length<=900000000:=zz.1.1;have z2:s.2.1.length<=900000000:=zz.2.1.1;have YC:=hr i hi;rw[<-e1]at YC;have hqd:=ue (AE YC).1;have hf:=Dm (show 128<=900000000 by omega) (l:=s.2.1) (d:=0) (k:=s.2.2.2.2.2.2.2.2.1.2.2.1) zz.1 (zz.2.2.2.1.2 _ (bk i1));have ev:=I1 (h:=s) (k:=i) (b:=s.2.2.2.1[i].2.1.2.2) (f:=iE s.2.1 s.1 0 s.2.2.2.1[i] s.2.2.2.2.2.2.2.2.1.2.2.1) i1 i2 (hf.2.2.2 YC).1;simp only[oZ,oO];rw[jK,ah,al i1];simp only[bf i1,bf hi,ab,Hh s.2.1 s.1 0 _ _ (show s.2.1.length<=10^9 by omega) (show s.1.length<=10^9 by omega),az,<-e1,ev];rw[ak];rfl;simp only[oZ];rw[cB,af]
def SE (a b:aN):Bool:=(a.1==b.1)&&((a.2.1==b.2.1)&&((a.2.2.1==b.2.2.1)&&((a.2.2.2.1==b.2.2.2.1)&&((a.2.2.2.2.2.1==b.2.2.2.2.2.1)&&((a.2.2.2.2.2.2.1==b.2.2.2.2.2.2.1)&&((a.2.2.2.2.2.2.2.1==b.2.2.2.2.2.2.2.1)&&((a.2.2.2.2.2.2.2.2.1==b.2.2.2.2.2.2.2.2.1)&&((a.2.2.2.2.2.2.2.2.2.1==b.2.2.2.2.2.2.2.2.2.1)&&((a.2.2.2.2.2.2.2.2.2.2.1==b.2.2.2.2.2.2.2.2.2.2.1)&&((a.2.2.2.2.2.2.2.2.2.2.2.2.1==b.2.2.2.2.2.2.2.2.2.2.2.2.1)&&((a.2.2.2.2.2.2.2.2.2.2.2.2.2.2.1==b.2.2.2.2.2.2.2.2.2.2.2.2.2.2.1))))))))))))
theorem acz (a b:aN):vE a b=some (SE a b):=by unfold vE SE;simp only[beq_self_eq_true,bp,dS]
def ah6 (s:qS)(p:aN):Bool:=(p.2.2.2.2.2.2.2.2.2.2.2.1==tmod (au (s.1.2.2.2.2.2.2.2.2.2.2.2.1+(s.1.2.2.2.2.2.2.2.2.2.2.2.2.2.2.2.length:Int))) 4294967296)&&(p.2.2.2.2.1==tmod (au (s.1.2.2.2.2.1+s.2.2)) 65536)
def XF (s:qS)(p:aN):Bool:=decide (1<=s.2.1)&&(dm s.2.2 1 320&&(decide ((s.1.2.2.2.2.2.2.2.2.2.2.2.2.2.2.2.length:Int)=s.2.1*s.2.2)&&(dm (p.2.2.2.2.2.2.2.2.2.2.2.2.2.2.2.length:Int) 1 s.2.1&&decide ((s.1.2.2.2.2.2.2.2.2.2.2.2.2.2.2.2.length:Int)+(p.2.2.2.2.2.2.2.2.2.2.2.2.2.2.2.length:Int)<=320))))
def ab2 (s:qS)(p:aN):Bool:=dw s.1&&(fV p&&(SE s.1 p&&((p.2.2.2.2.2.2.2.2.1==6)&&((s.1.2.2.2.2.2.2.2.2.2.2.2.2.2.1==16)&&AO p.2.2.2.2.2.2.2.2.2.2.2.2.2.1))))
def G2 (s:qS)(p:aN):Bool:=ab2 s p&&(XF s p&&ah6 s p)
theorem Gk (h:fV p=true)(h6:(p.2.2.2.2.2.2.2.2.1==6)=true):dm p.2.2.2.2.2.2.2.2.2.2.2.2.2.1 0 31=true:=by simp only[fV,dw,ae]at h;exact DE (yu h.1.1) h6
theorem EV (h:fV p=true):p.2.2.2.2.2.2.2.2.2.2.2.2.2.2.2.length<=128:=by simp only[fV,ae,aB]at h;omega
theorem Xh (s:qS)(p:aN):tE s p=some (G2 s p):=by
 unfold tE G2 ab2;rw[oH,ab,Bb,ab,acz,ab];cases hs:dw s.1;rfl;cases hp:fV p;rfl;cases SE s.1 p;rfl;cases h6:p.2.2.2.2.2.2.2.2.1==6 with|false=>simp only[bne,h6];rfl|true=>?_
 cases h16:s.1.2.2.2.2.2.2.2.2.2.2.2.2.2.1==16 with|false=>simp only[bne,h6,h16];rfl|true=>?_
 have hf:=Gk hp h6;have hsl:=BA hs;have Ds:=EV hp;simp only[bne,h6,h16,aj,af,ab,Ka _ hf,bp];cases AO p.2.2.2.2.2.2.2.2.2.2.2.2.2.1;rfl;simp only[aj,af,di,ab,bp];rw[aH (show¬(4294967296:Nat)=0 by omega),aH (show¬(65536:Nat)=0 by omega)];simp only[bL,cF];rw[show((p.2.2.2.2.2.2.2.2.2.2.2.1==tmod (au (s.1.2.2.2.2.2.2.2.2.2.2.2.1+(s.1.2.2.2.2.2.2.2.2.2.2.2.2.2.2.2.length:Int))) 4294967296)&&(p.2.2.2.2.1==tmod (au (s.1.2.2.2.2.1+s.2.2)) 65536))=ah6 s p from rfl];unfold XF;generalize ah6 s p=q;generalize s.1.2.2.2.2.2.2.2.2.2.2.2.2.2.2.2.length=n at hsl⊢;generalize p.2.2.2.2.2.2.2.2.2.2.2.2.2.2.2.length=m at Ds⊢;rw[ak (n:=(n:Int)+(m:Int))];by_cases h1:s.2.1<1;rw[ar h1,aq (show¬1<=s.2.1 by omega)];rfl;rw[aq h1,ar (show 1<=s.2.1 by omega)];cases h2:dm s.2.2 1 320;rfl;have Qv:=bg.1 h2;simp only[aj,af,ab,bp];rw[lZ,lZ];have e1:tmod (n:Int) s.2.2=(n:Int)%s.2.2:=df (by omega);have e2:Int.tdiv (n:Int) s.2.2=(n:Int)/s.2.2:=Int.tdiv_eq_ediv_of_nonneg (by omega);have hdm:=Int.emod_add_mul_ediv (n:Int) s.2.2;have hq0:0<=(n:Int)/s.2.2:=Int.ediv_nonneg (by omega) (by omega);have hq1:(n:Int)/s.2.2<=(n:Int):=Int.ediv_le_self _ (by omega);rw[e1,e2,ak (n:=(n:Int)/s.2.2)];by_cases h3:(n:Int)=s.2.1*s.2.2;have h4:(n:Int)%s.2.2=0:=by rw[h3];exact Int.mul_emod_left ..
 have h5:(n:Int)/s.2.2=s.2.1:=by rw[h3];exact Int.mul_ediv_cancel _ (by omega)
 rw[h4,h5,ar h3];simp only[beq_self_eq_true,aj,af,ab,bp];cases dm (m:Int) 1 s.2.1;rfl;cases decide ((n:Int)+(m:Int)<=320)<;>rfl;rw[aq h3];cases h4:(n:Int)%s.2.2==0 with
 |false=>rfl
 |true=>
  have h4':(n:Int)%s.2.2=0:=by simpa using h4
  have h5:((n:Int)/s.2.2==s.2.1)=false:=by rw[cI];intro h5;rw[h4',h5]at hdm;exact h3 (by rw[Int.mul_comm];omega)
  simp only[aj,af,h5,bF,ab,ah];rfl
def D8 (s:qS)(p:aN):qS:=bif G2 s p then((s.1.1,s.1.2.1,s.1.2.2.1,s.1.2.2.2.1,s.1.2.2.2.2.1,s.1.2.2.2.2.2.1,s.1.2.2.2.2.2.2.1,s.1.2.2.2.2.2.2.2.1,s.1.2.2.2.2.2.2.2.2.1,s.1.2.2.2.2.2.2.2.2.2.1,s.1.2.2.2.2.2.2.2.2.2.2.1,s.1.2.2.2.2.2.2.2.2.2.2.2.1,s.1.2.2.2.2.2.2.2.2.2.2.2.2.1,p.2.2.2.2.2.2.2.2.2.2.2.2.2.1,s.1.2.2.2.2.2.2.2.2.2.2.2.2.2.2.1,s.1.2.2.2.2.2.2.2.2.2.2.2.2.2.2.2++p.2.2.2.2.2.2.2.2.2.2.2.2.2.2.2),s.2.1,au (s.2.2+1)) else s
theorem Ov {s:qS}(h:G2 s p=true):s.1.2.2.2.2.2.2.2.2.2.2.2.2.2.2.2.length+p.2.2.2.2.2.2.2.2.2.2.2.2.2.2.2.length<=320:=by simp only[G2,XF,ae,aB]at h;have:=h.2.1.2.2.2.2;omega
theorem acv (s:qS)(p:aN):Dx s p=some (D8 s p):=by unfold Dx D8;rw[Xh,ab];cases h:G2 s p;rfl;have:=Ov h;simp only[aj,af,ah];rw[aP]
def lX (p:aN):qS:=(p,(p.2.2.2.2.2.2.2.2.2.2.2.2.2.2.2.length:Int),1)
theorem Vj (p:aN):CE p=some (lX p):=rfl
def Kq (q:bR)(s:qS):bR:=(q.1,q.2.1,q.2.2.1,s,true,q.2.2.2.2.2)
def ld (l:aw aA)(m:bM)(d:Int)(q:bR)(k:Bytes)(p:aN)(c:Bool):bM×bR:=
 bif !Fg q||(!fV p||((k.length:Int) !=16)) then(m,q) else
 bif c&&(q.2.2.2.2.1&&G2 q.2.2.2.1 p) then(m,q.1,q.2.1,q.2.2.1,D8 q.2.2.2.1 p,q.2.2.2.2) else
 bif c then((iE l m d q k).1,Kq (iE l m d q k).2 (lX p)) else iE l (iE l m d q k).1 d (Kq (iE l m d q k).2 (lX p)) k
theorem U7 (l:aw aA)(m:bM)(d:Int)(q:bR)(k:Bytes)(p:aN)(c:Bool)(hl:l.length<=10^9)(hm:m.length<=10^9):nD l m d q k p c=some (ld l m d q k p c):=by
 unfold nD ld Kq;simp only[PA,Bb,ab,eS m (show m.length<=1073741824 by omega),Xh,acv,Hh l m d q k hl hm,Vj,Hh l (iE l m d q k).1 d _ k hl (show(iE l m d q k).1.length<=10^9 by rw[Re];exact hm)];cases Fg q;rfl;cases fV p;rfl;cases (k.length:Int) !=16;case true=>rfl
 cases c;rfl;cases q.2.2.2.2.1;rfl;cases G2 q.2.2.2.1 p<;>rfl
theorem Rf {k:Bytes}(h:fI q.2.1=true):fI (iE l m d q k).2.2.1=true:=by
 unfold iE;cases !Fg q||(!q.2.2.2.2.1||((k.length:Int) !=16));case true=>exact h
 have hs:fI (hG l m d q k (bm l m d q.1).1).2.1=true:=by
  unfold hG;cases !(cQ (bm l m d q.1).1).2||(((cQ (bm l m d q.1).1).1.1 !=3)||decide ((cQ (bm l m d q.1).1).1.2.2.1<((dy q.2.2.2.1.1).1.length:Int)));case true=>exact h
  cases (hY l m d (cQ (bm l m d q.1).1).1.2.2.2.1 (dy q.2.2.2.1.1).1 true).2;exact h;exact(Xw h).1
 cases (bm l m d q.1).2.2&&(hG l m d q k (bm l m d q.1).1).2.2 with|true=>exact hs|false=>exact h
theorem Yu {s:qS}(h:s.1.2.2.2.2.2.2.2.2.2.2.2.2.2.2.2.length<=n):cX n dI (Kq q s):=⟨⟨cv,cv,cv,cv⟩,⟨cv,cv,cv⟩,⟨cv,cv,cv⟩,⟨⟨cv,cv,cv,cv,cv,cv,cv,cv,cv,cv,cv,cv,cv,cv,cv,h⟩,cv,cv⟩,cv,cv⟩
theorem JH (hn:1000<=n){k:Bytes}{c:Bool}(z:cX n (.sl .str) m)(zq:cX n dI q)(hq:fI q.2.1=true): cX n (.sl .str) (ld l m d q k p c).1/\(ld l m d q k p c).1.length=m.length/\cX n dI (ld l m d q k p c).2/\fI (ld l m d q k p c).2.2.1=true:=by
 unfold ld;cases hc: !Fg q||(!fV p||((k.length:Int) !=16));case true=>exact⟨z,rfl,zq,hq⟩
 simp only[cg,dz]at hc;have hp:=EV hc.2.1;cases hj:c&&(q.2.2.2.2.1&&G2 q.2.2.2.1 p)with|true=>simp only[ae]at hj;have:=Ov hj.2.2;refine⟨z,rfl,⟨⟨cv,cv,cv,cv⟩,⟨cv,cv,cv⟩,⟨cv,cv,cv⟩,⟨?_,cv,cv⟩,cv,cv⟩,hq⟩;refine⟨cv,cv,cv,cv,cv,cv,cv,cv,cv,cv,cv,cv,cv,cv,cv,?_⟩;unfold D8;rw[hj.2.2];show List.length (q.2.2.2.1.1.2.2.2.2.2.2.2.2.2.2.2.2.2.2.2++p.2.2.2.2.2.2.2.2.2.2.2.2.2.2.2)<=n;rw[ai];omega|false=>have hf:=Dm (show 128<=n by omega) (l:=l) (d:=d) (k:=k) z zq;have hfq:=Rf (l:=l) (m:=m) (d:=d) (k:=k) hq;have hh:cX n dI (Kq (iE l m d q k).2 (lX p)):=Yu (by show p.2.2.2.2.2.2.2.2.2.2.2.2.2.2.2.length<=n;omega);cases c with|true=>exact⟨hf.1,hf.2.1,hh,hfq⟩|false=>have AW:=Dm (show 128<=n by omega) (l:=l) (d:=d) (k:=k) hf.1 hh;exact⟨AW.1,AW.2.1.trans hf.2.1,AW.2.2.1,Rf (q:=Kq (iE l m d q k).2 (lX p)) hfq⟩
theorem SZ {r:iC}(h:zB r=true):0<=r.2.2.2.2.2.2.2.2:=by
 by_cases h0:0<=r.2.2.2.2.2.2.2.2;exact h0;exfalso;have e:∀b:Int,dm r.2.2.2.2.2.2.2.2 0 b=false:=λb=>by rw[Bool.eq_false_iff];intro hc;have:=bg.1 hc;omega
 have e1:(r.2.2.2.2.2.2.2.2==0)=false:=by rw[cI];omega
 revert h;unfold zB;have z:∀c:Bool,(bif c then false else false)=false:=by intro c;cases c<;>rfl
 simp only[lK,eu,ab,bL,e,e1,fB,z,af];intro h;cases h
theorem aaA {s:cS}{q:Int}:uD s q p= -1\/∃n:Nat,uD s q p=(n:Int)/\(n:Int)<q:=by
 unfold uD;cases hb: !fu s q|| !dw p;case true=>exact .inl rfl
 simp only[cg,dz]at hb;have hs:=hb.1;simp only[fu,ae]at hs;simp only[af];cases hd:decide (DV s.1 p>=0)with
 |true=>obtain⟨n,hn,hl⟩:=Q8 s.1 p (bl hd);simp only[ah,hn,az,cL hl];cases s.1[n].2.2.2.2.2.2.2.1==1 with|true=>exact .inl rfl|false=>have h1:=aG.1 hs.1.2 _ (bk hl);have h2:=hs.1.1.1.1;simp only[wT,ae]at h2;have h3:=SZ (aG.1 h2.1 _ (bk hl));simp only[aK,cP]at h1;exact .inr ⟨s.1[n].2.2.2.2.2.2.2.2.toNat,by simp only[af];omega,by omega⟩
 |false=>
  simp only[af];cases Qx:decide (findF s.2.1 (kS p)>=0)with
  |true=>obtain⟨n,hn,hl⟩:=Q7 s.2.1 (kS p) (bl Qx);simp only[ah,hn,az,cL hl];have h1:=aG.1 hs.2 _ (bk hl);have h2:=hs.1.1.1.2;simp only[nT,ae,aQ]at h2;have h3:=aG.1 h2.2 n (bT.2 (by omega));unfold mZ N3 at h3;rw[uZ hl]at h3;simp only[ae,bg]at h3;simp only[aK,cP]at h1;exact .inr ⟨s.2.1[n].2.2.toNat,by omega,by omega⟩
  |false=>
   simp only[af];unfold Jx;cases hc: !qO s.2.2 q||decide (AN s.2.2 (kS p)<0);case true=>exact .inl rfl
   simp only[cg,dz,cP]at hc;obtain⟨n,hn,hl⟩:=M3 s.2.2 (kS p) hc.2;have h1:=hc.1;simp only[qO,ae]at h1;have h2:=bg.1 (aG.1 h1.2 _ (bk hl));simp only[af,hn,az,cL hl];exact .inr ⟨s.2.2.2[n].toNat,by omega,by omega⟩
def zK (h:Host)(a b c d:Int):Host:=(h.1,h.2.1,h.2.2.1,h.2.2.2.1,h.2.2.2.2.1,h.2.2.2.2.2.1,h.2.2.2.2.2.2.1,h.2.2.2.2.2.2.2.1,h.2.2.2.2.2.2.2.2.1,h.2.2.2.2.2.2.2.2.2.1,h.2.2.2.2.2.2.2.2.2.2.1,h.2.2.2.2.2.2.2.2.2.2.2.1,h.2.2.2.2.2.2.2.2.2.2.2.2.1,h.2.2.2.2.2.2.2.2.2.2.2.2.2.1,au (h.2.2.2.2.2.2.2.2.2.2.2.2.2.2.1+1),a,b,c,d)
def pX (h:Host)(x:Bytes):Host:=
 bif !fy h then h else
 bif (rG x).2 !=0 then zK h (au (h.2.2.2.2.2.2.2.2.2.2.2.2.2.2.2.1+1)) h.2.2.2.2.2.2.2.2.2.2.2.2.2.2.2.2.1 h.2.2.2.2.2.2.2.2.2.2.2.2.2.2.2.2.2.1 h.2.2.2.2.2.2.2.2.2.2.2.2.2.2.2.2.2.2 else
 bif !yg h.2.2.2.2.2.2.2.1 (rG x).1 then zK h h.2.2.2.2.2.2.2.2.2.2.2.2.2.2.2.1 (au (h.2.2.2.2.2.2.2.2.2.2.2.2.2.2.2.2.1+1)) h.2.2.2.2.2.2.2.2.2.2.2.2.2.2.2.2.2.1 h.2.2.2.2.2.2.2.2.2.2.2.2.2.2.2.2.2.2 else
 bif uD h.2.2.2.2.2.2.2.2.1 (h.2.2.2.1.length:Int) (rG x).1== -1 then zK h h.2.2.2.2.2.2.2.2.2.2.2.2.2.2.2.1 h.2.2.2.2.2.2.2.2.2.2.2.2.2.2.2.2.1 (au (h.2.2.2.2.2.2.2.2.2.2.2.2.2.2.2.2.2.1+1)) h.2.2.2.2.2.2.2.2.2.2.2.2.2.2.2.2.2.2 else
 match h.2.2.2.1[(uD h.2.2.2.2.2.2.2.2.1 (h.2.2.2.1.length:Int) (rG x).1).toNat]? with
 |some q=>HZ (zK h h.2.2.2.2.2.2.2.2.2.2.2.2.2.2.2.1 h.2.2.2.2.2.2.2.2.2.2.2.2.2.2.2.2.1 h.2.2.2.2.2.2.2.2.2.2.2.2.2.2.2.2.2.1 (au (h.2.2.2.2.2.2.2.2.2.2.2.2.2.2.2.2.2.2+1))) (uD h.2.2.2.2.2.2.2.2.1 (h.2.2.2.1.length:Int) (rG x).1).toNat q.2.1.2.2 (ld h.2.1 h.1 0 q h.2.2.2.2.2.2.2.2.1.2.2.1 (rG x).1 h.2.2.2.2.2.2.2.2.2.2.1)
 |none=>h
theorem Pz (h:Host)(x:Bytes)(k:BG 900000000 h)(hx:x.length<=10^9):qj h x=some (pX h x):=by
 have z:=k.z;have z1:h.1.length<=900000000:=z.1.1;have z2:h.2.1.length<=900000000:=z.2.1.1;have zf:h.2.2.2.2.2.2.2.1.2.2.length<=900000000:=z.2.2.2.2.2.2.2.1.2.2.1;have s1:h.2.2.2.2.2.2.2.2.1.1.length<=900000000:=z.2.2.2.2.2.2.2.2.1.1.1;have s2:h.2.2.2.2.2.2.2.2.1.2.1.length<=900000000:=z.2.2.2.2.2.2.2.2.1.2.1.1;have s3:h.2.2.2.2.2.2.2.2.1.2.2.2.length<=900000000:=z.2.2.2.2.2.2.2.2.1.2.2.2.1;unfold qj pX;rw[lp h (z.mono),ab,tB h (k.sz (by omega)),ab];cases hb:fy h;rfl;have hl:=qB (by simp only[fy,ae]at hb;exact hb.2.2.2.2.1:qU h=true);have hr:=EJ hb;simp only[aj,af,YR x hx,ab,RL h.2.2.2.2.2.2.2.1 _ (show h.2.2.2.2.2.2.2.1.2.2.length<=10^9 by omega),YZ h.2.2.2.2.2.2.2.2.1 _ _ (show h.2.2.2.2.2.2.2.2.1.1.length<=10^9 by omega) (show h.2.2.2.2.2.2.2.2.1.2.1.length<=10^9 by omega) (show h.2.2.2.2.2.2.2.2.1.2.2.2.length<=10^9 by omega)];generalize rG x=f;cases f.2 !=0;case true=>rfl
 cases yg h.2.2.2.2.2.2.2.1 f.1;rfl;simp only[aj,af];have mi:=aaA (s:=h.2.2.2.2.2.2.2.2.1) (q:=(h.2.2.2.1.length:Int)) (p:=f.1);generalize uD h.2.2.2.2.2.2.2.2.1 (h.2.2.2.1.length:Int) f.1=r at mi⊢;rcases mi with rfl|⟨n,rfl,hn⟩;rfl;have i1:n<h.2.2.2.1.length:=by omega
 have i2:n<h.2.2.2.2.2.1.length:=by omega
 have hq:=(AE (hr n i1)).1;have hqi:=ue hq;have ha:=JH (show 1000<=900000000 by omega) (l:=h.2.1) (d:=0) (k:=h.2.2.2.2.2.2.2.2.1.2.2.1) (p:=f.1) (c:=h.2.2.2.2.2.2.2.2.2.2.1) z.1 (z.2.2.2.1.2 _ (bk i1)) hq;have ev:=I1 (h:=zK h h.2.2.2.2.2.2.2.2.2.2.2.2.2.2.2.1 h.2.2.2.2.2.2.2.2.2.2.2.2.2.2.2.2.1 h.2.2.2.2.2.2.2.2.2.2.2.2.2.2.2.2.2.1 (au (h.2.2.2.2.2.2.2.2.2.2.2.2.2.2.2.2.2.2+1))) (k:=n) (b:=h.2.2.2.1[n].2.1.2.2) (f:=ld h.2.1 h.1 0 h.2.2.2.1[n] h.2.2.2.2.2.2.2.2.1.2.2.1 f.1 h.2.2.2.2.2.2.2.2.2.2.1) i1 i2 ha.2.2.2;rw[show((n:Int)== -1)=false from by rw[cI];omega,az,al i1];simp only[af,bf i1,ab,U7 h.2.1 h.1 0 _ _ _ _ (show h.2.1.length<=10^9 by omega) (show h.1.length<=10^9 by omega)];rw[show(ky ((ld h.2.1 h.1 0 h.2.2.2.1[n] h.2.2.2.2.2.2.2.2.1.2.2.1 f.1 h.2.2.2.2.2.2.2.2.2.2.1).1,h.2.1,h.2.2.1,h.2.2.2.1.set n (ld h.2.1 h.1 0 h.2.2.2.1[n] h.2.2.2.2.2.2.2.2.1.2.2.1 f.1 h.2.2.2.2.2.2.2.2.2.2.1).2,h.2.2.2.2.1,h.2.2.2.2.2.1,h.2.2.2.2.2.2.1,h.2.2.2.2.2.2.2.1,h.2.2.2.2.2.2.2.2.1,h.2.2.2.2.2.2.2.2.2.1,h.2.2.2.2.2.2.2.2.2.2.1,h.2.2.2.2.2.2.2.2.2.2.2.1,h.2.2.2.2.2.2.2.2.2.2.2.2.1,h.2.2.2.2.2.2.2.2.2.2.2.2.2.1,au (h.2.2.2.2.2.2.2.2.2.2.2.2.2.2.1+1),h.2.2.2.2.2.2.2.2.2.2.2.2.2.2.2.1,h.2.2.2.2.2.2.2.2.2.2.2.2.2.2.2.2.1,h.2.2.2.2.2.2.2.2.2.2.2.2.2.2.2.2.2.1,au (h.2.2.2.2.2.2.2.2.2.2.2.2.2.2.2.2.2.2+1)) (n:Int) h.2.2.2.1[n].2.1.2.2)=_ from ev,ab]
theorem SU (hn:1000<=n)(x:Bytes)(k:BG n h):BG n (pX h x)/\(pX h x).2.2.1=h.2.2.1/\(pX h x).2.2.2.2.1.length=h.2.2.2.2.1.length:=by
 have z:=k.z;have zc:∀a b c d,BG n (zK h a b c d):=λa b c d=>⟨⟨z.1,z.2.1,z.2.2.1,z.2.2.2.1,z.2.2.2.2.1,z.2.2.2.2.2.1,z.2.2.2.2.2.2.1,z.2.2.2.2.2.2.2.1,z.2.2.2.2.2.2.2.2.1,z.2.2.2.2.2.2.2.2.2.1,z.2.2.2.2.2.2.2.2.2.2.1,z.2.2.2.2.2.2.2.2.2.2.2.1,z.2.2.2.2.2.2.2.2.2.2.2.2.1,z.2.2.2.2.2.2.2.2.2.2.2.2.2.1,cv,cv,cv,cv,cv⟩,k.t⟩
 unfold pX;cases hb:fy h;exact⟨k,rfl,rfl⟩;have hr:=EJ hb;generalize rG x=f;cases f.2 !=0;case true=>exact⟨zc ..,rfl,rfl⟩
 cases yg h.2.2.2.2.2.2.2.1 f.1;exact⟨zc ..,rfl,rfl⟩;simp only[aj,af];generalize uD h.2.2.2.2.2.2.2.2.1 (h.2.2.2.1.length:Int) f.1=r;cases r== -1;case true=>exact⟨zc ..,rfl,rfl⟩
 simp only[af];rcases hq:h.2.2.2.1[r.toNat]? with _|q;exact⟨k,rfl,rfl⟩;obtain⟨hi,hqe⟩:=aF.1 hq;have hqd:=(AE (hr _ hi)).1;rw[hqe]at hqd;have ha:=JH hn (l:=h.2.1) (d:=0) (k:=h.2.2.2.2.2.2.2.2.1.2.2.1) (p:=f.1) (c:=h.2.2.2.2.2.2.2.2.2.2.1) z.1 (z.2.2.2.1.2 _ (bn hq)) hqd;have zc':=zc h.2.2.2.2.2.2.2.2.2.2.2.2.2.2.2.1 h.2.2.2.2.2.2.2.2.2.2.2.2.2.2.2.2.1 h.2.2.2.2.2.2.2.2.2.2.2.2.2.2.2.2.2.1 (au (h.2.2.2.2.2.2.2.2.2.2.2.2.2.2.2.2.2.2+1));have kk:=C6 (h:=zK h h.2.2.2.2.2.2.2.2.2.2.2.2.2.2.2.1 h.2.2.2.2.2.2.2.2.2.2.2.2.2.2.2.2.1 h.2.2.2.2.2.2.2.2.2.2.2.2.2.2.2.2.2.1 (au (h.2.2.2.2.2.2.2.2.2.2.2.2.2.2.2.2.2.2+1))) (k:=r.toNat) (b:=q.2.1.2.2) (f:=ld h.2.1 h.1 0 q h.2.2.2.2.2.2.2.2.1.2.2.1 f.1 h.2.2.2.2.2.2.2.2.2.2.1) ha.2.1;exact⟨⟨LZ zc'.z ha.1 ha.2.2.1,by rw[kk.tx];exact k.t⟩,kk.tx,kk.pl⟩
theorem Xu (l:aw aA)(m:bM)(d:Int)(rx:bR)(pl:cR)(st:aw Stream)(c:Int):(jq l m d rx pl st c).1.length=m.length:=by unfold jq;cases !Fg rx||(!dx pl|| !dm c 0 1000)with|true=>rfl|false=>exact W6 ..
def Bu (b:Int)(k:Nat)(s:Int×Host):Int×Host:=
 match s.2.2.2.2.2.2.1[k]?,s.2.2.2.2.2.2.2.1[k]?,s.2.2.2.2.1[k]?,s.2.2.2.2.2.1[k]? with
 |some v,some p,some x,some pl=>
  bif p||(BT v).2 then
   (au (s.1+(jq s.2.2.1 s.2.1 0 x pl s.2.2.2.2.2.2.2.2.2.2.1 b).2.2.2.2),
    (jq s.2.2.1 s.2.1 0 x pl s.2.2.2.2.2.2.2.2.2.2.1 b).1,s.2.2.1,s.2.2.2.1,s.2.2.2.2.1.set k (jq s.2.2.1 s.2.1 0 x pl s.2.2.2.2.2.2.2.2.2.2.1 b).2.1,s.2.2.2.2.2.1.set k (jq s.2.2.1 s.2.1 0 x pl s.2.2.2.2.2.2.2.2.2.2.1 b).2.2.1,
    s.2.2.2.2.2.2.1.set k (bif decide ((jq s.2.2.1 s.2.1 0 x pl s.2.2.2.2.2.2.2.2.2.2.1 b).2.2.2.2<b) then GO (BT v).1 else(BT v).1),
    s.2.2.2.2.2.2.2.1.set k (!decide ((jq s.2.2.1 s.2.1 0 x pl s.2.2.2.2.2.2.2.2.2.2.1 b).2.2.2.2<b)),s.2.2.2.2.2.2.2.2.1,s.2.2.2.2.2.2.2.2.2.1,(jq s.2.2.1 s.2.1 0 x pl s.2.2.2.2.2.2.2.2.2.2.1 b).2.2.2.1,s.2.2.2.2.2.2.2.2.2.2.2)
  else(s.1,s.2.1,s.2.2.1,s.2.2.2.1,s.2.2.2.2.1,s.2.2.2.2.2.1,s.2.2.2.2.2.2.1.set k (BT v).1,s.2.2.2.2.2.2.2.1.set k false,s.2.2.2.2.2.2.2.2)
 |_,_,_,_=>s
theorem S5 (b:Int)(k:Nat)(s:Int×Host):kQ (k+1) s.2 (Bu b k s).2:=by unfold Bu;rcases s.2.2.2.2.2.2.1[k]? with _|v;exact kQ.refl _ _;rcases s.2.2.2.2.2.2.2.1[k]? with _|p;exact kQ.refl _ _;rcases s.2.2.2.2.1[k]? with _|x;exact kQ.refl _ _;rcases s.2.2.2.2.2.1[k]? with _|pl;exact kQ.refl _ _;simp only;cases p||(BT v).2 with|true=>exact⟨Xu ..,rfl,rfl,aC ..,λj hj=>aO (by omega),aC ..,aC ..,λj hj=>aO (by omega),aC ..,rfl,rfl⟩|false=>exact⟨rfl,rfl,rfl,rfl,λ_ _=>rfl,rfl,aC ..,λj hj=>aO (by omega),aC ..,rfl,rfl⟩
theorem Wc (b:Int)(k:Nat)(s:Int×Host)(hn:1000<=n)(z:cX n dC s.2):cX (n+322000) dC (Bu b k s).2:=by have z':cX (n+322000) dC s.2:=z.mono;unfold Bu;rcases s.2.2.2.2.2.2.1[k]? with _|v;exact z';rcases s.2.2.2.2.2.2.2.1[k]? with _|p;exact z';rcases h1:s.2.2.2.2.1[k]? with _|x;exact z';rcases h2:s.2.2.2.2.2.1[k]? with _|pl;exact z';simp only;cases p||(BT v).2 with|true=>have hp:=NX (by omega) (l:=s.2.2.1) (d:=0) b z.1 (z.2.2.2.1.2 _ (bn h1)) (z.2.2.2.2.1.2 _ (bn h2)) z.2.2.2.2.2.2.2.2.2.1;exact⟨hp.1.mono,z'.2.1,z'.2.2.1,og z'.2.2.2.1 (hp.2.1.mono),og z'.2.2.2.2.1 hp.2.2.1,JB z'.2.2.2.2.2.1,og z'.2.2.2.2.2.2.1 trivial,z'.2.2.2.2.2.2.2.1,z'.2.2.2.2.2.2.2.2.1,hp.2.2.2.1,z'.2.2.2.2.2.2.2.2.2.2⟩|false=>exact⟨z'.1,z'.2.1,z'.2.2.1,z'.2.2.2.1,z'.2.2.2.2.1,JB z'.2.2.2.2.2.1,og z'.2.2.2.2.2.2.1 trivial,z'.2.2.2.2.2.2.2⟩
def rb (b:Int):Nat->Host->Int×Host
 |0,h=>(0,h)
 |k+1,h=>Bu b k (rb b k h)
theorem DF (b:Int)(h:Host):∀k,kQ k h (rb b k h).2
 |0=>kQ.refl 0 h
 |k+1=>((DF b h k).up (by omega)).trans (S5 b k _)
theorem EX (b:Int)(hn:1000<=n)(z:cX n dC h):∀k,cX (n+322000*k) dC (rb b k h).2
 |0=>z
 |k+1=>(Wc b k _ (by omega) (EX b hn z k)).mono
def ug (h:Host)(b:Int):Host×Int:=bif fy h&&dm b 1 1000 then((rb b h.2.2.2.1.length h).2,(rb b h.2.2.2.1.length h).1) else(h,0)
theorem S6 (hn:1000<=n)(b:Int)(k:BG n h):BG (n+644000) (ug h b).1:=by unfold ug;cases hb:fy h&&dm b 1 1000 with|false=>exact k.mono|true=>simp only[ae]at hb;have hl:=qB (by have:=hb.1;simp only[fy,ae]at this;exact this.2.2.2.2.1:qU h=true);refine⟨(EX b hn k.z _).mono,?_⟩;simp only[ah];rw[(DF b h _).tx];exact bw k.t (by omega)
theorem RY (h:Host)(b:Int)(k:BG 400000000 h):ql h b=some (ug h b):=by
 have Ak:=dR;unfold ql ug;rw[lp h (k.z.mono),ab,tB h (k.sz (by omega)),ab,di];cases hb:fy h;rfl;cases hi0:dm b 1 1000;rfl;have hl:=qB (by simp only[fy,ae]at hb;exact hb.2.2.2.2.1:qU h=true);simp only[aj,af,ab,eY,ah];refine eG (λi=>((rb b i h).1,(i:Int),(rb b i h).2)) h.2.2.2.1.length (by omega) (λi nx hi=>?_) (λnx=>?_);have kk:=DF b h i;have zz:cX 500000000 dC (rb b i h).2:=(EX b (by omega) k.z i).mono;have i1:i<(rb b i h).2.2.2.2.1.length:=by rw[kk.rx];exact hi
 have i2:i<(rb b i h).2.2.2.2.2.1.length:=by rw[kk.pl];omega
 have i3:i<(rb b i h).2.2.2.2.2.2.1.length:=by rw[kk.vec];omega
 have i4:i<(rb b i h).2.2.2.2.2.2.2.1.length:=by rw[kk.VX];omega
 rw[show rb b (i+1) h=Bu b i (rb b i h) from rfl];generalize rb b i h=s at zz i1 i2 i3 i4⊢;have gp:∀(V:aw Vector)(P:aw Bool),jX (s.2.1,s.2.2.1,s.2.2.2.1,s.2.2.2.2.1,s.2.2.2.2.2.1,V,P,s.2.2.2.2.2.2.2.2) (i:Int) b=some ((jq s.2.2.1 s.2.1 0 s.2.2.2.2.1[i] s.2.2.2.2.2.1[i] s.2.2.2.2.2.2.2.2.2.2.1 b).2.2.2.2,(jq s.2.2.1 s.2.1 0 s.2.2.2.2.1[i] s.2.2.2.2.2.1[i] s.2.2.2.2.2.2.2.2.2.2.1 b).1,s.2.2.1,s.2.2.2.1,s.2.2.2.2.1.set i (jq s.2.2.1 s.2.1 0 s.2.2.2.2.1[i] s.2.2.2.2.2.1[i] s.2.2.2.2.2.2.2.2.2.2.1 b).2.1,s.2.2.2.2.2.1.set i (jq s.2.2.1 s.2.1 0 s.2.2.2.2.1[i] s.2.2.2.2.2.1[i] s.2.2.2.2.2.2.2.2.2.2.1 b).2.2.1,V,P,s.2.2.2.2.2.2.2.2.1,s.2.2.2.2.2.2.2.2.2.1,(jq s.2.2.1 s.2.1 0 s.2.2.2.2.1[i] s.2.2.2.2.2.1[i] s.2.2.2.2.2.2.2.2.2.2.1 b).2.2.2.1,s.2.2.2.2.2.2.2.2.2.2.2):=by intro V P;have Ds:s.2.2.2.2.2.1[i].2.2.2.length<=500000000:=(zz.2.2.2.2.1.2 _ (bk i2)).2.2.2.1;have hm:s.2.1.length<=500000000:=zz.1.1;have hp:s.2.2.1.length<=500000000:=zz.2.1.1;unfold jX;simp only[bf i1,bf i2,ab,RU s.2.2.1 s.2.1 0 _ _ _ b (show s.2.2.1.length<=10^9 by omega) (show s.2.1.length<=10^9 by omega) Ds zz.2.2.2.2.2.2.2.2.2.1,az]
 have Cy:∀V:Vector,s.2.2.2.2.2.2.1.set i V=s.2.2.2.2.2.2.1.set i V:=λ_=>rfl;unfold Bu;rw[al i1,al i2,al i3,al i4];simp only[mj];rw[jK,ah];simp only[bf i3,bf i4,ab,Zc,az,gp];generalize BT s.2.2.2.2.2.2.1[i]=w;generalize jq s.2.2.1 s.2.1 0 s.2.2.2.2.1[i] s.2.2.2.2.2.1[i] s.2.2.2.2.2.2.2.2.2.2.1 b=pr;have i5:∀V:Vector,i<(s.2.2.2.2.2.2.1.set i V).length:=λV=>by rw[aC];exact i3
 have i6:∀q:Bool,i<(s.2.2.2.2.2.2.2.1.set i q).length:=λq=>by rw[aC];exact i4
 have e5:∀V:Vector,idx (s.2.2.2.2.2.2.1.set i V) (i:Int)=some V:=λV=>by rw[bf (i5 V),List.getElem_set_self]
 have e6:∀q:Bool,idx (s.2.2.2.2.2.2.2.1.set i q) (i:Int)=some q:=λq=>by rw[bf (i6 q),List.getElem_set_self]
 rw[ak (n:=(i:Int)+1)];have zk:s.2.2.2.2.2.2.2.1.set i (s.2.2.2.2.2.2.2.1[i])=s.2.2.2.2.2.2.2.1:=List.set_getElem_self ..;generalize hp:s.2.2.2.2.2.2.2.1[i]=p at zk⊢;cases hw:w.2 with
 |true=>simp only[jv,ah,e6,e5,ab,aj,af,KL,List.set_set];cases decide (pr.2.2.2.2<b)<;>rfl
 |false=>
  simp only[Bool.or_false,af];cases p with
  |false=>rw[zk];rfl
  |true=>
   have e7:idx s.2.2.2.2.2.2.2.1 (i:Int)=some true:=by rw[bf i4,hp]
   simp only[ah,aj,af,e5,e7,ab,KL,List.set_set];cases decide (pr.2.2.2.2<b)with|true=>rfl|false=>simp only[af,bF,zk];rfl
 simp only[mj];rw[cB,af]
theorem ad3 (hn:1000<=n)(k:BG n h):BG n (C2 h):=by have:=ad2 hn k.z;exact⟨this.1,by rw[this.2];exact k.t⟩
def txt (_:Int):Bytes:=[]
def E9:(t:CT)->t.D->Nat
 | .int _,_=>1
 | .bool,_=>1
 | .str,_=>1
 | .sl e,xs=>(xs.map (E9 e)).sum
 | .pair a b,x=>E9 a x.1+E9 b x.2
def mkL (f:α->Int->α)(c:α->Nat):aw α->Int->aw α
 |[],_=>[]
 |x::xs,k=>f x k::mkL f c xs (k+c x)
def mk:(t:CT)->t.D->Int->t.D
 | .int _,_,k=>k
 | .bool,_,k=>tmod k 3==0
 | .str,_,k=>txt k
 | .sl e,xs,k=>mkL (mk e) (E9 e) xs k
 | .pair a b,x,k=>(mk a x.1 k,mk b x.2 (k+E9 a x.1))
structure Few (h:Host):Prop where
 pl:h.2.2.2.2.1.length<=2
 w:h.2.2.1.2.2.1.length<=16
theorem agM (hb:fy h=true):Few h:=by have hl:=qB (by have:=hb;simp only[fy,ae]at this;exact this.2.2.2.2.1:qU h=true);have ht:=E4 (t:=h.2.2.1) (by simp only[fy,ae]at hb;exact hb.2.2.1);exact⟨by omega,ht⟩
theorem BG.tx (k:BG n h)(hn:n<=10^9):aek h.2.2.1:=
 have z:cX 1000000000 dC h:=k.z.mono hn
 ⟨z.2.2.1.2.1.2.2.2.1,z.2.2.1.2.2.1.1,λx hx=>(z.2.2.1.2.2.1.2 x hx).2.2.1⟩
def Eg (h:Host)(p:aN)(c z:Int):Host×Bool:=
 bif fy h then(((wU h.2.1 h.1 0 h.2.2.1 p c z).1,h.2.1,(wU h.2.1 h.1 0 h.2.2.1 p c z).2.1,h.2.2.2),(wU h.2.1 h.1 0 h.2.2.1 p c z).2.2) else(h,false)
theorem YU (h:Host)(p:aN)(c z:Int)(k:BG 900000000 h):vB h p c z=some (Eg h p c z):=by have zz:cX 1000000000 dC h:=k.z.mono;unfold vB Eg;rw[lp h zz,ab,tB h (k.sz (by omega)),ab];cases fy h;rfl;simp only[aj,af,ah,YV _ _ _ _ _ _ _ zz.2.1.1 zz.1.1 (k.tx (by omega)) zz.2.2.1.2.2.1.1 (bw k.t (by omega)),ab]
theorem M7 (hn:128<=n)(l:aw aA)(d:Int)(p:cR)(z:Nat):∀(q:cw)(s:Bytes)(m:bM)(a:aw gv){x},cX n (.sl .str) m->wh l d p z q s m a=some x->cX n (.sl .str) x.2
 |[],s,m,a,x,hm,h=>by cases h;exact hm
 |b::q,s,m,a,x,hm,h=>by rw[wh]at h;cases hq:(hY l m d (nV p b) (s.take z) false).2 with|false=>rw[hq]at h;cases h|true=>rw[hq]at h;exact M7 hn l d p z q _ _ _ (CM hn hm ..) h
theorem Iz (hn:128<=n)(l:aw aA)(d:Int):∀(q:bM)(m:bM)(r:lN){x},cX n (.sl .str) m->qD l d q m r=some x->cX n (.sl .str) x.1
 |[],m,r,x,hm,h=>by cases h;exact hm
 |s::q,m,r,x,hm,h=>by rw[qD]at h;cases hq:(cM l m d r s).2.2 with|false=>rw[hq]at h;cases h|true=>rw[hq]at h;exact Iz hn l d q _ _ (Gp hn hm ..) h
theorem SM (hn:128<=n){q:bM}(hm:cX n (.sl .str) m):cX n (.sl .str) (uc l m d r q).1:=by unfold uc;cases hx:qD l d q m r with|none=>exact hm|some x=>exact Iz hn l d q m r hm hx
theorem aaF (p:cR)(n:Int):(jZ p n).1.2.2.2.length+(jZ p n).2.1.length=p.2.2.2.length:=by unfold jZ;cases dx p&&dm n 0 (p.2.2.2.length:Int)with|false=>rfl|true=>simp only[ah,aM,aY];omega
theorem X4 (a:aw kO)(x:kO):(bu (a++[x])).length=(bu a).length+x.2.2.length:=by simp[bu]
theorem S4:∀l:aw kO,(∀x∈l,1<=x.2.1)->(l.length:Int)<=dH l
 |[],_=>by simp[dH]
 |y::l,h=>by have h1:=S4 l (λx hx=>h x (ec _ hx));have h2:=h y (List.mem_cons_self ..);simp only[dH,cV,List.sum_cons,bc]at h1⊢;omega
structure afK (n:Nat) (m:List Bytes) (t:dD) (r:List Bytes×dD×Bool):Prop where
 mem:cX n (.sl .str) r.1
 tx:cX (n+1) ko r.2.1
 sum:r.2.1.2.1.2.2.2.length+(bu r.2.1.2.2.1).length<=n
 w:r.2.1.2.2.1.length<=16\/r.2.1.2.2.1=t.2.2.1
theorem aah (hn:128<=n){c:Int}(d:Int)(hm:cX n (.sl .str) m)(ht:cX n ko t)(hs:t.2.1.2.2.2.length+(bu t.2.2.1).length<=n):afK n m t (wU l m d t p c z):=by
 have old:afK n m t (m,t,false):=⟨hm,ht.mono,hs,Or.inr rfl⟩
 unfold wU;cases hg:L7 t&&(dw p&&(dm z 1 t.2.1.2.1&&dm c 1 128));exact old;simp only[ae]at hg;simp only[ah];generalize yj p z.toNat=k;cases hk:Ia t k;exact old;simp only[ah];rcases hx:wh l d t.2.1 z.toNat (jZ t.2.1 (k:Int)).2.1 (jU p).1 m []with _|x;exact old;simp only;unfold Lx;have hpm:=SM (n:=n) hn (l:=l) (d:=d) (q:=(pK x.1 c t.2.2.2).map xk) (r:=t.1) (M7 hn l d t.2.1 z.toNat _ _ _ _ hm hx);generalize uc l x.2 d t.1 ((pK x.1 c t.2.2.2).map xk)=w at hpm⊢;cases w.2.2;exact old;have hl:=aaF t.2.1 (k:Int);have hb:=X4 t.2.2.1 (t.2.2.2,(k:Int)+1,(jZ t.2.1 (k:Int)).2.1);have hb:(bu (t.2.2.1++[(t.2.2.2,(k:Int)+1,(jZ t.2.1 (k:Int)).2.1)])).length=(bu t.2.2.1).length+(jZ t.2.1 (k:Int)).2.1.length:=hb;refine⟨hpm,⟨⟨cv,cv,cv,cv⟩,⟨cv,cv,cv,?_,λ_ _=>trivial⟩,?_,cv⟩,?_,Or.inl ?_⟩;show(jZ t.2.1 (k:Int)).1.2.2.2.length<=n+1;omega;exact Hq (t:=hU) (k:=1) ht.2.2.1 (λy hy=>by rw[cf.1 hy];exact⟨cv,cv,by show(jZ t.2.1 (k:Int)).2.1.length<=n;omega,λ_ _=>trivial⟩) (by simp);show(jZ t.2.1 (k:Int)).1.2.2.2.length+(bu (t.2.2.1++[(t.2.2.2,(k:Int)+1,(jZ t.2.1 (k:Int)).2.1)])).length<=n;omega;show(t.2.2.1++[_]).length<=16;have hq:=hg.1;simp only[L7,ae]at hq;have TH:=kL hq.1;have hc:=S4 t.2.2.1 (λx hx=>by have:=aG.1 hq.2.2.2.1 x hx;simp only[nM,ae,bg]at this;omega);unfold Ia at hk;simp only[ae,aK,cP]at hk;rw[ai,bA];omega
theorem adr (hn:1000<=n)(p:aN)(c z:Int)(k:BG n h):BG (n+1) (Eg h p c z).1:=by unfold Eg;cases fy h;exact k.mono;have zz:=k.z;have s:=aah (by omega) (l:=h.2.1) (p:=p) (c:=c) (z:=z) 0 zz.1 zz.2.2.1 k.t;have z1:cX (n+1) dC h:=zz.mono;exact⟨⟨s.mem.mono,z1.2.1,s.tx,z1.2.2.2⟩,bw s.sum (by omega)⟩
theorem IA (h:Host):∀k,(im h k).2.2.1=h.2.2.1
 |0=>rfl
 |k+1=>by show(yH k (im h k)).2.2.1=_;rw[<-IA h k];generalize im h k=s;unfold yH;rcases h1:s.2.2.2.1[k]? with _|x;rfl;cases h2:s.2.2.2.2.2.1[k]? with|none=>rfl|some v=>rfl
theorem Z8 (hn:1000<=n)(k:BG n h)(f:Few h):BG (n+645000) (wS h)/\Few (wS h):=by
 unfold wS;cases hb:fy h;exact⟨k.mono,f⟩;have hl:=qB (Kv hb);have e:=H8 hn k.z hl.1;have hw:=f.w;have hp:=Bo (n:=n) (by omega) k.z h.2.2.2.1.length;have ht:=(wC (n:=n+322000*h.2.2.2.1.length) (h:=h) hp.2 h.2.2.1.2.2.1.length).1.e;have h4:=nK 256 128 8;simp only[ah];have hx:=IA (rT h) h.2.2.2.1.length;have hk:=(vN (rT h) h.2.2.2.1.length).pl;have Ds:(rT h).2.2.2.2.1.length=h.2.2.2.2.1.length:=by show(returned h h.2.2.1.2.2.1.length).2.2.2.2.1.length=_;rw[ht];exact hp.1.pl
 refine⟨⟨(Bs (by omega) e _).mono,?_⟩,?_,?_⟩;rw[hx];show(gV 256 128 8).1.2.2.2.length+0<=_;omega;rw[hk,Ds];exact f.pl;rw[hx];show 0<=16;omega
def abU (f:iB):aw Stream->Int->Int
 |[],_=> -1
 |s::r,i=>if s.1=f then i else abU f r (i+1)
def aaV (a b:aw Stream)(f:iB):Bool:=
 match idx a (abU f a 0),idx b (abU f b 0)with
 |some x,some y=>decide (x=y)
 |_,_=>false
def ahW (b:Bool):Int:=bif b then 1 else 0
def Ends (o:ax α)(P:α->Prop):Prop:=∃x,o=some x/\P x
theorem Ends.pure {x:α}{P:α->Prop}(h:P x):Ends (some x) P:=⟨x,rfl,h⟩
theorem Ends.bind {o:ax α}{P:α->Prop}{k:α->ax R}{Q:R->Prop}(h:Ends o P)(hk:∀x,P x->Ends (k x) Q):Ends (aa o k) Q:=by obtain⟨x,rfl,hx⟩:=h;exact hk x hx
theorem Ends.mono {o:ax α}{P Q:α->Prop}(h:Ends o P)(hq:∀x,P x->Q x):Ends o Q:=by obtain⟨x,hx,hp⟩:=h;exact⟨x,hx,hq x hp⟩
theorem Ends.cond {c:Bool}{a b:ax α}{P:α->Prop}(h1:c=true->Ends a P)(h2:c=false->Ends b P):Ends (cond c a b) P:=by cases c with|true=>exact h1 rfl|false=>exact h2 rfl
theorem Ends.ifn {p:Prop}[Decidable p]{a:ax α}{P:α->Prop}(h:¬p)(ha:Ends a P):Ends (if p then none else a) P:=by rw[aH h];exact ha
theorem Ends.room {k:ax α}{P:α->Prop}(h:n<=1073741824)(hk:Ends k P):Ends (room n k) P:=by rw[aP h];exact hk
theorem Ends.of {o:ax α}{x:α}{P:α->Prop}(h:o=some x)(hp:P x):Ends o P:=⟨x,h,hp⟩
theorem Ends.iter {σ:Type}{T:(σ->ax R)->σ->ax R}{Q:R->Prop}(I:σ->Prop)(m:σ->Nat)(hs:∀x nx,I x->(∀y,I y->m y<m x->Ends (nx y) Q)->Ends (T nx x) Q): ∀n x,I x->m x<n->Ends (aX T n x) Q:=by intro n;induction n with|zero=>intro x _ h;omega|succ n ih=>intro x hx hm;rw[aX];exact hs x _ hx λy hy gS=>ih y hy (by omega)
theorem Ends.wv {σ:Type}{T:(σ->ax R)->σ->ax R}{Q:R->Prop}(I:σ->Prop)(m:σ->Nat){x:σ}(hx:I x)(hm:m x<=1000000000000)(hs:∀x nx,I x->(∀y,I y->m y<m x->Ends (nx y) Q)->Ends (T nx x) Q):Ends (aX T fuel x) Q:=Ends.iter I m hs fuel x hx (by have:=dR;omega)
theorem Ends.idx {xs:aw α}{i:Int}{k:α->ax R}{Q:R->Prop}(h0:0<=i)(h1:i<(xs.length:Int))(hk:∀(h:i.toNat<xs.length),Ends (k xs[i.toNat]) Q):Ends (aa (idx xs i) k) Q:=by
 obtain⟨n,rfl⟩:=aV h0;have hn:n<xs.length:=by omega
 rw[bf hn,ab];exact hk (by simpa using hn)
abbrev Og:=cw×Int×Int
variable {c:Og}
def Cu (c:Og):Prop:=0<=c.2.1/\c.2.1<=(c.1.length:Int)/\c.1.length<=1048576
theorem aaX (x y:Int)(n:Nat)(hy:(ga y).toNat=n)(hn:n<9223372036854775808):0<=au (BitVec.toNat (ga x&&&ga y))/\au (BitVec.toNat (ga x&&&ga y))<=n:=by
 have h:(ga x&&&ga y).toNat<=n:=by rw[BitVec.toNat_and,hy];exact Nat.and_le_right
 generalize (ga x&&&ga y).toNat=k at h;rw[ak];omega
theorem ahT {a:cw}(ha:a.length<=1048576):Ends (zE a) Cu:=by
 unfold zE;refine Ends.wv (λx=>0<=x.2/\x.2<=4000) (λx=>(4000-x.2).toNat) ⟨by omega,by omega⟩ (by simp) λx nx hx hn=>?_;unfold yK;refine Ends.bind (P:=λb=>b=true->x.2<(a.length:Int)/\x.2<4000) (Ends.cond (λh=>Ends.pure λh2=>⟨bl h,bl h2⟩) λh=>Ends.pure λh2=>by cases h2) λq hq=>?_;refine Ends.cond (λh=>?_) (λh=>Ends.pure ⟨dL _,by simp,ha⟩);have hq:=hq h;refine Ends.idx hx.1 hq.1 λ_=>hn _ ⟨?_,?_⟩ ?_;all_goals simp only[ak (n:=x.2+1) (by omega) (by omega)]
 all_goals omega
theorem Df (h:Cu c):Ends (jT c) λr=>(0<=r.1/\r.1<=255)/\Cu r.2:=by
 unfold jT;refine Ends.ifn (by decide) (Ends.ifn (by decide) (Ends.cond (λh1=>?_) λh1=>?_))
 ·have h1:=bl h1;refine Ends.idx h.1 h1 λ_=>Ends.pure ⟨aaX _ 255 255 rfl (by decide),?_⟩;refine⟨?_,?_,h.2.2⟩;all_goals simp only[ak (n:=c.2.1+1) (by have:=h.1;omega) (by have:=h.2.2;omega)]
  have:=h.1;omega;omega
 exact Ends.pure ⟨aaX _ 255 255 rfl (by decide),h.1,h.2.1,h.2.2⟩
theorem gw (h:Cu c){n:Int}(hn:0<n:=by omega):Ends (cd c n) λr=>(0<=r.1/\r.1<n)/\Cu r.2:=by unfold cd;rw[cB];simp only[af];refine Ends.cond (λh1=>?_) λh1=>?_;refine(Df h).bind λr hr=>Ends.ifn (by omega) (Ends.pure ⟨⟨Int.tmod_nonneg _ hr.1.1,Int.tmod_lt_of_pos _ hn⟩,hr.2⟩);refine(Df h).bind λr2 h2=>(Df h2.2).bind λr3 h3=>(Df h3.2).bind λr4 h4=>(Df h4.2).bind λr5 h5=>Ends.ifn (by omega) (Ends.pure ⟨⟨Int.tmod_nonneg _ ?_,Int.tmod_lt_of_pos _ hn⟩,h5.2⟩);have a2:=h2.1;have a3:=h3.1;have a4:=h4.1;have a5:=h5.1;rw[ak (n:=r2.1*16777216),ak (n:=r3.1*65536),ak (n:=r4.1*256)];rw[ak (n:=r2.1*16777216+r3.1*65536)];rw[ak (n:=r2.1*16777216+r3.1*65536+r4.1*256)];rw[ak];omega
theorem Fp (h:Cu c)(n:Int):Ends (cd c n) λr=>(0<=r.1/\(r.1<n\/r.1=0))/\Cu r.2:=by
 rcases Int.lt_or_le 0 n with hn|hn;exact(gw h hn).mono λr hr=>⟨⟨hr.1.1,Or.inl hr.1.2⟩,hr.2⟩
 unfold cd;rw[ar hn];exact Ends.pure ⟨⟨dL _,Or.inr rfl⟩,h⟩
theorem vM (h:Cu c)(n:Int):Ends (gr c n) λr=>Cu r.2:=by unfold gr;exact(Fp h n).bind λr hr=>Ends.pure hr.2
theorem iI (h:Cu c){l:cw}{P:Int->Prop}(hl:0<l.length)(hp:∀x∈l,P x):Ends (cp c l) λr=>P r.1/\Cu r.2:=by unfold cp;exact(gw h).bind λr hr=>Ends.idx hr.1.1 hr.1.2 λhi=>Ends.pure ⟨hp _ (bk hi),hr.2⟩
theorem GK (h:Cu c)(n:Int):Ends (lL c n) λr=>(r.1.length<=5000/\(0<=n->n<=5000->(r.1.length:Int)=n)/\(n<=0->r.1=[]))/\Cu r.2:=by
 have key:∀v:Int,v<=5000->∀Q:(Bytes×Og)->Prop,(∀x c,((x.length:Int)=v\/(v<=0/\x=[]))->Cu c->Q (aJ x,c))->Ends (aX (ot (λy _ z=>some (aJ y,z)) v) fuel (([]:cw),0,c)) Q:=by
  intro v hv Q hQ;refine Ends.wv (λx=>(x.1.length:Int)=x.2.1/\(x.2.1<=v\/x.2.1=0)/\Cu x.2.2) (λx=>(v-x.2.1).toNat) ⟨rfl,Or.inr rfl,h⟩ (by simp;omega) λx nx hx hn=>?_;unfold ot;refine Ends.cond (λh1=>?_) λh1=>Ends.pure (hQ _ _ ?_ hx.2.2)
  ·have h1:=bl h1;refine(Df hx.2.2).bind λr hr=>Ends.room (by simp;omega) (hn _ ⟨?_,?_,hr.2⟩ ?_);all_goals simp only[ak (n:=x.2.1+1) (by omega) (by omega)]
   simp;omega;omega;omega
  have h1:=eK h1;rcases hx.2.1 with h2|h2;exact Or.inl (by omega);rcases Int.lt_or_le 0 v with h3|h3;omega;exact Or.inr ⟨h3,bS (by omega)⟩
 have hb:∀x:cw,(aJ x).length=x.length:=λx=>by simp[aJ]
 unfold lL;refine Ends.cond (λh1=>?_) λh1=>?_;have h1:=bl h1;refine key 5000 (by omega) _ λx c hx hc=>⟨⟨by rw[hb];rcases hx with hx|hx<;>omega,λ_ _=>by omega,λ_=>by omega⟩,hc⟩
 have h1:=eK h1;refine key n (by omega) _ λx c hx hc=>⟨⟨?_,λh0 _=>?_,λh0=>?_⟩,hc⟩
 rw[hb];rcases hx with hx|hx;omega;rw[hx.2];simp;rw[hb];rcases hx with hx|hx;omega;rw[hx.2];simp;omega;rcases hx with hx|hx;have:x=[]:=bS (by omega);rw[this];rfl;rw[hx.2];rfl
theorem S2 {s k f w:Int}(h1:0<=a/\a<=65535)(h2:0<=b/\b<=65535)(h3:0<=s/\s<=4294967295)(h4:0<=k/\k<=4294967295)(h5:0<=f/\f<=31)(h6:0<=w/\w<=65535)(hx:x.length<=320):rH (6,a,b,s,k,f,w,x)=true:=by have zQ:decide ((x.length:Int)>320)=false:=cB;simp only[rH,bg.2 h1,bg.2 h2,bg.2 h3,bg.2 h4,bg.2 h5,bg.2 h6,zQ];rfl
theorem adp (h1:0<=a/\a<=65535)(h2:0<=b/\b<=65535)(hx:x.length<=320):rH (17,a,b,0,0,0,0,x)=true:=by have zQ:decide ((x.length:Int)>320)=false:=cB;simp only[rH,bg.2 h1,bg.2 h2,zQ];rfl
theorem aag (h:rH g=true)(hx:x.length<=320):rH (g.1,g.2.1,g.2.2.1,g.2.2.2.1,g.2.2.2.2.1,g.2.2.2.2.2.1,g.2.2.2.2.2.2.1,x)=true:=by have e:decide ((x.length:Int)>320)=false:=cB;unfold rH at h⊢;simp only[ae]at h⊢;exact⟨h.1,h.2.1,by rw[e];rfl,h.2.2.2⟩
theorem ab1 {v t i l s:Int}(h1:0<=a/\a<=281474976710655)(h2:0<=b/\b<=281474976710655)(h3: -1<=v/\v<=4095)(h4:0<=t/\t<=255)(h5:0<=i/\i<=65535)(h6:0<=l/\l<=255)(h7:0<=s/\s<=4294967295)(h8:0<=d/\d<=4294967295)(hg:rH g=true):oV (a,b,v,t,i,l,s,d,g)=true:=by simp only[oV,bg.2 h1,bg.2 h2,bg.2 h3,bg.2 h4,bg.2 h5,bg.2 h6,bg.2 h7,bg.2 h8,hg];rfl
theorem SC (p:aN):fV p=true↔oV p=true/\p.2.2.2.2.2.2.2.2.2.2.2.2.2.2.2.length<=128:=by unfold fV dw;rw[ae,ae,cz,aB];constructor;rintro⟨⟨h1,_⟩,h2⟩;exact⟨h1,by omega⟩;rintro⟨h1,h2⟩;exact⟨⟨h1,Or.inl (by omega)⟩,by omega⟩
theorem XC (h:rH g=true)(h6:g.1=6):(0<=g.2.1/\g.2.1<=65535)/\(0<=g.2.2.1/\g.2.2.1<=65535)/\(0<=g.2.2.2.1/\g.2.2.2.1<=4294967295)/\(0<=g.2.2.2.2.1/\g.2.2.2.2.1<=4294967295)/\(0<=g.2.2.2.2.2.1/\g.2.2.2.2.2.1<=31)/\(0<=g.2.2.2.2.2.2.1/\g.2.2.2.2.2.2.1<=65535)/\g.2.2.2.2.2.2.2.length<=320:=by have hl:=CQ h;unfold rH at h;rw[h6]at h;simp only[ae,bg,show((6:Int)==17)=false from rfl,af]at h;exact⟨h.1,h.2.1,h.2.2.2.2.1,h.2.2.2.2.2.1,h.2.2.2.2.2.2.1,h.2.2.2.2.2.2.2,hl⟩
theorem Lu (h:rH g=true)(h6:g.1=6){s f:Int}(hs:0<=s/\s<=4294967295)(hf:0<=f/\f<=31)(hx:x.length<=320):rH (g.1,g.2.1,g.2.2.1,s,g.2.2.2.2.1,f,g.2.2.2.2.2.2.1,x)=true:=by have k:=XC h h6;rw[h6];exact S2 k.1 k.2.1 hs k.2.2.2.1 hf k.2.2.2.2.2.1 hx
theorem Aj (h:oV p=true){i:Int}(hi:0<=i/\i<=65535)(hg:rH g=true):oV (p.1,p.2.1,p.2.2.1,p.2.2.2.1,i,p.2.2.2.2.2.1,p.2.2.2.2.2.2.1,p.2.2.2.2.2.2.2.1,g)=true:=by unfold oV at h⊢;simp only[ae]at h⊢;exact⟨h.1,h.2.1,h.2.2.1,h.2.2.2.1,h.2.2.2.2.1,bg.2 hi,h.2.2.2.2.2.2.1,h.2.2.2.2.2.2.2.1,hg⟩
theorem Ko (h:oV p=true):0<=p.2.2.2.2.1/\p.2.2.2.2.1<=65535:=by unfold oV at h;simp only[ae]at h;exact bg.1 h.2.2.2.2.2.1
theorem afc {i:Int}(h:0<=i/\i<=65535):0<=tmod (au (i+1)) 65536/\tmod (au (i+1)) 65536<=65535:=by rw[ak];have h1:=Int.tmod_nonneg 65536 (a:=i+1) (by omega);have h2:=Int.tmod_lt_of_pos (i+1) (b:=65536) (by omega);omega
theorem ac0 {s:Int}(h:0<=s/\s<=4294967295)(hn:n<=320):0<=tmod (au (s+(n:Int))) 4294967296/\tmod (au (s+(n:Int))) 4294967296<=4294967295:=by rw[ak];have h1:=Int.tmod_nonneg 4294967296 (a:=s+(n:Int)) (by omega);have h2:=Int.tmod_lt_of_pos (s+(n:Int)) (b:=4294967296) (by omega);omega
theorem Ku (h:Cu c):Ends (qM c) λr=>(167772161<=r.1/\r.1<=167772163)/\Cu r.2:=by unfold qM;refine(gw h (by decide)).bind λr hr=>Ends.pure ⟨?_,hr.2⟩;have:=hr.1;simp only[ak (n:=167772161+r.1) (by omega) (by omega)];omega
theorem Yj (h:Cu c):Ends (vX c) λr=>(0<=r.1/\r.1<=31)/\Cu r.2:=by unfold vX;exact(iI (P:=λx=>0<=x/\x<=31) h (by decide) (by decide)).bind λr hr=>Ends.pure hr
theorem ah5 (h:Cu c){m:Int}(h0:0<=m)(h1:m<=320):Ends (sC c m) λr=>(rH r.1=true/\(r.1.2.2.2.2.2.2.2.length:Int)<=m)/\Cu r.2:=by
 unfold sC;refine(gw h (by decide)).bind λr1 p1=>(gw p1.2 (by decide)).bind λr2 p2=>?_;refine(iI (P:=λx=>0<=x/\x<=4294967295) p2.2 (by simp) ?_).bind λr3 p3=>?_;have:=p2.1;intro x hx;simp only[bO,List.not_mem_nil,or_false]at hx;omega;refine(iI (P:=λx=>0<=x/\x<=4294967295) p3.2 (by decide) (by decide)).bind λr4 p4=>(Yj p4.2).bind λr5 p5=>?_;refine(iI (P:=λx=>0<=x/\x<=65535) p5.2 (by decide) (by decide)).bind λr6 p6=>?_;rw[ak (n:=m+1)];refine(gw p6.2).bind λr7 p7=>(GK p7.2 r7.1).bind λr8 p8=>(vM p8.2 4).bind λr9 p9=>?_;have a1:=p1.1;have a7:=p7.1;have a8:=p8.1.2.1 a7.1 (by omega);rw[ak (n:=1000+r1.1)];refine Ends.cond (λ_=>Ends.pure ⟨⟨adp (by omega) (by omega) (by omega),?_⟩,p9⟩) λ_=>Ends.pure ⟨⟨S2 (by omega) (by omega) p3.1 p4.1 p5.1 p6.1 (by omega),?_⟩,p9⟩;all_goals show(r8.1.length:Int)<=m
 all_goals omega
theorem NR (h:Cu c){m:Int}(h0:0<=m:=by omega)(h1:m<=320:=by omega):Ends (kE c m) λr=>(dw r.1=true/\(r.1.2.2.2.2.2.2.2.2.2.2.2.2.2.2.2.length:Int)<=m/\(r.1.2.2.2.2.2.2.2.2.1=6\/r.1.2.2.2.2.2.2.2.2.1=17))/\Cu r.2:=by
 unfold kE;refine(iI (P:=λx=>0<=x/\x<=281474976710655) h (by decide) (by decide)).bind λr1 p1=>?_;refine(iI (P:=λx=>0<=x/\x<=281474976710655) p1.2 (by decide) (by decide)).bind λr2 p2=>?_;refine(iI (P:=λx=> -1<=x/\x<=4095) p2.2 (by decide) (by decide)).bind λr3 p3=>?_;refine(iI (P:=λx=>0<=x/\x<=255) p3.2 (by decide) (by decide)).bind λr4 p4=>?_;refine(iI (P:=λx=>0<=x/\x<=65535) p4.2 (by decide) (by decide)).bind λr5 p5=>?_;refine(iI (P:=λx=>0<=x/\x<=255) p5.2 (by decide) (by decide)).bind λr6 p6=>?_;refine(Ku p6.2).bind λr7 p7=>?_;refine(ah5 p7.2 (m:=if 128<m then 128 else m) (by split<;>omega) (by split<;>omega)).bind λr8 p8=>?_;have hh:∀g:eh,rH g=true->oV (r1.1,r2.1,r3.1,r4.1,r5.1,r6.1,r7.1,167772161,g)=true:=λg hg=>ab1 p1.1 p2.1 p3.1 p4.1 p5.1 p6.1 (by have:=p7.1;omega) (by omega) hg;have hk:∀g:eh,rH g=true->g.1=6\/g.1=17:=by intro g hg;unfold rH at hg;simp only[ae]at hg;have h2:=hg.2.2.2;cases h17:g.1==17 with|true=>exact Or.inr (by simpa using h17)|false=>rw[h17]at h2;simp only[af,ae]at h2;exact Or.inl (by simpa using h2.1)
 have hl:(r8.1.2.2.2.2.2.2.2.length:Int)<=128/\(r8.1.2.2.2.2.2.2.2.length:Int)<=m:=by have:=p8.1.2;split at this<;>omega
 have short:∀c':Og,Cu c'->Ends (some ((r1.1,r2.1,r3.1,r4.1,r5.1,r6.1,r7.1,(167772161:Int),r8.1),c')) λr:aN×Og=>(dw r.1=true/\(r.1.2.2.2.2.2.2.2.2.2.2.2.2.2.2.2.length:Int)<=m/\(r.1.2.2.2.2.2.2.2.2.1=6\/r.1.2.2.2.2.2.2.2.2.1=17))/\Cu r.2:=by intro c' xg;refine Ends.pure ⟨⟨?_,hl.2,hk _ p8.1.1⟩,xg⟩;unfold dw;rw[hh _ p8.1.1,bp];have:decide ((r8.1.2.2.2.2.2.2.2.length:Int)<=128)=true:=ar hl.1;show(decide ((r8.1.2.2.2.2.2.2.2.length:Int)<=128)||_)=true;rw[this,iv]
 refine Ends.cond (λk1=>Ends.cond (λk2=>Ends.cond (λk3=>?_) λ_=>short _ p8.2) λ_=>short _ p8.2) λ_=>short _ p8.2;have k3:=bl k3;refine(vM p8.2 2).bind λr9 p9=>Ends.cond (λ_=>?_) λ_=>short _ p9;rw[ak (n:=m-128),ak (n:=m-128+1)];refine(gw p9).bind λqW p10=>?_;have a10:=p10.1;rw[ak (n:=128+qW.1)];refine(GK p10.2 _).bind λuH p11=>?_;have a11:=p11.1.2.1 (by omega) (by omega);have hs:=aag p8.1.1 (x:=uH.1) (by omega);refine Ends.pure ⟨⟨?_,by show(uH.1.length:Int)<=m;omega,Or.inl (by simpa using k1)⟩,p11.2⟩;unfold dw;rw[hh _ hs,bp];rw[Kb _ (DE p8.1.1 k1)]at k2;show(_||(r8.1.1==6)&&AO r8.1.2.2.2.2.2.1)=true;rw[k1,k2,eY,jv]
def Plain (p:aN):Prop:=oV p=true/\p.2.2.2.2.2.2.2.2.2.2.2.2.2.2.2.length<=40
theorem Plain.ok (h:Plain p):fV p=true:=(SC p).2 ⟨h.1,by have:=h.2;omega⟩
theorem Gl (h:Cu c):Ends (kE c 40) λr=>Plain r.1/\Cu r.2:=(NR h).mono λr hr=>⟨⟨by have:=hr.1.1;unfold dw at this;simp only[ae]at this;exact this.1,by have:=hr.1.2.1;omega⟩,hr.2⟩
theorem acO {Q:R->Prop}{k0:aw aN->Og->aN->ax R}{l:aw aN}{n:Int}(hl:l.length<=1000)(hc:Cu c)(hp:Plain p)(hk:∀c' p',Cu c'->Plain p'->Ends (k0 (l++[p]) c' p') Q):Ends (ni k0 l z n c p) Q:=by
 unfold ni;have hi:=afc (Ko hp.1);have hs:=yu hp.1;refine Ends.room (by simp;omega) (Ends.ifn (by decide) (Ends.cond (λh6=>?_) λ_=>hk _ _ hc ⟨Aj (p:=p) hp.1 hi hs,hp.2⟩));have h6:p.2.2.2.2.2.2.2.2.1=6:=by simpa using h6
 refine(vM hc 8).bind λr hr=>Ends.cond (λ_=>Ends.ifn (by decide) (hk _ _ hr ⟨Aj (p:=p) hp.1 hi ?_,hp.2⟩)) λ_=>hk _ _ hr ⟨Aj (p:=p) hp.1 hi hs,hp.2⟩;have k:=XC hs h6;have hlen:p.2.2.2.2.2.2.2.2.2.2.2.2.2.2.2.length<=320:=by have:=hp.2;omega
 exact Lu hs h6 (ac0 k.2.2.1 hlen) k.2.2.2.2.1 hlen
theorem acN {Q:R->Prop}{k0:aw aN->Og->aN->ax R}{l:aw aN}{n:Int}(hl:l.length<=1000)(hz:1<=z/\z<=40)(hc:Cu c)(hp:Plain p)(hk:∀q c' p',Plain q->Cu c'->Plain p'->Ends (k0 (l++[q]) c' p') Q):Ends (nh k0 l z n c p) Q:=by
 unfold nh;refine Ends.cond (λh6=>?_) λ_=>acO hl hc hp λc' p' h1 h2=>hk _ _ _ hp h1 h2;have h6:p.2.2.2.2.2.2.2.2.1=6:=by simpa using h6
 refine(iI (P:=λx=>0<=x/\x<=31) hc (by decide) (by decide)).bind λr8 p8=>(GK p8.2 z).bind λr9 p9=>?_;have a9:=p9.1.2.1 (by omega) (by omega);have hs:=yu hp.1;have hq:Plain (p.1,p.2.1,p.2.2.1,p.2.2.2.1,p.2.2.2.2.1,p.2.2.2.2.2.1,p.2.2.2.2.2.2.1,p.2.2.2.2.2.2.2.1,p.2.2.2.2.2.2.2.2.1,p.2.2.2.2.2.2.2.2.2.1,p.2.2.2.2.2.2.2.2.2.2.1,p.2.2.2.2.2.2.2.2.2.2.2.1,p.2.2.2.2.2.2.2.2.2.2.2.2.1,r8.1,p.2.2.2.2.2.2.2.2.2.2.2.2.2.2.1,r9.1):=⟨Aj hp.1 (Ko hp.1) (Lu hs h6 (XC hs h6).2.2.1 p8.1 (by omega)),by show r9.1.length<=40;omega⟩
 exact acO hl p9.2 hq λc' p' h1 h2=>hk _ _ _ hq h1 h2
theorem aga {Q:R->Prop}{k0:aw aN->Int->Og->aN->ax R}{l:aw aN}{n:Int}(hl:l.length<=1000)(hz:1<=z/\z<=40)(hc:Cu c)(hp:Plain p)(hk:∀q z' c' p',Plain q->(1<=z'/\z'<=40)->Cu c'->Plain p'->Ends (k0 (l++[q]) z' c' p') Q):Ends (ov k0 l z n c p) Q:=by unfold ov;refine(vM hc 6).bind λr6 p6=>Ends.cond (λ_=>?_) λ_=>acN hl hz p6 hp λq c' p' h1 h2 h3=>hk _ _ _ _ h1 hz h2 h3;refine(gw p6 (by decide)).bind λr7 p7=>?_;have a7:=p7.1;rw[ak (n:=1+r7.1)];exact acN hl (by omega) p7.2 hp λq c' p' h1 h2 h3=>hk _ _ _ _ h1 (by omega) h2 h3
theorem ajD {Q:R->Prop}{k0:aw aN->Int->Int->Og->aN->ax R}{l:aw aN}{n:Int}(hl:l.length<=1000)(hz:1<=z/\z<=40)(hn:0<n/\n<=1000)(hc:Cu c)(hp:Plain p)(hk:∀q z' c' p',Plain q->(1<=z'/\z'<=40)->Cu c'->Plain p'->Ends (k0 (l++[q]) z' (n-1) c' p') Q):Ends (sD k0 l z n c p) Q:=by unfold sD;have e:au (n-1)=n-1:=ak;refine(vM hc 5).bind λr4 p4=>Ends.cond (λ_=>?_) λ_=>?_;refine(Gl p4).bind λr5 p5=>aga hl hz p5.2 p5.1 λq z' c' p' h1 h2 h3 h4=>?_;unfold ou;rw[e];exact hk _ _ _ _ h1 h2 h3 h4;refine aga hl hz p4 hp λq z' c' p' h1 h2 h3 h4=>?_;unfold ou;rw[e];exact hk _ _ _ _ h1 h2 h3 h4
theorem ae7 (h:Cu c){m:Int}(h0:0<m)(h1:m<=100):Ends (xE c m) λr=>((∀p∈r.1,Plain p)/\0<r.1.length/\(r.1.length:Int)<=m)/\Cu r.2:=by unfold xE;refine(Gl h).bind λr1 p1=>(gw p1.2 (by decide)).bind λr2 p2=>(gw p2.2 h0).bind λr3 p3=>?_;have a2:=p2.1;have a3:=p3.1;rw[ak (n:=r2.1*8),ak (n:=8+r2.1*8),ak (n:=1+r3.1)];refine Ends.wv (λx=>(∀p∈x.1,Plain p)/\(1<=x.2.1/\x.2.1<=40)/\0<=x.2.2.1/\(x.1.length:Int)+x.2.2.1=1+r3.1/\Cu x.2.2.2.1/\Plain x.2.2.2.2) (λx=>x.2.2.1.toNat) ⟨by simp,(by dsimp only;omega),(by dsimp only;omega),by simp,p3.2,p1.1⟩ (by simp;omega) λx nx hx hn=>?_;unfold wX;refine Ends.cond (λk=>?_) λk=>?_;have k:=bl k;refine ajD (by omega) hx.2.1 (by omega) hx.2.2.2.2.1 hx.2.2.2.2.2 λq z' c' p' h1 h2 h3 h4=>hn _ ⟨?_,h2,?_,?_,h3,h4⟩ ?_;intro y hy;rcases ay.1 hy with hy|hy;exact hx.1 y hy;simp only[cf]at hy;rw[hy];exact h1;show 0<=x.2.2.1-1;omega;show((x.1++[q]).length:Int)+(x.2.2.1-1)=1+r3.1;have:=hx.2.2.2.1;simp;omega;show(x.2.2.1-1).toNat<x.2.2.1.toNat;omega;have k:=eK k;have:=hx.2.2.2.1;have:=hx.2.2.1;exact Ends.pure ⟨⟨hx.1,(by dsimp only;omega),(by dsimp only;omega)⟩,hx.2.2.2.2.1⟩
theorem afe (h:Cu c){l:aw aN}(hl:l.length<=1000000):Ends (xF c l) λr=>(r.1.length<=l.length/\∀s∈r.1,s.2.2.1=[])/\Cu r.2:=by unfold xF;refine Ends.wv (λx=>0<=x.2.1/\(x.1.length:Int)<=x.2.1/\x.2.1<=(l.length:Int)/\(∀s∈x.1,s.2.2.1=[])/\Cu x.2.2) (λx=>((l.length:Int)-x.2.1).toNat) ⟨by simp,by simp,by simp,by simp,h⟩ (by simp;omega) λx nx hx hn=>?_;have e:x.2.1<(l.length:Int)->au (x.2.1+1)=x.2.1+1:=λ_=>ak;unfold wY;refine Ends.cond (λk=>?_) λk=>Ends.pure ⟨⟨(by dsimp only;omega),hx.2.2.2.1⟩,hx.2.2.2.2⟩;have k:=bl k;rw[e k];have skip:∀c',Cu c'->Ends (nx (x.1,x.2.1+1,c')) _:=λc' xg=>hn _ ⟨by show 0<=x.2.1+1;omega,by show(x.1.length:Int)<=x.2.1+1;omega,by show x.2.1+1<=_;omega,hx.2.2.2.1,xg⟩ (by show((l.length:Int)-(x.2.1+1)).toNat<_;omega);refine Ends.idx hx.1 k λhi=>?_;rw[adx,ab];refine Ends.cond (λ_=>?_) λ_=>skip _ hx.2.2.2.2;rw[adB _ _ (by omega),ab];refine Ends.cond (λ_=>?_) λ_=>skip _ hx.2.2.2.2;refine(vM hx.2.2.2.2 6).bind λr4 p4=>Ends.cond (λ_=>?_) λ_=>skip _ p4;refine Ends.idx hx.1 k λhi=>(iI (P:=λ_=>True) p4 (by decide) (by simp)).bind λr6 p6=>Ends.room (by simp;omega) (hn _ ⟨by show 0<=x.2.1+1;omega,?_,by show x.2.1+1<=_;omega,?_,p6.2⟩ (by show((l.length:Int)-(x.2.1+1)).toNat<_;omega));show((x.1++[_]).length:Int)<=x.2.1+1;simp;omega;intro s hs;rcases ay.1 hs with hs|hs;exact hx.2.2.2.1 s hs;simp only[cf]at hs;rw[hs]
end
end Go.Pu
