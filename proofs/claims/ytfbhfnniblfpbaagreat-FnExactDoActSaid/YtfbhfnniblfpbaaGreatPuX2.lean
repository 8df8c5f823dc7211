import Derived.Test.YtfbhfnniblfpbaaGreatPuX1
namespace Go.Pu
open Go.Dn
open Int (tmod)
set_option linter.unusedSimpArgs false
set_option linter.unusedVariables false
noncomputable section
variable {s t x:Bytes} {h:Host} {c d:Int} {k:Nat} {g:Nat->Host->Host} {p:aS} {R:Type} {l:ar aA} {m:br} {f:br×bc} {r:kU}
/- Writes through mappings: the program's and the reference's results are one. -/
def IE (x:Bytes)(o:Nat)(t:Bytes):Bytes:=x.take o++(t++x.drop (o+t.length))
theorem ack {o:Nat}(h:o+t.length<=x.length):(IE x o t).length=x.length:=by grind[IE]
theorem aco (x:Bytes)(o:Nat)(t:Bytes):aM (Ek (dm x) o (dm t))=IE x o t:=by
 have e:Ek (dm x) o (dm t)=dm (IE x o t):=by grind[Ek,IE,dm,List.map_take,List.map_drop]
 rw[e,NT]
theorem afd {o:Nat}(h:o+t.length<=x.length):xj x (o:Int) t=IE x o t:=by grind[xj,fJ,IE]
def CO:Nat->br->Nat->Bytes->br
 |0,m,_,_=>m
 |n+1,m,a,s=>if s.length=0 then m else
  CO n (m.set (a/128) (IE (m.getD (a/128) []) (a%128) (s.take (128-a%128)))) (a+min (128-a%128) s.length) (s.drop (128-a%128))
def Fo (m:br):Prop:=(∀x∈m,x.length=128)/\m.length<=64
theorem HT:gN m=true↔Fo m:=mem_iff
theorem LG {p:Nat}(h:Fo m)(hx:x.length=128):Fo (m.set p x):=by refine⟨λy hy=>?_,by rw[aH];exact h.2⟩;rcases List.mem_or_eq_of_mem_set hy with g|g;exact h.1 y g;rw[g];exact hx
theorem JC (h:Fo m){a:Nat}(hs:s.length≠0)(ha:a+s.length<=128*m.length): ∃(hp:a/128<m.length),(m[a/128]'hp).length=128/\(IE (m[a/128]'hp) (a%128) (s.take (128-a%128))).length=128:=by
 have hp:a/128<m.length:=by omega
 have hl:=h.1 _ (bh hp);grind[ack]
theorem FV:∀(n:Nat){m:br}{a:Nat}{s:Bytes},Fo m->a+s.length<=128*m.length->Fo (CO n m a s)/\(CO n m a s).length=m.length
 |0,m,a,s,h,_=>⟨h,rfl⟩
 |n+1,m,a,s,h,ha=>by rw[CO];split;exact⟨h,rfl⟩;rename_i hs;obtain⟨hp,hl,ho⟩:=JC h hs ha;rw[fM hp];have:=FV n (m:=m.set (a/128) (IE m[a/128] (a%128) (s.take (128-a%128)))) (a:=a+min (128-a%128) s.length) (s:=s.drop (128-a%128)) (LG h ho) (by rw[aH,bf];omega);rw[aH]at this;exact this
theorem IA (K:Int->Bytes->br->aw R)(K':br->aw R)(hK:∀a m,K a [] m=K' m):∀(n:Nat)(m:br)(a:Nat)(s:Bytes)(f:Nat),s.length<=n->n<f->Fo m->a+s.length<=128*m.length->
 aJ (nj K ([]:br)) f ((a:Int),s,m)=K' (CO n m a s)
 |n,m,a,s,0,_,hf,_,_=>by omega
 |n,m,a,s,f+1,hs,hf,hm,ha=>by
  rw[aJ];simp only[nj];by_cases h0:s.length=0;have:s=[]:=cz h0;subst this;rw[aq (by simp),ae,hK];cases n<;>simp[CO];cases n with
  |zero=>omega
  |succ n=>
   obtain⟨hp,hl,ho⟩:=JC hm h0 ha;have h64:=hm.2;have e1:Int.tdiv (a:Int) 128=((a/128:Nat):Int):=aaJ a 128;have e2:tmod (a:Int) 128=((a%128:Nat):Int):=WQ a 128;rw[jP,af,mG,e1,e2,aj (n:=((a/128:Nat):Int)) (by omega) (by omega),aX hp,ab,aQ (by omega),mG];have pZ:sub (dm m[a/128]) ((a%128:Nat):Int) ((dm m[a/128]).length:Int)=some ((dm m[a/128]).drop (a%128)):=by rw[Nw _ _ _ (by rw[Kj];omega) (aU _),bB (by rw[bf];exact aU _)]
   rw[pZ,ab,mG,ab,ab];have hd:((dm m[a/128]).drop (a%128)).length=128-a%128:=by rw[bf,Kj,hl]
   rw[hd];have hdr:s.drop (min (128-a%128) s.length)=s.drop (128-a%128):=by by_cases h3:128-a%128<=s.length;rw[iU h3];rw[Nat.min_eq_right (by omega),cQ (aU _),cQ (by omega)]
   have aje:sub s (((min (128-a%128) s.length:Nat)):Int) ((s.length:Int))=some (s.drop (128-a%128)):=by rw[<-hdr];unfold sub;rw[zip];simp
   rw[aje,ab,aj (n:=(a:Int)+((min (128-a%128) s.length:Nat):Int)) (by omega) (by omega),ay,ay,aco];rw[CO,aF h0,fM hp,show(a:Int)+((min (128-a%128) s.length:Nat):Int)=((a+min (128-a%128) s.length:Nat):Int) by omega];exact IA K K' hK n _ _ _ f (by rw[bf];omega) (by omega) (LG hm ho) (by rw[aH,bf];omega)
theorem IP (K:Int->Bytes->br->aw R)(K':br->aw R)(hK:∀a m,K a [] m=K' m):∀(n:Nat)(m:br)(a:Nat)(s:Bytes)(f:Nat),s.length<=n->n<f->Fo m->a+s.length<=128*m.length->
 aJ (ns K ([]:br)) f ((a:Int),s,m)=K' (CO n m a s)
 |n,m,a,s,0,_,hf,_,_=>by omega
 |n,m,a,s,f+1,hs,hf,hm,ha=>by
  rw[aJ];simp only[ns];by_cases h0:s.length=0;have:s=[]:=cz h0;subst this;rw[aq (by simp),ae,hK];cases n<;>simp[CO];cases n with
  |zero=>omega
  |succ n=>
   obtain⟨hp,hl,ho⟩:=JC hm h0 ha;have h64:=hm.2;have e1:Int.tdiv (a:Int) 128=((a/128:Nat):Int):=aaJ a 128;have e2:tmod (a:Int) 128=((a%128:Nat):Int):=WQ a 128;rw[jP,af,mG,mG,mG,e1,e2,aj (n:=((a/128:Nat):Int)) (by omega) (by omega),aj (n:=128-((a%128:Nat):Int)) (by omega) (by omega),aX hp,ab];obtain⟨c,hc⟩:∃c,min (128-a%128) s.length=c:=⟨_,rfl⟩
   rw[show(if 128-((a%128:Nat):Int)<(s.length:Int) then 128-((a%128:Nat):Int) else(s.length:Int))=(c:Int) by split<;>omega];have ht:s.take c=s.take (128-a%128):=by by_cases h3:128-a%128<=s.length;rw[<-hc,iU h3];rw[<-hc,Nat.min_eq_right (by omega),bB (aU _),bB (by omega)]
   have hdr:s.drop c=s.drop (128-a%128):=by by_cases h3:128-a%128<=s.length;rw[<-hc,iU h3];rw[<-hc,Nat.min_eq_right (by omega),cQ (aU _),cQ (by omega)]
   have hs1:sub s 0 (c:Int)=some (s.take (128-a%128)):=by rw[<-ht];unfold sub;rw[zip];simp
   have hs2:sub s (c:Int) (s.length:Int)=some (s.drop (128-a%128)):=by rw[<-hdr];unfold sub;rw[zip];simp
   rw[hs1,ab,FC _ _ _ (by omega),ab,ab,ab,hs2,ab,afd (by rw[bm,hl];omega),aj (n:=(a:Int)+(c:Int)) (by omega) (by omega),ay];rw[CO,aF h0,fM hp,hc,show(a:Int)+(c:Int)=((a+c:Nat):Int) by omega];exact IP K K' hK n _ _ _ f (by rw[bf];omega) (by omega) (LG hm ho) (by rw[aH,bf];omega)
def xM (m:br)(a:Int)(s:Bytes):br×Bool:=bif gD m a (s.length:Int) then(CO s.length m a.toNat s,true) else(m,false)
theorem Yq (m:br)(a:Int)(s:Bytes)(h:m.length<=10^9)(hs:s.length<=10^9):si m a s=some (xM m a s):=by have xV:=cS;unfold si xM;rw[fT m,ab,G4 m _ _ h,ab];cases hw:gD m a (s.length:Int);rfl;simp only[gD,ah,bE]at hw;obtain⟨a,rfl⟩:=aI hw.2.2.1;simp only[ai,ae,af,ay];exact IA _ (λm=>some (m,true)) (λ_ _=>rfl) s.length m a s fuel (aU _) (by omega) (HT.1 hw.1) (by omega)
theorem Zr (m:br)(a:Int)(s:Bytes)(h:m.length<=10^9)(hs:s.length<=10^9):sS m a s=some (xM m a s):=by have xV:=cS;unfold sS xM;rw[hU m,ab,Hn m _ _ h,ab];cases hw:gD m a (s.length:Int);rfl;simp only[gD,ah,bE]at hw;obtain⟨a,rfl⟩:=aI hw.2.2.1;simp only[ai,ae,af,ay];exact IP _ (λm=>some (m,true)) (λ_ _=>rfl) s.length m a s fuel (aU _) (by omega) (HT.1 hw.1) (by omega)
theorem Hv (m:br)(a:Int)(s:Bytes):(xM m a s).1.length=m.length:=by grind[xM,gD,FV,HT]
def TK:ar (Int×Int)->br->Bytes->br
 |[],m,_=>m
 |p::q,m,s=>TK q (xM m p.1 (s.take p.2.toNat)).1 (s.drop p.2.toNat)
theorem V8:∀(q:ar (Int×Int))(m:br)(s:Bytes),(TK q m s).length=m.length
 |[],m,s=>rfl
 |p::q,m,s=>by rw[TK,V8 q,Hv]
def QQ (q:ar (Int×Int)):Int:=(q.map (·.2)).sum
theorem aaF:∀(q:ar (Int×Int)),(∀p∈q,0<=p.2)->0<=QQ q
 |[],_=>Int.le_refl _
 |p::q,h=>by have:=aaF q (λx hx=>h x (by simp[hx]));grind[QQ]
theorem Wc {p:Int×Int}{q:ar (Int×Int)}(hc:∀x∈p::q,0<=x.2)(hs:(s.length:Int)=QQ (p::q)):0<=p.2/\p.2<=(s.length:Int)/\((s.drop p.2.toNat).length:Int)=QQ q:=by have h1:=hc p (by simp);have h2:=aaF q (λx hx=>hc x (by simp[hx]));grind[QQ]
theorem Sj (h0:0<=c)(h1:c<=(s.length:Int)):sub s 0 c=some (s.take c.toNat):=by grind[sub]
theorem WI (h0:0<=c)(h1:c<=(s.length:Int)):sub s c (s.length:Int)=some (s.drop c.toNat):=by simp_all[sub]
theorem Mk (K:Bytes->Int->br->aw (br×Bool))(hK:∀s i m,K s i m=some (m,true)):∀(rest pre:ar (Int×Int))(m:br)(s:Bytes)(f:Nat),rest.length<f->pre.length+rest.length<=1000000->(∀x∈rest,0<=x.2)->(s.length:Int)=QQ rest->m.length<=10^9->s.length<=1000000->
 aJ (zL K (pre++rest) ((pre++rest).length:Int) ([]:br)) f (s,(pre.length:Int),m)=some (TK rest m s,true)
 |rest,pre,m,s,0,hf,_,_,_,_,_=>by omega
 |[],pre,m,s,f+1,_,_,_,_,_,_=>by rw[aJ];simp only[zL];rw[aq (by simp),ae,hK];rfl
 |p::q,pre,m,s,f+1,hf,hn,hc,hs,hm,hl=>by
  obtain⟨h1,h2,h3⟩:=Wc hc hs;simp only[bC]at hf hn;have hi:pre.length<(pre++p::q).length:=by simp
  have hp:(pre++p::q)[pre.length]=p:=by simp
  rw[aJ];simp only[zL];rw[ax (by simp;omega),aX hi,hp,aj (by omega) (by omega)];simp only[af,ab,Sj h1 h2,WI h1 h2,Yq m _ _ hm (show(s.take p.2.toNat).length<=10^9 by rw[bm];omega)];have key:=Mk K hK q (pre++[p]) (xM m p.1 (s.take p.2.toNat)).1 (s.drop p.2.toNat) f (by omega) (by simp;omega) (λx hx=>hc x (by simp[hx])) h3 (by rw[Hv];exact hm) (by rw[bf];omega);grind[TK]
theorem MC (K:Bytes->Int->br->aw (br×Bool))(hK:∀s i m,K s i m=some (m,true)):∀(rest pre:ar (Int×Int))(m:br)(s:Bytes)(f:Nat),rest.length<f->pre.length+rest.length<=1000000->(∀x∈rest,0<=x.2)->(s.length:Int)=QQ rest->m.length<=10^9->s.length<=1000000->
 aJ (nR K ((pre++rest).map (·.1)) ((pre++rest).map (·.2)) ([]:br)) f (s,(pre.length:Int),m)=some (TK rest m s,true)
 |rest,pre,m,s,0,hf,_,_,_,_,_=>by omega
 |[],pre,m,s,f+1,_,_,_,_,_,_=>by rw[aJ];simp only[nR];rw[aq (by simp),ae,hK];rfl
 |p::q,pre,m,s,f+1,hf,hn,hc,hs,hm,hl=>by
  obtain⟨h1,h2,h3⟩:=Wc hc hs;simp only[bC]at hf hn;have hi:pre.length<(pre++p::q).length:=by simp
  have hp:(pre++p::q)[pre.length]=p:=by simp
  have i1:idx ((pre++p::q).map (·.1)) (pre.length:Int)=some p.1:=by grind[aX]
  have i2:idx ((pre++p::q).map (·.2)) (pre.length:Int)=some p.2:=by grind[aX]
  rw[aJ];simp only[nR];rw[ax (by simp;omega),i1,i2,aj (by omega) (by omega)];simp only[af,ab,Sj h1 h2,WI h1 h2,Zr m _ _ hm (show(s.take p.2.toNat).length<=10^9 by rw[bm];omega)];have key:=MC K hK q (pre++[p]) (xM m p.1 (s.take p.2.toNat)).1 (s.drop p.2.toNat) f (by omega) (by simp;omega) (λx hx=>hc x (by simp[hx])) h3 (by rw[Hv];exact hm) (by rw[bf];omega);grind[TK]
theorem O7 (l:ar aA)(m:br)(d:Int)(w:Bool):∀(n a r:Nat)(q:ar (Int×Int)),r<=n->lK l m d w n a r=some q->QQ q=(r:Int)/\(∀p∈q,0<=p.2)/\q.length<=n
 |0,a,r,q,hr,h=>by simp only[lK,aZ]at h;subst h;exact⟨by show(0:Int)=_;omega,by simp,by simp⟩
 |n+1,a,r,q,hr,h=>by simp only[lK]at h;split at h;simp only[aZ]at h;subst h;exact⟨by show(0:Int)=_;omega,by simp,by simp⟩;split at h;simp only[Option.map_eq_some_iff]at h;obtain⟨q',h1,rfl⟩:=h;obtain⟨i1,i2,i3⟩:=O7 l m d w n _ _ q' (by omega) h1;refine⟨?_,?_,by simp only[bC];omega⟩;simp only[QQ,dZ,List.sum_cons]at i1⊢;rw[i1];omega;intro p hp;rcases cv.1 hp with rfl|hp;show(0:Int)<=((min (128-a%128) r:Nat):Int);omega;exact i2 p hp;cases h
theorem R3 (l:ar aA)(m:br)(d a n:Int)(w:Bool)(h:(oy l m d a n w).2=true):QQ (oy l m d a n w).1=n/\(∀p∈(oy l m d a n w).1,0<=p.2)/\(oy l m d a n w).1.length<=4096/\n<=4096:=by
 unfold oy at h⊢;cases hB:fG l&&(gN m&&dH n 0 4096)with|false=>grind|true=>?_
 rw[hB]at h;simp only[ah,bM]at hB;simp only[af]at h⊢;cases h0:n==0 with
 |true=>
  have:n=0:=by simpa using h0
  subst this;exact⟨rfl,by simp,by simp,by omega⟩
 |false=>rw[h0]at h;simp only[ae]at h⊢;cases ha:decide (a<0)with|true=>grind|false=>rw[ha]at h;simp only[ae]at h⊢;cases hq:lK l m d w n.toNat a.toNat n.toNat with|none=>grind|some q=>obtain⟨i1,i2,i3⟩:=O7 l m d w _ _ _ q (aU _) hq;grind
def mO (l:ar aA)(m:br)(d a:Int)(s:Bytes)(w:Bool):br×Bool:=
 bif (oy l m d a (s.length:Int) w).2 then(TK (oy l m d a (s.length:Int) w).1 m s,true) else(m,false)
theorem mu (l:ar aA)(m:br)(d a:Int)(s:Bytes)(w:Bool):(mO l m d a s w).1.length=m.length:=by grind[mO,V8]
theorem VC (l:ar aA)(m:br)(d a:Int)(s:Bytes)(w:Bool)(hl:l.length<=10^9)(hm:m.length<=10^9)(ha:a<=9223372036854775807):G6 l m d a s w=some (mO l m d a s w):=by have xV:=cS;unfold G6 mO;rw[fT m,ab,VD l m d a _ w hl hm ha,ab];have hS:=R3 l m d a (s.length:Int) w;generalize oy l m d a (s.length:Int) w=r at hS⊢;cases hr:r.2;rfl;obtain⟨h1,h2,h3,h4⟩:=hS hr;simp only[ai,ae,af];exact Mk _ (λ_ _ _=>rfl) r.1 [] m s fuel (by omega) (by simp;omega) h2 h1.symm hm (by omega)
theorem Bj (l:ar aA)(m:br)(d a:Int)(s:Bytes)(hl:l.length<=10^9)(hm:m.length<=10^9)(ha:a<=9223372036854775807):mS l m d a s=some (mO l m d a s true):=by have xV:=cS;unfold mS mO;rw[Sb l m d a _ true hl hm ha,ab,hU m,ab];have hS:=R3 l m d a (s.length:Int) true;generalize oy l m d a (s.length:Int) true=r at hS⊢;cases hr:r.2;rfl;obtain⟨h1,h2,h3,h4⟩:=hS hr;simp only[ai,ae,af];exact MC _ (λ_ _ _=>rfl) r.1 [] m s fuel (by omega) (by simp;omega) h2 h1.symm hm (by omega)
theorem EV (l:ar aA)(m:br)(d a:Int)(s:Bytes)(hl:l.length<=10^9)(hm:m.length<=10^9)(ha:a<=9223372036854775807):pO l m d a s=some (mO l m d a s true):=by simp_all[pO,VC]
def wrM (x:aA):aA:=(x.1,x.2.1,x.2.2.1,true)
theorem getD_map {i:Nat}(hi:i<l.length):(l.map wrM).getD i Tt=wrM (l.getD i Tt):=by grind
theorem Tu (l:ar aA):fG (l.map wrM)=fG l:=by
 unfold fG;rw[cr];congr 1;rw[fi,aW,aW];have key:∀i,i<l.length->Tr (l.map wrM) i=Tr l i:=by
  intro i hi;unfold Tr;rw[getD_map hi];congr 1;rw[fi,aW,aW];constructor;intro h j hj;have hjl:j<l.length:=by have:=dx.1 hj;omega
  have:=h j hj;rw[getD_map hjl]at this;exact this;intro h j hj;have hjl:j<l.length:=by have:=dx.1 hj;omega
  rw[getD_map hjl];exact h j hj
 constructor;intro h i hi;rw[<-key i (dx.1 hi)];exact h i hi;intro h i hi;rw[key i (dx.1 hi)];exact h i hi
theorem ae9 (l:ar aA)(d p:Int):vF (l.map wrM) d p true=vF l d p false:=by grind[vF,Ts,wrM,vE,List.findIdx?_eq_some_iff_getElem]
theorem RU (l:ar aA)(m:br)(d:Int):∀n a r,lK (l.map wrM) m d true n a r=lK l m d false n a r
 |0,a,r=>rfl
 |n+1,a,r=>by simp only[lK,ae9,RU l m d n]
theorem agM (l:ar aA)(m:br)(d a:Int)(s:Bytes):mO (l.map wrM) m d a s true=mO l m d a s false:=by
 have e:oy (l.map wrM) m d a (s.length:Int) true=oy l m d a (s.length:Int) false:=by simp only[oy,Tu,RU]
 simp only[mO,e]
theorem IM (l:ar aA)(m:br)(d a:Int)(s:Bytes)(hl:l.length<=10^9)(hm:m.length<=10^9)(ha:a<=9223372036854775807):ry l m d a s=some (mO l m d a s false):=by unfold ry;refine cD (λi=>((l.take i).map wrM,(i:Int))) l.length (by omega) (λi nx hi=>?_) (λnx=>?_);simp only[qB];rw[jP,aX hi,aj (by omega) (by omega)];simp only[af,ab];rw[aQ (by simp;omega),bj hi,List.map_append];rfl;simp only[qB];rw[gq,ae,df,Bj _ m d a s (by rw[cr];exact hl) hm ha,agM];rfl
theorem DH (l:ar aA)(m:br)(d a:Int)(s:Bytes)(hl:l.length<=10^9)(hm:m.length<=10^9)(ha:a<=9223372036854775807:=by omega):ju l m d a s=some (mO l m d a s false):=by simp_all[ju,VC]
def qN (d:DY):Bool:=dH d.1 0 3&&(dH d.2.1 0 3&&(dH d.2.2.1 0 65535&&(dH d.2.2.2.2.1 0 65535&&(dH d.2.2.2.2.2 0 65535&&dH d.2.2.2.1 0 4294967295))))
theorem Vw (d:DY):zI d=some (qN d):=by simp only[zI,dh,ab,qN];cases dH d.1 0 3<;>cases dH d.2.1 0 3<;>cases dH d.2.2.1 0 65535<;>cases dH d.2.2.2.2.1 0 65535<;>cases dH d.2.2.2.2.2 0 65535<;>rfl
theorem KE (d:DY):ru d=some (qN d):=by simp only[ru,cM,ab,qN];cases dH d.1 0 3<;>cases dH d.2.1 0 3<;>cases dH d.2.2.1 0 65535<;>cases dH d.2.2.2.2.1 0 65535<;>cases dH d.2.2.2.2.2 0 65535<;>rfl
def AO (d:DY):Bytes:=
 bif qN d then((((aM [gw d.1,gw d.2.1]++bW d.2.2.1)++jb d.2.2.2.1)++bW d.2.2.2.2.1)++bW d.2.2.2.2.2)++jb 0 else []
theorem TY (d:DY):lT d=some (AO d):=by have h1:=bt d.2.2.1;have h2:=dF d.2.2.2.1;have h3:=bt d.2.2.2.2.1;have h4:=bt d.2.2.2.2.2;have h5:=dF 0;have h0:(aM [gw d.1,gw d.2.1]).length=2:=rfl;unfold lT AO;rw[KE,ab];cases qN d;all_goals simp(disch:=omega)[hZ,mR,aQ]
theorem Tg (d:DY):lR d=some (AO d):=by have h1:=bt d.2.2.1;have h2:=dF d.2.2.2.1;have h3:=bt d.2.2.2.2.1;have h4:=bt d.2.2.2.2.2;have h5:=dF 0;have h0:(aM [gw d.1,gw d.2.1]).length=2:=rfl;unfold lR AO;rw[Vw,ab];cases qN d;all_goals simp(disch:=omega)[kY,B6,aQ]
def vV (r:kU):Int:=bif fI r then ak (r.2.1-cY r) else 0
def AM (r:kU)(c:Int):Int:=bif !fI r||decide (c<0) then-1 else r.1+tmod c r.2.1*16
theorem qw (h:fI r=true):0<=r.1/\r.1<=130944/\(r.2.1=2\/r.2.1=4\/r.2.1=8\/r.2.1=16)/\0<=r.2.2.1/\r.2.2.1<=2*r.2.1-1/\0<=r.2.2.2/\r.2.2.2<=2*r.2.1-1:=by grind[fI,bM,mP]
theorem Eu (r:kU)(c:Int): -1<=AM r c/\AM r c<=200000:=by unfold AM;cases hc: !fI r||decide (c<0)with|true=>grind|false=>simp only[dB,eK,eI]at hc;have h:=qw hc.1;grind
def dz (l:ar aA)(m:br)(d:Int)(r:kU)(s:Bytes):br×kU×Bool:=
 bif (vV r==0)||((s.length:Int) !=16) then(m,r,false) else
 bif !(mO l m d (AM r r.2.2.2) s true).2 then(m,r,false) else
 ((mO l m d (AM r r.2.2.2) s true).1,(r.1,r.2.1,r.2.2.1,tmod (r.2.2.2+1) (2*r.2.1)),true)
theorem RX {a:Int}{w:Bool}(h:(mO l m d a s w).2=false):(mO l m d a s w).1=m:=by grind[mO]
theorem HY (r:kU):pX r=some (vV r):=by grind[pX,vV,Aa,ab,CI]
theorem Se (r:kU)(c:Int):nZ r c=some (AM r c):=by
 have uu:=Eu r c;unfold nZ;rw[Aa,ab];unfold AM at uu⊢;cases hb:fI r;rfl;have h:=qw hb;by_cases hc:c<0;rw[ax hc];rfl;rw[hb,aq hc]at uu;rw[aq hc];have h2:0<=tmod c r.2.1/\tmod c r.2.1<r.2.1:=by rw[eP (by omega)];exact⟨Int.emod_nonneg _ (by omega),ga _ (by omega)⟩
 simp only[ai,ae,ab,bU]at uu⊢;rw[mG,aj (n:=16*tmod c r.2.1) (by omega) (by omega),aj (by omega) (by omega)];congr 1;omega
theorem MD (l:ar aA)(m:br)(d:Int)(r:kU)(s:Bytes)(hl:l.length<=10^9)(hm:m.length<=10^9):xz l m d r s=some (dz l m d r s):=by
 have hA:=Eu r r.2.2.2;unfold xz dz;simp only[HY,ab,Se,Bj l m d _ s hl hm (show AM r r.2.2.2<=9223372036854775807 by omega),hU m (show m.length<=1073741824 by omega)];cases hf:vV r==0;case true=>rfl
 cases (s.length:Int) !=16;case true=>rfl
 have hb:fI r=true:=by grind[vV]
 have h:=qw hb;grind[ab,aj]
theorem Rr (r:kU):tJ r=some (vV r):=by grind[tJ,vV,zH,ab,B4]
theorem Rx (r:kU)(c:Int):nD r c=some (AM r c):=by
 have uu:=Eu r c;unfold nD;rw[zH,ab];unfold AM at uu⊢;cases hb:fI r;rfl;have h:=qw hb;by_cases hc:c<0;rw[ax hc];rfl;rw[hb,aq hc]at uu;rw[aq hc];have h2:0<=tmod c r.2.1/\tmod c r.2.1<r.2.1:=by rw[eP (by omega)];exact⟨Int.emod_nonneg _ (by omega),ga _ (by omega)⟩
 simp only[ai,ae,ab,bU]at uu⊢;rw[mG,aj (n:=tmod c r.2.1*16) (by omega) (by omega),aj (by omega) (by omega)]
theorem Ml (l:ar aA)(m:br)(d:Int)(r:kU)(s:Bytes)(hl:l.length<=10^9)(hm:m.length<=10^9):wx l m d r s=some (dz l m d r s):=by
 have hA:=Eu r r.2.2.2;unfold wx dz;simp only[Rr,ab,Rx,EV l m d _ s hl hm (show AM r r.2.2.2<=9223372036854775807 by omega),fT m (show m.length<=1073741824 by omega)];cases hf:vV r==0;case true=>rfl
 cases (s.length:Int) !=16;case true=>rfl
 have hb:fI r=true:=by grind[vV]
 have h:=qw hb;grind[ab,RX,aj]
theorem Dt {p:cj}(h:gn p=true):0<=p.1/\p.1<=130944/\1<=p.2.1/\p.2.1<=512/\0<=p.2.2.1/\p.2.2.1<=16:=by grind[gn,bM]
def lH (p:cj)(i:Int):Int:=bif !gn p|| !dH i 0 (p.2.2.1-1) then-1 else p.1+i*p.2.1
theorem ZS {p:cj}{i:Int}(hp:gn p=true)(hi:dH i 0 (p.2.2.1-1)=true):ak (p.1+ak (i*p.2.1))=p.1+i*p.2.1:=by have h:=Dt hp;have h2:=bM.1 hi;have h3:0<=i*p.2.1:=Int.mul_nonneg h2.1 (by omega);have h4:i*p.2.1<=16*512:=Int.mul_le_mul (by omega) (by omega) (by omega) (by omega);grind[aj]
theorem Pr (p:cj)(i:Int)(h:p.2.2.2.length<=10^9):ja p i=some (lH p i):=by grind[ja,lH,ue,ab,gn,aj,cM,dH,ZS]
theorem J4 (p:cj)(i:Int)(h:p.2.2.2.length<=10^9):fN p i=some (lH p i):=by grind[fN,lH,vY,ab,gn,aj,dh,dH,ZS]
def upto (n:Nat):eF:=(List.range n).map Int.ofNat
theorem Sp (n:Nat):upto (n+1)=upto n++[(n:Int)]:=by simp[upto,List.range_succ]
theorem afR {n i:Nat}(h:i<n):(upto n).getD i 0=(i:Int):=by grind[upto]
theorem YX (a b:Int)(n:Nat)(hn:n<=16):gn (a,b,(n:Int),upto n)=gn (a,b,(n:Int),[]):=by
 unfold gn;congr 3;have h1:(List.range (upto n).length).all (L8 (n:Int) (upto n))=true:=by
  rw[aW];intro i hi;have hi:i<n:=by simpa[upto]using hi
  simp only[L8,afR hi,ah,bM,aP];refine⟨by omega,?_⟩;rw[Bool.eq_false_iff,ne_eq,List.contains_iff_mem];intro hm;simp only[upto,<-List.map_take,List.mem_map]at hm;grind
 rw[h1];rfl
def lj (a b n:Int):cj×Bool:=bif gn (a,b,n,[]) then((a,b,n,upto n.toNat),true) else((0,0,0,[]),false)
theorem Mj (a b n:Int):wo a b n=some (lj a b n):=by
 unfold wo lj;rw[vY _ (by simp),ab];cases hp:gn (a,b,n,[]);rfl;have uu:=Dt hp;obtain⟨n,rfl⟩:=aI (show 0<=n from uu.2.2.2.2.1);have W9:n<=16:=by have:=uu.2.2.2.2.2;simp only at this;omega
 simp only[ai,ae,af,ay];refine cD (λi=>((i:Int),a,b,(n:Int),upto i)) n (by omega) (λi nx hi=>?_) (λnx=>?_);simp only[uz];rw[jP,aQ (by simp[upto];omega),aj (by omega) (by omega),Sp];rfl;simp only[uz];rw[gq];rfl
theorem MB (a b n:Int):xw a b n=some (lj a b n):=by
 have xV:=cS;unfold xw lj;by_cases hn:0<=n/\n<=16;obtain⟨n,rfl⟩:=aI hn.1;have W9:n<=16:=by omega
 refine cD (λi=>((i:Int),a,b,(n:Int),upto i)) n (by omega) (λi nx hi=>?_) (λnx=>?_);simp only[pC];rw[ax (show(i:Int)<n by omega),ax (show(n:Int)<=16 by omega)];simp only[af,ab];rw[aQ (by simp[upto];omega),aj (by omega) (by omega),Sp];rfl;simp only[pC];rw[aq (show¬(n:Int)<n by omega)];simp only[ae,ab,ue (a,b,(n:Int),upto n) (show(upto n).length<=10^9 by simp[upto];omega),YX a b n W9,ay];cases gn (a,b,(n:Int),[])<;>rfl;have hb:gn (a,b,n,[])=false:=by cases hp:gn (a,b,n,[])with|false=>rfl|true=>have:=Dt hp;exact absurd ⟨this.2.2.2.2.1,this.2.2.2.2.2⟩ hn
 obtain⟨f,hf⟩:∃f,fuel=f+1:=⟨fuel-1,by omega⟩
 rw[hf,aJ];simp only[pC];have hc:(cond (decide ((0:Int)<n)) (some (decide (n<=16))) (some false))=some false:=by by_cases h0:(0:Int)<n;rw[ax h0,gq];rfl;rw[aq h0];rfl
 rw[hc];simp only[ab,ae,ue (a,b,n,[]) (show([]:eF).length<=10^9 by simp),hb];rfl
def fW (p:cj)(b:Int):Bytes:=AO (3,0,p.2.1,lH p b,0,b)
def qO (l:ar aA)(d:Int)(p:cj):eF->br->kU->Nat×br×kU
 |[],m,r=>(0,m,r)
 |b::q,m,r=>bif (dz l m d r (fW p b)).2.2 then
   ((qO l d p q (dz l m d r (fW p b)).1 (dz l m d r (fW p b)).2.1).1+1,(qO l d p q (dz l m d r (fW p b)).1 (dz l m d r (fW p b)).2.1).2)
  else(0,m,r)
theorem xk (l:ar aA)(m:br)(d:Int)(r:kU)(s:Bytes):(dz l m d r s).1.length=m.length:=by grind[dz,mu]
theorem Ld (l:ar aA)(d:Int)(p:cj):∀(q:eF)(m:br)(r:kU),(qO l d p q m r).2.1.length=m.length/\(qO l d p q m r).1<=q.length
 |[],m,r=>⟨rfl,aU _⟩
 |b::q,m,r=>by rw[qO];cases (dz l m d r (fW p b)).2.2 with|false=>grind|true=>have:=Ld l d p q (dz l m d r (fW p b)).1 (dz l m d r (fW p b)).2.1;grind[xk]
theorem U6 (r:kU):0<=vV r:=by unfold vV;cases hb:fI r with|false=>exact Int.le_refl _|true=>have h:=qw hb;grind[fI,cY,aj]
theorem TL (h:¬vV r>0):dz l m d r s=(m,r,false):=by have h0:=U6 r;grind[dz]
theorem J6 (K:Int->Int->kU->br->aw R)(K':Nat->kU->br->aw R)(hK:∀(c:Nat) i r m,K (c:Int) i r m=K' c r m)(l:ar aA)(d:Int)(p p2 p3:cj)(hp:p.2.2.2.length<=10^9)(hl:l.length<=10^9):∀(rest pre:eF)(m:br)(r:kU)(f:Nat),rest.length<f->pre.length+rest.length<=10^9->m.length<=10^9->
 aJ (nz K l d (pre++rest) ((pre++rest).length:Int) p ([]:br) (0,0,0,0) p2 p3) f ((pre.length:Int),(pre.length:Int),r,m)=K' (pre.length+(qO l d p rest m r).1) (qO l d p rest m r).2.2 (qO l d p rest m r).2.1
 |rest,pre,m,r,0,hf,_,_=>by omega
 |[],pre,m,r,f+1,_,_,_=>by rw[aJ];simp only[nz];rw[aq (by simp),ae,hK];rfl
 |b::q,pre,m,r,f+1,hf,hn,hm=>by
  simp only[bC]at hf hn;have hi:pre.length<(pre++b::q).length:=by simp
  have hb:(pre++b::q)[pre.length]=b:=by simp
  rw[aJ];simp only[nz];rw[ax (by simp;omega),aX hi,hb];simp only[af,ab,J4 p b hp,Tg,Ml l m d r _ hl hm];rw[show AO (3,0,p.2.1,lH p b,0,b)=fW p b from rfl,qO];cases hq:(dz l m d r (fW p b)).2.2 with|false=>grind|true=>simp only[ai,ae,af];rw[aj (n:=(pre.length:Int)+1) (by omega) (by omega)];have key:=J6 K K' hK l d p p2 p3 hp hl q (pre++[b]) (dz l m d r (fW p b)).1 (dz l m d r (fW p b)).2.1 f (by omega) (by simp;omega) (by rw[xk];exact hm);grind
theorem KG (K:Int->kU->br->cj->aw R)(l:ar aA)(d:Int)(p p2:cj)(hp:p.2.2.2.length<=10^9)(hl:l.length<=10^9)(A B C:Int):∀(rest:eF)(c:Nat)(m:br)(r:kU)(f:Nat),rest.length<f->c+rest.length<=10^9->m.length<=10^9->
 aJ (nS K l d p ([]:br) (0,0,0,0) p2) f ((c:Int),r,m,A,B,C,rest)=K ((c+(qO l d p rest m r).1:Nat):Int) (qO l d p rest m r).2.2 (qO l d p rest m r).2.1 (A,B,C,rest.drop (qO l d p rest m r).1)
 |rest,c,m,r,0,hf,_,_=>by omega
 |[],c,m,r,f+1,_,_,_=>by
  rw[aJ];simp only[nS,HY,ab];have hc:(cond (decide (vV r>0)) (some (decide ((([]:eF).length:Int)>0))) (some false))=some false:=by cases decide (vV r>0)<;>rfl
  rw[hc];rfl
 |b::q,c,m,r,f+1,hf,hn,hm=>by
  simp only[bC]at hf hn;rw[aJ];simp only[nS,HY,ab];by_cases hr:vV r>0;rw[ax hr,ax (show(((b::q).length:Nat):Int)>0 by simp)];have hi:idx (b::q) 0=some b:=rfl;have hs:sub (b::q) 1 ((b::q).length:Int)=some q:=by unfold sub;rw[aG (by simp;omega)];simp
  simp only[af,ab,hi,Pr p b hp,TY,MD l m d r _ hl hm];rw[show AO (3,0,p.2.1,lH p b,0,b)=fW p b from rfl,qO];cases hq:(dz l m d r (fW p b)).2.2 with|false=>rfl|true=>simp only[ai,ae,af,hs,ab];rw[gk (by omega),aj (n:=(c:Int)+1) (by omega) (by omega),bR];have key:=KG K l d p p2 hp hl A B C q (c+1) (dz l m d r (fW p b)).1 (dz l m d r (fW p b)).2.1 f (by omega) (by omega) (by rw[xk];exact hm);rw[show((c+1:Nat):Int)=(c:Int)+1 by omega]at key;refine Eq.trans key ?_;rw[show c+1+(qO l d p q (dz l m d r (fW p b)).1 (dz l m d r (fW p b)).2.1).1=c+((qO l d p q (dz l m d r (fW p b)).1 (dz l m d r (fW p b)).2.1).1+1) by omega];rfl
  rw[aq hr,qO,TL hr];rfl
def BT (l:ar aA)(m:br)(d:Int)(r:kU)(p:cj):br×kU×cj×Int:=
 bif !fI r|| !gn p then(m,r,p,0) else
 ((qO l d p p.2.2.2 m r).2.1,(qO l d p p.2.2.2 m r).2.2,(p.1,p.2.1,p.2.2.1,p.2.2.2.drop (qO l d p p.2.2.2 m r).1),((qO l d p p.2.2.2 m r).1:Int))
theorem Vy (l:ar aA)(m:br)(d:Int)(r:kU)(p:cj)(hl:l.length<=10^9)(hm:m.length<=10^9)(hp:p.2.2.2.length<=10^9):jf l m d r p=some (BT l m d r p):=by have xV:=cS;unfold jf BT;simp only[fT m (show m.length<=1073741824 by omega),vq p hp,zH,vY p hp,ab];cases fI r;rfl;cases gn p;rfl;simp only[ai,ae,ab,bU];have hlen:=(Ld l d p p.2.2.2 m r).2;refine(J6 _ (λc r m=>aa (sub p.2.2.2 (c:Int) (p.2.2.2.length:Int)) λx14=>aa (fV x14) λAh=>some (m,r,(p.1,p.2.1,p.2.2.1,Ah),(c:Int))) (λ_ _ _ _=>rfl) l d p _ p hp hl p.2.2.2 [] m r fuel (by omega) (by simp;omega) hm).trans ?_;grind[Nw,ab,om]
theorem Wu (l:ar aA)(m:br)(d:Int)(r:kU)(p:cj)(hl:l.length<=10^9)(hm:m.length<=10^9)(hp:p.2.2.2.length<=10^9):ug l m d r p=some (BT l m d r p):=by have xV:=cS;unfold ug BT;simp only[hU m (show m.length<=1073741824 by omega),yb p hp,Aa,ue p hp,ab];cases fI r;rfl;cases gn p;rfl;simp only[ai,ae,ab,bU];refine(KG _ l d p _ hp hl p.1 p.2.1 p.2.2.1 p.2.2.2 0 m r fuel (by omega) (by omega) hm).trans ?_;rw[cm]
def kL (p:cj)(n:Int):cj×eF×Bool:=bif gn p&&dH n 0 (p.2.2.2.length:Int) then((p.1,p.2.1,p.2.2.1,p.2.2.2.drop n.toNat),p.2.2.2.take n.toNat,true) else(p,[],false)
theorem acU (p:cj)(n:Int)(h:p.2.2.2.length<=10^9):sQ p n=some (kL p n):=by unfold sQ kL;rw[yb p h,ab,ue p h,ab,cM];grind[bM,ab,DA,aQ,WH]
theorem abK (p:cj)(n:Int)(h:p.2.2.2.length<=10^9):se p n=some (kL p n):=by unfold se kL;rw[vq p h,ab,vY p h,ab,dh];cases gn p;rfl;cases hi:dH n 0 (p.2.2.2.length:Int);rfl;have hn:=bM.1 hi;obtain⟨n,rfl⟩:=aI hn.1;simp only[ai,ae,ab,dX,af,ay];grind[ab,om,sub]
theorem zE:∀l:ar gE,(∀x∈l,0<=x.2.1/\x.2.1<=16)->0<=ed l/\ed l<=16*(l.length:Int)
 |[],_=>by simp[ed]
 |y::l,h=>by have h1:=zE l (λx hx=>h x (ec _ hx));grind[ed]
theorem NV (l:ar gE)(i:Nat)(hi:i<l.length):ed (l.take (i+1))=ed (l.take i)+l[i].2.1:=by grind[bj,ed]
theorem acQ (t:bA)(h:t.2.2.1.length<=1000000)(hs:∀x∈t.2.2.1,0<=x.2.1/\x.2.1<=16):zx t=some (ed t.2.2.1):=by
 have xV:=cS;unfold zx;refine cD (λi=>(ed (t.2.2.1.take i),(i:Int))) t.2.2.1.length (by omega) (λi nx hi=>?_) (λnx=>?_);have hb:=zE (t.2.2.1.take i) (λx hx=>hs x (List.mem_of_mem_take hx));have hc:=hs _ (bh hi);have hl:(t.2.2.1.take i).length<=1000000:=by rw[bm];omega
 rw[NV _ _ hi];simp only[sV];rw[jP,af,aX hi,ab,aj (n:=(i:Int)+1) (by omega) (by omega),aj (by omega) (by omega)];rfl;simp only[sV];rw[gq,ae,df]
theorem abG (t:bA)(h:t.2.2.1.length<=1000000)(hs:∀x∈t.2.2.1,0<=x.2.1/\x.2.1<=16):qs t=some (ed t.2.2.1):=by
 have xV:=cS;unfold qs;refine cD (λi=>(ed (t.2.2.1.take i),(i:Int))) t.2.2.1.length (by omega) (λi nx hi=>?_) (λnx=>?_);have hb:=zE (t.2.2.1.take i) (λx hx=>hs x (List.mem_of_mem_take hx));have hc:=hs _ (bh hi);have hl:(t.2.2.1.take i).length<=1000000:=by rw[bm];omega
 rw[NV _ _ hi];simp only[mj];rw[jP,af,aX hi,ab,aj (n:=(i:Int)+1) (by omega) (by omega),aj (by omega) (by omega)];rfl;simp only[mj];rw[gq,ae,df]
def Bh (l:ar aA)(d:Int):br->br->kU->aw (br×kU)
 |[],m,r=>some (m,r)
 |s::q,m,r=>bif (dz l m d r s).2.2 then Bh l d q (dz l m d r s).1 (dz l m d r s).2.1 else none
def ae5 (m:br)(r:kU):aw (br×kU)->br×kU×Bool
 |some x=>(x.1,x.2,true)
 |none=>(m,r,false)
def xi (l:ar aA)(m:br)(d:Int)(r:kU)(q:br):br×kU×Bool:=ae5 m r (Bh l d q m r)
theorem G2 (l:ar aA)(d:Int)(M:br)(A B2:kU)(B1:br)(hl:l.length<=10^9)(hM:M.length<=10^9):∀(rest pre:br)(m:br)(r:kU)(f:Nat),rest.length<f->(pre++rest).length<=10^9->m.length<=10^9->
 aJ (lf (λ_ y6 y7=>some (y6,y7,true)) (λy8 _ vM BL _ _=>some (vM,BL,y8)) l d false (pre++rest) ((pre++rest).length:Int) M A B1 B2) f ((pre.length:Int),m,r)=some (ae5 M A (Bh l d rest m r))
 |rest,pre,m,r,0,hf,_,_=>by omega
 |[],pre,m,r,f+1,_,_,_=>by rw[aJ];simp only[lf];rw[aq (by simp),ae];rfl
 |s::q,pre,m,r,f+1,hf,hn,hm=>by
  simp only[bC,au]at hf hn;have hi:pre.length<(pre++s::q).length:=by simp
  have hb:(pre++s::q)[pre.length]=s:=by simp
  rw[aJ];simp only[lf];rw[ax (by simp;omega),aX hi,hb];simp only[af,ab,Ml l m d r _ hl hm];rw[Bh];cases hq:(dz l m d r s).2.2 with|false=>simp only[cf,af,ae,fT M,ab];rfl|true=>simp only[ai,ae,af];rw[aj (n:=(pre.length:Int)+1) (by omega) (by omega)];have key:=G2 l d M A B2 B1 hl hM q (pre++[s]) (dz l m d r s).1 (dz l m d r s).2.1 f (by omega) (by simp;omega) (by rw[xk];exact hm);grind
theorem Hk (l:ar aA)(d:Int)(M:br)(A B2:kU)(B1:br)(hl:l.length<=10^9)(hM:M.length<=10^9):∀(rest pre:br)(m:br)(r:kU)(f:Nat),rest.length<f->(pre++rest).length<=10^9->m.length<=10^9->
 aJ (ln (λ_ y6 y7=>some (y6,y7,true)) (λy8 _ vM BL _ _=>some (vM,BL,y8)) l d (pre++rest) false M A B1 B2) f ((pre.length:Int),m,r)=some (ae5 M A (Bh l d rest m r))
 |rest,pre,m,r,0,hf,_,_=>by omega
 |[],pre,m,r,f+1,_,_,_=>by rw[aJ];simp only[ln];rw[aq (by simp),ae];rfl
 |s::q,pre,m,r,f+1,hf,hn,hm=>by
  simp only[bC,au]at hf hn;have hi:pre.length<(pre++s::q).length:=by simp
  have hb:(pre++s::q)[pre.length]=s:=by simp
  rw[aJ];simp only[ln];rw[ax (by simp;omega),aX hi,hb];simp only[af,ab,MD l m d r _ hl hm];rw[Bh];cases hq:(dz l m d r s).2.2 with|false=>simp only[cf,af,ae,hU M,ab];rfl|true=>simp only[ai,ae,af];rw[aj (n:=(pre.length:Int)+1) (by omega) (by omega)];have key:=Hk l d M A B2 B1 hl hM q (pre++[s]) (dz l m d r s).1 (dz l m d r s).2.1 f (by omega) (by simp;omega) (by rw[xk];exact hm);grind
theorem Ym (l:ar aA)(m:br)(d:Int)(r:kU)(q:br)(hl:l.length<=10^9)(hm:m.length<=10^9)(hq:q.length<=10^9):jT l m d r q=some (xi l m d r q):=by have xV:=cS;unfold jT xi;rw[fT m,ab];exact G2 l d m r _ _ hl hm q [] m r fuel (by omega) (by simpa using hq) hm
theorem Zo (l:ar aA)(m:br)(d:Int)(r:kU)(q:br)(hl:l.length<=10^9)(hm:m.length<=10^9)(hq:q.length<=10^9):uU l m d r q=some (xi l m d r q):=by have xV:=cS;unfold uU xi;rw[hU m,ab];exact Hk l d m r _ _ hl hm q [] m r fuel (by omega) (by simpa using hq) hm
theorem O6 (l:ar aA)(m:br)(d:Int)(w:Bool):∀(n a r:Nat)(q:ar (Int×Int)),lK l m d w n a r=some q->q.length<=n
 |0,a,r,q,h=>by simp only[lK,aZ]at h;subst h;simp
 |n+1,a,r,q,h=>by simp only[lK]at h;split at h;simp only[aZ]at h;subst h;simp;split at h;simp only[Option.map_eq_some_iff]at h;obtain⟨q',h1,rfl⟩:=h;have:=O6 l m d w n _ _ q' h1;simp only[bC];omega;cases h
theorem HV (l:ar aA)(m:br)(d a n:Int)(w:Bool):(oy l m d a n w).1.length<=4096:=by
 unfold oy;cases hB:fG l&&(gN m&&dH n 0 4096);simp;simp only[ah,bM]at hB;simp only[af];cases n==0;case true=>simp
 cases decide (a<0);case true=>simp
 simp only[ae];split;rename_i q hq;have:=O6 _ _ _ _ _ _ _ _ hq;show q.length<=4096;omega;simp
def pU (m:br)(p:Int×Int):Bytes:=bif gD m p.1 p.2 then AL m p.1.toNat p.2.toNat else []
theorem DN (m:br)(p:Int×Int):(pU m p).length<=8192:=by grind[pU,gD,afh,mem_iff]
theorem rr (m:br):∀q:ar (Int×Int),(q.flatMap (pU m)).length<=8192*q.length
 |[]=>by simp
 |p::q=>by have:=rr m q;grind[DN]
def qH (l:ar aA)(m:br)(d a n:Int):Bytes×Bool:=
 bif (oy l m d a n false).2 then((oy l m d a n false).1.flatMap (pU m),true) else([],false)
theorem JR {α β:Type}(g:α->ar β)(l:ar α)(i:Nat)(hi:i<l.length):(l.take (i+1)).flatMap g=(l.take i).flatMap g++g l[i]:=by grind[bj]
theorem C9 (l:ar aA)(m:br)(d a n:Int)(hl:l.length<=10^9)(hm:m.length<=10^9)(ha:a<=9223372036854775807):oB l m d a n=some (qH l m d a n):=by
 unfold oB qH;rw[VD l m d a n false hl hm ha,ab];have hL:=HV l m d a n false;generalize oy l m d a n false=r at hL⊢;cases hr:r.2;rfl;simp only[ai,ae,af];refine(cD (λi=>((r.1.take i).flatMap (pU m),(i:Int))) r.1.length (by omega) (λi nx hi=>?_) (λnx=>?_));simp only[ux];rw[jP,aX hi,aj (by omega) (by omega)];have e:pn m r.1[i].1 r.1[i].2=some (pU m r.1[i],gD m r.1[i].1 r.1[i].2):=by rw[aeA m _ _ hm,pU];cases gD m r.1[i].1 r.1[i].2<;>rfl
 have h1:=rr m (r.1.take i);have h2:=DN m r.1[i];simp only[af,ab,e];rw[aQ (by rw[bm]at h1;omega),<-JR];rfl;simp only[ux];rw[gq,df];rfl
theorem Dy (l:ar aA)(m:br)(d a n:Int)(hl:l.length<=10^9)(hm:m.length<=10^9)(ha:a<=9223372036854775807):oQ l m d a n=some (qH l m d a n):=by
 unfold oQ qH;rw[Sb l m d a n false hl hm ha,ab];have hL:=HV l m d a n false;generalize oy l m d a n false=r at hL⊢;cases hr:r.2;rfl;simp only[ai,ae,af];refine(cD (λi=>((r.1.take i).flatMap (pU m),(i:Int))) r.1.length (by omega) (λi nx hi=>?_) (λnx=>?_));simp only[uS];have i1:idx (r.1.map (·.1)) (i:Int)=some r.1[i].1:=by rw[aX (by simpa using hi),List.getElem_map]
 have i2:idx (r.1.map (·.2)) (i:Int)=some r.1[i].2:=by rw[aX (by simpa using hi),List.getElem_map]
 rw[ax (by rw[cr];omega),i1,i2,aj (by omega) (by omega)];have e:pD m r.1[i].1 r.1[i].2=some (pU m r.1[i],gD m r.1[i].1 r.1[i].2):=by rw[afy m _ _ hm,pU];cases gD m r.1[i].1 r.1[i].2<;>rfl
 have h1:=rr m (r.1.take i);have h2:=DN m r.1[i];simp only[af,ab,e];rw[aQ (by rw[bm]at h1;omega),<-JR];rfl;simp only[uS];rw[aq (by rw[cr];omega),df];rfl
theorem GH (l:ar aA)(m:br)(d a n:Int):(qH l m d a n).1.length<=100000000:=by have hL:=HV l m d a n false;have h1:=rr m (oy l m d a n false).1;grind[qH]
def vT (s:Bytes):FW×Int×Bool:=
 bif ((s.length:Int) !=16)||decide (fg s 12>1) then((0,0,0,0,0),0,false) else((cx s 0,cx s 2,cx s 4,cx s 6,fg s 8),fg s 12,true)
theorem Yf (s:Bytes)(h:s.length<=10^9):lu s=some (vT s):=by
 unfold lu vT;cases (s.length:Int) !=16;case true=>rfl
 simp only[xY s _ h,BE s _ h,ab,ae,cI];grind
theorem Zh (s:Bytes)(h:s.length<=10^9):lA s=some (vT s):=by
 unfold lA vT;cases (s.length:Int) !=16;case true=>rfl
 simp only[sC s _ h,BJ s _ h,ab,ae,cI];grind
def DL (q:Nc):Int:=bif decide (q.2.2<q.2.1) then 1 else 0
theorem Rt (q:Nc):wE q=some (DL q):=by grind[wE,DL]
theorem mw {q:Nc}(h:hY q=true):0<=q.1/\q.1<=130944/\(q.2.1=2\/q.2.1=4\/q.2.1=8\/q.2.1=16)/\0<=q.2.2/\q.2.2<=2*q.2.1-1:=by grind[hY,bM,HX,mP]
theorem Sc (q:Nc)(h:hY q=true):uo q=some (DL q):=by
 obtain⟨_,_,h3,h4,h5⟩:=mw h;have e:Int.tdiv q.2.2 q.2.1=if q.2.2<q.2.1 then 0 else 1:=by grind
 unfold uo DL;rw[mG,e];by_cases hq:q.2.2<q.2.1;rw[aG hq,ax hq];rfl;rw[aF hq,aq hq];rfl
def my (q:Nc):Int:=q.1+tmod q.2.2 q.2.1*16
theorem Nu {q:Nc}(h:hY q=true):0<=tmod q.2.2 q.2.1/\tmod q.2.2 q.2.1<16:=by obtain⟨_,_,h3,h4,h5⟩:=mw h;grind
theorem Ry (q:Nc)(h:hY q=true):nI q=some (my q):=by obtain⟨h1,h2,h3,h4,h5⟩:=mw h;grind[nI,my,aj]
def ajm (q:Nc):Nc:=(q.1,q.2.1,tmod (q.2.2+1) (2*q.2.1))
def TD (l:ar aA)(m:br)(d:Int)(q:Nc):Bool:=
 hY q&&((qH l m d (my q) 16).2&&((vT (qH l m d (my q) 16).1).2.2&&((vT (qH l m d (my q) 16).1).2.1==DL q)))
def tX (l:ar aA)(m:br)(d:Int)(q:Nc):FW×Nc×Bool:=
 bif TD l m d q then((vT (qH l m d (my q) 16).1).1,ajm q,true) else((0,0,0,0,0),q,false)
theorem aex (l:ar aA)(m:br)(d:Int)(q:Nc)(hl:l.length<=10^9)(hm:m.length<=10^9):ng l m d q=some (tX l m d q):=by unfold ng tX TD;rw[Lm q,ab];cases hq:hY q;rfl;obtain⟨h1,h2,h3,h4,h5⟩:=mw hq;have hs:=Nu hq;have hd:=GH l m d (my q) 16;simp only[ai,ae,Ry q hq,ab,C9 l m d (my q) 16 hl hm (by unfold my;omega),bF];cases (qH l m d (my q) 16).2;rfl;simp only[ai,ae,Yf _ (aE hd (by omega)),ab,bF];cases (vT (qH l m d (my q) 16).1).2.2;rfl;simp only[ai,ae,Rt,ab,bF,bne];cases (vT (qH l m d (my q) 16).1).2.1==DL q;rfl;simp only[ai,ae,af];rw[aj (n:=2*q.2.1) (by omega) (by omega),mG,aj (n:=q.2.2+1) (by omega) (by omega)];rfl
theorem afu (l:ar aA)(m:br)(d:Int)(q:Nc)(hl:l.length<=10^9)(hm:m.length<=10^9):nq l m d q=some (tX l m d q):=by
 unfold nq tX TD;rw[LV q,ab];cases hq:hY q;rfl;obtain⟨h1,h2,h3,h4,h5⟩:=mw hq;have hs:=Nu hq;have hd:=GH l m d (my q) 16;have es:ak (q.1+ak (16*tmod q.2.2 q.2.1))=my q:=by grind[aj,my]
 simp only[ai,ae];rw[mG,es];simp only[Dy l m d (my q) 16 hl hm (by unfold my;omega),ab,bF,Zh _ (aE hd (by omega)),Sc q hq,bne];cases (qH l m d (my q) 16).2;rfl;cases (vT (qH l m d (my q) 16).1).2.2;rfl;cases (vT (qH l m d (my q) 16).1).2.1==DL q;rfl;simp only[ai,ae,af,ab,bF];rw[aj (n:=2*q.2.1) (by omega) (by omega),mG,aj (n:=q.2.2+1) (by omega) (by omega)];rfl
theorem ZT (p:cj)(i:Int):lH p i= -1\/(0<=lH p i/\lH p i<=200000):=by unfold lH;cases hp:gn p;exact .inl rfl;cases hi:dH i 0 (p.2.2.1-1);exact .inl rfl;have h:=Dt hp;have h2:=bM.1 hi;have h3:0<=i*p.2.1:=Int.mul_nonneg h2.1 (by omega);have h4:i*p.2.1<=16*512:=Int.mul_le_mul (by omega) (by omega) (by omega) (by omega);grind
def abf (l:ar aA)(m:br)(d a n:Int):Bool:=(qH l m d a n).2&&((vH (qH l m d a n).1).2==0)
theorem agi {n:Int}:abf l m d (-1) n=false:=by unfold abf qH oy;cases fG l&&(gN m&&dH n 0 4096);rfl;simp only[af];cases n==0 with|true=>rfl|false=>rfl
def Em (l:ar aA)(m:br)(d:Int)(s:ar Stream×bc×cj):ar Stream×bc×cj:=
 ((bif abf l m d (lH s.2.2 (tX l m d s.2.1.2.2.1).1.1) (tX l m d s.2.1.2.2.1).1.2.1 then BN s.1 (vH (qH l m d (lH s.2.2 (tX l m d s.2.1.2.2.1).1.1) (tX l m d s.2.1.2.2.1).1.2.1).1).1 else s.1),
   (s.2.1.1,s.2.1.2.1,(tX l m d s.2.1.2.2.1).2.1,s.2.1.2.2.2),(Oj s.2.2 [(tX l m d s.2.1.2.2.1).1.1]).1)
def iL (l:ar aA)(m:br)(d:Int):Nat->ar Stream×bc×cj->Nat×(ar Stream×bc×cj)
 |0,s=>(0,s)
 |k+1,s=>bif !(tX l m d s.2.1.2.2.1).2.2 then(0,s) else((iL l m d k (Em l m d s)).1+1,(iL l m d k (Em l m d s)).2)
structure GA (n:Nat) (s:List Stream×bc×cj):Prop where
 st:bu n (.sl dE) s.1
 pl:s.2.2.2.2.2.length<=n
theorem U9 (p:cj)(l:eF):(Oj p l).1.2.2.2.length<=p.2.2.2.length+l.length:=by grind[Oj,TJ]
theorem Hc {s:ar Stream×bc×cj}{n:Nat}(h:GA n s):GA (n+322) (Em l m d s):=by
 refine⟨?_,?_⟩;unfold Em;cases abf l m d (lH s.2.2 (tX l m d s.2.1.2.2.1).1.1) (tX l m d s.2.1.2.2.1).1.2.1 with|false=>exact h.st.mono|true=>exact SO h.st
 have:=U9 s.2.2 [(tX l m d s.2.1.2.2.1).1.1];have h2:=h.pl;show(Oj s.2.2 [(tX l m d s.2.1.2.2.1).1.1]).1.2.2.2.length<=_;simp only[bl]at this;omega
theorem Ka (K:ar Stream->Int->bc->cj->aw R)(l:ar aA)(m:br)(d:Int)(N:Nat)(hN:N<=1000)(B1:br)(B2:bc)(B3:cj)(hl:l.length<=10^9)(hm:m.length<=10^9):∀(k i:Nat)(s:ar Stream×bc×cj)(f:Nat),i+k=N->k<f->GA (500000000+322*i) s->
 aJ (mh K l d (N:Int) B1 B2 B3 m) f (s.1,(i:Int),s.2.1,s.2.2)=K (iL l m d k s).2.1 ((i+(iL l m d k s).1:Nat):Int) (iL l m d k s).2.2.1 (iL l m d k s).2.2.2
 |k,i,s,0,_,hf,_=>by omega
 |0,i,s,f+1,hi,hf,z=>by rw[aJ];simp only[mh];rw[gq,ae];rfl
 |k+1,i,s,f+1,hi,hf,z=>by have lE:bu 900000000 (.sl dE) s.1:=z.st.mono;have CR:s.2.2.2.2.2.length<=900000000:=aE z.pl (by omega);rw[aJ];simp only[mh];rw[jP];simp only[af,aex l m d _ hl hm,ab,iL];cases hnx:(tX l m d s.2.1.2.2.1).2.2 with|false=>rfl|true=>have key:=Ka K l m d N hN B1 B2 B3 hl hm k (i+1) (Em l m d s) f (by omega) (by omega) ((Hc z).st.mono|>λa=>⟨a,aE (Hc z).pl (by omega)⟩);rw[show i+1+(iL l m d k (Em l m d s)).1=i+((iL l m d k (Em l m d s)).1+1) by omega]at key;simp only[ai,ae];rw[<-key];unfold Em;generalize tX l m d s.2.1.2.2.1=c;have ha:=ZT s.2.2 c.1.1;have hd:=GH l m d (lH s.2.2 c.1.1) c.1.2.1;simp only[J4 _ _ (show s.2.2.2.2.2.length<=10^9 by omega),C9 l m d _ c.1.2.1 hl hm (show lH s.2.2 c.1.1<=9223372036854775807 by omega),ab,HO _ (aE hd (by omega)),Tf _ _ lE,OF s.2.2 [c.1.1] (show s.2.2.2.2.2.length+1<=10^9 by omega)];rw[aj (n:=(i:Int)+1) (by omega) (by omega),show((i+1:Nat):Int)=(i:Int)+1 by omega];grind[abf]
theorem KJ (K:ar Stream->Int->bc->cj->aw R)(l:ar aA)(m:br)(d:Int)(N:Nat)(hN:N<=1000)(B1:br)(B2:bc)(B3:cj)(hl:l.length<=10^9)(hm:m.length<=10^9):∀(k i:Nat)(s:ar Stream×bc×cj)(f:Nat),i+k=N->k<f->GA (500000000+322*i) s->
 aJ (mD K l d (N:Int) m B1 B2 B3) f (s.1,(i:Int),s.2.1,s.2.2)=K (iL l m d k s).2.1 ((i+(iL l m d k s).1:Nat):Int) (iL l m d k s).2.2.1 (iL l m d k s).2.2.2
 |k,i,s,0,_,hf,_=>by omega
 |0,i,s,f+1,hi,hf,z=>by rw[aJ];simp only[mD];rw[gq,ae];rfl
 |k+1,i,s,f+1,hi,hf,z=>by have lE:bu 900000000 (.sl dE) s.1:=z.st.mono;have CR:s.2.2.2.2.2.length<=900000000:=aE z.pl (by omega);rw[aJ];simp only[mD];rw[jP];simp only[af,afu l m d _ hl hm,ab,iL];cases hnx:(tX l m d s.2.1.2.2.1).2.2 with|false=>rfl|true=>have key:=KJ K l m d N hN B1 B2 B3 hl hm k (i+1) (Em l m d s) f (by omega) (by omega) ((Hc z).st.mono|>λa=>⟨a,aE (Hc z).pl (by omega)⟩);rw[show i+1+(iL l m d k (Em l m d s)).1=i+((iL l m d k (Em l m d s)).1+1) by omega]at key;simp only[ai,ae];rw[<-key];unfold Em;generalize tX l m d s.2.1.2.2.1=c;have ha:=ZT s.2.2 c.1.1;have hd:=GH l m d (lH s.2.2 c.1.1) c.1.2.1;simp only[Pr _ _ (show s.2.2.2.2.2.length<=10^9 by omega),Dy l m d _ c.1.2.1 hl hm (show lH s.2.2 c.1.1<=9223372036854775807 by omega),ab,H0 _ (aE hd (by omega)),TX _ _ lE,Pw s.2.2 [c.1.1] (show s.2.2.2.2.2.length+1<=10^9 by omega)];rw[aj (n:=(i:Int)+1) (by omega) (by omega),show((i+1:Nat):Int)=(i:Int)+1 by omega];rcases ha with ha|ha;rw[ha,agi];rfl;rw[ax (show lH s.2.2 c.1.1>=0 by omega)];unfold abf;cases (qH l m d (lH s.2.2 c.1.1) c.1.2.1).2<;>cases (vH (qH l m d (lH s.2.2 c.1.1) c.1.2.1).1).2==0<;>rfl
theorem Kt {l:ar aA}{m:br}{d:Int}:∀(k:Nat){s:ar Stream×bc×cj}{n:Nat},GA n s->GA (n+322*k) (iL l m d k s).2
 |0,s,n,h=>h
 |k+1,s,n,h=>by rw[iL];cases (tX l m d s.2.1.2.2.1).2.2 with|false=>exact⟨h.st.mono,aE h.pl (by omega)⟩|true=>have:=Kt (l:=l) (m:=m) (d:=d) k (Hc (l:=l) (m:=m) (d:=d) h);grind
def kJ (l:ar aA)(m:br)(d:Int)(rx:bc)(pl:cj)(st:ar Stream)(n:Int):br×bc×cj×ar Stream×Int:=
 bif !Ph rx||(!gn pl|| !dH n 0 1000) then(m,rx,pl,st,0) else
 ((BT l m d (iL l m d n.toNat (st,rx,pl)).2.2.1.1 (iL l m d n.toNat (st,rx,pl)).2.2.2).1,
   ((BT l m d (iL l m d n.toNat (st,rx,pl)).2.2.1.1 (iL l m d n.toNat (st,rx,pl)).2.2.2).2.1,(iL l m d n.toNat (st,rx,pl)).2.2.1.2),
   (BT l m d (iL l m d n.toNat (st,rx,pl)).2.2.1.1 (iL l m d n.toNat (st,rx,pl)).2.2.2).2.2.1,(iL l m d n.toNat (st,rx,pl)).2.1,((iL l m d n.toNat (st,rx,pl)).1:Int))
theorem VB (l:ar aA)(m:br)(d:Int)(rx:bc)(pl:cj)(st:ar Stream)(n:Int)(hl:l.length<=10^9)(hm:m.length<=10^9)(hp:pl.2.2.2.length<=500000000)(hs:bu 500000000 (.sl dE) st):wq l m d rx pl st n=some (kJ l m d rx pl st n):=by
 have xV:=cS;have hsl:st.length<=500000000:=hs.1;unfold wq kJ;simp only[fT m (show m.length<=1073741824 by omega),vq pl (show pl.2.2.2.length<=10^9 by omega),Ar st,Tm,vY pl (show pl.2.2.2.length<=10^9 by omega),dh,ab];cases Ph rx;rfl;cases gn pl;rfl;cases hn:dH n 0 1000;rfl;have h:=bM.1 hn;obtain⟨n,rfl⟩:=aI h.1;simp only[ai,ae,ab,bU,ay];have z:GA (500000000+322*0) (st,rx,pl):=⟨hs,hp⟩
 have hz:=Kt (l:=l) (m:=m) (d:=d) n z;refine(Ka _ l m d n (by omega) _ _ _ hl hm n 0 (st,rx,pl) fuel (by omega) (by omega) z).trans ?_;rw[cm];simp only[Vy l m d _ _ hl hm (show(iL l m d n (st,rx,pl)).2.2.2.2.2.2.length<=10^9 from aE hz.pl (by omega)),ab]
theorem WA (l:ar aA)(m:br)(d:Int)(rx:bc)(pl:cj)(st:ar Stream)(n:Int)(hl:l.length<=10^9)(hm:m.length<=10^9)(hp:pl.2.2.2.length<=500000000)(hs:bu 500000000 (.sl dE) st):nY l m d rx pl st n=some (kJ l m d rx pl st n):=by
 have xV:=cS;have hsl:st.length<=500000000:=hs.1;unfold nY kJ;rw[gk (by omega)];simp only[bR,yb pl (show pl.2.2.2.length<=10^9 by omega),hU m (show m.length<=1073741824 by omega),T5,ue pl (show pl.2.2.2.length<=10^9 by omega),cM,ab];cases Ph rx;rfl;cases gn pl;rfl;cases hn:dH n 0 1000;rfl;have h:=bM.1 hn;obtain⟨n,rfl⟩:=aI h.1;simp only[ai,ae,ab,bU,ay];have z:GA (500000000+322*0) (st,rx,pl):=⟨hs,hp⟩
 have hz:=Kt (l:=l) (m:=m) (d:=d) n z;refine(KJ _ l m d n (by omega) _ _ _ hl hm n 0 (st,rx,pl) fuel (by omega) (by omega) z).trans ?_;rw[cm];simp only[Wu l m d _ _ hl hm (show(iL l m d n (st,rx,pl)).2.2.2.2.2.2.length<=10^9 from aE hz.pl (by omega)),ab]
def jE (i:Nat):Int:=1280+(i:Int)*1792
theorem ZP {i:Nat}(h:i<=8):ak (1280+ak ((i:Int)*1792))=jE i:=by rw[aj (n:=(i:Int)*1792) (by omega) (by omega),aj (by omega) (by omega)];rfl
theorem Vu (i:Nat)(h:i<=8):qX (i:Int)=some (jE i):=by rw[qX,ZP h]
theorem xf (a b n:Int)(h:n<=1000:=by omega):(lj a b n).1.2.2.2.length<=1000:=by grind[lj,upto]
def Pj (i:Nat):bc:=((jE i,4,0,0),(jE i+64,4,0),(jE i+64,4,0),((0,0,0,0,0,0,0,0,0,0,0,0,0,0,0,([]:Bytes)),0,0),false,0)
theorem abD (i:Nat)(h:i<=8):ya (i:Int)=some (Pj i,(lj (jE i+128) 384 4).1):=by have hb:jE i=1280+(i:Int)*1792:=rfl;simp only[ya,Vu i h,ab];rw[aj (n:=jE i+128) (by omega) (by omega),aj (n:=jE i+64) (by omega) (by omega),Mj];rfl
def ML:bA:=((0,16,0,0),(lj 256 128 8).1,([]:ar gE),0)
theorem abO:E1=some ML:=by rw[E1,Mj];rfl
theorem acY:zA=some ML:=by rw[zA,MB];rfl
def Gm (l:ar aA)(m:br)(i:Nat):br×kU×cj×Int:=
 BT l (mO l m 0 (jE i) (Ez 128) false).1 0 (jE i,4,0,0) (lj (jE i+128) 384 4).1
def RR (h:Host)(i:Nat):Host:=
 ((Gm h.2.1 h.1 i).1,h.2.1,h.2.2.1,h.2.2.2.1.set i ((Gm h.2.1 h.1 i).2.1,(jE i+64,4,0),(jE i+64,4,0),((0,0,0,0,0,0,0,0,0,0,0,0,0,0,0,([]:Bytes)),0,0),false,(match h.2.2.2.1[i]? with|some x=>x.2.2.2.2.2|none=>0)),h.2.2.2.2.1.set i (Gm h.2.1 h.1 i).2.2.1,h.2.2.2.2.2)
theorem Wy (h:Host)(i:Nat)(hi:i<=8)(h1:i<h.2.2.2.1.length)(h2:i<h.2.2.2.2.1.length)(hl:h.2.1.length<=10^9)(hm:h.1.length<=10^9):xH h (i:Int)=some ((),RR h i):=by have hb:jE i=1280+(i:Int)*1792:=rfl;have hz:sT 128 0=some (Ez 128):=Wx 128;have hf:=Wu h.2.1 (mO h.2.1 h.1 0 (jE i) (Ez 128) false).1 0 (jE i,4,0,0) (lj (jE i+128) 384 4).1 hl (by rw[mu];exact hm) (aE (xf (jE i+128) 384 4) (by omega));unfold xH;simp only[ZP hi];rw[aj (n:=jE i+128) (by omega) (by omega),aj (n:=jE i+64) (by omega) (by omega),MB,hz];simp only[aX h1,aX h2,ab,IM h.2.1 h.1 0 (jE i) (Ez 128) hl hm (by omega),hf,ay,RR,Gm,al h1]
def Fq (h:Host)(i:Nat)(n:Int):Int×Host:=
 match h.2.2.2.1[i]?,h.2.2.2.2.1[i]? with
 |some rx,some pl=>
  ((kJ h.2.1 h.1 0 rx pl h.2.2.2.2.2.2.2.2.2.1 n).2.2.2.2,(kJ h.2.1 h.1 0 rx pl h.2.2.2.2.2.2.2.2.2.1 n).1,h.2.1,h.2.2.1,h.2.2.2.1.set i (kJ h.2.1 h.1 0 rx pl h.2.2.2.2.2.2.2.2.2.1 n).2.1,h.2.2.2.2.1.set i (kJ h.2.1 h.1 0 rx pl h.2.2.2.2.2.2.2.2.2.1 n).2.2.1,h.2.2.2.2.2.1,h.2.2.2.2.2.2.1,h.2.2.2.2.2.2.2.1,h.2.2.2.2.2.2.2.2.1,(kJ h.2.1 h.1 0 rx pl h.2.2.2.2.2.2.2.2.2.1 n).2.2.2.1,h.2.2.2.2.2.2.2.2.2.2)
 |_,_=>(0,h)
theorem Tk (h:Host)(i:Nat)(n:Int)(h1:i<h.2.2.2.1.length)(h2:i<h.2.2.2.2.1.length)(z:bu 500000000 cK h):kI h (i:Int) n=some (Fq h i n):=by have hl:h.2.1.length<=500000000:=z.2.1.1;have hm:h.1.length<=500000000:=z.1.1;have hp:h.2.2.2.2.1[i].2.2.2.length<=500000000:=(z.2.2.2.2.1.2 _ (bh h2)).2.2.2.1;unfold kI;simp only[aX h1,aX h2,ab,VB h.2.1 h.1 0 _ _ _ n (show h.2.1.length<=10^9 by omega) (show h.1.length<=10^9 by omega) hp z.2.2.2.2.2.2.2.2.2.1,ay,Fq,al h1,al h2]
theorem pw {n:Nat}{t:CT}{l:ar t.D}{i:Nat}{x:t.D}(z:bu n (.sl t) l)(hx:bu n t x):bu n (.sl t) (l.set i x):=by refine⟨?_,λy hy=>?_⟩;show(l.set i x).length<=n;rw[aH];exact z.1;rcases List.mem_or_eq_of_mem_set hy with h|h;exact z.2 y h;rw[h];exact hx
theorem acq {n:Nat}(hn:128<=n)(h:Fo m):bu n (.sl .str) m:=⟨aE h.2 (by omega),λx hx=>aE (fC (h.1 x hx)) hn⟩
theorem W5 {n:Nat}(hn:128<=n)(z:bu n (.sl .str) m)(a:Int)(s:Bytes):bu n (.sl .str) (xM m a s).1:=by grind[xM,gD,acq,FV,HT]
theorem V9 {n:Nat}(hn:128<=n):∀(q:ar (Int×Int)){m:br}(s:Bytes),bu n (.sl .str) m->bu n (.sl .str) (TK q m s)
 |[],m,s,z=>z
 |p::q,m,s,z=>V9 hn q _ (W5 hn z _ _)
theorem Hd {n:Nat}(hn:128<=n)(z:bu n (.sl .str) m)(l:ar aA)(d a:Int)(s:Bytes)(w:Bool):bu n (.sl .str) (mO l m d a s w).1:=by grind[mO,V9]
theorem Kv {n:Nat}(hn:128<=n)(z:bu n (.sl .str) m)(l:ar aA)(d:Int)(r:kU)(s:Bytes):bu n (.sl .str) (dz l m d r s).1:=by grind[dz,Hd]
theorem Q7 {n:Nat}(hn:128<=n)(l:ar aA)(d:Int)(p:cj):∀(q:eF){m:br}(r:kU),bu n (.sl .str) m->bu n (.sl .str) (qO l d p q m r).2.1
 |[],m,r,z=>z
 |b::q,m,r,z=>by rw[qO];cases (dz l m d r (fW p b)).2.2 with|false=>exact z|true=>exact Q7 hn l d p q _ (Kv hn z ..)
theorem Q8 {n:Nat}(hn:128<=n)(z:bu n (.sl .str) m)(l:ar aA)(d:Int)(r:kU)(p:cj):bu n (.sl .str) (BT l m d r p).1:=by unfold BT;cases !fI r|| !gn p with|true=>exact z|false=>exact Q7 hn _ _ _ _ _ z
theorem Z2 (l:ar aA)(m:br)(d:Int)(r:kU)(p:cj):(BT l m d r p).1.length=m.length:=by grind[BT,Ld]
theorem N8 (l:ar aA)(m:br)(d:Int)(r:kU)(p:cj):(BT l m d r p).2.2.1.2.2.2.length<=p.2.2.2.length:=by grind[BT]
theorem V4 (l:ar aA)(m:br)(d:Int):∀(k:Nat)(s:ar Stream×bc×cj),(iL l m d k s).2.2.1.2.2.2=s.2.1.2.2.2/\(iL l m d k s).1<=k
 |0,s=>⟨rfl,aU _⟩
 |k+1,s=>by rw[iL];cases (tX l m d s.2.1.2.2.1).2.2 with|false=>grind|true=>have:=V4 l m d k (Em l m d s);simp only[ai,ae];exact⟨this.1,by omega⟩
theorem RV {n:Nat}(hn:128<=n){rx:bc}{pl:cj}{st:ar Stream}(c:Int)(zm:bu n (.sl .str) m)(zr:bu n cW rx)(zp:bu n fX pl)(zs:bu n (.sl dE) st): bu n (.sl .str) (kJ l m d rx pl st c).1/\bu n cW (kJ l m d rx pl st c).2.1/\bu (n+322000) fX (kJ l m d rx pl st c).2.2.1/\bu (n+322000) (.sl dE) (kJ l m d rx pl st c).2.2.2.1/\0<=(kJ l m d rx pl st c).2.2.2.2/\(kJ l m d rx pl st c).2.2.2.2<=1000:=by
 unfold kJ;cases hc: !Ph rx||(!gn pl|| !dH c 0 1000)with
 |true=>exact⟨zm,zr,zp.mono,zs.mono,Int.le_refl _,by show(0:Int)<=1000;omega⟩
 |false=>
  have hi:dH c 0 1000=true:=by cases h:dH c 0 1000 with|true=>rfl|false=>rw[h]at hc;simp at hc
  have h:=bM.1 hi;have z:=Kt (l:=l) (m:=m) (d:=d) c.toNat (s:=(st,rx,pl)) (n:=n) ⟨zs,zp.2.2.2.1⟩;have hx:=V4 l m d c.toNat (st,rx,pl);refine⟨Q8 hn zm ..,⟨?_,?_,?_,?_⟩,⟨bV,bV,bV,?_,λ_ _=>trivial⟩,z.st.mono,by show(0:Int)<=((iL l m d c.toNat (st,rx,pl)).1:Int);omega,by show((iL l m d c.toNat (st,rx,pl)).1:Int)<=1000;omega⟩;exact⟨bV,bV,bV,bV⟩;exact⟨bV,bV,bV⟩;exact⟨bV,bV,bV⟩;have e:=congrArg (λq=>bu n cW (rx.1,rx.2.1,rx.2.2.1,q)) hx.1;exact(e.mpr zr).2.2.2;have:=N8 l m d (iL l m d c.toNat (st,rx,pl)).2.2.1.1 (iL l m d c.toNat (st,rx,pl)).2.2.2;have h2:=z.pl;show(BT l m d (iL l m d c.toNat (st,rx,pl)).2.2.1.1 (iL l m d c.toNat (st,rx,pl)).2.2.2).2.2.1.2.2.2.length<=_;omega
theorem YW {n:Nat}(hn:128<=n)(i:Nat)(c:Int)(z:bu n cK h):bu (n+322000) cK (Fq h i c).2:=by unfold Fq;rcases h1:h.2.2.2.1[i]? with _|rx;exact z.mono;rcases h2:h.2.2.2.2.1[i]? with _|pl;exact z.mono;have zr:=z.2.2.2.1.2 _ (cR h1);have zp:=z.2.2.2.2.1.2 _ (cR h2);have hp:=RV hn (l:=h.2.1) (d:=0) c z.1 zr zp z.2.2.2.2.2.2.2.2.2.1;have z':bu (n+322000) cK h:=z.mono;exact⟨hp.1.mono,z'.2.1,z'.2.2.1,pw z'.2.2.2.1 (hp.2.1.mono),pw z'.2.2.2.2.1 hp.2.2.1,z'.2.2.2.2.2.1,z'.2.2.2.2.2.2.1,z'.2.2.2.2.2.2.2.1,z'.2.2.2.2.2.2.2.2.1,hp.2.2.2.1,z'.2.2.2.2.2.2.2.2.2.2⟩
def bK (l:ar aA)(m:br)(d:Int)(r:kU):Bytes×kU×Bool:=
 bif !fI r||(cY r==0) then([],r,false) else
 bif !(qH l m d (AM r r.2.2.1) 16).2 then([],r,false) else
 ((qH l m d (AM r r.2.2.1) 16).1,(r.1,r.2.1,tmod (r.2.2.1+1) (2*r.2.1),r.2.2.2),true)
theorem KN (l:ar aA)(m:br)(d:Int)(r:kU)(hl:l.length<=10^9)(hm:m.length<=10^9):uj l m d r=some (bK l m d r):=by have hA:=Eu r r.2.2.1;unfold uj bK;simp only[Aa,CI,ab,Se,Dy l m d _ 16 hl hm (show AM r r.2.2.1<=9223372036854775807 by omega)];cases hb:fI r;rfl;have h:=qw hb;grind[ab,aj]
theorem Kf (l:ar aA)(m:br)(d:Int)(r:kU)(hl:l.length<=10^9)(hm:m.length<=10^9):tK l m d r=some (bK l m d r):=by have hA:=Eu r r.2.2.1;unfold tK bK;simp only[zH,B4,ab,Rx,C9 l m d _ 16 hl hm (show AM r r.2.2.1<=9223372036854775807 by omega)];cases hb:fI r;rfl;have h:=qw hb;grind[ab,aj]
theorem zB (l:ar aA)(m:br)(d:Int)(r:kU):(bK l m d r).1.length<=100000000:=by grind[bK,GH]
theorem CM (h:(bK l m d r).2.2=true): fI (bK l m d r).2.1=true/\cY (bK l m d r).2.1=cY r-1/\(bK l m d r).2.1.1=r.1/\(bK l m d r).2.1.2.1=r.2.1/\(bK l m d r).2.1.2.2.2=r.2.2.2:=by
 unfold bK at h⊢;cases hb:fI r with|false=>grind|true=>?_
 cases hu:cY r==0 with|true=>grind|false=>?_
 cases hd:(qH l m d (AM r r.2.2.1) 16).2 with|false=>grind|true=>?_
 grind[qw,fI,cY,bM]
theorem mx (h:fI r=true):0<=cY r/\cY r<=16:=by have hr:=qw h;grind[fI,cY]
def F2:DY:=(0,0,0,0,0,0)
def GG (s:Bytes):DY:=((bI s 0:Int),(bI s 1:Int),cx s 2,fg s 4,cx s 8,cx s 10)
def ez (s:Bytes):DY×Bool:=
 bif ((s.length:Int) !=16) then(F2,false) else bif !(AO (GG s)==s) then(F2,false) else(GG s,true)
theorem Ws (s:Bytes)(h:s.length<=10^9):pA s=some (ez s):=by
 unfold pA ez;cases hn:(s.length:Int) !=16;case true=>rfl
 have hl:s.length=16:=by grind
 have b0:=kt (s[0]'(by omega));have b1:=kt (s[1]'(by omega));have i0:idx s 0=some (s[0]'(by omega)):=aX (i:=0) (by omega);have i1:idx s 1=some (s[1]'(by omega)):=aX (i:=1) (by omega);have e:(((s[0]'(by omega)).toNat:Int),((s[1]'(by omega)).toNat:Int),cx s 2,fg s 4,cx s 8,cx s 10)=GG s:=by grind[GG,bI]
 simp only[ae,i0,i1,ab,sC s _ h,BJ s _ h];rw[fQ (n:=(s[0]'(by omega)).toNat) (by omega),fQ (n:=(s[1]'(by omega)).toNat) (by omega),e,TY,ab];cases AO (GG s)==s<;>rfl
theorem Vv (s:Bytes)(h:s.length<=10^9):ph s=some (ez s):=by
 unfold ph ez;cases hn:(s.length:Int) !=16;case true=>rfl
 have hl:s.length=16:=by grind
 have b0:=kt (s[0]'(by omega));have b1:=kt (s[1]'(by omega));have i0:idx s 0=some (s[0]'(by omega)):=aX (i:=0) (by omega);have i1:idx s 1=some (s[1]'(by omega)):=aX (i:=1) (by omega);have e:(((s[0]'(by omega)).toNat:Int),((s[1]'(by omega)).toNat:Int),cx s 2,fg s 4,cx s 8,cx s 10)=GG s:=by grind[GG,bI]
 simp only[ae,i0,i1,ab,xY s _ h,BE s _ h];rw[fQ (n:=(s[0]'(by omega)).toNat) (by omega),fQ (n:=(s[1]'(by omega)).toNat) (by omega),e,Tg,ab];cases AO (GG s)==s<;>rfl
theorem NW (h:(ez s).2=true):qN (ez s).1=true:=by grind[ez,AO]
def SP (x:DY):Bool:=bif x.1==1 then(ak (BitVec.toNat (fR x.2.1&&&fR 1))) !=0 else false
def Ak (l:ar aA)(m:br)(d:Int):Nat->ar DY->kU->ar DY×kU×Bool
 |0,acc,r=>(acc,r,true)
 |n+1,acc,r=>
  bif !(bK l m d r).2.2|| !(ez (bK l m d r).1).2 then([],(r.1,r.2.1,r.2.2.2,r.2.2.2),false) else
  bif SP (ez (bK l m d r).1).1 then(acc++[(ez (bK l m d r).1).1],(bK l m d r).2.1,true) else
  Ak l m d n (acc++[(ez (bK l m d r).1).1]) (bK l m d r).2.1
def eJ (l:ar aA)(m:br)(d:Int)(r:kU):ar DY×kU×Bool:=
 bif !fI r||(cY r==0) then([],r,false) else Ak l m d (cY r).toNat [] r
theorem Iy (k0:ar DY->kU->aw R)(k1:ar DY->Bool->ar DY->kU->kU->aw R)(K:ar DY×kU×Bool->aw R)
 (h0:∀a r,k0 a r=K (a,r,true)) (l:ar aA) (m:br) (d:Int) (B E:kU) (h1:∀a r,k1 [] false a r E=K ([],E,false)) (hl:l.length<=10^9) (hm:m.length<=10^9):∀(n:Nat)(acc:ar DY)(r:kU)(f:Nat),
 n<f->fI r=true->(cY r).toNat=n->acc.length+n<=1000->E=(r.1,r.2.1,r.2.2.2,r.2.2.2)->aJ (mi k0 k1 l d ([]:ar DY) false m B E) f (acc,r)=K (Ak l m d n acc r)
 |n,acc,r,0,hf,_,_,_,_=>by omega
 |0,acc,r,f+1,hf,hb,hu,ha,hE=>by rw[aJ];simp only[mi,B4,ab];rw[gq,ae,h0];rfl
 |n+1,acc,r,f+1,hf,hb,hu,ha,hE=>by
  have hlen:=zB l m d r;have hk:=CM (l:=l) (m:=m) (d:=d) (r:=r);rw[aJ];simp only[mi,B4,ab];rw[jP,af,Kf l m d r hl hm,ab,Ak];generalize bK l m d r=t at hlen hk⊢;cases ht:t.2.2 with
  |false=>grind
  |true=>
   have hk:=hk ht;simp only[ai,ae,cI];rw[Vv _ (show t.1.length<=10^9 by omega),ab];generalize ez t.1=x;cases x.2 with
   |false=>grind
   |true=>
    simp only[ai,ae];rw[aQ (by rw[bl];omega)];have e:(aa (cond (x.1.1==1) (some ((ak (BitVec.toNat (fR x.1.2.1&&&fR 1))) !=0)) (some false)):(Bool->aw R)->aw R)=λK=>K (SP x.1):=by funext K;simp_all[SP]
    rw[e];cases SP x.1 with|true=>simp only[af,h0]|false=>simp only[ae];exact Iy k0 k1 K h0 l m d B E h1 hl hm n _ _ f (by omega) hk.1 (by omega) (by simp;omega) (by grind)
theorem IK (k0:ar DY->kU->aw R)(k1:ar DY->Bool->ar DY->kU->kU->aw R)(K:ar DY×kU×Bool->aw R)
 (h0:∀a r,k0 a r=K (a,r,true)) (l:ar aA) (m:br) (d:Int) (B:kU) (h1:∀a r,k1 [] false a r r=K ([],r,false)) (hl:l.length<=10^9) (hm:m.length<=10^9):∀(n:Nat)(acc:ar DY)(r:kU)(f:Nat),
 n<f->fI r=true->(cY r).toNat=n->acc.length+n<=1000->aJ (mF k0 k1 l d ([]:ar DY) false m B) f (acc,r)=K (Ak l m d n acc r)
 |n,acc,r,0,hf,_,_,_=>by omega
 |0,acc,r,f+1,hf,hb,hu,ha=>by rw[aJ];simp only[mF,CI,ab];rw[gq,ae,h0];rfl
 |n+1,acc,r,f+1,hf,hb,hu,ha=>by
  have hlen:=zB l m d r;have hk:=CM (l:=l) (m:=m) (d:=d) (r:=r);rw[aJ];simp only[mF,CI,ab];rw[jP,af,KN l m d r hl hm,ab,Ak];generalize bK l m d r=t at hlen hk⊢;rw[Ws _ (show t.1.length<=10^9 by omega),ab];generalize ez t.1=x;cases ht:t.2.2 with
  |false=>simp_all
  |true=>
   have hk:=hk ht;simp only[ai,ae,ab,cI];cases x.2 with
   |false=>grind
   |true=>
    simp only[ai,ae];rw[aQ (by rw[bl];omega)];have e:(aa (cond (x.1.1==1) (some ((ak (BitVec.toNat (fR x.1.2.1&&&fR 1))) !=0)) (some false)):(Bool->aw R)->aw R)=λK=>K (SP x.1):=by funext K;simp_all[SP]
    rw[e];cases SP x.1 with|true=>simp only[af,h0]|false=>simp only[ae];exact IK k0 k1 K h0 l m d B h1 hl hm n _ _ f (by omega) hk.1 (by omega) (by simp;omega)
theorem Qv (l:ar aA)(m:br)(d:Int)(r:kU)(hl:l.length<=10^9)(hm:m.length<=10^9):wy l m d r=some (eJ l m d r):=by
 have xV:=cS;unfold wy eJ;simp only[zH,B4,ab];cases hb:fI r;rfl;cases cY r==0;case true=>rfl
 have hu:=mx hb;simp only[ai,ae,ab,bU];exact Iy _ _ (λx=>some x) (λ_ _=>rfl) l m d _ _ (λ_ _=>rfl) hl hm _ [] r fuel (by omega) hb rfl (by simp;omega) rfl
theorem QM (l:ar aA)(m:br)(d:Int)(r:kU)(hl:l.length<=10^9)(hm:m.length<=10^9):xC l m d r=some (eJ l m d r):=by
 have xV:=cS;unfold xC eJ;simp only[Aa,CI,ab];cases hb:fI r;rfl;cases cY r==0;case true=>rfl
 have hu:=mx hb;simp only[ai,ae,ab,bU];exact IK _ _ (λx=>some x) (λ_ _=>rfl) l m d _ (λ_ _=>rfl) hl hm _ [] r fuel (by omega) hb rfl (by simp;omega)
def zW (x:Int×Int):Bool:=decide (x.1<0)|| !dH x.2 0 4096
def lz (l:ar (Int×Int)):Bool:= !l.any zW&&decide ((l.length:Int)<=16)
theorem Pa (l:ar (Int×Int)):(bif l.any zW then some false else some (decide ((l.length:Int)<=16)))=some (lz l):=by grind[lz]
theorem OG (l:ar (Int×Int))(h:l.length<=10^9):yG l=some (lz l):=by
 rw[<-Pa];refine GB zW l (by omega) (λi hi nx=>?_) (λnx=>?_);simp only[rU];rw[jP,af,aX hi,ab,dh,aj (by omega) (by omega)];unfold zW;cases decide (l[i].1<0)with|true=>rfl|false=>rfl
 simp only[rU];rw[gq,ae]
theorem Px (l:ar (Int×Int))(h:l.length<=10^9):zt l=some (lz l):=by
 rw[<-Pa];refine GB zW l (by omega) (λi hi nx=>?_) (λnx=>?_);simp only[sJ];rw[jP,af,aX hi,ab,ab,cM,aj (by omega) (by omega)];unfold zW;cases decide (l[i].1<0)with|true=>rfl|false=>rfl
 simp only[sJ];rw[gq,ae]
theorem El {l:ar (Int×Int)}(h:lz l=true):l.length<=16/\∀x∈l,0<=x.1/\0<=x.2/\x.2<=4096:=by grind[lz,zW,bM]
def dsc (n:Nat)(c:Int)(i:Nat)(x:Int×Int):DY:=(1,(if i+1=n then 1 else 0),x.2,x.1,0,c)
def tA (ps:ar (Int×Int))(c:Int):Nat->ar DY
 |0=>[]
 |i+1=>tA ps c i++[dsc ps.length c i (ps.getD i (0,0))]
theorem BB (ps:ar (Int×Int))(c:Int):∀i,(tA ps c i).length=i
 |0=>rfl
 |i+1=>by rw[tA,au,BB ps c i];rfl
theorem HB (ps:ar (Int×Int))(c:Int)(q:DY->Bool):∀i,(tA ps c i).all q=(List.range i).all (λj=>q (dsc ps.length c j (ps.getD j (0,0))))
 |0=>rfl
 |i+1=>by rw[tA,List.all_append,HB ps c q i,List.range_succ,List.all_append];rfl
def oo (ps:ar (Int×Int))(z c:Int):ar DY:=
 bif ((ps.length:Int)==0)||(!lz ps|| !dH z 1 128) then [] else
 bif ([(2,0,0,0,z,c)]++tA ps c ps.length).all qN then [(2,0,0,0,z,c)]++tA ps c ps.length else []
theorem EU (ps:ar (Int×Int))(z c:Int)(h:ps.length<=10^9:=by omega):∃b,iG ps z c=some (b,oo ps z c)/\(b=false->oo ps z c=[]):=by
 unfold iG oo;rw[OG ps h,dh];cases ((ps.length:Int)==0);case true=>exact⟨false,rfl,λ_=>rfl⟩
 cases lz ps;exact⟨false,rfl,λ_=>rfl⟩;cases dH z 1 128;exact⟨false,rfl,λ_=>rfl⟩;refine⟨([(2,0,0,0,z,c)]++tA ps c ps.length).all qN,?_,λhb=>by rw[hb];rfl⟩;refine cD (λi=>(([(2,0,0,0,z,c)]++tA ps c i,(i:Int)))) ps.length (by omega) (λi nx hi=>?_) (λnx=>?_);have hl:=BB ps c i;simp only[ky];rw[jP,af,aX hi,ab,aj (by omega) (by omega),aj (by omega) (by omega)];have e:[(2,0,0,0,z,c)]++tA ps c (i+1)=([(2,0,0,0,z,c)]++tA ps c i)++[dsc ps.length c i ps[i]]:=by rw[tA,fM hi,aN]
 rw[e];unfold dsc;by_cases hc:i+1=ps.length;rw[show((i:Int)==(ps.length)-1)=true from by rw[bD];omega,aG hc];rw[aQ (by simp only[au,bl];omega)];rfl;rw[show((i:Int)==(ps.length)-1)=false from by rw[cC];omega,aF hc];simp only[ae];rw[aQ (by simp only[au,bl];omega)];rfl;simp only[ky];rw[gq,ae];have hl:=BB ps c ps.length;generalize hq:[(2,0,0,0,z,c)]++tA ps c ps.length=q;have hn:q.length<=1000000001:=by rw[<-hq];simp only[au,bl];omega
 rw[rJ (fin:=some (true,q)) qN q (by omega) (λi hi nx=>?_) (λnx=>?_)];cases q.all qN<;>rfl;simp only[jH];rw[jP,af,aX hi,ab,Vw,ab,aj (by omega) (by omega)];rfl;simp only[jH];rw[gq,ae]
theorem KF (ps:ar (Int×Int))(z c:Int)(h:ps.length<=10^9):kj ps z c=some (oo ps z c):=by
 unfold kj oo;rw[Px ps h,cM];cases ((ps.length:Int)==0);case true=>rfl
 cases lz ps;rfl;cases dH z 1 128;rfl;have i0:idx [((2,0,0,0,z,c):DY)] 0=some (2,0,0,0,z,c):=rfl;simp only[ai,ae,ab,bU,i0,KE,List.all_append,bN,List.all_nil,ie];cases qN (2,0,0,0,z,c);rfl;rw[HB];refine(K6 (fin:=some ([(2,0,0,0,z,c)]++tA ps c ps.length)) (hit:=some []) (λi=>(([(2,0,0,0,z,c)]++tA ps c i,(i:Int)))) (λj=>qN (dsc ps.length c j (ps.getD j (0,0)))) ps.length (by omega) (λi nx hi _=>?_) (λ_ nx=>?_)).trans ?_;have hl:=BB ps c i;simp only[kD];rw[jP,af,aX hi,ab,ab,aj (by omega) (by omega),aj (by omega) (by omega)];have e:[(2,0,0,0,z,c)]++tA ps c (i+1)=([(2,0,0,0,z,c)]++tA ps c i)++[dsc ps.length c i ps[i]]:=by rw[tA,fM hi,aN]
 rw[e,fM hi];unfold dsc;by_cases hc:i+1=ps.length;rw[show((i:Int)==(ps.length)-1)=true from by rw[bD];omega,aG hc];simp only[af,KE,ab];rw[aQ (by simp only[au,bl];omega)];rfl;rw[show((i:Int)==(ps.length)-1)=false from by rw[cC];omega,aF hc];simp only[ae,KE,ab];rw[aQ (by simp only[au,bl];omega)];rfl;simp only[kD];rw[gq,ae];cases (List.range ps.length).all (λj=>qN (dsc ps.length c j (ps.getD j (0,0))))<;>rfl
def Hi (x y:DY):Bool:=(x.1==y.1)&&((x.2.1==y.2.1)&&((x.2.2.1==y.2.2.1)&&((x.2.2.2.1==y.2.2.2.1)&&((x.2.2.2.2.1==y.2.2.2.2.1)&&((x.2.2.2.2.2==y.2.2.2.2.2)&&true)))))
def Fv (a b:ar DY):Bool:=((a.length:Int)==(b.length:Int))&&(List.range a.length).all λi=>Hi (a.getD i F2) (b.getD i F2)
theorem acN (a b:ar DY)(ha:a.length<=10^9):Bu a b=some (Fv a b):=by
 unfold Bu Fv;cases hl:((a.length:Int)==(b.length))with
 |false=>simp only[bne,hl,cf,af,gL]
 |true=>
  have hn:a.length=b.length:=by have:=ij hl;omega
  simp only[bne,hl,ai,ae,bF];rw[pJ (λi=>Hi (a.getD i F2) (b.getD i F2)) a.length (by omega) (λi nx hi=>?_) (λnx=>?_)];cases (List.range a.length).all (λi=>Hi (a.getD i F2) (b.getD i F2))<;>rfl;have hi2:i<b.length:=by omega
  simp only[ve];rw[jP,af,aX hi,aX hi2,ab,ab,aj (by omega) (by omega),fM hi,fM hi2];rfl;simp only[ve];rw[gq,ae]
def gG (l:ar DY):ar (Int×Int):=(l.drop 1).map λx=>(x.2.2.2.1,x.2.2.1)
def iY (l:ar DY):ar (Int×Int)×Int×Int×Bool:=
 match l with
 |h::x::r=>bif Fv (oo (gG l) h.2.2.2.2.1 h.2.2.2.2.2) l then(gG l,h.2.2.2.2.1,h.2.2.2.2.2,true) else([],0,0,false)
 |_=>([],0,0,false)
theorem Q0 (ps:ar (Int×Int))(z c:Int):(oo ps z c).length<=ps.length+1:=by
 unfold oo;cases ((ps.length:Int)==0)||(!lz ps|| !dH z 1 128);case true=>simp
 cases ([(2,0,0,0,z,c)]++tA ps c ps.length).all qN with|false=>simp|true=>simp only[ae,af,au,bl,BB];omega
theorem T3 (l:ar DY)(hl:l.length<=10^9):oT l=some (iY l):=by
 unfold oT;match l,hl with
 |[],_=>
  obtain⟨g,hg⟩:∃g,fuel=g+1:=⟨fuel-1,by have:=cS;omega⟩
  rw[hg,aJ];rfl
 |h::q,hl=>
  simp only[bC]at hl;refine cD (λi=>(((q.take i).map (λx=>(x.2.2.2.1,x.2.2.1)),((i+1:Nat):Int)))) q.length (by omega) (λi nx hi=>?_) (λnx=>?_);have hi2:i+1<(h::q).length:=by simp;omega
  have e2:(h::q)[i+1]=q[i]:=rfl;simp only[lC];rw[jP,af,aX hi2,ab,ab,aQ (by simp only[cr,bm,bl];omega),aj (by omega) (by omega),e2,bj hi,List.map_append];rfl;have i0:idx (h::q) 0=some h:=rfl;simp only[lC];rw[aq (by simp only[bC];omega),ae,df];have hp:q.map (λx=>(x.2.2.2.1,x.2.2.1))=gG (h::q):=rfl;have CR:(gG (h::q)).length=q.length:=by rw[<-hp,cr]
  rw[hp];have hdl:=Q0 (gG (h::q)) h.2.2.2.2.1 h.2.2.2.2.2;simp only[i0,ab,KF (gG (h::q)) _ _ (show(gG (h::q)).length<=10^9 by omega),acN _ (h::q) (show(oo (gG (h::q)) h.2.2.2.2.1 h.2.2.2.2.2).length<=10^9 by omega)];cases q with|nil=>rfl|cons x r=>simp only[ae,ab,iY];cases Fv (oo (gG (h::x::r)) h.2.2.2.2.1 h.2.2.2.2.2) (h::x::r)<;>rfl
theorem Tj (l:ar DY)(hl:l.length<=10^9):oE l=some (iY l):=by
 unfold oE;match l,hl with
 |[],_=>rfl
 |[h],_=>rfl
 |h::y::r,hl=>
  generalize hq:y::r=q;have X9:1<=q.length:=by rw[<-hq];simp
  have hlen:q.length+1<=10^9:=by rw[<-hq];simpa using hl
  have i0:idx (h::q) 0=some h:=rfl;have s0:sub (h::q) 1 (((h::q).length))=some q:=sX 1 (by simp) rfl;rw[aq (by simp only[bC];omega),ae,s0,ab];refine cD (λi=>(((q.take i).map (λx=>(x.2.2.2.1,x.2.2.1)),(i:Int)))) q.length (by omega) (λi nx hi=>?_) (λnx=>?_);simp only[ly];rw[jP,af,aX hi,ab,aQ (by simp only[cr,bm,bl];omega),aj (by omega) (by omega),bj hi,List.map_append];rfl;simp only[ly];rw[gq,ae,df];have hp:q.map (λx=>(x.2.2.2.1,x.2.2.1))=gG (h::q):=rfl;have CR:(gG (h::q)).length=q.length:=by rw[<-hp,cr]
  rw[hp];have hdl:=Q0 (gG (h::q)) h.2.2.2.2.1 h.2.2.2.2.2;obtain⟨b,hd,hb⟩:=EU (gG (h::q)) h.2.2.2.2.1 h.2.2.2.2.2;have hR:iY (h::q)=bif Fv (oo (gG (h::q)) h.2.2.2.2.1 h.2.2.2.2.2) (h::q) then(gG (h::q),h.2.2.2.2.1,h.2.2.2.2.2,true) else([],0,0,false):=by rw[<-hq];rfl
  rw[hR];simp only[i0,ab,hd];have hlc:(((h::q).length):Int)=(q.length)+1:=by simp only[bC];omega
  generalize oo (gG (h::q)) h.2.2.2.2.1 h.2.2.2.2.2=w at hdl hb⊢
  have core:∀(K:aw (ar (Int×Int)×Int×Int×Bool))(w':ar DY),w'=w->(bif ((w'.length):Int) !=(((h::q).length)) then some (([]),(0),(0),false) else
   aJ (gz (λvM=>some (gG (h::q),h.2.2.2.2.1,h.2.2.2.2.2,true)) (λBL IV Gr EC ND=>some (BL,IV,Gr,EC)) (h::q) (gG (h::q)) h.2.2.2.2.1 h.2.2.2.2.2 w' ((w'.length))) fuel 0)=some (bif Fv w (h::q) then(gG (h::q),h.2.2.2.2.1,h.2.2.2.2.2,true) else([],0,0,false)):=by
   intro K w' e
   subst e
   unfold Fv
   cases hl:((w'.length)==(((h::q).length):Int))with
   |false=>simp only[bne,hl,cf,af,gL,ae]
   |true=>
    simp only[bne,hl,ai,ae,bF]
    rw[pJ (fin:=some (gG (h::q),h.2.2.2.2.1,h.2.2.2.2.2,true)) (λi=>Hi (w'.getD i F2) ((h::q).getD i F2)) w'.length (by omega) (λi nx hi=>?_) (λnx=>?_)]
    ·cases (List.range w'.length).all (λi=>Hi (w'.getD i F2) ((h::q).getD i F2))<;>rfl
    ·have hi2:i<(h::q).length:=by omega
     simp only[gz]
     rw[jP,af,aX hi,aX hi2,ab,ab,aj (by omega) (by omega),fM hi,fM hi2];rfl
    ·simp only[gz]
     rw[gq,ae]
  cases b with|true=>exact core none w rfl|false=>exact core none [] (hb rfl).symm
theorem Mu {l:ar DY}(h:(iY l).2.2.2=true):lz (iY l).1=true/\∀p∈(iY l).1,p.1<=4294967295:=by match l,h with|hd::x::r,h=>unfold iY at h⊢;simp only at h⊢;cases hs:Fv (oo (gG (hd::x::r)) hd.2.2.2.2.1 hd.2.2.2.2.2) (hd::x::r)with|false=>grind|true=>generalize hw:gG (hd::x::r)=ps at hs⊢;unfold Fv at hs;simp only[ah]at hs;have hn:=ij hs.1;unfold oo at hn;cases hc:((ps.length)==0)||(!lz ps|| !dH hd.2.2.2.2.1 1 128)with|true=>grind|false=>cases ha:([(2,0,0,0,hd.2.2.2.2.1,hd.2.2.2.2.2)]++tA ps hd.2.2.2.2.2 ps.length).all qN with|false=>grind|true=>simp only[dB,eK]at hc;refine⟨hc.2.1,λp hp=>?_⟩;rw[List.all_append,HB,ah]at ha;obtain⟨i,hi,rfl⟩:=List.getElem_of_mem hp;simp_all[qN,dsc,bM]
theorem D2 (l:ar aA)(m:br)(d a n:Int):(qH l m d a n).1.length<=33554432:=by grind[HV,rr,qH]
def EM (l:ar aA)(m:br)(d:Int):ar (Int×Int)->Bytes->Bytes×Bool
 |[],acc=>(acc,true)
 |p::ps,acc=>bif (qH l m d p.1 p.2).2 then EM l m d ps (acc++(qH l m d p.1 p.2).1) else([],false)
def yu (l:ar aA)(m:br)(d:Int)(ps:ar (Int×Int)):Bytes×Bool:=bif lz ps then EM l m d ps [] else([],false)
def C5 (l:ar aA)(m:br)(d:Int)(p:Int×Int)(s:Bytes):Except (aw (Bytes×Bool)) Bytes:=
 if(qH l m d p.1 p.2).2=true then .ok (s++(qH l m d p.1 p.2).1) else .error (some ([],false))
theorem Jc (l:ar aA)(m:br)(d:Int):∀(ps:ar (Int×Int))(s:Bytes),Wi (C5 l m d) (λs=>some (s,true)) ps s=some (EM l m d ps s)
 |[],s=>rfl
 |p::ps,s=>by rw[Wi,EM];unfold C5;cases hd:(qH l m d p.1 p.2).2 with|false=>rfl|true=>exact Jc l m d ps _
theorem Ma (l:ar aA)(m:br)(d:Int):∀(ps:ar (Int×Int))(s:Bytes),(EM l m d ps s).1.length<=s.length+33554432*ps.length
 |[],s=>by simp[EM]
 |p::ps,s=>by have h1:=D2 l m d p.1 p.2;rw[EM];cases (qH l m d p.1 p.2).2 with|false=>simp|true=>have:=Ma l m d ps (s++(qH l m d p.1 p.2).1);grind
theorem Mb (l:ar aA)(m:br)(d:Int)(ps:ar (Int×Int)):(yu l m d ps).1.length<=10^9:=by unfold yu;cases hp:lz ps with|false=>simp|true=>have:=(El hp).1;have:=Ma l m d ps [];grind
theorem Yi (l:ar aA)(m:br)(d:Int)(ps:ar (Int×Int))(hl:l.length<=10^9)(hm:m.length<=10^9)(hn:ps.length<=10^9)(ha:∀p∈ps,p.1<=9223372036854775807):qf l m d ps=some (yu l m d ps):=by
 unfold qf yu;rw[OG ps hn,ab];cases hp:lz ps;rfl;have W9:=(El hp).1;simp only[ai,ae,af];rw[<-Jc];refine Et ps (λs i=>(s,(i:Int))) (λi s=>s.length<=33554432*i) (C5 l m d) _ (by omega) (λi hi s nx hI=>?_) (λi hi s s' hI he=>?_) (λs nx hI=>?_) [] (by simp);have h1:=D2 l m d ps[i].1 ps[i].2;simp only[mf];rw[jP,af,aX hi,ab,C9 l m d _ _ hl hm (ha _ (bh hi)),ab];unfold C5;cases hd:(qH l m d ps[i].1 ps[i].2).2 with|false=>rfl|true=>rw[aG rfl,aQ (by omega),aj (by omega) (by omega)];rfl
 have h1:=D2 l m d ps[i].1 ps[i].2;unfold C5 at he;split at he;injection he with he;rw[<-he,au];omega;cases he;simp only[mf];rw[gq,ae]
theorem Zk (l:ar aA)(m:br)(d:Int)(ps:ar (Int×Int))(hl:l.length<=10^9)(hm:m.length<=10^9)(hn:ps.length<=10^9)(ha:∀p∈ps,p.1<=9223372036854775807):qx l m d ps=some (yu l m d ps):=by
 unfold qx yu;rw[Px ps hn,ab];cases hp:lz ps;rfl;have W9:=(El hp).1;simp only[ai,ae,af];rw[<-Jc];refine Et ps (λs i=>(s,(i:Int))) (λi s=>s.length<=33554432*i) (C5 l m d) _ (by omega) (λi hi s nx hI=>?_) (λi hi s s' hI he=>?_) (λs nx hI=>?_) [] (by simp);have h1:=D2 l m d ps[i].1 ps[i].2;simp only[mB];rw[jP,af,aX hi,ab,ab,Dy l m d _ _ hl hm (ha _ (bh hi)),ab];unfold C5;cases hd:(qH l m d ps[i].1 ps[i].2).2 with|false=>rfl|true=>rw[aG rfl,aQ (by omega),aj (by omega) (by omega)];rfl
 have h1:=D2 l m d ps[i].1 ps[i].2;unfold C5 at he;split at he;injection he with he;rw[<-he,au];omega;cases he;simp only[mB];rw[gq,ae]
def tW (t:Bytes):Int:=cx t ((bX t+2:Nat):Int)
def Na (t:Bytes):Int:=SH ((t.take (bX t+20)).drop (bX t))
def QG (t:Bytes):Bytes:=(t.take (bX t+(tW t).toNat)).drop (bX t+20)
def agj (t:Bytes):Bytes:=yh (fg t ((bX t+12:Nat):Int)) (fg t ((bX t+16:Nat):Int)) (iK t:Int) (tW t-20)
def KS (t:Bytes):Int:=bif ((iK t:Int)==17)&&(SH (agj t++QG t)==0) then 65535 else SH (agj t++QG t)
def UZ (t s:Bytes):Bytes×Bool:=bif ((vH s).2==0)&&((iP (vH s).1).1==t) then eS (vH s).1 else([],false)
def D6 (t:Bytes):Bytes×Bool:=UZ t (qv t (bW (Na t)) (bW (KS t)))
theorem AQ (h:¬(TOk t/\cx t (xJ t:Int)=0/\cx t (rD t:Int)=0)):D6 t=([],false):=by have ha:FX (qv t (bW (Na t)) (bW (KS t))) t:=II t (bt _) (bt _);grind[D6,UZ,vH,aiy,ac2]
theorem Ue (t:Bytes)(o n:Nat):(t.drop o).take n=(t.take (o+n)).drop o:=by grind[List.drop_take]
theorem Mv (h1:bX t+20<=t.length)(h2:20<=tW t)(h3:tW t<=(t.length:Int))(h4:t.length<=10^9):Bg (fg t ((bX t+12:Nat):Int)) (fg t ((bX t+16:Nat):Int)) (iK t:Int) (tW t-20)=true:=by have a1:=D9 (s:=t) (a:=((bX t+12:Nat):Int));have a2:=D9 (s:=t) (a:=((bX t+16:Nat):Int));have a3:=eY t (bX t+9);have a4:=D8 (s:=t) (a:=((bX t+2:Nat):Int));grind[Bg,bM,iK,tW]
theorem acI (t:Bytes)(hl:t.length<=10^9):zb t=some (D6 t):=by
 have hp:=zX t
 have hk:=H5 (iK t)
 have Ri:iK t<256:=eY t (bX t+9)
 unfold zb
 rw[Py t hl,ab]
 by_cases h1:t.length<bX t+46
 ·rw[ax h1,AQ λh=>by have:=h.1.l1;omega];rfl
 rw[aq h1]
 simp only[ae]
 rw[aq (show¬(xJ t:Int)<0 by omega)]
 simp only[ae,sC t _ hl,ab]
 cases h2:cx t (xJ t:Int) !=0 with
 |true=>simp_all[AQ]
 |false=>
 simp only[ae,ab]
 cases h3:cx t (rD t:Int) !=0 with
 |true=>grind[AQ]
 |false=>
 have w1:ak ((xJ t:Int)-10)=(bX t:Int):=by grind[aj]
 have w2:ak ((bX t:Int)+2)=((bX t+2:Nat):Int):=by grind[aj]
 have w9:ak ((bX t:Int)+9)=((bX t+9:Nat):Int):=by grind[aj]
 have w12:ak ((bX t:Int)+12)=((bX t+12:Nat):Int):=by grind[aj]
 have w16:ak ((bX t:Int)+16)=((bX t+16:Nat):Int):=by grind[aj]
 have w20:ak ((bX t:Int)+20)=((bX t+20:Nat):Int):=by grind[aj]
 have wb:ak ((rD t:Int)+2)=(rD t:Int)+2:=by grind[aj]
 have wc:ak ((rD t:Int)+2-(bX t:Int))=(rD t:Int)+2-(bX t:Int):=by grind[aj]
 have wl:ak ((t.length:Int)-(bX t:Int))=(t.length:Int)-(bX t:Int):=by grind[aj]
 obtain⟨x,hx,ex⟩:=kc (s:=t) (i:=bX t+9)
 have a4:=D8 (s:=t) (a:=((bX t+2:Nat):Int))
 simp only[ae,ab,w1,w2,w9,hx,wb,wc,wl]
 rw[show cx t ((bX t+2:Nat):Int)=tW t from rfl]at a4⊢
 by_cases h4:tW t<(rD t:Int)+2-(bX t:Int)
 ·rw[ax h4,AQ λh=>by have:=h.1.n1;grind[tW]];rfl
 rw[aq h4]
 simp only[ae,ab]
 by_cases h5:tW t>(t.length:Int)-(bX t:Int)
 ·rw[ax h5,AQ λh=>by have:=h.1.n2;grind[tW]];rfl
 rw[aq h5]
 obtain⟨n,hn⟩:=aI a4.1
 have wn:ak ((bX t:Int)+tW t)=((bX t+n:Nat):Int):=by grind[aj]
 have wm:ak (tW t-20)=tW t-20:=by grind[aj]
 have s1:sub t (bX t:Int) ((bX t+20:Nat):Int)=some ((t.take (bX t+20)).drop (bX t)):=by grind[KR,ay]
 have s2:sub t ((bX t+20:Nat):Int) ((bX t+n:Nat):Int)=some (QG t):=by grind[KR,ay,QG]
 have hps:=HU (fg t ((bX t+12:Nat):Int)) (fg t ((bX t+16:Nat):Int)) (iK t:Int) (tW t-20)
 have GZ:(QG t).length<=65535:=by unfold QG;grind
 have hk2:ak ((UInt8.toNat x:Int))=(iK t:Int):=by grind[fQ,iK]
 simp only[ae,ab,w12,w16,w20,wn,wm,s1,s2,BJ t _ hl,hk2,FB,Mv (show bX t+20<=t.length by omega) (show 20<=tW t by omega) (show tW t<=(t.length:Int) by omega) hl,af]
 rw[show yh (fg t ((bX t+12:Nat):Int)) (fg t ((bX t+16:Nat):Int)) (iK t:Int) (tW t-20)=agj t from rfl]at hps⊢
 rw[KD _ (by grind),ab,aQ (by omega),KD _ (by rw[au];omega),ab]
 rw[show SH ((t.take (bX t+20)).drop (bX t))=Na t from rfl]
 have lD:∀y:Int,KS t=y->(aa (bO (Na t)) λrq=>aa (eE t (xJ t:Int) rq) λJF=>aa (bO y) λY5=>aa (eE JF (rD t:Int) Y5) λXg=>aa (iD Xg) λEB=>
  bif EB.2 !=0 then some (([]:Bytes),false) else aa (mU EB.1) λM3=>bif !(M3.1==t) then some (([]:Bytes),false) else aa (hG EB.1) λr22=>some r22)=some (D6 t):=by
  intro y hy
  subst hy
  rw[hZ,ab,FC t _ _ hl,ab,hZ,ab,FC _ _ _ (by rw[zY];exact hl),ab]
  have hlen:=Dw t (bW (Na t)) (bW (KS t))
  unfold D6
  rw[show xj (xj t (xJ t:Int) (bW (Na t))) (rD t:Int) (bW (KS t))=qv t (bW (Na t)) (bW (KS t)) from rfl]
  grind[H0,ab,Sg,HZ,UZ]
 grind[KS,ab]
theorem abx (t:Bytes)(hl:t.length<=10^9):yy t=some (D6 t):=by
 have hp:=zX t
 have hk:=H5 (iK t)
 have Ri:iK t<256:=eY t (bX t+9)
 have GS:=Fp t
 unfold yy
 rw[J9 t hl,ab,xY _ _ (by omega),ab]
 cases h1:(fP t).2 with
 |false=>rw[AQ λh=>by have:=h.1.eth;grind];rfl
 |true=>
 have he:=LH h1
 rw[he.1]
 simp only[ai,ae,ab]
 have en:cx (t.drop (bX t)) 2=tW t:=Oh (a:=2)
 rw[en]
 by_cases h4:tW t<20
 ·rw[ax h4,AQ λh=>by have:=h.1.n1;grind[tW]];rfl
 rw[aq h4]
 simp only[ae,ab]
 by_cases h5:tW t>((t.drop (bX t)).length:Int)
 ·rw[ax h5,AQ λh=>by have:=h.1.n2;grind[tW]];rfl
 rw[aq h5]
 rw[bf]at h5
 have hdl:(t.drop (bX t)).length=t.length-bX t:=bf ..
 obtain⟨n,hn⟩:=aI (show 0<=tW t by omega)
 obtain⟨x,hx,ex⟩:=kc (s:=t.drop (bX t)) (i:=9)
 have hx9:idx (t.drop (bX t)) 9=some x:=hx
 have s1:sub (t.drop (bX t)) 0 20=some ((t.take (bX t+20)).drop (bX t)):=by grind[DA]
 have s2:sub (t.drop (bX t)) 20 (tW t)=some (QG t):=by rw[KR (l:=t.drop (bX t)) 20 (a:=20) rfl (by omega) (by omega),hn,ay,Ue,dY];grind[QG]
 have hps:=HU (fg t ((bX t+12:Nat):Int)) (fg t ((bX t+16:Nat):Int)) (iK t:Int) (tW t-20)
 have GZ:((QG t).length:Int)=tW t-20:=by grind[QG]
 have hk2:ak ((UInt8.toNat x:Int))=(iK t:Int):=by grind[fQ,bI,iK]
 have g12:fg (t.drop (bX t)) 12=fg t ((bX t+12:Nat):Int):=Oi (a:=12)
 have g16:fg (t.drop (bX t)) 16=fg t ((bX t+16:Nat):Int):=Oi (a:=16)
 have hw:ak ((M7 (iK t):Int)+2)=(M7 (iK t):Int)+2:=by grind[aj]
 simp only[ae,ab,Ke t hl,s1,s2,hx9,BE _ _ (show(t.drop (bX t)).length<=10^9 by omega),hk2,OH,GZ,g12,g16,Mv (show bX t+20<=t.length by omega) (show 20<=tW t by omega) (show tW t<=(t.length:Int) by omega) hl,af,ai,Ln _ Ri,hw]
 rw[show yh (fg t ((bX t+12:Nat):Int)) (fg t ((bX t+16:Nat):Int)) (iK t:Int) (tW t-20)=agj t from rfl]at hps⊢
 by_cases h6:(M7 (iK t):Int)+2>tW t-20
 ·rw[ax h6,AQ λh=>by have:=h.1.n1;grind[tW]];rfl
 rw[aq h6]
 simp only[ae]
 have hck:((t.take (bX t+20)).drop (bX t)).length<=10^9:=by grind
 rw[aQ (by omega),Nq _ (by rw[au];omega),ab]
 have lD:∀y:Int,KS t=y->(aa (je ((t.take (bX t+20)).drop (bX t))) λr25=>aa (cd r25) λr26=>aa (fH t (xJ t:Int) r26) λWd=>aa (cd y) λRY=>aa (fH Wd (rD t:Int) RY) λr29=>aa (iA r29) λr30=>aa (mK r30.1) λY6=>
  aa (bif r30.2 !=0 then some true else bif !Y6.2 then some true else some (!(Y6.1==t))) λq32=>bif q32 then some (([]:Bytes),false) else aa (gY r30.1) λUr=>some Ur)=some (D6 t):=by
  intro y hy
  subst hy
  have b1:=bt (Na t)
  have b2:=bt (KS t)
  rw[Nq _ hck,ab,show SH ((t.take (bX t+20)).drop (bX t))=Na t from rfl]
  rw[kY,ab,EX t _ _ hl,ab,kY,ab,EX _ _ _ (by rw[zY];exact hl),ab]
  have hlen:=Dw t (bW (Na t)) (bW (KS t))
  unfold D6
  rw[show xj (xj t (xJ t:Int) (bW (Na t))) (rD t:Int) (bW (KS t))=qv t (bW (Na t)) (bW (KS t)) from rfl]
  grind[HO,ab,RA,HN,UZ,iP]
 cases h8:(iK t:Int)==17 with
 |false=>simp_all[KS]
 |true=>
  grind[ab,KS]
theorem Q9 (t:Bytes):(D6 t).1.length<=378:=by grind[D6,UZ,xX]
theorem I4 (l:ar aA)(m:br)(d:Int):∀(n:Nat)(acc:ar DY)(r:kU),(Ak l m d n acc r).1.length<=acc.length+n
 |0,acc,r=>aU _
 |n+1,acc,r=>by
  rw[Ak];cases !(bK l m d r).2.2|| !(ez (bK l m d r).1).2;case true=>exact eH _
  cases SP (ez (bK l m d r).1).1 with|true=>grind|false=>have:=I4 l m d n (acc++[(ez (bK l m d r).1).1]) (bK l m d r).2.1;grind
theorem Za (h:fI r=true):fI (r.1,r.2.1,r.2.2.2,r.2.2.2)=true/\cY (r.1,r.2.1,r.2.2.2,r.2.2.2)=0:=by grind[fI,cY,Int.zero_emod,bM]
theorem L4 (l:ar aA)(m:br)(d:Int):∀(n:Nat)(acc:ar DY)(r:kU),fI r=true->(cY r).toNat=n->
 fI (Ak l m d n acc r).2.1=true/\cY (Ak l m d n acc r).2.1<=cY r/\(0<cY r->cY (Ak l m d n acc r).2.1<cY r)
 |0,acc,r,hb,hu=>⟨hb,Int.le_refl _,λh=>by omega⟩
 |n+1,acc,r,hb,hu=>by have hk:=CM (l:=l) (m:=m) (d:=d) (r:=r);have he:=Za hb;rw[Ak];cases hc: !(bK l m d r).2.2|| !(ez (bK l m d r).1).2 with|true=>grind|false=>simp only[dB,eK]at hc;have hk:=hk hc.1;cases SP (ez (bK l m d r).1).1 with|true=>grind|false=>have:=L4 l m d n (acc++[(ez (bK l m d r).1).1]) (bK l m d r).2.1 hk.1 (by omega);grind
def kA (l:ar aA)(m:br)(d:Int)(r:kU):kU×br×Int:=
 bif !fI r||(cY r==0) then(r,[],0) else
 bif !(eJ l m d r).2.2|| !(iY (eJ l m d r).1).2.2.2 then((eJ l m d r).2.1,[],2) else
 bif !(yu l m d (iY (eJ l m d r).1).1).2||(!(D6 (yu l m d (iY (eJ l m d r).1).1).1).2||((vH (D6 (yu l m d (iY (eJ l m d r).1).1).1).1).2 !=0)) then((eJ l m d r).2.1,[],2) else
 ((eJ l m d r).2.1,R6 (vH (D6 (yu l m d (iY (eJ l m d r).1).1).1).1).1 (iY (eJ l m d r).1).2.1,1)
theorem Yl (l:ar aA)(m:br)(d:Int)(r:kU)(hl:l.length<=10^9)(hm:m.length<=10^9):qo l m d r=some (kA l m d r):=by
 unfold qo kA;simp only[zH,B4,ab,Qv l m d r hl hm];cases hb:fI r;rfl;cases cY r==0;case true=>rfl
 have hu:=mx hb;have hcl:(eJ l m d r).1.length<=16:=by unfold eJ;cases !fI r||(cY r==0)with|true=>exact eH _|false=>have:=I4 l m d (cY r).toNat [] r;grind
 simp only[ai,ae,ab,bU];generalize eJ l m d r=c at hcl⊢;cases c.2.2;rfl;simp only[ai,ae,ab,cI,Tj c.1 (show c.1.length<=10^9 by omega)];have hpo:=Mu (l:=c.1);grind[El,Mb,ab,Yi,Q9,abx,HO,aeC]
theorem Zn (l:ar aA)(m:br)(d:Int)(r:kU)(hl:l.length<=10^9)(hm:m.length<=10^9):qE l m d r=some (kA l m d r):=by
 unfold qE kA;simp only[Aa,CI,ab,QM l m d r hl hm];cases hb:fI r;rfl;cases cY r==0;case true=>rfl
 have hu:=mx hb;have hcl:(eJ l m d r).1.length<=16:=by unfold eJ;cases !fI r||(cY r==0)with|true=>exact eH _|false=>have:=I4 l m d (cY r).toNat [] r;grind
 simp only[ai,ae,ab,bU];generalize eJ l m d r=c at hcl⊢;simp only[T3 c.1 (show c.1.length<=10^9 by omega),ab];cases c.2.2;rfl;simp only[ai,ae,ab,cI];have hpo:=Mu (l:=c.1);generalize iY c.1=p at hpo⊢;cases hp:p.2.2.2;rfl;have hpo:=hpo hp;have W9:=(El hpo.1).1;have hg:=Mb l m d p.1;simp only[ai,ae,ab,cI,Zk l m d p.1 hl hm (show p.1.length<=10^9 by omega) (λq hq=>Int.le_trans (hpo.2 q hq) (by omega))];grind[Q9,acI,ab,H0,afz]
theorem LB (l:ar aA)(m:br)(d:Int)(r:kU): ((kA l m d r).2.2=0->(kA l m d r).1=r)/\((kA l m d r).2.2≠0->0<cY r/\fI r=true/\fI (kA l m d r).1=true/\cY (kA l m d r).1<cY r)/\(kA l m d r).2.1.length<=320/\(∀x∈(kA l m d r).2.1,x.length<=382)/\((kA l m d r).2.2=0\/(kA l m d r).2.2=1\/(kA l m d r).2.2=2):=by
 unfold kA;cases hc: !fI r||(cY r==0)with
 |true=>grind
 |false=>
  simp only[dB,eK,cC]at hc;have hu:=mx hc.1;have hch:fI (eJ l m d r).2.1=true/\cY (eJ l m d r).2.1<cY r:=by have:=L4 l m d (cY r).toNat [] r hc.1 rfl;grind[eJ]
  grind[acD]
def rE (l:ar aA)(m:br)(d:Int):Nat->br->Nat->Nat->kU->kU×br×Int×Int
 |0,fr,dn,bd,r=>(r,fr,(dn:Int),(bd:Int))
 |n+1,fr,dn,bd,r=>
  bif (kA l m d r).2.2==0 then(r,fr,(dn:Int),(bd:Int)) else
  bif (kA l m d r).2.2==1 then rE l m d n (fr++(kA l m d r).2.1) (dn+1) bd (kA l m d r).1 else
  rE l m d n (fr++(kA l m d r).2.1) dn (bd+1) (kA l m d r).1
def kE (l:ar aA)(m:br)(d:Int)(r:kU):kU×br×Int×Int:=rE l m d 17 [] 0 0 r
theorem Jl (l:ar aA)(m:br)(d:Int)(hl:l.length<=10^9)(hm:m.length<=10^9):∀(n:Nat)(fr:br)(dn bd:Nat)(r:kU)(f:Nat),n<f->(fI r=true->cY r<n)->0<n->fr.length+320*n<=10000->dn+bd+n<=1000->
 aJ (ni (λy2 y3 y4 _ _ _ _ y9=>some (y9,y2,y3,y4)) l d ([]:br) 0 0 m (0,0,0,0)) f (fr,(dn:Int),(bd:Int),r)=some (rE l m d n fr dn bd r)
 |0,fr,dn,bd,r,f,_,_,h0,_,_=>by omega
 |n+1,fr,dn,bd,r,0,hf,_,_,_,_=>by omega
 |n+1,fr,dn,bd,r,f+1,hf,hr,_,gM,hc=>by have ok:=LB l m d r;rw[aJ,rE];simp only[ni,Yl l m d r hl hm,ab];generalize kA l m d r=x at ok⊢;cases h0:x.2.2==0 with|true=>grind|false=>have hk:=ok.2.1 (by simpa using h0);have hu:=hr hk.2.1;have hu2:=(mx hk.2.2.1).1;simp only[ae];cases x.2.2==1 with|true=>simp only[af];rw[aQ (by omega),aj (by omega) (by omega)];exact Jl l m d hl hm n _ (dn+1) bd _ f (by omega) (λ_=>by omega) (by omega) (by rw[au];omega) (by omega)|false=>simp only[ae];rw[aQ (by omega),aj (by omega) (by omega)];exact Jl l m d hl hm n _ dn (bd+1) _ f (by omega) (λ_=>by omega) (by omega) (by rw[au];omega) (by omega)
theorem Ju (l:ar aA)(m:br)(d:Int)(hl:l.length<=10^9)(hm:m.length<=10^9):∀(n:Nat)(fr:br)(dn bd:Nat)(r:kU)(f:Nat),n<f->(fI r=true->cY r<n)->0<n->fr.length+320*n<=10000->dn+bd+n<=1000->
 aJ (nr (λy2 y3 y4 _ _ _ _ y9=>some (y9,y2,y3,y4)) l d ([]:br) 0 0 m (0,0,0,0)) f (fr,(dn:Int),(bd:Int),r)=some (rE l m d n fr dn bd r)
 |0,fr,dn,bd,r,f,_,_,h0,_,_=>by omega
 |n+1,fr,dn,bd,r,0,hf,_,_,_,_=>by omega
 |n+1,fr,dn,bd,r,f+1,hf,hr,_,gM,hc=>by have ok:=LB l m d r;rw[aJ,rE];simp only[nr,Zn l m d r hl hm,ab];generalize kA l m d r=x at ok⊢;cases h0:x.2.2==0 with|true=>rfl|false=>have hk:=ok.2.1 (by simpa using h0);have hu:=hr hk.2.1;have hu2:=(mx hk.2.2.1).1;simp only[ae];rw[aQ (by omega)];cases x.2.2==1 with|true=>simp only[af];rw[aj (by omega) (by omega)];exact Ju l m d hl hm n _ (dn+1) bd _ f (by omega) (λ_=>by omega) (by omega) (by rw[au];omega) (by omega)|false=>simp only[ae];rw[aj (by omega) (by omega)];exact Ju l m d hl hm n _ dn (bd+1) _ f (by omega) (λ_=>by omega) (by omega) (by rw[au];omega) (by omega)
theorem abN (l:ar aA)(m:br)(d:Int)(r:kU)(hl:l.length<=10^9)(hm:m.length<=10^9):sf l m d r=some (kE l m d r):=by have xV:=cS;unfold sf;exact Jl l m d hl hm 17 [] 0 0 r fuel (by omega) (λh=>by have:=(mx h).2;omega) (by omega) (by simp) (by omega)
theorem acX (l:ar aA)(m:br)(d:Int)(r:kU)(hl:l.length<=10^9)(hm:m.length<=10^9):sR l m d r=some (kE l m d r):=by have xV:=cS;unfold sR;exact Ju l m d hl hm 17 [] 0 0 r fuel (by omega) (λh=>by have:=(mx h).2;omega) (by omega) (by simp) (by omega)
theorem Ew (l:ar aA)(m:br)(d:Int):∀(n:Nat)(fr:br)(dn bd:Nat)(r:kU),(∀x∈fr,x.length<=382)->
 (rE l m d n fr dn bd r).2.1.length<=fr.length+320*n/\(∀x∈(rE l m d n fr dn bd r).2.1,x.length<=382)/\0<=(rE l m d n fr dn bd r).2.2.1/\(rE l m d n fr dn bd r).2.2.1<=(dn+n:Nat)/\0<=(rE l m d n fr dn bd r).2.2.2/\(rE l m d n fr dn bd r).2.2.2<=(bd+n:Nat)
 |0,fr,dn,bd,r,h=>⟨aU _,h,by show(0:Int)<=(dn:Int);omega,by show(dn:Int)<=_;omega,by show(0:Int)<=(bd:Int);omega,by show(bd:Int)<=_;omega⟩
 |n+1,fr,dn,bd,r,h=>by
  have ok:=LB l m d r;rw[rE];generalize kA l m d r=x at ok⊢;have h2:∀y∈fr++x.2.1,y.length<=382:=λy hy=>by grind
  cases x.2.2==0 with|true=>grind|false=>cases x.2.2==1 with|true=>have i:=Ew l m d n (fr++x.2.1) (dn+1) bd x.1 h2;grind|false=>have i:=Ew l m d n (fr++x.2.1) dn (bd+1) x.1 h2;grind
def adz (v:Vector):Bool:=bif decide (v.2.2.1>=1) then(bif decide (v.2.2.1>=v.1) then true else decide (v.2.2.2.1>=v.2.1)) else false
theorem agt (v:Vector):Ef v=some (adz v):=by unfold Ef adz;cases decide (v.2.2.1>=1);all_goals simp_all
theorem agT (v:Vector):rC v=some (adz v):=by unfold rC adz;cases decide (v.2.2.1>=1);all_goals simp_all
def GD (v:Vector):Vector:=bif adz v&& !v.2.2.2.2.1 then(v.1,v.2.1,v.2.2.1,v.2.2.2.1,v.2.2.2.2.1,true) else v
theorem Lk (v:Vector):oK v=some (GD v):=by grind[oK,GD,agt,ab]
theorem LQ (v:Vector):mV v=some (GD v):=by grind[mV,GD,agT,ab]
def upM (n:Int):Int:=if 1000000<ak (n+1) then 1000000 else ak (n+1)
theorem aaK (n:Int):(if ak (n+1)<1000000 then ak (n+1) else 1000000)=upM n:=by grind[upM]
def evV (v:Vector):Vector:=bif ta v then GD (v.1,v.2.1,upM v.2.2.1,v.2.2.2) else v
theorem abr (v:Vector):yv v=some (evV v):=by unfold yv evV;rw[B5,ab,Lk,ab];cases ta v<;>rfl
theorem acF (v:Vector):yY v=some (evV v):=by grind[yY,evV,yk,ab,aaK,LQ]
def WO (v:Vector):Vector:=bif ta v then(bif decide (v.2.2.1>0) then GD (v.1,v.2.1,v.2.2.1,upM v.2.2.2.1,v.2.2.2.2) else GD v) else v
theorem abM (v:Vector):uD v=some (WO v):=by unfold uD WO;simp only[B5,ab,Lk];cases ta v;rfl;cases decide (v.2.2.1>0)<;>rfl
theorem acW (v:Vector):uY v=some (WO v):=by grind[uY,WO,yk,ab,aaK,LQ]
def Gq (v:Vector):Vector×Bool:=bif ta v&&v.2.2.2.2.2 then((v.1,v.2.1,0,0,true,false),true) else(v,false)
theorem abL (v:Vector):oJ v=some (Gq v):=by grind[oJ,Gq,B5,ab]
theorem acV (v:Vector):oZ v=some (Gq v):=by grind[oZ,Gq,yk,ab]
def KX (v:Vector):Vector:=bif ta v then GD (v.1,v.2.1,v.2.2.1,v.2.2.2.1,false,v.2.2.2.2.2) else v
theorem OJ (v:Vector):zJ v=some (KX v):=by grind[zJ,KX,B5,ab,Lk]
theorem PA (v:Vector):Ab v=some (KX v):=by grind[Ab,KX,yk,ab,LQ]
structure lG (k:Nat) (a b:Host):Prop where
 mem:b.1.length=a.1.length
 maps:b.2.1=a.2.1
 tx:b.2.2.1=a.2.2.1
 rx:b.2.2.2.1.length=a.2.2.2.1.length
 rxs:∀j,k<=j->b.2.2.2.1[j]?=a.2.2.2.1[j]?
 pl:b.2.2.2.2.1.length=a.2.2.2.2.1.length
 vec:b.2.2.2.2.2.1.length=a.2.2.2.2.2.1.length
 W1:∀j,k<=j->b.2.2.2.2.2.1[j]?=a.2.2.2.2.2.1[j]?
 pol:b.2.2.2.2.2.2.1.length=a.2.2.2.2.2.2.1.length
 flt:b.2.2.2.2.2.2.2.1=a.2.2.2.2.2.2.2.1
 ste:b.2.2.2.2.2.2.2.2.1=a.2.2.2.2.2.2.2.2.1
theorem lG.refl (k:Nat)(a:Host):lG k a a:=⟨rfl,rfl,rfl,rfl,λ_ _=>rfl,rfl,rfl,λ_ _=>rfl,rfl,rfl,rfl⟩
theorem lG.trans {a b c:Host}(h:lG k a b)(g:lG k b c):lG k a c:=⟨g.mem.trans h.mem,g.maps.trans h.maps,g.tx.trans h.tx,g.rx.trans h.rx,λj hj=>(g.rxs j hj).trans (h.rxs j hj),g.pl.trans h.pl,g.vec.trans h.vec,λj hj=>(g.W1 j hj).trans (h.W1 j hj),g.pol.trans h.pol,g.flt.trans h.flt,g.ste.trans h.ste⟩
theorem lG.up {m:Nat}{a b:Host}(h:lG k a b)(hk:k<=m):lG m a b:=⟨h.mem,h.maps,h.tx,h.rx,λj hj=>h.rxs j (by omega),h.pl,h.vec,λj hj=>h.W1 j (by omega),h.pol,h.flt,h.ste⟩
def ib (g:Nat->Host->Host):Nat->Host->Host
 |0,h=>h
 |k+1,h=>g k (ib g k h)
theorem sW (hg:∀k h,lG (k+1) h (g k h))(h:Host):∀k,lG k h (ib g k h)
 |0=>lG.refl 0 h
 |k+1=>((sW hg h k).up (by omega)).trans (hg k _)
theorem CK {d n:Nat}(hn:1000<=n)(hg:∀k h m,1000<=m->bu m cK h->bu (m+d) cK (g k h))(z:bu n cK h):∀k,bu (n+d*k) cK (ib g k h)
 |0=>z
 |k+1=>(hg k _ _ (by omega) (CK hn hg z k)).mono (by rw[Nat.mul_add];omega)
def xL (i:Nat)(h:Host):Host:=
 match h.2.2.2.2.2.1[i]? with
 |some v=>(h.1,h.2.1,h.2.2.1,h.2.2.2.1,h.2.2.2.2.1,h.2.2.2.2.2.1.set i (WO v),h.2.2.2.2.2.2)
 |none=>h
theorem FO (i:Nat)(h:Host):lG (i+1) h (xL i h):=by unfold xL;cases h.2.2.2.2.2.1[i]? with|none=>exact lG.refl _ _|some v=>exact⟨rfl,rfl,rfl,rfl,λ_ _=>rfl,rfl,aH ..,λj hj=>aO (by omega),rfl,rfl,rfl⟩
theorem NC {n:Nat}{l:ar Vector}{i:Nat}{v:Vector}(z:bu n (.sl fw) l):bu n (.sl fw) (l.set i v):=pw z ⟨bV,bV,bV,bV,bV,bV⟩
theorem ac8 (i:Nat)(h:Host)(n:Nat)(hn:1000<=n)(z:bu n cK h):bu (n+0) cK (xL i h):=by unfold xL;cases h.2.2.2.2.2.1[i]? with|none=>exact z|some v=>exact⟨z.1,z.2.1,z.2.2.1,z.2.2.2.1,z.2.2.2.2.1,NC z.2.2.2.2.2.1,z.2.2.2.2.2.2⟩
def Hs (h:Host):Host:=bif fF h then ib xL h.2.2.2.2.2.1.length h else h
theorem afO {n:Nat}(hn:1000<=n)(z:bu n cK h):bu n cK (Hs h)/\(Hs h).2.2.1=h.2.2.1:=by unfold Hs;cases fF h with|false=>exact⟨z,rfl⟩|true=>exact⟨(CK hn ac8 z _).mono,(sW FO h _).tx⟩
theorem aeE (h:Host)(k:IW h)(z:bu 1000000000 cK h):yE h=some (Hs h):=by
 have xV:=cS;unfold yE Hs;rw[kx h z,ab,zG h k,ab];cases hb:fF h;rfl;have hv:h.2.2.2.2.2.1.length<=10^9:=z.2.2.2.2.2.1.1;simp only[ai,ae,af];refine cD (λi=>((i:Int),ib xL i h)) h.2.2.2.2.2.1.length (by omega) (λi nx hi=>?_) (λnx=>?_);have kk:=sW FO h i;have i1:i<(ib xL i h).2.2.2.2.2.1.length:=by rw[kk.vec];exact hi
 rw[show ib xL (i+1) h=xL i (ib xL i h) from rfl];generalize ib xL i h=s at i1⊢;simp only[rT,xL];rw[jP,af,al i1];simp only[aX i1,ab,abM,ay];rw[aj (by omega) (by omega)];rfl;simp only[rT];rw[gq,ae]
theorem afB (h:Host)(k:IW h)(z:bu 1000000000 cK h):zk h=some (Hs h):=by
 have xV:=cS;unfold zk Hs;rw[kC h z,ab];have hv:h.2.2.2.2.2.1.length<=10^9:=z.2.2.2.2.2.1.1;cases hb:fF h with
 |false=>
  obtain⟨g,hg⟩:∃g,fuel=g+1:=⟨fuel-1,by omega⟩
  rw[hg,aJ,nX,ud h k,hb];cases decide ((0:Int)<(h.2.2.2.2.2.1.length:Int))<;>rfl
 |true=>
  simp only[af];refine cD (λi=>((i:Int),ib xL i h)) h.2.2.2.2.2.1.length (by omega) (λi nx hi=>?_) (λnx=>?_);have kk:=sW FO h i;have i1:i<(ib xL i h).2.2.2.2.2.1.length:=by rw[kk.vec];exact hi
  have e1:=kk.W1 i (aU _);rw[al i1,al hi]at e1;have e2:=cB e1;rw[show ib xL (i+1) h=xL i (ib xL i h) from rfl];generalize ib xL i h=s at i1 e2⊢;simp only[nX,xL,ud h k,hb];rw[jP,af,al i1];simp only[aX i1,aX hi,ab,acW,ay,af,e2];rw[aj (by omega) (by omega)];rfl;simp only[nX];rw[gq,ae,ab,ae]
structure CU (n:Nat) (h:Host):Prop where
 z:bu n cK h
 t:h.2.2.1.2.1.2.2.2.length+(ch h.2.2.1.2.2.1).length<=n
theorem CU.mono {n m:Nat}(k:CU n h)(hn:n<=m:=by omega):CU m h:=⟨k.z.mono hn,aE k.t hn⟩
theorem CU.sz {n:Nat}(k:CU n h)(hn:n<=10^9:=by omega):IW h:=by have z:bu 1000000000 cK h:=k.z.mono hn;exact⟨z.1.1,z.2.1.1,z.2.2.1.2.2.1.1,aE k.t hn,z.2.2.2.2.2.2.2.1.2.2.1,z.2.2.2.2.2.2.2.2.1.1.1,z.2.2.2.2.2.2.2.2.1.2.1.1,z.2.2.2.2.2.2.2.2.1.2.2.2.1,λp hp=>(z.2.2.2.2.1.2 p hp).2.2.2.1⟩
theorem CU.of (k:rG cK h<=1048576):CU 1048576 h:=by refine⟨H8 k,?_⟩;have hb:=ZU h.2.2.1.2.2.1;simp_all[rG];omega
def vt (p:cj):ar gE->cj
 |[]=>p
 |x::l=>vt (Oj p x.2.2).1 l
theorem HL:∀(l:ar gE)(p:cj),(vt p l).2.2.2.length<=p.2.2.2.length+(ch l).length
 |[],p=>by simp[vt]
 |x::l,p=>by have h1:=U9 p x.2.2;have h2:=HL l (Oj p x.2.2).1;grind[vt,ch]
theorem Lh:∀(l:ar gE)(p:cj)(x:gE),vt p (l++[x])=(Oj (vt p l) x.2.2).1
 |[],p,x=>rfl
 |y::l,p,x=>by rw[List.cons_append,vt,vt,Lh l]
theorem NQ (a b:ar gE):(ch (a++b)).length=(ch a).length+(ch b).length:=by grind[ch]
theorem NR (l:ar gE)(n:Nat):(ch (l.take n)).length+(ch (l.drop n)).length=(ch l).length:=by rw[<-NQ,cp]
def lP (t:bA)(n:Int):bA×eF:=
 bif PZ t&&dH n 0 (t.2.2.1.length:Int) then((t.1,vt t.2.1 (t.2.2.1.take n.toNat),t.2.2.1.drop n.toNat,t.2.2.2),(t.2.2.1.take n.toNat).map (·.1)) else(t,[])
theorem aaw {l:ar gE}(h:(ch l).length<=10^9:=by omega):∀x∈l,x.2.2.length<=10^9:=by intro x hx;induction l with|nil=>cases hx|cons y l ih=>grind[ch]
theorem Te (t:bA)(n:Int)(hw:t.2.2.1.length<=10^9)(hs:t.2.1.2.2.2.length+(ch t.2.2.1).length<=10^9):md t n=some (lP t n):=by
 have hx:=aaw (l:=t.2.2.1);unfold md lP;rw[Jj t ⟨by omega,hw,hx⟩,ab,Yp t hw hs];simp only[ab,dh];cases PZ t;rfl;cases hn:dH n 0 (t.2.2.1.length:Int);rfl;have h:=bM.1 hn;obtain⟨n,rfl⟩:=aI h.1;have hl:n<=t.2.2.1.length:=by omega
 simp only[ai,ae,ab,dX,af,ay];rw[DA (by omega) (by omega),ab,ay];have htl:(t.2.2.1.take n).length=n:=by rw[bm];omega
 rw[htl];refine cD (λi=>(((t.2.2.1.take i).map (·.1),(i:Int),t.1,vt t.2.1 (t.2.2.1.take i),t.2.2):eF×Int×bA)) n (by omega) (λi nx hi=>?_) (λnx=>?_);have hi2:i<(t.2.2.1.take n).length:=by omega
 have hi3:i<t.2.2.1.length:=by omega
 have e1:(t.2.2.1.take n)[i]=t.2.2.1[i]:=List.getElem_take ..;have g1:=HL (t.2.2.1.take i) t.2.1;have g2:=NR t.2.2.1 (i+1);have g3:(ch (t.2.2.1.take (i+1))).length=(ch (t.2.2.1.take i)).length+t.2.2.1[i].2.2.length:=by rw[bj hi3,NQ];simp[ch]
 simp only[jG];rw[jP,af,aX hi2,e1,ab,OF _ _ (by omega),ab,aQ (by simp only[cr,bm,bl];omega),aj (by omega) (by omega),bj hi3,Lh,List.map_append];rfl;simp only[jG];rw[gq,ae,sX (l:=t.2.2.1) n hl rfl,ab,J5 _ (by rw[bf];omega) (λx AJ=>hx x (List.mem_of_mem_drop AJ)),ab]
theorem TW (t:bA)(n:Int)(hw:t.2.2.1.length<=10^9)(hs:t.2.1.2.2.2.length+(ch t.2.2.1).length<=10^9):mz t n=some (lP t n):=by
 have hx:=aaw (l:=t.2.2.1);unfold mz lP;rw[CH t ⟨by omega,hw,hx⟩,ab,Zq t hw hs];simp only[ab,cM];cases PZ t;rfl;cases hn:dH n 0 (t.2.2.1.length:Int);rfl;have h:=bM.1 hn;obtain⟨n,rfl⟩:=aI h.1;have hl:n<=t.2.2.1.length:=by omega
 simp only[ai,ae,ab,dX,af,ay];refine cD (λi=>(((t.2.2.1.take i).map (·.1),(i:Int),t.1,vt t.2.1 (t.2.2.1.take i),t.2.2):eF×Int×bA)) n (by omega) (λi nx hi=>?_) (λnx=>?_);have hi3:i<t.2.2.1.length:=by omega
 have g1:=HL (t.2.2.1.take i) t.2.1;have g2:=NR t.2.2.1 (i+1);have g3:(ch (t.2.2.1.take (i+1))).length=(ch (t.2.2.1.take i)).length+t.2.2.1[i].2.2.length:=by rw[bj hi3,NQ];simp[ch]
 simp only[jM];rw[jP,af,aX hi3,ab,aQ (by simp only[cr,bm,bl];omega),ab,Pw _ _ (by omega),ab,aj (by omega) (by omega),bj hi3,Lh,List.map_append];rfl;simp only[jM];rw[gq,ae,sX (l:=t.2.2.1) n hl rfl,ab]
theorem QZ (n:Int):∀l:ar gE,l.all (jK n)=true->(l.length:Int)<=ed l
 |[],_=>by simp[ed]
 |x::l,h=>by simp only[bN,ah]at h;have:=QZ n l h.2;grind[jK,bM,ed]
theorem FQ {t:bA}(h:PZ t=true):t.2.2.1.length<=16:=by unfold PZ at h;simp only[ah,bE]at h;have h1:=QZ _ _ h.2.2.2.1;have h2:=(qw h.1).2.2.1;omega
theorem EJ {t:bA}(n:Int)(z:bu k fD t)(hs:t.2.1.2.2.2.length+(ch t.2.2.1).length<=k): bu k fD (lP t n).1/\(lP t n).1.2.1.2.2.2.length+(ch (lP t n).1.2.2.1).length<=k/\(lP t n).2.length<=16:=by unfold lP;cases h:PZ t&&dH n 0 (t.2.2.1.length:Int)with|false=>exact⟨z,hs,eH _⟩|true=>simp only[ah]at h;have W9:=FQ h.1;have g1:=HL (t.2.2.1.take n.toNat) t.2.1;have g2:=NR t.2.2.1 n.toNat;have hw:t.2.2.1.length<=k:=z.2.2.1.1;refine⟨⟨z.1,⟨bV,bV,bV,?_,λ_ _=>trivial⟩,⟨?_,λx hx=>z.2.2.1.2 x (List.mem_of_mem_drop hx)⟩,z.2.2.2⟩,?_,?_⟩;show(vt t.2.1 (t.2.2.1.take n.toNat)).2.2.2.length<=k;omega;show(t.2.2.1.drop n.toNat).length<=k;rw[bf];omega;show(vt t.2.1 (t.2.2.1.take n.toNat)).2.2.2.length+(ch (t.2.2.1.drop n.toNat)).length<=k;omega;show((t.2.2.1.take n.toNat).map (·.1)).length<=16;rw[cr,bm];omega
theorem Lt {n:Nat}{t:CT}{l q:ar t.D}(z:bu n (.sl t) l)(hq:∀y∈q,bu n t y)(hk:q.length<=k):bu (n+k) (.sl t) (l++q):=by refine⟨?_,λy hy=>?_⟩;show(l++q).length<=n+k;have:=z.1;rw[au];omega;rcases az.1 hy with h|h;exact(z.2 y h).mono;exact(hq y h).mono
def sY (h:Host):Host:=bif fF h then
    (h.1,h.2.1,(lP ((kE h.2.1 h.1 0 h.2.2.1.1).1,h.2.2.1.2) (if(h.2.2.1.2.2.1.length:Int)<ak ((kE h.2.1 h.1 0 h.2.2.1.1).2.2.1+(kE h.2.1 h.1 0 h.2.2.1.1).2.2.2) then(h.2.2.1.2.2.1.length:Int) else ak ((kE h.2.1 h.1 0 h.2.2.1.1).2.2.1+(kE h.2.1 h.1 0 h.2.2.1.1).2.2.2))).1,
      h.2.2.2.1,h.2.2.2.2.1,h.2.2.2.2.2.1,h.2.2.2.2.2.2.1,h.2.2.2.2.2.2.2.1,h.2.2.2.2.2.2.2.2.1,h.2.2.2.2.2.2.2.2.2.1,h.2.2.2.2.2.2.2.2.2.2.1,h.2.2.2.2.2.2.2.2.2.2.2.1++(kE h.2.1 h.1 0 h.2.2.1.1).2.1,
      h.2.2.2.2.2.2.2.2.2.2.2.2.1++(lP ((kE h.2.1 h.1 0 h.2.2.1.1).1,h.2.2.1.2) (if(h.2.2.1.2.2.1.length:Int)<ak ((kE h.2.1 h.1 0 h.2.2.1.1).2.2.1+(kE h.2.1 h.1 0 h.2.2.1.1).2.2.2) then(h.2.2.1.2.2.1.length:Int) else ak ((kE h.2.1 h.1 0 h.2.2.1.1).2.2.1+(kE h.2.1 h.1 0 h.2.2.1.1).2.2.2))).2,h.2.2.2.2.2.2.2.2.2.2.2.2.2) else h
theorem Tn (h:Host)(k:CU 900000000 h):qj h=some (sY h):=by have z:bu 1000000000 cK h:=k.z.mono;have hz:=k.sz;have hm:h.1.length<=900000000:=k.z.1.1;have hl:h.2.1.length<=900000000:=k.z.2.1.1;have hw:h.2.2.1.2.2.1.length<=900000000:=k.z.2.2.1.2.2.1.1;have hwi:h.2.2.2.2.2.2.2.2.2.2.2.1.length<=900000000:=k.z.2.2.2.2.2.2.2.2.2.2.2.1.1;have hco:h.2.2.2.2.2.2.2.2.2.2.2.2.1.length<=900000000:=k.z.2.2.2.2.2.2.2.2.2.2.2.2.1.1;have hA:=Ew h.2.1 h.1 0 17 [] 0 0 h.2.2.1.1 (λx hx=>by cases hx);unfold qj sY;rw[kx h z,ab,zG h hz,ab];cases fF h;rfl;simp only[ai,ae,af,abN h.2.1 h.1 0 _ (show h.2.1.length<=10^9 by omega) (show h.1.length<=10^9 by omega),ab];rw[show rE h.2.1 h.1 0 17 [] 0 0 h.2.2.1.1=kE h.2.1 h.1 0 h.2.2.1.1 from rfl]at hA;generalize kE h.2.1 h.1 0 h.2.2.1.1=x at hA⊢;simp only[eh]at hA;have hC:=EJ (k:=900000000) (t:=(x.1,h.2.2.1.2)) (if(h.2.2.1.2.2.1.length:Int)<ak (x.2.2.1+x.2.2.2) then(h.2.2.1.2.2.1.length:Int) else ak (x.2.2.1+x.2.2.2)) ⟨⟨bV,bV,bV,bV⟩,k.z.2.2.1.2⟩ k.t;rw[aQ (by omega),Te (x.1,h.2.2.1.2) _ (by grind) (aE k.t (by omega)),ab,aQ (by omega)]
theorem T6 (h:Host)(k:CU 900000000 h):qA h=some (sY h):=by have z:bu 1000000000 cK h:=k.z.mono;have hz:=k.sz;have hm:h.1.length<=900000000:=k.z.1.1;have hl:h.2.1.length<=900000000:=k.z.2.1.1;have hw:h.2.2.1.2.2.1.length<=900000000:=k.z.2.2.1.2.2.1.1;have hwi:h.2.2.2.2.2.2.2.2.2.2.2.1.length<=900000000:=k.z.2.2.2.2.2.2.2.2.2.2.2.1.1;have hco:h.2.2.2.2.2.2.2.2.2.2.2.2.1.length<=900000000:=k.z.2.2.2.2.2.2.2.2.2.2.2.2.1.1;have hA:=Ew h.2.1 h.1 0 17 [] 0 0 h.2.2.1.1 (λx hx=>by cases hx);unfold qA sY;rw[kC h z,ab,ud h hz,ab];cases fF h;rfl;simp only[ai,ae,af,acX h.2.1 h.1 0 _ (show h.2.1.length<=10^9 by omega) (show h.1.length<=10^9 by omega),ab];rw[show rE h.2.1 h.1 0 17 [] 0 0 h.2.2.1.1=kE h.2.1 h.1 0 h.2.2.1.1 from rfl]at hA;generalize kE h.2.1 h.1 0 h.2.2.1.1=x at hA⊢;simp only[eh]at hA;have hC:=EJ (k:=900000000) (t:=(x.1,h.2.2.1.2)) (if(h.2.2.1.2.2.1.length:Int)<ak (x.2.2.1+x.2.2.2) then(h.2.2.1.2.2.1.length:Int) else ak (x.2.2.1+x.2.2.2)) ⟨⟨bV,bV,bV,bV⟩,k.z.2.2.1.2⟩ k.t;rw[aQ (by omega),TW (x.1,h.2.2.1.2) _ (by grind) (aE k.t (by omega)),ab,aQ (by omega)]
theorem Ui {n:Nat}(hn:400<=n)(k:CU n h):CU (n+5440) (sY h):=by have k':CU (n+5440) h:=k.mono;have hA:=Ew h.2.1 h.1 0 17 [] 0 0 h.2.2.1.1 (λx hx=>by cases hx);unfold sY;cases fF h;exact k';rw[show rE h.2.1 h.1 0 17 [] 0 0 h.2.2.1.1=kE h.2.1 h.1 0 h.2.2.1.1 from rfl]at hA;generalize kE h.2.1 h.1 0 h.2.2.1.1=x at hA⊢;simp only[eh]at hA;generalize (if(h.2.2.1.2.2.1.length:Int)<ak (x.2.2.1+x.2.2.2) then(h.2.2.1.2.2.1.length:Int) else ak (x.2.2.1+x.2.2.2))=q;have hC:=EJ (k:=n) (t:=(x.1,h.2.2.1.2)) q ⟨⟨bV,bV,bV,bV⟩,k.z.2.2.1.2⟩ k.t;have z:=k'.z;refine⟨⟨z.1,z.2.1,hC.1.mono,z.2.2.2.1,z.2.2.2.2.1,z.2.2.2.2.2.1,z.2.2.2.2.2.2.1,z.2.2.2.2.2.2.2.1,z.2.2.2.2.2.2.2.2.1,z.2.2.2.2.2.2.2.2.2.1,bV,?_,?_,z.2.2.2.2.2.2.2.2.2.2.2.2.2⟩,aE hC.2.1 (by omega)⟩;exact Lt (t:=.str) (n:=n) (k:=5440) k.z.2.2.2.2.2.2.2.2.2.2.2.1 (λy hy=>by show y.length<=_;grind) (by omega);exact(Lt (t:=.int .i64) (n:=n) (k:=16) k.z.2.2.2.2.2.2.2.2.2.2.2.2.1 (λ_ _=>trivial) hC.2.2).mono
def AH (l:ar aA)(d:Int)(p:cj)(z:Nat):eF->Bytes->br->ar eZ->aw (ar eZ×br)
 |[],_,m,a=>some (a,m)
 |b::q,s,m,a=>bif (mO l m d (lH p b) (s.take z) false).2 then AH l d p z q (s.drop z) (mO l m d (lH p b) (s.take z) false).1 (a++[(lH p b,((s.take z).length:Int))]) else none
theorem JQ (l:ar aA)(d:Int)(p:cj)(z:Nat):∀(q:eF)(s:Bytes)(m:br)(a:ar eZ){x},AH l d p z q s m a=some x->
 x.2.length=m.length/\x.1.length=a.length+q.length/\∀y∈x.1,y∈a\/((∃b∈q,y.1=lH p b)/\0<=y.2/\y.2<=(z:Int))
 |[],s,m,a,x,h=>by cases h;exact⟨rfl,rfl,λy hy=>Or.inl hy⟩
 |b::q,s,m,a,x,h=>by rw[AH]at h;cases hq:(mO l m d (lH p b) (s.take z) false).2 with|false=>rw[hq]at h;cases h|true=>rw[hq]at h;obtain⟨h1,h2,h3⟩:=JQ l d p z q _ _ _ h;rw[mu]at h1;rw[au,bl]at h2;refine⟨h1,by rw[bC];omega,λy hy=>?_⟩;rcases h3 y hy with g|⟨⟨b',gH,g⟩,g2⟩;rcases az.1 g with g|g;exact Or.inl g;rw[eL.1 g];refine Or.inr ⟨⟨b,List.mem_cons_self ..,rfl⟩,?_,?_⟩;show(0:Int)<=((s.take z).length:Int);omega;show((s.take z).length:Int)<=(z:Int);rw[bm];omega;exact Or.inr ⟨⟨b',ec _ gH,g⟩,g2⟩
theorem Nd (p:cj)(i:Int): -1<=lH p i/\lH p i<=139136:=by unfold lH;cases hb: !gn p|| !dH i 0 (p.2.2.1-1)with|true=>grind|false=>simp only[dB,eK]at hb;have h:=Dt hb.1;have h2:=bM.1 hb.2;have h3:0<=i*p.2.1:=Int.mul_nonneg h2.1 (by omega);have h4:i*p.2.1<=16*512:=Int.mul_le_mul (by omega) (by omega) (by omega) (by omega);simp only[ae];omega
theorem adr {p:cj}(hp:gn p=true){b:Int}(hb:b∈p.2.2.2):0<=lH p b:=by obtain⟨i,hi,rfl⟩:=List.getElem_of_mem hb;have hq:=hp;simp only[gn,ah]at hq;have:=aW.1 hq.2.2.2 i (dx.2 hi);simp only[L8,ah,fM hi]at this;have hn:=this.1;have h:=Dt hp;have h2:=bM.1 hn;have h3:0<=p.2.2.2[i]*p.2.1:=Int.mul_nonneg h2.1 (by omega);grind[lH]
theorem WN (s:Bytes)(z:Nat):sub s 0 (if(s.length:Int)<(z:Int) then(s.length:Int) else(z:Int))=some (s.take z):=by grind[DA,bB]
theorem UO (s:Bytes)(z:Nat):sub s ((s.take z).length:Int) (s.length:Int)=some (s.drop z):=by grind[WH,List.drop_eq_nil_of_le]
def adh:aw (ar eZ×br)->aw (Bool×br×ar eZ×Bool)->Prop
 |some x,r=>r=some (true,x.2,x.1,true)
 |none,r=>∃c m,r=some (c,m,[],false)
theorem Iz (l:ar aA)(d:Int)(p:cj)(z:Nat)(B:br)(hp:p.2.2.2.length<=10^9)(hl:l.length<=10^9):∀(rest pre:eF)(s:Bytes)(m:br)(a:ar eZ)(f:Nat),rest.length<f->(pre++rest).length<=1000000->a.length+rest.length<=1000000->m.length<=10^9->
 adh (AH l d p z rest s m a) (aJ (kf (λ_ EC _ Su=>some (true,Su,EC,true)) (λ_ Xi ZJ _ _ _ y23=>some (true,y23,Xi,ZJ)) l d (z:Int) ([]:ar eZ) false (pre++rest) ((pre++rest).length:Int) p B) f (s,a,(pre.length:Int),m))
 |rest,pre,s,m,a,0,hf,_,_,_=>by omega
 |[],pre,s,m,a,f+1,_,_,_,_=>by rw[aJ];simp only[kf];rw[aq (by simp),ae];rfl
 |b::q,pre,s,m,a,f+1,hf,hn,ha,hm=>by
  simp only[bC,au]at hf hn ha;have hi:pre.length<(pre++b::q).length:=by simp
  have hb:(pre++b::q)[pre.length]=b:=by simp
  have hA:=Nd p b;rw[aJ];simp only[kf];rw[ax (by simp;omega),aX hi,hb];simp only[af,ab,WN,UO,J4 p b hp,DH l m d (lH p b) (s.take z) hl hm];rw[AH];cases hq:(mO l m d (lH p b) (s.take z) false).2 with|false=>exact⟨_,_,rfl⟩|true=>simp only[ai,ae,af];rw[aj (n:=(pre.length:Int)+1) (by omega) (by omega),aQ (by grind)];have key:=Iz l d p z B hp hl q (pre++[b]) (s.drop z) (mO l m d (lH p b) (s.take z) false).1 (a++[(lH p b,((s.take z).length:Int))]) f (by omega) (by simp;omega) (by simp;omega) (by rw[mu];exact hm);grind
theorem abw (l:ar aA)(m:br)(d:Int)(p:cj)(q:eF)(s:Bytes)(z:Nat)(hp:p.2.2.2.length<=10^9)(hl:l.length<=10^9)(hm:m.length<=10^9)(hq:q.length<=1000)(h0:0<q.length): adh (AH l d p z q s m []) (nG l m d p q s (z:Int)):=by have xV:=cS;cases q with|nil=>cases h0|cons b q=>simp only[bC]at hq;have hA:=Nd p b;have hi:idx (b::q) 0=some b:=rfl;unfold nG;rw[ax (by simp),af,hi];simp only[ab,WN,UO,J4 p b hp,DH l m d (lH p b) (s.take z) hl hm];rw[AH];cases hq':(mO l m d (lH p b) (s.take z) false).2 with|false=>exact⟨_,_,rfl⟩|true=>simp only[ai,ae,af];rw[aQ (by simp),show ak (0+1)=1 from rfl];exact Iz l d p z _ hp hl q [b] (s.drop z) (mO l m d (lH p b) (s.take z) false).1 [(lH p b,((s.take z).length:Int))] fuel (by omega) (by simp;omega) (by simp;omega) (by rw[mu];exact hm)
theorem IL (K:ar eZ->Int->br->aw (br×bA×Bool))(l:ar aA)(d c N:Int)(z:Nat)(t:Bytes)(M:br)(A B2:bA)(B1:br)(B3:cj)(hp:A.2.1.2.2.2.length<=10^9)(hl:l.length<=10^9)(hM:M.length<=10^9)(hA:Xn A)(ht:t.length<=1000)(hz:z<=1000):∀(rest pre:eF)(m:br)(a:ar eZ)(f:Nat),rest.length<f->(pre++rest).length<=1000->a.length+rest.length<=1000000->m.length<=10^9->(∀i<(pre++rest).length,i*z<=t.length)->N=((pre++rest).length:Int)->
 aJ (kl K (λy34 _ _ y37 y38 _=>some (y37,y38,y34)) l d c (z:Int) false t N (pre++rest) M A B1 B2 B3) f (a,(pre.length:Int),m)=
  (match AH l d A.2.1 z rest (t.drop (pre.length*z)) m a with|some x=>K x.1 N x.2|none=>some (M,A,false))
 |rest,pre,m,a,0,hf,_,_,_,_,_=>by omega
 |[],pre,m,a,f+1,_,_,_,_,_,hN=>by rw[aJ];simp only[kl];rw[aq (by rw[hN];simp),ae,hN,bp];rfl
 |b::q,pre,m,a,f+1,hf,hn,ha,hm,hiz,hN=>by
  simp only[bC]at hf ha;have hi:pre.length<(pre++b::q).length:=by simp
  have hb:(pre++b::q)[pre.length]=b:=by simp
  have hB:=Nd A.2.1 b;have h1:=hiz pre.length hi;have h2:(pre.length+1)*z=pre.length*z+z:=Nat.succ_mul ..;have hs:sub t (ak ((pre.length:Int)*(z:Int))) (if ak (ak ((pre.length:Int)+1)*(z:Int))<(t.length:Int) then ak (ak ((pre.length:Int)+1)*(z:Int)) else(t.length:Int))=some ((t.drop (pre.length*z)).take z):=by rw[aj (n:=(pre.length:Int)+1) (by omega) (by omega),show(pre.length:Int)*(z:Int)=((pre.length*z:Nat):Int) by simp,show((pre.length:Int)+1)*(z:Int)=((pre.length*z+z:Nat):Int) by rw[<-h2];simp];generalize pre.length*z=g at h1⊢;rw[aj (n:=(g:Int)) (by omega) (by omega),aj (n:=((g+z:Nat):Int)) (by omega) (by omega)];by_cases gV:((g+z:Nat):Int)<(t.length:Int);rw[aG gV];unfold sub;rw[zip];simp only[ay,aZ];rw[List.drop_take,Nat.add_sub_cancel_left];rw[aF gV];unfold sub;rw[zip];simp only[ay,aZ];rw[bB (aU _),bB (by rw[bf];omega)]
  rw[aJ];simp only[kl];rw[jP,af,hs,aX hi,hb];simp only[ab,Pr A.2.1 b hp,IM l m d (lH A.2.1 b) _ hl hm (show lH A.2.1 b<=9223372036854775807 by omega)];rw[AH];cases hq:(mO l m d (lH A.2.1 b) ((t.drop (pre.length*z)).take z) false).2 with
  |false=>simp only[cf,af,ae,hU M,CH A hA,ab]
  |true=>
   simp only[ai,ae,af];rw[aj (n:=(pre.length:Int)+1) (by omega) (by omega),aQ (by simp only[bl];omega)];have key:=IL K l d c N z t M A B2 B1 B3 hp hl hM hA ht hz q (pre++[b]) (mO l m d (lH A.2.1 b) ((t.drop (pre.length*z)).take z) false).1 (a++[(lH A.2.1 b,(((t.drop (pre.length*z)).take z).length:Int))]) f (by omega) (by simpa using hn) (by simp;omega) (by rw[mu];exact hm) (by simpa using hiz) (by simpa using hN);have el:((pre++[b]).length:Int)=(pre.length:Int)+1:=by simp
   have el2:(pre++[b]).length=pre.length+1:=by simp
   rw[aN,List.singleton_append,el,el2,h2,<-dY]at key;exact key
theorem ady {ps:ar eZ}{z:Int}(h0:0<ps.length)(W9:ps.length<=16)(hp:∀x∈ps,0<=x.1/\x.1<=200000/\0<=x.2/\x.2<=4096)(hz:dH z 1 128=true)(hc:dH c 0 65535=true):(oo ps z c).length=ps.length+1:=by
 have hz2:=bM.1 hz;have XZ:=bM.1 hc;have e1:lz ps=true:=by unfold lz;rw[ah,aP,bE];refine⟨List.any_eq_false.2 λx hx=>?_,by omega⟩;have:=hp x hx;unfold zW;rw[gq,cI,aP,Bool.eq_false_iff];intro h;exact h (bM.2 (by omega))
 have e2:([((2:Int),(0:Int),(0:Int),(0:Int),z,c)]++tA ps c ps.length).all qN=true:=by rw[List.all_append,ah];constructor;simp only[bN,List.all_nil,ie,qN,ah,bM];omega;rw[HB];refine aW.2 λj hj=>?_;have hj:=dx.1 hj;have:=hp _ (bh hj);simp only[dsc,fM hj,qN,ah,bM];refine⟨by omega,?_,by omega,by omega,by omega,by omega⟩;by_cases hq:j+1=ps.length;rw[aG hq];omega;rw[aF hq];omega
 unfold oo;rw[e1,hz,e2,show((ps.length:Int)==0)=false from by rw[cC];omega];simp only[ai,bU,ae,af,au,bl,BB];omega
theorem Vx (K:br->Int->aw R)(l:ar aA)(d:Int)(q:eF)(ds ds2:ar iq)(t1 t2 t3 t4:bA)(m1 m2 m3:br)(h:ds.length<=1000): aJ (fZ K l d q ds2 ds (ds.length:Int) t1 m1 t2 m2 t3 t4 m3) fuel (([]:br),0)=K (ds.map AO) (ds.length:Int):=by
 have xV:=cS;refine cD (λi=>((ds.take i).map AO,(i:Int))) ds.length (by omega) (λi nx hi=>?_) (λnx=>?_);have e:((ds.take i).map AO).length<=1000:=by simp;omega
 rw[bj hi,List.map_append];simp only[fZ];rw[jP,af,aX hi,ab,Tg,ab,aQ (by simp only[bl];omega),aj (by omega) (by omega)];rfl;simp only[fZ];rw[gq,ae,df]
theorem Wt (K:br->Int->aw R)(l:ar aA)(d n:Int)(q:eF)(ds:ar iq)(t1 t2:bA)(p:cj)(m1 m2 m3:br)(h:ds.length<=1000): aJ (km K l d n q ds m1 t1 m2 t2 p m3) fuel (([]:br),0)=K (ds.map AO) (ds.length:Int):=by
 have xV:=cS;refine cD (λi=>((ds.take i).map AO,(i:Int))) ds.length (by omega) (λi nx hi=>?_) (λnx=>?_);have e:((ds.take i).map AO).length<=1000:=by simp;omega
 rw[bj hi,List.map_append];simp only[km];rw[jP,af,aX hi,ab,TY,ab,aQ (by simp only[bl];omega),aj (by omega) (by omega)];rfl;simp only[km];rw[gq,ae,df]
def qL (p:aS)(z:Nat):Nat:=((iP p).1.length+z-1)/z
def aav (l:ar aA)(m:br)(d:Int)(t:bA)(c:Int)(n:Nat)(x:ar eZ×br):br×bA×Bool:=
 bif (xi l x.2 d t.1 ((oo x.1 c t.2.2.2).map AO)).2.2 then
  ((xi l x.2 d t.1 ((oo x.1 c t.2.2.2).map AO)).1,((xi l x.2 d t.1 ((oo x.1 c t.2.2.2).map AO)).2.1,(kL t.2.1 (n:Int)).1,t.2.2.1++[(t.2.2.2,(n:Int)+1,(kL t.2.1 (n:Int)).2.1)],tmod (t.2.2.2+1) 65536),true)
 else(m,t,false)
def U0 (t:bA)(n:Nat):Bool:=(kL t.2.1 (n:Int)).2.2&&(!decide ((n:Int)>16)&&(!decide ((n:Int)+1>vV t.1)&& !decide (ed t.2.2.1+(n:Int)+1>t.1.2.1)))
def DQ (l:ar aA)(m:br)(d:Int)(t:bA)(p:aS)(c z:Int):br×bA×Bool:=
 bif PZ t&&(ej p&&(dH z 1 t.2.1.2.1&&dH c 1 128)) then
  bif U0 t (qL p z.toNat) then
   match AH l d t.2.1 z.toNat (kL t.2.1 (qL p z.toNat:Int)).2.1 (iP p).1 m []with
   |some x=>aav l m d t c (qL p z.toNat) x
   |none=>(m,t,false)
  else(m,t,false)
 else(m,t,false)
theorem PQ (h:ej p=true):0<(iP p).1.length/\(iP p).1.length<=378:=by grind[xX,Mi,iP,Dw]
theorem ads (len z:Nat)(h:len<=1000:=by omega)(hz:z<=1000:=by omega)(h0:0<z:=by omega):ak (Int.tdiv (ak (ak ((len:Int)+(z:Int))-1)) (z:Int))=(((len+z-1)/z:Nat):Int):=by have hd:(len+z-1)/z<=len+z-1:=Nat.div_le_self ..;grind[aj]
theorem PJ {p:cj}{n:Nat}(h:(kL p (n:Int)).2.2=true):gn p=true/\n<=p.2.2.2.length/\(kL p (n:Int)).2.1=p.2.2.2.take n:=by grind[kL,bM]
theorem Rb {t:bA}{z n:Nat}{x:ar eZ×br}(ht:PZ t=true)(hz:z<=512)(hc:dH c 1 128=true)(h0:0<n)(W9:n<=16)(hk:(kL t.2.1 (n:Int)).2.2=true)(hx:AH l d t.2.1 z (kL t.2.1 (n:Int)).2.1 s m []=some x):x.2.length=m.length/\(oo x.1 c t.2.2.2).length=n+1:=by
 obtain⟨hp,hn,hb⟩:=PJ hk;rw[hb]at hx;obtain⟨h1,h2,h3⟩:=JQ l d t.2.1 z _ _ _ _ hx;simp only[eh,bm,cm]at h2;have e:x.1.length=n:=by omega
 refine⟨h1,?_⟩;rw[ady (by omega) (by omega) (λy hy=>?_) hc (by simp only[PZ,ah]at ht;exact ht.2.2.1),e];rcases h3 y hy with g|⟨⟨b,gH,g⟩,g2⟩;cases g;have q1:=adr hp (List.mem_of_mem_take gH);have q2:=Nd t.2.1 b;rw[g];omega
theorem acP (l:ar aA)(m:br)(d:Int)(t:bA)(p:aS)(c z:Int)(hl:l.length<=10^9)(hm:m.length<=10^9)(ht:Xn t)(h1:t.2.2.1.length<=10^9)(h2:t.2.1.2.2.2.length+(ch t.2.2.1).length<=10^9):uW l m d t p c z=some (DQ l m d t p c z):=by
 have xV:=cS;unfold uW DQ;rw[Sg,ab,Zq t h1 h2,ab,cM,cM];have e0:(iP p).2=ej p:=by grind[iP]
 rw[e0];simp only[hU m,CH t ht,ab];cases hb:PZ t;rfl;cases hp:ej p;rfl;cases hz:dH z 1 t.2.1.2.1;rfl;cases hc:dH c 1 128;rfl;have hT:=PQ hp;have hz2:=bM.1 hz;have hq:=hb;simp only[PZ,ah]at hq;have CR:=Dt hq.2.1;have W9:=FQ hb;have Vm:=qw hq.1;have hnx:=bM.1 hq.2.2.1;obtain⟨z,rfl⟩:=aI (by omega:0<=z);have hzn:(z:Int)≠0:=by omega
 have hS:∀x∈t.2.2.1,0<=x.2.1/\x.2.1<=16:=λx hx=>by grind[jK,bM]
 have hcb:=zE _ hS;have hN:qL p z<=1000:=by have:qL p z<=(iP p).1.length+z-1:=Nat.div_le_self ..;omega
 have hN0:0<qL p z:=Nat.div_pos (by omega) (by omega);have hce:=ads (iP p).1.length z;rw[show((iP p).1.length+z-1)/z=qL p z from rfl]at hce;have hfi: -1<=vV t.1:=by have:=U6 t.1;omega
 simp only[ai,ae,ab,dX,af,ay,aF hzn,hce,acU _ _ (show t.2.1.2.2.2.length<=10^9 by omega),HY,acQ t (by omega) hS,U0];rw[aj (n:=(qL p z:Int)+1) (by omega) (by omega),aj (n:=ed t.2.2.1+(qL p z:Int)) (by omega) (by omega),aj (n:=ed t.2.2.1+(qL p z:Int)+1) (by omega) (by omega)];cases hk:(kL t.2.1 (qL p z:Int)).2.2;rfl;by_cases g1:(qL p z:Int)>16;rw[ax g1];rfl;rw[aq g1];simp only[ai,cf,ae,bF];cases decide ((qL p z:Int)+1>vV t.1);case true=>rfl
 simp only[ai,cf,ae,bF,ab];cases decide (ed t.2.2.1+(qL p z:Int)+1>t.1.2.1);case true=>rfl
 simp only[ai,cf,ae,af,ab];obtain⟨_,hkn,Ri⟩:=PJ hk;have hkl:(kL t.2.1 (qL p z:Int)).2.1.length=qL p z:=by rw[Ri,bm];omega
 have hiz:∀i<qL p z,i*z<=(iP p).1.length:=λi hi=>by have:=(Nat.le_div_iff_mul_le (by omega:0<z)).1 (show i+1<=((iP p).1.length+z-1)/z from hi);grind
 refine(IL _ l d c _ z (iP p).1 m t _ _ _ (by omega) hl hm ht (by omega) (by omega) (kL t.2.1 (qL p z:Int)).2.1 [] m [] fuel (by omega) (by rw[bR];omega) (by rw[eh];omega) hm (λi hi=>hiz i (by grind)) (by rw[bR,hkl])).trans ?_;simp only[eh,Nat.zero_mul,fa];cases hx:AH l d t.2.1 z (kL t.2.1 (qL p z:Int)).2.1 (iP p).1 m []with|none=>rfl|some x=>obtain⟨x1,x2⟩:=Rb hb (by omega) hc hN0 (by omega) hk hx;obtain⟨_,x3,_⟩:=JQ l d t.2.1 z _ _ _ _ hx;simp only[eh]at x3;simp only[KF x.1 c t.2.2.2 (by omega),ab,aav];rw[Wt _ _ _ _ _ _ _ _ _ _ _ _ (by omega)];simp only[Zo l x.2 d t.1 _ hl (by omega) (show((oo x.1 c t.2.2.2).map AO).length<=10^9 by rw[cr];omega),ab,hU m (show m.length<=1073741824 by omega),CH t ht];cases (xi l x.2 d t.1 ((oo x.1 c t.2.2.2).map AO)).2.2 with|false=>rfl|true=>rw[show(((oo x.1 c t.2.2.2).length:Int)==0)=false from by rw[cC];omega];grind[ab,aQ,aj]
theorem abF (l:ar aA)(m:br)(d:Int)(t:bA)(p:aS)(c z:Int)(hl:l.length<=10^9)(hm:m.length<=10^9)(ht:Xn t)(h1:t.2.2.1.length<=10^9)(h2:t.2.1.2.2.2.length+(ch t.2.2.1).length<=10^9):uB l m d t p c z=some (DQ l m d t p c z):=by
 have xV:=cS;unfold uB DQ;rw[fT m,ab,Jj t ht,ab,Yp t h1 h2,ab,pM,dh,dh];simp only[ab];cases hb:PZ t;rfl;cases hp:ej p;rfl;cases hz:dH z 1 t.2.1.2.1;rfl;cases hc:dH c 1 128;rfl;have hT:=PQ hp;have hz2:=bM.1 hz;have hq:=hb;simp only[PZ,ah]at hq;have CR:=Dt hq.2.1;have W9:=FQ hb;have Vm:=qw hq.1;have hnx:=bM.1 hq.2.2.1;obtain⟨z,rfl⟩:=aI (by omega:0<=z);have hzn:¬(z:Int)=0:=by omega
 have hS:∀x∈t.2.2.1,0<=x.2.1/\x.2.1<=16:=λx hx=>by grind[jK,bM]
 have hcb:=zE _ hS;have hN:qL p z<=1000:=by have:qL p z<=(iP p).1.length+z-1:=Nat.div_le_self ..;omega
 have hN0:0<qL p z:=Nat.div_pos (by omega) (by omega);have hce:=ads (iP p).1.length z;rw[show((iP p).1.length+z-1)/z=qL p z from rfl]at hce;simp only[ai,ae,ab,dX,af,ay,RA,aF hzn,hce,abK _ _ (show t.2.1.2.2.2.length<=10^9 by omega),Rr,abG t (by omega) hS,U0];rw[aj (n:=(qL p z:Int)+1) (by omega) (by omega),aj (n:=ed t.2.2.1+(qL p z:Int)) (by omega) (by omega),aj (n:=ed t.2.2.1+(qL p z:Int)+1) (by omega) (by omega)];by_cases g1:(qL p z:Int)>16;simp_all;rw[aq g1];simp only[cf,ae,bF];cases decide ((qL p z:Int)+1>vV t.1)with|true=>simp_all|false=> ?_
 simp only[cf,ae,bF,ab];cases decide (ed t.2.2.1+(qL p z:Int)+1>t.1.2.1)with|true=>grind|false=> ?_
 simp only[cf,ae,ie,ab];cases hk:(kL t.2.1 (qL p z:Int)).2.2;rfl;simp only[ai,ae,af,fT m (show m.length<=1073741824 by omega),ab];obtain⟨_,hkn,Ri⟩:=PJ hk;have hkl:(kL t.2.1 (qL p z:Int)).2.1.length=qL p z:=by rw[Ri,bm];omega
 have key:=abw l m d t.2.1 (kL t.2.1 (qL p z:Int)).2.1 (iP p).1 z (by omega) hl hm (by omega) (by omega);cases hx:AH l d t.2.1 z (kL t.2.1 (qL p z:Int)).2.1 (iP p).1 m []with
 |none=>rw[hx]at key;obtain⟨a,b,e⟩:=key;obtain⟨f,g,_⟩:=EU [] c t.2.2.2 (by simp);simp_all
 |some x=>
  rw[hx]at key;have key:nG _ _ _ _ _ _ _=_:=key;obtain⟨x1,x2⟩:=Rb hb (by omega) hc hN0 (by omega) hk hx;obtain⟨_,x3,_⟩:=JQ l d t.2.1 z _ _ _ _ hx;simp only[eh]at x3;obtain⟨f,g,hf⟩:=EU x.1 c t.2.2.2;have hft:f=true:=by grind
  subst hft;simp only[key,g,ab,af,ai,ae,aF (show¬(oo x.1 c t.2.2.2).length=0 by omega),aav];grind[Vx,Ym,ab,aQ,aj]
def T8 (g:Nat->Host->Host):Nat->Host->Host
 |0,h=>h
 |k+1,h=>g k (T8 g k h)
structure FY (a b:Host):Prop where
 maps:b.2.1=a.2.1
 tx:b.2.2.1=a.2.2.1
 rx:b.2.2.2.1.length=a.2.2.2.1.length
 pl:b.2.2.2.2.1.length=a.2.2.2.2.1.length
 vec:b.2.2.2.2.2.1=a.2.2.2.2.2.1
 pol:b.2.2.2.2.2.2.1=a.2.2.2.2.2.2.1
 ret:b.2.2.2.2.2.2.2.2.2.2.2.2.2.1=a.2.2.2.2.2.2.2.2.2.2.2.2.2.1
theorem FY.refl (a:Host):FY a a:=⟨rfl,rfl,rfl,rfl,rfl,rfl,rfl⟩
theorem FY.trans {a b c:Host}(h:FY a b)(k:FY b c):FY a c:=⟨k.1.trans h.1,k.2.trans h.2,k.3.trans h.3,k.4.trans h.4,k.5.trans h.5,k.6.trans h.6,k.7.trans h.7⟩
theorem V3 (h:Host)(i:Nat)(c:Int):FY h (Fq h i c).2:=by unfold Fq;rcases h1:h.2.2.2.1[i]? with _|rx;exact FY.refl h;rcases h2:h.2.2.2.2.1[i]? with _|pl;exact FY.refl h;exact⟨rfl,rfl,aH ..,aH ..,rfl,rfl,rfl⟩
def sB (h:Host)(k:Nat):Host:=T8 (λi s=>(Fq s i 1000).2) k h
theorem CB {n:Nat}(hn:128<=n)(z:bu n cK h):∀k,FY h (sB h k)/\bu (n+322000*k) cK (sB h k)
 |0=>⟨FY.refl h,z⟩
 |k+1=>by have i:=CB hn z k;exact⟨i.1.trans (V3 ..),(YW (by omega) k 1000 i.2).mono⟩
def ajs (h:Host)(l:eF):Host:=(h.1,h.2.1,h.2.2.1,h.2.2.2.1,h.2.2.2.2.1,h.2.2.2.2.2.1,h.2.2.2.2.2.2.1,h.2.2.2.2.2.2.2.1,h.2.2.2.2.2.2.2.2.1,h.2.2.2.2.2.2.2.2.2.1,h.2.2.2.2.2.2.2.2.2.2.1,h.2.2.2.2.2.2.2.2.2.2.2.1,h.2.2.2.2.2.2.2.2.2.2.2.2.1,h.2.2.2.2.2.2.2.2.2.2.2.2.2.1++l,h.2.2.2.2.2.2.2.2.2.2.2.2.2.2)
def Uj (h:Host):Host:=(h.1,h.2.1,(ML.1,ML.2.1,ML.2.2.1,h.2.2.1.2.2.2),h.2.2.2)
def Gl (h:Host)(i:Nat)(dr:Int):Host:=
 ((Gm h.2.1 h.1 i).1,h.2.1,h.2.2.1,h.2.2.2.1.set i ((Gm h.2.1 h.1 i).2.1,(Pj i).2.1,(Pj i).2.2.1,(Pj i).2.2.2.1,(Pj i).2.2.2.2.1,dr),h.2.2.2.2.1.set i (Gm h.2.1 h.1 i).2.2.1,h.2.2.2.2.2)
theorem agJ {i:Nat}{x:bc}(hx:h.2.2.2.1[i]?=some x):RR h i=Gl h i x.2.2.2.2.2:=by unfold RR Gl;rw[hx];rfl
theorem ach (h:Host){i:Nat}(x:bc)(hi:i<h.2.2.2.1.length):RR (h.1,h.2.1,h.2.2.1,h.2.2.2.1.set i x,h.2.2.2.2) i=Gl h i x.2.2.2.2.2:=by unfold RR Gl;simp only[List.getElem?_set_self hi,ei];rfl
def Q2 (x:bc):Int:=bif x.2.2.2.2.1 then ak (x.2.2.2.2.2+x.2.2.2.1.2.2) else x.2.2.2.2.2
def CE (i:Nat)(h:Host):Host:=
 match h.2.2.2.1[i]?,h.2.2.2.2.2.1[i]? with
 |some x,some v=>((Gl h i (Q2 x)).1,h.2.1,h.2.2.1,(Gl h i (Q2 x)).2.2.2.1,(Gl h i (Q2 x)).2.2.2.2.1,h.2.2.2.2.2.1.set i (v.1,v.2.1,0,0,false,false),h.2.2.2.2.2.2.1.set i false,h.2.2.2.2.2.2.2)
 |_,_=>h
structure ahi (k:Nat) (a b:Host):Prop where
 mem:b.1.length=a.1.length
 maps:b.2.1=a.2.1
 rx:b.2.2.2.1.length=a.2.2.2.1.length
 pl:b.2.2.2.2.1.length=a.2.2.2.2.1.length
 vec:b.2.2.2.2.2.1.length=a.2.2.2.2.2.1.length
 W1:∀j,k<=j->b.2.2.2.2.2.1[j]?=a.2.2.2.2.2.1[j]?
 pol:b.2.2.2.2.2.2.1.length=a.2.2.2.2.2.2.1.length
theorem acg (l:ar aA)(m:br)(i:Nat):(Gm l m i).1.length=m.length:=by grind[Gm,Z2,mu]
theorem We (i:Nat)(h:Host):ahi (i+1) h (CE i h):=by unfold CE;rcases h1:h.2.2.2.1[i]? with _|x;exact⟨rfl,rfl,rfl,rfl,rfl,λ_ _=>rfl,rfl⟩;rcases h2:h.2.2.2.2.2.1[i]? with _|v;exact⟨rfl,rfl,rfl,rfl,rfl,λ_ _=>rfl,rfl⟩;have e1:=acg h.2.1 h.1 i;exact⟨e1,rfl,aH ..,aH ..,aH ..,λj hj=>aO (by omega),aH ..⟩
def eT (h:Host)(k:Nat):Host:=T8 CE k h
theorem uc (h:Host):∀k,ahi k h (eT h k)
 |0=>⟨rfl,rfl,rfl,rfl,rfl,λ_ _=>rfl,rfl⟩
 |k+1=>by have a:=uc h k;have b:=We k (eT h k);exact⟨b.mem.trans a.mem,b.maps.trans a.maps,b.rx.trans a.rx,b.pl.trans a.pl,b.vec.trans a.vec,λj hj=>(b.W1 j hj).trans (a.W1 j (by omega)),b.pol.trans a.pol⟩
theorem acf {n:Nat}(hn:1000<=n)(i:Nat)(d:Int)(z:bu n cK h):bu n cK (Gl h i d):=by unfold Gl Gm;have h4:=xf (jE i+128) 384 4;have hf:=N8 h.2.1 (mO h.2.1 h.1 0 (jE i) (Ez 128) false).1 0 (jE i,4,0,0) (lj (jE i+128) 384 4).1;refine⟨Q8 (by omega) (Hd (by omega) z.1 ..) ..,z.2.1,z.2.2.1,pw z.2.2.2.1 ?_,pw z.2.2.2.2.1 ?_,z.2.2.2.2.2⟩;refine⟨⟨bV,bV,bV,bV⟩,⟨bV,bV,bV⟩,⟨bV,bV,bV⟩,⟨⟨bV,bV,bV,bV,bV,bV,bV,bV,bV,bV,bV,bV,bV,bV,bV,?_⟩,bV,bV⟩,bV,bV⟩;exact eH _;exact⟨bV,bV,bV,by omega,λ_ _=>trivial⟩
theorem Y8 {n:Nat}(hn:1000<=n)(i:Nat)(z:bu n cK h):bu n cK (CE i h):=by unfold CE;rcases h1:h.2.2.2.1[i]? with _|x;exact z;rcases h2:h.2.2.2.2.2.1[i]? with _|v;exact z;have zo:=acf hn i (Q2 x) z;exact⟨zo.1,z.2.1,z.2.2.1,zo.2.2.2.1,zo.2.2.2.2.1,pw z.2.2.2.2.2.1 ⟨bV,bV,bV,bV,bV,bV⟩,pw z.2.2.2.2.2.2.1 trivial,z.2.2.2.2.2.2.2⟩
theorem Bi {n:Nat}(hn:1000<=n)(z:bu n cK h):∀k,bu n cK (eT h k)
 |0=>z
 |k+1=>Y8 hn k (Bi hn z k)
def Y9 (W:ar gE)(i:Nat)(s:Host):Host:=match W[i]? with|some x=>ajs s [x.1]|none=>s
def polled (h:Host):Host:=sB h h.2.2.2.1.length
def returned (h:Host)(k:Nat):Host:=T8 (Y9 h.2.2.1.2.2.1) k (polled h)
structure aiD (a b:Host):Prop where
 e:b=(a.1,a.2.1,a.2.2.1,a.2.2.2.1,a.2.2.2.2.1,a.2.2.2.2.2.1,a.2.2.2.2.2.2.1,a.2.2.2.2.2.2.2.1,a.2.2.2.2.2.2.2.2.1,a.2.2.2.2.2.2.2.2.2.1,a.2.2.2.2.2.2.2.2.2.2.1,a.2.2.2.2.2.2.2.2.2.2.2.1,a.2.2.2.2.2.2.2.2.2.2.2.2.1,b.2.2.2.2.2.2.2.2.2.2.2.2.2.1,a.2.2.2.2.2.2.2.2.2.2.2.2.2.2)
theorem vI {n:Nat}(z:bu n cK (polled h)):∀k,aiD (polled h) (returned h k)/\(returned h k).2.2.2.2.2.2.2.2.2.2.2.2.2.1.length<=n+k
 |0=>⟨⟨rfl⟩,by have:=z.2.2.2.2.2.2.2.2.2.2.2.2.2.1.1;exact aE this (by omega)⟩
 |k+1=>by have i:=vI z k;have e:returned h (k+1)=Y9 h.2.2.1.2.2.1 k (returned h k):=rfl;rw[e];unfold Y9;cases h.2.2.1.2.2.1[k]? with|none=>exact⟨i.1,aE i.2 (by omega)⟩|some x=>refine⟨⟨?_⟩,?_⟩;have e:=i.1.e;rw[e];rfl;show(_++[_]).length<=_;rw[au,bl];omega
theorem TO {n:Nat}(z:bu n cK (polled h))(k:Nat):bu (n+k) cK (returned h k):=by have i:=vI z k;have z':bu (n+k) cK (polled h):=z.mono;rw[i.1.e];exact⟨z'.1,z'.2.1,z'.2.2.1,z'.2.2.2.1,z'.2.2.2.2.1,z'.2.2.2.2.2.1,z'.2.2.2.2.2.2.1,z'.2.2.2.2.2.2.2.1,z'.2.2.2.2.2.2.2.2.1,z'.2.2.2.2.2.2.2.2.2.1,z'.2.2.2.2.2.2.2.2.2.2.1,z'.2.2.2.2.2.2.2.2.2.2.2.1,z'.2.2.2.2.2.2.2.2.2.2.2.2.1,⟨i.2,λ_ _=>trivial⟩,z'.2.2.2.2.2.2.2.2.2.2.2.2.2.2⟩
theorem WX {n:Nat}(hn:1000<=n)(z:bu n cK h):bu n cK (Uj h):=by have h4:=xf 256 128 8;exact⟨z.1,z.2.1,⟨⟨bV,bV,bV,bV⟩,⟨bV,bV,bV,by show List.length (lj 256 128 8).1.2.2.2<=n;omega,λ_ _=>trivial⟩,⟨eH _,λx hx=>by cases hx⟩,bV⟩,z.2.2.2⟩
def rN (h:Host):Host:=Uj (returned h h.2.2.1.2.2.1.length)
def He (h:Host):Host:=bif fF h then eT (rN h) h.2.2.2.1.length else h
theorem Jh (hb:fF h=true):xe h=true:=by grind[fF]
theorem GI {n:Nat}(hn:1000<=n)(z:bu n cK h)(hl:h.2.2.2.1.length<=2):bu (n+644000+h.2.2.1.2.2.1.length) cK (rN h):=by have hp:=CB (by omega) z h.2.2.2.1.length;exact WX (by omega) (TO (hp.2.mono) _)
theorem ajq (l:ar aA)(X:br)(q:bc)(P:cj)(o:br×kU×cj×Int)(k:bc×cj->br×kU×cj×Int->aw R)(h:jf l X 0 q.1 P=some o):(aa (jf l X 0 (q,P).1.1 (q,P).2) λJF=>k (q,P) JF)=k (q,P) o:=by simp_all
theorem Rs (l:ar aA)(m:br)(i:Nat)(hi:i<=8)(hl:l.length<=10^9)(hm:m.length<=10^9)(k:bc×cj->br×kU×cj×Int->aw R): (aa (qX (i:Int)) λxl=>aa (oq 0 128) λQa=>aa (ju l m 0 xl Qa) λAh=>aa (ya (i:Int)) λrq=>aa (jf l Ah.1 0 rq.1.1 rq.2) λJF=>k rq JF)=k (Pj i,(lj (jE i+128) 384 4).1) (Gm l m i):=by
 have hb:jE i=1280+(i)*1792:=rfl;have Gu:jE i<=9223372036854775807:=by omega
 have hz:oq 0 128=some (Ez 128):=aae 128;have hf:=Vy l (mO l m 0 (jE i) (Ez 128) false).1 0 (jE i,4,0,0) (lj (jE i+128) 384 4).1 hl (by rw[mu];exact hm) (aE (xf (jE i+128) 384 4) (by omega));rw[Vu i hi,ab,hz,ab,DH l m 0 (jE i) (Ez 128) hl hm Gu,ab,abD i hi,ab];exact ajq l _ (Pj i) _ (Gm l m i) k hf
theorem Qu (K:Int->Host->aw Host)(s0 B:Host)(N:Nat)(hN:N<=2)(h1:s0.2.2.2.1.length=N)(h2:s0.2.2.2.2.1.length=N)(h3:s0.2.2.2.2.2.1.length=N)(h4:s0.2.2.2.2.2.2.1.length=N)(z:bu 900000000 cK s0): aJ (kZ K (N:Int) B) fuel (0,s0)=K (N:Int) (eT s0 N):=by
 refine cD (λi=>((i:Int),eT s0 i)) N (by omega) (λi nx hi=>?_) (λnx=>?_);have kr:=uc s0 i;have zr:=Bi (by omega) z i;have z1:(eT s0 i).1.length<=10^9:=aE zr.1.1 (by omega);have z2:(eT s0 i).2.1.length<=10^9:=aE zr.2.1.1 (by omega);have i1:i<(eT s0 i).2.2.2.1.length:=by rw[kr.rx,h1];exact hi
 have i2:i<(eT s0 i).2.2.2.2.1.length:=by rw[kr.pl,h2];exact hi
 have i3:i<(eT s0 i).2.2.2.2.2.1.length:=by rw[kr.vec,h3];exact hi
 have i4:i<(eT s0 i).2.2.2.2.2.2.1.length:=by rw[kr.pol,h4];exact hi
 rw[show eT s0 (i+1)=CE i (eT s0 i) from rfl];generalize eT s0 i=s at z1 z2 i1 i2 i3 i4⊢;unfold CE Q2 Gl;simp only[al i1,al i3];simp only[kZ];rw[jP,af];simp only[aX i1,ab];rw[Rs s.2.1 s.1 i (by omega) z2 z1,Rs s.2.1 s.1 i (by omega) z2 z1];simp only[aX i2,aX i3,aX i4,ab];rw[aj (by omega) (by omega),ay];cases s.2.2.2.1[i].2.2.2.2.1<;>rfl;simp only[kZ];rw[gq,ae]
theorem JN {n:Nat}(hq:FY h (polled h))(hz:bu n cK (polled h)):(rN h).2.2.2.1.length=h.2.2.2.1.length/\(rN h).2.2.2.2.1.length=h.2.2.2.2.1.length/\(rN h).2.2.2.2.2.1=h.2.2.2.2.2.1/\(rN h).2.2.2.2.2.2.1=h.2.2.2.2.2.2.1:=by have er:=(vI hz h.2.2.1.2.2.1.length).1.e;refine⟨?_,?_,?_,?_⟩;show(returned h h.2.2.1.2.2.1.length).2.2.2.1.length=_;rw[er];exact hq.rx;show(returned h h.2.2.1.2.2.1.length).2.2.2.2.1.length=_;rw[er];exact hq.pl;show(returned h h.2.2.1.2.2.1.length).2.2.2.2.2.1=_;rw[er];exact hq.vec;show(returned h h.2.2.1.2.2.1.length).2.2.2.2.2.2.1=_;rw[er];exact hq.pol
theorem Qt (h:Host)(k:IW h)(z:bu 100000000 cK h):wj h=some (He h):=by
 unfold wj He;rw[kx h (z.mono),ab,zG h k,ab];cases hb:fF h;rfl;have hl:=nk (Jh hb);have hw:=z.2.2.1.2.2.1.1;have hp:=CB (by omega) z;refine cD (λi=>((i:Int),sB h i)) h.2.2.2.1.length (by omega) (λi nx hi=>?_) (λnx=>?_);simp only[qi];rw[jP,af,Tk (sB h i) i 1000 (by rw[(hp i).1.rx];exact hi) (by rw[(hp i).1.pl];omega) ((hp i).2.mono),ab,aj (by omega) (by omega)];rfl;simp only[qi];rw[gq,ae];have hq:=hp h.2.2.2.1.length;have hr:=vI hq.2;have e1:(sB h h.2.2.2.1.length).2.2.1.2.2.1=h.2.2.1.2.2.1:=by rw[hq.1.tx]
 rw[e1];refine cD (λi=>((i:Int),returned h i)) h.2.2.1.2.2.1.length (by omega) (λi nx hi=>?_) (λnx=>?_);have hri:=(hr i).2;simp only[oC];rw[jP,af,aX hi,ab,aQ (by rw[bl];omega),aj (by omega) (by omega)];rw[show returned h (i+1)=Y9 h.2.2.1.2.2.1 i (returned h i) from rfl,Y9,al hi];rfl;simp only[oC];rw[gq,ae];simp only[abO,ab];have hE:=GI (by omega) z hl.1;have hk:=JN hq.1 hq.2;have eN:((List.length (returned h h.2.2.1.2.2.1.length).2.2.2.1))=(h.2.2.2.1.length):=congrArg Nat.cast hk.1;rw[eN];exact Qu _ (rN h) _ h.2.2.2.1.length hl.1 hk.1 (hk.2.1.trans hl.2.1) (by rw[hk.2.2.1];exact hl.2.2.1) (by rw[hk.2.2.2];exact hl.2.2.2) (hE.mono)
theorem QL (K:Int->Host->aw Host)(h s0 B:Host)(N:Nat)(hN:N<=2)(h1:s0.2.2.2.1.length=N)(h2:s0.2.2.2.2.1.length=N)(h3:s0.2.2.2.2.2.1=h.2.2.2.2.2.1)(h5:h.2.2.2.2.2.1.length=N)(h4:s0.2.2.2.2.2.2.1.length=N)(z:bu 900000000 cK s0): aJ (ll K h B) fuel (0,s0)=K (N:Int) (eT s0 N):=by
 refine cD (λi=>((i:Int),eT s0 i)) N (by omega) (λi nx hi=>?_) (λnx=>?_);have kr:=uc s0 i;have zr:=Bi (by omega) z i;have z1:(eT s0 i).1.length<=10^9:=aE zr.1.1 (by omega);have z2:(eT s0 i).2.1.length<=10^9:=aE zr.2.1.1 (by omega);have i1:i<(eT s0 i).2.2.2.1.length:=by rw[kr.rx,h1];exact hi
 have iN:(eT s0 i).2.2.2.1.length=N:=by rw[kr.rx,h1]
 have i2:i<(eT s0 i).2.2.2.2.1.length:=by rw[kr.pl,h2];exact hi
 have i3:i<(eT s0 i).2.2.2.2.2.1.length:=by rw[kr.vec,h3,h5];exact hi
 have i4:i<(eT s0 i).2.2.2.2.2.2.1.length:=by rw[kr.pol,h4];exact hi
 have i5:i<h.2.2.2.2.2.1.length:=by rw[h5];exact hi
 have iv:(eT s0 i).2.2.2.2.2.1[i]=h.2.2.2.2.2.1[i]:=by have:=kr.W1 i (aU _);rw[al i3,h3,al i5]at this;exact cB this
 rw[show eT s0 (i+1)=CE i (eT s0 i) from rfl];generalize eT s0 i=s at z1 z2 iN i1 i2 i3 i4 iv⊢;have g1:=al i1;unfold CE;rw[g1,al i3];simp only[ll];rw[jP,af];simp only[aX i1,ab];have o1:=Wy s i (by omega) i1 i2 z2 z1;rw[agJ g1]at o1;have o2:=λx:bc=>Wy (s.1,s.2.1,s.2.2.1,s.2.2.2.1.set i x,s.2.2.2.2) i (by omega) (by rw[aH];exact i1) i2 z2 z1;simp only[ach s _ i1]at o2;rw[ay,aj (n:=(i)+1) (by omega) (by omega),o1,o2,ab,ab];simp only[aX i5,ab,iv];have j3:∀d,i<(Gl s i d).2.2.2.2.2.1.length:=λd=>i3;have j4:∀d,i<(Gl s i d).2.2.2.2.2.2.1.length:=λd=>i4;simp only[aX (j3 _),aX (j4 _),ab];unfold Q2;cases s.2.2.2.1[i].2.2.2.2.1<;>rfl;have kN:=(uc s0 N).rx;simp only[ll];rw[gq,ae]
theorem QK (h:Host)(k:IW h)(z:bu 100000000 cK h):xu h=some (He h):=by
 unfold xu He;rw[kC h (z.mono),ab,ud h k,ab];cases hb:fF h;rfl;have hl:=nk (Jh hb);have hw:=z.2.2.1.2.2.1.1;have hp:=CB (by omega) z;refine cD (λi=>((i:Int),sB h i)) h.2.2.2.1.length (by omega) (λi nx hi=>?_) (λnx=>?_);have h1:i<(sB h i).2.2.2.1.length:=by rw[(hp i).1.rx];exact hi
 have h2:i<(sB h i).2.2.2.2.1.length:=by rw[(hp i).1.pl];omega
 have zi:bu 500000000 cK (sB h i):=(hp i).2.mono;have hz2:=zi.2.1.1;have hz1:=zi.1.1;have em:=(hp i).1.maps;rw[show sB h (i+1)=(Fq (sB h i) i 1000).2 from rfl];generalize sB h i=s at h1 h2 zi hz1 hz2 em⊢;have CR:=(zi.2.2.2.2.1.2 _ (bh h2)).2.2.2.1;simp only[qz];rw[jP,af,<-em];simp only[aX h1,aX h2,ab,WA s.2.1 s.1 0 _ _ _ 1000 (show s.2.1.length<=10^9 by omega) (show s.1.length<=10^9 by omega) CR zi.2.2.2.2.2.2.2.2.2.1,ay,Fq,al h1,al h2];rw[aj (by omega) (by omega)];rfl;simp only[qz];rw[gq,ae];have hq:=hp h.2.2.2.1.length;have hr:=vI hq.2;refine cD (λi=>((i:Int),returned h i)) h.2.2.1.2.2.1.length (by omega) (λi nx hi=>?_) (λnx=>?_);have hri:=(hr i).2;simp only[oR];rw[jP,af,aX hi,ab,aQ (by rw[bl];omega),aj (by omega) (by omega)];rw[show returned h (i+1)=Y9 h.2.2.1.2.2.1 i (returned h i) from rfl,Y9,al hi];rfl;simp only[oR];rw[gq,ae];simp only[acY,ab];have hE:=GI (by omega) z hl.1;have hk:=JN hq.1 hq.2;have ex:rN h=((returned h h.2.2.1.2.2.1.length).1,(returned h h.2.2.1.2.2.1.length).2.1,(ML.1,ML.2.1,ML.2.2.1,h.2.2.1.2.2.2),(returned h h.2.2.1.2.2.1.length).2.2.2):=by
  have et:(returned h h.2.2.1.2.2.1.length).2.2.1=h.2.2.1:=by rw[(hr h.2.2.1.2.2.1.length).1.e];exact hq.1.tx
  unfold rN Uj;rw[et]
 rw[<-ex];exact QL _ h (rN h) _ h.2.2.2.1.length hl.1 hk.1 (hk.2.1.trans hl.2.1) hk.2.2.1 hl.2.2.1 (by rw[hk.2.2.2];exact hl.2.2.2) (hE.mono)
def EI (x:FW):Bool:=dH x.1 0 65535&&(dH x.2.1 0 65535&&(dH x.2.2.1 0 65535&&(dH x.2.2.2.1 0 65535&&dH x.2.2.2.2 0 4294967295)))
theorem Rp (x:FW):me x=some (EI x):=by simp_all[me,dh,cw,EI]
theorem Sa (x:FW):mA x=some (EI x):=by simp_all[mA,cM,cw,EI]
def XL (x:FW)(p:Int):Bytes:=bif EI x&&dH p 0 1 then((((bW x.1++bW x.2.1)++bW x.2.2.1)++bW x.2.2.2.1)++jb x.2.2.2.2)++jb p else []
theorem aer (x:FW)(p:Int):lv x p=some (XL x p):=by have h1:=bt x.1;have h2:=bt x.2.1;have h3:=bt x.2.2.1;have h4:=bt x.2.2.2.1;have h5:=dF x.2.2.2.2;have h6:=dF p;unfold lv XL;simp only[Rp,dh,ab,kY,B6];grind[ab,aQ]
theorem afp (x:FW)(p:Int):lB x p=some (XL x p):=by have h1:=bt x.1;have h2:=bt x.2.1;have h3:=bt x.2.2.1;have h4:=bt x.2.2.2.1;have h5:=dF x.2.2.2.2;have h6:=dF p;unfold lB XL;simp only[Sa,cM,ab,hZ,mR];grind[ab,aQ]
def En (l:ar aA)(m:br)(d:Int)(q:Nc)(x:FW):br×Nc×Bool:=
 bif !hY q|| !EI x then(m,q,false) else
 bif !(mO l m d (my q) (XL x (DL q)) true).2 then(m,q,false) else
 ((mO l m d (my q) (XL x (DL q)) true).1,(q.1,q.2.1,tmod (q.2.2+1) (2*q.2.1)),true)
theorem aez (l:ar aA)(m:br)(d:Int)(q:Nc)(x:FW)(hl:l.length<=10^9)(hm:m.length<=10^9):oF l m d q x=some (En l m d q x):=by unfold oF En;simp only[Lm,Rp,ab,fT m (show m.length<=1073741824 by omega),Rt,aer];cases hq:hY q;rfl;have h:=mw hq;have hs:=Nu hq;cases EI x;rfl;simp only[ai,ae,ab,bU,Ry q hq,EV l m d _ _ hl hm (show my q<=9223372036854775807 by unfold my;omega)];grind[RX,aj]
theorem afx (l:ar aA)(m:br)(d:Int)(q:Nc)(x:FW)(hl:l.length<=10^9)(hm:m.length<=10^9):oU l m d q x=some (En l m d q x):=by
 unfold oU En;simp only[LV,Sa,ab,hU m (show m.length<=1073741824 by omega),afp];cases hq:hY q;rfl;have h:=mw hq;have hs:=Nu hq;cases EI x;rfl;have e:ak (q.1+ak (16*tmod q.2.2 q.2.1))=my q:=by grind[aj,my]
 simp only[ai,ae,ab,bU,Sc q hq,e,Bj l m d _ _ hl hm (show my q<=9223372036854775807 by unfold my;omega)];grind[aj]
theorem acx {n:Nat}(hn:128<=n)(z:bu n (.sl .str) m)(l:ar aA)(d:Int)(q:Nc)(x:FW):bu n (.sl .str) (En l m d q x).1/\(En l m d q x).1.length=m.length:=by grind[En,Hd,mu]
theorem agL {q:Nc}{x:FW}(h:hY q=true):hY (En l m d q x).2.1=true/\(En l m d q x).2.1.1=q.1/\(En l m d q x).2.1.2.1=q.2.1:=by have hq:=mw h;grind[En,hY,bM,HX]
def oc (l:ar aA)(m:br)(d:Int)(q:bc)(k:Bytes)(s:Bytes):br×Nc×Bool:=
 bif !(ez s).2||(((ez s).1.1 !=3)||decide ((ez s).1.2.2.1<((eS q.2.2.2.1.1).1.length:Int))) then(m,q.2.1,false) else
 bif !(mO l m d (ez s).1.2.2.2.1 (eS q.2.2.2.1.1).1 true).2 then(m,q.2.1,false) else
 En l (mO l m d (ez s).1.2.2.2.1 (eS q.2.2.2.1.1).1 true).1 d q.2.1 ((ez s).1.2.2.2.2.2,((eS q.2.2.2.1.1).1.length:Int),q.2.2.2.1.2.1,q.2.2.2.1.2.2,C6 k (Ao (mI q.2.2.2.1.1)))
theorem acT (l:ar aA)(m:br)(d:Int)(q:bc)(k s:Bytes)(hl:l.length<=10^9)(hm:m.length<=10^9)(hs:s.length<=10^9):zy l m d q s k=some (oc l m d q k s):=by
 unfold zy oc;have ko:=NW (s:=s);simp only[Ws s hs,HZ,ab,hU m (show m.length<=1073741824 by omega)];generalize ez s=x at ko⊢;cases hx:x.2;rfl;have hd:=ko hx;simp only[qN,ah,bM]at hd;cases x.1.1 !=3;case true=>rfl
 cases decide (x.1.2.2.1<((eS q.2.2.2.1.1).1.length:Int));all_goals grind[ab,Bj,Pv,KH,afx,mu]
theorem abJ (l:ar aA)(m:br)(d:Int)(q:bc)(k s:Bytes)(hl:l.length<=10^9)(hm:m.length<=10^9)(hs:s.length<=10^9)(hh:ej q.2.2.2.1.1=true):∃b,wH l m d q k s=some (b,oc l m d q k s)/\(b=false->oc l m d q k s=(m,q.2.1,false)):=by
 unfold wH oc;have ko:=NW (s:=s);simp only[Vv s hs,HN,ab,Ec hh];generalize ez s=x at ko⊢;cases hx:x.2;exact⟨false,rfl,λ_=>rfl⟩;have hd:=ko hx;simp only[qN,ah,bM]at hd;cases x.1.1 !=3;case true=>simp_all
 cases decide (x.1.2.2.1<((eS q.2.2.2.1.1).1.length:Int));case true=>simp_all
 simp only[ai,ae,ab,bU,EV l m d _ _ hl hm (show x.1.2.2.2.1<=9223372036854775807 by omega)];cases (mO l m d x.1.2.2.2.1 (eS q.2.2.2.1.1).1 true).2;exact⟨false,rfl,λ_=>rfl⟩;simp only[ai,ae,OE,ab,J7,aez l _ d _ _ hl (show(mO l m d x.1.2.2.2.1 (eS q.2.2.2.1.1).1 true).1.length<=10^9 by rw[mu];exact hm)];grind
theorem ac0 {n:Nat}(hn:128<=n){q:bc}{k:Bytes}(z:bu n (.sl .str) m)(hq:hY q.2.1=true): bu n (.sl .str) (oc l m d q k s).1/\(oc l m d q k s).1.length=m.length/\hY (oc l m d q k s).2.1=true/\(oc l m d q k s).2.1.1=q.2.1.1/\(oc l m d q k s).2.1.2.1=q.2.1.2.1:=by
 unfold oc;cases !(ez s).2||(((ez s).1.1 !=3)||decide ((ez s).1.2.2.1<((eS q.2.2.2.1.1).1.length:Int)));case true=>grind
 cases (mO l m d (ez s).1.2.2.2.1 (eS q.2.2.2.1.1).1 true).2;all_goals grind[Hd,mu,acx,agL]
def jR (l:ar aA)(m:br)(d:Int)(q:bc)(k:Bytes):br×bc:=
 bif !Ph q||(!q.2.2.2.2.1||((k.length:Int) !=16)) then(m,q) else
 bif (bK l m d q.1).2.2&&(oc l m d q k (bK l m d q.1).1).2.2 then
  ((oc l m d q k (bK l m d q.1).1).1,(bK l m d q.1).2.1,(oc l m d q k (bK l m d q.1).1).2.1,q.2.2.1,aiv,false,q.2.2.2.2.2)
 else(m,(bK l m d q.1).2.1,q.2.1,q.2.2.1,aiv,false,ak (q.2.2.2.2.2+q.2.2.2.1.2.2))
theorem WM (h:(bK l m d r).2.2=false):(bK l m d r).2.1=r:=by grind[bK]
theorem zZ {q:bc}(h:Ph q=true):hY q.2.1=true/\(q.2.2.2.2.1=true->ej q.2.2.2.1.1=true):=by grind[Ph]
theorem LU (l:ar aA)(m:br)(d:Int)(q:bc)(k:Bytes)(hl:l.length<=10^9)(hm:m.length<=10^9):nU l m d q k=some (jR l m d q k):=by
 have ht:=zB l m d q.1;unfold nU jR;simp only[T5,ab,hU m (show m.length<=1073741824 by omega),KN l m d q.1 hl hm,acT l m d q k _ hl hm (show(bK l m d q.1).1.length<=10^9 by omega)];cases Ph q;rfl;cases q.2.2.2.2.1;rfl;cases (k.length:Int) !=16;case true=>rfl
 simp only[ai,ae,ab,bU];cases (bK l m d q.1).2.2;rfl;cases (oc l m d q k (bK l m d q.1).1).2.2<;>rfl
theorem Ll (l:ar aA)(m:br)(d:Int)(q:bc)(k:Bytes)(hl:l.length<=10^9)(hm:m.length<=10^9):nA l m d q k=some (jR l m d q k):=by
 have ht:=zB l m d q.1;have JE:=WM (l:=l) (m:=m) (d:=d) (r:=q.1);unfold nA jR;simp only[Tm,ab,fT m (show m.length<=1073741824 by omega),Kf l m d q.1 hl hm];cases hr:Ph q;rfl;cases hh:q.2.2.2.2.1;rfl;cases (k.length:Int) !=16;case true=>rfl
 obtain⟨b,hb,Gu⟩:=abJ l m d q k (bK l m d q.1).1 hl hm (by omega) ((zZ hr).2 hh);simp only[ai,ae,ab,bU,hb];generalize oc l m d q k (bK l m d q.1).1=s at hb Gu⊢;cases hk:(bK l m d q.1).2.2 with|false=>rw[JE hk];rfl|true=>?_
 cases b with|true=>cases hs:s.2.2<;>rfl|false=>rw[Gu rfl];rfl
theorem HI {n:Nat}(hn:128<=n){q:bc}{k:Bytes}(z:bu n (.sl .str) m)(zq:bu n cW q): bu n (.sl .str) (jR l m d q k).1/\(jR l m d q k).1.length=m.length/\bu n cW (jR l m d q k).2/\(Ph q=true->hY (jR l m d q k).2.2.1=true/\(jR l m d q k).2.2.1.2.1=q.2.1.2.1):=by
 unfold jR;cases hc: !Ph q||(!q.2.2.2.2.1||((k.length:Int) !=16));case true=>grind[zZ]
 simp only[dB,eK]at hc;have hq:=(zZ hc.1).1;have hs:=ac0 hn (l:=l) (d:=d) (k:=k) (s:=(bK l m d q.1).1) z hq;have e0:bu n cW ((bK l m d q.1).2.1,(oc l m d q k (bK l m d q.1).1).2.1,q.2.2.1,aiv,false,q.2.2.2.2.2):=⟨⟨bV,bV,bV,bV⟩,⟨bV,bV,bV⟩,⟨bV,bV,bV⟩,⟨⟨bV,bV,bV,bV,bV,bV,bV,bV,bV,bV,bV,bV,bV,bV,bV,eH _⟩,bV,bV⟩,bV,bV⟩
 cases (bK l m d q.1).2.2&&(oc l m d q k (bK l m d q.1).1).2.2 with|true=>grind|false=>exact⟨z,rfl,⟨⟨bV,bV,bV,bV⟩,⟨bV,bV,bV⟩,⟨bV,bV,bV⟩,⟨⟨bV,bV,bV,bV,bV,bV,bV,bV,bV,bV,bV,bV,bV,bV,bV,eH _⟩,bV,bV⟩,bV,bV⟩,λ_=>⟨hq,rfl⟩⟩
def evS (k:Nat)(h:Host):Host:=
 match h.2.2.2.2.2.1[k]? with
 |some v=>(h.1,h.2.1,h.2.2.1,h.2.2.2.1,h.2.2.2.2.1,h.2.2.2.2.2.1.set k (evV v),h.2.2.2.2.2.2)
 |none=>h
def Um (k:Nat):Nat->Host->Host
 |0,h=>h
 |i+1,h=>evS k (Um k i h)
theorem adM (k:Nat)(h:Host):lG (k+1) h (evS k h):=by unfold evS;cases h.2.2.2.2.2.1[k]? with|none=>exact lG.refl _ _|some v=>exact⟨rfl,rfl,rfl,rfl,λ_ _=>rfl,rfl,aH ..,λj hj=>aO (by omega),rfl,rfl,rfl⟩
theorem JO (k:Nat)(h:Host):∀i,lG (k+1) h (Um k i h)
 |0=>lG.refl _ _
 |i+1=>(JO k h i).trans (adM k _)
theorem age {n:Nat}(k:Nat)(z:bu n cK h):bu n cK (evS k h):=by unfold evS;cases h.2.2.2.2.2.1[k]? with|none=>exact z|some v=>exact⟨z.1,z.2.1,z.2.2.1,z.2.2.2.1,z.2.2.2.2.1,NC z.2.2.2.2.2.1,z.2.2.2.2.2.2⟩
theorem Z0 {n:Nat}(k:Nat)(z:bu n cK h):∀i,bu n cK (Um k i h)
 |0=>z
 |i+1=>age k (Z0 k z i)
theorem Yc (h:Host)(k:Nat)(b:Int)(h1:k<h.2.2.2.1.length)(h2:k<h.2.2.2.2.2.1.length)(hq:hY h.2.2.2.1[k].2.1=true)(hb:0<=b/\b<=31):lg h (k:Int) b=some ((),Um k ((h.2.2.2.1[k].2.1.2.2-b)%(2*h.2.2.2.1[k].2.1.2.1)).toNat h):=by
 have xV:=cS;have q:=mw hq;unfold lg;rw[aX h1,ab];generalize h.2.2.2.1[k]=x at q⊢;rw[aj (n:=x.2.1.2.2-b) (by omega) (by omega),aj (n:=2*x.2.1.2.1) (by omega) (by omega),Ly _ _,ab];have hm:0<=(x.2.1.2.2-b)%(2*x.2.1.2.1)/\(x.2.1.2.2-b)%(2*x.2.1.2.1)<32:=by have g1:=Int.emod_nonneg (x.2.1.2.2-b) (show 2*x.2.1.2.1≠0 by omega);have g2:=ga (x.2.1.2.2-b) (show 0<2*x.2.1.2.1 by omega);omega
 generalize (x.2.1.2.2-b)%(2*x.2.1.2.1)=c at hm⊢;obtain⟨c,rfl⟩:=aI hm.1;rw[ay];have e0:((c:Int),h)=(((c:Int)-((0:Nat):Int)),Um k 0 h):=by simp[Um]
 rw[e0];refine cD (λi=>((c:Int)-(i:Int),Um k i h)) c (by omega) (λi nx hi=>?_) (λnx=>?_);have kk:=JO k h i;have i1:k<(Um k i h).2.2.2.2.2.1.length:=by rw[kk.vec];exact h2
 rw[show Um k (i+1) h=evS k (Um k i h) from rfl];generalize Um k i h=s at i1⊢;simp only[qp,evS];rw[jP,af,al i1];simp only[aX i1,ab,abr,ay];rw[aj (by omega) (by omega),show(c:Int)-(i:Int)-1=(c:Int)-((i+1:Nat):Int) by omega];simp only[qp];rw[gq,ae]
theorem Ze (h:Host)(k:Nat)(b:Int)(h1:k<h.2.2.2.1.length)(h2:k<h.2.2.2.2.2.1.length)(hq:hY h.2.2.2.1[k].2.1=true)(hb:0<=b/\b<=31):lq h (k:Int) b=some ((),Um k ((h.2.2.2.1[k].2.1.2.2-b)%(2*h.2.2.2.1[k].2.1.2.1)).toNat h):=by
 have xV:=cS;have q:=mw hq;unfold lq;rw[aX h1,ab,ab];generalize h.2.2.2.1[k]=x at q⊢;have em:ak (BitVec.toNat (fR (x.2.1.2.2-b)&&&fR (2*x.2.1.2.1-1)))=(x.2.1.2.2-b)%(2*x.2.1.2.1):=by
  have key:∀j:Nat,j<63->2*x.2.1.2.1=2^j->ak (BitVec.toNat (fR (x.2.1.2.2-b)&&&fR (2*x.2.1.2.1-1)))=(x.2.1.2.2-b)%(2*x.2.1.2.1):=by intro j hj e;have:=D1 (x.2.1.2.2-b) j hj;rw[<-e]at this;rw[this];have g1:=Int.emod_nonneg (x.2.1.2.2-b) (show 2*x.2.1.2.1≠0 by omega);have g2:=ga (x.2.1.2.2-b) (show 0<2*x.2.1.2.1 by omega);exact aj (by omega) (by omega)
  rcases q.2.2.1 with e|e|e|e;exact key 2 (by omega) (by rw[e];rfl);exact key 3 (by omega) (by rw[e];rfl);exact key 4 (by omega) (by rw[e];rfl);exact key 5 (by omega) (by rw[e];rfl)
 rw[aj (n:=x.2.1.2.2-b) (by omega) (by omega),aj (n:=2*x.2.1.2.1) (by omega) (by omega),aj (n:=2*x.2.1.2.1-1) (by omega) (by omega),em];have hm:0<=(x.2.1.2.2-b)%(2*x.2.1.2.1)/\(x.2.1.2.2-b)%(2*x.2.1.2.1)<32:=by have g1:=Int.emod_nonneg (x.2.1.2.2-b) (show 2*x.2.1.2.1≠0 by omega);have g2:=ga (x.2.1.2.2-b) (show 0<2*x.2.1.2.1 by omega);omega
 generalize (x.2.1.2.2-b)%(2*x.2.1.2.1)=c at hm⊢;obtain⟨c,rfl⟩:=aI hm.1;rw[ay];refine cD (λi=>((i:Int),Um k i h)) c (by omega) (λi nx hi=>?_) (λnx=>?_);have kk:=JO k h i;have i1:k<(Um k i h).2.2.2.2.2.1.length:=by rw[kk.vec];exact h2
 rw[show Um k (i+1) h=evS k (Um k i h) from rfl];generalize Um k i h=s at i1⊢;simp only[qF,evS];rw[jP,af,al i1];simp only[aX i1,ab,acF,ay];rw[aj (by omega) (by omega)];rfl;simp only[qF];rw[gq,ae]
def IH (h:Host)(k:Nat)(f:br×bc):Host:=(f.1,h.2.1,h.2.2.1,h.2.2.2.1.set k f.2,h.2.2.2.2)
def LY (h:Host)(k:Nat)(b:Int)(f:br×bc):Host:=Um k ((f.2.2.1.2.2-b)%(2*f.2.2.1.2.1)).toNat (IH h k f)
def jS (k:Nat)(h:Host):Host:=
 match h.2.2.2.1[k]? with
 |some x=>LY h k x.2.1.2.2 (jR h.2.1 h.1 0 x h.2.2.2.2.2.2.2.2.1.2.2.1)
 |none=>h
theorem MO {b:Int}(hf:f.1.length=h.1.length):lG (k+1) h (LY h k b f):=by
 have a:lG (k+1) h (IH h k f):=⟨hf,rfl,rfl,aH ..,λj hj=>aO (by omega),rfl,rfl,λ_ _=>rfl,rfl,rfl,rfl⟩
 exact a.trans (JO k (IH h k f) _)
theorem P3 {n:Nat}{b:Int}(z:bu n cK h)(h1:bu n (.sl .str) f.1)(h2:bu n cW f.2):bu n cK (LY h k b f):=by
 have a:bu n cK (IH h k f):=⟨h1,z.2.1,z.2.2.1,pw z.2.2.2.1 h2,z.2.2.2.2⟩
 exact Z0 k a _
theorem Og {q:bc}{k:Bytes}:(jR l m d q k).1.length=m.length:=by
 have hs:(oc l m d q k (bK l m d q.1).1).1.length=m.length:=by
  unfold oc;cases !(ez (bK l m d q.1).1).2||(((ez (bK l m d q.1).1).1.1 !=3)||decide ((ez (bK l m d q.1).1).1.2.2.1<((eS q.2.2.2.1.1).1.length:Int)));case true=>rfl
  cases (mO l m d (ez (bK l m d q.1).1).1.2.2.2.1 (eS q.2.2.2.1.1).1 true).2;rfl;have h2:=mu l m d (ez (bK l m d q.1).1).1.2.2.2.1 (eS q.2.2.2.1.1).1 true;simp only[ae,ai];unfold En;cases !hY q.2.1|| !EI ((ez (bK l m d q.1).1).1.2.2.2.2.2,((eS q.2.2.2.1.1).1.length:Int),q.2.2.2.1.2.1,q.2.2.2.1.2.2,C6 k (Ao (mI q.2.2.2.1.1)));case true=>exact h2
  cases (mO l (mO l m d (ez (bK l m d q.1).1).1.2.2.2.1 (eS q.2.2.2.1.1).1 true).1 d (my q.2.1) (XL ((ez (bK l m d q.1).1).1.2.2.2.2.2,((eS q.2.2.2.1.1).1.length:Int),q.2.2.2.1.2.1,q.2.2.2.1.2.2,C6 k (Ao (mI q.2.2.2.1.1))) (DL q.2.1)) true).2 with|false=>exact h2|true=>exact(mu ..).trans h2
 unfold jR;grind
theorem C4 (k:Nat)(h:Host):lG (k+1) h (jS k h):=by grind[jS,lG.refl,MO,Og]
theorem Ja (k:Nat)(h:Host)(n:Nat)(hn:1000<=n)(z:bu n cK h):bu (n+0) cK (jS k h):=by unfold jS;cases hx:h.2.2.2.1[k]? with|none=>exact z|some x=>have hf:=HI (show 128<=n by omega) (l:=h.2.1) (d:=0) (k:=h.2.2.2.2.2.2.2.2.1.2.2.1) z.1 (z.2.2.2.1.2 _ (cR hx));exact P3 z hf.1 hf.2.2.1
def EL (h:Host):Host:=bif fF h then ib jS h.2.2.2.1.length h else h
theorem abc {n:Nat}(hn:1000<=n)(k:CU n h):CU n (EL h):=by unfold EL;cases fF h with|false=>exact k|true=>refine⟨(CK hn Ja k.z _).mono,?_⟩;simp only[af];rw[(sW C4 h _).tx];exact k.t
theorem B0 (hb:fF h=true):∀i (hi:i<h.2.2.2.1.length),Ph h.2.2.2.1[i]=true:=by grind[fF,Wf]
theorem MN {b:Int}(h1:k<h.2.2.2.1.length)(h2:k<h.2.2.2.2.2.1.length)(hq:hY f.2.2.1=true)(hb:0<=b/\b<=31:=by omega): lg (f.1,h.2.1,h.2.2.1,h.2.2.2.1.set k f.2,h.2.2.2.2) (k:Int) b=some ((),LY h k b f):=by
 have h3:k<(IH h k f).2.2.2.1.length:=by show k<(h.2.2.2.1.set k f.2).length;rw[aH];exact h1
 have e:(IH h k f).2.2.2.1[k]=f.2:=List.getElem_set_self _;have a:=Yc (IH h k f) k b h3 h2 (by rw[e];exact hq) hb;rw[e]at a;exact a
theorem MP {b:Int}(h1:k<h.2.2.2.1.length)(h2:k<h.2.2.2.2.2.1.length)(hq:hY f.2.2.1=true)(hb:0<=b/\b<=31:=by omega): lq (f.1,h.2.1,h.2.2.1,h.2.2.2.1.set k f.2,h.2.2.2.2) (k:Int) b=some ((),LY h k b f):=by
 have h3:k<(IH h k f).2.2.2.1.length:=by show k<(h.2.2.2.1.set k f.2).length;rw[aH];exact h1
 have e:(IH h k f).2.2.2.1[k]=f.2:=List.getElem_set_self _;have c:=Ze (IH h k f) k b h3 h2 (by rw[e];exact hq) hb;rw[e]at c;exact c
theorem Yg (h:Host)(k:CU 900000000 h):wh h=some (EL h):=by
 have xV:=cS;unfold wh EL;rw[kx h (k.z.mono),ab,zG h (k.sz),ab];cases hb:fF h;rfl;have hl:=nk (by simp only[fF,ah]at hb;exact hb.2.2.2.2.1:xe h=true);have hr:=B0 hb;simp only[ai,ae,af];refine cD (λi=>((i:Int),ib jS i h)) h.2.2.2.1.length (by omega) (λi nx hi=>?_) (λnx=>?_);have kk:=sW C4 h i;have zz:bu 900000000 cK (ib jS i h):=(CK (by omega) Ja k.z i).mono;have i1:i<(ib jS i h).2.2.2.1.length:=by rw[kk.rx];exact hi
 have i2:i<(ib jS i h).2.2.2.2.2.1.length:=by rw[kk.vec];omega
 have e1:(ib jS i h).2.2.2.1[i]=h.2.2.2.1[i]:=by have:=kk.rxs i (aU _);rw[al i1,al hi]at this;exact cB this
 rw[show ib jS (i+1) h=jS i (ib jS i h) from rfl];generalize ib jS i h=s at zz i1 i2 e1⊢;have z1:s.1.length<=900000000:=zz.1.1;have z2:s.2.1.length<=900000000:=zz.2.1.1;have Vo:=hr i hi;rw[<-e1]at Vo;have hqd:=mw (zZ Vo).1;have hf:=HI (show 128<=900000000 by omega) (l:=s.2.1) (d:=0) (k:=s.2.2.2.2.2.2.2.2.1.2.2.1) zz.1 (zz.2.2.2.1.2 _ (bh i1));have ev:=MN (h:=s) (k:=i) (b:=s.2.2.2.1[i].2.1.2.2) (f:=jR s.2.1 s.1 0 s.2.2.2.1[i] s.2.2.2.2.2.2.2.2.1.2.2.1) i1 i2 (hf.2.2.2 Vo).1;simp only[qh,jS];rw[jP,af,al i1];simp only[aX i1,aX hi,ab,Ll s.2.1 s.1 0 _ _ (show s.2.1.length<=10^9 by omega) (show s.1.length<=10^9 by omega),ay,<-e1,ev];rw[aj (by omega) (by omega)];rfl;simp only[qh];rw[gq,ae]
theorem Zi (h:Host)(k:CU 900000000 h):xr h=some (EL h):=by
 have xV:=cS;unfold xr EL;rw[kC h (k.z.mono),ab];have hv:h.2.2.2.1.length<=900000000:=k.z.2.2.2.1.1;cases hb:fF h with
 |false=>
  obtain⟨g,hg⟩:∃g,fuel=g+1:=⟨fuel-1,by omega⟩
  rw[hg,aJ,mC,ud h (k.sz),hb];cases decide ((0:Int)<(h.2.2.2.1.length:Int))<;>rfl
 |true=>
  have hl:=nk (by simp only[fF,ah]at hb;exact hb.2.2.2.2.1:xe h=true);have hr:=B0 hb;simp only[af];refine cD (λi=>((i:Int),ib jS i h)) h.2.2.2.1.length (by omega) (λi nx hi=>?_) (λnx=>?_);have kk:=sW C4 h i;have zz:bu 900000000 cK (ib jS i h):=(CK (by omega) Ja k.z i).mono;have i1:i<(ib jS i h).2.2.2.1.length:=by rw[kk.rx];exact hi
  have i2:i<(ib jS i h).2.2.2.2.2.1.length:=by rw[kk.vec];omega
  have e1:(ib jS i h).2.2.2.1[i]=h.2.2.2.1[i]:=by have:=kk.rxs i (aU _);rw[al i1,al hi]at this;exact cB this
  have em:=kk.maps;have es:=kk.ste;rw[show ib jS (i+1) h=jS i (ib jS i h) from rfl];generalize ib jS i h=s at zz i1 i2 e1 em es⊢;have z1:s.1.length<=900000000:=zz.1.1;have z2:s.2.1.length<=900000000:=zz.2.1.1;have Vo:=hr i hi;rw[<-e1]at Vo;have hqd:=mw (zZ Vo).1;have hf:=HI (show 128<=900000000 by omega) (l:=s.2.1) (d:=0) (k:=s.2.2.2.2.2.2.2.2.1.2.2.1) zz.1 (zz.2.2.2.1.2 _ (bh i1));have ev:=MP (h:=s) (k:=i) (b:=s.2.2.2.1[i].2.1.2.2) (f:=jR s.2.1 s.1 0 s.2.2.2.1[i] s.2.2.2.2.2.2.2.2.1.2.2.1) i1 i2 (hf.2.2.2 Vo).1;simp only[mC,jS,ud h (k.sz (by omega)),hb];rw[jP,af,al i1];simp only[aX i1,aX hi,ab,af,<-em,<-es,<-e1,LU s.2.1 s.1 0 _ _ (show s.2.1.length<=10^9 by omega) (show s.1.length<=10^9 by omega),ay,ev];rw[aj (by omega) (by omega)];rfl;simp only[mC];rw[gq,ae,ab,ae]
def O8 (a b:aS):Bool:=(a.1==b.1)&&((a.2.1==b.2.1)&&((a.2.2.1==b.2.2.1)&&((a.2.2.2.1==b.2.2.2.1)&&((a.2.2.2.2.2.1==b.2.2.2.2.2.1)&&((a.2.2.2.2.2.2.1==b.2.2.2.2.2.2.1)&&((a.2.2.2.2.2.2.2.1==b.2.2.2.2.2.2.2.1)&&((a.2.2.2.2.2.2.2.2.1==b.2.2.2.2.2.2.2.2.1)&&((a.2.2.2.2.2.2.2.2.2.1==b.2.2.2.2.2.2.2.2.2.1)&&((a.2.2.2.2.2.2.2.2.2.2.1==b.2.2.2.2.2.2.2.2.2.2.1)&&((a.2.2.2.2.2.2.2.2.2.2.2.2.1==b.2.2.2.2.2.2.2.2.2.2.2.2.1)&&((a.2.2.2.2.2.2.2.2.2.2.2.2.2.2.1==b.2.2.2.2.2.2.2.2.2.2.2.2.2.2.1))))))))))))
theorem afw (a b:aS):zu a b=some (O8 a b):=by simp_all[zu,O8]
theorem aey (a b:aS):yH a b=some (O8 a b):=by simp_all[yH,O8]
def ait (s:jY)(p:aS):Bool:=(p.2.2.2.2.2.2.2.2.2.2.2.1==tmod (ak (s.1.2.2.2.2.2.2.2.2.2.2.2.1+(s.1.2.2.2.2.2.2.2.2.2.2.2.2.2.2.2.length:Int))) 4294967296)&&(p.2.2.2.2.1==tmod (ak (s.1.2.2.2.2.1+s.2.2)) 65536)
def R8 (s:jY)(p:aS):Bool:=decide (1<=s.2.1)&&(dH s.2.2 1 320&&(decide ((s.1.2.2.2.2.2.2.2.2.2.2.2.2.2.2.2.length:Int)=s.2.1*s.2.2)&&(dH (p.2.2.2.2.2.2.2.2.2.2.2.2.2.2.2.length:Int) 1 s.2.1&&decide ((s.1.2.2.2.2.2.2.2.2.2.2.2.2.2.2.2.length:Int)+(p.2.2.2.2.2.2.2.2.2.2.2.2.2.2.2.length:Int)<=320))))
def ad5 (s:jY)(p:aS):Bool:=ej s.1&&(jI p&&(O8 s.1 p&&((p.2.2.2.2.2.2.2.2.1==6)&&((s.1.2.2.2.2.2.2.2.2.2.2.2.2.2.1==16)&&GN p.2.2.2.2.2.2.2.2.2.2.2.2.2.1))))
def K9 (s:jY)(p:aS):Bool:=ad5 s p&&(R8 s p&&ait s p)
theorem Ks (h:jI p=true)(h6:(p.2.2.2.2.2.2.2.2.1==6)=true):dH p.2.2.2.2.2.2.2.2.2.2.2.2.2.1 0 31=true:=by grind[jI,ej,LP,Ot]
theorem Jr (h:jI p=true):p.2.2.2.2.2.2.2.2.2.2.2.2.2.2.2.length<=128:=by grind[jI]
theorem aaz (s:jY)(p:aS):xo s p=some (K9 s p):=by
 unfold xo K9 ad5;rw[sD,ab,FA,ab,afw,ab];cases hs:ej s.1;rfl;cases hp:jI p;rfl;cases O8 s.1 p;rfl;cases h6:p.2.2.2.2.2.2.2.2.1==6 with|false=>simp only[bne,h6];rfl|true=>?_
 cases W9:s.1.2.2.2.2.2.2.2.2.2.2.2.2.2.1==16 with|false=>simp only[bne,h6,W9];rfl|true=>?_
 have hf:=Ks hp h6;have hsl:=yq hs;have CR:=Jr hp;simp only[bne,h6,W9,ai,ae,ab,Oc _ hf,bF];cases GN p.2.2.2.2.2.2.2.2.2.2.2.2.2.1;rfl;simp only[ai,ae,cM,ab,bF,cw];have tu:(bif !dH s.2.1 1 320 then some true else bif !dH s.2.2 1 320 then some true else bif !((s.1.2.2.2.2.2.2.2.2.2.2.2.2.2.2.2.length:Int)==ak (s.2.1*s.2.2)) then some true else bif !dH (p.2.2.2.2.2.2.2.2.2.2.2.2.2.2.2.length:Int) 1 s.2.1 then some true else some (decide (ak ((s.1.2.2.2.2.2.2.2.2.2.2.2.2.2.2.2.length:Int)+(p.2.2.2.2.2.2.2.2.2.2.2.2.2.2.2.length:Int))>320)))=some (!R8 s p):=by
  unfold R8;generalize s.1.2.2.2.2.2.2.2.2.2.2.2.2.2.2.2.length=n at hsl⊢;generalize p.2.2.2.2.2.2.2.2.2.2.2.2.2.2.2.length=m at CR⊢;rw[aj (n:=(n:Int)+(m:Int)) (by omega) (by omega)];cases h2:dH s.2.2 1 320 with
  |false=>cases dH s.2.1 1 320<;>cases decide (1<=s.2.1)<;>rfl
  |true=>
   have Un:=bM.1 h2;by_cases h1:1<=s.2.1;rw[ax h1];by_cases h3:s.2.1<=320;have hb:s.2.1*s.2.2<=320*320:=Int.mul_le_mul h3 Un.2 (by omega) (by omega);have Uo:0<=s.2.1*s.2.2:=Int.mul_nonneg (by omega) (by omega);rw[bM.2 ⟨h1,h3⟩,aj (n:=s.2.1*s.2.2) (by omega) (by omega)];by_cases h4:(n:Int)=s.2.1*s.2.2;rw[show((n:Int)==s.2.1*s.2.2)=true from by rw[bD];exact h4,ax h4];cases dH (m:Int) 1 s.2.1 with|false=>rfl|true=>by_cases h5:(n:Int)+(m:Int)<=320;rw[ax h5,aq (show¬(n:Int)+(m:Int)>320 by omega)];rfl;rw[aq h5,ax (show(n:Int)+(m:Int)>320 by omega)];rfl
   rw[show((n:Int)==s.2.1*s.2.2)=false from by rw[cC];exact h4,aq h4];rfl;have hb:321*1<=s.2.1*s.2.2:=Int.mul_le_mul (by omega) (by omega) (by omega) (by omega);rw[show dH s.2.1 1 320=false from by rw[Bool.eq_false_iff];intro hc;have:=bM.1 hc;omega,aq (show¬(n:Int)=s.2.1*s.2.2 by omega)];rfl;rw[aq h1,show dH s.2.1 1 320=false from by rw[Bool.eq_false_iff];intro hc;have:=bM.1 hc;omega];rfl
 simp only[bne,cw]at tu⊢;rw[cB tu];cases R8 s p;rfl;rw[mG,mG];simp only[ai,ae,cw,ab,cF,bF];rfl
theorem aac (s:jY)(p:aS):wa s p=some (K9 s p):=by
 unfold wa K9 ad5;rw[pM,ab,EW,ab,aey,ab];cases hs:ej s.1;rfl;cases hp:jI p;rfl;cases O8 s.1 p;rfl;cases h6:p.2.2.2.2.2.2.2.2.1==6 with|false=>simp only[bne,h6];rfl|true=>?_
 cases W9:s.1.2.2.2.2.2.2.2.2.2.2.2.2.2.1==16 with|false=>simp only[bne,h6,W9];rfl|true=>?_
 have hf:=Ks hp h6;have hsl:=yq hs;have CR:=Jr hp;simp only[bne,h6,W9,ai,ae,ab,Ob _ hf,bF];cases GN p.2.2.2.2.2.2.2.2.2.2.2.2.2.1;rfl;simp only[ai,ae,dh,ab,bF];rw[aF (show¬(4294967296:Nat)=0 by omega),aF (show¬(65536:Nat)=0 by omega)];simp only[cw,cF];rw[show((p.2.2.2.2.2.2.2.2.2.2.2.1==tmod (ak (s.1.2.2.2.2.2.2.2.2.2.2.2.1+(s.1.2.2.2.2.2.2.2.2.2.2.2.2.2.2.2.length:Int))) 4294967296)&&(p.2.2.2.2.1==tmod (ak (s.1.2.2.2.2.1+s.2.2)) 65536))=ait s p from rfl];unfold R8;generalize ait s p=q;generalize s.1.2.2.2.2.2.2.2.2.2.2.2.2.2.2.2.length=n at hsl⊢;generalize p.2.2.2.2.2.2.2.2.2.2.2.2.2.2.2.length=m at CR⊢;rw[aj (n:=(n:Int)+(m:Int)) (by omega) (by omega)];by_cases h1:s.2.1<1;rw[ax h1,aq (show¬1<=s.2.1 by omega)];rfl;rw[aq h1,ax (show 1<=s.2.1 by omega)];cases h2:dH s.2.2 1 320;rfl;have Un:=bM.1 h2;simp only[ai,ae,ab,bF];rw[mG,mG];have e1:tmod (n:Int) s.2.2=(n:Int)%s.2.2:=eP (by omega);have e2:Int.tdiv (n:Int) s.2.2=(n:Int)/s.2.2:=Int.tdiv_eq_ediv_of_nonneg (by omega);have hdm:=Int.emod_add_mul_ediv (n:Int) s.2.2;have hq0:0<=(n:Int)/s.2.2:=Int.ediv_nonneg (by omega) (by omega);have X9:(n:Int)/s.2.2<=(n:Int):=Int.ediv_le_self _ (by omega);rw[e1,e2,aj (n:=(n:Int)/s.2.2) (by omega) (by omega)];by_cases h3:(n:Int)=s.2.1*s.2.2;have h4:(n:Int)%s.2.2=0:=by rw[h3];exact Int.mul_emod_left ..
 have h5:(n:Int)/s.2.2=s.2.1:=by rw[h3];exact Int.mul_ediv_cancel _ (by omega)
 rw[h4,h5,ax h3];simp only[fY,ai,ae,ab,bF];cases dH (m:Int) 1 s.2.1;rfl;cases decide ((n:Int)+(m:Int)<=320)<;>rfl;rw[aq h3];cases h4:(n:Int)%s.2.2==0 with
 |false=>rfl
 |true=>
  have h4':(n:Int)%s.2.2=0:=by simpa using h4
  have h5:((n:Int)/s.2.2==s.2.1)=false:=by rw[cC];intro h5;rw[h4',h5]at hdm;exact h3 (by rw[Int.mul_comm];omega)
  simp only[ai,ae,h5,cf,ab,af];rfl
def RD (s:jY)(p:aS):jY:=bif K9 s p then((s.1.1,s.1.2.1,s.1.2.2.1,s.1.2.2.2.1,s.1.2.2.2.2.1,s.1.2.2.2.2.2.1,s.1.2.2.2.2.2.2.1,s.1.2.2.2.2.2.2.2.1,s.1.2.2.2.2.2.2.2.2.1,s.1.2.2.2.2.2.2.2.2.2.1,s.1.2.2.2.2.2.2.2.2.2.2.1,s.1.2.2.2.2.2.2.2.2.2.2.2.1,s.1.2.2.2.2.2.2.2.2.2.2.2.2.1,p.2.2.2.2.2.2.2.2.2.2.2.2.2.1,s.1.2.2.2.2.2.2.2.2.2.2.2.2.2.2.1,s.1.2.2.2.2.2.2.2.2.2.2.2.2.2.2.2++p.2.2.2.2.2.2.2.2.2.2.2.2.2.2.2),s.2.1,ak (s.2.2+1)) else s
theorem SF {s:jY}(h:K9 s p=true):s.1.2.2.2.2.2.2.2.2.2.2.2.2.2.2.2.length+p.2.2.2.2.2.2.2.2.2.2.2.2.2.2.2.length<=320:=by grind[K9,R8]
theorem aft (s:jY)(p:aS):H4 s p=some (RD s p):=by unfold H4 RD;rw[aaz,ab];cases h:K9 s p;rfl;have:=SF h;grind[aQ]
theorem aew (s:jY)(p:aS):HP s p=some (RD s p):=by unfold HP RD;rw[aac,ab];cases h:K9 s p;rfl;have:=SF h;grind[aQ]
def singleR (p:aS):jY:=(p,(p.2.2.2.2.2.2.2.2.2.2.2.2.2.2.2.length:Int),1)
theorem Yn (p:aS):G5 p=some (singleR p):=rfl
theorem Zp (p:aS):Ho p=some (singleR p):=rfl
def Rf (q:bc)(s:jY):bc:=(q.1,q.2.1,q.2.2.1,s,true,q.2.2.2.2.2)
def lU (l:ar aA)(m:br)(d:Int)(q:bc)(k:Bytes)(p:aS)(c:Bool):br×bc:=
 bif !Ph q||(!jI p||((k.length:Int) !=16)) then(m,q) else
 bif c&&(q.2.2.2.2.1&&K9 q.2.2.2.1 p) then(m,q.1,q.2.1,q.2.2.1,RD q.2.2.2.1 p,q.2.2.2.2) else
 bif c then((jR l m d q k).1,Rf (jR l m d q k).2 (singleR p)) else jR l (jR l m d q k).1 d (Rf (jR l m d q k).2 (singleR p)) k
theorem Yd (l:ar aA)(m:br)(d:Int)(q:bc)(k:Bytes)(p:aS)(c:Bool)(hl:l.length<=10^9)(hm:m.length<=10^9):oH l m d q k p c=some (lU l m d q k p c):=by
 unfold oH lU Rf;simp only[Tm,EW,ab,fT m (show m.length<=1073741824 by omega),aac,aew,Ll l m d q k hl hm,Yn,Ll l (jR l m d q k).1 d _ k hl (show(jR l m d q k).1.length<=10^9 by rw[Og];exact hm)];cases Ph q;rfl;cases jI p;rfl;cases (k.length:Int) !=16;case true=>rfl
 cases c;rfl;cases q.2.2.2.2.1;rfl;cases K9 q.2.2.2.1 p<;>rfl
theorem Zf (l:ar aA)(m:br)(d:Int)(q:bc)(k:Bytes)(p:aS)(c:Bool)(hl:l.length<=10^9)(hm:m.length<=10^9):oX l m d q k p c=some (lU l m d q k p c):=by
 unfold oX lU Rf;simp only[T5,FA,ab,hU m (show m.length<=1073741824 by omega),aaz,aft,LU l m d q k hl hm,Zp,LU l (jR l m d q k).1 d _ k hl (show(jR l m d q k).1.length<=10^9 by rw[Og];exact hm)];cases Ph q;rfl;cases jI p;rfl;cases (k.length:Int) !=16;case true=>rfl
 cases c;rfl;cases q.2.2.2.2.1;rfl;cases K9 q.2.2.2.1 p<;>rfl
theorem abi {n:Nat}{q:bc}{s:jY}(h:s.1.2.2.2.2.2.2.2.2.2.2.2.2.2.2.2.length<=n):bu n cW (Rf q s):=⟨⟨bV,bV,bV,bV⟩,⟨bV,bV,bV⟩,⟨bV,bV,bV⟩,⟨⟨bV,bV,bV,bV,bV,bV,bV,bV,bV,bV,bV,bV,bV,bV,bV,h⟩,bV,bV⟩,bV,bV⟩
theorem I1 {n:Nat}(hn:1000<=n){q:bc}{k:Bytes}{c:Bool}(z:bu n (.sl .str) m)(zq:bu n cW q)(hq:hY q.2.1=true): bu n (.sl .str) (lU l m d q k p c).1/\(lU l m d q k p c).1.length=m.length/\bu n cW (lU l m d q k p c).2/\hY (lU l m d q k p c).2.2.1=true:=by
 unfold lU;cases hc: !Ph q||(!jI p||((k.length:Int) !=16));case true=>grind
 simp only[dB,eK]at hc;have hp:=Jr hc.2.1;cases hj:c&&(q.2.2.2.2.1&&K9 q.2.2.2.1 p)with|true=>simp only[ah]at hj;have:=SF hj.2.2;refine⟨z,rfl,⟨⟨bV,bV,bV,bV⟩,⟨bV,bV,bV⟩,⟨bV,bV,bV⟩,⟨?_,bV,bV⟩,bV,bV⟩,hq⟩;refine⟨bV,bV,bV,bV,bV,bV,bV,bV,bV,bV,bV,bV,bV,bV,bV,?_⟩;unfold RD;rw[hj.2.2];show List.length (q.2.2.2.1.1.2.2.2.2.2.2.2.2.2.2.2.2.2.2.2++p.2.2.2.2.2.2.2.2.2.2.2.2.2.2.2)<=n;rw[au];omega|false=>grind[HI,Rf,jR,singleR,abi]
theorem Wh {r:gi}(h:Es r=true):0<=r.2.2.2.2.2.2.2.2:=by
 by_cases h0:0<=r.2.2.2.2.2.2.2.2;exact h0;exfalso;have e:∀b:Int,dH r.2.2.2.2.2.2.2.2 0 b=false:=λb=>by rw[Bool.eq_false_iff];intro hc;have:=bM.1 hc;omega
 have e1:(r.2.2.2.2.2.2.2.2==0)=false:=by rw[cC];omega
 revert h;unfold Es;have z:∀c:Bool,(bif c then false else false)=false:=by intro c;cases c<;>rfl
 simp only[mE,cM,ab,cw,e,e1,fy,z,ae];intro h;cases h
theorem Si {s:dW}{q:Int}:yn s q p= -1\/∃n:Nat,yn s q p=(n:Int)/\(n:Int)<q:=by
 unfold yn;cases hb: !iH s q|| !ej p;case true=>exact .inl rfl
 simp only[dB,eK]at hb;have hs:=hb.1;simp only[iH,ah]at hs;simp only[ae];cases hd:decide (GL s.1 p>=0)with
 |true=>obtain⟨n,hn,hl⟩:=Oa s.1 p (ij hd);simp only[af,hn,ay,fM hl];cases s.1[n].2.2.2.2.2.2.2.1==1 with|true=>exact .inl rfl|false=>have h1:=aW.1 hs.1.2 _ (bh hl);have h2:=hs.1.1.1.1;simp only[CF,ah]at h2;have h3:=Wh (aW.1 h2.1 _ (bh hl));simp only[aP,eI]at h1;exact .inr ⟨s.1[n].2.2.2.2.2.2.2.2.toNat,by grind,by omega⟩
 |false=>
  simp only[ae];cases Xb:decide (findF s.2.1 (mI p)>=0)with
  |true=>obtain⟨n,hn,hl⟩:=N9 s.2.1 (mI p) (ij Xb);simp only[af,hn,ay,fM hl];have h1:=aW.1 hs.2 _ (bh hl);have h2:=hs.1.1.1.2;simp only[xK,ah,bD]at h2;have h3:=aW.1 h2.2 n (dx.2 (by omega));unfold nQ R9 at h3;rw[yj hl]at h3;simp only[ah,bM]at h3;simp only[aP,eI]at h1;exact .inr ⟨s.2.1[n].2.2.toNat,by omega,by omega⟩
  |false=>
   simp only[ae];unfold H6;cases hc: !Bw s.2.2 q||decide (DE s.2.2 (mI p)<0);case true=>exact .inl rfl
   simp only[dB,eK,eI]at hc;obtain⟨n,hn,hl⟩:=Lb s.2.2 (mI p) hc.2;have h1:=hc.1;simp only[Bw,ah]at h1;have h2:=bM.1 (aW.1 h1.2 _ (bh hl));simp only[ae,hn,ay,fM hl];exact .inr ⟨s.2.2.2[n].toNat,by omega,by omega⟩
def GF (h:Host)(a b c d:Int):Host:=(h.1,h.2.1,h.2.2.1,h.2.2.2.1,h.2.2.2.2.1,h.2.2.2.2.2.1,h.2.2.2.2.2.2.1,h.2.2.2.2.2.2.2.1,h.2.2.2.2.2.2.2.2.1,h.2.2.2.2.2.2.2.2.2.1,h.2.2.2.2.2.2.2.2.2.2.1,h.2.2.2.2.2.2.2.2.2.2.2.1,h.2.2.2.2.2.2.2.2.2.2.2.2.1,h.2.2.2.2.2.2.2.2.2.2.2.2.2.1,ak (h.2.2.2.2.2.2.2.2.2.2.2.2.2.2.1+1),a,b,c,d)
def ub (h:Host)(x:Bytes):Host:=
 bif !fF h then h else
 bif (Eo x).2 !=0 then GF h (ak (h.2.2.2.2.2.2.2.2.2.2.2.2.2.2.2.1+1)) h.2.2.2.2.2.2.2.2.2.2.2.2.2.2.2.2.1 h.2.2.2.2.2.2.2.2.2.2.2.2.2.2.2.2.2.1 h.2.2.2.2.2.2.2.2.2.2.2.2.2.2.2.2.2.2 else
 bif !zD h.2.2.2.2.2.2.2.1 (Eo x).1 then GF h h.2.2.2.2.2.2.2.2.2.2.2.2.2.2.2.1 (ak (h.2.2.2.2.2.2.2.2.2.2.2.2.2.2.2.2.1+1)) h.2.2.2.2.2.2.2.2.2.2.2.2.2.2.2.2.2.1 h.2.2.2.2.2.2.2.2.2.2.2.2.2.2.2.2.2.2 else
 bif yn h.2.2.2.2.2.2.2.2.1 (h.2.2.2.1.length:Int) (Eo x).1== -1 then GF h h.2.2.2.2.2.2.2.2.2.2.2.2.2.2.2.1 h.2.2.2.2.2.2.2.2.2.2.2.2.2.2.2.2.1 (ak (h.2.2.2.2.2.2.2.2.2.2.2.2.2.2.2.2.2.1+1)) h.2.2.2.2.2.2.2.2.2.2.2.2.2.2.2.2.2.2 else
 match h.2.2.2.1[(yn h.2.2.2.2.2.2.2.2.1 (h.2.2.2.1.length:Int) (Eo x).1).toNat]? with
 |some q=>LY (GF h h.2.2.2.2.2.2.2.2.2.2.2.2.2.2.2.1 h.2.2.2.2.2.2.2.2.2.2.2.2.2.2.2.2.1 h.2.2.2.2.2.2.2.2.2.2.2.2.2.2.2.2.2.1 (ak (h.2.2.2.2.2.2.2.2.2.2.2.2.2.2.2.2.2.2+1))) (yn h.2.2.2.2.2.2.2.2.1 (h.2.2.2.1.length:Int) (Eo x).1).toNat q.2.1.2.2 (lU h.2.1 h.1 0 q h.2.2.2.2.2.2.2.2.1.2.2.1 (Eo x).1 h.2.2.2.2.2.2.2.2.2.2.1)
 |none=>h
theorem Tl (h:Host)(x:Bytes)(k:CU 900000000 h)(hx:x.length<=10^9):rQ h x=some (ub h x):=by
 have z:=k.z;have z1:h.1.length<=900000000:=z.1.1;have z2:h.2.1.length<=900000000:=z.2.1.1;have zf:h.2.2.2.2.2.2.2.1.2.2.length<=900000000:=z.2.2.2.2.2.2.2.1.2.2.1;have s1:h.2.2.2.2.2.2.2.2.1.1.length<=900000000:=z.2.2.2.2.2.2.2.2.1.1.1;have s2:h.2.2.2.2.2.2.2.2.1.2.1.length<=900000000:=z.2.2.2.2.2.2.2.2.1.2.1.1;have s3:h.2.2.2.2.2.2.2.2.1.2.2.2.length<=900000000:=z.2.2.2.2.2.2.2.2.1.2.2.2.1;unfold rQ ub;rw[kx h (z.mono),ab,zG h (k.sz),ab];cases hb:fF h;rfl;have hl:=nk (by grind[fF]:xe h=true);have hr:=B0 hb;simp only[ai,ae,abC x hx,ab,Vs h.2.2.2.2.2.2.2.1 _ (show h.2.2.2.2.2.2.2.1.2.2.length<=10^9 by omega),abI h.2.2.2.2.2.2.2.2.1 _ _ (show h.2.2.2.2.2.2.2.2.1.1.length<=10^9 by omega) (show h.2.2.2.2.2.2.2.2.1.2.1.length<=10^9 by omega) (show h.2.2.2.2.2.2.2.2.1.2.2.2.length<=10^9 by omega)];generalize Eo x=f;cases f.2 !=0;case true=>rfl
 cases zD h.2.2.2.2.2.2.2.1 f.1;rfl;simp only[ai,ae];have lE:=Si (s:=h.2.2.2.2.2.2.2.2.1) (q:=(h.2.2.2.1.length:Int)) (p:=f.1);generalize yn h.2.2.2.2.2.2.2.2.1 (h.2.2.2.1.length:Int) f.1=r at lE⊢;rcases lE with rfl|⟨n,rfl,hn⟩;rfl;have i1:n<h.2.2.2.1.length:=by omega
 have i2:n<h.2.2.2.2.2.1.length:=by omega
 have hq:=(zZ (hr n i1)).1;have hqi:=mw hq;have ha:=I1 (show 1000<=900000000 by omega) (l:=h.2.1) (d:=0) (k:=h.2.2.2.2.2.2.2.2.1.2.2.1) (p:=f.1) (c:=h.2.2.2.2.2.2.2.2.2.2.1) z.1 (z.2.2.2.1.2 _ (bh i1)) hq;have ev:=MN (h:=GF h h.2.2.2.2.2.2.2.2.2.2.2.2.2.2.2.1 h.2.2.2.2.2.2.2.2.2.2.2.2.2.2.2.2.1 h.2.2.2.2.2.2.2.2.2.2.2.2.2.2.2.2.2.1 (ak (h.2.2.2.2.2.2.2.2.2.2.2.2.2.2.2.2.2.2+1))) (k:=n) (b:=h.2.2.2.1[n].2.1.2.2) (f:=lU h.2.1 h.1 0 h.2.2.2.1[n] h.2.2.2.2.2.2.2.2.1.2.2.1 f.1 h.2.2.2.2.2.2.2.2.2.2.1) i1 i2 ha.2.2.2;rw[show((n:Int)== -1)=false from by rw[cC];omega,ay,al i1];simp only[ae,aX i1,ab,Yd h.2.1 h.1 0 _ _ _ _ (show h.2.1.length<=10^9 by omega) (show h.1.length<=10^9 by omega)];rw[show(lg ((lU h.2.1 h.1 0 h.2.2.2.1[n] h.2.2.2.2.2.2.2.2.1.2.2.1 f.1 h.2.2.2.2.2.2.2.2.2.2.1).1,h.2.1,h.2.2.1,h.2.2.2.1.set n (lU h.2.1 h.1 0 h.2.2.2.1[n] h.2.2.2.2.2.2.2.2.1.2.2.1 f.1 h.2.2.2.2.2.2.2.2.2.2.1).2,h.2.2.2.2.1,h.2.2.2.2.2.1,h.2.2.2.2.2.2.1,h.2.2.2.2.2.2.2.1,h.2.2.2.2.2.2.2.2.1,h.2.2.2.2.2.2.2.2.2.1,h.2.2.2.2.2.2.2.2.2.2.1,h.2.2.2.2.2.2.2.2.2.2.2.1,h.2.2.2.2.2.2.2.2.2.2.2.2.1,h.2.2.2.2.2.2.2.2.2.2.2.2.2.1,ak (h.2.2.2.2.2.2.2.2.2.2.2.2.2.2.1+1),h.2.2.2.2.2.2.2.2.2.2.2.2.2.2.2.1,h.2.2.2.2.2.2.2.2.2.2.2.2.2.2.2.2.1,h.2.2.2.2.2.2.2.2.2.2.2.2.2.2.2.2.2.1,ak (h.2.2.2.2.2.2.2.2.2.2.2.2.2.2.2.2.2.2+1)) (n:Int) h.2.2.2.1[n].2.1.2.2)=_ from ev,ab]
theorem T4 (h:Host)(x:Bytes)(k:CU 900000000 h)(hx:x.length<=10^9):sG h x=some (ub h x):=by
 have z:=k.z;have z1:h.1.length<=900000000:=z.1.1;have z2:h.2.1.length<=900000000:=z.2.1.1;have zf:h.2.2.2.2.2.2.2.1.2.2.length<=900000000:=z.2.2.2.2.2.2.2.1.2.2.1;have s1:h.2.2.2.2.2.2.2.2.1.1.length<=900000000:=z.2.2.2.2.2.2.2.2.1.1.1;have s2:h.2.2.2.2.2.2.2.2.1.2.1.length<=900000000:=z.2.2.2.2.2.2.2.2.1.2.1.1;have s3:h.2.2.2.2.2.2.2.2.1.2.2.2.length<=900000000:=z.2.2.2.2.2.2.2.2.1.2.2.2.1;unfold sG ub;rw[kC h (z.mono),ab,ud h (k.sz),ab];cases hb:fF h;rfl;have hl:=nk (by grind[fF]:xe h=true);have hr:=B0 hb;simp only[ai,ae,acM x hx,ab,Wr h.2.2.2.2.2.2.2.1 _ (show h.2.2.2.2.2.2.2.1.2.2.length<=10^9 by omega),acS h.2.2.2.2.2.2.2.2.1 _ _ (show h.2.2.2.2.2.2.2.2.1.1.length<=10^9 by omega) (show h.2.2.2.2.2.2.2.2.1.2.1.length<=10^9 by omega) (show h.2.2.2.2.2.2.2.2.1.2.2.2.length<=10^9 by omega)];generalize Eo x=f;cases f.2 !=0;case true=>rfl
 cases zD h.2.2.2.2.2.2.2.1 f.1;rfl;simp only[ai,ae];have lE:=Si (s:=h.2.2.2.2.2.2.2.2.1) (q:=(h.2.2.2.1.length:Int)) (p:=f.1);generalize yn h.2.2.2.2.2.2.2.2.1 (h.2.2.2.1.length:Int) f.1=r at lE⊢;rcases lE with rfl|⟨n,rfl,hn⟩;rfl;have i1:n<h.2.2.2.1.length:=by omega
 have i2:n<h.2.2.2.2.2.1.length:=by omega
 have hq:=(zZ (hr n i1)).1;have hqi:=mw hq;have ha:=I1 (show 1000<=900000000 by omega) (l:=h.2.1) (d:=0) (k:=h.2.2.2.2.2.2.2.2.1.2.2.1) (p:=f.1) (c:=h.2.2.2.2.2.2.2.2.2.2.1) z.1 (z.2.2.2.1.2 _ (bh i1)) hq;have ev:=MP (h:=GF h h.2.2.2.2.2.2.2.2.2.2.2.2.2.2.2.1 h.2.2.2.2.2.2.2.2.2.2.2.2.2.2.2.2.1 h.2.2.2.2.2.2.2.2.2.2.2.2.2.2.2.2.2.1 (ak (h.2.2.2.2.2.2.2.2.2.2.2.2.2.2.2.2.2.2+1))) (k:=n) (b:=h.2.2.2.1[n].2.1.2.2) (f:=lU h.2.1 h.1 0 h.2.2.2.1[n] h.2.2.2.2.2.2.2.2.1.2.2.1 f.1 h.2.2.2.2.2.2.2.2.2.2.1) i1 i2 ha.2.2.2;rw[show((n:Int)== -1)=false from by rw[cC];omega,aq (show¬(n:Int)<0 by omega),ay,al i1];simp only[ae,aX i1,ab,Zf h.2.1 h.1 0 _ _ _ _ (show h.2.1.length<=10^9 by omega) (show h.1.length<=10^9 by omega)];rw[show(lq ((lU h.2.1 h.1 0 h.2.2.2.1[n] h.2.2.2.2.2.2.2.2.1.2.2.1 f.1 h.2.2.2.2.2.2.2.2.2.2.1).1,h.2.1,h.2.2.1,h.2.2.2.1.set n (lU h.2.1 h.1 0 h.2.2.2.1[n] h.2.2.2.2.2.2.2.2.1.2.2.1 f.1 h.2.2.2.2.2.2.2.2.2.2.1).2,h.2.2.2.2.1,h.2.2.2.2.2.1,h.2.2.2.2.2.2.1,h.2.2.2.2.2.2.2.1,h.2.2.2.2.2.2.2.2.1,h.2.2.2.2.2.2.2.2.2.1,h.2.2.2.2.2.2.2.2.2.2.1,h.2.2.2.2.2.2.2.2.2.2.2.1,h.2.2.2.2.2.2.2.2.2.2.2.2.1,h.2.2.2.2.2.2.2.2.2.2.2.2.2.1,ak (h.2.2.2.2.2.2.2.2.2.2.2.2.2.2.1+1),h.2.2.2.2.2.2.2.2.2.2.2.2.2.2.2.1,h.2.2.2.2.2.2.2.2.2.2.2.2.2.2.2.2.1,h.2.2.2.2.2.2.2.2.2.2.2.2.2.2.2.2.2.1,ak (h.2.2.2.2.2.2.2.2.2.2.2.2.2.2.2.2.2.2+1)) (n:Int) h.2.2.2.1[n].2.1.2.2)=_ from ev,ab]
theorem Mx {n:Nat}(hn:1000<=n)(x:Bytes)(k:CU n h):CU n (ub h x)/\(ub h x).2.2.1=h.2.2.1/\(ub h x).2.2.2.2.1.length=h.2.2.2.2.1.length:=by
 have z:=k.z;have zc:∀a b c d,CU n (GF h a b c d):=λa b c d=>⟨⟨z.1,z.2.1,z.2.2.1,z.2.2.2.1,z.2.2.2.2.1,z.2.2.2.2.2.1,z.2.2.2.2.2.2.1,z.2.2.2.2.2.2.2.1,z.2.2.2.2.2.2.2.2.1,z.2.2.2.2.2.2.2.2.2.1,z.2.2.2.2.2.2.2.2.2.2.1,z.2.2.2.2.2.2.2.2.2.2.2.1,z.2.2.2.2.2.2.2.2.2.2.2.2.1,z.2.2.2.2.2.2.2.2.2.2.2.2.2.1,bV,bV,bV,bV,bV⟩,k.t⟩
 unfold ub;cases hb:fF h;exact⟨k,rfl,rfl⟩;have hr:=B0 hb;generalize Eo x=f;cases f.2 !=0;case true=>exact⟨zc ..,rfl,rfl⟩
 cases zD h.2.2.2.2.2.2.2.1 f.1;exact⟨zc ..,rfl,rfl⟩;simp only[ai,ae];generalize yn h.2.2.2.2.2.2.2.2.1 (h.2.2.2.1.length:Int) f.1=r;cases r== -1;case true=>exact⟨zc ..,rfl,rfl⟩
 simp only[ae];rcases hq:h.2.2.2.1[r.toNat]? with _|q;exact⟨k,rfl,rfl⟩;obtain⟨hi,hqe⟩:=aD.1 hq;have hqd:=(zZ (hr _ hi)).1;rw[hqe]at hqd;have ha:=I1 hn (l:=h.2.1) (d:=0) (k:=h.2.2.2.2.2.2.2.2.1.2.2.1) (p:=f.1) (c:=h.2.2.2.2.2.2.2.2.2.2.1) z.1 (z.2.2.2.1.2 _ (cR hq)) hqd;have zc':=zc h.2.2.2.2.2.2.2.2.2.2.2.2.2.2.2.1 h.2.2.2.2.2.2.2.2.2.2.2.2.2.2.2.2.1 h.2.2.2.2.2.2.2.2.2.2.2.2.2.2.2.2.2.1 (ak (h.2.2.2.2.2.2.2.2.2.2.2.2.2.2.2.2.2.2+1));have kk:=MO (h:=GF h h.2.2.2.2.2.2.2.2.2.2.2.2.2.2.2.1 h.2.2.2.2.2.2.2.2.2.2.2.2.2.2.2.2.1 h.2.2.2.2.2.2.2.2.2.2.2.2.2.2.2.2.2.1 (ak (h.2.2.2.2.2.2.2.2.2.2.2.2.2.2.2.2.2.2+1))) (k:=r.toNat) (b:=q.2.1.2.2) (f:=lU h.2.1 h.1 0 q h.2.2.2.2.2.2.2.2.1.2.2.1 f.1 h.2.2.2.2.2.2.2.2.2.2.1) ha.2.1;exact⟨⟨P3 zc'.z ha.1 ha.2.2.1,by rw[kk.tx];exact k.t⟩,kk.tx,kk.pl⟩
theorem agK (l:ar aA)(m:br)(d:Int)(rx:bc)(pl:cj)(st:ar Stream)(c:Int):(kJ l m d rx pl st c).1.length=m.length:=by grind[kJ,Z2]
def Fx (b:Int)(k:Nat)(s:Int×Host):Int×Host:=
 match s.2.2.2.2.2.2.1[k]?,s.2.2.2.2.2.2.2.1[k]?,s.2.2.2.2.1[k]?,s.2.2.2.2.2.1[k]? with
 |some v,some p,some x,some pl=>
  bif p||(Gq v).2 then
   (ak (s.1+(kJ s.2.2.1 s.2.1 0 x pl s.2.2.2.2.2.2.2.2.2.2.1 b).2.2.2.2),
    (kJ s.2.2.1 s.2.1 0 x pl s.2.2.2.2.2.2.2.2.2.2.1 b).1,s.2.2.1,s.2.2.2.1,s.2.2.2.2.1.set k (kJ s.2.2.1 s.2.1 0 x pl s.2.2.2.2.2.2.2.2.2.2.1 b).2.1,s.2.2.2.2.2.1.set k (kJ s.2.2.1 s.2.1 0 x pl s.2.2.2.2.2.2.2.2.2.2.1 b).2.2.1,
    s.2.2.2.2.2.2.1.set k (bif decide ((kJ s.2.2.1 s.2.1 0 x pl s.2.2.2.2.2.2.2.2.2.2.1 b).2.2.2.2<b) then KX (Gq v).1 else(Gq v).1),
    s.2.2.2.2.2.2.2.1.set k (!decide ((kJ s.2.2.1 s.2.1 0 x pl s.2.2.2.2.2.2.2.2.2.2.1 b).2.2.2.2<b)),s.2.2.2.2.2.2.2.2.1,s.2.2.2.2.2.2.2.2.2.1,(kJ s.2.2.1 s.2.1 0 x pl s.2.2.2.2.2.2.2.2.2.2.1 b).2.2.2.1,s.2.2.2.2.2.2.2.2.2.2.2)
  else(s.1,s.2.1,s.2.2.1,s.2.2.2.1,s.2.2.2.2.1,s.2.2.2.2.2.1,s.2.2.2.2.2.2.1.set k (Gq v).1,s.2.2.2.2.2.2.2.1.set k false,s.2.2.2.2.2.2.2.2)
 |_,_,_,_=>s
theorem Wm (b:Int)(k:Nat)(s:Int×Host):lG (k+1) s.2 (Fx b k s).2:=by unfold Fx;rcases s.2.2.2.2.2.2.1[k]? with _|v;exact lG.refl _ _;rcases s.2.2.2.2.2.2.2.1[k]? with _|p;exact lG.refl _ _;rcases s.2.2.2.2.1[k]? with _|x;exact lG.refl _ _;rcases s.2.2.2.2.2.1[k]? with _|pl;exact lG.refl _ _;simp only;cases p||(Gq v).2 with|true=>exact⟨agK ..,rfl,rfl,aH ..,λj hj=>aO (by omega),aH ..,aH ..,λj hj=>aO (by omega),aH ..,rfl,rfl⟩|false=>exact⟨rfl,rfl,rfl,rfl,λ_ _=>rfl,rfl,aH ..,λj hj=>aO (by omega),aH ..,rfl,rfl⟩
theorem Zb (b:Int)(k:Nat)(s:Int×Host){n:Nat}(hn:1000<=n)(z:bu n cK s.2):bu (n+322000) cK (Fx b k s).2:=by have z':bu (n+322000) cK s.2:=z.mono;unfold Fx;rcases s.2.2.2.2.2.2.1[k]? with _|v;exact z';rcases s.2.2.2.2.2.2.2.1[k]? with _|p;exact z';rcases h1:s.2.2.2.2.1[k]? with _|x;exact z';rcases h2:s.2.2.2.2.2.1[k]? with _|pl;exact z';simp only;cases p||(Gq v).2 with|true=>have hp:=RV (by omega) (l:=s.2.2.1) (d:=0) b z.1 (z.2.2.2.1.2 _ (cR h1)) (z.2.2.2.2.1.2 _ (cR h2)) z.2.2.2.2.2.2.2.2.2.1;exact⟨hp.1.mono,z'.2.1,z'.2.2.1,pw z'.2.2.2.1 (hp.2.1.mono),pw z'.2.2.2.2.1 hp.2.2.1,NC z'.2.2.2.2.2.1,pw z'.2.2.2.2.2.2.1 trivial,z'.2.2.2.2.2.2.2.1,z'.2.2.2.2.2.2.2.2.1,hp.2.2.2.1,z'.2.2.2.2.2.2.2.2.2.2⟩|false=>exact⟨z'.1,z'.2.1,z'.2.2.1,z'.2.2.2.1,z'.2.2.2.2.1,NC z'.2.2.2.2.2.1,pw z'.2.2.2.2.2.2.1 trivial,z'.2.2.2.2.2.2.2⟩
def jX (b:Int):Nat->Host->Int×Host
 |0,h=>(0,h)
 |k+1,h=>Fx b k (jX b k h)
theorem BI (b:Int)(h:Host):∀k,lG k h (jX b k h).2
 |0=>lG.refl 0 h
 |k+1=>((BI b h k).up (by omega)).trans (Wm b k _)
theorem Fw (b:Int){n:Nat}(hn:1000<=n)(z:bu n cK h):∀k,bu (n+322000*k) cK (jX b k h).2
 |0=>z
 |k+1=>(Zb b k _ (by omega) (Fw b hn z k)).mono
def xm (h:Host)(b:Int):Host×Int:=bif fF h&&dH b 1 1000 then((jX b h.2.2.2.1.length h).2,(jX b h.2.2.2.1.length h).1) else(h,0)
theorem Wn {n:Nat}(hn:1000<=n)(b:Int)(k:CU n h):CU (n+644000) (xm h b).1:=by unfold xm;cases hb:fF h&&dH b 1 1000 with|false=>exact k.mono|true=>simp only[ah]at hb;have hl:=nk (by grind[fF]:xe h=true);refine⟨(Fw b hn k.z _).mono,?_⟩;simp only[af];rw[(BI b h _).tx];exact aE k.t (by omega)
theorem VE (h:Host)(b:Int)(k:CU 400000000 h):rR h b=some (xm h b):=by
 have xV:=cS;unfold rR xm;rw[kx h (k.z.mono),ab,zG h (k.sz),ab,dh];cases hb:fF h;rfl;cases hi0:dH b 1 1000;rfl;have hl:=nk (by simp only[fF,ah]at hb;exact hb.2.2.2.2.1:xe h=true);simp only[ai,ae,ab,dX,af];refine cD (λi=>((jX b i h).1,(i:Int),(jX b i h).2)) h.2.2.2.1.length (by omega) (λi nx hi=>?_) (λnx=>?_);have kk:=BI b h i;have zz:bu 500000000 cK (jX b i h).2:=(Fw b (by omega) k.z i).mono;have i1:i<(jX b i h).2.2.2.2.1.length:=by rw[kk.rx];exact hi
 have i2:i<(jX b i h).2.2.2.2.2.1.length:=by rw[kk.pl];omega
 have i3:i<(jX b i h).2.2.2.2.2.2.1.length:=by rw[kk.vec];omega
 have i4:i<(jX b i h).2.2.2.2.2.2.2.1.length:=by rw[kk.pol];omega
 rw[show jX b (i+1) h=Fx b i (jX b i h) from rfl];generalize jX b i h=s at zz i1 i2 i3 i4⊢;have gp:∀(V:ar Vector)(P:ar Bool),kI (s.2.1,s.2.2.1,s.2.2.2.1,s.2.2.2.2.1,s.2.2.2.2.2.1,V,P,s.2.2.2.2.2.2.2.2) (i:Int) b=some ((kJ s.2.2.1 s.2.1 0 s.2.2.2.2.1[i] s.2.2.2.2.2.1[i] s.2.2.2.2.2.2.2.2.2.2.1 b).2.2.2.2,(kJ s.2.2.1 s.2.1 0 s.2.2.2.2.1[i] s.2.2.2.2.2.1[i] s.2.2.2.2.2.2.2.2.2.2.1 b).1,s.2.2.1,s.2.2.2.1,s.2.2.2.2.1.set i (kJ s.2.2.1 s.2.1 0 s.2.2.2.2.1[i] s.2.2.2.2.2.1[i] s.2.2.2.2.2.2.2.2.2.2.1 b).2.1,s.2.2.2.2.2.1.set i (kJ s.2.2.1 s.2.1 0 s.2.2.2.2.1[i] s.2.2.2.2.2.1[i] s.2.2.2.2.2.2.2.2.2.2.1 b).2.2.1,V,P,s.2.2.2.2.2.2.2.2.1,s.2.2.2.2.2.2.2.2.2.1,(kJ s.2.2.1 s.2.1 0 s.2.2.2.2.1[i] s.2.2.2.2.2.1[i] s.2.2.2.2.2.2.2.2.2.2.1 b).2.2.2.1,s.2.2.2.2.2.2.2.2.2.2.2):=by intro V P;have CR:s.2.2.2.2.2.1[i].2.2.2.length<=500000000:=(zz.2.2.2.2.1.2 _ (bh i2)).2.2.2.1;have hm:s.2.1.length<=500000000:=zz.1.1;have hp:s.2.2.1.length<=500000000:=zz.2.1.1;unfold kI;simp only[aX i1,aX i2,ab,VB s.2.2.1 s.2.1 0 _ _ _ b (show s.2.2.1.length<=10^9 by omega) (show s.2.1.length<=10^9 by omega) CR zz.2.2.2.2.2.2.2.2.2.1,ay]
 have DG:∀V:Vector,s.2.2.2.2.2.2.1.set i V=s.2.2.2.2.2.2.1.set i V:=λ_=>rfl;unfold Fx;rw[al i1,al i2,al i3,al i4];simp only[nf];rw[jP,af];simp only[aX i3,aX i4,ab,abL,ay,gp];generalize Gq s.2.2.2.2.2.2.1[i]=w;generalize kJ s.2.2.1 s.2.1 0 s.2.2.2.2.1[i] s.2.2.2.2.2.1[i] s.2.2.2.2.2.2.2.2.2.2.1 b=pr;have i5:∀V:Vector,i<(s.2.2.2.2.2.2.1.set i V).length:=λV=>by rw[aH];exact i3
 have i6:∀q:Bool,i<(s.2.2.2.2.2.2.2.1.set i q).length:=λq=>by rw[aH];exact i4
 have e5:∀V:Vector,idx (s.2.2.2.2.2.2.1.set i V) (i:Int)=some V:=λV=>by rw[aX (i5 V),List.getElem_set_self]
 have e6:∀q:Bool,idx (s.2.2.2.2.2.2.2.1.set i q) (i:Int)=some q:=λq=>by rw[aX (i6 q),List.getElem_set_self]
 rw[aj (n:=(i:Int)+1) (by omega) (by omega)];have C8:s.2.2.2.2.2.2.2.1.set i (s.2.2.2.2.2.2.2.1[i])=s.2.2.2.2.2.2.2.1:=List.set_getElem_self ..;generalize hp:s.2.2.2.2.2.2.2.1[i]=p at C8⊢;cases hw:w.2 with
 |true=>simp only[Bool.or_true,af,e6,e5,ab,ai,ae,OJ,ei];cases decide (pr.2.2.2.2<b)<;>rfl
 |false=>
  simp only[Bool.or_false,ae];cases p with
  |false=>rw[C8];rfl
  |true=>
   have e7:idx s.2.2.2.2.2.2.2.1 (i:Int)=some true:=by rw[aX i4,hp]
   simp only[af,ai,ae,e5,e7,ab,OJ,ei];cases decide (pr.2.2.2.2<b)with|true=>rfl|false=>simp only[ae,cf,C8];rfl
 simp only[nf];rw[gq,ae]
theorem WB (h:Host)(b:Int)(k:CU 400000000 h):sH h b=some (xm h b):=by
 have xV:=cS;unfold sH xm;rw[kC h (k.z.mono),ab,ud h (k.sz),ab,cM];cases hb:fF h;rfl;cases hi0:dH b 1 1000;rfl;have hl:=nk (by simp only[fF,ah]at hb;exact hb.2.2.2.2.1:xe h=true);simp only[ai,ae,ab,dX,af];refine cD (λi=>((jX b i h).1,(i:Int),(jX b i h).2)) h.2.2.2.1.length (by omega) (λi nx hi=>?_) (λnx=>?_);have kk:=BI b h i;have zz:bu 500000000 cK (jX b i h).2:=(Fw b (by omega) k.z i).mono;have i1:i<(jX b i h).2.2.2.2.1.length:=by rw[kk.rx];exact hi
 have i2:i<(jX b i h).2.2.2.2.2.1.length:=by rw[kk.pl];omega
 have i3:i<(jX b i h).2.2.2.2.2.2.1.length:=by rw[kk.vec];omega
 have i4:i<(jX b i h).2.2.2.2.2.2.2.1.length:=by rw[kk.pol];omega
 have em:=kk.maps;rw[show jX b (i+1) h=Fx b i (jX b i h) from rfl];generalize jX b i h=s at zz i1 i2 i3 i4 em⊢;have CR:s.2.2.2.2.2.1[i].2.2.2.length<=500000000:=(zz.2.2.2.2.1.2 _ (bh i2)).2.2.2.1;have hm:s.2.1.length<=500000000:=zz.1.1;have hp:s.2.2.1.length<=500000000:=zz.2.1.1;have gp:=WA s.2.2.1 s.2.1 0 s.2.2.2.2.1[i] s.2.2.2.2.2.1[i] s.2.2.2.2.2.2.2.2.2.2.1 b (show s.2.2.1.length<=10^9 by omega) (show s.2.1.length<=10^9 by omega) CR zz.2.2.2.2.2.2.2.2.2.1;unfold Fx;rw[al i1,al i2,al i3,al i4];simp only[nn];rw[jP,af,<-em];simp only[aX i1,aX i2,aX i3,aX i4,ab,acV,ay,gp];generalize Gq s.2.2.2.2.2.2.1[i]=w;generalize kJ s.2.2.1 s.2.1 0 s.2.2.2.2.1[i] s.2.2.2.2.2.1[i] s.2.2.2.2.2.2.2.2.2.2.1 b=pr;have i5:∀V:Vector,i<(s.2.2.2.2.2.2.1.set i V).length:=λV=>by rw[aH];exact i3
 have i6:∀q:Bool,i<(s.2.2.2.2.2.2.2.1.set i q).length:=λq=>by rw[aH];exact i4
 have e5:∀V:Vector,idx (s.2.2.2.2.2.2.1.set i V) (i:Int)=some V:=λV=>by rw[aX (i5 V),List.getElem_set_self]
 have e6:∀q:Bool,idx (s.2.2.2.2.2.2.2.1.set i q) (i:Int)=some q:=λq=>by rw[aX (i6 q),List.getElem_set_self]
 rw[aj (n:=(i:Int)+1) (by omega) (by omega)];generalize s.2.2.2.2.2.2.2.1[i]=p;cases p with|true=>simp only[jQ,af,e6,e5,ab,ai,ae,PA,ei];cases decide (pr.2.2.2.2<b)<;>rfl|false=>simp only[cI,ae,e6,e5,ab,PA,ei];cases w.2 with|false=>rfl|true=>simp only[ai,ae,af];cases decide (pr.2.2.2.2<b)<;>rfl
 simp only[nn];rw[aq (by have:=(BI b h h.2.2.2.1.length).rx;omega),ae]
theorem afP {n:Nat}(hn:1000<=n)(k:CU n h):CU n (Hs h):=by have:=afO hn k.z;exact⟨this.1,by rw[this.2];exact k.t⟩
end
end Go.Pu
