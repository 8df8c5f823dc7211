import Derived.KernelRfl
import Derived.Test.YtainmjjkipbciaaGreatPuX1
namespace Go.Pu
open Go.Dn
open Int (tmod)
set_option linter.unusedSimpArgs false
set_option linter.unusedVariables false
noncomputable section
variable {s x:Bytes} {h:Host} {b c d:Int} {i k n:Nat} {g:Nat->Host->Host} {p:aO} {q:bT} {t:dG} {R:Type} {l:aw aA} {m:ca} {f:ca×bT} {r:lE}
/- Writes through mappings: the program's and the reference's results are one. -/
def DQ (x:Bytes)(o:Nat)(t:Bytes):Bytes:=x.take o++(t++x.drop (o+t.length))
theorem ZV {o:Nat}{t:Bytes}(h:o+t.length<=x.length):(DQ x o t).length=x.length:=by simp only[DQ,ai,aZ,aL];omega
theorem ZY (x:Bytes)(o:Nat)(t:Bytes):aJ (Aa (di x) o (di t))=DQ x o t:=by
 have e:Aa (di x) o (di t)=di (DQ x o t):=by simp only[Aa,DQ,di,List.map_append,List.map_take,List.map_drop,da]
 rw[e,Jj]
theorem acF {o:Nat}{t:Bytes}(h:o+t.length<=x.length):uK x (o:Int) t=DQ x o t:=by unfold uK eS;rw[au ⟨by omega,by omega⟩];simp only[ah,az,DQ,aP]
def yr:Nat->ca->Nat->Bytes->ca
 |0,m,_,_=>m
 |n+1,m,a,s=>if s.length=0 then m else
  yr n (m.set (a/128) (DQ (m.getD (a/128) []) (a%128) (s.take (128-a%128)))) (a+min (128-a%128) s.length) (s.drop (128-a%128))
def AQ (m:ca):Prop:=(∀x∈m,x.length=128)/\m.length<=64
theorem qp:cD m=true↔AQ m:=mem_iff
theorem G5 {p:Nat}(h:AQ m)(hx:x.length=128):AQ (m.set p x):=by refine⟨λy hy=>?_,by rw[aC];exact h.2⟩;rcases List.mem_or_eq_of_mem_set hy with g|g;exact h.1 y g;rw[g];exact hx
theorem EJ (h:AQ m){a:Nat}(hs:s.length≠0)(ha:a+s.length<=128*m.length): ∃(hp:a/128<m.length),(m[a/128]'hp).length=128/\(DQ (m[a/128]'hp) (a%128) (s.take (128-a%128))).length=128:=by
 have hp:a/128<m.length:=by omega
 have hl:=h.1 _ (bm hp);refine⟨hp,hl,?_⟩;rw[ZV (by rw[aZ,hl];omega),hl]
theorem xB:∀(n:Nat){m:ca}{a:Nat}{s:Bytes},AQ m->a+s.length<=128*m.length->AQ (yr n m a s)/\(yr n m a s).length=m.length
 |0,m,a,s,h,_=>⟨h,rfl⟩
 |n+1,m,a,s,h,ha=>by rw[yr];split;exact⟨h,rfl⟩;rename_i hs;obtain⟨hp,hl,ho⟩:=EJ h hs ha;rw[cI hp];have:=xB n (m:=m.set (a/128) (DQ m[a/128] (a%128) (s.take (128-a%128)))) (a:=a+min (128-a%128) s.length) (s:=s.drop (128-a%128)) (G5 h ho) (by rw[aC,aL];omega);rw[aC]at this;exact this
theorem DK (K:Int->Bytes->ca->ax R)(K':ca->ax R)(hK:∀a m,K a [] m=K' m):∀(n:Nat)(m:ca)(a:Nat)(s:Bytes)(f:Nat),s.length<=n->n<f->AQ m->a+s.length<=128*m.length->
 bc (me K ([]:ca)) f ((a:Int),s,m)=K' (yr n m a s)
 |n,m,a,s,0,_,hf,_,_=>by omega
 |n,m,a,s,f+1,hs,hf,hm,ha=>by
  rw[bc];simp only[me];by_cases h0:s.length=0;have:s=[]:=bV h0;subst this;rw[ar (by simp),af,hK];cases n<;>simp[yr];cases n with
  |zero=>omega
  |succ n=>
   obtain⟨hp,hl,ho⟩:=EJ hm h0 ha;have h64:=hm.2;have e1:Int.tdiv (a:Int) 128=((a/128:Nat):Int):=TM a 128;have e2:tmod (a:Int) 128=((a%128:Nat):Int):=NV a 128;rw[kK,ah,lR,e1,e2,ak (n:=((a/128:Nat):Int)),bn hp,ab,aS,lR];have oD:sub (di m[a/128]) ((a%128:Nat):Int) ((di m[a/128]).length:Int)=some ((di m[a/128]).drop (a%128)):=by rw[Qt _ _ _ (by rw[FC];omega) (aU _),bN (by rw[aL];exact aU _)]
   rw[oD,ab,lR,ab,ab];have hd:((di m[a/128]).drop (a%128)).length=128-a%128:=by rw[aL,FC,hl]
   rw[hd];have hdr:s.drop (min (128-a%128) s.length)=s.drop (128-a%128):=by by_cases h3:128-a%128<=s.length;rw[gL h3];rw[Nat.min_eq_right (by omega),cW (aU _),cW (by omega)]
   have amY:sub s (((min (128-a%128) s.length:Nat)):Int) ((s.length:Int))=some (s.drop (128-a%128)):=by rw[<-hdr];unfold sub;rw[zip];simp
   rw[amY,ab,ak (n:=(a:Int)+((min (128-a%128) s.length:Nat):Int)),az,az,ZY];rw[yr,aH h0,cI hp,show(a:Int)+((min (128-a%128) s.length:Nat):Int)=((a+min (128-a%128) s.length:Nat):Int) by omega];exact DK K K' hK n _ _ _ f (by rw[aL];omega) (by omega) (G5 hm ho) (by rw[aC,aL];omega)
theorem DW (K:Int->Bytes->ca->ax R)(K':ca->ax R)(hK:∀a m,K a [] m=K' m):∀(n:Nat)(m:ca)(a:Nat)(s:Bytes)(f:Nat),s.length<=n->n<f->AQ m->a+s.length<=128*m.length->
 bc (mu K ([]:ca)) f ((a:Int),s,m)=K' (yr n m a s)
 |n,m,a,s,0,_,hf,_,_=>by omega
 |n,m,a,s,f+1,hs,hf,hm,ha=>by
  rw[bc];simp only[mu];by_cases h0:s.length=0;have:s=[]:=bV h0;subst this;rw[ar (by simp),af,hK];cases n<;>simp[yr];cases n with
  |zero=>omega
  |succ n=>
   obtain⟨hp,hl,ho⟩:=EJ hm h0 ha;have h64:=hm.2;have e1:Int.tdiv (a:Int) 128=((a/128:Nat):Int):=TM a 128;have e2:tmod (a:Int) 128=((a%128:Nat):Int):=NV a 128;rw[kK,ah,lR,lR,lR,e1,e2,ak (n:=((a/128:Nat):Int)),ak (n:=128-((a%128:Nat):Int)),bn hp,ab];obtain⟨c,hc⟩:∃c,min (128-a%128) s.length=c:=⟨_,rfl⟩
   rw[show(if 128-((a%128:Nat):Int)<(s.length:Int) then 128-((a%128:Nat):Int) else(s.length:Int))=(c:Int) by split<;>omega];have ht:s.take c=s.take (128-a%128):=by by_cases h3:128-a%128<=s.length;rw[<-hc,gL h3];rw[<-hc,Nat.min_eq_right (by omega),bN (aU _),bN (by omega)]
   have hdr:s.drop c=s.drop (128-a%128):=by by_cases h3:128-a%128<=s.length;rw[<-hc,gL h3];rw[<-hc,Nat.min_eq_right (by omega),cW (aU _),cW (by omega)]
   have hs1:sub s 0 (c:Int)=some (s.take (128-a%128)):=by rw[<-ht];unfold sub;rw[zip];simp
   have hs2:sub s (c:Int) (s.length:Int)=some (s.drop (128-a%128)):=by rw[<-hdr];unfold sub;rw[zip];simp
   rw[hs1,ab,F5 _ _ _,ab,ab,ab,hs2,ab,acF (by rw[aZ,hl];omega),ak (n:=(a:Int)+(c:Int)),az];rw[yr,aH h0,cI hp,hc,show(a:Int)+(c:Int)=((a+c:Nat):Int) by omega];exact DW K K' hK n _ _ _ f (by rw[aL];omega) (by omega) (G5 hm ho) (by rw[aC,aL];omega)
def qG (m:ca)(a:Int)(s:Bytes):ca×Bool:=bif gu m a (s.length:Int) then(yr s.length m a.toNat s,true) else(m,false)
theorem Vf (m:ca)(a:Int)(s:Bytes)(h:m.length<=10^9)(hs:s.length<=10^9):qk m a s=some (qG m a s):=by
 have Bx:=ee;unfold qk qG;rw[fJ m,ab,Co m _ _ h,ab];cases hw:gu m a (s.length:Int)with|false=>rfl|true=>?_
 simp only[gu,ae,aB]at hw;obtain⟨a,rfl⟩:=aX hw.2.2.1;simp only[aj,af,ah,az];exact DK _ (λm=>some (m,true)) (λ_ _=>rfl) s.length m a s fuel (aU _) (by omega) (qp.1 hw.1) (by omega)
theorem Wc (m:ca)(a:Int)(s:Bytes)(h:m.length<=10^9)(hs:s.length<=10^9):qA m a s=some (qG m a s):=by
 have Bx:=ee;unfold qA qG;rw[AO m,ab,H4 m _ _ h,ab];cases hw:gu m a (s.length:Int)with|false=>rfl|true=>?_
 simp only[gu,ae,aB]at hw;obtain⟨a,rfl⟩:=aX hw.2.2.1;simp only[aj,af,ah,az];exact DW _ (λm=>some (m,true)) (λ_ _=>rfl) s.length m a s fuel (aU _) (by omega) (qp.1 hw.1) (by omega)
theorem CQ (m:ca)(a:Int)(s:Bytes):(qG m a s).1.length=m.length:=by
 unfold qG;cases hw:gu m a (s.length:Int)with|false=>rfl|true=>?_
 simp only[gu,ae,aB]at hw;exact(xB s.length (qp.1 hw.1) (by omega)).2
def K8:aw (Int×Int)->ca->Bytes->ca
 |[],m,_=>m
 |p::q,m,s=>K8 q (qG m p.1 (s.take p.2.toNat)).1 (s.drop p.2.toNat)
theorem Tb:∀(q:aw (Int×Int))(m:ca)(s:Bytes),(K8 q m s).length=m.length
 |[],m,s=>rfl
 |p::q,m,s=>by rw[K8,Tb q,CQ]
def IG (q:aw (Int×Int)):Int:=(q.map (·.2)).sum
theorem XK:∀(q:aw (Int×Int)),(∀p∈q,0<=p.2)->0<=IG q
 |[],_=>dC _
 |p::q,h=>by have:=XK q (λx hx=>h x (by simp[hx]));have:=h p (by simp);simp only[IG,cR,List.sum_cons]at*;omega
theorem Tf {p:Int×Int}{q:aw (Int×Int)}(hc:∀x∈p::q,0<=x.2)(hs:(s.length:Int)=IG (p::q)):0<=p.2/\p.2<=(s.length:Int)/\((s.drop p.2.toNat).length:Int)=IG q:=by
 have h1:=hc p (by simp);have h2:=XK q (λx hx=>hc x (by simp[hx]));have h3:IG (p::q)=p.2+IG q:=by simp[IG]
 rw[h3]at hs;refine⟨h1,by omega,?_⟩;rw[aL];omega
theorem NT (h0:0<=c)(h1:c<=(s.length:Int)):sub s 0 c=some (s.take c.toNat):=by unfold sub;rw[zip];simp
theorem TI (h0:0<=c)(h1:c<=(s.length:Int)):sub s c (s.length:Int)=some (s.drop c.toNat):=by unfold sub;rw[zip];simp
theorem HL (K:Bytes->Int->ca->ax (ca×Bool))(hK:∀s i m,K s i m=some (m,true)):∀(rest pre:aw (Int×Int))(m:ca)(s:Bytes)(f:Nat),rest.length<f->pre.length+rest.length<=1000000->(∀x∈rest,0<=x.2)->(s.length:Int)=IG rest->m.length<=10^9->s.length<=1000000->
 bc (vZ K (pre++rest) ((pre++rest).length:Int) ([]:ca)) f (s,(pre.length:Int),m)=some (K8 rest m s,true)
 |rest,pre,m,s,0,hf,_,_,_,_,_=>by omega
 |[],pre,m,s,f+1,_,_,_,_,_,_=>by rw[bc];simp only[vZ];rw[ar (by simp),af,hK];rfl
 |p::q,pre,m,s,f+1,hf,hn,hc,hs,hm,hl=>by
  obtain⟨h1,h2,h3⟩:=Tf hc hs;simp only[bB]at hf hn;have hi:pre.length<(pre++p::q).length:=by simp
  have hp:(pre++p::q)[pre.length]=p:=by simp
  rw[bc];simp only[vZ];rw[au (by simp;omega),bn hi,hp,ak];simp only[ah,ab,NT h1 h2,TI h1 h2,Vf m _ _ hm (show(s.take p.2.toNat).length<=10^9 by rw[aZ];omega)];have key:=HL K hK q (pre++[p]) (qG m p.1 (s.take p.2.toNat)).1 (s.drop p.2.toNat) f (by omega) (by simp;omega) (λx hx=>hc x (by simp[hx])) h3 (by rw[CQ];exact hm) (by rw[aL];omega);have el:((pre++[p]).length:Int)=(pre.length:Int)+1:=by simp
  rw[aP,List.singleton_append,el]at key;rw[K8];exact key
theorem H3 (K:Bytes->Int->ca->ax (ca×Bool))(hK:∀s i m,K s i m=some (m,true)):∀(rest pre:aw (Int×Int))(m:ca)(s:Bytes)(f:Nat),rest.length<f->pre.length+rest.length<=1000000->(∀x∈rest,0<=x.2)->(s.length:Int)=IG rest->m.length<=10^9->s.length<=1000000->
 bc (mO K ((pre++rest).map (·.1)) ((pre++rest).map (·.2)) ([]:ca)) f (s,(pre.length:Int),m)=some (K8 rest m s,true)
 |rest,pre,m,s,0,hf,_,_,_,_,_=>by omega
 |[],pre,m,s,f+1,_,_,_,_,_,_=>by rw[bc];simp only[mO];rw[ar (by simp),af,hK];rfl
 |p::q,pre,m,s,f+1,hf,hn,hc,hs,hm,hl=>by
  obtain⟨h1,h2,h3⟩:=Tf hc hs;simp only[bB]at hf hn;have hi:pre.length<(pre++p::q).length:=by simp
  have hp:(pre++p::q)[pre.length]=p:=by simp
  have i1:idx ((pre++p::q).map (·.1)) (pre.length:Int)=some p.1:=by rw[bn (by simp),List.getElem_map,hp]
  have i2:idx ((pre++p::q).map (·.2)) (pre.length:Int)=some p.2:=by rw[bn (by simp),List.getElem_map,hp]
  rw[bc];simp only[mO];rw[au (by simp;omega),i1,i2,ak];simp only[ah,ab,NT h1 h2,TI h1 h2,Wc m _ _ hm (show(s.take p.2.toNat).length<=10^9 by rw[aZ];omega)];have key:=H3 K hK q (pre++[p]) (qG m p.1 (s.take p.2.toNat)).1 (s.drop p.2.toNat) f (by omega) (by simp;omega) (λx hx=>hc x (by simp[hx])) h3 (by rw[CQ];exact hm) (by rw[aL];omega);have el:((pre++[p]).length:Int)=(pre.length:Int)+1:=by simp
  rw[aP,List.singleton_append,el]at key;rw[K8];exact key
theorem K1 (l:aw aA)(m:ca)(d:Int)(w:Bool):∀(n a r:Nat)(q:aw (Int×Int)),r<=n->kN l m d w n a r=some q->IG q=(r:Int)/\(∀p∈q,0<=p.2)/\q.length<=n
 |0,a,r,q,hr,h=>by simp only[kN,ba]at h;subst h;exact⟨by show(0:Int)=_;omega,by simp,by simp⟩
 |n+1,a,r,q,hr,h=>by simp only[kN]at h;split at h;simp only[ba]at h;subst h;exact⟨by show(0:Int)=_;omega,by simp,by simp⟩;split at h;simp only[Option.map_eq_some_iff]at h;obtain⟨q',h1,rfl⟩:=h;obtain⟨i1,i2,i3⟩:=K1 l m d w n _ _ q' (by omega) h1;refine⟨?_,?_,by simp only[bB];omega⟩;simp only[IG,cR,List.sum_cons]at i1⊢;rw[i1];omega;intro p hp;rcases cm.1 hp with rfl|hp;show(0:Int)<=((min (128-a%128) r:Nat):Int);omega;exact i2 p hp;cases h
theorem NM (l:aw aA)(m:ca)(d a n:Int)(w:Bool)(h:(kx l m d a n w).2=true):IG (kx l m d a n w).1=n/\(∀p∈(kx l m d a n w).1,0<=p.2)/\(kx l m d a n w).1.length<=4096/\n<=4096:=by
 unfold kx at h⊢;cases hB:dF l&&(cD m&&dm n 0 4096)with|false=>rw[hB]at h;simp at h|true=>?_
 rw[hB]at h;simp only[ae,bh]at hB;simp only[ah]at h⊢;cases h0:n==0 with
 |true=>
  have:n=0:=by simpa using h0
  subst this;exact⟨rfl,by simp,by simp,by omega⟩
 |false=>rw[h0]at h;simp only[af]at h⊢;cases ha:decide (a<0)with|true=>rw[ha]at h;simp at h|false=>rw[ha]at h;simp only[af]at h⊢;cases hq:kN l m d w n.toNat a.toNat n.toNat with|none=>rw[hq]at h;cases h|some q=>obtain⟨i1,i2,i3⟩:=K1 l m d w _ _ _ q (aU _) hq;exact⟨by simp only;rw[i1];omega,i2,by simp only;omega,by omega⟩
def gZ (l:aw aA)(m:ca)(d a:Int)(s:Bytes)(w:Bool):ca×Bool:=
 bif (kx l m d a (s.length:Int) w).2 then(K8 (kx l m d a (s.length:Int) w).1 m s,true) else(m,false)
theorem jC (l:aw aA)(m:ca)(d a:Int)(s:Bytes)(w:Bool):(gZ l m d a s w).1.length=m.length:=by unfold gZ;cases (kx l m d a (s.length:Int) w).2 with|false=>rfl|true=>exact Tb _ _ _
theorem Sk (l:aw aA)(m:ca)(d a:Int)(s:Bytes)(w:Bool)(hl:l.length<=10^9)(hm:m.length<=10^9)(ha:a<=9223372036854775807):Cq l m d a s w=some (gZ l m d a s w):=by
 have Bx:=ee;unfold Cq gZ;rw[fJ m,ab,Sl l m d a _ w hl hm ha,ab];have hS:=NM l m d a (s.length:Int) w;generalize kx l m d a (s.length:Int) w=r at hS⊢;cases hr:r.2 with|false=>rfl|true=>?_
 obtain⟨h1,h2,h3,h4⟩:=hS hr;simp only[aj,af,ah];exact HL _ (λ_ _ _=>rfl) r.1 [] m s fuel (by omega) (by simp;omega) h2 h1.symm hm (by omega)
theorem F2 (l:aw aA)(m:ca)(d a:Int)(s:Bytes)(hl:l.length<=10^9)(hm:m.length<=10^9)(ha:a<=9223372036854775807):rr l m d a s=some (gZ l m d a s true):=by
 have Bx:=ee;unfold rr gZ;rw[aat l m d a _ true hl hm ha,ab,AO m,ab];have hS:=NM l m d a (s.length:Int) true;generalize kx l m d a (s.length:Int) true=r at hS⊢;cases hr:r.2 with|false=>rfl|true=>?_
 obtain⟨h1,h2,h3,h4⟩:=hS hr;simp only[aj,af,ah];exact H3 _ (λ_ _ _=>rfl) r.1 [] m s fuel (by omega) (by simp;omega) h2 h1.symm hm (by omega)
theorem AB (l:aw aA)(m:ca)(d a:Int)(s:Bytes)(hl:l.length<=10^9)(hm:m.length<=10^9)(ha:a<=9223372036854775807):ox l m d a s=some (gZ l m d a s true):=by rw[ox,Sk l m d a s true hl hm ha];rfl
def wrM (x:aA):aA:=(x.1,x.2.1,x.2.2.1,true)
theorem getD_map (hi:i<l.length):(l.map wrM).getD i GV=wrM (l.getD i GV):=by rw[cI (by simpa using hi),cI hi,List.getElem_map]
theorem PO (l:aw aA):dF (l.map wrM)=dF l:=by
 unfold dF;rw[da];congr 1;rw[cB,aE,aE];have key:∀i,i<l.length->GU (l.map wrM) i=GU l i:=by
  intro i hi;unfold GU;rw[getD_map hi];congr 1;rw[cB,aE,aE];constructor;intro h j hj;have hjl:j<l.length:=by have:=bW.1 hj;omega
  have:=h j hj;rw[getD_map hjl]at this;exact this;intro h j hj;have hjl:j<l.length:=by have:=bW.1 hj;omega
  rw[getD_map hjl];exact h j hj
 constructor;intro h i hi;rw[<-key i (bW.1 hi)];exact h i hi;intro h i hi;rw[key i (bW.1 hi)];exact h i hi
theorem acB (l:aw aA)(d p:Int):rl (l.map wrM) d p true=rl l d p false:=by
 unfold rl;rw[List.findIdx?_map];have e:(Et d p true∘wrM)=Et d p false:=by funext x;simp only[Function.comp,Et,ku,wrM,bU,iu,gG]
 rw[e];cases hf:l.findIdx? (Et d p false)with|none=>rfl|some i=>obtain⟨hi,_⟩:=List.findIdx?_eq_some_iff_getElem.1 hf;simp only[getD_map hi];rfl
theorem ND (l:aw aA)(m:ca)(d:Int):∀n a r,kN (l.map wrM) m d true n a r=kN l m d false n a r
 |0,a,r=>rfl
 |n+1,a,r=>by simp only[kN,acB,ND l m d n]
theorem afz (l:aw aA)(m:ca)(d a:Int)(s:Bytes):gZ (l.map wrM) m d a s true=gZ l m d a s false:=by
 have e:kx (l.map wrM) m d a (s.length:Int) true=kx l m d a (s.length:Int) false:=by simp only[kx,PO,ND]
 simp only[gZ,e]
theorem Mu (l:aw aA)(m:ca)(d a:Int)(s:Bytes)(hl:l.length<=10^9)(hm:m.length<=10^9)(ha:a<=9223372036854775807):tY l m d a s=some (gZ l m d a s false):=by unfold tY;refine eo (λi=>((l.take i).map wrM,(i:Int))) l.length (by omega) (λi nx hi=>?_) (λnx=>?_);simp only[pb];rw[kK,bn hi,ak];simp only[ah,ab];rw[aS (by simp;omega),bI hi,List.map_append];rfl;simp only[pb];rw[jj,af,dS,F2 _ m d a s (by rw[da];exact hl) hm ha,afz];rfl
theorem zu (l:aw aA)(m:ca)(d a:Int)(s:Bytes)(hl:l.length<=10^9)(hm:m.length<=10^9)(ha:a<=9223372036854775807:=by omega):jg l m d a s=some (gZ l m d a s false):=by rw[jg,Sk l m d a s false hl hm ha];rfl
def sG (d:CS):Bool:=dm d.1 0 3&&(dm d.2.1 0 3&&(dm d.2.2.1 0 65535&&(dm d.2.2.2.2.1 0 65535&&(dm d.2.2.2.2.2 0 65535&&dm d.2.2.2.1 0 4294967295))))
theorem Sf (d:CS):vW d=some (sG d):=by simp only[vW,de,ab,sG];cases dm d.1 0 3<;>cases dm d.2.1 0 3<;>cases dm d.2.2.1 0 65535<;>cases dm d.2.2.2.2.1 0 65535<;>cases dm d.2.2.2.2.2 0 65535<;>rfl
theorem acX (d:CS):yX d=some (sG d):=by simp only[yX,ei,ab,sG];cases dm d.1 0 3<;>cases dm d.2.1 0 3<;>cases dm d.2.2.1 0 65535<;>cases dm d.2.2.2.2.1 0 65535<;>cases dm d.2.2.2.2.2 0 65535<;>rfl
def wT (d:CS):Bytes:=
 bif sG d then((((aJ [fU d.1,fU d.2.1]++bS d.2.2.1)++iO d.2.2.2.1)++bS d.2.2.2.2.1)++bS d.2.2.2.2.2)++iO 0 else []
theorem afJ (d:CS):se d=some (wT d):=by
 have h1:=bF d.2.2.1;have h2:=eu d.2.2.2.1;have h3:=bF d.2.2.2.2.1;have h4:=bF d.2.2.2.2.2;have h5:=eu 0;have h0:(aJ [fU d.1,fU d.2.1]).length=2:=rfl;unfold se wT;rw[acX,ab];cases sG d with|false=>rfl|true=>?_
 simp only[aj,af,ah,nA,pL,ab];rw[aS,aS (by simp only[ai];omega),aS (by simp only[ai];omega),aS (by simp only[ai];omega),aS (by simp only[ai];omega)]
theorem PB (d:CS):kS d=some (wT d):=by
 have h1:=bF d.2.2.1;have h2:=eu d.2.2.2.1;have h3:=bF d.2.2.2.2.1;have h4:=bF d.2.2.2.2.2;have h5:=eu 0;have h0:(aJ [fU d.1,fU d.2.1]).length=2:=rfl;unfold kS wT;rw[Sf,ab];cases sG d with|false=>rfl|true=>?_
 simp only[aj,af,ah,kl,yd,ab];rw[aS,aS (by simp only[ai];omega),aS (by simp only[ai];omega),aS (by simp only[ai];omega),aS (by simp only[ai];omega)]
def nK (r:lE):Int:=bif cU r then aq (r.2.1-bH r) else 0
def nU (r:lE)(c:Int):Int:=bif !cU r||decide (c<0) then-1 else r.1+tmod c r.2.1*16
theorem kF (h:cU r=true):0<=r.1/\r.1<=130944/\(r.2.1=2\/r.2.1=4\/r.2.1=8\/r.2.1=16)/\0<=r.2.2.1/\r.2.2.1<=2*r.2.1-1/\0<=r.2.2.2/\r.2.2.2<=2*r.2.1-1:=by simp only[cU,ae,bh]at h;exact⟨h.1.1,h.1.2,gF.1 h.2.1,h.2.2.1.1,h.2.2.1.2,h.2.2.2.1.1,h.2.2.2.1.2⟩
theorem CE (r:lE)(c:Int): -1<=nU r c/\nU r c<=200000:=by
 unfold nU;cases hc: !cU r||decide (c<0)with
 |true=>exact⟨dC _,by simp⟩
 |false=>
  simp only[ch,dz,cw]at hc;have h:=kF hc.1;have h2:0<=tmod c r.2.1/\tmod c r.2.1<r.2.1:=by rw[dg (by omega)];exact⟨eG _ (by omega),eJ _ (by omega)⟩
  simp only[af];omega
def cJ (l:aw aA)(m:ca)(d:Int)(r:lE)(s:Bytes):ca×lE×Bool:=
 bif (nK r==0)||((s.length:Int) !=16) then(m,r,false) else
 bif !(gZ l m d (nU r r.2.2.2) s true).2 then(m,r,false) else
 ((gZ l m d (nU r r.2.2.2) s true).1,(r.1,r.2.1,r.2.2.1,tmod (r.2.2.2+1) (2*r.2.1)),true)
theorem Ha {a:Int}{w:Bool}(h:(gZ l m d a s w).2=false):(gZ l m d a s w).1=m:=by unfold gZ at h⊢;cases hr:(kx l m d a (s.length:Int) w).2 with|false=>rfl|true=>rw[hr]at h;cases h
theorem Hk (r:lE):rA r=some (nK r):=by
 unfold rA nK;rw[Lq,ab];cases cU r with|false=>rfl|true=>?_
 simp only[aj,af,ah,TC,ab]
theorem aaw (r:lE)(c:Int):qv r c=some (nU r c):=by
 have sv:=CE r c;unfold qv;rw[Lq,ab];unfold nU at sv⊢;cases hb:cU r with|false=>rfl|true=>?_
 have h:=kF hb;by_cases hc:c<0;rw[au hc];rfl;rw[hb,ar hc]at sv;rw[ar hc];have h2:0<=tmod c r.2.1/\tmod c r.2.1<r.2.1:=by rw[dg (by omega)];exact⟨eG _ (by omega),eJ _ (by omega)⟩
 simp only[aj,af,ab,bQ]at sv⊢;rw[lR,ak (n:=16*tmod c r.2.1),ak];congr 1;omega
theorem TA (l:aw aA)(m:ca)(d:Int)(r:lE)(s:Bytes)(hl:l.length<=10^9)(hm:m.length<=10^9):xj l m d r s=some (cJ l m d r s):=by
 have hA:=CE r r.2.2.2;unfold xj cJ;simp only[Hk,ab,aaw,F2 l m d _ s hl hm (show nU r r.2.2.2<=9223372036854775807 by omega),AO m (show m.length<=1073741824 by omega)];cases hf:nK r==0 with|true=>rfl|false=>?_
 cases (s.length:Int) !=16 with|true=>rfl|false=>?_
 have hb:cU r=true:=by cases hb:cU r with|true=>rfl|false=>unfold nK at hf;rw[hb]at hf;cases hf
 have h:=kF hb;simp only[af,ab,bQ];cases hp:(gZ l m d (nU r r.2.2.2) s true).2 with|false=>simp only[bU,ah,Ha hp]|true=>simp only[aj,af];rw[ak (n:=2*r.2.1),lR,ak (n:=r.2.2.2+1)]
theorem Nc (r:lE):rb r=some (nK r):=by
 unfold rb nK;rw[vV,ab];cases cU r with|false=>rfl|true=>?_
 simp only[aj,af,ah,yb,ab]
theorem Ni (r:lE)(c:Int):mE r c=some (nU r c):=by
 have sv:=CE r c;unfold mE;rw[vV,ab];unfold nU at sv⊢;cases hb:cU r with|false=>rfl|true=>?_
 have h:=kF hb;by_cases hc:c<0;rw[au hc];rfl;rw[hb,ar hc]at sv;rw[ar hc];have h2:0<=tmod c r.2.1/\tmod c r.2.1<r.2.1:=by rw[dg (by omega)];exact⟨eG _ (by omega),eJ _ (by omega)⟩
 simp only[aj,af,ab,bQ]at sv⊢;rw[lR,ak (n:=tmod c r.2.1*16),ak]
theorem HM (l:aw aA)(m:ca)(d:Int)(r:lE)(s:Bytes)(hl:l.length<=10^9)(hm:m.length<=10^9):tE l m d r s=some (cJ l m d r s):=by
 have hA:=CE r r.2.2.2;unfold tE cJ;simp only[Nc,ab,Ni,AB l m d _ s hl hm (show nU r r.2.2.2<=9223372036854775807 by omega),fJ m (show m.length<=1073741824 by omega)];cases hf:nK r==0 with|true=>rfl|false=>?_
 cases (s.length:Int) !=16 with|true=>rfl|false=>?_
 have hb:cU r=true:=by cases hb:cU r with|true=>rfl|false=>unfold nK at hf;rw[hb]at hf;cases hf
 have h:=kF hb;simp only[af,ab,bQ];cases hp:(gZ l m d (nU r r.2.2.2) s true).2 with|false=>simp only[bU,ah,Ha hp]|true=>simp only[aj,af];rw[ak (n:=2*r.2.1),lR,ak (n:=r.2.2.2+1)]
theorem xe {p:cK}(h:dx p=true):0<=p.1/\p.1<=130944/\1<=p.2.1/\p.2.1<=512/\0<=p.2.2.1/\p.2.2.1<=16:=by simp only[dx,ae,bh]at h;exact⟨h.1.1,h.1.2,h.2.1.1,h.2.1.2,h.2.2.1.1,h.2.2.1.2⟩
def nJ (p:cK)(i:Int):Int:=bif !dx p|| !dm i 0 (p.2.2.1-1) then-1 else p.1+i*p.2.1
theorem WD {p:cK}{i:Int}(hp:dx p=true)(hi:dm i 0 (p.2.2.1-1)=true):aq (p.1+aq (i*p.2.1))=p.1+i*p.2.1:=by have h:=xe hp;have h2:=bh.1 hi;have h3:0<=i*p.2.1:=Int.mul_nonneg h2.1 (by omega);have h4:i*p.2.1<=16*512:=Int.mul_le_mul (by omega) (by omega) (by omega) (by omega);rw[ak (n:=i*p.2.1),ak]
theorem acW (p:cK)(i:Int)(h:p.2.2.2.length<=10^9):nB p i=some (nJ p i):=by
 unfold nB nJ;rw[F4 p h,ab];cases hp:dx p with|false=>rfl|true=>?_
 have sv:=xe hp;rw[ak (n:=p.2.2.1-1),ei];cases hi:dm i 0 (p.2.2.1-1)with|false=>rfl|true=>?_
 simp only[aj,af,ab,bQ,WD hp hi]
theorem Fl (p:cK)(i:Int)(h:p.2.2.2.length<=10^9):fI p i=some (nJ p i):=by
 unfold fI nJ;rw[tk p h,ab];cases hp:dx p with|false=>rfl|true=>?_
 have sv:=xe hp;rw[ak (n:=p.2.2.1-1),de];cases hi:dm i 0 (p.2.2.1-1)with|false=>rfl|true=>?_
 simp only[aj,af,ab,bQ,WD hp hi]
def upto (n:Nat):cL:=(List.range n).map Int.ofNat
theorem NW (n:Nat):upto (n+1)=upto n++[(n:Int)]:=by simp[upto,List.range_succ]
theorem aem (h:i<n):(upto n).getD i 0=(i:Int):=by rw[cI (by simpa[upto]using h)];simp[upto]
theorem VR (a b:Int)(n:Nat)(hn:n<=16):dx (a,b,(n:Int),upto n)=dx (a,b,(n:Int),[]):=by
 unfold dx;congr 3;have h1:(List.range (upto n).length).all (B9 (n:Int) (upto n))=true:=by
  rw[aE];intro i hi;have hi:i<n:=by simpa[upto]using hi
  simp only[B9,aem hi,ae,bh,aK];refine⟨by omega,?_⟩;rw[Bool.eq_false_iff,ne_eq,List.contains_iff_mem];intro hm;simp only[upto,<-List.map_take,List.mem_map]at hm;obtain⟨j,hj,he⟩:=hm;rw[List.take_range]at hj;have:=bW.1 hj;have:(j:Int)=(i:Int):=he;omega
 rw[h1];rfl
def gS (a b n:Int):cK×Bool:=bif dx (a,b,n,[]) then((a,b,n,upto n.toNat),true) else((0,0,0,[]),false)
theorem HK (a b n:Int):tA a b n=some (gS a b n):=by
 unfold tA gS;rw[tk _ (by simp),ab];cases hp:dx (a,b,n,[])with|false=>rfl|true=>?_
 have sv:=xe hp;obtain⟨n,rfl⟩:=aX (show 0<=n from sv.2.2.2.2.1);have h16:n<=16:=by have:=sv.2.2.2.2.2;simp only at this;omega
 simp only[aj,af,ah,az];refine eo (λi=>((i:Int),a,b,(n:Int),upto i)) n (by omega) (λi nx hi=>?_) (λnx=>?_);simp only[rM];rw[kK,aS (by simp[upto];omega),ak,NW];rfl;simp only[rM];rw[jj];rfl
theorem H2 (a b n:Int):ua a b n=some (gS a b n):=by
 have Bx:=ee;unfold ua gS;by_cases hn:0<=n/\n<=16;obtain⟨n,rfl⟩:=aX hn.1;have h16:n<=16:=by omega
 refine eo (λi=>((i:Int),a,b,(n:Int),upto i)) n (by omega) (λi nx hi=>?_) (λnx=>?_);simp only[nV];rw[au (show(i:Int)<n by omega),au (show(n:Int)<=16 by omega)];simp only[ah,ab];rw[aS (by simp[upto];omega),ak,NW];rfl;simp only[nV];rw[ar (show¬(n:Int)<n by omega)];simp only[af,ab,F4 (a,b,(n:Int),upto n) (show(upto n).length<=10^9 by simp[upto];omega),VR a b n h16,az];cases dx (a,b,(n:Int),[])<;>rfl;have hb:dx (a,b,n,[])=false:=by cases hp:dx (a,b,n,[])with|false=>rfl|true=>have:=xe hp;exact absurd ⟨this.2.2.2.2.1,this.2.2.2.2.2⟩ hn
 obtain⟨f,hf⟩:∃f,fuel=f+1:=⟨fuel-1,by omega⟩
 rw[hf,bc];simp only[nV];have hc:(cond (decide ((0:Int)<n)) (some (decide (n<=16))) (some false))=some false:=by by_cases h0:(0:Int)<n;rw[au h0,jj];rfl;rw[ar h0];rfl
 rw[hc];simp only[ab,af,F4 (a,b,n,[]) (show([]:cL).length<=10^9 by simp),hb];rfl
def eP (p:cK)(b:Int):Bytes:=wT (3,0,p.2.1,nJ p b,0,b)
def lQ (l:aw aA)(d:Int)(p:cK):cL->ca->lE->Nat×ca×lE
 |[],m,r=>(0,m,r)
 |b::q,m,r=>bif (cJ l m d r (eP p b)).2.2 then
   ((lQ l d p q (cJ l m d r (eP p b)).1 (cJ l m d r (eP p b)).2.1).1+1,(lQ l d p q (cJ l m d r (eP p b)).1 (cJ l m d r (eP p b)).2.1).2)
  else(0,m,r)
theorem tT (l:aw aA)(m:ca)(d:Int)(r:lE)(s:Bytes):(cJ l m d r s).1.length=m.length:=by
 unfold cJ;cases (nK r==0)||((s.length:Int) !=16)with|true=>rfl|false=>?_
 cases (gZ l m d (nU r r.2.2.2) s true).2 with|false=>rfl|true=>exact jC ..
theorem GB (l:aw aA)(d:Int)(p:cK):∀(q:cL)(m:ca)(r:lE),(lQ l d p q m r).2.1.length=m.length/\(lQ l d p q m r).1<=q.length
 |[],m,r=>⟨rfl,aU _⟩
 |b::q,m,r=>by rw[lQ];cases (cJ l m d r (eP p b)).2.2 with|false=>exact⟨rfl,bO _⟩|true=>have:=GB l d p q (cJ l m d r (eP p b)).1 (cJ l m d r (eP p b)).2.1;simp only[ah,bB];exact⟨by rw[this.1,tT],by omega⟩
theorem abp (r:lE):0<=nK r:=by
 unfold nK;cases hb:cU r with
 |false=>exact dC _
 |true=>
  have h:=kF hb;simp only[cU,ae,aB]at hb;have hu:=hb.2.2.2.2;have h0:0<=bH r:=by unfold bH;split;exact eG _ (by omega);exact dC _
  simp only[ah];rw[ak];omega
theorem P1 (h:¬nK r>0):cJ l m d r s=(m,r,false):=by
 have h0:=abp r;have:nK r=0:=by omega
 unfold cJ;rw[this];rfl
theorem Fo (K:Int->Int->lE->ca->ax R)(K':Nat->lE->ca->ax R)(hK:∀(c:Nat) i r m,K (c:Int) i r m=K' c r m)(l:aw aA)(d:Int)(p p2 p3:cK)(hp:p.2.2.2.length<=10^9)(hl:l.length<=10^9):∀(rest pre:cL)(m:ca)(r:lE)(f:Nat),rest.length<f->pre.length+rest.length<=10^9->m.length<=10^9->
 bc (mz K l d (pre++rest) ((pre++rest).length:Int) p ([]:ca) (0,0,0,0) p2 p3) f ((pre.length:Int),(pre.length:Int),r,m)=K' (pre.length+(lQ l d p rest m r).1) (lQ l d p rest m r).2.2 (lQ l d p rest m r).2.1
 |rest,pre,m,r,0,hf,_,_=>by omega
 |[],pre,m,r,f+1,_,_,_=>by rw[bc];simp only[mz];rw[ar (by simp),af,hK];rfl
 |b::q,pre,m,r,f+1,hf,hn,hm=>by
  simp only[bB]at hf hn;have hi:pre.length<(pre++b::q).length:=by simp
  have hb:(pre++b::q)[pre.length]=b:=by simp
  rw[bc];simp only[mz];rw[au (by simp;omega),bn hi,hb];simp only[ah,ab,Fl p b hp,PB,HM l m d r _ hl hm];rw[show wT (3,0,p.2.1,nJ p b,0,b)=eP p b from rfl,lQ];cases hq:(cJ l m d r (eP p b)).2.2 with
  |false=>simp only[bU,ah,af,hK,dT]
  |true=>
   simp only[aj,af,ah];rw[ak (n:=(pre.length:Int)+1)];have key:=Fo K K' hK l d p p2 p3 hp hl q (pre++[b]) (cJ l m d r (eP p b)).1 (cJ l m d r (eP p b)).2.1 f (by omega) (by simp;omega) (by rw[tT];exact hm);have el:((pre++[b]).length:Int)=(pre.length:Int)+1:=by simp
   have el2:(pre++[b]).length=pre.length+1:=by simp
   rw[aP,List.singleton_append,el,el2]at key;rw[show pre.length+((lQ l d p q (cJ l m d r (eP p b)).1 (cJ l m d r (eP p b)).2.1).1+1)=pre.length+1+(lQ l d p q (cJ l m d r (eP p b)).1 (cJ l m d r (eP p b)).2.1).1 by omega];exact key
theorem F3 (K:Int->lE->ca->cK->ax R)(l:aw aA)(d:Int)(p p2:cK)(hp:p.2.2.2.length<=10^9)(hl:l.length<=10^9)(A B C:Int):∀(rest:cL)(c:Nat)(m:ca)(r:lE)(f:Nat),rest.length<f->c+rest.length<=10^9->m.length<=10^9->
 bc (mP K l d p ([]:ca) (0,0,0,0) p2) f ((c:Int),r,m,A,B,C,rest)=K ((c+(lQ l d p rest m r).1:Nat):Int) (lQ l d p rest m r).2.2 (lQ l d p rest m r).2.1 (A,B,C,rest.drop (lQ l d p rest m r).1)
 |rest,c,m,r,0,hf,_,_=>by omega
 |[],c,m,r,f+1,_,_,_=>by
  rw[bc];simp only[mP,Hk,ab];have hc:(cond (decide (nK r>0)) (some (decide ((([]:cL).length:Int)>0))) (some false))=some false:=by cases decide (nK r>0)<;>rfl
  rw[hc];rfl
 |b::q,c,m,r,f+1,hf,hn,hm=>by
  simp only[bB]at hf hn;rw[bc];simp only[mP,Hk,ab];by_cases hr:nK r>0;rw[au hr,au (show(((b::q).length:Nat):Int)>0 by simp)];have hi:idx (b::q) 0=some b:=rfl;have hs:sub (b::q) 1 ((b::q).length:Int)=some q:=by unfold sub;rw[aF (by simp;omega)];simp
  simp only[ah,ab,hi,acW p b hp,afJ,TA l m d r _ hl hm];rw[show wT (3,0,p.2.1,nJ p b,0,b)=eP p b from rfl,lQ];cases hq:(cJ l m d r (eP p b)).2.2 with|false=>rfl|true=>simp only[aj,af,ah,hs,ab];rw[mL (by omega),ak (n:=(c:Int)+1),cu];have key:=F3 K l d p p2 hp hl A B C q (c+1) (cJ l m d r (eP p b)).1 (cJ l m d r (eP p b)).2.1 f (by omega) (by omega) (by rw[tT];exact hm);rw[show((c+1:Nat):Int)=(c:Int)+1 by omega]at key;refine Eq.trans key ?_;rw[show c+1+(lQ l d p q (cJ l m d r (eP p b)).1 (cJ l m d r (eP p b)).2.1).1=c+((lQ l d p q (cJ l m d r (eP p b)).1 (cJ l m d r (eP p b)).2.1).1+1) by omega];rfl
  rw[ar hr,lQ,P1 hr];rfl
def tf (l:aw aA)(m:ca)(d:Int)(r:lE)(p:cK):ca×lE×cK×Int:=
 bif !cU r|| !dx p then(m,r,p,0) else
 ((lQ l d p p.2.2.2 m r).2.1,(lQ l d p p.2.2.2 m r).2.2,(p.1,p.2.1,p.2.2.1,p.2.2.2.drop (lQ l d p p.2.2.2 m r).1),((lQ l d p p.2.2.2 m r).1:Int))
theorem Sh (l:aw aA)(m:ca)(d:Int)(r:lE)(p:cK)(hl:l.length<=10^9)(hm:m.length<=10^9)(hp:p.2.2.2.length<=10^9):hG l m d r p=some (tf l m d r p):=by
 have Bx:=ee;unfold hG tf;simp only[fJ m (show m.length<=1073741824 by omega),sF p hp,vV,tk p hp,ab];cases cU r with|false=>rfl|true=>?_
 cases dx p with|false=>rfl|true=>?_
 simp only[aj,af,ab,bQ];have hlen:=(GB l d p p.2.2.2 m r).2;refine(Fo _ (λc r m=>aa (sub p.2.2.2 (c:Int) (p.2.2.2.length:Int)) λx14=>aa (fL x14) λAX=>some (m,r,(p.1,p.2.1,p.2.2.1,AX),(c:Int))) (λ_ _ _ _=>rfl) l d p _ p hp hl p.2.2.2 [] m r fuel (by omega) (by simp;omega) hm).trans ?_;rw[eI,cp,Qt _ _ _ hlen (aU _),ab,bN (by rw[aL];exact aU _),kY _ (by rw[aL];omega)];rfl
theorem acY (l:aw aA)(m:ca)(d:Int)(r:lE)(p:cK)(hl:l.length<=10^9)(hm:m.length<=10^9)(hp:p.2.2.2.length<=10^9):vG l m d r p=some (tf l m d r p):=by
 have Bx:=ee;unfold vG tf;simp only[AO m (show m.length<=1073741824 by omega),Vn p hp,Lq,F4 p hp,ab];cases cU r with|false=>rfl|true=>?_
 cases dx p with|false=>rfl|true=>?_
 simp only[aj,af,ab,bQ];refine(F3 _ l d p _ hp hl p.1 p.2.1 p.2.2.1 p.2.2.2 0 m r fuel (by omega) (by omega) hm).trans ?_;rw[cp]
def jV (p:cK)(n:Int):cK×cL×Bool:=bif dx p&&dm n 0 (p.2.2.2.length:Int) then((p.1,p.2.1,p.2.2.1,p.2.2.2.drop n.toNat),p.2.2.2.take n.toNat,true) else(p,[],false)
theorem Ze (p:cK)(n:Int)(h:p.2.2.2.length<=10^9):qi p n=some (jV p n):=by
 unfold qi jV;rw[sF p h,ab,tk p h,ab,de];cases dx p with|false=>rfl|true=>?_
 cases hi:dm n 0 (p.2.2.2.length:Int)with|false=>rfl|true=>?_
 have hn:=bh.1 hi;obtain⟨n,rfl⟩:=aX hn.1;simp only[aj,af,ab,eU,ah,az];rw[TH _ n (by omega),ab,kY _ (by simp;omega),ab,show sub p.2.2.2 0 (n:Int)=some (p.2.2.2.take n) from by rw[xx (by omega) hn.2,az],ab,kY _ (by simp;omega),ab]
theorem BQ:∀l:aw kI,(∀x∈l,0<=x.2.1/\x.2.1<=16)->0<=dH l/\dH l<=16*(l.length:Int)
 |[],_=>by simp[dH]
 |y::l,h=>by have h1:=BQ l (λx hx=>h x (eO _ hx));have h2:=h y (List.mem_cons_self ..);simp only[dH,cR,List.sum_cons,bB]at h1⊢;omega
theorem Uv (l:aw kI)(i:Nat)(hi:i<l.length):dH (l.take (i+1))=dH (l.take i)+l[i].2.1:=by rw[bI hi];simp only[dH,List.map_append,List.sum_append,cR,List.map_nil,List.sum_cons,List.sum_nil,Int.add_zero]
theorem Za (t:dG)(h:t.2.2.1.length<=1000000)(hs:∀x∈t.2.2.1,0<=x.2.1/\x.2.1<=16):oW t=some (dH t.2.2.1):=by
 have Bx:=ee;unfold oW;refine eo (λi=>(dH (t.2.2.1.take i),(i:Int))) t.2.2.1.length (by omega) (λi nx hi=>?_) (λnx=>?_);have hb:=BQ (t.2.2.1.take i) (λx hx=>hs x (List.mem_of_mem_take hx));have hc:=hs _ (bm hi);have hl:(t.2.2.1.take i).length<=1000000:=by rw[aZ];omega
 rw[Uv _ _ hi];simp only[ln];rw[kK,ah,bn hi,ab,ak (n:=(i:Int)+1),ak];rfl;simp only[ln];rw[jj,af,dS]
def qq (l:aw aA)(d:Int):ca->ca->lE->ax (ca×lE)
 |[],m,r=>some (m,r)
 |s::q,m,r=>bif (cJ l m d r s).2.2 then qq l d q (cJ l m d r s).1 (cJ l m d r s).2.1 else none
def agm (m:ca)(r:lE):ax (ca×lE)->ca×lE×Bool
 |some x=>(x.1,x.2,true)
 |none=>(m,r,false)
def tS (l:aw aA)(m:ca)(d:Int)(r:lE)(q:ca):ca×lE×Bool:=agm m r (qq l d q m r)
theorem HT (l:aw aA)(d:Int):∀(q:ca)(m:ca)(r:lE){x},qq l d q m r=some x->x.1.length=m.length
 |[],m,r,x,h=>by cases h;rfl
 |s::q,m,r,x,h=>by rw[qq]at h;cases hq:(cJ l m d r s).2.2 with|false=>rw[hq]at h;cases h|true=>rw[hq]at h;exact(HT l d q _ _ h).trans (tT ..)
theorem Cl (l:aw aA)(d:Int)(M:ca)(A B2:lE)(B1:ca)(hl:l.length<=10^9)(hM:M.length<=10^9):∀(rest pre:ca)(m:ca)(r:lE)(f:Nat),rest.length<f->(pre++rest).length<=10^9->m.length<=10^9->
 bc (kq (λ_ y6 y7=>some (y6,y7,true)) (λy8 _ Dt Du _ _=>some (Dt,Du,y8)) l d false (pre++rest) ((pre++rest).length:Int) M A B1 B2) f ((pre.length:Int),m,r)=some (agm M A (qq l d rest m r))
 |rest,pre,m,r,0,hf,_,_=>by omega
 |[],pre,m,r,f+1,_,_,_=>by rw[bc];simp only[kq];rw[ar (by simp),af];rfl
 |s::q,pre,m,r,f+1,hf,hn,hm=>by
  simp only[bB,ai]at hf hn;have hi:pre.length<(pre++s::q).length:=by simp
  have hb:(pre++s::q)[pre.length]=s:=by simp
  rw[bc];simp only[kq];rw[au (by simp;omega),bn hi,hb];simp only[ah,ab,HM l m d r _ hl hm];rw[qq];cases hq:(cJ l m d r s).2.2 with
  |false=>simp only[bU,ah,af,fJ M,ab];rfl
  |true=>
   simp only[aj,af,ah];rw[ak (n:=(pre.length:Int)+1)];have key:=Cl l d M A B2 B1 hl hM q (pre++[s]) (cJ l m d r s).1 (cJ l m d r s).2.1 f (by omega) (by simp;omega) (by rw[tT];exact hm);have el:((pre++[s]).length:Int)=(pre.length:Int)+1:=by simp
   rw[aP,List.singleton_append,el]at key;exact key
theorem U9 (l:aw aA)(m:ca)(d:Int)(r:lE)(q:ca)(hl:l.length<=10^9)(hm:m.length<=10^9)(hq:q.length<=10^9):ju l m d r q=some (tS l m d r q):=by have Bx:=ee;unfold ju tS;rw[fJ m,ab];exact Cl l d m r _ _ hl hm q [] m r fuel (by omega) (by simpa using hq) hm
theorem K0 (l:aw aA)(m:ca)(d:Int)(w:Bool):∀(n a r:Nat)(q:aw (Int×Int)),kN l m d w n a r=some q->q.length<=n
 |0,a,r,q,h=>by simp only[kN,ba]at h;subst h;simp
 |n+1,a,r,q,h=>by simp only[kN]at h;split at h;simp only[ba]at h;subst h;simp;split at h;simp only[Option.map_eq_some_iff]at h;obtain⟨q',h1,rfl⟩:=h;have:=K0 l m d w n _ _ q' h1;simp only[bB];omega;cases h
theorem Hg (l:aw aA)(m:ca)(d a n:Int)(w:Bool):(kx l m d a n w).1.length<=4096:=by
 unfold kx;cases hB:dF l&&(cD m&&dm n 0 4096)with|false=>simp|true=>?_
 simp only[ae,bh]at hB;simp only[ah];cases n==0 with|true=>simp|false=>?_
 cases decide (a<0)with|true=>simp|false=>?_
 simp only[af];split;rename_i q hq;have:=K0 _ _ _ _ _ _ _ _ hq;show q.length<=4096;omega;simp
def uL (m:ca)(p:Int×Int):Bytes:=bif gu m p.1 p.2 then Ac m p.1.toNat p.2.toNat else []
theorem DU (m:ca)(p:Int×Int):(uL m p).length<=8192:=by unfold uL;cases h:gu m p.1 p.2 with|false=>simp|true=>simp only[gu,ae,aB]at h;have:=acI m p.1.toNat p.2.toNat;have:=(mem_iff.1 h.1).2;simp only[ah];omega
theorem tV (m:ca):∀q:aw (Int×Int),(q.flatMap (uL m)).length<=8192*q.length
 |[]=>by simp
 |p::q=>by have:=tV m q;have:=DU m p;simp only[List.flatMap_cons,ai,bB];omega
def qL (l:aw aA)(m:ca)(d a n:Int):Bytes×Bool:=
 bif (kx l m d a n false).2 then((kx l m d a n false).1.flatMap (uL m),true) else([],false)
theorem Pd {α β:Type}(g:α->aw β)(l:aw α)(i:Nat)(hi:i<l.length):(l.take (i+1)).flatMap g=(l.take i).flatMap g++g l[i]:=by rw[bI hi,List.flatMap_append];simp
theorem yN (l:aw aA)(m:ca)(d a n:Int)(hl:l.length<=10^9)(hm:m.length<=10^9)(ha:a<=9223372036854775807):nh l m d a n=some (qL l m d a n):=by
 unfold nh qL;rw[Sl l m d a n false hl hm ha,ab];have hL:=Hg l m d a n false;generalize kx l m d a n false=r at hL⊢;cases hr:r.2 with|false=>rfl|true=>?_
 simp only[aj,af,ah];refine(eo (λi=>((r.1.take i).flatMap (uL m),(i:Int))) r.1.length (by omega) (λi nx hi=>?_) (λnx=>?_));simp only[rK];rw[kK,bn hi,ak];have e:nO m r.1[i].1 r.1[i].2=some (uL m r.1[i],gu m r.1[i].1 r.1[i].2):=by rw[ab0 m _ _ hm,uL];cases gu m r.1[i].1 r.1[i].2<;>rfl
 have h1:=tV m (r.1.take i);have h2:=DU m r.1[i];simp only[ah,ab,e];rw[aS (by rw[aZ]at h1;omega),<-Pd];rfl;simp only[rK];rw[jj,dS];rfl
theorem JQ (l:aw aA)(m:ca)(d a n:Int):(qL l m d a n).1.length<=100000000:=by have hL:=Hg l m d a n false;have h1:=tV m (kx l m d a n false).1;unfold qL;cases (kx l m d a n false).2 with|false=>simp|true=>simp only[ah];omega
def Aq (s:Bytes):D4×Int×Bool:=
 bif ((s.length:Int) !=16)||decide (fB s 12>1) then((0,0,0,0,0),0,false) else((cj s 0,cj s 2,cj s 4,cj s 6,fB s 8),fB s 12,true)
theorem U2 (s:Bytes)(h:s.length<=10^9):kA s=some (Aq s):=by
 unfold kA Aq;cases (s.length:Int) !=16 with|true=>rfl|false=>?_
 simp only[uE s _ h,xG s _ h,ab,af,cE];cases decide (fB s 12>1)<;>rfl
def yh (q:LP):Int:=bif decide (q.2.2<q.2.1) then 1 else 0
theorem Nf (q:LP):tL q=some (yh q):=by unfold tL yh;cases decide (q.2.2<q.2.1)<;>rfl
theorem tU {q:LP}(h:fF q=true):0<=q.1/\q.1<=130944/\(q.2.1=2\/q.2.1=4\/q.2.1=8\/q.2.1=16)/\0<=q.2.2/\q.2.2<=2*q.2.1-1:=by simp only[fF,ae,bh]at h;obtain⟨h1,h2,h3⟩:=h;rw[xK h2]at h3;exact⟨h1.1,h1.2,gF.1 h2,h3⟩
def qK (q:LP):Int:=q.1+tmod q.2.2 q.2.1*16
theorem Qx {a:Int}(h:0<=a:=by omega)(hb:0<b:=by omega):0<=tmod a b/\tmod a b<b:=by rw[dg h];exact⟨eG _ (by omega),eJ _ hb⟩
theorem Qd {q:LP}(h:fF q=true):0<=tmod q.2.2 q.2.1/\tmod q.2.2 q.2.1<16:=by obtain⟨_,_,h3,h4,h5⟩:=tU h;have:=Qx h4 (show 0<q.2.1 by omega);omega
theorem Nj (q:LP)(h:fF q=true):mG q=some (qK q):=by obtain⟨h1,h2,h3,h4,h5⟩:=tU h;have:=Qd h;unfold mG qK;rw[lR,ak (n:=tmod q.2.2 q.2.1*16),ak]
def agl (q:LP):LP:=(q.1,q.2.1,tmod (q.2.2+1) (2*q.2.1))
def PU (l:aw aA)(m:ca)(d:Int)(q:LP):Bool:=
 fF q&&((qL l m d (qK q) 16).2&&((Aq (qL l m d (qK q) 16).1).2.2&&((Aq (qL l m d (qK q) 16).1).2.1==yh q)))
def qJ (l:aw aA)(m:ca)(d:Int)(q:LP):D4×LP×Bool:=
 bif PU l m d q then((Aq (qL l m d (qK q) 16).1).1,agl q,true) else((0,0,0,0,0),q,false)
theorem abX (l:aw aA)(m:ca)(d:Int)(q:LP)(hl:l.length<=10^9)(hm:m.length<=10^9):lZ l m d q=some (qJ l m d q):=by
 unfold lZ qJ PU;rw[GL q,ab];cases hq:fF q with|false=>rfl|true=>?_
 obtain⟨h1,h2,h3,h4,h5⟩:=tU hq;have hs:=Qd hq;have hd:=JQ l m d (qK q) 16;simp only[aj,af,Nj q hq,ab,yN l m d (qK q) 16 hl hm (by unfold qK;omega),bC];cases (qL l m d (qK q) 16).2 with|false=>rfl|true=>?_
 simp only[aj,af,U2 _ (bA hd (by omega)),ab,bC];cases (Aq (qL l m d (qK q) 16).1).2.2 with|false=>rfl|true=>?_
 simp only[aj,af,Nf,ab,bC,bne];cases (Aq (qL l m d (qK q) 16).1).2.1==yh q with|false=>rfl|true=>?_
 simp only[aj,af,ah];rw[ak (n:=2*q.2.1),lR,ak (n:=q.2.2+1)];rfl
theorem aeA (p:cK)(i:Int):nJ p i= -1\/(0<=nJ p i/\nJ p i<=200000):=by
 unfold nJ;cases hp:dx p with|false=>exact .inl rfl|true=>?_
 cases hi:dm i 0 (p.2.2.1-1)with|false=>exact .inl rfl|true=>?_
 have h:=xe hp;have h2:=bh.1 hi;have h3:0<=i*p.2.1:=Int.mul_nonneg h2.1 (by omega);have h4:i*p.2.1<=16*512:=Int.mul_le_mul (by omega) (by omega) (by omega) (by omega);simp only[aj,bQ,af];exact .inr (by omega)
def ahH (l:aw aA)(m:ca)(d a n:Int):Bool:=(qL l m d a n).2&&((jE (qL l m d a n).1).2==0)
def Cv (l:aw aA)(m:ca)(d:Int)(s:aw Stream×bT×cK):aw Stream×bT×cK:=
 ((bif ahH l m d (nJ s.2.2 (qJ l m d s.2.1.2.2.1).1.1) (qJ l m d s.2.1.2.2.1).1.2.1 then BX s.1 (jE (qL l m d (nJ s.2.2 (qJ l m d s.2.1.2.2.1).1.1) (qJ l m d s.2.1.2.2.1).1.2.1).1).1 else s.1),
   (s.2.1.1,s.2.1.2.1,(qJ l m d s.2.1.2.2.1).2.1,s.2.1.2.2.2),(Ei s.2.2 [(qJ l m d s.2.1.2.2.1).1.1]).1)
def jB (l:aw aA)(m:ca)(d:Int):Nat->aw Stream×bT×cK->Nat×(aw Stream×bT×cK)
 |0,s=>(0,s)
 |k+1,s=>bif !(qJ l m d s.2.1.2.2.1).2.2 then(0,s) else((jB l m d k (Cv l m d s)).1+1,(jB l m d k (Cv l m d s)).2)
structure Gs (n:Nat) (s:List Stream×bT×cK):Prop where
 st:cY n (.sl dK) s.1
 pl:s.2.2.2.2.2.length<=n
theorem RL (p:cK)(l:cL):(Ei p l).1.2.2.2.length<=p.2.2.2.length+l.length:=by unfold Ei;cases zL p l with|false=>show p.2.2.2.length<=_;omega|true=>simp[gk]
theorem K5 {s:aw Stream×bT×cK}(h:Gs n s):Gs (n+322) (Cv l m d s):=by
 refine⟨?_,?_⟩;unfold Cv;cases ahH l m d (nJ s.2.2 (qJ l m d s.2.1.2.2.1).1.1) (qJ l m d s.2.1.2.2.1).1.2.1 with|false=>exact h.st.mono|true=>exact O2 h.st
 have:=RL s.2.2 [(qJ l m d s.2.1.2.2.1).1.1];have h2:=h.pl;show(Ei s.2.2 [(qJ l m d s.2.1.2.2.1).1.1]).1.2.2.2.length<=_;simp only[bt]at this;omega
theorem Ft (K:aw Stream->Int->bT->cK->ax R)(l:aw aA)(m:ca)(d:Int)(N:Nat)(hN:N<=1000)(B1:ca)(B2:bT)(B3:cK)(hl:l.length<=10^9)(hm:m.length<=10^9):∀(k i:Nat)(s:aw Stream×bT×cK)(f:Nat),i+k=N->k<f->Gs (500000000+322*i) s->
 bc (lj K l d (N:Int) B1 B2 B3 m) f (s.1,(i:Int),s.2.1,s.2.2)=K (jB l m d k s).2.1 ((i+(jB l m d k s).1:Nat):Int) (jB l m d k s).2.2.1 (jB l m d k s).2.2.2
 |k,i,s,0,_,hf,_=>by omega
 |0,i,s,f+1,hi,hf,z=>by rw[bc];simp only[lj];rw[jj,af];rfl
 |k+1,i,s,f+1,hi,hf,z=>by have lX:cY 900000000 (.sl dK) s.1:=z.st.mono;have C8:s.2.2.2.2.2.length<=900000000:=bA z.pl (by omega);rw[bc];simp only[lj];rw[kK];simp only[ah,abX l m d _ hl hm,ab,jB];cases hnx:(qJ l m d s.2.1.2.2.1).2.2 with|false=>rfl|true=>have key:=Ft K l m d N hN B1 B2 B3 hl hm k (i+1) (Cv l m d s) f (by omega) (by omega) ((K5 z).st.mono|>λa=>⟨a,bA (K5 z).pl (by omega)⟩);rw[show i+1+(jB l m d k (Cv l m d s)).1=i+((jB l m d k (Cv l m d s)).1+1) by omega]at key;simp only[aj,af];rw[<-key];unfold Cv;generalize qJ l m d s.2.1.2.2.1=c;have ha:=aeA s.2.2 c.1.1;have hd:=JQ l m d (nJ s.2.2 c.1.1) c.1.2.1;simp only[Fl _ _ (show s.2.2.2.2.2.length<=10^9 by omega),yN l m d _ c.1.2.1 hl hm (show nJ s.2.2 c.1.1<=9223372036854775807 by omega),ab,Dc _ (bA hd (by omega)),PA _ _ lX,Kx s.2.2 [c.1.1] (show s.2.2.2.2.2.length+1<=10^9 by omega)];rw[ak (n:=(i:Int)+1),show((i+1:Nat):Int)=(i:Int)+1 by omega];unfold ahH;cases (qL l m d (nJ s.2.2 c.1.1) c.1.2.1).2<;>cases (jE (qL l m d (nJ s.2.2 c.1.1) c.1.2.1).1).2==0<;>rfl
theorem K4 {l:aw aA}{m:ca}{d:Int}:∀(k:Nat){s:aw Stream×bT×cK}{n:Nat},Gs n s->Gs (n+322*k) (jB l m d k s).2
 |0,s,n,h=>h
 |k+1,s,n,h=>by rw[jB];cases (qJ l m d s.2.1.2.2.1).2.2 with|false=>exact⟨h.st.mono,bA h.pl (by omega)⟩|true=>have:=K4 (l:=l) (m:=m) (d:=d) k (K5 (l:=l) (m:=m) (d:=d) h);exact⟨this.st.mono,bA this.pl (by omega)⟩
def jo (l:aw aA)(m:ca)(d:Int)(rx:bT)(pl:cK)(st:aw Stream)(n:Int):ca×bT×cK×aw Stream×Int:=
 bif !EP rx||(!dx pl|| !dm n 0 1000) then(m,rx,pl,st,0) else
 ((tf l m d (jB l m d n.toNat (st,rx,pl)).2.2.1.1 (jB l m d n.toNat (st,rx,pl)).2.2.2).1,
   ((tf l m d (jB l m d n.toNat (st,rx,pl)).2.2.1.1 (jB l m d n.toNat (st,rx,pl)).2.2.2).2.1,(jB l m d n.toNat (st,rx,pl)).2.2.1.2),
   (tf l m d (jB l m d n.toNat (st,rx,pl)).2.2.1.1 (jB l m d n.toNat (st,rx,pl)).2.2.2).2.2.1,(jB l m d n.toNat (st,rx,pl)).2.1,((jB l m d n.toNat (st,rx,pl)).1:Int))
theorem Sj (l:aw aA)(m:ca)(d:Int)(rx:bT)(pl:cK)(st:aw Stream)(n:Int)(hl:l.length<=10^9)(hm:m.length<=10^9)(hp:pl.2.2.2.length<=500000000)(hs:cY 500000000 (.sl dK) st):tB l m d rx pl st n=some (jo l m d rx pl st n):=by
 have Bx:=ee;have hsl:st.length<=500000000:=hs.1;unfold tB jo;simp only[fJ m (show m.length<=1073741824 by omega),sF pl (show pl.2.2.2.length<=10^9 by omega),wD st,PJ,tk pl (show pl.2.2.2.length<=10^9 by omega),de,ab];cases EP rx with|false=>rfl|true=>?_
 cases dx pl with|false=>rfl|true=>?_
 cases hn:dm n 0 1000 with|false=>rfl|true=>?_
 have h:=bh.1 hn;obtain⟨n,rfl⟩:=aX h.1;simp only[aj,af,ab,bQ,az];have z:Gs (500000000+322*0) (st,rx,pl):=⟨hs,hp⟩
 have hz:=K4 (l:=l) (m:=m) (d:=d) n z;refine(Ft _ l m d n (by omega) _ _ _ hl hm n 0 (st,rx,pl) fuel (by omega) (by omega) z).trans ?_;rw[cp];simp only[Sh l m d _ _ hl hm (show(jB l m d n (st,rx,pl)).2.2.2.2.2.2.length<=10^9 from bA hz.pl (by omega)),ab]
def gQ (i:Nat):Int:=1280+(i:Int)*1792
theorem Wz (h:i<=8):aq (1280+aq ((i:Int)*1792))=gQ i:=by rw[ak (n:=(i:Int)*1792),ak];rfl
theorem Sd (i:Nat)(h:i<=8):pD (i:Int)=some (gQ i):=by rw[pD,Wz h]
theorem nu (a b n:Int)(h:n<=1000:=by omega):(gS a b n).1.2.2.2.length<=1000:=by unfold gS;cases dx (a,b,n,[])with|false=>simp|true=>simp[upto];omega
def H0 (i:Nat):bT:=((gQ i,4,0,0),(gQ i+64,4,0),(gQ i+64,4,0),((0,0,0,0,0,0,0,0,0,0,0,0,0,0,0,([]:Bytes)),0,0),false,0)
theorem YW (i:Nat)(h:i<=8):uG (i:Int)=some (H0 i,(gS (gQ i+128) 384 4).1):=by have hb:gQ i=1280+(i:Int)*1792:=rfl;simp only[uG,Sd i h,ab];rw[ak (n:=gQ i+128),ak (n:=gQ i+64),HK];rfl
def D2:dG:=((0,16,0,0),(gS 256 128 8).1,([]:aw kI),0)
theorem Zi:AJ=some D2:=by rw[AJ,HK];rfl
theorem aax:vP=some D2:=by rw[vP,H2];rfl
def sN (l:aw aA)(m:ca)(i:Nat):ca×lE×cK×Int:=
 tf l (gZ l m 0 (gQ i) (wR 128) false).1 0 (gQ i,4,0,0) (gS (gQ i+128) 384 4).1
def S0 (h:Host)(i:Nat):Host:=
 ((sN h.2.1 h.1 i).1,h.2.1,h.2.2.1,h.2.2.2.1.set i ((sN h.2.1 h.1 i).2.1,(gQ i+64,4,0),(gQ i+64,4,0),((0,0,0,0,0,0,0,0,0,0,0,0,0,0,0,([]:Bytes)),0,0),false,(match h.2.2.2.1[i]? with|some x=>x.2.2.2.2.2|none=>0)),h.2.2.2.2.1.set i (sN h.2.1 h.1 i).2.2.1,h.2.2.2.2.2)
theorem ac1 (h:Host)(i:Nat)(hi:i<=8)(h1:i<h.2.2.2.1.length)(h2:i<h.2.2.2.2.1.length)(hl:h.2.1.length<=10^9)(hm:h.1.length<=10^9):uq h (i:Int)=some ((),S0 h i):=by have hb:gQ i=1280+(i:Int)*1792:=rfl;have hz:im 128 0=some (wR 128):=Lo 128;have hf:=acY h.2.1 (gZ h.2.1 h.1 0 (gQ i) (wR 128) false).1 0 (gQ i,4,0,0) (gS (gQ i+128) 384 4).1 hl (by rw[jC];exact hm) (bA (nu (gQ i+128) 384 4) (by omega));unfold uq;simp only[Wz hi];rw[ak (n:=gQ i+128),ak (n:=gQ i+64),H2,hz];simp only[bn h1,bn h2,ab,Mu h.2.1 h.1 0 (gQ i) (wR 128) hl hm (by omega),hf,az,S0,sN,al h1]
def yk (h:Host)(i:Nat)(n:Int):Int×Host:=
 match h.2.2.2.1[i]?,h.2.2.2.2.1[i]? with
 |some rx,some pl=>
  ((jo h.2.1 h.1 0 rx pl h.2.2.2.2.2.2.2.2.2.1 n).2.2.2.2,(jo h.2.1 h.1 0 rx pl h.2.2.2.2.2.2.2.2.2.1 n).1,h.2.1,h.2.2.1,h.2.2.2.1.set i (jo h.2.1 h.1 0 rx pl h.2.2.2.2.2.2.2.2.2.1 n).2.1,h.2.2.2.2.1.set i (jo h.2.1 h.1 0 rx pl h.2.2.2.2.2.2.2.2.2.1 n).2.2.1,h.2.2.2.2.2.1,h.2.2.2.2.2.2.1,h.2.2.2.2.2.2.2.1,h.2.2.2.2.2.2.2.2.1,(jo h.2.1 h.1 0 rx pl h.2.2.2.2.2.2.2.2.2.1 n).2.2.2.1,h.2.2.2.2.2.2.2.2.2.2)
 |_,_=>(0,h)
theorem PH (h:Host)(i:Nat)(n:Int)(h1:i<h.2.2.2.1.length)(h2:i<h.2.2.2.2.1.length)(z:cY 500000000 dJ h):jT h (i:Int) n=some (yk h i n):=by have hl:h.2.1.length<=500000000:=z.2.1.1;have hm:h.1.length<=500000000:=z.1.1;have hp:h.2.2.2.2.1[i].2.2.2.length<=500000000:=(z.2.2.2.2.1.2 _ (bm h2)).2.2.2.1;unfold jT;simp only[bn h1,bn h2,ab,Sj h.2.1 h.1 0 _ _ _ n (show h.2.1.length<=10^9 by omega) (show h.1.length<=10^9 by omega) hp z.2.2.2.2.2.2.2.2.2.1,az,yk,al h1,al h2]
theorem nR {t:CT}{l:aw t.D}{x:t.D}(z:cY n (.sl t) l)(hx:cY n t x):cY n (.sl t) (l.set i x):=by refine⟨?_,λy hy=>?_⟩;show(l.set i x).length<=n;rw[aC];exact z.1;rcases List.mem_or_eq_of_mem_set hy with h|h;exact z.2 y h;rw[h];exact hx
theorem NB (hn:128<=n)(h:AQ m):cY n (.sl .str) m:=⟨bA h.2 (by omega),λx hx=>bA (Nat.le_of_eq (h.1 x hx)) hn⟩
theorem TX (hn:128<=n)(z:cY n (.sl .str) m)(a:Int)(s:Bytes):cY n (.sl .str) (qG m a s).1:=by
 unfold qG;cases hw:gu m a (s.length:Int)with|false=>exact z|true=>?_
 simp only[gu,ae,aB]at hw;exact NB hn (xB s.length (qp.1 hw.1) (by omega)).1
theorem Tc (hn:128<=n):∀(q:aw (Int×Int)){m:ca}(s:Bytes),cY n (.sl .str) m->cY n (.sl .str) (K8 q m s)
 |[],m,s,z=>z
 |p::q,m,s,z=>Tc hn q _ (TX hn z _ _)
theorem Cx (hn:128<=n)(z:cY n (.sl .str) m)(l:aw aA)(d a:Int)(s:Bytes)(w:Bool):cY n (.sl .str) (gZ l m d a s w).1:=by unfold gZ;cases (kx l m d a (s.length:Int) w).2 with|false=>exact z|true=>exact Tc hn _ _ z
theorem FU (hn:128<=n)(z:cY n (.sl .str) m)(l:aw aA)(d:Int)(r:lE)(s:Bytes):cY n (.sl .str) (cJ l m d r s).1:=by
 unfold cJ;cases (nK r==0)||((s.length:Int) !=16)with|true=>exact z|false=>?_
 cases (gZ l m d (nU r r.2.2.2) s true).2 with|false=>exact z|true=>exact Cx hn z ..
theorem MS (hn:128<=n)(l:aw aA)(d:Int)(p:cK):∀(q:cL){m:ca}(r:lE),cY n (.sl .str) m->cY n (.sl .str) (lQ l d p q m r).2.1
 |[],m,r,z=>z
 |b::q,m,r,z=>by rw[lQ];cases (cJ l m d r (eP p b)).2.2 with|false=>exact z|true=>exact MS hn l d p q _ (FU hn z ..)
theorem MT (hn:128<=n)(z:cY n (.sl .str) m)(l:aw aA)(d:Int)(r:lE)(p:cK):cY n (.sl .str) (tf l m d r p).1:=by unfold tf;cases !cU r|| !dx p with|true=>exact z|false=>exact MS hn _ _ _ _ _ z
theorem W4 (l:aw aA)(m:ca)(d:Int)(r:lE)(p:cK):(tf l m d r p).1.length=m.length:=by unfold tf;cases !cU r|| !dx p with|true=>rfl|false=>exact(GB ..).1
theorem Ee (l:aw aA)(m:ca)(d:Int)(r:lE)(p:cK):(tf l m d r p).2.2.1.2.2.2.length<=p.2.2.2.length:=by unfold tf;cases !cU r|| !dx p with|true=>exact aU _|false=>show(p.2.2.2.drop _).length<=_;rw[aL];omega
theorem S5 (l:aw aA)(m:ca)(d:Int):∀(k:Nat)(s:aw Stream×bT×cK),(jB l m d k s).2.2.1.2.2.2=s.2.1.2.2.2/\(jB l m d k s).1<=k
 |0,s=>⟨rfl,aU _⟩
 |k+1,s=>by rw[jB];cases (qJ l m d s.2.1.2.2.1).2.2 with|false=>exact⟨rfl,bO _⟩|true=>have:=S5 l m d k (Cv l m d s);simp only[aj,af];exact⟨this.1,by omega⟩
theorem NG (hn:128<=n){rx:bT}{pl:cK}{st:aw Stream}(c:Int)(zm:cY n (.sl .str) m)(zr:cY n dM rx)(zp:cY n hZ pl)(zs:cY n (.sl dK) st): cY n (.sl .str) (jo l m d rx pl st c).1/\cY n dM (jo l m d rx pl st c).2.1/\cY (n+322000) hZ (jo l m d rx pl st c).2.2.1/\cY (n+322000) (.sl dK) (jo l m d rx pl st c).2.2.2.1/\0<=(jo l m d rx pl st c).2.2.2.2/\(jo l m d rx pl st c).2.2.2.2<=1000:=by
 unfold jo;cases hc: !EP rx||(!dx pl|| !dm c 0 1000)with
 |true=>exact⟨zm,zr,zp.mono,zs.mono,dC _,by show(0:Int)<=1000;omega⟩
 |false=>
  have hi:dm c 0 1000=true:=by cases h:dm c 0 1000 with|true=>rfl|false=>rw[h]at hc;simp at hc
  have h:=bh.1 hi;have z:=K4 (l:=l) (m:=m) (d:=d) c.toNat (s:=(st,rx,pl)) (n:=n) ⟨zs,zp.2.2.2.1⟩;have hx:=S5 l m d c.toNat (st,rx,pl);refine⟨MT hn zm ..,⟨?_,?_,?_,?_⟩,⟨cx,cx,cx,?_,λ_ _=>trivial⟩,z.st.mono,by show(0:Int)<=((jB l m d c.toNat (st,rx,pl)).1:Int);omega,by show((jB l m d c.toNat (st,rx,pl)).1:Int)<=1000;omega⟩;exact⟨cx,cx,cx,cx⟩;exact⟨cx,cx,cx⟩;exact⟨cx,cx,cx⟩;have e:=congrArg (λq=>cY n dM (rx.1,rx.2.1,rx.2.2.1,q)) hx.1;exact(e.mpr zr).2.2.2;have:=Ee l m d (jB l m d c.toNat (st,rx,pl)).2.2.1.1 (jB l m d c.toNat (st,rx,pl)).2.2.2;have h2:=z.pl;show(tf l m d (jB l m d c.toNat (st,rx,pl)).2.2.1.1 (jB l m d c.toNat (st,rx,pl)).2.2.2).2.2.1.2.2.2.length<=_;omega
theorem VP (hn:128<=n)(i:Nat)(c:Int)(z:cY n dJ h):cY (n+322000) dJ (yk h i c).2:=by
 unfold yk;cases h1:h.2.2.2.1[i]? with|none=>exact z.mono|some rx=>?_
 cases h2:h.2.2.2.2.1[i]? with|none=>exact z.mono|some pl=>?_
 have zr:=z.2.2.2.1.2 _ (bp h1);have zp:=z.2.2.2.2.1.2 _ (bp h2);have hp:=NG hn (l:=h.2.1) (d:=0) c z.1 zr zp z.2.2.2.2.2.2.2.2.2.1;have z':cY (n+322000) dJ h:=z.mono;exact⟨hp.1.mono,z'.2.1,z'.2.2.1,nR z'.2.2.2.1 (hp.2.1.mono),nR z'.2.2.2.2.1 hp.2.2.1,z'.2.2.2.2.2.1,z'.2.2.2.2.2.2.1,z'.2.2.2.2.2.2.2.1,z'.2.2.2.2.2.2.2.2.1,hp.2.2.2.1,z'.2.2.2.2.2.2.2.2.2.2⟩
def bl (l:aw aA)(m:ca)(d:Int)(r:lE):Bytes×lE×Bool:=
 bif !cU r||(bH r==0) then([],r,false) else
 bif !(qL l m d (nU r r.2.2.1) 16).2 then([],r,false) else
 ((qL l m d (nU r r.2.2.1) 16).1,(r.1,r.2.1,tmod (r.2.2.1+1) (2*r.2.1),r.2.2.2),true)
theorem Fy (l:aw aA)(m:ca)(d:Int)(r:lE)(hl:l.length<=10^9)(hm:m.length<=10^9):re l m d r=some (bl l m d r):=by
 have hA:=CE r r.2.2.1;unfold re bl;simp only[vV,yb,ab,Ni,yN l m d _ 16 hl hm (show nU r r.2.2.1<=9223372036854775807 by omega)];cases hb:cU r with|false=>rfl|true=>?_
 have h:=kF hb;cases bH r==0 with|true=>rfl|false=>?_
 simp only[aj,af,ab,bQ];cases (qL l m d (nU r r.2.2.1) 16).2 with|false=>rfl|true=>?_
 simp only[aj,af];rw[ak (n:=2*r.2.1),lR,ak (n:=r.2.2.1+1)]
theorem D0 (l:aw aA)(m:ca)(d:Int)(r:lE):(bl l m d r).1.length<=100000000:=by
 unfold bl;cases !cU r||(bH r==0)with|true=>exact bO _|false=>?_
 cases (qL l m d (nU r r.2.2.1) 16).2 with|false=>exact bO _|true=>exact JQ ..
theorem CK (h:(bl l m d r).2.2=true): cU (bl l m d r).2.1=true/\bH (bl l m d r).2.1=bH r-1/\(bl l m d r).2.1.1=r.1/\(bl l m d r).2.1.2.1=r.2.1/\(bl l m d r).2.1.2.2.2=r.2.2.2:=by
 unfold bl at h⊢;cases hb:cU r with|false=>rw[hb]at h;cases h|true=>?_
 cases hu:bH r==0 with|true=>rw[hb,hu]at h;cases h|false=>?_
 cases hd:(qL l m d (nU r r.2.2.1) 16).2 with|false=>rw[hb,hu,hd]at h;cases h|true=>?_
 simp only[aj,bQ,af];have hr:=kF hb;have hq:=hb;simp only[cU,ae,aB]at hq;have h1:=hq.2.2.2.2;have hs:=hq.2.1;have Pv:bH r≠0:=by simpa using hu
 have e:tmod (r.2.2.1+1) (2*r.2.1)=(r.2.2.1+1)%(2*r.2.1):=dg (by omega);rw[e];unfold bH at h1 Pv⊢;simp only[hs,bP]at h1 Pv⊢;have key:(r.2.2.2-(r.2.2.1+1)%(2*r.2.1))%(2*r.2.1)=(r.2.2.2-r.2.2.1)%(2*r.2.1)-1/\0<=(r.2.2.1+1)%(2*r.2.1)/\(r.2.2.1+1)%(2*r.2.1)<=2*r.2.1-1:=by rcases hr.2.2.1 with hn|hn|hn|hn<;>rw[hn]at h1 Pv hr⊢<;>omega
 refine⟨?_,key.1,cx,cx,cx⟩;simp only[cU,bH,hs,bP,ae,aB,bh];refine⟨by omega,cx,by omega,by omega,?_⟩;rw[key.1];omega
theorem wm (h:cU r=true):0<=bH r/\bH r<=16:=by have hr:=kF h;have hq:=h;simp only[cU,ae,aB]at hq;refine⟨?_,by have:=hq.2.2.2.2;omega⟩;unfold bH;rw[hq.2.1,aF rfl];exact eG _ (by omega)
def Hx:CS:=(0,0,0,0,0,0)
def BZ (s:Bytes):CS:=((bJ s 0:Int),(bJ s 1:Int),cj s 2,fB s 4,cj s 8,cj s 10)
def cP (s:Bytes):CS×Bool:=
 bif ((s.length:Int) !=16) then(Hx,false) else bif !(wT (BZ s)==s) then(Hx,false) else(BZ s,true)
theorem Se (s:Bytes)(h:s.length<=10^9):nM s=some (cP s):=by
 unfold nM cP;cases hn:(s.length:Int) !=16 with|true=>rfl|false=>?_
 have hl:s.length=16:=by
  have:((s.length:Int)==16)=true:=by simpa using hn
  have:=bk this;omega
 have b0:=lV (s[0]'(by omega));have b1:=lV (s[1]'(by omega));have i0:idx s 0=some (s[0]'(by omega)):=bn (i:=0) (by omega);have i1:idx s 1=some (s[1]'(by omega)):=bn (i:=1) (by omega);have e:(((s[0]'(by omega)).toNat:Int),((s[1]'(by omega)).toNat:Int),cj s 2,fB s 4,cj s 8,cj s 10)=BZ s:=by simp only[BZ,bJ,cI (show 0<s.length by omega),cI (show 1<s.length by omega)]
 simp only[af,i0,i1,ab,uE s _ h,xG s _ h];rw[gU (n:=(s[0]'(by omega)).toNat),gU (n:=(s[1]'(by omega)).toNat),e,PB,ab];cases wT (BZ s)==s<;>rfl
theorem UB (h:(cP s).2=true):sG (cP s).1=true:=by
 unfold cP at h⊢;cases hn:(s.length:Int) !=16 with|true=>rw[hn]at h;cases h|false=>?_
 cases he:wT (BZ s)==s with|false=>rw[hn,he]at h;cases h|true=>?_
 simp only[af,aj];cases hd:sG (BZ s)with
 |true=>rfl
 |false=>
  have:wT (BZ s)=[]:=by unfold wT;rw[hd];rfl
  rw[this]at he;cases s with|nil=>simp at hn|cons x y=>cases he
def UD (x:CS):Bool:=bif x.1==1 then(aq (BitVec.toNat (gb x.2.1&&&gb 1))) !=0 else false
def sZ (l:aw aA)(m:ca)(d:Int):Nat->aw CS->lE->aw CS×lE×Bool
 |0,acc,r=>(acc,r,true)
 |n+1,acc,r=>
  bif !(bl l m d r).2.2|| !(cP (bl l m d r).1).2 then([],(r.1,r.2.1,r.2.2.2,r.2.2.2),false) else
  bif UD (cP (bl l m d r).1).1 then(acc++[(cP (bl l m d r).1).1],(bl l m d r).2.1,true) else
  sZ l m d n (acc++[(cP (bl l m d r).1).1]) (bl l m d r).2.1
def df (l:aw aA)(m:ca)(d:Int)(r:lE):aw CS×lE×Bool:=
 bif !cU r||(bH r==0) then([],r,false) else sZ l m d (bH r).toNat [] r
theorem DH (k0:aw CS->lE->ax R)(k1:aw CS->Bool->aw CS->lE->lE->ax R)(K:aw CS×lE×Bool->ax R)
 (h0:∀a r,k0 a r=K (a,r,true)) (l:aw aA) (m:ca) (d:Int) (B E:lE) (h1:∀a r,k1 [] false a r E=K ([],E,false)) (hl:l.length<=10^9) (hm:m.length<=10^9):∀(n:Nat)(acc:aw CS)(r:lE)(f:Nat),
 n<f->cU r=true->(bH r).toNat=n->acc.length+n<=1000->E=(r.1,r.2.1,r.2.2.2,r.2.2.2)->bc (ll k0 k1 l d ([]:aw CS) false m B E) f (acc,r)=K (sZ l m d n acc r)
 |n,acc,r,0,hf,_,_,_,_=>by omega
 |0,acc,r,f+1,hf,hb,hu,ha,hE=>by rw[bc];simp only[ll,yb,ab];rw[jj,af,h0];rfl
 |n+1,acc,r,f+1,hf,hb,hu,ha,hE=>by
  have hlen:=D0 l m d r;have hk:=CK (l:=l) (m:=m) (d:=d) (r:=r);rw[bc];simp only[ll,yb,ab];rw[kK,ah,Fy l m d r hl hm,ab,sZ];generalize bl l m d r=t at hlen hk⊢;cases ht:t.2.2 with
  |false=>simp only[bU,ah,gG,<-hE,h1]
  |true=>
   have hk:=hk ht;simp only[aj,af,cE];rw[Se _ (show t.1.length<=10^9 by omega),ab];generalize cP t.1=x;cases x.2 with
   |false=>simp only[bU,ah,<-hE,h1]
   |true=>
    simp only[aj,af];rw[aS (by rw[bt];omega)];have e:(aa (cond (x.1.1==1) (some ((aq (BitVec.toNat (gb x.1.2.1&&&gb 1))) !=0)) (some false)):(Bool->ax R)->ax R)=λK=>K (UD x.1):=by funext K;unfold UD;cases x.1.1==1<;>rfl
    rw[e];cases UD x.1 with|true=>simp only[ah,h0]|false=>simp only[af];exact DH k0 k1 K h0 l m d B E h1 hl hm n _ _ f (by omega) hk.1 (by omega) (by simp;omega) (by rw[hE,hk.2.2.1,hk.2.2.2.1,hk.2.2.2.2])
theorem Mf (l:aw aA)(m:ca)(d:Int)(r:lE)(hl:l.length<=10^9)(hm:m.length<=10^9):tF l m d r=some (df l m d r):=by
 have Bx:=ee;unfold tF df;simp only[vV,yb,ab];cases hb:cU r with|false=>rfl|true=>?_
 cases bH r==0 with|true=>rfl|false=>?_
 have hu:=wm hb;simp only[aj,af,ab,bQ];exact DH _ _ (λx=>some x) (λ_ _=>rfl) l m d _ _ (λ_ _=>rfl) hl hm _ [] r fuel (by omega) hb rfl (by simp;omega) rfl
def yi (x:Int×Int):Bool:=decide (x.1<0)|| !dm x.2 0 4096
def nv (l:aw (Int×Int)):Bool:= !l.any yi&&decide ((l.length:Int)<=16)
theorem VN (l:aw (Int×Int)):(bif l.any yi then some false else some (decide ((l.length:Int)<=16)))=some (nv l):=by unfold nv;cases l.any yi<;>rfl
theorem Kz (l:aw (Int×Int))(h:l.length<=10^9):qZ l=some (nv l):=by
 unfold qZ;rw[<-VN];refine I9 yi l (by omega) (λi hi nx=>?_) (λnx=>?_);simp only[qa];rw[kK,ah,bn hi,ab,de,ak];unfold yi;cases decide (l[i].1<0)with|true=>rfl|false=>simp only[af,ab,cE];rfl
 simp only[qa];rw[jj,af]
theorem G7 {l:aw (Int×Int)}(h:nv l=true):l.length<=16/\∀x∈l,0<=x.1/\0<=x.2/\x.2<=4096:=by unfold nv at h;simp only[ae,aB,aK]at h;refine⟨by omega,λx hx=>?_⟩;have:=List.any_eq_false.1 h.1 x hx;unfold yi at this;simp only[cC,aB,aK,not_or,Bool.not_eq_false,bh]at this;omega
def dsc (n:Nat)(c:Int)(i:Nat)(x:Int×Int):CS:=(1,(if i+1=n then 1 else 0),x.2,x.1,0,c)
def wO (ps:aw (Int×Int))(c:Int):Nat->aw CS
 |0=>[]
 |i+1=>wO ps c i++[dsc ps.length c i (ps.getD i (0,0))]
theorem zH (ps:aw (Int×Int))(c:Int):∀i,(wO ps c i).length=i
 |0=>rfl
 |i+1=>by rw[wO,ai,zH ps c i];rfl
theorem Gy (ps:aw (Int×Int))(c:Int)(q:CS->Bool):∀i,(wO ps c i).all q=(List.range i).all (λj=>q (dsc ps.length c j (ps.getD j (0,0))))
 |0=>rfl
 |i+1=>by rw[wO,List.all_append,Gy ps c q i,List.range_succ,List.all_append];rfl
def pt (ps:aw (Int×Int))(z c:Int):aw CS:=
 bif ((ps.length:Int)==0)||(!nv ps|| !dm z 1 128) then [] else
 bif ([(2,0,0,0,z,c)]++wO ps c ps.length).all sG then [(2,0,0,0,z,c)]++wO ps c ps.length else []
theorem AA (ps:aw (Int×Int))(z c:Int)(h:ps.length<=10^9:=by omega):∃b,iq ps z c=some (b,pt ps z c)/\(b=false->pt ps z c=[]):=by
 unfold iq pt;rw[Kz ps h,de];simp only[ab];cases ((ps.length:Int)==0)with|true=>exact⟨false,rfl,λ_=>rfl⟩|false=>?_
 cases nv ps with|false=>exact⟨false,rfl,λ_=>rfl⟩|true=>?_
 cases dm z 1 128 with|false=>exact⟨false,rfl,λ_=>rfl⟩|true=>?_
 simp only[aj,af,ab,bQ];refine⟨([(2,0,0,0,z,c)]++wO ps c ps.length).all sG,?_,λhb=>by rw[hb];rfl⟩;refine eo (λi=>(([(2,0,0,0,z,c)]++wO ps c i,(i:Int)):aw CS×Int)) ps.length (by omega) (λi nx hi=>?_) (λnx=>?_);have hl:=zH ps c i;simp only[jK];rw[kK,ah,bn hi,ab,ak (n:=(ps.length:Int)-1),ak];have e:[(2,0,0,0,z,c)]++wO ps c (i+1)=([(2,0,0,0,z,c)]++wO ps c i)++[dsc ps.length c i ps[i]]:=by rw[wO,cI hi,aP]
 rw[e];unfold dsc;by_cases hc:i+1=ps.length;rw[show((i:Int)==(ps.length:Int)-1)=true from by rw[aV];omega,aF hc];simp only[ah];rw[aS (by simp only[ai,bt];omega)];rfl;rw[show((i:Int)==(ps.length:Int)-1)=false from by rw[dk];omega,aH hc];simp only[af];rw[aS (by simp only[ai,bt];omega)];rfl;simp only[jK];rw[jj,af];have hl:=zH ps c ps.length;generalize hq:[(2,0,0,0,z,c)]++wO ps c ps.length=q;have hn:q.length<=1000000001:=by rw[<-hq];simp only[ai,bt];omega
 rw[oq (fin:=some (true,q)) (hit:=some (false,[])) sG q (by omega) (λi hi nx=>?_) (λnx=>?_)];cases q.all sG<;>rfl;simp only[jm];rw[kK,ah,bn hi,ab,Sf,ab,ak];rfl;simp only[jm];rw[jj,af]
def Lg (x y:CS):Bool:=(x.1==y.1)&&((x.2.1==y.2.1)&&((x.2.2.1==y.2.2.1)&&((x.2.2.2.1==y.2.2.2.1)&&((x.2.2.2.2.1==y.2.2.2.2.1)&&((x.2.2.2.2.2==y.2.2.2.2.2)&&true)))))
def Hh (a b:aw CS):Bool:=((a.length:Int)==(b.length:Int))&&(List.range a.length).all λi=>Lg (a.getD i Hx) (b.getD i Hx)
def kv (l:aw CS):aw (Int×Int):=(l.drop 1).map λx=>(x.2.2.2.1,x.2.2.1)
def fw (l:aw CS):aw (Int×Int)×Int×Int×Bool:=
 match l with
 |h::x::r=>bif Hh (pt (kv l) h.2.2.2.2.1 h.2.2.2.2.2) l then(kv l,h.2.2.2.2.1,h.2.2.2.2.2,true) else([],0,0,false)
 |_=>([],0,0,false)
theorem Yc (ps:aw (Int×Int))(z c:Int):(pt ps z c).length<=ps.length+1:=by
 unfold pt;cases ((ps.length:Int)==0)||(!nv ps|| !dm z 1 128)with|true=>simp|false=>?_
 cases ([(2,0,0,0,z,c)]++wO ps c ps.length).all sG with|false=>simp|true=>simp only[af,ah,ai,bt,zH];omega
theorem PG (l:aw CS)(hl:l.length<=10^9):nk l=some (fw l):=by
 unfold nk;match l,hl with
 |[],_=>rfl
 |[h],_=>rfl
 |h::y::r,hl=>
  generalize hq:y::r=q;have hq1:1<=q.length:=by rw[<-hq];simp
  have hlen:q.length+1<=10^9:=by rw[<-hq];simpa using hl
  have i0:idx (h::q) 0=some h:=rfl;have s0:sub (h::q) 1 (((h::q).length:Nat):Int)=some q:=uv (l:=h::q) 1 (by simp) (a:=1) rfl;rw[ar (by simp only[bB];omega),af,s0,ab];refine eo (λi=>(((q.take i).map (λx=>(x.2.2.2.1,x.2.2.1)),(i:Int)):aw (Int×Int)×Int)) q.length (by omega) (λi nx hi=>?_) (λnx=>?_);simp only[kC];rw[kK,ah,bn hi,ab,aS (by simp only[da,aZ,bt];omega),ak,bI hi,List.map_append];rfl;simp only[kC];rw[jj,af,dS];have hp:q.map (λx=>(x.2.2.2.1,x.2.2.1))=kv (h::q):=rfl;have C8:(kv (h::q)).length=q.length:=by rw[<-hp,da]
  rw[hp];have hdl:=Yc (kv (h::q)) h.2.2.2.2.1 h.2.2.2.2.2;obtain⟨b,hd,hb⟩:=AA (kv (h::q)) h.2.2.2.2.1 h.2.2.2.2.2;have hR:fw (h::q)=bif Hh (pt (kv (h::q)) h.2.2.2.2.1 h.2.2.2.2.2) (h::q) then(kv (h::q),h.2.2.2.2.1,h.2.2.2.2.2,true) else([],0,0,false):=by rw[<-hq];rfl
  rw[hR];simp only[i0,ab,hd];have hlc:(((h::q).length:Nat):Int)=(q.length:Int)+1:=by simp only[bB];omega
  generalize pt (kv (h::q)) h.2.2.2.2.1 h.2.2.2.2.2=w at hdl hb⊢
  have core:∀(K:ax (aw (Int×Int)×Int×Int×Bool))(w':aw CS),w'=w->(bif ((w'.length:Nat):Int) !=(((h::q).length:Nat):Int) then some (([]:aw (Int×Int)),(0:Int),(0:Int),false) else
   bc (gi (λDt=>some (kv (h::q),h.2.2.2.2.1,h.2.2.2.2.2,true)) (λDu Gn ES Dv Gp=>some (Du,Gn,ES,Dv)) (h::q) (kv (h::q)) h.2.2.2.2.1 h.2.2.2.2.2 w' ((w'.length:Nat):Int)) fuel 0)=some (bif Hh w (h::q) then(kv (h::q),h.2.2.2.2.1,h.2.2.2.2.2,true) else([],0,0,false)):=by
   intro K w' e
   subst e
   unfold Hh
   cases hl:((w'.length:Int)==(((h::q).length:Nat):Int))with
   |false=>simp only[bne,hl,bU,ah,eE,af]
   |true=>
    have hn:w'.length=(h::q).length:=by have:=bk hl;omega
    simp only[bne,hl,aj,af,bC]
    rw[ot (fin:=some (kv (h::q),h.2.2.2.2.1,h.2.2.2.2.2,true)) (hit:=some ([],0,0,false)) (λi=>Lg (w'.getD i Hx) ((h::q).getD i Hx)) w'.length (by omega) (λi nx hi=>?_) (λnx=>?_)]
    ·cases (List.range w'.length).all (λi=>Lg (w'.getD i Hx) ((h::q).getD i Hx))<;>rfl
    ·have hi2:i<(h::q).length:=by omega
     simp only[gi]
     rw[kK,ah,bn hi,bn hi2,ab,ab,ak,cI hi,cI hi2];rfl
    ·simp only[gi]
     rw[jj,af]
  cases b with|true=>exact core none w rfl|false=>exact core none [] (hb rfl).symm
theorem S3 {l:aw CS}(h:(fw l).2.2.2=true):nv (fw l).1=true/\∀p∈(fw l).1,p.1<=4294967295:=by match l,h with|hd::x::r,h=>unfold fw at h⊢;simp only at h⊢;cases hs:Hh (pt (kv (hd::x::r)) hd.2.2.2.2.1 hd.2.2.2.2.2) (hd::x::r)with|false=>rw[hs]at h;cases h|true=>simp only[ah];generalize hw:kv (hd::x::r)=ps at hs⊢;unfold Hh at hs;simp only[ae]at hs;have hn:=bk hs.1;unfold pt at hn;cases hc:((ps.length:Int)==0)||(!nv ps|| !dm hd.2.2.2.2.1 1 128)with|true=>rw[hc]at hn;simp at hn;omega|false=>rw[hc]at hn;cases ha:([(2,0,0,0,hd.2.2.2.2.1,hd.2.2.2.2.2)]++wO ps hd.2.2.2.2.2 ps.length).all sG with|false=>rw[ha]at hn;simp at hn;omega|true=>simp only[ch,dz]at hc;refine⟨hc.2.1,λp hp=>?_⟩;rw[List.all_append,Gy,ae]at ha;obtain⟨i,hi,rfl⟩:=eX hp;have:=aE.1 ha.2 i (bW.2 hi);rw[cI hi]at this;simp only[sG,dsc,ae,bh]at this;omega
theorem Gz (l:aw aA)(m:ca)(d a n:Int):(qL l m d a n).1.length<=33554432:=by have hL:=Hg l m d a n false;have h1:=tV m (kx l m d a n false).1;unfold qL;cases (kx l m d a n false).2 with|false=>simp|true=>simp only[ah];omega
def Au (l:aw aA)(m:ca)(d:Int):aw (Int×Int)->Bytes->Bytes×Bool
 |[],acc=>(acc,true)
 |p::ps,acc=>bif (qL l m d p.1 p.2).2 then Au l m d ps (acc++(qL l m d p.1 p.2).1) else([],false)
def lW (l:aw aA)(m:ca)(d:Int)(ps:aw (Int×Int)):Bytes×Bool:=bif nv ps then Au l m d ps [] else([],false)
def E8 (l:aw aA)(m:ca)(d:Int)(p:Int×Int)(s:Bytes):Except (ax (Bytes×Bool)) Bytes:=
 if(qL l m d p.1 p.2).2=true then .ok (s++(qL l m d p.1 p.2).1) else .error (some ([],false))
theorem J8 (l:aw aA)(m:ca)(d:Int):∀(ps:aw (Int×Int))(s:Bytes),P9 (E8 l m d) (λs=>some (s,true)) ps s=some (Au l m d ps s)
 |[],s=>rfl
 |p::ps,s=>by rw[P9,Au];unfold E8;cases hd:(qL l m d p.1 p.2).2 with|false=>rfl|true=>rw[aF rfl];exact J8 l m d ps _
theorem HD (l:aw aA)(m:ca)(d:Int):∀(ps:aw (Int×Int))(s:Bytes),(Au l m d ps s).1.length<=s.length+33554432*ps.length
 |[],s=>by simp[Au]
 |p::ps,s=>by have h1:=Gz l m d p.1 p.2;rw[Au];cases (qL l m d p.1 p.2).2 with|false=>simp|true=>have:=HD l m d ps (s++(qL l m d p.1 p.2).1);rw[ai]at this;simp only[ah,bB,Nat.mul_add];omega
theorem RJ (l:aw aA)(m:ca)(d:Int)(ps:aw (Int×Int)):(lW l m d ps).1.length<=10^9:=by unfold lW;cases hp:nv ps with|false=>simp|true=>have:=(G7 hp).1;have:=HD l m d ps [];simp only[eI]at this;simp only[ah];omega
theorem U5 (l:aw aA)(m:ca)(d:Int)(ps:aw (Int×Int))(hl:l.length<=10^9)(hm:m.length<=10^9)(hn:ps.length<=10^9)(ha:∀p∈ps,p.1<=9223372036854775807):oK l m d ps=some (lW l m d ps):=by
 unfold oK lW;rw[Kz ps hn,ab];cases hp:nv ps with|false=>rfl|true=>?_
 have h16:=(G7 hp).1;simp only[aj,af,ah];rw[<-J8];refine FX ps (λs i=>(s,(i:Int))) (λi s=>s.length<=33554432*i) (E8 l m d) _ (by omega) (λi hi s nx hI=>?_) (λi hi s s' hI he=>?_) (λs nx hI=>?_) [] (by simp);have h1:=Gz l m d ps[i].1 ps[i].2;simp only[lh];rw[kK,ah,bn hi,ab,yN l m d _ _ hl hm (ha _ (bm hi)),ab];unfold E8;cases hd:(qL l m d ps[i].1 ps[i].2).2 with|false=>rfl|true=>rw[aF rfl,aS,ak];rfl
 have h1:=Gz l m d ps[i].1 ps[i].2;unfold E8 at he;split at he;injection he with he;rw[<-he,ai];omega;cases he;simp only[lh];rw[jj,af]
def yx (t:Bytes):Int:=cj t ((dj t+2:Nat):Int)
def Mz (t:Bytes):Int:=MI ((t.take (dj t+20)).drop (dj t))
def V1 (t:Bytes):Bytes:=(t.take (dj t+(yx t).toNat)).drop (dj t+20)
def aeN (t:Bytes):Bytes:=uJ (fB t ((dj t+12:Nat):Int)) (fB t ((dj t+16:Nat):Int)) (jU t:Int) (yx t-20)
def Hp (t:Bytes):Int:=bif ((jU t:Int)==17)&&(MI (aeN t++V1 t)==0) then 65535 else MI (aeN t++V1 t)
def W5 (t s:Bytes):Bytes×Bool:=bif ((jE s).2==0)&&((jR (jE s).1).1==t) then dy (jE s).1 else([],false)
def wP (t:Bytes):Bytes×Bool:=W5 t (lr t (bS (Mz t)) (bS (Hp t)))
theorem IM {t:Bytes}(h:¬(TOk t/\cj t (zC t:Int)=0/\cj t (xy t:Int)=0)):wP t=([],false):=by
 have ha:Bo (lr t (bS (Mz t)) (bS (Hp t))) t:=DS t (bF _) (bF _);unfold wP W5;generalize lr t (bS (Mz t)) (bS (Hp t))=s at ha⊢;cases h1:(jE s).2==0 with|false=>rfl|true=>?_
 have LR:(jE s).2=0:=by simpa using h1
 cases h2:(jR (jE s).1).1==t with|false=>rfl|true=>?_
 have QB:(jR (jE s).1).1=t:=eq_of_beq h2;have ht:=ajV ha LR;exact absurd ⟨ht,aaF QB (La LR).2.2.1 ht⟩ h
theorem Gc (t:Bytes)(o n:Nat):(t.drop o).take n=(t.take (o+n)).drop o:=by rw[List.drop_take];congr 1;omega
theorem S8 {t:Bytes}(h1:dj t+20<=t.length)(h2:20<=yx t)(h3:yx t<=(t.length:Int))(h4:t.length<=10^9):xf (fB t ((dj t+12:Nat):Int)) (fB t ((dj t+16:Nat):Int)) (jU t:Int) (yx t-20)=true:=by have a1:=zK (s:=t) (a:=((dj t+12:Nat):Int));have a2:=zK (s:=t) (a:=((dj t+16:Nat):Int));have a3:=eC t (dj t+9);have a4:=Cb (s:=t) (a:=((dj t+2:Nat):Int));unfold xf;rw[bh.2 a1,bh.2 a2,bh.2 (show 0<=(jU t:Int)/\(jU t:Int)<=255 by unfold jU;omega),bh.2 (show 0<=yx t-20/\yx t-20<=65535 by unfold yx at*;omega)];rfl
theorem YO (t:Bytes)(hl:t.length<=10^9):vh t=some (wP t):=by
 have hp:=yj t
 have hk:=F7 (jU t)
 have US:jU t<256:=eC t (dj t+9)
 have Cd:=AR t
 unfold vh
 rw[Fs t hl,ab,uE _ _ (by omega),ab]
 cases h1:(fG t).2 with
 |false=>rw[IM λh=>by have:=h.1.eth;rw[h1]at this;cases this];rfl
 |true=>
 have he:=G6 h1
 rw[he.1]
 simp only[aj,af,ab]
 have en:cj (t.drop (dj t)) 2=yx t:=J9 (a:=2)
 rw[en]
 by_cases h4:yx t<20
 ·rw[au h4,IM λh=>by have:=h.1.n1;unfold yx at h4;omega];rfl
 rw[ar h4]
 simp only[af,ab]
 by_cases h5:yx t>((t.drop (dj t)).length:Int)
 ·rw[au h5,IM λh=>by have:=h.1.n2;unfold yx at h5;rw[aL]at h5;omega];rfl
 rw[ar h5]
 rw[aL]at h5
 have hdl:(t.drop (dj t)).length=t.length-dj t:=aL ..
 obtain⟨n,hn⟩:=aX (show 0<=yx t by omega)
 obtain⟨x,hx,ex⟩:=ld (s:=t.drop (dj t)) (i:=9)
 have hx9:idx (t.drop (dj t)) 9=some x:=hx
 have s1:sub (t.drop (dj t)) 0 20=some ((t.take (dj t+20)).drop (dj t)):=by rw[xx,<-Gc];rfl
 have s2:sub (t.drop (dj t)) 20 (yx t)=some (V1 t):=by rw[Qs (l:=t.drop (dj t)) 20 (a:=20) rfl,hn,az,Gc,eF];unfold V1;rw[hn];rfl
 have hps:=G9 (fB t ((dj t+12:Nat):Int)) (fB t ((dj t+16:Nat):Int)) (jU t:Int) (yx t-20)
 have abL:((V1 t).length:Int)=yx t-20:=by unfold V1;rw[aL,aZ,hn];omega
 have hk2:aq ((UInt8.toNat x:Int))=(jU t:Int):=by rw[ex,kW,gU (show bJ t (dj t+9)<9223372036854775808 by unfold jU at US;omega)];rfl
 have g12:fB (t.drop (dj t)) 12=fB t ((dj t+12:Nat):Int):=Ka (a:=12)
 have g16:fB (t.drop (dj t)) 16=fB t ((dj t+16:Nat):Int):=Ka (a:=16)
 have hw:aq ((Ls (jU t):Int)+2)=(Ls (jU t):Int)+2:=by rw[ak]
 simp only[af,ab,Fx t hl,s1,s2,hx9,xG _ _ (show(t.drop (dj t)).length<=10^9 by omega),hk2,KB,abL,g12,g16,S8 (show dj t+20<=t.length by omega) (show 20<=yx t by omega) (show yx t<=(t.length:Int) by omega) hl,ah,aj,GM _ US,hw]
 rw[show uJ (fB t ((dj t+12:Nat):Int)) (fB t ((dj t+16:Nat):Int)) (jU t:Int) (yx t-20)=aeN t from rfl]at hps⊢
 by_cases h6:(Ls (jU t):Int)+2>yx t-20
 ·rw[au h6,IM λh=>by have:=h.1.n1;unfold yx at h6;omega];rfl
 rw[ar h6]
 simp only[af]
 have hck:((t.take (dj t+20)).drop (dj t)).length<=10^9:=by rw[aL,aZ];omega
 rw[aS,IV _ (by rw[ai];omega),ab]
 have ph:∀y:Int,Hp t=y->(aa (iU ((t.take (dj t+20)).drop (dj t))) λr25=>aa (bZ r25) λr26=>aa (fC t (zC t:Int) r26) λZ8=>aa (bZ y) λr28=>aa (fC Z8 (xy t:Int) r28) λr29=>aa (ij r29) λXx=>aa (lH Xx.1) λZ9=>
  aa (bif Xx.2 !=0 then some true else bif !Z9.2 then some true else some (!(Z9.1==t))) λq32=>bif q32 then some (([]:Bytes),false) else aa (gJ Xx.1) λr33=>some r33)=some (wP t):=by
  intro y hy
  subst hy
  have b1:=bF (Mz t)
  have b2:=bF (Hp t)
  rw[IV _ hck,ab,show MI ((t.take (dj t+20)).drop (dj t))=Mz t from rfl]
  rw[kl,ab,AE t _ _ hl,ab,kl,ab,AE _ _ _ (by rw[wj];exact hl),ab]
  have hlen:=Cy t (bS (Mz t)) (bS (Hp t))
  unfold wP
  rw[show uK (uK t (zC t:Int) (bS (Mz t))) (xy t:Int) (bS (Hp t))=lr t (bS (Mz t)) (bS (Hp t)) from rfl]
  generalize lr t (bS (Mz t)) (bS (Hp t))=s at hlen⊢
  simp only[Dc s (by omega),ab,Nl,Db,W5,bne]
  cases h1:(jE s).2==0 with|false=>rfl|true=>?_
  have Xb:=(La (show(jE s).2=0 by simpa using h1)).2.2.1
  have h2:(jR (jE s).1).2=true:=by unfold jR;rw[Xb];rfl
  rw[h2]
  cases (jR (jE s).1).1==t<;>rfl
 cases h8:(jU t:Int)==17 with
 |false=>exact ph _ (by unfold Hp;rw[h8];rfl)
 |true=>
  simp only[ah,ab]
  cases h7:MI (aeN t++V1 t)==0 with
  |false=>exact ph _ (by unfold Hp;rw[h7,fA];rfl)
  |true=>exact ph _ (by unfold Hp;rw[h7,h8];rfl)
theorem Yj (t:Bytes):(wP t).1.length<=378:=by unfold wP W5;generalize lr t (bS (Mz t)) (bS (Hp t))=s;cases ((jE s).2==0)&&((jR (jE s).1).1==t)with|false=>exact bO _|true=>exact xF _
theorem Jk (l:aw aA)(m:ca)(d:Int):∀(n:Nat)(acc:aw CS)(r:lE),(sZ l m d n acc r).1.length<=acc.length+n
 |0,acc,r=>aU _
 |n+1,acc,r=>by
  rw[sZ];cases !(bl l m d r).2.2|| !(cP (bl l m d r).1).2 with|true=>exact bO _|false=>?_
  cases UD (cP (bl l m d r).1).1 with|true=>simp only[af,ah,ai,bt];omega|false=>have:=Jk l m d n (acc++[(cP (bl l m d r).1).1]) (bl l m d r).2.1;simp only[ai,bt]at this;simp only[af];omega
theorem VX (h:cU r=true):cU (r.1,r.2.1,r.2.2.2,r.2.2.2)=true/\bH (r.1,r.2.1,r.2.2.2,r.2.2.2)=0:=by
 have hr:=kF h;have hq:=h;simp only[cU,ae,aB]at hq;have hu:bH (r.1,r.2.1,r.2.2.2,r.2.2.2)=0:=by unfold bH;simp only[Int.sub_self,Int.zero_emod,ite_self]
 refine⟨?_,hu⟩;simp only[cU,ae,aB,bh,hu,hq.2.1,true_and];omega
theorem Hw (l:aw aA)(m:ca)(d:Int):∀(n:Nat)(acc:aw CS)(r:lE),cU r=true->(bH r).toNat=n->
 cU (sZ l m d n acc r).2.1=true/\bH (sZ l m d n acc r).2.1<=bH r/\(0<bH r->bH (sZ l m d n acc r).2.1<bH r)
 |0,acc,r,hb,hu=>⟨hb,dC _,λh=>by omega⟩
 |n+1,acc,r,hb,hu=>by have hk:=CK (l:=l) (m:=m) (d:=d) (r:=r);have he:=VX hb;rw[sZ];cases hc: !(bl l m d r).2.2|| !(cP (bl l m d r).1).2 with|true=>exact⟨he.1,by show bH (r.1,r.2.1,r.2.2.2,r.2.2.2)<=_;rw[he.2];omega,λ_=>by show bH (r.1,r.2.1,r.2.2.2,r.2.2.2)<_;rw[he.2];omega⟩|false=>simp only[ch,dz]at hc;have hk:=hk hc.1;cases UD (cP (bl l m d r).1).1 with|true=>exact⟨hk.1,by show bH (bl l m d r).2.1<=_;omega,λ_=>by show bH (bl l m d r).2.1<_;omega⟩|false=>have:=Hw l m d n (acc++[(cP (bl l m d r).1).1]) (bl l m d r).2.1 hk.1 (by omega);simp only[af];exact⟨this.1,by omega,λ_=>by omega⟩
def iC (l:aw aA)(m:ca)(d:Int)(r:lE):lE×ca×Int:=
 bif !cU r||(bH r==0) then(r,[],0) else
 bif !(df l m d r).2.2|| !(fw (df l m d r).1).2.2.2 then((df l m d r).2.1,[],2) else
 bif !(lW l m d (fw (df l m d r).1).1).2||(!(wP (lW l m d (fw (df l m d r).1).1).1).2||((jE (wP (lW l m d (fw (df l m d r).1).1).1).1).2 !=0)) then((df l m d r).2.1,[],2) else
 ((df l m d r).2.1,To (jE (wP (lW l m d (fw (df l m d r).1).1).1).1).1 (fw (df l m d r).1).2.1,1)
theorem U8 (l:aw aA)(m:ca)(d:Int)(r:lE)(hl:l.length<=10^9)(hm:m.length<=10^9):oS l m d r=some (iC l m d r):=by
 unfold oS iC;simp only[vV,yb,ab,Mf l m d r hl hm];cases hb:cU r with|false=>rfl|true=>?_
 cases bH r==0 with|true=>rfl|false=>?_
 have hu:=wm hb;have hcl:(df l m d r).1.length<=16:=by unfold df;cases !cU r||(bH r==0)with|true=>exact bO _|false=>have:=Jk l m d (bH r).toNat [] r;simp only[eI]at this;show(sZ l m d (bH r).toNat [] r).1.length<=16;omega
 simp only[aj,af,ab,bQ];generalize df l m d r=c at hcl⊢;cases c.2.2 with|false=>rfl|true=>?_
 simp only[aj,af,ab,cE,PG c.1 (show c.1.length<=10^9 by omega)];have hpo:=S3 (l:=c.1);generalize fw c.1=p at hpo⊢;cases hp:p.2.2.2 with|false=>rfl|true=>?_
 have hpo:=hpo hp;have h16:=(G7 hpo.1).1;have hg:=RJ l m d p.1;simp only[aj,af,ab,cE,U5 l m d p.1 hl hm (show p.1.length<=10^9 by omega) (λq hq=>Int.le_trans (hpo.2 q hq) (by omega))];generalize lW l m d p.1=g at hg⊢;cases g.2 with|false=>rfl|true=>?_
 have hf:=Yj g.1;simp only[aj,af,ab,cE,YO g.1 hg];generalize wP g.1=f at hf⊢;cases f.2 with|false=>rfl|true=>?_
 simp only[aj,af,ab,cE,Dc f.1 (show f.1.length<=10^9 by omega)];generalize jE f.1=i;cases i.2 !=0 with|true=>rfl|false=>?_
 simp only[af,ab2,ab]
theorem Nv (l:aw aA)(m:ca)(d:Int)(r:lE): ((iC l m d r).2.2=0->(iC l m d r).1=r)/\((iC l m d r).2.2≠0->0<bH r/\cU r=true/\cU (iC l m d r).1=true/\bH (iC l m d r).1<bH r)/\(iC l m d r).2.1.length<=320/\(∀x∈(iC l m d r).2.1,x.length<=382)/\((iC l m d r).2.2=0\/(iC l m d r).2.2=1\/(iC l m d r).2.2=2):=by
 unfold iC;cases hc: !cU r||(bH r==0)with
 |true=>exact⟨λ_=>rfl,λh=>absurd rfl h,bO _,(λx hx=>by cases hx),.inl rfl⟩
 |false=>
  simp only[ch,dz,dk]at hc;have hu:=wm hc.1;have hch:cU (df l m d r).2.1=true/\bH (df l m d r).2.1<bH r:=by have:=Hw l m d (bH r).toNat [] r hc.1 rfl;unfold df;rw[show(!cU r||(bH r==0))=false from by rw[hc.1];simpa using hc.2];exact⟨this.1,this.2.2 (by omega)⟩
  cases !(df l m d r).2.2|| !(fw (df l m d r).1).2.2.2 with|true=>exact⟨(λh=>by cases h),λ_=>⟨by omega,hc.1,hch⟩,bO _,(λx hx=>by cases hx),.inr (.inr rfl)⟩|false=>cases !(lW l m d (fw (df l m d r).1).1).2||(!(wP (lW l m d (fw (df l m d r).1).1).1).2||((jE (wP (lW l m d (fw (df l m d r).1).1).1).1).2 !=0))with|true=>exact⟨(λh=>by cases h),λ_=>⟨by omega,hc.1,hch⟩,bO _,(λx hx=>by cases hx),.inr (.inr rfl)⟩|false=>have hs:=aal (jE (wP (lW l m d (fw (df l m d r).1).1).1).1).1 (fw (df l m d r).1).2.1;exact⟨(λh=>by cases h),λ_=>⟨by omega,hc.1,hch⟩,hs.1,hs.2,.inr (.inl rfl)⟩
def pO (l:aw aA)(m:ca)(d:Int):Nat->ca->Nat->Nat->lE->lE×ca×Int×Int
 |0,fr,dn,bd,r=>(r,fr,(dn:Int),(bd:Int))
 |n+1,fr,dn,bd,r=>
  bif (iC l m d r).2.2==0 then(r,fr,(dn:Int),(bd:Int)) else
  bif (iC l m d r).2.2==1 then pO l m d n (fr++(iC l m d r).2.1) (dn+1) bd (iC l m d r).1 else
  pO l m d n (fr++(iC l m d r).2.1) dn (bd+1) (iC l m d r).1
def lN (l:aw aA)(m:ca)(d:Int)(r:lE):lE×ca×Int×Int:=pO l m d 17 [] 0 0 r
theorem Ep (l:aw aA)(m:ca)(d:Int)(hl:l.length<=10^9)(hm:m.length<=10^9):∀(n:Nat)(fr:ca)(dn bd:Nat)(r:lE)(f:Nat),n<f->(cU r=true->bH r<n)->0<n->fr.length+320*n<=10000->dn+bd+n<=1000->
 bc (md (λy2 y3 y4 _ _ _ _ y9=>some (y9,y2,y3,y4)) l d ([]:ca) 0 0 m (0,0,0,0)) f (fr,(dn:Int),(bd:Int),r)=some (pO l m d n fr dn bd r)
 |0,fr,dn,bd,r,f,_,_,h0,_,_=>by omega
 |n+1,fr,dn,bd,r,0,hf,_,_,_,_=>by omega
 |n+1,fr,dn,bd,r,f+1,hf,hr,_,jf,hc=>by have ok:=Nv l m d r;rw[bc,pO];simp only[md,U8 l m d r hl hm,ab];generalize iC l m d r=x at ok⊢;cases h0:x.2.2==0 with|true=>simp only[ah,ok.1 (by simpa using h0)]|false=>have hk:=ok.2.1 (by simpa using h0);have hu:=hr hk.2.1;have hu2:=(wm hk.2.2.1).1;simp only[af];cases x.2.2==1 with|true=>simp only[ah];rw[aS,ak];exact Ep l m d hl hm n _ (dn+1) bd _ f (by omega) (λ_=>by omega) (by omega) (by rw[ai];omega) (by omega)|false=>simp only[af];rw[aS,ak];exact Ep l m d hl hm n _ dn (bd+1) _ f (by omega) (λ_=>by omega) (by omega) (by rw[ai];omega) (by omega)
theorem Zh (l:aw aA)(m:ca)(d:Int)(r:lE)(hl:l.length<=10^9)(hm:m.length<=10^9):qj l m d r=some (lN l m d r):=by have Bx:=ee;unfold qj;exact Ep l m d hl hm 17 [] 0 0 r fuel (by omega) (λh=>by have:=(wm h).2;omega) (by omega) (by simp) (by omega)
theorem Dl (l:aw aA)(m:ca)(d:Int):∀(n:Nat)(fr:ca)(dn bd:Nat)(r:lE),(∀x∈fr,x.length<=382)->
 (pO l m d n fr dn bd r).2.1.length<=fr.length+320*n/\(∀x∈(pO l m d n fr dn bd r).2.1,x.length<=382)/\0<=(pO l m d n fr dn bd r).2.2.1/\(pO l m d n fr dn bd r).2.2.1<=(dn+n:Nat)/\0<=(pO l m d n fr dn bd r).2.2.2/\(pO l m d n fr dn bd r).2.2.2<=(bd+n:Nat)
 |0,fr,dn,bd,r,h=>⟨aU _,h,by show(0:Int)<=(dn:Int);omega,by show(dn:Int)<=_;omega,by show(0:Int)<=(bd:Int);omega,by show(bd:Int)<=_;omega⟩
 |n+1,fr,dn,bd,r,h=>by
  have ok:=Nv l m d r;rw[pO];generalize iC l m d r=x at ok⊢;have h2:∀y∈fr++x.2.1,y.length<=382:=λy hy=>by rcases ay.1 hy with g|g;exact h y g;exact ok.2.2.2.1 y g
  cases x.2.2==0 with|true=>exact⟨by show fr.length<=_;omega,h,by show(0:Int)<=(dn:Int);omega,by show(dn:Int)<=_;omega,by show(0:Int)<=(bd:Int);omega,by show(bd:Int)<=_;omega⟩|false=>cases x.2.2==1 with|true=>have i:=Dl l m d n (fr++x.2.1) (dn+1) bd x.1 h2;rw[ai]at i;simp only[af,ah];exact⟨by omega,i.2.1,i.2.2.1,by omega,i.2.2.2.2.1,by omega⟩|false=>have i:=Dl l m d n (fr++x.2.1) dn (bd+1) x.1 h2;rw[ai]at i;simp only[af,ah];exact⟨by omega,i.2.1,i.2.2.1,by omega,i.2.2.2.2.1,by omega⟩
def B0 (v:Vector):Bool:=bif decide (v.2.2.1>=1) then(bif decide (v.2.2.1>=v.1) then true else decide (v.2.2.2.1>=v.2.1)) else false
theorem aeX (v:Vector):zU v=some (B0 v):=by
 unfold zU B0;cases decide (v.2.2.1>=1)with|false=>rfl|true=>?_
 cases decide (v.2.2.1>=v.1)<;>rfl
theorem afI (v:Vector):sS v=some (B0 v):=by
 unfold sS B0;cases decide (v.2.2.1>=1)with|false=>rfl|true=>?_
 cases decide (v.2.2.1>=v.1)<;>rfl
def BP (v:Vector):Vector:=bif B0 v&& !v.2.2.2.2.1 then(v.1,v.2.1,v.2.2.1,v.2.2.2.1,v.2.2.2.2.1,true) else v
theorem GJ (v:Vector):ns v=some (BP v):=by
 unfold ns BP;rw[aeX,ab];cases B0 v with|false=>rfl|true=>?_
 cases v.2.2.2.2.1<;>rfl
def upM (n:Int):Int:=if 1000000<aq (n+1) then 1000000 else aq (n+1)
def evV (v:Vector):Vector:=bif ez v then BP (v.1,v.2.1,upM v.2.2.1,v.2.2.2) else v
theorem YI (v:Vector):vd v=some (evV v):=by unfold vd evV;rw[yc,ab,GJ,ab];cases ez v<;>rfl
def TN (v:Vector):Vector:=bif ez v then(bif decide (v.2.2.1>0) then BP (v.1,v.2.1,v.2.2.1,upM v.2.2.2.1,v.2.2.2.2) else BP v) else v
theorem Zg (v:Vector):rR v=some (TN v):=by
 unfold rR TN;simp only[yc,ab,GJ];cases ez v with|false=>rfl|true=>?_
 cases decide (v.2.2.1>0)<;>rfl
def BG (v:Vector):Vector×Bool:=bif ez v&&v.2.2.2.2.2 then((v.1,v.2.1,0,0,true,false),true) else(v,false)
theorem Zf (v:Vector):nr v=some (BG v):=by
 unfold nr BG;rw[yc,ab];cases ez v with|false=>rfl|true=>?_
 cases v.2.2.2.2.2<;>rfl
def Gi (v:Vector):Vector:=bif ez v then BP (v.1,v.2.1,v.2.2.1,v.2.2.2.1,false,v.2.2.2.2.2) else v
theorem KD (v:Vector):vX v=some (Gi v):=by unfold vX Gi;rw[yc,ab,GJ,ab];cases ez v<;>rfl
structure kg (k:Nat) (a b:Host):Prop where
 mem:b.1.length=a.1.length
 maps:b.2.1=a.2.1
 tx:b.2.2.1=a.2.2.1
 rx:b.2.2.2.1.length=a.2.2.2.1.length
 rxs:∀j,k<=j->b.2.2.2.1[j]?=a.2.2.2.1[j]?
 pl:b.2.2.2.2.1.length=a.2.2.2.2.1.length
 vec:b.2.2.2.2.2.1.length=a.2.2.2.2.2.1.length
 TS:∀j,k<=j->b.2.2.2.2.2.1[j]?=a.2.2.2.2.2.1[j]?
 VO:b.2.2.2.2.2.2.1.length=a.2.2.2.2.2.2.1.length
 IP:b.2.2.2.2.2.2.2.1=a.2.2.2.2.2.2.2.1
 Qm:b.2.2.2.2.2.2.2.2.1=a.2.2.2.2.2.2.2.2.1
theorem kg.refl (k:Nat)(a:Host):kg k a a:=⟨rfl,rfl,rfl,rfl,λ_ _=>rfl,rfl,rfl,λ_ _=>rfl,rfl,rfl,rfl⟩
theorem kg.trans {a b c:Host}(h:kg k a b)(g:kg k b c):kg k a c:=⟨g.mem.trans h.mem,g.maps.trans h.maps,g.tx.trans h.tx,g.rx.trans h.rx,λj hj=>(g.rxs j hj).trans (h.rxs j hj),g.pl.trans h.pl,g.vec.trans h.vec,λj hj=>(g.TS j hj).trans (h.TS j hj),g.VO.trans h.VO,g.IP.trans h.IP,g.Qm.trans h.Qm⟩
theorem kg.up {m:Nat}{a b:Host}(h:kg k a b)(hk:k<=m):kg m a b:=⟨h.mem,h.maps,h.tx,h.rx,λj hj=>h.rxs j (by omega),h.pl,h.vec,λj hj=>h.TS j (by omega),h.VO,h.IP,h.Qm⟩
def kP (g:Nat->Host->Host):Nat->Host->Host
 |0,h=>h
 |k+1,h=>g k (kP g k h)
theorem qE (hg:∀k h,kg (k+1) h (g k h))(h:Host):∀k,kg k h (kP g k h)
 |0=>kg.refl 0 h
 |k+1=>((qE hg h k).up (by omega)).trans (hg k _)
theorem Bf {d:Nat}(hn:1000<=n)(hg:∀k h m,1000<=m->cY m dJ h->cY (m+d) dJ (g k h))(z:cY n dJ h):∀k,cY (n+d*k) dJ (kP g k h)
 |0=>z
 |k+1=>(hg k _ _ (by omega) (Bf hn hg z k)).mono (by rw[Nat.mul_add];omega)
def wu (i:Nat)(h:Host):Host:=
 match h.2.2.2.2.2.1[i]? with
 |some v=>(h.1,h.2.1,h.2.2.1,h.2.2.2.1,h.2.2.2.2.1,h.2.2.2.2.2.1.set i (TN v),h.2.2.2.2.2.2)
 |none=>h
theorem Bk (i:Nat)(h:Host):kg (i+1) h (wu i h):=by unfold wu;cases h.2.2.2.2.2.1[i]? with|none=>exact kg.refl _ _|some v=>exact⟨rfl,rfl,rfl,rfl,λ_ _=>rfl,rfl,aC ..,λj hj=>aR (by omega),rfl,rfl,rfl⟩
theorem I5 {l:aw Vector}{v:Vector}(z:cY n (.sl fz) l):cY n (.sl fz) (l.set i v):=nR z ⟨cx,cx,cx,cx,cx,cx⟩
theorem aaJ (i:Nat)(h:Host)(n:Nat)(hn:1000<=n)(z:cY n dJ h):cY (n+0) dJ (wu i h):=by unfold wu;cases h.2.2.2.2.2.1[i]? with|none=>exact z|some v=>exact⟨z.1,z.2.1,z.2.2.1,z.2.2.2.1,z.2.2.2.2.1,I5 z.2.2.2.2.2.1,z.2.2.2.2.2.2⟩
def Aj (h:Host):Host:=bif dW h then kP wu h.2.2.2.2.2.1.length h else h
theorem aeg (hn:1000<=n)(z:cY n dJ h):cY n dJ (Aj h)/\(Aj h).2.2.1=h.2.2.1:=by unfold Aj;cases dW h with|false=>exact⟨z,rfl⟩|true=>exact⟨(Bf hn aaJ z _).mono,(qE Bk h _).tx⟩
theorem ab4 (h:Host)(k:I8 h)(z:cY 1000000000 dJ h):vo h=some (Aj h):=by
 have Bx:=ee;unfold vo Aj;rw[iT h z,ab,pz h k,ab];cases hb:dW h with|false=>rfl|true=>?_
 have hv:h.2.2.2.2.2.1.length<=10^9:=z.2.2.2.2.2.1.1;simp only[aj,af,ah];refine eo (λi=>((i:Int),kP wu i h)) h.2.2.2.2.2.1.length (by omega) (λi nx hi=>?_) (λnx=>?_);have kk:=qE Bk h i;have i1:i<(kP wu i h).2.2.2.2.2.1.length:=by rw[kk.vec];exact hi
 rw[show kP wu (i+1) h=wu i (kP wu i h) from rfl];generalize kP wu i h=s at i1⊢;simp only[pZ,wu];rw[kK,ah,al i1];simp only[bn i1,ab,Zg,az];rw[ak];rfl;simp only[pZ];rw[jj,af]
structure yy (n:Nat) (h:Host):Prop where
 z:cY n dJ h
 t:h.2.2.1.2.1.2.2.2.length+(bz h.2.2.1.2.2.1).length<=n
theorem yy.mono {m:Nat}(k:yy n h)(hn:n<=m:=by omega):yy m h:=⟨k.z.mono hn,bA k.t hn⟩
theorem yy.sz (k:yy n h)(hn:n<=10^9):I8 h:=by have z:cY 1000000000 dJ h:=k.z.mono hn;exact⟨z.1.1,z.2.1.1,z.2.2.1.2.2.1.1,bA k.t hn,z.2.2.2.2.2.2.2.1.2.2.1,z.2.2.2.2.2.2.2.2.1.1.1,z.2.2.2.2.2.2.2.2.1.2.1.1,z.2.2.2.2.2.2.2.2.1.2.2.2.1,λp hp=>(z.2.2.2.2.1.2 p hp).2.2.2.1⟩
theorem yy.of (k:T7 dJ h<=1048576):yy 1048576 h:=by
 refine⟨I3 k,?_⟩;have hb:=WE h.2.2.1.2.2.1;have h1:T7 kh h.2.2.1<=T7 dJ h:=by simp only[T7];omega
 have hp:h.2.2.1.2.1.2.2.2.length+T7 (.sl ia) h.2.2.1.2.2.1<=T7 kh h.2.2.1:=by simp only[T7];omega
 omega
def pw (p:cK):aw kI->cK
 |[]=>p
 |x::l=>pw (Ei p x.2.2).1 l
theorem GC:∀(l:aw kI)(p:cK),(pw p l).2.2.2.length<=p.2.2.2.length+(bz l).length
 |[],p=>by simp[pw]
 |x::l,p=>by have h1:=RL p x.2.2;have h2:=GC l (Ei p x.2.2).1;simp only[pw,bz,List.flatMap_cons,ai]at h2⊢;omega
theorem M4:∀(l:aw kI)(p:cK)(x:kI),pw p (l++[x])=(Ei (pw p l) x.2.2).1
 |[],p,x=>rfl
 |y::l,p,x=>by rw[List.cons_append,pw,pw,M4 l]
theorem QU (a b:aw kI):(bz (a++b)).length=(bz a).length+(bz b).length:=by simp only[bz,List.flatMap_append,ai]
theorem QV (l:aw kI)(n:Nat):(bz (l.take n)).length+(bz (l.drop n)).length=(bz l).length:=by rw[<-QU,cb]
def kR (t:dG)(n:Int):dG×cL:=
 bif LH t&&dm n 0 (t.2.2.1.length:Int) then((t.1,pw t.2.1 (t.2.2.1.take n.toNat),t.2.2.1.drop n.toNat,t.2.2.2),(t.2.2.1.take n.toNat).map (·.1)) else(t,[])
theorem afG {l:aw kI}(h:(bz l).length<=10^9):∀x∈l,x.2.2.length<=10^9:=by intro x hx;induction l with|nil=>cases hx|cons y l ih=>simp only[bz,List.flatMap_cons,ai]at h;rcases cm.1 hx with rfl|g;omega;exact ih (by simp only[bz];omega) g
theorem Pz (t:dG)(n:Int)(hw:t.2.2.1.length<=10^9)(hs:t.2.1.2.2.2.length+(bz t.2.2.1).length<=10^9):lf t n=some (kR t n):=by
 have hx:=afG (l:=t.2.2.1) (by omega);unfold lf kR;rw[En t ⟨by omega,hw,hx⟩,ab,Ve t hw hs];simp only[ab,de];cases LH t with|false=>rfl|true=>?_
 cases hn:dm n 0 (t.2.2.1.length:Int)with|false=>rfl|true=>?_
 have h:=bh.1 hn;obtain⟨n,rfl⟩:=aX h.1;have hl:n<=t.2.2.1.length:=by omega
 simp only[aj,af,ab,eU,ah,az];rw[xx,ab,az];have htl:(t.2.2.1.take n).length=n:=by rw[aZ];omega
 rw[htl];refine eo (λi=>(((t.2.2.1.take i).map (·.1),(i:Int),t.1,pw t.2.1 (t.2.2.1.take i),t.2.2):cL×Int×dG)) n (by omega) (λi nx hi=>?_) (λnx=>?_);have hi2:i<(t.2.2.1.take n).length:=by omega
 have hi3:i<t.2.2.1.length:=by omega
 have e1:(t.2.2.1.take n)[i]=t.2.2.1[i]:=List.getElem_take ..;have g1:=GC (t.2.2.1.take i) t.2.1;have g2:=QV t.2.2.1 (i+1);have g3:(bz (t.2.2.1.take (i+1))).length=(bz (t.2.2.1.take i)).length+t.2.2.1[i].2.2.length:=by rw[bI hi3,QU];simp[bz]
 simp only[jl];rw[kK,ah,bn hi2,e1,ab,Kx _ _ (by omega),ab,aS (by simp only[da,aZ,bt];omega),ak,bI hi3,M4,List.map_append];rfl;simp only[jl];rw[jj,af,uv (l:=t.2.2.1) n hl rfl,ab,Fm _ (by rw[aL];omega) (λx zt=>hx x (List.mem_of_mem_drop zt)),ab]
theorem ML (n:Int):∀l:aw kI,l.all (nz n)=true->(l.length:Int)<=dH l
 |[],_=>by simp[dH]
 |x::l,h=>by simp only[cc,ae]at h;have:=ML n l h.2;have hx:=h.1;unfold nz at hx;simp only[ae,bh]at hx;simp only[dH,cR,List.sum_cons,bB]at this⊢;omega
theorem EF (h:LH t=true):t.2.2.1.length<=16:=by unfold LH at h;simp only[ae,aB]at h;have h1:=ML _ _ h.2.2.2.1;have h2:=(kF h.1).2.2.1;have h3:=h.2.2.2.2.2;omega
theorem E0 (n:Int)(z:cY k kh t)(hs:t.2.1.2.2.2.length+(bz t.2.2.1).length<=k): cY k kh (kR t n).1/\(kR t n).1.2.1.2.2.2.length+(bz (kR t n).1.2.2.1).length<=k/\(kR t n).2.length<=16:=by unfold kR;cases h:LH t&&dm n 0 (t.2.2.1.length:Int)with|false=>exact⟨z,hs,bO _⟩|true=>simp only[ae]at h;have h16:=EF h.1;have g1:=GC (t.2.2.1.take n.toNat) t.2.1;have g2:=QV t.2.2.1 n.toNat;have hw:t.2.2.1.length<=k:=z.2.2.1.1;refine⟨⟨z.1,⟨cx,cx,cx,?_,λ_ _=>trivial⟩,⟨?_,λx hx=>z.2.2.1.2 x (List.mem_of_mem_drop hx)⟩,z.2.2.2⟩,?_,?_⟩;show(pw t.2.1 (t.2.2.1.take n.toNat)).2.2.2.length<=k;omega;show(t.2.2.1.drop n.toNat).length<=k;rw[aL];omega;show(pw t.2.1 (t.2.2.1.take n.toNat)).2.2.2.length+(bz (t.2.2.1.drop n.toNat)).length<=k;omega;show((t.2.2.1.take n.toNat).map (·.1)).length<=16;rw[da,aZ];omega
theorem GR {t:CT}{l q:aw t.D}(z:cY n (.sl t) l)(hq:∀y∈q,cY n t y)(hk:q.length<=k):cY (n+k) (.sl t) (l++q):=by refine⟨?_,λy hy=>?_⟩;show(l++q).length<=n+k;have:=z.1;rw[ai];omega;rcases ay.1 hy with h|h;exact(z.2 y h).mono;exact(hq y h).mono
def mW (h:Host):Host:=bif dW h then
    (h.1,h.2.1,(kR ((lN h.2.1 h.1 0 h.2.2.1.1).1,h.2.2.1.2) (if(h.2.2.1.2.2.1.length:Int)<aq ((lN h.2.1 h.1 0 h.2.2.1.1).2.2.1+(lN h.2.1 h.1 0 h.2.2.1.1).2.2.2) then(h.2.2.1.2.2.1.length:Int) else aq ((lN h.2.1 h.1 0 h.2.2.1.1).2.2.1+(lN h.2.1 h.1 0 h.2.2.1.1).2.2.2))).1,
      h.2.2.2.1,h.2.2.2.2.1,h.2.2.2.2.2.1,h.2.2.2.2.2.2.1,h.2.2.2.2.2.2.2.1,h.2.2.2.2.2.2.2.2.1,h.2.2.2.2.2.2.2.2.2.1,h.2.2.2.2.2.2.2.2.2.2.1,h.2.2.2.2.2.2.2.2.2.2.2.1++(lN h.2.1 h.1 0 h.2.2.1.1).2.1,
      h.2.2.2.2.2.2.2.2.2.2.2.2.1++(kR ((lN h.2.1 h.1 0 h.2.2.1.1).1,h.2.2.1.2) (if(h.2.2.1.2.2.1.length:Int)<aq ((lN h.2.1 h.1 0 h.2.2.1.1).2.2.1+(lN h.2.1 h.1 0 h.2.2.1.1).2.2.2) then(h.2.2.1.2.2.1.length:Int) else aq ((lN h.2.1 h.1 0 h.2.2.1.1).2.2.1+(lN h.2.1 h.1 0 h.2.2.1.1).2.2.2))).2,h.2.2.2.2.2.2.2.2.2.2.2.2.2) else h
theorem PK (h:Host)(k:yy 900000000 h):oO h=some (mW h):=by
 have z:cY 1000000000 dJ h:=k.z.mono;have hz:=k.sz (by omega);have hm:h.1.length<=900000000:=k.z.1.1;have hl:h.2.1.length<=900000000:=k.z.2.1.1;have hw:h.2.2.1.2.2.1.length<=900000000:=k.z.2.2.1.2.2.1.1;have hwi:h.2.2.2.2.2.2.2.2.2.2.2.1.length<=900000000:=k.z.2.2.2.2.2.2.2.2.2.2.2.1.1;have hco:h.2.2.2.2.2.2.2.2.2.2.2.2.1.length<=900000000:=k.z.2.2.2.2.2.2.2.2.2.2.2.2.1.1;have hA:=Dl h.2.1 h.1 0 17 [] 0 0 h.2.2.1.1 (λx hx=>by cases hx);unfold oO mW;rw[iT h z,ab,pz h hz,ab];cases dW h with|false=>rfl|true=>?_
 simp only[aj,af,ah,Zh h.2.1 h.1 0 _ (show h.2.1.length<=10^9 by omega) (show h.1.length<=10^9 by omega),ab];rw[show pO h.2.1 h.1 0 17 [] 0 0 h.2.2.1.1=lN h.2.1 h.1 0 h.2.2.1.1 from rfl]at hA;generalize lN h.2.1 h.1 0 h.2.2.1.1=x at hA⊢;simp only[eI]at hA;have hC:=E0 (k:=900000000) (t:=(x.1,h.2.2.1.2)) (if(h.2.2.1.2.2.1.length:Int)<aq (x.2.2.1+x.2.2.2) then(h.2.2.1.2.2.1.length:Int) else aq (x.2.2.1+x.2.2.2)) ⟨⟨cx,cx,cx,cx⟩,k.z.2.2.1.2⟩ k.t;rw[aS,Pz (x.1,h.2.2.1.2) _ (by show h.2.2.1.2.2.1.length<=_;omega) (bA k.t (by omega)),ab,aS]
theorem Qy (hn:400<=n)(k:yy n h):yy (n+5440) (mW h):=by
 have k':yy (n+5440) h:=k.mono;have hA:=Dl h.2.1 h.1 0 17 [] 0 0 h.2.2.1.1 (λx hx=>by cases hx);unfold mW;cases dW h with|false=>exact k'|true=>?_
 rw[show pO h.2.1 h.1 0 17 [] 0 0 h.2.2.1.1=lN h.2.1 h.1 0 h.2.2.1.1 from rfl]at hA;generalize lN h.2.1 h.1 0 h.2.2.1.1=x at hA⊢;simp only[eI]at hA;generalize (if(h.2.2.1.2.2.1.length:Int)<aq (x.2.2.1+x.2.2.2) then(h.2.2.1.2.2.1.length:Int) else aq (x.2.2.1+x.2.2.2))=q;have hC:=E0 (k:=n) (t:=(x.1,h.2.2.1.2)) q ⟨⟨cx,cx,cx,cx⟩,k.z.2.2.1.2⟩ k.t;have z:=k'.z;refine⟨⟨z.1,z.2.1,hC.1.mono,z.2.2.2.1,z.2.2.2.2.1,z.2.2.2.2.2.1,z.2.2.2.2.2.2.1,z.2.2.2.2.2.2.2.1,z.2.2.2.2.2.2.2.2.1,z.2.2.2.2.2.2.2.2.2.1,cx,?_,?_,z.2.2.2.2.2.2.2.2.2.2.2.2.2⟩,bA hC.2.1 (by omega)⟩;exact GR (t:=.str) (n:=n) (k:=5440) k.z.2.2.2.2.2.2.2.2.2.2.2.1 (λy hy=>by show y.length<=_;have:=hA.2.1 y hy;omega) (by omega);exact(GR (t:=.int .i64) (n:=n) (k:=16) k.z.2.2.2.2.2.2.2.2.2.2.2.2.1 (λ_ _=>trivial) hC.2.2).mono
def vU (l:aw aA)(d:Int)(p:cK)(z:Nat):cL->Bytes->ca->aw gv->ax (aw gv×ca)
 |[],_,m,a=>some (a,m)
 |b::q,s,m,a=>bif (gZ l m d (nJ p b) (s.take z) false).2 then vU l d p z q (s.drop z) (gZ l m d (nJ p b) (s.take z) false).1 (a++[(nJ p b,((s.take z).length:Int))]) else none
theorem E6 (l:aw aA)(d:Int)(p:cK)(z:Nat):∀(q:cL)(s:Bytes)(m:ca)(a:aw gv){x},vU l d p z q s m a=some x->
 x.2.length=m.length/\x.1.length=a.length+q.length/\∀y∈x.1,y∈a\/((∃b∈q,y.1=nJ p b)/\0<=y.2/\y.2<=(z:Int))
 |[],s,m,a,x,h=>by cases h;exact⟨rfl,rfl,λy hy=>Or.inl hy⟩
 |b::q,s,m,a,x,h=>by rw[vU]at h;cases hq:(gZ l m d (nJ p b) (s.take z) false).2 with|false=>rw[hq]at h;cases h|true=>rw[hq]at h;obtain⟨h1,h2,h3⟩:=E6 l d p z q _ _ _ h;rw[jC]at h1;rw[ai,bt]at h2;refine⟨h1,by rw[bB];omega,λy hy=>?_⟩;rcases h3 y hy with g|⟨⟨b',gM,g⟩,g2⟩;rcases ay.1 g with g|g;exact Or.inl g;rw[cn.1 g];refine Or.inr ⟨⟨b,List.mem_cons_self ..,rfl⟩,?_,?_⟩;show(0:Int)<=((s.take z).length:Int);omega;show((s.take z).length:Int)<=(z:Int);rw[aZ];omega;exact Or.inr ⟨⟨b',eO _ gM,g⟩,g2⟩
theorem Oe (p:cK)(i:Int): -1<=nJ p i/\nJ p i<=139136:=by unfold nJ;cases hb: !dx p|| !dm i 0 (p.2.2.1-1)with|true=>exact⟨dC _,show(-1:Int)<=139136 by omega⟩|false=>simp only[ch,dz]at hb;have h:=xe hb.1;have h2:=bh.1 hb.2;have h3:0<=i*p.2.1:=Int.mul_nonneg h2.1 (by omega);have h4:i*p.2.1<=16*512:=Int.mul_le_mul (by omega) (by omega) (by omega) (by omega);simp only[af];omega
theorem aa4 {p:cK}(hp:dx p=true)(hb:b∈p.2.2.2):0<=nJ p b:=by obtain⟨i,hi,rfl⟩:=eX hb;have hq:=hp;simp only[dx,ae]at hq;have:=aE.1 hq.2.2.2 i (bW.2 hi);simp only[B9,ae,cI hi]at this;have hn:=this.1;have h:=xe hp;have h2:=bh.1 hn;have h3:0<=p.2.2.2[i]*p.2.1:=Int.mul_nonneg h2.1 (by omega);unfold nJ;rw[hp,hn];show 0<=p.1+p.2.2.2[i]*p.2.1;omega
theorem TL (s:Bytes)(z:Nat):sub s 0 (if(s.length:Int)<(z:Int) then(s.length:Int) else(z:Int))=some (s.take z):=by by_cases h:(s.length:Int)<(z:Int);rw[aF h,xx,az,dS,bN (by omega)];rw[aH h,xx,az]
theorem Ro (s:Bytes)(z:Nat):sub s ((s.take z).length:Int) (s.length:Int)=some (s.drop z):=by rw[TH _ _ (by rw[aZ];omega),aZ];by_cases h:z<=s.length;rw[gL h];rw[Nat.min_eq_right (by omega),List.drop_length,List.drop_eq_nil_of_le (by omega)]
def aaP:ax (aw gv×ca)->ax (Bool×ca×aw gv×Bool)->Prop
 |some x,r=>r=some (true,x.2,x.1,true)
 |none,r=>∃c m,r=some (c,m,[],false)
theorem DJ (l:aw aA)(d:Int)(p:cK)(z:Nat)(B:ca)(hp:p.2.2.2.length<=10^9)(hl:l.length<=10^9):∀(rest pre:cL)(s:Bytes)(m:ca)(a:aw gv)(f:Nat),rest.length<f->(pre++rest).length<=1000000->a.length+rest.length<=1000000->m.length<=10^9->
 aaP (vU l d p z rest s m a) (bc (jA (λ_ Dv _ Io=>some (true,Io,Dv,true)) (λ_ N0 Wv _ _ _ y23=>some (true,y23,N0,Wv)) l d (z:Int) ([]:aw gv) false (pre++rest) ((pre++rest).length:Int) p B) f (s,a,(pre.length:Int),m))
 |rest,pre,s,m,a,0,hf,_,_,_=>by omega
 |[],pre,s,m,a,f+1,_,_,_,_=>by rw[bc];simp only[jA];rw[ar (by simp),af];rfl
 |b::q,pre,s,m,a,f+1,hf,hn,ha,hm=>by
  simp only[bB,ai]at hf hn ha;have hi:pre.length<(pre++b::q).length:=by simp
  have hb:(pre++b::q)[pre.length]=b:=by simp
  have hA:=Oe p b;rw[bc];simp only[jA];rw[au (by simp;omega),bn hi,hb];simp only[ah,ab,TL,Ro,Fl p b hp,zu l m d (nJ p b) (s.take z) hl hm];rw[vU];cases hq:(gZ l m d (nJ p b) (s.take z) false).2 with
  |false=>exact⟨_,_,rfl⟩
  |true=>
   simp only[aj,af,ah];rw[ak (n:=(pre.length:Int)+1),aS (by simp only[bt];omega)];have key:=DJ l d p z B hp hl q (pre++[b]) (s.drop z) (gZ l m d (nJ p b) (s.take z) false).1 (a++[(nJ p b,((s.take z).length:Int))]) f (by omega) (by simp;omega) (by simp;omega) (by rw[jC];exact hm);have el:((pre++[b]).length:Int)=(pre.length:Int)+1:=by simp
   rw[aP,List.singleton_append,el]at key;exact key
theorem YN (l:aw aA)(m:ca)(d:Int)(p:cK)(q:cL)(s:Bytes)(z:Nat)(hp:p.2.2.2.length<=10^9)(hl:l.length<=10^9)(hm:m.length<=10^9)(hq:q.length<=1000)(h0:0<q.length): aaP (vU l d p z q s m []) (mF l m d p q s (z:Int)):=by have Bx:=ee;cases q with|nil=>cases h0|cons b q=>simp only[bB]at hq;have hA:=Oe p b;have hi:idx (b::q) 0=some b:=rfl;unfold mF;rw[au (by simp),ah,hi];simp only[ab,TL,Ro,Fl p b hp,zu l m d (nJ p b) (s.take z) hl hm];rw[vU];cases hq':(gZ l m d (nJ p b) (s.take z) false).2 with|false=>exact⟨_,_,rfl⟩|true=>simp only[aj,af,ah];rw[aS (by simp),show aq (0+1)=1 from rfl];exact DJ l d p z _ hp hl q [b] (s.drop z) (gZ l m d (nJ p b) (s.take z) false).1 [(nJ p b,((s.take z).length:Int))] fuel (by omega) (by simp;omega) (by simp;omega) (by rw[jC];exact hm)
theorem aba {ps:aw gv}{z:Int}(h0:0<ps.length)(h16:ps.length<=16)(hp:∀x∈ps,0<=x.1/\x.1<=200000/\0<=x.2/\x.2<=4096)(hz:dm z 1 128=true)(hc:dm c 0 65535=true):(pt ps z c).length=ps.length+1:=by
 have hz2:=bh.1 hz;have UP:=bh.1 hc;have e1:nv ps=true:=by unfold nv;rw[ae,aK,aB];refine⟨List.any_eq_false.2 λx hx=>?_,by omega⟩;have:=hp x hx;unfold yi;rw[jj,cE,aK,Bool.eq_false_iff];intro h;exact h (bh.2 (by omega))
 have e2:([((2:Int),(0:Int),(0:Int),(0:Int),z,c)]++wO ps c ps.length).all sG=true:=by rw[List.all_append,ae];constructor;simp only[cc,List.all_nil,dR,sG,ae,bh];omega;rw[Gy];refine aE.2 λj hj=>?_;have hj:=bW.1 hj;have:=hp _ (bm hj);simp only[dsc,cI hj,sG,ae,bh];refine⟨by omega,?_,by omega,by omega,by omega,by omega⟩;by_cases hq:j+1=ps.length;rw[aF hq];omega;rw[aH hq];omega
 unfold pt;rw[e1,hz,e2,show((ps.length:Int)==0)=false from by rw[dk];omega];simp only[aj,bQ,af,ah,ai,bt,zH];omega
theorem Sg (K:ca->Int->ax R)(l:aw aA)(d:Int)(q:cL)(ds ds2:aw oB)(t1 t2 t3 t4:dG)(m1 m2 m3:ca)(h:ds.length<=1000): bc (fN K l d q ds2 ds (ds.length:Int) t1 m1 t2 m2 t3 t4 m3) fuel (([]:ca),0)=K (ds.map wT) (ds.length:Int):=by
 have Bx:=ee;refine eo (λi=>((ds.take i).map wT,(i:Int))) ds.length (by omega) (λi nx hi=>?_) (λnx=>?_);have e:((ds.take i).map wT).length<=1000:=by simp;omega
 rw[bI hi,List.map_append];simp only[fN];rw[kK,ah,bn hi,ab,PB,ab,aS (by simp only[bt];omega),ak];rfl;simp only[fN];rw[jj,af,dS]
def xO (p:aO)(z:Nat):Nat:=((jR p).1.length+z-1)/z
def Lk (l:aw aA)(m:ca)(d:Int)(t:dG)(c:Int)(n:Nat)(x:aw gv×ca):ca×dG×Bool:=
 bif (tS l x.2 d t.1 ((pt x.1 c t.2.2.2).map wT)).2.2 then
  ((tS l x.2 d t.1 ((pt x.1 c t.2.2.2).map wT)).1,((tS l x.2 d t.1 ((pt x.1 c t.2.2.2).map wT)).2.1,(jV t.2.1 (n:Int)).1,t.2.2.1++[(t.2.2.2,(n:Int)+1,(jV t.2.1 (n:Int)).2.1)],tmod (t.2.2.2+1) 65536),true)
 else(m,t,false)
def HA (t:dG)(n:Nat):Bool:=(jV t.2.1 (n:Int)).2.2&&(!decide ((n:Int)>16)&&(!decide ((n:Int)+1>nK t.1)&& !decide (dH t.2.2.1+(n:Int)+1>t.1.2.1)))
def uM (l:aw aA)(m:ca)(d:Int)(t:dG)(p:aO)(c z:Int):ca×dG×Bool:=
 bif LH t&&(dw p&&(dm z 1 t.2.1.2.1&&dm c 1 128)) then
  bif HA t (xO p z.toNat) then
   match vU l d t.2.1 z.toNat (jV t.2.1 (xO p z.toNat:Int)).2.1 (jR p).1 m []with
   |some x=>Lk l m d t c (xO p z.toNat) x
   |none=>(m,t,false)
  else(m,t,false)
 else(m,t,false)
theorem Wo (h:dw p=true):0<(jR p).1.length/\(jR p).1.length<=378:=by have hl:=xF p;have hs:=Sa h;unfold jR;rw[h];show 0<(lr (dy p).1 (bS 0) (bS 0)).length/\(lr (dy p).1 (bS 0) (bS 0)).length<=378;rw[Cy];omega
theorem ahl (len z:Nat)(h:len<=1000)(hz:z<=1000)(h0:0<z):aq (Int.tdiv (aq (aq ((len:Int)+(z:Int))-1)) (z:Int))=(((len+z-1)/z:Nat):Int):=by have hd:(len+z-1)/z<=len+z-1:=Nat.div_le_self ..;rw[ak (n:=(len:Int)+(z:Int)),ak (n:=(len:Int)+(z:Int)-1),show(len:Int)+(z:Int)-1=((len+z-1:Nat):Int) by omega,show Int.tdiv ((len+z-1:Nat):Int) (z:Int)=(((len+z-1)/z:Nat):Int) from rfl];generalize (len+z-1)/z=N at hd⊢;rw[ak]
theorem TJ {p:cK}(h:(jV p (n:Int)).2.2=true):dx p=true/\n<=p.2.2.2.length/\(jV p (n:Int)).2.1=p.2.2.2.take n:=by unfold jV at h⊢;cases hq:dx p&&dm (n:Int) 0 (p.2.2.2.length:Int)with|false=>rw[hq]at h;cases h|true=>simp only[ae,bh]at hq;exact⟨hq.1,by omega,rfl⟩
theorem Yk {z:Nat}{x:aw gv×ca}(ht:LH t=true)(hz:z<=512)(hc:dm c 1 128=true)(h0:0<n)(h16:n<=16)(hk:(jV t.2.1 (n:Int)).2.2=true)(hx:vU l d t.2.1 z (jV t.2.1 (n:Int)).2.1 s m []=some x):x.2.length=m.length/\(pt x.1 c t.2.2.2).length=n+1:=by
 obtain⟨hp,hn,hb⟩:=TJ hk;rw[hb]at hx;obtain⟨h1,h2,h3⟩:=E6 l d t.2.1 z _ _ _ _ hx;simp only[eI,aZ,cp]at h2;have e:x.1.length=n:=by omega
 refine⟨h1,?_⟩;rw[aba (by omega) (by omega) (λy hy=>?_) hc (by simp only[LH,ae]at ht;exact ht.2.2.1),e];rcases h3 y hy with g|⟨⟨b,gM,g⟩,g2⟩;cases g;have q1:=aa4 hp (List.mem_of_mem_take gM);have q2:=Oe t.2.1 b;rw[g];omega
theorem YY (l:aw aA)(m:ca)(d:Int)(t:dG)(p:aO)(c z:Int)(hl:l.length<=10^9)(hm:m.length<=10^9)(ht:aes t)(h1:t.2.2.1.length<=10^9)(h2:t.2.1.2.2.2.length+(bz t.2.2.1).length<=10^9):rP l m d t p c z=some (uM l m d t p c z):=by
 have Bx:=ee;unfold rP uM;rw[fJ m,ab,En t ht,ab,Ve t h1 h2,ab,ov,de,de];simp only[ab];cases hb:LH t with|false=>rfl|true=>?_
 cases hp:dw p with|false=>rfl|true=>?_
 cases hz:dm z 1 t.2.1.2.1 with|false=>rfl|true=>?_
 cases hc:dm c 1 128 with|false=>rfl|true=>?_
 have hT:=Wo hp;have hz2:=bh.1 hz;have hq:=hb;simp only[LH,ae]at hq;have C8:=xe hq.2.1;have h16:=EF hb;have T4:=kF hq.1;have hnx:=bh.1 hq.2.2.1;obtain⟨z,rfl⟩:=aX (by omega:0<=z);have hzn:¬(z:Int)=0:=by omega
 have hS:∀x∈t.2.2.1,0<=x.2.1/\x.2.1<=16:=λx hx=>by have:=aE.1 hq.2.2.2.1 x hx;simp only[nz,ae,bh]at this;omega
 have hcb:=BQ _ hS;have hN:xO p z<=1000:=by have:xO p z<=(jR p).1.length+z-1:=Nat.div_le_self ..;omega
 have hN0:0<xO p z:=Nat.div_pos (by omega) (by omega);have hce:=ahl (jR p).1.length z (by omega) (by omega) (by omega);rw[show((jR p).1.length+z-1)/z=xO p z from rfl]at hce;simp only[aj,af,ab,eU,ah,az,Nl,aH hzn,hce,Ze _ _ (show t.2.1.2.2.2.length<=10^9 by omega),Nc,Za t (by omega) hS,HA];rw[ak (n:=(xO p z:Int)+1),ak (n:=dH t.2.2.1+(xO p z:Int)),ak (n:=dH t.2.2.1+(xO p z:Int)+1)];by_cases g1:(xO p z:Int)>16;rw[au g1];simp only[ah,ab,aj,eE,fA,af];rw[ar g1];simp only[bU,af,bC];cases decide ((xO p z:Int)+1>nK t.1)with|true=>simp only[ah,ab,aj,eE,fA,af]|false=> ?_
 simp only[bU,af,bC,ab];cases decide (dH t.2.2.1+(xO p z:Int)+1>t.1.2.1)with|true=>simp only[ah,ab,aj,eE,fA,af]|false=> ?_
 simp only[bU,af,dR,ab];cases hk:(jV t.2.1 (xO p z:Int)).2.2 with|false=>rfl|true=>?_
 simp only[aj,af,ah,fJ m (show m.length<=1073741824 by omega),ab];obtain⟨_,hkn,US⟩:=TJ hk;have hkl:(jV t.2.1 (xO p z:Int)).2.1.length=xO p z:=by rw[US,aZ];omega
 have key:=YN l m d t.2.1 (jV t.2.1 (xO p z:Int)).2.1 (jR p).1 z (by omega) hl hm (by omega) (by omega);cases hx:vU l d t.2.1 z (jV t.2.1 (xO p z:Int)).2.1 (jR p).1 m []with
 |none=>rw[hx]at key;obtain⟨a,b,e⟩:=key;obtain⟨f,g,_⟩:=AA [] c t.2.2.2 (by simp);rw[e,ab];simp only[g,ab];cases a<;>cases f<;>rfl
 |some x=>
  rw[hx]at key;have key:mF _ _ _ _ _ _ _=_:=key;obtain⟨x1,x2⟩:=Yk hb (by omega) hc hN0 (by omega) hk hx;obtain⟨_,x3,_⟩:=E6 l d t.2.1 z _ _ _ _ hx;simp only[eI]at x3;obtain⟨f,g,hf⟩:=AA x.1 c t.2.2.2;have hft:f=true:=by cases f with|true=>rfl|false=>have:=hf rfl;rw[this]at x2;cases x2
  subst hft;simp only[key,g,ab,ah,aj,af,aH (show¬(pt x.1 c t.2.2.2).length=0 by omega),Lk];rw[Sg _ _ _ _ _ _ _ _ _ _ _ _ _ (by omega)];simp only[U9 l x.2 d t.1 _ hl (by omega) (show((pt x.1 c t.2.2.2).map wT).length<=10^9 by rw[da];omega),ab];cases (tS l x.2 d t.1 ((pt x.1 c t.2.2.2).map wT)).2.2 with|false=>rfl|true=>simp only[aj,af,ab,ah];rw[aS (by simp only[bt];omega),lR,ak,x2];rfl
def Qn (g:Nat->Host->Host):Nat->Host->Host
 |0,h=>h
 |k+1,h=>g k (Qn g k h)
structure Bp (a b:Host):Prop where
 maps:b.2.1=a.2.1
 tx:b.2.2.1=a.2.2.1
 rx:b.2.2.2.1.length=a.2.2.2.1.length
 pl:b.2.2.2.2.1.length=a.2.2.2.2.1.length
 vec:b.2.2.2.2.2.1=a.2.2.2.2.2.1
 VO:b.2.2.2.2.2.2.1=a.2.2.2.2.2.2.1
 ret:b.2.2.2.2.2.2.2.2.2.2.2.2.2.1=a.2.2.2.2.2.2.2.2.2.2.2.2.2.1
theorem Bp.refl (a:Host):Bp a a:=⟨rfl,rfl,rfl,rfl,rfl,rfl,rfl⟩
theorem Bp.trans {a b c:Host}(h:Bp a b)(k:Bp b c):Bp a c:=⟨k.1.trans h.1,k.2.trans h.2,k.3.trans h.3,k.4.trans h.4,k.5.trans h.5,k.6.trans h.6,k.7.trans h.7⟩
theorem S4 (h:Host)(i:Nat)(c:Int):Bp h (yk h i c).2:=by
 unfold yk;cases h1:h.2.2.2.1[i]? with|none=>exact Bp.refl h|some rx=>?_
 cases h2:h.2.2.2.2.1[i]? with|none=>exact Bp.refl h|some pl=>?_
 exact⟨rfl,rfl,aC ..,aC ..,rfl,rfl,rfl⟩
def tR (h:Host)(k:Nat):Host:=Qn (λi s=>(yk s i 1000).2) k h
theorem AU (hn:128<=n)(z:cY n dJ h):∀k,Bp h (tR h k)/\cY (n+322000*k) dJ (tR h k)
 |0=>⟨Bp.refl h,z⟩
 |k+1=>by have i:=AU hn z k;exact⟨i.1.trans (S4 ..),(VP (by omega) k 1000 i.2).mono⟩
def acK (h:Host)(l:cL):Host:=(h.1,h.2.1,h.2.2.1,h.2.2.2.1,h.2.2.2.2.1,h.2.2.2.2.2.1,h.2.2.2.2.2.2.1,h.2.2.2.2.2.2.2.1,h.2.2.2.2.2.2.2.2.1,h.2.2.2.2.2.2.2.2.2.1,h.2.2.2.2.2.2.2.2.2.2.1,h.2.2.2.2.2.2.2.2.2.2.2.1,h.2.2.2.2.2.2.2.2.2.2.2.2.1,h.2.2.2.2.2.2.2.2.2.2.2.2.2.1++l,h.2.2.2.2.2.2.2.2.2.2.2.2.2.2)
def XT (h:Host):Host:=(h.1,h.2.1,(D2.1,D2.2.1,D2.2.2.1,h.2.2.1.2.2.2),h.2.2.2)
def DP (h:Host)(i:Nat)(dr:Int):Host:=
 ((sN h.2.1 h.1 i).1,h.2.1,h.2.2.1,h.2.2.2.1.set i ((sN h.2.1 h.1 i).2.1,(H0 i).2.1,(H0 i).2.2.1,(H0 i).2.2.2.1,(H0 i).2.2.2.2.1,dr),h.2.2.2.2.1.set i (sN h.2.1 h.1 i).2.2.1,h.2.2.2.2.2)
def Dx (x:bT):Int:=bif x.2.2.2.2.1 then aq (x.2.2.2.2.2+x.2.2.2.1.2.2) else x.2.2.2.2.2
def ym (i:Nat)(h:Host):Host:=
 match h.2.2.2.1[i]?,h.2.2.2.2.2.1[i]? with
 |some x,some v=>((DP h i (Dx x)).1,h.2.1,h.2.2.1,(DP h i (Dx x)).2.2.2.1,(DP h i (Dx x)).2.2.2.2.1,h.2.2.2.2.2.1.set i (v.1,v.2.1,0,0,false,false),h.2.2.2.2.2.2.1.set i false,h.2.2.2.2.2.2.2)
 |_,_=>h
structure af1 (k:Nat) (a b:Host):Prop where
 mem:b.1.length=a.1.length
 maps:b.2.1=a.2.1
 rx:b.2.2.2.1.length=a.2.2.2.1.length
 pl:b.2.2.2.2.1.length=a.2.2.2.2.1.length
 vec:b.2.2.2.2.2.1.length=a.2.2.2.2.2.1.length
 TS:∀j,k<=j->b.2.2.2.2.2.1[j]?=a.2.2.2.2.2.1[j]?
 VO:b.2.2.2.2.2.2.1.length=a.2.2.2.2.2.2.1.length
theorem Nw (l:aw aA)(m:ca)(i:Nat):(sN l m i).1.length=m.length:=by unfold sN;rw[W4,jC]
theorem Tg (i:Nat)(h:Host):af1 (i+1) h (ym i h):=by
 unfold ym;cases h1:h.2.2.2.1[i]? with|none=>exact⟨rfl,rfl,rfl,rfl,rfl,λ_ _=>rfl,rfl⟩|some x=>?_
 cases h2:h.2.2.2.2.2.1[i]? with|none=>exact⟨rfl,rfl,rfl,rfl,rfl,λ_ _=>rfl,rfl⟩|some v=>?_
 have e1:(DP h i (Dx x)).1.length=h.1.length:=Nw h.2.1 h.1 i;exact⟨e1,rfl,aC ..,aC ..,aC ..,λj hj=>aR (by omega),aC ..⟩
def il (h:Host)(k:Nat):Host:=Qn ym k h
theorem vC (h:Host):∀k,af1 k h (il h k)
 |0=>⟨rfl,rfl,rfl,rfl,rfl,λ_ _=>rfl,rfl⟩
 |k+1=>by have a:=vC h k;have b:=Tg k (il h k);exact⟨b.mem.trans a.mem,b.maps.trans a.maps,b.rx.trans a.rx,b.pl.trans a.pl,b.vec.trans a.vec,λj hj=>(b.TS j hj).trans (a.TS j (by omega)),b.VO.trans a.VO⟩
theorem ZS (hn:1000<=n)(i:Nat)(d:Int)(z:cY n dJ h):cY n dJ (DP h i d):=by unfold DP sN;have h4:=nu (gQ i+128) 384 4;have hf:=Ee h.2.1 (gZ h.2.1 h.1 0 (gQ i) (wR 128) false).1 0 (gQ i,4,0,0) (gS (gQ i+128) 384 4).1;refine⟨MT (by omega) (Cx (by omega) z.1 ..) ..,z.2.1,z.2.2.1,nR z.2.2.2.1 ?_,nR z.2.2.2.2.1 ?_,z.2.2.2.2.2⟩;refine⟨⟨cx,cx,cx,cx⟩,⟨cx,cx,cx⟩,⟨cx,cx,cx⟩,⟨⟨cx,cx,cx,cx,cx,cx,cx,cx,cx,cx,cx,cx,cx,cx,cx,?_⟩,cx,cx⟩,cx,cx⟩;exact bO _;exact⟨cx,cx,cx,by show List.length _<=_;omega,λ_ _=>trivial⟩
theorem VW (hn:1000<=n)(i:Nat)(z:cY n dJ h):cY n dJ (ym i h):=by
 unfold ym;cases h1:h.2.2.2.1[i]? with|none=>exact z|some x=>?_
 cases h2:h.2.2.2.2.2.1[i]? with|none=>exact z|some v=>?_
 have zo:=ZS hn i (Dx x) z;exact⟨zo.1,z.2.1,z.2.2.1,zo.2.2.2.1,zo.2.2.2.2.1,nR z.2.2.2.2.2.1 ⟨cx,cx,cx,cx,cx,cx⟩,nR z.2.2.2.2.2.2.1 trivial,z.2.2.2.2.2.2.2⟩
theorem Ba (hn:1000<=n)(z:cY n dJ h):∀k,cY n dJ (il h k)
 |0=>z
 |k+1=>VW hn k (Ba hn z k)
def P5 (W:aw kI)(i:Nat)(s:Host):Host:=match W[i]? with|some x=>acK s [x.1]|none=>s
def polled (h:Host):Host:=tR h h.2.2.2.1.length
def returned (h:Host)(k:Nat):Host:=Qn (P5 h.2.2.1.2.2.1) k (polled h)
structure aj3 (a b:Host):Prop where
 e:b=(a.1,a.2.1,a.2.2.1,a.2.2.2.1,a.2.2.2.2.1,a.2.2.2.2.2.1,a.2.2.2.2.2.2.1,a.2.2.2.2.2.2.2.1,a.2.2.2.2.2.2.2.2.1,a.2.2.2.2.2.2.2.2.2.1,a.2.2.2.2.2.2.2.2.2.2.1,a.2.2.2.2.2.2.2.2.2.2.2.1,a.2.2.2.2.2.2.2.2.2.2.2.2.1,b.2.2.2.2.2.2.2.2.2.2.2.2.2.1,a.2.2.2.2.2.2.2.2.2.2.2.2.2.2)
theorem wk (z:cY n dJ (polled h)):∀k,aj3 (polled h) (returned h k)/\(returned h k).2.2.2.2.2.2.2.2.2.2.2.2.2.1.length<=n+k
 |0=>⟨⟨rfl⟩,by have:=z.2.2.2.2.2.2.2.2.2.2.2.2.2.1.1;exact bA this (by omega)⟩
 |k+1=>by have i:=wk z k;have e:returned h (k+1)=P5 h.2.2.1.2.2.1 k (returned h k):=rfl;rw[e];unfold P5;cases h.2.2.1.2.2.1[k]? with|none=>exact⟨i.1,bA i.2 (by omega)⟩|some x=>refine⟨⟨?_⟩,?_⟩;show acK _ _=_;have e:=i.1.e;generalize returned h k=r at e⊢;rw[e];rfl;show(_++[_]).length<=_;rw[ai,bt];omega
theorem P6 (z:cY n dJ (polled h))(k:Nat):cY (n+k) dJ (returned h k):=by have i:=wk z k;have z':cY (n+k) dJ (polled h):=z.mono;rw[i.1.e];exact⟨z'.1,z'.2.1,z'.2.2.1,z'.2.2.2.1,z'.2.2.2.2.1,z'.2.2.2.2.2.1,z'.2.2.2.2.2.2.1,z'.2.2.2.2.2.2.2.1,z'.2.2.2.2.2.2.2.2.1,z'.2.2.2.2.2.2.2.2.2.1,z'.2.2.2.2.2.2.2.2.2.2.1,z'.2.2.2.2.2.2.2.2.2.2.2.1,z'.2.2.2.2.2.2.2.2.2.2.2.2.1,⟨i.2,λ_ _=>trivial⟩,z'.2.2.2.2.2.2.2.2.2.2.2.2.2.2⟩
theorem TO (hn:1000<=n)(z:cY n dJ h):cY n dJ (XT h):=by have h4:=nu 256 128 8;exact⟨z.1,z.2.1,⟨⟨cx,cx,cx,cx⟩,⟨cx,cx,cx,by show List.length (gS 256 128 8).1.2.2.2<=n;omega,λ_ _=>trivial⟩,⟨bO _,λx hx=>by cases hx⟩,cx⟩,z.2.2.2⟩
def rG (h:Host):Host:=XT (returned h h.2.2.1.2.2.1.length)
def zA (h:Host):Host:=bif dW h then il (rG h) h.2.2.2.1.length else h
theorem Km (hb:dW h=true):qI h=true:=by simp only[dW,ae]at hb;exact hb.2.2.2.2.1
theorem Hy (hn:1000<=n)(z:cY n dJ h)(hl:h.2.2.2.1.length<=2):cY (n+644000+h.2.2.1.2.2.1.length) dJ (rG h):=by have hp:=AU (by omega) z h.2.2.2.1.length;exact TO (by omega) (P6 (hp.2.mono) _)
theorem apu (l:aw aA)(X:ca)(q:bT)(P:cK)(o:ca×lE×cK×Int)(k:bT×cK->ca×lE×cK×Int->ax R)(h:hG l X 0 q.1 P=some o):(aa (hG l X 0 (q,P).1.1 (q,P).2) λP3=>k (q,P) P3)=k (q,P) o:=by show aa (hG l X 0 q.1 P) (λP3=>k (q,P) P3)=k (q,P) o;rw[h,ab]
theorem Nd (l:aw aA)(m:ca)(i:Nat)(hi:i<=8)(hl:l.length<=10^9)(hm:m.length<=10^9)(k:bT×cK->ca×lE×cK×Int->ax R): (aa (pD (i:Int)) λyv=>aa (nb 0 128) λXw=>aa (jg l m 0 yv Xw) λAX=>aa (uG (i:Int)) λDT=>aa (hG l AX.1 0 DT.1.1 DT.2) λP3=>k DT P3)=k (H0 i,(gS (gQ i+128) 384 4).1) (sN l m i):=by
 have hb:gQ i=1280+(i:Int)*1792:=rfl;have IT:gQ i<=9223372036854775807:=by omega
 have hz:nb 0 128=some (wR 128):=Xh 128;have hf:=Sh l (gZ l m 0 (gQ i) (wR 128) false).1 0 (gQ i,4,0,0) (gS (gQ i+128) 384 4).1 hl (by rw[jC];exact hm) (bA (nu (gQ i+128) 384 4) (by omega));rw[Sd i hi,ab,hz,ab,zu l m 0 (gQ i) (wR 128) hl hm IT,ab,YW i hi,ab];exact apu l _ (H0 i) _ (sN l m i) k hf
theorem Me (K:Int->Host->ax Host)(s0 B:Host)(N:Nat)(hN:N<=2)(h1:s0.2.2.2.1.length=N)(h2:s0.2.2.2.2.1.length=N)(h3:s0.2.2.2.2.2.1.length=N)(h4:s0.2.2.2.2.2.2.1.length=N)(z:cY 900000000 dJ s0): bc (km K (N:Int) B) fuel (0,s0)=K (N:Int) (il s0 N):=by
 refine eo (λi=>((i:Int),il s0 i)) N (by omega) (λi nx hi=>?_) (λnx=>?_);have kr:=vC s0 i;have zr:=Ba (by omega) z i;have z1:(il s0 i).1.length<=10^9:=bA zr.1.1 (by omega);have z2:(il s0 i).2.1.length<=10^9:=bA zr.2.1.1 (by omega);have i1:i<(il s0 i).2.2.2.1.length:=by rw[kr.rx,h1];exact hi
 have i2:i<(il s0 i).2.2.2.2.1.length:=by rw[kr.pl,h2];exact hi
 have i3:i<(il s0 i).2.2.2.2.2.1.length:=by rw[kr.vec,h3];exact hi
 have i4:i<(il s0 i).2.2.2.2.2.2.1.length:=by rw[kr.VO,h4];exact hi
 rw[show il s0 (i+1)=ym i (il s0 i) from rfl];generalize il s0 i=s at z1 z2 i1 i2 i3 i4⊢;unfold ym Dx DP;simp only[al i1,al i3];simp only[km];rw[kK,ah];simp only[bn i1,ab];rw[Nd s.2.1 s.1 i (by omega) z2 z1,Nd s.2.1 s.1 i (by omega) z2 z1];generalize H0 i=q;generalize sN s.2.1 s.1 i=o;simp only[bn i1,bn i2,bn i3,bn i4,ab];rw[ak (n:=(i:Int)+1),az];cases s.2.2.2.1[i].2.2.2.2.1<;>rfl;simp only[km];rw[jj,af]
theorem O5 (hq:Bp h (polled h))(hz:cY n dJ (polled h)):(rG h).2.2.2.1.length=h.2.2.2.1.length/\(rG h).2.2.2.2.1.length=h.2.2.2.2.1.length/\(rG h).2.2.2.2.2.1=h.2.2.2.2.2.1/\(rG h).2.2.2.2.2.2.1=h.2.2.2.2.2.2.1:=by have er:=(wk hz h.2.2.1.2.2.1.length).1.e;refine⟨?_,?_,?_,?_⟩;show(returned h h.2.2.1.2.2.1.length).2.2.2.1.length=_;rw[er];exact hq.rx;show(returned h h.2.2.1.2.2.1.length).2.2.2.2.1.length=_;rw[er];exact hq.pl;show(returned h h.2.2.1.2.2.1.length).2.2.2.2.2.1=_;rw[er];exact hq.vec;show(returned h h.2.2.1.2.2.1.length).2.2.2.2.2.2.1=_;rw[er];exact hq.VO
theorem Md (h:Host)(k:I8 h)(z:cY 100000000 dJ h):tw h=some (zA h):=by
 have Bx:=ee;unfold tw zA;rw[iT h (z.mono),ab,pz h k,ab];cases hb:dW h with|false=>rfl|true=>?_
 have hl:=qo (Km hb);have hw:h.2.2.1.2.2.1.length<=100000000:=z.2.2.1.2.2.1.1;have hp:=AU (n:=100000000) (by omega) z;simp only[aj,af,ah];refine eo (λi=>((i:Int),tR h i)) h.2.2.2.1.length (by omega) (λi nx hi=>?_) (λnx=>?_);simp only[oN];rw[kK,ah,PH (tR h i) i 1000 (by rw[(hp i).1.rx];exact hi) (by rw[(hp i).1.pl];omega) ((hp i).2.mono),ab,ak];rfl;simp only[oN];rw[jj,af];have hq:=hp h.2.2.2.1.length;have hr:=wk (n:=100000000+322000*h.2.2.2.1.length) hq.2;have e1:(tR h h.2.2.2.1.length).2.2.1.2.2.1=h.2.2.1.2.2.1:=by rw[hq.1.tx]
 rw[e1];refine eo (λi=>((i:Int),returned h i)) h.2.2.1.2.2.1.length (by omega) (λi nx hi=>?_) (λnx=>?_);have hri:=(hr i).2;simp only[ni];rw[kK,ah,bn hi,ab,aS (by rw[bt];omega),ak];rw[show returned h (i+1)=P5 h.2.2.1.2.2.1 i (returned h i) from rfl,P5,al hi];rfl;simp only[ni];rw[jj,af];simp only[Zi,ab];have hE:=Hy (n:=100000000) (by omega) z hl.1;have hk:=O5 hq.1 hq.2;have eN:((List.length (returned h h.2.2.1.2.2.1.length).2.2.2.1:Nat):Int)=(h.2.2.2.1.length:Int):=congrArg Nat.cast hk.1;rw[eN];exact Me _ (rG h) _ h.2.2.2.1.length hl.1 hk.1 (hk.2.1.trans hl.2.1) (by rw[hk.2.2.1];exact hl.2.2.1) (by rw[hk.2.2.2];exact hl.2.2.2) (hE.mono)
def xP (x:D4):Bool:=dm x.1 0 65535&&(dm x.2.1 0 65535&&(dm x.2.2.1 0 65535&&(dm x.2.2.2.1 0 65535&&dm x.2.2.2.2 0 4294967295)))
theorem Na (x:D4):lg x=some (xP x):=by simp only[lg,de,ab,bL,cF,xP]
def O6 (x:D4)(p:Int):Bytes:=bif xP x&&dm p 0 1 then((((bS x.1++bS x.2.1)++bS x.2.2.1)++bS x.2.2.2.1)++iO x.2.2.2.2)++iO p else []
theorem abQ (x:D4)(p:Int):kB x p=some (O6 x p):=by
 have h1:=bF x.1;have h2:=bF x.2.1;have h3:=bF x.2.2.1;have h4:=bF x.2.2.2.1;have h5:=eu x.2.2.2.2;have h6:=eu p;unfold kB O6;simp only[Na,de,ab,kl,yd];cases xP x with|false=>rfl|true=>?_
 cases dm p 0 1 with|false=>rfl|true=>?_
 simp only[aj,af,ab,eU,ah];rw[aS,aS (by simp only[ai];omega),aS (by simp only[ai];omega),aS (by simp only[ai];omega),aS (by simp only[ai];omega)]
def yU (l:aw aA)(m:ca)(d:Int)(q:LP)(x:D4):ca×LP×Bool:=
 bif !fF q|| !xP x then(m,q,false) else
 bif !(gZ l m d (qK q) (O6 x (yh q)) true).2 then(m,q,false) else
 ((gZ l m d (qK q) (O6 x (yh q)) true).1,(q.1,q.2.1,tmod (q.2.2+1) (2*q.2.1)),true)
theorem abZ (l:aw aA)(m:ca)(d:Int)(q:LP)(x:D4)(hl:l.length<=10^9)(hm:m.length<=10^9):nm l m d q x=some (yU l m d q x):=by
 unfold nm yU;simp only[GL,Na,ab,fJ m (show m.length<=1073741824 by omega),Nf,abQ];cases hq:fF q with|false=>rfl|true=>?_
 have h:=tU hq;have hs:=Qd hq;cases xP x with|false=>rfl|true=>?_
 simp only[aj,af,ab,bQ,Nj q hq,AB l m d _ _ hl hm (show qK q<=9223372036854775807 by unfold qK;omega)];cases hp:(gZ l m d (qK q) (O6 x (yh q)) true).2 with|false=>simp only[bU,ah,Ha hp]|true=>simp only[aj,af];rw[ak (n:=2*q.2.1),lR,ak (n:=q.2.2+1)]
theorem Z6 (hn:128<=n)(z:cY n (.sl .str) m)(l:aw aA)(d:Int)(q:LP)(x:D4):cY n (.sl .str) (yU l m d q x).1/\(yU l m d q x).1.length=m.length:=by
 unfold yU;cases !fF q|| !xP x with|true=>exact⟨z,rfl⟩|false=>?_
 cases (gZ l m d (qK q) (O6 x (yh q)) true).2 with|false=>exact⟨z,rfl⟩|true=>exact⟨Cx hn z ..,jC ..⟩
theorem Xu {q:LP}{x:D4}(h:fF q=true):fF (yU l m d q x).2.1=true/\(yU l m d q x).2.1.1=q.1/\(yU l m d q x).2.1.2.1=q.2.1:=by
 have hq:=tU h;unfold yU;cases !fF q|| !xP x with|true=>exact⟨h,rfl,rfl⟩|false=>?_
 cases (gZ l m d (qK q) (O6 x (yh q)) true).2 with|false=>exact⟨h,rfl,rfl⟩|true=>refine⟨?_,rfl,rfl⟩;have e:=Qx (a:=q.2.2+1) (b:=2*q.2.1);simp only[af,aj,fF,ae,bh]at h⊢;refine⟨h.1,h.2.1,?_⟩;rw[xK h.2.1];omega
def gX (l:aw aA)(m:ca)(d:Int)(q:bT)(k:Bytes)(s:Bytes):ca×LP×Bool:=
 bif !(cP s).2||(((cP s).1.1 !=3)||decide ((cP s).1.2.2.1<((dy q.2.2.2.1.1).1.length:Int))) then(m,q.2.1,false) else
 bif !(gZ l m d (cP s).1.2.2.2.1 (dy q.2.2.2.1.1).1 true).2 then(m,q.2.1,false) else
 yU l (gZ l m d (cP s).1.2.2.2.1 (dy q.2.2.2.1.1).1 true).1 d q.2.1 ((cP s).1.2.2.2.2.2,((dy q.2.2.2.1.1).1.length:Int),q.2.2.2.1.2.1,q.2.2.2.1.2.2,xW k (ti (kL q.2.2.2.1.1)))
theorem Zd (l:aw aA)(m:ca)(d:Int)(q:bT)(k s:Bytes)(hl:l.length<=10^9)(hm:m.length<=10^9)(hs:s.length<=10^9)(hh:dw q.2.2.2.1.1=true):∃b,tO l m d q k s=some (b,gX l m d q k s)/\(b=false->gX l m d q k s=(m,q.2.1,false)):=by
 unfold tO gX;have mY:=UB (s:=s);simp only[Se s hs,Db,ab,Da hh];generalize cP s=x at mY⊢;cases hx:x.2 with|false=>exact⟨false,rfl,λ_=>rfl⟩|true=>?_
 have hd:=mY hx;simp only[sG,ae,bh]at hd;cases x.1.1 !=3 with|true=>exact⟨false,rfl,λ_=>rfl⟩|false=>?_
 cases decide (x.1.2.2.1<((dy q.2.2.2.1.1).1.length:Int))with|true=>exact⟨false,rfl,λ_=>rfl⟩|false=>?_
 simp only[aj,af,ab,bQ,AB l m d _ _ hl hm (show x.1.2.2.2.1<=9223372036854775807 by omega)];cases (gZ l m d x.1.2.2.2.1 (dy q.2.2.2.1.1).1 true).2 with|false=>exact⟨false,rfl,λ_=>rfl⟩|true=>?_
 simp only[aj,af,Kw,ab,Fp,abZ l _ d _ _ hl (show(gZ l m d x.1.2.2.2.1 (dy q.2.2.2.1.1).1 true).1.length<=10^9 by rw[jC];exact hm)];exact⟨true,rfl,λh=>by cases h⟩
theorem NS (hn:128<=n){k:Bytes}(z:cY n (.sl .str) m)(hq:fF q.2.1=true): cY n (.sl .str) (gX l m d q k s).1/\(gX l m d q k s).1.length=m.length/\fF (gX l m d q k s).2.1=true/\(gX l m d q k s).2.1.1=q.2.1.1/\(gX l m d q k s).2.1.2.1=q.2.1.2.1:=by
 unfold gX;cases !(cP s).2||(((cP s).1.1 !=3)||decide ((cP s).1.2.2.1<((dy q.2.2.2.1.1).1.length:Int)))with|true=>exact⟨z,rfl,hq,rfl,rfl⟩|false=>?_
 cases (gZ l m d (cP s).1.2.2.2.1 (dy q.2.2.2.1.1).1 true).2 with|false=>exact⟨z,rfl,hq,rfl,rfl⟩|true=>?_
 have h1:=Cx hn z l d (cP s).1.2.2.2.1 (dy q.2.2.2.1.1).1 true;have h2:=jC l m d (cP s).1.2.2.2.1 (dy q.2.2.2.1.1).1 true;generalize (gZ l m d (cP s).1.2.2.2.1 (dy q.2.2.2.1.1).1 true).1=w at h1 h2;have h3:=Z6 hn h1 l d q.2.1 ((cP s).1.2.2.2.2.2,((dy q.2.2.2.1.1).1.length:Int),q.2.2.2.1.2.1,q.2.2.2.1.2.2,xW k (ti (kL q.2.2.2.1.1)));have h4:=Xu (l:=l) (m:=w) (d:=d) (x:=((cP s).1.2.2.2.2.2,((dy q.2.2.2.1.1).1.length:Int),q.2.2.2.1.2.1,q.2.2.2.1.2.2,xW k (ti (kL q.2.2.2.1.1)))) hq;exact⟨h3.1,h3.2.trans h2,h4⟩
def iB (l:aw aA)(m:ca)(d:Int)(q:bT)(k:Bytes):ca×bT:=
 bif !EP q||(!q.2.2.2.2.1||((k.length:Int) !=16)) then(m,q) else
 bif (bl l m d q.1).2.2&&(gX l m d q k (bl l m d q.1).1).2.2 then
  ((gX l m d q k (bl l m d q.1).1).1,(bl l m d q.1).2.1,(gX l m d q k (bl l m d q.1).1).2.1,q.2.2.1,aaG,false,q.2.2.2.2.2)
 else(m,(bl l m d q.1).2.1,q.2.1,q.2.2.1,aaG,false,aq (q.2.2.2.2.2+q.2.2.2.1.2.2))
theorem TK (h:(bl l m d r).2.2=false):(bl l m d r).2.1=r:=by
 unfold bl at h⊢;cases hc: !cU r||(bH r==0)with|true=>rfl|false=>?_
 cases hd:(qL l m d (nU r r.2.2.1) 16).2 with|false=>rfl|true=>rw[hc,hd]at h;cases h
theorem Ae (h:EP q=true):fF q.2.1=true/\(q.2.2.2.2.1=true->dw q.2.2.2.1.1=true):=by unfold EP at h;simp only[ae]at h;refine⟨h.1.2.1,λhh=>?_⟩;have h2:=h.2;rw[hh]at h2;simp only[ah,ae]at h2;exact h2.1
theorem GK (l:aw aA)(m:ca)(d:Int)(q:bT)(k:Bytes)(hl:l.length<=10^9)(hm:m.length<=10^9):mA l m d q k=some (iB l m d q k):=by
 have ht:=D0 l m d q.1;have EN:=TK (l:=l) (m:=m) (d:=d) (r:=q.1);unfold mA iB;simp only[PJ,ab,fJ m (show m.length<=1073741824 by omega),Fy l m d q.1 hl hm];cases hr:EP q with|false=>rfl|true=>?_
 cases hh:q.2.2.2.2.1 with|false=>rfl|true=>?_
 cases (k.length:Int) !=16 with|true=>rfl|false=>?_
 obtain⟨b,hb,IT⟩:=Zd l m d q k (bl l m d q.1).1 hl hm (by omega) ((Ae hr).2 hh);simp only[aj,af,ab,bQ,hb];generalize gX l m d q k (bl l m d q.1).1=s at hb IT⊢;cases hk:(bl l m d q.1).2.2 with|false=>rw[EN hk];rfl|true=>?_
 cases b with|true=>cases hs:s.2.2<;>rfl|false=>rw[IT rfl];rfl
theorem C4 (hn:128<=n){k:Bytes}(z:cY n (.sl .str) m)(zq:cY n dM q): cY n (.sl .str) (iB l m d q k).1/\(iB l m d q k).1.length=m.length/\cY n dM (iB l m d q k).2/\(EP q=true->fF (iB l m d q k).2.2.1=true/\(iB l m d q k).2.2.1.2.1=q.2.1.2.1):=by
 unfold iB;cases hc: !EP q||(!q.2.2.2.2.1||((k.length:Int) !=16))with|true=>exact⟨z,rfl,zq,λh=>⟨(Ae h).1,rfl⟩⟩|false=>?_
 simp only[ch,dz]at hc;have hq:=(Ae hc.1).1;have hs:=NS hn (l:=l) (d:=d) (k:=k) (s:=(bl l m d q.1).1) z hq;have e0:cY n dM ((bl l m d q.1).2.1,(gX l m d q k (bl l m d q.1).1).2.1,q.2.2.1,aaG,false,q.2.2.2.2.2):=⟨⟨cx,cx,cx,cx⟩,⟨cx,cx,cx⟩,⟨cx,cx,cx⟩,⟨⟨cx,cx,cx,cx,cx,cx,cx,cx,cx,cx,cx,cx,cx,cx,cx,bO _⟩,cx,cx⟩,cx,cx⟩
 cases (bl l m d q.1).2.2&&(gX l m d q k (bl l m d q.1).1).2.2 with|true=>exact⟨hs.1,hs.2.1,e0,λ_=>⟨hs.2.2.1,hs.2.2.2.2⟩⟩|false=>exact⟨z,rfl,⟨⟨cx,cx,cx,cx⟩,⟨cx,cx,cx⟩,⟨cx,cx,cx⟩,⟨⟨cx,cx,cx,cx,cx,cx,cx,cx,cx,cx,cx,cx,cx,cx,cx,bO _⟩,cx,cx⟩,cx,cx⟩,λ_=>⟨hq,rfl⟩⟩
def evS (k:Nat)(h:Host):Host:=
 match h.2.2.2.2.2.1[k]? with
 |some v=>(h.1,h.2.1,h.2.2.1,h.2.2.2.1,h.2.2.2.2.1,h.2.2.2.2.2.1.set k (evV v),h.2.2.2.2.2.2)
 |none=>h
def Yf (k:Nat):Nat->Host->Host
 |0,h=>h
 |i+1,h=>evS k (Yf k i h)
theorem abj (k:Nat)(h:Host):kg (k+1) h (evS k h):=by unfold evS;cases h.2.2.2.2.2.1[k]? with|none=>exact kg.refl _ _|some v=>exact⟨rfl,rfl,rfl,rfl,λ_ _=>rfl,rfl,aC ..,λj hj=>aR (by omega),rfl,rfl,rfl⟩
theorem JW (k:Nat)(h:Host):∀i,kg (k+1) h (Yf k i h)
 |0=>kg.refl _ _
 |i+1=>(JW k h i).trans (abj k _)
theorem aeK (k:Nat)(z:cY n dJ h):cY n dJ (evS k h):=by unfold evS;cases h.2.2.2.2.2.1[k]? with|none=>exact z|some v=>exact⟨z.1,z.2.1,z.2.2.1,z.2.2.2.1,z.2.2.2.2.1,I5 z.2.2.2.2.2.1,z.2.2.2.2.2.2⟩
theorem W1 (k:Nat)(z:cY n dJ h):∀i,cY n dJ (Yf k i h)
 |0=>z
 |i+1=>aeK k (W1 k z i)
theorem UY (h:Host)(k:Nat)(b:Int)(h1:k<h.2.2.2.1.length)(h2:k<h.2.2.2.2.2.1.length)(hq:fF h.2.2.2.1[k].2.1=true)(hb:0<=b/\b<=31):ks h (k:Int) b=some ((),Yf k ((h.2.2.2.1[k].2.1.2.2-b)%(2*h.2.2.2.1[k].2.1.2.1)).toNat h):=by
 have Bx:=ee;have q:=tU hq;unfold ks;rw[bn h1,ab];generalize h.2.2.2.1[k]=x at q⊢;rw[ak (n:=x.2.1.2.2-b),ak (n:=2*x.2.1.2.1),GZ _ _,ab];have hm:0<=(x.2.1.2.2-b)%(2*x.2.1.2.1)/\(x.2.1.2.2-b)%(2*x.2.1.2.1)<32:=by have g1:=eG (x.2.1.2.2-b) (show 2*x.2.1.2.1≠0 by omega);have g2:=eJ (x.2.1.2.2-b) (show 0<2*x.2.1.2.1 by omega);omega
 generalize (x.2.1.2.2-b)%(2*x.2.1.2.1)=c at hm⊢;obtain⟨c,rfl⟩:=aX hm.1;rw[az];have e0:((c:Int),h)=(((c:Int)-((0:Nat):Int)),Yf k 0 h):=by simp[Yf]
 rw[e0];refine eo (λi=>((c:Int)-(i:Int),Yf k i h)) c (by omega) (λi nx hi=>?_) (λnx=>?_);have kk:=JW k h i;have i1:k<(Yf k i h).2.2.2.2.2.1.length:=by rw[kk.vec];exact h2
 rw[show Yf k (i+1) h=evS k (Yf k i h) from rfl];generalize Yf k i h=s at i1⊢;simp only[oT,evS];rw[kK,ah,al i1];simp only[bn i1,ab,YI,az];rw[ak,show(c:Int)-(i:Int)-1=(c:Int)-((i+1:Nat):Int) by omega];simp only[oT];rw[jj,af]
def FV (h:Host)(k:Nat)(f:ca×bT):Host:=(f.1,h.2.1,h.2.2.1,h.2.2.2.1.set k f.2,h.2.2.2.2)
def Hr (h:Host)(k:Nat)(b:Int)(f:ca×bT):Host:=Yf k ((f.2.2.1.2.2-b)%(2*f.2.2.1.2.1)).toNat (FV h k f)
def oC (k:Nat)(h:Host):Host:=
 match h.2.2.2.1[k]? with
 |some x=>Hr h k x.2.1.2.2 (iB h.2.1 h.1 0 x h.2.2.2.2.2.2.2.2.1.2.2.1)
 |none=>h
theorem CP (hf:f.1.length=h.1.length):kg (k+1) h (Hr h k b f):=by
 have a:kg (k+1) h (FV h k f):=⟨hf,rfl,rfl,aC ..,λj hj=>aR (by omega),rfl,rfl,λ_ _=>rfl,rfl,rfl,rfl⟩
 exact a.trans (JW k (FV h k f) _)
theorem LM (z:cY n dJ h)(h1:cY n (.sl .str) f.1)(h2:cY n dM f.2):cY n dJ (Hr h k b f):=by
 have a:cY n dJ (FV h k f):=⟨h1,z.2.1,z.2.2.1,nR z.2.2.2.1 h2,z.2.2.2.2⟩
 exact W1 k a _
theorem RG {k:Bytes}:(iB l m d q k).1.length=m.length:=by
 have hs:(gX l m d q k (bl l m d q.1).1).1.length=m.length:=by
  unfold gX;cases !(cP (bl l m d q.1).1).2||(((cP (bl l m d q.1).1).1.1 !=3)||decide ((cP (bl l m d q.1).1).1.2.2.1<((dy q.2.2.2.1.1).1.length:Int)))with|true=>rfl|false=>?_
  cases (gZ l m d (cP (bl l m d q.1).1).1.2.2.2.1 (dy q.2.2.2.1.1).1 true).2 with|false=>rfl|true=>?_
  have h2:=jC l m d (cP (bl l m d q.1).1).1.2.2.2.1 (dy q.2.2.2.1.1).1 true;simp only[af,aj];unfold yU;cases !fF q.2.1|| !xP ((cP (bl l m d q.1).1).1.2.2.2.2.2,((dy q.2.2.2.1.1).1.length:Int),q.2.2.2.1.2.1,q.2.2.2.1.2.2,xW k (ti (kL q.2.2.2.1.1)))with|true=>exact h2|false=>?_
  cases (gZ l (gZ l m d (cP (bl l m d q.1).1).1.2.2.2.1 (dy q.2.2.2.1.1).1 true).1 d (qK q.2.1) (O6 ((cP (bl l m d q.1).1).1.2.2.2.2.2,((dy q.2.2.2.1.1).1.length:Int),q.2.2.2.1.2.1,q.2.2.2.1.2.2,xW k (ti (kL q.2.2.2.1.1))) (yh q.2.1)) true).2 with|false=>exact h2|true=>exact(jC ..).trans h2
 unfold iB;cases !EP q||(!q.2.2.2.2.1||((k.length:Int) !=16))with|true=>rfl|false=>?_
 cases (bl l m d q.1).2.2&&(gX l m d q k (bl l m d q.1).1).2.2 with|true=>exact hs|false=>rfl
theorem yL (k:Nat)(h:Host):kg (k+1) h (oC k h):=by unfold oC;cases h.2.2.2.1[k]? with|none=>exact kg.refl _ _|some x=>exact CP RG
theorem J7 (k:Nat)(h:Host)(n:Nat)(hn:1000<=n)(z:cY n dJ h):cY (n+0) dJ (oC k h):=by unfold oC;cases hx:h.2.2.2.1[k]? with|none=>exact z|some x=>have hf:=C4 (show 128<=n by omega) (l:=h.2.1) (d:=0) (k:=h.2.2.2.2.2.2.2.2.1.2.2.1) z.1 (z.2.2.2.1.2 _ (bp hx));exact LM z hf.1 hf.2.2.1
def xU (h:Host):Host:=bif dW h then kP oC h.2.2.2.1.length h else h
theorem Yo (hn:1000<=n)(k:yy n h):yy n (xU h):=by unfold xU;cases dW h with|false=>exact k|true=>refine⟨(Bf hn J7 k.z _).mono,?_⟩;simp only[ah];rw[(qE yL h _).tx];exact k.t
theorem El (hb:dW h=true):∀i (hi:i<h.2.2.2.1.length),EP h.2.2.2.1[i]=true:=by simp only[dW,Ti,ae]at hb;exact λi hi=>aE.1 hb.2.2.2.2.2.2.1.1 _ (bm hi)
theorem Im (h1:k<h.2.2.2.1.length)(h2:k<h.2.2.2.2.2.1.length)(hq:fF f.2.2.1=true)(hb:0<=b/\b<=31:=by omega): ks (f.1,h.2.1,h.2.2.1,h.2.2.2.1.set k f.2,h.2.2.2.2) (k:Int) b=some ((),Hr h k b f):=by
 have h3:k<(FV h k f).2.2.2.1.length:=by show k<(h.2.2.2.1.set k f.2).length;rw[aC];exact h1
 have e:(FV h k f).2.2.2.1[k]=f.2:=List.getElem_set_self _;have a:=UY (FV h k f) k b h3 h2 (by rw[e];exact hq) hb;rw[e]at a;exact a
theorem U3 (h:Host)(k:yy 900000000 h):tt h=some (xU h):=by
 have Bx:=ee;unfold tt xU;rw[iT h (k.z.mono),ab,pz h (k.sz (by omega)),ab];cases hb:dW h with|false=>rfl|true=>?_
 have hl:=qo (by simp only[dW,ae]at hb;exact hb.2.2.2.2.1:qI h=true);have hr:=El hb;simp only[aj,af,ah];refine eo (λi=>((i:Int),kP oC i h)) h.2.2.2.1.length (by omega) (λi nx hi=>?_) (λnx=>?_);have kk:=qE yL h i;have zz:cY 900000000 dJ (kP oC i h):=(Bf (by omega) J7 k.z i).mono;have i1:i<(kP oC i h).2.2.2.1.length:=by rw[kk.rx];exact hi
 have i2:i<(kP oC i h).2.2.2.2.2.1.length:=by rw[kk.vec];omega
 have e1:(kP oC i h).2.2.2.1[i]=h.2.2.2.1[i]:=by have:=kk.rxs i (aU _);rw[al i1,al hi]at this;exact dD this
 rw[show kP oC (i+1) h=oC i (kP oC i h) from rfl];generalize kP oC i h=s at zz i1 i2 e1⊢;have z1:s.1.length<=900000000:=zz.1.1;have z2:s.2.1.length<=900000000:=zz.2.1.1;have YE:=hr i hi;rw[<-e1]at YE;have hqd:=tU (Ae YE).1;have hf:=C4 (show 128<=900000000 by omega) (l:=s.2.1) (d:=0) (k:=s.2.2.2.2.2.2.2.2.1.2.2.1) zz.1 (zz.2.2.2.1.2 _ (bm i1));have ev:=Im (h:=s) (k:=i) (b:=s.2.2.2.1[i].2.1.2.2) (f:=iB s.2.1 s.1 0 s.2.2.2.1[i] s.2.2.2.2.2.2.2.2.1.2.2.1) i1 i2 (hf.2.2.2 YE).1;simp only[oM,oC];rw[kK,ah,al i1];simp only[bn i1,bn hi,ab,GK s.2.1 s.1 0 _ _ (show s.2.1.length<=10^9 by omega) (show s.1.length<=10^9 by omega),az,<-e1,ev];rw[ak];rfl;simp only[oM];rw[jj,af]
def S2 (a b:aO):Bool:=(a.1==b.1)&&((a.2.1==b.2.1)&&((a.2.2.1==b.2.2.1)&&((a.2.2.2.1==b.2.2.2.1)&&((a.2.2.2.2.2.1==b.2.2.2.2.2.1)&&((a.2.2.2.2.2.2.1==b.2.2.2.2.2.2.1)&&((a.2.2.2.2.2.2.2.1==b.2.2.2.2.2.2.2.1)&&((a.2.2.2.2.2.2.2.2.1==b.2.2.2.2.2.2.2.2.1)&&((a.2.2.2.2.2.2.2.2.2.1==b.2.2.2.2.2.2.2.2.2.1)&&((a.2.2.2.2.2.2.2.2.2.2.1==b.2.2.2.2.2.2.2.2.2.2.1)&&((a.2.2.2.2.2.2.2.2.2.2.2.2.1==b.2.2.2.2.2.2.2.2.2.2.2.2.1)&&((a.2.2.2.2.2.2.2.2.2.2.2.2.2.2.1==b.2.2.2.2.2.2.2.2.2.2.2.2.2.2.1))))))))))))
theorem abY (a b:aO):vq a b=some (S2 a b):=by unfold vq S2;simp only[beq_self_eq_true,bC,dR]
def ajR (s:qH)(p:aO):Bool:=(p.2.2.2.2.2.2.2.2.2.2.2.1==tmod (aq (s.1.2.2.2.2.2.2.2.2.2.2.2.1+(s.1.2.2.2.2.2.2.2.2.2.2.2.2.2.2.2.length:Int))) 4294967296)&&(p.2.2.2.2.1==tmod (aq (s.1.2.2.2.2.1+s.2.2)) 65536)
def XE (s:qH)(p:aO):Bool:=decide (1<=s.2.1)&&(dm s.2.2 1 320&&(decide ((s.1.2.2.2.2.2.2.2.2.2.2.2.2.2.2.2.length:Int)=s.2.1*s.2.2)&&(dm (p.2.2.2.2.2.2.2.2.2.2.2.2.2.2.2.length:Int) 1 s.2.1&&decide ((s.1.2.2.2.2.2.2.2.2.2.2.2.2.2.2.2.length:Int)+(p.2.2.2.2.2.2.2.2.2.2.2.2.2.2.2.length:Int)<=320))))
def abw (s:qH)(p:aO):Bool:=dw s.1&&(fV p&&(S2 s.1 p&&((p.2.2.2.2.2.2.2.2.1==6)&&((s.1.2.2.2.2.2.2.2.2.2.2.2.2.2.1==16)&&As p.2.2.2.2.2.2.2.2.2.2.2.2.2.1))))
def Gw (s:qH)(p:aO):Bool:=abw s p&&(XE s p&&ajR s p)
theorem FO (h:fV p=true)(h6:(p.2.2.2.2.2.2.2.2.1==6)=true):dm p.2.2.2.2.2.2.2.2.2.2.2.2.2.1 0 31=true:=by simp only[fV,dw,ae]at h;exact Di (xZ h.1.1) h6
theorem Ew (h:fV p=true):p.2.2.2.2.2.2.2.2.2.2.2.2.2.2.2.length<=128:=by simp only[fV,ae,aB]at h;omega
theorem Xf (s:qH)(p:aO):tp s p=some (Gw s p):=by
 unfold tp Gw abw;rw[ov,ab,AD,ab,abY,ab];cases hs:dw s.1 with|false=>rfl|true=>?_
 cases hp:fV p with|false=>rfl|true=>?_
 cases S2 s.1 p with|false=>rfl|true=>?_
 cases h6:p.2.2.2.2.2.2.2.2.1==6 with|false=>simp only[bne,h6];rfl|true=>?_
 cases h16:s.1.2.2.2.2.2.2.2.2.2.2.2.2.2.1==16 with|false=>simp only[bne,h6,h16];rfl|true=>?_
 have hf:=FO hp h6;have hsl:=Bh hs;have C8:=Ew hp;simp only[bne,h6,h16,aj,af,ab,J1 _ hf,bC];cases As p.2.2.2.2.2.2.2.2.2.2.2.2.2.1 with|false=>rfl|true=>?_
 simp only[aj,af,de,ab,bC];rw[aH (show¬(4294967296:Nat)=0 by omega),aH (show¬(65536:Nat)=0 by omega)];simp only[bL,cF];rw[show((p.2.2.2.2.2.2.2.2.2.2.2.1==tmod (aq (s.1.2.2.2.2.2.2.2.2.2.2.2.1+(s.1.2.2.2.2.2.2.2.2.2.2.2.2.2.2.2.length:Int))) 4294967296)&&(p.2.2.2.2.1==tmod (aq (s.1.2.2.2.2.1+s.2.2)) 65536))=ajR s p from rfl];unfold XE;generalize ajR s p=q;generalize s.1.2.2.2.2.2.2.2.2.2.2.2.2.2.2.2.length=n at hsl⊢;generalize p.2.2.2.2.2.2.2.2.2.2.2.2.2.2.2.length=m at C8⊢;rw[ak (n:=(n:Int)+(m:Int))];by_cases h1:s.2.1<1;rw[au h1,ar (show¬1<=s.2.1 by omega)];rfl;rw[ar h1,au (show 1<=s.2.1 by omega)];cases h2:dm s.2.2 1 320 with|false=>rfl|true=>?_
 have QB:=bh.1 h2;simp only[aj,af,ab,bC];rw[lR,lR];have e1:tmod (n:Int) s.2.2=(n:Int)%s.2.2:=dg (by omega);have e2:Int.tdiv (n:Int) s.2.2=(n:Int)/s.2.2:=Int.tdiv_eq_ediv_of_nonneg (by omega);have hdm:=Int.emod_add_mul_ediv (n:Int) s.2.2;have hq0:0<=(n:Int)/s.2.2:=Int.ediv_nonneg (by omega) (by omega);have hq1:(n:Int)/s.2.2<=(n:Int):=Int.ediv_le_self _ (by omega);rw[e1,e2,ak (n:=(n:Int)/s.2.2)];by_cases h3:(n:Int)=s.2.1*s.2.2;have h4:(n:Int)%s.2.2=0:=by rw[h3];exact Int.mul_emod_left ..
 have h5:(n:Int)/s.2.2=s.2.1:=by rw[h3];exact Int.mul_ediv_cancel _ (by omega)
 rw[h4,h5,au h3];simp only[beq_self_eq_true,aj,af,ab,bC];cases dm (m:Int) 1 s.2.1 with|false=>rfl|true=>?_
 cases decide ((n:Int)+(m:Int)<=320)<;>rfl;rw[ar h3];cases h4:(n:Int)%s.2.2==0 with
 |false=>rfl
 |true=>
  have h4':(n:Int)%s.2.2=0:=by simpa using h4
  have h5:((n:Int)/s.2.2==s.2.1)=false:=by rw[dk];intro h5;rw[h4',h5]at hdm;exact h3 (by rw[Int.mul_comm];omega)
  simp only[aj,af,h5,bU,ab,ah];rfl
def DL (s:qH)(p:aO):qH:=bif Gw s p then((s.1.1,s.1.2.1,s.1.2.2.1,s.1.2.2.2.1,s.1.2.2.2.2.1,s.1.2.2.2.2.2.1,s.1.2.2.2.2.2.2.1,s.1.2.2.2.2.2.2.2.1,s.1.2.2.2.2.2.2.2.2.1,s.1.2.2.2.2.2.2.2.2.2.1,s.1.2.2.2.2.2.2.2.2.2.2.1,s.1.2.2.2.2.2.2.2.2.2.2.2.1,s.1.2.2.2.2.2.2.2.2.2.2.2.2.1,p.2.2.2.2.2.2.2.2.2.2.2.2.2.1,s.1.2.2.2.2.2.2.2.2.2.2.2.2.2.2.1,s.1.2.2.2.2.2.2.2.2.2.2.2.2.2.2.2++p.2.2.2.2.2.2.2.2.2.2.2.2.2.2.2),s.2.1,aq (s.2.2+1)) else s
theorem Of {s:qH}(h:Gw s p=true):s.1.2.2.2.2.2.2.2.2.2.2.2.2.2.2.2.length+p.2.2.2.2.2.2.2.2.2.2.2.2.2.2.2.length<=320:=by simp only[Gw,XE,ae,aB]at h;have:=h.2.1.2.2.2.2;omega
theorem abV (s:qH)(p:aO):Dd s p=some (DL s p):=by
 unfold Dd DL;rw[Xf,ab];cases h:Gw s p with|false=>rfl|true=>?_
 have:=Of h;simp only[aj,af,ah];rw[aS]
def lP (p:aO):qH:=(p,(p.2.2.2.2.2.2.2.2.2.2.2.2.2.2.2.length:Int),1)
theorem Vb (p:aO):Cp p=some (lP p):=rfl
def Kg (q:bT)(s:qH):bT:=(q.1,q.2.1,q.2.2.1,s,true,q.2.2.2.2.2)
def kU (l:aw aA)(m:ca)(d:Int)(q:bT)(k:Bytes)(p:aO)(c:Bool):ca×bT:=
 bif !EP q||(!fV p||((k.length:Int) !=16)) then(m,q) else
 bif c&&(q.2.2.2.2.1&&Gw q.2.2.2.1 p) then(m,q.1,q.2.1,q.2.2.1,DL q.2.2.2.1 p,q.2.2.2.2) else
 bif c then((iB l m d q k).1,Kg (iB l m d q k).2 (lP p)) else iB l (iB l m d q k).1 d (Kg (iB l m d q k).2 (lP p)) k
theorem UZ (l:aw aA)(m:ca)(d:Int)(q:bT)(k:Bytes)(p:aO)(c:Bool)(hl:l.length<=10^9)(hm:m.length<=10^9):np l m d q k p c=some (kU l m d q k p c):=by
 unfold np kU Kg;simp only[PJ,AD,ab,fJ m (show m.length<=1073741824 by omega),Xf,abV,GK l m d q k hl hm,Vb,GK l (iB l m d q k).1 d _ k hl (show(iB l m d q k).1.length<=10^9 by rw[RG];exact hm)];cases EP q with|false=>rfl|true=>?_
 cases fV p with|false=>rfl|true=>?_
 cases (k.length:Int) !=16 with|true=>rfl|false=>?_
 cases c with|false=>rfl|true=>?_
 cases q.2.2.2.2.1 with|false=>rfl|true=>?_
 cases Gw q.2.2.2.1 p<;>rfl
theorem RH {k:Bytes}(h:fF q.2.1=true):fF (iB l m d q k).2.2.1=true:=by
 unfold iB;cases !EP q||(!q.2.2.2.2.1||((k.length:Int) !=16))with|true=>exact h|false=>?_
 have hs:fF (gX l m d q k (bl l m d q.1).1).2.1=true:=by
  unfold gX;cases !(cP (bl l m d q.1).1).2||(((cP (bl l m d q.1).1).1.1 !=3)||decide ((cP (bl l m d q.1).1).1.2.2.1<((dy q.2.2.2.1.1).1.length:Int)))with|true=>exact h|false=>?_
  cases (gZ l m d (cP (bl l m d q.1).1).1.2.2.2.1 (dy q.2.2.2.1.1).1 true).2 with|false=>exact h|true=>?_
  exact(Xu h).1
 cases (bl l m d q.1).2.2&&(gX l m d q k (bl l m d q.1).1).2.2 with|true=>exact hs|false=>exact h
theorem Yw {s:qH}(h:s.1.2.2.2.2.2.2.2.2.2.2.2.2.2.2.2.length<=n):cY n dM (Kg q s):=⟨⟨cx,cx,cx,cx⟩,⟨cx,cx,cx⟩,⟨cx,cx,cx⟩,⟨⟨cx,cx,cx,cx,cx,cx,cx,cx,cx,cx,cx,cx,cx,cx,cx,h⟩,cx,cx⟩,cx,cx⟩
theorem Jb (hn:1000<=n){k:Bytes}{c:Bool}(z:cY n (.sl .str) m)(zq:cY n dM q)(hq:fF q.2.1=true): cY n (.sl .str) (kU l m d q k p c).1/\(kU l m d q k p c).1.length=m.length/\cY n dM (kU l m d q k p c).2/\fF (kU l m d q k p c).2.2.1=true:=by
 unfold kU;cases hc: !EP q||(!fV p||((k.length:Int) !=16))with|true=>exact⟨z,rfl,zq,hq⟩|false=>?_
 simp only[ch,dz]at hc;have hp:=Ew hc.2.1;cases hj:c&&(q.2.2.2.2.1&&Gw q.2.2.2.1 p)with|true=>simp only[ae]at hj;have:=Of hj.2.2;refine⟨z,rfl,⟨⟨cx,cx,cx,cx⟩,⟨cx,cx,cx⟩,⟨cx,cx,cx⟩,⟨?_,cx,cx⟩,cx,cx⟩,hq⟩;refine⟨cx,cx,cx,cx,cx,cx,cx,cx,cx,cx,cx,cx,cx,cx,cx,?_⟩;unfold DL;rw[hj.2.2];show List.length (q.2.2.2.1.1.2.2.2.2.2.2.2.2.2.2.2.2.2.2.2++p.2.2.2.2.2.2.2.2.2.2.2.2.2.2.2)<=n;rw[ai];omega|false=>have hf:=C4 (show 128<=n by omega) (l:=l) (d:=d) (k:=k) z zq;have hfq:=RH (l:=l) (m:=m) (d:=d) (k:=k) hq;have hh:cY n dM (Kg (iB l m d q k).2 (lP p)):=Yw (by show p.2.2.2.2.2.2.2.2.2.2.2.2.2.2.2.length<=n;omega);cases c with|true=>exact⟨hf.1,hf.2.1,hh,hfq⟩|false=>have Ax:=C4 (show 128<=n by omega) (l:=l) (d:=d) (k:=k) hf.1 hh;exact⟨Ax.1,Ax.2.1.trans hf.2.1,Ax.2.2.1,RH (q:=Kg (iB l m d q k).2 (lP p)) hfq⟩
theorem Tk {r:iH}(h:yV r=true):0<=r.2.2.2.2.2.2.2.2:=by
 by_cases h0:0<=r.2.2.2.2.2.2.2.2;exact h0;exfalso;have e:∀b:Int,dm r.2.2.2.2.2.2.2.2 0 b=false:=λb=>by rw[Bool.eq_false_iff];intro hc;have:=bh.1 hc;omega
 have e1:(r.2.2.2.2.2.2.2.2==0)=false:=by rw[dk];omega
 revert h;unfold yV;have z:∀c:Bool,(bif c then false else false)=false:=by intro c;cases c<;>rfl
 simp only[lB,ei,ab,bL,e,e1,fj,z,af];intro h;cases h
theorem aaD {s:cV}{q:Int}:ur s q p= -1\/∃n:Nat,ur s q p=(n:Int)/\(n:Int)<q:=by
 unfold ur;cases hb: !ff s q|| !dw p with|true=>exact .inl rfl|false=>?_
 simp only[ch,dz]at hb;have hs:=hb.1;simp only[ff,ae]at hs;simp only[af];cases hd:decide (Dy s.1 p>=0)with
 |true=>obtain⟨n,hn,hl⟩:=Rz s.1 p (bk hd);simp only[ah,hn,az,cI hl];cases s.1[n].2.2.2.2.2.2.2.1==1 with|true=>exact .inl rfl|false=>have h1:=aE.1 hs.1.2 _ (bm hl);have h2:=hs.1.1.1.1;simp only[wF,ae]at h2;have h3:=Tk (aE.1 h2.1 _ (bm hl));simp only[aK,cw]at h1;exact .inr ⟨s.1[n].2.2.2.2.2.2.2.2.toNat,by simp only[af];omega,by omega⟩
 |false=>
  simp only[af];cases QD:decide (findF s.2.1 (kL p)>=0)with
  |true=>obtain⟨n,hn,hl⟩:=Ry s.2.1 (kL p) (bk QD);simp only[ah,hn,az,cI hl];have h1:=aE.1 hs.2 _ (bm hl);have h2:=hs.1.1.1.2;simp only[nH,ae,aV]at h2;have h3:=aE.1 h2.2 n (bW.2 (by omega));unfold mN NP at h3;rw[uO hl]at h3;simp only[ae,bh]at h3;simp only[aK,cw]at h1;exact .inr ⟨s.2.1[n].2.2.toNat,by omega,by omega⟩
  |false=>
   simp only[af];unfold I2;cases hc: !qD s.2.2 q||decide (Ar s.2.2 (kL p)<0)with|true=>exact .inl rfl|false=>?_
   simp only[ch,dz,cw]at hc;obtain⟨n,hn,hl⟩:=MQ s.2.2 (kL p) hc.2;have h1:=hc.1;simp only[qD,ae]at h1;have h2:=bh.1 (aE.1 h1.2 _ (bm hl));simp only[af,hn,az,cI hl];exact .inr ⟨s.2.2.2[n].toNat,by omega,by omega⟩
def zi (h:Host)(a b c d:Int):Host:=(h.1,h.2.1,h.2.2.1,h.2.2.2.1,h.2.2.2.2.1,h.2.2.2.2.2.1,h.2.2.2.2.2.2.1,h.2.2.2.2.2.2.2.1,h.2.2.2.2.2.2.2.2.1,h.2.2.2.2.2.2.2.2.2.1,h.2.2.2.2.2.2.2.2.2.2.1,h.2.2.2.2.2.2.2.2.2.2.2.1,h.2.2.2.2.2.2.2.2.2.2.2.2.1,h.2.2.2.2.2.2.2.2.2.2.2.2.2.1,aq (h.2.2.2.2.2.2.2.2.2.2.2.2.2.2.1+1),a,b,c,d)
def nT (h:Host)(x:Bytes):Host:=
 bif !dW h then h else
 bif (rm x).2 !=0 then zi h (aq (h.2.2.2.2.2.2.2.2.2.2.2.2.2.2.2.1+1)) h.2.2.2.2.2.2.2.2.2.2.2.2.2.2.2.2.1 h.2.2.2.2.2.2.2.2.2.2.2.2.2.2.2.2.2.1 h.2.2.2.2.2.2.2.2.2.2.2.2.2.2.2.2.2.2 else
 bif !xL h.2.2.2.2.2.2.2.1 (rm x).1 then zi h h.2.2.2.2.2.2.2.2.2.2.2.2.2.2.2.1 (aq (h.2.2.2.2.2.2.2.2.2.2.2.2.2.2.2.2.1+1)) h.2.2.2.2.2.2.2.2.2.2.2.2.2.2.2.2.2.1 h.2.2.2.2.2.2.2.2.2.2.2.2.2.2.2.2.2.2 else
 bif ur h.2.2.2.2.2.2.2.2.1 (h.2.2.2.1.length:Int) (rm x).1== -1 then zi h h.2.2.2.2.2.2.2.2.2.2.2.2.2.2.2.1 h.2.2.2.2.2.2.2.2.2.2.2.2.2.2.2.2.1 (aq (h.2.2.2.2.2.2.2.2.2.2.2.2.2.2.2.2.2.1+1)) h.2.2.2.2.2.2.2.2.2.2.2.2.2.2.2.2.2.2 else
 match h.2.2.2.1[(ur h.2.2.2.2.2.2.2.2.1 (h.2.2.2.1.length:Int) (rm x).1).toNat]? with
 |some q=>Hr (zi h h.2.2.2.2.2.2.2.2.2.2.2.2.2.2.2.1 h.2.2.2.2.2.2.2.2.2.2.2.2.2.2.2.2.1 h.2.2.2.2.2.2.2.2.2.2.2.2.2.2.2.2.2.1 (aq (h.2.2.2.2.2.2.2.2.2.2.2.2.2.2.2.2.2.2+1))) (ur h.2.2.2.2.2.2.2.2.1 (h.2.2.2.1.length:Int) (rm x).1).toNat q.2.1.2.2 (kU h.2.1 h.1 0 q h.2.2.2.2.2.2.2.2.1.2.2.1 (rm x).1 h.2.2.2.2.2.2.2.2.2.2.1)
 |none=>h
theorem PI (h:Host)(x:Bytes)(k:yy 900000000 h)(hx:x.length<=10^9):pX h x=some (nT h x):=by
 have z:=k.z;have z1:h.1.length<=900000000:=z.1.1;have z2:h.2.1.length<=900000000:=z.2.1.1;have zf:h.2.2.2.2.2.2.2.1.2.2.length<=900000000:=z.2.2.2.2.2.2.2.1.2.2.1;have s1:h.2.2.2.2.2.2.2.2.1.1.length<=900000000:=z.2.2.2.2.2.2.2.2.1.1.1;have s2:h.2.2.2.2.2.2.2.2.1.2.1.length<=900000000:=z.2.2.2.2.2.2.2.2.1.2.1.1;have s3:h.2.2.2.2.2.2.2.2.1.2.2.2.length<=900000000:=z.2.2.2.2.2.2.2.2.1.2.2.2.1;unfold pX nT;rw[iT h (z.mono),ab,pz h (k.sz (by omega)),ab];cases hb:dW h with|false=>rfl|true=>?_
 have hl:=qo (by simp only[dW,ae]at hb;exact hb.2.2.2.2.1:qI h=true);have hr:=El hb;simp only[aj,af,YU x hx,ab,Sb h.2.2.2.2.2.2.2.1 _ (show h.2.2.2.2.2.2.2.1.2.2.length<=10^9 by omega),Zc h.2.2.2.2.2.2.2.2.1 _ _ (show h.2.2.2.2.2.2.2.2.1.1.length<=10^9 by omega) (show h.2.2.2.2.2.2.2.2.1.2.1.length<=10^9 by omega) (show h.2.2.2.2.2.2.2.2.1.2.2.2.length<=10^9 by omega)];generalize rm x=f;cases f.2 !=0 with|true=>rfl|false=>?_
 cases xL h.2.2.2.2.2.2.2.1 f.1 with|false=>rfl|true=>?_
 simp only[aj,af];have lX:=aaD (s:=h.2.2.2.2.2.2.2.2.1) (q:=(h.2.2.2.1.length:Int)) (p:=f.1);generalize ur h.2.2.2.2.2.2.2.2.1 (h.2.2.2.1.length:Int) f.1=r at lX⊢;rcases lX with rfl|⟨n,rfl,hn⟩;rfl;have i1:n<h.2.2.2.1.length:=by omega
 have i2:n<h.2.2.2.2.2.1.length:=by omega
 have hq:=(Ae (hr n i1)).1;have hqi:=tU hq;have ha:=Jb (show 1000<=900000000 by omega) (l:=h.2.1) (d:=0) (k:=h.2.2.2.2.2.2.2.2.1.2.2.1) (p:=f.1) (c:=h.2.2.2.2.2.2.2.2.2.2.1) z.1 (z.2.2.2.1.2 _ (bm i1)) hq;have ev:=Im (h:=zi h h.2.2.2.2.2.2.2.2.2.2.2.2.2.2.2.1 h.2.2.2.2.2.2.2.2.2.2.2.2.2.2.2.2.1 h.2.2.2.2.2.2.2.2.2.2.2.2.2.2.2.2.2.1 (aq (h.2.2.2.2.2.2.2.2.2.2.2.2.2.2.2.2.2.2+1))) (k:=n) (b:=h.2.2.2.1[n].2.1.2.2) (f:=kU h.2.1 h.1 0 h.2.2.2.1[n] h.2.2.2.2.2.2.2.2.1.2.2.1 f.1 h.2.2.2.2.2.2.2.2.2.2.1) i1 i2 ha.2.2.2;rw[show((n:Int)== -1)=false from by rw[dk];omega,az,al i1];simp only[af,bn i1,ab,UZ h.2.1 h.1 0 _ _ _ _ (show h.2.1.length<=10^9 by omega) (show h.1.length<=10^9 by omega)];rw[show(ks ((kU h.2.1 h.1 0 h.2.2.2.1[n] h.2.2.2.2.2.2.2.2.1.2.2.1 f.1 h.2.2.2.2.2.2.2.2.2.2.1).1,h.2.1,h.2.2.1,h.2.2.2.1.set n (kU h.2.1 h.1 0 h.2.2.2.1[n] h.2.2.2.2.2.2.2.2.1.2.2.1 f.1 h.2.2.2.2.2.2.2.2.2.2.1).2,h.2.2.2.2.1,h.2.2.2.2.2.1,h.2.2.2.2.2.2.1,h.2.2.2.2.2.2.2.1,h.2.2.2.2.2.2.2.2.1,h.2.2.2.2.2.2.2.2.2.1,h.2.2.2.2.2.2.2.2.2.2.1,h.2.2.2.2.2.2.2.2.2.2.2.1,h.2.2.2.2.2.2.2.2.2.2.2.2.1,h.2.2.2.2.2.2.2.2.2.2.2.2.2.1,aq (h.2.2.2.2.2.2.2.2.2.2.2.2.2.2.1+1),h.2.2.2.2.2.2.2.2.2.2.2.2.2.2.2.1,h.2.2.2.2.2.2.2.2.2.2.2.2.2.2.2.2.1,h.2.2.2.2.2.2.2.2.2.2.2.2.2.2.2.2.2.1,aq (h.2.2.2.2.2.2.2.2.2.2.2.2.2.2.2.2.2.2+1)) (n:Int) h.2.2.2.1[n].2.1.2.2)=_ from ev,ab]
theorem HV (hn:1000<=n)(x:Bytes)(k:yy n h):yy n (nT h x)/\(nT h x).2.2.1=h.2.2.1/\(nT h x).2.2.2.2.1.length=h.2.2.2.2.1.length:=by
 have z:=k.z;have zc:∀a b c d,yy n (zi h a b c d):=λa b c d=>⟨⟨z.1,z.2.1,z.2.2.1,z.2.2.2.1,z.2.2.2.2.1,z.2.2.2.2.2.1,z.2.2.2.2.2.2.1,z.2.2.2.2.2.2.2.1,z.2.2.2.2.2.2.2.2.1,z.2.2.2.2.2.2.2.2.2.1,z.2.2.2.2.2.2.2.2.2.2.1,z.2.2.2.2.2.2.2.2.2.2.2.1,z.2.2.2.2.2.2.2.2.2.2.2.2.1,z.2.2.2.2.2.2.2.2.2.2.2.2.2.1,cx,cx,cx,cx,cx⟩,k.t⟩
 unfold nT;cases hb:dW h with|false=>exact⟨k,rfl,rfl⟩|true=>?_
 have hr:=El hb;generalize rm x=f;cases f.2 !=0 with|true=>exact⟨zc ..,rfl,rfl⟩|false=>?_
 cases xL h.2.2.2.2.2.2.2.1 f.1 with|false=>exact⟨zc ..,rfl,rfl⟩|true=>?_
 simp only[aj,af];generalize ur h.2.2.2.2.2.2.2.2.1 (h.2.2.2.1.length:Int) f.1=r;cases r== -1 with|true=>exact⟨zc ..,rfl,rfl⟩|false=>?_
 simp only[af];cases hq:h.2.2.2.1[r.toNat]? with|none=>exact⟨k,rfl,rfl⟩|some q=>?_
 obtain⟨hi,hqe⟩:=aG.1 hq;have hqd:=(Ae (hr _ hi)).1;rw[hqe]at hqd;have ha:=Jb hn (l:=h.2.1) (d:=0) (k:=h.2.2.2.2.2.2.2.2.1.2.2.1) (p:=f.1) (c:=h.2.2.2.2.2.2.2.2.2.2.1) z.1 (z.2.2.2.1.2 _ (bp hq)) hqd;have zc':=zc h.2.2.2.2.2.2.2.2.2.2.2.2.2.2.2.1 h.2.2.2.2.2.2.2.2.2.2.2.2.2.2.2.2.1 h.2.2.2.2.2.2.2.2.2.2.2.2.2.2.2.2.2.1 (aq (h.2.2.2.2.2.2.2.2.2.2.2.2.2.2.2.2.2.2+1));have kk:=CP (h:=zi h h.2.2.2.2.2.2.2.2.2.2.2.2.2.2.2.1 h.2.2.2.2.2.2.2.2.2.2.2.2.2.2.2.2.1 h.2.2.2.2.2.2.2.2.2.2.2.2.2.2.2.2.2.1 (aq (h.2.2.2.2.2.2.2.2.2.2.2.2.2.2.2.2.2.2+1))) (k:=r.toNat) (b:=q.2.1.2.2) (f:=kU h.2.1 h.1 0 q h.2.2.2.2.2.2.2.2.1.2.2.1 f.1 h.2.2.2.2.2.2.2.2.2.2.1) ha.2.1;exact⟨⟨LM zc'.z ha.1 ha.2.2.1,by rw[kk.tx];exact k.t⟩,kk.tx,kk.pl⟩
theorem Xs (l:aw aA)(m:ca)(d:Int)(rx:bT)(pl:cK)(st:aw Stream)(c:Int):(jo l m d rx pl st c).1.length=m.length:=by unfold jo;cases !EP rx||(!dx pl|| !dm c 0 1000)with|true=>rfl|false=>exact W4 ..
def Bc (b:Int)(k:Nat)(s:Int×Host):Int×Host:=
 match s.2.2.2.2.2.2.1[k]?,s.2.2.2.2.2.2.2.1[k]?,s.2.2.2.2.1[k]?,s.2.2.2.2.2.1[k]? with
 |some v,some p,some x,some pl=>
  bif p||(BG v).2 then
   (aq (s.1+(jo s.2.2.1 s.2.1 0 x pl s.2.2.2.2.2.2.2.2.2.2.1 b).2.2.2.2),
    (jo s.2.2.1 s.2.1 0 x pl s.2.2.2.2.2.2.2.2.2.2.1 b).1,s.2.2.1,s.2.2.2.1,s.2.2.2.2.1.set k (jo s.2.2.1 s.2.1 0 x pl s.2.2.2.2.2.2.2.2.2.2.1 b).2.1,s.2.2.2.2.2.1.set k (jo s.2.2.1 s.2.1 0 x pl s.2.2.2.2.2.2.2.2.2.2.1 b).2.2.1,
    s.2.2.2.2.2.2.1.set k (bif decide ((jo s.2.2.1 s.2.1 0 x pl s.2.2.2.2.2.2.2.2.2.2.1 b).2.2.2.2<b) then Gi (BG v).1 else(BG v).1),
    s.2.2.2.2.2.2.2.1.set k (!decide ((jo s.2.2.1 s.2.1 0 x pl s.2.2.2.2.2.2.2.2.2.2.1 b).2.2.2.2<b)),s.2.2.2.2.2.2.2.2.1,s.2.2.2.2.2.2.2.2.2.1,(jo s.2.2.1 s.2.1 0 x pl s.2.2.2.2.2.2.2.2.2.2.1 b).2.2.2.1,s.2.2.2.2.2.2.2.2.2.2.2)
  else(s.1,s.2.1,s.2.2.1,s.2.2.2.1,s.2.2.2.2.1,s.2.2.2.2.2.1,s.2.2.2.2.2.2.1.set k (BG v).1,s.2.2.2.2.2.2.2.1.set k false,s.2.2.2.2.2.2.2.2)
 |_,_,_,_=>s
theorem Tq (b:Int)(k:Nat)(s:Int×Host):kg (k+1) s.2 (Bc b k s).2:=by
 unfold Bc;cases s.2.2.2.2.2.2.1[k]? with|none=>exact kg.refl _ _|some v=>?_
 cases s.2.2.2.2.2.2.2.1[k]? with|none=>exact kg.refl _ _|some p=>?_
 cases s.2.2.2.2.1[k]? with|none=>exact kg.refl _ _|some x=>?_
 cases s.2.2.2.2.2.1[k]? with|none=>exact kg.refl _ _|some pl=>?_
 simp only;cases p||(BG v).2 with|true=>exact⟨Xs ..,rfl,rfl,aC ..,λj hj=>aR (by omega),aC ..,aC ..,λj hj=>aR (by omega),aC ..,rfl,rfl⟩|false=>exact⟨rfl,rfl,rfl,rfl,λ_ _=>rfl,rfl,aC ..,λj hj=>aR (by omega),aC ..,rfl,rfl⟩
theorem V2 (b:Int)(k:Nat)(s:Int×Host)(hn:1000<=n)(z:cY n dJ s.2):cY (n+322000) dJ (Bc b k s).2:=by
 have z':cY (n+322000) dJ s.2:=z.mono;unfold Bc;cases s.2.2.2.2.2.2.1[k]? with|none=>exact z'|some v=>?_
 cases s.2.2.2.2.2.2.2.1[k]? with|none=>exact z'|some p=>?_
 cases h1:s.2.2.2.2.1[k]? with|none=>exact z'|some x=>?_
 cases h2:s.2.2.2.2.2.1[k]? with|none=>exact z'|some pl=>?_
 simp only;cases p||(BG v).2 with|true=>have hp:=NG (by omega) (l:=s.2.2.1) (d:=0) b z.1 (z.2.2.2.1.2 _ (bp h1)) (z.2.2.2.2.1.2 _ (bp h2)) z.2.2.2.2.2.2.2.2.2.1;exact⟨hp.1.mono,z'.2.1,z'.2.2.1,nR z'.2.2.2.1 (hp.2.1.mono),nR z'.2.2.2.2.1 hp.2.2.1,I5 z'.2.2.2.2.2.1,nR z'.2.2.2.2.2.2.1 trivial,z'.2.2.2.2.2.2.2.1,z'.2.2.2.2.2.2.2.2.1,hp.2.2.2.1,z'.2.2.2.2.2.2.2.2.2.2⟩|false=>exact⟨z'.1,z'.2.1,z'.2.2.1,z'.2.2.2.1,z'.2.2.2.2.1,I5 z'.2.2.2.2.2.1,nR z'.2.2.2.2.2.2.1 trivial,z'.2.2.2.2.2.2.2⟩
def qO (b:Int):Nat->Host->Int×Host
 |0,h=>(0,h)
 |k+1,h=>Bc b k (qO b k h)
theorem Ag (b:Int)(h:Host):∀k,kg k h (qO b k h).2
 |0=>kg.refl 0 h
 |k+1=>((Ag b h k).up (by omega)).trans (Tq b k _)
theorem Ez (b:Int)(hn:1000<=n)(z:cY n dJ h):∀k,cY (n+322000*k) dJ (qO b k h).2
 |0=>z
 |k+1=>(V2 b k _ (by omega) (Ez b hn z k)).mono
def pK (h:Host)(b:Int):Host×Int:=bif dW h&&dm b 1 1000 then((qO b h.2.2.2.1.length h).2,(qO b h.2.2.2.1.length h).1) else(h,0)
theorem Tr (hn:1000<=n)(b:Int)(k:yy n h):yy (n+644000) (pK h b).1:=by unfold pK;cases hb:dW h&&dm b 1 1000 with|false=>exact k.mono|true=>simp only[ae]at hb;have hl:=qo (by have:=hb.1;simp only[dW,ae]at this;exact this.2.2.2.2.1:qI h=true);refine⟨(Ez b hn k.z _).mono,?_⟩;simp only[ah];rw[(Ag b h _).tx];exact bA k.t (by omega)
theorem Sm (h:Host)(b:Int)(k:yy 400000000 h):pY h b=some (pK h b):=by
 have Bx:=ee;unfold pY pK;rw[iT h (k.z.mono),ab,pz h (k.sz (by omega)),ab,de];cases hb:dW h with|false=>rfl|true=>?_
 cases hi0:dm b 1 1000 with|false=>rfl|true=>?_
 have hl:=qo (by simp only[dW,ae]at hb;exact hb.2.2.2.2.1:qI h=true);simp only[aj,af,ab,eU,ah];refine eo (λi=>((qO b i h).1,(i:Int),(qO b i h).2)) h.2.2.2.1.length (by omega) (λi nx hi=>?_) (λnx=>?_);have kk:=Ag b h i;have zz:cY 500000000 dJ (qO b i h).2:=(Ez b (by omega) k.z i).mono;have i1:i<(qO b i h).2.2.2.2.1.length:=by rw[kk.rx];exact hi
 have i2:i<(qO b i h).2.2.2.2.2.1.length:=by rw[kk.pl];omega
 have i3:i<(qO b i h).2.2.2.2.2.2.1.length:=by rw[kk.vec];omega
 have i4:i<(qO b i h).2.2.2.2.2.2.2.1.length:=by rw[kk.VO];omega
 rw[show qO b (i+1) h=Bc b i (qO b i h) from rfl];generalize qO b i h=s at zz i1 i2 i3 i4⊢;have gp:∀(V:aw Vector)(P:aw Bool),jT (s.2.1,s.2.2.1,s.2.2.2.1,s.2.2.2.2.1,s.2.2.2.2.2.1,V,P,s.2.2.2.2.2.2.2.2) (i:Int) b=some ((jo s.2.2.1 s.2.1 0 s.2.2.2.2.1[i] s.2.2.2.2.2.1[i] s.2.2.2.2.2.2.2.2.2.2.1 b).2.2.2.2,(jo s.2.2.1 s.2.1 0 s.2.2.2.2.1[i] s.2.2.2.2.2.1[i] s.2.2.2.2.2.2.2.2.2.2.1 b).1,s.2.2.1,s.2.2.2.1,s.2.2.2.2.1.set i (jo s.2.2.1 s.2.1 0 s.2.2.2.2.1[i] s.2.2.2.2.2.1[i] s.2.2.2.2.2.2.2.2.2.2.1 b).2.1,s.2.2.2.2.2.1.set i (jo s.2.2.1 s.2.1 0 s.2.2.2.2.1[i] s.2.2.2.2.2.1[i] s.2.2.2.2.2.2.2.2.2.2.1 b).2.2.1,V,P,s.2.2.2.2.2.2.2.2.1,s.2.2.2.2.2.2.2.2.2.1,(jo s.2.2.1 s.2.1 0 s.2.2.2.2.1[i] s.2.2.2.2.2.1[i] s.2.2.2.2.2.2.2.2.2.2.1 b).2.2.2.1,s.2.2.2.2.2.2.2.2.2.2.2):=by intro V P;have C8:s.2.2.2.2.2.1[i].2.2.2.length<=500000000:=(zz.2.2.2.2.1.2 _ (bm i2)).2.2.2.1;have hm:s.2.1.length<=500000000:=zz.1.1;have hp:s.2.2.1.length<=500000000:=zz.2.1.1;unfold jT;simp only[bn i1,bn i2,ab,Sj s.2.2.1 s.2.1 0 _ _ _ b (show s.2.2.1.length<=10^9 by omega) (show s.2.1.length<=10^9 by omega) C8 zz.2.2.2.2.2.2.2.2.2.1,az]
 have Cj:∀V:Vector,s.2.2.2.2.2.2.1.set i V=s.2.2.2.2.2.2.1.set i V:=λ_=>rfl;unfold Bc;rw[al i1,al i2,al i3,al i4];simp only[lY];rw[kK,ah];simp only[bn i3,bn i4,ab,Zf,az,gp];generalize BG s.2.2.2.2.2.2.1[i]=w;generalize jo s.2.2.1 s.2.1 0 s.2.2.2.2.1[i] s.2.2.2.2.2.1[i] s.2.2.2.2.2.2.2.2.2.2.1 b=pr;have i5:∀V:Vector,i<(s.2.2.2.2.2.2.1.set i V).length:=λV=>by rw[aC];exact i3
 have i6:∀q:Bool,i<(s.2.2.2.2.2.2.2.1.set i q).length:=λq=>by rw[aC];exact i4
 have e5:∀V:Vector,idx (s.2.2.2.2.2.2.1.set i V) (i:Int)=some V:=λV=>by rw[bn (i5 V),List.getElem_set_self]
 have e6:∀q:Bool,idx (s.2.2.2.2.2.2.2.1.set i q) (i:Int)=some q:=λq=>by rw[bn (i6 q),List.getElem_set_self]
 rw[ak (n:=(i:Int)+1)];have yM:s.2.2.2.2.2.2.2.1.set i (s.2.2.2.2.2.2.2.1[i])=s.2.2.2.2.2.2.2.1:=List.set_getElem_self ..;generalize hp:s.2.2.2.2.2.2.2.1[i]=p at yM⊢;cases hw:w.2 with
 |true=>simp only[iu,ah,e6,e5,ab,aj,af,KD,List.set_set];cases decide (pr.2.2.2.2<b)<;>rfl
 |false=>
  simp only[Bool.or_false,af];cases p with
  |false=>rw[yM];rfl
  |true=>
   have e7:idx s.2.2.2.2.2.2.2.1 (i:Int)=some true:=by rw[bn i4,hp]
   simp only[ah,aj,af,e5,e7,ab,KD,List.set_set];cases decide (pr.2.2.2.2<b)with|true=>rfl|false=>simp only[af,bU,yM];rfl
 simp only[lY];rw[jj,af]
theorem aeh (hn:1000<=n)(k:yy n h):yy n (Aj h):=by have:=aeg hn k.z;exact⟨this.1,by rw[this.2];exact k.t⟩
def txt (_:Int):Bytes:=[]
def EK:(t:CT)->t.D->Nat
 | .int _,_=>1
 | .bool,_=>1
 | .str,_=>1
 | .sl e,xs=>(xs.map (EK e)).sum
 | .pair a b,x=>EK a x.1+EK b x.2
def mkL {α:Type}(f:α->Int->α)(c:α->Nat):aw α->Int->aw α
 |[],_=>[]
 |x::xs,k=>f x k::mkL f c xs (k+c x)
def mk:(t:CT)->t.D->Int->t.D
 | .int _,_,k=>k
 | .bool,_,k=>tmod k 3==0
 | .str,_,k=>txt k
 | .sl e,xs,k=>mkL (mk e) (EK e) xs k
 | .pair a b,x,k=>(mk a x.1 k,mk b x.2 (k+EK a x.1))
structure Hs (h:Host):Prop where
 pl:h.2.2.2.2.1.length<=2
 w:h.2.2.1.2.2.1.length<=16
theorem UG (hb:dW h=true):Hs h:=by have hl:=qo (by have:=hb;simp only[dW,ae]at this;exact this.2.2.2.2.1:qI h=true);have ht:=EF (t:=h.2.2.1) (by simp only[dW,ae]at hb;exact hb.2.2.1);exact⟨by omega,ht⟩
theorem JZ {a b:Host}(f:Hs a)(h:kg k a b):Hs b:=⟨by rw[h.pl];exact f.pl,by rw[h.tx];exact f.w⟩
theorem abm (f:Hs h):Hs (Aj h):=by unfold Aj;cases dW h with|false=>exact f|true=>exact JZ f (qE Bk h _)
theorem Yh (f:Hs h):Hs (xU h):=by unfold xU;cases dW h with|false=>exact f|true=>exact JZ f (qE yL h _)
theorem Yi (b:Int)(f:Hs h):Hs (pK h b).1:=by unfold pK;cases dW h&&dm b 1 1000 with|false=>exact f|true=>exact JZ f (Ag b h _)
theorem Pa (f:Hs h):Hs (mW h):=by unfold mW;cases dW h with|false=>exact f|true=>refine⟨f.pl,?_⟩;simp only[ah];generalize (if(h.2.2.1.2.2.1.length:Int)<aq ((lN h.2.1 h.1 0 h.2.2.1.1).2.2.1+(lN h.2.1 h.1 0 h.2.2.1.1).2.2.2) then(h.2.2.1.2.2.1.length:Int) else aq ((lN h.2.1 h.1 0 h.2.2.1.1).2.2.1+(lN h.2.1 h.1 0 h.2.2.1.1).2.2.2))=q;unfold kR;cases LH ((lN h.2.1 h.1 0 h.2.2.1.1).1,h.2.2.1.2)&&dm q 0 (h.2.2.1.2.2.1.length:Int)with|false=>exact f.w|true=>show(h.2.2.1.2.2.1.drop q.toNat).length<=16;rw[aL];have:=f.w;omega
def aet (a:Act):ax Bool:=
 aa (aa (some (dm a.1 0 6)) λr1=>cond (!r1) (some true) (some (decide ((a.2.2.2.2.1.length:Int)>600)))) λq2=>
 cond q2 (some false) (
 aa (cond (a.1 !=0) (cond (!((a.2.1.1==0)&&((a.2.1.2.1==0)&&((a.2.1.2.2.1==0)&&((a.2.1.2.2.2.1==0)&&((a.2.1.2.2.2.2.1==0)&&((a.2.1.2.2.2.2.2.1==0)&&((a.2.1.2.2.2.2.2.2.1==0)&&((a.2.1.2.2.2.2.2.2.2.1==0)&&((a.2.1.2.2.2.2.2.2.2.2.1==0)&&((a.2.1.2.2.2.2.2.2.2.2.2.1==0)&&((a.2.1.2.2.2.2.2.2.2.2.2.2.1==0)&&((a.2.1.2.2.2.2.2.2.2.2.2.2.2.1==0)&&((a.2.1.2.2.2.2.2.2.2.2.2.2.2.2.1==0)&&((a.2.1.2.2.2.2.2.2.2.2.2.2.2.2.2.1==0)&&((a.2.1.2.2.2.2.2.2.2.2.2.2.2.2.2.2.1==0)&&((a.2.1.2.2.2.2.2.2.2.2.2.2.2.2.2.2.2==([]:Bytes))&&true))))))))))))))))) (some true) (cond (a.2.2.1 !=0) (some true) (some (a.2.2.2.1 !=0)))) (some false)) λq3=>
 cond q3 (some false) (
 aa (cond (a.1==2) (cond (a.1==5) (some true) (some (a.2.2.2.2.2==0))) (cond (a.2.2.2.2.1==([]:Bytes)) (cond (a.1==5) (some true) (some (a.2.2.2.2.2==0))) (some false))) λq4=>some q4))
theorem XX (a:Act):∃b,aet a=some b:=by simp only[aet,bL,ab];exact⟨_,rfl⟩
def QI (a:Act):Bool:=(aet a).getD false
theorem aeu (a:Act):aet a=some (QI a):=by obtain⟨b,hb⟩:=XX a;simp[QI,hb]
theorem aeV (a:Act):AF a=some (QI a):=by rw[<-aeu];unfold AF;rw[de];rfl
theorem yy.tx (k:yy n h)(hn:n<=10^9):aes h.2.2.1:=
 have z:cY 1000000000 dJ h:=k.z.mono hn
 ⟨z.2.2.1.2.1.2.2.2.1,z.2.2.1.2.2.1.1,λx hx=>(z.2.2.1.2.2.1.2 x hx).2.2.1⟩
def Af (h:Host)(p:aO)(c z:Int):Host×Bool:=
 bif dW h then(((uM h.2.1 h.1 0 h.2.2.1 p c z).1,h.2.1,(uM h.2.1 h.1 0 h.2.2.1 p c z).2.1,h.2.2.2),(uM h.2.1 h.1 0 h.2.2.1 p c z).2.2) else(h,false)
theorem YX (h:Host)(p:aO)(c z:Int)(k:yy 900000000 h):vn h p c z=some (Af h p c z):=by
 have zz:cY 1000000000 dJ h:=k.z.mono;unfold vn Af;rw[iT h zz,ab,pz h (k.sz (by omega)),ab];cases dW h with|false=>rfl|true=>?_
 simp only[aj,af,ah,YY _ _ _ _ _ _ _ zz.2.1.1 zz.1.1 (k.tx (by omega)) zz.2.2.1.2.2.1.1 (bA k.t (by omega)),ab]
theorem MU (hn:128<=n)(l:aw aA)(d:Int)(p:cK)(z:Nat):∀(q:cL)(s:Bytes)(m:ca)(a:aw gv){x},cY n (.sl .str) m->vU l d p z q s m a=some x->cY n (.sl .str) x.2
 |[],s,m,a,x,hm,h=>by cases h;exact hm
 |b::q,s,m,a,x,hm,h=>by rw[vU]at h;cases hq:(gZ l m d (nJ p b) (s.take z) false).2 with|false=>rw[hq]at h;cases h|true=>rw[hq]at h;exact MU hn l d p z q _ _ _ (Cx hn hm ..) h
theorem HU (hn:128<=n)(l:aw aA)(d:Int):∀(q:ca)(m:ca)(r:lE){x},cY n (.sl .str) m->qq l d q m r=some x->cY n (.sl .str) x.1
 |[],m,r,x,hm,h=>by cases h;exact hm
 |s::q,m,r,x,hm,h=>by rw[qq]at h;cases hq:(cJ l m d r s).2.2 with|false=>rw[hq]at h;cases h|true=>rw[hq]at h;exact HU hn l d q _ _ (FU hn hm ..) h
theorem S9 (hn:128<=n){q:ca}(hm:cY n (.sl .str) m):cY n (.sl .str) (tS l m d r q).1:=by unfold tS;cases hx:qq l d q m r with|none=>exact hm|some x=>exact HU hn l d q m r hm hx
theorem aaI (p:cK)(n:Int):(jV p n).1.2.2.2.length+(jV p n).2.1.length=p.2.2.2.length:=by unfold jV;cases dx p&&dm n 0 (p.2.2.2.length:Int)with|false=>rfl|true=>simp only[ah,aL,aZ];omega
theorem X5 (a:aw kI)(x:kI):(bz (a++[x])).length=(bz a).length+x.2.2.length:=by simp[bz]
theorem Tp:∀l:aw kI,(∀x∈l,1<=x.2.1)->(l.length:Int)<=dH l
 |[],_=>by simp[dH]
 |y::l,h=>by have h1:=Tp l (λx hx=>h x (eO _ hx));have h2:=h y (List.mem_cons_self ..);simp only[dH,cR,List.sum_cons,bB]at h1⊢;omega
structure af3 (n:Nat) (m:List Bytes) (t:dG) (r:List Bytes×dG×Bool):Prop where
 mem:cY n (.sl .str) r.1
 tx:cY (n+1) kh r.2.1
 sum:r.2.1.2.1.2.2.2.length+(bz r.2.1.2.2.1).length<=n
 w:r.2.1.2.2.1.length<=16\/r.2.1.2.2.1=t.2.2.1
theorem NO (hn:128<=n){z:Int}(d:Int)(hm:cY n (.sl .str) m)(ht:cY n kh t)(hs:t.2.1.2.2.2.length+(bz t.2.2.1).length<=n):af3 n m t (uM l m d t p c z):=by
 have old:af3 n m t (m,t,false):=⟨hm,ht.mono,hs,Or.inr rfl⟩
 unfold uM;cases hg:LH t&&(dw p&&(dm z 1 t.2.1.2.1&&dm c 1 128))with|false=>exact old|true=>?_
 simp only[ae]at hg;simp only[ah];generalize xO p z.toNat=k;cases hk:HA t k with|false=>exact old|true=>?_
 simp only[ah];cases hx:vU l d t.2.1 z.toNat (jV t.2.1 (k:Int)).2.1 (jR p).1 m []with|none=>exact old|some x=>?_
 simp only;unfold Lk;have hpm:=S9 (n:=n) hn (l:=l) (d:=d) (q:=(pt x.1 c t.2.2.2).map wT) (r:=t.1) (MU hn l d t.2.1 z.toNat _ _ _ _ hm hx);generalize tS l x.2 d t.1 ((pt x.1 c t.2.2.2).map wT)=w at hpm⊢;cases w.2.2 with|false=>exact old|true=>?_
 have hl:=aaI t.2.1 (k:Int);have hb:=X5 t.2.2.1 (t.2.2.2,(k:Int)+1,(jV t.2.1 (k:Int)).2.1);have hb:(bz (t.2.2.1++[(t.2.2.2,(k:Int)+1,(jV t.2.1 (k:Int)).2.1)])).length=(bz t.2.2.1).length+(jV t.2.1 (k:Int)).2.1.length:=hb;refine⟨hpm,⟨⟨cx,cx,cx,cx⟩,⟨cx,cx,cx,?_,λ_ _=>trivial⟩,?_,cx⟩,?_,Or.inl ?_⟩;show(jV t.2.1 (k:Int)).1.2.2.2.length<=n+1;omega;exact GR (t:=ia) (k:=1) ht.2.2.1 (λy hy=>by rw[cn.1 hy];exact⟨cx,cx,by show(jV t.2.1 (k:Int)).2.1.length<=n;omega,λ_ _=>trivial⟩) (by simp);show(jV t.2.1 (k:Int)).1.2.2.2.length+(bz (t.2.2.1++[(t.2.2.2,(k:Int)+1,(jV t.2.1 (k:Int)).2.1)])).length<=n;omega;show(t.2.2.1++[_]).length<=16;have hq:=hg.1;simp only[LH,ae]at hq;have T4:=kF hq.1;have hc:=Tp t.2.2.1 (λx hx=>by have:=aE.1 hq.2.2.2.1 x hx;simp only[nz,ae,bh]at this;omega);unfold HA at hk;simp only[ae,aK,cw]at hk;rw[ai,bt];omega
theorem acT (hn:1000<=n)(p:aO)(c z:Int)(k:yy n h):yy (n+1) (Af h p c z).1:=by
 unfold Af;cases dW h with|false=>exact k.mono|true=>?_
 have zz:=k.z;have s:=NO (by omega) (l:=h.2.1) (p:=p) (c:=c) (z:=z) 0 zz.1 zz.2.2.1 k.t;have z1:cY (n+1) dJ h:=zz.mono;exact⟨⟨s.mem.mono,z1.2.1,s.tx,z1.2.2.2⟩,bA s.sum (by omega)⟩
theorem abl (hn:1000<=n)(p:aO)(c z:Int)(k:yy n h)(f:Hs h):Hs (Af h p c z).1:=by
 unfold Af;cases dW h with|false=>exact f|true=>?_
 have s:=NO (by omega) (l:=h.2.1) (p:=p) (c:=c) (z:=z) 0 k.z.1 k.z.2.2.1 k.t;refine⟨f.pl,?_⟩;rcases s.w with w|w;exact w;show(uM h.2.1 h.1 0 h.2.2.1 p c z).2.1.2.2.1.length<=16;rw[w];exact f.w
theorem Rt (hn:1000<=n)(x:Bytes)(k:yy n h)(f:Hs h):Hs (nT h x):=by have:=HV hn x k;exact⟨by rw[this.2.2];exact f.pl,by rw[this.2.1];exact f.w⟩
theorem HW (h:Host):∀k,(il h k).2.2.1=h.2.2.1
 |0=>rfl
 |k+1=>by
  show(ym k (il h k)).2.2.1=_;rw[<-HW h k];generalize il h k=s;unfold ym;cases h1:s.2.2.2.1[k]? with|none=>rfl|some x=>?_
  cases h2:s.2.2.2.2.2.1[k]? with|none=>rfl|some v=>rfl
theorem NJ (hn:1000<=n)(k:yy n h)(f:Hs h):yy (n+645000) (zA h)/\Hs (zA h):=by
 unfold zA;cases hb:dW h with|false=>exact⟨k.mono,f⟩|true=>?_
 have hl:=qo (Km hb);have e:=Hy hn k.z hl.1;have hw:=f.w;have hp:=AU (n:=n) (by omega) k.z h.2.2.2.1.length;have ht:=(wk (n:=n+322000*h.2.2.2.1.length) (h:=h) hp.2 h.2.2.1.2.2.1.length).1.e;have h4:=nu 256 128 8;simp only[ah];have hx:=HW (rG h) h.2.2.2.1.length;have hk:=(vC (rG h) h.2.2.2.1.length).pl;have C8:(rG h).2.2.2.2.1.length=h.2.2.2.2.1.length:=by show(returned h h.2.2.1.2.2.1.length).2.2.2.2.1.length=_;rw[ht];exact hp.1.pl
 refine⟨⟨(Ba (by omega) e _).mono,?_⟩,?_,?_⟩;rw[hx];show(gS 256 128 8).1.2.2.2.length+0<=_;omega;rw[hk,C8];exact f.pl;rw[hx];show 0<=16;omega
def abn (f:iz):aw Stream->Int->Int
 |[],_=> -1
 |s::r,i=>if s.1=f then i else abn f r (i+1)
def aaW (a b:aw Stream)(f:iz):Bool:=
 match idx a (abn f a 0),idx b (abn f b 0)with
 |some x,some y=>decide (x=y)
 |_,_=>false
def at6 (b:Bool):Int:=bif b then 1 else 0
def zg (h:Host)(a:Act):Host×Int:=
 bif !dW h|| !QI a then(h, -1) else
 bif a.1==0 then((Af h a.2.1 a.2.2.1 a.2.2.2.1).1,at6 (Af h a.2.1 a.2.2.1 a.2.2.2.1).2) else
 bif a.1==1 then(mW h,0) else
 bif a.1==2 then(nT h a.2.2.2.2.1,0) else
 bif a.1==3 then(xU h,0) else
 bif a.1==4 then(Aj h,0) else
 bif a.1==5 then pK h a.2.2.2.2.2 else(zA h,0)
theorem YL (h:Host)(a:Act)(k:yy 90000000 h)(hx:a.2.2.2.2.1.length<=10^9):AH h a=some (zg h a):=by
 have z:cY 1000000000 dJ h:=k.z.mono;unfold AH zg;rw[pz h (k.sz (by omega)),ab,aeV,ab];cases dW h with|false=>simp only[bU,ah,gG,ab,iT h z]|true=>?_
 cases QI a with|false=>simp only[aj,bU,ah,af,iu,ab,iT h z]|true=>?_
 simp only[aj,af,bQ,ab,YX h _ _ _ (k.mono),PK h (k.mono),PI h _ (k.mono) hx,U3 h (k.mono),ab4 h (k.sz (by omega)) z,Sm h _ (k.mono),Md h (k.sz (by omega)) (k.z.mono)];cases a.1==0 with|true=>(simp only[ah];cases (Af h a.2.1 a.2.2.1 a.2.2.2.1).2<;>rfl)|false=>?_
 cases a.1==1 with|true=>rfl|false=>?_
 cases a.1==2 with|true=>rfl|false=>?_
 cases a.1==3 with|true=>rfl|false=>?_
 cases a.1==4 with|true=>rfl|false=>?_
 cases a.1==5<;>rfl
theorem aev (hn:1000<=n)(a:Act)(k:yy n h)(f:dW h=true\/Hs h):yy (n+645000) (zg h a).1/\(dW h=true\/Hs h->Hs (zg h a).1\/(zg h a).1=h):=by
 have f:Hs h:=f.elim UG id;unfold zg;cases !dW h|| !QI a with|true=>exact⟨k.mono,λ_=>Or.inr rfl⟩|false=>?_
 simp only[af];cases a.1==0 with|true=>exact⟨(acT hn _ _ _ k).mono,λ_=>Or.inl (abl hn _ _ _ k f)⟩|false=>?_
 cases a.1==1 with|true=>exact⟨(Qy (by omega) k).mono,λ_=>Or.inl (Pa f)⟩|false=>?_
 cases a.1==2 with|true=>exact⟨(HV hn _ k).1.mono,λ_=>Or.inl (Rt hn _ k f)⟩|false=>?_
 cases a.1==3 with|true=>exact⟨(Yo hn k).mono,λ_=>Or.inl (Yh f)⟩|false=>?_
 cases a.1==4 with|true=>exact⟨(aeh hn k).mono,λ_=>Or.inl (abm f)⟩|false=>?_
 cases a.1==5 with|true=>exact⟨(Tr hn _ k).mono,λ_=>Or.inl (Yi _ f)⟩|false=>exact⟨(NJ hn k f).1,λ_=>Or.inl (NJ hn k f).2⟩
theorem aaU (hn:1000<=n)(a:Act)(k:yy n h)(f:Hs h):yy (n+645000) (zg h a).1/\Hs (zg h a).1:=by have g:=aev hn a k (Or.inr f);refine⟨g.1,?_⟩;rcases g.2 (Or.inr f)with h1|h1;exact h1;rw[h1];exact f
def TE (s:Host×cL)(a:Act):Host×cL:=((zg s.1 a).1,s.2++[(zg s.1 a).2])
def rn (h:Host)(l:aw Act):Host×cL:=l.foldl TE (h,[])
theorem NL (h:Host)(l:aw Act)(i:Nat)(hi:i<l.length):rn h (l.take (i+1))=TE (rn h (l.take i)) l[i]:=by rw[bI hi,rn,List.foldl_append];rfl
theorem Ld (hn:1000<=n)(k:yy n h)(f:Hs h)(l:aw Act):∀i,i<=l.length->yy (n+645000*i) (rn h (l.take i)).1/\Hs (rn h (l.take i)).1/\(rn h (l.take i)).2.length=i
 |0,_=>⟨k,f,rfl⟩
 |i+1,hi=>by have g:=Ld hn k f l i (by omega);have e:=aaU (by omega) (l[i]'(by omega)) g.1 g.2.1;rw[NL h l i (by omega)];refine⟨e.1.mono,e.2,?_⟩;show(_++[_]).length=_;rw[ai,g.2.2];rfl
def tW (h:Host)(l:aw Act):Host×cL:=bif !dW h||decide ((l.length:Int)>40) then(h,[]) else rn h l
theorem Cm (h:Host)(l:aw Act)(k:yy 50000000 h)(hx:∀a∈l,a.2.2.2.2.1.length<=10^9):qc h l=some (tW h l):=by
 have Bx:=ee;unfold qc tW;rw[iT h (k.z.mono),ab,pz h (k.sz (by omega)),ab];cases hb:dW h with|false=>rfl|true=>?_
 cases hl:decide ((l.length:Int)>40)with|true=>rfl|false=>?_
 rw[cw]at hl;simp only[aj,af,ab,bQ];refine eo (λi=>((rn h (l.take i)).2,(i:Int),(rn h (l.take i)).1)) l.length (by omega) (λi nx hi=>?_) (λnx=>?_);have g:=Ld (by omega) k (UG hb) l i (by omega);rw[NL h l i hi];generalize rn h (l.take i)=s at g⊢;simp only[rN];rw[kK,ah,bn hi,ab,YL _ _ (g.1.mono) (hx _ (bm hi)),ab,aS (by rw[g.2.2,bt];omega),ak];rfl;simp only[rN];rw[jj,af,dS]
theorem HZ (hn:1000<=n)(k:yy n h)(l:aw Act):yy (n+25800000) (tW h l).1/\(tW h l).2.length<=40/\((tW h l).1=h\/Hs (tW h l).1):=by
 unfold tW;cases hb:dW h with|false=>exact⟨k.mono,bO _,Or.inl rfl⟩|true=>?_
 cases hl:decide ((l.length:Int)>40)with|true=>exact⟨k.mono,bO _,Or.inl rfl⟩|false=>?_
 rw[cw]at hl;have g:=Ld hn k (UG hb) l l.length (aU _);rw[dS]at g;exact⟨g.1.mono,by show(rn h l).2.length<=40;rw[g.2.2];omega,Or.inr g.2.1⟩
theorem Vy (h:cD m=true)(a:Int)(s:Bytes):cD (qG m a s).1=true:=by
 unfold qG;cases hw:gu m a (s.length:Int)with|false=>exact h|true=>?_
 simp only[gu,ae,aB]at hw;exact qp.2 (xB s.length (qp.1 hw.1) (by omega)).1
theorem SO:∀(q:aw (Int×Int)){m:ca}(s:Bytes),cD m=true->cD (K8 q m s)=true
 |[],_,_,h=>h
 |p::q,m,s,h=>by rw[K8];exact SO q _ (Vy h _ _)
theorem Cs (h:cD m=true)(l:aw aA)(d a:Int)(s:Bytes)(w:Bool):cD (gZ l m d a s w).1=true:=by unfold gZ;cases (kx l m d a (s.length:Int) w).2 with|false=>exact h|true=>exact SO _ _ h
theorem HN (h:cD m=true)(l:aw aA)(d:Int)(r:lE)(s:Bytes):cD (cJ l m d r s).1=true:=by
 unfold cJ;cases (nK r==0)||((s.length:Int) !=16)with|true=>exact h|false=>?_
 cases (gZ l m d (nU r r.2.2.2) s true).2 with|false=>exact h|true=>exact Cs h ..
theorem Cz {n x y:Int}(hb:0<=b/\b<=130944:=by omega)(hn:n=2\/n=4\/n=8\/n=16:=by omega)(hx:0<=x/\x<=2*n-1:=by omega)(hy:0<=y/\y<=2*n-1:=by omega)(hu:(y-x)%(2*n)<=n:=by omega):cU (b,n,x,y)=true:=by have hs:iL n=true:=gF.2 hn;simp only[cU,bH,hs,bh.2 hb,bh.2 hx,bh.2 hy,bP,bC,aB];exact hu
theorem Dg (h:cU r=true):bH r=(r.2.2.2-r.2.2.1)%(2*r.2.1)/\0<=bH r/\bH r<=r.2.1:=by
 have k:=kF h;have e:bH r=(r.2.2.2-r.2.2.1)%(2*r.2.1):=by unfold bH;rw[aF (gF.2 k.2.2.1)]
 simp only[cU,ae,aB]at h;exact⟨e,by rw[e];exact eG _ (by omega),h.2.2.2.2⟩
theorem Hq {x n:Int}(hn:0<n:=by omega)(hx:0<=x/\x<=n-1:=by omega):tmod (x+1) n=if x+1=n then 0 else x+1:=by rw[dg (by omega)];split;rename_i h;rw[h];exact Int.emod_self;exact Int.emod_eq_of_lt (by omega) (by omega)
theorem aae (h:cU r=true)(hf:bH r<r.2.1):cU (r.1,r.2.1,r.2.2.1,tmod (r.2.2.2+1) (2*r.2.1))=true/\bH (r.1,r.2.1,r.2.2.1,tmod (r.2.2.2+1) (2*r.2.1))=bH r+1:=by
 have k:=kF h;have u:=Dg h;have e:=Hq (x:=r.2.2.2) (n:=2*r.2.1);have u2:(tmod (r.2.2.2+1) (2*r.2.1)-r.2.2.1)%(2*r.2.1)=bH r+1:=by
  have h1:(tmod (r.2.2.2+1) (2*r.2.1)-r.2.2.1)%(2*r.2.1)=(r.2.2.2+1-r.2.2.1)%(2*r.2.1):=by rw[e];split;rename_i hh;rw[<-hh,show(r.2.2.2+1-r.2.2.1)=(0-r.2.2.1)+(r.2.2.2+1) by omega,Int.add_emod_right];rfl
  rw[h1,show r.2.2.2+1-r.2.2.1=(r.2.2.2-r.2.2.1)+1 by omega];have h0:=u.1;generalize r.2.2.2-r.2.2.1=d at h0⊢;rw[Int.add_emod,<-h0,Int.emod_eq_of_lt (a:=1) (by omega) (by omega),Int.emod_eq_of_lt (by omega) (by omega)]
 refine⟨Cz ⟨k.1,k.2.1⟩ k.2.2.1 ⟨k.2.2.2.1,k.2.2.2.2.1⟩ (by rw[e];split<;>omega) (by rw[u2];omega),?_⟩;unfold bH;rw[aF (gF.2 k.2.2.1)];exact u2
theorem acL (h:cU r=true)(hf:bH r≠0):cU (r.1,r.2.1,tmod (r.2.2.1+1) (2*r.2.1),r.2.2.2)=true/\bH (r.1,r.2.1,tmod (r.2.2.1+1) (2*r.2.1),r.2.2.2)=bH r-1:=by
 have k:=kF h;have u:=Dg h;have e:=Hq (x:=r.2.2.1) (n:=2*r.2.1);have u2:(r.2.2.2-tmod (r.2.2.1+1) (2*r.2.1))%(2*r.2.1)=bH r-1:=by
  have h1:(r.2.2.2-tmod (r.2.2.1+1) (2*r.2.1))%(2*r.2.1)=(r.2.2.2-(r.2.2.1+1))%(2*r.2.1):=by rw[e];split;rename_i hh;rw[<-hh,show(r.2.2.2-0)=(r.2.2.2-(r.2.2.1+1))+(r.2.2.1+1) by omega,Int.add_emod_right];rfl
  rw[h1,show r.2.2.2-(r.2.2.1+1)=(r.2.2.2-r.2.2.1)-1 by omega];have h0:=u.1;generalize r.2.2.2-r.2.2.1=d at h0⊢;rw[Int.sub_emod,<-h0,Int.emod_eq_of_lt (a:=1) (by omega) (by omega),Int.emod_eq_of_lt (by omega) (by omega)]
 refine⟨Cz ⟨k.1,k.2.1⟩ k.2.2.1 (by rw[e];split<;>omega) ⟨k.2.2.2.2.2.1,k.2.2.2.2.2.2⟩ (by rw[u2];omega),?_⟩;unfold bH;rw[aF (gF.2 k.2.2.1)];exact u2
theorem Yp (h:cU r=true):nK r=r.2.1-bH r:=by have k:=kF h;have u:=Dg h;unfold nK;rw[h,ah,ak]
theorem Th (h:cU r=true)(l:aw aA)(m:ca)(d:Int)(s:Bytes):cU (cJ l m d r s).2.1=true/\(cJ l m d r s).2.1.2.1=r.2.1:=by
 unfold cJ;cases hc:(nK r==0)||((s.length:Int) !=16)with|true=>exact⟨h,rfl⟩|false=>?_
 cases (gZ l m d (nU r r.2.2.2) s true).2 with
 |false=>exact⟨h,rfl⟩
 |true=>
  simp only[ch]at hc;have h1:nK r≠0:=by simpa using hc.1
  rw[Yp h]at h1;have u:=Dg h;exact⟨(aae h (by omega)).1,rfl⟩
theorem NK (h:cU r=true)(l:aw aA)(m:ca)(d:Int):cU (bl l m d r).2.1=true/\(bl l m d r).2.1.2.1=r.2.1:=by
 unfold bl;cases hc: !cU r||(bH r==0)with|true=>exact⟨h,rfl⟩|false=>?_
 cases (qL l m d (nU r r.2.2.1) 16).2 with|false=>exact⟨h,rfl⟩|true=>simp only[ch]at hc;exact⟨(acL h (by simpa using hc.2)).1,rfl⟩
theorem abq {n:Int}{l:cL}:(List.range l.length).all (B9 n l)=true↔(∀x∈l,0<=x/\x<=n-1)/\l.Nodup:=by
 rw[aE];constructor;intro h;have k:∀i (hi:i<l.length),(0<=l[i]/\l[i]<=n-1)/\l[i]∉l.take i:=by intro i hi;have:=h i (bW.2 hi);unfold B9 at this;rw[cI hi,ae,bh]at this;exact⟨this.1,by simpa using this.2⟩
 refine⟨λx hx=>?_,?_⟩;obtain⟨i,hi,rfl⟩:=eX hx;exact(k i hi).1;rw[List.Nodup,List.pairwise_iff_getElem];intro i j hi hj hij he;refine(k j hj).2 ?_;rw[<-he];exact List.mem_take_iff_getElem.2 ⟨i,by omega,rfl⟩;rintro⟨h1,h2⟩ i hi;have hi:=bW.1 hi;unfold B9;rw[cI hi,ae,bh];refine⟨h1 _ (bm hi),?_⟩;have:l[i]∉l.take i:=by intro hm;obtain⟨j,hj,he⟩:=List.mem_take_iff_getElem.1 hm;rw[List.Nodup,List.pairwise_iff_getElem]at h2;exact h2 j i (by omega) hi (by omega) he
 simpa using this
theorem Ab {p:cK}:dx p=true↔(0<=p.1/\p.1<=130944)/\(1<=p.2.1/\p.2.1<=512)/\(0<=p.2.2.1/\p.2.2.1<=16)/\(∀x∈p.2.2.2,0<=x/\x<=p.2.2.1-1)/\p.2.2.2.Nodup:=by unfold dx;simp only[ae,bh,abq]
theorem Cw {p:cK}(h:dx p=true){l:cL}(hl:l.Sublist p.2.2.2):dx (p.1,p.2.1,p.2.2.1,l)=true:=by have k:=Ab.1 h;exact Ab.2 ⟨k.1,k.2.1,k.2.2.1,λx hx=>k.2.2.2.1 x (hl.subset hx),k.2.2.2.2.sublist hl⟩
theorem Z3 {p:cK}(h:dx p=true)(l:cL):dx (Ei p l).1=true:=by unfold Ei;cases hg:zL p l with|false=>exact h|true=>unfold zL at hg;simp only[ae]at hg;exact hg.2
theorem F0 {n:Int}{s:kI}:nz n s=true↔(1<=s.2.1/\s.2.1<=n)/\0<=s.1/\s.1<=65535:=by unfold nz;simp only[ae,bh]
structure ET (t:dG):Prop where
 ring:cU t.1=true
 next:0<=t.2.2.2/\t.2.2.2<=65535
 sent:∀x∈t.2.2.1,(1<=x.2.1/\x.2.1<=t.1.2.1)/\0<=x.1/\x.1<=65535
 pool:dx (gk t.2.1 (bz t.2.2.1))=true
 EK:dH t.2.2.1<=t.1.2.1
theorem ET.free (h:ET t):dx t.2.1=true:=Cw h.pool (List.sublist_append_left _ _)
theorem ajX:LH t=true↔ET t:=by constructor;intro h;unfold LH at h;simp only[ae,bh,aE,F0,aB]at h;obtain⟨h1,h2,h3,h4,h5,h6⟩:=h;unfold zL at h5;simp only[ae]at h5;exact⟨h1,h3,h4,h5.2,h6⟩;·intro h;unfold LH zL;simp only[ae,bh,aE,F0,aB];exact⟨h.ring,h.free,h.next,h.sent,⟨h.free,h.pool⟩,h.EK⟩
theorem Hv (a b:aw kI):bz (a++b)=bz a++bz b:=by simp[bz]
theorem MK (a b:aw kI):dH (a++b)=dH a+dH b:=by simp[dH]
theorem M3:∀(l:aw kI)(p:cK),dx (gk p (bz l))=true->pw p l=gk p (bz l)
 |[],p,_=>by simp[pw,bz,gk]
 |x::l,p,h=>by
  have e:bz (x::l)=x.2.2++bz l:=by simp[bz]
  rw[e]at h;have h1:dx (gk p x.2.2)=true:=Cw (p:=gk p (x.2.2++bz l)) h (by show(p.2.2.2++x.2.2).Sublist (p.2.2.2++(x.2.2++bz l));rw[<-aP];exact List.sublist_append_left _ _);have h0:dx p=true:=Cw (p:=gk p x.2.2) h1 (List.sublist_append_left _ _);have hg:(Ei p x.2.2).1=gk p x.2.2:=by unfold Ei zL;rw[h0,h1];rfl
  have ea:gk (gk p x.2.2) (bz l)=gk p (x.2.2++bz l):=by simp[gk]
  rw[pw,hg,M3 l _ (by rw[ea];exact h),ea,e]
theorem afU (h:ET t)(hr:cU r=true)(hn:r.2.1=t.1.2.1):ET (r,t.2):=
 ⟨hr,h.next,λx hx=>by show(1<=x.2.1/\x.2.1<=r.2.1)/\_;rw[hn];exact h.sent x hx,h.pool,by show dH t.2.2.1<=r.2.1;rw[hn];exact h.EK⟩
theorem TP (h:ET t)(n:Int):ET (kR t n).1:=by
 unfold kR;cases hc:LH t&&dm n 0 (t.2.2.1.length:Int)with|false=>exact h|true=>?_
 simp only[ae,bh]at hc;have hs:t.2.2.1.take n.toNat++t.2.2.1.drop n.toNat=t.2.2.1:=cb _ _;have hb:bz t.2.2.1=bz (t.2.2.1.take n.toNat)++bz (t.2.2.1.drop n.toNat):=by rw[<-Hv,hs]
 have hp:dx (gk t.2.1 (bz (t.2.2.1.take n.toNat)))=true:=Cw (p:=gk t.2.1 (bz t.2.2.1)) h.pool (by show(t.2.1.2.2.2++_).Sublist (t.2.1.2.2.2++_);rw[hb];exact(List.sublist_append_left _ _).append_left _);have hg:=M3 _ _ hp;refine⟨h.ring,h.next,λx hx=>h.sent x (List.mem_of_mem_drop hx),?_,?_⟩;show dx (gk (pw t.2.1 (t.2.2.1.take n.toNat)) (bz (t.2.2.1.drop n.toNat)))=true;rw[hg,show gk (gk t.2.1 (bz (t.2.2.1.take n.toNat))) (bz (t.2.2.1.drop n.toNat))=gk t.2.1 (bz t.2.2.1) by rw[hb];simp[gk]];exact h.pool;show dH (t.2.2.1.drop n.toNat)<=t.1.2.1;have h1:dH t.2.2.1=dH (t.2.2.1.take n.toNat)+dH (t.2.2.1.drop n.toNat):=by rw[<-MK,hs]
 have h2:0<=dH (t.2.2.1.take n.toNat):=wS t.1.2.1 _ (by rw[aE];exact λx hx=>F0.2 (h.sent x (List.mem_of_mem_take hx)));have:=h.EK;omega
theorem Jl (l:aw aA)(m:ca)(d:Int):∀(n:Nat)(acc:aw CS)(r:lE),cU r=true->cU (sZ l m d n acc r).2.1=true/\(sZ l m d n acc r).2.1.2.1=r.2.1
 |0,acc,r,h=>⟨h,rfl⟩
 |n+1,acc,r,h=>by have k:=kF h;have ht:=NK h l m d;rw[sZ];cases !(bl l m d r).2.2|| !(cP (bl l m d r).1).2 with|true=>exact⟨Cz ⟨k.1,k.2.1⟩ k.2.2.1 ⟨k.2.2.2.2.2.1,k.2.2.2.2.2.2⟩ ⟨k.2.2.2.2.2.1,k.2.2.2.2.2.2⟩ (by rw[Int.sub_self,Int.zero_emod];omega),rfl⟩|false=>cases UD (cP (bl l m d r).1).1 with|true=>exact ht|false=>have:=Jl l m d n (acc++[(cP (bl l m d r).1).1]) _ ht.1;exact⟨this.1,this.2.trans ht.2⟩
theorem Ut (h:cU r=true)(l:aw aA)(m:ca)(d:Int):cU (df l m d r).2.1=true/\(df l m d r).2.1.2.1=r.2.1:=by unfold df;cases !cU r||(bH r==0)with|true=>exact⟨h,rfl⟩|false=>exact Jl l m d _ _ _ h
theorem SZ (h:cU r=true)(l:aw aA)(m:ca)(d:Int):cU (iC l m d r).1=true/\(iC l m d r).1.2.1=r.2.1:=by
 have hc:=Ut h l m d;unfold iC;cases !cU r||(bH r==0)with|true=>exact⟨h,rfl⟩|false=>?_
 cases !(df l m d r).2.2|| !(fw (df l m d r).1).2.2.2 with|true=>exact hc|false=>?_
 cases !(lW l m d (fw (df l m d r).1).1).2||(!(wP (lW l m d (fw (df l m d r).1).1).1).2||((jE (wP (lW l m d (fw (df l m d r).1).1).1).1).2 !=0))with|true=>exact hc|false=>exact hc
theorem CN (l:aw aA)(m:ca)(d:Int):∀(n:Nat)(fr:ca)(dn bd:Nat)(r:lE),cU r=true->cU (pO l m d n fr dn bd r).1=true/\(pO l m d n fr dn bd r).1.2.1=r.2.1
 |0,fr,dn,bd,r,h=>⟨h,rfl⟩
 |n+1,fr,dn,bd,r,h=>by
  have k:=SZ h l m d;rw[pO];cases (iC l m d r).2.2==0 with|true=>exact⟨h,rfl⟩|false=>?_
  cases (iC l m d r).2.2==1 with|true=>have:=CN l m d n (fr++(iC l m d r).2.1) (dn+1) bd _ k.1;exact⟨this.1,this.2.trans k.2⟩|false=>have:=CN l m d n (fr++(iC l m d r).2.1) dn (bd+1) _ k.1;exact⟨this.1,this.2.trans k.2⟩
theorem FR (l:aw aA)(d:Int):∀(q:ca)(m:ca)(r:lE){x},qq l d q m r=some x->(cU r=true->cU x.2=true/\x.2.2.1=r.2.1)/\(cD m=true->cD x.1=true)
 |[],m,r,x,h=>by cases h;exact⟨λh=>⟨h,rfl⟩,λh=>h⟩
 |s::q,m,r,x,h=>by rw[qq]at h;cases hq:(cJ l m d r s).2.2 with|false=>rw[hq]at h;cases h|true=>rw[hq]at h;have k:=FR l d q _ _ h;refine⟨λhr=>?_,λhm=>k.2 (HN hm ..)⟩;have hp:=Th hr l m d s;have:=k.1 hp.1;exact⟨this.1,this.2.trans hp.2⟩
theorem Ns (l:aw aA)(d:Int)(p:cK)(z:Nat):∀(q:cL)(s:Bytes)(m:ca)(a:aw gv){x},vU l d p z q s m a=some x->cD m=true->cD x.2=true
 |[],s,m,a,x,h,hm=>by cases h;exact hm
 |b::q,s,m,a,x,h,hm=>by rw[vU]at h;cases hq:(gZ l m d (nJ p b) (s.take z) false).2 with|false=>rw[hq]at h;cases h|true=>rw[hq]at h;exact Ns l d p z q _ _ _ h (Cs hm ..)
theorem Z4 {p:cK}(h:dx p=true){l:cL}(hl:l.Perm p.2.2.2):dx (p.1,p.2.1,p.2.2.1,l)=true:=by have k:=Ab.1 h;exact Ab.2 ⟨k.1,k.2.1,k.2.2.1,λx hx=>k.2.2.2.1 x (hl.mem_iff.1 hx),hl.nodup_iff.2 k.2.2.2.2⟩
theorem aan (h:ET t)(hm:cD m=true)(l:aw aA)(d c:Int)(hf:HA t n=true)(x:aw gv×ca)(hx:cD x.2=true):cD (Lk l m d t c n x).1=true/\ET (Lk l m d t c n x).2.1:=by
 unfold Lk tS;cases hp:qq l d ((pt x.1 c t.2.2.2).map wT) x.2 t.1 with
 |none=>exact⟨hm,h⟩
 |some y=>
  have k:=FR l d _ _ _ hp;have kr:=k.1 h.ring;refine⟨k.2 hx,?_⟩;unfold HA at hf;simp only[ae,aK,cw]at hf;have ht:jV t.2.1 (n:Int)=((t.2.1.1,t.2.1.2.1,t.2.1.2.2.1,t.2.1.2.2.2.drop n),t.2.1.2.2.2.take n,true):=by have h1:=hf.1;unfold jV at h1⊢;cases hc:dx t.2.1&&dm (n:Int) 0 (t.2.1.2.2.2.length:Int)with|false=>rw[hc]at h1;cases h1|true=>simp only[ah,az]
  have h0:0<=dH t.2.2.1:=wS t.1.2.1 _ (by rw[aE];exact λx hx=>F0.2 (h.sent x hx));show ET (y.2,(jV t.2.1 (n:Int)).1,t.2.2.1++[(t.2.2.2,(n:Int)+1,(jV t.2.1 (n:Int)).2.1)],tmod (t.2.2.2+1) 65536);rw[ht];have hn:=h.next
  refine⟨kr.1,?_,?_,?_,?_⟩;have:=Hq (x:=t.2.2.2) (n:=65536);show 0<=tmod (t.2.2.2+1) 65536/\tmod (t.2.2.2+1) 65536<=65535;rw[this];split<;>omega;intro s hs;show(1<=s.2.1/\s.2.1<=y.2.2.1)/\0<=s.1/\s.1<=65535;rw[kr.2];rcases ay.1 hs with hs|hs;exact h.sent s hs;rw[cn.1 hs];show(1<=(n:Int)+1/\(n:Int)+1<=t.1.2.1)/\0<=t.2.2.2/\t.2.2.2<=65535;omega;refine Z4 (p:=gk t.2.1 (bz t.2.2.1)) h.pool ?_;show(t.2.1.2.2.2.drop n++bz (t.2.2.1++[_])).Perm (t.2.1.2.2.2++bz t.2.2.1);rw[Hv,show bz [(t.2.2.2,(n:Int)+1,t.2.1.2.2.2.take n)]=t.2.1.2.2.2.take n by simp[bz]];refine(List.perm_append_comm_assoc _ _ _).trans ?_;refine(List.perm_append_comm).trans ?_;exact((List.perm_append_comm.trans (by rw[cb])).append_right _);show dH (t.2.2.1++[_])<=y.2.2.1;rw[MK,kr.2,show dH [(t.2.2.2,(n:Int)+1,t.2.1.2.2.2.take n)]=(n:Int)+1 by simp[dH]];omega
theorem aam (h:ET t)(hm:cD m=true)(l:aw aA)(d:Int)(p:aO)(c z:Int):cD (uM l m d t p c z).1=true/\ET (uM l m d t p c z).2.1:=by
 unfold uM;cases LH t&&(dw p&&(dm z 1 t.2.1.2.1&&dm c 1 128))with|false=>exact⟨hm,h⟩|true=>?_
 cases hf:HA t (xO p z.toNat)with|false=>exact⟨hm,h⟩|true=>?_
 simp only[ah];cases hw:vU l d t.2.1 z.toNat (jV t.2.1 (xO p z.toNat:Int)).2.1 (jR p).1 m []with|none=>exact⟨hm,h⟩|some x=>exact aan h hm l d c hf x (Ns l d _ _ _ _ _ _ hw hm)
end
end Go.Pu
