import Derived.KernelRfl
import Derived.Test.YtgbaemfepmabgaaGreatPuX1
namespace Go.Pu
open Go.Dn
set_option linter.unusedSimpArgs false
set_option linter.unusedVariables false
noncomputable section
variable {s x:Bytes} {h:Host} {b c d:Int} {a i k n o:Nat} {p:aG} {q:cj} {t:dM} {R:Type} {l:au aB} {m:bE} {f:bE×cj} {r:jY}
/- Reads through mappings: the program's and the reference's results are one. -/
theorem JM (s:Bytes):aJ (cY s)=s:=by
 unfold aJ cY;rw[List.map_map];conv=>rhs;rw[<-List.map_id s]
 refine List.map_congr_left λb _=>?_;simp
theorem ac4 (s t:Bytes):cY (s++t)=cY s++cY t:=dF
theorem FL (s:Bytes):(cY s).length=s.length:=bF ..
theorem QY {α:Type}(l:au α)(i j:Nat)(h:i<=j)(h2:j<=l.length):sub l (i:Int) (j:Int)=some ((l.drop i).take (j-i)):=by unfold sub;rw[zip];simp[List.take_drop,Nat.add_sub_cancel' h]
theorem UM (a k:Nat):Int.tdiv (a:Int) (k:Int)=((a/k:Nat):Int):=(Int.ofNat_tdiv a k).symm
theorem Ow (a k:Nat):Int.tmod (a:Int) (k:Int)=((a%k:Nat):Int):=(Int.ofNat_tmod a k).symm
theorem mem_iff:cL m=true↔(∀x∈m,x.length=128)/\m.length<=64:=by simp only[cL,ae,aC,bh,aE];constructor;rintro⟨h1,h2⟩;exact⟨λx hx=>by have:=h1 x hx;omega,by omega⟩;rintro⟨h1,h2⟩;exact⟨λx hx=>by have:=h1 x hx;omega,by omega⟩
theorem R7:∀{m:bE},(∀x∈m,x.length=128)->m.flatten.length=128*m.length
 |[],_=>rfl
 |x::m,h=>by have:=R7 (m:=m) (λy hy=>h y (by simp[hy]));have:=h x (by simp);simp only[List.flatten_cons,ai,aY];omega
theorem Nm:∀{m:bE}(_:∀x∈m,x.length=128)(p:Nat)(hp:p<m.length)(o c:Nat),o+c<=128->(m.flatten.drop (128*p+o)).take c=(m[p].drop o).take c
 |x::m,h,0,hp,o,c,ho=>by have:=h x (by simp);simp only[List.flatten_cons,List.getElem_cons_zero];rw[List.drop_append_of_le_length (by omega),List.take_append_of_le_length (by simp;omega)];simp
 |x::m,h,p+1,hp,o,c,ho=>by have hx:=h x (by simp);simp only[List.flatten_cons,List.getElem_cons_succ];rw[show 128*(p+1)+o=x.length+(128*p+o) by omega,List.drop_length_add_append];exact Nm (m:=m) (λy hy=>h y (by simp[hy])) p (by simpa using hp) o c ho
def Au (m:bE)(a n:Nat):Bytes:=(m.flatten.drop a).take n
theorem Hw (h:cL m=true)(hn:a+n<=128*m.length):(Au m a n).length=n:=by have:=R7 (mem_iff.1 h).1;simp only[Au,aO,aI];omega
theorem adF (m:bE)(a n:Nat):(Au m a n).length<=n:=by simp[Au];omega
theorem aa8 (m:bE)(a k c:Nat):Au m a (k+c)=Au m a k++Au m (a+k) c:=by unfold Au;rw[List.take_add,eC]
theorem WX (h:cL m=true){p:Nat}(hp:p<m.length){c:Nat}(ho:o+c<=128)(ha:a=128*p+o):(m[p].drop o).take c=Au m a c:=by subst ha;exact(Nm (mem_iff.1 h).1 p hp o c ho).symm
def fT (m:bE)(a n:Int):Bool:=cL m&&decide (0<=n/\0<=a/\a+n<=128*(m.length:Int))
theorem Cq (m:bE)(a n:Int)(h:m.length<=1000000000):th m a n=some (fT m a n):=by unfold th fT;rw[Es m h,ab,ak (n:=(m.length:Int)*128)];cases hm:cL m with|false=>rfl|true=>simp only[ah,bj];by_cases h1:n>=0;by_cases h2:n<=(m.length:Int)*128;rw[ak (n:=(m.length:Int)*128-n)];by_cases h3:a>=0;simp only[ar h1,ar h2,ar h3,ah,ab];exact congrArg some (decide_eq_decide.2 (by omega));simp only[ar h1,ar h2,al h3,ah,af,ab];exact congrArg some (gT).symm;simp only[ar h1,al h2,ah,af,ab];exact congrArg some (gT).symm;simp only[al h1,af,ab];exact congrArg some (gT).symm
theorem Ir (m:bE)(a n:Int)(h:m.length<=1000000000):m0 m a n=some (fT m a n):=by unfold m0 fT;rw[EI m h,ab,ak (n:=128*(m.length:Int))];cases hm:cL m with|false=>rfl|true=>simp only[ah,bj];by_cases h1:n>=0;by_cases h3:a>=0;by_cases h2:a<=128*(m.length:Int);rw[ak (n:=128*(m.length:Int)-a)];simp only[ar h1,ar h2,ar h3,ah,ab];exact congrArg some (decide_eq_decide.2 (by omega));simp only[ar h1,al h2,ar h3,ah,af,ab];exact congrArg some (gT).symm;simp only[ar h1,al h3,ah,af,ab];exact congrArg some (gT).symm;simp only[al h1,af,ab];exact congrArg some (gT).symm
theorem Fz {R:Type}{m:bE}(hm:cL m=true)(K:Int->bN->aw R):∀(n r k a f:Nat),r<=n->n<f->a+k+r<=128*m.length->
 bc (kl K ((k+r:Nat):Int) m) f (((a+k:Nat):Int),cY (Au m a k))=K ((a+k+r:Nat):Int) (cY (Au m a (k+r)))
 |n,r,k,a,0,_,hf,_=>by omega
 |n,0,k,a,f+1,hr,hf,hb=>by rw[bc];simp only[kl,FL,Hw hm (show a+k<=128*m.length by omega),dQ];rw[gT,af]
 |0,r+1,k,a,f+1,hr,hf,hb=>by omega
 |n+1,r+1,k,a,f+1,hr,hf,hb=>by
  have h64:=(mem_iff.1 hm).2;have hl:=Hw hm (show a+k<=128*m.length by omega);obtain⟨p,hp⟩:∃p,(a+k)/128=p:=⟨_,rfl⟩
  obtain⟨o,ho⟩:∃o,(a+k)%128=o:=⟨_,rfl⟩
  have hpo:a+k=128*p+o:=by omega
  have ho2:o<128:=by omega
  have hpl:p<m.length:=by omega
  obtain⟨c,hc⟩:∃c,min (r+1) (128-o)=c:=⟨_,rfl⟩
  have hpg:=(mem_iff.1 hm).1 _ (aL hpl);have e1:Int.tdiv ((a+k:Nat):Int) 128=(p:Int):=by rw[<-hp];exact UM (a+k) 128
  have e2:Int.tmod ((a+k:Nat):Int) 128=(o:Int):=by rw[<-ho];exact Ow (a+k) 128
  have key:=Fz hm K n (r+1-c) (k+c) a f (by omega) (by omega) (by omega);rw[bc];simp only[kl,FL,hl,e1,e2];rw[iV,ah,mi,ak (n:=(p:Int)),bp hpl,ab,mi];rw[ak (n:=(o:Int)+((k+(r+1):Nat):Int)),ak (n:=(o:Int)+((k+(r+1):Nat):Int)-(k:Int))];rw[show(if(o:Int)+((k+(r+1):Nat):Int)-(k:Int)<128 then(o:Int)+((k+(r+1):Nat):Int)-(k:Int) else 128)=((o+c:Nat):Int) by split<;>omega];rw[QY _ _ _ (by omega) (by omega),ab,show o+c-o=c by omega,WX hm hpl (show o+c<=128 by omega) hpo];have hl2:=Hw hm (show a+k+c<=128*m.length by omega);rw[hl2,aM,ak,<-ac4,<-aa8];rw[show((a+k:Nat):Int)+(c:Int)=((a+(k+c):Nat):Int) by omega];rw[show k+c+(r+1-c)=k+(r+1) by omega,show a+(k+c)+(r+1-c)=a+k+(r+1) by omega]at key;exact key
theorem acZ (m:bE)(a n:Int)(h:m.length<=1000000000):n6 m a n=some (bif fT m a n then(Au m a.toNat n.toNat,true) else([],false)):=by have hfu:=dT;unfold n6;rw[Cq m a n h,ab];cases hw:fT m a n with|false=>rfl|true=>simp only[fT,ae,aE]at hw;obtain⟨hm,h1,h2,h3⟩:=hw;have h64:=(mem_iff.1 hm).2;simp only[aj,af,ah];rw[zip,aM];obtain⟨a,rfl⟩:=aN h2;obtain⟨n,rfl⟩:=aN h1;have:=Fz hm (λ(y4:Int) (y5:bN)=>some (aJ y5,true)) n n 0 a fuel (by omega) (by omega) (by omega);rw[cg,dQ]at this;refine Eq.trans this ?_;simp only[JM,ax]
def EA (d p:Int)(w:Bool)(x:aB):Bool:=pQ d p x&&(x.2.2.2|| !w)
def rP (l:au aB)(d p:Int)(w:Bool):Int:=match l.findIdx? (EA d p w)with|some i=>(l.getD i I0).2.2.1|none=> -1
theorem ad0 (l:au aB)(d p:Int)(w:Bool)(h:l.length<=1000000000):xD l d p w=some (rP l d p w):=by unfold xD rP;refine Eq.trans (C8 (p:=EA d p w) (hit:=λi=>aa (idx l i) λx=>some x.2.2.1) (fin:=some (-1)) l (by omega) (λi hi nx=>?_) (λnx=>?_)) ?_;simp only[sP];rw[iV,bp hi,ak];simp only[ah,ab,EA,pQ];cases l[i].1==d<;>cases l[i].2.1==p<;>cases l[i].2.2.2<;>cases w<;>rfl;simp only[sP];rw[gT];rfl;cases hf:l.findIdx? (EA d p w)with|none=>rfl|some i=>obtain⟨hi,_⟩:=List.findIdx?_eq_some_iff_getElem.1 hf;simp only[bp hi,ab,cr hi]
theorem FV (h:fu l=true)(hi:i<l.length):G9 l[i]=true/\∀j (hj:j<i),pQ l[i].1 l[i].2.1 (l[j]'(by omega))=false:=by simp only[fu,ae,aC,bz]at h;have:=h.2 i hi;simp only[Ld,ae,aC,bz,cr hi,aH]at this;exact⟨this.1,λj hj=>by have:=this.2 j hj;rwa[cr (by omega)]at this⟩
theorem G8 {p:Int}{m:aB}:pQ d p m=true↔m.1=d/\m.2.1=p:=by simp[pQ]
theorem ade (h:fu l=true){p:Int}{j:Nat}(hi:i<l.length)(hj:j<l.length)(h1:pQ d p l[i]=true)(h2:pQ d p l[j]=true):i=j:=by have a:=G8.1 h1;have b:=G8.1 h2;rcases Nat.lt_trichotomy i j with h3|h3|h3;have:=(FV h hj).2 i h3;rw[b.1,b.2,h1]at this;cases this;exact h3;have:=(FV h hi).2 j h3;rw[a.1,a.2,h2]at this;cases this
theorem Ln (h:fu l=true)(d p:Int)(w:Bool)(h1:0<=rP l d p w):rP l d p w<=63/\0<=p/\p<=1023:=by unfold rP at h1⊢;cases hf:l.findIdx? (EA d p w)with|none=>rw[hf]at h1;simp at h1|some i=>obtain⟨hi,h2,_⟩:=List.findIdx?_eq_some_iff_getElem.1 hf;have h3:=(FV h hi).1;simp only[EA,ae,G8]at h2;simp only[G9,ae,aS]at h3;simp only[cr hi];omega
theorem Z7 (l:au aB)(d:Int)(a:Nat)(w:Bool)(h:l.length<=1000000000)(hm:fu l=true)(ha:a<=9223372036854775807): AU l d (a:Int) w=some (if 0<=rP l d ((a/128:Nat):Int) w then rP l d ((a/128:Nat):Int) w*128+((a%128:Nat):Int) else-1):=by
 have e1:Int.tdiv (a:Int) 128=((a/128:Nat):Int):=UM a 128;have e2:Int.tmod (a:Int) 128=((a%128:Nat):Int):=Ow a 128;unfold AU;rw[gT,af,mi,e1,e2,ak,SL l _ _ h,ab];generalize ((a/128:Nat):Int)=p;have hin:=Ln hm d p w;unfold TU;cases hf:l.findIdx? (pQ d p)with
 |none=>
  have hn:rP l d p w= -1:=by unfold rP;rw[List.findIdx?_eq_none_iff]at hf;rw[List.findIdx?_eq_none_iff.2 (λx hx=>by rw[EA,hf x hx];rfl)]
  rw[hn];rfl
 |some i=>
  obtain⟨hi,h2,h3⟩:=List.findIdx?_eq_some_iff_getElem.1 hf;simp only;rw[gT,bp hi];simp only[af,ab];cases hq:l[i].2.2.2|| !w with
  |true=>
   have hF:rP l d p w=l[i].2.2.1:=by unfold rP;rw[List.findIdx?_eq_some_iff_getElem.2 ⟨hi,by rw[EA,h2,hq];rfl,λj hj=>by have:=h3 j hj;rw[EA,Bool.eq_false_iff.2 this];simp⟩];exact congrArg (λx:aB=>x.2.2.1) (cr hi I0)
   have h4:=(FV hm hi).1;simp only[G9,ae,aS]at h4
   rw[hF,aF (show 0<=l[i].2.2.1 by omega),show(aa (cond w (some (!l[i].2.2.2)) (some false)) λq3=>cond q3 (some (-1:Int)) _)=_ from by
    have:(cond w (some (!l[i].2.2.2)) (some false))=some false:=by cases w<;>cases hz:l[i].2.2.2<;>rw[hz]at hq<;>first|rfl|cases hq
    rw[this,ab,af]]
   rw[aD (show¬(128:Nat)=0 by omega),ak (n:=l[i].2.2.1*128),ak]
  |false=>
   have hF:rP l d p w= -1:=by unfold rP;rw[List.findIdx?_eq_none_iff.2 (λx hx=>by obtain⟨j,hj,rfl⟩:=List.getElem_of_mem hx;cases hx2:pQ d p l[j]with|false=>rw[EA,hx2];rfl|true=>have:=ade hm hi hj h2 hx2;subst this;rw[EA,hq];simp)]
   rw[hF,aD (show¬(0:Int)<= -1 by omega)];cases w with|false=>simp at hq|true=>simp only[aj,Bool.or_false]at hq;simp only[ah,hq,ab,br]
def kO (l:au aB)(m:bE)(d:Int)(w:Bool):Nat->Nat->Nat->aw (au (Int×Int))
 |0,_,_=>some []
 |n+1,a,r=>if r=0 then some [] else
  if 0<=rP l d ((a/128:Nat):Int) w/\rP l d ((a/128:Nat):Int) w<(m.length:Int) then
   (kO l m d w n (a+min (128-a%128) r) (r-min (128-a%128) r)).map (λq=>(rP l d ((a/128:Nat):Int) w*128+((a%128:Nat):Int),((min (128-a%128) r:Nat):Int))::q)
  else none
theorem Q4 (hm:cL m=true){f:Int}(h0:0<=f){c:Nat}(hc:0<c)(ho:o+c<=128):fT m (f*128+(o:Int)) (c:Int)=decide (f<(m.length:Int)):=by rw[fT,hm,bj];exact decide_eq_decide.2 (by omega)
theorem UT (hm:cL m=true){f:Int}(h0:0<=f):fT m (f*128) 128=decide (f<(m.length:Int)):=by rw[fT,hm,bj];exact decide_eq_decide.2 (by omega)
theorem FB {l:au aB}{m:bE}(hl:fu l=true)(hL:l.length<=1000000000)(hm:cL m=true)(d:Int)(w:Bool):∀(n a r f:Nat)(acc:au (Int×Int)),r<=n->n<f->acc.length+n<=1000000->a<=9223372036854775807->
 bc (pM (λ(y9:Int) (y10:Int) (y11:au (Int×Int))=>some (y11,true)) (λ(y12:Int) (y13:Int) (y14:au (Int×Int)) (y15:Bool) (y16:au (Int×Int))=>some (y14,y15)) l d w ([]:au (Int×Int)) false m) f ((a:Int),(r:Int),acc)
  =match kO l m d w n a r with|some q=>some (acc++q,true)|none=>some ([],false)
 |n,a,r,0,acc,_,hf,_,_=>by omega
 |0,a,r,f+1,acc,hr,hf,hA,ha=>by rw[bc];simp only[pM];rw[gT];simp[kO]
 |n+1,a,r,f+1,acc,hr,hf,hA,ha=>by
  have h64:=(mem_iff.1 hm).2;rw[bc];simp only[pM,kO];by_cases h0:r=0;rw[gT,aF h0];simp;have e2:Int.tmod (a:Int) 128=((a%128:Nat):Int):=Ow a 128;have hin:=Ln hl d ((a/128:Nat):Int) w;rw[iV,aD h0,Z7 l d a w hL hl ha,ab,mi,e2,ak (n:=128-((a%128:Nat):Int))];obtain⟨c,hc⟩:∃c,min (128-a%128) r=c:=⟨_,rfl⟩
  rw[hc,show(if 128-((a%128:Nat):Int)<(r:Int) then 128-((a%128:Nat):Int) else(r:Int))=(c:Int) by split<;>omega];generalize hP:rP l d ((a/128:Nat):Int) w=P at hin⊢;by_cases hP0:0<=P;have hin:=hin hP0;simp only[aF hP0,ah];rw[al (show¬P*128+((a%128:Nat):Int)<0 by omega),Cq m _ _ (by omega),Q4 hm hP0 (by omega) (by omega)];simp only[af,ab];by_cases hP1:P<(m.length:Int);rw[ar hP1,aF ⟨hP0,hP1⟩];simp only[aj,af];rw[aM (by simp;omega),ak (n:=(a:Int)+(c:Int)),ak (n:=(r:Int)-(c:Int)),al (show¬(a:Int)+(c:Int)<0 by omega)];simp only[af,ab];have key:=FB hl hL hm d w n (a+c) (r-c) f (acc++[(P*128+((a%128:Nat):Int),(c:Int))]) (by omega) (by omega) (by simp;omega) (by omega);rw[show((a+c:Nat):Int)=(a:Int)+(c:Int) by omega,show((r-c:Nat):Int)=(r:Int)-(c:Int) by omega]at key;rw[key];cases kO l m d w n (a+c) (r-c)with|none=>rfl|some q=>simp
  rw[al hP1,mi];rfl;simp only[aD hP0,ah];rw[mi,iV];rfl
theorem Gg {l:au aB}{m:bE}(hl:fu l=true)(hL:l.length<=1000000000)(hm:cL m=true)(d:Int)(w:Bool):∀(n a r f:Nat)(acc:au (Int×Int)),r<=n->n<f->acc.length+n<=1000000->a<=9223372036854775807->
 bc (jX (λ(y10:Int) (y11:Int) (y12:bN) (y13:bN)=>some (y12,y13,true)) (λ(y14:Int) (y15:Int) (y16:bN) (y17:bN) (y18:Bool) (y19:bN) (y20:bN)=>some (y16,y17,y18)) l d w ([]:bN) ([]:bN) false m) f ((a:Int),(r:Int),acc.map (·.1),acc.map (·.2))
  =match kO l m d w n a r with|some q=>some ((acc++q).map (·.1),(acc++q).map (·.2),true)|none=>some ([],[],false)
 |n,a,r,0,acc,_,hf,_,_=>by omega
 |0,a,r,f+1,acc,hr,hf,hA,ha=>by rw[bc];simp only[jX];rw[gT];simp[kO]
 |n+1,a,r,f+1,acc,hr,hf,hA,ha=>by
  have h64:=(mem_iff.1 hm).2;rw[bc];simp only[jX,kO];by_cases h0:r=0;rw[gT,aF h0];simp;have e1:Int.tdiv (a:Int) 128=((a/128:Nat):Int):=UM a 128;have e2:Int.tmod (a:Int) 128=((a%128:Nat):Int):=Ow a 128;have hin:=Ln hl d ((a/128:Nat):Int) w;rw[ar (show(r:Int)>0 by omega),ar (show(a:Int)>=0 by omega),aD h0];simp only[ah];rw[mi,e1,e2,ak (n:=((a/128:Nat):Int)),ad0 l _ _ w hL,ab,mi,ak (n:=128-((a%128:Nat):Int))];obtain⟨c,hc⟩:∃c,min (128-a%128) r=c:=⟨_,rfl⟩
  rw[hc,show(if 128-((a%128:Nat):Int)<(r:Int) then 128-((a%128:Nat):Int) else(r:Int))=(c:Int) by split<;>omega];generalize hP:rP l d ((a/128:Nat):Int) w=P at hin⊢;by_cases hP0:0<=P;have hin:=hin hP0;rw[al (show¬P<0 by omega),ak (n:=P*128),Ir m _ _ (by omega),UT hm hP0];simp only[af,ab];by_cases hP1:P<(m.length:Int);rw[ar hP1,aF ⟨hP0,hP1⟩];simp only[aj,af];rw[aM (by simp;omega),aM (by simp;omega),ak (n:=P*128+((a%128:Nat):Int)),ak (n:=(a:Int)+(c:Int)),ak (n:=(r:Int)-(c:Int))];have key:=Gg hl hL hm d w n (a+c) (r-c) f (acc++[(P*128+((a%128:Nat):Int),(c:Int))]) (by omega) (by omega) (by simp;omega) (by omega);rw[show((a+c:Nat):Int)=(a:Int)+(c:Int) by omega,show((r-c:Nat):Int)=(r:Int)-(c:Int) by omega,dF,dF]at key;refine Eq.trans key ?_;cases kO l m d w n (a+c) (r-c)with|none=>rfl|some q=>simp
  rw[al hP1,mi];rfl;rw[mi,iV];rfl
def jO (l:au aB)(m:bE)(d a n:Int)(w:Bool):au (Int×Int)×Bool:=
 bif fu l&&(cL m&&cI n 0 4096) then
  (bif n==0 then([],true) else bif decide (a<0) then([],false) else match kO l m d w n.toNat a.toNat n.toNat with|some q=>(q,true)|none=>([],false))
 else([],false)
theorem SP (l:au aB)(m:bE)(d a n:Int)(w:Bool)(hl:l.length<=1000000000)(hm:m.length<=1000000000)(ha:a<=9223372036854775807):wy l m d a n w=some (jO l m d a n w):=by
 have hfu:=dT;unfold wy jO;simp only[Fw l hl,Es m hm,bZ,ab];cases hB:fu l with|false=>rfl|true=>?_
 cases hM:cL m with|false=>rfl|true=>?_
 cases hN:cI n 0 4096 with|false=>rfl|true=>?_
 have hn:=aS.1 hN;simp only[aj,af,ab,cq,ah];cases h0:n==0 with|true=>rfl|false=>?_
 by_cases hA:a<0;rw[ar hA];rfl;rw[al hA];simp only[af];obtain⟨a,rfl⟩:=aN (show 0<=a by omega);obtain⟨n,rfl⟩:=aN hn.1;rw[FB hB hl hM d w n a n fuel [] (by omega) (by omega) (by simp;omega) (by omega)];simp only[ax];cases kO l m d w n a n<;>rfl
theorem abt (l:au aB)(m:bE)(d a n:Int)(w:Bool)(hl:l.length<=1000000000)(hm:m.length<=1000000000)(ha:a<=9223372036854775807):vZ l m d a n w=some ((jO l m d a n w).1.map (·.1),(jO l m d a n w).1.map (·.2),(jO l m d a n w).2):=by
 have hfu:=dT;unfold vZ jO;simp only[QQ l hl,EI m hm,dy,ab];cases hB:fu l with|false=>rfl|true=>?_
 cases hM:cL m with|false=>rfl|true=>?_
 cases hN:cI n 0 4096 with|false=>rfl|true=>?_
 have hn:=aS.1 hN;simp only[aj,af,ab,cq,ah];obtain⟨n,rfl⟩:=aN hn.1;cases h0:((n:Int)==0)with
 |true=>
  have:n=0:=by simpa using h0
  subst this;obtain⟨f,hf⟩:∃f,fuel=f+1:=⟨fuel-1,by omega⟩
  rw[hf,bc];rfl
 |false=>
  have hn0:n≠0:=by simpa using h0
  by_cases hA:a<0;obtain⟨f,hf⟩:∃f,fuel=f+1:=⟨fuel-1,by omega⟩
  rw[ar hA,hf,bc];simp only[jX];rw[iV,gT];rfl;rw[al hA];simp only[af];obtain⟨a,rfl⟩:=aN (show 0<=a by omega);refine Eq.trans (Gg hB hl hM d w n a n fuel [] (by omega) (by omega) (by simp;omega) (by omega)) ?_;simp only[ax];cases kO l m d w n a n<;>rfl
def Aq (x:Bytes)(o:Nat)(t:Bytes):Bytes:=x.take o++(t++x.drop (o+t.length))
theorem NY {t:Bytes}(h:o+t.length<=x.length):(Aq x o t).length=x.length:=by simp only[Aq,ai,aO,aI];omega
theorem aaX (x:Bytes)(o:Nat)(t:Bytes):aJ (Ar (cY x) o (cY t))=Aq x o t:=by
 have e:Ar (cY x) o (cY t)=cY (Aq x o t):=by simp only[Ar,Aq,cY,dF,List.map_take,List.map_drop,bF]
 rw[e,JM]
theorem adB {t:Bytes}(h:o+t.length<=x.length):u5 x (o:Int) t=Aq x o t:=by unfold u5 eF;rw[ar ⟨by omega,by omega⟩];simp only[ah,ax,Aq,aU]
def vq:Nat->bE->Nat->Bytes->bE
 |0,m,_,_=>m
 |n+1,m,a,s=>if s.length=0 then m else
  vq n (m.set (a/128) (Aq (m.getD (a/128) []) (a%128) (s.take (128-a%128)))) (a+min (128-a%128) s.length) (s.drop (128-a%128))
def zR (m:bE):Prop:=(∀x∈m,x.length=128)/\m.length<=64
theorem oE:cL m=true↔zR m:=mem_iff
theorem Hn {p:Nat}(h:zR m)(hx:x.length=128):zR (m.set p x):=by refine⟨λy hy=>?_,by rw[aA];exact h.2⟩;rcases List.mem_or_eq_of_mem_set hy with g|g;exact h.1 y g;rw[g];exact hx
theorem Bu (h:zR m)(hs:s.length≠0)(ha:a+s.length<=128*m.length): ∃(hp:a/128<m.length),(m[a/128]'hp).length=128/\(Aq (m[a/128]'hp) (a%128) (s.take (128-a%128))).length=128:=by
 have hp:a/128<m.length:=by omega
 have hl:=h.1 _ (aL hp);refine⟨hp,hl,?_⟩;rw[NY (by rw[aO,hl];omega),hl]
theorem xK:∀(n:Nat){m:bE}{a:Nat}{s:Bytes},zR m->a+s.length<=128*m.length->zR (vq n m a s)/\(vq n m a s).length=m.length
 |0,m,a,s,h,_=>⟨h,rfl⟩
 |n+1,m,a,s,h,ha=>by rw[vq];split;exact⟨h,rfl⟩;rename_i hs;obtain⟨hp,hl,ho⟩:=Bu h hs ha;rw[cr hp];have:=xK n (m:=m.set (a/128) (Aq m[a/128] (a%128) (s.take (128-a%128)))) (a:=a+min (128-a%128) s.length) (s:=s.drop (128-a%128)) (Hn h ho) (by rw[aA,aI];omega);rw[aA]at this;exact this
theorem DP {R:Type}(K:Int->Bytes->bE->aw R)(K':bE->aw R)(hK:∀a m,K a [] m=K' m):∀(n:Nat)(m:bE)(a:Nat)(s:Bytes)(f:Nat),s.length<=n->n<f->zR m->a+s.length<=128*m.length->
 bc (ma K ([]:bE)) f ((a:Int),s,m)=K' (vq n m a s)
 |n,m,a,s,0,_,hf,_,_=>by omega
 |n,m,a,s,f+1,hs,hf,hm,ha=>by
  rw[bc];simp only[ma];by_cases h0:s.length=0;have:s=[]:=ca h0;subst this;rw[al (by simp),af,hK];cases n<;>simp[vq];cases n with
  |zero=>omega
  |succ n=>
   obtain⟨hp,hl,ho⟩:=Bu hm h0 ha;have h64:=hm.2;have e1:Int.tdiv (a:Int) 128=((a/128:Nat):Int):=UM a 128;have e2:Int.tmod (a:Int) 128=((a%128:Nat):Int):=Ow a 128;rw[iV,ah,mi,e1,e2,ak (n:=((a/128:Nat):Int)),bp hp,ab,aM,mi];have hsub:sub (cY m[a/128]) ((a%128:Nat):Int) ((cY m[a/128]).length:Int)=some ((cY m[a/128]).drop (a%128)):=by rw[QY _ _ _ (by rw[FL];omega) (ba _),bR (by rw[aI];exact ba _)]
   rw[hsub,ab,mi,ab,ab];have hd:((cY m[a/128]).drop (a%128)).length=128-a%128:=by rw[aI,FL,hl]
   rw[hd];have hdr:s.drop (min (128-a%128) s.length)=s.drop (128-a%128):=by by_cases h3:128-a%128<=s.length;rw[gP h3];rw[Nat.min_eq_right (by omega),cQ (ba _),cQ (by omega)]
   have hsub2:sub s (((min (128-a%128) s.length:Nat)):Int) ((s.length:Int))=some (s.drop (128-a%128)):=by rw[<-hdr];unfold sub;rw[zip];simp
   rw[hsub2,ab,ak (n:=(a:Int)+((min (128-a%128) s.length:Nat):Int)),ax,ax,aaX];rw[vq,aD h0,cr hp,show(a:Int)+((min (128-a%128) s.length:Nat):Int)=((a+min (128-a%128) s.length:Nat):Int) by omega];exact DP K K' hK n _ _ _ f (by rw[aI];omega) (by omega) (Hn hm ho) (by rw[aA,aI];omega)
theorem DZ {R:Type}(K:Int->Bytes->bE->aw R)(K':bE->aw R)(hK:∀a m,K a [] m=K' m):∀(n:Nat)(m:bE)(a:Nat)(s:Bytes)(f:Nat),s.length<=n->n<f->zR m->a+s.length<=128*m.length->
 bc (mh K ([]:bE)) f ((a:Int),s,m)=K' (vq n m a s)
 |n,m,a,s,0,_,hf,_,_=>by omega
 |n,m,a,s,f+1,hs,hf,hm,ha=>by
  rw[bc];simp only[mh];by_cases h0:s.length=0;have:s=[]:=ca h0;subst this;rw[al (by simp),af,hK];cases n<;>simp[vq];cases n with
  |zero=>omega
  |succ n=>
   obtain⟨hp,hl,ho⟩:=Bu hm h0 ha;have h64:=hm.2;have e1:Int.tdiv (a:Int) 128=((a/128:Nat):Int):=UM a 128;have e2:Int.tmod (a:Int) 128=((a%128:Nat):Int):=Ow a 128;rw[iV,ah,mi,mi,mi,e1,e2,ak (n:=((a/128:Nat):Int)),ak (n:=128-((a%128:Nat):Int)),bp hp,ab];obtain⟨c,hc⟩:∃c,min (128-a%128) s.length=c:=⟨_,rfl⟩
   rw[show(if 128-((a%128:Nat):Int)<(s.length:Int) then 128-((a%128:Nat):Int) else(s.length:Int))=(c:Int) by split<;>omega];have ht:s.take c=s.take (128-a%128):=by by_cases h3:128-a%128<=s.length;rw[<-hc,gP h3];rw[<-hc,Nat.min_eq_right (by omega),bR (ba _),bR (by omega)]
   have hdr:s.drop c=s.drop (128-a%128):=by by_cases h3:128-a%128<=s.length;rw[<-hc,gP h3];rw[<-hc,Nat.min_eq_right (by omega),cQ (ba _),cQ (by omega)]
   have hs1:sub s 0 (c:Int)=some (s.take (128-a%128)):=by rw[<-ht];unfold sub;rw[zip];simp
   have hs2:sub s (c:Int) (s.length:Int)=some (s.drop (128-a%128)):=by rw[<-hdr];unfold sub;rw[zip];simp
   rw[hs1,ab,Jq _ _ _,ab,ab,ab,hs2,ab,adB (by rw[aO,hl];omega),ak (n:=(a:Int)+(c:Int)),ax];rw[vq,aD h0,cr hp,hc,show(a:Int)+(c:Int)=((a+c:Nat):Int) by omega];exact DZ K K' hK n _ _ _ f (by rw[aI];omega) (by omega) (Hn hm ho) (by rw[aA,aI];omega)
def nS (m:bE)(a:Int)(s:Bytes):bE×Bool:=bif fT m a (s.length:Int) then(vq s.length m a.toNat s,true) else(m,false)
theorem Wa (m:bE)(a:Int)(s:Bytes)(h:m.length<=1000000000)(hs:s.length<=1000000000):qB m a s=some (nS m a s):=by
 have hfu:=dT;unfold qB nS;rw[fL m,ab,Cq m _ _ h,ab];cases hw:fT m a (s.length:Int)with|false=>rfl|true=>?_
 simp only[fT,ae,aE]at hw;obtain⟨a,rfl⟩:=aN hw.2.2.1;simp only[aj,af,ah,ax];exact DP _ (λm=>some (m,true)) (λ_ _=>rfl) s.length m a s fuel (ba _) (by omega) (oE.1 hw.1) (by omega)
theorem Xd (m:bE)(a:Int)(s:Bytes)(h:m.length<=1000000000)(hs:s.length<=1000000000):qQ m a s=some (nS m a s):=by
 have hfu:=dT;unfold qQ nS;rw[AY m,ab,Ir m _ _ h,ab];cases hw:fT m a (s.length:Int)with|false=>rfl|true=>?_
 simp only[fT,ae,aE]at hw;obtain⟨a,rfl⟩:=aN hw.2.2.1;simp only[aj,af,ah,ax];exact DZ _ (λm=>some (m,true)) (λ_ _=>rfl) s.length m a s fuel (ba _) (by omega) (oE.1 hw.1) (by omega)
theorem CY (m:bE)(a:Int)(s:Bytes):(nS m a s).1.length=m.length:=by
 unfold nS;cases hw:fT m a (s.length:Int)with|false=>rfl|true=>?_
 simp only[fT,ae,aE]at hw;exact(xK s.length (oE.1 hw.1) (by omega)).2
def Ht:au (Int×Int)->bE->Bytes->bE
 |[],m,_=>m
 |p::q,m,s=>Ht q (nS m p.1 (s.take p.2.toNat)).1 (s.drop p.2.toNat)
theorem T7:∀(q:au (Int×Int))(m:bE)(s:Bytes),(Ht q m s).length=m.length
 |[],m,s=>rfl
 |p::q,m,s=>by rw[Ht,T7 q,CY]
def Jb (q:au (Int×Int)):Int:=(q.map (·.2)).sum
theorem YR:∀(q:au (Int×Int)),(∀p∈q,0<=p.2)->0<=Jb q
 |[],_=>cu _
 |p::q,h=>by have:=YR q (λx hx=>h x (by simp[hx]));have:=h p (by simp);simp only[Jb,cS,List.sum_cons]at*;omega
theorem Ub {p:Int×Int}{q:au (Int×Int)}(hc:∀x∈p::q,0<=x.2)(hs:(s.length:Int)=Jb (p::q)):0<=p.2/\p.2<=(s.length:Int)/\((s.drop p.2.toNat).length:Int)=Jb q:=by
 have h1:=hc p (by simp);have h2:=YR q (λx hx=>hc x (by simp[hx]));have h3:Jb (p::q)=p.2+Jb q:=by simp[Jb]
 rw[h3]at hs;refine⟨h1,by omega,?_⟩;rw[aI];omega
theorem Ou (h0:0<=c)(h1:c<=(s.length:Int)):sub s 0 c=some (s.take c.toNat):=by unfold sub;rw[zip];simp
theorem UG (h0:0<=c)(h1:c<=(s.length:Int)):sub s c (s.length:Int)=some (s.drop c.toNat):=by unfold sub;rw[zip];simp
theorem H4 (K:Bytes->Int->bE->aw (bE×Bool))(hK:∀s i m,K s i m=some (m,true)):∀(rest pre:au (Int×Int))(m:bE)(s:Bytes)(f:Nat),rest.length<f->pre.length+rest.length<=1000000->(∀x∈rest,0<=x.2)->(s.length:Int)=Jb rest->m.length<=1000000000->s.length<=1000000->
 bc (wx K (pre++rest) ((pre++rest).length:Int) ([]:bE)) f (s,(pre.length:Int),m)=some (Ht rest m s,true)
 |rest,pre,m,s,0,hf,_,_,_,_,_=>by omega
 |[],pre,m,s,f+1,_,_,_,_,_,_=>by rw[bc];simp only[wx];rw[al (by simp),af,hK];rfl
 |p::q,pre,m,s,f+1,hf,hn,hc,hs,hm,hl=>by
  obtain⟨h1,h2,h3⟩:=Ub hc hs;simp only[aY]at hf hn;have hi:pre.length<(pre++p::q).length:=by simp
  have hp:(pre++p::q)[pre.length]=p:=by simp
  rw[bc];simp only[wx];rw[ar (by simp;omega),bp hi,hp,ak];simp only[ah,ab,Ou h1 h2,UG h1 h2,Wa m _ _ hm (show(s.take p.2.toNat).length<=1000000000 by rw[aO];omega)];have key:=H4 K hK q (pre++[p]) (nS m p.1 (s.take p.2.toNat)).1 (s.drop p.2.toNat) f (by omega) (by simp;omega) (λx hx=>hc x (by simp[hx])) h3 (by rw[CY];exact hm) (by rw[aI];omega);have el:((pre++[p]).length:Int)=(pre.length:Int)+1:=by simp
  rw[aU,List.singleton_append,el]at key;rw[Ht];exact key
theorem Iq (K:Bytes->Int->bE->aw (bE×Bool))(hK:∀s i m,K s i m=some (m,true)):∀(rest pre:au (Int×Int))(m:bE)(s:Bytes)(f:Nat),rest.length<f->pre.length+rest.length<=1000000->(∀x∈rest,0<=x.2)->(s.length:Int)=Jb rest->m.length<=1000000000->s.length<=1000000->
 bc (mQ K ((pre++rest).map (·.1)) ((pre++rest).map (·.2)) ([]:bE)) f (s,(pre.length:Int),m)=some (Ht rest m s,true)
 |rest,pre,m,s,0,hf,_,_,_,_,_=>by omega
 |[],pre,m,s,f+1,_,_,_,_,_,_=>by rw[bc];simp only[mQ];rw[al (by simp),af,hK];rfl
 |p::q,pre,m,s,f+1,hf,hn,hc,hs,hm,hl=>by
  obtain⟨h1,h2,h3⟩:=Ub hc hs;simp only[aY]at hf hn;have hi:pre.length<(pre++p::q).length:=by simp
  have hp:(pre++p::q)[pre.length]=p:=by simp
  have i1:idx ((pre++p::q).map (·.1)) (pre.length:Int)=some p.1:=by rw[bp (by simp),List.getElem_map,hp]
  have i2:idx ((pre++p::q).map (·.2)) (pre.length:Int)=some p.2:=by rw[bp (by simp),List.getElem_map,hp]
  rw[bc];simp only[mQ];rw[ar (by simp;omega),i1,i2,ak];simp only[ah,ab,Ou h1 h2,UG h1 h2,Xd m _ _ hm (show(s.take p.2.toNat).length<=1000000000 by rw[aO];omega)];have key:=Iq K hK q (pre++[p]) (nS m p.1 (s.take p.2.toNat)).1 (s.drop p.2.toNat) f (by omega) (by simp;omega) (λx hx=>hc x (by simp[hx])) h3 (by rw[CY];exact hm) (by rw[aI];omega);have el:((pre++[p]).length:Int)=(pre.length:Int)+1:=by simp
  rw[aU,List.singleton_append,el]at key;rw[Ht];exact key
theorem Lr (l:au aB)(m:bE)(d:Int)(w:Bool):∀(n a r:Nat)(q:au (Int×Int)),r<=n->kO l m d w n a r=some q->Jb q=(r:Int)/\(∀p∈q,0<=p.2)/\q.length<=n
 |0,a,r,q,hr,h=>by simp only[kO,bl]at h;subst h;exact⟨by show(0:Int)=_;omega,by simp,by simp⟩
 |n+1,a,r,q,hr,h=>by simp only[kO]at h;split at h;simp only[bl]at h;subst h;exact⟨by show(0:Int)=_;omega,by simp,by simp⟩;split at h;simp only[Option.map_eq_some_iff]at h;obtain⟨q',h1,rfl⟩:=h;obtain⟨i1,i2,i3⟩:=Lr l m d w n _ _ q' (by omega) h1;refine⟨?_,?_,by simp only[aY];omega⟩;simp only[Jb,cS,List.sum_cons]at i1⊢;rw[i1];omega;intro p hp;rcases bG.1 hp with rfl|hp;show(0:Int)<=((min (128-a%128) r:Nat):Int);omega;exact i2 p hp;cases h
theorem N7 (l:au aB)(m:bE)(d a n:Int)(w:Bool)(h:(jO l m d a n w).2=true):Jb (jO l m d a n w).1=n/\(∀p∈(jO l m d a n w).1,0<=p.2)/\(jO l m d a n w).1.length<=4096/\n<=4096:=by
 unfold jO at h⊢;cases hB:fu l&&(cL m&&cI n 0 4096)with|false=>rw[hB]at h;simp at h|true=>?_
 rw[hB]at h;simp only[ae,aS]at hB;simp only[ah]at h⊢;cases h0:n==0 with
 |true=>
  have:n=0:=by simpa using h0
  subst this;exact⟨rfl,by simp,by simp,by omega⟩
 |false=>rw[h0]at h;simp only[af]at h⊢;cases ha:decide (a<0)with|true=>rw[ha]at h;simp at h|false=>rw[ha]at h;simp only[af]at h⊢;cases hq:kO l m d w n.toNat a.toNat n.toNat with|none=>rw[hq]at h;cases h|some q=>obtain⟨i1,i2,i3⟩:=Lr l m d w _ _ _ q (ba _) hq;exact⟨by simp only;rw[i1];omega,i2,by simp only;omega,by omega⟩
def gR (l:au aB)(m:bE)(d a:Int)(s:Bytes)(w:Bool):bE×Bool:=
 bif (jO l m d a (s.length:Int) w).2 then(Ht (jO l m d a (s.length:Int) w).1 m s,true) else(m,false)
theorem jy (l:au aB)(m:bE)(d a:Int)(s:Bytes)(w:Bool):(gR l m d a s w).1.length=m.length:=by unfold gR;cases (jO l m d a (s.length:Int) w).2 with|false=>rfl|true=>exact T7 _ _ _
theorem SO (l:au aB)(m:bE)(d a:Int)(s:Bytes)(w:Bool)(hl:l.length<=1000000000)(hm:m.length<=1000000000)(ha:a<=9223372036854775807):Cs l m d a s w=some (gR l m d a s w):=by
 have hfu:=dT;unfold Cs gR;rw[fL m,ab,SP l m d a _ w hl hm ha,ab];have hS:=N7 l m d a (s.length:Int) w;generalize jO l m d a (s.length:Int) w=r at hS⊢;cases hr:r.2 with|false=>rfl|true=>?_
 obtain⟨h1,h2,h3,h4⟩:=hS hr;simp only[aj,af,ah];exact H4 _ (λ_ _ _=>rfl) r.1 [] m s fuel (by omega) (by simp;omega) h2 h1.symm hm (by omega)
theorem Gd (l:au aB)(m:bE)(d a:Int)(s:Bytes)(hl:l.length<=1000000000)(hm:m.length<=1000000000)(ha:a<=9223372036854775807):rU l m d a s=some (gR l m d a s true):=by
 have hfu:=dT;unfold rU gR;rw[abt l m d a _ true hl hm ha,ab,AY m,ab];have hS:=N7 l m d a (s.length:Int) true;generalize jO l m d a (s.length:Int) true=r at hS⊢;cases hr:r.2 with|false=>rfl|true=>?_
 obtain⟨h1,h2,h3,h4⟩:=hS hr;simp only[aj,af,ah];exact Iq _ (λ_ _ _=>rfl) r.1 [] m s fuel (by omega) (by simp;omega) h2 h1.symm hm (by omega)
theorem AN (l:au aB)(m:bE)(d a:Int)(s:Bytes)(hl:l.length<=1000000000)(hm:m.length<=1000000000)(ha:a<=9223372036854775807):oC l m d a s=some (gR l m d a s true):=by rw[oC,SO l m d a s true hl hm ha];rfl
def wrM (x:aB):aB:=(x.1,x.2.1,x.2.2.1,true)
theorem getD_map (hi:i<l.length):(l.map wrM).getD i I0=wrM (l.getD i I0):=by rw[cr (by simpa using hi),cr hi,List.getElem_map]
theorem Qq (l:au aB):fu (l.map wrM)=fu l:=by
 unfold fu;rw[bF];congr 1;rw[cn,aC,aC];have key:∀i,i<l.length->Ld (l.map wrM) i=Ld l i:=by
  intro i hi;unfold Ld;rw[getD_map hi];congr 1;rw[cn,aC,aC];constructor;intro h j hj;have hjl:j<l.length:=by have:=bz.1 hj;omega
  have:=h j hj;rw[getD_map hjl]at this;exact this;intro h j hj;have hjl:j<l.length:=by have:=bz.1 hj;omega
  rw[getD_map hjl];exact h j hj
 constructor;intro h i hi;rw[<-key i (bz.1 hi)];exact h i hi;intro h i hi;rw[key i (bz.1 hi)];exact h i hi
theorem adx (l:au aB)(d p:Int):rP (l.map wrM) d p true=rP l d p false:=by
 unfold rP;rw[List.findIdx?_map];have e:(EA d p true∘wrM)=EA d p false:=by funext x;simp only[Function.comp,EA,pQ,wrM,br,gH,gI]
 rw[e];cases hf:l.findIdx? (EA d p false)with|none=>rfl|some i=>obtain⟨hi,_⟩:=List.findIdx?_eq_some_iff_getElem.1 hf;simp only[getD_map hi];rfl
theorem N1 (l:au aB)(m:bE)(d:Int):∀n a r,kO (l.map wrM) m d true n a r=kO l m d false n a r
 |0,a,r=>rfl
 |n+1,a,r=>by simp only[kO,adx,N1 l m d n]
theorem agN (l:au aB)(m:bE)(d a:Int)(s:Bytes):gR (l.map wrM) m d a s true=gR l m d a s false:=by
 have e:jO (l.map wrM) m d a (s.length:Int) true=jO l m d a (s.length:Int) false:=by simp only[jO,Qq,N1]
 simp only[gR,e]
theorem MN (l:au aB)(m:bE)(d a:Int)(s:Bytes)(hl:l.length<=1000000000)(hm:m.length<=1000000000)(ha:a<=9223372036854775807):uy l m d a s=some (gR l m d a s false):=by unfold uy;refine da (λi=>((l.take i).map wrM,(i:Int))) l.length (by omega) (λi nx hi=>?_) (λnx=>?_);simp only[pk];rw[iV,bp hi,ak];simp only[ah,ab];rw[aM (by simp;omega),aW hi,dF];rfl;simp only[pk];rw[gT,af,cm,Gd _ m d a s (by rw[bF];exact hl) hm ha,agN];rfl
theorem zM (l:au aB)(m:bE)(d a:Int)(s:Bytes)(hl:l.length<=1000000000)(hm:m.length<=1000000000)(ha:a<=9223372036854775807:=by omega):jb l m d a s=some (gR l m d a s false):=by rw[jb,SO l m d a s false hl hm ha];rfl
def s7 (d:C0):Bool:=cI d.1 0 3&&(cI d.2.1 0 3&&(cI d.2.2.1 0 65535&&(cI d.2.2.2.2.1 0 65535&&(cI d.2.2.2.2.2 0 65535&&cI d.2.2.2.1 0 4294967295))))
theorem SH (d:C0):wq d=some (s7 d):=by simp only[wq,bZ,ab,s7];cases cI d.1 0 3<;>cases cI d.2.1 0 3<;>cases cI d.2.2.1 0 65535<;>cases cI d.2.2.2.2.1 0 65535<;>cases cI d.2.2.2.2.2 0 65535<;>rfl
theorem adV (d:C0):zB d=some (s7 d):=by simp only[zB,dy,ab,s7];cases cI d.1 0 3<;>cases cI d.2.1 0 3<;>cases cI d.2.2.1 0 65535<;>cases cI d.2.2.2.2.1 0 65535<;>cases cI d.2.2.2.2.2 0 65535<;>rfl
def w8 (d:C0):Bytes:=
 bif s7 d then((((aJ [fU d.1,fU d.2.1]++bX d.2.2.1)++fD d.2.2.2.1)++bX d.2.2.2.2.1)++bX d.2.2.2.2.2)++fD 0 else []
theorem agW (d:C0):sF d=some (w8 d):=by
 have h1:=bI d.2.2.1;have h2:=dz d.2.2.2.1;have h3:=bI d.2.2.2.2.1;have h4:=bI d.2.2.2.2.2;have h5:=dz 0;have h0:(aJ [fU d.1,fU d.2.1]).length=2:=rfl;unfold sF w8;rw[adV,ab];cases s7 d with|false=>rfl|true=>?_
 simp only[aj,af,ah,nN,lO,ab];rw[aM,aM (by simp only[ai];omega),aM (by simp only[ai];omega),aM (by simp only[ai];omega),aM (by simp only[ai];omega)]
theorem Qe (d:C0):kW d=some (w8 d):=by
 have h1:=bI d.2.2.1;have h2:=dz d.2.2.2.1;have h3:=bI d.2.2.2.2.1;have h4:=bI d.2.2.2.2.2;have h5:=dz 0;have h0:(aJ [fU d.1,fU d.2.1]).length=2:=rfl;unfold kW w8;rw[SH,ab];cases s7 d with|false=>rfl|true=>?_
 simp only[aj,af,ah,kh,sU,ab];rw[aM,aM (by simp only[ai];omega),aM (by simp only[ai];omega),aM (by simp only[ai];omega),aM (by simp only[ai];omega)]
def nX (r:jY):Int:=bif cZ r then aq (r.2.1-bJ r) else 0
def oa (r:jY)(c:Int):Int:=bif !cZ r||decide (c<0) then-1 else r.1+Int.tmod c r.2.1*16
theorem kJ (h:cZ r=true):0<=r.1/\r.1<=130944/\(r.2.1=2\/r.2.1=4\/r.2.1=8\/r.2.1=16)/\0<=r.2.2.1/\r.2.2.1<=2*r.2.1-1/\0<=r.2.2.2/\r.2.2.2<=2*r.2.1-1:=by simp only[cZ,ae,aS]at h;exact⟨h.1.1,h.1.2,gG.1 h.2.1,h.2.2.1.1,h.2.2.1.2,h.2.2.2.1.1,h.2.2.2.1.2⟩
theorem CL (r:jY)(c:Int): -1<=oa r c/\oa r c<=200000:=by
 unfold oa;cases hc: !cZ r||decide (c<0)with
 |true=>exact⟨cu _,by simp⟩
 |false=>
  simp only[cc,dB,cJ]at hc;have h:=kJ hc.1;have h2:0<=Int.tmod c r.2.1/\Int.tmod c r.2.1<r.2.1:=by rw[df (by omega)];exact⟨eI _ (by omega),eK _ (by omega)⟩
  simp only[af];omega
def cU (l:au aB)(m:bE)(d:Int)(r:jY)(s:Bytes):bE×jY×Bool:=
 bif (nX r==0)||((s.length:Int) !=16) then(m,r,false) else
 bif !(gR l m d (oa r r.2.2.2) s true).2 then(m,r,false) else
 ((gR l m d (oa r r.2.2.2) s true).1,(r.1,r.2.1,r.2.2.1,Int.tmod (r.2.2.2+1) (2*r.2.1)),true)
theorem Hu {a:Int}{w:Bool}(h:(gR l m d a s w).2=false):(gR l m d a s w).1=m:=by unfold gR at h⊢;cases hr:(jO l m d a (s.length:Int) w).2 with|false=>rfl|true=>rw[hr]at h;cases h
theorem HD (r:jY):rY r=some (nX r):=by
 unfold rY nX;rw[LU,ab];cases cZ r with|false=>rfl|true=>?_
 simp only[aj,af,ah,UA,ab]
theorem abv (r:jY)(c:Int):qN r c=some (oa r c):=by
 have hin:=CL r c;unfold qN;rw[LU,ab];unfold oa at hin⊢;cases hb:cZ r with|false=>rfl|true=>?_
 have h:=kJ hb;by_cases hc:c<0;rw[ar hc];rfl;rw[hb,al hc]at hin;rw[al hc];have h2:0<=Int.tmod c r.2.1/\Int.tmod c r.2.1<r.2.1:=by rw[df (by omega)];exact⟨eI _ (by omega),eK _ (by omega)⟩
 simp only[aj,af,ab,cl]at hin⊢;rw[mi,ak (n:=16*Int.tmod c r.2.1),ak];congr 1;omega
theorem Ux (l:au aB)(m:bE)(d:Int)(r:jY)(s:Bytes)(hl:l.length<=1000000000)(hm:m.length<=1000000000):xt l m d r s=some (cU l m d r s):=by
 have hA:=CL r r.2.2.2;unfold xt cU;simp only[HD,ab,abv,Gd l m d _ s hl hm (show oa r r.2.2.2<=9223372036854775807 by omega),AY m (show m.length<=1073741824 by omega)];cases hf:nX r==0 with|true=>rfl|false=>?_
 cases (s.length:Int) !=16 with|true=>rfl|false=>?_
 have hb:cZ r=true:=by cases hb:cZ r with|true=>rfl|false=>unfold nX at hf;rw[hb]at hf;cases hf
 have h:=kJ hb;simp only[af,ab,cl];cases hp:(gR l m d (oa r r.2.2.2) s true).2 with|false=>simp only[br,ah,Hu hp]|true=>simp only[aj,af];rw[ak (n:=2*r.2.1),mi,ak (n:=r.2.2.2+1)]
theorem Ny (r:jY):rH r=some (nX r):=by
 unfold rH nX;rw[wo,ab];cases cZ r with|false=>rfl|true=>?_
 simp only[aj,af,ah,yh,ab]
theorem ND (r:jY)(c:Int):mC r c=some (oa r c):=by
 have hin:=CL r c;unfold mC;rw[wo,ab];unfold oa at hin⊢;cases hb:cZ r with|false=>rfl|true=>?_
 have h:=kJ hb;by_cases hc:c<0;rw[ar hc];rfl;rw[hb,al hc]at hin;rw[al hc];have h2:0<=Int.tmod c r.2.1/\Int.tmod c r.2.1<r.2.1:=by rw[df (by omega)];exact⟨eI _ (by omega),eK _ (by omega)⟩
 simp only[aj,af,ab,cl]at hin⊢;rw[mi,ak (n:=Int.tmod c r.2.1*16),ak]
theorem H5 (l:au aB)(m:bE)(d:Int)(r:jY)(s:Bytes)(hl:l.length<=1000000000)(hm:m.length<=1000000000):tV l m d r s=some (cU l m d r s):=by
 have hA:=CL r r.2.2.2;unfold tV cU;simp only[Ny,ab,ND,AN l m d _ s hl hm (show oa r r.2.2.2<=9223372036854775807 by omega),fL m (show m.length<=1073741824 by omega)];cases hf:nX r==0 with|true=>rfl|false=>?_
 cases (s.length:Int) !=16 with|true=>rfl|false=>?_
 have hb:cZ r=true:=by cases hb:cZ r with|true=>rfl|false=>unfold nX at hf;rw[hb]at hf;cases hf
 have h:=kJ hb;simp only[af,ab,cl];cases hp:(gR l m d (oa r r.2.2.2) s true).2 with|false=>simp only[br,ah,Hu hp]|true=>simp only[aj,af];rw[ak (n:=2*r.2.1),mi,ak (n:=r.2.2.2+1)]
theorem xl {p:c8}(h:dA p=true):0<=p.1/\p.1<=130944/\1<=p.2.1/\p.2.1<=512/\0<=p.2.2.1/\p.2.2.1<=16:=by simp only[dA,ae,aS]at h;exact⟨h.1.1,h.1.2,h.2.1.1,h.2.1.2,h.2.2.1.1,h.2.2.1.2⟩
def nV (p:c8)(i:Int):Int:=bif !dA p|| !cI i 0 (p.2.2.1-1) then-1 else p.1+i*p.2.1
theorem XD {p:c8}{i:Int}(hp:dA p=true)(hi:cI i 0 (p.2.2.1-1)=true):aq (p.1+aq (i*p.2.1))=p.1+i*p.2.1:=by have h:=xl hp;have h2:=aS.1 hi;have h3:0<=i*p.2.1:=Int.mul_nonneg h2.1 (by omega);have h4:i*p.2.1<=16*512:=Int.mul_le_mul (by omega) (by omega) (by omega) (by omega);rw[ak (n:=i*p.2.1),ak]
theorem adU (p:c8)(i:Int)(h:p.2.2.2.length<=1000000000):nO p i=some (nV p i):=by
 unfold nO nV;rw[Gf p h,ab];cases hp:dA p with|false=>rfl|true=>?_
 have hin:=xl hp;rw[ak (n:=p.2.2.1-1),dy];cases hi:cI i 0 (p.2.2.1-1)with|false=>rfl|true=>?_
 simp only[aj,af,ab,cl,XD hp hi]
theorem Fs (p:c8)(i:Int)(h:p.2.2.2.length<=1000000000):fH p i=some (nV p i):=by
 unfold fH nV;rw[tG p h,ab];cases hp:dA p with|false=>rfl|true=>?_
 have hin:=xl hp;rw[ak (n:=p.2.2.1-1),bZ];cases hi:cI i 0 (p.2.2.1-1)with|false=>rfl|true=>?_
 simp only[aj,af,ab,cl,XD hp hi]
def upto (n:Nat):bN:=(List.range n).map Int.ofNat
theorem Ox (n:Nat):upto (n+1)=upto n++[(n:Int)]:=by simp[upto,fW]
theorem afu (h:i<n):(upto n).getD i 0=(i:Int):=by rw[cr (by simpa[upto]using h)];simp[upto]
theorem WS (a b:Int)(n:Nat)(hn:n<=16):dA (a,b,(n:Int),upto n)=dA (a,b,(n:Int),[]):=by
 unfold dA;congr 3;have h1:(List.range (upto n).length).all (Cj (n:Int) (upto n))=true:=by
  rw[aC];intro i hi;have hi:i<n:=by simpa[upto]using hi
  simp only[Cj,afu hi,ae,aS,aH];refine⟨by omega,?_⟩;rw[Bool.eq_false_iff,ne_eq,List.contains_iff_mem];intro hm;simp only[upto,<-List.map_take,dP]at hm;obtain⟨j,hj,he⟩:=hm;rw[List.take_range]at hj;have:=bz.1 hj;have:(j:Int)=(i:Int):=he;omega
 rw[h1];rfl
def gF (a b n:Int):c8×Bool:=bif dA (a,b,n,[]) then((a,b,n,upto n.toNat),true) else((0,0,0,[]),false)
theorem H3 (a b n:Int):tS a b n=some (gF a b n):=by
 unfold tS gF;rw[tG _ (by simp),ab];cases hp:dA (a,b,n,[])with|false=>rfl|true=>?_
 have hin:=xl hp;obtain⟨n,rfl⟩:=aN (show 0<=n from hin.2.2.2.2.1);have h16:n<=16:=by have:=hin.2.2.2.2.2;simp only at this;omega
 simp only[aj,af,ah,ax];refine da (λi=>((i:Int),a,b,(n:Int),upto i)) n (by omega) (λi nx hi=>?_) (λnx=>?_);simp only[sm];rw[iV,aM (by simp[upto];omega),ak,Ox];rfl;simp only[sm];rw[gT];rfl
theorem Io (a b n:Int):uA a b n=some (gF a b n):=by
 have hfu:=dT;unfold uA gF;by_cases hn:0<=n/\n<=16;obtain⟨n,rfl⟩:=aN hn.1;have h16:n<=16:=by omega
 refine da (λi=>((i:Int),a,b,(n:Int),upto i)) n (by omega) (λi nx hi=>?_) (λnx=>?_);simp only[od];rw[ar (show(i:Int)<n by omega),ar (show(n:Int)<=16 by omega)];simp only[ah,ab];rw[aM (by simp[upto];omega),ak,Ox];rfl;simp only[od];rw[al (show¬(n:Int)<n by omega)];simp only[af,ab,Gf (a,b,(n:Int),upto n) (show(upto n).length<=1000000000 by simp[upto];omega),WS a b n h16,ax];cases dA (a,b,(n:Int),[])<;>rfl;have hb:dA (a,b,n,[])=false:=by cases hp:dA (a,b,n,[])with|false=>rfl|true=>have:=xl hp;exact absurd ⟨this.2.2.2.2.1,this.2.2.2.2.2⟩ hn
 obtain⟨f,hf⟩:∃f,fuel=f+1:=⟨fuel-1,by omega⟩
 rw[hf,bc];simp only[od];have hc:(cond (decide ((0:Int)<n)) (some (decide (n<=16))) (some false))=some false:=by by_cases h0:(0:Int)<n;rw[ar h0,gT];rfl;rw[al h0];rfl
 rw[hc];simp only[ab,af,Gf (a,b,n,[]) (show([]:bN).length<=1000000000 by simp),hb];rfl
def eO (p:c8)(b:Int):Bytes:=w8 (3,0,p.2.1,nV p b,0,b)
def lS (l:au aB)(d:Int)(p:c8):bN->bE->jY->Nat×bE×jY
 |[],m,r=>(0,m,r)
 |b::q,m,r=>bif (cU l m d r (eO p b)).2.2 then
   ((lS l d p q (cU l m d r (eO p b)).1 (cU l m d r (eO p b)).2.1).1+1,(lS l d p q (cU l m d r (eO p b)).1 (cU l m d r (eO p b)).2.1).2)
  else(0,m,r)
theorem uv (l:au aB)(m:bE)(d:Int)(r:jY)(s:Bytes):(cU l m d r s).1.length=m.length:=by
 unfold cU;cases (nX r==0)||((s.length:Int) !=16)with|true=>rfl|false=>?_
 cases (gR l m d (oa r r.2.2.2) s true).2 with|false=>rfl|true=>exact jy ..
theorem GQ (l:au aB)(d:Int)(p:c8):∀(q:bN)(m:bE)(r:jY),(lS l d p q m r).2.1.length=m.length/\(lS l d p q m r).1<=q.length
 |[],m,r=>⟨rfl,ba _⟩
 |b::q,m,r=>by rw[lS];cases (cU l m d r (eO p b)).2.2 with|false=>exact⟨rfl,bS _⟩|true=>have:=GQ l d p q (cU l m d r (eO p b)).1 (cU l m d r (eO p b)).2.1;simp only[ah,aY];exact⟨by rw[this.1,uv],by omega⟩
theorem acB (r:jY):0<=nX r:=by
 unfold nX;cases hb:cZ r with
 |false=>exact cu _
 |true=>
  have h:=kJ hb;simp only[cZ,ae,aE]at hb;have hu:=hb.2.2.2.2;have h0:0<=bJ r:=by unfold bJ;split;exact eI _ (by omega);exact cu _
  simp only[ah];rw[ak];omega
theorem QD (h:¬nX r>0):cU l m d r s=(m,r,false):=by
 have h0:=acB r;have:nX r=0:=by omega
 unfold cU;rw[this];rfl
theorem Fu {R:Type}(K:Int->Int->jY->bE->aw R)(K':Nat->jY->bE->aw R)(hK:∀(c:Nat) i r m,K (c:Int) i r m=K' c r m)(l:au aB)(d:Int)(p p2 p3:c8)(hp:p.2.2.2.length<=1000000000)(hl:l.length<=1000000000):∀(rest pre:bN)(m:bE)(r:jY)(f:Nat),rest.length<f->pre.length+rest.length<=1000000000->m.length<=1000000000->
 bc (mu K l d (pre++rest) ((pre++rest).length:Int) p ([]:bE) (0,0,0,0) p2 p3) f ((pre.length:Int),(pre.length:Int),r,m)=K' (pre.length+(lS l d p rest m r).1) (lS l d p rest m r).2.2 (lS l d p rest m r).2.1
 |rest,pre,m,r,0,hf,_,_=>by omega
 |[],pre,m,r,f+1,_,_,_=>by rw[bc];simp only[mu];rw[al (by simp),af,hK];rfl
 |b::q,pre,m,r,f+1,hf,hn,hm=>by
  simp only[aY]at hf hn;have hi:pre.length<(pre++b::q).length:=by simp
  have hb:(pre++b::q)[pre.length]=b:=by simp
  rw[bc];simp only[mu];rw[ar (by simp;omega),bp hi,hb];simp only[ah,ab,Fs p b hp,Qe,H5 l m d r _ hl hm];rw[show w8 (3,0,p.2.1,nV p b,0,b)=eO p b from rfl,lS];cases hq:(cU l m d r (eO p b)).2.2 with
  |false=>simp only[br,ah,af,hK,dQ]
  |true=>
   simp only[aj,af,ah];rw[ak (n:=(pre.length:Int)+1)];have key:=Fu K K' hK l d p p2 p3 hp hl q (pre++[b]) (cU l m d r (eO p b)).1 (cU l m d r (eO p b)).2.1 f (by omega) (by simp;omega) (by rw[uv];exact hm);have el:((pre++[b]).length:Int)=(pre.length:Int)+1:=by simp
   have el2:(pre++[b]).length=pre.length+1:=by simp
   rw[aU,List.singleton_append,el,el2]at key;rw[show pre.length+((lS l d p q (cU l m d r (eO p b)).1 (cU l m d r (eO p b)).2.1).1+1)=pre.length+1+(lS l d p q (cU l m d r (eO p b)).1 (cU l m d r (eO p b)).2.1).1 by omega];exact key
theorem Ge {R:Type}(K:Int->jY->bE->c8->aw R)(l:au aB)(d:Int)(p p2:c8)(hp:p.2.2.2.length<=1000000000)(hl:l.length<=1000000000)(A B C:Int):∀(rest:bN)(c:Nat)(m:bE)(r:jY)(f:Nat),rest.length<f->c+rest.length<=1000000000->m.length<=1000000000->
 bc (mR K l d p ([]:bE) (0,0,0,0) p2) f ((c:Int),r,m,A,B,C,rest)=K ((c+(lS l d p rest m r).1:Nat):Int) (lS l d p rest m r).2.2 (lS l d p rest m r).2.1 (A,B,C,rest.drop (lS l d p rest m r).1)
 |rest,c,m,r,0,hf,_,_=>by omega
 |[],c,m,r,f+1,_,_,_=>by
  rw[bc];simp only[mR,HD,ab];have hc:(cond (decide (nX r>0)) (some (decide ((([]:bN).length:Int)>0))) (some false))=some false:=by cases decide (nX r>0)<;>rfl
  rw[hc];rfl
 |b::q,c,m,r,f+1,hf,hn,hm=>by
  simp only[aY]at hf hn;rw[bc];simp only[mR,HD,ab];by_cases hr:nX r>0;rw[ar hr,ar (show(((b::q).length:Nat):Int)>0 by simp)];have hi:idx (b::q) 0=some b:=rfl;have hs:sub (b::q) 1 ((b::q).length:Int)=some q:=by unfold sub;rw[aF (by simp;omega)];simp
  simp only[ah,ab,hi,adU p b hp,agW,Ux l m d r _ hl hm];rw[show w8 (3,0,p.2.1,nV p b,0,b)=eO p b from rfl,lS];cases hq:(cU l m d r (eO p b)).2.2 with|false=>rfl|true=>simp only[aj,af,ah,hs,ab];rw[kz,ak (n:=(c:Int)+1),bW];have key:=Ge K l d p p2 hp hl A B C q (c+1) (cU l m d r (eO p b)).1 (cU l m d r (eO p b)).2.1 f (by omega) (by omega) (by rw[uv];exact hm);rw[show((c+1:Nat):Int)=(c:Int)+1 by omega]at key;refine Eq.trans key ?_;rw[show c+1+(lS l d p q (cU l m d r (eO p b)).1 (cU l m d r (eO p b)).2.1).1=c+((lS l d p q (cU l m d r (eO p b)).1 (cU l m d r (eO p b)).2.1).1+1) by omega];rfl
  rw[al hr,lS,QD hr];rfl
def s9 (l:au aB)(m:bE)(d:Int)(r:jY)(p:c8):bE×jY×c8×Int:=
 bif !cZ r|| !dA p then(m,r,p,0) else
 ((lS l d p p.2.2.2 m r).2.1,(lS l d p p.2.2.2 m r).2.2,(p.1,p.2.1,p.2.2.1,p.2.2.2.drop (lS l d p p.2.2.2 m r).1),((lS l d p p.2.2.2 m r).1:Int))
theorem SJ (l:au aB)(m:bE)(d:Int)(r:jY)(p:c8)(hl:l.length<=1000000000)(hm:m.length<=1000000000)(hp:p.2.2.2.length<=1000000000):gY l m d r p=some (s9 l m d r p):=by
 have hfu:=dT;unfold gY s9;simp only[fL m (show m.length<=1073741824 by omega),s6 p hp,wo,tG p hp,ab];cases cZ r with|false=>rfl|true=>?_
 cases dA p with|false=>rfl|true=>?_
 simp only[aj,af,ab,cl];have hlen:=(GQ l d p p.2.2.2 m r).2;refine(Fu _ (λc r m=>aa (sub p.2.2.2 (c:Int) (p.2.2.2.length:Int)) λx14=>aa (fA x14) λr15=>some (m,r,(p.1,p.2.1,p.2.2.1,r15),(c:Int))) (λ_ _ _ _=>rfl) l d p _ p hp hl p.2.2.2 [] m r fuel (by omega) (by simp;omega) hm).trans ?_;rw[du,cg,QY _ _ _ hlen (ba _),ab,bR (by rw[aI];exact ba _),jL _ (by rw[aI];omega)];rfl
theorem adW (l:au aB)(m:bE)(d:Int)(r:jY)(p:c8)(hl:l.length<=1000000000)(hm:m.length<=1000000000)(hp:p.2.2.2.length<=1000000000):vS l m d r p=some (s9 l m d r p):=by
 have hfu:=dT;unfold vS s9;simp only[AY m (show m.length<=1073741824 by omega),Wk p hp,LU,Gf p hp,ab];cases cZ r with|false=>rfl|true=>?_
 cases dA p with|false=>rfl|true=>?_
 simp only[aj,af,ab,cl];refine(Ge _ l d p _ hp hl p.1 p.2.1 p.2.2.1 p.2.2.2 0 m r fuel (by omega) (by omega) hm).trans ?_;rw[cg]
def jP (p:c8)(n:Int):c8×bN×Bool:=bif dA p&&cI n 0 (p.2.2.2.length:Int) then((p.1,p.2.1,p.2.2.1,p.2.2.2.drop n.toNat),p.2.2.2.take n.toNat,true) else(p,[],false)
theorem aah (p:c8)(n:Int)(h:p.2.2.2.length<=1000000000):qy p n=some (jP p n):=by
 unfold qy jP;rw[s6 p h,ab,tG p h,ab,bZ];cases dA p with|false=>rfl|true=>?_
 cases hi:cI n 0 (p.2.2.2.length:Int)with|false=>rfl|true=>?_
 have hn:=aS.1 hi;obtain⟨n,rfl⟩:=aN hn.1;simp only[aj,af,ab,cq,ah,ax];rw[Gq _ n (by omega),ab,jL _ (by simp;omega),ab,show sub p.2.2.2 0 (n:Int)=some (p.2.2.2.take n) from by rw[Bn (by omega) hn.2,ax],ab,jL _ (by simp;omega),ab]
theorem BX:∀l:au ni,(∀x∈l,0<=x.2.1/\x.2.1<=16)->0<=dH l/\dH l<=16*(l.length:Int)
 |[],_=>by simp[dH]
 |y::l,h=>by have h1:=BX l (λx hx=>h x (dZ _ hx));have h2:=h y (List.mem_cons_self ..);simp only[dH,cS,List.sum_cons,aY]at h1⊢;omega
theorem Vq (l:au ni)(i:Nat)(hi:i<l.length):dH (l.take (i+1))=dH (l.take i)+l[i].2.1:=by rw[aW hi];simp only[dH,dF,List.sum_append,cS,List.map_nil,List.sum_cons,List.sum_nil,Int.add_zero]
theorem aac (t:dM)(h:t.2.2.1.length<=1000000)(hs:∀x∈t.2.2.1,0<=x.2.1/\x.2.1<=16):ph t=some (dH t.2.2.1):=by
 have hfu:=dT;unfold ph;refine da (λi=>(dH (t.2.2.1.take i),(i:Int))) t.2.2.1.length (by omega) (λi nx hi=>?_) (λnx=>?_);have hb:=BX (t.2.2.1.take i) (λx hx=>hs x (List.mem_of_mem_take hx));have hc:=hs _ (aL hi);have hl:(t.2.2.1.take i).length<=1000000:=by rw[aO];omega
 rw[Vq _ _ hi];simp only[ly];rw[iV,ah,bp hi,ab,ak (n:=(i:Int)+1),ak];rfl;simp only[ly];rw[gT,af,cm]
def qH (l:au aB)(d:Int):bE->bE->jY->aw (bE×jY)
 |[],m,r=>some (m,r)
 |s::q,m,r=>bif (cU l m d r s).2.2 then qH l d q (cU l m d r s).1 (cU l m d r s).2.1 else none
def aht (m:bE)(r:jY):aw (bE×jY)->bE×jY×Bool
 |some x=>(x.1,x.2,true)
 |none=>(m,r,false)
def uu (l:au aB)(m:bE)(d:Int)(r:jY)(q:bE):bE×jY×Bool:=aht m r (qH l d q m r)
theorem Ih (l:au aB)(d:Int):∀(q:bE)(m:bE)(r:jY){x},qH l d q m r=some x->x.1.length=m.length
 |[],m,r,x,h=>by cases h;rfl
 |s::q,m,r,x,h=>by rw[qH]at h;cases hq:(cU l m d r s).2.2 with|false=>rw[hq]at h;cases h|true=>rw[hq]at h;exact(Ih l d q _ _ h).trans (uv ..)
theorem Cn (l:au aB)(d:Int)(M:bE)(A B2:jY)(B1:bE)(hl:l.length<=1000000000)(hM:M.length<=1000000000):∀(rest pre:bE)(m:bE)(r:jY)(f:Nat),rest.length<f->(pre++rest).length<=1000000000->m.length<=1000000000->
 bc (km (λ_ y6 y7=>some (y6,y7,true)) (λy8 _ y10 y11 _ _=>some (y10,y11,y8)) l d false (pre++rest) ((pre++rest).length:Int) M A B1 B2) f ((pre.length:Int),m,r)=some (aht M A (qH l d rest m r))
 |rest,pre,m,r,0,hf,_,_=>by omega
 |[],pre,m,r,f+1,_,_,_=>by rw[bc];simp only[km];rw[al (by simp),af];rfl
 |s::q,pre,m,r,f+1,hf,hn,hm=>by
  simp only[aY,ai]at hf hn;have hi:pre.length<(pre++s::q).length:=by simp
  have hb:(pre++s::q)[pre.length]=s:=by simp
  rw[bc];simp only[km];rw[ar (by simp;omega),bp hi,hb];simp only[ah,ab,H5 l m d r _ hl hm];rw[qH];cases hq:(cU l m d r s).2.2 with
  |false=>simp only[br,ah,af,fL M,ab];rfl
  |true=>
   simp only[aj,af,ah];rw[ak (n:=(pre.length:Int)+1)];have key:=Cn l d M A B2 B1 hl hM q (pre++[s]) (cU l m d r s).1 (cU l m d r s).2.1 f (by omega) (by simp;omega) (by rw[uv];exact hm);have el:((pre++[s]).length:Int)=(pre.length:Int)+1:=by simp
   rw[aU,List.singleton_append,el]at key;exact key
theorem V5 (l:au aB)(m:bE)(d:Int)(r:jY)(q:bE)(hl:l.length<=1000000000)(hm:m.length<=1000000000)(hq:q.length<=1000000000):jn l m d r q=some (uu l m d r q):=by have hfu:=dT;unfold jn uu;rw[fL m,ab];exact Cn l d m r _ _ hl hm q [] m r fuel (by omega) (by simpa using hq) hm
theorem Lq (l:au aB)(m:bE)(d:Int)(w:Bool):∀(n a r:Nat)(q:au (Int×Int)),kO l m d w n a r=some q->q.length<=n
 |0,a,r,q,h=>by simp only[kO,bl]at h;subst h;simp
 |n+1,a,r,q,h=>by simp only[kO]at h;split at h;simp only[bl]at h;subst h;simp;split at h;simp only[Option.map_eq_some_iff]at h;obtain⟨q',h1,rfl⟩:=h;have:=Lq l m d w n _ _ q' h1;simp only[aY];omega;cases h
theorem HA (l:au aB)(m:bE)(d a n:Int)(w:Bool):(jO l m d a n w).1.length<=4096:=by
 unfold jO;cases hB:fu l&&(cL m&&cI n 0 4096)with|false=>simp|true=>?_
 simp only[ae,aS]at hB;simp only[ah];cases n==0 with|true=>simp|false=>?_
 cases decide (a<0)with|true=>simp|false=>?_
 simp only[af];split;rename_i q hq;have:=Lq _ _ _ _ _ _ _ _ hq;show q.length<=4096;omega;simp
def u6 (m:bE)(p:Int×Int):Bytes:=bif fT m p.1 p.2 then Au m p.1.toNat p.2.toNat else []
theorem DX (m:bE)(p:Int×Int):(u6 m p).length<=8192:=by unfold u6;cases h:fT m p.1 p.2 with|false=>simp|true=>simp only[fT,ae,aE]at h;have:=adF m p.1.toNat p.2.toNat;have:=(mem_iff.1 h.1).2;simp only[ah];omega
theorem ux (m:bE):∀q:au (Int×Int),(q.flatMap (u6 m)).length<=8192*q.length
 |[]=>by simp
 |p::q=>by have:=ux m q;have:=DX m p;simp only[List.flatMap_cons,ai,aY];omega
def rh (l:au aB)(m:bE)(d a n:Int):Bytes×Bool:=
 bif (jO l m d a n false).2 then((jO l m d a n false).1.flatMap (u6 m),true) else([],false)
theorem P2 {α β:Type}(g:α->au β)(l:au α)(i:Nat)(hi:i<l.length):(l.take (i+1)).flatMap g=(l.take i).flatMap g++g l[i]:=by rw[aW hi,List.flatMap_append];simp
theorem ze (l:au aB)(m:bE)(d a n:Int)(hl:l.length<=1000000000)(hm:m.length<=1000000000)(ha:a<=9223372036854775807):nr l m d a n=some (rh l m d a n):=by
 unfold nr rh;rw[SP l m d a n false hl hm ha,ab];have hL:=HA l m d a n false;generalize jO l m d a n false=r at hL⊢;cases hr:r.2 with|false=>rfl|true=>?_
 simp only[aj,af,ah];refine(da (λi=>((r.1.take i).flatMap (u6 m),(i:Int))) r.1.length (by omega) (λi nx hi=>?_) (λnx=>?_));simp only[sj];rw[iV,bp hi,ak];have e:n6 m r.1[i].1 r.1[i].2=some (u6 m r.1[i],fT m r.1[i].1 r.1[i].2):=by rw[acZ m _ _ hm,u6];cases fT m r.1[i].1 r.1[i].2<;>rfl
 have h1:=ux m (r.1.take i);have h2:=DX m r.1[i];simp only[ah,ab,e];rw[aM (by rw[aO]at h1;omega),<-P2];rfl;simp only[sj];rw[gT,cm];rfl
theorem Kl (l:au aB)(m:bE)(d a n:Int):(rh l m d a n).1.length<=100000000:=by have hL:=HA l m d a n false;have h1:=ux m (jO l m d a n false).1;unfold rh;cases (jO l m d a n false).2 with|false=>simp|true=>simp only[ah];omega
def AE (s:Bytes):ET×Int×Bool:=
 bif ((s.length:Int) !=16)||decide (dW s 12>1) then((0,0,0,0,0),0,false) else((cP s 0,cP s 2,cP s 4,cP s 6,dW s 8),dW s 12,true)
theorem VW (s:Bytes)(h:s.length<=1000000000):kC s=some (AE s):=by
 unfold kC AE;cases (s.length:Int) !=16 with|true=>rfl|false=>?_
 simp only[uU s _ h,uV s _ h,ab,af,cz];cases decide (dW s 12>1)<;>rfl
def yr (q:se):Int:=bif decide (q.2.2<q.2.1) then 1 else 0
theorem NA (q:se):uh q=some (yr q):=by unfold uh yr;cases decide (q.2.2<q.2.1)<;>rfl
theorem uw {q:se}(h:fC q=true):0<=q.1/\q.1<=130944/\(q.2.1=2\/q.2.1=4\/q.2.1=8\/q.2.1=16)/\0<=q.2.2/\q.2.2<=2*q.2.1-1:=by simp only[fC,ae,aS]at h;obtain⟨h1,h2,h3⟩:=h;rw[xS h2]at h3;exact⟨h1.1,h1.2,gG.1 h2,h3⟩
def re (q:se):Int:=q.1+Int.tmod q.2.2 q.2.1*16
theorem Q2 {a:Int}(h:0<=a:=by omega)(hb:0<b:=by omega):0<=Int.tmod a b/\Int.tmod a b<b:=by rw[df h];exact⟨eI _ (by omega),eK _ hb⟩
theorem QO {q:se}(h:fC q=true):0<=Int.tmod q.2.2 q.2.1/\Int.tmod q.2.2 q.2.1<16:=by obtain⟨_,_,h3,h4,h5⟩:=uw h;have:=Q2 h4 (show 0<q.2.1 by omega);omega
theorem NF (q:se)(h:fC q=true):mG q=some (re q):=by obtain⟨h1,h2,h3,h4,h5⟩:=uw h;have:=QO h;unfold mG re;rw[mi,ak (n:=Int.tmod q.2.2 q.2.1*16),ak]
def ahs (q:se):se:=(q.1,q.2.1,Int.tmod (q.2.2+1) (2*q.2.1))
def Qw (l:au aB)(m:bE)(d:Int)(q:se):Bool:=
 fC q&&((rh l m d (re q) 16).2&&((AE (rh l m d (re q) 16).1).2.2&&((AE (rh l m d (re q) 16).1).2.1==yr q)))
def ra (l:au aB)(m:bE)(d:Int)(q:se):ET×se×Bool:=
 bif Qw l m d q then((AE (rh l m d (re q) 16).1).1,ahs q,true) else((0,0,0,0,0),q,false)
theorem acW (l:au aB)(m:bE)(d:Int)(q:se)(hl:l.length<=1000000000)(hm:m.length<=1000000000):l6 l m d q=some (ra l m d q):=by
 unfold l6 ra Qw;rw[G0 q,ab];cases hq:fC q with|false=>rfl|true=>?_
 obtain⟨h1,h2,h3,h4,h5⟩:=uw hq;have hs:=QO hq;have hd:=Kl l m d (re q) 16;simp only[aj,af,NF q hq,ab,ze l m d (re q) 16 hl hm (by unfold re;omega),bj];cases (rh l m d (re q) 16).2 with|false=>rfl|true=>?_
 simp only[aj,af,VW _ (bm hd (by omega)),ab,bj];cases (AE (rh l m d (re q) 16).1).2.2 with|false=>rfl|true=>?_
 simp only[aj,af,NA,ab,bj,bne];cases (AE (rh l m d (re q) 16).1).2.1==yr q with|false=>rfl|true=>?_
 simp only[aj,af,ah];rw[ak (n:=2*q.2.1),mi,ak (n:=q.2.2+1)];rfl
theorem afJ (p:c8)(i:Int):nV p i= -1\/(0<=nV p i/\nV p i<=200000):=by
 unfold nV;cases hp:dA p with|false=>exact .inl rfl|true=>?_
 cases hi:cI i 0 (p.2.2.1-1)with|false=>exact .inl rfl|true=>?_
 have h:=xl hp;have h2:=aS.1 hi;have h3:0<=i*p.2.1:=Int.mul_nonneg h2.1 (by omega);have h4:i*p.2.1<=16*512:=Int.mul_le_mul (by omega) (by omega) (by omega) (by omega);simp only[aj,cl,af];exact .inr (by omega)
def aiT (l:au aB)(m:bE)(d a n:Int):Bool:=(rh l m d a n).2&&((jk (rh l m d a n).1).2==0)
def Cz (l:au aB)(m:bE)(d:Int)(s:au Stream×cj×c8):au Stream×cj×c8:=
 ((bif aiT l m d (nV s.2.2 (ra l m d s.2.1.2.2.1).1.1) (ra l m d s.2.1.2.2.1).1.2.1 then Ca s.1 (jk (rh l m d (nV s.2.2 (ra l m d s.2.1.2.2.1).1.1) (ra l m d s.2.1.2.2.1).1.2.1).1).1 else s.1),
   (s.2.1.1,s.2.1.2.1,(ra l m d s.2.1.2.2.1).2.1,s.2.1.2.2.2),(Em s.2.2 [(ra l m d s.2.1.2.2.1).1.1]).1)
def jx (l:au aB)(m:bE)(d:Int):Nat->au Stream×cj×c8->Nat×(au Stream×cj×c8)
 |0,s=>(0,s)
 |k+1,s=>bif !(ra l m d s.2.1.2.2.1).2.2 then(0,s) else((jx l m d k (Cz l m d s)).1+1,(jx l m d k (Cz l m d s)).2)
structure GD (n:Nat) (s:List Stream×cj×c8):Prop where
 st:cV n (.sl eJ) s.1
 pl:s.2.2.2.2.2.length<=n
theorem Sk (p:c8)(l:bN):(Em p l).1.2.2.2.length<=p.2.2.2.length+l.length:=by unfold Em;cases Aa p l with|false=>show p.2.2.2.length<=_;omega|true=>simp[gk]
theorem Lv {s:au Stream×cj×c8}(h:GD n s):GD (n+322) (Cz l m d s):=by
 refine⟨?_,?_⟩;unfold Cz;cases aiT l m d (nV s.2.2 (ra l m d s.2.1.2.2.1).1.1) (ra l m d s.2.1.2.2.1).1.2.1 with|false=>exact h.st.mono|true=>exact PR h.st
 have:=Sk s.2.2 [(ra l m d s.2.1.2.2.1).1.1];have h2:=h.pl;show(Em s.2.2 [(ra l m d s.2.1.2.2.1).1.1]).1.2.2.2.length<=_;simp only[aV]at this;omega
theorem Fy {R:Type}(K:au Stream->Int->cj->c8->aw R)(l:au aB)(m:bE)(d:Int)(N:Nat)(hN:N<=1000)(B1:bE)(B2:cj)(B3:c8)(hl:l.length<=1000000000)(hm:m.length<=1000000000):∀(k i:Nat)(s:au Stream×cj×c8)(f:Nat),i+k=N->k<f->GD (500000000+322*i) s->
 bc (lr K l d (N:Int) B1 B2 B3 m) f (s.1,(i:Int),s.2.1,s.2.2)=K (jx l m d k s).2.1 ((i+(jx l m d k s).1:Nat):Int) (jx l m d k s).2.2.1 (jx l m d k s).2.2.2
 |k,i,s,0,_,hf,_=>by omega
 |0,i,s,f+1,hi,hf,z=>by rw[bc];simp only[lr];rw[gT,af];rfl
 |k+1,i,s,f+1,hi,hf,z=>by have hst:cV 900000000 (.sl eJ) s.1:=z.st.mono;have hpl:s.2.2.2.2.2.length<=900000000:=bm z.pl (by omega);rw[bc];simp only[lr];rw[iV];simp only[ah,acW l m d _ hl hm,ab,jx];cases hnx:(ra l m d s.2.1.2.2.1).2.2 with|false=>rfl|true=>have key:=Fy K l m d N hN B1 B2 B3 hl hm k (i+1) (Cz l m d s) f (by omega) (by omega) ((Lv z).st.mono|>λa=>⟨a,bm (Lv z).pl (by omega)⟩);rw[show i+1+(jx l m d k (Cz l m d s)).1=i+((jx l m d k (Cz l m d s)).1+1) by omega]at key;simp only[aj,af];rw[<-key];unfold Cz;generalize ra l m d s.2.1.2.2.1=c;have ha:=afJ s.2.2 c.1.1;have hd:=Kl l m d (nV s.2.2 c.1.1) c.1.2.1;simp only[Fs _ _ (show s.2.2.2.2.2.length<=1000000000 by omega),ze l m d _ c.1.2.1 hl hm (show nV s.2.2 c.1.1<=9223372036854775807 by omega),ab,Dg _ (bm hd (by omega)),Qc _ _ hst,KU s.2.2 [c.1.1] (show s.2.2.2.2.2.length+1<=1000000000 by omega)];rw[ak (n:=(i:Int)+1),show((i+1:Nat):Int)=(i:Int)+1 by omega];unfold aiT;cases (rh l m d (nV s.2.2 c.1.1) c.1.2.1).2<;>cases (jk (rh l m d (nV s.2.2 c.1.1) c.1.2.1).1).2==0<;>rfl
theorem Lu {l:au aB}{m:bE}{d:Int}:∀(k:Nat){s:au Stream×cj×c8}{n:Nat},GD n s->GD (n+322*k) (jx l m d k s).2
 |0,s,n,h=>h
 |k+1,s,n,h=>by rw[jx];cases (ra l m d s.2.1.2.2.1).2.2 with|false=>exact⟨h.st.mono,bm h.pl (by omega)⟩|true=>have:=Lu (l:=l) (m:=m) (d:=d) k (Lv (l:=l) (m:=m) (d:=d) h);exact⟨this.st.mono,bm this.pl (by omega)⟩
def jj (l:au aB)(m:bE)(d:Int)(rx:cj)(pl:c8)(st:au Stream)(n:Int):bE×cj×c8×au Stream×Int:=
 bif !EV rx||(!dA pl|| !cI n 0 1000) then(m,rx,pl,st,0) else
 ((s9 l m d (jx l m d n.toNat (st,rx,pl)).2.2.1.1 (jx l m d n.toNat (st,rx,pl)).2.2.2).1,
   ((s9 l m d (jx l m d n.toNat (st,rx,pl)).2.2.1.1 (jx l m d n.toNat (st,rx,pl)).2.2.2).2.1,(jx l m d n.toNat (st,rx,pl)).2.2.1.2),
   (s9 l m d (jx l m d n.toNat (st,rx,pl)).2.2.1.1 (jx l m d n.toNat (st,rx,pl)).2.2.2).2.2.1,(jx l m d n.toNat (st,rx,pl)).2.1,((jx l m d n.toNat (st,rx,pl)).1:Int))
theorem SN (l:au aB)(m:bE)(d:Int)(rx:cj)(pl:c8)(st:au Stream)(n:Int)(hl:l.length<=1000000000)(hm:m.length<=1000000000)(hp:pl.2.2.2.length<=500000000)(hs:cV 500000000 (.sl eJ) st):tT l m d rx pl st n=some (jj l m d rx pl st n):=by
 have hfu:=dT;have hsl:st.length<=500000000:=hs.1;unfold tT jj;simp only[fL m (show m.length<=1073741824 by omega),s6 pl (show pl.2.2.2.length<=1000000000 by omega),wR st,Qk,tG pl (show pl.2.2.2.length<=1000000000 by omega),bZ,ab];cases EV rx with|false=>rfl|true=>?_
 cases dA pl with|false=>rfl|true=>?_
 cases hn:cI n 0 1000 with|false=>rfl|true=>?_
 have h:=aS.1 hn;obtain⟨n,rfl⟩:=aN h.1;simp only[aj,af,ab,cl,ax];have z:GD (500000000+322*0) (st,rx,pl):=⟨hs,hp⟩
 have hz:=Lu (l:=l) (m:=m) (d:=d) n z;refine(Fy _ l m d n (by omega) _ _ _ hl hm n 0 (st,rx,pl) fuel (by omega) (by omega) z).trans ?_;rw[cg];simp only[SJ l m d _ _ hl hm (show(jx l m d n (st,rx,pl)).2.2.2.2.2.2.length<=1000000000 from bm hz.pl (by omega)),ab]
def gr (i:Nat):Int:=1280+(i:Int)*1792
theorem Xy (h:i<=8):aq (1280+aq ((i:Int)*1792))=gr i:=by rw[ak (n:=(i:Int)*1792),ak];rfl
theorem SC (i:Nat)(h:i<=8):pN (i:Int)=some (gr i):=by rw[pN,Xy h]
theorem nJ (a b n:Int)(h:n<=1000:=by omega):(gF a b n).1.2.2.2.length<=1000:=by unfold gF;cases dA (a,b,n,[])with|false=>simp|true=>simp[upto];omega
def CG (i:Nat):cj:=((gr i,4,0,0),(gr i+64,4,0),(gr i+64,4,0),((0,0,0,0,0,0,0,0,0,0,0,0,0,0,0,([]:Bytes)),0,0),false,0)
theorem Z8 (i:Nat)(h:i<=8):uY (i:Int)=some (CG i,(gF (gr i+128) 384 4).1):=by have hb:gr i=1280+(i:Int)*1792:=rfl;simp only[uY,SC i h,ab];rw[ak (n:=gr i+128),ak (n:=gr i+64),H3];rfl
def BQ:dM:=((0,16,0,0),(gF 256 128 8).1,([]:au ni),0)
theorem aal:AR=some BQ:=by rw[AR,H3];rfl
theorem Oj:wb=some BQ:=by rw[wb,Io];rfl
def rb (l:au aB)(m:bE)(i:Nat):bE×jY×c8×Int:=
 s9 l (gR l m 0 (gr i) (uO 128) false).1 0 (gr i,4,0,0) (gF (gr i+128) 384 4).1
def NV (h:Host)(i:Nat):Host:=
 ((rb h.2.1 h.1 i).1,h.2.1,h.2.2.1,h.2.2.2.1.set i ((rb h.2.1 h.1 i).2.1,(gr i+64,4,0),(gr i+64,4,0),((0,0,0,0,0,0,0,0,0,0,0,0,0,0,0,([]:Bytes)),0,0),false,(match h.2.2.2.1[i]? with|some x=>x.2.2.2.2.2|none=>0)),h.2.2.2.2.1.set i (rb h.2.1 h.1 i).2.2.1,h.2.2.2.2.2)
theorem Uv (h:Host)(i:Nat)(hi:i<=8)(h1:i<h.2.2.2.1.length)(h2:i<h.2.2.2.2.1.length)(hl:h.2.1.length<=1000000000)(hm:h.1.length<=1000000000):uJ h (i:Int)=some ((),NV h i):=by have hb:gr i=1280+(i:Int)*1792:=rfl;have hz:fJ 128 0=some (uO 128):=LP 128;have hf:=adW h.2.1 (gR h.2.1 h.1 0 (gr i) (uO 128) false).1 0 (gr i,4,0,0) (gF (gr i+128) 384 4).1 hl (by rw[jy];exact hm) (bm (nJ (gr i+128) 384 4) (by omega));unfold uJ;simp only[Xy hi];rw[ak (n:=gr i+128),ak (n:=gr i+64),Io,hz];simp only[bp h1,bp h2,ab,MN h.2.1 h.1 0 (gr i) (uO 128) hl hm (by omega),hf,ax,NV,rb,List.getElem?_eq_getElem h1]
def u3 (h:Host)(i:Nat)(n:Int):Int×Host:=
 match h.2.2.2.1[i]?,h.2.2.2.2.1[i]? with
 |some rx,some pl=>
  ((jj h.2.1 h.1 0 rx pl h.2.2.2.2.2.2.2.2.2.1 n).2.2.2.2,(jj h.2.1 h.1 0 rx pl h.2.2.2.2.2.2.2.2.2.1 n).1,h.2.1,h.2.2.1,h.2.2.2.1.set i (jj h.2.1 h.1 0 rx pl h.2.2.2.2.2.2.2.2.2.1 n).2.1,h.2.2.2.2.1.set i (jj h.2.1 h.1 0 rx pl h.2.2.2.2.2.2.2.2.2.1 n).2.2.1,h.2.2.2.2.2.1,h.2.2.2.2.2.2.1,h.2.2.2.2.2.2.2.1,h.2.2.2.2.2.2.2.2.1,(jj h.2.1 h.1 0 rx pl h.2.2.2.2.2.2.2.2.2.1 n).2.2.2.1,h.2.2.2.2.2.2.2.2.2.2)
 |_,_=>(0,h)
theorem Qj (h:Host)(i:Nat)(n:Int)(h1:i<h.2.2.2.1.length)(h2:i<h.2.2.2.2.1.length)(z:cV 500000000 de h):jM h (i:Int) n=some (u3 h i n):=by have hl:h.2.1.length<=500000000:=z.2.1.1;have hm:h.1.length<=500000000:=z.1.1;have hp:h.2.2.2.2.1[i].2.2.2.length<=500000000:=(z.2.2.2.2.1.2 _ (aL h2)).2.2.2.1;unfold jM;simp only[bp h1,bp h2,ab,SN h.2.1 h.1 0 _ _ _ n (show h.2.1.length<=1000000000 by omega) (show h.1.length<=1000000000 by omega) hp z.2.2.2.2.2.2.2.2.2.1,ax,u3,List.getElem?_eq_getElem h1,List.getElem?_eq_getElem h2]
theorem lz {t:CT}{l:au t.D}{x:t.D}(z:cV n (.sl t) l)(hx:cV n t x):cV n (.sl t) (l.set i x):=by refine⟨?_,λy hy=>?_⟩;show(l.set i x).length<=n;rw[aA];exact z.1;rcases List.mem_or_eq_of_mem_set hy with h|h;exact z.2 y h;rw[h];exact hx
theorem NZ (hn:128<=n)(h:zR m):cV n (.sl .str) m:=⟨bm h.2 (by omega),λx hx=>bm (Nat.le_of_eq (h.1 x hx)) hn⟩
theorem UU (hn:128<=n)(z:cV n (.sl .str) m)(a:Int)(s:Bytes):cV n (.sl .str) (nS m a s).1:=by
 unfold nS;cases hw:fT m a (s.length:Int)with|false=>exact z|true=>?_
 simp only[fT,ae,aE]at hw;exact NZ hn (xK s.length (oE.1 hw.1) (by omega)).1
theorem T8 {n:Nat}(hn:128<=n):∀(q:au (Int×Int)){m:bE}(s:Bytes),cV n (.sl .str) m->cV n (.sl .str) (Ht q m s)
 |[],m,s,z=>z
 |p::q,m,s,z=>T8 hn q _ (UU hn z _ _)
theorem CB (hn:128<=n)(z:cV n (.sl .str) m)(l:au aB)(d a:Int)(s:Bytes)(w:Bool):cV n (.sl .str) (gR l m d a s w).1:=by unfold gR;cases (jO l m d a (s.length:Int) w).2 with|false=>exact z|true=>exact T8 hn _ _ z
theorem F5 (hn:128<=n)(z:cV n (.sl .str) m)(l:au aB)(d:Int)(r:jY)(s:Bytes):cV n (.sl .str) (cU l m d r s).1:=by
 unfold cU;cases (nX r==0)||((s.length:Int) !=16)with|true=>exact z|false=>?_
 cases (gR l m d (oa r r.2.2.2) s true).2 with|false=>exact z|true=>exact CB hn z ..
theorem Nd {n:Nat}(hn:128<=n)(l:au aB)(d:Int)(p:c8):∀(q:bN){m:bE}(r:jY),cV n (.sl .str) m->cV n (.sl .str) (lS l d p q m r).2.1
 |[],m,r,z=>z
 |b::q,m,r,z=>by rw[lS];cases (cU l m d r (eO p b)).2.2 with|false=>exact z|true=>exact Nd hn l d p q _ (F5 hn z ..)
theorem Nf (hn:128<=n)(z:cV n (.sl .str) m)(l:au aB)(d:Int)(r:jY)(p:c8):cV n (.sl .str) (s9 l m d r p).1:=by unfold s9;cases !cZ r|| !dA p with|true=>exact z|false=>exact Nd hn _ _ _ _ _ z
theorem X6 (l:au aB)(m:bE)(d:Int)(r:jY)(p:c8):(s9 l m d r p).1.length=m.length:=by unfold s9;cases !cZ r|| !dA p with|true=>rfl|false=>exact(GQ ..).1
theorem Ei (l:au aB)(m:bE)(d:Int)(r:jY)(p:c8):(s9 l m d r p).2.2.1.2.2.2.length<=p.2.2.2.length:=by unfold s9;cases !cZ r|| !dA p with|true=>exact ba _|false=>show(p.2.2.2.drop _).length<=_;rw[aI];omega
theorem TZ (l:au aB)(m:bE)(d:Int):∀(k:Nat)(s:au Stream×cj×c8),(jx l m d k s).2.2.1.2.2.2=s.2.1.2.2.2/\(jx l m d k s).1<=k
 |0,s=>⟨rfl,ba _⟩
 |k+1,s=>by rw[jx];cases (ra l m d s.2.1.2.2.1).2.2 with|false=>exact⟨rfl,bS _⟩|true=>have:=TZ l m d k (Cz l m d s);simp only[aj,af];exact⟨this.1,by omega⟩
theorem N3 (hn:128<=n){rx:cj}{pl:c8}{st:au Stream}(c:Int)(zm:cV n (.sl .str) m)(zr:cV n ec rx)(zp:cV n js pl)(zs:cV n (.sl eJ) st): cV n (.sl .str) (jj l m d rx pl st c).1/\cV n ec (jj l m d rx pl st c).2.1/\cV (n+322000) js (jj l m d rx pl st c).2.2.1/\cV (n+322000) (.sl eJ) (jj l m d rx pl st c).2.2.2.1/\0<=(jj l m d rx pl st c).2.2.2.2/\(jj l m d rx pl st c).2.2.2.2<=1000:=by
 unfold jj;cases hc: !EV rx||(!dA pl|| !cI c 0 1000)with
 |true=>exact⟨zm,zr,zp.mono,zs.mono,cu _,by show(0:Int)<=1000;omega⟩
 |false=>
  have hi:cI c 0 1000=true:=by cases h:cI c 0 1000 with|true=>rfl|false=>rw[h]at hc;simp at hc
  have h:=aS.1 hi;have z:=Lu (l:=l) (m:=m) (d:=d) c.toNat (s:=(st,rx,pl)) (n:=n) ⟨zs,zp.2.2.2.1⟩;have hx:=TZ l m d c.toNat (st,rx,pl);refine⟨Nf hn zm ..,⟨?_,?_,?_,?_⟩,⟨ch,ch,ch,?_,λ_ _=>trivial⟩,z.st.mono,by show(0:Int)<=((jx l m d c.toNat (st,rx,pl)).1:Int);omega,by show((jx l m d c.toNat (st,rx,pl)).1:Int)<=1000;omega⟩;exact⟨ch,ch,ch,ch⟩;exact⟨ch,ch,ch⟩;exact⟨ch,ch,ch⟩;have e:=congrArg (λq=>cV n ec (rx.1,rx.2.1,rx.2.2.1,q)) hx.1;exact(e.mpr zr).2.2.2;have:=Ei l m d (jx l m d c.toNat (st,rx,pl)).2.2.1.1 (jx l m d c.toNat (st,rx,pl)).2.2.2;have h2:=z.pl;show(s9 l m d (jx l m d c.toNat (st,rx,pl)).2.2.1.1 (jx l m d c.toNat (st,rx,pl)).2.2.2).2.2.1.2.2.2.length<=_;omega
theorem WQ (hn:128<=n)(i:Nat)(c:Int)(z:cV n de h):cV (n+322000) de (u3 h i c).2:=by
 unfold u3;cases h1:h.2.2.2.1[i]? with|none=>exact z.mono|some rx=>?_
 cases h2:h.2.2.2.2.1[i]? with|none=>exact z.mono|some pl=>?_
 have zr:=z.2.2.2.1.2 _ (List.mem_of_getElem? h1);have zp:=z.2.2.2.2.1.2 _ (List.mem_of_getElem? h2);have hp:=N3 hn (l:=h.2.1) (d:=0) c z.1 zr zp z.2.2.2.2.2.2.2.2.2.1;have z':cV (n+322000) de h:=z.mono;exact⟨hp.1.mono,z'.2.1,z'.2.2.1,lz z'.2.2.2.1 (hp.2.1.mono),lz z'.2.2.2.2.1 hp.2.2.1,z'.2.2.2.2.2.1,z'.2.2.2.2.2.2.1,z'.2.2.2.2.2.2.2.1,z'.2.2.2.2.2.2.2.2.1,hp.2.2.2.1,z'.2.2.2.2.2.2.2.2.2.2⟩
def bt (l:au aB)(m:bE)(d:Int)(r:jY):Bytes×jY×Bool:=
 bif !cZ r||(bJ r==0) then([],r,false) else
 bif !(rh l m d (oa r r.2.2.1) 16).2 then([],r,false) else
 ((rh l m d (oa r r.2.2.1) 16).1,(r.1,r.2.1,Int.tmod (r.2.2.1+1) (2*r.2.1),r.2.2.2),true)
theorem FE (l:au aB)(m:bE)(d:Int)(r:jY)(hl:l.length<=1000000000)(hm:m.length<=1000000000):rJ l m d r=some (bt l m d r):=by
 have hA:=CL r r.2.2.1;unfold rJ bt;simp only[wo,yh,ab,ND,ze l m d _ 16 hl hm (show oa r r.2.2.1<=9223372036854775807 by omega)];cases hb:cZ r with|false=>rfl|true=>?_
 have h:=kJ hb;cases bJ r==0 with|true=>rfl|false=>?_
 simp only[aj,af,ab,cl];cases (rh l m d (oa r r.2.2.1) 16).2 with|false=>rfl|true=>?_
 simp only[aj,af];rw[ak (n:=2*r.2.1),mi,ak (n:=r.2.2.1+1)]
theorem D5 (l:au aB)(m:bE)(d:Int)(r:jY):(bt l m d r).1.length<=100000000:=by
 unfold bt;cases !cZ r||(bJ r==0)with|true=>exact bS _|false=>?_
 cases (rh l m d (oa r r.2.2.1) 16).2 with|false=>exact bS _|true=>exact Kl ..
theorem CQ (h:(bt l m d r).2.2=true): cZ (bt l m d r).2.1=true/\bJ (bt l m d r).2.1=bJ r-1/\(bt l m d r).2.1.1=r.1/\(bt l m d r).2.1.2.1=r.2.1/\(bt l m d r).2.1.2.2.2=r.2.2.2:=by
 unfold bt at h⊢;cases hb:cZ r with|false=>rw[hb]at h;cases h|true=>?_
 cases hu:bJ r==0 with|true=>rw[hb,hu]at h;cases h|false=>?_
 cases hd:(rh l m d (oa r r.2.2.1) 16).2 with|false=>rw[hb,hu,hd]at h;cases h|true=>?_
 simp only[aj,cl,af];have hr:=kJ hb;have hq:=hb;simp only[cZ,ae,aE]at hq;have h1:=hq.2.2.2.2;have hs:=hq.2.1;have hu':bJ r≠0:=by simpa using hu
 have e:Int.tmod (r.2.2.1+1) (2*r.2.1)=(r.2.2.1+1)%(2*r.2.1):=df (by omega);rw[e];unfold bJ at h1 hu'⊢;simp only[hs,bT]at h1 hu'⊢;have key:(r.2.2.2-(r.2.2.1+1)%(2*r.2.1))%(2*r.2.1)=(r.2.2.2-r.2.2.1)%(2*r.2.1)-1/\0<=(r.2.2.1+1)%(2*r.2.1)/\(r.2.2.1+1)%(2*r.2.1)<=2*r.2.1-1:=by rcases hr.2.2.1 with hn|hn|hn|hn<;>rw[hn]at h1 hu' hr⊢<;>omega
 refine⟨?_,key.1,ch,ch,ch⟩;simp only[cZ,bJ,hs,bT,ae,aE,aS];refine⟨by omega,ch,by omega,by omega,?_⟩;rw[key.1];omega
theorem wG (h:cZ r=true):0<=bJ r/\bJ r<=16:=by have hr:=kJ h;have hq:=h;simp only[cZ,ae,aE]at hq;refine⟨?_,by have:=hq.2.2.2.2;omega⟩;unfold bJ;rw[hq.2.1,aF rfl];exact eI _ (by omega)
def HO:C0:=(0,0,0,0,0,0)
def Cb (s:Bytes):C0:=((bO s 0:Int),(bO s 1:Int),cP s 2,dW s 4,cP s 8,cP s 10)
def cX (s:Bytes):C0×Bool:=
 bif ((s.length:Int) !=16) then(HO,false) else bif !(w8 (Cb s)==s) then(HO,false) else(Cb s,true)
theorem SG (s:Bytes)(h:s.length<=1000000000):nZ s=some (cX s):=by
 unfold nZ cX;cases hn:(s.length:Int) !=16 with|true=>rfl|false=>?_
 have hl:s.length=16:=by
  have:((s.length:Int)==16)=true:=by simpa using hn
  have:=bn this;omega
 have b0:=sg (s[0]'(by omega));have b1:=sg (s[1]'(by omega));have i0:idx s 0=some (s[0]'(by omega)):=bp (i:=0) (by omega);have i1:idx s 1=some (s[1]'(by omega)):=bp (i:=1) (by omega);have e:(((s[0]'(by omega)).toNat:Int),((s[1]'(by omega)).toNat:Int),cP s 2,dW s 4,cP s 8,cP s 10)=Cb s:=by simp only[Cb,bO,cr (show 0<s.length by omega),cr (show 1<s.length by omega)]
 simp only[af,i0,i1,ab,uU s _ h,uV s _ h];rw[iy (n:=(s[0]'(by omega)).toNat),iy (n:=(s[1]'(by omega)).toNat),e,Qe,ab];cases w8 (Cb s)==s<;>rfl
theorem Vw (h:(cX s).2=true):s7 (cX s).1=true:=by
 unfold cX at h⊢;cases hn:(s.length:Int) !=16 with|true=>rw[hn]at h;cases h|false=>?_
 cases he:w8 (Cb s)==s with|false=>rw[hn,he]at h;cases h|true=>?_
 simp only[af,aj];cases hd:s7 (Cb s)with
 |true=>rfl
 |false=>
  have:w8 (Cb s)=[]:=by unfold w8;rw[hd];rfl
  rw[this]at he;cases s with|nil=>simp at hn|cons x y=>cases he
def Vy (x:C0):Bool:=bif x.1==1 then(aq (BitVec.toNat (gu x.2.1&&&gu 1))) !=0 else false
def tz (l:au aB)(m:bE)(d:Int):Nat->au C0->jY->au C0×jY×Bool
 |0,acc,r=>(acc,r,true)
 |n+1,acc,r=>
  bif !(bt l m d r).2.2|| !(cX (bt l m d r).1).2 then([],(r.1,r.2.1,r.2.2.2,r.2.2.2),false) else
  bif Vy (cX (bt l m d r).1).1 then(acc++[(cX (bt l m d r).1).1],(bt l m d r).2.1,true) else
  tz l m d n (acc++[(cX (bt l m d r).1).1]) (bt l m d r).2.1
def dc (l:au aB)(m:bE)(d:Int)(r:jY):au C0×jY×Bool:=
 bif !cZ r||(bJ r==0) then([],r,false) else tz l m d (bJ r).toNat [] r
theorem DJ {R:Type}(k0:au C0->jY->aw R)(k1:au C0->Bool->au C0->jY->jY->aw R)(K:au C0×jY×Bool->aw R)
 (h0:∀a r,k0 a r=K (a,r,true)) (l:au aB) (m:bE) (d:Int) (B E:jY) (h1:∀a r,k1 [] false a r E=K ([],E,false)) (hl:l.length<=1000000000) (hm:m.length<=1000000000):∀(n:Nat)(acc:au C0)(r:jY)(f:Nat),
 n<f->cZ r=true->(bJ r).toNat=n->acc.length+n<=1000->E=(r.1,r.2.1,r.2.2.2,r.2.2.2)->bc (lx k0 k1 l d ([]:au C0) false m B E) f (acc,r)=K (tz l m d n acc r)
 |n,acc,r,0,hf,_,_,_,_=>by omega
 |0,acc,r,f+1,hf,hb,hu,ha,hE=>by rw[bc];simp only[lx,yh,ab];rw[gT,af,h0];rfl
 |n+1,acc,r,f+1,hf,hb,hu,ha,hE=>by
  have hlen:=D5 l m d r;have hk:=CQ (l:=l) (m:=m) (d:=d) (r:=r);rw[bc];simp only[lx,yh,ab];rw[iV,ah,FE l m d r hl hm,ab,tz];generalize bt l m d r=t at hlen hk⊢;cases ht:t.2.2 with
  |false=>simp only[br,ah,gI,<-hE,h1]
  |true=>
   have hk:=hk ht;simp only[aj,af,cz];rw[SG _ (show t.1.length<=1000000000 by omega),ab];generalize cX t.1=x;cases x.2 with
   |false=>simp only[br,ah,<-hE,h1]
   |true=>
    simp only[aj,af];rw[aM (by rw[aV];omega)];have e:(aa (cond (x.1.1==1) (some ((aq (BitVec.toNat (gu x.1.2.1&&&gu 1))) !=0)) (some false)):(Bool->aw R)->aw R)=λK=>K (Vy x.1):=by funext K;unfold Vy;cases x.1.1==1<;>rfl
    rw[e];cases Vy x.1 with|true=>simp only[ah,h0]|false=>simp only[af];exact DJ k0 k1 K h0 l m d B E h1 hl hm n _ _ f (by omega) hk.1 (by omega) (by simp;omega) (by rw[hE,hk.2.2.1,hk.2.2.2.1,hk.2.2.2.2])
theorem Mz (l:au aB)(m:bE)(d:Int)(r:jY)(hl:l.length<=1000000000)(hm:m.length<=1000000000):tZ l m d r=some (dc l m d r):=by
 have hfu:=dT;unfold tZ dc;simp only[wo,yh,ab];cases hb:cZ r with|false=>rfl|true=>?_
 cases bJ r==0 with|true=>rfl|false=>?_
 have hu:=wG hb;simp only[aj,af,ab,cl];exact DJ _ _ (λx=>some x) (λ_ _=>rfl) l m d _ _ (λ_ _=>rfl) hl hm _ [] r fuel (by omega) hb rfl (by simp;omega) rfl
def yt (x:Int×Int):Bool:=decide (x.1<0)|| !cI x.2 0 4096
def nL (l:au (Int×Int)):Bool:= !l.any yt&&decide ((l.length:Int)<=16)
theorem WM (l:au (Int×Int)):(bif l.any yt then some false else some (decide ((l.length:Int)<=16)))=some (nL l):=by unfold nL;cases l.any yt<;>rfl
theorem KW (l:au (Int×Int))(h:l.length<=1000000000):rG l=some (nL l):=by
 unfold rG;rw[<-WM];refine EZ yt l (by omega) (λi hi nx=>?_) (λnx=>?_);simp only[qp];rw[iV,ah,bp hi,ab,bZ,ak];unfold yt;cases decide (l[i].1<0)with|true=>rfl|false=>simp only[af,ab,cz];rfl
 simp only[qp];rw[gT,af]
theorem Hp {l:au (Int×Int)}(h:nL l=true):l.length<=16/\∀x∈l,0<=x.1/\0<=x.2/\x.2<=4096:=by unfold nL at h;simp only[ae,aE,aH]at h;refine⟨by omega,λx hx=>?_⟩;have:=List.any_eq_false.1 h.1 x hx;unfold yt at this;simp only[cB,aE,aH,not_or,Bool.not_eq_false,aS]at this;omega
def dsc (n:Nat)(c:Int)(i:Nat)(x:Int×Int):C0:=(1,(if i+1=n then 1 else 0),x.2,x.1,0,c)
def w4 (ps:au (Int×Int))(c:Int):Nat->au C0
 |0=>[]
 |i+1=>w4 ps c i++[dsc ps.length c i (ps.getD i (0,0))]
theorem zY (ps:au (Int×Int))(c:Int):∀i,(w4 ps c i).length=i
 |0=>rfl
 |i+1=>by rw[w4,ai,zY ps c i];rfl
theorem GM (ps:au (Int×Int))(c:Int)(q:C0->Bool):∀i,(w4 ps c i).all q=(List.range i).all (λj=>q (dsc ps.length c j (ps.getD j (0,0))))
 |0=>rfl
 |i+1=>by rw[w4,List.all_append,GM ps c q i,fW,List.all_append];rfl
def pz (ps:au (Int×Int))(z c:Int):au C0:=
 bif ((ps.length:Int)==0)||(!nL ps|| !cI z 1 128) then [] else
 bif ([(2,0,0,0,z,c)]++w4 ps c ps.length).all s7 then [(2,0,0,0,z,c)]++w4 ps c ps.length else []
theorem AM (ps:au (Int×Int))(z c:Int)(h:ps.length<=1000000000:=by omega):∃b,ie ps z c=some (b,pz ps z c)/\(b=false->pz ps z c=[]):=by
 unfold ie pz;rw[KW ps h,bZ];simp only[ab];cases ((ps.length:Int)==0)with|true=>exact⟨false,rfl,λ_=>rfl⟩|false=>?_
 cases nL ps with|false=>exact⟨false,rfl,λ_=>rfl⟩|true=>?_
 cases cI z 1 128 with|false=>exact⟨false,rfl,λ_=>rfl⟩|true=>?_
 simp only[aj,af,ab,cl];refine⟨([(2,0,0,0,z,c)]++w4 ps c ps.length).all s7,?_,λhb=>by rw[hb];rfl⟩;refine da (λi=>(([(2,0,0,0,z,c)]++w4 ps c i,(i:Int)):au C0×Int)) ps.length (by omega) (λi nx hi=>?_) (λnx=>?_);have hl:=zY ps c i;simp only[jD];rw[iV,ah,bp hi,ab,ak (n:=(ps.length:Int)-1),ak];have e:[(2,0,0,0,z,c)]++w4 ps c (i+1)=([(2,0,0,0,z,c)]++w4 ps c i)++[dsc ps.length c i ps[i]]:=by rw[w4,cr hi,aU]
 rw[e];unfold dsc;by_cases hc:i+1=ps.length;rw[show((i:Int)==(ps.length:Int)-1)=true from by rw[bh];omega,aF hc];simp only[ah];rw[aM (by simp only[ai,aV];omega)];rfl;rw[show((i:Int)==(ps.length:Int)-1)=false from by rw[bP];omega,aD hc];simp only[af];rw[aM (by simp only[ai,aV];omega)];rfl;simp only[jD];rw[gT,af];have hl:=zY ps c ps.length;generalize hq:[(2,0,0,0,z,c)]++w4 ps c ps.length=q;have hn:q.length<=1000000001:=by rw[<-hq];simp only[ai,aV];omega
 rw[pZ (fin:=some (true,q)) (hit:=some (false,[])) s7 q (by omega) (λi hi nx=>?_) (λnx=>?_)];cases q.all s7<;>rfl;simp only[jh];rw[iV,ah,bp hi,ab,SH,ab,ak];rfl;simp only[jh];rw[gT,af]
def LG (x y:C0):Bool:=(x.1==y.1)&&((x.2.1==y.2.1)&&((x.2.2.1==y.2.2.1)&&((x.2.2.2.1==y.2.2.2.1)&&((x.2.2.2.2.1==y.2.2.2.2.1)&&((x.2.2.2.2.2==y.2.2.2.2.2)&&true)))))
def HB (a b:au C0):Bool:=((a.length:Int)==(b.length:Int))&&(List.range a.length).all λi=>LG (a.getD i HO) (b.getD i HO)
def kx (l:au C0):au (Int×Int):=(l.drop 1).map λx=>(x.2.2.2.1,x.2.2.1)
def fw (l:au C0):au (Int×Int)×Int×Int×Bool:=
 match l with
 |h::x::r=>bif HB (pz (kx l) h.2.2.2.2.1 h.2.2.2.2.2) l then(kx l,h.2.2.2.2.1,h.2.2.2.2.2,true) else([],0,0,false)
 |_=>([],0,0,false)
theorem ZB (ps:au (Int×Int))(z c:Int):(pz ps z c).length<=ps.length+1:=by
 unfold pz;cases ((ps.length:Int)==0)||(!nL ps|| !cI z 1 128)with|true=>simp|false=>?_
 cases ([(2,0,0,0,z,c)]++w4 ps c ps.length).all s7 with|false=>simp|true=>simp only[af,ah,ai,aV,zY];omega
theorem Qi (l:au C0)(hl:l.length<=1000000000):nw l=some (fw l):=by
 unfold nw;match l,hl with
 |[],_=>rfl
 |[h],_=>rfl
 |h::y::r,hl=>
  generalize hq:y::r=q;have hq1:1<=q.length:=by rw[<-hq];simp
  have hlen:q.length+1<=1000000000:=by rw[<-hq];simpa using hl
  have i0:idx (h::q) 0=some h:=rfl;have s0:sub (h::q) 1 (((h::q).length:Nat):Int)=some q:=Bm (l:=h::q) 1 (by simp) (a:=1) rfl;rw[al (by simp only[aY];omega),af,s0,ab];refine da (λi=>(((q.take i).map (λx=>(x.2.2.2.1,x.2.2.1)),(i:Int)):au (Int×Int)×Int)) q.length (by omega) (λi nx hi=>?_) (λnx=>?_);simp only[kE];rw[iV,ah,bp hi,ab,aM (by simp only[bF,aO,aV];omega),ak,aW hi,dF];rfl;simp only[kE];rw[gT,af,cm];have hp:q.map (λx=>(x.2.2.2.1,x.2.2.1))=kx (h::q):=rfl;have hpl:(kx (h::q)).length=q.length:=by rw[<-hp,bF]
  rw[hp];have hdl:=ZB (kx (h::q)) h.2.2.2.2.1 h.2.2.2.2.2;obtain⟨b,hd,hb⟩:=AM (kx (h::q)) h.2.2.2.2.1 h.2.2.2.2.2;have hR:fw (h::q)=bif HB (pz (kx (h::q)) h.2.2.2.2.1 h.2.2.2.2.2) (h::q) then(kx (h::q),h.2.2.2.2.1,h.2.2.2.2.2,true) else([],0,0,false):=by rw[<-hq];rfl
  rw[hR];simp only[i0,ab,hd];have hlc:(((h::q).length:Nat):Int)=(q.length:Int)+1:=by simp only[aY];omega
  generalize pz (kx (h::q)) h.2.2.2.2.1 h.2.2.2.2.2=w at hdl hb⊢
  have core:∀(K:aw (au (Int×Int)×Int×Int×Bool))(w':au C0),w'=w->(bif ((w'.length:Nat):Int) !=(((h::q).length:Nat):Int) then some (([]:au (Int×Int)),(0:Int),(0:Int),false) else
   bc (gi (λy10=>some (kx (h::q),h.2.2.2.2.1,h.2.2.2.2.2,true)) (λy11 y12 y13 y14 y15=>some (y11,y12,y13,y14)) (h::q) (kx (h::q)) h.2.2.2.2.1 h.2.2.2.2.2 w' ((w'.length:Nat):Int)) fuel 0)=some (bif HB w (h::q) then(kx (h::q),h.2.2.2.2.1,h.2.2.2.2.2,true) else([],0,0,false)):=by
   intro K w' e
   subst e
   unfold HB
   cases hl:((w'.length:Int)==(((h::q).length:Nat):Int))with
   |false=>simp only[bne,hl,br,ah,dw,af]
   |true=>
    have hn:w'.length=(h::q).length:=by have:=bn hl;omega
    simp only[bne,hl,aj,af,bj]
    rw[ic (fin:=some (kx (h::q),h.2.2.2.2.1,h.2.2.2.2.2,true)) (hit:=some ([],0,0,false)) (λi=>LG (w'.getD i HO) ((h::q).getD i HO)) w'.length (by omega) (λi nx hi=>?_) (λnx=>?_)]
    ·cases (List.range w'.length).all (λi=>LG (w'.getD i HO) ((h::q).getD i HO))<;>rfl
    ·have hi2:i<(h::q).length:=by omega
     simp only[gi]
     rw[iV,ah,bp hi,bp hi2,ab,ab,ak,cr hi,cr hi2];rfl
    ·simp only[gi]
     rw[gT,af]
  cases b with|true=>exact core none w rfl|false=>exact core none [] (hb rfl).symm
theorem TX {l:au C0}(h:(fw l).2.2.2=true):nL (fw l).1=true/\∀p∈(fw l).1,p.1<=4294967295:=by match l,h with|hd::x::r,h=>unfold fw at h⊢;simp only at h⊢;cases hs:HB (pz (kx (hd::x::r)) hd.2.2.2.2.1 hd.2.2.2.2.2) (hd::x::r)with|false=>rw[hs]at h;cases h|true=>simp only[ah];generalize hw:kx (hd::x::r)=ps at hs⊢;unfold HB at hs;simp only[ae]at hs;have hn:=bn hs.1;unfold pz at hn;cases hc:((ps.length:Int)==0)||(!nL ps|| !cI hd.2.2.2.2.1 1 128)with|true=>rw[hc]at hn;simp at hn;omega|false=>rw[hc]at hn;cases ha:([(2,0,0,0,hd.2.2.2.2.1,hd.2.2.2.2.2)]++w4 ps hd.2.2.2.2.2 ps.length).all s7 with|false=>rw[ha]at hn;simp at hn;omega|true=>simp only[cc,dB]at hc;refine⟨hc.2.1,λp hp=>?_⟩;rw[List.all_append,GM,ae]at ha;obtain⟨i,hi,rfl⟩:=List.getElem_of_mem hp;have:=aC.1 ha.2 i (bz.2 hi);rw[cr hi]at this;simp only[s7,dsc,ae,aS]at this;omega
theorem GN (l:au aB)(m:bE)(d a n:Int):(rh l m d a n).1.length<=33554432:=by have hL:=HA l m d a n false;have h1:=ux m (jO l m d a n false).1;unfold rh;cases (jO l m d a n false).2 with|false=>simp|true=>simp only[ah];omega
def AJ (l:au aB)(m:bE)(d:Int):au (Int×Int)->Bytes->Bytes×Bool
 |[],acc=>(acc,true)
 |p::ps,acc=>bif (rh l m d p.1 p.2).2 then AJ l m d ps (acc++(rh l m d p.1 p.2).1) else([],false)
def lX (l:au aB)(m:bE)(d:Int)(ps:au (Int×Int)):Bytes×Bool:=bif nL ps then AJ l m d ps [] else([],false)
def Fi (l:au aB)(m:bE)(d:Int)(p:Int×Int)(s:Bytes):Except (aw (Bytes×Bool)) Bytes:=
 if(rh l m d p.1 p.2).2=true then .ok (s++(rh l m d p.1 p.2).1) else .error (some ([],false))
theorem KD (l:au aB)(m:bE)(d:Int):∀(ps:au (Int×Int))(s:Bytes),zT (Fi l m d) (λs=>some (s,true)) ps s=some (AJ l m d ps s)
 |[],s=>rfl
 |p::ps,s=>by rw[zT,AJ];unfold Fi;cases hd:(rh l m d p.1 p.2).2 with|false=>rfl|true=>rw[aF rfl];exact KD l m d ps _
theorem HW (l:au aB)(m:bE)(d:Int):∀(ps:au (Int×Int))(s:Bytes),(AJ l m d ps s).1.length<=s.length+33554432*ps.length
 |[],s=>by simp[AJ]
 |p::ps,s=>by have h1:=GN l m d p.1 p.2;rw[AJ];cases (rh l m d p.1 p.2).2 with|false=>simp|true=>have:=HW l m d ps (s++(rh l m d p.1 p.2).1);rw[ai]at this;simp only[ah,aY,Nat.mul_add];omega
theorem Sg (l:au aB)(m:bE)(d:Int)(ps:au (Int×Int)):(lX l m d ps).1.length<=1000000000:=by unfold lX;cases hp:nL ps with|false=>simp|true=>have:=(Hp hp).1;have:=HW l m d ps [];simp only[du]at this;simp only[ah];omega
theorem VZ (l:au aB)(m:bE)(d:Int)(ps:au (Int×Int))(hl:l.length<=1000000000)(hm:m.length<=1000000000)(hn:ps.length<=1000000000)(ha:∀p∈ps,p.1<=9223372036854775807):oU l m d ps=some (lX l m d ps):=by
 unfold oU lX;rw[KW ps hn,ab];cases hp:nL ps with|false=>rfl|true=>?_
 have h16:=(Hp hp).1;simp only[aj,af,ah];rw[<-KD];refine rQ ps (λs i=>(s,(i:Int))) (λi s=>s.length<=33554432*i) (Fi l m d) _ (by omega) (λi hi s nx hI=>?_) (λi hi s s' hI he=>?_) (λs nx hI=>?_) [] (by simp);have h1:=GN l m d ps[i].1 ps[i].2;simp only[lp];rw[iV,ah,bp hi,ab,ze l m d _ _ hl hm (ha _ (aL hi)),ab];unfold Fi;cases hd:(rh l m d ps[i].1 ps[i].2).2 with|false=>rfl|true=>rw[aF rfl,aM,ak];rfl
 have h1:=GN l m d ps[i].1 ps[i].2;unfold Fi at he;split at he;injection he with he;rw[<-he,ai];omega;cases he;simp only[lp];rw[gT,af]
def yL (t:Bytes):Int:=cP t ((di t+2:Nat):Int)
def MS (t:Bytes):Int:=M3 ((t.take (di t+20)).drop (di t))
def W5 (t:Bytes):Bytes:=(t.take (di t+(yL t).toNat)).drop (di t+20)
def af5 (t:Bytes):Bytes:=u4 (dW t ((di t+12:Nat):Int)) (dW t ((di t+16:Nat):Int)) (jN t:Int) (yL t-20)
def HG (t:Bytes):Int:=bif ((jN t:Int)==17)&&(M3 (af5 t++W5 t)==0) then 65535 else M3 (af5 t++W5 t)
def X7 (t s:Bytes):Bytes×Bool:=bif ((jk s).2==0)&&((jI (jk s).1).1==t) then dk (jk s).1 else([],false)
def w5 (t:Bytes):Bytes×Bool:=X7 t (lC t (bX (MS t)) (bX (HG t)))
theorem Ji {t:Bytes}(h:¬(TOk t/\cP t (zU t:Int)=0/\cP t (xH t:Int)=0)):w5 t=([],false):=by
 have ha:Bz (lC t (bX (MS t)) (bX (HG t))) t:=DW t (bI _) (bI _);unfold w5 X7;generalize lC t (bX (MS t)) (bX (HG t))=s at ha⊢;cases h1:(jk s).2==0 with|false=>rfl|true=>?_
 have h1':(jk s).2=0:=by simpa using h1
 cases h2:(jI (jk s).1).1==t with|false=>rfl|true=>?_
 have h2':(jI (jk s).1).1=t:=eq_of_beq h2;have ht:=ame ha h1';exact absurd ⟨ht,abE h2' (Lz h1').2.2.1 ht⟩ h
theorem Gs (t:Bytes)(o n:Nat):(t.drop o).take n=(t.take (o+n)).drop o:=by rw[List.drop_take];congr 1;omega
theorem T4 {t:Bytes}(h1:di t+20<=t.length)(h2:20<=yL t)(h3:yL t<=(t.length:Int))(h4:t.length<=1000000000):xm (dW t ((di t+12:Nat):Int)) (dW t ((di t+16:Nat):Int)) (jN t:Int) (yL t-20)=true:=by have a1:=Fj (s:=t) (a:=((di t+12:Nat):Int));have a2:=Fj (s:=t) (a:=((di t+16:Nat):Int));have a3:=dN t (di t+9);have a4:=KF (s:=t) (a:=((di t+2:Nat):Int));unfold xm;rw[aS.2 a1,aS.2 a2,aS.2 (show 0<=(jN t:Int)/\(jN t:Int)<=255 by unfold jN;omega),aS.2 (show 0<=yL t-20/\yL t-20<=65535 by unfold yL at*;omega)];rfl
theorem Z2 (t:Bytes)(hl:t.length<=1000000000):vy t=some (w5 t):=by
 have hp:=yu t
 have hk:=Gj (jN t)
 have hkb:jN t<256:=dN t (di t+9)
 have hel:=F1 t
 unfold vy
 rw[Fx t hl,ab,uU _ _ (by omega),ab]
 cases h1:(fY t).2 with
 |false=>rw[Ji λh=>by have:=h.1.eth;rw[h1]at this;cases this];rfl
 |true=>
 have he:=Ho h1
 rw[he.1]
 simp only[aj,af,ab]
 have en:cP (t.drop (di t)) 2=yL t:=KE (a:=2)
 rw[en]
 by_cases h4:yL t<20
 ·rw[ar h4,Ji λh=>by have:=h.1.n1;unfold yL at h4;omega];rfl
 rw[al h4]
 simp only[af,ab]
 by_cases h5:yL t>((t.drop (di t)).length:Int)
 ·rw[ar h5,Ji λh=>by have:=h.1.n2;unfold yL at h5;rw[aI]at h5;omega];rfl
 rw[al h5]
 rw[aI]at h5
 have hdl:(t.drop (di t)).length=t.length-di t:=aI ..
 obtain⟨n,hn⟩:=aN (show 0<=yL t by omega)
 obtain⟨x,hx,ex⟩:=lh (s:=t.drop (di t)) (i:=9)
 have hx9:idx (t.drop (di t)) 9=some x:=hx
 have s1:sub (t.drop (di t)) 0 20=some ((t.take (di t+20)).drop (di t)):=by rw[Bn,<-Gs];rfl
 have s2:sub (t.drop (di t)) 20 (yL t)=some (W5 t):=by rw[YP (l:=t.drop (di t)) 20 (a:=20) rfl,hn,ax,Gs,eC];unfold W5;rw[hn];rfl
 have hps:=Hs (dW t ((di t+12:Nat):Int)) (dW t ((di t+16:Nat):Int)) (jN t:Int) (yL t-20)
 have hseg:((W5 t).length:Int)=yL t-20:=by unfold W5;rw[aI,aO,hn];omega
 have hk2:aq ((UInt8.toNat x:Int))=(jN t:Int):=by rw[ex,k9,iy (show bO t (di t+9)<9223372036854775808 by unfold jN at hkb;omega)];rfl
 have g12:dW (t.drop (di t)) 12=dW t ((di t+12:Nat):Int):=KG (a:=12)
 have g16:dW (t.drop (di t)) 16=dW t ((di t+16:Nat):Int):=KG (a:=16)
 have hw:aq ((LW (jN t):Int)+2)=(LW (jN t):Int)+2:=by rw[ak]
 simp only[af,ab,FD t hl,s1,s2,hx9,uV _ _ (show(t.drop (di t)).length<=1000000000 by omega),hk2,KX,hseg,g12,g16,T4 (show di t+20<=t.length by omega) (show 20<=yL t by omega) (show yL t<=(t.length:Int) by omega) hl,ah,aj,G2 _ hkb,hw]
 rw[show u4 (dW t ((di t+12:Nat):Int)) (dW t ((di t+16:Nat):Int)) (jN t:Int) (yL t-20)=af5 t from rfl]at hps⊢
 by_cases h6:(LW (jN t):Int)+2>yL t-20
 ·rw[ar h6,Ji λh=>by have:=h.1.n1;unfold yL at h6;omega];rfl
 rw[al h6]
 simp only[af]
 have hck:((t.take (di t+20)).drop (di t)).length<=1000000000:=by rw[aI,aO];omega
 rw[aM,Jl _ (by rw[ai];omega),ab]
 have hfin:∀y:Int,HG t=y->(aa (iO ((t.take (di t+20)).drop (di t))) λr25=>aa (cf r25) λr26=>aa (fy t (zU t:Int) r26) λr27=>aa (cf y) λr28=>aa (fy r27 (xH t:Int) r28) λr29=>aa (ia r29) λr30=>aa (lK r30.1) λr31=>
  aa (bif r30.2 !=0 then some true else bif !r31.2 then some true else some (!(r31.1==t))) λq32=>bif q32 then some (([]:Bytes),false) else aa (fZ r30.1) λr33=>some r33)=some (w5 t):=by
  intro y hy
  subst hy
  have b1:=bI (MS t)
  have b2:=bI (HG t)
  rw[Jl _ hck,ab,show M3 ((t.take (di t+20)).drop (di t))=MS t from rfl]
  rw[kh,ab,AO t _ _ hl,ab,kh,ab,AO _ _ _ (by rw[yv];exact hl),ab]
  have hlen:=CC t (bX (MS t)) (bX (HG t))
  unfold w5
  rw[show u5 (u5 t (zU t:Int) (bX (MS t))) (xH t:Int) (bX (HG t))=lC t (bX (MS t)) (bX (HG t)) from rfl]
  generalize lC t (bX (MS t)) (bX (HG t))=s at hlen⊢
  simp only[Dg s (by omega),ab,NH,Ad,X7,bne]
  cases h1:(jk s).2==0 with|false=>rfl|true=>?_
  have hsb:=(Lz (show(jk s).2=0 by simpa using h1)).2.2.1
  have h2:(jI (jk s).1).2=true:=by unfold jI;rw[hsb];rfl
  rw[h2]
  cases (jI (jk s).1).1==t<;>rfl
 cases h8:(jN t:Int)==17 with
 |false=>exact hfin _ (by unfold HG;rw[h8];rfl)
 |true=>
  simp only[ah,ab]
  cases h7:M3 (af5 t++W5 t)==0 with
  |false=>exact hfin _ (by unfold HG;rw[h7,ez];rfl)
  |true=>exact hfin _ (by unfold HG;rw[h7,h8];rfl)
theorem ZI (t:Bytes):(w5 t).1.length<=378:=by unfold w5 X7;generalize lC t (bX (MS t)) (bX (HG t))=s;cases ((jk s).2==0)&&((jI (jk s).1).1==t)with|false=>exact bS _|true=>exact xN _
theorem JP (l:au aB)(m:bE)(d:Int):∀(n:Nat)(acc:au C0)(r:jY),(tz l m d n acc r).1.length<=acc.length+n
 |0,acc,r=>ba _
 |n+1,acc,r=>by
  rw[tz];cases !(bt l m d r).2.2|| !(cX (bt l m d r).1).2 with|true=>exact bS _|false=>?_
  cases Vy (cX (bt l m d r).1).1 with|true=>simp only[af,ah,ai,aV];omega|false=>have:=JP l m d n (acc++[(cX (bt l m d r).1).1]) (bt l m d r).2.1;simp only[ai,aV]at this;simp only[af];omega
theorem W1 (h:cZ r=true):cZ (r.1,r.2.1,r.2.2.2,r.2.2.2)=true/\bJ (r.1,r.2.1,r.2.2.2,r.2.2.2)=0:=by
 have hr:=kJ h;have hq:=h;simp only[cZ,ae,aE]at hq;have hu:bJ (r.1,r.2.1,r.2.2.2,r.2.2.2)=0:=by unfold bJ;simp only[Int.sub_self,Int.zero_emod,ite_self]
 refine⟨?_,hu⟩;simp only[cZ,ae,aE,aS,hu,hq.2.1,true_and];omega
theorem HM (l:au aB)(m:bE)(d:Int):∀(n:Nat)(acc:au C0)(r:jY),cZ r=true->(bJ r).toNat=n->
 cZ (tz l m d n acc r).2.1=true/\bJ (tz l m d n acc r).2.1<=bJ r/\(0<bJ r->bJ (tz l m d n acc r).2.1<bJ r)
 |0,acc,r,hb,hu=>⟨hb,cu _,λh=>by omega⟩
 |n+1,acc,r,hb,hu=>by have hk:=CQ (l:=l) (m:=m) (d:=d) (r:=r);have he:=W1 hb;rw[tz];cases hc: !(bt l m d r).2.2|| !(cX (bt l m d r).1).2 with|true=>exact⟨he.1,by show bJ (r.1,r.2.1,r.2.2.2,r.2.2.2)<=_;rw[he.2];omega,λ_=>by show bJ (r.1,r.2.1,r.2.2.2,r.2.2.2)<_;rw[he.2];omega⟩|false=>simp only[cc,dB]at hc;have hk:=hk hc.1;cases Vy (cX (bt l m d r).1).1 with|true=>exact⟨hk.1,by show bJ (bt l m d r).2.1<=_;omega,λ_=>by show bJ (bt l m d r).2.1<_;omega⟩|false=>have:=HM l m d n (acc++[(cX (bt l m d r).1).1]) (bt l m d r).2.1 hk.1 (by omega);simp only[af];exact⟨this.1,by omega,λ_=>by omega⟩
def iv (l:au aB)(m:bE)(d:Int)(r:jY):jY×bE×Int:=
 bif !cZ r||(bJ r==0) then(r,[],0) else
 bif !(dc l m d r).2.2|| !(fw (dc l m d r).1).2.2.2 then((dc l m d r).2.1,[],2) else
 bif !(lX l m d (fw (dc l m d r).1).1).2||(!(w5 (lX l m d (fw (dc l m d r).1).1).1).2||((jk (w5 (lX l m d (fw (dc l m d r).1).1).1).1).2 !=0)) then((dc l m d r).2.1,[],2) else
 ((dc l m d r).2.1,Ul (jk (w5 (lX l m d (fw (dc l m d r).1).1).1).1).1 (fw (dc l m d r).1).2.1,1)
theorem V3 (l:au aB)(m:bE)(d:Int)(r:jY)(hl:l.length<=1000000000)(hm:m.length<=1000000000):o5 l m d r=some (iv l m d r):=by
 unfold o5 iv;simp only[wo,yh,ab,Mz l m d r hl hm];cases hb:cZ r with|false=>rfl|true=>?_
 cases bJ r==0 with|true=>rfl|false=>?_
 have hu:=wG hb;have hcl:(dc l m d r).1.length<=16:=by unfold dc;cases !cZ r||(bJ r==0)with|true=>exact bS _|false=>have:=JP l m d (bJ r).toNat [] r;simp only[du]at this;show(tz l m d (bJ r).toNat [] r).1.length<=16;omega
 simp only[aj,af,ab,cl];generalize dc l m d r=c at hcl⊢;cases c.2.2 with|false=>rfl|true=>?_
 simp only[aj,af,ab,cz,Qi c.1 (show c.1.length<=1000000000 by omega)];have hpo:=TX (l:=c.1);generalize fw c.1=p at hpo⊢;cases hp:p.2.2.2 with|false=>rfl|true=>?_
 have hpo:=hpo hp;have h16:=(Hp hpo.1).1;have hg:=Sg l m d p.1;simp only[aj,af,ab,cz,VZ l m d p.1 hl hm (show p.1.length<=1000000000 by omega) (λq hq=>Int.le_trans (hpo.2 q hq) (by omega))];generalize lX l m d p.1=g at hg⊢;cases g.2 with|false=>rfl|true=>?_
 have hf:=ZI g.1;simp only[aj,af,ab,cz,Z2 g.1 hg];generalize w5 g.1=f at hf⊢;cases f.2 with|false=>rfl|true=>?_
 simp only[aj,af,ab,cz,Dg f.1 (show f.1.length<=1000000000 by omega)];generalize jk f.1=i;cases i.2 !=0 with|true=>rfl|false=>?_
 simp only[af,ac1,ab]
theorem NT (l:au aB)(m:bE)(d:Int)(r:jY): ((iv l m d r).2.2=0->(iv l m d r).1=r)/\((iv l m d r).2.2≠0->0<bJ r/\cZ r=true/\cZ (iv l m d r).1=true/\bJ (iv l m d r).1<bJ r)/\(iv l m d r).2.1.length<=320/\(∀x∈(iv l m d r).2.1,x.length<=382)/\((iv l m d r).2.2=0\/(iv l m d r).2.2=1\/(iv l m d r).2.2=2):=by
 unfold iv;cases hc: !cZ r||(bJ r==0)with
 |true=>exact⟨λ_=>rfl,λh=>absurd rfl h,bS _,(λx hx=>by cases hx),.inl rfl⟩
 |false=>
  simp only[cc,dB,bP]at hc;have hu:=wG hc.1;have hch:cZ (dc l m d r).2.1=true/\bJ (dc l m d r).2.1<bJ r:=by have:=HM l m d (bJ r).toNat [] r hc.1 rfl;unfold dc;rw[show(!cZ r||(bJ r==0))=false from by rw[hc.1];simpa using hc.2];exact⟨this.1,this.2.2 (by omega)⟩
  cases !(dc l m d r).2.2|| !(fw (dc l m d r).1).2.2.2 with|true=>exact⟨(λh=>by cases h),λ_=>⟨by omega,hc.1,hch⟩,bS _,(λx hx=>by cases hx),.inr (.inr rfl)⟩|false=>cases !(lX l m d (fw (dc l m d r).1).1).2||(!(w5 (lX l m d (fw (dc l m d r).1).1).1).2||((jk (w5 (lX l m d (fw (dc l m d r).1).1).1).1).2 !=0))with|true=>exact⟨(λh=>by cases h),λ_=>⟨by omega,hc.1,hch⟩,bS _,(λx hx=>by cases hx),.inr (.inr rfl)⟩|false=>have hs:=abj (jk (w5 (lX l m d (fw (dc l m d r).1).1).1).1).1 (fw (dc l m d r).1).2.1;exact⟨(λh=>by cases h),λ_=>⟨by omega,hc.1,hch⟩,hs.1,hs.2,.inr (.inl rfl)⟩
def oM (l:au aB)(m:bE)(d:Int):Nat->bE->Nat->Nat->jY->jY×bE×Int×Int
 |0,fr,dn,bd,r=>(r,fr,(dn:Int),(bd:Int))
 |n+1,fr,dn,bd,r=>
  bif (iv l m d r).2.2==0 then(r,fr,(dn:Int),(bd:Int)) else
  bif (iv l m d r).2.2==1 then oM l m d n (fr++(iv l m d r).2.1) (dn+1) bd (iv l m d r).1 else
  oM l m d n (fr++(iv l m d r).2.1) dn (bd+1) (iv l m d r).1
def kB (l:au aB)(m:bE)(d:Int)(r:jY):jY×bE×Int×Int:=oM l m d 17 [] 0 0 r
theorem Et (l:au aB)(m:bE)(d:Int)(hl:l.length<=1000000000)(hm:m.length<=1000000000):∀(n:Nat)(fr:bE)(dn bd:Nat)(r:jY)(f:Nat),n<f->(cZ r=true->bJ r<n)->0<n->fr.length+320*n<=10000->dn+bd+n<=1000->
 bc (l9 (λy2 y3 y4 _ _ _ _ y9=>some (y9,y2,y3,y4)) l d ([]:bE) 0 0 m (0,0,0,0)) f (fr,(dn:Int),(bd:Int),r)=some (oM l m d n fr dn bd r)
 |0,fr,dn,bd,r,f,_,_,h0,_,_=>by omega
 |n+1,fr,dn,bd,r,0,hf,_,_,_,_=>by omega
 |n+1,fr,dn,bd,r,f+1,hf,hr,_,hfr,hc=>by have ok:=NT l m d r;rw[bc,oM];simp only[l9,V3 l m d r hl hm,ab];generalize iv l m d r=x at ok⊢;cases h0:x.2.2==0 with|true=>simp only[ah,ok.1 (by simpa using h0)]|false=>have hk:=ok.2.1 (by simpa using h0);have hu:=hr hk.2.1;have hu2:=(wG hk.2.2.1).1;simp only[af];cases x.2.2==1 with|true=>simp only[ah];rw[aM,ak];exact Et l m d hl hm n _ (dn+1) bd _ f (by omega) (λ_=>by omega) (by omega) (by rw[ai];omega) (by omega)|false=>simp only[af];rw[aM,ak];exact Et l m d hl hm n _ dn (bd+1) _ f (by omega) (λ_=>by omega) (by omega) (by rw[ai];omega) (by omega)
theorem aak (l:au aB)(m:bE)(d:Int)(r:jY)(hl:l.length<=1000000000)(hm:m.length<=1000000000):qz l m d r=some (kB l m d r):=by have hfu:=dT;unfold qz;exact Et l m d hl hm 17 [] 0 0 r fuel (by omega) (λh=>by have:=(wG h).2;omega) (by omega) (by simp) (by omega)
theorem Ay (l:au aB)(m:bE)(d:Int):∀(n:Nat)(fr:bE)(dn bd:Nat)(r:jY),(∀x∈fr,x.length<=382)->
 (oM l m d n fr dn bd r).2.1.length<=fr.length+320*n/\(∀x∈(oM l m d n fr dn bd r).2.1,x.length<=382)/\0<=(oM l m d n fr dn bd r).2.2.1/\(oM l m d n fr dn bd r).2.2.1<=(dn+n:Nat)/\0<=(oM l m d n fr dn bd r).2.2.2/\(oM l m d n fr dn bd r).2.2.2<=(bd+n:Nat)
 |0,fr,dn,bd,r,h=>⟨ba _,h,by show(0:Int)<=(dn:Int);omega,by show(dn:Int)<=_;omega,by show(0:Int)<=(bd:Int);omega,by show(bd:Int)<=_;omega⟩
 |n+1,fr,dn,bd,r,h=>by
  have ok:=NT l m d r;rw[oM];generalize iv l m d r=x at ok⊢;have h2:∀y∈fr++x.2.1,y.length<=382:=λy hy=>by rcases ay.1 hy with g|g;exact h y g;exact ok.2.2.2.1 y g
  cases x.2.2==0 with|true=>exact⟨by show fr.length<=_;omega,h,by show(0:Int)<=(dn:Int);omega,by show(dn:Int)<=_;omega,by show(0:Int)<=(bd:Int);omega,by show(bd:Int)<=_;omega⟩|false=>cases x.2.2==1 with|true=>have i:=Ay l m d n (fr++x.2.1) (dn+1) bd x.1 h2;rw[ai]at i;simp only[af,ah];exact⟨by omega,i.2.1,i.2.2.1,by omega,i.2.2.2.2.1,by omega⟩|false=>have i:=Ay l m d n (fr++x.2.1) dn (bd+1) x.1 h2;rw[ai]at i;simp only[af,ah];exact⟨by omega,i.2.1,i.2.2.1,by omega,i.2.2.2.2.1,by omega⟩
def Cc (v:Vector):Bool:=bif decide (v.2.2.1>=1) then(bif decide (v.2.2.1>=v.1) then true else decide (v.2.2.2.1>=v.2.1)) else false
theorem af8 (v:Vector):Ag v=some (Cc v):=by
 unfold Ag Cc;cases decide (v.2.2.1>=1)with|false=>rfl|true=>?_
 cases decide (v.2.2.1>=v.1)<;>rfl
theorem agV (v:Vector):tq v=some (Cc v):=by
 unfold tq Cc;cases decide (v.2.2.1>=1)with|false=>rfl|true=>?_
 cases decide (v.2.2.1>=v.1)<;>rfl
def BW (v:Vector):Vector:=bif Cc v&& !v.2.2.2.2.1 then(v.1,v.2.1,v.2.2.1,v.2.2.2.1,v.2.2.2.2.1,true) else v
theorem GV (v:Vector):nH v=some (BW v):=by
 unfold nH BW;rw[af8,ab];cases Cc v with|false=>rfl|true=>?_
 cases v.2.2.2.2.1<;>rfl
def upM (n:Int):Int:=if 1000000<aq (n+1) then 1000000 else aq (n+1)
def evV (v:Vector):Vector:=bif eo v then BW (v.1,v.2.1,upM v.2.2.1,v.2.2.2) else v
theorem ZW (v:Vector):vt v=some (evV v):=by unfold vt evV;rw[yi,ab,GV,ab];cases eo v<;>rfl
def UO (v:Vector):Vector:=bif eo v then(bif decide (v.2.2.1>0) then BW (v.1,v.2.1,v.2.2.1,upM v.2.2.2.1,v.2.2.2.2) else BW v) else v
theorem aaj (v:Vector):su v=some (UO v):=by
 unfold su UO;simp only[yi,ab,GV];cases eo v with|false=>rfl|true=>?_
 cases decide (v.2.2.1>0)<;>rfl
def BP (v:Vector):Vector×Bool:=bif eo v&&v.2.2.2.2.2 then((v.1,v.2.1,0,0,true,false),true) else(v,false)
theorem aai (v:Vector):nE v=some (BP v):=by
 unfold nE BP;rw[yi,ab];cases eo v with|false=>rfl|true=>?_
 cases v.2.2.2.2.2<;>rfl
def Gw (v:Vector):Vector:=bif eo v then BW (v.1,v.2.1,v.2.2.1,v.2.2.2.1,false,v.2.2.2.2.2) else v
theorem KZ (v:Vector):wu v=some (Gw v):=by unfold wu Gw;rw[yi,ab,GV,ab];cases eo v<;>rfl
structure jZ (k:Nat) (a b:Host):Prop where
 mem:b.1.length=a.1.length
 maps:b.2.1=a.2.1
 tx:b.2.2.1=a.2.2.1
 rx:b.2.2.2.1.length=a.2.2.2.1.length
 rxs:∀j,k<=j->b.2.2.2.1[j]?=a.2.2.2.1[j]?
 pl:b.2.2.2.2.1.length=a.2.2.2.2.1.length
 vec:b.2.2.2.2.2.1.length=a.2.2.2.2.2.1.length
 vecs:∀j,k<=j->b.2.2.2.2.2.1[j]?=a.2.2.2.2.2.1[j]?
 pol:b.2.2.2.2.2.2.1.length=a.2.2.2.2.2.2.1.length
 qe:b.2.2.2.2.2.2.2.1=a.2.2.2.2.2.2.2.1
 ste:b.2.2.2.2.2.2.2.2.1=a.2.2.2.2.2.2.2.2.1
theorem jZ.refl (k:Nat)(a:Host):jZ k a a:=⟨rfl,rfl,rfl,rfl,λ_ _=>rfl,rfl,rfl,λ_ _=>rfl,rfl,rfl,rfl⟩
theorem jZ.trans {a b c:Host}(h:jZ k a b)(g:jZ k b c):jZ k a c:=⟨g.mem.trans h.mem,g.maps.trans h.maps,g.tx.trans h.tx,g.rx.trans h.rx,λj hj=>(g.rxs j hj).trans (h.rxs j hj),g.pl.trans h.pl,g.vec.trans h.vec,λj hj=>(g.vecs j hj).trans (h.vecs j hj),g.pol.trans h.pol,g.qe.trans h.qe,g.ste.trans h.ste⟩
theorem jZ.up {m:Nat}{a b:Host}(h:jZ k a b)(hk:k<=m):jZ m a b:=⟨h.mem,h.maps,h.tx,h.rx,λj hj=>h.rxs j (by omega),h.pl,h.vec,λj hj=>h.vecs j (by omega),h.pol,h.qe,h.ste⟩
def kQ (g:Nat->Host->Host):Nat->Host->Host
 |0,h=>h
 |k+1,h=>g k (kQ g k h)
theorem nb {g:Nat->Host->Host}(hg:∀k h,jZ (k+1) h (g k h))(h:Host):∀k,jZ k h (kQ g k h)
 |0=>jZ.refl 0 h
 |k+1=>((nb hg h k).up (by omega)).trans (hg k _)
theorem Bk {g:Nat->Host->Host}{d n:Nat}(hn:1000<=n)(hg:∀k h m,1000<=m->cV m de h->cV (m+d) de (g k h)){h:Host}(z:cV n de h):∀k,cV (n+d*k) de (kQ g k h)
 |0=>z
 |k+1=>(hg k _ _ (by omega) (Bk hn hg z k)).mono (by rw[Nat.mul_add];omega)
def wK (i:Nat)(h:Host):Host:=
 match h.2.2.2.2.2.1[i]? with
 |some v=>(h.1,h.2.1,h.2.2.1,h.2.2.2.1,h.2.2.2.2.1,h.2.2.2.2.2.1.set i (UO v),h.2.2.2.2.2.2)
 |none=>h
theorem yG (i:Nat)(h:Host):jZ (i+1) h (wK i h):=by unfold wK;cases h.2.2.2.2.2.1[i]? with|none=>exact jZ.refl _ _|some v=>exact⟨rfl,rfl,rfl,rfl,λ_ _=>rfl,rfl,aA ..,λj hj=>List.getElem?_set_ne (by omega),rfl,rfl,rfl⟩
theorem Ju {l:au Vector}{v:Vector}(z:cV n (.sl fV) l):cV n (.sl fV) (l.set i v):=lz z ⟨ch,ch,ch,ch,ch,ch⟩
theorem abH (i:Nat)(h:Host)(n:Nat)(hn:1000<=n)(z:cV n de h):cV (n+0) de (wK i h):=by unfold wK;cases h.2.2.2.2.2.1[i]? with|none=>exact z|some v=>exact⟨z.1,z.2.1,z.2.2.1,z.2.2.2.1,z.2.2.2.2.1,Ju z.2.2.2.2.2.1,z.2.2.2.2.2.2⟩
def uM (h:Host):Host:=bif dK h then kQ wK h.2.2.2.2.2.1.length h else h
theorem afp (hn:1000<=n)(z:cV n de h):cV n de (uM h)/\(uM h).2.2.1=h.2.2.1:=by unfold uM;cases dK h with|false=>exact⟨z,rfl⟩|true=>exact⟨(Bk hn abH z _).mono,(nb yG h _).tx⟩
theorem SU (h:Host)(k:Jy h)(z:cV 1000000000 de h):rD h=some (uM h):=by
 have hfu:=dT;unfold rD uM;rw[iM h z,ab,tF h k,ab];cases hb:dK h with|false=>rfl|true=>?_
 have hv:h.2.2.2.2.2.1.length<=1000000000:=z.2.2.2.2.2.1.1;simp only[aj,af,ah];refine da (λi=>((i:Int),kQ wK i h)) h.2.2.2.2.2.1.length (by omega) (λi nx hi=>?_) (λnx=>?_);have kk:=nb yG h i;have i1:i<(kQ wK i h).2.2.2.2.2.1.length:=by rw[kk.vec];exact hi
 rw[show kQ wK (i+1) h=wK i (kQ wK i h) from rfl];generalize kQ wK i h=s at i1⊢;simp only[qn,wK];rw[iV,ah,List.getElem?_eq_getElem i1];simp only[bp i1,ab,aaj,ax];rw[ak];rfl;simp only[qn];rw[gT,af]
structure yI (n:Nat) (h:Host):Prop where
 z:cV n de h
 t:h.2.2.1.2.1.2.2.2.length+(bB h.2.2.1.2.2.1).length<=n
theorem yI.mono {m:Nat}(k:yI n h)(hn:n<=m:=by omega):yI m h:=⟨k.z.mono hn,bm k.t hn⟩
theorem yI.sz (k:yI n h)(hn:n<=1000000000):Jy h:=by have z:cV 1000000000 de h:=k.z.mono hn;exact⟨z.1.1,z.2.1.1,z.2.2.1.2.2.1.1,bm k.t hn,z.2.2.2.2.2.2.2.1.2.2.1,z.2.2.2.2.2.2.2.2.1.1.1,z.2.2.2.2.2.2.2.2.1.2.1.1,z.2.2.2.2.2.2.2.2.1.2.2.2.1,λp hp=>(z.2.2.2.2.1.2 p hp).2.2.2.1⟩
theorem yI.of (k:MT de h<=1048576):yI 1048576 h:=by
 refine⟨Gr k,?_⟩;have hb:=XE h.2.2.1.2.2.1;have h1:MT k6 h.2.2.1<=MT de h:=by simp only[MT];omega
 have hp:h.2.2.1.2.1.2.2.2.length+MT (.sl jt) h.2.2.1.2.2.1<=MT k6 h.2.2.1:=by simp only[MT];omega
 omega
def pB (p:c8):au ni->c8
 |[]=>p
 |x::l=>pB (Em p x.2.2).1 l
theorem GS:∀(l:au ni)(p:c8),(pB p l).2.2.2.length<=p.2.2.2.length+(bB l).length
 |[],p=>by simp[pB]
 |x::l,p=>by have h1:=Sk p x.2.2;have h2:=GS l (Em p x.2.2).1;simp only[pB,bB,List.flatMap_cons,ai]at h2⊢;omega
theorem Np:∀(l:au ni)(p:c8)(x:ni),pB p (l++[x])=(Em (pB p l) x.2.2).1
 |[],p,x=>rfl
 |y::l,p,x=>by rw[List.cons_append,pB,pB,Np l]
theorem Rl (a b:au ni):(bB (a++b)).length=(bB a).length+(bB b).length:=by simp only[bB,List.flatMap_append,ai]
theorem Rm (l:au ni)(n:Nat):(bB (l.take n)).length+(bB (l.drop n)).length=(bB l).length:=by rw[<-Rl,cp]
def kR (t:dM)(n:Int):dM×bN:=
 bif Me t&&cI n 0 (t.2.2.1.length:Int) then((t.1,pB t.2.1 (t.2.2.1.take n.toNat),t.2.2.1.drop n.toNat,t.2.2.2),(t.2.2.1.take n.toNat).map (·.1)) else(t,[])
theorem agT {l:au ni}(h:(bB l).length<=1000000000):∀x∈l,x.2.2.length<=1000000000:=by intro x hx;induction l with|nil=>cases hx|cons y l ih=>simp only[bB,List.flatMap_cons,ai]at h;rcases bG.1 hx with rfl|g;omega;exact ih (by simp only[bB];omega) g
theorem Qb (t:dM)(n:Int)(hw:t.2.2.1.length<=1000000000)(hs:t.2.1.2.2.2.length+(bB t.2.2.1).length<=1000000000):ll t n=some (kR t n):=by
 have hx:=agT (l:=t.2.2.1) (by omega);unfold ll kR;rw[Ep t ⟨by omega,hw,hx⟩,ab,V9 t hw hs];simp only[ab,bZ];cases Me t with|false=>rfl|true=>?_
 cases hn:cI n 0 (t.2.2.1.length:Int)with|false=>rfl|true=>?_
 have h:=aS.1 hn;obtain⟨n,rfl⟩:=aN h.1;have hl:n<=t.2.2.1.length:=by omega
 simp only[aj,af,ab,cq,ah,ax];rw[Bn,ab,ax];have htl:(t.2.2.1.take n).length=n:=by rw[aO];omega
 rw[htl];refine da (λi=>(((t.2.2.1.take i).map (·.1),(i:Int),t.1,pB t.2.1 (t.2.2.1.take i),t.2.2):bN×Int×dM)) n (by omega) (λi nx hi=>?_) (λnx=>?_);have hi2:i<(t.2.2.1.take n).length:=by omega
 have hi3:i<t.2.2.1.length:=by omega
 have e1:(t.2.2.1.take n)[i]=t.2.2.1[i]:=List.getElem_take ..;have g1:=GS (t.2.2.1.take i) t.2.1;have g2:=Rm t.2.2.1 (i+1);have g3:(bB (t.2.2.1.take (i+1))).length=(bB (t.2.2.1.take i)).length+t.2.2.1[i].2.2.length:=by rw[aW hi3,Rl];simp[bB]
 simp only[jg];rw[iV,ah,bp hi2,e1,ab,KU _ _ (by omega),ab,aM (by simp only[bF,aO,aV];omega),ak,aW hi3,Np,dF];rfl;simp only[jg];rw[gT,af,Bm (l:=t.2.2.1) n hl rfl,ab,Ft _ (by rw[aI];omega) (λx hx'=>hx x (List.mem_of_mem_drop hx')),ab]
theorem M6 (n:Int):∀l:au ni,l.all (nM n)=true->(l.length:Int)<=dH l
 |[],_=>by simp[dH]
 |x::l,h=>by simp only[bU,ae]at h;have:=M6 n l h.2;have hx:=h.1;unfold nM at hx;simp only[ae,aS]at hx;simp only[dH,cS,List.sum_cons,aY]at this⊢;omega
theorem EO (h:Me t=true):t.2.2.1.length<=16:=by unfold Me at h;simp only[ae,aE]at h;have h1:=M6 _ _ h.2.2.2.1;have h2:=(kJ h.1).2.2.1;have h3:=h.2.2.2.2.2;omega
theorem E6 (n:Int)(z:cV k k6 t)(hs:t.2.1.2.2.2.length+(bB t.2.2.1).length<=k): cV k k6 (kR t n).1/\(kR t n).1.2.1.2.2.2.length+(bB (kR t n).1.2.2.1).length<=k/\(kR t n).2.length<=16:=by unfold kR;cases h:Me t&&cI n 0 (t.2.2.1.length:Int)with|false=>exact⟨z,hs,bS _⟩|true=>simp only[ae]at h;have h16:=EO h.1;have g1:=GS (t.2.2.1.take n.toNat) t.2.1;have g2:=Rm t.2.2.1 n.toNat;have hw:t.2.2.1.length<=k:=z.2.2.1.1;refine⟨⟨z.1,⟨ch,ch,ch,?_,λ_ _=>trivial⟩,⟨?_,λx hx=>z.2.2.1.2 x (List.mem_of_mem_drop hx)⟩,z.2.2.2⟩,?_,?_⟩;show(pB t.2.1 (t.2.2.1.take n.toNat)).2.2.2.length<=k;omega;show(t.2.2.1.drop n.toNat).length<=k;rw[aI];omega;show(pB t.2.1 (t.2.2.1.take n.toNat)).2.2.2.length+(bB (t.2.2.1.drop n.toNat)).length<=k;omega;show((t.2.2.1.take n.toNat).map (·.1)).length<=16;rw[bF,aO];omega
theorem Aj {t:CT}{l q:au t.D}(z:cV n (.sl t) l)(hq:∀y∈q,cV n t y)(hk:q.length<=k):cV (n+k) (.sl t) (l++q):=by refine⟨?_,λy hy=>?_⟩;show(l++q).length<=n+k;have:=z.1;rw[ai];omega;rcases ay.1 hy with h|h;exact(z.2 y h).mono;exact(hq y h).mono
def eZ (h:Host):Host:=bif dK h then
    (h.1,h.2.1,(kR ((kB h.2.1 h.1 0 h.2.2.1.1).1,h.2.2.1.2) (if(h.2.2.1.2.2.1.length:Int)<aq ((kB h.2.1 h.1 0 h.2.2.1.1).2.2.1+(kB h.2.1 h.1 0 h.2.2.1.1).2.2.2) then(h.2.2.1.2.2.1.length:Int) else aq ((kB h.2.1 h.1 0 h.2.2.1.1).2.2.1+(kB h.2.1 h.1 0 h.2.2.1.1).2.2.2))).1,
      h.2.2.2.1,h.2.2.2.2.1,h.2.2.2.2.2.1,h.2.2.2.2.2.2.1,h.2.2.2.2.2.2.2.1,h.2.2.2.2.2.2.2.2.1,h.2.2.2.2.2.2.2.2.2.1,h.2.2.2.2.2.2.2.2.2.2.1,h.2.2.2.2.2.2.2.2.2.2.2.1++(kB h.2.1 h.1 0 h.2.2.1.1).2.1,
      h.2.2.2.2.2.2.2.2.2.2.2.2.1++(kR ((kB h.2.1 h.1 0 h.2.2.1.1).1,h.2.2.1.2) (if(h.2.2.1.2.2.1.length:Int)<aq ((kB h.2.1 h.1 0 h.2.2.1.1).2.2.1+(kB h.2.1 h.1 0 h.2.2.1.1).2.2.2) then(h.2.2.1.2.2.1.length:Int) else aq ((kB h.2.1 h.1 0 h.2.2.1.1).2.2.1+(kB h.2.1 h.1 0 h.2.2.1.1).2.2.2))).2,h.2.2.2.2.2.2.2.2.2.2.2.2.2) else h
theorem FF (h:Host)(k:yI 900000000 h):lq h=some (eZ h):=by
 have z:cV 1000000000 de h:=k.z.mono;have hz:=k.sz (by omega);have hm:h.1.length<=900000000:=k.z.1.1;have hl:h.2.1.length<=900000000:=k.z.2.1.1;have hw:h.2.2.1.2.2.1.length<=900000000:=k.z.2.2.1.2.2.1.1;have hwi:h.2.2.2.2.2.2.2.2.2.2.2.1.length<=900000000:=k.z.2.2.2.2.2.2.2.2.2.2.2.1.1;have hco:h.2.2.2.2.2.2.2.2.2.2.2.2.1.length<=900000000:=k.z.2.2.2.2.2.2.2.2.2.2.2.2.1.1;have hA:=Ay h.2.1 h.1 0 17 [] 0 0 h.2.2.1.1 (λx hx=>by cases hx);unfold lq eZ;rw[iM h z,ab,tF h hz,ab];cases dK h with|false=>rfl|true=>?_
 simp only[aj,af,ah,aak h.2.1 h.1 0 _ (show h.2.1.length<=1000000000 by omega) (show h.1.length<=1000000000 by omega),ab];rw[show oM h.2.1 h.1 0 17 [] 0 0 h.2.2.1.1=kB h.2.1 h.1 0 h.2.2.1.1 from rfl]at hA;generalize kB h.2.1 h.1 0 h.2.2.1.1=x at hA⊢;simp only[du]at hA;have hC:=E6 (k:=900000000) (t:=(x.1,h.2.2.1.2)) (if(h.2.2.1.2.2.1.length:Int)<aq (x.2.2.1+x.2.2.2) then(h.2.2.1.2.2.1.length:Int) else aq (x.2.2.1+x.2.2.2)) ⟨⟨ch,ch,ch,ch⟩,k.z.2.2.1.2⟩ k.t;rw[aM,Qb (x.1,h.2.2.1.2) _ (by show h.2.2.1.2.2.1.length<=_;omega) (bm k.t (by omega)),ab,aM]
theorem Br (hn:400<=n)(k:yI n h):yI (n+5440) (eZ h):=by
 have k':yI (n+5440) h:=k.mono;have hA:=Ay h.2.1 h.1 0 17 [] 0 0 h.2.2.1.1 (λx hx=>by cases hx);unfold eZ;cases dK h with|false=>exact k'|true=>?_
 rw[show oM h.2.1 h.1 0 17 [] 0 0 h.2.2.1.1=kB h.2.1 h.1 0 h.2.2.1.1 from rfl]at hA;generalize kB h.2.1 h.1 0 h.2.2.1.1=x at hA⊢;simp only[du]at hA;generalize (if(h.2.2.1.2.2.1.length:Int)<aq (x.2.2.1+x.2.2.2) then(h.2.2.1.2.2.1.length:Int) else aq (x.2.2.1+x.2.2.2))=q;have hC:=E6 (k:=n) (t:=(x.1,h.2.2.1.2)) q ⟨⟨ch,ch,ch,ch⟩,k.z.2.2.1.2⟩ k.t;have z:=k'.z;refine⟨⟨z.1,z.2.1,hC.1.mono,z.2.2.2.1,z.2.2.2.2.1,z.2.2.2.2.2.1,z.2.2.2.2.2.2.1,z.2.2.2.2.2.2.2.1,z.2.2.2.2.2.2.2.2.1,z.2.2.2.2.2.2.2.2.2.1,ch,?_,?_,z.2.2.2.2.2.2.2.2.2.2.2.2.2⟩,bm hC.2.1 (by omega)⟩;exact Aj (t:=.str) (n:=n) (k:=5440) k.z.2.2.2.2.2.2.2.2.2.2.2.1 (λy hy=>by show y.length<=_;have:=hA.2.1 y hy;omega) (by omega);exact(Aj (t:=.int .i64) (n:=n) (k:=16) k.z.2.2.2.2.2.2.2.2.2.2.2.2.1 (λ_ _=>trivial) hC.2.2).mono
def wk (l:au aB)(d:Int)(p:c8)(z:Nat):bN->Bytes->bE->au gq->aw (au gq×bE)
 |[],_,m,a=>some (a,m)
 |b::q,s,m,a=>bif (gR l m d (nV p b) (s.take z) false).2 then wk l d p z q (s.drop z) (gR l m d (nV p b) (s.take z) false).1 (a++[(nV p b,((s.take z).length:Int))]) else none
theorem Fe (l:au aB)(d:Int)(p:c8)(z:Nat):∀(q:bN)(s:Bytes)(m:bE)(a:au gq){x},wk l d p z q s m a=some x->
 x.2.length=m.length/\x.1.length=a.length+q.length/\∀y∈x.1,y∈a\/((∃b∈q,y.1=nV p b)/\0<=y.2/\y.2<=(z:Int))
 |[],s,m,a,x,h=>by cases h;exact⟨rfl,rfl,λy hy=>Or.inl hy⟩
 |b::q,s,m,a,x,h=>by rw[wk]at h;cases hq:(gR l m d (nV p b) (s.take z) false).2 with|false=>rw[hq]at h;cases h|true=>rw[hq]at h;obtain⟨h1,h2,h3⟩:=Fe l d p z q _ _ _ h;rw[jy]at h1;rw[ai,aV]at h2;refine⟨h1,by rw[aY];omega,λy hy=>?_⟩;rcases h3 y hy with g|⟨⟨b',hb',g⟩,g2⟩;rcases ay.1 g with g|g;exact Or.inl g;rw[bu.1 g];refine Or.inr ⟨⟨b,List.mem_cons_self ..,rfl⟩,?_,?_⟩;show(0:Int)<=((s.take z).length:Int);omega;show((s.take z).length:Int)<=(z:Int);rw[aO];omega;exact Or.inr ⟨⟨b',dZ _ hb',g⟩,g2⟩
theorem OP (p:c8)(i:Int): -1<=nV p i/\nV p i<=139136:=by unfold nV;cases hb: !dA p|| !cI i 0 (p.2.2.1-1)with|true=>exact⟨cu _,show(-1:Int)<=139136 by omega⟩|false=>simp only[cc,dB]at hb;have h:=xl hb.1;have h2:=aS.1 hb.2;have h3:0<=i*p.2.1:=Int.mul_nonneg h2.1 (by omega);have h4:i*p.2.1<=16*512:=Int.mul_le_mul (by omega) (by omega) (by omega) (by omega);simp only[af];omega
theorem aca {p:c8}(hp:dA p=true)(hb:b∈p.2.2.2):0<=nV p b:=by obtain⟨i,hi,rfl⟩:=List.getElem_of_mem hb;have hq:=hp;simp only[dA,ae]at hq;have:=aC.1 hq.2.2.2 i (bz.2 hi);simp only[Cj,ae,cr hi]at this;have hn:=this.1;have h:=xl hp;have h2:=aS.1 hn;have h3:0<=p.2.2.2[i]*p.2.1:=Int.mul_nonneg h2.1 (by omega);unfold nV;rw[hp,hn];show 0<=p.1+p.2.2.2[i]*p.2.1;omega
theorem UL (s:Bytes)(z:Nat):sub s 0 (if(s.length:Int)<(z:Int) then(s.length:Int) else(z:Int))=some (s.take z):=by by_cases h:(s.length:Int)<(z:Int);rw[aF h,Bn,ax,cm,bR (by omega)];rw[aD h,Bn,ax]
theorem RQ (s:Bytes)(z:Nat):sub s ((s.take z).length:Int) (s.length:Int)=some (s.drop z):=by rw[Gq _ _ (by rw[aO];omega),aO];by_cases h:z<=s.length;rw[gP h];rw[Nat.min_eq_right (by omega),gv,List.drop_eq_nil_of_le (by omega)]
def abR:aw (au gq×bE)->aw (Bool×bE×au gq×Bool)->Prop
 |some x,r=>r=some (true,x.2,x.1,true)
 |none,r=>∃c m,r=some (c,m,[],false)
theorem DL (l:au aB)(d:Int)(p:c8)(z:Nat)(B:bE)(hp:p.2.2.2.length<=1000000000)(hl:l.length<=1000000000):∀(rest pre:bN)(s:Bytes)(m:bE)(a:au gq)(f:Nat),rest.length<f->(pre++rest).length<=1000000->a.length+rest.length<=1000000->m.length<=1000000000->
 abR (wk l d p z rest s m a) (bc (jw (λ_ y14 _ y16=>some (true,y16,y14,true)) (λ_ y18 y19 _ _ _ y23=>some (true,y23,y18,y19)) l d (z:Int) ([]:au gq) false (pre++rest) ((pre++rest).length:Int) p B) f (s,a,(pre.length:Int),m))
 |rest,pre,s,m,a,0,hf,_,_,_=>by omega
 |[],pre,s,m,a,f+1,_,_,_,_=>by rw[bc];simp only[jw];rw[al (by simp),af];rfl
 |b::q,pre,s,m,a,f+1,hf,hn,ha,hm=>by
  simp only[aY,ai]at hf hn ha;have hi:pre.length<(pre++b::q).length:=by simp
  have hb:(pre++b::q)[pre.length]=b:=by simp
  have hA:=OP p b;rw[bc];simp only[jw];rw[ar (by simp;omega),bp hi,hb];simp only[ah,ab,UL,RQ,Fs p b hp,zM l m d (nV p b) (s.take z) hl hm];rw[wk];cases hq:(gR l m d (nV p b) (s.take z) false).2 with
  |false=>exact⟨_,_,rfl⟩
  |true=>
   simp only[aj,af,ah];rw[ak (n:=(pre.length:Int)+1),aM (by simp only[aV];omega)];have key:=DL l d p z B hp hl q (pre++[b]) (s.drop z) (gR l m d (nV p b) (s.take z) false).1 (a++[(nV p b,((s.take z).length:Int))]) f (by omega) (by simp;omega) (by simp;omega) (by rw[jy];exact hm);have el:((pre++[b]).length:Int)=(pre.length:Int)+1:=by simp
   rw[aU,List.singleton_append,el]at key;exact key
theorem Z1 (l:au aB)(m:bE)(d:Int)(p:c8)(q:bN)(s:Bytes)(z:Nat)(hp:p.2.2.2.length<=1000000000)(hl:l.length<=1000000000)(hm:m.length<=1000000000)(hq:q.length<=1000)(h0:0<q.length): abR (wk l d p z q s m []) (mD l m d p q s (z:Int)):=by have hfu:=dT;cases q with|nil=>cases h0|cons b q=>simp only[aY]at hq;have hA:=OP p b;have hi:idx (b::q) 0=some b:=rfl;unfold mD;rw[ar (by simp),ah,hi];simp only[ab,UL,RQ,Fs p b hp,zM l m d (nV p b) (s.take z) hl hm];rw[wk];cases hq':(gR l m d (nV p b) (s.take z) false).2 with|false=>exact⟨_,_,rfl⟩|true=>simp only[aj,af,ah];rw[aM (by simp),show aq (0+1)=1 from rfl];exact DL l d p z _ hp hl q [b] (s.drop z) (gR l m d (nV p b) (s.take z) false).1 [(nV p b,((s.take z).length:Int))] fuel (by omega) (by simp;omega) (by simp;omega) (by rw[jy];exact hm)
theorem aci {ps:au gq}{z:Int}(h0:0<ps.length)(h16:ps.length<=16)(hp:∀x∈ps,0<=x.1/\x.1<=200000/\0<=x.2/\x.2<=4096)(hz:cI z 1 128=true)(hc:cI c 0 65535=true):(pz ps z c).length=ps.length+1:=by
 have hz2:=aS.1 hz;have hc2:=aS.1 hc;have e1:nL ps=true:=by unfold nL;rw[ae,aH,aE];refine⟨List.any_eq_false.2 λx hx=>?_,by omega⟩;have:=hp x hx;unfold yt;rw[gT,cz,aH,Bool.eq_false_iff];intro h;exact h (aS.2 (by omega))
 have e2:([((2:Int),(0:Int),(0:Int),(0:Int),z,c)]++w4 ps c ps.length).all s7=true:=by rw[List.all_append,ae];constructor;simp only[bU,List.all_nil,fi,s7,ae,aS];omega;rw[GM];refine aC.2 λj hj=>?_;have hj:=bz.1 hj;have:=hp _ (aL hj);simp only[dsc,cr hj,s7,ae,aS];refine⟨by omega,?_,by omega,by omega,by omega,by omega⟩;by_cases hq:j+1=ps.length;rw[aF hq];omega;rw[aD hq];omega
 unfold pz;rw[e1,hz,e2,show((ps.length:Int)==0)=false from by rw[bP];omega];simp only[aj,cl,af,ah,ai,aV,zY];omega
theorem SI (K:bE->Int->aw R)(l:au aB)(d:Int)(q:bN)(ds ds2:au oI)(t1 t2 t3 t4:dM)(m1 m2 m3:bE)(h:ds.length<=1000): bc (fO K l d q ds2 ds (ds.length:Int) t1 m1 t2 m2 t3 t4 m3) fuel (([]:bE),0)=K (ds.map w8) (ds.length:Int):=by
 have hfu:=dT;refine da (λi=>((ds.take i).map w8,(i:Int))) ds.length (by omega) (λi nx hi=>?_) (λnx=>?_);have e:((ds.take i).map w8).length<=1000:=by simp;omega
 rw[aW hi,dF];simp only[fO];rw[iV,ah,bp hi,ab,Qe,ab,aM (by simp only[aV];omega),ak];rfl;simp only[fO];rw[gT,af,cm]
def xW (p:aG)(z:Nat):Nat:=((jI p).1.length+z-1)/z
def LL (l:au aB)(m:bE)(d:Int)(t:dM)(c:Int)(n:Nat)(x:au gq×bE):bE×dM×Bool:=
 bif (uu l x.2 d t.1 ((pz x.1 c t.2.2.2).map w8)).2.2 then
  ((uu l x.2 d t.1 ((pz x.1 c t.2.2.2).map w8)).1,((uu l x.2 d t.1 ((pz x.1 c t.2.2.2).map w8)).2.1,(jP t.2.1 (n:Int)).1,t.2.2.1++[(t.2.2.2,(n:Int)+1,(jP t.2.1 (n:Int)).2.1)],Int.tmod (t.2.2.2+1) 65536),true)
 else(m,t,false)
def HR (t:dM)(n:Nat):Bool:=(jP t.2.1 (n:Int)).2.2&&(!decide ((n:Int)>16)&&(!decide ((n:Int)+1>nX t.1)&& !decide (dH t.2.2.1+(n:Int)+1>t.1.2.1)))
def u9 (l:au aB)(m:bE)(d:Int)(t:dM)(p:aG)(c z:Int):bE×dM×Bool:=
 bif Me t&&(dh p&&(cI z 1 t.2.1.2.1&&cI c 1 128)) then
  bif HR t (xW p z.toNat) then
   match wk l d t.2.1 z.toNat (jP t.2.1 (xW p z.toNat:Int)).2.1 (jI p).1 m []with
   |some x=>LL l m d t c (xW p z.toNat) x
   |none=>(m,t,false)
  else(m,t,false)
 else(m,t,false)
theorem Xq (h:dh p=true):0<(jI p).1.length/\(jI p).1.length<=378:=by have hl:=xN p;have hs:=Sy h;unfold jI;rw[h];show 0<(lC (dk p).1 (bX 0) (bX 0)).length/\(lC (dk p).1 (bX 0) (bX 0)).length<=378;rw[CC];omega
theorem aiw (len z:Nat)(h:len<=1000)(hz:z<=1000)(h0:0<z):aq (Int.tdiv (aq (aq ((len:Int)+(z:Int))-1)) (z:Int))=(((len+z-1)/z:Nat):Int):=by have hd:(len+z-1)/z<=len+z-1:=Nat.div_le_self ..;rw[ak (n:=(len:Int)+(z:Int)),ak (n:=(len:Int)+(z:Int)-1),show(len:Int)+(z:Int)-1=((len+z-1:Nat):Int) by omega,show Int.tdiv ((len+z-1:Nat):Int) (z:Int)=(((len+z-1)/z:Nat):Int) from rfl];generalize (len+z-1)/z=N at hd⊢;rw[ak]
theorem UJ {p:c8}(h:(jP p (n:Int)).2.2=true):dA p=true/\n<=p.2.2.2.length/\(jP p (n:Int)).2.1=p.2.2.2.take n:=by unfold jP at h⊢;cases hq:dA p&&cI (n:Int) 0 (p.2.2.2.length:Int)with|false=>rw[hq]at h;cases h|true=>simp only[ae,aS]at hq;exact⟨hq.1,by omega,rfl⟩
theorem ZJ {z:Nat}{x:au gq×bE}(ht:Me t=true)(hz:z<=512)(hc:cI c 1 128=true)(h0:0<n)(h16:n<=16)(hk:(jP t.2.1 (n:Int)).2.2=true)(hx:wk l d t.2.1 z (jP t.2.1 (n:Int)).2.1 s m []=some x):x.2.length=m.length/\(pz x.1 c t.2.2.2).length=n+1:=by
 obtain⟨hp,hn,hb⟩:=UJ hk;rw[hb]at hx;obtain⟨h1,h2,h3⟩:=Fe l d t.2.1 z _ _ _ _ hx;simp only[du,aO,cg]at h2;have e:x.1.length=n:=by omega
 refine⟨h1,?_⟩;rw[aci (by omega) (by omega) (λy hy=>?_) hc (by simp only[Me,ae]at ht;exact ht.2.2.1),e];rcases h3 y hy with g|⟨⟨b,hb',g⟩,g2⟩;cases g;have q1:=aca hp (List.mem_of_mem_take hb');have q2:=OP t.2.1 b;rw[g];omega
theorem aaa (l:au aB)(m:bE)(d:Int)(t:dM)(p:aG)(c z:Int)(hl:l.length<=1000000000)(hm:m.length<=1000000000)(ht:afC t)(h1:t.2.2.1.length<=1000000000)(h2:t.2.1.2.2.2.length+(bB t.2.2.1).length<=1000000000):sq l m d t p c z=some (u9 l m d t p c z):=by
 have hfu:=dT;unfold sq u9;rw[fL m,ab,Ep t ht,ab,V9 t h1 h2,ab,kT,bZ,bZ];simp only[ab];cases hb:Me t with|false=>rfl|true=>?_
 cases hp:dh p with|false=>rfl|true=>?_
 cases hz:cI z 1 t.2.1.2.1 with|false=>rfl|true=>?_
 cases hc:cI c 1 128 with|false=>rfl|true=>?_
 have hT:=Xq hp;have hz2:=aS.1 hz;have hq:=hb;simp only[Me,ae]at hq;have hpl:=xl hq.2.1;have h16:=EO hb;have hrg:=kJ hq.1;have hnx:=aS.1 hq.2.2.1;obtain⟨z,rfl⟩:=aN (by omega:0<=z);have hzn:¬(z:Int)=0:=by omega
 have hS:∀x∈t.2.2.1,0<=x.2.1/\x.2.1<=16:=λx hx=>by have:=aC.1 hq.2.2.2.1 x hx;simp only[nM,ae,aS]at this;omega
 have hcb:=BX _ hS;have hN:xW p z<=1000:=by have:xW p z<=(jI p).1.length+z-1:=Nat.div_le_self ..;omega
 have hN0:0<xW p z:=Nat.div_pos (by omega) (by omega);have hce:=aiw (jI p).1.length z (by omega) (by omega) (by omega);rw[show((jI p).1.length+z-1)/z=xW p z from rfl]at hce;simp only[aj,af,ab,cq,ah,ax,NH,aD hzn,hce,aah _ _ (show t.2.1.2.2.2.length<=1000000000 by omega),Ny,aac t (by omega) hS,HR];rw[ak (n:=(xW p z:Int)+1),ak (n:=dH t.2.2.1+(xW p z:Int)),ak (n:=dH t.2.2.1+(xW p z:Int)+1)];by_cases g1:(xW p z:Int)>16;rw[ar g1];simp only[ah,ab,aj,dw,ez,af];rw[al g1];simp only[br,af,bj];cases decide ((xW p z:Int)+1>nX t.1)with|true=>simp only[ah,ab,aj,dw,ez,af]|false=> ?_
 simp only[br,af,bj,ab];cases decide (dH t.2.2.1+(xW p z:Int)+1>t.1.2.1)with|true=>simp only[ah,ab,aj,dw,ez,af]|false=> ?_
 simp only[br,af,fi,ab];cases hk:(jP t.2.1 (xW p z:Int)).2.2 with|false=>rfl|true=>?_
 simp only[aj,af,ah,fL m (show m.length<=1073741824 by omega),ab];obtain⟨_,hkn,hkb⟩:=UJ hk;have hkl:(jP t.2.1 (xW p z:Int)).2.1.length=xW p z:=by rw[hkb,aO];omega
 have key:=Z1 l m d t.2.1 (jP t.2.1 (xW p z:Int)).2.1 (jI p).1 z (by omega) hl hm (by omega) (by omega);cases hx:wk l d t.2.1 z (jP t.2.1 (xW p z:Int)).2.1 (jI p).1 m []with
 |none=>rw[hx]at key;obtain⟨a,b,e⟩:=key;obtain⟨f,g,_⟩:=AM [] c t.2.2.2 (by simp);rw[e,ab];simp only[g,ab];cases a<;>cases f<;>rfl
 |some x=>
  rw[hx]at key;have key:mD _ _ _ _ _ _ _=_:=key;obtain⟨x1,x2⟩:=ZJ hb (by omega) hc hN0 (by omega) hk hx;obtain⟨_,x3,_⟩:=Fe l d t.2.1 z _ _ _ _ hx;simp only[du]at x3;obtain⟨f,g,hf⟩:=AM x.1 c t.2.2.2;have hft:f=true:=by cases f with|true=>rfl|false=>have:=hf rfl;rw[this]at x2;cases x2
  subst hft;simp only[key,g,ab,ah,aj,af,aD (show¬(pz x.1 c t.2.2.2).length=0 by omega),LL];rw[SI _ _ _ _ _ _ _ _ _ _ _ _ _ (by omega)];simp only[V5 l x.2 d t.1 _ hl (by omega) (show((pz x.1 c t.2.2.2).map w8).length<=1000000000 by rw[bF];omega),ab];cases (uu l x.2 d t.1 ((pz x.1 c t.2.2.2).map w8)).2.2 with|false=>rfl|true=>simp only[aj,af,ab,ah];rw[aM (by simp only[aV];omega),mi,ak,x2];rfl
def QU (g:Nat->Host->Host):Nat->Host->Host
 |0,h=>h
 |k+1,h=>g k (QU g k h)
structure BA (a b:Host):Prop where
 maps:b.2.1=a.2.1
 tx:b.2.2.1=a.2.2.1
 rx:b.2.2.2.1.length=a.2.2.2.1.length
 pl:b.2.2.2.2.1.length=a.2.2.2.2.1.length
 vec:b.2.2.2.2.2.1=a.2.2.2.2.2.1
 pol:b.2.2.2.2.2.2.1=a.2.2.2.2.2.2.1
 ret:b.2.2.2.2.2.2.2.2.2.2.2.2.2.1=a.2.2.2.2.2.2.2.2.2.2.2.2.2.1
theorem BA.refl (a:Host):BA a a:=⟨rfl,rfl,rfl,rfl,rfl,rfl,rfl⟩
theorem BA.trans {a b c:Host}(h:BA a b)(k:BA b c):BA a c:=⟨k.1.trans h.1,k.2.trans h.2,k.3.trans h.3,k.4.trans h.4,k.5.trans h.5,k.6.trans h.6,k.7.trans h.7⟩
theorem TY (h:Host)(i:Nat)(c:Int):BA h (u3 h i c).2:=by
 unfold u3;cases h1:h.2.2.2.1[i]? with|none=>exact BA.refl h|some rx=>?_
 cases h2:h.2.2.2.2.1[i]? with|none=>exact BA.refl h|some pl=>?_
 exact⟨rfl,rfl,aA ..,aA ..,rfl,rfl,rfl⟩
def sC (h:Host)(k:Nat):Host:=QU (λi s=>(u3 s i 1000).2) k h
theorem AZ {n:Nat}(hn:128<=n){h:Host}(z:cV n de h):∀k,BA h (sC h k)/\cV (n+322000*k) de (sC h k)
 |0=>⟨BA.refl h,z⟩
 |k+1=>by have i:=AZ hn z k;exact⟨i.1.trans (TY ..),(WQ (by omega) k 1000 i.2).mono⟩
def YC (h:Host)(l:bN):Host:=(h.1,h.2.1,h.2.2.1,h.2.2.2.1,h.2.2.2.2.1,h.2.2.2.2.2.1,h.2.2.2.2.2.2.1,h.2.2.2.2.2.2.2.1,h.2.2.2.2.2.2.2.2.1,h.2.2.2.2.2.2.2.2.2.1,h.2.2.2.2.2.2.2.2.2.2.1,h.2.2.2.2.2.2.2.2.2.2.2.1,h.2.2.2.2.2.2.2.2.2.2.2.2.1,h.2.2.2.2.2.2.2.2.2.2.2.2.2.1++l,h.2.2.2.2.2.2.2.2.2.2.2.2.2.2)
def Zc (h:Host):Host:=(h.1,h.2.1,(BQ.1,BQ.2.1,BQ.2.2.1,h.2.2.1.2.2.2),h.2.2.2)
def DU (h:Host)(i:Nat)(dr:Int):Host:=
 ((rb h.2.1 h.1 i).1,h.2.1,h.2.2.1,h.2.2.2.1.set i ((rb h.2.1 h.1 i).2.1,(CG i).2.1,(CG i).2.2.1,(CG i).2.2.2.1,(CG i).2.2.2.2.1,dr),h.2.2.2.2.1.set i (rb h.2.1 h.1 i).2.2.1,h.2.2.2.2.2)
def Dz (x:cj):Int:=bif x.2.2.2.2.1 then aq (x.2.2.2.2.2+x.2.2.2.1.2.2) else x.2.2.2.2.2
def u7 (i:Nat)(h:Host):Host:=
 match h.2.2.2.1[i]?,h.2.2.2.2.2.1[i]? with
 |some x,some v=>((DU h i (Dz x)).1,h.2.1,h.2.2.1,(DU h i (Dz x)).2.2.2.1,(DU h i (Dz x)).2.2.2.2.1,h.2.2.2.2.2.1.set i (v.1,v.2.1,0,0,false,false),h.2.2.2.2.2.2.1.set i false,h.2.2.2.2.2.2.2)
 |_,_=>h
structure ahj (k:Nat) (a b:Host):Prop where
 mem:b.1.length=a.1.length
 maps:b.2.1=a.2.1
 rx:b.2.2.2.1.length=a.2.2.2.1.length
 pl:b.2.2.2.2.1.length=a.2.2.2.2.1.length
 vec:b.2.2.2.2.2.1.length=a.2.2.2.2.2.1.length
 vecs:∀j,k<=j->b.2.2.2.2.2.1[j]?=a.2.2.2.2.2.1[j]?
 pol:b.2.2.2.2.2.2.1.length=a.2.2.2.2.2.2.1.length
theorem NU (l:au aB)(m:bE)(i:Nat):(rb l m i).1.length=m.length:=by unfold rb;rw[X6,jy]
theorem Ud (i:Nat)(h:Host):ahj (i+1) h (u7 i h):=by
 unfold u7;cases h1:h.2.2.2.1[i]? with|none=>exact⟨rfl,rfl,rfl,rfl,rfl,λ_ _=>rfl,rfl⟩|some x=>?_
 cases h2:h.2.2.2.2.2.1[i]? with|none=>exact⟨rfl,rfl,rfl,rfl,rfl,λ_ _=>rfl,rfl⟩|some v=>?_
 have e1:(DU h i (Dz x)).1.length=h.1.length:=NU h.2.1 h.1 i;exact⟨e1,rfl,aA ..,aA ..,aA ..,λj hj=>List.getElem?_set_ne (by omega),aA ..⟩
def gS (h:Host)(k:Nat):Host:=QU u7 k h
theorem vM (h:Host):∀k,ahj k h (gS h k)
 |0=>⟨rfl,rfl,rfl,rfl,rfl,λ_ _=>rfl,rfl⟩
 |k+1=>by have a:=vM h k;have b:=Ud k (gS h k);exact⟨b.mem.trans a.mem,b.maps.trans a.maps,b.rx.trans a.rx,b.pl.trans a.pl,b.vec.trans a.vec,λj hj=>(b.vecs j hj).trans (a.vecs j (by omega)),b.pol.trans a.pol⟩
theorem aaS (hn:1000<=n)(i:Nat)(d:Int)(z:cV n de h):cV n de (DU h i d):=by unfold DU rb;have h4:=nJ (gr i+128) 384 4;have hf:=Ei h.2.1 (gR h.2.1 h.1 0 (gr i) (uO 128) false).1 0 (gr i,4,0,0) (gF (gr i+128) 384 4).1;refine⟨Nf (by omega) (CB (by omega) z.1 ..) ..,z.2.1,z.2.2.1,lz z.2.2.2.1 ?_,lz z.2.2.2.2.1 ?_,z.2.2.2.2.2⟩;refine⟨⟨ch,ch,ch,ch⟩,⟨ch,ch,ch⟩,⟨ch,ch,ch⟩,⟨⟨ch,ch,ch,ch,ch,ch,ch,ch,ch,ch,ch,ch,ch,ch,ch,?_⟩,ch,ch⟩,ch,ch⟩;exact bS _;exact⟨ch,ch,ch,by show List.length _<=_;omega,λ_ _=>trivial⟩
theorem WZ (hn:1000<=n)(i:Nat)(z:cV n de h):cV n de (u7 i h):=by
 unfold u7;cases h1:h.2.2.2.1[i]? with|none=>exact z|some x=>?_
 cases h2:h.2.2.2.2.2.1[i]? with|none=>exact z|some v=>?_
 have zo:=aaS hn i (Dz x) z;exact⟨zo.1,z.2.1,z.2.2.1,zo.2.2.2.1,zo.2.2.2.2.1,lz z.2.2.2.2.2.1 ⟨ch,ch,ch,ch,ch,ch⟩,lz z.2.2.2.2.2.2.1 trivial,z.2.2.2.2.2.2.2⟩
theorem Bd {n:Nat}(hn:1000<=n){h:Host}(z:cV n de h):∀k,cV n de (gS h k)
 |0=>z
 |k+1=>WZ hn k (Bd hn z k)
def LC (W:au ni)(i:Nat)(s:Host):Host:=match W[i]? with|some x=>YC s [x.1]|none=>s
def polled (h:Host):Host:=sC h h.2.2.2.1.length
def returned (h:Host)(k:Nat):Host:=QU (LC h.2.2.1.2.2.1) k (polled h)
structure amk (a b:Host):Prop where
 e:b=(a.1,a.2.1,a.2.2.1,a.2.2.2.1,a.2.2.2.2.1,a.2.2.2.2.2.1,a.2.2.2.2.2.2.1,a.2.2.2.2.2.2.2.1,a.2.2.2.2.2.2.2.2.1,a.2.2.2.2.2.2.2.2.2.1,a.2.2.2.2.2.2.2.2.2.2.1,a.2.2.2.2.2.2.2.2.2.2.2.1,a.2.2.2.2.2.2.2.2.2.2.2.2.1,b.2.2.2.2.2.2.2.2.2.2.2.2.2.1,a.2.2.2.2.2.2.2.2.2.2.2.2.2.2)
theorem wF {n:Nat}{h:Host}(z:cV n de (polled h)):∀k,amk (polled h) (returned h k)/\(returned h k).2.2.2.2.2.2.2.2.2.2.2.2.2.1.length<=n+k
 |0=>⟨⟨rfl⟩,by have:=z.2.2.2.2.2.2.2.2.2.2.2.2.2.1.1;exact bm this (by omega)⟩
 |k+1=>by have i:=wF z k;have e:returned h (k+1)=LC h.2.2.1.2.2.1 k (returned h k):=rfl;rw[e];unfold LC;cases h.2.2.1.2.2.1[k]? with|none=>exact⟨i.1,bm i.2 (by omega)⟩|some x=>refine⟨⟨?_⟩,?_⟩;show YC _ _=_;have e:=i.1.e;generalize returned h k=r at e⊢;rw[e];rfl;show(_++[_]).length<=_;rw[ai,aV];omega
theorem QH (z:cV n de (polled h))(k:Nat):cV (n+k) de (returned h k):=by have i:=wF z k;have z':cV (n+k) de (polled h):=z.mono;rw[i.1.e];exact⟨z'.1,z'.2.1,z'.2.2.1,z'.2.2.2.1,z'.2.2.2.2.1,z'.2.2.2.2.2.1,z'.2.2.2.2.2.2.1,z'.2.2.2.2.2.2.2.1,z'.2.2.2.2.2.2.2.2.1,z'.2.2.2.2.2.2.2.2.2.1,z'.2.2.2.2.2.2.2.2.2.2.1,z'.2.2.2.2.2.2.2.2.2.2.2.1,z'.2.2.2.2.2.2.2.2.2.2.2.2.1,⟨i.2,λ_ _=>trivial⟩,z'.2.2.2.2.2.2.2.2.2.2.2.2.2.2⟩
theorem UP (hn:1000<=n)(z:cV n de h):cV n de (Zc h):=by have h4:=nJ 256 128 8;exact⟨z.1,z.2.1,⟨⟨ch,ch,ch,ch⟩,⟨ch,ch,ch,by show List.length (gF 256 128 8).1.2.2.2<=n;omega,λ_ _=>trivial⟩,⟨bS _,λx hx=>by cases hx⟩,ch⟩,z.2.2.2⟩
def qc (h:Host):Host:=Zc (returned h h.2.2.1.2.2.1.length)
def rk (h:Host):Host:=bif dK h then gS (qc h) h.2.2.2.1.length else h
theorem KP (hb:dK h=true):qY h=true:=by simp only[dK,ae]at hb;exact hb.2.2.2.2.1
theorem HP (hn:1000<=n)(z:cV n de h)(hl:h.2.2.2.1.length<=2):cV (n+644000+h.2.2.1.2.2.1.length) de (qc h):=by have hp:=AZ (by omega) z h.2.2.2.1.length;exact UP (by omega) (QH (hp.2.mono) _)
theorem ar8 (l:au aB)(X:bE)(q:cj)(P:c8)(o:bE×jY×c8×Int)(k:cj×c8->bE×jY×c8×Int->aw R)(h:gY l X 0 q.1 P=some o):(aa (gY l X 0 (q,P).1.1 (q,P).2) λr17=>k (q,P) r17)=k (q,P) o:=by show aa (gY l X 0 q.1 P) (λr17=>k (q,P) r17)=k (q,P) o;rw[h,ab]
theorem Nz (l:au aB)(m:bE)(i:Nat)(hi:i<=8)(hl:l.length<=1000000000)(hm:m.length<=1000000000)(k:cj×c8->bE×jY×c8×Int->aw R): (aa (pN (i:Int)) λr13=>aa (ng 0 128) λr14=>aa (jb l m 0 r13 r14) λr15=>aa (uY (i:Int)) λr16=>aa (gY l r15.1 0 r16.1.1 r16.2) λr17=>k r16 r17)=k (CG i,(gF (gr i+128) 384 4).1) (rb l m i):=by
 have hb:gr i=1280+(i:Int)*1792:=rfl;have hb2:gr i<=9223372036854775807:=by omega
 have hz:ng 0 128=some (uO 128):=Yf 128;have hf:=SJ l (gR l m 0 (gr i) (uO 128) false).1 0 (gr i,4,0,0) (gF (gr i+128) 384 4).1 hl (by rw[jy];exact hm) (bm (nJ (gr i+128) 384 4) (by omega));rw[SC i hi,ab,hz,ab,zM l m 0 (gr i) (uO 128) hl hm hb2,ab,Z8 i hi,ab];exact ar8 l _ (CG i) _ (rb l m i) k hf
theorem My (K:Int->Host->aw Host)(s0 B:Host)(N:Nat)(hN:N<=2)(h1:s0.2.2.2.1.length=N)(h2:s0.2.2.2.2.1.length=N)(h3:s0.2.2.2.2.2.1.length=N)(h4:s0.2.2.2.2.2.2.1.length=N)(z:cV 900000000 de s0): bc (kj K (N:Int) B) fuel (0,s0)=K (N:Int) (gS s0 N):=by
 refine da (λi=>((i:Int),gS s0 i)) N (by omega) (λi nx hi=>?_) (λnx=>?_);have kr:=vM s0 i;have zr:=Bd (by omega) z i;have z1:(gS s0 i).1.length<=1000000000:=bm zr.1.1 (by omega);have z2:(gS s0 i).2.1.length<=1000000000:=bm zr.2.1.1 (by omega);have i1:i<(gS s0 i).2.2.2.1.length:=by rw[kr.rx,h1];exact hi
 have i2:i<(gS s0 i).2.2.2.2.1.length:=by rw[kr.pl,h2];exact hi
 have i3:i<(gS s0 i).2.2.2.2.2.1.length:=by rw[kr.vec,h3];exact hi
 have i4:i<(gS s0 i).2.2.2.2.2.2.1.length:=by rw[kr.pol,h4];exact hi
 rw[show gS s0 (i+1)=u7 i (gS s0 i) from rfl];generalize gS s0 i=s at z1 z2 i1 i2 i3 i4⊢;unfold u7 Dz DU;simp only[List.getElem?_eq_getElem i1,List.getElem?_eq_getElem i3];simp only[kj];rw[iV,ah];simp only[bp i1,ab];rw[Nz s.2.1 s.1 i (by omega) z2 z1,Nz s.2.1 s.1 i (by omega) z2 z1];generalize CG i=q;generalize rb s.2.1 s.1 i=o;simp only[bp i1,bp i2,bp i3,bp i4,ab];rw[ak (n:=(i:Int)+1),ax];cases s.2.2.2.1[i].2.2.2.2.1<;>rfl;simp only[kj];rw[gT,af]
theorem PU (hq:BA h (polled h))(hz:cV n de (polled h)):(qc h).2.2.2.1.length=h.2.2.2.1.length/\(qc h).2.2.2.2.1.length=h.2.2.2.2.1.length/\(qc h).2.2.2.2.2.1=h.2.2.2.2.2.1/\(qc h).2.2.2.2.2.2.1=h.2.2.2.2.2.2.1:=by have er:=(wF hz h.2.2.1.2.2.1.length).1.e;refine⟨?_,?_,?_,?_⟩;show(returned h h.2.2.1.2.2.1.length).2.2.2.1.length=_;rw[er];exact hq.rx;show(returned h h.2.2.1.2.2.1.length).2.2.2.2.1.length=_;rw[er];exact hq.pl;show(returned h h.2.2.1.2.2.1.length).2.2.2.2.2.1=_;rw[er];exact hq.vec;show(returned h h.2.2.1.2.2.1.length).2.2.2.2.2.2.1=_;rw[er];exact hq.pol
theorem DN (h:Host)(k:Jy h)(z:cV 100000000 de h):pG h=some (rk h):=by
 have hfu:=dT;unfold pG rk;rw[iM h (z.mono),ab,tF h k,ab];cases hb:dK h with|false=>rfl|true=>?_
 have hl:=qG (KP hb);have hw:h.2.2.1.2.2.1.length<=100000000:=z.2.2.1.2.2.1.1;have hp:=AZ (n:=100000000) (by omega) z;simp only[aj,af,ah];refine da (λi=>((i:Int),sC h i)) h.2.2.2.1.length (by omega) (λi nx hi=>?_) (λnx=>?_);simp only[oX];rw[iV,ah,Qj (sC h i) i 1000 (by rw[(hp i).1.rx];exact hi) (by rw[(hp i).1.pl];omega) ((hp i).2.mono),ab,ak];rfl;simp only[oX];rw[gT,af];have hq:=hp h.2.2.2.1.length;have hr:=wF (n:=100000000+322000*h.2.2.2.1.length) hq.2;have e1:(sC h h.2.2.2.1.length).2.2.1.2.2.1=h.2.2.1.2.2.1:=by rw[hq.1.tx]
 rw[e1];refine da (λi=>((i:Int),returned h i)) h.2.2.1.2.2.1.length (by omega) (λi nx hi=>?_) (λnx=>?_);have hri:=(hr i).2;simp only[nu];rw[iV,ah,bp hi,ab,aM (by rw[aV];omega),ak];rw[show returned h (i+1)=LC h.2.2.1.2.2.1 i (returned h i) from rfl,LC,List.getElem?_eq_getElem hi];rfl;simp only[nu];rw[gT,af];simp only[aal,ab];have hE:=HP (n:=100000000) (by omega) z hl.1;have hk:=PU hq.1 hq.2;have eN:((List.length (returned h h.2.2.1.2.2.1.length).2.2.2.1:Nat):Int)=(h.2.2.2.1.length:Int):=congrArg Nat.cast hk.1;rw[eN];exact My _ (qc h) _ h.2.2.2.1.length hl.1 hk.1 (hk.2.1.trans hl.2.1) (by rw[hk.2.2.1];exact hl.2.2.1) (by rw[hk.2.2.2];exact hl.2.2.2) (hE.mono)
def xX (x:ET):Bool:=cI x.1 0 65535&&(cI x.2.1 0 65535&&(cI x.2.2.1 0 65535&&(cI x.2.2.2.1 0 65535&&cI x.2.2.2.2 0 4294967295)))
theorem Nv (x:ET):ln x=some (xX x):=by simp only[ln,bZ,ab,bD,cF,xX]
def PV (x:ET)(p:Int):Bytes:=bif xX x&&cI p 0 1 then((((bX x.1++bX x.2.1)++bX x.2.2.1)++bX x.2.2.2.1)++fD x.2.2.2.2)++fD p else []
theorem acO (x:ET)(p:Int):kD x p=some (PV x p):=by
 have h1:=bI x.1;have h2:=bI x.2.1;have h3:=bI x.2.2.1;have h4:=bI x.2.2.2.1;have h5:=dz x.2.2.2.2;have h6:=dz p;unfold kD PV;simp only[Nv,bZ,ab,kh,sU];cases xX x with|false=>rfl|true=>?_
 cases cI p 0 1 with|false=>rfl|true=>?_
 simp only[aj,af,ab,cq,ah];rw[aM,aM (by simp only[ai];omega),aM (by simp only[ai];omega),aM (by simp only[ai];omega),aM (by simp only[ai];omega)]
def zw (l:au aB)(m:bE)(d:Int)(q:se)(x:ET):bE×se×Bool:=
 bif !fC q|| !xX x then(m,q,false) else
 bif !(gR l m d (re q) (PV x (yr q)) true).2 then(m,q,false) else
 ((gR l m d (re q) (PV x (yr q)) true).1,(q.1,q.2.1,Int.tmod (q.2.2+1) (2*q.2.1)),true)
theorem acY (l:au aB)(m:bE)(d:Int)(q:se)(x:ET)(hl:l.length<=1000000000)(hm:m.length<=1000000000):nA l m d q x=some (zw l m d q x):=by
 unfold nA zw;simp only[G0,Nv,ab,fL m (show m.length<=1073741824 by omega),NA,acO];cases hq:fC q with|false=>rfl|true=>?_
 have h:=uw hq;have hs:=QO hq;cases xX x with|false=>rfl|true=>?_
 simp only[aj,af,ab,cl,NF q hq,AN l m d _ _ hl hm (show re q<=9223372036854775807 by unfold re;omega)];cases hp:(gR l m d (re q) (PV x (yr q)) true).2 with|false=>simp only[br,ah,Hu hp]|true=>simp only[aj,af];rw[ak (n:=2*q.2.1),mi,ak (n:=q.2.2+1)]
theorem aa7 (hn:128<=n)(z:cV n (.sl .str) m)(l:au aB)(d:Int)(q:se)(x:ET):cV n (.sl .str) (zw l m d q x).1/\(zw l m d q x).1.length=m.length:=by
 unfold zw;cases !fC q|| !xX x with|true=>exact⟨z,rfl⟩|false=>?_
 cases (gR l m d (re q) (PV x (yr q)) true).2 with|false=>exact⟨z,rfl⟩|true=>exact⟨CB hn z ..,jy ..⟩
theorem Yx {q:se}{x:ET}(h:fC q=true):fC (zw l m d q x).2.1=true/\(zw l m d q x).2.1.1=q.1/\(zw l m d q x).2.1.2.1=q.2.1:=by
 have hq:=uw h;unfold zw;cases !fC q|| !xX x with|true=>exact⟨h,rfl,rfl⟩|false=>?_
 cases (gR l m d (re q) (PV x (yr q)) true).2 with|false=>exact⟨h,rfl,rfl⟩|true=>refine⟨?_,rfl,rfl⟩;have e:=Q2 (a:=q.2.2+1) (b:=2*q.2.1);simp only[af,aj,fC,ae,aS]at h⊢;refine⟨h.1,h.2.1,?_⟩;rw[xS h.2.1];omega
def gX (l:au aB)(m:bE)(d:Int)(q:cj)(k:Bytes)(s:Bytes):bE×se×Bool:=
 bif !(cX s).2||(((cX s).1.1 !=3)||decide ((cX s).1.2.2.1<((dk q.2.2.2.1.1).1.length:Int))) then(m,q.2.1,false) else
 bif !(gR l m d (cX s).1.2.2.2.1 (dk q.2.2.2.1.1).1 true).2 then(m,q.2.1,false) else
 zw l (gR l m d (cX s).1.2.2.2.1 (dk q.2.2.2.1.1).1 true).1 d q.2.1 ((cX s).1.2.2.2.2.2,((dk q.2.2.2.1.1).1.length:Int),q.2.2.2.1.2.1,q.2.2.2.1.2.2,yd k (tD (lJ q.2.2.2.1.1)))
theorem aag (l:au aB)(m:bE)(d:Int)(q:cj)(k s:Bytes)(hl:l.length<=1000000000)(hm:m.length<=1000000000)(hs:s.length<=1000000000)(hh:dh q.2.2.2.1.1=true):∃b,uk l m d q k s=some (b,gX l m d q k s)/\(b=false->gX l m d q k s=(m,q.2.1,false)):=by
 unfold uk gX;have hok:=Vw (s:=s);simp only[SG s hs,Ad,ab,De hh];generalize cX s=x at hok⊢;cases hx:x.2 with|false=>exact⟨false,rfl,λ_=>rfl⟩|true=>?_
 have hd:=hok hx;simp only[s7,ae,aS]at hd;cases x.1.1 !=3 with|true=>exact⟨false,rfl,λ_=>rfl⟩|false=>?_
 cases decide (x.1.2.2.1<((dk q.2.2.2.1.1).1.length:Int))with|true=>exact⟨false,rfl,λ_=>rfl⟩|false=>?_
 simp only[aj,af,ab,cl,AN l m d _ _ hl hm (show x.1.2.2.2.1<=9223372036854775807 by omega)];cases (gR l m d x.1.2.2.2.1 (dk q.2.2.2.1.1).1 true).2 with|false=>exact⟨false,rfl,λ_=>rfl⟩|true=>?_
 simp only[aj,af,KT,ab,Fv,acY l _ d _ _ hl (show(gR l m d x.1.2.2.2.1 (dk q.2.2.2.1.1).1 true).1.length<=1000000000 by rw[jy];exact hm)];exact⟨true,rfl,λh=>by cases h⟩
theorem Ot (hn:128<=n){k:Bytes}(z:cV n (.sl .str) m)(hq:fC q.2.1=true): cV n (.sl .str) (gX l m d q k s).1/\(gX l m d q k s).1.length=m.length/\fC (gX l m d q k s).2.1=true/\(gX l m d q k s).2.1.1=q.2.1.1/\(gX l m d q k s).2.1.2.1=q.2.1.2.1:=by
 unfold gX;cases !(cX s).2||(((cX s).1.1 !=3)||decide ((cX s).1.2.2.1<((dk q.2.2.2.1.1).1.length:Int)))with|true=>exact⟨z,rfl,hq,rfl,rfl⟩|false=>?_
 cases (gR l m d (cX s).1.2.2.2.1 (dk q.2.2.2.1.1).1 true).2 with|false=>exact⟨z,rfl,hq,rfl,rfl⟩|true=>?_
 have h1:=CB hn z l d (cX s).1.2.2.2.1 (dk q.2.2.2.1.1).1 true;have h2:=jy l m d (cX s).1.2.2.2.1 (dk q.2.2.2.1.1).1 true;generalize (gR l m d (cX s).1.2.2.2.1 (dk q.2.2.2.1.1).1 true).1=w at h1 h2;have h3:=aa7 hn h1 l d q.2.1 ((cX s).1.2.2.2.2.2,((dk q.2.2.2.1.1).1.length:Int),q.2.2.2.1.2.1,q.2.2.2.1.2.2,yd k (tD (lJ q.2.2.2.1.1)));have h4:=Yx (l:=l) (m:=w) (d:=d) (x:=((cX s).1.2.2.2.2.2,((dk q.2.2.2.1.1).1.length:Int),q.2.2.2.1.2.1,q.2.2.2.1.2.2,yd k (tD (lJ q.2.2.2.1.1)))) hq;exact⟨h3.1,h3.2.trans h2,h4⟩
def iu (l:au aB)(m:bE)(d:Int)(q:cj)(k:Bytes):bE×cj:=
 bif !EV q||(!q.2.2.2.2.1||((k.length:Int) !=16)) then(m,q) else
 bif (bt l m d q.1).2.2&&(gX l m d q k (bt l m d q.1).1).2.2 then
  ((gX l m d q k (bt l m d q.1).1).1,(bt l m d q.1).2.1,(gX l m d q k (bt l m d q.1).1).2.1,q.2.2.1,abF,false,q.2.2.2.2.2)
 else(m,(bt l m d q.1).2.1,q.2.1,q.2.2.1,abF,false,aq (q.2.2.2.2.2+q.2.2.2.1.2.2))
theorem UK (h:(bt l m d r).2.2=false):(bt l m d r).2.1=r:=by
 unfold bt at h⊢;cases hc: !cZ r||(bJ r==0)with|true=>rfl|false=>?_
 cases hd:(rh l m d (oa r r.2.2.1) 16).2 with|false=>rfl|true=>rw[hc,hd]at h;cases h
theorem Aw (h:EV q=true):fC q.2.1=true/\(q.2.2.2.2.1=true->dh q.2.2.2.1.1=true):=by unfold EV at h;simp only[ae]at h;refine⟨h.1.2.1,λhh=>?_⟩;have h2:=h.2;rw[hh]at h2;simp only[ah,ae]at h2;exact h2.1
theorem GZ (l:au aB)(m:bE)(d:Int)(q:cj)(k:Bytes)(hl:l.length<=1000000000)(hm:m.length<=1000000000):mw l m d q k=some (iu l m d q k):=by
 have ht:=D5 l m d q.1;have hno:=UK (l:=l) (m:=m) (d:=d) (r:=q.1);unfold mw iu;simp only[Qk,ab,fL m (show m.length<=1073741824 by omega),FE l m d q.1 hl hm];cases hr:EV q with|false=>rfl|true=>?_
 cases hh:q.2.2.2.2.1 with|false=>rfl|true=>?_
 cases (k.length:Int) !=16 with|true=>rfl|false=>?_
 obtain⟨b,hb,hb2⟩:=aag l m d q k (bt l m d q.1).1 hl hm (by omega) ((Aw hr).2 hh);simp only[aj,af,ab,cl,hb];generalize gX l m d q k (bt l m d q.1).1=s at hb hb2⊢;cases hk:(bt l m d q.1).2.2 with|false=>rw[hno hk];rfl|true=>?_
 cases b with|true=>cases hs:s.2.2<;>rfl|false=>rw[hb2 rfl];rfl
theorem Db (hn:128<=n){k:Bytes}(z:cV n (.sl .str) m)(zq:cV n ec q): cV n (.sl .str) (iu l m d q k).1/\(iu l m d q k).1.length=m.length/\cV n ec (iu l m d q k).2/\(EV q=true->fC (iu l m d q k).2.2.1=true/\(iu l m d q k).2.2.1.2.1=q.2.1.2.1):=by
 unfold iu;cases hc: !EV q||(!q.2.2.2.2.1||((k.length:Int) !=16))with|true=>exact⟨z,rfl,zq,λh=>⟨(Aw h).1,rfl⟩⟩|false=>?_
 simp only[cc,dB]at hc;have hq:=(Aw hc.1).1;have hs:=Ot hn (l:=l) (d:=d) (k:=k) (s:=(bt l m d q.1).1) z hq;have e0:cV n ec ((bt l m d q.1).2.1,(gX l m d q k (bt l m d q.1).1).2.1,q.2.2.1,abF,false,q.2.2.2.2.2):=⟨⟨ch,ch,ch,ch⟩,⟨ch,ch,ch⟩,⟨ch,ch,ch⟩,⟨⟨ch,ch,ch,ch,ch,ch,ch,ch,ch,ch,ch,ch,ch,ch,ch,bS _⟩,ch,ch⟩,ch,ch⟩
 cases (bt l m d q.1).2.2&&(gX l m d q k (bt l m d q.1).1).2.2 with|true=>exact⟨hs.1,hs.2.1,e0,λ_=>⟨hs.2.2.1,hs.2.2.2.2⟩⟩|false=>exact⟨z,rfl,⟨⟨ch,ch,ch,ch⟩,⟨ch,ch,ch⟩,⟨ch,ch,ch⟩,⟨⟨ch,ch,ch,ch,ch,ch,ch,ch,ch,ch,ch,ch,ch,ch,ch,bS _⟩,ch,ch⟩,ch,ch⟩,λ_=>⟨hq,rfl⟩⟩
def evS (k:Nat)(h:Host):Host:=
 match h.2.2.2.2.2.1[k]? with
 |some v=>(h.1,h.2.1,h.2.2.1,h.2.2.2.1,h.2.2.2.2.1,h.2.2.2.2.2.1.set k (evV v),h.2.2.2.2.2.2)
 |none=>h
def X2 (k:Nat):Nat->Host->Host
 |0,h=>h
 |i+1,h=>evS k (X2 k i h)
theorem acr (k:Nat)(h:Host):jZ (k+1) h (evS k h):=by unfold evS;cases h.2.2.2.2.2.1[k]? with|none=>exact jZ.refl _ _|some v=>exact⟨rfl,rfl,rfl,rfl,λ_ _=>rfl,rfl,aA ..,λj hj=>List.getElem?_set_ne (by omega),rfl,rfl,rfl⟩
theorem Kr (k:Nat)(h:Host):∀i,jZ (k+1) h (X2 k i h)
 |0=>jZ.refl _ _
 |i+1=>(Kr k h i).trans (acr k _)
theorem afZ (k:Nat)(z:cV n de h):cV n de (evS k h):=by unfold evS;cases h.2.2.2.2.2.1[k]? with|none=>exact z|some v=>exact⟨z.1,z.2.1,z.2.2.1,z.2.2.2.1,z.2.2.2.2.1,Ju z.2.2.2.2.2.1,z.2.2.2.2.2.2⟩
theorem X3 {n:Nat}(k:Nat){h:Host}(z:cV n de h):∀i,cV n de (X2 k i h)
 |0=>z
 |i+1=>afZ k (X3 k z i)
theorem VS (h:Host)(k:Nat)(b:Int)(h1:k<h.2.2.2.1.length)(h2:k<h.2.2.2.2.2.1.length)(hq:fC h.2.2.2.1[k].2.1=true)(hb:0<=b/\b<=31):ko h (k:Int) b=some ((),X2 k ((h.2.2.2.1[k].2.1.2.2-b)%(2*h.2.2.2.1[k].2.1.2.1)).toNat h):=by
 have hfu:=dT;have q:=uw hq;unfold ko;rw[bp h1,ab];generalize h.2.2.2.1[k]=x at q⊢;rw[ak (n:=x.2.1.2.2-b),ak (n:=2*x.2.1.2.1),Hg _ _,ab];have hm:0<=(x.2.1.2.2-b)%(2*x.2.1.2.1)/\(x.2.1.2.2-b)%(2*x.2.1.2.1)<32:=by have g1:=eI (x.2.1.2.2-b) (show 2*x.2.1.2.1≠0 by omega);have g2:=eK (x.2.1.2.2-b) (show 0<2*x.2.1.2.1 by omega);omega
 generalize (x.2.1.2.2-b)%(2*x.2.1.2.1)=c at hm⊢;obtain⟨c,rfl⟩:=aN hm.1;rw[ax];have e0:((c:Int),h)=(((c:Int)-((0:Nat):Int)),X2 k 0 h):=by simp[X2]
 rw[e0];refine da (λi=>((c:Int)-(i:Int),X2 k i h)) c (by omega) (λi nx hi=>?_) (λnx=>?_);have kk:=Kr k h i;have i1:k<(X2 k i h).2.2.2.2.2.1.length:=by rw[kk.vec];exact h2
 rw[show X2 k (i+1) h=evS k (X2 k i h) from rfl];generalize X2 k i h=s at i1⊢;simp only[o6,evS];rw[iV,ah,List.getElem?_eq_getElem i1];simp only[bp i1,ab,ZW,ax];rw[ak,show(c:Int)-(i:Int)-1=(c:Int)-((i+1:Nat):Int) by omega];simp only[o6];rw[gT,af]
def F6 (h:Host)(k:Nat)(f:bE×cj):Host:=(f.1,h.2.1,h.2.2.1,h.2.2.2.1.set k f.2,h.2.2.2.2)
def ER (h:Host)(k:Nat)(b:Int)(f:bE×cj):Host:=X2 k ((f.2.2.1.2.2-b)%(2*f.2.2.1.2.1)).toNat (F6 h k f)
def oJ (k:Nat)(h:Host):Host:=
 match h.2.2.2.1[k]? with
 |some x=>ER h k x.2.1.2.2 (iu h.2.1 h.1 0 x h.2.2.2.2.2.2.2.2.1.2.2.1)
 |none=>h
theorem CX (hf:f.1.length=h.1.length):jZ (k+1) h (ER h k b f):=by
 have a:jZ (k+1) h (F6 h k f):=⟨hf,rfl,rfl,aA ..,λj hj=>List.getElem?_set_ne (by omega),rfl,rfl,λ_ _=>rfl,rfl,rfl,rfl⟩
 exact a.trans (Kr k (F6 h k f) _)
theorem Mh (z:cV n de h)(h1:cV n (.sl .str) f.1)(h2:cV n ec f.2):cV n de (ER h k b f):=by
 have a:cV n de (F6 h k f):=⟨h1,z.2.1,z.2.2.1,lz z.2.2.2.1 h2,z.2.2.2.2⟩
 exact X3 k a _
theorem Sd {k:Bytes}:(iu l m d q k).1.length=m.length:=by
 have hs:(gX l m d q k (bt l m d q.1).1).1.length=m.length:=by
  unfold gX;cases !(cX (bt l m d q.1).1).2||(((cX (bt l m d q.1).1).1.1 !=3)||decide ((cX (bt l m d q.1).1).1.2.2.1<((dk q.2.2.2.1.1).1.length:Int)))with|true=>rfl|false=>?_
  cases (gR l m d (cX (bt l m d q.1).1).1.2.2.2.1 (dk q.2.2.2.1.1).1 true).2 with|false=>rfl|true=>?_
  have h2:=jy l m d (cX (bt l m d q.1).1).1.2.2.2.1 (dk q.2.2.2.1.1).1 true;simp only[af,aj];unfold zw;cases !fC q.2.1|| !xX ((cX (bt l m d q.1).1).1.2.2.2.2.2,((dk q.2.2.2.1.1).1.length:Int),q.2.2.2.1.2.1,q.2.2.2.1.2.2,yd k (tD (lJ q.2.2.2.1.1)))with|true=>exact h2|false=>?_
  cases (gR l (gR l m d (cX (bt l m d q.1).1).1.2.2.2.1 (dk q.2.2.2.1.1).1 true).1 d (re q.2.1) (PV ((cX (bt l m d q.1).1).1.2.2.2.2.2,((dk q.2.2.2.1.1).1.length:Int),q.2.2.2.1.2.1,q.2.2.2.1.2.2,yd k (tD (lJ q.2.2.2.1.1))) (yr q.2.1)) true).2 with|false=>exact h2|true=>exact(jy ..).trans h2
 unfold iu;cases !EV q||(!q.2.2.2.2.1||((k.length:Int) !=16))with|true=>rfl|false=>?_
 cases (bt l m d q.1).2.2&&(gX l m d q k (bt l m d q.1).1).2.2 with|true=>exact hs|false=>rfl
theorem wm (k:Nat)(h:Host):jZ (k+1) h (oJ k h):=by unfold oJ;cases h.2.2.2.1[k]? with|none=>exact jZ.refl _ _|some x=>exact CX Sd
theorem KC (k:Nat)(h:Host)(n:Nat)(hn:1000<=n)(z:cV n de h):cV (n+0) de (oJ k h):=by unfold oJ;cases hx:h.2.2.2.1[k]? with|none=>exact z|some x=>have hf:=Db (show 128<=n by omega) (l:=h.2.1) (d:=0) (k:=h.2.2.2.2.2.2.2.2.1.2.2.1) z.1 (z.2.2.2.1.2 _ (List.mem_of_getElem? hx));exact Mh z hf.1 hf.2.2.1
def uT (h:Host):Host:=bif dK h then kQ oJ h.2.2.2.1.length h else h
theorem ZN (hn:1000<=n)(k:yI n h):yI n (uT h):=by unfold uT;cases dK h with|false=>exact k|true=>refine⟨(Bk hn KC k.z _).mono,?_⟩;simp only[ah];rw[(nb wm h _).tx];exact k.t
theorem En (hb:dK h=true):∀i (hi:i<h.2.2.2.1.length),EV h.2.2.2.1[i]=true:=by simp only[dK,Uf,ae]at hb;exact λi hi=>aC.1 hb.2.2.2.2.2.2.1.1 _ (aL hi)
theorem IS (h1:k<h.2.2.2.1.length)(h2:k<h.2.2.2.2.2.1.length)(hq:fC f.2.2.1=true)(hb:0<=b/\b<=31:=by omega): ko (f.1,h.2.1,h.2.2.1,h.2.2.2.1.set k f.2,h.2.2.2.2) (k:Int) b=some ((),ER h k b f):=by
 have h3:k<(F6 h k f).2.2.2.1.length:=by show k<(h.2.2.2.1.set k f.2).length;rw[aA];exact h1
 have e:(F6 h k f).2.2.2.1[k]=f.2:=List.getElem_set_self _;have a:=VS (F6 h k f) k b h3 h2 (by rw[e];exact hq) hb;rw[e]at a;exact a
theorem VX (h:Host)(k:yI 900000000 h):tO h=some (uT h):=by
 have hfu:=dT;unfold tO uT;rw[iM h (k.z.mono),ab,tF h (k.sz (by omega)),ab];cases hb:dK h with|false=>rfl|true=>?_
 have hl:=qG (by simp only[dK,ae]at hb;exact hb.2.2.2.2.1:qY h=true);have hr:=En hb;simp only[aj,af,ah];refine da (λi=>((i:Int),kQ oJ i h)) h.2.2.2.1.length (by omega) (λi nx hi=>?_) (λnx=>?_);have kk:=nb wm h i;have zz:cV 900000000 de (kQ oJ i h):=(Bk (by omega) KC k.z i).mono;have i1:i<(kQ oJ i h).2.2.2.1.length:=by rw[kk.rx];exact hi
 have i2:i<(kQ oJ i h).2.2.2.2.2.1.length:=by rw[kk.vec];omega
 have e1:(kQ oJ i h).2.2.2.1[i]=h.2.2.2.1[i]:=by have:=kk.rxs i (ba _);rw[List.getElem?_eq_getElem i1,List.getElem?_eq_getElem hi]at this;exact bM this
 rw[show kQ oJ (i+1) h=oJ i (kQ oJ i h) from rfl];generalize kQ oJ i h=s at zz i1 i2 e1⊢;have z1:s.1.length<=900000000:=zz.1.1;have z2:s.2.1.length<=900000000:=zz.2.1.1;have hrx:=hr i hi;rw[<-e1]at hrx;have hqd:=uw (Aw hrx).1;have hf:=Db (show 128<=900000000 by omega) (l:=s.2.1) (d:=0) (k:=s.2.2.2.2.2.2.2.2.1.2.2.1) zz.1 (zz.2.2.2.1.2 _ (aL i1));have ev:=IS (h:=s) (k:=i) (b:=s.2.2.2.1[i].2.1.2.2) (f:=iu s.2.1 s.1 0 s.2.2.2.1[i] s.2.2.2.2.2.2.2.2.1.2.2.1) i1 i2 (hf.2.2.2 hrx).1;simp only[oW,oJ];rw[iV,ah,List.getElem?_eq_getElem i1];simp only[bp i1,bp hi,ab,GZ s.2.1 s.1 0 _ _ (show s.2.1.length<=1000000000 by omega) (show s.1.length<=1000000000 by omega),ax,<-e1,ev];rw[ak];rfl;simp only[oW];rw[gT,af]
def TW (a b:aG):Bool:=(a.1==b.1)&&((a.2.1==b.2.1)&&((a.2.2.1==b.2.2.1)&&((a.2.2.2.1==b.2.2.2.1)&&((a.2.2.2.2.2.1==b.2.2.2.2.2.1)&&((a.2.2.2.2.2.2.1==b.2.2.2.2.2.2.1)&&((a.2.2.2.2.2.2.2.1==b.2.2.2.2.2.2.2.1)&&((a.2.2.2.2.2.2.2.2.1==b.2.2.2.2.2.2.2.2.1)&&((a.2.2.2.2.2.2.2.2.2.1==b.2.2.2.2.2.2.2.2.2.1)&&((a.2.2.2.2.2.2.2.2.2.2.1==b.2.2.2.2.2.2.2.2.2.2.1)&&((a.2.2.2.2.2.2.2.2.2.2.2.2.1==b.2.2.2.2.2.2.2.2.2.2.2.2.1)&&((a.2.2.2.2.2.2.2.2.2.2.2.2.2.2.1==b.2.2.2.2.2.2.2.2.2.2.2.2.2.2.1))))))))))))
theorem acX (a b:aG):vF a b=some (TW a b):=by unfold vF TW;simp only[beq_self_eq_true,bj,fi]
def ama (s:qW)(p:aG):Bool:=(p.2.2.2.2.2.2.2.2.2.2.2.1==Int.tmod (aq (s.1.2.2.2.2.2.2.2.2.2.2.2.1+(s.1.2.2.2.2.2.2.2.2.2.2.2.2.2.2.2.length:Int))) 4294967296)&&(p.2.2.2.2.1==Int.tmod (aq (s.1.2.2.2.2.1+s.2.2)) 65536)
def YI (s:qW)(p:aG):Bool:=decide (1<=s.2.1)&&(cI s.2.2 1 320&&(decide ((s.1.2.2.2.2.2.2.2.2.2.2.2.2.2.2.2.length:Int)=s.2.1*s.2.2)&&(cI (p.2.2.2.2.2.2.2.2.2.2.2.2.2.2.2.length:Int) 1 s.2.1&&decide ((s.1.2.2.2.2.2.2.2.2.2.2.2.2.2.2.2.length:Int)+(p.2.2.2.2.2.2.2.2.2.2.2.2.2.2.2.length:Int)<=320))))
def acI (s:qW)(p:aG):Bool:=dh s.1&&(dU p&&(TW s.1 p&&((p.2.2.2.2.2.2.2.2.1==6)&&((s.1.2.2.2.2.2.2.2.2.2.2.2.2.2.1==16)&&AH p.2.2.2.2.2.2.2.2.2.2.2.2.2.1))))
def GK (s:qW)(p:aG):Bool:=acI s p&&(YI s p&&ama s p)
theorem F0 (h:dU p=true)(h6:(p.2.2.2.2.2.2.2.2.1==6)=true):cI p.2.2.2.2.2.2.2.2.2.2.2.2.2.1 0 31=true:=by simp only[dU,dh,ae]at h;exact Dp (yg h.1.1) h6
theorem EG (h:dU p=true):p.2.2.2.2.2.2.2.2.2.2.2.2.2.2.2.length<=128:=by simp only[dU,ae,aE]at h;omega
theorem Yc (s:qW)(p:aG):tI s p=some (GK s p):=by
 unfold tI GK acI;rw[kT,ab,uW,ab,acX,ab];cases hs:dh s.1 with|false=>rfl|true=>?_
 cases hp:dU p with|false=>rfl|true=>?_
 cases TW s.1 p with|false=>rfl|true=>?_
 cases h6:p.2.2.2.2.2.2.2.2.1==6 with|false=>simp only[bne,h6];rfl|true=>?_
 cases h16:s.1.2.2.2.2.2.2.2.2.2.2.2.2.2.1==16 with|false=>simp only[bne,h6,h16];rfl|true=>?_
 have hf:=F0 hp h6;have hsl:=Bo hs;have hpl:=EG hp;simp only[bne,h6,h16,aj,af,ab,Kw _ hf,bj];cases AH p.2.2.2.2.2.2.2.2.2.2.2.2.2.1 with|false=>rfl|true=>?_
 simp only[aj,af,bZ,ab,bj];rw[aD (show¬(4294967296:Nat)=0 by omega),aD (show¬(65536:Nat)=0 by omega)];simp only[bD,cF];rw[show((p.2.2.2.2.2.2.2.2.2.2.2.1==Int.tmod (aq (s.1.2.2.2.2.2.2.2.2.2.2.2.1+(s.1.2.2.2.2.2.2.2.2.2.2.2.2.2.2.2.length:Int))) 4294967296)&&(p.2.2.2.2.1==Int.tmod (aq (s.1.2.2.2.2.1+s.2.2)) 65536))=ama s p from rfl];unfold YI;generalize ama s p=q;generalize s.1.2.2.2.2.2.2.2.2.2.2.2.2.2.2.2.length=n at hsl⊢;generalize p.2.2.2.2.2.2.2.2.2.2.2.2.2.2.2.length=m at hpl⊢;rw[ak (n:=(n:Int)+(m:Int))];by_cases h1:s.2.1<1;rw[ar h1,al (show¬1<=s.2.1 by omega)];rfl;rw[al h1,ar (show 1<=s.2.1 by omega)];cases h2:cI s.2.2 1 320 with|false=>rfl|true=>?_
 have h2':=aS.1 h2;simp only[aj,af,ab,bj];rw[mi,mi];have e1:Int.tmod (n:Int) s.2.2=(n:Int)%s.2.2:=df (by omega);have e2:Int.tdiv (n:Int) s.2.2=(n:Int)/s.2.2:=Int.tdiv_eq_ediv_of_nonneg (by omega);have hdm:=Int.emod_add_mul_ediv (n:Int) s.2.2;have hq0:0<=(n:Int)/s.2.2:=Int.ediv_nonneg (by omega) (by omega);have hq1:(n:Int)/s.2.2<=(n:Int):=Int.ediv_le_self _ (by omega);rw[e1,e2,ak (n:=(n:Int)/s.2.2)];by_cases h3:(n:Int)=s.2.1*s.2.2;have h4:(n:Int)%s.2.2=0:=by rw[h3];exact Int.mul_emod_left ..
 have h5:(n:Int)/s.2.2=s.2.1:=by rw[h3];exact Int.mul_ediv_cancel _ (by omega)
 rw[h4,h5,ar h3];simp only[beq_self_eq_true,aj,af,ab,bj];cases cI (m:Int) 1 s.2.1 with|false=>rfl|true=>?_
 cases decide ((n:Int)+(m:Int)<=320)<;>rfl;rw[al h3];cases h4:(n:Int)%s.2.2==0 with
 |false=>rfl
 |true=>
  have h4':(n:Int)%s.2.2=0:=by simpa using h4
  have h5:((n:Int)/s.2.2==s.2.1)=false:=by rw[bP];intro h5;rw[h4',h5]at hdm;exact h3 (by rw[Int.mul_comm];omega)
  simp only[aj,af,h5,br,ab,ah];rfl
def DQ (s:qW)(p:aG):qW:=bif GK s p then((s.1.1,s.1.2.1,s.1.2.2.1,s.1.2.2.2.1,s.1.2.2.2.2.1,s.1.2.2.2.2.2.1,s.1.2.2.2.2.2.2.1,s.1.2.2.2.2.2.2.2.1,s.1.2.2.2.2.2.2.2.2.1,s.1.2.2.2.2.2.2.2.2.2.1,s.1.2.2.2.2.2.2.2.2.2.2.1,s.1.2.2.2.2.2.2.2.2.2.2.2.1,s.1.2.2.2.2.2.2.2.2.2.2.2.2.1,p.2.2.2.2.2.2.2.2.2.2.2.2.2.1,s.1.2.2.2.2.2.2.2.2.2.2.2.2.2.2.1,s.1.2.2.2.2.2.2.2.2.2.2.2.2.2.2.2++p.2.2.2.2.2.2.2.2.2.2.2.2.2.2.2),s.2.1,aq (s.2.2+1)) else s
theorem OQ {s:qW}(h:GK s p=true):s.1.2.2.2.2.2.2.2.2.2.2.2.2.2.2.2.length+p.2.2.2.2.2.2.2.2.2.2.2.2.2.2.2.length<=320:=by simp only[GK,YI,ae,aE]at h;have:=h.2.1.2.2.2.2;omega
theorem acU (s:qW)(p:aG):Dh s p=some (DQ s p):=by
 unfold Dh DQ;rw[Yc,ab];cases h:GK s p with|false=>rfl|true=>?_
 have:=OQ h;simp only[aj,af,ah];rw[aM]
def lR (p:aG):qW:=(p,(p.2.2.2.2.2.2.2.2.2.2.2.2.2.2.2.length:Int),1)
theorem V7 (p:aG):Cr p=some (lR p):=rfl
def KN (q:cj)(s:qW):cj:=(q.1,q.2.1,q.2.2.1,s,true,q.2.2.2.2.2)
def k7 (l:au aB)(m:bE)(d:Int)(q:cj)(k:Bytes)(p:aG)(c:Bool):bE×cj:=
 bif !EV q||(!dU p||((k.length:Int) !=16)) then(m,q) else
 bif c&&(q.2.2.2.2.1&&GK q.2.2.2.1 p) then(m,q.1,q.2.1,q.2.2.1,DQ q.2.2.2.1 p,q.2.2.2.2) else
 bif c then((iu l m d q k).1,KN (iu l m d q k).2 (lR p)) else iu l (iu l m d q k).1 d (KN (iu l m d q k).2 (lR p)) k
theorem VT (l:au aB)(m:bE)(d:Int)(q:cj)(k:Bytes)(p:aG)(c:Bool)(hl:l.length<=1000000000)(hm:m.length<=1000000000):nC l m d q k p c=some (k7 l m d q k p c):=by
 unfold nC k7 KN;simp only[Qk,uW,ab,fL m (show m.length<=1073741824 by omega),Yc,acU,GZ l m d q k hl hm,V7,GZ l (iu l m d q k).1 d _ k hl (show(iu l m d q k).1.length<=1000000000 by rw[Sd];exact hm)];cases EV q with|false=>rfl|true=>?_
 cases dU p with|false=>rfl|true=>?_
 cases (k.length:Int) !=16 with|true=>rfl|false=>?_
 cases c with|false=>rfl|true=>?_
 cases q.2.2.2.2.1 with|false=>rfl|true=>?_
 cases GK q.2.2.2.1 p<;>rfl
theorem Se {k:Bytes}(h:fC q.2.1=true):fC (iu l m d q k).2.2.1=true:=by
 unfold iu;cases !EV q||(!q.2.2.2.2.1||((k.length:Int) !=16))with|true=>exact h|false=>?_
 have hs:fC (gX l m d q k (bt l m d q.1).1).2.1=true:=by
  unfold gX;cases !(cX (bt l m d q.1).1).2||(((cX (bt l m d q.1).1).1.1 !=3)||decide ((cX (bt l m d q.1).1).1.2.2.1<((dk q.2.2.2.1.1).1.length:Int)))with|true=>exact h|false=>?_
  cases (gR l m d (cX (bt l m d q.1).1).1.2.2.2.1 (dk q.2.2.2.1.1).1 true).2 with|false=>exact h|true=>?_
  exact(Yx h).1
 cases (bt l m d q.1).2.2&&(gX l m d q k (bt l m d q.1).1).2.2 with|true=>exact hs|false=>exact h
theorem ZS {s:qW}(h:s.1.2.2.2.2.2.2.2.2.2.2.2.2.2.2.2.length<=n):cV n ec (KN q s):=⟨⟨ch,ch,ch,ch⟩,⟨ch,ch,ch⟩,⟨ch,ch,ch⟩,⟨⟨ch,ch,ch,ch,ch,ch,ch,ch,ch,ch,ch,ch,ch,ch,ch,h⟩,ch,ch⟩,ch,ch⟩
theorem JD (hn:1000<=n){k:Bytes}{c:Bool}(z:cV n (.sl .str) m)(zq:cV n ec q)(hq:fC q.2.1=true): cV n (.sl .str) (k7 l m d q k p c).1/\(k7 l m d q k p c).1.length=m.length/\cV n ec (k7 l m d q k p c).2/\fC (k7 l m d q k p c).2.2.1=true:=by
 unfold k7;cases hc: !EV q||(!dU p||((k.length:Int) !=16))with|true=>exact⟨z,rfl,zq,hq⟩|false=>?_
 simp only[cc,dB]at hc;have hp:=EG hc.2.1;cases hj:c&&(q.2.2.2.2.1&&GK q.2.2.2.1 p)with|true=>simp only[ae]at hj;have:=OQ hj.2.2;refine⟨z,rfl,⟨⟨ch,ch,ch,ch⟩,⟨ch,ch,ch⟩,⟨ch,ch,ch⟩,⟨?_,ch,ch⟩,ch,ch⟩,hq⟩;refine⟨ch,ch,ch,ch,ch,ch,ch,ch,ch,ch,ch,ch,ch,ch,ch,?_⟩;unfold DQ;rw[hj.2.2];show List.length (q.2.2.2.1.1.2.2.2.2.2.2.2.2.2.2.2.2.2.2.2++p.2.2.2.2.2.2.2.2.2.2.2.2.2.2.2)<=n;rw[ai];omega|false=>have hf:=Db (show 128<=n by omega) (l:=l) (d:=d) (k:=k) z zq;have hfq:=Se (l:=l) (m:=m) (d:=d) (k:=k) hq;have hh:cV n ec (KN (iu l m d q k).2 (lR p)):=ZS (by show p.2.2.2.2.2.2.2.2.2.2.2.2.2.2.2.length<=n;omega);cases c with|true=>exact⟨hf.1,hf.2.1,hh,hfq⟩|false=>have hf2:=Db (show 128<=n by omega) (l:=l) (d:=d) (k:=k) hf.1 hh;exact⟨hf2.1,hf2.2.1.trans hf.2.1,hf2.2.2.1,Se (q:=KN (iu l m d q k).2 (lR p)) hfq⟩
theorem Uh {r:lI}(h:zx r=true):0<=r.2.2.2.2.2.2.2.2:=by
 by_cases h0:0<=r.2.2.2.2.2.2.2.2;exact h0;exfalso;have e:∀b:Int,cI r.2.2.2.2.2.2.2.2 0 b=false:=λb=>by rw[Bool.eq_false_iff];intro hc;have:=aS.1 hc;omega
 have e1:(r.2.2.2.2.2.2.2.2==0)=false:=by rw[bP];omega
 revert h;unfold zx;have z:∀c:Bool,(bif c then false else false)=false:=by intro c;cases c<;>rfl
 simp only[lG,dy,ab,bD,e,e1,ff,z,af];intro h;cases h
theorem abA {s:dp}{q:Int}:rm s q p= -1\/∃n:Nat,rm s q p=(n:Int)/\(n:Int)<q:=by
 unfold rm;cases hb: !ew s q|| !dh p with|true=>exact .inl rfl|false=>?_
 simp only[cc,dB]at hb;have hs:=hb.1;simp only[ew,ae]at hs;simp only[af];cases hd:decide (DA s.1 p>=0)with
 |true=>obtain⟨n,hn,hl⟩:=R4 s.1 p (bn hd);simp only[ah,hn,ax,cr hl];cases s.1[n].2.2.2.2.2.2.2.1==1 with|true=>exact .inl rfl|false=>have h1:=aC.1 hs.1.2 _ (aL hl);have h2:=hs.1.1.1.1;simp only[wV,ae]at h2;have h3:=Uh (aC.1 h2.1 _ (aL hl));simp only[aH,cJ]at h1;exact .inr ⟨s.1[n].2.2.2.2.2.2.2.2.toNat,by simp only[af];omega,by omega⟩
 |false=>
  simp only[af];cases hd2:decide (findF s.2.1 (lJ p)>=0)with
  |true=>obtain⟨n,hn,hl⟩:=R3 s.2.1 (lJ p) (bn hd2);simp only[ah,hn,ax,cr hl];have h1:=aC.1 hs.2 _ (aL hl);have h2:=hs.1.1.1.2;simp only[rn,ae,bh]at h2;have h3:=aC.1 h2.2 n (bz.2 (by omega));unfold mP Ob at h3;rw[vd hl]at h3;simp only[ae,aS]at h3;simp only[aH,cJ]at h1;exact .inr ⟨s.2.1[n].2.2.toNat,by omega,by omega⟩
  |false=>
   simp only[af];unfold Jr;cases hc: !qT s.2.2 q||decide (AF s.2.2 (lJ p)<0)with|true=>exact .inl rfl|false=>?_
   simp only[cc,dB,cJ]at hc;obtain⟨n,hn,hl⟩:=Na s.2.2 (lJ p) hc.2;have h1:=hc.1;simp only[qT,ae]at h1;have h2:=aS.1 (aC.1 h1.2 _ (aL hl));simp only[af,hn,ax,cr hl];exact .inr ⟨s.2.2.2[n].toNat,by omega,by omega⟩
def zK (h:Host)(a b c d:Int):Host:=(h.1,h.2.1,h.2.2.1,h.2.2.2.1,h.2.2.2.2.1,h.2.2.2.2.2.1,h.2.2.2.2.2.2.1,h.2.2.2.2.2.2.2.1,h.2.2.2.2.2.2.2.2.1,h.2.2.2.2.2.2.2.2.2.1,h.2.2.2.2.2.2.2.2.2.2.1,h.2.2.2.2.2.2.2.2.2.2.2.1,h.2.2.2.2.2.2.2.2.2.2.2.2.1,h.2.2.2.2.2.2.2.2.2.2.2.2.2.1,aq (h.2.2.2.2.2.2.2.2.2.2.2.2.2.2.1+1),a,b,c,d)
def ky (h:Host)(x:Bytes):Host:=
 bif !dK h then h else
 bif (fF x).2 !=0 then zK h (aq (h.2.2.2.2.2.2.2.2.2.2.2.2.2.2.2.1+1)) h.2.2.2.2.2.2.2.2.2.2.2.2.2.2.2.2.1 h.2.2.2.2.2.2.2.2.2.2.2.2.2.2.2.2.2.1 h.2.2.2.2.2.2.2.2.2.2.2.2.2.2.2.2.2.2 else
 bif !wh h.2.2.2.2.2.2.2.1 (fF x).1 then zK h h.2.2.2.2.2.2.2.2.2.2.2.2.2.2.2.1 (aq (h.2.2.2.2.2.2.2.2.2.2.2.2.2.2.2.2.1+1)) h.2.2.2.2.2.2.2.2.2.2.2.2.2.2.2.2.2.1 h.2.2.2.2.2.2.2.2.2.2.2.2.2.2.2.2.2.2 else
 bif rm h.2.2.2.2.2.2.2.2.1 (h.2.2.2.1.length:Int) (fF x).1== -1 then zK h h.2.2.2.2.2.2.2.2.2.2.2.2.2.2.2.1 h.2.2.2.2.2.2.2.2.2.2.2.2.2.2.2.2.1 (aq (h.2.2.2.2.2.2.2.2.2.2.2.2.2.2.2.2.2.1+1)) h.2.2.2.2.2.2.2.2.2.2.2.2.2.2.2.2.2.2 else
 match h.2.2.2.1[(rm h.2.2.2.2.2.2.2.2.1 (h.2.2.2.1.length:Int) (fF x).1).toNat]? with
 |some q=>ER (zK h h.2.2.2.2.2.2.2.2.2.2.2.2.2.2.2.1 h.2.2.2.2.2.2.2.2.2.2.2.2.2.2.2.2.1 h.2.2.2.2.2.2.2.2.2.2.2.2.2.2.2.2.2.1 (aq (h.2.2.2.2.2.2.2.2.2.2.2.2.2.2.2.2.2.2+1))) (rm h.2.2.2.2.2.2.2.2.1 (h.2.2.2.1.length:Int) (fF x).1).toNat q.2.1.2.2 (k7 h.2.1 h.1 0 q h.2.2.2.2.2.2.2.2.1.2.2.1 (fF x).1 h.2.2.2.2.2.2.2.2.2.2.1)
 |none=>h
theorem FA (h:Host)(x:Bytes)(k:yI 900000000 h)(hx:x.length<=1000000000):mA h x=some (ky h x):=by
 have z:=k.z;have z1:h.1.length<=900000000:=z.1.1;have z2:h.2.1.length<=900000000:=z.2.1.1;have zf:h.2.2.2.2.2.2.2.1.2.2.length<=900000000:=z.2.2.2.2.2.2.2.1.2.2.1;have s1:h.2.2.2.2.2.2.2.2.1.1.length<=900000000:=z.2.2.2.2.2.2.2.2.1.1.1;have s2:h.2.2.2.2.2.2.2.2.1.2.1.length<=900000000:=z.2.2.2.2.2.2.2.2.1.2.1.1;have s3:h.2.2.2.2.2.2.2.2.1.2.2.2.length<=900000000:=z.2.2.2.2.2.2.2.2.1.2.2.2.1;unfold mA ky;rw[iM h (z.mono),ab,tF h (k.sz (by omega)),ab];cases hb:dK h with|false=>rfl|true=>?_
 have hl:=qG (by simp only[dK,ae]at hb;exact hb.2.2.2.2.1:qY h=true);have hr:=En hb;simp only[aj,af,G1 x hx,ab,Sz h.2.2.2.2.2.2.2.1 _ (show h.2.2.2.2.2.2.2.1.2.2.length<=1000000000 by omega),aaf h.2.2.2.2.2.2.2.2.1 _ _ (show h.2.2.2.2.2.2.2.2.1.1.length<=1000000000 by omega) (show h.2.2.2.2.2.2.2.2.1.2.1.length<=1000000000 by omega) (show h.2.2.2.2.2.2.2.2.1.2.2.2.length<=1000000000 by omega)];generalize fF x=f;cases f.2 !=0 with|true=>rfl|false=>?_
 cases wh h.2.2.2.2.2.2.2.1 f.1 with|false=>rfl|true=>?_
 simp only[aj,af];have hst:=abA (s:=h.2.2.2.2.2.2.2.2.1) (q:=(h.2.2.2.1.length:Int)) (p:=f.1);generalize rm h.2.2.2.2.2.2.2.2.1 (h.2.2.2.1.length:Int) f.1=r at hst⊢;rcases hst with rfl|⟨n,rfl,hn⟩;rfl;have i1:n<h.2.2.2.1.length:=by omega
 have i2:n<h.2.2.2.2.2.1.length:=by omega
 have hq:=(Aw (hr n i1)).1;have hqi:=uw hq;have ha:=JD (show 1000<=900000000 by omega) (l:=h.2.1) (d:=0) (k:=h.2.2.2.2.2.2.2.2.1.2.2.1) (p:=f.1) (c:=h.2.2.2.2.2.2.2.2.2.2.1) z.1 (z.2.2.2.1.2 _ (aL i1)) hq;have ev:=IS (h:=zK h h.2.2.2.2.2.2.2.2.2.2.2.2.2.2.2.1 h.2.2.2.2.2.2.2.2.2.2.2.2.2.2.2.2.1 h.2.2.2.2.2.2.2.2.2.2.2.2.2.2.2.2.2.1 (aq (h.2.2.2.2.2.2.2.2.2.2.2.2.2.2.2.2.2.2+1))) (k:=n) (b:=h.2.2.2.1[n].2.1.2.2) (f:=k7 h.2.1 h.1 0 h.2.2.2.1[n] h.2.2.2.2.2.2.2.2.1.2.2.1 f.1 h.2.2.2.2.2.2.2.2.2.2.1) i1 i2 ha.2.2.2;rw[show((n:Int)== -1)=false from by rw[bP];omega,ax,List.getElem?_eq_getElem i1];simp only[af,bp i1,ab,VT h.2.1 h.1 0 _ _ _ _ (show h.2.1.length<=1000000000 by omega) (show h.1.length<=1000000000 by omega)];rw[show(ko ((k7 h.2.1 h.1 0 h.2.2.2.1[n] h.2.2.2.2.2.2.2.2.1.2.2.1 f.1 h.2.2.2.2.2.2.2.2.2.2.1).1,h.2.1,h.2.2.1,h.2.2.2.1.set n (k7 h.2.1 h.1 0 h.2.2.2.1[n] h.2.2.2.2.2.2.2.2.1.2.2.1 f.1 h.2.2.2.2.2.2.2.2.2.2.1).2,h.2.2.2.2.1,h.2.2.2.2.2.1,h.2.2.2.2.2.2.1,h.2.2.2.2.2.2.2.1,h.2.2.2.2.2.2.2.2.1,h.2.2.2.2.2.2.2.2.2.1,h.2.2.2.2.2.2.2.2.2.2.1,h.2.2.2.2.2.2.2.2.2.2.2.1,h.2.2.2.2.2.2.2.2.2.2.2.2.1,h.2.2.2.2.2.2.2.2.2.2.2.2.2.1,aq (h.2.2.2.2.2.2.2.2.2.2.2.2.2.2.1+1),h.2.2.2.2.2.2.2.2.2.2.2.2.2.2.2.1,h.2.2.2.2.2.2.2.2.2.2.2.2.2.2.2.2.1,h.2.2.2.2.2.2.2.2.2.2.2.2.2.2.2.2.2.1,aq (h.2.2.2.2.2.2.2.2.2.2.2.2.2.2.2.2.2.2+1)) (n:Int) h.2.2.2.1[n].2.1.2.2)=_ from ev,ab]
theorem CD (hn:1000<=n)(x:Bytes)(k:yI n h):yI n (ky h x)/\(ky h x).2.2.1=h.2.2.1/\(ky h x).2.2.2.2.1.length=h.2.2.2.2.1.length:=by
 have z:=k.z;have zc:∀a b c d,yI n (zK h a b c d):=λa b c d=>⟨⟨z.1,z.2.1,z.2.2.1,z.2.2.2.1,z.2.2.2.2.1,z.2.2.2.2.2.1,z.2.2.2.2.2.2.1,z.2.2.2.2.2.2.2.1,z.2.2.2.2.2.2.2.2.1,z.2.2.2.2.2.2.2.2.2.1,z.2.2.2.2.2.2.2.2.2.2.1,z.2.2.2.2.2.2.2.2.2.2.2.1,z.2.2.2.2.2.2.2.2.2.2.2.2.1,z.2.2.2.2.2.2.2.2.2.2.2.2.2.1,ch,ch,ch,ch,ch⟩,k.t⟩
 unfold ky;cases hb:dK h with|false=>exact⟨k,rfl,rfl⟩|true=>?_
 have hr:=En hb;generalize fF x=f;cases f.2 !=0 with|true=>exact⟨zc ..,rfl,rfl⟩|false=>?_
 cases wh h.2.2.2.2.2.2.2.1 f.1 with|false=>exact⟨zc ..,rfl,rfl⟩|true=>?_
 simp only[aj,af];generalize rm h.2.2.2.2.2.2.2.2.1 (h.2.2.2.1.length:Int) f.1=r;cases r== -1 with|true=>exact⟨zc ..,rfl,rfl⟩|false=>?_
 simp only[af];cases hq:h.2.2.2.1[r.toNat]? with|none=>exact⟨k,rfl,rfl⟩|some q=>?_
 obtain⟨hi,hqe⟩:=List.getElem?_eq_some_iff.1 hq;have hqd:=(Aw (hr _ hi)).1;rw[hqe]at hqd;have ha:=JD hn (l:=h.2.1) (d:=0) (k:=h.2.2.2.2.2.2.2.2.1.2.2.1) (p:=f.1) (c:=h.2.2.2.2.2.2.2.2.2.2.1) z.1 (z.2.2.2.1.2 _ (List.mem_of_getElem? hq)) hqd;have zc':=zc h.2.2.2.2.2.2.2.2.2.2.2.2.2.2.2.1 h.2.2.2.2.2.2.2.2.2.2.2.2.2.2.2.2.1 h.2.2.2.2.2.2.2.2.2.2.2.2.2.2.2.2.2.1 (aq (h.2.2.2.2.2.2.2.2.2.2.2.2.2.2.2.2.2.2+1));have kk:=CX (h:=zK h h.2.2.2.2.2.2.2.2.2.2.2.2.2.2.2.1 h.2.2.2.2.2.2.2.2.2.2.2.2.2.2.2.2.1 h.2.2.2.2.2.2.2.2.2.2.2.2.2.2.2.2.2.1 (aq (h.2.2.2.2.2.2.2.2.2.2.2.2.2.2.2.2.2.2+1))) (k:=r.toNat) (b:=q.2.1.2.2) (f:=k7 h.2.1 h.1 0 q h.2.2.2.2.2.2.2.2.1.2.2.1 f.1 h.2.2.2.2.2.2.2.2.2.2.1) ha.2.1;exact⟨⟨Mh zc'.z ha.1 ha.2.2.1,by rw[kk.tx];exact k.t⟩,kk.tx,kk.pl⟩
theorem Yu (l:au aB)(m:bE)(d:Int)(rx:cj)(pl:c8)(st:au Stream)(c:Int):(jj l m d rx pl st c).1.length=m.length:=by unfold jj;cases !EV rx||(!dA pl|| !cI c 0 1000)with|true=>rfl|false=>exact X6 ..
def Bf (b:Int)(k:Nat)(s:Int×Host):Int×Host:=
 match s.2.2.2.2.2.2.1[k]?,s.2.2.2.2.2.2.2.1[k]?,s.2.2.2.2.1[k]?,s.2.2.2.2.2.1[k]? with
 |some v,some p,some x,some pl=>
  bif p||(BP v).2 then
   (aq (s.1+(jj s.2.2.1 s.2.1 0 x pl s.2.2.2.2.2.2.2.2.2.2.1 b).2.2.2.2),
    (jj s.2.2.1 s.2.1 0 x pl s.2.2.2.2.2.2.2.2.2.2.1 b).1,s.2.2.1,s.2.2.2.1,s.2.2.2.2.1.set k (jj s.2.2.1 s.2.1 0 x pl s.2.2.2.2.2.2.2.2.2.2.1 b).2.1,s.2.2.2.2.2.1.set k (jj s.2.2.1 s.2.1 0 x pl s.2.2.2.2.2.2.2.2.2.2.1 b).2.2.1,
    s.2.2.2.2.2.2.1.set k (bif decide ((jj s.2.2.1 s.2.1 0 x pl s.2.2.2.2.2.2.2.2.2.2.1 b).2.2.2.2<b) then Gw (BP v).1 else(BP v).1),
    s.2.2.2.2.2.2.2.1.set k (!decide ((jj s.2.2.1 s.2.1 0 x pl s.2.2.2.2.2.2.2.2.2.2.1 b).2.2.2.2<b)),s.2.2.2.2.2.2.2.2.1,s.2.2.2.2.2.2.2.2.2.1,(jj s.2.2.1 s.2.1 0 x pl s.2.2.2.2.2.2.2.2.2.2.1 b).2.2.2.1,s.2.2.2.2.2.2.2.2.2.2.2)
  else(s.1,s.2.1,s.2.2.1,s.2.2.2.1,s.2.2.2.2.1,s.2.2.2.2.2.1,s.2.2.2.2.2.2.1.set k (BP v).1,s.2.2.2.2.2.2.2.1.set k false,s.2.2.2.2.2.2.2.2)
 |_,_,_,_=>s
theorem Un (b:Int)(k:Nat)(s:Int×Host):jZ (k+1) s.2 (Bf b k s).2:=by
 unfold Bf;cases s.2.2.2.2.2.2.1[k]? with|none=>exact jZ.refl _ _|some v=>?_
 cases s.2.2.2.2.2.2.2.1[k]? with|none=>exact jZ.refl _ _|some p=>?_
 cases s.2.2.2.2.1[k]? with|none=>exact jZ.refl _ _|some x=>?_
 cases s.2.2.2.2.2.1[k]? with|none=>exact jZ.refl _ _|some pl=>?_
 simp only;cases p||(BP v).2 with|true=>exact⟨Yu ..,rfl,rfl,aA ..,λj hj=>List.getElem?_set_ne (by omega),aA ..,aA ..,λj hj=>List.getElem?_set_ne (by omega),aA ..,rfl,rfl⟩|false=>exact⟨rfl,rfl,rfl,rfl,λ_ _=>rfl,rfl,aA ..,λj hj=>List.getElem?_set_ne (by omega),aA ..,rfl,rfl⟩
theorem W8 (b:Int)(k:Nat)(s:Int×Host)(hn:1000<=n)(z:cV n de s.2):cV (n+322000) de (Bf b k s).2:=by
 have z':cV (n+322000) de s.2:=z.mono;unfold Bf;cases s.2.2.2.2.2.2.1[k]? with|none=>exact z'|some v=>?_
 cases s.2.2.2.2.2.2.2.1[k]? with|none=>exact z'|some p=>?_
 cases h1:s.2.2.2.2.1[k]? with|none=>exact z'|some x=>?_
 cases h2:s.2.2.2.2.2.1[k]? with|none=>exact z'|some pl=>?_
 simp only;cases p||(BP v).2 with|true=>have hp:=N3 (by omega) (l:=s.2.2.1) (d:=0) b z.1 (z.2.2.2.1.2 _ (List.mem_of_getElem? h1)) (z.2.2.2.2.1.2 _ (List.mem_of_getElem? h2)) z.2.2.2.2.2.2.2.2.2.1;exact⟨hp.1.mono,z'.2.1,z'.2.2.1,lz z'.2.2.2.1 (hp.2.1.mono),lz z'.2.2.2.2.1 hp.2.2.1,Ju z'.2.2.2.2.2.1,lz z'.2.2.2.2.2.2.1 trivial,z'.2.2.2.2.2.2.2.1,z'.2.2.2.2.2.2.2.2.1,hp.2.2.2.1,z'.2.2.2.2.2.2.2.2.2.2⟩|false=>exact⟨z'.1,z'.2.1,z'.2.2.1,z'.2.2.2.1,z'.2.2.2.2.1,Ju z'.2.2.2.2.2.1,lz z'.2.2.2.2.2.2.1 trivial,z'.2.2.2.2.2.2.2⟩
def rl (b:Int):Nat->Host->Int×Host
 |0,h=>(0,h)
 |k+1,h=>Bf b k (rl b k h)
theorem xR (b:Int)(h:Host):∀k,jZ k h (rl b k h).2
 |0=>jZ.refl 0 h
 |k+1=>((xR b h k).up (by omega)).trans (Un b k _)
theorem EH (b:Int){n:Nat}(hn:1000<=n){h:Host}(z:cV n de h):∀k,cV (n+322000*k) de (rl b k h).2
 |0=>z
 |k+1=>(W8 b k _ (by omega) (EH b hn z k)).mono
def mO (h:Host)(b:Int):Host×Int:=bif dK h&&cI b 1 1000 then((rl b h.2.2.2.1.length h).2,(rl b h.2.2.2.1.length h).1) else(h,0)
theorem Uo (hn:1000<=n)(b:Int)(k:yI n h):yI (n+644000) (mO h b).1:=by unfold mO;cases hb:dK h&&cI b 1 1000 with|false=>exact k.mono|true=>simp only[ae]at hb;have hl:=qG (by have:=hb.1;simp only[dK,ae]at this;exact this.2.2.2.2.1:qY h=true);refine⟨(EH b hn k.z _).mono,?_⟩;simp only[ah];rw[(xR b h _).tx];exact bm k.t (by omega)
theorem SQ (h:Host)(b:Int)(k:yI 400000000 h):qm h b=some (mO h b):=by
 have hfu:=dT;unfold qm mO;rw[iM h (k.z.mono),ab,tF h (k.sz (by omega)),ab,bZ];cases hb:dK h with|false=>rfl|true=>?_
 cases hi0:cI b 1 1000 with|false=>rfl|true=>?_
 have hl:=qG (by simp only[dK,ae]at hb;exact hb.2.2.2.2.1:qY h=true);simp only[aj,af,ab,cq,ah];refine da (λi=>((rl b i h).1,(i:Int),(rl b i h).2)) h.2.2.2.1.length (by omega) (λi nx hi=>?_) (λnx=>?_);have kk:=xR b h i;have zz:cV 500000000 de (rl b i h).2:=(EH b (by omega) k.z i).mono;have i1:i<(rl b i h).2.2.2.2.1.length:=by rw[kk.rx];exact hi
 have i2:i<(rl b i h).2.2.2.2.2.1.length:=by rw[kk.pl];omega
 have i3:i<(rl b i h).2.2.2.2.2.2.1.length:=by rw[kk.vec];omega
 have i4:i<(rl b i h).2.2.2.2.2.2.2.1.length:=by rw[kk.pol];omega
 rw[show rl b (i+1) h=Bf b i (rl b i h) from rfl];generalize rl b i h=s at zz i1 i2 i3 i4⊢;have gp:∀(V:au Vector)(P:au Bool),jM (s.2.1,s.2.2.1,s.2.2.2.1,s.2.2.2.2.1,s.2.2.2.2.2.1,V,P,s.2.2.2.2.2.2.2.2) (i:Int) b=some ((jj s.2.2.1 s.2.1 0 s.2.2.2.2.1[i] s.2.2.2.2.2.1[i] s.2.2.2.2.2.2.2.2.2.2.1 b).2.2.2.2,(jj s.2.2.1 s.2.1 0 s.2.2.2.2.1[i] s.2.2.2.2.2.1[i] s.2.2.2.2.2.2.2.2.2.2.1 b).1,s.2.2.1,s.2.2.2.1,s.2.2.2.2.1.set i (jj s.2.2.1 s.2.1 0 s.2.2.2.2.1[i] s.2.2.2.2.2.1[i] s.2.2.2.2.2.2.2.2.2.2.1 b).2.1,s.2.2.2.2.2.1.set i (jj s.2.2.1 s.2.1 0 s.2.2.2.2.1[i] s.2.2.2.2.2.1[i] s.2.2.2.2.2.2.2.2.2.2.1 b).2.2.1,V,P,s.2.2.2.2.2.2.2.2.1,s.2.2.2.2.2.2.2.2.2.1,(jj s.2.2.1 s.2.1 0 s.2.2.2.2.1[i] s.2.2.2.2.2.1[i] s.2.2.2.2.2.2.2.2.2.2.1 b).2.2.2.1,s.2.2.2.2.2.2.2.2.2.2.2):=by intro V P;have hpl:s.2.2.2.2.2.1[i].2.2.2.length<=500000000:=(zz.2.2.2.2.1.2 _ (aL i2)).2.2.2.1;have hm:s.2.1.length<=500000000:=zz.1.1;have hp:s.2.2.1.length<=500000000:=zz.2.1.1;unfold jM;simp only[bp i1,bp i2,ab,SN s.2.2.1 s.2.1 0 _ _ _ b (show s.2.2.1.length<=1000000000 by omega) (show s.2.1.length<=1000000000 by omega) hpl zz.2.2.2.2.2.2.2.2.2.1,ax]
 have hset:∀V:Vector,s.2.2.2.2.2.2.1.set i V=s.2.2.2.2.2.2.1.set i V:=λ_=>rfl;unfold Bf;rw[List.getElem?_eq_getElem i1,List.getElem?_eq_getElem i2,List.getElem?_eq_getElem i3,List.getElem?_eq_getElem i4];simp only[l5];rw[iV,ah];simp only[bp i3,bp i4,ab,aai,ax,gp];generalize BP s.2.2.2.2.2.2.1[i]=w;generalize jj s.2.2.1 s.2.1 0 s.2.2.2.2.1[i] s.2.2.2.2.2.1[i] s.2.2.2.2.2.2.2.2.2.2.1 b=pr;have i5:∀V:Vector,i<(s.2.2.2.2.2.2.1.set i V).length:=λV=>by rw[aA];exact i3
 have i6:∀q:Bool,i<(s.2.2.2.2.2.2.2.1.set i q).length:=λq=>by rw[aA];exact i4
 have e5:∀V:Vector,idx (s.2.2.2.2.2.2.1.set i V) (i:Int)=some V:=λV=>by rw[bp (i5 V),List.getElem_set_self]
 have e6:∀q:Bool,idx (s.2.2.2.2.2.2.2.1.set i q) (i:Int)=some q:=λq=>by rw[bp (i6 q),List.getElem_set_self]
 rw[ak (n:=(i:Int)+1)];have hself:s.2.2.2.2.2.2.2.1.set i (s.2.2.2.2.2.2.2.1[i])=s.2.2.2.2.2.2.2.1:=List.set_getElem_self ..;generalize hp:s.2.2.2.2.2.2.2.1[i]=p at hself⊢;cases hw:w.2 with
 |true=>simp only[gH,ah,e6,e5,ab,aj,af,KZ,List.set_set];cases decide (pr.2.2.2.2<b)<;>rfl
 |false=>
  simp only[Bool.or_false,af];cases p with
  |false=>rw[hself];rfl
  |true=>
   have e7:idx s.2.2.2.2.2.2.2.1 (i:Int)=some true:=by rw[bp i4,hp]
   simp only[ah,aj,af,e5,e7,ab,KZ,List.set_set];cases decide (pr.2.2.2.2<b)with|true=>rfl|false=>simp only[af,br,hself];rfl
 simp only[l5];rw[gT,af]
theorem UN (hn:1000<=n)(k:yI n h):yI n (uM h):=by have:=afp hn k.z;exact⟨this.1,by rw[this.2];exact k.t⟩
def txt (_:Int):Bytes:=[]
def EU:(t:CT)->t.D->Nat
 | .int _,_=>1
 | .bool,_=>1
 | .str,_=>1
 | .sl e,xs=>(xs.map (EU e)).sum
 | .pair a b,x=>EU a x.1+EU b x.2
def mkL {α:Type}(f:α->Int->α)(c:α->Nat):au α->Int->au α
 |[],_=>[]
 |x::xs,k=>f x k::mkL f c xs (k+c x)
def mk:(t:CT)->t.D->Int->t.D
 | .int _,_,k=>k
 | .bool,_,k=>Int.tmod k 3==0
 | .str,_,k=>txt k
 | .sl e,xs,k=>mkL (mk e) (EU e) xs k
 | .pair a b,x,k=>(mk a x.1 k,mk b x.2 (k+EU a x.1))
structure Jx (h:Host):Prop where
 pl:h.2.2.2.2.1.length<=2
 w:h.2.2.1.2.2.1.length<=16
theorem VB (hb:dK h=true):Jx h:=by have hl:=qG (by have:=hb;simp only[dK,ae]at this;exact this.2.2.2.2.1:qY h=true);have ht:=EO (t:=h.2.2.1) (by simp only[dK,ae]at hb;exact hb.2.2.1);exact⟨by omega,ht⟩
theorem Ku {a b:Host}(f:Jx a)(h:jZ k a b):Jx b:=⟨by rw[h.pl];exact f.pl,by rw[h.tx];exact f.w⟩
theorem acv (f:Jx h):Jx (uM h):=by unfold uM;cases dK h with|false=>exact f|true=>exact Ku f (nb yG h _)
theorem ZG (f:Jx h):Jx (uT h):=by unfold uT;cases dK h with|false=>exact f|true=>exact Ku f (nb wm h _)
theorem ZH (b:Int)(f:Jx h):Jx (mO h b).1:=by unfold mO;cases dK h&&cI b 1 1000 with|false=>exact f|true=>exact Ku f (xR b h _)
theorem PZ (f:Jx h):Jx (eZ h):=by unfold eZ;cases dK h with|false=>exact f|true=>refine⟨f.pl,?_⟩;simp only[ah];generalize (if(h.2.2.1.2.2.1.length:Int)<aq ((kB h.2.1 h.1 0 h.2.2.1.1).2.2.1+(kB h.2.1 h.1 0 h.2.2.1.1).2.2.2) then(h.2.2.1.2.2.1.length:Int) else aq ((kB h.2.1 h.1 0 h.2.2.1.1).2.2.1+(kB h.2.1 h.1 0 h.2.2.1.1).2.2.2))=q;unfold kR;cases Me ((kB h.2.1 h.1 0 h.2.2.1.1).1,h.2.2.1.2)&&cI q 0 (h.2.2.1.2.2.1.length:Int)with|false=>exact f.w|true=>show(h.2.2.1.2.2.1.drop q.toNat).length<=16;rw[aI];have:=f.w;omega
def abY (a:Act):aw Bool:=
 aa (aa (some (cI a.1 0 6)) λr1=>cond (!r1) (some true) (some (decide ((a.2.2.2.2.1.length:Int)>600)))) λq2=>
 cond q2 (some false) (
 aa (cond (a.1 !=0) (cond (!((a.2.1.1==0)&&((a.2.1.2.1==0)&&((a.2.1.2.2.1==0)&&((a.2.1.2.2.2.1==0)&&((a.2.1.2.2.2.2.1==0)&&((a.2.1.2.2.2.2.2.1==0)&&((a.2.1.2.2.2.2.2.2.1==0)&&((a.2.1.2.2.2.2.2.2.2.1==0)&&((a.2.1.2.2.2.2.2.2.2.2.1==0)&&((a.2.1.2.2.2.2.2.2.2.2.2.1==0)&&((a.2.1.2.2.2.2.2.2.2.2.2.2.1==0)&&((a.2.1.2.2.2.2.2.2.2.2.2.2.2.1==0)&&((a.2.1.2.2.2.2.2.2.2.2.2.2.2.2.1==0)&&((a.2.1.2.2.2.2.2.2.2.2.2.2.2.2.2.1==0)&&((a.2.1.2.2.2.2.2.2.2.2.2.2.2.2.2.2.1==0)&&((a.2.1.2.2.2.2.2.2.2.2.2.2.2.2.2.2.2==([]:Bytes))&&true))))))))))))))))) (some true) (cond (a.2.2.1 !=0) (some true) (some (a.2.2.2.1 !=0)))) (some false)) λq3=>
 cond q3 (some false) (
 aa (cond (a.1==2) (cond (a.1==5) (some true) (some (a.2.2.2.2.2==0))) (cond (a.2.2.2.2.1==([]:Bytes)) (cond (a.1==5) (some true) (some (a.2.2.2.2.2==0))) (some false))) λq4=>some q4))
theorem Zk (a:Act):∃b,abY a=some b:=by simp only[abY,bD,ab];exact⟨_,rfl⟩
def Dv (a:Act):Bool:=(abY a).getD false
theorem afD (a:Act):abY a=some (Dv a):=by obtain⟨b,hb⟩:=Zk a;simp[Dv,hb]
theorem Ya (a:Act):yj a=some (Dv a):=by rw[<-afD];unfold yj;rw[bZ];rfl
theorem yI.tx (k:yI n h)(hn:n<=1000000000):afC h.2.2.1:=
 have z:cV 1000000000 de h:=k.z.mono hn
 ⟨z.2.2.1.2.1.2.2.2.1,z.2.2.1.2.2.1.1,λx hx=>(z.2.2.1.2.2.1.2 x hx).2.2.1⟩
def yx (h:Host)(p:aG)(c z:Int):Host×Bool:=
 bif dK h then(((u9 h.2.1 h.1 0 h.2.2.1 p c z).1,h.2.1,(u9 h.2.1 h.1 0 h.2.2.1 p c z).2.1,h.2.2.2),(u9 h.2.1 h.1 0 h.2.2.1 p c z).2.2) else(h,false)
theorem Z9 (h:Host)(p:aG)(c z:Int)(k:yI 900000000 h):vD h p c z=some (yx h p c z):=by
 have zz:cV 1000000000 de h:=k.z.mono;unfold vD yx;rw[iM h zz,ab,tF h (k.sz (by omega)),ab];cases dK h with|false=>rfl|true=>?_
 simp only[aj,af,ah,aaa _ _ _ _ _ _ _ zz.2.1.1 zz.1.1 (k.tx (by omega)) zz.2.2.1.2.2.1.1 (bm k.t (by omega)),ab]
theorem Ng {n:Nat}(hn:128<=n)(l:au aB)(d:Int)(p:c8)(z:Nat):∀(q:bN)(s:Bytes)(m:bE)(a:au gq){x},cV n (.sl .str) m->wk l d p z q s m a=some x->cV n (.sl .str) x.2
 |[],s,m,a,x,hm,h=>by cases h;exact hm
 |b::q,s,m,a,x,hm,h=>by rw[wk]at h;cases hq:(gR l m d (nV p b) (s.take z) false).2 with|false=>rw[hq]at h;cases h|true=>rw[hq]at h;exact Ng hn l d p z q _ _ _ (CB hn hm ..) h
theorem Ii {n:Nat}(hn:128<=n)(l:au aB)(d:Int):∀(q:bE)(m:bE)(r:jY){x},cV n (.sl .str) m->qH l d q m r=some x->cV n (.sl .str) x.1
 |[],m,r,x,hm,h=>by cases h;exact hm
 |s::q,m,r,x,hm,h=>by rw[qH]at h;cases hq:(cU l m d r s).2.2 with|false=>rw[hq]at h;cases h|true=>rw[hq]at h;exact Ii hn l d q _ _ (F5 hn hm ..) h
theorem T5 (hn:128<=n){q:bE}(hm:cV n (.sl .str) m):cV n (.sl .str) (uu l m d r q).1:=by unfold uu;cases hx:qH l d q m r with|none=>exact hm|some x=>exact Ii hn l d q m r hm hx
theorem abG (p:c8)(n:Int):(jP p n).1.2.2.2.length+(jP p n).2.1.length=p.2.2.2.length:=by unfold jP;cases dA p&&cI n 0 (p.2.2.2.length:Int)with|false=>rfl|true=>simp only[ah,aI,aO];omega
theorem Zu (a:au ni)(x:ni):(bB (a++[x])).length=(bB a).length+x.2.2.length:=by simp[bB]
theorem Um:∀l:au ni,(∀x∈l,1<=x.2.1)->(l.length:Int)<=dH l
 |[],_=>by simp[dH]
 |y::l,h=>by have h1:=Um l (λx hx=>h x (dZ _ hx));have h2:=h y (List.mem_cons_self ..);simp only[dH,cS,List.sum_cons,aY]at h1⊢;omega
structure ahl (n:Nat) (m:List Bytes) (t:dM) (r:List Bytes×dM×Bool):Prop where
 mem:cV n (.sl .str) r.1
 tx:cV (n+1) k6 r.2.1
 sum:r.2.1.2.1.2.2.2.length+(bB r.2.1.2.2.1).length<=n
 w:r.2.1.2.2.1.length<=16\/r.2.1.2.2.1=t.2.2.1
theorem N9 (hn:128<=n){z:Int}(d:Int)(hm:cV n (.sl .str) m)(ht:cV n k6 t)(hs:t.2.1.2.2.2.length+(bB t.2.2.1).length<=n):ahl n m t (u9 l m d t p c z):=by
 have old:ahl n m t (m,t,false):=⟨hm,ht.mono,hs,Or.inr rfl⟩
 unfold u9;cases hg:Me t&&(dh p&&(cI z 1 t.2.1.2.1&&cI c 1 128))with|false=>exact old|true=>?_
 simp only[ae]at hg;simp only[ah];generalize xW p z.toNat=k;cases hk:HR t k with|false=>exact old|true=>?_
 simp only[ah];cases hx:wk l d t.2.1 z.toNat (jP t.2.1 (k:Int)).2.1 (jI p).1 m []with|none=>exact old|some x=>?_
 simp only;unfold LL;have hpm:=T5 (n:=n) hn (l:=l) (d:=d) (q:=(pz x.1 c t.2.2.2).map w8) (r:=t.1) (Ng hn l d t.2.1 z.toNat _ _ _ _ hm hx);generalize uu l x.2 d t.1 ((pz x.1 c t.2.2.2).map w8)=w at hpm⊢;cases w.2.2 with|false=>exact old|true=>?_
 have hl:=abG t.2.1 (k:Int);have hb:=Zu t.2.2.1 (t.2.2.2,(k:Int)+1,(jP t.2.1 (k:Int)).2.1);have hb:(bB (t.2.2.1++[(t.2.2.2,(k:Int)+1,(jP t.2.1 (k:Int)).2.1)])).length=(bB t.2.2.1).length+(jP t.2.1 (k:Int)).2.1.length:=hb;refine⟨hpm,⟨⟨ch,ch,ch,ch⟩,⟨ch,ch,ch,?_,λ_ _=>trivial⟩,?_,ch⟩,?_,Or.inl ?_⟩;show(jP t.2.1 (k:Int)).1.2.2.2.length<=n+1;omega;exact Aj (t:=jt) (k:=1) ht.2.2.1 (λy hy=>by rw[bu.1 hy];exact⟨ch,ch,by show(jP t.2.1 (k:Int)).2.1.length<=n;omega,λ_ _=>trivial⟩) (by simp);show(jP t.2.1 (k:Int)).1.2.2.2.length+(bB (t.2.2.1++[(t.2.2.2,(k:Int)+1,(jP t.2.1 (k:Int)).2.1)])).length<=n;omega;show(t.2.2.1++[_]).length<=16;have hq:=hg.1;simp only[Me,ae]at hq;have hrg:=kJ hq.1;have hc:=Um t.2.2.1 (λx hx=>by have:=aC.1 hq.2.2.2.1 x hx;simp only[nM,ae,aS]at this;omega);unfold HR at hk;simp only[ae,aH,cJ]at hk;rw[ai,aV];omega
theorem adP (hn:1000<=n)(p:aG)(c z:Int)(k:yI n h):yI (n+1) (yx h p c z).1:=by
 unfold yx;cases dK h with|false=>exact k.mono|true=>?_
 have zz:=k.z;have s:=N9 (by omega) (l:=h.2.1) (p:=p) (c:=c) (z:=z) 0 zz.1 zz.2.2.1 k.t;have z1:cV (n+1) de h:=zz.mono;exact⟨⟨s.mem.mono,z1.2.1,s.tx,z1.2.2.2⟩,bm s.sum (by omega)⟩
theorem acu (hn:1000<=n)(p:aG)(c z:Int)(k:yI n h)(f:Jx h):Jx (yx h p c z).1:=by
 unfold yx;cases dK h with|false=>exact f|true=>?_
 have s:=N9 (by omega) (l:=h.2.1) (p:=p) (c:=c) (z:=z) 0 k.z.1 k.z.2.2.1 k.t;refine⟨f.pl,?_⟩;rcases s.w with w|w;exact w;show(u9 h.2.1 h.1 0 h.2.2.1 p c z).2.1.2.2.1.length<=16;rw[w];exact f.w
theorem RX (hn:1000<=n)(x:Bytes)(k:yI n h)(f:Jx h):Jx (ky h x):=by have:=CD hn x k;exact⟨by rw[this.2.2];exact f.pl,by rw[this.2.1];exact f.w⟩
theorem Ij (h:Host):∀k,(gS h k).2.2.1=h.2.2.1
 |0=>rfl
 |k+1=>by
  show(u7 k (gS h k)).2.2.1=_;rw[<-Ij h k];generalize gS h k=s;unfold u7;cases h1:s.2.2.2.1[k]? with|none=>rfl|some x=>?_
  cases h2:s.2.2.2.2.2.1[k]? with|none=>rfl|some v=>rfl
theorem Hx (hn:1000<=n)(k:yI n h)(f:Jx h):yI (n+645000) (rk h)/\Jx (rk h):=by
 unfold rk;cases hb:dK h with|false=>exact⟨k.mono,f⟩|true=>?_
 have hl:=qG (KP hb);have e:=HP hn k.z hl.1;have hw:=f.w;have hp:=AZ (n:=n) (by omega) k.z h.2.2.2.1.length;have ht:=(wF (n:=n+322000*h.2.2.2.1.length) (h:=h) hp.2 h.2.2.1.2.2.1.length).1.e;have h4:=nJ 256 128 8;simp only[ah];have hx:=Ij (qc h) h.2.2.2.1.length;have hk:=(vM (qc h) h.2.2.2.1.length).pl;have hpl:(qc h).2.2.2.2.1.length=h.2.2.2.2.1.length:=by show(returned h h.2.2.1.2.2.1.length).2.2.2.2.1.length=_;rw[ht];exact hp.1.pl
 refine⟨⟨(Bd (by omega) e _).mono,?_⟩,?_,?_⟩;rw[hx];show(gF 256 128 8).1.2.2.2.length+0<=_;omega;rw[hk,hpl];exact f.pl;rw[hx];show 0<=16;omega
def acw (f:jA):au Stream->Int->Int
 |[],_=> -1
 |s::r,i=>if s.1=f then i else acw f r (i+1)
def ab0 (a b:au Stream)(f:jA):Bool:=
 match idx a (acw f a 0),idx b (acw f b 0)with
 |some x,some y=>decide (x=y)
 |_,_=>false
end
end Go.Pu
