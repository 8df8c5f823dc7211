import Derived.KernelRfl
import Derived.Test.YtgbaemfepmabgaaGreatPuX1
namespace Go.Pu
open Go.Dn
set_option linter.unusedSimpArgs false
set_option linter.unusedVariables false
noncomputable section
variable {s x:Bytes} {h:Host} {b c d:Int} {a i k n o:Nat} {p:aI} {q:cy} {t:eC} {R:Type} {l:aw aF} {m:bO} {f:bO×cy} {r:kO}
/- Reads through mappings: the program's and the reference's results are one. -/
theorem KO (s:Bytes):aL (du s)=s:=by
 unfold aL du;rw[List.map_map];conv=>rhs;rw[<-List.map_id s]
 refine List.map_congr_left λb _=>?_;simp
theorem ad3 (s t:Bytes):du (s++t)=du s++du t:=ec
theorem GW (s:Bytes):(du s).length=s.length:=bP ..
theorem R7 {α:Type}(l:aw α)(i j:Nat)(h:i<=j)(h2:j<=l.length):sub l (i:Int) (j:Int)=some ((l.drop i).take (j-i)):=by unfold sub;rw[zip];simp[List.take_drop,Nat.add_sub_cancel' h]
theorem VS (a k:Nat):Int.tdiv (a:Int) (k:Int)=((a/k:Nat):Int):=(Int.ofNat_tdiv a k).symm
theorem PE (a k:Nat):Int.tmod (a:Int) (k:Int)=((a%k:Nat):Int):=(Int.ofNat_tmod a k).symm
theorem mem_iff:db m=true↔(∀x∈m,x.length=128)/\m.length<=64:=by simp only[db,ae,aG,bm,aH];constructor;rintro⟨h1,h2⟩;exact⟨λx hx=>by have:=h1 x hx;omega,by omega⟩;rintro⟨h1,h2⟩;exact⟨λx hx=>by have:=h1 x hx;omega,by omega⟩
theorem Tf:∀{m:bO},(∀x∈m,x.length=128)->m.flatten.length=128*m.length
 |[],_=>rfl
 |x::m,h=>by have:=Tf (m:=m) (λy hy=>h y (by simp[hy]));have:=h x (by simp);simp only[List.flatten_cons,ai,bf];omega
theorem Ot:∀{m:bO}(_:∀x∈m,x.length=128)(p:Nat)(hp:p<m.length)(o c:Nat),o+c<=128->(m.flatten.drop (128*p+o)).take c=(m[p].drop o).take c
 |x::m,h,0,hp,o,c,ho=>by have:=h x (by simp);simp only[List.flatten_cons,List.getElem_cons_zero];rw[List.drop_append_of_le_length (by omega),List.take_append_of_le_length (by simp;omega)];simp
 |x::m,h,p+1,hp,o,c,ho=>by have hx:=h x (by simp);simp only[List.flatten_cons,List.getElem_cons_succ];rw[show 128*(p+1)+o=x.length+(128*p+o) by omega,List.drop_length_add_append];exact Ot (m:=m) (λy hy=>h y (by simp[hy])) p (by simpa using hp) o c ho
def BQ (m:bO)(a n:Nat):Bytes:=(m.flatten.drop a).take n
theorem IE (h:db m=true)(hn:a+n<=128*m.length):(BQ m a n).length=n:=by have:=Tf (mem_iff.1 h).1;simp only[BQ,aV,aK];omega
theorem aeC (m:bO)(a n:Nat):(BQ m a n).length<=n:=by simp[BQ];omega
theorem ab5 (m:bO)(a k c:Nat):BQ m a (k+c)=BQ m a k++BQ m (a+k) c:=by unfold BQ;rw[List.take_add,fg]
theorem X0 (h:db m=true){p:Nat}(hp:p<m.length){c:Nat}(ho:o+c<=128)(ha:a=128*p+o):(m[p].drop o).take c=BQ m a c:=by subst ha;exact(Ot (mem_iff.1 h).1 p hp o c ho).symm
def gF (m:bO)(a n:Int):Bool:=db m&&decide (0<=n/\0<=a/\a+n<=128*(m.length:Int))
theorem Dy (m:bO)(a n:Int)(h:m.length<=1000000000):uz m a n=some (gF m a n):=by unfold uz gF;rw[FD m h,ab,ak (n:=(m.length:Int)*128)];cases hm:db m with|false=>rfl|true=>simp only[ah,bq];by_cases h1:n>=0;by_cases h2:n<=(m.length:Int)*128;rw[ak (n:=(m.length:Int)*128-n)];by_cases h3:a>=0;simp only[au h1,au h2,au h3,ah,ab];exact congrArg some (decide_eq_decide.2 (by omega));simp only[au h1,au h2,aq h3,ah,af,ab];exact congrArg some (iw).symm;simp only[au h1,aq h2,ah,af,ab];exact congrArg some (iw).symm;simp only[aq h1,af,ab];exact congrArg some (iw).symm
theorem Jy (m:bO)(a n:Int)(h:m.length<=1000000000):nX m a n=some (gF m a n):=by unfold nX gF;rw[FU m h,ab,ak (n:=128*(m.length:Int))];cases hm:db m with|false=>rfl|true=>simp only[ah,bq];by_cases h1:n>=0;by_cases h3:a>=0;by_cases h2:a<=128*(m.length:Int);rw[ak (n:=128*(m.length:Int)-a)];simp only[au h1,au h2,au h3,ah,ab];exact congrArg some (decide_eq_decide.2 (by omega));simp only[au h1,aq h2,au h3,ah,af,ab];exact congrArg some (iw).symm;simp only[au h1,aq h3,ah,af,ab];exact congrArg some (iw).symm;simp only[aq h1,af,ab];exact congrArg some (iw).symm
theorem GK {R:Type}{m:bO}(hm:db m=true)(K:Int->bZ->az R):∀(n r k a f:Nat),r<=n->n<f->a+k+r<=128*m.length->
 bl (kX K ((k+r:Nat):Int) m) f (((a+k:Nat):Int),du (BQ m a k))=K ((a+k+r:Nat):Int) (du (BQ m a (k+r)))
 |n,r,k,a,0,_,hf,_=>by omega
 |n,0,k,a,f+1,hr,hf,hb=>by rw[bl];simp only[kX,GW,IE hm (show a+k<=128*m.length by omega),eG];rw[iw,af]
 |0,r+1,k,a,f+1,hr,hf,hb=>by omega
 |n+1,r+1,k,a,f+1,hr,hf,hb=>by
  have h64:=(mem_iff.1 hm).2;have hl:=IE hm (show a+k<=128*m.length by omega);obtain⟨p,hp⟩:∃p,(a+k)/128=p:=⟨_,rfl⟩
  obtain⟨o,ho⟩:∃o,(a+k)%128=o:=⟨_,rfl⟩
  have hpo:a+k=128*p+o:=by omega
  have ho2:o<128:=by omega
  have hpl:p<m.length:=by omega
  obtain⟨c,hc⟩:∃c,min (r+1) (128-o)=c:=⟨_,rfl⟩
  have hpg:=(mem_iff.1 hm).1 _ (aN hpl);have e1:Int.tdiv ((a+k:Nat):Int) 128=(p:Int):=by rw[<-hp];exact VS (a+k) 128
  have e2:Int.tmod ((a+k:Nat):Int) 128=(o:Int):=by rw[<-ho];exact PE (a+k) 128
  have key:=GK hm K n (r+1-c) (k+c) a f (by omega) (by omega) (by omega);rw[bl];simp only[kX,GW,hl,e1,e2];rw[jz,ah,nf,ak (n:=(p:Int)),bu hpl,ab,nf];rw[ak (n:=(o:Int)+((k+(r+1):Nat):Int)),ak (n:=(o:Int)+((k+(r+1):Nat):Int)-(k:Int))];rw[show(if(o:Int)+((k+(r+1):Nat):Int)-(k:Int)<128 then(o:Int)+((k+(r+1):Nat):Int)-(k:Int) else 128)=((o+c:Nat):Int) by split<;>omega];rw[R7 _ _ _ (by omega) (by omega),ab,show o+c-o=c by omega,X0 hm hpl (show o+c<=128 by omega) hpo];have hl2:=IE hm (show a+k+c<=128*m.length by omega);rw[hl2,aQ,ak,<-ad3,<-ab5];rw[show((a+k:Nat):Int)+(c:Int)=((a+(k+c):Nat):Int) by omega];rw[show k+c+(r+1-c)=k+(r+1) by omega,show a+(k+c)+(r+1-c)=a+k+(r+1) by omega]at key;exact key
theorem adY (m:bO)(a n:Int)(h:m.length<=1000000000):pc m a n=some (bif gF m a n then(BQ m a.toNat n.toNat,true) else([],false)):=by have hfu:=eJ;unfold pc;rw[Dy m a n h,ab];cases hw:gF m a n with|false=>rfl|true=>simp only[gF,ae,aH]at hw;obtain⟨hm,h1,h2,h3⟩:=hw;have h64:=(mem_iff.1 hm).2;simp only[aj,af,ah];rw[zip,aQ];obtain⟨a,rfl⟩:=aR h2;obtain⟨n,rfl⟩:=aR h1;have:=GK hm (λ(y4:Int) (y5:bZ)=>some (aL y5,true)) n n 0 a fuel (by omega) (by omega) (by omega);rw[cw,eG]at this;refine Eq.trans this ?_;simp only[KO,ax]
def FI (d p:Int)(w:Bool)(x:aF):Bool:=qP d p x&&(x.2.2.2|| !w)
def ta (l:aw aF)(d p:Int)(w:Bool):Int:=match l.findIdx? (FI d p w)with|some i=>(l.getD i J2).2.2.1|none=> -1
theorem aeW (l:aw aF)(d p:Int)(w:Bool)(h:l.length<=1000000000):yV l d p w=some (ta l d p w):=by unfold yV ta;refine Eq.trans (Ej (p:=FI d p w) (hit:=λi=>aa (idx l i) λx=>some x.2.2.1) (fin:=some (-1)) l (by omega) (λi hi nx=>?_) (λnx=>?_)) ?_;simp only[tZ];rw[jz,bu hi,ak];simp only[ah,ab,FI,qP];cases l[i].1==d<;>cases l[i].2.1==p<;>cases l[i].2.2.2<;>cases w<;>rfl;simp only[tZ];rw[iw];rfl;cases hf:l.findIdx? (FI d p w)with|none=>rfl|some i=>obtain⟨hi,_⟩:=List.findIdx?_eq_some_iff_getElem.1 hf;simp only[bu hi,ab,cG hi]
theorem G2 (h:fY l=true)(hi:i<l.length):Ie l[i]=true/\∀j (hj:j<i),qP l[i].1 l[i].2.1 (l[j]'(by omega))=false:=by simp only[fY,ae,aG,bF]at h;have:=h.2 i hi;simp only[Mk,ae,aG,bF,cG hi,aJ]at this;exact⟨this.1,λj hj=>by have:=this.2 j hj;rwa[cG (by omega)]at this⟩
theorem Ic {p:Int}{m:aF}:qP d p m=true↔m.1=d/\m.2.1=p:=by simp[qP]
theorem aeb (h:fY l=true){p:Int}{j:Nat}(hi:i<l.length)(hj:j<l.length)(h1:qP d p l[i]=true)(h2:qP d p l[j]=true):i=j:=by have a:=Ic.1 h1;have b:=Ic.1 h2;rcases Nat.lt_trichotomy i j with h3|h3|h3;have:=(G2 h hj).2 i h3;rw[b.1,b.2,h1]at this;cases this;exact h3;have:=(G2 h hi).2 j h3;rw[a.1,a.2,h2]at this;cases this
theorem Mt (h:fY l=true)(d p:Int)(w:Bool)(h1:0<=ta l d p w):ta l d p w<=63/\0<=p/\p<=1023:=by unfold ta at h1⊢;cases hf:l.findIdx? (FI d p w)with|none=>rw[hf]at h1;simp at h1|some i=>obtain⟨hi,h2,_⟩:=List.findIdx?_eq_some_iff_getElem.1 hf;have h3:=(G2 h hi).1;simp only[FI,ae,Ic]at h2;simp only[Ie,ae,aW]at h3;simp only[cG hi];omega
theorem aa3 (l:aw aF)(d:Int)(a:Nat)(w:Bool)(h:l.length<=1000000000)(hm:fY l=true)(ha:a<=9223372036854775807): Ci l d (a:Int) w=some (if 0<=ta l d ((a/128:Nat):Int) w then ta l d ((a/128:Nat):Int) w*128+((a%128:Nat):Int) else-1):=by
 have e1:Int.tdiv (a:Int) 128=((a/128:Nat):Int):=VS a 128;have e2:Int.tmod (a:Int) 128=((a%128:Nat):Int):=PE a 128;unfold Ci;rw[iw,af,nf,e1,e2,ak,TR l _ _ h,ab];generalize ((a/128:Nat):Int)=p;have hin:=Mt hm d p w;unfold U1;cases hf:l.findIdx? (qP d p)with
 |none=>
  have hn:ta l d p w= -1:=by unfold ta;rw[List.findIdx?_eq_none_iff]at hf;rw[List.findIdx?_eq_none_iff.2 (λx hx=>by rw[FI,hf x hx];rfl)]
  rw[hn];rfl
 |some i=>
  obtain⟨hi,h2,h3⟩:=List.findIdx?_eq_some_iff_getElem.1 hf;simp only;rw[iw,bu hi];simp only[af,ab];cases hq:l[i].2.2.2|| !w with
  |true=>
   have hF:ta l d p w=l[i].2.2.1:=by unfold ta;rw[List.findIdx?_eq_some_iff_getElem.2 ⟨hi,by rw[FI,h2,hq];rfl,λj hj=>by have:=h3 j hj;rw[FI,Bool.eq_false_iff.2 this];simp⟩];exact congrArg (λx:aF=>x.2.2.1) (cG hi J2)
   have h4:=(G2 hm hi).1;simp only[Ie,ae,aW]at h4
   rw[hF,aE (show 0<=l[i].2.2.1 by omega),show(aa (cond w (some (!l[i].2.2.2)) (some false)) λq3=>cond q3 (some (-1:Int)) _)=_ from by
    have:(cond w (some (!l[i].2.2.2)) (some false))=some false:=by cases w<;>cases hz:l[i].2.2.2<;>rw[hz]at hq<;>first|rfl|cases hq
    rw[this,ab,af]]
   rw[aD (show¬(128:Nat)=0 by omega),ak (n:=l[i].2.2.1*128),ak]
  |false=>
   have hF:ta l d p w= -1:=by unfold ta;rw[List.findIdx?_eq_none_iff.2 (λx hx=>by obtain⟨j,hj,rfl⟩:=List.getElem_of_mem hx;cases hx2:qP d p l[j]with|false=>rw[FI,hx2];rfl|true=>have:=aeb hm hi hj h2 hx2;subst this;rw[FI,hq];simp)]
   rw[hF,aD (show¬(0:Int)<= -1 by omega)];cases w with|false=>simp at hq|true=>simp only[aj,Bool.or_false]at hq;simp only[ah,hq,ab,bz]
def lD (l:aw aF)(m:bO)(d:Int)(w:Bool):Nat->Nat->Nat->az (aw (Int×Int))
 |0,_,_=>some []
 |n+1,a,r=>if r=0 then some [] else
  if 0<=ta l d ((a/128:Nat):Int) w/\ta l d ((a/128:Nat):Int) w<(m.length:Int) then
   (lD l m d w n (a+min (128-a%128) r) (r-min (128-a%128) r)).map (λq=>(ta l d ((a/128:Nat):Int) w*128+((a%128:Nat):Int),((min (128-a%128) r:Nat):Int))::q)
  else none
theorem Sd (hm:db m=true){f:Int}(h0:0<=f){c:Nat}(hc:0<c)(ho:o+c<=128):gF m (f*128+(o:Int)) (c:Int)=decide (f<(m.length:Int)):=by rw[gF,hm,bq];exact decide_eq_decide.2 (by omega)
theorem VZ (hm:db m=true){f:Int}(h0:0<=f):gF m (f*128) 128=decide (f<(m.length:Int)):=by rw[gF,hm,bq];exact decide_eq_decide.2 (by omega)
theorem GM {l:aw aF}{m:bO}(hl:fY l=true)(hL:l.length<=1000000000)(hm:db m=true)(d:Int)(w:Bool):∀(n a r f:Nat)(acc:aw (Int×Int)),r<=n->n<f->acc.length+n<=1000000->a<=9223372036854775807->
 bl (qL (λ(y9:Int) (y10:Int) (y11:aw (Int×Int))=>some (y11,true)) (λ(y12:Int) (y13:Int) (y14:aw (Int×Int)) (y15:Bool) (y16:aw (Int×Int))=>some (y14,y15)) l d w ([]:aw (Int×Int)) false m) f ((a:Int),(r:Int),acc)
  =match lD l m d w n a r with|some q=>some (acc++q,true)|none=>some ([],false)
 |n,a,r,0,acc,_,hf,_,_=>by omega
 |0,a,r,f+1,acc,hr,hf,hA,ha=>by rw[bl];simp only[qL];rw[iw];simp[lD]
 |n+1,a,r,f+1,acc,hr,hf,hA,ha=>by
  have h64:=(mem_iff.1 hm).2;rw[bl];simp only[qL,lD];by_cases h0:r=0;rw[iw,aE h0];simp;have e2:Int.tmod (a:Int) 128=((a%128:Nat):Int):=PE a 128;have hin:=Mt hl d ((a/128:Nat):Int) w;rw[jz,aD h0,aa3 l d a w hL hl ha,ab,nf,e2,ak (n:=128-((a%128:Nat):Int))];obtain⟨c,hc⟩:∃c,min (128-a%128) r=c:=⟨_,rfl⟩
  rw[hc,show(if 128-((a%128:Nat):Int)<(r:Int) then 128-((a%128:Nat):Int) else(r:Int))=(c:Int) by split<;>omega];generalize hP:ta l d ((a/128:Nat):Int) w=P at hin⊢;by_cases hP0:0<=P;have hin:=hin hP0;simp only[aE hP0,ah];rw[aq (show¬P*128+((a%128:Nat):Int)<0 by omega),Dy m _ _ (by omega),Sd hm hP0 (by omega) (by omega)];simp only[af,ab];by_cases hP1:P<(m.length:Int);rw[au hP1,aE ⟨hP0,hP1⟩];simp only[aj,af];rw[aQ (by simp;omega),ak (n:=(a:Int)+(c:Int)),ak (n:=(r:Int)-(c:Int)),aq (show¬(a:Int)+(c:Int)<0 by omega)];simp only[af,ab];have key:=GM hl hL hm d w n (a+c) (r-c) f (acc++[(P*128+((a%128:Nat):Int),(c:Int))]) (by omega) (by omega) (by simp;omega) (by omega);rw[show((a+c:Nat):Int)=(a:Int)+(c:Int) by omega,show((r-c:Nat):Int)=(r:Int)-(c:Int) by omega]at key;rw[key];cases lD l m d w n (a+c) (r-c)with|none=>rfl|some q=>simp
  rw[aq hP1,nf];rfl;simp only[aD hP0,ah];rw[nf,jz];rfl
theorem Hn {l:aw aF}{m:bO}(hl:fY l=true)(hL:l.length<=1000000000)(hm:db m=true)(d:Int)(w:Bool):∀(n a r f:Nat)(acc:aw (Int×Int)),r<=n->n<f->acc.length+n<=1000000->a<=9223372036854775807->
 bl (kN (λ(y10:Int) (y11:Int) (y12:bZ) (y13:bZ)=>some (y12,y13,true)) (λ(y14:Int) (y15:Int) (y16:bZ) (y17:bZ) (y18:Bool) (y19:bZ) (y20:bZ)=>some (y16,y17,y18)) l d w ([]:bZ) ([]:bZ) false m) f ((a:Int),(r:Int),acc.map (·.1),acc.map (·.2))
  =match lD l m d w n a r with|some q=>some ((acc++q).map (·.1),(acc++q).map (·.2),true)|none=>some ([],[],false)
 |n,a,r,0,acc,_,hf,_,_=>by omega
 |0,a,r,f+1,acc,hr,hf,hA,ha=>by rw[bl];simp only[kN];rw[iw];simp[lD]
 |n+1,a,r,f+1,acc,hr,hf,hA,ha=>by
  have h64:=(mem_iff.1 hm).2;rw[bl];simp only[kN,lD];by_cases h0:r=0;rw[iw,aE h0];simp;have e1:Int.tdiv (a:Int) 128=((a/128:Nat):Int):=VS a 128;have e2:Int.tmod (a:Int) 128=((a%128:Nat):Int):=PE a 128;have hin:=Mt hl d ((a/128:Nat):Int) w;rw[au (show(r:Int)>0 by omega),au (show(a:Int)>=0 by omega),aD h0];simp only[ah];rw[nf,e1,e2,ak (n:=((a/128:Nat):Int)),aeW l _ _ w hL,ab,nf,ak (n:=128-((a%128:Nat):Int))];obtain⟨c,hc⟩:∃c,min (128-a%128) r=c:=⟨_,rfl⟩
  rw[hc,show(if 128-((a%128:Nat):Int)<(r:Int) then 128-((a%128:Nat):Int) else(r:Int))=(c:Int) by split<;>omega];generalize hP:ta l d ((a/128:Nat):Int) w=P at hin⊢;by_cases hP0:0<=P;have hin:=hin hP0;rw[aq (show¬P<0 by omega),ak (n:=P*128),Jy m _ _ (by omega),VZ hm hP0];simp only[af,ab];by_cases hP1:P<(m.length:Int);rw[au hP1,aE ⟨hP0,hP1⟩];simp only[aj,af];rw[aQ (by simp;omega),aQ (by simp;omega),ak (n:=P*128+((a%128:Nat):Int)),ak (n:=(a:Int)+(c:Int)),ak (n:=(r:Int)-(c:Int))];have key:=Hn hl hL hm d w n (a+c) (r-c) f (acc++[(P*128+((a%128:Nat):Int),(c:Int))]) (by omega) (by omega) (by simp;omega) (by omega);rw[show((a+c:Nat):Int)=(a:Int)+(c:Int) by omega,show((r-c:Nat):Int)=(r:Int)-(c:Int) by omega,ec,ec]at key;refine Eq.trans key ?_;cases lD l m d w n (a+c) (r-c)with|none=>rfl|some q=>simp
  rw[aq hP1,nf];rfl;rw[nf,jz];rfl
def kE (l:aw aF)(m:bO)(d a n:Int)(w:Bool):aw (Int×Int)×Bool:=
 bif fY l&&(db m&&cX n 0 4096) then
  (bif n==0 then([],true) else bif decide (a<0) then([],false) else match lD l m d w n.toNat a.toNat n.toNat with|some q=>(q,true)|none=>([],false))
 else([],false)
theorem TV (l:aw aF)(m:bO)(d a n:Int)(w:Bool)(hl:l.length<=1000000000)(hm:m.length<=1000000000)(ha:a<=9223372036854775807):xM l m d a n w=some (kE l m d a n w):=by
 have hfu:=eJ;unfold xM kE;simp only[GH l hl,FD m hm,cn,ab];cases hB:fY l with|false=>rfl|true=>?_
 cases hM:db m with|false=>rfl|true=>?_
 cases hN:cX n 0 4096 with|false=>rfl|true=>?_
 have hn:=aW.1 hN;simp only[aj,af,ab,cE,ah];cases h0:n==0 with|true=>rfl|false=>?_
 by_cases hA:a<0;rw[au hA];rfl;rw[aq hA];simp only[af];obtain⟨a,rfl⟩:=aR (show 0<=a by omega);obtain⟨n,rfl⟩:=aR hn.1;rw[GM hB hl hM d w n a n fuel [] (by omega) (by omega) (by simp;omega) (by omega)];simp only[ax];cases lD l m d w n a n<;>rfl
theorem acs (l:aw aF)(m:bO)(d a n:Int)(w:Bool)(hl:l.length<=1000000000)(hm:m.length<=1000000000)(ha:a<=9223372036854775807):xu l m d a n w=some ((kE l m d a n w).1.map (·.1),(kE l m d a n w).1.map (·.2),(kE l m d a n w).2):=by
 have hfu:=eJ;unfold xu kE;simp only[RZ l hl,FU m hm,dR,ab];cases hB:fY l with|false=>rfl|true=>?_
 cases hM:db m with|false=>rfl|true=>?_
 cases hN:cX n 0 4096 with|false=>rfl|true=>?_
 have hn:=aW.1 hN;simp only[aj,af,ab,cE,ah];obtain⟨n,rfl⟩:=aR hn.1;cases h0:((n:Int)==0)with
 |true=>
  have:n=0:=by simpa using h0
  subst this;obtain⟨f,hf⟩:∃f,fuel=f+1:=⟨fuel-1,by omega⟩
  rw[hf,bl];rfl
 |false=>
  have hn0:n≠0:=by simpa using h0
  by_cases hA:a<0;obtain⟨f,hf⟩:∃f,fuel=f+1:=⟨fuel-1,by omega⟩
  rw[au hA,hf,bl];simp only[kN];rw[jz,iw];rfl;rw[aq hA];simp only[af];obtain⟨a,rfl⟩:=aR (show 0<=a by omega);refine Eq.trans (Hn hB hl hM d w n a n fuel [] (by omega) (by omega) (by simp;omega) (by omega)) ?_;simp only[ax];cases lD l m d w n a n<;>rfl
def BN (x:Bytes)(o:Nat)(t:Bytes):Bytes:=x.take o++(t++x.drop (o+t.length))
theorem O5 {t:Bytes}(h:o+t.length<=x.length):(BN x o t).length=x.length:=by simp only[BN,ai,aV,aK];omega
theorem abU (x:Bytes)(o:Nat)(t:Bytes):aL (BO (du x) o (du t))=BN x o t:=by
 have e:BO (du x) o (du t)=du (BN x o t):=by simp only[BO,BN,du,ec,List.map_take,List.map_drop,bP]
 rw[e,KO]
theorem aey {t:Bytes}(h:o+t.length<=x.length):wx x (o:Int) t=BN x o t:=by unfold wx ft;rw[au ⟨by omega,by omega⟩];simp only[ah,ax,BN,aZ]
def wN:Nat->bO->Nat->Bytes->bO
 |0,m,_,_=>m
 |n+1,m,a,s=>if s.length=0 then m else
  wN n (m.set (a/128) (BN (m.getD (a/128) []) (a%128) (s.take (128-a%128)))) (a+min (128-a%128) s.length) (s.drop (128-a%128))
def Bo (m:bO):Prop:=(∀x∈m,x.length=128)/\m.length<=64
theorem pL:db m=true↔Bo m:=mem_iff
theorem Iv {p:Nat}(h:Bo m)(hx:x.length=128):Bo (m.set p x):=by refine⟨λy hy=>?_,by rw[aB];exact h.2⟩;rcases dp hy with g|g;exact h.1 y g;rw[g];exact hx
theorem CI (h:Bo m)(hs:s.length≠0)(ha:a+s.length<=128*m.length): ∃(hp:a/128<m.length),(m[a/128]'hp).length=128/\(BN (m[a/128]'hp) (a%128) (s.take (128-a%128))).length=128:=by
 have hp:a/128<m.length:=by omega
 have hl:=h.1 _ (aN hp);refine⟨hp,hl,?_⟩;rw[O5 (by rw[aV,hl];omega),hl]
theorem zd:∀(n:Nat){m:bO}{a:Nat}{s:Bytes},Bo m->a+s.length<=128*m.length->Bo (wN n m a s)/\(wN n m a s).length=m.length
 |0,m,a,s,h,_=>⟨h,rfl⟩
 |n+1,m,a,s,h,ha=>by rw[wN];split;exact⟨h,rfl⟩;rename_i hs;obtain⟨hp,hl,ho⟩:=CI h hs ha;rw[cG hp];have:=zd n (m:=m.set (a/128) (BN m[a/128] (a%128) (s.take (128-a%128)))) (a:=a+min (128-a%128) s.length) (s:=s.drop (128-a%128)) (Iv h ho) (by rw[aB,aK];omega);rw[aB]at this;exact this
theorem EY {R:Type}(K:Int->Bytes->bO->az R)(K':bO->az R)(hK:∀a m,K a [] m=K' m):∀(n:Nat)(m:bO)(a:Nat)(s:Bytes)(f:Nat),s.length<=n->n<f->Bo m->a+s.length<=128*m.length->
 bl (mX K ([]:bO)) f ((a:Int),s,m)=K' (wN n m a s)
 |n,m,a,s,0,_,hf,_,_=>by omega
 |n,m,a,s,f+1,hs,hf,hm,ha=>by
  rw[bl];simp only[mX];by_cases h0:s.length=0;have:s=[]:=cp h0;subst this;rw[aq (by simp),af,hK];cases n<;>simp[wN];cases n with
  |zero=>omega
  |succ n=>
   obtain⟨hp,hl,ho⟩:=CI hm h0 ha;have h64:=hm.2;have e1:Int.tdiv (a:Int) 128=((a/128:Nat):Int):=VS a 128;have e2:Int.tmod (a:Int) 128=((a%128:Nat):Int):=PE a 128;rw[jz,ah,nf,e1,e2,ak (n:=((a/128:Nat):Int)),bu hp,ab,aQ,nf];have hsub:sub (du m[a/128]) ((a%128:Nat):Int) ((du m[a/128]).length:Int)=some ((du m[a/128]).drop (a%128)):=by rw[R7 _ _ _ (by rw[GW];omega) (bh _),cd (by rw[aK];exact bh _)]
   rw[hsub,ab,nf,ab,ab];have hd:((du m[a/128]).drop (a%128)).length=128-a%128:=by rw[aK,GW,hl]
   rw[hd];have hdr:s.drop (min (128-a%128) s.length)=s.drop (128-a%128):=by by_cases h3:128-a%128<=s.length;rw[iu h3];rw[Nat.min_eq_right (by omega),df (bh _),df (by omega)]
   have hsub2:sub s (((min (128-a%128) s.length:Nat)):Int) ((s.length:Int))=some (s.drop (128-a%128)):=by rw[<-hdr];unfold sub;rw[zip];simp
   rw[hsub2,ab,ak (n:=(a:Int)+((min (128-a%128) s.length:Nat):Int)),ax,ax,abU];rw[wN,aD h0,cG hp,show(a:Int)+((min (128-a%128) s.length:Nat):Int)=((a+min (128-a%128) s.length:Nat):Int) by omega];exact EY K K' hK n _ _ _ f (by rw[aK];omega) (by omega) (Iv hm ho) (by rw[aB,aK];omega)
theorem E8 {R:Type}(K:Int->Bytes->bO->az R)(K':bO->az R)(hK:∀a m,K a [] m=K' m):∀(n:Nat)(m:bO)(a:Nat)(s:Bytes)(f:Nat),s.length<=n->n<f->Bo m->a+s.length<=128*m.length->
 bl (nd K ([]:bO)) f ((a:Int),s,m)=K' (wN n m a s)
 |n,m,a,s,0,_,hf,_,_=>by omega
 |n,m,a,s,f+1,hs,hf,hm,ha=>by
  rw[bl];simp only[nd];by_cases h0:s.length=0;have:s=[]:=cp h0;subst this;rw[aq (by simp),af,hK];cases n<;>simp[wN];cases n with
  |zero=>omega
  |succ n=>
   obtain⟨hp,hl,ho⟩:=CI hm h0 ha;have h64:=hm.2;have e1:Int.tdiv (a:Int) 128=((a/128:Nat):Int):=VS a 128;have e2:Int.tmod (a:Int) 128=((a%128:Nat):Int):=PE a 128;rw[jz,ah,nf,nf,nf,e1,e2,ak (n:=((a/128:Nat):Int)),ak (n:=128-((a%128:Nat):Int)),bu hp,ab];obtain⟨c,hc⟩:∃c,min (128-a%128) s.length=c:=⟨_,rfl⟩
   rw[show(if 128-((a%128:Nat):Int)<(s.length:Int) then 128-((a%128:Nat):Int) else(s.length:Int))=(c:Int) by split<;>omega];have ht:s.take c=s.take (128-a%128):=by by_cases h3:128-a%128<=s.length;rw[<-hc,iu h3];rw[<-hc,Nat.min_eq_right (by omega),cd (bh _),cd (by omega)]
   have hdr:s.drop c=s.drop (128-a%128):=by by_cases h3:128-a%128<=s.length;rw[<-hc,iu h3];rw[<-hc,Nat.min_eq_right (by omega),df (bh _),df (by omega)]
   have hs1:sub s 0 (c:Int)=some (s.take (128-a%128)):=by rw[<-ht];unfold sub;rw[zip];simp
   have hs2:sub s (c:Int) (s.length:Int)=some (s.drop (128-a%128)):=by rw[<-hdr];unfold sub;rw[zip];simp
   rw[hs1,ab,Ks _ _ _,ab,ab,ab,hs2,ab,aey (by rw[aV,hl];omega),ak (n:=(a:Int)+(c:Int)),ax];rw[wN,aD h0,cG hp,hc,show(a:Int)+(c:Int)=((a+c:Nat):Int) by omega];exact E8 K K' hK n _ _ _ f (by rw[aK];omega) (by omega) (Iv hm ho) (by rw[aB,aK];omega)
def oQ (m:bO)(a:Int)(s:Bytes):bO×Bool:=bif gF m a (s.length:Int) then(wN s.length m a.toNat s,true) else(m,false)
theorem Xh (m:bO)(a:Int)(s:Bytes)(h:m.length<=1000000000)(hs:s.length<=1000000000):rJ m a s=some (oQ m a s):=by
 have hfu:=eJ;unfold rJ oQ;rw[gx m,ab,Dy m _ _ h,ab];cases hw:gF m a (s.length:Int)with|false=>rfl|true=>?_
 simp only[gF,ae,aH]at hw;obtain⟨a,rfl⟩:=aR hw.2.2.1;simp only[aj,af,ah,ax];exact EY _ (λm=>some (m,true)) (λ_ _=>rfl) s.length m a s fuel (bh _) (by omega) (pL.1 hw.1) (by omega)
theorem Ye (m:bO)(a:Int)(s:Bytes)(h:m.length<=1000000000)(hs:s.length<=1000000000):sc m a s=some (oQ m a s):=by
 have hfu:=eJ;unfold sc oQ;rw[Cl m,ab,Jy m _ _ h,ab];cases hw:gF m a (s.length:Int)with|false=>rfl|true=>?_
 simp only[gF,ae,aH]at hw;obtain⟨a,rfl⟩:=aR hw.2.2.1;simp only[aj,af,ah,ax];exact E8 _ (λm=>some (m,true)) (λ_ _=>rfl) s.length m a s fuel (bh _) (by omega) (pL.1 hw.1) (by omega)
theorem D9 (m:bO)(a:Int)(s:Bytes):(oQ m a s).1.length=m.length:=by
 unfold oQ;cases hw:gF m a (s.length:Int)with|false=>rfl|true=>?_
 simp only[gF,ae,aH]at hw;exact(zd s.length (pL.1 hw.1) (by omega)).2
def IB:aw (Int×Int)->bO->Bytes->bO
 |[],m,_=>m
 |p::q,m,s=>IB q (oQ m p.1 (s.take p.2.toNat)).1 (s.drop p.2.toNat)
theorem Vd:∀(q:aw (Int×Int))(m:bO)(s:Bytes),(IB q m s).length=m.length
 |[],m,s=>rfl
 |p::q,m,s=>by rw[IB,Vd q,D9]
def Kc (q:aw (Int×Int)):Int:=(q.map (·.2)).sum
theorem ZY:∀(q:aw (Int×Int)),(∀p∈q,0<=p.2)->0<=Kc q
 |[],_=>cK _
 |p::q,h=>by have:=ZY q (λx hx=>h x (by simp[hx]));have:=h p (by simp);simp only[Kc,di,fJ]at*;omega
theorem Vh {p:Int×Int}{q:aw (Int×Int)}(hc:∀x∈p::q,0<=x.2)(hs:(s.length:Int)=Kc (p::q)):0<=p.2/\p.2<=(s.length:Int)/\((s.drop p.2.toNat).length:Int)=Kc q:=by
 have h1:=hc p (by simp);have h2:=ZY q (λx hx=>hc x (by simp[hx]));have h3:Kc (p::q)=p.2+Kc q:=by simp[Kc]
 rw[h3]at hs;refine⟨h1,by omega,?_⟩;rw[aK];omega
theorem PB (h0:0<=c)(h1:c<=(s.length:Int)):sub s 0 c=some (s.take c.toNat):=by unfold sub;rw[zip];simp
theorem VM (h0:0<=c)(h1:c<=(s.length:Int)):sub s c (s.length:Int)=some (s.drop c.toNat):=by unfold sub;rw[zip];simp
theorem Jf (K:Bytes->Int->bO->az (bO×Bool))(hK:∀s i m,K s i m=some (m,true)):∀(rest pre:aw (Int×Int))(m:bO)(s:Bytes)(f:Nat),rest.length<f->pre.length+rest.length<=1000000->(∀x∈rest,0<=x.2)->(s.length:Int)=Kc rest->m.length<=1000000000->s.length<=1000000->
 bl (xL K (pre++rest) ((pre++rest).length:Int) ([]:bO)) f (s,(pre.length:Int),m)=some (IB rest m s,true)
 |rest,pre,m,s,0,hf,_,_,_,_,_=>by omega
 |[],pre,m,s,f+1,_,_,_,_,_,_=>by rw[bl];simp only[xL];rw[aq (by simp),af,hK];rfl
 |p::q,pre,m,s,f+1,hf,hn,hc,hs,hm,hl=>by
  obtain⟨h1,h2,h3⟩:=Vh hc hs;simp only[bf]at hf hn;have hi:pre.length<(pre++p::q).length:=by simp
  have hp:(pre++p::q)[pre.length]=p:=by simp
  rw[bl];simp only[xL];rw[au (by simp;omega),bu hi,hp,ak];simp only[ah,ab,PB h1 h2,VM h1 h2,Xh m _ _ hm (show(s.take p.2.toNat).length<=1000000000 by rw[aV];omega)];have key:=Jf K hK q (pre++[p]) (oQ m p.1 (s.take p.2.toNat)).1 (s.drop p.2.toNat) f (by omega) (by simp;omega) (λx hx=>hc x (by simp[hx])) h3 (by rw[D9];exact hm) (by rw[aK];omega);have el:((pre++[p]).length:Int)=(pre.length:Int)+1:=by simp
  rw[aZ,List.singleton_append,el]at key;rw[IB];exact key
theorem Jx (K:Bytes->Int->bO->az (bO×Bool))(hK:∀s i m,K s i m=some (m,true)):∀(rest pre:aw (Int×Int))(m:bO)(s:Bytes)(f:Nat),rest.length<f->pre.length+rest.length<=1000000->(∀x∈rest,0<=x.2)->(s.length:Int)=Kc rest->m.length<=1000000000->s.length<=1000000->
 bl (nN K ((pre++rest).map (·.1)) ((pre++rest).map (·.2)) ([]:bO)) f (s,(pre.length:Int),m)=some (IB rest m s,true)
 |rest,pre,m,s,0,hf,_,_,_,_,_=>by omega
 |[],pre,m,s,f+1,_,_,_,_,_,_=>by rw[bl];simp only[nN];rw[aq (by simp),af,hK];rfl
 |p::q,pre,m,s,f+1,hf,hn,hc,hs,hm,hl=>by
  obtain⟨h1,h2,h3⟩:=Vh hc hs;simp only[bf]at hf hn;have hi:pre.length<(pre++p::q).length:=by simp
  have hp:(pre++p::q)[pre.length]=p:=by simp
  have i1:idx ((pre++p::q).map (·.1)) (pre.length:Int)=some p.1:=by rw[bu (by simp),List.getElem_map,hp]
  have i2:idx ((pre++p::q).map (·.2)) (pre.length:Int)=some p.2:=by rw[bu (by simp),List.getElem_map,hp]
  rw[bl];simp only[nN];rw[au (by simp;omega),i1,i2,ak];simp only[ah,ab,PB h1 h2,VM h1 h2,Ye m _ _ hm (show(s.take p.2.toNat).length<=1000000000 by rw[aV];omega)];have key:=Jx K hK q (pre++[p]) (oQ m p.1 (s.take p.2.toNat)).1 (s.drop p.2.toNat) f (by omega) (by simp;omega) (λx hx=>hc x (by simp[hx])) h3 (by rw[D9];exact hm) (by rw[aK];omega);have el:((pre++[p]).length:Int)=(pre.length:Int)+1:=by simp
  rw[aZ,List.singleton_append,el]at key;rw[IB];exact key
theorem Mx (l:aw aF)(m:bO)(d:Int)(w:Bool):∀(n a r:Nat)(q:aw (Int×Int)),r<=n->lD l m d w n a r=some q->Kc q=(r:Int)/\(∀p∈q,0<=p.2)/\q.length<=n
 |0,a,r,q,hr,h=>by simp only[lD,br]at h;subst h;exact⟨by show(0:Int)=_;omega,by simp,by simp⟩
 |n+1,a,r,q,hr,h=>by simp only[lD]at h;split at h;simp only[br]at h;subst h;exact⟨by show(0:Int)=_;omega,by simp,by simp⟩;split at h;simp only[Option.map_eq_some_iff]at h;obtain⟨q',h1,rfl⟩:=h;obtain⟨i1,i2,i3⟩:=Mx l m d w n _ _ q' (by omega) h1;refine⟨?_,?_,by simp only[bf];omega⟩;simp only[Kc,di,fJ]at i1⊢;rw[i1];omega;intro p hp;rcases bQ.1 hp with rfl|hp;show(0:Int)<=((min (128-a%128) r:Nat):Int);omega;exact i2 p hp;cases h
theorem Pe (l:aw aF)(m:bO)(d a n:Int)(w:Bool)(h:(kE l m d a n w).2=true):Kc (kE l m d a n w).1=n/\(∀p∈(kE l m d a n w).1,0<=p.2)/\(kE l m d a n w).1.length<=4096/\n<=4096:=by
 unfold kE at h⊢;cases hB:fY l&&(db m&&cX n 0 4096)with|false=>rw[hB]at h;simp at h|true=>?_
 rw[hB]at h;simp only[ae,aW]at hB;simp only[ah]at h⊢;cases h0:n==0 with
 |true=>
  have:n=0:=by simpa using h0
  subst this;exact⟨rfl,by simp,by simp,by omega⟩
 |false=>rw[h0]at h;simp only[af]at h⊢;cases ha:decide (a<0)with|true=>rw[ha]at h;simp at h|false=>rw[ha]at h;simp only[af]at h⊢;cases hq:lD l m d w n.toNat a.toNat n.toNat with|none=>rw[hq]at h;cases h|some q=>obtain⟨i1,i2,i3⟩:=Mx l m d w _ _ _ q (bh _) hq;exact⟨by simp only;rw[i1];omega,i2,by simp only;omega,by omega⟩
def iy (l:aw aF)(m:bO)(d a:Int)(s:Bytes)(w:Bool):bO×Bool:=
 bif (kE l m d a (s.length:Int) w).2 then(IB (kE l m d a (s.length:Int) w).1 m s,true) else(m,false)
theorem kh (l:aw aF)(m:bO)(d a:Int)(s:Bytes)(w:Bool):(iy l m d a s w).1.length=m.length:=by unfold iy;cases (kE l m d a (s.length:Int) w).2 with|false=>rfl|true=>exact Vd _ _ _
theorem TU (l:aw aF)(m:bO)(d a:Int)(s:Bytes)(w:Bool)(hl:l.length<=1000000000)(hm:m.length<=1000000000)(ha:a<=9223372036854775807):DA l m d a s w=some (iy l m d a s w):=by
 have hfu:=eJ;unfold DA iy;rw[gx m,ab,TV l m d a _ w hl hm ha,ab];have hS:=Pe l m d a (s.length:Int) w;generalize kE l m d a (s.length:Int) w=r at hS⊢;cases hr:r.2 with|false=>rfl|true=>?_
 obtain⟨h1,h2,h3,h4⟩:=hS hr;simp only[aj,af,ah];exact Jf _ (λ_ _ _=>rfl) r.1 [] m s fuel (by omega) (by simp;omega) h2 h1.symm hm (by omega)
theorem Hk (l:aw aF)(m:bO)(d a:Int)(s:Bytes)(hl:l.length<=1000000000)(hm:m.length<=1000000000)(ha:a<=9223372036854775807):ti l m d a s=some (iy l m d a s true):=by
 have hfu:=eJ;unfold ti iy;rw[acs l m d a _ true hl hm ha,ab,Cl m,ab];have hS:=Pe l m d a (s.length:Int) true;generalize kE l m d a (s.length:Int) true=r at hS⊢;cases hr:r.2 with|false=>rfl|true=>?_
 obtain⟨h1,h2,h3,h4⟩:=hS hr;simp only[aj,af,ah];exact Jx _ (λ_ _ _=>rfl) r.1 [] m s fuel (by omega) (by simp;omega) h2 h1.symm hm (by omega)
theorem Cd (l:aw aF)(m:bO)(d a:Int)(s:Bytes)(hl:l.length<=1000000000)(hm:m.length<=1000000000)(ha:a<=9223372036854775807):pJ l m d a s=some (iy l m d a s true):=by rw[pJ,TU l m d a s true hl hm ha];rfl
def wrM (x:aF):aF:=(x.1,x.2.1,x.2.2.1,true)
theorem getD_map (hi:i<l.length):(l.map wrM).getD i J2=wrM (l.getD i J2):=by rw[cG (by simpa using hi),cG hi,List.getElem_map]
theorem Rx (l:aw aF):fY (l.map wrM)=fY l:=by
 unfold fY;rw[bP];congr 1;rw[cC,aG,aG];have key:∀i,i<l.length->Mk (l.map wrM) i=Mk l i:=by
  intro i hi;unfold Mk;rw[getD_map hi];congr 1;rw[cC,aG,aG];constructor;intro h j hj;have hjl:j<l.length:=by have:=bF.1 hj;omega
  have:=h j hj;rw[getD_map hjl]at this;exact this;intro h j hj;have hjl:j<l.length:=by have:=bF.1 hj;omega
  rw[getD_map hjl];exact h j hj
 constructor;intro h i hi;rw[<-key i (bF.1 hi)];exact h i hi;intro h i hi;rw[key i (bF.1 hi)];exact h i hi
theorem aeu (l:aw aF)(d p:Int):ta (l.map wrM) d p true=ta l d p false:=by
 unfold ta;rw[List.findIdx?_map];have e:(FI d p true∘wrM)=FI d p false:=by funext x;simp only[Function.comp,FI,qP,wrM,bz,ik,il]
 rw[e];cases hf:l.findIdx? (FI d p false)with|none=>rfl|some i=>obtain⟨hi,_⟩:=List.findIdx?_eq_some_iff_getElem.1 hf;simp only[getD_map hi];rfl
theorem O8 (l:aw aF)(m:bO)(d:Int):∀n a r,lD (l.map wrM) m d true n a r=lD l m d false n a r
 |0,a,r=>rfl
 |n+1,a,r=>by simp only[lD,aeu,O8 l m d n]
theorem ahM (l:aw aF)(m:bO)(d a:Int)(s:Bytes):iy (l.map wrM) m d a s true=iy l m d a s false:=by
 have e:kE (l.map wrM) m d a (s.length:Int) true=kE l m d a (s.length:Int) false:=by simp only[kE,Rx,O8]
 simp only[iy,e]
theorem NU (l:aw aF)(m:bO)(d a:Int)(s:Bytes)(hl:l.length<=1000000000)(hm:m.length<=1000000000)(ha:a<=9223372036854775807):vK l m d a s=some (iy l m d a s false):=by unfold vK;refine dz (λi=>((l.take i).map wrM,(i:Int))) l.length (by omega) (λi nx hi=>?_) (λnx=>?_);simp only[qs];rw[jz,bu hi,ak];simp only[ah,ab];rw[aQ (by simp;omega),bp hi,ec];rfl;simp only[qs];rw[iw,af,cO,Hk _ m d a s (by rw[bP];exact hl) hm ha,ahM];rfl
theorem Bk (l:aw aF)(m:bO)(d a:Int)(s:Bytes)(hl:l.length<=1000000000)(hm:m.length<=1000000000)(ha:a<=9223372036854775807:=by omega):jG l m d a s=some (iy l m d a s false):=by rw[jG,TU l m d a s false hl hm ha];rfl
def uq (d:Eb):Bool:=cX d.1 0 3&&(cX d.2.1 0 3&&(cX d.2.2.1 0 65535&&(cX d.2.2.2.2.1 0 65535&&(cX d.2.2.2.2.2 0 65535&&cX d.2.2.2.1 0 4294967295))))
theorem TN (d:Eb):xH d=some (uq d):=by simp only[xH,cn,ab,uq];cases cX d.1 0 3<;>cases cX d.2.1 0 3<;>cases cX d.2.2.1 0 65535<;>cases cX d.2.2.2.2.1 0 65535<;>cases cX d.2.2.2.2.2 0 65535<;>rfl
theorem aeR (d:Eb):Ba d=some (uq d):=by simp only[Ba,dR,ab,uq];cases cX d.1 0 3<;>cases cX d.2.1 0 3<;>cases cX d.2.2.1 0 65535<;>cases cX d.2.2.2.2.1 0 65535<;>cases cX d.2.2.2.2.2 0 65535<;>rfl
def yq (d:Eb):Bytes:=
 bif uq d then((((aL [gG d.1,gG d.2.1]++cm d.2.2.1)++gk d.2.2.2.1)++cm d.2.2.2.2.1)++cm d.2.2.2.2.2)++gk 0 else []
theorem ahV (d:Eb):tP d=some (yq d):=by
 have h1:=bS d.2.2.1;have h2:=dS d.2.2.2.1;have h3:=bS d.2.2.2.2.1;have h4:=bS d.2.2.2.2.2;have h5:=dS 0;have h0:(aL [gG d.1,gG d.2.1]).length=2:=rfl;unfold tP yq;rw[aeR,ab];cases uq d with|false=>rfl|true=>?_
 simp only[aj,af,ah,oL,mG,ab];rw[aQ,aQ (by simp only[ai];omega),aQ (by simp only[ai];omega),aQ (by simp only[ai];omega),aQ (by simp only[ai];omega)]
theorem Rk (d:Eb):lL d=some (yq d):=by
 have h1:=bS d.2.2.1;have h2:=dS d.2.2.2.1;have h3:=bS d.2.2.2.2.1;have h4:=bS d.2.2.2.2.2;have h5:=dS 0;have h0:(aL [gG d.1,gG d.2.1]).length=2:=rfl;unfold lL yq;rw[TN,ab];cases uq d with|false=>rfl|true=>?_
 simp only[aj,af,ah,kU,ue,ab];rw[aQ,aQ (by simp only[ai];omega),aQ (by simp only[ai];omega),aQ (by simp only[ai];omega),aQ (by simp only[ai];omega)]
def oV (r:kO):Int:=bif dv r then ar (r.2.1-bT r) else 0
def pj (r:kO)(c:Int):Int:=bif !dv r||decide (c<0) then-1 else r.1+Int.tmod c r.2.1*16
theorem ly (h:dv r=true):0<=r.1/\r.1<=130944/\(r.2.1=2\/r.2.1=4\/r.2.1=8\/r.2.1=16)/\0<=r.2.2.1/\r.2.2.1<=2*r.2.1-1/\0<=r.2.2.2/\r.2.2.2<=2*r.2.1-1:=by simp only[dv,ae,aW]at h;exact⟨h.1.1,h.1.2,ij.1 h.2.1,h.2.2.1.1,h.2.2.1.2,h.2.2.2.1.1,h.2.2.2.1.2⟩
theorem DX (r:kO)(c:Int): -1<=pj r c/\pj r c<=200000:=by
 unfold pj;cases hc: !dv r||decide (c<0)with
 |true=>exact⟨cK _,by simp⟩
 |false=>
  simp only[cr,dU,cY]at hc;have h:=ly hc.1;have h2:0<=Int.tmod c r.2.1/\Int.tmod c r.2.1<r.2.1:=by rw[dE (by omega)];exact⟨fy _ (by omega),fC _ (by omega)⟩
  simp only[af];omega
def dj (l:aw aF)(m:bO)(d:Int)(r:kO)(s:Bytes):bO×kO×Bool:=
 bif (oV r==0)||((s.length:Int) !=16) then(m,r,false) else
 bif !(iy l m d (pj r r.2.2.2) s true).2 then(m,r,false) else
 ((iy l m d (pj r r.2.2.2) s true).1,(r.1,r.2.1,r.2.2.1,Int.tmod (r.2.2.2+1) (2*r.2.1)),true)
theorem IC {a:Int}{w:Bool}(h:(iy l m d a s w).2=false):(iy l m d a s w).1=m:=by unfold iy at h⊢;cases hr:(kE l m d a (s.length:Int) w).2 with|false=>rfl|true=>rw[hr]at h;cases h
theorem IM (r:kO):tn r=some (oV r):=by
 unfold tn oV;rw[MX,ab];cases dv r with|false=>rfl|true=>?_
 simp only[aj,af,ah,VH,ab]
theorem acv (r:kO)(c:Int):rY r c=some (pj r c):=by
 have hin:=DX r c;unfold rY;rw[MX,ab];unfold pj at hin⊢;cases hb:dv r with|false=>rfl|true=>?_
 have h:=ly hb;by_cases hc:c<0;rw[au hc];rfl;rw[hb,aq hc]at hin;rw[aq hc];have h2:0<=Int.tmod c r.2.1/\Int.tmod c r.2.1<r.2.1:=by rw[dE (by omega)];exact⟨fy _ (by omega),fC _ (by omega)⟩
 simp only[aj,af,ab,cz]at hin⊢;rw[nf,ak (n:=16*Int.tmod c r.2.1),ak];congr 1;omega
theorem VE (l:aw aF)(m:bO)(d:Int)(r:kO)(s:Bytes)(hl:l.length<=1000000000)(hm:m.length<=1000000000):yL l m d r s=some (dj l m d r s):=by
 have hA:=DX r r.2.2.2;unfold yL dj;simp only[IM,ab,acv,Hk l m d _ s hl hm (show pj r r.2.2.2<=9223372036854775807 by omega),Cl m (show m.length<=1073741824 by omega)];cases hf:oV r==0 with|true=>rfl|false=>?_
 cases (s.length:Int) !=16 with|true=>rfl|false=>?_
 have hb:dv r=true:=by cases hb:dv r with|true=>rfl|false=>unfold oV at hf;rw[hb]at hf;cases hf
 have h:=ly hb;simp only[af,ab,cz];cases hp:(iy l m d (pj r r.2.2.2) s true).2 with|false=>simp only[bz,ah,IC hp]|true=>simp only[aj,af];rw[ak (n:=2*r.2.1),nf,ak (n:=r.2.2.2+1)]
theorem OG (r:kO):sT r=some (oV r):=by
 unfold sT oV;rw[xG,ab];cases dv r with|false=>rfl|true=>?_
 simp only[aj,af,ah,zO,ab]
theorem OL (r:kO)(c:Int):nw r c=some (pj r c):=by
 have hin:=DX r c;unfold nw;rw[xG,ab];unfold pj at hin⊢;cases hb:dv r with|false=>rfl|true=>?_
 have h:=ly hb;by_cases hc:c<0;rw[au hc];rfl;rw[hb,aq hc]at hin;rw[aq hc];have h2:0<=Int.tmod c r.2.1/\Int.tmod c r.2.1<r.2.1:=by rw[dE (by omega)];exact⟨fy _ (by omega),fC _ (by omega)⟩
 simp only[aj,af,ab,cz]at hin⊢;rw[nf,ak (n:=Int.tmod c r.2.1*16),ak]
theorem Jg (l:aw aF)(m:bO)(d:Int)(r:kO)(s:Bytes)(hl:l.length<=1000000000)(hm:m.length<=1000000000):vm l m d r s=some (dj l m d r s):=by
 have hA:=DX r r.2.2.2;unfold vm dj;simp only[OG,ab,OL,Cd l m d _ s hl hm (show pj r r.2.2.2<=9223372036854775807 by omega),gx m (show m.length<=1073741824 by omega)];cases hf:oV r==0 with|true=>rfl|false=>?_
 cases (s.length:Int) !=16 with|true=>rfl|false=>?_
 have hb:dv r=true:=by cases hb:dv r with|true=>rfl|false=>unfold oV at hf;rw[hb]at hf;cases hf
 have h:=ly hb;simp only[af,ab,cz];cases hp:(iy l m d (pj r r.2.2.2) s true).2 with|false=>simp only[bz,ah,IC hp]|true=>simp only[aj,af];rw[ak (n:=2*r.2.1),nf,ak (n:=r.2.2.2+1)]
theorem yE {p:dw}(h:dT p=true):0<=p.1/\p.1<=130944/\1<=p.2.1/\p.2.1<=512/\0<=p.2.2.1/\p.2.2.1<=16:=by simp only[dT,ae,aW]at h;exact⟨h.1.1,h.1.2,h.2.1.1,h.2.1.2,h.2.2.1.1,h.2.2.1.2⟩
def oT (p:dw)(i:Int):Int:=bif !dT p|| !cX i 0 (p.2.2.1-1) then-1 else p.1+i*p.2.1
theorem YC {p:dw}{i:Int}(hp:dT p=true)(hi:cX i 0 (p.2.2.1-1)=true):ar (p.1+ar (i*p.2.1))=p.1+i*p.2.1:=by have h:=yE hp;have h2:=aW.1 hi;have h3:0<=i*p.2.1:=Int.mul_nonneg h2.1 (by omega);have h4:i*p.2.1<=16*512:=Int.mul_le_mul (by omega) (by omega) (by omega) (by omega);rw[ak (n:=i*p.2.1),ak]
theorem aeQ (p:dw)(i:Int)(h:p.2.2.2.length<=1000000000):oM p i=some (oT p i):=by
 unfold oM oT;rw[Hm p h,ab];cases hp:dT p with|false=>rfl|true=>?_
 have hin:=yE hp;rw[ak (n:=p.2.2.1-1),dR];cases hi:cX i 0 (p.2.2.1-1)with|false=>rfl|true=>?_
 simp only[aj,af,ab,cz,YC hp hi]
theorem GC (p:dw)(i:Int)(h:p.2.2.2.length<=1000000000):gr p i=some (oT p i):=by
 unfold gr oT;rw[uT p h,ab];cases hp:dT p with|false=>rfl|true=>?_
 have hin:=yE hp;rw[ak (n:=p.2.2.1-1),cn];cases hi:cX i 0 (p.2.2.1-1)with|false=>rfl|true=>?_
 simp only[aj,af,ab,cz,YC hp hi]
def upto (n:Nat):bZ:=(List.range n).map Int.ofNat
theorem PF (n:Nat):upto (n+1)=upto n++[(n:Int)]:=by simp[upto,gJ]
theorem agr (h:i<n):(upto n).getD i 0=(i:Int):=by rw[cG (by simpa[upto]using h)];simp[upto]
theorem XV (a b:Int)(n:Nat)(hn:n<=16):dT (a,b,(n:Int),upto n)=dT (a,b,(n:Int),[]):=by
 unfold dT;congr 3;have h1:(List.range (upto n).length).all (Dr (n:Int) (upto n))=true:=by
  rw[aG];intro i hi;have hi:i<n:=by simpa[upto]using hi
  simp only[Dr,agr hi,ae,aW,aJ];refine⟨by omega,?_⟩;rw[Bool.eq_false_iff,ne_eq,List.contains_iff_mem];intro hm;simp only[upto,<-List.map_take,eF]at hm;obtain⟨j,hj,he⟩:=hm;rw[List.take_range]at hj;have:=bF.1 hj;have:(j:Int)=(i:Int):=he;omega
 rw[h1];rfl
def ig (a b n:Int):dw×Bool:=bif dT (a,b,n,[]) then((a,b,n,upto n.toNat),true) else((0,0,0,[]),false)
theorem Je (a b n:Int):vi a b n=some (ig a b n):=by
 unfold vi ig;rw[uT _ (by simp),ab];cases hp:dT (a,b,n,[])with|false=>rfl|true=>?_
 have hin:=yE hp;obtain⟨n,rfl⟩:=aR (show 0<=n from hin.2.2.2.2.1);have h16:n<=16:=by have:=hin.2.2.2.2.2;simp only at this;omega
 simp only[aj,af,ah,ax];refine dz (λi=>((i:Int),a,b,(n:Int),upto i)) n (by omega) (λi nx hi=>?_) (λnx=>?_);simp only[tC];rw[jz,aQ (by simp[upto];omega),ak,PF];rfl;simp only[tC];rw[iw];rfl
theorem Jw (a b n:Int):vM a b n=some (ig a b n):=by
 have hfu:=eJ;unfold vM ig;by_cases hn:0<=n/\n<=16;obtain⟨n,rfl⟩:=aR hn.1;have h16:n<=16:=by omega
 refine dz (λi=>((i:Int),a,b,(n:Int),upto i)) n (by omega) (λi nx hi=>?_) (λnx=>?_);simp only[pn];rw[au (show(i:Int)<n by omega),au (show(n:Int)<=16 by omega)];simp only[ah,ab];rw[aQ (by simp[upto];omega),ak,PF];rfl;simp only[pn];rw[aq (show¬(n:Int)<n by omega)];simp only[af,ab,Hm (a,b,(n:Int),upto n) (show(upto n).length<=1000000000 by simp[upto];omega),XV a b n h16,ax];cases dT (a,b,(n:Int),[])<;>rfl;have hb:dT (a,b,n,[])=false:=by cases hp:dT (a,b,n,[])with|false=>rfl|true=>have:=yE hp;exact absurd ⟨this.2.2.2.2.1,this.2.2.2.2.2⟩ hn
 obtain⟨f,hf⟩:∃f,fuel=f+1:=⟨fuel-1,by omega⟩
 rw[hf,bl];simp only[pn];have hc:(cond (decide ((0:Int)<n)) (some (decide (n<=16))) (some false))=some false:=by by_cases h0:(0:Int)<n;rw[au h0,iw];rfl;rw[aq h0];rfl
 rw[hc];simp only[ab,af,Hm (a,b,n,[]) (show([]:bZ).length<=1000000000 by simp),hb];rfl
def fF (p:dw)(b:Int):Bytes:=yq (3,0,p.2.1,oT p b,0,b)
def mK (l:aw aF)(d:Int)(p:dw):bZ->bO->kO->Nat×bO×kO
 |[],m,r=>(0,m,r)
 |b::q,m,r=>bif (dj l m d r (fF p b)).2.2 then
   ((mK l d p q (dj l m d r (fF p b)).1 (dj l m d r (fF p b)).2.1).1+1,(mK l d p q (dj l m d r (fF p b)).1 (dj l m d r (fF p b)).2.1).2)
  else(0,m,r)
theorem vH (l:aw aF)(m:bO)(d:Int)(r:kO)(s:Bytes):(dj l m d r s).1.length=m.length:=by
 unfold dj;cases (oV r==0)||((s.length:Int) !=16)with|true=>rfl|false=>?_
 cases (iy l m d (pj r r.2.2.2) s true).2 with|false=>rfl|true=>exact kh ..
theorem HU (l:aw aF)(d:Int)(p:dw):∀(q:bZ)(m:bO)(r:kO),(mK l d p q m r).2.1.length=m.length/\(mK l d p q m r).1<=q.length
 |[],m,r=>⟨rfl,bh _⟩
 |b::q,m,r=>by rw[mK];cases (dj l m d r (fF p b)).2.2 with|false=>exact⟨rfl,cf _⟩|true=>have:=HU l d p q (dj l m d r (fF p b)).1 (dj l m d r (fF p b)).2.1;simp only[ah,bf];exact⟨by rw[this.1,vH],by omega⟩
theorem adA (r:kO):0<=oV r:=by
 unfold oV;cases hb:dv r with
 |false=>exact cK _
 |true=>
  have h:=ly hb;simp only[dv,ae,aH]at hb;have hu:=hb.2.2.2.2;have h0:0<=bT r:=by unfold bT;split;exact fy _ (by omega);exact cK _
  simp only[ah];rw[ak];omega
theorem RL (h:¬oV r>0):dj l m d r s=(m,r,false):=by
 have h0:=adA r;have:oV r=0:=by omega
 unfold dj;rw[this];rfl
theorem GF {R:Type}(K:Int->Int->kO->bO->az R)(K':Nat->kO->bO->az R)(hK:∀(c:Nat) i r m,K (c:Int) i r m=K' c r m)(l:aw aF)(d:Int)(p p2 p3:dw)(hp:p.2.2.2.length<=1000000000)(hl:l.length<=1000000000):∀(rest pre:bZ)(m:bO)(r:kO)(f:Nat),rest.length<f->pre.length+rest.length<=1000000000->m.length<=1000000000->
 bl (nn K l d (pre++rest) ((pre++rest).length:Int) p ([]:bO) (0,0,0,0) p2 p3) f ((pre.length:Int),(pre.length:Int),r,m)=K' (pre.length+(mK l d p rest m r).1) (mK l d p rest m r).2.2 (mK l d p rest m r).2.1
 |rest,pre,m,r,0,hf,_,_=>by omega
 |[],pre,m,r,f+1,_,_,_=>by rw[bl];simp only[nn];rw[aq (by simp),af,hK];rfl
 |b::q,pre,m,r,f+1,hf,hn,hm=>by
  simp only[bf]at hf hn;have hi:pre.length<(pre++b::q).length:=by simp
  have hb:(pre++b::q)[pre.length]=b:=by simp
  rw[bl];simp only[nn];rw[au (by simp;omega),bu hi,hb];simp only[ah,ab,GC p b hp,Rk,Jg l m d r _ hl hm];rw[show yq (3,0,p.2.1,oT p b,0,b)=fF p b from rfl,mK];cases hq:(dj l m d r (fF p b)).2.2 with
  |false=>simp only[bz,ah,af,hK,eG]
  |true=>
   simp only[aj,af,ah];rw[ak (n:=(pre.length:Int)+1)];have key:=GF K K' hK l d p p2 p3 hp hl q (pre++[b]) (dj l m d r (fF p b)).1 (dj l m d r (fF p b)).2.1 f (by omega) (by simp;omega) (by rw[vH];exact hm);have el:((pre++[b]).length:Int)=(pre.length:Int)+1:=by simp
   have el2:(pre++[b]).length=pre.length+1:=by simp
   rw[aZ,List.singleton_append,el,el2]at key;rw[show pre.length+((mK l d p q (dj l m d r (fF p b)).1 (dj l m d r (fF p b)).2.1).1+1)=pre.length+1+(mK l d p q (dj l m d r (fF p b)).1 (dj l m d r (fF p b)).2.1).1 by omega];exact key
theorem Hl {R:Type}(K:Int->kO->bO->dw->az R)(l:aw aF)(d:Int)(p p2:dw)(hp:p.2.2.2.length<=1000000000)(hl:l.length<=1000000000)(A B C:Int):∀(rest:bZ)(c:Nat)(m:bO)(r:kO)(f:Nat),rest.length<f->c+rest.length<=1000000000->m.length<=1000000000->
 bl (nO K l d p ([]:bO) (0,0,0,0) p2) f ((c:Int),r,m,A,B,C,rest)=K ((c+(mK l d p rest m r).1:Nat):Int) (mK l d p rest m r).2.2 (mK l d p rest m r).2.1 (A,B,C,rest.drop (mK l d p rest m r).1)
 |rest,c,m,r,0,hf,_,_=>by omega
 |[],c,m,r,f+1,_,_,_=>by
  rw[bl];simp only[nO,IM,ab];have hc:(cond (decide (oV r>0)) (some (decide ((([]:bZ).length:Int)>0))) (some false))=some false:=by cases decide (oV r>0)<;>rfl
  rw[hc];rfl
 |b::q,c,m,r,f+1,hf,hn,hm=>by
  simp only[bf]at hf hn;rw[bl];simp only[nO,IM,ab];by_cases hr:oV r>0;rw[au hr,au (show(((b::q).length:Nat):Int)>0 by simp)];have hi:idx (b::q) 0=some b:=rfl;have hs:sub (b::q) 1 ((b::q).length:Int)=some q:=by unfold sub;rw[aE (by simp;omega)];simp
  simp only[ah,ab,hi,aeQ p b hp,ahV,VE l m d r _ hl hm];rw[show yq (3,0,p.2.1,oT p b,0,b)=fF p b from rfl,mK];cases hq:(dj l m d r (fF p b)).2.2 with|false=>rfl|true=>simp only[aj,af,ah,hs,ab];rw[lh,ak (n:=(c:Int)+1),cj];have key:=Hl K l d p p2 hp hl A B C q (c+1) (dj l m d r (fF p b)).1 (dj l m d r (fF p b)).2.1 f (by omega) (by omega) (by rw[vH];exact hm);rw[show((c+1:Nat):Int)=(c:Int)+1 by omega]at key;refine Eq.trans key ?_;rw[show c+1+(mK l d p q (dj l m d r (fF p b)).1 (dj l m d r (fF p b)).2.1).1=c+((mK l d p q (dj l m d r (fF p b)).1 (dj l m d r (fF p b)).2.1).1+1) by omega];rfl
  rw[aq hr,mK,RL hr];rfl
def uu (l:aw aF)(m:bO)(d:Int)(r:kO)(p:dw):bO×kO×dw×Int:=
 bif !dv r|| !dT p then(m,r,p,0) else
 ((mK l d p p.2.2.2 m r).2.1,(mK l d p p.2.2.2 m r).2.2,(p.1,p.2.1,p.2.2.1,p.2.2.2.drop (mK l d p p.2.2.2 m r).1),((mK l d p p.2.2.2 m r).1:Int))
theorem TP (l:aw aF)(m:bO)(d:Int)(r:kO)(p:dw)(hl:l.length<=1000000000)(hm:m.length<=1000000000)(hp:p.2.2.2.length<=1000000000):iE l m d r p=some (uu l m d r p):=by
 have hfu:=eJ;unfold iE uu;simp only[gx m (show m.length<=1073741824 by omega),uo p hp,xG,uT p hp,ab];cases dv r with|false=>rfl|true=>?_
 cases dT p with|false=>rfl|true=>?_
 simp only[aj,af,ab,cz];have hlen:=(HU l d p p.2.2.2 m r).2;refine(GF _ (λc r m=>aa (sub p.2.2.2 (c:Int) (p.2.2.2.length:Int)) λx14=>aa (gb x14) λr15=>some (m,r,(p.1,p.2.1,p.2.2.1,r15),(c:Int))) (λ_ _ _ _=>rfl) l d p _ p hp hl p.2.2.2 [] m r fuel (by omega) (by simp;omega) hm).trans ?_;rw[dZ,cw,R7 _ _ _ hlen (bh _),ab,cd (by rw[aK];exact bh _),kA _ (by rw[aK];omega)];rfl
theorem aeS (l:aw aF)(m:bO)(d:Int)(r:kO)(p:dw)(hl:l.length<=1000000000)(hm:m.length<=1000000000)(hp:p.2.2.2.length<=1000000000):xm l m d r p=some (uu l m d r p):=by
 have hfu:=eJ;unfold xm uu;simp only[Cl m (show m.length<=1073741824 by omega),Xq p hp,MX,Hm p hp,ab];cases dv r with|false=>rfl|true=>?_
 cases dT p with|false=>rfl|true=>?_
 simp only[aj,af,ab,cz];refine(Hl _ l d p _ hp hl p.1 p.2.1 p.2.2.1 p.2.2.2 0 m r fuel (by omega) (by omega) hm).trans ?_;rw[cw]
def kF (p:dw)(n:Int):dw×bZ×Bool:=bif dT p&&cX n 0 (p.2.2.2.length:Int) then((p.1,p.2.1,p.2.2.1,p.2.2.2.drop n.toNat),p.2.2.2.take n.toNat,true) else(p,[],false)
theorem abd (p:dw)(n:Int)(h:p.2.2.2.length<=1000000000):rF p n=some (kF p n):=by
 unfold rF kF;rw[uo p h,ab,uT p h,ab,cn];cases dT p with|false=>rfl|true=>?_
 cases hi:cX n 0 (p.2.2.2.length:Int)with|false=>rfl|true=>?_
 have hn:=aW.1 hi;obtain⟨n,rfl⟩:=aR hn.1;simp only[aj,af,ab,cE,ah,ax];rw[Hv _ n (by omega),ab,kA _ (by simp;omega),ab,show sub p.2.2.2 0 (n:Int)=some (p.2.2.2.take n) from by rw[CB (by omega) hn.2,ax],ab,kA _ (by simp;omega),ab]
theorem C7:∀l:aw oe,(∀x∈l,0<=x.2.1/\x.2.1<=16)->0<=ee l/\ee l<=16*(l.length:Int)
 |[],_=>by simp[ee]
 |y::l,h=>by have h1:=C7 l (λx hx=>h x (eR _ hx));have h2:=h y (List.mem_cons_self ..);simp only[ee,di,fJ,bf]at h1⊢;omega
theorem Wv (l:aw oe)(i:Nat)(hi:i<l.length):ee (l.take (i+1))=ee (l.take i)+l[i].2.1:=by rw[bp hi];simp only[ee,ec,List.sum_append,di,List.map_nil,fJ,List.sum_nil,Int.add_zero]
theorem aa8 (t:eC)(h:t.2.2.1.length<=1000000)(hs:∀x∈t.2.2.1,0<=x.2.1/\x.2.1<=16):qp t=some (ee t.2.2.1):=by
 have hfu:=eJ;unfold qp;refine dz (λi=>(ee (t.2.2.1.take i),(i:Int))) t.2.2.1.length (by omega) (λi nx hi=>?_) (λnx=>?_);have hb:=C7 (t.2.2.1.take i) (λx hx=>hs x (List.mem_of_mem_take hx));have hc:=hs _ (aN hi);have hl:(t.2.2.1.take i).length<=1000000:=by rw[aV];omega
 rw[Wv _ _ hi];simp only[mm];rw[jz,ah,bu hi,ab,ak (n:=(i:Int)+1),ak];rfl;simp only[mm];rw[iw,af,cO]
def rP (l:aw aF)(d:Int):bO->bO->kO->az (bO×kO)
 |[],m,r=>some (m,r)
 |s::q,m,r=>bif (dj l m d r s).2.2 then rP l d q (dj l m d r s).1 (dj l m d r s).2.1 else none
def aiq (m:bO)(r:kO):az (bO×kO)->bO×kO×Bool
 |some x=>(x.1,x.2,true)
 |none=>(m,r,false)
def vG (l:aw aF)(m:bO)(d:Int)(r:kO)(q:bO):bO×kO×Bool:=aiq m r (rP l d q m r)
theorem Jq (l:aw aF)(d:Int):∀(q:bO)(m:bO)(r:kO){x},rP l d q m r=some x->x.1.length=m.length
 |[],m,r,x,h=>by cases h;rfl
 |s::q,m,r,x,h=>by rw[rP]at h;cases hq:(dj l m d r s).2.2 with|false=>rw[hq]at h;cases h|true=>rw[hq]at h;exact(Jq l d q _ _ h).trans (vH ..)
theorem Dv (l:aw aF)(d:Int)(M:bO)(A B2:kO)(B1:bO)(hl:l.length<=1000000000)(hM:M.length<=1000000000):∀(rest pre:bO)(m:bO)(r:kO)(f:Nat),rest.length<f->(pre++rest).length<=1000000000->m.length<=1000000000->
 bl (kY (λ_ y6 y7=>some (y6,y7,true)) (λy8 _ y10 y11 _ _=>some (y10,y11,y8)) l d false (pre++rest) ((pre++rest).length:Int) M A B1 B2) f ((pre.length:Int),m,r)=some (aiq M A (rP l d rest m r))
 |rest,pre,m,r,0,hf,_,_=>by omega
 |[],pre,m,r,f+1,_,_,_=>by rw[bl];simp only[kY];rw[aq (by simp),af];rfl
 |s::q,pre,m,r,f+1,hf,hn,hm=>by
  simp only[bf,ai]at hf hn;have hi:pre.length<(pre++s::q).length:=by simp
  have hb:(pre++s::q)[pre.length]=s:=by simp
  rw[bl];simp only[kY];rw[au (by simp;omega),bu hi,hb];simp only[ah,ab,Jg l m d r _ hl hm];rw[rP];cases hq:(dj l m d r s).2.2 with
  |false=>simp only[bz,ah,af,gx M,ab];rfl
  |true=>
   simp only[aj,af,ah];rw[ak (n:=(pre.length:Int)+1)];have key:=Dv l d M A B2 B1 hl hM q (pre++[s]) (dj l m d r s).1 (dj l m d r s).2.1 f (by omega) (by simp;omega) (by rw[vH];exact hm);have el:((pre++[s]).length:Int)=(pre.length:Int)+1:=by simp
   rw[aZ,List.singleton_append,el]at key;exact key
theorem Xc (l:aw aF)(m:bO)(d:Int)(r:kO)(q:bO)(hl:l.length<=1000000000)(hm:m.length<=1000000000)(hq:q.length<=1000000000):jU l m d r q=some (vG l m d r q):=by have hfu:=eJ;unfold jU vG;rw[gx m,ab];exact Dv l d m r _ _ hl hm q [] m r fuel (by omega) (by simpa using hq) hm
theorem Mw (l:aw aF)(m:bO)(d:Int)(w:Bool):∀(n a r:Nat)(q:aw (Int×Int)),lD l m d w n a r=some q->q.length<=n
 |0,a,r,q,h=>by simp only[lD,br]at h;subst h;simp
 |n+1,a,r,q,h=>by simp only[lD]at h;split at h;simp only[br]at h;subst h;simp;split at h;simp only[Option.map_eq_some_iff]at h;obtain⟨q',h1,rfl⟩:=h;have:=Mw l m d w n _ _ q' h1;simp only[bf];omega;cases h
theorem IJ (l:aw aF)(m:bO)(d a n:Int)(w:Bool):(kE l m d a n w).1.length<=4096:=by
 unfold kE;cases hB:fY l&&(db m&&cX n 0 4096)with|false=>simp|true=>?_
 simp only[ae,aW]at hB;simp only[ah];cases n==0 with|true=>simp|false=>?_
 cases decide (a<0)with|true=>simp|false=>?_
 simp only[af];split;rename_i q hq;have:=Mw _ _ _ _ _ _ _ _ hq;show q.length<=4096;omega;simp
def wy (m:bO)(p:Int×Int):Bytes:=bif gF m p.1 p.2 then BQ m p.1.toNat p.2.toNat else []
theorem E6 (m:bO)(p:Int×Int):(wy m p).length<=8192:=by unfold wy;cases h:gF m p.1 p.2 with|false=>simp|true=>simp only[gF,ae,aH]at h;have:=aeC m p.1.toNat p.2.toNat;have:=(mem_iff.1 h.1).2;simp only[ah];omega
theorem vJ (m:bO):∀q:aw (Int×Int),(q.flatMap (wy m)).length<=8192*q.length
 |[]=>by simp
 |p::q=>by have:=vJ m q;have:=E6 m p;simp only[List.flatMap_cons,ai,bf];omega
def sy (l:aw aF)(m:bO)(d a n:Int):Bytes×Bool:=
 bif (kE l m d a n false).2 then((kE l m d a n false).1.flatMap (wy m),true) else([],false)
theorem Q6 {α β:Type}(g:α->aw β)(l:aw α)(i:Nat)(hi:i<l.length):(l.take (i+1)).flatMap g=(l.take i).flatMap g++g l[i]:=by rw[bp hi,List.flatMap_append];simp
theorem AM (l:aw aF)(m:bO)(d a n:Int)(hl:l.length<=1000000000)(hm:m.length<=1000000000)(ha:a<=9223372036854775807):ot l m d a n=some (sy l m d a n):=by
 unfold ot sy;rw[TV l m d a n false hl hm ha,ab];have hL:=IJ l m d a n false;generalize kE l m d a n false=r at hL⊢;cases hr:r.2 with|false=>rfl|true=>?_
 simp only[aj,af,ah];refine(dz (λi=>((r.1.take i).flatMap (wy m),(i:Int))) r.1.length (by omega) (λi nx hi=>?_) (λnx=>?_));simp only[tA];rw[jz,bu hi,ak];have e:pc m r.1[i].1 r.1[i].2=some (wy m r.1[i],gF m r.1[i].1 r.1[i].2):=by rw[adY m _ _ hm,wy];cases gF m r.1[i].1 r.1[i].2<;>rfl
 have h1:=vJ m (r.1.take i);have h2:=E6 m r.1[i];simp only[ah,ab,e];rw[aQ (by rw[aV]at h1;omega),<-Q6];rfl;simp only[tA];rw[iw,cO];rfl
theorem Lp (l:aw aF)(m:bO)(d a n:Int):(sy l m d a n).1.length<=100000000:=by have hL:=IJ l m d a n false;have h1:=vJ m (kE l m d a n false).1;unfold sy;cases (kE l m d a n false).2 with|false=>simp|true=>simp only[ah];omega
def B4 (s:Bytes):F4×Int×Bool:=
 bif ((s.length:Int) !=16)||decide (eO s 12>1) then((0,0,0,0,0),0,false) else((de s 0,de s 2,de s 4,de s 6,eO s 8),eO s 12,true)
theorem W3 (s:Bytes)(h:s.length<=1000000000):ln s=some (B4 s):=by
 unfold ln B4;cases (s.length:Int) !=16 with|true=>rfl|false=>?_
 simp only[wg s _ h,wh s _ h,ab,af,cP];cases decide (eO s 12>1)<;>rfl
def zZ (q:tt):Int:=bif decide (q.2.2<q.2.1) then 1 else 0
theorem OI (q:tt):vz q=some (zZ q):=by unfold vz zZ;cases decide (q.2.2<q.2.1)<;>rfl
theorem vI {q:tt}(h:gj q=true):0<=q.1/\q.1<=130944/\(q.2.1=2\/q.2.1=4\/q.2.1=8\/q.2.1=16)/\0<=q.2.2/\q.2.2<=2*q.2.1-1:=by simp only[gj,ae,aW]at h;obtain⟨h1,h2,h3⟩:=h;rw[zw h2]at h3;exact⟨h1.1,h1.2,ij.1 h2,h3⟩
def su (q:tt):Int:=q.1+Int.tmod q.2.2 q.2.1*16
theorem Sb {a:Int}(h:0<=a:=by omega)(hb:0<b:=by omega):0<=Int.tmod a b/\Int.tmod a b<b:=by rw[dE h];exact⟨fy _ (by omega),fC _ hb⟩
theorem RX {q:tt}(h:gj q=true):0<=Int.tmod q.2.2 q.2.1/\Int.tmod q.2.2 q.2.1<16:=by obtain⟨_,_,h3,h4,h5⟩:=vI h;have:=Sb h4 (show 0<q.2.1 by omega);omega
theorem OM (q:tt)(h:gj q=true):nC q=some (su q):=by obtain⟨h1,h2,h3,h4,h5⟩:=vI h;have:=RX h;unfold nC su;rw[nf,ak (n:=Int.tmod q.2.2 q.2.1*16),ak]
def aip (q:tt):tt:=(q.1,q.2.1,Int.tmod (q.2.2+1) (2*q.2.1))
def RE (l:aw aF)(m:bO)(d:Int)(q:tt):Bool:=
 gj q&&((sy l m d (su q) 16).2&&((B4 (sy l m d (su q) 16).1).2.2&&((B4 (sy l m d (su q) 16).1).2.1==zZ q)))
def sq (l:aw aF)(m:bO)(d:Int)(q:tt):F4×tt×Bool:=
 bif RE l m d q then((B4 (sy l m d (su q) 16).1).1,aip q,true) else((0,0,0,0,0),q,false)
theorem adV (l:aw aF)(m:bO)(d:Int)(q:tt)(hl:l.length<=1000000000)(hm:m.length<=1000000000):mT l m d q=some (sq l m d q):=by
 unfold mT sq RE;rw[H4 q,ab];cases hq:gj q with|false=>rfl|true=>?_
 obtain⟨h1,h2,h3,h4,h5⟩:=vI hq;have hs:=RX hq;have hd:=Lp l m d (su q) 16;simp only[aj,af,OM q hq,ab,AM l m d (su q) 16 hl hm (by unfold su;omega),bq];cases (sy l m d (su q) 16).2 with|false=>rfl|true=>?_
 simp only[aj,af,W3 _ (bt hd (by omega)),ab,bq];cases (B4 (sy l m d (su q) 16).1).2.2 with|false=>rfl|true=>?_
 simp only[aj,af,OI,ab,bq,bne];cases (B4 (sy l m d (su q) 16).1).2.1==zZ q with|false=>rfl|true=>?_
 simp only[aj,af,ah];rw[ak (n:=2*q.2.1),nf,ak (n:=q.2.2+1)];rfl
theorem agG (p:dw)(i:Int):oT p i= -1\/(0<=oT p i/\oT p i<=200000):=by
 unfold oT;cases hp:dT p with|false=>exact .inl rfl|true=>?_
 cases hi:cX i 0 (p.2.2.1-1)with|false=>exact .inl rfl|true=>?_
 have h:=yE hp;have h2:=aW.1 hi;have h3:0<=i*p.2.1:=Int.mul_nonneg h2.1 (by omega);have h4:i*p.2.1<=16*512:=Int.mul_le_mul (by omega) (by omega) (by omega) (by omega);simp only[aj,cz,af];exact .inr (by omega)
def ajO (l:aw aF)(m:bO)(d a n:Int):Bool:=(sy l m d a n).2&&((jP (sy l m d a n).1).2==0)
def DK (l:aw aF)(m:bO)(d:Int)(s:aw Stream×cy×dw):aw Stream×cy×dw:=
 ((bif ajO l m d (oT s.2.2 (sq l m d s.2.1.2.2.1).1.1) (sq l m d s.2.1.2.2.1).1.2.1 then Dg s.1 (jP (sy l m d (oT s.2.2 (sq l m d s.2.1.2.2.1).1.1) (sq l m d s.2.1.2.2.1).1.2.1).1).1 else s.1),
   (s.2.1.1,s.2.1.2.1,(sq l m d s.2.1.2.2.1).2.1,s.2.1.2.2.2),(Fy s.2.2 [(sq l m d s.2.1.2.2.1).1.1]).1)
def kf (l:aw aF)(m:bO)(d:Int):Nat->aw Stream×cy×dw->Nat×(aw Stream×cy×dw)
 |0,s=>(0,s)
 |k+1,s=>bif !(sq l m d s.2.1.2.2.1).2.2 then(0,s) else((kf l m d k (DK l m d s)).1+1,(kf l m d k (DK l m d s)).2)
structure HI (n:Nat) (s:List Stream×cy×dw):Prop where
 st:dk n (.sl fB) s.1
 pl:s.2.2.2.2.2.length<=n
theorem Ts (p:dw)(l:bZ):(Fy p l).1.2.2.2.length<=p.2.2.2.length+l.length:=by unfold Fy;cases Bz p l with|false=>show p.2.2.2.length<=_;omega|true=>simp[gS]
theorem MB {s:aw Stream×cy×dw}(h:HI n s):HI (n+322) (DK l m d s):=by
 refine⟨?_,?_⟩;unfold DK;cases ajO l m d (oT s.2.2 (sq l m d s.2.1.2.2.1).1.1) (sq l m d s.2.1.2.2.1).1.2.1 with|false=>exact h.st.mono|true=>exact QW h.st
 have:=Ts s.2.2 [(sq l m d s.2.1.2.2.1).1.1];have h2:=h.pl;show(Fy s.2.2 [(sq l m d s.2.1.2.2.1).1.1]).1.2.2.2.length<=_;simp only[ba]at this;omega
theorem GJ {R:Type}(K:aw Stream->Int->cy->dw->az R)(l:aw aF)(m:bO)(d:Int)(N:Nat)(hN:N<=1000)(B1:bO)(B2:cy)(B3:dw)(hl:l.length<=1000000000)(hm:m.length<=1000000000):∀(k i:Nat)(s:aw Stream×cy×dw)(f:Nat),i+k=N->k<f->HI (500000000+322*i) s->
 bl (mf K l d (N:Int) B1 B2 B3 m) f (s.1,(i:Int),s.2.1,s.2.2)=K (kf l m d k s).2.1 ((i+(kf l m d k s).1:Nat):Int) (kf l m d k s).2.2.1 (kf l m d k s).2.2.2
 |k,i,s,0,_,hf,_=>by omega
 |0,i,s,f+1,hi,hf,z=>by rw[bl];simp only[mf];rw[iw,af];rfl
 |k+1,i,s,f+1,hi,hf,z=>by have hst:dk 900000000 (.sl fB) s.1:=z.st.mono;have hpl:s.2.2.2.2.2.length<=900000000:=bt z.pl (by omega);rw[bl];simp only[mf];rw[jz];simp only[ah,adV l m d _ hl hm,ab,kf];cases hnx:(sq l m d s.2.1.2.2.1).2.2 with|false=>rfl|true=>have key:=GJ K l m d N hN B1 B2 B3 hl hm k (i+1) (DK l m d s) f (by omega) (by omega) ((MB z).st.mono|>λa=>⟨a,bt (MB z).pl (by omega)⟩);rw[show i+1+(kf l m d k (DK l m d s)).1=i+((kf l m d k (DK l m d s)).1+1) by omega]at key;simp only[aj,af];rw[<-key];unfold DK;generalize sq l m d s.2.1.2.2.1=c;have ha:=agG s.2.2 c.1.1;have hd:=Lp l m d (oT s.2.2 c.1.1) c.1.2.1;simp only[GC _ _ (show s.2.2.2.2.2.length<=1000000000 by omega),AM l m d _ c.1.2.1 hl hm (show oT s.2.2 c.1.1<=9223372036854775807 by omega),ab,Es _ (bt hd (by omega)),Ri _ _ hst,L0 s.2.2 [c.1.1] (show s.2.2.2.2.2.length+1<=1000000000 by omega)];rw[ak (n:=(i:Int)+1),show((i+1:Nat):Int)=(i:Int)+1 by omega];unfold ajO;cases (sy l m d (oT s.2.2 c.1.1) c.1.2.1).2<;>cases (jP (sy l m d (oT s.2.2 c.1.1) c.1.2.1).1).2==0<;>rfl
theorem MA {l:aw aF}{m:bO}{d:Int}:∀(k:Nat){s:aw Stream×cy×dw}{n:Nat},HI n s->HI (n+322*k) (kf l m d k s).2
 |0,s,n,h=>h
 |k+1,s,n,h=>by rw[kf];cases (sq l m d s.2.1.2.2.1).2.2 with|false=>exact⟨h.st.mono,bt h.pl (by omega)⟩|true=>have:=MA (l:=l) (m:=m) (d:=d) k (MB (l:=l) (m:=m) (d:=d) h);exact⟨this.st.mono,bt this.pl (by omega)⟩
def jO (l:aw aF)(m:bO)(d:Int)(rx:cy)(pl:dw)(st:aw Stream)(n:Int):bO×cy×dw×aw Stream×Int:=
 bif !F6 rx||(!dT pl|| !cX n 0 1000) then(m,rx,pl,st,0) else
 ((uu l m d (kf l m d n.toNat (st,rx,pl)).2.2.1.1 (kf l m d n.toNat (st,rx,pl)).2.2.2).1,
   ((uu l m d (kf l m d n.toNat (st,rx,pl)).2.2.1.1 (kf l m d n.toNat (st,rx,pl)).2.2.2).2.1,(kf l m d n.toNat (st,rx,pl)).2.2.1.2),
   (uu l m d (kf l m d n.toNat (st,rx,pl)).2.2.1.1 (kf l m d n.toNat (st,rx,pl)).2.2.2).2.2.1,(kf l m d n.toNat (st,rx,pl)).2.1,((kf l m d n.toNat (st,rx,pl)).1:Int))
theorem TT (l:aw aF)(m:bO)(d:Int)(rx:cy)(pl:dw)(st:aw Stream)(n:Int)(hl:l.length<=1000000000)(hm:m.length<=1000000000)(hp:pl.2.2.2.length<=500000000)(hs:dk 500000000 (.sl fB) st):vj l m d rx pl st n=some (jO l m d rx pl st n):=by
 have hfu:=eJ;have hsl:st.length<=500000000:=hs.1;unfold vj jO;simp only[gx m (show m.length<=1073741824 by omega),uo pl (show pl.2.2.2.length<=1000000000 by omega),yf st,Rq,uT pl (show pl.2.2.2.length<=1000000000 by omega),cn,ab];cases F6 rx with|false=>rfl|true=>?_
 cases dT pl with|false=>rfl|true=>?_
 cases hn:cX n 0 1000 with|false=>rfl|true=>?_
 have h:=aW.1 hn;obtain⟨n,rfl⟩:=aR h.1;simp only[aj,af,ab,cz,ax];have z:HI (500000000+322*0) (st,rx,pl):=⟨hs,hp⟩
 have hz:=MA (l:=l) (m:=m) (d:=d) n z;refine(GJ _ l m d n (by omega) _ _ _ hl hm n 0 (st,rx,pl) fuel (by omega) (by omega) z).trans ?_;rw[cw];simp only[TP l m d _ _ hl hm (show(kf l m d n (st,rx,pl)).2.2.2.2.2.2.length<=1000000000 from bt hz.pl (by omega)),ab]
def gW (i:Nat):Int:=1280+(i:Int)*1792
theorem Yy (h:i<=8):ar (1280+ar ((i:Int)*1792))=gW i:=by rw[ak (n:=(i:Int)*1792),ak];rfl
theorem TJ (i:Nat)(h:i<=8):qM (i:Int)=some (gW i):=by rw[qM,Yy h]
theorem oH (a b n:Int)(h:n<=1000:=by omega):(ig a b n).1.2.2.2.length<=1000:=by unfold ig;cases dT (a,b,n,[])with|false=>simp|true=>simp[upto];omega
def DS (i:Nat):cy:=((gW i,4,0,0),(gW i+64,4,0),(gW i+64,4,0),((0,0,0,0,0,0,0,0,0,0,0,0,0,0,0,([]:Bytes)),0,0),false,0)
theorem aa4 (i:Nat)(h:i<=8):wk (i:Int)=some (DS i,(ig (gW i+128) 384 4).1):=by have hb:gW i=1280+(i:Int)*1792:=rfl;simp only[wk,TJ i h,ab];rw[ak (n:=gW i+128),ak (n:=gW i+64),Je];rfl
def C2:eC:=((0,16,0,0),(ig 256 128 8).1,([]:aw oe),0)
theorem abh:Ch=some C2:=by rw[Ch,Je];rfl
theorem Ps:xw=some C2:=by rw[xw,Jw];rfl
def sr (l:aw aF)(m:bO)(i:Nat):bO×kO×dw×Int:=
 uu l (iy l m 0 (gW i) (vZ 128) false).1 0 (gW i,4,0,0) (ig (gW i+128) 384 4).1
def O2 (h:Host)(i:Nat):Host:=
 ((sr h.2.1 h.1 i).1,h.2.1,h.2.2.1,h.2.2.2.1.set i ((sr h.2.1 h.1 i).2.1,(gW i+64,4,0),(gW i+64,4,0),((0,0,0,0,0,0,0,0,0,0,0,0,0,0,0,([]:Bytes)),0,0),false,(match h.2.2.2.1[i]? with|some x=>x.2.2.2.2.2|none=>0)),h.2.2.2.2.1.set i (sr h.2.1 h.1 i).2.2.1,h.2.2.2.2.2)
theorem VC (h:Host)(i:Nat)(hi:i<=8)(h1:i<h.2.2.2.1.length)(h2:i<h.2.2.2.2.1.length)(hl:h.2.1.length<=1000000000)(hm:h.1.length<=1000000000):vV h (i:Int)=some ((),O2 h i):=by have hb:gW i=1280+(i:Int)*1792:=rfl;have hz:gv 128 0=some (vZ 128):=MT 128;have hf:=aeS h.2.1 (iy h.2.1 h.1 0 (gW i) (vZ 128) false).1 0 (gW i,4,0,0) (ig (gW i+128) 384 4).1 hl (by rw[kh];exact hm) (bt (oH (gW i+128) 384 4) (by omega));unfold vV;simp only[Yy hi];rw[ak (n:=gW i+128),ak (n:=gW i+64),Jw,hz];simp only[bu h1,bu h2,ab,NU h.2.1 h.1 0 (gW i) (vZ 128) hl hm (by omega),hf,ax,O2,sr,al h1]
def wu (h:Host)(i:Nat)(n:Int):Int×Host:=
 match h.2.2.2.1[i]?,h.2.2.2.2.1[i]? with
 |some rx,some pl=>
  ((jO h.2.1 h.1 0 rx pl h.2.2.2.2.2.2.2.2.2.1 n).2.2.2.2,(jO h.2.1 h.1 0 rx pl h.2.2.2.2.2.2.2.2.2.1 n).1,h.2.1,h.2.2.1,h.2.2.2.1.set i (jO h.2.1 h.1 0 rx pl h.2.2.2.2.2.2.2.2.2.1 n).2.1,h.2.2.2.2.1.set i (jO h.2.1 h.1 0 rx pl h.2.2.2.2.2.2.2.2.2.1 n).2.2.1,h.2.2.2.2.2.1,h.2.2.2.2.2.2.1,h.2.2.2.2.2.2.2.1,h.2.2.2.2.2.2.2.2.1,(jO h.2.1 h.1 0 rx pl h.2.2.2.2.2.2.2.2.2.1 n).2.2.2.1,h.2.2.2.2.2.2.2.2.2.2)
 |_,_=>(0,h)
theorem Rp (h:Host)(i:Nat)(n:Int)(h1:i<h.2.2.2.1.length)(h2:i<h.2.2.2.2.1.length)(z:dk 500000000 dD h):kC h (i:Int) n=some (wu h i n):=by have hl:h.2.1.length<=500000000:=z.2.1.1;have hm:h.1.length<=500000000:=z.1.1;have hp:h.2.2.2.2.1[i].2.2.2.length<=500000000:=(z.2.2.2.2.1.2 _ (aN h2)).2.2.2.1;unfold kC;simp only[bu h1,bu h2,ab,TT h.2.1 h.1 0 _ _ _ n (show h.2.1.length<=1000000000 by omega) (show h.1.length<=1000000000 by omega) hp z.2.2.2.2.2.2.2.2.2.1,ax,wu,al h1,al h2]
theorem mn {t:CT}{l:aw t.D}{x:t.D}(z:dk n (.sl t) l)(hx:dk n t x):dk n (.sl t) (l.set i x):=by refine⟨?_,λy hy=>?_⟩;show(l.set i x).length<=n;rw[aB];exact z.1;rcases dp hy with h|h;exact z.2 y h;rw[h];exact hx
theorem O6 (hn:128<=n)(h:Bo m):dk n (.sl .str) m:=⟨bt h.2 (by omega),λx hx=>bt (Nat.le_of_eq (h.1 x hx)) hn⟩
theorem V0 (hn:128<=n)(z:dk n (.sl .str) m)(a:Int)(s:Bytes):dk n (.sl .str) (oQ m a s).1:=by
 unfold oQ;cases hw:gF m a (s.length:Int)with|false=>exact z|true=>?_
 simp only[gF,ae,aH]at hw;exact O6 hn (zd s.length (pL.1 hw.1) (by omega)).1
theorem Ve {n:Nat}(hn:128<=n):∀(q:aw (Int×Int)){m:bO}(s:Bytes),dk n (.sl .str) m->dk n (.sl .str) (IB q m s)
 |[],m,s,z=>z
 |p::q,m,s,z=>Ve hn q _ (V0 hn z _ _)
theorem DM (hn:128<=n)(z:dk n (.sl .str) m)(l:aw aF)(d a:Int)(s:Bytes)(w:Bool):dk n (.sl .str) (iy l m d a s w).1:=by unfold iy;cases (kE l m d a (s.length:Int) w).2 with|false=>exact z|true=>exact Ve hn _ _ z
theorem Hc (hn:128<=n)(z:dk n (.sl .str) m)(l:aw aF)(d:Int)(r:kO)(s:Bytes):dk n (.sl .str) (dj l m d r s).1:=by
 unfold dj;cases (oV r==0)||((s.length:Int) !=16)with|true=>exact z|false=>?_
 cases (iy l m d (pj r r.2.2.2) s true).2 with|false=>exact z|true=>exact DM hn z ..
theorem Oi {n:Nat}(hn:128<=n)(l:aw aF)(d:Int)(p:dw):∀(q:bZ){m:bO}(r:kO),dk n (.sl .str) m->dk n (.sl .str) (mK l d p q m r).2.1
 |[],m,r,z=>z
 |b::q,m,r,z=>by rw[mK];cases (dj l m d r (fF p b)).2.2 with|false=>exact z|true=>exact Oi hn l d p q _ (Hc hn z ..)
theorem Oj (hn:128<=n)(z:dk n (.sl .str) m)(l:aw aF)(d:Int)(r:kO)(p:dw):dk n (.sl .str) (uu l m d r p).1:=by unfold uu;cases !dv r|| !dT p with|true=>exact z|false=>exact Oi hn _ _ _ _ _ z
theorem Ze (l:aw aF)(m:bO)(d:Int)(r:kO)(p:dw):(uu l m d r p).1.length=m.length:=by unfold uu;cases !dv r|| !dT p with|true=>rfl|false=>exact(HU ..).1
theorem Ft (l:aw aF)(m:bO)(d:Int)(r:kO)(p:dw):(uu l m d r p).2.2.1.2.2.2.length<=p.2.2.2.length:=by unfold uu;cases !dv r|| !dT p with|true=>exact bh _|false=>show(p.2.2.2.drop _).length<=_;rw[aK];omega
theorem U6 (l:aw aF)(m:bO)(d:Int):∀(k:Nat)(s:aw Stream×cy×dw),(kf l m d k s).2.2.1.2.2.2=s.2.1.2.2.2/\(kf l m d k s).1<=k
 |0,s=>⟨rfl,bh _⟩
 |k+1,s=>by rw[kf];cases (sq l m d s.2.1.2.2.1).2.2 with|false=>exact⟨rfl,cf _⟩|true=>have:=U6 l m d k (DK l m d s);simp only[aj,af];exact⟨this.1,by omega⟩
theorem Pa (hn:128<=n){rx:cy}{pl:dw}{st:aw Stream}(c:Int)(zm:dk n (.sl .str) m)(zr:dk n eS rx)(zp:dk n jY pl)(zs:dk n (.sl fB) st): dk n (.sl .str) (jO l m d rx pl st c).1/\dk n eS (jO l m d rx pl st c).2.1/\dk (n+322000) jY (jO l m d rx pl st c).2.2.1/\dk (n+322000) (.sl fB) (jO l m d rx pl st c).2.2.2.1/\0<=(jO l m d rx pl st c).2.2.2.2/\(jO l m d rx pl st c).2.2.2.2<=1000:=by
 unfold jO;cases hc: !F6 rx||(!dT pl|| !cX c 0 1000)with
 |true=>exact⟨zm,zr,zp.mono,zs.mono,cK _,by show(0:Int)<=1000;omega⟩
 |false=>
  have hi:cX c 0 1000=true:=by cases h:cX c 0 1000 with|true=>rfl|false=>rw[h]at hc;simp at hc
  have h:=aW.1 hi;have z:=MA (l:=l) (m:=m) (d:=d) c.toNat (s:=(st,rx,pl)) (n:=n) ⟨zs,zp.2.2.2.1⟩;have hx:=U6 l m d c.toNat (st,rx,pl);refine⟨Oj hn zm ..,⟨?_,?_,?_,?_⟩,⟨cx,cx,cx,?_,λ_ _=>trivial⟩,z.st.mono,by show(0:Int)<=((kf l m d c.toNat (st,rx,pl)).1:Int);omega,by show((kf l m d c.toNat (st,rx,pl)).1:Int)<=1000;omega⟩;exact⟨cx,cx,cx,cx⟩;exact⟨cx,cx,cx⟩;exact⟨cx,cx,cx⟩;have e:=congrArg (λq=>dk n eS (rx.1,rx.2.1,rx.2.2.1,q)) hx.1;exact(e.mpr zr).2.2.2;have:=Ft l m d (kf l m d c.toNat (st,rx,pl)).2.2.1.1 (kf l m d c.toNat (st,rx,pl)).2.2.2;have h2:=z.pl;show(uu l m d (kf l m d c.toNat (st,rx,pl)).2.2.1.1 (kf l m d c.toNat (st,rx,pl)).2.2.2).2.2.1.2.2.2.length<=_;omega
theorem XT (hn:128<=n)(i:Nat)(c:Int)(z:dk n dD h):dk (n+322000) dD (wu h i c).2:=by
 unfold wu;cases h1:h.2.2.2.1[i]? with|none=>exact z.mono|some rx=>?_
 cases h2:h.2.2.2.2.1[i]? with|none=>exact z.mono|some pl=>?_
 have zr:=z.2.2.2.1.2 _ (aX h1);have zp:=z.2.2.2.2.1.2 _ (aX h2);have hp:=Pa hn (l:=h.2.1) (d:=0) c z.1 zr zp z.2.2.2.2.2.2.2.2.2.1;have z':dk (n+322000) dD h:=z.mono;exact⟨hp.1.mono,z'.2.1,z'.2.2.1,mn z'.2.2.2.1 (hp.2.1.mono),mn z'.2.2.2.2.1 hp.2.2.1,z'.2.2.2.2.2.1,z'.2.2.2.2.2.2.1,z'.2.2.2.2.2.2.2.1,z'.2.2.2.2.2.2.2.2.1,hp.2.2.2.1,z'.2.2.2.2.2.2.2.2.2.2⟩
def bC (l:aw aF)(m:bO)(d:Int)(r:kO):Bytes×kO×Bool:=
 bif !dv r||(bT r==0) then([],r,false) else
 bif !(sy l m d (pj r r.2.2.1) 16).2 then([],r,false) else
 ((sy l m d (pj r r.2.2.1) 16).1,(r.1,r.2.1,Int.tmod (r.2.2.1+1) (2*r.2.1),r.2.2.2),true)
theorem GP (l:aw aF)(m:bO)(d:Int)(r:kO)(hl:l.length<=1000000000)(hm:m.length<=1000000000):sU l m d r=some (bC l m d r):=by
 have hA:=DX r r.2.2.1;unfold sU bC;simp only[xG,zO,ab,OL,AM l m d _ 16 hl hm (show pj r r.2.2.1<=9223372036854775807 by omega)];cases hb:dv r with|false=>rfl|true=>?_
 have h:=ly hb;cases bT r==0 with|true=>rfl|false=>?_
 simp only[aj,af,ab,cz];cases (sy l m d (pj r r.2.2.1) 16).2 with|false=>rfl|true=>?_
 simp only[aj,af];rw[ak (n:=2*r.2.1),nf,ak (n:=r.2.2.1+1)]
theorem Ff (l:aw aF)(m:bO)(d:Int)(r:kO):(bC l m d r).1.length<=100000000:=by
 unfold bC;cases !dv r||(bT r==0)with|true=>exact cf _|false=>?_
 cases (sy l m d (pj r r.2.2.1) 16).2 with|false=>exact cf _|true=>exact Lp ..
theorem D2 (h:(bC l m d r).2.2=true): dv (bC l m d r).2.1=true/\bT (bC l m d r).2.1=bT r-1/\(bC l m d r).2.1.1=r.1/\(bC l m d r).2.1.2.1=r.2.1/\(bC l m d r).2.1.2.2.2=r.2.2.2:=by
 unfold bC at h⊢;cases hb:dv r with|false=>rw[hb]at h;cases h|true=>?_
 cases hu:bT r==0 with|true=>rw[hb,hu]at h;cases h|false=>?_
 cases hd:(sy l m d (pj r r.2.2.1) 16).2 with|false=>rw[hb,hu,hd]at h;cases h|true=>?_
 simp only[aj,cz,af];have hr:=ly hb;have hq:=hb;simp only[dv,ae,aH]at hq;have h1:=hq.2.2.2.2;have hs:=hq.2.1;have hu':bT r≠0:=by simpa using hu
 have e:Int.tmod (r.2.2.1+1) (2*r.2.1)=(r.2.2.1+1)%(2*r.2.1):=dE (by omega);rw[e];unfold bT at h1 hu'⊢;simp only[hs,cg]at h1 hu'⊢;have key:(r.2.2.2-(r.2.2.1+1)%(2*r.2.1))%(2*r.2.1)=(r.2.2.2-r.2.2.1)%(2*r.2.1)-1/\0<=(r.2.2.1+1)%(2*r.2.1)/\(r.2.2.1+1)%(2*r.2.1)<=2*r.2.1-1:=by rcases hr.2.2.1 with hn|hn|hn|hn<;>rw[hn]at h1 hu' hr⊢<;>omega
 refine⟨?_,key.1,cx,cx,cx⟩;simp only[dv,bT,hs,cg,ae,aH,aW];refine⟨by omega,cx,by omega,by omega,?_⟩;rw[key.1];omega
theorem xU (h:dv r=true):0<=bT r/\bT r<=16:=by have hr:=ly h;have hq:=h;simp only[dv,ae,aH]at hq;refine⟨?_,by have:=hq.2.2.2.2;omega⟩;unfold bT;rw[hq.2.1,aE rfl];exact fy _ (by omega)
def I0:Eb:=(0,0,0,0,0,0)
def Dh (s:Bytes):Eb:=((bX s 0:Int),(bX s 1:Int),de s 2,eO s 4,de s 8,de s 10)
def dq (s:Bytes):Eb×Bool:=
 bif ((s.length:Int) !=16) then(I0,false) else bif !(yq (Dh s)==s) then(I0,false) else(Dh s,true)
theorem TM (s:Bytes)(h:s.length<=1000000000):oX s=some (dq s):=by
 unfold oX dq;cases hn:(s.length:Int) !=16 with|true=>rfl|false=>?_
 have hl:s.length=16:=by
  have:((s.length:Int)==16)=true:=by simpa using hn
  have:=bB this;omega
 have b0:=tw (s[0]'(by omega));have b1:=tw (s[1]'(by omega));have i0:idx s 0=some (s[0]'(by omega)):=bu (i:=0) (by omega);have i1:idx s 1=some (s[1]'(by omega)):=bu (i:=1) (by omega);have e:(((s[0]'(by omega)).toNat:Int),((s[1]'(by omega)).toNat:Int),de s 2,eO s 4,de s 8,de s 10)=Dh s:=by simp only[Dh,bX,cG (show 0<s.length by omega),cG (show 1<s.length by omega)]
 simp only[af,i0,i1,ab,wg s _ h,wh s _ h];rw[je (n:=(s[0]'(by omega)).toNat),je (n:=(s[1]'(by omega)).toNat),e,Rk,ab];cases yq (Dh s)==s<;>rfl
theorem WB (h:(dq s).2=true):uq (dq s).1=true:=by
 unfold dq at h⊢;cases hn:(s.length:Int) !=16 with|true=>rw[hn]at h;cases h|false=>?_
 cases he:yq (Dh s)==s with|false=>rw[hn,he]at h;cases h|true=>?_
 simp only[af,aj];cases hd:uq (Dh s)with
 |true=>rfl
 |false=>
  have:yq (Dh s)=[]:=by unfold yq;rw[hd];rfl
  rw[this]at he;cases s with|nil=>simp at hn|cons x y=>cases he
def WD (x:Eb):Bool:=bif x.1==1 then(ar (BitVec.toNat (gX x.2.1&&&gX 1))) !=0 else false
def uL (l:aw aF)(m:bO)(d:Int):Nat->aw Eb->kO->aw Eb×kO×Bool
 |0,acc,r=>(acc,r,true)
 |n+1,acc,r=>
  bif !(bC l m d r).2.2|| !(dq (bC l m d r).1).2 then([],(r.1,r.2.1,r.2.2.2,r.2.2.2),false) else
  bif WD (dq (bC l m d r).1).1 then(acc++[(dq (bC l m d r).1).1],(bC l m d r).2.1,true) else
  uL l m d n (acc++[(dq (bC l m d r).1).1]) (bC l m d r).2.1
def dC (l:aw aF)(m:bO)(d:Int)(r:kO):aw Eb×kO×Bool:=
 bif !dv r||(bT r==0) then([],r,false) else uL l m d (bT r).toNat [] r
theorem ET {R:Type}(k0:aw Eb->kO->az R)(k1:aw Eb->Bool->aw Eb->kO->kO->az R)(K:aw Eb×kO×Bool->az R)
 (h0:∀a r,k0 a r=K (a,r,true)) (l:aw aF) (m:bO) (d:Int) (B E:kO) (h1:∀a r,k1 [] false a r E=K ([],E,false)) (hl:l.length<=1000000000) (hm:m.length<=1000000000):∀(n:Nat)(acc:aw Eb)(r:kO)(f:Nat),
 n<f->dv r=true->(bT r).toNat=n->acc.length+n<=1000->E=(r.1,r.2.1,r.2.2.2,r.2.2.2)->bl (mj k0 k1 l d ([]:aw Eb) false m B E) f (acc,r)=K (uL l m d n acc r)
 |n,acc,r,0,hf,_,_,_,_=>by omega
 |0,acc,r,f+1,hf,hb,hu,ha,hE=>by rw[bl];simp only[mj,zO,ab];rw[iw,af,h0];rfl
 |n+1,acc,r,f+1,hf,hb,hu,ha,hE=>by
  have hlen:=Ff l m d r;have hk:=D2 (l:=l) (m:=m) (d:=d) (r:=r);rw[bl];simp only[mj,zO,ab];rw[jz,ah,GP l m d r hl hm,ab,uL];generalize bC l m d r=t at hlen hk⊢;cases ht:t.2.2 with
  |false=>simp only[bz,ah,il,<-hE,h1]
  |true=>
   have hk:=hk ht;simp only[aj,af,cP];rw[TM _ (show t.1.length<=1000000000 by omega),ab];generalize dq t.1=x;cases x.2 with
   |false=>simp only[bz,ah,<-hE,h1]
   |true=>
    simp only[aj,af];rw[aQ (by rw[ba];omega)];have e:(aa (cond (x.1.1==1) (some ((ar (BitVec.toNat (gX x.1.2.1&&&gX 1))) !=0)) (some false)):(Bool->az R)->az R)=λK=>K (WD x.1):=by funext K;unfold WD;cases x.1.1==1<;>rfl
    rw[e];cases WD x.1 with|true=>simp only[ah,h0]|false=>simp only[af];exact ET k0 k1 K h0 l m d B E h1 hl hm n _ _ f (by omega) hk.1 (by omega) (by simp;omega) (by rw[hE,hk.2.2.1,hk.2.2.2.1,hk.2.2.2.2])
theorem NG (l:aw aF)(m:bO)(d:Int)(r:kO)(hl:l.length<=1000000000)(hm:m.length<=1000000000):vp l m d r=some (dC l m d r):=by
 have hfu:=eJ;unfold vp dC;simp only[xG,zO,ab];cases hb:dv r with|false=>rfl|true=>?_
 cases bT r==0 with|true=>rfl|false=>?_
 have hu:=xU hb;simp only[aj,af,ab,cz];exact ET _ _ (λx=>some x) (λ_ _=>rfl) l m d _ _ (λ_ _=>rfl) hl hm _ [] r fuel (by omega) hb rfl (by simp;omega) rfl
def Aa (x:Int×Int):Bool:=decide (x.1<0)|| !cX x.2 0 4096
def oJ (l:aw (Int×Int)):Bool:= !l.any Aa&&decide ((l.length:Int)<=16)
theorem XQ (l:aw (Int×Int)):(bif l.any Aa then some false else some (decide ((l.length:Int)<=16)))=some (oJ l):=by unfold oJ;cases l.any Aa<;>rfl
theorem L2 (l:aw (Int×Int))(h:l.length<=1000000000):sS l=some (oJ l):=by
 unfold sS;rw[<-XQ];refine Gb Aa l (by omega) (λi hi nx=>?_) (λnx=>?_);simp only[rr];rw[jz,ah,bu hi,ab,cn,ak];unfold Aa;cases decide (l[i].1<0)with|true=>rfl|false=>simp only[af,ab,cP];rfl
 simp only[rr];rw[iw,af]
theorem Ix {l:aw (Int×Int)}(h:oJ l=true):l.length<=16/\∀x∈l,0<=x.1/\0<=x.2/\x.2<=4096:=by unfold oJ at h;simp only[ae,aH,aJ]at h;refine⟨by omega,λx hx=>?_⟩;have:=List.any_eq_false.1 h.1 x hx;unfold Aa at this;simp only[cQ,aH,aJ,not_or,Bool.not_eq_false,aW]at this;omega
def dsc (n:Nat)(c:Int)(i:Nat)(x:Int×Int):Eb:=(1,(if i+1=n then 1 else 0),x.2,x.1,0,c)
def yl (ps:aw (Int×Int))(c:Int):Nat->aw Eb
 |0=>[]
 |i+1=>yl ps c i++[dsc ps.length c i (ps.getD i (0,0))]
theorem Bv (ps:aw (Int×Int))(c:Int):∀i,(yl ps c i).length=i
 |0=>rfl
 |i+1=>by rw[yl,ai,Bv ps c i];rfl
theorem HQ (ps:aw (Int×Int))(c:Int)(q:Eb->Bool):∀i,(yl ps c i).all q=(List.range i).all (λj=>q (dsc ps.length c j (ps.getD j (0,0))))
 |0=>rfl
 |i+1=>by rw[yl,List.all_append,HQ ps c q i,gJ,List.all_append];rfl
def qz (ps:aw (Int×Int))(z c:Int):aw Eb:=
 bif ((ps.length:Int)==0)||(!oJ ps|| !cX z 1 128) then [] else
 bif ([(2,0,0,0,z,c)]++yl ps c ps.length).all uq then [(2,0,0,0,z,c)]++yl ps c ps.length else []
theorem Cc (ps:aw (Int×Int))(z c:Int)(h:ps.length<=1000000000:=by omega):∃b,iR ps z c=some (b,qz ps z c)/\(b=false->qz ps z c=[]):=by
 unfold iR qz;rw[L2 ps h,cn];simp only[ab];cases ((ps.length:Int)==0)with|true=>exact⟨false,rfl,λ_=>rfl⟩|false=>?_
 cases oJ ps with|false=>exact⟨false,rfl,λ_=>rfl⟩|true=>?_
 cases cX z 1 128 with|false=>exact⟨false,rfl,λ_=>rfl⟩|true=>?_
 simp only[aj,af,ab,cz];refine⟨([(2,0,0,0,z,c)]++yl ps c ps.length).all uq,?_,λhb=>by rw[hb];rfl⟩;refine dz (λi=>(([(2,0,0,0,z,c)]++yl ps c i,(i:Int)):aw Eb×Int)) ps.length (by omega) (λi nx hi=>?_) (λnx=>?_);have hl:=Bv ps c i;simp only[km];rw[jz,ah,bu hi,ab,ak (n:=(ps.length:Int)-1),ak];have e:[(2,0,0,0,z,c)]++yl ps c (i+1)=([(2,0,0,0,z,c)]++yl ps c i)++[dsc ps.length c i ps[i]]:=by rw[yl,cG hi,aZ]
 rw[e];unfold dsc;by_cases hc:i+1=ps.length;rw[show((i:Int)==(ps.length:Int)-1)=true from by rw[bm];omega,aE hc];simp only[ah];rw[aQ (by simp only[ai,ba];omega)];rfl;rw[show((i:Int)==(ps.length:Int)-1)=false from by rw[cl];omega,aD hc];simp only[af];rw[aQ (by simp only[ai,ba];omega)];rfl;simp only[km];rw[iw,af];have hl:=Bv ps c ps.length;generalize hq:[(2,0,0,0,z,c)]++yl ps c ps.length=q;have hn:q.length<=1000000001:=by rw[<-hq];simp only[ai,ba];omega
 rw[qY (fin:=some (true,q)) (hit:=some (false,[])) uq q (by omega) (λi hi nx=>?_) (λnx=>?_)];cases q.all uq<;>rfl;simp only[jM];rw[jz,ah,bu hi,ab,TN,ab,ak];rfl;simp only[jM];rw[iw,af]
def ML (x y:Eb):Bool:=(x.1==y.1)&&((x.2.1==y.2.1)&&((x.2.2.1==y.2.2.1)&&((x.2.2.2.1==y.2.2.2.1)&&((x.2.2.2.2.1==y.2.2.2.2.1)&&((x.2.2.2.2.2==y.2.2.2.2.2)&&true)))))
def IK (a b:aw Eb):Bool:=((a.length:Int)==(b.length:Int))&&(List.range a.length).all λi=>ML (a.getD i I0) (b.getD i I0)
def lf (l:aw Eb):aw (Int×Int):=(l.drop 1).map λx=>(x.2.2.2.1,x.2.2.1)
def fZ (l:aw Eb):aw (Int×Int)×Int×Int×Bool:=
 match l with
 |h::x::r=>bif IK (qz (lf l) h.2.2.2.2.1 h.2.2.2.2.2) l then(lf l,h.2.2.2.2.1,h.2.2.2.2.2,true) else([],0,0,false)
 |_=>([],0,0,false)
theorem aay (ps:aw (Int×Int))(z c:Int):(qz ps z c).length<=ps.length+1:=by
 unfold qz;cases ((ps.length:Int)==0)||(!oJ ps|| !cX z 1 128)with|true=>simp|false=>?_
 cases ([(2,0,0,0,z,c)]++yl ps c ps.length).all uq with|false=>simp|true=>simp only[af,ah,ai,ba,Bv];omega
theorem Ro (l:aw Eb)(hl:l.length<=1000000000):ox l=some (fZ l):=by
 unfold ox;match l,hl with
 |[],_=>rfl
 |[h],_=>rfl
 |h::y::r,hl=>
  generalize hq:y::r=q;have hq1:1<=q.length:=by rw[<-hq];simp
  have hlen:q.length+1<=1000000000:=by rw[<-hq];simpa using hl
  have i0:idx (h::q) 0=some h:=rfl;have s0:sub (h::q) 1 (((h::q).length:Nat):Int)=some q:=CA (l:=h::q) 1 (by simp) (a:=1) rfl;rw[aq (by simp only[bf];omega),af,s0,ab];refine dz (λi=>(((q.take i).map (λx=>(x.2.2.2.1,x.2.2.1)),(i:Int)):aw (Int×Int)×Int)) q.length (by omega) (λi nx hi=>?_) (λnx=>?_);simp only[lq];rw[jz,ah,bu hi,ab,aQ (by simp only[bP,aV,ba];omega),ak,bp hi,ec];rfl;simp only[lq];rw[iw,af,cO];have hp:q.map (λx=>(x.2.2.2.1,x.2.2.1))=lf (h::q):=rfl;have hpl:(lf (h::q)).length=q.length:=by rw[<-hp,bP]
  rw[hp];have hdl:=aay (lf (h::q)) h.2.2.2.2.1 h.2.2.2.2.2;obtain⟨b,hd,hb⟩:=Cc (lf (h::q)) h.2.2.2.2.1 h.2.2.2.2.2;have hR:fZ (h::q)=bif IK (qz (lf (h::q)) h.2.2.2.2.1 h.2.2.2.2.2) (h::q) then(lf (h::q),h.2.2.2.2.1,h.2.2.2.2.2,true) else([],0,0,false):=by rw[<-hq];rfl
  rw[hR];simp only[i0,ab,hd];have hlc:(((h::q).length:Nat):Int)=(q.length:Int)+1:=by simp only[bf];omega
  generalize qz (lf (h::q)) h.2.2.2.2.1 h.2.2.2.2.2=w at hdl hb⊢
  have core:∀(K:az (aw (Int×Int)×Int×Int×Bool))(w':aw Eb),w'=w->(bif ((w'.length:Nat):Int) !=(((h::q).length:Nat):Int) then some (([]:aw (Int×Int)),(0:Int),(0:Int),false) else
   bl (gQ (λy10=>some (lf (h::q),h.2.2.2.2.1,h.2.2.2.2.2,true)) (λy11 y12 y13 y14 y15=>some (y11,y12,y13,y14)) (h::q) (lf (h::q)) h.2.2.2.2.1 h.2.2.2.2.2 w' ((w'.length:Nat):Int)) fuel 0)=some (bif IK w (h::q) then(lf (h::q),h.2.2.2.2.1,h.2.2.2.2.2,true) else([],0,0,false)):=by
   intro K w' e
   subst e
   unfold IK
   cases hl:((w'.length:Int)==(((h::q).length:Nat):Int))with
   |false=>simp only[bne,hl,bz,ah,dN,af]
   |true=>
    have hn:w'.length=(h::q).length:=by have:=bB hl;omega
    simp only[bne,hl,aj,af,bq]
    rw[iQ (fin:=some (lf (h::q),h.2.2.2.2.1,h.2.2.2.2.2,true)) (hit:=some ([],0,0,false)) (λi=>ML (w'.getD i I0) ((h::q).getD i I0)) w'.length (by omega) (λi nx hi=>?_) (λnx=>?_)]
    ·cases (List.range w'.length).all (λi=>ML (w'.getD i I0) ((h::q).getD i I0))<;>rfl
    ·have hi2:i<(h::q).length:=by omega
     simp only[gQ]
     rw[jz,ah,bu hi,bu hi2,ab,ab,ak,cG hi,cG hi2];rfl
    ·simp only[gQ]
     rw[iw,af]
  cases b with|true=>exact core none w rfl|false=>exact core none [] (hb rfl).symm
theorem U4 {l:aw Eb}(h:(fZ l).2.2.2=true):oJ (fZ l).1=true/\∀p∈(fZ l).1,p.1<=4294967295:=by match l,h with|hd::x::r,h=>unfold fZ at h⊢;simp only at h⊢;cases hs:IK (qz (lf (hd::x::r)) hd.2.2.2.2.1 hd.2.2.2.2.2) (hd::x::r)with|false=>rw[hs]at h;cases h|true=>simp only[ah];generalize hw:lf (hd::x::r)=ps at hs⊢;unfold IK at hs;simp only[ae]at hs;have hn:=bB hs.1;unfold qz at hn;cases hc:((ps.length:Int)==0)||(!oJ ps|| !cX hd.2.2.2.2.1 1 128)with|true=>rw[hc]at hn;simp at hn;omega|false=>rw[hc]at hn;cases ha:([(2,0,0,0,hd.2.2.2.2.1,hd.2.2.2.2.2)]++yl ps hd.2.2.2.2.2 ps.length).all uq with|false=>rw[ha]at hn;simp at hn;omega|true=>simp only[cr,dU]at hc;refine⟨hc.2.1,λp hp=>?_⟩;rw[List.all_append,HQ,ae]at ha;obtain⟨i,hi,rfl⟩:=List.getElem_of_mem hp;have:=aG.1 ha.2 i (bF.2 hi);rw[cG hi]at this;simp only[uq,dsc,ae,aW]at this;omega
theorem HR (l:aw aF)(m:bO)(d a n:Int):(sy l m d a n).1.length<=33554432:=by have hL:=IJ l m d a n false;have h1:=vJ m (kE l m d a n false).1;unfold sy;cases (kE l m d a n false).2 with|false=>simp|true=>simp only[ah];omega
def B9 (l:aw aF)(m:bO)(d:Int):aw (Int×Int)->Bytes->Bytes×Bool
 |[],acc=>(acc,true)
 |p::ps,acc=>bif (sy l m d p.1 p.2).2 then B9 l m d ps (acc++(sy l m d p.1 p.2).1) else([],false)
def mP (l:aw aF)(m:bO)(d:Int)(ps:aw (Int×Int)):Bytes×Bool:=bif oJ ps then B9 l m d ps [] else([],false)
def Gu (l:aw aF)(m:bO)(d:Int)(p:Int×Int)(s:Bytes):Except (az (Bytes×Bool)) Bytes:=
 if(sy l m d p.1 p.2).2=true then .ok (s++(sy l m d p.1 p.2).1) else .error (some ([],false))
theorem LH (l:aw aF)(m:bO)(d:Int):∀(ps:aw (Int×Int))(s:Bytes),Bq (Gu l m d) (λs=>some (s,true)) ps s=some (B9 l m d ps s)
 |[],s=>rfl
 |p::ps,s=>by rw[Bq,B9];unfold Gu;cases hd:(sy l m d p.1 p.2).2 with|false=>rfl|true=>rw[aE rfl];exact LH l m d ps _
theorem I8 (l:aw aF)(m:bO)(d:Int):∀(ps:aw (Int×Int))(s:Bytes),(B9 l m d ps s).1.length<=s.length+33554432*ps.length
 |[],s=>by simp[B9]
 |p::ps,s=>by have h1:=HR l m d p.1 p.2;rw[B9];cases (sy l m d p.1 p.2).2 with|false=>simp|true=>have:=I8 l m d ps (s++(sy l m d p.1 p.2).1);rw[ai]at this;simp only[ah,bf,Nat.mul_add];omega
theorem To (l:aw aF)(m:bO)(d:Int)(ps:aw (Int×Int)):(mP l m d ps).1.length<=1000000000:=by unfold mP;cases hp:oJ ps with|false=>simp|true=>have:=(Ix hp).1;have:=I8 l m d ps [];simp only[dZ]at this;simp only[ah];omega
theorem W6 (l:aw aF)(m:bO)(d:Int)(ps:aw (Int×Int))(hl:l.length<=1000000000)(hm:m.length<=1000000000)(hn:ps.length<=1000000000)(ha:∀p∈ps,p.1<=9223372036854775807):qb l m d ps=some (mP l m d ps):=by
 unfold qb mP;rw[L2 ps hn,ab];cases hp:oJ ps with|false=>rfl|true=>?_
 have h16:=(Ix hp).1;simp only[aj,af,ah];rw[<-LH];refine tc ps (λs i=>(s,(i:Int))) (λi s=>s.length<=33554432*i) (Gu l m d) _ (by omega) (λi hi s nx hI=>?_) (λi hi s s' hI he=>?_) (λs nx hI=>?_) [] (by simp);have h1:=HR l m d ps[i].1 ps[i].2;simp only[md];rw[jz,ah,bu hi,ab,AM l m d _ _ hl hm (ha _ (aN hi)),ab];unfold Gu;cases hd:(sy l m d ps[i].1 ps[i].2).2 with|false=>rfl|true=>rw[aE rfl,aQ,ak];rfl
 have h1:=HR l m d ps[i].1 ps[i].2;unfold Gu at he;split at he;injection he with he;rw[<-he,ai];omega;cases he;simp only[md];rw[iw,af]
def As (t:Bytes):Int:=de t ((dH t+2:Nat):Int)
def NZ (t:Bytes):Int:=N8 ((t.take (dH t+20)).drop (dH t))
def X6 (t:Bytes):Bytes:=(t.take (dH t+(As t).toNat)).drop (dH t+20)
def ag5 (t:Bytes):Bytes:=wv (eO t ((dH t+12:Nat):Int)) (eO t ((dH t+16:Nat):Int)) (kD t:Int) (As t-20)
def IS (t:Bytes):Int:=bif ((kD t:Int)==17)&&(N8 (ag5 t++X6 t)==0) then 65535 else N8 (ag5 t++X6 t)
def Zf (t s:Bytes):Bytes×Bool:=bif ((jP s).2==0)&&((kx (jP s).1).1==t) then dI (jP s).1 else([],false)
def ym (t:Bytes):Bytes×Bool:=Zf t (mu t (cm (NZ t)) (cm (IS t)))
theorem Kj {t:Bytes}(h:¬(TOk t/\de t (Br t:Int)=0/\de t (yZ t:Int)=0)):ym t=([],false):=by
 have ha:CM (mu t (cm (NZ t)) (cm (IS t))) t:=E5 t (bS _) (bS _);unfold ym Zf;generalize mu t (cm (NZ t)) (cm (IS t))=s at ha⊢;cases h1:(jP s).2==0 with|false=>rfl|true=>?_
 have h1':(jP s).2=0:=by simpa using h1
 cases h2:(kx (jP s).1).1==t with|false=>rfl|true=>?_
 have h2':(kx (jP s).1).1=t:=eq_of_beq h2;have ht:=am9 ha h1';exact absurd ⟨ht,acE h2' (MF h1').2.2.1 ht⟩ h
theorem Hx (t:Bytes)(o n:Nat):(t.drop o).take n=(t.take (o+n)).drop o:=by rw[List.drop_take];congr 1;omega
theorem Va {t:Bytes}(h1:dH t+20<=t.length)(h2:20<=As t)(h3:As t<=(t.length:Int))(h4:t.length<=1000000000):yF (eO t ((dH t+12:Nat):Int)) (eO t ((dH t+16:Nat):Int)) (kD t:Int) (As t-20)=true:=by have a1:=Gv (s:=t) (a:=((dH t+12:Nat):Int));have a2:=Gv (s:=t) (a:=((dH t+16:Nat):Int));have a3:=eE t (dH t+9);have a4:=LJ (s:=t) (a:=((dH t+2:Nat):Int));unfold yF;rw[aW.2 a1,aW.2 a2,aW.2 (show 0<=(kD t:Int)/\(kD t:Int)<=255 by unfold kD;omega),aW.2 (show 0<=As t-20/\As t-20<=65535 by unfold As at*;omega)];rfl
theorem aaY (t:Bytes)(hl:t.length<=1000000000):wT t=some (ym t):=by
 have hp:=Ab t
 have hk:=Hp (kD t)
 have hkb:kD t<256:=eE t (dH t+9)
 have hel:=G8 t
 unfold wT
 rw[GI t hl,ab,wg _ _ (by omega),ab]
 cases h1:(gL t).2 with
 |false=>rw[Kj λh=>by have:=h.1.eth;rw[h1]at this;cases this];rfl
 |true=>
 have he:=Iw h1
 rw[he.1]
 simp only[aj,af,ab]
 have en:de (t.drop (dH t)) 2=As t:=LI (a:=2)
 rw[en]
 by_cases h4:As t<20
 ·rw[au h4,Kj λh=>by have:=h.1.n1;unfold As at h4;omega];rfl
 rw[aq h4]
 simp only[af,ab]
 by_cases h5:As t>((t.drop (dH t)).length:Int)
 ·rw[au h5,Kj λh=>by have:=h.1.n2;unfold As at h5;rw[aK]at h5;omega];rfl
 rw[aq h5]
 rw[aK]at h5
 have hdl:(t.drop (dH t)).length=t.length-dH t:=aK ..
 obtain⟨n,hn⟩:=aR (show 0<=As t by omega)
 obtain⟨x,hx,ex⟩:=lY (s:=t.drop (dH t)) (i:=9)
 have hx9:idx (t.drop (dH t)) 9=some x:=hx
 have s1:sub (t.drop (dH t)) 0 20=some ((t.take (dH t+20)).drop (dH t)):=by rw[CB,<-Hx];rfl
 have s2:sub (t.drop (dH t)) 20 (As t)=some (X6 t):=by rw[ZW (l:=t.drop (dH t)) 20 (a:=20) rfl,hn,ax,Hx,fg];unfold X6;rw[hn];rfl
 have hps:=IA (eO t ((dH t+12:Nat):Int)) (eO t ((dH t+16:Nat):Int)) (kD t:Int) (As t-20)
 have hseg:((X6 t).length:Int)=As t-20:=by unfold X6;rw[aK,aV,hn];omega
 have hk2:ar ((UInt8.toNat x:Int))=(kD t:Int):=by rw[ex,lS,je (show bX t (dH t+9)<9223372036854775808 by unfold kD at hkb;omega)];rfl
 have g12:eO (t.drop (dH t)) 12=eO t ((dH t+12:Nat):Int):=LL (a:=12)
 have g16:eO (t.drop (dH t)) 16=eO t ((dH t+16:Nat):Int):=LL (a:=16)
 have hw:ar ((MZ (kD t):Int)+2)=(MZ (kD t):Int)+2:=by rw[ak]
 simp only[af,ab,GO t hl,s1,s2,hx9,wh _ _ (show(t.drop (dH t)).length<=1000000000 by omega),hk2,L3,hseg,g12,g16,Va (show dH t+20<=t.length by omega) (show 20<=As t by omega) (show As t<=(t.length:Int) by omega) hl,ah,aj,H6 _ hkb,hw]
 rw[show wv (eO t ((dH t+12:Nat):Int)) (eO t ((dH t+16:Nat):Int)) (kD t:Int) (As t-20)=ag5 t from rfl]at hps⊢
 by_cases h6:(MZ (kD t):Int)+2>As t-20
 ·rw[au h6,Kj λh=>by have:=h.1.n1;unfold As at h6;omega];rfl
 rw[aq h6]
 simp only[af]
 have hck:((t.take (dH t+20)).drop (dH t)).length<=1000000000:=by rw[aK,aV];omega
 rw[aQ,Km _ (by rw[ai];omega),ab]
 have hfin:∀y:Int,IS t=y->(aa (jt ((t.take (dH t+20)).drop (dH t))) λr25=>aa (cv r25) λr26=>aa (ga t (Br t:Int) r26) λr27=>aa (cv y) λr28=>aa (ga r27 (yZ t:Int) r28) λr29=>aa (iO r29) λr30=>aa (mC r30.1) λr31=>
  aa (bif r30.2 !=0 then some true else bif !r31.2 then some true else some (!(r31.1==t))) λq32=>bif q32 then some (([]:Bytes),false) else aa (gM r30.1) λr33=>some r33)=some (ym t):=by
  intro y hy
  subst hy
  have b1:=bS (NZ t)
  have b2:=bS (IS t)
  rw[Km _ hck,ab,show N8 ((t.take (dH t+20)).drop (dH t))=NZ t from rfl]
  rw[kU,ab,Ce t _ _ hl,ab,kU,ab,Ce _ _ _ (by rw[Ac];exact hl),ab]
  have hlen:=DN t (cm (NZ t)) (cm (IS t))
  unfold ym
  rw[show wx (wx t (Br t:Int) (cm (NZ t))) (yZ t:Int) (cm (IS t))=mu t (cm (NZ t)) (cm (IS t)) from rfl]
  generalize mu t (cm (NZ t)) (cm (IS t))=s at hlen⊢
  simp only[Es s (by omega),ab,OO,BC,Zf,bne]
  cases h1:(jP s).2==0 with|false=>rfl|true=>?_
  have hsb:=(MF (show(jP s).2=0 by simpa using h1)).2.2.1
  have h2:(kx (jP s).1).2=true:=by unfold kx;rw[hsb];rfl
  rw[h2]
  cases (kx (jP s).1).1==t<;>rfl
 cases h8:(kD t:Int)==17 with
 |false=>exact hfin _ (by unfold IS;rw[h8];rfl)
 |true=>
  simp only[ah,ab]
  cases h7:N8 (ag5 t++X6 t)==0 with
  |false=>exact hfin _ (by unfold IS;rw[h7,ff];rfl)
  |true=>exact hfin _ (by unfold IS;rw[h7,h8];rfl)
theorem aaF (t:Bytes):(ym t).1.length<=378:=by unfold ym Zf;generalize mu t (cm (NZ t)) (cm (IS t))=s;cases ((jP s).2==0)&&((kx (jP s).1).1==t)with|false=>exact cf _|true=>exact zi _
theorem KS (l:aw aF)(m:bO)(d:Int):∀(n:Nat)(acc:aw Eb)(r:kO),(uL l m d n acc r).1.length<=acc.length+n
 |0,acc,r=>bh _
 |n+1,acc,r=>by
  rw[uL];cases !(bC l m d r).2.2|| !(dq (bC l m d r).1).2 with|true=>exact cf _|false=>?_
  cases WD (dq (bC l m d r).1).1 with|true=>simp only[af,ah,ai,ba];omega|false=>have:=KS l m d n (acc++[(dq (bC l m d r).1).1]) (bC l m d r).2.1;simp only[ai,ba]at this;simp only[af];omega
theorem X4 (h:dv r=true):dv (r.1,r.2.1,r.2.2.2,r.2.2.2)=true/\bT (r.1,r.2.1,r.2.2.2,r.2.2.2)=0:=by
 have hr:=ly h;have hq:=h;simp only[dv,ae,aH]at hq;have hu:bT (r.1,r.2.1,r.2.2.2,r.2.2.2)=0:=by unfold bT;simp only[Int.sub_self,Int.zero_emod,ite_self]
 refine⟨?_,hu⟩;simp only[dv,ae,aH,aW,hu,hq.2.1,true_and];omega
theorem IY (l:aw aF)(m:bO)(d:Int):∀(n:Nat)(acc:aw Eb)(r:kO),dv r=true->(bT r).toNat=n->
 dv (uL l m d n acc r).2.1=true/\bT (uL l m d n acc r).2.1<=bT r/\(0<bT r->bT (uL l m d n acc r).2.1<bT r)
 |0,acc,r,hb,hu=>⟨hb,cK _,λh=>by omega⟩
 |n+1,acc,r,hb,hu=>by have hk:=D2 (l:=l) (m:=m) (d:=d) (r:=r);have he:=X4 hb;rw[uL];cases hc: !(bC l m d r).2.2|| !(dq (bC l m d r).1).2 with|true=>exact⟨he.1,by show bT (r.1,r.2.1,r.2.2.2,r.2.2.2)<=_;rw[he.2];omega,λ_=>by show bT (r.1,r.2.1,r.2.2.2,r.2.2.2)<_;rw[he.2];omega⟩|false=>simp only[cr,dU]at hc;have hk:=hk hc.1;cases WD (dq (bC l m d r).1).1 with|true=>exact⟨hk.1,by show bT (bC l m d r).2.1<=_;omega,λ_=>by show bT (bC l m d r).2.1<_;omega⟩|false=>have:=IY l m d n (acc++[(dq (bC l m d r).1).1]) (bC l m d r).2.1 hk.1 (by omega);simp only[af];exact⟨this.1,by omega,λ_=>by omega⟩
def jb (l:aw aF)(m:bO)(d:Int)(r:kO):kO×bO×Int:=
 bif !dv r||(bT r==0) then(r,[],0) else
 bif !(dC l m d r).2.2|| !(fZ (dC l m d r).1).2.2.2 then((dC l m d r).2.1,[],2) else
 bif !(mP l m d (fZ (dC l m d r).1).1).2||(!(ym (mP l m d (fZ (dC l m d r).1).1).1).2||((jP (ym (mP l m d (fZ (dC l m d r).1).1).1).1).2 !=0)) then((dC l m d r).2.1,[],2) else
 ((dC l m d r).2.1,Vr (jP (ym (mP l m d (fZ (dC l m d r).1).1).1).1).1 (fZ (dC l m d r).1).2.1,1)
theorem Xa (l:aw aF)(m:bO)(d:Int)(r:kO)(hl:l.length<=1000000000)(hm:m.length<=1000000000):qj l m d r=some (jb l m d r):=by
 unfold qj jb;simp only[xG,zO,ab,NG l m d r hl hm];cases hb:dv r with|false=>rfl|true=>?_
 cases bT r==0 with|true=>rfl|false=>?_
 have hu:=xU hb;have hcl:(dC l m d r).1.length<=16:=by unfold dC;cases !dv r||(bT r==0)with|true=>exact cf _|false=>have:=KS l m d (bT r).toNat [] r;simp only[dZ]at this;show(uL l m d (bT r).toNat [] r).1.length<=16;omega
 simp only[aj,af,ab,cz];generalize dC l m d r=c at hcl⊢;cases c.2.2 with|false=>rfl|true=>?_
 simp only[aj,af,ab,cP,Ro c.1 (show c.1.length<=1000000000 by omega)];have hpo:=U4 (l:=c.1);generalize fZ c.1=p at hpo⊢;cases hp:p.2.2.2 with|false=>rfl|true=>?_
 have hpo:=hpo hp;have h16:=(Ix hpo.1).1;have hg:=To l m d p.1;simp only[aj,af,ab,cP,W6 l m d p.1 hl hm (show p.1.length<=1000000000 by omega) (λq hq=>Int.le_trans (hpo.2 q hq) (by omega))];generalize mP l m d p.1=g at hg⊢;cases g.2 with|false=>rfl|true=>?_
 have hf:=aaF g.1;simp only[aj,af,ab,cP,aaY g.1 hg];generalize ym g.1=f at hf⊢;cases f.2 with|false=>rfl|true=>?_
 simp only[aj,af,ab,cP,Es f.1 (show f.1.length<=1000000000 by omega)];generalize jP f.1=i;cases i.2 !=0 with|true=>rfl|false=>?_
 simp only[af,ad0,ab]
theorem O0 (l:aw aF)(m:bO)(d:Int)(r:kO): ((jb l m d r).2.2=0->(jb l m d r).1=r)/\((jb l m d r).2.2≠0->0<bT r/\dv r=true/\dv (jb l m d r).1=true/\bT (jb l m d r).1<bT r)/\(jb l m d r).2.1.length<=320/\(∀x∈(jb l m d r).2.1,x.length<=382)/\((jb l m d r).2.2=0\/(jb l m d r).2.2=1\/(jb l m d r).2.2=2):=by
 unfold jb;cases hc: !dv r||(bT r==0)with
 |true=>exact⟨λ_=>rfl,λh=>absurd rfl h,cf _,(λx hx=>by cases hx),.inl rfl⟩
 |false=>
  simp only[cr,dU,cl]at hc;have hu:=xU hc.1;have hch:dv (dC l m d r).2.1=true/\bT (dC l m d r).2.1<bT r:=by have:=IY l m d (bT r).toNat [] r hc.1 rfl;unfold dC;rw[show(!dv r||(bT r==0))=false from by rw[hc.1];simpa using hc.2];exact⟨this.1,this.2.2 (by omega)⟩
  cases !(dC l m d r).2.2|| !(fZ (dC l m d r).1).2.2.2 with|true=>exact⟨(λh=>by cases h),λ_=>⟨by omega,hc.1,hch⟩,cf _,(λx hx=>by cases hx),.inr (.inr rfl)⟩|false=>cases !(mP l m d (fZ (dC l m d r).1).1).2||(!(ym (mP l m d (fZ (dC l m d r).1).1).1).2||((jP (ym (mP l m d (fZ (dC l m d r).1).1).1).1).2 !=0))with|true=>exact⟨(λh=>by cases h),λ_=>⟨by omega,hc.1,hch⟩,cf _,(λx hx=>by cases hx),.inr (.inr rfl)⟩|false=>have hs:=ach (jP (ym (mP l m d (fZ (dC l m d r).1).1).1).1).1 (fZ (dC l m d r).1).2.1;exact⟨(λh=>by cases h),λ_=>⟨by omega,hc.1,hch⟩,hs.1,hs.2,.inr (.inl rfl)⟩
def pT (l:aw aF)(m:bO)(d:Int):Nat->bO->Nat->Nat->kO->kO×bO×Int×Int
 |0,fr,dn,bd,r=>(r,fr,(dn:Int),(bd:Int))
 |n+1,fr,dn,bd,r=>
  bif (jb l m d r).2.2==0 then(r,fr,(dn:Int),(bd:Int)) else
  bif (jb l m d r).2.2==1 then pT l m d n (fr++(jb l m d r).2.1) (dn+1) bd (jb l m d r).1 else
  pT l m d n (fr++(jb l m d r).2.1) dn (bd+1) (jb l m d r).1
def ll (l:aw aF)(m:bO)(d:Int)(r:kO):kO×bO×Int×Int:=pT l m d 17 [] 0 0 r
theorem FE (l:aw aF)(m:bO)(d:Int)(hl:l.length<=1000000000)(hm:m.length<=1000000000):∀(n:Nat)(fr:bO)(dn bd:Nat)(r:kO)(f:Nat),n<f->(dv r=true->bT r<n)->0<n->fr.length+320*n<=10000->dn+bd+n<=1000->
 bl (mW (λy2 y3 y4 _ _ _ _ y9=>some (y9,y2,y3,y4)) l d ([]:bO) 0 0 m (0,0,0,0)) f (fr,(dn:Int),(bd:Int),r)=some (pT l m d n fr dn bd r)
 |0,fr,dn,bd,r,f,_,_,h0,_,_=>by omega
 |n+1,fr,dn,bd,r,0,hf,_,_,_,_=>by omega
 |n+1,fr,dn,bd,r,f+1,hf,hr,_,hfr,hc=>by have ok:=O0 l m d r;rw[bl,pT];simp only[mW,Xa l m d r hl hm,ab];generalize jb l m d r=x at ok⊢;cases h0:x.2.2==0 with|true=>simp only[ah,ok.1 (by simpa using h0)]|false=>have hk:=ok.2.1 (by simpa using h0);have hu:=hr hk.2.1;have hu2:=(xU hk.2.2.1).1;simp only[af];cases x.2.2==1 with|true=>simp only[ah];rw[aQ,ak];exact FE l m d hl hm n _ (dn+1) bd _ f (by omega) (λ_=>by omega) (by omega) (by rw[ai];omega) (by omega)|false=>simp only[af];rw[aQ,ak];exact FE l m d hl hm n _ dn (bd+1) _ f (by omega) (λ_=>by omega) (by omega) (by rw[ai];omega) (by omega)
theorem abg (l:aw aF)(m:bO)(d:Int)(r:kO)(hl:l.length<=1000000000)(hm:m.length<=1000000000):rG l m d r=some (ll l m d r):=by have hfu:=eJ;unfold rG;exact FE l m d hl hm 17 [] 0 0 r fuel (by omega) (λh=>by have:=(xU h).2;omega) (by omega) (by simp) (by omega)
theorem BU (l:aw aF)(m:bO)(d:Int):∀(n:Nat)(fr:bO)(dn bd:Nat)(r:kO),(∀x∈fr,x.length<=382)->
 (pT l m d n fr dn bd r).2.1.length<=fr.length+320*n/\(∀x∈(pT l m d n fr dn bd r).2.1,x.length<=382)/\0<=(pT l m d n fr dn bd r).2.2.1/\(pT l m d n fr dn bd r).2.2.1<=(dn+n:Nat)/\0<=(pT l m d n fr dn bd r).2.2.2/\(pT l m d n fr dn bd r).2.2.2<=(bd+n:Nat)
 |0,fr,dn,bd,r,h=>⟨bh _,h,by show(0:Int)<=(dn:Int);omega,by show(dn:Int)<=_;omega,by show(0:Int)<=(bd:Int);omega,by show(bd:Int)<=_;omega⟩
 |n+1,fr,dn,bd,r,h=>by
  have ok:=O0 l m d r;rw[pT];generalize jb l m d r=x at ok⊢;have h2:∀y∈fr++x.2.1,y.length<=382:=λy hy=>by rcases ay.1 hy with g|g;exact h y g;exact ok.2.2.2.1 y g
  cases x.2.2==0 with|true=>exact⟨by show fr.length<=_;omega,h,by show(0:Int)<=(dn:Int);omega,by show(dn:Int)<=_;omega,by show(0:Int)<=(bd:Int);omega,by show(bd:Int)<=_;omega⟩|false=>cases x.2.2==1 with|true=>have i:=BU l m d n (fr++x.2.1) (dn+1) bd x.1 h2;rw[ai]at i;simp only[af,ah];exact⟨by omega,i.2.1,i.2.2.1,by omega,i.2.2.2.2.1,by omega⟩|false=>have i:=BU l m d n (fr++x.2.1) dn (bd+1) x.1 h2;rw[ai]at i;simp only[af,ah];exact⟨by omega,i.2.1,i.2.2.1,by omega,i.2.2.2.2.1,by omega⟩
def Di (v:Vector):Bool:=bif decide (v.2.2.1>=1) then(bif decide (v.2.2.1>=v.1) then true else decide (v.2.2.2.1>=v.2.1)) else false
theorem ag8 (v:Vector):BF v=some (Di v):=by
 unfold BF Di;cases decide (v.2.2.1>=1)with|false=>rfl|true=>?_
 cases decide (v.2.2.1>=v.1)<;>rfl
theorem ahU (v:Vector):uF v=some (Di v):=by
 unfold uF Di;cases decide (v.2.2.1>=1)with|false=>rfl|true=>?_
 cases decide (v.2.2.1>=v.1)<;>rfl
def C6 (v:Vector):Vector:=bif Di v&& !v.2.2.2.2.1 then(v.1,v.2.1,v.2.2.1,v.2.2.2.1,v.2.2.2.2.1,true) else v
theorem HY (v:Vector):oF v=some (C6 v):=by
 unfold oF C6;rw[ag8,ab];cases Di v with|false=>rfl|true=>?_
 cases v.2.2.2.2.1<;>rfl
def upM (n:Int):Int:=if 1000000<ar (n+1) then 1000000 else ar (n+1)
def evV (v:Vector):Vector:=bif eY v then C6 (v.1,v.2.1,upM v.2.2.1,v.2.2.2) else v
theorem aaT (v:Vector):wP v=some (evV v):=by unfold wP evV;rw[zP,ab,HY,ab];cases eY v<;>rfl
def VU (v:Vector):Vector:=bif eY v then(bif decide (v.2.2.1>0) then C6 (v.1,v.2.1,v.2.2.1,upM v.2.2.2.1,v.2.2.2.2) else C6 v) else v
theorem abf (v:Vector):tH v=some (VU v):=by
 unfold tH VU;simp only[zP,ab,HY];cases eY v with|false=>rfl|true=>?_
 cases decide (v.2.2.1>0)<;>rfl
def C1 (v:Vector):Vector×Bool:=bif eY v&&v.2.2.2.2.2 then((v.1,v.2.1,0,0,true,false),true) else(v,false)
theorem abe (v:Vector):oD v=some (C1 v):=by
 unfold oD C1;rw[zP,ab];cases eY v with|false=>rfl|true=>?_
 cases v.2.2.2.2.2<;>rfl
def HB (v:Vector):Vector:=bif eY v then C6 (v.1,v.2.1,v.2.2.1,v.2.2.2.1,false,v.2.2.2.2.2) else v
theorem L5 (v:Vector):xJ v=some (HB v):=by unfold xJ HB;rw[zP,ab,HY,ab];cases eY v<;>rfl
structure kP (k:Nat) (a b:Host):Prop where
 mem:b.1.length=a.1.length
 maps:b.2.1=a.2.1
 tx:b.2.2.1=a.2.2.1
 rx:b.2.2.2.1.length=a.2.2.2.1.length
 rxs:∀j,k<=j->b.2.2.2.1[j]?=a.2.2.2.1[j]?
 pl:b.2.2.2.2.1.length=a.2.2.2.2.1.length
 vec:b.2.2.2.2.2.1.length=a.2.2.2.2.2.1.length
 vecs:∀j,k<=j->b.2.2.2.2.2.1[j]?=a.2.2.2.2.2.1[j]?
 pol:b.2.2.2.2.2.2.1.length=a.2.2.2.2.2.2.1.length
 rf:b.2.2.2.2.2.2.2.1=a.2.2.2.2.2.2.2.1
 ste:b.2.2.2.2.2.2.2.2.1=a.2.2.2.2.2.2.2.2.1
theorem kP.refl (k:Nat)(a:Host):kP k a a:=⟨rfl,rfl,rfl,rfl,λ_ _=>rfl,rfl,rfl,λ_ _=>rfl,rfl,rfl,rfl⟩
theorem kP.trans {a b c:Host}(h:kP k a b)(g:kP k b c):kP k a c:=⟨g.mem.trans h.mem,g.maps.trans h.maps,g.tx.trans h.tx,g.rx.trans h.rx,λj hj=>(g.rxs j hj).trans (h.rxs j hj),g.pl.trans h.pl,g.vec.trans h.vec,λj hj=>(g.vecs j hj).trans (h.vecs j hj),g.pol.trans h.pol,g.rf.trans h.rf,g.ste.trans h.ste⟩
theorem kP.up {m:Nat}{a b:Host}(h:kP k a b)(hk:k<=m):kP m a b:=⟨h.mem,h.maps,h.tx,h.rx,λj hj=>h.rxs j (by omega),h.pl,h.vec,λj hj=>h.vecs j (by omega),h.pol,h.rf,h.ste⟩
def lF (g:Nat->Host->Host):Nat->Host->Host
 |0,h=>h
 |k+1,h=>g k (lF g k h)
theorem nZ {g:Nat->Host->Host}(hg:∀k h,kP (k+1) h (g k h))(h:Host):∀k,kP k h (lF g k h)
 |0=>kP.refl 0 h
 |k+1=>((nZ hg h k).up (by omega)).trans (hg k _)
theorem Cy {g:Nat->Host->Host}{d n:Nat}(hn:1000<=n)(hg:∀k h m,1000<=m->dk m dD h->dk (m+d) dD (g k h)){h:Host}(z:dk n dD h):∀k,dk (n+d*k) dD (lF g k h)
 |0=>z
 |k+1=>(hg k _ _ (by omega) (Cy hn hg z k)).mono (by rw[Nat.mul_add];omega)
def xZ (i:Nat)(h:Host):Host:=
 match h.2.2.2.2.2.1[i]? with
 |some v=>(h.1,h.2.1,h.2.2.1,h.2.2.2.1,h.2.2.2.2.1,h.2.2.2.2.2.1.set i (VU v),h.2.2.2.2.2.2)
 |none=>h
theorem Am (i:Nat)(h:Host):kP (i+1) h (xZ i h):=by unfold xZ;cases h.2.2.2.2.2.1[i]? with|none=>exact kP.refl _ _|some v=>exact⟨rfl,rfl,rfl,rfl,λ_ _=>rfl,rfl,aB ..,λj hj=>aP (by omega),rfl,rfl,rfl⟩
theorem Kx {l:aw Vector}{v:Vector}(z:dk n (.sl gI) l):dk n (.sl gI) (l.set i v):=mn z ⟨cx,cx,cx,cx,cx,cx⟩
theorem acH (i:Nat)(h:Host)(n:Nat)(hn:1000<=n)(z:dk n dD h):dk (n+0) dD (xZ i h):=by unfold xZ;cases h.2.2.2.2.2.1[i]? with|none=>exact z|some v=>exact⟨z.1,z.2.1,z.2.2.1,z.2.2.2.1,z.2.2.2.2.1,Kx z.2.2.2.2.2.1,z.2.2.2.2.2.2⟩
def vY (h:Host):Host:=bif ew h then lF xZ h.2.2.2.2.2.1.length h else h
theorem agm (hn:1000<=n)(z:dk n dD h):dk n dD (vY h)/\(vY h).2.2.1=h.2.2.1:=by unfold vY;cases ew h with|false=>exact⟨z,rfl⟩|true=>exact⟨(Cy hn acH z _).mono,(nZ Am h _).tx⟩
theorem TZ (h:Host)(k:KB h)(z:dk 1000000000 dD h):sP h=some (vY h):=by
 have hfu:=eJ;unfold sP vY;rw[js h z,ab,uS h k,ab];cases hb:ew h with|false=>rfl|true=>?_
 have hv:h.2.2.2.2.2.1.length<=1000000000:=z.2.2.2.2.2.1.1;simp only[aj,af,ah];refine dz (λi=>((i:Int),lF xZ i h)) h.2.2.2.2.2.1.length (by omega) (λi nx hi=>?_) (λnx=>?_);have kk:=nZ Am h i;have i1:i<(lF xZ i h).2.2.2.2.2.1.length:=by rw[kk.vec];exact hi
 rw[show lF xZ (i+1) h=xZ i (lF xZ i h) from rfl];generalize lF xZ i h=s at i1⊢;simp only[rp,xZ];rw[jz,ah,al i1];simp only[bu i1,ab,abf,ax];rw[ak];rfl;simp only[rp];rw[iw,af]
structure Ap (n:Nat) (h:Host):Prop where
 z:dk n dD h
 t:h.2.2.1.2.1.2.2.2.length+(bJ h.2.2.1.2.2.1).length<=n
theorem Ap.mono {m:Nat}(k:Ap n h)(hn:n<=m:=by omega):Ap m h:=⟨k.z.mono hn,bt k.t hn⟩
theorem Ap.sz (k:Ap n h)(hn:n<=1000000000:=by omega):KB h:=by have z:dk 1000000000 dD h:=k.z.mono hn;exact⟨z.1.1,z.2.1.1,z.2.2.1.2.2.1.1,bt k.t hn,z.2.2.2.2.2.2.2.1.2.2.1,z.2.2.2.2.2.2.2.2.1.1.1,z.2.2.2.2.2.2.2.2.1.2.1.1,z.2.2.2.2.2.2.2.2.1.2.2.2.1,λp hp=>(z.2.2.2.2.1.2 p hp).2.2.2.1⟩
theorem Ap.of (k:N0 dD h<=1048576):Ap 1048576 h:=by
 refine⟨Hw k,?_⟩;have hb:=YD h.2.2.1.2.2.1;have h1:N0 lP h.2.2.1<=N0 dD h:=by simp only[N0];omega
 have hp:h.2.2.1.2.1.2.2.2.length+N0 (.sl jZ) h.2.2.1.2.2.1<=N0 lP h.2.2.1:=by simp only[N0];omega
 omega
def qB (p:dw):aw oe->dw
 |[]=>p
 |x::l=>qB (Fy p x.2.2).1 l
theorem HW:∀(l:aw oe)(p:dw),(qB p l).2.2.2.length<=p.2.2.2.length+(bJ l).length
 |[],p=>by simp[qB]
 |x::l,p=>by have h1:=Ts p x.2.2;have h2:=HW l (Fy p x.2.2).1;simp only[qB,bJ,List.flatMap_cons,ai]at h2⊢;omega
theorem Ow:∀(l:aw oe)(p:dw)(x:oe),qB p (l++[x])=(Fy (qB p l) x.2.2).1
 |[],p,x=>rfl
 |y::l,p,x=>by rw[List.cons_append,qB,qB,Ow l]
theorem Su (a b:aw oe):(bJ (a++b)).length=(bJ a).length+(bJ b).length:=by simp only[bJ,List.flatMap_append,ai]
theorem Sv (l:aw oe)(n:Nat):(bJ (l.take n)).length+(bJ (l.drop n)).length=(bJ l).length:=by rw[<-Su,cD]
def lG (t:eC)(n:Int):eC×bZ:=
 bif Nk t&&cX n 0 (t.2.2.1.length:Int) then((t.1,qB t.2.1 (t.2.2.1.take n.toNat),t.2.2.1.drop n.toNat,t.2.2.2),(t.2.2.1.take n.toNat).map (·.1)) else(t,[])
theorem ahS {l:aw oe}(h:(bJ l).length<=1000000000):∀x∈l,x.2.2.length<=1000000000:=by intro x hx;induction l with|nil=>cases hx|cons y l ih=>simp only[bJ,List.flatMap_cons,ai]at h;rcases bQ.1 hx with rfl|g;omega;exact ih (by simp only[bJ];omega) g
theorem Rh (t:eC)(n:Int)(hw:t.2.2.1.length<=1000000000)(hs:t.2.1.2.2.2.length+(bJ t.2.2.1).length<=1000000000):ma t n=some (lG t n):=by
 have hx:=ahS (l:=t.2.2.1) (by omega);unfold ma lG;rw[FB t ⟨by omega,hw,hx⟩,ab,Xg t hw hs];simp only[ab,cn];cases Nk t with|false=>rfl|true=>?_
 cases hn:cX n 0 (t.2.2.1.length:Int)with|false=>rfl|true=>?_
 have h:=aW.1 hn;obtain⟨n,rfl⟩:=aR h.1;have hl:n<=t.2.2.1.length:=by omega
 simp only[aj,af,ab,cE,ah,ax];rw[CB,ab,ax];have htl:(t.2.2.1.take n).length=n:=by rw[aV];omega
 rw[htl];refine dz (λi=>(((t.2.2.1.take i).map (·.1),(i:Int),t.1,qB t.2.1 (t.2.2.1.take i),t.2.2):bZ×Int×eC)) n (by omega) (λi nx hi=>?_) (λnx=>?_);have hi2:i<(t.2.2.1.take n).length:=by omega
 have hi3:i<t.2.2.1.length:=by omega
 have e1:(t.2.2.1.take n)[i]=t.2.2.1[i]:=List.getElem_take ..;have g1:=HW (t.2.2.1.take i) t.2.1;have g2:=Sv t.2.2.1 (i+1);have g3:(bJ (t.2.2.1.take (i+1))).length=(bJ (t.2.2.1.take i)).length+t.2.2.1[i].2.2.length:=by rw[bp hi3,Su];simp[bJ]
 simp only[jL];rw[jz,ah,bu hi2,e1,ab,L0 _ _ (by omega),ab,aQ (by simp only[bP,aV,ba];omega),ak,bp hi3,Ow,ec];rfl;simp only[jL];rw[iw,af,CA (l:=t.2.2.1) n hl rfl,ab,GD _ (by rw[aK];omega) (λx hx'=>hx x (List.mem_of_mem_drop hx')),ab]
theorem Ob (n:Int):∀l:aw oe,l.all (oK n)=true->(l.length:Int)<=ee l
 |[],_=>by simp[ee]
 |x::l,h=>by simp only[ch,ae]at h;have:=Ob n l h.2;have hx:=h.1;unfold oK at hx;simp only[ae,aW]at hx;simp only[ee,di,fJ,bf]at this⊢;omega
theorem F0 (h:Nk t=true):t.2.2.1.length<=16:=by unfold Nk at h;simp only[ae,aH]at h;have h1:=Ob _ _ h.2.2.2.1;have h2:=(ly h.1).2.2.1;have h3:=h.2.2.2.2.2;omega
theorem Gi (n:Int)(z:dk k lP t)(hs:t.2.1.2.2.2.length+(bJ t.2.2.1).length<=k): dk k lP (lG t n).1/\(lG t n).1.2.1.2.2.2.length+(bJ (lG t n).1.2.2.1).length<=k/\(lG t n).2.length<=16:=by unfold lG;cases h:Nk t&&cX n 0 (t.2.2.1.length:Int)with|false=>exact⟨z,hs,cf _⟩|true=>simp only[ae]at h;have h16:=F0 h.1;have g1:=HW (t.2.2.1.take n.toNat) t.2.1;have g2:=Sv t.2.2.1 n.toNat;have hw:t.2.2.1.length<=k:=z.2.2.1.1;refine⟨⟨z.1,⟨cx,cx,cx,?_,λ_ _=>trivial⟩,⟨?_,λx hx=>z.2.2.1.2 x (List.mem_of_mem_drop hx)⟩,z.2.2.2⟩,?_,?_⟩;show(qB t.2.1 (t.2.2.1.take n.toNat)).2.2.2.length<=k;omega;show(t.2.2.1.drop n.toNat).length<=k;rw[aK];omega;show(qB t.2.1 (t.2.2.1.take n.toNat)).2.2.2.length+(bJ (t.2.2.1.drop n.toNat)).length<=k;omega;show((t.2.2.1.take n.toNat).map (·.1)).length<=16;rw[bP,aV];omega
theorem BH {t:CT}{l q:aw t.D}(z:dk n (.sl t) l)(hq:∀y∈q,dk n t y)(hk:q.length<=k):dk (n+k) (.sl t) (l++q):=by refine⟨?_,λy hy=>?_⟩;show(l++q).length<=n+k;have:=z.1;rw[ai];omega;rcases ay.1 hy with h|h;exact(z.2 y h).mono;exact(hq y h).mono
def fQ (h:Host):Host:=bif ew h then
    (h.1,h.2.1,(lG ((ll h.2.1 h.1 0 h.2.2.1.1).1,h.2.2.1.2) (if(h.2.2.1.2.2.1.length:Int)<ar ((ll h.2.1 h.1 0 h.2.2.1.1).2.2.1+(ll h.2.1 h.1 0 h.2.2.1.1).2.2.2) then(h.2.2.1.2.2.1.length:Int) else ar ((ll h.2.1 h.1 0 h.2.2.1.1).2.2.1+(ll h.2.1 h.1 0 h.2.2.1.1).2.2.2))).1,
      h.2.2.2.1,h.2.2.2.2.1,h.2.2.2.2.2.1,h.2.2.2.2.2.2.1,h.2.2.2.2.2.2.2.1,h.2.2.2.2.2.2.2.2.1,h.2.2.2.2.2.2.2.2.2.1,h.2.2.2.2.2.2.2.2.2.2.1,h.2.2.2.2.2.2.2.2.2.2.2.1++(ll h.2.1 h.1 0 h.2.2.1.1).2.1,
      h.2.2.2.2.2.2.2.2.2.2.2.2.1++(lG ((ll h.2.1 h.1 0 h.2.2.1.1).1,h.2.2.1.2) (if(h.2.2.1.2.2.1.length:Int)<ar ((ll h.2.1 h.1 0 h.2.2.1.1).2.2.1+(ll h.2.1 h.1 0 h.2.2.1.1).2.2.2) then(h.2.2.1.2.2.1.length:Int) else ar ((ll h.2.1 h.1 0 h.2.2.1.1).2.2.1+(ll h.2.1 h.1 0 h.2.2.1.1).2.2.2))).2,h.2.2.2.2.2.2.2.2.2.2.2.2.2) else h
theorem GQ (h:Host)(k:Ap 900000000 h):me h=some (fQ h):=by
 have z:dk 1000000000 dD h:=k.z.mono;have hz:=k.sz;have hm:h.1.length<=900000000:=k.z.1.1;have hl:h.2.1.length<=900000000:=k.z.2.1.1;have hw:h.2.2.1.2.2.1.length<=900000000:=k.z.2.2.1.2.2.1.1;have hwi:h.2.2.2.2.2.2.2.2.2.2.2.1.length<=900000000:=k.z.2.2.2.2.2.2.2.2.2.2.2.1.1;have hco:h.2.2.2.2.2.2.2.2.2.2.2.2.1.length<=900000000:=k.z.2.2.2.2.2.2.2.2.2.2.2.2.1.1;have hA:=BU h.2.1 h.1 0 17 [] 0 0 h.2.2.1.1 (λx hx=>by cases hx);unfold me fQ;rw[js h z,ab,uS h hz,ab];cases ew h with|false=>rfl|true=>?_
 simp only[aj,af,ah,abg h.2.1 h.1 0 _ (show h.2.1.length<=1000000000 by omega) (show h.1.length<=1000000000 by omega),ab];rw[show pT h.2.1 h.1 0 17 [] 0 0 h.2.2.1.1=ll h.2.1 h.1 0 h.2.2.1.1 from rfl]at hA;generalize ll h.2.1 h.1 0 h.2.2.1.1=x at hA⊢;simp only[dZ]at hA;have hC:=Gi (k:=900000000) (t:=(x.1,h.2.2.1.2)) (if(h.2.2.1.2.2.1.length:Int)<ar (x.2.2.1+x.2.2.2) then(h.2.2.1.2.2.1.length:Int) else ar (x.2.2.1+x.2.2.2)) ⟨⟨cx,cx,cx,cx⟩,k.z.2.2.1.2⟩ k.t;rw[aQ,Rh (x.1,h.2.2.1.2) _ (by show h.2.2.1.2.2.1.length<=_;omega) (bt k.t (by omega)),ab,aQ]
theorem CF (hn:400<=n)(k:Ap n h):Ap (n+5440) (fQ h):=by
 have k':Ap (n+5440) h:=k.mono;have hA:=BU h.2.1 h.1 0 17 [] 0 0 h.2.2.1.1 (λx hx=>by cases hx);unfold fQ;cases ew h with|false=>exact k'|true=>?_
 rw[show pT h.2.1 h.1 0 17 [] 0 0 h.2.2.1.1=ll h.2.1 h.1 0 h.2.2.1.1 from rfl]at hA;generalize ll h.2.1 h.1 0 h.2.2.1.1=x at hA⊢;simp only[dZ]at hA;generalize (if(h.2.2.1.2.2.1.length:Int)<ar (x.2.2.1+x.2.2.2) then(h.2.2.1.2.2.1.length:Int) else ar (x.2.2.1+x.2.2.2))=q;have hC:=Gi (k:=n) (t:=(x.1,h.2.2.1.2)) q ⟨⟨cx,cx,cx,cx⟩,k.z.2.2.1.2⟩ k.t;have z:=k'.z;refine⟨⟨z.1,z.2.1,hC.1.mono,z.2.2.2.1,z.2.2.2.2.1,z.2.2.2.2.2.1,z.2.2.2.2.2.2.1,z.2.2.2.2.2.2.2.1,z.2.2.2.2.2.2.2.2.1,z.2.2.2.2.2.2.2.2.2.1,cx,?_,?_,z.2.2.2.2.2.2.2.2.2.2.2.2.2⟩,bt hC.2.1 (by omega)⟩;exact BH (t:=.str) (n:=n) (k:=5440) k.z.2.2.2.2.2.2.2.2.2.2.2.1 (λy hy=>by show y.length<=_;have:=hA.2.1 y hy;omega) (by omega);exact(BH (t:=.int .i64) (n:=n) (k:=16) k.z.2.2.2.2.2.2.2.2.2.2.2.2.1 (λ_ _=>trivial) hC.2.2).mono
def xE (l:aw aF)(d:Int)(p:dw)(z:Nat):bZ->Bytes->bO->aw gU->az (aw gU×bO)
 |[],_,m,a=>some (a,m)
 |b::q,s,m,a=>bif (iy l m d (oT p b) (s.take z) false).2 then xE l d p z q (s.drop z) (iy l m d (oT p b) (s.take z) false).1 (a++[(oT p b,((s.take z).length:Int))]) else none
theorem Gq (l:aw aF)(d:Int)(p:dw)(z:Nat):∀(q:bZ)(s:Bytes)(m:bO)(a:aw gU){x},xE l d p z q s m a=some x->
 x.2.length=m.length/\x.1.length=a.length+q.length/\∀y∈x.1,y∈a\/((∃b∈q,y.1=oT p b)/\0<=y.2/\y.2<=(z:Int))
 |[],s,m,a,x,h=>by cases h;exact⟨rfl,rfl,λy hy=>Or.inl hy⟩
 |b::q,s,m,a,x,h=>by rw[xE]at h;cases hq:(iy l m d (oT p b) (s.take z) false).2 with|false=>rw[hq]at h;cases h|true=>rw[hq]at h;obtain⟨h1,h2,h3⟩:=Gq l d p z q _ _ _ h;rw[kh]at h1;rw[ai,ba]at h2;refine⟨h1,by rw[bf];omega,λy hy=>?_⟩;rcases h3 y hy with g|⟨⟨b',hb',g⟩,g2⟩;rcases ay.1 g with g|g;exact Or.inl g;rw[bE.1 g];refine Or.inr ⟨⟨b,List.mem_cons_self ..,rfl⟩,?_,?_⟩;show(0:Int)<=((s.take z).length:Int);omega;show((s.take z).length:Int)<=(z:Int);rw[aV];omega;exact Or.inr ⟨⟨b',eR _ hb',g⟩,g2⟩
theorem PZ (p:dw)(i:Int): -1<=oT p i/\oT p i<=139136:=by unfold oT;cases hb: !dT p|| !cX i 0 (p.2.2.1-1)with|true=>exact⟨cK _,show(-1:Int)<=139136 by omega⟩|false=>simp only[cr,dU]at hb;have h:=yE hb.1;have h2:=aW.1 hb.2;have h3:0<=i*p.2.1:=Int.mul_nonneg h2.1 (by omega);have h4:i*p.2.1<=16*512:=Int.mul_le_mul (by omega) (by omega) (by omega) (by omega);simp only[af];omega
theorem ada {p:dw}(hp:dT p=true)(hb:b∈p.2.2.2):0<=oT p b:=by obtain⟨i,hi,rfl⟩:=List.getElem_of_mem hb;have hq:=hp;simp only[dT,ae]at hq;have:=aG.1 hq.2.2.2 i (bF.2 hi);simp only[Dr,ae,cG hi]at this;have hn:=this.1;have h:=yE hp;have h2:=aW.1 hn;have h3:0<=p.2.2.2[i]*p.2.1:=Int.mul_nonneg h2.1 (by omega);unfold oT;rw[hp,hn];show 0<=p.1+p.2.2.2[i]*p.2.1;omega
theorem VR (s:Bytes)(z:Nat):sub s 0 (if(s.length:Int)<(z:Int) then(s.length:Int) else(z:Int))=some (s.take z):=by by_cases h:(s.length:Int)<(z:Int);rw[aE h,CB,ax,cO,cd (by omega)];rw[aD h,CB,ax]
theorem SZ (s:Bytes)(z:Nat):sub s ((s.take z).length:Int) (s.length:Int)=some (s.drop z):=by rw[Hv _ _ (by rw[aV];omega),aV];by_cases h:z<=s.length;rw[iu h];rw[Nat.min_eq_right (by omega),gY,List.drop_eq_nil_of_le (by omega)]
def acR:az (aw gU×bO)->az (Bool×bO×aw gU×Bool)->Prop
 |some x,r=>r=some (true,x.2,x.1,true)
 |none,r=>∃c m,r=some (c,m,[],false)
theorem EV (l:aw aF)(d:Int)(p:dw)(z:Nat)(B:bO)(hp:p.2.2.2.length<=1000000000)(hl:l.length<=1000000000):∀(rest pre:bZ)(s:Bytes)(m:bO)(a:aw gU)(f:Nat),rest.length<f->(pre++rest).length<=1000000->a.length+rest.length<=1000000->m.length<=1000000000->
 acR (xE l d p z rest s m a) (bl (kc (λ_ y14 _ y16=>some (true,y16,y14,true)) (λ_ y18 y19 _ _ _ y23=>some (true,y23,y18,y19)) l d (z:Int) ([]:aw gU) false (pre++rest) ((pre++rest).length:Int) p B) f (s,a,(pre.length:Int),m))
 |rest,pre,s,m,a,0,hf,_,_,_=>by omega
 |[],pre,s,m,a,f+1,_,_,_,_=>by rw[bl];simp only[kc];rw[aq (by simp),af];rfl
 |b::q,pre,s,m,a,f+1,hf,hn,ha,hm=>by
  simp only[bf,ai]at hf hn ha;have hi:pre.length<(pre++b::q).length:=by simp
  have hb:(pre++b::q)[pre.length]=b:=by simp
  have hA:=PZ p b;rw[bl];simp only[kc];rw[au (by simp;omega),bu hi,hb];simp only[ah,ab,VR,SZ,GC p b hp,Bk l m d (oT p b) (s.take z) hl hm];rw[xE];cases hq:(iy l m d (oT p b) (s.take z) false).2 with
  |false=>exact⟨_,_,rfl⟩
  |true=>
   simp only[aj,af,ah];rw[ak (n:=(pre.length:Int)+1),aQ (by simp only[ba];omega)];have key:=EV l d p z B hp hl q (pre++[b]) (s.drop z) (iy l m d (oT p b) (s.take z) false).1 (a++[(oT p b,((s.take z).length:Int))]) f (by omega) (by simp;omega) (by simp;omega) (by rw[kh];exact hm);have el:((pre++[b]).length:Int)=(pre.length:Int)+1:=by simp
   rw[aZ,List.singleton_append,el]at key;exact key
theorem aaX (l:aw aF)(m:bO)(d:Int)(p:dw)(q:bZ)(s:Bytes)(z:Nat)(hp:p.2.2.2.length<=1000000000)(hl:l.length<=1000000000)(hm:m.length<=1000000000)(hq:q.length<=1000)(h0:0<q.length): acR (xE l d p z q s m []) (nz l m d p q s (z:Int)):=by have hfu:=eJ;cases q with|nil=>cases h0|cons b q=>simp only[bf]at hq;have hA:=PZ p b;have hi:idx (b::q) 0=some b:=rfl;unfold nz;rw[au (by simp),ah,hi];simp only[ab,VR,SZ,GC p b hp,Bk l m d (oT p b) (s.take z) hl hm];rw[xE];cases hq':(iy l m d (oT p b) (s.take z) false).2 with|false=>exact⟨_,_,rfl⟩|true=>simp only[aj,af,ah];rw[aQ (by simp),show ar (0+1)=1 from rfl];exact EV l d p z _ hp hl q [b] (s.drop z) (iy l m d (oT p b) (s.take z) false).1 [(oT p b,((s.take z).length:Int))] fuel (by omega) (by simp;omega) (by simp;omega) (by rw[kh];exact hm)
theorem adj {ps:aw gU}{z:Int}(h0:0<ps.length)(h16:ps.length<=16)(hp:∀x∈ps,0<=x.1/\x.1<=200000/\0<=x.2/\x.2<=4096)(hz:cX z 1 128=true)(hc:cX c 0 65535=true):(qz ps z c).length=ps.length+1:=by
 have hz2:=aW.1 hz;have hc2:=aW.1 hc;have e1:oJ ps=true:=by unfold oJ;rw[ae,aJ,aH];refine⟨List.any_eq_false.2 λx hx=>?_,by omega⟩;have:=hp x hx;unfold Aa;rw[iw,cP,aJ,Bool.eq_false_iff];intro h;exact h (aW.2 (by omega))
 have e2:([((2:Int),(0:Int),(0:Int),(0:Int),z,c)]++yl ps c ps.length).all uq=true:=by rw[List.all_append,ae];constructor;simp only[ch,List.all_nil,fV,uq,ae,aW];omega;rw[HQ];refine aG.2 λj hj=>?_;have hj:=bF.1 hj;have:=hp _ (aN hj);simp only[dsc,cG hj,uq,ae,aW];refine⟨by omega,?_,by omega,by omega,by omega,by omega⟩;by_cases hq:j+1=ps.length;rw[aE hq];omega;rw[aD hq];omega
 unfold qz;rw[e1,hz,e2,show((ps.length:Int)==0)=false from by rw[cl];omega];simp only[aj,cz,af,ah,ai,ba,Bv];omega
theorem TO (K:bO->Int->az R)(l:aw aF)(d:Int)(q:bZ)(ds ds2:aw pP)(t1 t2 t3 t4:eC)(m1 m2 m3:bO)(h:ds.length<=1000): bl (gA K l d q ds2 ds (ds.length:Int) t1 m1 t2 m2 t3 t4 m3) fuel (([]:bO),0)=K (ds.map yq) (ds.length:Int):=by
 have hfu:=eJ;refine dz (λi=>((ds.take i).map yq,(i:Int))) ds.length (by omega) (λi nx hi=>?_) (λnx=>?_);have e:((ds.take i).map yq).length<=1000:=by simp;omega
 rw[bp hi,ec];simp only[gA];rw[jz,ah,bu hi,ab,Rk,ab,aQ (by simp only[ba];omega),ak];rfl;simp only[gA];rw[iw,af,cO]
def zC (p:aI)(z:Nat):Nat:=((kx p).1.length+z-1)/z
def MP (l:aw aF)(m:bO)(d:Int)(t:eC)(c:Int)(n:Nat)(x:aw gU×bO):bO×eC×Bool:=
 bif (vG l x.2 d t.1 ((qz x.1 c t.2.2.2).map yq)).2.2 then
  ((vG l x.2 d t.1 ((qz x.1 c t.2.2.2).map yq)).1,((vG l x.2 d t.1 ((qz x.1 c t.2.2.2).map yq)).2.1,(kF t.2.1 (n:Int)).1,t.2.2.1++[(t.2.2.2,(n:Int)+1,(kF t.2.1 (n:Int)).2.1)],Int.tmod (t.2.2.2+1) 65536),true)
 else(m,t,false)
def I3 (t:eC)(n:Nat):Bool:=(kF t.2.1 (n:Int)).2.2&&(!decide ((n:Int)>16)&&(!decide ((n:Int)+1>oV t.1)&& !decide (ee t.2.2.1+(n:Int)+1>t.1.2.1)))
def wA (l:aw aF)(m:bO)(d:Int)(t:eC)(p:aI)(c z:Int):bO×eC×Bool:=
 bif Nk t&&(dG p&&(cX z 1 t.2.1.2.1&&cX c 1 128)) then
  bif I3 t (zC p z.toNat) then
   match xE l d t.2.1 z.toNat (kF t.2.1 (zC p z.toNat:Int)).2.1 (kx p).1 m []with
   |some x=>MP l m d t c (zC p z.toNat) x
   |none=>(m,t,false)
  else(m,t,false)
 else(m,t,false)
theorem Yr (h:dG p=true):0<(kx p).1.length/\(kx p).1.length<=378:=by have hl:=zi p;have hs:=TF h;unfold kx;rw[h];show 0<(mu (dI p).1 (cm 0) (cm 0)).length/\(mu (dI p).1 (cm 0) (cm 0)).length<=378;rw[DN];omega
theorem ajr (len z:Nat)(h:len<=1000)(hz:z<=1000)(h0:0<z):ar (Int.tdiv (ar (ar ((len:Int)+(z:Int))-1)) (z:Int))=(((len+z-1)/z:Nat):Int):=by have hd:(len+z-1)/z<=len+z-1:=Nat.div_le_self ..;rw[ak (n:=(len:Int)+(z:Int)),ak (n:=(len:Int)+(z:Int)-1),show(len:Int)+(z:Int)-1=((len+z-1:Nat):Int) by omega,show Int.tdiv ((len+z-1:Nat):Int) (z:Int)=(((len+z-1)/z:Nat):Int) from rfl];generalize (len+z-1)/z=N at hd⊢;rw[ak]
theorem VP {p:dw}(h:(kF p (n:Int)).2.2=true):dT p=true/\n<=p.2.2.2.length/\(kF p (n:Int)).2.1=p.2.2.2.take n:=by unfold kF at h⊢;cases hq:dT p&&cX (n:Int) 0 (p.2.2.2.length:Int)with|false=>rw[hq]at h;cases h|true=>simp only[ae,aW]at hq;exact⟨hq.1,by omega,rfl⟩
theorem aaG {z:Nat}{x:aw gU×bO}(ht:Nk t=true)(hz:z<=512)(hc:cX c 1 128=true)(h0:0<n)(h16:n<=16)(hk:(kF t.2.1 (n:Int)).2.2=true)(hx:xE l d t.2.1 z (kF t.2.1 (n:Int)).2.1 s m []=some x):x.2.length=m.length/\(qz x.1 c t.2.2.2).length=n+1:=by
 obtain⟨hp,hn,hb⟩:=VP hk;rw[hb]at hx;obtain⟨h1,h2,h3⟩:=Gq l d t.2.1 z _ _ _ _ hx;simp only[dZ,aV,cw]at h2;have e:x.1.length=n:=by omega
 refine⟨h1,?_⟩;rw[adj (by omega) (by omega) (λy hy=>?_) hc (by simp only[Nk,ae]at ht;exact ht.2.2.1),e];rcases h3 y hy with g|⟨⟨b,hb',g⟩,g2⟩;cases g;have q1:=ada hp (List.mem_of_mem_take hb');have q2:=PZ t.2.1 b;rw[g];omega
theorem aa6 (l:aw aF)(m:bO)(d:Int)(t:eC)(p:aI)(c z:Int)(hl:l.length<=1000000000)(hm:m.length<=1000000000)(ht:agz t)(h1:t.2.2.1.length<=1000000000)(h2:t.2.1.2.2.2.length+(bJ t.2.2.1).length<=1000000000):tF l m d t p c z=some (wA l m d t p c z):=by
 have hfu:=eJ;unfold tF wA;rw[gx m,ab,FB t ht,ab,Xg t h1 h2,ab,lI,cn,cn];simp only[ab];cases hb:Nk t with|false=>rfl|true=>?_
 cases hp:dG p with|false=>rfl|true=>?_
 cases hz:cX z 1 t.2.1.2.1 with|false=>rfl|true=>?_
 cases hc:cX c 1 128 with|false=>rfl|true=>?_
 have hT:=Yr hp;have hz2:=aW.1 hz;have hq:=hb;simp only[Nk,ae]at hq;have hpl:=yE hq.2.1;have h16:=F0 hb;have hrg:=ly hq.1;have hnx:=aW.1 hq.2.2.1;obtain⟨z,rfl⟩:=aR (by omega:0<=z);have hzn:¬(z:Int)=0:=by omega
 have hS:∀x∈t.2.2.1,0<=x.2.1/\x.2.1<=16:=λx hx=>by have:=aG.1 hq.2.2.2.1 x hx;simp only[oK,ae,aW]at this;omega
 have hcb:=C7 _ hS;have hN:zC p z<=1000:=by have:zC p z<=(kx p).1.length+z-1:=Nat.div_le_self ..;omega
 have hN0:0<zC p z:=Nat.div_pos (by omega) (by omega);have hce:=ajr (kx p).1.length z (by omega) (by omega) (by omega);rw[show((kx p).1.length+z-1)/z=zC p z from rfl]at hce;simp only[aj,af,ab,cE,ah,ax,OO,aD hzn,hce,abd _ _ (show t.2.1.2.2.2.length<=1000000000 by omega),OG,aa8 t (by omega) hS,I3];rw[ak (n:=(zC p z:Int)+1),ak (n:=ee t.2.2.1+(zC p z:Int)),ak (n:=ee t.2.2.1+(zC p z:Int)+1)];by_cases g1:(zC p z:Int)>16;rw[au g1];simp only[ah,ab,aj,dN,ff,af];rw[aq g1];simp only[bz,af,bq];cases decide ((zC p z:Int)+1>oV t.1)with|true=>simp only[ah,ab,aj,dN,ff,af]|false=> ?_
 simp only[bz,af,bq,ab];cases decide (ee t.2.2.1+(zC p z:Int)+1>t.1.2.1)with|true=>simp only[ah,ab,aj,dN,ff,af]|false=> ?_
 simp only[bz,af,fV,ab];cases hk:(kF t.2.1 (zC p z:Int)).2.2 with|false=>rfl|true=>?_
 simp only[aj,af,ah,gx m (show m.length<=1073741824 by omega),ab];obtain⟨_,hkn,hkb⟩:=VP hk;have hkl:(kF t.2.1 (zC p z:Int)).2.1.length=zC p z:=by rw[hkb,aV];omega
 have key:=aaX l m d t.2.1 (kF t.2.1 (zC p z:Int)).2.1 (kx p).1 z (by omega) hl hm (by omega) (by omega);cases hx:xE l d t.2.1 z (kF t.2.1 (zC p z:Int)).2.1 (kx p).1 m []with
 |none=>rw[hx]at key;obtain⟨a,b,e⟩:=key;obtain⟨f,g,_⟩:=Cc [] c t.2.2.2 (by simp);rw[e,ab];simp only[g,ab];cases a<;>cases f<;>rfl
 |some x=>
  rw[hx]at key;have key:nz _ _ _ _ _ _ _=_:=key;obtain⟨x1,x2⟩:=aaG hb (by omega) hc hN0 (by omega) hk hx;obtain⟨_,x3,_⟩:=Gq l d t.2.1 z _ _ _ _ hx;simp only[dZ]at x3;obtain⟨f,g,hf⟩:=Cc x.1 c t.2.2.2;have hft:f=true:=by cases f with|true=>rfl|false=>have:=hf rfl;rw[this]at x2;cases x2
  subst hft;simp only[key,g,ab,ah,aj,af,aD (show¬(qz x.1 c t.2.2.2).length=0 by omega),MP];rw[TO _ _ _ _ _ _ _ _ _ _ _ _ _ (by omega)];simp only[Xc l x.2 d t.1 _ hl (by omega) (show((qz x.1 c t.2.2.2).map yq).length<=1000000000 by rw[bP];omega),ab];cases (vG l x.2 d t.1 ((qz x.1 c t.2.2.2).map yq)).2.2 with|false=>rfl|true=>simp only[aj,af,ab,ah];rw[aQ (by simp only[ba];omega),nf,ak,x2];rfl
def R3 (g:Nat->Host->Host):Nat->Host->Host
 |0,h=>h
 |k+1,h=>g k (R3 g k h)
structure CN (a b:Host):Prop where
 maps:b.2.1=a.2.1
 tx:b.2.2.1=a.2.2.1
 rx:b.2.2.2.1.length=a.2.2.2.1.length
 pl:b.2.2.2.2.1.length=a.2.2.2.2.1.length
 vec:b.2.2.2.2.2.1=a.2.2.2.2.2.1
 pol:b.2.2.2.2.2.2.1=a.2.2.2.2.2.2.1
 ret:b.2.2.2.2.2.2.2.2.2.2.2.2.2.1=a.2.2.2.2.2.2.2.2.2.2.2.2.2.1
theorem CN.refl (a:Host):CN a a:=⟨rfl,rfl,rfl,rfl,rfl,rfl,rfl⟩
theorem CN.trans {a b c:Host}(h:CN a b)(k:CN b c):CN a c:=⟨k.1.trans h.1,k.2.trans h.2,k.3.trans h.3,k.4.trans h.4,k.5.trans h.5,k.6.trans h.6,k.7.trans h.7⟩
theorem U5 (h:Host)(i:Nat)(c:Int):CN h (wu h i c).2:=by
 unfold wu;cases h1:h.2.2.2.1[i]? with|none=>exact CN.refl h|some rx=>?_
 cases h2:h.2.2.2.2.1[i]? with|none=>exact CN.refl h|some pl=>?_
 exact⟨rfl,rfl,aB ..,aB ..,rfl,rfl,rfl⟩
def tM (h:Host)(k:Nat):Host:=R3 (λi s=>(wu s i 1000).2) k h
theorem Cm {n:Nat}(hn:128<=n){h:Host}(z:dk n dD h):∀k,CN h (tM h k)/\dk (n+322000*k) dD (tM h k)
 |0=>⟨CN.refl h,z⟩
 |k+1=>by have i:=Cm hn z k;exact⟨i.1.trans (U5 ..),(XT (by omega) k 1000 i.2).mono⟩
def ZK (h:Host)(l:bZ):Host:=(h.1,h.2.1,h.2.2.1,h.2.2.2.1,h.2.2.2.2.1,h.2.2.2.2.2.1,h.2.2.2.2.2.2.1,h.2.2.2.2.2.2.2.1,h.2.2.2.2.2.2.2.2.1,h.2.2.2.2.2.2.2.2.2.1,h.2.2.2.2.2.2.2.2.2.2.1,h.2.2.2.2.2.2.2.2.2.2.2.1,h.2.2.2.2.2.2.2.2.2.2.2.2.1,h.2.2.2.2.2.2.2.2.2.2.2.2.2.1++l,h.2.2.2.2.2.2.2.2.2.2.2.2.2.2)
def Z9 (h:Host):Host:=(h.1,h.2.1,(C2.1,C2.2.1,C2.2.2.1,h.2.2.1.2.2.2),h.2.2.2)
def E3 (h:Host)(i:Nat)(dr:Int):Host:=
 ((sr h.2.1 h.1 i).1,h.2.1,h.2.2.1,h.2.2.2.1.set i ((sr h.2.1 h.1 i).2.1,(DS i).2.1,(DS i).2.2.1,(DS i).2.2.2.1,(DS i).2.2.2.2.1,dr),h.2.2.2.2.1.set i (sr h.2.1 h.1 i).2.2.1,h.2.2.2.2.2)
def EK (x:cy):Int:=bif x.2.2.2.2.1 then ar (x.2.2.2.2.2+x.2.2.2.1.2.2) else x.2.2.2.2.2
def wz (i:Nat)(h:Host):Host:=
 match h.2.2.2.1[i]?,h.2.2.2.2.2.1[i]? with
 |some x,some v=>((E3 h i (EK x)).1,h.2.1,h.2.2.1,(E3 h i (EK x)).2.2.2.1,(E3 h i (EK x)).2.2.2.2.1,h.2.2.2.2.2.1.set i (v.1,v.2.1,0,0,false,false),h.2.2.2.2.2.2.1.set i false,h.2.2.2.2.2.2.2)
 |_,_=>h
structure aih (k:Nat) (a b:Host):Prop where
 mem:b.1.length=a.1.length
 maps:b.2.1=a.2.1
 rx:b.2.2.2.1.length=a.2.2.2.1.length
 pl:b.2.2.2.2.1.length=a.2.2.2.2.1.length
 vec:b.2.2.2.2.2.1.length=a.2.2.2.2.2.1.length
 vecs:∀j,k<=j->b.2.2.2.2.2.1[j]?=a.2.2.2.2.2.1[j]?
 pol:b.2.2.2.2.2.2.1.length=a.2.2.2.2.2.2.1.length
theorem O1 (l:aw aF)(m:bO)(i:Nat):(sr l m i).1.length=m.length:=by unfold sr;rw[Ze,kh]
theorem Vj (i:Nat)(h:Host):aih (i+1) h (wz i h):=by
 unfold wz;cases h1:h.2.2.2.1[i]? with|none=>exact⟨rfl,rfl,rfl,rfl,rfl,λ_ _=>rfl,rfl⟩|some x=>?_
 cases h2:h.2.2.2.2.2.1[i]? with|none=>exact⟨rfl,rfl,rfl,rfl,rfl,λ_ _=>rfl,rfl⟩|some v=>?_
 have e1:(E3 h i (EK x)).1.length=h.1.length:=O1 h.2.1 h.1 i;exact⟨e1,rfl,aB ..,aB ..,aB ..,λj hj=>aP (by omega),aB ..⟩
def iz (h:Host)(k:Nat):Host:=R3 wz k h
theorem xh (h:Host):∀k,aih k h (iz h k)
 |0=>⟨rfl,rfl,rfl,rfl,rfl,λ_ _=>rfl,rfl⟩
 |k+1=>by have a:=xh h k;have b:=Vj k (iz h k);exact⟨b.mem.trans a.mem,b.maps.trans a.maps,b.rx.trans a.rx,b.pl.trans a.pl,b.vec.trans a.vec,λj hj=>(b.vecs j hj).trans (a.vecs j (by omega)),b.pol.trans a.pol⟩
theorem abP (hn:1000<=n)(i:Nat)(d:Int)(z:dk n dD h):dk n dD (E3 h i d):=by unfold E3 sr;have h4:=oH (gW i+128) 384 4;have hf:=Ft h.2.1 (iy h.2.1 h.1 0 (gW i) (vZ 128) false).1 0 (gW i,4,0,0) (ig (gW i+128) 384 4).1;refine⟨Oj (by omega) (DM (by omega) z.1 ..) ..,z.2.1,z.2.2.1,mn z.2.2.2.1 ?_,mn z.2.2.2.2.1 ?_,z.2.2.2.2.2⟩;refine⟨⟨cx,cx,cx,cx⟩,⟨cx,cx,cx⟩,⟨cx,cx,cx⟩,⟨⟨cx,cx,cx,cx,cx,cx,cx,cx,cx,cx,cx,cx,cx,cx,cx,?_⟩,cx,cx⟩,cx,cx⟩;exact cf _;exact⟨cx,cx,cx,by show List.length _<=_;omega,λ_ _=>trivial⟩
theorem X2 (hn:1000<=n)(i:Nat)(z:dk n dD h):dk n dD (wz i h):=by
 unfold wz;cases h1:h.2.2.2.1[i]? with|none=>exact z|some x=>?_
 cases h2:h.2.2.2.2.2.1[i]? with|none=>exact z|some v=>?_
 have zo:=abP hn i (EK x) z;exact⟨zo.1,z.2.1,z.2.2.1,zo.2.2.2.1,zo.2.2.2.2.1,mn z.2.2.2.2.2.1 ⟨cx,cx,cx,cx,cx,cx⟩,mn z.2.2.2.2.2.2.1 trivial,z.2.2.2.2.2.2.2⟩
theorem Cq {n:Nat}(hn:1000<=n){h:Host}(z:dk n dD h):∀k,dk n dD (iz h k)
 |0=>z
 |k+1=>X2 hn k (Cq hn z k)
def MI (W:aw oe)(i:Nat)(s:Host):Host:=match W[i]? with|some x=>ZK s [x.1]|none=>s
def polled (h:Host):Host:=tM h h.2.2.2.1.length
def returned (h:Host)(k:Nat):Host:=R3 (MI h.2.2.1.2.2.1) k (polled h)
structure ang (a b:Host):Prop where
 e:b=(a.1,a.2.1,a.2.2.1,a.2.2.2.1,a.2.2.2.2.1,a.2.2.2.2.2.1,a.2.2.2.2.2.2.1,a.2.2.2.2.2.2.2.1,a.2.2.2.2.2.2.2.2.1,a.2.2.2.2.2.2.2.2.2.1,a.2.2.2.2.2.2.2.2.2.2.1,a.2.2.2.2.2.2.2.2.2.2.2.1,a.2.2.2.2.2.2.2.2.2.2.2.2.1,b.2.2.2.2.2.2.2.2.2.2.2.2.2.1,a.2.2.2.2.2.2.2.2.2.2.2.2.2.2)
theorem xT {n:Nat}{h:Host}(z:dk n dD (polled h)):∀k,ang (polled h) (returned h k)/\(returned h k).2.2.2.2.2.2.2.2.2.2.2.2.2.1.length<=n+k
 |0=>⟨⟨rfl⟩,by have:=z.2.2.2.2.2.2.2.2.2.2.2.2.2.1.1;exact bt this (by omega)⟩
 |k+1=>by have i:=xT z k;have e:returned h (k+1)=MI h.2.2.1.2.2.1 k (returned h k):=rfl;rw[e];unfold MI;cases h.2.2.1.2.2.1[k]? with|none=>exact⟨i.1,bt i.2 (by omega)⟩|some x=>refine⟨⟨?_⟩,?_⟩;show ZK _ _=_;have e:=i.1.e;generalize returned h k=r at e⊢;rw[e];rfl;show(_++[_]).length<=_;rw[ai,ba];omega
theorem RP (z:dk n dD (polled h))(k:Nat):dk (n+k) dD (returned h k):=by have i:=xT z k;have z':dk (n+k) dD (polled h):=z.mono;rw[i.1.e];exact⟨z'.1,z'.2.1,z'.2.2.1,z'.2.2.2.1,z'.2.2.2.2.1,z'.2.2.2.2.2.1,z'.2.2.2.2.2.2.1,z'.2.2.2.2.2.2.2.1,z'.2.2.2.2.2.2.2.2.1,z'.2.2.2.2.2.2.2.2.2.1,z'.2.2.2.2.2.2.2.2.2.2.1,z'.2.2.2.2.2.2.2.2.2.2.2.1,z'.2.2.2.2.2.2.2.2.2.2.2.2.1,⟨i.2,λ_ _=>trivial⟩,z'.2.2.2.2.2.2.2.2.2.2.2.2.2.2⟩
theorem VV (hn:1000<=n)(z:dk n dD h):dk n dD (Z9 h):=by have h4:=oH 256 128 8;exact⟨z.1,z.2.1,⟨⟨cx,cx,cx,cx⟩,⟨cx,cx,cx,by show List.length (ig 256 128 8).1.2.2.2<=n;omega,λ_ _=>trivial⟩,⟨cf _,λx hx=>by cases hx⟩,cx⟩,z.2.2.2⟩
def rb (h:Host):Host:=Z9 (returned h h.2.2.1.2.2.1.length)
def sD (h:Host):Host:=bif ew h then iz (rb h) h.2.2.2.1.length else h
theorem LV (hb:ew h=true):sn h=true:=by simp only[ew,ae]at hb;exact hb.2.2.2.2.1
theorem I1 (hn:1000<=n)(z:dk n dD h)(hl:h.2.2.2.1.length<=2):dk (n+644000+h.2.2.1.2.2.1.length) dD (rb h):=by have hp:=Cm (by omega) z h.2.2.2.1.length;exact VV (by omega) (RP (hp.2.mono) _)
theorem as2 (l:aw aF)(X:bO)(q:cy)(P:dw)(o:bO×kO×dw×Int)(k:cy×dw->bO×kO×dw×Int->az R)(h:iE l X 0 q.1 P=some o):(aa (iE l X 0 (q,P).1.1 (q,P).2) λr17=>k (q,P) r17)=k (q,P) o:=by show aa (iE l X 0 q.1 P) (λr17=>k (q,P) r17)=k (q,P) o;rw[h,ab]
theorem OH (l:aw aF)(m:bO)(i:Nat)(hi:i<=8)(hl:l.length<=1000000000)(hm:m.length<=1000000000)(k:cy×dw->bO×kO×dw×Int->az R): (aa (qM (i:Int)) λr13=>aa (oc 0 128) λr14=>aa (jG l m 0 r13 r14) λr15=>aa (wk (i:Int)) λr16=>aa (iE l r15.1 0 r16.1.1 r16.2) λr17=>k r16 r17)=k (DS i,(ig (gW i+128) 384 4).1) (sr l m i):=by
 have hb:gW i=1280+(i:Int)*1792:=rfl;have hb2:gW i<=9223372036854775807:=by omega
 have hz:oc 0 128=some (vZ 128):=Zn 128;have hf:=TP l (iy l m 0 (gW i) (vZ 128) false).1 0 (gW i,4,0,0) (ig (gW i+128) 384 4).1 hl (by rw[kh];exact hm) (bt (oH (gW i+128) 384 4) (by omega));rw[TJ i hi,ab,hz,ab,Bk l m 0 (gW i) (vZ 128) hl hm hb2,ab,aa4 i hi,ab];exact as2 l _ (DS i) _ (sr l m i) k hf
theorem NF (K:Int->Host->az Host)(s0 B:Host)(N:Nat)(hN:N<=2)(h1:s0.2.2.2.1.length=N)(h2:s0.2.2.2.2.1.length=N)(h3:s0.2.2.2.2.2.1.length=N)(h4:s0.2.2.2.2.2.2.1.length=N)(z:dk 900000000 dD s0): bl (kW K (N:Int) B) fuel (0,s0)=K (N:Int) (iz s0 N):=by
 refine dz (λi=>((i:Int),iz s0 i)) N (by omega) (λi nx hi=>?_) (λnx=>?_);have kr:=xh s0 i;have zr:=Cq (by omega) z i;have z1:(iz s0 i).1.length<=1000000000:=bt zr.1.1 (by omega);have z2:(iz s0 i).2.1.length<=1000000000:=bt zr.2.1.1 (by omega);have i1:i<(iz s0 i).2.2.2.1.length:=by rw[kr.rx,h1];exact hi
 have i2:i<(iz s0 i).2.2.2.2.1.length:=by rw[kr.pl,h2];exact hi
 have i3:i<(iz s0 i).2.2.2.2.2.1.length:=by rw[kr.vec,h3];exact hi
 have i4:i<(iz s0 i).2.2.2.2.2.2.1.length:=by rw[kr.pol,h4];exact hi
 rw[show iz s0 (i+1)=wz i (iz s0 i) from rfl];generalize iz s0 i=s at z1 z2 i1 i2 i3 i4⊢;unfold wz EK E3;simp only[al i1,al i3];simp only[kW];rw[jz,ah];simp only[bu i1,ab];rw[OH s.2.1 s.1 i (by omega) z2 z1,OH s.2.1 s.1 i (by omega) z2 z1];generalize DS i=q;generalize sr s.2.1 s.1 i=o;simp only[bu i1,bu i2,bu i3,bu i4,ab];rw[ak (n:=(i:Int)+1),ax];cases s.2.2.2.1[i].2.2.2.2.1<;>rfl;simp only[kW];rw[iw,af]
theorem QY (hq:CN h (polled h))(hz:dk n dD (polled h)):(rb h).2.2.2.1.length=h.2.2.2.1.length/\(rb h).2.2.2.2.1.length=h.2.2.2.2.1.length/\(rb h).2.2.2.2.2.1=h.2.2.2.2.2.1/\(rb h).2.2.2.2.2.2.1=h.2.2.2.2.2.2.1:=by have er:=(xT hz h.2.2.1.2.2.1.length).1.e;refine⟨?_,?_,?_,?_⟩;show(returned h h.2.2.1.2.2.1.length).2.2.2.1.length=_;rw[er];exact hq.rx;show(returned h h.2.2.1.2.2.1.length).2.2.2.2.1.length=_;rw[er];exact hq.pl;show(returned h h.2.2.1.2.2.1.length).2.2.2.2.2.1=_;rw[er];exact hq.vec;show(returned h h.2.2.1.2.2.1.length).2.2.2.2.2.2.1=_;rw[er];exact hq.pol
theorem EX (h:Host)(k:KB h)(z:dk 100000000 dD h):qG h=some (sD h):=by
 have hfu:=eJ;unfold qG sD;rw[js h (z.mono),ab,uS h k,ab];cases hb:ew h with|false=>rfl|true=>?_
 have hl:=rO (LV hb);have hw:h.2.2.1.2.2.1.length<=100000000:=z.2.2.1.2.2.1.1;have hp:=Cm (n:=100000000) (by omega) z;simp only[aj,af,ah];refine dz (λi=>((i:Int),tM h i)) h.2.2.2.1.length (by omega) (λi nx hi=>?_) (λnx=>?_);simp only[qe];rw[jz,ah,Rp (tM h i) i 1000 (by rw[(hp i).1.rx];exact hi) (by rw[(hp i).1.pl];omega) ((hp i).2.mono),ab,ak];rfl;simp only[qe];rw[iw,af];have hq:=hp h.2.2.2.1.length;have hr:=xT (n:=100000000+322000*h.2.2.2.1.length) hq.2;have e1:(tM h h.2.2.2.1.length).2.2.1.2.2.1=h.2.2.1.2.2.1:=by rw[hq.1.tx]
 rw[e1];refine dz (λi=>((i:Int),returned h i)) h.2.2.1.2.2.1.length (by omega) (λi nx hi=>?_) (λnx=>?_);have hri:=(hr i).2;simp only[ov];rw[jz,ah,bu hi,ab,aQ (by rw[ba];omega),ak];rw[show returned h (i+1)=MI h.2.2.1.2.2.1 i (returned h i) from rfl,MI,al hi];rfl;simp only[ov];rw[iw,af];simp only[abh,ab];have hE:=I1 (n:=100000000) (by omega) z hl.1;have hk:=QY hq.1 hq.2;have eN:((List.length (returned h h.2.2.1.2.2.1.length).2.2.2.1:Nat):Int)=(h.2.2.2.1.length:Int):=congrArg Nat.cast hk.1;rw[eN];exact NF _ (rb h) _ h.2.2.2.1.length hl.1 hk.1 (hk.2.1.trans hl.2.1) (by rw[hk.2.2.1];exact hl.2.2.1) (by rw[hk.2.2.2];exact hl.2.2.2) (hE.mono)
def zD (x:F4):Bool:=cX x.1 0 65535&&(cX x.2.1 0 65535&&(cX x.2.2.1 0 65535&&(cX x.2.2.2.1 0 65535&&cX x.2.2.2.2 0 4294967295)))
theorem OD (x:F4):mc x=some (zD x):=by simp only[mc,cn,ab,bM,cF,zD]
def QZ (x:F4)(p:Int):Bytes:=bif zD x&&cX p 0 1 then((((cm x.1++cm x.2.1)++cm x.2.2.1)++cm x.2.2.2.1)++gk x.2.2.2.2)++gk p else []
theorem adN (x:F4)(p:Int):lp x p=some (QZ x p):=by
 have h1:=bS x.1;have h2:=bS x.2.1;have h3:=bS x.2.2.1;have h4:=bS x.2.2.2.1;have h5:=dS x.2.2.2.2;have h6:=dS p;unfold lp QZ;simp only[OD,cn,ab,kU,ue];cases zD x with|false=>rfl|true=>?_
 cases cX p 0 1 with|false=>rfl|true=>?_
 simp only[aj,af,ab,cE,ah];rw[aQ,aQ (by simp only[ai];omega),aQ (by simp only[ai];omega),aQ (by simp only[ai];omega),aQ (by simp only[ai];omega)]
def AW (l:aw aF)(m:bO)(d:Int)(q:tt)(x:F4):bO×tt×Bool:=
 bif !gj q|| !zD x then(m,q,false) else
 bif !(iy l m d (su q) (QZ x (zZ q)) true).2 then(m,q,false) else
 ((iy l m d (su q) (QZ x (zZ q)) true).1,(q.1,q.2.1,Int.tmod (q.2.2+1) (2*q.2.1)),true)
theorem adX (l:aw aF)(m:bO)(d:Int)(q:tt)(x:F4)(hl:l.length<=1000000000)(hm:m.length<=1000000000):oz l m d q x=some (AW l m d q x):=by
 unfold oz AW;simp only[H4,OD,ab,gx m (show m.length<=1073741824 by omega),OI,adN];cases hq:gj q with|false=>rfl|true=>?_
 have h:=vI hq;have hs:=RX hq;cases zD x with|false=>rfl|true=>?_
 simp only[aj,af,ab,cz,OM q hq,Cd l m d _ _ hl hm (show su q<=9223372036854775807 by unfold su;omega)];cases hp:(iy l m d (su q) (QZ x (zZ q)) true).2 with|false=>simp only[bz,ah,IC hp]|true=>simp only[aj,af];rw[ak (n:=2*q.2.1),nf,ak (n:=q.2.2+1)]
theorem ab4 (hn:128<=n)(z:dk n (.sl .str) m)(l:aw aF)(d:Int)(q:tt)(x:F4):dk n (.sl .str) (AW l m d q x).1/\(AW l m d q x).1.length=m.length:=by
 unfold AW;cases !gj q|| !zD x with|true=>exact⟨z,rfl⟩|false=>?_
 cases (iy l m d (su q) (QZ x (zZ q)) true).2 with|false=>exact⟨z,rfl⟩|true=>exact⟨DM hn z ..,kh ..⟩
theorem ZF {q:tt}{x:F4}(h:gj q=true):gj (AW l m d q x).2.1=true/\(AW l m d q x).2.1.1=q.1/\(AW l m d q x).2.1.2.1=q.2.1:=by
 have hq:=vI h;unfold AW;cases !gj q|| !zD x with|true=>exact⟨h,rfl,rfl⟩|false=>?_
 cases (iy l m d (su q) (QZ x (zZ q)) true).2 with|false=>exact⟨h,rfl,rfl⟩|true=>refine⟨?_,rfl,rfl⟩;have e:=Sb (a:=q.2.2+1) (b:=2*q.2.1);simp only[af,aj,gj,ae,aW]at h⊢;refine⟨h.1,h.2.1,?_⟩;rw[zw h.2.1];omega
def iD (l:aw aF)(m:bO)(d:Int)(q:cy)(k:Bytes)(s:Bytes):bO×tt×Bool:=
 bif !(dq s).2||(((dq s).1.1 !=3)||decide ((dq s).1.2.2.1<((dI q.2.2.2.1.1).1.length:Int))) then(m,q.2.1,false) else
 bif !(iy l m d (dq s).1.2.2.2.1 (dI q.2.2.2.1.1).1 true).2 then(m,q.2.1,false) else
 AW l (iy l m d (dq s).1.2.2.2.1 (dI q.2.2.2.1.1).1 true).1 d q.2.1 ((dq s).1.2.2.2.2.2,((dI q.2.2.2.1.1).1.length:Int),q.2.2.2.1.2.1,q.2.2.2.1.2.2,zK k (uP (mB q.2.2.2.1.1)))
theorem abc (l:aw aF)(m:bO)(d:Int)(q:cy)(k s:Bytes)(hl:l.length<=1000000000)(hm:m.length<=1000000000)(hs:s.length<=1000000000)(hh:dG q.2.2.2.1.1=true):∃b,vC l m d q k s=some (b,iD l m d q k s)/\(b=false->iD l m d q k s=(m,q.2.1,false)):=by
 unfold vC iD;have hok:=WB (s:=s);simp only[TM s hs,BC,ab,Ep hh];generalize dq s=x at hok⊢;cases hx:x.2 with|false=>exact⟨false,rfl,λ_=>rfl⟩|true=>?_
 have hd:=hok hx;simp only[uq,ae,aW]at hd;cases x.1.1 !=3 with|true=>exact⟨false,rfl,λ_=>rfl⟩|false=>?_
 cases decide (x.1.2.2.1<((dI q.2.2.2.1.1).1.length:Int))with|true=>exact⟨false,rfl,λ_=>rfl⟩|false=>?_
 simp only[aj,af,ab,cz,Cd l m d _ _ hl hm (show x.1.2.2.2.1<=9223372036854775807 by omega)];cases (iy l m d x.1.2.2.2.1 (dI q.2.2.2.1.1).1 true).2 with|false=>exact⟨false,rfl,λ_=>rfl⟩|true=>?_
 simp only[aj,af,LZ,ab,GG,adX l _ d _ _ hl (show(iy l m d x.1.2.2.2.1 (dI q.2.2.2.1.1).1 true).1.length<=1000000000 by rw[kh];exact hm)];exact⟨true,rfl,λh=>by cases h⟩
theorem PA (hn:128<=n){k:Bytes}(z:dk n (.sl .str) m)(hq:gj q.2.1=true): dk n (.sl .str) (iD l m d q k s).1/\(iD l m d q k s).1.length=m.length/\gj (iD l m d q k s).2.1=true/\(iD l m d q k s).2.1.1=q.2.1.1/\(iD l m d q k s).2.1.2.1=q.2.1.2.1:=by
 unfold iD;cases !(dq s).2||(((dq s).1.1 !=3)||decide ((dq s).1.2.2.1<((dI q.2.2.2.1.1).1.length:Int)))with|true=>exact⟨z,rfl,hq,rfl,rfl⟩|false=>?_
 cases (iy l m d (dq s).1.2.2.2.1 (dI q.2.2.2.1.1).1 true).2 with|false=>exact⟨z,rfl,hq,rfl,rfl⟩|true=>?_
 have h1:=DM hn z l d (dq s).1.2.2.2.1 (dI q.2.2.2.1.1).1 true;have h2:=kh l m d (dq s).1.2.2.2.1 (dI q.2.2.2.1.1).1 true;generalize (iy l m d (dq s).1.2.2.2.1 (dI q.2.2.2.1.1).1 true).1=w at h1 h2;have h3:=ab4 hn h1 l d q.2.1 ((dq s).1.2.2.2.2.2,((dI q.2.2.2.1.1).1.length:Int),q.2.2.2.1.2.1,q.2.2.2.1.2.2,zK k (uP (mB q.2.2.2.1.1)));have h4:=ZF (l:=l) (m:=w) (d:=d) (x:=((dq s).1.2.2.2.2.2,((dI q.2.2.2.1.1).1.length:Int),q.2.2.2.1.2.1,q.2.2.2.1.2.2,zK k (uP (mB q.2.2.2.1.1)))) hq;exact⟨h3.1,h3.2.trans h2,h4⟩
def ja (l:aw aF)(m:bO)(d:Int)(q:cy)(k:Bytes):bO×cy:=
 bif !F6 q||(!q.2.2.2.2.1||((k.length:Int) !=16)) then(m,q) else
 bif (bC l m d q.1).2.2&&(iD l m d q k (bC l m d q.1).1).2.2 then
  ((iD l m d q k (bC l m d q.1).1).1,(bC l m d q.1).2.1,(iD l m d q k (bC l m d q.1).1).2.1,q.2.2.1,acF,false,q.2.2.2.2.2)
 else(m,(bC l m d q.1).2.1,q.2.1,q.2.2.1,acF,false,ar (q.2.2.2.2.2+q.2.2.2.1.2.2))
theorem VQ (h:(bC l m d r).2.2=false):(bC l m d r).2.1=r:=by
 unfold bC at h⊢;cases hc: !dv r||(bT r==0)with|true=>rfl|false=>?_
 cases hd:(sy l m d (pj r r.2.2.1) 16).2 with|false=>rfl|true=>rw[hc,hd]at h;cases h
theorem BS (h:F6 q=true):gj q.2.1=true/\(q.2.2.2.2.1=true->dG q.2.2.2.1.1=true):=by unfold F6 at h;simp only[ae]at h;refine⟨h.1.2.1,λhh=>?_⟩;have h2:=h.2;rw[hh]at h2;simp only[ah,ae]at h2;exact h2.1
theorem H3 (l:aw aF)(m:bO)(d:Int)(q:cy)(k:Bytes)(hl:l.length<=1000000000)(hm:m.length<=1000000000):np l m d q k=some (ja l m d q k):=by
 have ht:=Ff l m d q.1;have hno:=VQ (l:=l) (m:=m) (d:=d) (r:=q.1);unfold np ja;simp only[Rq,ab,gx m (show m.length<=1073741824 by omega),GP l m d q.1 hl hm];cases hr:F6 q with|false=>rfl|true=>?_
 cases hh:q.2.2.2.2.1 with|false=>rfl|true=>?_
 cases (k.length:Int) !=16 with|true=>rfl|false=>?_
 obtain⟨b,hb,hb2⟩:=abc l m d q k (bC l m d q.1).1 hl hm (by omega) ((BS hr).2 hh);simp only[aj,af,ab,cz,hb];generalize iD l m d q k (bC l m d q.1).1=s at hb hb2⊢;cases hk:(bC l m d q.1).2.2 with|false=>rw[hno hk];rfl|true=>?_
 cases b with|true=>cases hs:s.2.2<;>rfl|false=>rw[hb2 rfl];rfl
theorem Em (hn:128<=n){k:Bytes}(z:dk n (.sl .str) m)(zq:dk n eS q): dk n (.sl .str) (ja l m d q k).1/\(ja l m d q k).1.length=m.length/\dk n eS (ja l m d q k).2/\(F6 q=true->gj (ja l m d q k).2.2.1=true/\(ja l m d q k).2.2.1.2.1=q.2.1.2.1):=by
 unfold ja;cases hc: !F6 q||(!q.2.2.2.2.1||((k.length:Int) !=16))with|true=>exact⟨z,rfl,zq,λh=>⟨(BS h).1,rfl⟩⟩|false=>?_
 simp only[cr,dU]at hc;have hq:=(BS hc.1).1;have hs:=PA hn (l:=l) (d:=d) (k:=k) (s:=(bC l m d q.1).1) z hq;have e0:dk n eS ((bC l m d q.1).2.1,(iD l m d q k (bC l m d q.1).1).2.1,q.2.2.1,acF,false,q.2.2.2.2.2):=⟨⟨cx,cx,cx,cx⟩,⟨cx,cx,cx⟩,⟨cx,cx,cx⟩,⟨⟨cx,cx,cx,cx,cx,cx,cx,cx,cx,cx,cx,cx,cx,cx,cx,cf _⟩,cx,cx⟩,cx,cx⟩
 cases (bC l m d q.1).2.2&&(iD l m d q k (bC l m d q.1).1).2.2 with|true=>exact⟨hs.1,hs.2.1,e0,λ_=>⟨hs.2.2.1,hs.2.2.2.2⟩⟩|false=>exact⟨z,rfl,⟨⟨cx,cx,cx,cx⟩,⟨cx,cx,cx⟩,⟨cx,cx,cx⟩,⟨⟨cx,cx,cx,cx,cx,cx,cx,cx,cx,cx,cx,cx,cx,cx,cx,cf _⟩,cx,cx⟩,cx,cx⟩,λ_=>⟨hq,rfl⟩⟩
def evS (k:Nat)(h:Host):Host:=
 match h.2.2.2.2.2.1[k]? with
 |some v=>(h.1,h.2.1,h.2.2.1,h.2.2.2.1,h.2.2.2.2.1,h.2.2.2.2.2.1.set k (evV v),h.2.2.2.2.2.2)
 |none=>h
def Za (k:Nat):Nat->Host->Host
 |0,h=>h
 |i+1,h=>evS k (Za k i h)
theorem adr (k:Nat)(h:Host):kP (k+1) h (evS k h):=by unfold evS;cases h.2.2.2.2.2.1[k]? with|none=>exact kP.refl _ _|some v=>exact⟨rfl,rfl,rfl,rfl,λ_ _=>rfl,rfl,aB ..,λj hj=>aP (by omega),rfl,rfl,rfl⟩
theorem Lu (k:Nat)(h:Host):∀i,kP (k+1) h (Za k i h)
 |0=>kP.refl _ _
 |i+1=>(Lu k h i).trans (adr k _)
theorem agW (k:Nat)(z:dk n dD h):dk n dD (evS k h):=by unfold evS;cases h.2.2.2.2.2.1[k]? with|none=>exact z|some v=>exact⟨z.1,z.2.1,z.2.2.1,z.2.2.2.1,z.2.2.2.2.1,Kx z.2.2.2.2.2.1,z.2.2.2.2.2.2⟩
theorem Zb {n:Nat}(k:Nat){h:Host}(z:dk n dD h):∀i,dk n dD (Za k i h)
 |0=>z
 |i+1=>agW k (Zb k z i)
theorem WZ (h:Host)(k:Nat)(b:Int)(h1:k<h.2.2.2.1.length)(h2:k<h.2.2.2.2.2.1.length)(hq:gj h.2.2.2.1[k].2.1=true)(hb:0<=b/\b<=31):kZ h (k:Int) b=some ((),Za k ((h.2.2.2.1[k].2.1.2.2-b)%(2*h.2.2.2.1[k].2.1.2.1)).toNat h):=by
 have hfu:=eJ;have q:=vI hq;unfold kZ;rw[bu h1,ab];generalize h.2.2.2.1[k]=x at q⊢;rw[ak (n:=x.2.1.2.2-b),ak (n:=2*x.2.1.2.1),Im _ _,ab];have hm:0<=(x.2.1.2.2-b)%(2*x.2.1.2.1)/\(x.2.1.2.2-b)%(2*x.2.1.2.1)<32:=by have g1:=fy (x.2.1.2.2-b) (show 2*x.2.1.2.1≠0 by omega);have g2:=fC (x.2.1.2.2-b) (show 0<2*x.2.1.2.1 by omega);omega
 generalize (x.2.1.2.2-b)%(2*x.2.1.2.1)=c at hm⊢;obtain⟨c,rfl⟩:=aR hm.1;rw[ax];have e0:((c:Int),h)=(((c:Int)-((0:Nat):Int)),Za k 0 h):=by simp[Za]
 rw[e0];refine dz (λi=>((c:Int)-(i:Int),Za k i h)) c (by omega) (λi nx hi=>?_) (λnx=>?_);have kk:=Lu k h i;have i1:k<(Za k i h).2.2.2.2.2.1.length:=by rw[kk.vec];exact h2
 rw[show Za k (i+1) h=evS k (Za k i h) from rfl];generalize Za k i h=s at i1⊢;simp only[qk,evS];rw[jz,ah,al i1];simp only[bu i1,ab,aaT,ax];rw[ak,show(c:Int)-(i:Int)-1=(c:Int)-((i+1:Nat):Int) by omega];simp only[qk];rw[iw,af]
def Hd (h:Host)(k:Nat)(f:bO×cy):Host:=(f.1,h.2.1,h.2.2.1,h.2.2.2.1.set k f.2,h.2.2.2.2)
def F2 (h:Host)(k:Nat)(b:Int)(f:bO×cy):Host:=Za k ((f.2.2.1.2.2-b)%(2*f.2.2.1.2.1)).toNat (Hd h k f)
def pQ (k:Nat)(h:Host):Host:=
 match h.2.2.2.1[k]? with
 |some x=>F2 h k x.2.1.2.2 (ja h.2.1 h.1 0 x h.2.2.2.2.2.2.2.2.1.2.2.1)
 |none=>h
theorem D8 (hf:f.1.length=h.1.length):kP (k+1) h (F2 h k b f):=by
 have a:kP (k+1) h (Hd h k f):=⟨hf,rfl,rfl,aB ..,λj hj=>aP (by omega),rfl,rfl,λ_ _=>rfl,rfl,rfl,rfl⟩
 exact a.trans (Lu k (Hd h k f) _)
theorem Nn (z:dk n dD h)(h1:dk n (.sl .str) f.1)(h2:dk n eS f.2):dk n dD (F2 h k b f):=by
 have a:dk n dD (Hd h k f):=⟨h1,z.2.1,z.2.2.1,mn z.2.2.2.1 h2,z.2.2.2.2⟩
 exact Zb k a _
theorem Tl {k:Bytes}:(ja l m d q k).1.length=m.length:=by
 have hs:(iD l m d q k (bC l m d q.1).1).1.length=m.length:=by
  unfold iD;cases !(dq (bC l m d q.1).1).2||(((dq (bC l m d q.1).1).1.1 !=3)||decide ((dq (bC l m d q.1).1).1.2.2.1<((dI q.2.2.2.1.1).1.length:Int)))with|true=>rfl|false=>?_
  cases (iy l m d (dq (bC l m d q.1).1).1.2.2.2.1 (dI q.2.2.2.1.1).1 true).2 with|false=>rfl|true=>?_
  have h2:=kh l m d (dq (bC l m d q.1).1).1.2.2.2.1 (dI q.2.2.2.1.1).1 true;simp only[af,aj];unfold AW;cases !gj q.2.1|| !zD ((dq (bC l m d q.1).1).1.2.2.2.2.2,((dI q.2.2.2.1.1).1.length:Int),q.2.2.2.1.2.1,q.2.2.2.1.2.2,zK k (uP (mB q.2.2.2.1.1)))with|true=>exact h2|false=>?_
  cases (iy l (iy l m d (dq (bC l m d q.1).1).1.2.2.2.1 (dI q.2.2.2.1.1).1 true).1 d (su q.2.1) (QZ ((dq (bC l m d q.1).1).1.2.2.2.2.2,((dI q.2.2.2.1.1).1.length:Int),q.2.2.2.1.2.1,q.2.2.2.1.2.2,zK k (uP (mB q.2.2.2.1.1))) (zZ q.2.1)) true).2 with|false=>exact h2|true=>exact(kh ..).trans h2
 unfold ja;cases !F6 q||(!q.2.2.2.2.1||((k.length:Int) !=16))with|true=>rfl|false=>?_
 cases (bC l m d q.1).2.2&&(iD l m d q k (bC l m d q.1).1).2.2 with|true=>exact hs|false=>rfl
theorem xF (k:Nat)(h:Host):kP (k+1) h (pQ k h):=by unfold pQ;cases h.2.2.2.1[k]? with|none=>exact kP.refl _ _|some x=>exact D8 Tl
theorem LG (k:Nat)(h:Host)(n:Nat)(hn:1000<=n)(z:dk n dD h):dk (n+0) dD (pQ k h):=by unfold pQ;cases hx:h.2.2.2.1[k]? with|none=>exact z|some x=>have hf:=Em (show 128<=n by omega) (l:=h.2.1) (d:=0) (k:=h.2.2.2.2.2.2.2.2.1.2.2.1) z.1 (z.2.2.2.1.2 _ (aX hx));exact Nn z hf.1 hf.2.2.1
def we (h:Host):Host:=bif ew h then lF pQ h.2.2.2.1.length h else h
theorem aaK (hn:1000<=n)(k:Ap n h):Ap n (we h):=by unfold we;cases ew h with|false=>exact k|true=>refine⟨(Cy hn LG k.z _).mono,?_⟩;simp only[ah];rw[(nZ xF h _).tx];exact k.t
theorem Fz (hb:ew h=true):∀i (hi:i<h.2.2.2.1.length),F6 h.2.2.2.1[i]=true:=by simp only[ew,Vl,ae]at hb;exact λi hi=>aG.1 hb.2.2.2.2.2.2.1.1 _ (aN hi)
theorem JV (h1:k<h.2.2.2.1.length)(h2:k<h.2.2.2.2.2.1.length)(hq:gj f.2.2.1=true)(hb:0<=b/\b<=31:=by omega): kZ (f.1,h.2.1,h.2.2.1,h.2.2.2.1.set k f.2,h.2.2.2.2) (k:Int) b=some ((),F2 h k b f):=by
 have h3:k<(Hd h k f).2.2.2.1.length:=by show k<(h.2.2.2.1.set k f.2).length;rw[aB];exact h1
 have e:(Hd h k f).2.2.2.1[k]=f.2:=List.getElem_set_self _;have a:=WZ (Hd h k f) k b h3 h2 (by rw[e];exact hq) hb;rw[e]at a;exact a
theorem W4 (h:Host)(k:Ap 900000000 h):vd h=some (we h):=by
 have hfu:=eJ;unfold vd we;rw[js h (k.z.mono),ab,uS h (k.sz),ab];cases hb:ew h with|false=>rfl|true=>?_
 have hl:=rO (by simp only[ew,ae]at hb;exact hb.2.2.2.2.1:sn h=true);have hr:=Fz hb;simp only[aj,af,ah];refine dz (λi=>((i:Int),lF pQ i h)) h.2.2.2.1.length (by omega) (λi nx hi=>?_) (λnx=>?_);have kk:=nZ xF h i;have zz:dk 900000000 dD (lF pQ i h):=(Cy (by omega) LG k.z i).mono;have i1:i<(lF pQ i h).2.2.2.1.length:=by rw[kk.rx];exact hi
 have i2:i<(lF pQ i h).2.2.2.2.2.1.length:=by rw[kk.vec];omega
 have e1:(lF pQ i h).2.2.2.1[i]=h.2.2.2.1[i]:=by have:=kk.rxs i (bh _);rw[al i1,al hi]at this;exact cc this
 rw[show lF pQ (i+1) h=pQ i (lF pQ i h) from rfl];generalize lF pQ i h=s at zz i1 i2 e1⊢;have z1:s.1.length<=900000000:=zz.1.1;have z2:s.2.1.length<=900000000:=zz.2.1.1;have hrx:=hr i hi;rw[<-e1]at hrx;have hqd:=vI (BS hrx).1;have hf:=Em (show 128<=900000000 by omega) (l:=s.2.1) (d:=0) (k:=s.2.2.2.2.2.2.2.2.1.2.2.1) zz.1 (zz.2.2.2.1.2 _ (aN i1));have ev:=JV (h:=s) (k:=i) (b:=s.2.2.2.1[i].2.1.2.2) (f:=ja s.2.1 s.1 0 s.2.2.2.1[i] s.2.2.2.2.2.2.2.2.1.2.2.1) i1 i2 (hf.2.2.2 hrx).1;simp only[qd,pQ];rw[jz,ah,al i1];simp only[bu i1,bu hi,ab,H3 s.2.1 s.1 0 _ _ (show s.2.1.length<=1000000000 by omega) (show s.1.length<=1000000000 by omega),ax,<-e1,ev];rw[ak];rfl;simp only[qd];rw[iw,af]
def U3 (a b:aI):Bool:=(a.1==b.1)&&((a.2.1==b.2.1)&&((a.2.2.1==b.2.2.1)&&((a.2.2.2.1==b.2.2.2.1)&&((a.2.2.2.2.2.1==b.2.2.2.2.2.1)&&((a.2.2.2.2.2.2.1==b.2.2.2.2.2.2.1)&&((a.2.2.2.2.2.2.2.1==b.2.2.2.2.2.2.2.1)&&((a.2.2.2.2.2.2.2.2.1==b.2.2.2.2.2.2.2.2.1)&&((a.2.2.2.2.2.2.2.2.2.1==b.2.2.2.2.2.2.2.2.2.1)&&((a.2.2.2.2.2.2.2.2.2.2.1==b.2.2.2.2.2.2.2.2.2.2.1)&&((a.2.2.2.2.2.2.2.2.2.2.2.2.1==b.2.2.2.2.2.2.2.2.2.2.2.2.1)&&((a.2.2.2.2.2.2.2.2.2.2.2.2.2.2.1==b.2.2.2.2.2.2.2.2.2.2.2.2.2.2.1))))))))))))
theorem adW (a b:aI):xa a b=some (U3 a b):=by unfold xa U3;simp only[beq_self_eq_true,bq,fV]
def am5 (s:sk)(p:aI):Bool:=(p.2.2.2.2.2.2.2.2.2.2.2.1==Int.tmod (ar (s.1.2.2.2.2.2.2.2.2.2.2.2.1+(s.1.2.2.2.2.2.2.2.2.2.2.2.2.2.2.2.length:Int))) 4294967296)&&(p.2.2.2.2.1==Int.tmod (ar (s.1.2.2.2.2.1+s.2.2)) 65536)
def ZQ (s:sk)(p:aI):Bool:=decide (1<=s.2.1)&&(cX s.2.2 1 320&&(decide ((s.1.2.2.2.2.2.2.2.2.2.2.2.2.2.2.2.length:Int)=s.2.1*s.2.2)&&(cX (p.2.2.2.2.2.2.2.2.2.2.2.2.2.2.2.length:Int) 1 s.2.1&&decide ((s.1.2.2.2.2.2.2.2.2.2.2.2.2.2.2.2.length:Int)+(p.2.2.2.2.2.2.2.2.2.2.2.2.2.2.2.length:Int)<=320))))
def adH (s:sk)(p:aI):Bool:=dG s.1&&(eK p&&(U3 s.1 p&&((p.2.2.2.2.2.2.2.2.1==6)&&((s.1.2.2.2.2.2.2.2.2.2.2.2.2.2.1==16)&&B7 p.2.2.2.2.2.2.2.2.2.2.2.2.2.1))))
def HO (s:sk)(p:aI):Bool:=adH s p&&(ZQ s p&&am5 s p)
theorem G7 (h:eK p=true)(h6:(p.2.2.2.2.2.2.2.2.1==6)=true):cX p.2.2.2.2.2.2.2.2.2.2.2.2.2.1 0 31=true:=by simp only[eK,dG,ae]at h;exact EA (zN h.1.1) h6
theorem FQ (h:eK p=true):p.2.2.2.2.2.2.2.2.2.2.2.2.2.2.2.length<=128:=by simp only[eK,ae,aH]at h;omega
theorem Zk (s:sk)(p:aI):uV s p=some (HO s p):=by
 unfold uV HO adH;rw[lI,ab,wi,ab,adW,ab];cases hs:dG s.1 with|false=>rfl|true=>?_
 cases hp:eK p with|false=>rfl|true=>?_
 cases U3 s.1 p with|false=>rfl|true=>?_
 cases h6:p.2.2.2.2.2.2.2.2.1==6 with|false=>simp only[bne,h6];rfl|true=>?_
 cases h16:s.1.2.2.2.2.2.2.2.2.2.2.2.2.2.1==16 with|false=>simp only[bne,h6,h16];rfl|true=>?_
 have hf:=G7 hp h6;have hsl:=CC hs;have hpl:=FQ hp;simp only[bne,h6,h16,aj,af,ab,Lz _ hf,bq];cases B7 p.2.2.2.2.2.2.2.2.2.2.2.2.2.1 with|false=>rfl|true=>?_
 simp only[aj,af,cn,ab,bq];rw[aD (show¬(4294967296:Nat)=0 by omega),aD (show¬(65536:Nat)=0 by omega)];simp only[bM,cF];rw[show((p.2.2.2.2.2.2.2.2.2.2.2.1==Int.tmod (ar (s.1.2.2.2.2.2.2.2.2.2.2.2.1+(s.1.2.2.2.2.2.2.2.2.2.2.2.2.2.2.2.length:Int))) 4294967296)&&(p.2.2.2.2.1==Int.tmod (ar (s.1.2.2.2.2.1+s.2.2)) 65536))=am5 s p from rfl];unfold ZQ;generalize am5 s p=q;generalize s.1.2.2.2.2.2.2.2.2.2.2.2.2.2.2.2.length=n at hsl⊢;generalize p.2.2.2.2.2.2.2.2.2.2.2.2.2.2.2.length=m at hpl⊢;rw[ak (n:=(n:Int)+(m:Int))];by_cases h1:s.2.1<1;rw[au h1,aq (show¬1<=s.2.1 by omega)];rfl;rw[aq h1,au (show 1<=s.2.1 by omega)];cases h2:cX s.2.2 1 320 with|false=>rfl|true=>?_
 have h2':=aW.1 h2;simp only[aj,af,ab,bq];rw[nf,nf];have e1:Int.tmod (n:Int) s.2.2=(n:Int)%s.2.2:=dE (by omega);have e2:Int.tdiv (n:Int) s.2.2=(n:Int)/s.2.2:=Int.tdiv_eq_ediv_of_nonneg (by omega);have hdm:=Int.emod_add_mul_ediv (n:Int) s.2.2;have hq0:0<=(n:Int)/s.2.2:=Int.ediv_nonneg (by omega) (by omega);have hq1:(n:Int)/s.2.2<=(n:Int):=Int.ediv_le_self _ (by omega);rw[e1,e2,ak (n:=(n:Int)/s.2.2)];by_cases h3:(n:Int)=s.2.1*s.2.2;have h4:(n:Int)%s.2.2=0:=by rw[h3];exact Int.mul_emod_left ..
 have h5:(n:Int)/s.2.2=s.2.1:=by rw[h3];exact Int.mul_ediv_cancel _ (by omega)
 rw[h4,h5,au h3];simp only[beq_self_eq_true,aj,af,ab,bq];cases cX (m:Int) 1 s.2.1 with|false=>rfl|true=>?_
 cases decide ((n:Int)+(m:Int)<=320)<;>rfl;rw[aq h3];cases h4:(n:Int)%s.2.2==0 with
 |false=>rfl
 |true=>
  have h4':(n:Int)%s.2.2=0:=by simpa using h4
  have h5:((n:Int)/s.2.2==s.2.1)=false:=by rw[cl];intro h5;rw[h4',h5]at hdm;exact h3 (by rw[Int.mul_comm];omega)
  simp only[aj,af,h5,bz,ab,ah];rfl
def EZ (s:sk)(p:aI):sk:=bif HO s p then((s.1.1,s.1.2.1,s.1.2.2.1,s.1.2.2.2.1,s.1.2.2.2.2.1,s.1.2.2.2.2.2.1,s.1.2.2.2.2.2.2.1,s.1.2.2.2.2.2.2.2.1,s.1.2.2.2.2.2.2.2.2.1,s.1.2.2.2.2.2.2.2.2.2.1,s.1.2.2.2.2.2.2.2.2.2.2.1,s.1.2.2.2.2.2.2.2.2.2.2.2.1,s.1.2.2.2.2.2.2.2.2.2.2.2.2.1,p.2.2.2.2.2.2.2.2.2.2.2.2.2.1,s.1.2.2.2.2.2.2.2.2.2.2.2.2.2.2.1,s.1.2.2.2.2.2.2.2.2.2.2.2.2.2.2.2++p.2.2.2.2.2.2.2.2.2.2.2.2.2.2.2),s.2.1,ar (s.2.2+1)) else s
theorem P0 {s:sk}(h:HO s p=true):s.1.2.2.2.2.2.2.2.2.2.2.2.2.2.2.2.length+p.2.2.2.2.2.2.2.2.2.2.2.2.2.2.2.length<=320:=by simp only[HO,ZQ,ae,aH]at h;have:=h.2.1.2.2.2.2;omega
theorem adT (s:sk)(p:aI):Et s p=some (EZ s p):=by
 unfold Et EZ;rw[Zk,ab];cases h:HO s p with|false=>rfl|true=>?_
 have:=P0 h;simp only[aj,af,ah];rw[aQ]
def mJ (p:aI):sk:=(p,(p.2.2.2.2.2.2.2.2.2.2.2.2.2.2.2.length:Int),1)
theorem Xe (p:aI):Dz p=some (mJ p):=rfl
def LS (q:cy)(s:sk):cy:=(q.1,q.2.1,q.2.2.1,s,true,q.2.2.2.2.2)
def lQ (l:aw aF)(m:bO)(d:Int)(q:cy)(k:Bytes)(p:aI)(c:Bool):bO×cy:=
 bif !F6 q||(!eK p||((k.length:Int) !=16)) then(m,q) else
 bif c&&(q.2.2.2.2.1&&HO q.2.2.2.1 p) then(m,q.1,q.2.1,q.2.2.1,EZ q.2.2.2.1 p,q.2.2.2.2) else
 bif c then((ja l m d q k).1,LS (ja l m d q k).2 (mJ p)) else ja l (ja l m d q k).1 d (LS (ja l m d q k).2 (mJ p)) k
theorem W0 (l:aw aF)(m:bO)(d:Int)(q:cy)(k:Bytes)(p:aI)(c:Bool)(hl:l.length<=1000000000)(hm:m.length<=1000000000):oB l m d q k p c=some (lQ l m d q k p c):=by
 unfold oB lQ LS;simp only[Rq,wi,ab,gx m (show m.length<=1073741824 by omega),Zk,adT,H3 l m d q k hl hm,Xe,H3 l (ja l m d q k).1 d _ k hl (show(ja l m d q k).1.length<=1000000000 by rw[Tl];exact hm)];cases F6 q with|false=>rfl|true=>?_
 cases eK p with|false=>rfl|true=>?_
 cases (k.length:Int) !=16 with|true=>rfl|false=>?_
 cases c with|false=>rfl|true=>?_
 cases q.2.2.2.2.1 with|false=>rfl|true=>?_
 cases HO q.2.2.2.1 p<;>rfl
theorem Tm {k:Bytes}(h:gj q.2.1=true):gj (ja l m d q k).2.2.1=true:=by
 unfold ja;cases !F6 q||(!q.2.2.2.2.1||((k.length:Int) !=16))with|true=>exact h|false=>?_
 have hs:gj (iD l m d q k (bC l m d q.1).1).2.1=true:=by
  unfold iD;cases !(dq (bC l m d q.1).1).2||(((dq (bC l m d q.1).1).1.1 !=3)||decide ((dq (bC l m d q.1).1).1.2.2.1<((dI q.2.2.2.1.1).1.length:Int)))with|true=>exact h|false=>?_
  cases (iy l m d (dq (bC l m d q.1).1).1.2.2.2.1 (dI q.2.2.2.1.1).1 true).2 with|false=>exact h|true=>?_
  exact(ZF h).1
 cases (bC l m d q.1).2.2&&(iD l m d q k (bC l m d q.1).1).2.2 with|true=>exact hs|false=>exact h
theorem aaP {s:sk}(h:s.1.2.2.2.2.2.2.2.2.2.2.2.2.2.2.2.length<=n):dk n eS (LS q s):=⟨⟨cx,cx,cx,cx⟩,⟨cx,cx,cx⟩,⟨cx,cx,cx⟩,⟨⟨cx,cx,cx,cx,cx,cx,cx,cx,cx,cx,cx,cx,cx,cx,cx,h⟩,cx,cx⟩,cx,cx⟩
theorem KG (hn:1000<=n){k:Bytes}{c:Bool}(z:dk n (.sl .str) m)(zq:dk n eS q)(hq:gj q.2.1=true): dk n (.sl .str) (lQ l m d q k p c).1/\(lQ l m d q k p c).1.length=m.length/\dk n eS (lQ l m d q k p c).2/\gj (lQ l m d q k p c).2.2.1=true:=by
 unfold lQ;cases hc: !F6 q||(!eK p||((k.length:Int) !=16))with|true=>exact⟨z,rfl,zq,hq⟩|false=>?_
 simp only[cr,dU]at hc;have hp:=FQ hc.2.1;cases hj:c&&(q.2.2.2.2.1&&HO q.2.2.2.1 p)with|true=>simp only[ae]at hj;have:=P0 hj.2.2;refine⟨z,rfl,⟨⟨cx,cx,cx,cx⟩,⟨cx,cx,cx⟩,⟨cx,cx,cx⟩,⟨?_,cx,cx⟩,cx,cx⟩,hq⟩;refine⟨cx,cx,cx,cx,cx,cx,cx,cx,cx,cx,cx,cx,cx,cx,cx,?_⟩;unfold EZ;rw[hj.2.2];show List.length (q.2.2.2.1.1.2.2.2.2.2.2.2.2.2.2.2.2.2.2.2++p.2.2.2.2.2.2.2.2.2.2.2.2.2.2.2)<=n;rw[ai];omega|false=>have hf:=Em (show 128<=n by omega) (l:=l) (d:=d) (k:=k) z zq;have hfq:=Tm (l:=l) (m:=m) (d:=d) (k:=k) hq;have hh:dk n eS (LS (ja l m d q k).2 (mJ p)):=aaP (by show p.2.2.2.2.2.2.2.2.2.2.2.2.2.2.2.length<=n;omega);cases c with|true=>exact⟨hf.1,hf.2.1,hh,hfq⟩|false=>have hf2:=Em (show 128<=n by omega) (l:=l) (d:=d) (k:=k) hf.1 hh;exact⟨hf2.1,hf2.2.1.trans hf.2.1,hf2.2.2.1,Tm (q:=LS (ja l m d q k).2 (mJ p)) hfq⟩
theorem Vn {r:mA}(h:AX r=true):0<=r.2.2.2.2.2.2.2.2:=by
 by_cases h0:0<=r.2.2.2.2.2.2.2.2;exact h0;exfalso;have e:∀b:Int,cX r.2.2.2.2.2.2.2.2 0 b=false:=λb=>by rw[Bool.eq_false_iff];intro hc;have:=aW.1 hc;omega
 have e1:(r.2.2.2.2.2.2.2.2==0)=false:=by rw[cl];omega
 revert h;unfold AX;have z:∀c:Bool,(bif c then false else false)=false:=by intro c;cases c<;>rfl
 simp only[my,dR,ab,bM,e,e1,fT,z,af];intro h;cases h
theorem acA {s:dJ}{q:Int}:sF s q p= -1\/∃n:Nat,sF s q p=(n:Int)/\(n:Int)<q:=by
 unfold sF;cases hb: !fb s q|| !dG p with|true=>exact .inl rfl|false=>?_
 simp only[cr,dU]at hb;have hs:=hb.1;simp only[fb,ae]at hs;simp only[af];cases hd:decide (EL s.1 p>=0)with
 |true=>obtain⟨n,hn,hl⟩:=Tc s.1 p (bB hd);simp only[ah,hn,ax,cG hl];cases s.1[n].2.2.2.2.2.2.2.1==1 with|true=>exact .inl rfl|false=>have h1:=aG.1 hs.1.2 _ (aN hl);have h2:=hs.1.1.1.1;simp only[yh,ae]at h2;have h3:=Vn (aG.1 h2.1 _ (aN hl));simp only[aJ,cY]at h1;exact .inr ⟨s.1[n].2.2.2.2.2.2.2.2.toNat,by simp only[af];omega,by omega⟩
 |false=>
  simp only[af];cases hd2:decide (findF s.2.1 (mB p)>=0)with
  |true=>obtain⟨n,hn,hl⟩:=Tb s.2.1 (mB p) (bB hd2);simp only[ah,hn,ax,cG hl];have h1:=aG.1 hs.2 _ (aN hl);have h2:=hs.1.1.1.2;simp only[sG,ae,bm]at h2;have h3:=aG.1 h2.2 n (bF.2 (by omega));unfold nM Pj at h3;rw[wC hl]at h3;simp only[ae,aW]at h3;simp only[aJ,cY]at h1;exact .inr ⟨s.2.1[n].2.2.toNat,by omega,by omega⟩
  |false=>
   simp only[af];unfold Ku;cases hc: !sg s.2.2 q||decide (B5 s.2.2 (mB p)<0)with|true=>exact .inl rfl|false=>?_
   simp only[cr,dU,cY]at hc;obtain⟨n,hn,hl⟩:=Of s.2.2 (mB p) hc.2;have h1:=hc.1;simp only[sg,ae]at h1;have h2:=aW.1 (aG.1 h1.2 _ (aN hl));simp only[af,hn,ax,cG hl];exact .inr ⟨s.2.2.2[n].toNat,by omega,by omega⟩
def Bi (h:Host)(a b c d:Int):Host:=(h.1,h.2.1,h.2.2.1,h.2.2.2.1,h.2.2.2.2.1,h.2.2.2.2.2.1,h.2.2.2.2.2.2.1,h.2.2.2.2.2.2.2.1,h.2.2.2.2.2.2.2.2.1,h.2.2.2.2.2.2.2.2.2.1,h.2.2.2.2.2.2.2.2.2.2.1,h.2.2.2.2.2.2.2.2.2.2.2.1,h.2.2.2.2.2.2.2.2.2.2.2.2.1,h.2.2.2.2.2.2.2.2.2.2.2.2.2.1,ar (h.2.2.2.2.2.2.2.2.2.2.2.2.2.2.1+1),a,b,c,d)
def lg (h:Host)(x:Bytes):Host:=
 bif !ew h then h else
 bif (gn x).2 !=0 then Bi h (ar (h.2.2.2.2.2.2.2.2.2.2.2.2.2.2.2.1+1)) h.2.2.2.2.2.2.2.2.2.2.2.2.2.2.2.2.1 h.2.2.2.2.2.2.2.2.2.2.2.2.2.2.2.2.2.1 h.2.2.2.2.2.2.2.2.2.2.2.2.2.2.2.2.2.2 else
 bif !xA h.2.2.2.2.2.2.2.1 (gn x).1 then Bi h h.2.2.2.2.2.2.2.2.2.2.2.2.2.2.2.1 (ar (h.2.2.2.2.2.2.2.2.2.2.2.2.2.2.2.2.1+1)) h.2.2.2.2.2.2.2.2.2.2.2.2.2.2.2.2.2.1 h.2.2.2.2.2.2.2.2.2.2.2.2.2.2.2.2.2.2 else
 bif sF h.2.2.2.2.2.2.2.2.1 (h.2.2.2.1.length:Int) (gn x).1== -1 then Bi h h.2.2.2.2.2.2.2.2.2.2.2.2.2.2.2.1 h.2.2.2.2.2.2.2.2.2.2.2.2.2.2.2.2.1 (ar (h.2.2.2.2.2.2.2.2.2.2.2.2.2.2.2.2.2.1+1)) h.2.2.2.2.2.2.2.2.2.2.2.2.2.2.2.2.2.2 else
 match h.2.2.2.1[(sF h.2.2.2.2.2.2.2.2.1 (h.2.2.2.1.length:Int) (gn x).1).toNat]? with
 |some q=>F2 (Bi h h.2.2.2.2.2.2.2.2.2.2.2.2.2.2.2.1 h.2.2.2.2.2.2.2.2.2.2.2.2.2.2.2.2.1 h.2.2.2.2.2.2.2.2.2.2.2.2.2.2.2.2.2.1 (ar (h.2.2.2.2.2.2.2.2.2.2.2.2.2.2.2.2.2.2+1))) (sF h.2.2.2.2.2.2.2.2.1 (h.2.2.2.1.length:Int) (gn x).1).toNat q.2.1.2.2 (lQ h.2.1 h.1 0 q h.2.2.2.2.2.2.2.2.1.2.2.1 (gn x).1 h.2.2.2.2.2.2.2.2.2.2.1)
 |none=>h
theorem GL (h:Host)(x:Bytes)(k:Ap 900000000 h)(hx:x.length<=1000000000):nu h x=some (lg h x):=by
 have z:=k.z;have z1:h.1.length<=900000000:=z.1.1;have z2:h.2.1.length<=900000000:=z.2.1.1;have zf:h.2.2.2.2.2.2.2.1.2.2.length<=900000000:=z.2.2.2.2.2.2.2.1.2.2.1;have s1:h.2.2.2.2.2.2.2.2.1.1.length<=900000000:=z.2.2.2.2.2.2.2.2.1.1.1;have s2:h.2.2.2.2.2.2.2.2.1.2.1.length<=900000000:=z.2.2.2.2.2.2.2.2.1.2.1.1;have s3:h.2.2.2.2.2.2.2.2.1.2.2.2.length<=900000000:=z.2.2.2.2.2.2.2.2.1.2.2.2.1;unfold nu lg;rw[js h (z.mono),ab,uS h (k.sz),ab];cases hb:ew h with|false=>rfl|true=>?_
 have hl:=rO (by simp only[ew,ae]at hb;exact hb.2.2.2.2.1:sn h=true);have hr:=Fz hb;simp only[aj,af,H5 x hx,ab,TG h.2.2.2.2.2.2.2.1 _ (show h.2.2.2.2.2.2.2.1.2.2.length<=1000000000 by omega),abb h.2.2.2.2.2.2.2.2.1 _ _ (show h.2.2.2.2.2.2.2.2.1.1.length<=1000000000 by omega) (show h.2.2.2.2.2.2.2.2.1.2.1.length<=1000000000 by omega) (show h.2.2.2.2.2.2.2.2.1.2.2.2.length<=1000000000 by omega)];generalize gn x=f;cases f.2 !=0 with|true=>rfl|false=>?_
 cases xA h.2.2.2.2.2.2.2.1 f.1 with|false=>rfl|true=>?_
 simp only[aj,af];have hst:=acA (s:=h.2.2.2.2.2.2.2.2.1) (q:=(h.2.2.2.1.length:Int)) (p:=f.1);generalize sF h.2.2.2.2.2.2.2.2.1 (h.2.2.2.1.length:Int) f.1=r at hst⊢;rcases hst with rfl|⟨n,rfl,hn⟩;rfl;have i1:n<h.2.2.2.1.length:=by omega
 have i2:n<h.2.2.2.2.2.1.length:=by omega
 have hq:=(BS (hr n i1)).1;have hqi:=vI hq;have ha:=KG (show 1000<=900000000 by omega) (l:=h.2.1) (d:=0) (k:=h.2.2.2.2.2.2.2.2.1.2.2.1) (p:=f.1) (c:=h.2.2.2.2.2.2.2.2.2.2.1) z.1 (z.2.2.2.1.2 _ (aN i1)) hq;have ev:=JV (h:=Bi h h.2.2.2.2.2.2.2.2.2.2.2.2.2.2.2.1 h.2.2.2.2.2.2.2.2.2.2.2.2.2.2.2.2.1 h.2.2.2.2.2.2.2.2.2.2.2.2.2.2.2.2.2.1 (ar (h.2.2.2.2.2.2.2.2.2.2.2.2.2.2.2.2.2.2+1))) (k:=n) (b:=h.2.2.2.1[n].2.1.2.2) (f:=lQ h.2.1 h.1 0 h.2.2.2.1[n] h.2.2.2.2.2.2.2.2.1.2.2.1 f.1 h.2.2.2.2.2.2.2.2.2.2.1) i1 i2 ha.2.2.2;rw[show((n:Int)== -1)=false from by rw[cl];omega,ax,al i1];simp only[af,bu i1,ab,W0 h.2.1 h.1 0 _ _ _ _ (show h.2.1.length<=1000000000 by omega) (show h.1.length<=1000000000 by omega)];rw[show(kZ ((lQ h.2.1 h.1 0 h.2.2.2.1[n] h.2.2.2.2.2.2.2.2.1.2.2.1 f.1 h.2.2.2.2.2.2.2.2.2.2.1).1,h.2.1,h.2.2.1,h.2.2.2.1.set n (lQ h.2.1 h.1 0 h.2.2.2.1[n] h.2.2.2.2.2.2.2.2.1.2.2.1 f.1 h.2.2.2.2.2.2.2.2.2.2.1).2,h.2.2.2.2.1,h.2.2.2.2.2.1,h.2.2.2.2.2.2.1,h.2.2.2.2.2.2.2.1,h.2.2.2.2.2.2.2.2.1,h.2.2.2.2.2.2.2.2.2.1,h.2.2.2.2.2.2.2.2.2.2.1,h.2.2.2.2.2.2.2.2.2.2.2.1,h.2.2.2.2.2.2.2.2.2.2.2.2.1,h.2.2.2.2.2.2.2.2.2.2.2.2.2.1,ar (h.2.2.2.2.2.2.2.2.2.2.2.2.2.2.1+1),h.2.2.2.2.2.2.2.2.2.2.2.2.2.2.2.1,h.2.2.2.2.2.2.2.2.2.2.2.2.2.2.2.2.1,h.2.2.2.2.2.2.2.2.2.2.2.2.2.2.2.2.2.1,ar (h.2.2.2.2.2.2.2.2.2.2.2.2.2.2.2.2.2.2+1)) (n:Int) h.2.2.2.1[n].2.1.2.2)=_ from ev,ab]
theorem DP (hn:1000<=n)(x:Bytes)(k:Ap n h):Ap n (lg h x)/\(lg h x).2.2.1=h.2.2.1/\(lg h x).2.2.2.2.1.length=h.2.2.2.2.1.length:=by
 have z:=k.z;have zc:∀a b c d,Ap n (Bi h a b c d):=λa b c d=>⟨⟨z.1,z.2.1,z.2.2.1,z.2.2.2.1,z.2.2.2.2.1,z.2.2.2.2.2.1,z.2.2.2.2.2.2.1,z.2.2.2.2.2.2.2.1,z.2.2.2.2.2.2.2.2.1,z.2.2.2.2.2.2.2.2.2.1,z.2.2.2.2.2.2.2.2.2.2.1,z.2.2.2.2.2.2.2.2.2.2.2.1,z.2.2.2.2.2.2.2.2.2.2.2.2.1,z.2.2.2.2.2.2.2.2.2.2.2.2.2.1,cx,cx,cx,cx,cx⟩,k.t⟩
 unfold lg;cases hb:ew h with|false=>exact⟨k,rfl,rfl⟩|true=>?_
 have hr:=Fz hb;generalize gn x=f;cases f.2 !=0 with|true=>exact⟨zc ..,rfl,rfl⟩|false=>?_
 cases xA h.2.2.2.2.2.2.2.1 f.1 with|false=>exact⟨zc ..,rfl,rfl⟩|true=>?_
 simp only[aj,af];generalize sF h.2.2.2.2.2.2.2.2.1 (h.2.2.2.1.length:Int) f.1=r;cases r== -1 with|true=>exact⟨zc ..,rfl,rfl⟩|false=>?_
 simp only[af];cases hq:h.2.2.2.1[r.toNat]? with|none=>exact⟨k,rfl,rfl⟩|some q=>?_
 obtain⟨hi,hqe⟩:=aC.1 hq;have hqd:=(BS (hr _ hi)).1;rw[hqe]at hqd;have ha:=KG hn (l:=h.2.1) (d:=0) (k:=h.2.2.2.2.2.2.2.2.1.2.2.1) (p:=f.1) (c:=h.2.2.2.2.2.2.2.2.2.2.1) z.1 (z.2.2.2.1.2 _ (aX hq)) hqd;have zc':=zc h.2.2.2.2.2.2.2.2.2.2.2.2.2.2.2.1 h.2.2.2.2.2.2.2.2.2.2.2.2.2.2.2.2.1 h.2.2.2.2.2.2.2.2.2.2.2.2.2.2.2.2.2.1 (ar (h.2.2.2.2.2.2.2.2.2.2.2.2.2.2.2.2.2.2+1));have kk:=D8 (h:=Bi h h.2.2.2.2.2.2.2.2.2.2.2.2.2.2.2.1 h.2.2.2.2.2.2.2.2.2.2.2.2.2.2.2.2.1 h.2.2.2.2.2.2.2.2.2.2.2.2.2.2.2.2.2.1 (ar (h.2.2.2.2.2.2.2.2.2.2.2.2.2.2.2.2.2.2+1))) (k:=r.toNat) (b:=q.2.1.2.2) (f:=lQ h.2.1 h.1 0 q h.2.2.2.2.2.2.2.2.1.2.2.1 f.1 h.2.2.2.2.2.2.2.2.2.2.1) ha.2.1;exact⟨⟨Nn zc'.z ha.1 ha.2.2.1,by rw[kk.tx];exact k.t⟩,kk.tx,kk.pl⟩
theorem ZC (l:aw aF)(m:bO)(d:Int)(rx:cy)(pl:dw)(st:aw Stream)(c:Int):(jO l m d rx pl st c).1.length=m.length:=by unfold jO;cases !F6 rx||(!dT pl|| !cX c 0 1000)with|true=>rfl|false=>exact Ze ..
def Cs (b:Int)(k:Nat)(s:Int×Host):Int×Host:=
 match s.2.2.2.2.2.2.1[k]?,s.2.2.2.2.2.2.2.1[k]?,s.2.2.2.2.1[k]?,s.2.2.2.2.2.1[k]? with
 |some v,some p,some x,some pl=>
  bif p||(C1 v).2 then
   (ar (s.1+(jO s.2.2.1 s.2.1 0 x pl s.2.2.2.2.2.2.2.2.2.2.1 b).2.2.2.2),
    (jO s.2.2.1 s.2.1 0 x pl s.2.2.2.2.2.2.2.2.2.2.1 b).1,s.2.2.1,s.2.2.2.1,s.2.2.2.2.1.set k (jO s.2.2.1 s.2.1 0 x pl s.2.2.2.2.2.2.2.2.2.2.1 b).2.1,s.2.2.2.2.2.1.set k (jO s.2.2.1 s.2.1 0 x pl s.2.2.2.2.2.2.2.2.2.2.1 b).2.2.1,
    s.2.2.2.2.2.2.1.set k (bif decide ((jO s.2.2.1 s.2.1 0 x pl s.2.2.2.2.2.2.2.2.2.2.1 b).2.2.2.2<b) then HB (C1 v).1 else(C1 v).1),
    s.2.2.2.2.2.2.2.1.set k (!decide ((jO s.2.2.1 s.2.1 0 x pl s.2.2.2.2.2.2.2.2.2.2.1 b).2.2.2.2<b)),s.2.2.2.2.2.2.2.2.1,s.2.2.2.2.2.2.2.2.2.1,(jO s.2.2.1 s.2.1 0 x pl s.2.2.2.2.2.2.2.2.2.2.1 b).2.2.2.1,s.2.2.2.2.2.2.2.2.2.2.2)
  else(s.1,s.2.1,s.2.2.1,s.2.2.2.1,s.2.2.2.2.1,s.2.2.2.2.2.1,s.2.2.2.2.2.2.1.set k (C1 v).1,s.2.2.2.2.2.2.2.1.set k false,s.2.2.2.2.2.2.2.2)
 |_,_,_,_=>s
theorem Vt (b:Int)(k:Nat)(s:Int×Host):kP (k+1) s.2 (Cs b k s).2:=by
 unfold Cs;cases s.2.2.2.2.2.2.1[k]? with|none=>exact kP.refl _ _|some v=>?_
 cases s.2.2.2.2.2.2.2.1[k]? with|none=>exact kP.refl _ _|some p=>?_
 cases s.2.2.2.2.1[k]? with|none=>exact kP.refl _ _|some x=>?_
 cases s.2.2.2.2.2.1[k]? with|none=>exact kP.refl _ _|some pl=>?_
 simp only;cases p||(C1 v).2 with|true=>exact⟨ZC ..,rfl,rfl,aB ..,λj hj=>aP (by omega),aB ..,aB ..,λj hj=>aP (by omega),aB ..,rfl,rfl⟩|false=>exact⟨rfl,rfl,rfl,rfl,λ_ _=>rfl,rfl,aB ..,λj hj=>aP (by omega),aB ..,rfl,rfl⟩
theorem X9 (b:Int)(k:Nat)(s:Int×Host)(hn:1000<=n)(z:dk n dD s.2):dk (n+322000) dD (Cs b k s).2:=by
 have z':dk (n+322000) dD s.2:=z.mono;unfold Cs;cases s.2.2.2.2.2.2.1[k]? with|none=>exact z'|some v=>?_
 cases s.2.2.2.2.2.2.2.1[k]? with|none=>exact z'|some p=>?_
 cases h1:s.2.2.2.2.1[k]? with|none=>exact z'|some x=>?_
 cases h2:s.2.2.2.2.2.1[k]? with|none=>exact z'|some pl=>?_
 simp only;cases p||(C1 v).2 with|true=>have hp:=Pa (by omega) (l:=s.2.2.1) (d:=0) b z.1 (z.2.2.2.1.2 _ (aX h1)) (z.2.2.2.2.1.2 _ (aX h2)) z.2.2.2.2.2.2.2.2.2.1;exact⟨hp.1.mono,z'.2.1,z'.2.2.1,mn z'.2.2.2.1 (hp.2.1.mono),mn z'.2.2.2.2.1 hp.2.2.1,Kx z'.2.2.2.2.2.1,mn z'.2.2.2.2.2.2.1 trivial,z'.2.2.2.2.2.2.2.1,z'.2.2.2.2.2.2.2.2.1,hp.2.2.2.1,z'.2.2.2.2.2.2.2.2.2.2⟩|false=>exact⟨z'.1,z'.2.1,z'.2.2.1,z'.2.2.2.1,z'.2.2.2.2.1,Kx z'.2.2.2.2.2.1,mn z'.2.2.2.2.2.2.1 trivial,z'.2.2.2.2.2.2.2⟩
def sE (b:Int):Nat->Host->Int×Host
 |0,h=>(0,h)
 |k+1,h=>Cs b k (sE b k h)
theorem zv (b:Int)(h:Host):∀k,kP k h (sE b k h).2
 |0=>kP.refl 0 h
 |k+1=>((zv b h k).up (by omega)).trans (Vt b k _)
theorem FR (b:Int){n:Nat}(hn:1000<=n){h:Host}(z:dk n dD h):∀k,dk (n+322000*k) dD (sE b k h).2
 |0=>z
 |k+1=>(X9 b k _ (by omega) (FR b hn z k)).mono
def nL (h:Host)(b:Int):Host×Int:=bif ew h&&cX b 1 1000 then((sE b h.2.2.2.1.length h).2,(sE b h.2.2.2.1.length h).1) else(h,0)
theorem Vu (hn:1000<=n)(b:Int)(k:Ap n h):Ap (n+644000) (nL h b).1:=by unfold nL;cases hb:ew h&&cX b 1 1000 with|false=>exact k.mono|true=>simp only[ae]at hb;have hl:=rO (by have:=hb.1;simp only[ew,ae]at this;exact this.2.2.2.2.1:sn h=true);refine⟨(FR b hn k.z _).mono,?_⟩;simp only[ah];rw[(zv b h _).tx];exact bt k.t (by omega)
theorem TW (h:Host)(b:Int)(k:Ap 400000000 h):rm h b=some (nL h b):=by
 have hfu:=eJ;unfold rm nL;rw[js h (k.z.mono),ab,uS h (k.sz),ab,cn];cases hb:ew h with|false=>rfl|true=>?_
 cases hi0:cX b 1 1000 with|false=>rfl|true=>?_
 have hl:=rO (by simp only[ew,ae]at hb;exact hb.2.2.2.2.1:sn h=true);simp only[aj,af,ab,cE,ah];refine dz (λi=>((sE b i h).1,(i:Int),(sE b i h).2)) h.2.2.2.1.length (by omega) (λi nx hi=>?_) (λnx=>?_);have kk:=zv b h i;have zz:dk 500000000 dD (sE b i h).2:=(FR b (by omega) k.z i).mono;have i1:i<(sE b i h).2.2.2.2.1.length:=by rw[kk.rx];exact hi
 have i2:i<(sE b i h).2.2.2.2.2.1.length:=by rw[kk.pl];omega
 have i3:i<(sE b i h).2.2.2.2.2.2.1.length:=by rw[kk.vec];omega
 have i4:i<(sE b i h).2.2.2.2.2.2.2.1.length:=by rw[kk.pol];omega
 rw[show sE b (i+1) h=Cs b i (sE b i h) from rfl];generalize sE b i h=s at zz i1 i2 i3 i4⊢;have gp:∀(V:aw Vector)(P:aw Bool),kC (s.2.1,s.2.2.1,s.2.2.2.1,s.2.2.2.2.1,s.2.2.2.2.2.1,V,P,s.2.2.2.2.2.2.2.2) (i:Int) b=some ((jO s.2.2.1 s.2.1 0 s.2.2.2.2.1[i] s.2.2.2.2.2.1[i] s.2.2.2.2.2.2.2.2.2.2.1 b).2.2.2.2,(jO s.2.2.1 s.2.1 0 s.2.2.2.2.1[i] s.2.2.2.2.2.1[i] s.2.2.2.2.2.2.2.2.2.2.1 b).1,s.2.2.1,s.2.2.2.1,s.2.2.2.2.1.set i (jO s.2.2.1 s.2.1 0 s.2.2.2.2.1[i] s.2.2.2.2.2.1[i] s.2.2.2.2.2.2.2.2.2.2.1 b).2.1,s.2.2.2.2.2.1.set i (jO s.2.2.1 s.2.1 0 s.2.2.2.2.1[i] s.2.2.2.2.2.1[i] s.2.2.2.2.2.2.2.2.2.2.1 b).2.2.1,V,P,s.2.2.2.2.2.2.2.2.1,s.2.2.2.2.2.2.2.2.2.1,(jO s.2.2.1 s.2.1 0 s.2.2.2.2.1[i] s.2.2.2.2.2.1[i] s.2.2.2.2.2.2.2.2.2.2.1 b).2.2.2.1,s.2.2.2.2.2.2.2.2.2.2.2):=by intro V P;have hpl:s.2.2.2.2.2.1[i].2.2.2.length<=500000000:=(zz.2.2.2.2.1.2 _ (aN i2)).2.2.2.1;have hm:s.2.1.length<=500000000:=zz.1.1;have hp:s.2.2.1.length<=500000000:=zz.2.1.1;unfold kC;simp only[bu i1,bu i2,ab,TT s.2.2.1 s.2.1 0 _ _ _ b (show s.2.2.1.length<=1000000000 by omega) (show s.2.1.length<=1000000000 by omega) hpl zz.2.2.2.2.2.2.2.2.2.1,ax]
 have hset:∀V:Vector,s.2.2.2.2.2.2.1.set i V=s.2.2.2.2.2.2.1.set i V:=λ_=>rfl;unfold Cs;rw[al i1,al i2,al i3,al i4];simp only[mS];rw[jz,ah];simp only[bu i3,bu i4,ab,abe,ax,gp];generalize C1 s.2.2.2.2.2.2.1[i]=w;generalize jO s.2.2.1 s.2.1 0 s.2.2.2.2.1[i] s.2.2.2.2.2.1[i] s.2.2.2.2.2.2.2.2.2.2.1 b=pr;have i5:∀V:Vector,i<(s.2.2.2.2.2.2.1.set i V).length:=λV=>by rw[aB];exact i3
 have i6:∀q:Bool,i<(s.2.2.2.2.2.2.2.1.set i q).length:=λq=>by rw[aB];exact i4
 have e5:∀V:Vector,idx (s.2.2.2.2.2.2.1.set i V) (i:Int)=some V:=λV=>by rw[bu (i5 V),List.getElem_set_self]
 have e6:∀q:Bool,idx (s.2.2.2.2.2.2.2.1.set i q) (i:Int)=some q:=λq=>by rw[bu (i6 q),List.getElem_set_self]
 rw[ak (n:=(i:Int)+1)];have hself:s.2.2.2.2.2.2.2.1.set i (s.2.2.2.2.2.2.2.1[i])=s.2.2.2.2.2.2.2.1:=List.set_getElem_self ..;generalize hp:s.2.2.2.2.2.2.2.1[i]=p at hself⊢;cases hw:w.2 with
 |true=>simp only[ik,ah,e6,e5,ab,aj,af,L5,List.set_set];cases decide (pr.2.2.2.2<b)<;>rfl
 |false=>
  simp only[Bool.or_false,af];cases p with
  |false=>rw[hself];rfl
  |true=>
   have e7:idx s.2.2.2.2.2.2.2.1 (i:Int)=some true:=by rw[bu i4,hp]
   simp only[ah,aj,af,e5,e7,ab,L5,List.set_set];cases decide (pr.2.2.2.2<b)with|true=>rfl|false=>simp only[af,bz,hself];rfl
 simp only[mS];rw[iw,af]
theorem VT (hn:1000<=n)(k:Ap n h):Ap n (vY h):=by have:=agm hn k.z;exact⟨this.1,by rw[this.2];exact k.t⟩
def txt (_:Int):Bytes:=[]
def F5:(t:CT)->t.D->Nat
 | .int _,_=>1
 | .bool,_=>1
 | .str,_=>1
 | .sl e,xs=>(xs.map (F5 e)).sum
 | .pair a b,x=>F5 a x.1+F5 b x.2
def mkL {α:Type}(f:α->Int->α)(c:α->Nat):aw α->Int->aw α
 |[],_=>[]
 |x::xs,k=>f x k::mkL f c xs (k+c x)
def mk:(t:CT)->t.D->Int->t.D
 | .int _,_,k=>k
 | .bool,_,k=>Int.tmod k 3==0
 | .str,_,k=>txt k
 | .sl e,xs,k=>mkL (mk e) (F5 e) xs k
 | .pair a b,x,k=>(mk a x.1 k,mk b x.2 (k+F5 a x.1))
structure KA (h:Host):Prop where
 pl:h.2.2.2.2.1.length<=2
 w:h.2.2.1.2.2.1.length<=16
theorem WH (hb:ew h=true):KA h:=by have hl:=rO (by have:=hb;simp only[ew,ae]at this;exact this.2.2.2.2.1:sn h=true);have ht:=F0 (t:=h.2.2.1) (by simp only[ew,ae]at hb;exact hb.2.2.1);exact⟨by omega,ht⟩
theorem Lx {a b:Host}(f:KA a)(h:kP k a b):KA b:=⟨by rw[h.pl];exact f.pl,by rw[h.tx];exact f.w⟩
theorem adu (f:KA h):KA (vY h):=by unfold vY;cases ew h with|false=>exact f|true=>exact Lx f (nZ Am h _)
theorem aaD (f:KA h):KA (we h):=by unfold we;cases ew h with|false=>exact f|true=>exact Lx f (nZ xF h _)
theorem aaE (b:Int)(f:KA h):KA (nL h b).1:=by unfold nL;cases ew h&&cX b 1 1000 with|false=>exact f|true=>exact Lx f (zv b h _)
theorem Q3 (f:KA h):KA (fQ h):=by unfold fQ;cases ew h with|false=>exact f|true=>refine⟨f.pl,?_⟩;simp only[ah];generalize (if(h.2.2.1.2.2.1.length:Int)<ar ((ll h.2.1 h.1 0 h.2.2.1.1).2.2.1+(ll h.2.1 h.1 0 h.2.2.1.1).2.2.2) then(h.2.2.1.2.2.1.length:Int) else ar ((ll h.2.1 h.1 0 h.2.2.1.1).2.2.1+(ll h.2.1 h.1 0 h.2.2.1.1).2.2.2))=q;unfold lG;cases Nk ((ll h.2.1 h.1 0 h.2.2.1.1).1,h.2.2.1.2)&&cX q 0 (h.2.2.1.2.2.1.length:Int)with|false=>exact f.w|true=>show(h.2.2.1.2.2.1.drop q.toNat).length<=16;rw[aK];have:=f.w;omega
def acY (a:Act):az Bool:=
 aa (aa (some (cX a.1 0 6)) λr1=>cond (!r1) (some true) (some (decide ((a.2.2.2.2.1.length:Int)>600)))) λq2=>
 cond q2 (some false) (
 aa (cond (a.1 !=0) (cond (!((a.2.1.1==0)&&((a.2.1.2.1==0)&&((a.2.1.2.2.1==0)&&((a.2.1.2.2.2.1==0)&&((a.2.1.2.2.2.2.1==0)&&((a.2.1.2.2.2.2.2.1==0)&&((a.2.1.2.2.2.2.2.2.1==0)&&((a.2.1.2.2.2.2.2.2.2.1==0)&&((a.2.1.2.2.2.2.2.2.2.2.1==0)&&((a.2.1.2.2.2.2.2.2.2.2.2.1==0)&&((a.2.1.2.2.2.2.2.2.2.2.2.2.1==0)&&((a.2.1.2.2.2.2.2.2.2.2.2.2.2.1==0)&&((a.2.1.2.2.2.2.2.2.2.2.2.2.2.2.1==0)&&((a.2.1.2.2.2.2.2.2.2.2.2.2.2.2.2.1==0)&&((a.2.1.2.2.2.2.2.2.2.2.2.2.2.2.2.2.1==0)&&((a.2.1.2.2.2.2.2.2.2.2.2.2.2.2.2.2.2==([]:Bytes))&&true))))))))))))))))) (some true) (cond (a.2.2.1 !=0) (some true) (some (a.2.2.2.1 !=0)))) (some false)) λq3=>
 cond q3 (some false) (
 aa (cond (a.1==2) (cond (a.1==5) (some true) (some (a.2.2.2.2.2==0))) (cond (a.2.2.2.2.1==([]:Bytes)) (cond (a.1==5) (some true) (some (a.2.2.2.2.2==0))) (some false))) λq4=>some q4))
theorem aah (a:Act):∃b,acY a=some b:=by simp only[acY,bM,ab];exact⟨_,rfl⟩
def EG (a:Act):Bool:=(acY a).getD false
theorem agA (a:Act):acY a=some (EG a):=by obtain⟨b,hb⟩:=aah a;simp[EG,hb]
theorem Zi (a:Act):zQ a=some (EG a):=by rw[<-agA];unfold zQ;rw[cn];rfl
theorem Ap.tx (k:Ap n h)(hn:n<=1000000000):agz h.2.2.1:=
 have z:dk 1000000000 dD h:=k.z.mono hn
 ⟨z.2.2.1.2.1.2.2.2.1,z.2.2.1.2.2.1.1,λx hx=>(z.2.2.1.2.2.1.2 x hx).2.2.1⟩
def Ae (h:Host)(p:aI)(c z:Int):Host×Bool:=
 bif ew h then(((wA h.2.1 h.1 0 h.2.2.1 p c z).1,h.2.1,(wA h.2.1 h.1 0 h.2.2.1 p c z).2.1,h.2.2.2),(wA h.2.1 h.1 0 h.2.2.1 p c z).2.2) else(h,false)
theorem aa5 (h:Host)(p:aI)(c z:Int)(k:Ap 900000000 h):wY h p c z=some (Ae h p c z):=by
 have zz:dk 1000000000 dD h:=k.z.mono;unfold wY Ae;rw[js h zz,ab,uS h (k.sz),ab];cases ew h with|false=>rfl|true=>?_
 simp only[aj,af,ah,aa6 _ _ _ _ _ _ _ zz.2.1.1 zz.1.1 (k.tx (by omega)) zz.2.2.1.2.2.1.1 (bt k.t (by omega)),ab]
theorem Ok {n:Nat}(hn:128<=n)(l:aw aF)(d:Int)(p:dw)(z:Nat):∀(q:bZ)(s:Bytes)(m:bO)(a:aw gU){x},dk n (.sl .str) m->xE l d p z q s m a=some x->dk n (.sl .str) x.2
 |[],s,m,a,x,hm,h=>by cases h;exact hm
 |b::q,s,m,a,x,hm,h=>by rw[xE]at h;cases hq:(iy l m d (oT p b) (s.take z) false).2 with|false=>rw[hq]at h;cases h|true=>rw[hq]at h;exact Ok hn l d p z q _ _ _ (DM hn hm ..) h
theorem Jr {n:Nat}(hn:128<=n)(l:aw aF)(d:Int):∀(q:bO)(m:bO)(r:kO){x},dk n (.sl .str) m->rP l d q m r=some x->dk n (.sl .str) x.1
 |[],m,r,x,hm,h=>by cases h;exact hm
 |s::q,m,r,x,hm,h=>by rw[rP]at h;cases hq:(dj l m d r s).2.2 with|false=>rw[hq]at h;cases h|true=>rw[hq]at h;exact Jr hn l d q _ _ (Hc hn hm ..) h
theorem Vb (hn:128<=n){q:bO}(hm:dk n (.sl .str) m):dk n (.sl .str) (vG l m d r q).1:=by unfold vG;cases hx:rP l d q m r with|none=>exact hm|some x=>exact Jr hn l d q m r hm hx
theorem acG (p:dw)(n:Int):(kF p n).1.2.2.2.length+(kF p n).2.1.length=p.2.2.2.length:=by unfold kF;cases dT p&&cX n 0 (p.2.2.2.length:Int)with|false=>rfl|true=>simp only[ah,aK,aV];omega
theorem aar (a:aw oe)(x:oe):(bJ (a++[x])).length=(bJ a).length+x.2.2.length:=by simp[bJ]
theorem Vs:∀l:aw oe,(∀x∈l,1<=x.2.1)->(l.length:Int)<=ee l
 |[],_=>by simp[ee]
 |y::l,h=>by have h1:=Vs l (λx hx=>h x (eR _ hx));have h2:=h y (List.mem_cons_self ..);simp only[ee,di,fJ,bf]at h1⊢;omega
structure aij (n:Nat) (m:List Bytes) (t:eC) (r:List Bytes×eC×Bool):Prop where
 mem:dk n (.sl .str) r.1
 tx:dk (n+1) lP r.2.1
 sum:r.2.1.2.1.2.2.2.length+(bJ r.2.1.2.2.1).length<=n
 w:r.2.1.2.2.1.length<=16\/r.2.1.2.2.1=t.2.2.1
theorem Pg (hn:128<=n){z:Int}(d:Int)(hm:dk n (.sl .str) m)(ht:dk n lP t)(hs:t.2.1.2.2.2.length+(bJ t.2.2.1).length<=n):aij n m t (wA l m d t p c z):=by
 have old:aij n m t (m,t,false):=⟨hm,ht.mono,hs,Or.inr rfl⟩
 unfold wA;cases hg:Nk t&&(dG p&&(cX z 1 t.2.1.2.1&&cX c 1 128))with|false=>exact old|true=>?_
 simp only[ae]at hg;simp only[ah];generalize zC p z.toNat=k;cases hk:I3 t k with|false=>exact old|true=>?_
 simp only[ah];cases hx:xE l d t.2.1 z.toNat (kF t.2.1 (k:Int)).2.1 (kx p).1 m []with|none=>exact old|some x=>?_
 simp only;unfold MP;have hpm:=Vb (n:=n) hn (l:=l) (d:=d) (q:=(qz x.1 c t.2.2.2).map yq) (r:=t.1) (Ok hn l d t.2.1 z.toNat _ _ _ _ hm hx);generalize vG l x.2 d t.1 ((qz x.1 c t.2.2.2).map yq)=w at hpm⊢;cases w.2.2 with|false=>exact old|true=>?_
 have hl:=acG t.2.1 (k:Int);have hb:=aar t.2.2.1 (t.2.2.2,(k:Int)+1,(kF t.2.1 (k:Int)).2.1);have hb:(bJ (t.2.2.1++[(t.2.2.2,(k:Int)+1,(kF t.2.1 (k:Int)).2.1)])).length=(bJ t.2.2.1).length+(kF t.2.1 (k:Int)).2.1.length:=hb;refine⟨hpm,⟨⟨cx,cx,cx,cx⟩,⟨cx,cx,cx,?_,λ_ _=>trivial⟩,?_,cx⟩,?_,Or.inl ?_⟩;show(kF t.2.1 (k:Int)).1.2.2.2.length<=n+1;omega;exact BH (t:=jZ) (k:=1) ht.2.2.1 (λy hy=>by rw[bE.1 hy];exact⟨cx,cx,by show(kF t.2.1 (k:Int)).2.1.length<=n;omega,λ_ _=>trivial⟩) (by simp);show(kF t.2.1 (k:Int)).1.2.2.2.length+(bJ (t.2.2.1++[(t.2.2.2,(k:Int)+1,(kF t.2.1 (k:Int)).2.1)])).length<=n;omega;show(t.2.2.1++[_]).length<=16;have hq:=hg.1;simp only[Nk,ae]at hq;have hrg:=ly hq.1;have hc:=Vs t.2.2.1 (λx hx=>by have:=aG.1 hq.2.2.2.1 x hx;simp only[oK,ae,aW]at this;omega);unfold I3 at hk;simp only[ae,aJ,cY]at hk;rw[ai,ba];omega
theorem aeM (hn:1000<=n)(p:aI)(c z:Int)(k:Ap n h):Ap (n+1) (Ae h p c z).1:=by
 unfold Ae;cases ew h with|false=>exact k.mono|true=>?_
 have zz:=k.z;have s:=Pg (by omega) (l:=h.2.1) (p:=p) (c:=c) (z:=z) 0 zz.1 zz.2.2.1 k.t;have z1:dk (n+1) dD h:=zz.mono;exact⟨⟨s.mem.mono,z1.2.1,s.tx,z1.2.2.2⟩,bt s.sum (by omega)⟩
theorem adt (hn:1000<=n)(p:aI)(c z:Int)(k:Ap n h)(f:KA h):KA (Ae h p c z).1:=by
 unfold Ae;cases ew h with|false=>exact f|true=>?_
 have s:=Pg (by omega) (l:=h.2.1) (p:=p) (c:=c) (z:=z) 0 k.z.1 k.z.2.2.1 k.t;refine⟨f.pl,?_⟩;rcases s.w with w|w;exact w;show(wA h.2.1 h.1 0 h.2.2.1 p c z).2.1.2.2.1.length<=16;rw[w];exact f.w
theorem S5 (hn:1000<=n)(x:Bytes)(k:Ap n h)(f:KA h):KA (lg h x):=by have:=DP hn x k;exact⟨by rw[this.2.2];exact f.pl,by rw[this.2.1];exact f.w⟩
theorem Js (h:Host):∀k,(iz h k).2.2.1=h.2.2.1
 |0=>rfl
 |k+1=>by
  show(wz k (iz h k)).2.2.1=_;rw[<-Js h k];generalize iz h k=s;unfold wz;cases h1:s.2.2.2.1[k]? with|none=>rfl|some x=>?_
  cases h2:s.2.2.2.2.2.1[k]? with|none=>rfl|some v=>rfl
theorem IG (hn:1000<=n)(k:Ap n h)(f:KA h):Ap (n+645000) (sD h)/\KA (sD h):=by
 unfold sD;cases hb:ew h with|false=>exact⟨k.mono,f⟩|true=>?_
 have hl:=rO (LV hb);have e:=I1 hn k.z hl.1;have hw:=f.w;have hp:=Cm (n:=n) (by omega) k.z h.2.2.2.1.length;have ht:=(xT (n:=n+322000*h.2.2.2.1.length) (h:=h) hp.2 h.2.2.1.2.2.1.length).1.e;have h4:=oH 256 128 8;simp only[ah];have hx:=Js (rb h) h.2.2.2.1.length;have hk:=(xh (rb h) h.2.2.2.1.length).pl;have hpl:(rb h).2.2.2.2.1.length=h.2.2.2.2.1.length:=by show(returned h h.2.2.1.2.2.1.length).2.2.2.2.1.length=_;rw[ht];exact hp.1.pl
 refine⟨⟨(Cq (by omega) e _).mono,?_⟩,?_,?_⟩;rw[hx];show(ig 256 128 8).1.2.2.2.length+0<=_;omega;rw[hk,hpl];exact f.pl;rw[hx];show 0<=16;omega
def adv (f:kj):aw Stream->Int->Int
 |[],_=> -1
 |s::r,i=>if s.1=f then i else adv f r (i+1)
def ac0 (a b:aw Stream)(f:kj):Bool:=
 match idx a (adv f a 0),idx b (adv f b 0)with
 |some x,some y=>decide (x=y)
 |_,_=>false
end
end Go.Pu
