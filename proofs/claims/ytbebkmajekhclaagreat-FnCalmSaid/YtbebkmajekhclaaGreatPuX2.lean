import Derived.KernelRfl
import Derived.Test.YtbebkmajekhclaaGreatPuX1
namespace Go.Pu
open Go.Dn
open Int (tdiv tmod)
set_option linter.unusedSimpArgs false
set_option linter.unusedVariables false
noncomputable section
variable {s x:Bytes} {h:Host} {b c d:Int} {a i k n o:Nat} {g:Nat->Host->Host} {p:aN} {q:bL} {t:eR} {R α:Type} {l:aw aI} {m:bO} {f:bO×bL} {r:lZ}
/- Reads through mappings: the program's and the reference's results are one. -/
theorem PO (s:Bytes):aQ (dJ s)=s:=by
 unfold aQ dJ;rw[List.map_map];conv=>rhs;rw[<-List.map_id s]
 refine List.map_congr_left λb _=>?_;simp
theorem ald (s t:Bytes):dJ (s++t)=dJ s++dJ t:=cZ
theorem K3 (s:Bytes):(dJ s).length=s.length:=bF ..
theorem XM (l:aw α)(i j:Nat)(h:i<=j)(h2:j<=l.length):sub l (i:Int) (j:Int)=some ((l.drop i).take (j-i)):=by unfold sub;rw[zip];simp[List.take_drop,Nat.add_sub_cancel' h]
theorem abp (a k:Nat):tdiv (a:Int) (k:Int)=((a/k:Nat):Int):=(Int.ofNat_tdiv a k).symm
theorem Hx (a k:Nat):tmod (a:Int) (k:Int)=((a%k:Nat):Int):=(Int.ofNat_tmod a k).symm
theorem mem_iff:dq m=true↔(∀x∈m,x.length=128)/\m.length<=64:=by simp only[dq,ae,aF,bn,aJ];constructor;rintro⟨h1,h2⟩;exact⟨λx hx=>by have:=h1 x hx;omega,by omega⟩;rintro⟨h1,h2⟩;exact⟨λx hx=>by have:=h1 x hx;omega,by omega⟩
theorem YJ:∀{m:bO},(∀x∈m,x.length=128)->m.flatten.length=128*m.length
 |[],_=>rfl
 |x::m,h=>by have:=YJ (m:=m) (λy hy=>h y (by simp[hy]));have:=h x (by simp);simp only[List.flatten_cons,ai,aP];omega
theorem Ub:∀{m:bO}(_:∀x∈m,x.length=128)(p:Nat)(hp:p<m.length)(o c:Nat),o+c<=128->(m.flatten.drop (128*p+o)).take c=(m[p].drop o).take c
 |x::m,h,0,hp,o,c,ho=>by have:=h x (by simp);simp only[List.flatten_cons,List.getElem_cons_zero];rw[List.drop_append_of_le_length (by omega),List.take_append_of_le_length (by simp;omega)];simp
 |x::m,h,p+1,hp,o,c,ho=>by have hx:=h x (by simp);simp only[List.flatten_cons,List.getElem_cons_succ];rw[show 128*(p+1)+o=x.length+(128*p+o) by omega,List.drop_length_add_append];exact Ub (m:=m) (λy hy=>h y (by simp[hy])) p (by simpa using hp) o c ho
def DN (m:bO)(a n:Nat):Bytes:=(m.flatten.drop a).take n
theorem M4 (h:dq m=true)(hn:a+n<=128*m.length):(DN m a n).length=n:=by have:=YJ (mem_iff.1 h).1;simp only[DN,aV,aM];omega
theorem alT (m:bO)(a n:Nat):(DN m a n).length<=n:=by simp[DN];omega
theorem aiq (m:bO)(a k c:Nat):DN m a (k+c)=DN m a k++DN m (a+k) c:=by unfold DN;rw[List.take_add,fP]
theorem RO (h:dq m=true){p:Nat}(hp:p<m.length){c:Nat}(ho:o+c<=128)(ha:a=128*p+o):(m[p].drop o).take c=DN m a c:=by subst ha;exact(Ub (mem_iff.1 h).1 p hp o c ho).symm
def ir (m:bO)(a n:Int):Bool:=dq m&&decide (0<=n/\0<=a/\a+n<=128*(m.length:Int))
theorem G1 (m:bO)(a n:Int)(h:m.length<=10^9):xb m a n=some (ir m a n):=by unfold xb ir;rw[JC m h,ab,ak (n:=(m.length:Int)*128)];cases hm:dq m with|false=>rfl|true=>simp only[ah,bt];by_cases h1:n>=0;by_cases h2:n<=(m.length:Int)*128;rw[ak (n:=(m.length:Int)*128-n)];by_cases h3:a>=0;simp only[ax h1,ax h2,ax h3,ah,ab];exact congrArg some (decide_eq_decide.2 (by omega));simp only[ax h1,ax h2,aq h3,ah,af,ab];exact congrArg some (cL).symm;simp only[ax h1,aq h2,ah,af,ab];exact congrArg some (cL).symm;simp only[aq h1,af,ab];exact congrArg some (cL).symm
theorem Og (m:bO)(a n:Int)(h:m.length<=10^9):pY m a n=some (ir m a n):=by unfold pY ir;rw[JQ m h,ab,ak (n:=128*(m.length:Int))];cases hm:dq m with|false=>rfl|true=>simp only[ah,bt];by_cases h1:n>=0;by_cases h3:a>=0;by_cases h2:a<=128*(m.length:Int);rw[ak (n:=128*(m.length:Int)-a)];simp only[ax h1,ax h2,ax h3,ah,ab];exact congrArg some (decide_eq_decide.2 (by omega));simp only[ax h1,aq h2,ax h3,ah,af,ab];exact congrArg some (cL).symm;simp only[ax h1,aq h3,ah,af,ab];exact congrArg some (cL).symm;simp only[aq h1,af,ab];exact congrArg some (cL).symm
theorem KS (hm:dq m=true)(K:Int->cc->aB R):∀(n r k a f:Nat),r<=n->n<f->a+k+r<=128*m.length->
 bj (mI K ((k+r:Nat):Int) m) f (((a+k:Nat):Int),dJ (DN m a k))=K ((a+k+r:Nat):Int) (dJ (DN m a (k+r)))
 |n,r,k,a,0,_,hf,_=>by omega
 |n,0,k,a,f+1,hr,hf,hb=>by rw[bj];simp only[mI,K3,M4 hm (show a+k<=128*m.length by omega),dX];rw[cL,af]
 |0,r+1,k,a,f+1,hr,hf,hb=>by omega
 |n+1,r+1,k,a,f+1,hr,hf,hb=>by
  have h64:=(mem_iff.1 hm).2;have hl:=M4 hm (show a+k<=128*m.length by omega);obtain⟨p,hp⟩:∃p,(a+k)/128=p:=⟨_,rfl⟩
  obtain⟨o,ho⟩:∃o,(a+k)%128=o:=⟨_,rfl⟩
  have hpo:a+k=128*p+o:=by omega
  have ho2:o<128:=by omega
  have Gf:p<m.length:=by omega
  obtain⟨c,hc⟩:∃c,min (r+1) (128-o)=c:=⟨_,rfl⟩
  have hpg:=(mem_iff.1 hm).1 _ (aK Gf);have e1:tdiv ((a+k:Nat):Int) 128=(p:Int):=by rw[<-hp];exact abp (a+k) 128
  have e2:tmod ((a+k:Nat):Int) 128=(o:Int):=by rw[<-ho];exact Hx (a+k) 128
  have key:=KS hm K n (r+1-c) (k+c) a f (by omega) (by omega) (by omega);rw[bj];simp only[mI,K3,hl,e1,e2];rw[jP,ah,lI,ak (n:=(p:Int)),bB Gf,ab,lI];rw[ak (n:=(o:Int)+((k+(r+1):Nat):Int)),ak (n:=(o:Int)+((k+(r+1):Nat):Int)-(k:Int))];rw[show(if(o:Int)+((k+(r+1):Nat):Int)-(k:Int)<128 then(o:Int)+((k+(r+1):Nat):Int)-(k:Int) else 128)=((o+c:Nat):Int) by split<;>omega];rw[XM _ _ _ (by omega) (by omega),ab,show o+c-o=c by omega,RO hm Gf (show o+c<=128 by omega) hpo];have Cg:=M4 hm (show a+k+c<=128*m.length by omega);rw[Cg,aX,ak,<-ald,<-aiq];rw[show((a+k:Nat):Int)+(c:Int)=((a+(k+c):Nat):Int) by omega];rw[show k+c+(r+1-c)=k+(r+1) by omega,show a+(k+c)+(r+1-c)=a+k+(r+1) by omega]at key;exact key
theorem ak8 (m:bO)(a n:Int)(h:m.length<=10^9):qZ m a n=some (bif ir m a n then(DN m a.toNat n.toNat,true) else([],false)):=by have D7:=eX;unfold qZ;rw[G1 m a n h,ab];cases hw:ir m a n with|false=>rfl|true=>simp only[ir,ae,aJ]at hw;obtain⟨hm,h1,h2,h3⟩:=hw;have h64:=(mem_iff.1 hm).2;simp only[aj,af,ah];rw[zip,aX];obtain⟨a,rfl⟩:=aD h2;obtain⟨n,rfl⟩:=aD h1;have:=KS hm (λ(y4:Int) (y5:cc)=>some (aQ y5,true)) n n 0 a fuel (by omega) (by omega) (by omega);rw[cE,dX]at this;refine Eq.trans this ?_;simp only[PO,au]
def JI (d p:Int)(w:Bool)(x:aI):Bool:=tw d p x&&(x.2.2.2|| !w)
def tB (l:aw aI)(d p:Int)(w:Bool):Int:=match l.findIdx? (JI d p w)with|some i=>(l.getD i OU).2.2.1|none=> -1
theorem amf (l:aw aI)(d p:Int)(w:Bool)(h:l.length<=10^9):BZ l d p w=some (tB l d p w):=by unfold BZ tB;refine Eq.trans (HO (p:=JI d p w) (hit:=λi=>aa (idx l i) λx=>some x.2.2.1) (fin:=some (-1)) l (by omega) (λi hi nx=>?_) (λnx=>?_)) ?_;simp only[wC];rw[jP,bB hi,ak];simp only[ah,ab,JI,tw];cases l[i].1==d<;>cases l[i].2.1==p<;>cases l[i].2.2.2<;>cases w<;>rfl;simp only[wC];rw[cL];rfl;cases hf:l.findIdx? (JI d p w)with|none=>rfl|some i=>obtain⟨hi,_⟩:=List.findIdx?_eq_some_iff_getElem.1 hf;simp only[bB hi,ab,cB hi]
theorem Lc (h:gG l=true)(hi:i<l.length):MF l[i]=true/\∀j (hj:j<i),tw l[i].1 l[i].2.1 (l[j]'(by omega))=false:=by simp only[gG,ae,aF,bG]at h;have:=h.2 i hi;simp only[Ro,ae,aF,bG,cB hi,aO]at this;exact⟨this.1,λj hj=>by have:=this.2 j hj;rwa[cB (by omega)]at this⟩
theorem ME {p:Int}{m:aI}:tw d p m=true↔m.1=d/\m.2.1=p:=by simp[tw]
theorem alp (h:gG l=true){p:Int}{j:Nat}(hi:i<l.length)(hj:j<l.length)(h1:tw d p l[i]=true)(h2:tw d p l[j]=true):i=j:=by have a:=ME.1 h1;have b:=ME.1 h2;rcases Nat.lt_trichotomy i j with h3|h3|h3;have:=(Lc h hj).2 i h3;rw[b.1,b.2,h1]at this;cases this;exact h3;have:=(Lc h hi).2 j h3;rw[a.1,a.2,h2]at this;cases this
theorem Ry (h:gG l=true)(d p:Int)(w:Bool)(h1:0<=tB l d p w):tB l d p w<=63/\0<=p/\p<=1023:=by unfold tB at h1⊢;cases hf:l.findIdx? (JI d p w)with|none=>rw[hf]at h1;simp at h1|some i=>obtain⟨hi,h2,_⟩:=List.findIdx?_eq_some_iff_getElem.1 hf;have h3:=(Lc h hi).1;simp only[JI,ae,ME]at h2;simp only[MF,ae,aU]at h3;simp only[cB hi];omega
theorem ahk (l:aw aI)(d:Int)(a:Nat)(w:Bool)(h:l.length<=10^9)(hm:gG l=true)(ha:a<=9223372036854775807): Fp l d (a:Int) w=some (if 0<=tB l d ((a/128:Nat):Int) w then tB l d ((a/128:Nat):Int) w*128+((a%128:Nat):Int) else-1):=by
 have e1:tdiv (a:Int) 128=((a/128:Nat):Int):=abp a 128;have e2:tmod (a:Int) 128=((a%128:Nat):Int):=Hx a 128;unfold Fp;rw[cL,af,lI,e1,e2,ak,ZF l _ _ h,ab];generalize ((a/128:Nat):Int)=p;have uX:=Ry hm d p w;unfold aaw;cases hf:l.findIdx? (tw d p)with
 |none=>
  have hn:tB l d p w= -1:=by unfold tB;rw[List.findIdx?_eq_none_iff]at hf;rw[List.findIdx?_eq_none_iff.2 (λx hx=>by rw[JI,hf x hx];rfl)]
  rw[hn];rfl
 |some i=>
  obtain⟨hi,h2,h3⟩:=List.findIdx?_eq_some_iff_getElem.1 hf;simp only;rw[cL,bB hi];simp only[af,ab];cases hq:l[i].2.2.2|| !w with
  |true=>
   have hF:tB l d p w=l[i].2.2.1:=by unfold tB;rw[List.findIdx?_eq_some_iff_getElem.2 ⟨hi,by rw[JI,h2,hq];rfl,λj hj=>by have:=h3 j hj;rw[JI,Bool.eq_false_iff.2 this];simp⟩];exact congrArg (λx:aI=>x.2.2.1) (cB hi OU)
   have h4:=(Lc hm hi).1;simp only[MF,ae,aU]at h4
   rw[hF,aH (show 0<=l[i].2.2.1 by omega),show(aa (cond w (some (!l[i].2.2.2)) (some false)) λq3=>cond q3 (some (-1:Int)) _)=_ from by
    have:(cond w (some (!l[i].2.2.2)) (some false))=some false:=by cases w<;>cases hz:l[i].2.2.2<;>rw[hz]at hq<;>first|rfl|cases hq
    rw[this,ab,af]]
   rw[aG (show¬(128:Nat)=0 by omega),ak (n:=l[i].2.2.1*128),ak]
  |false=>
   have hF:tB l d p w= -1:=by unfold tB;rw[List.findIdx?_eq_none_iff.2 (λx hx=>by obtain⟨j,hj,rfl⟩:=gw hx;cases hx2:tw d p l[j]with|false=>rw[JI,hx2];rfl|true=>have:=alp hm hi hj h2 hx2;subst this;rw[JI,hq];simp)]
   rw[hF,aG (show¬(0:Int)<= -1 by omega)];cases w with|false=>simp at hq|true=>simp only[aj,Bool.or_false]at hq;simp only[ah,hq,ab,bE]
def lT (l:aw aI)(m:bO)(d:Int)(w:Bool):Nat->Nat->Nat->aB (aw (Int×Int))
 |0,_,_=>some []
 |n+1,a,r=>if r=0 then some [] else
  if 0<=tB l d ((a/128:Nat):Int) w/\tB l d ((a/128:Nat):Int) w<(m.length:Int) then
   (lT l m d w n (a+min (128-a%128) r) (r-min (128-a%128) r)).map (λq=>(tB l d ((a/128:Nat):Int) w*128+((a%128:Nat):Int),((min (128-a%128) r:Nat):Int))::q)
  else none
theorem FR (hm:dq m=true){f:Int}(h0:0<=f){c:Nat}(hc:0<c:=by omega)(ho:o+c<=128:=by omega):ir m (f*128+(o:Int)) (c:Int)=decide (f<(m.length:Int)):=by rw[ir,hm,bt];exact decide_eq_decide.2 (by omega)
theorem abz (hm:dq m=true){f:Int}(h0:0<=f):ir m (f*128) 128=decide (f<(m.length:Int)):=by rw[ir,hm,bt];exact decide_eq_decide.2 (by omega)
theorem KU (hl:gG l=true)(hL:l.length<=10^9)(hm:dq m=true)(d:Int)(w:Bool):∀(n a r f:Nat)(acc:aw (Int×Int)),r<=n->n<f->acc.length+n<=1000000->a<=9223372036854775807->
 bj (tp (λ(y9:Int) (Em:Int) (Da:aw (Int×Int))=>some (Da,true)) (λ(Dg:Int) (E0:Int) (Cb:aw (Int×Int)) (E1:Bool) (Gl:aw (Int×Int))=>some (Cb,E1)) l d w ([]:aw (Int×Int)) false m) f ((a:Int),(r:Int),acc)
  =match lT l m d w n a r with|some q=>some (acc++q,true)|none=>some ([],false)
 |n,a,r,0,acc,_,hf,_,_=>by omega
 |0,a,r,f+1,acc,hr,hf,hA,ha=>by rw[bj];simp only[tp];rw[cL];simp[lT]
 |n+1,a,r,f+1,acc,hr,hf,hA,ha=>by
  have h64:=(mem_iff.1 hm).2;rw[bj];simp only[tp,lT];by_cases h0:r=0;rw[cL,aH h0];simp;have e2:tmod (a:Int) 128=((a%128:Nat):Int):=Hx a 128;have uX:=Ry hl d ((a/128:Nat):Int) w;rw[jP,aG h0,ahk l d a w hL hl ha,ab,lI,e2,ak (n:=128-((a%128:Nat):Int))];obtain⟨c,hc⟩:∃c,min (128-a%128) r=c:=⟨_,rfl⟩
  rw[hc,show(if 128-((a%128:Nat):Int)<(r:Int) then 128-((a%128:Nat):Int) else(r:Int))=(c:Int) by split<;>omega];generalize hP:tB l d ((a/128:Nat):Int) w=P at uX⊢;by_cases hP0:0<=P;have uX:=uX hP0;simp only[aH hP0,ah];rw[aq (show¬P*128+((a%128:Nat):Int)<0 by omega),G1 m _ _ (by omega),FR hm hP0];simp only[af,ab];by_cases hP1:P<(m.length:Int);rw[ax hP1,aH ⟨hP0,hP1⟩];simp only[aj,af];rw[aX (by simp;omega),ak (n:=(a:Int)+(c:Int)),ak (n:=(r:Int)-(c:Int)),aq (show¬(a:Int)+(c:Int)<0 by omega)];simp only[af,ab];have key:=KU hl hL hm d w n (a+c) (r-c) f (acc++[(P*128+((a%128:Nat):Int),(c:Int))]) (by omega) (by omega) (by simp;omega) (by omega);rw[show((a+c:Nat):Int)=(a:Int)+(c:Int) by omega,show((r-c:Nat):Int)=(r:Int)-(c:Int) by omega]at key;rw[key];cases lT l m d w n (a+c) (r-c)with|none=>rfl|some q=>simp
  rw[aq hP1,lI];rfl;simp only[aG hP0,ah];rw[lI,jP];rfl
theorem LD (hl:gG l=true)(hL:l.length<=10^9)(hm:dq m=true)(d:Int)(w:Bool):∀(n a r f:Nat)(acc:aw (Int×Int)),r<=n->n<f->acc.length+n<=1000000->a<=9223372036854775807->
 bj (my (λ(Em:Int) (Da:Int) (Dg:cc) (E0:cc)=>some (Dg,E0,true)) (λ(Cb:Int) (E1:Int) (Gl:cc) (VD:cc) (TI:Bool) (XT:cc) (y20:cc)=>some (Gl,VD,TI)) l d w ([]:cc) ([]:cc) false m) f ((a:Int),(r:Int),acc.map (·.1),acc.map (·.2))
  =match lT l m d w n a r with|some q=>some ((acc++q).map (·.1),(acc++q).map (·.2),true)|none=>some ([],[],false)
 |n,a,r,0,acc,_,hf,_,_=>by omega
 |0,a,r,f+1,acc,hr,hf,hA,ha=>by rw[bj];simp only[my];rw[cL];simp[lT]
 |n+1,a,r,f+1,acc,hr,hf,hA,ha=>by
  have h64:=(mem_iff.1 hm).2;rw[bj];simp only[my,lT];by_cases h0:r=0;rw[cL,aH h0];simp;have e1:tdiv (a:Int) 128=((a/128:Nat):Int):=abp a 128;have e2:tmod (a:Int) 128=((a%128:Nat):Int):=Hx a 128;have uX:=Ry hl d ((a/128:Nat):Int) w;rw[ax (show(r:Int)>0 by omega),ax (show(a:Int)>=0 by omega),aG h0];simp only[ah];rw[lI,e1,e2,ak (n:=((a/128:Nat):Int)),amf l _ _ w hL,ab,lI,ak (n:=128-((a%128:Nat):Int))];obtain⟨c,hc⟩:∃c,min (128-a%128) r=c:=⟨_,rfl⟩
  rw[hc,show(if 128-((a%128:Nat):Int)<(r:Int) then 128-((a%128:Nat):Int) else(r:Int))=(c:Int) by split<;>omega];generalize hP:tB l d ((a/128:Nat):Int) w=P at uX⊢;by_cases hP0:0<=P;have uX:=uX hP0;rw[aq (show¬P<0 by omega),ak (n:=P*128),Og m _ _ (by omega),abz hm hP0];simp only[af,ab];by_cases hP1:P<(m.length:Int);rw[ax hP1,aH ⟨hP0,hP1⟩];simp only[aj,af];rw[aX (by simp;omega),aX (by simp;omega),ak (n:=P*128+((a%128:Nat):Int)),ak (n:=(a:Int)+(c:Int)),ak (n:=(r:Int)-(c:Int))];have key:=LD hl hL hm d w n (a+c) (r-c) f (acc++[(P*128+((a%128:Nat):Int),(c:Int))]) (by omega) (by omega) (by simp;omega) (by omega);rw[show((a+c:Nat):Int)=(a:Int)+(c:Int) by omega,show((r-c:Nat):Int)=(r:Int)-(c:Int) by omega,cZ,cZ]at key;refine Eq.trans key ?_;cases lT l m d w n (a+c) (r-c)with|none=>rfl|some q=>simp
  rw[aq hP1,lI];rfl;rw[lI,jP];rfl
def lb (l:aw aI)(m:bO)(d a n:Int)(w:Bool):aw (Int×Int)×Bool:=
 bif gG l&&(dq m&&di n 0 4096) then
  (bif n==0 then([],true) else bif decide (a<0) then([],false) else match lT l m d w n.toNat a.toNat n.toNat with|some q=>(q,true)|none=>([],false))
 else([],false)
theorem ZJ (l:aw aI)(m:bO)(d a n:Int)(w:Bool)(hl:l.length<=10^9)(hm:m.length<=10^9)(ha:a<=9223372036854775807):Ax l m d a n w=some (lb l m d a n w):=by
 have D7:=eX;unfold Ax lb;simp only[KP l hl,JC m hm,cx,ab];cases hB:gG l;rfl;cases hM:dq m;rfl;cases hN:di n 0 4096;rfl;have hn:=aU.1 hN;simp only[aj,af,ab,cq,ah];cases h0:n==0;case true=>rfl
 by_cases hA:a<0;rw[ax hA];rfl;rw[aq hA];simp only[af];obtain⟨a,rfl⟩:=aD (show 0<=a by omega);obtain⟨n,rfl⟩:=aD hn.1;rw[KU hB hl hM d w n a n fuel [] (by omega) (by omega) (by simp;omega) (by omega)];simp only[au];cases lT l m d w n a n<;>rfl
theorem aiL (l:aw aI)(m:bO)(d a n:Int)(w:Bool)(hl:l.length<=10^9)(hm:m.length<=10^9)(ha:a<=9223372036854775807):Ai l m d a n w=some ((lb l m d a n w).1.map (·.1),(lb l m d a n w).1.map (·.2),(lb l m d a n w).2):=by
 have D7:=eX;unfold Ai lb;simp only[XE l hl,JQ m hm,dV,ab];cases hB:gG l;rfl;cases hM:dq m;rfl;cases hN:di n 0 4096;rfl;have hn:=aU.1 hN;simp only[aj,af,ab,cq,ah];obtain⟨n,rfl⟩:=aD hn.1;cases h0:((n:Int)==0)with
 |true=>
  have:n=0:=by simpa using h0
  subst this;obtain⟨f,hf⟩:∃f,fuel=f+1:=⟨fuel-1,by omega⟩
  rw[hf,bj];rfl
 |false=>
  have hn0:n≠0:=by simpa using h0
  by_cases hA:a<0;obtain⟨f,hf⟩:∃f,fuel=f+1:=⟨fuel-1,by omega⟩
  rw[ax hA,hf,bj];simp only[my];rw[jP,cL];rfl;rw[aq hA];simp only[af];obtain⟨a,rfl⟩:=aD (show 0<=a by omega);refine Eq.trans (LD hB hl hM d w n a n fuel [] (by omega) (by omega) (by simp;omega) (by omega)) ?_;simp only[au];cases lT l m d w n a n<;>rfl
def yj (x:Bytes)(o:Nat)(t:Bytes):Bytes:=x.take o++(t++x.drop (o+t.length))
theorem MS {t:Bytes}(h:o+t.length<=x.length):(yj x o t).length=x.length:=by simp only[yj,ai,aV,aM];omega
theorem aib (x:Bytes)(o:Nat)(t:Bytes):aQ (EN (dJ x) o (dJ t))=yj x o t:=by
 have e:EN (dJ x) o (dJ t)=dJ (yj x o t):=by simp only[EN,yj,dJ,cZ,List.map_take,List.map_drop,bF]
 rw[e,PO]
theorem alP {t:Bytes}(h:o+t.length<=x.length):yX x (o:Int) t=yj x o t:=by unfold yX fT;rw[ax ⟨by omega,by omega⟩];simp only[ah,au,yj,aR]
def uV:Nat->bO->Nat->Bytes->bO
 |0,m,_,_=>m
 |n+1,m,a,s=>if s.length=0 then m else
  uV n (m.set (a/128) (yj (m.getD (a/128) []) (a%128) (s.take (128-a%128)))) (a+min (128-a%128) s.length) (s.drop (128-a%128))
def Ee (m:bO):Prop:=(∀x∈m,x.length=128)/\m.length<=64
theorem nt:dq m=true↔Ee m:=mem_iff
theorem MU {p:Nat}(h:Ee m)(hx:x.length=128):Ee (m.set p x):=by refine⟨λy hy=>?_,by rw[az];exact h.2⟩;rcases cK hy with g|g;exact h.1 y g;rw[g];exact hx
theorem FU (h:Ee m)(hs:s.length≠0)(ha:a+s.length<=128*m.length): ∃(hp:a/128<m.length),(m[a/128]'hp).length=128/\(yj (m[a/128]'hp) (a%128) (s.take (128-a%128))).length=128:=by
 have hp:a/128<m.length:=by omega
 have hl:=h.1 _ (aK hp);refine⟨hp,hl,?_⟩;rw[MS (by rw[aV,hl];omega),hl]
theorem Ca:∀(n:Nat){m:bO}{a:Nat}{s:Bytes},Ee m->a+s.length<=128*m.length->Ee (uV n m a s)/\(uV n m a s).length=m.length
 |0,m,a,s,h,_=>⟨h,rfl⟩
 |n+1,m,a,s,h,ha=>by rw[uV];split;exact⟨h,rfl⟩;rename_i hs;obtain⟨hp,hl,ho⟩:=FU h hs ha;rw[cB hp];have:=Ca n (m:=m.set (a/128) (yj m[a/128] (a%128) (s.take (128-a%128)))) (a:=a+min (128-a%128) s.length) (s:=s.drop (128-a%128)) (MU h ho) (by rw[az,aM];omega);rw[az]at this;exact this
theorem IT (K:Int->Bytes->bO->aB R)(K':bO->aB R)(hK:∀a m,K a [] m=K' m):∀(n:Nat)(m:bO)(a:Nat)(s:Bytes)(f:Nat),s.length<=n->n<f->Ee m->a+s.length<=128*m.length->
 bj (oI K ([]:bO)) f ((a:Int),s,m)=K' (uV n m a s)
 |n,m,a,s,0,_,hf,_,_=>by omega
 |n,m,a,s,f+1,hs,hf,hm,ha=>by
  rw[bj];simp only[oI];by_cases h0:s.length=0;have:s=[]:=cr h0;subst this;rw[aq (by simp),af,hK];cases n<;>simp[uV];cases n with
  |zero=>omega
  |succ n=>
   obtain⟨hp,hl,ho⟩:=FU hm h0 ha;have h64:=hm.2;have e1:tdiv (a:Int) 128=((a/128:Nat):Int):=abp a 128;have e2:tmod (a:Int) 128=((a%128:Nat):Int):=Hx a 128;rw[jP,ah,lI,e1,e2,ak (n:=((a/128:Nat):Int)),bB hp,ab,aX,lI];have rP:sub (dJ m[a/128]) ((a%128:Nat):Int) ((dJ m[a/128]).length:Int)=some ((dJ m[a/128]).drop (a%128)):=by rw[XM _ _ _ (by rw[K3];omega) (bc _),ca (by rw[aM];exact bc _)]
   rw[rP,ab,lI,ab,ab];have hd:((dJ m[a/128]).drop (a%128)).length=128-a%128:=by rw[aM,K3,hl]
   rw[hd];have hdr:s.drop (min (128-a%128) s.length)=s.drop (128-a%128):=by by_cases h3:128-a%128<=s.length;rw[jk h3];rw[Nat.min_eq_right (by omega),cI (bc _),cI (by omega)]
   have asG:sub s (((min (128-a%128) s.length:Nat)):Int) ((s.length:Int))=some (s.drop (128-a%128)):=by rw[<-hdr];unfold sub;rw[zip];simp
   rw[asG,ab,ak (n:=(a:Int)+((min (128-a%128) s.length:Nat):Int)),au,au,aib];rw[uV,aG h0,cB hp,show(a:Int)+((min (128-a%128) s.length:Nat):Int)=((a+min (128-a%128) s.length:Nat):Int) by omega];exact IT K K' hK n _ _ _ f (by rw[aM];omega) (by omega) (MU hm ho) (by rw[az,aM];omega)
theorem I6 (K:Int->Bytes->bO->aB R)(K':bO->aB R)(hK:∀a m,K a [] m=K' m):∀(n:Nat)(m:bO)(a:Nat)(s:Bytes)(f:Nat),s.length<=n->n<f->Ee m->a+s.length<=128*m.length->
 bj (oP K ([]:bO)) f ((a:Int),s,m)=K' (uV n m a s)
 |n,m,a,s,0,_,hf,_,_=>by omega
 |n,m,a,s,f+1,hs,hf,hm,ha=>by
  rw[bj];simp only[oP];by_cases h0:s.length=0;have:s=[]:=cr h0;subst this;rw[aq (by simp),af,hK];cases n<;>simp[uV];cases n with
  |zero=>omega
  |succ n=>
   obtain⟨hp,hl,ho⟩:=FU hm h0 ha;have h64:=hm.2;have e1:tdiv (a:Int) 128=((a/128:Nat):Int):=abp a 128;have e2:tmod (a:Int) 128=((a%128:Nat):Int):=Hx a 128;rw[jP,ah,lI,lI,lI,e1,e2,ak (n:=((a/128:Nat):Int)),ak (n:=128-((a%128:Nat):Int)),bB hp,ab];obtain⟨c,hc⟩:∃c,min (128-a%128) s.length=c:=⟨_,rfl⟩
   rw[show(if 128-((a%128:Nat):Int)<(s.length:Int) then 128-((a%128:Nat):Int) else(s.length:Int))=(c:Int) by split<;>omega];have ht:s.take c=s.take (128-a%128):=by by_cases h3:128-a%128<=s.length;rw[<-hc,jk h3];rw[<-hc,Nat.min_eq_right (by omega),ca (bc _),ca (by omega)]
   have hdr:s.drop c=s.drop (128-a%128):=by by_cases h3:128-a%128<=s.length;rw[<-hc,jk h3];rw[<-hc,Nat.min_eq_right (by omega),cI (bc _),cI (by omega)]
   have hs1:sub s 0 (c:Int)=some (s.take (128-a%128)):=by rw[<-ht];unfold sub;rw[zip];simp
   have hs2:sub s (c:Int) (s.length:Int)=some (s.drop (128-a%128)):=by rw[<-hdr];unfold sub;rw[zip];simp
   rw[hs1,ab,Pm _ _ _,ab,ab,ab,hs2,ab,alP (by rw[aV,hl];omega),ak (n:=(a:Int)+(c:Int)),au];rw[uV,aG h0,cB hp,hc,show(a:Int)+(c:Int)=((a+c:Nat):Int) by omega];exact I6 K K' hK n _ _ _ f (by rw[aM];omega) (by omega) (MU hm ho) (by rw[az,aM];omega)
def lY (m:bO)(a:Int)(s:Bytes):bO×Bool:=bif ir m a (s.length:Int) then(uV s.length m a.toNat s,true) else(m,false)
theorem adq (m:bO)(a:Int)(s:Bytes)(h:m.length<=10^9)(hs:s.length<=10^9):ur m a s=some (lY m a s):=by have D7:=eX;unfold ur lY;rw[hZ m,ab,G1 m _ _ h,ab];cases hw:ir m a (s.length:Int);rfl;simp only[ir,ae,aJ]at hw;obtain⟨a,rfl⟩:=aD hw.2.2.1;simp only[aj,af,ah,au];exact IT _ (λm=>some (m,true)) (λ_ _=>rfl) s.length m a s fuel (bc _) (by omega) (nt.1 hw.1) (by omega)
theorem aer (m:bO)(a:Int)(s:Bytes)(h:m.length<=10^9)(hs:s.length<=10^9):uH m a s=some (lY m a s):=by have D7:=eX;unfold uH lY;rw[Ft m,ab,Og m _ _ h,ab];cases hw:ir m a (s.length:Int);rfl;simp only[ir,ae,aJ]at hw;obtain⟨a,rfl⟩:=aD hw.2.2.1;simp only[aj,af,ah,au];exact I6 _ (λm=>some (m,true)) (λ_ _=>rfl) s.length m a s fuel (bc _) (by omega) (nt.1 hw.1) (by omega)
theorem HF (m:bO)(a:Int)(s:Bytes):(lY m a s).1.length=m.length:=by unfold lY;cases hw:ir m a (s.length:Int);rfl;simp only[ir,ae,aJ]at hw;exact(Ca s.length (nt.1 hw.1) (by omega)).2
def Gi:aw (Int×Int)->bO->Bytes->bO
 |[],m,_=>m
 |p::q,m,s=>Gi q (lY m p.1 (s.take p.2.toNat)).1 (s.drop p.2.toNat)
theorem aaH:∀(q:aw (Int×Int))(m:bO)(s:Bytes),(Gi q m s).length=m.length
 |[],m,s=>rfl
 |p::q,m,s=>by rw[Gi,aaH q,HF]
def O1 (q:aw (Int×Int)):Int:=(q.map (·.2)).sum
theorem af0:∀(q:aw (Int×Int)),(∀p∈q,0<=p.2)->0<=O1 q
 |[],_=>cU _
 |p::q,h=>by have:=af0 q (λx hx=>h x (by simp[hx]));have:=h p (by simp);simp only[O1,dm,gu]at*;omega
theorem aaM {p:Int×Int}{q:aw (Int×Int)}(hc:∀x∈p::q,0<=x.2)(hs:(s.length:Int)=O1 (p::q)):0<=p.2/\p.2<=(s.length:Int)/\((s.drop p.2.toNat).length:Int)=O1 q:=by
 have h1:=hc p (by simp);have h2:=af0 q (λx hx=>hc x (by simp[hx]));have h3:O1 (p::q)=p.2+O1 q:=by simp[O1]
 rw[h3]at hs;refine⟨h1,by omega,?_⟩;rw[aM];omega
theorem Vr (h0:0<=c)(h1:c<=(s.length:Int)):sub s 0 c=some (s.take c.toNat):=by unfold sub;rw[zip];simp
theorem abi (h0:0<=c)(h1:c<=(s.length:Int)):sub s c (s.length:Int)=some (s.drop c.toNat):=by unfold sub;rw[zip];simp
theorem NO (K:Bytes->Int->bO->aB (bO×Bool))(hK:∀s i m,K s i m=some (m,true)):∀(rest pre:aw (Int×Int))(m:bO)(s:Bytes)(f:Nat),rest.length<f->pre.length+rest.length<=1000000->(∀x∈rest,0<=x.2)->(s.length:Int)=O1 rest->m.length<=10^9->s.length<=1000000->
 bj (Aw K (pre++rest) ((pre++rest).length:Int) ([]:bO)) f (s,(pre.length:Int),m)=some (Gi rest m s,true)
 |rest,pre,m,s,0,hf,_,_,_,_,_=>by omega
 |[],pre,m,s,f+1,_,_,_,_,_,_=>by rw[bj];simp only[Aw];rw[aq (by simp),af,hK];rfl
 |p::q,pre,m,s,f+1,hf,hn,hc,hs,hm,hl=>by
  obtain⟨h1,h2,h3⟩:=aaM hc hs;simp only[aP]at hf hn;have hi:pre.length<(pre++p::q).length:=by simp
  have hp:(pre++p::q)[pre.length]=p:=by simp
  rw[bj];simp only[Aw];rw[ax (by simp;omega),bB hi,hp,ak];simp only[ah,ab,Vr h1 h2,abi h1 h2,adq m _ _ hm (show(s.take p.2.toNat).length<=10^9 by rw[aV];omega)];have key:=NO K hK q (pre++[p]) (lY m p.1 (s.take p.2.toNat)).1 (s.drop p.2.toNat) f (by omega) (by simp;omega) (λx hx=>hc x (by simp[hx])) h3 (by rw[HF];exact hm) (by rw[aM];omega);have el:((pre++[p]).length:Int)=(pre.length:Int)+1:=by simp
  rw[aR,gC,el]at key;rw[Gi];exact key
theorem Of (K:Bytes->Int->bO->aB (bO×Bool))(hK:∀s i m,K s i m=some (m,true)):∀(rest pre:aw (Int×Int))(m:bO)(s:Bytes)(f:Nat),rest.length<f->pre.length+rest.length<=1000000->(∀x∈rest,0<=x.2)->(s.length:Int)=O1 rest->m.length<=10^9->s.length<=1000000->
 bj (pO K ((pre++rest).map (·.1)) ((pre++rest).map (·.2)) ([]:bO)) f (s,(pre.length:Int),m)=some (Gi rest m s,true)
 |rest,pre,m,s,0,hf,_,_,_,_,_=>by omega
 |[],pre,m,s,f+1,_,_,_,_,_,_=>by rw[bj];simp only[pO];rw[aq (by simp),af,hK];rfl
 |p::q,pre,m,s,f+1,hf,hn,hc,hs,hm,hl=>by
  obtain⟨h1,h2,h3⟩:=aaM hc hs;simp only[aP]at hf hn;have hi:pre.length<(pre++p::q).length:=by simp
  have hp:(pre++p::q)[pre.length]=p:=by simp
  have i1:idx ((pre++p::q).map (·.1)) (pre.length:Int)=some p.1:=by rw[bB (by simp),List.getElem_map,hp]
  have i2:idx ((pre++p::q).map (·.2)) (pre.length:Int)=some p.2:=by rw[bB (by simp),List.getElem_map,hp]
  rw[bj];simp only[pO];rw[ax (by simp;omega),i1,i2,ak];simp only[ah,ab,Vr h1 h2,abi h1 h2,aer m _ _ hm (show(s.take p.2.toNat).length<=10^9 by rw[aV];omega)];have key:=Of K hK q (pre++[p]) (lY m p.1 (s.take p.2.toNat)).1 (s.drop p.2.toNat) f (by omega) (by simp;omega) (λx hx=>hc x (by simp[hx])) h3 (by rw[HF];exact hm) (by rw[aM];omega);have el:((pre++[p]).length:Int)=(pre.length:Int)+1:=by simp
  rw[aR,gC,el]at key;rw[Gi];exact key
theorem RD (l:aw aI)(m:bO)(d:Int)(w:Bool):∀(n a r:Nat)(q:aw (Int×Int)),r<=n->lT l m d w n a r=some q->O1 q=(r:Int)/\(∀p∈q,0<=p.2)/\q.length<=n
 |0,a,r,q,hr,h=>by simp only[lT,bu]at h;subst h;exact⟨by show(0:Int)=_;omega,by simp,by simp⟩
 |n+1,a,r,q,hr,h=>by simp only[lT]at h;split at h;simp only[bu]at h;subst h;exact⟨by show(0:Int)=_;omega,by simp,by simp⟩;split at h;simp only[Option.map_eq_some_iff]at h;obtain⟨q',h1,rfl⟩:=h;obtain⟨i1,i2,i3⟩:=RD l m d w n _ _ q' (by omega) h1;refine⟨?_,?_,by simp only[aP];omega⟩;simp only[O1,dm,gu]at i1⊢;rw[i1];omega;intro p hp;rcases bU.1 hp with rfl|hp;show(0:Int)<=((min (128-a%128) r:Nat):Int);omega;exact i2 p hp;cases h
theorem U5 (l:aw aI)(m:bO)(d a n:Int)(w:Bool)(h:(lb l m d a n w).2=true):O1 (lb l m d a n w).1=n/\(∀p∈(lb l m d a n w).1,0<=p.2)/\(lb l m d a n w).1.length<=4096/\n<=4096:=by
 unfold lb at h⊢;cases hB:gG l&&(dq m&&di n 0 4096)with|false=>rw[hB]at h;simp at h|true=>?_
 rw[hB]at h;simp only[ae,aU]at hB;simp only[ah]at h⊢;cases h0:n==0 with
 |true=>
  have:n=0:=by simpa using h0
  subst this;exact⟨rfl,by simp,by simp,by omega⟩
 |false=>rw[h0]at h;simp only[af]at h⊢;cases ha:decide (a<0)with|true=>rw[ha]at h;simp at h|false=>rw[ha]at h;simp only[af]at h⊢;cases hq:lT l m d w n.toNat a.toNat n.toNat with|none=>rw[hq]at h;cases h|some q=>obtain⟨i1,i2,i3⟩:=RD l m d w _ _ _ q (bc _) hq;exact⟨by simp only;rw[i1];omega,i2,by simp only;omega,by omega⟩
def hH (l:aw aI)(m:bO)(d a:Int)(s:Bytes)(w:Bool):bO×Bool:=
 bif (lb l m d a (s.length:Int) w).2 then(Gi (lb l m d a (s.length:Int) w).1 m s,true) else(m,false)
theorem lG (l:aw aI)(m:bO)(d a:Int)(s:Bytes)(w:Bool):(hH l m d a s w).1.length=m.length:=by unfold hH;cases (lb l m d a (s.length:Int) w).2 with|false=>rfl|true=>exact aaH _ _ _
theorem ZI (l:aw aI)(m:bO)(d a:Int)(s:Bytes)(w:Bool)(hl:l.length<=10^9)(hm:m.length<=10^9)(ha:a<=9223372036854775807):G3 l m d a s w=some (hH l m d a s w):=by have D7:=eX;unfold G3 hH;rw[hZ m,ab,ZJ l m d a _ w hl hm ha,ab];have hS:=U5 l m d a (s.length:Int) w;generalize lb l m d a (s.length:Int) w=r at hS⊢;cases hr:r.2;rfl;obtain⟨h1,h2,h3,h4⟩:=hS hr;simp only[aj,af,ah];exact NO _ (λ_ _ _=>rfl) r.1 [] m s fuel (by omega) (by simp;omega) h2 h1.symm hm (by omega)
theorem LA (l:aw aI)(m:bO)(d a:Int)(s:Bytes)(hl:l.length<=10^9)(hm:m.length<=10^9)(ha:a<=9223372036854775807):vJ l m d a s=some (hH l m d a s true):=by have D7:=eX;unfold vJ hH;rw[aiL l m d a _ true hl hm ha,ab,Ft m,ab];have hS:=U5 l m d a (s.length:Int) true;generalize lb l m d a (s.length:Int) true=r at hS⊢;cases hr:r.2;rfl;obtain⟨h1,h2,h3,h4⟩:=hS hr;simp only[aj,af,ah];exact Of _ (λ_ _ _=>rfl) r.1 [] m s fuel (by omega) (by simp;omega) h2 h1.symm hm (by omega)
theorem Fj (l:aw aI)(m:bO)(d a:Int)(s:Bytes)(hl:l.length<=10^9)(hm:m.length<=10^9)(ha:a<=9223372036854775807):rF l m d a s=some (hH l m d a s true):=by rw[rF,ZI l m d a s true hl hm ha];rfl
def wrM (x:aI):aI:=(x.1,x.2.1,x.2.2.1,true)
theorem getD_map (hi:i<l.length):(l.map wrM).getD i OU=wrM (l.getD i OU):=by rw[cB (by simpa using hi),cB hi,List.getElem_map]
theorem Xb (l:aw aI):gG (l.map wrM)=gG l:=by
 unfold gG;rw[bF];congr 1;rw[cQ,aF,aF];have key:∀i,i<l.length->Ro (l.map wrM) i=Ro l i:=by
  intro i hi;unfold Ro;rw[getD_map hi];congr 1;rw[cQ,aF,aF];constructor;intro h j hj;have hjl:j<l.length:=by have:=bG.1 hj;omega
  have:=h j hj;rw[getD_map hjl]at this;exact this;intro h j hj;have hjl:j<l.length:=by have:=bG.1 hj;omega
  rw[getD_map hjl];exact h j hj
 constructor;intro h i hi;rw[<-key i (bG.1 hi)];exact h i hi;intro h i hi;rw[key i (bG.1 hi)];exact h i hi
theorem alK (l:aw aI)(d p:Int):tB (l.map wrM) d p true=tB l d p false:=by
 unfold tB;rw[List.findIdx?_map];have e:(JI d p true∘wrM)=JI d p false:=by funext x;simp only[Function.comp,JI,tw,wrM,bE,jd,je]
 rw[e];cases hf:l.findIdx? (JI d p false)with|none=>rfl|some i=>obtain⟨hi,_⟩:=List.findIdx?_eq_some_iff_getElem.1 hf;simp only[getD_map hi];rfl
theorem UX (l:aw aI)(m:bO)(d:Int):∀n a r,lT (l.map wrM) m d true n a r=lT l m d false n a r
 |0,a,r=>rfl
 |n+1,a,r=>by simp only[lT,alK,UX l m d n]
theorem an8 (l:aw aI)(m:bO)(d a:Int)(s:Bytes):hH (l.map wrM) m d a s true=hH l m d a s false:=by
 have e:lb (l.map wrM) m d a (s.length:Int) true=lb l m d a (s.length:Int) false:=by simp only[lb,Xb,UX]
 simp only[hH,e]
theorem Tv (l:aw aI)(m:bO)(d a:Int)(s:Bytes)(hl:l.length<=10^9)(hm:m.length<=10^9)(ha:a<=9223372036854775807):yp l m d a s=some (hH l m d a s false):=by unfold yp;refine dG (λi=>((l.take i).map wrM,(i:Int))) l.length (by omega) (λi nx hi=>?_) (λnx=>?_);simp only[sF];rw[jP,bB hi,ak];simp only[ah,ab];rw[aX (by simp;omega),bl hi,cZ];rfl;simp only[sF];rw[cL,af,cO,LA _ m d a s (by rw[bF];exact hl) hm ha,an8];rfl
theorem D9 (l:aw aI)(m:bO)(d a:Int)(s:Bytes)(hl:l.length<=10^9)(hm:m.length<=10^9)(ha:a<=9223372036854775807:=by omega):kO l m d a s=some (hH l m d a s false):=by rw[kO,ZI l m d a s false hl hm ha];rfl
def qg (d:FW):Bool:=di d.1 0 3&&(di d.2.1 0 3&&(di d.2.2.1 0 65535&&(di d.2.2.2.2.1 0 65535&&(di d.2.2.2.2.2 0 65535&&di d.2.2.2.1 0 4294967295))))
theorem ZA (d:FW):As d=some (qg d):=by simp only[As,cx,ab,qg];cases di d.1 0 3<;>cases di d.2.1 0 3<;>cases di d.2.2.1 0 65535<;>cases di d.2.2.2.2.1 0 65535<;>cases di d.2.2.2.2.2 0 65535<;>rfl
theorem ama (d:FW):DR d=some (qg d):=by simp only[DR,dV,ab,qg];cases di d.1 0 3<;>cases di d.2.1 0 3<;>cases di d.2.2.1 0 65535<;>cases di d.2.2.2.2.1 0 65535<;>cases di d.2.2.2.2.2 0 65535<;>rfl
def kz (d:FW):Bytes:=
 bif qg d then((((aQ [hY d.1,hY d.2.1]++cy d.2.2.1)++gz d.2.2.2.1)++cy d.2.2.2.2.1)++cy d.2.2.2.2.2)++gz 0 else []
theorem aoh (d:FW):wk d=some (kz d):=by have h1:=bT d.2.2.1;have h2:=dU d.2.2.2.1;have h3:=bT d.2.2.2.2.1;have h4:=bT d.2.2.2.2.2;have h5:=dU 0;have h0:(aQ [hY d.1,hY d.2.1]).length=2:=rfl;unfold wk kz;rw[ama,ab];cases qg d;rfl;simp only[aj,af,ah,qH,oq,ab];rw[aX,aX (by simp only[ai];omega),aX (by simp only[ai];omega),aX (by simp only[ai];omega),aX (by simp only[ai];omega)]
theorem WZ (d:FW):nr d=some (kz d):=by have h1:=bT d.2.2.1;have h2:=dU d.2.2.2.1;have h3:=bT d.2.2.2.2.1;have h4:=bT d.2.2.2.2.2;have h5:=dU 0;have h0:(aQ [hY d.1,hY d.2.1]).length=2:=rfl;unfold nr kz;rw[ZA,ab];cases qg d;rfl;simp only[aj,af,ah,mF,wJ,ab];rw[aX,aX (by simp only[ai];omega),aX (by simp only[ai];omega),aX (by simp only[ai];omega),aX (by simp only[ai];omega)]
def nG (r:lZ):Int:=bif dH r then ar (r.2.1-bS r) else 0
def mh (r:lZ)(c:Int):Int:=bif !dH r||decide (c<0) then-1 else r.1+tmod c r.2.1*16
theorem mZ (h:dH r=true):0<=r.1/\r.1<=130944/\(r.2.1=2\/r.2.1=4\/r.2.1=8\/r.2.1=16)/\0<=r.2.2.1/\r.2.2.1<=2*r.2.1-1/\0<=r.2.2.2/\r.2.2.2<=2*r.2.1-1:=by simp only[dH,ae,aU]at h;exact⟨h.1.1,h.1.2,iG.1 h.2.1,h.2.2.1.1,h.2.2.1.2,h.2.2.2.1.1,h.2.2.2.1.2⟩
theorem Hr (r:lZ)(c:Int): -1<=mh r c/\mh r c<=200000:=by
 unfold mh;cases hc: !dH r||decide (c<0)with
 |true=>exact⟨cU _,by simp⟩
 |false=>
  simp only[cA,eF,df]at hc;have h:=mZ hc.1;have h2:0<=tmod c r.2.1/\tmod c r.2.1<r.2.1:=by rw[dR (by omega)];exact⟨fV _ (by omega),fY _ (by omega)⟩
  simp only[af];omega
def dg (l:aw aI)(m:bO)(d:Int)(r:lZ)(s:Bytes):bO×lZ×Bool:=
 bif (nG r==0)||((s.length:Int) !=16) then(m,r,false) else
 bif !(hH l m d (mh r r.2.2.2) s true).2 then(m,r,false) else
 ((hH l m d (mh r r.2.2.2) s true).1,(r.1,r.2.1,r.2.2.1,tmod (r.2.2.2+1) (2*r.2.1)),true)
theorem M0 {a:Int}{w:Bool}(h:(hH l m d a s w).2=false):(hH l m d a s w).1=m:=by unfold hH at h⊢;cases hr:(lb l m d a (s.length:Int) w).2 with|false=>rfl|true=>rw[hr]at h;cases h
theorem Nd (r:lZ):vM r=some (nG r):=by unfold vM nG;rw[Sa,ab];cases dH r;rfl;simp only[aj,af,ah,abc,ab]
theorem aiN (r:lZ)(c:Int):uE r c=some (mh r c):=by
 have uX:=Hr r c;unfold uE;rw[Sa,ab];unfold mh at uX⊢;cases hb:dH r;rfl;have h:=mZ hb;by_cases hc:c<0;rw[ax hc];rfl;rw[hb,aq hc]at uX;rw[aq hc];have h2:0<=tmod c r.2.1/\tmod c r.2.1<r.2.1:=by rw[dR (by omega)];exact⟨fV _ (by omega),fY _ (by omega)⟩
 simp only[aj,af,ab,cu]at uX⊢;rw[lI,ak (n:=16*tmod c r.2.1),ak];congr 1;omega
theorem aa9 (l:aw aI)(m:bO)(d:Int)(r:lZ)(s:Bytes)(hl:l.length<=10^9)(hm:m.length<=10^9):BO l m d r s=some (dg l m d r s):=by
 have hA:=Hr r r.2.2.2;unfold BO dg;simp only[Nd,ab,aiN,LA l m d _ s hl hm (show mh r r.2.2.2<=9223372036854775807 by omega),Ft m (show m.length<=1073741824 by omega)];cases hf:nG r==0;case true=>rfl
 cases (s.length:Int) !=16;case true=>rfl
 have hb:dH r=true:=by cases hb:dH r with|true=>rfl|false=>unfold nG at hf;rw[hb]at hf;cases hf
 have h:=mZ hb;simp only[af,ab,cu];cases hp:(hH l m d (mh r r.2.2.2) s true).2 with|false=>simp only[bE,ah,M0 hp]|true=>simp only[aj,af];rw[ak (n:=2*r.2.1),lI,ak (n:=r.2.2.2+1)]
theorem Ut (r:lZ):vx r=some (nG r):=by unfold vx nG;rw[Ar,ab];cases dH r;rfl;simp only[aj,af,ah,CG,ab]
theorem Uy (r:lZ)(c:Int):px r c=some (mh r c):=by
 have uX:=Hr r c;unfold px;rw[Ar,ab];unfold mh at uX⊢;cases hb:dH r;rfl;have h:=mZ hb;by_cases hc:c<0;rw[ax hc];rfl;rw[hb,aq hc]at uX;rw[aq hc];have h2:0<=tmod c r.2.1/\tmod c r.2.1<r.2.1:=by rw[dR (by omega)];exact⟨fV _ (by omega),fY _ (by omega)⟩
 simp only[aj,af,ab,cu]at uX⊢;rw[lI,ak (n:=tmod c r.2.1*16),ak]
theorem NP (l:aw aI)(m:bO)(d:Int)(r:lZ)(s:Bytes)(hl:l.length<=10^9)(hm:m.length<=10^9):xQ l m d r s=some (dg l m d r s):=by
 have hA:=Hr r r.2.2.2;unfold xQ dg;simp only[Ut,ab,Uy,Fj l m d _ s hl hm (show mh r r.2.2.2<=9223372036854775807 by omega),hZ m (show m.length<=1073741824 by omega)];cases hf:nG r==0;case true=>rfl
 cases (s.length:Int) !=16;case true=>rfl
 have hb:dH r=true:=by cases hb:dH r with|true=>rfl|false=>unfold nG at hf;rw[hb]at hf;cases hf
 have h:=mZ hb;simp only[af,ab,cu];cases hp:(hH l m d (mh r r.2.2.2) s true).2 with|false=>simp only[bE,ah,M0 hp]|true=>simp only[aj,af];rw[ak (n:=2*r.2.1),lI,ak (n:=r.2.2.2+1)]
theorem BH {p:dD}(h:dI p=true):0<=p.1/\p.1<=130944/\1<=p.2.1/\p.2.1<=512/\0<=p.2.2.1/\p.2.2.1<=16:=by simp only[dI,ae,aU]at h;exact⟨h.1.1,h.1.2,h.2.1.1,h.2.1.2,h.2.2.1.1,h.2.2.1.2⟩
def oy (p:dD)(i:Int):Int:=bif !dI p|| !di i 0 (p.2.2.1-1) then-1 else p.1+i*p.2.1
theorem aeR {p:dD}{i:Int}(hp:dI p=true)(hi:di i 0 (p.2.2.1-1)=true):ar (p.1+ar (i*p.2.1))=p.1+i*p.2.1:=by have h:=BH hp;have h2:=aU.1 hi;have h3:0<=i*p.2.1:=Int.mul_nonneg h2.1 (by omega);have h4:i*p.2.1<=16*512:=Int.mul_le_mul (by omega) (by omega) (by omega) (by omega);rw[ak (n:=i*p.2.1),ak]
theorem al9 (p:dD)(i:Int)(h:p.2.2.2.length<=10^9):qI p i=some (oy p i):=by unfold qI oy;rw[LC p h,ab];cases hp:dI p;rfl;have uX:=BH hp;rw[ak (n:=p.2.2.1-1),dV];cases hi:di i 0 (p.2.2.1-1);rfl;simp only[aj,af,ab,cu,aeR hp hi]
theorem KL (p:dD)(i:Int)(h:p.2.2.2.length<=10^9):gW p i=some (oy p i):=by unfold gW oy;rw[xC p h,ab];cases hp:dI p;rfl;have uX:=BH hp;rw[ak (n:=p.2.2.1-1),cx];cases hi:di i 0 (p.2.2.1-1);rfl;simp only[aj,af,ab,cu,aeR hp hi]
def upto (n:Nat):cc:=(List.range n).map Int.ofNat
theorem Vv (n:Nat):upto (n+1)=upto n++[(n:Int)]:=by simp[upto,iz]
theorem amS (h:i<n):(upto n).getD i 0=(i:Int):=by rw[cB (by simpa[upto]using h)];simp[upto]
theorem ad9 (a b:Int)(n:Nat)(hn:n<=16):dI (a,b,(n:Int),upto n)=dI (a,b,(n:Int),[]):=by
 unfold dI;congr 3;have h1:(List.range (upto n).length).all (Ev (n:Int) (upto n))=true:=by
  rw[aF];intro i hi;have hi:i<n:=by simpa[upto]using hi
  simp only[Ev,amS hi,ae,aU,aO];refine⟨by omega,?_⟩;rw[Bool.eq_false_iff,ne_eq,List.contains_iff_mem];intro hm;simp only[upto,<-List.map_take,dB]at hm;obtain⟨j,hj,he⟩:=hm;rw[List.take_range]at hj;have:=bG.1 hj;have:(j:Int)=(i:Int):=he;omega
 rw[h1];rfl
def gK (a b n:Int):dD×Bool:=bif dI (a,b,n,[]) then((a,b,n,upto n.toNat),true) else((0,0,0,[]),false)
theorem NN (a b n:Int):xN a b n=some (gK a b n):=by
 unfold xN gK;rw[xC _ (by simp),ab];cases hp:dI (a,b,n,[]);rfl;have uX:=BH hp;obtain⟨n,rfl⟩:=aD (show 0<=n from uX.2.2.2.2.1);have Zc:n<=16:=by have:=uX.2.2.2.2.2;simp only at this;omega
 simp only[aj,af,ah,au];refine dG (λi=>((i:Int),a,b,(n:Int),upto i)) n (by omega) (λi nx hi=>?_) (λnx=>?_);simp only[vV];rw[jP,aX (by simp[upto];omega),ak,Vv];rfl;simp only[vV];rw[cL];rfl
theorem Oe (a b n:Int):yr a b n=some (gK a b n):=by
 have D7:=eX;unfold yr gK;by_cases hn:0<=n/\n<=16;obtain⟨n,rfl⟩:=aD hn.1;have Zc:n<=16:=by omega
 refine dG (λi=>((i:Int),a,b,(n:Int),upto i)) n (by omega) (λi nx hi=>?_) (λnx=>?_);simp only[ri];rw[ax (show(i:Int)<n by omega),ax (show(n:Int)<=16 by omega)];simp only[ah,ab];rw[aX (by simp[upto];omega),ak,Vv];rfl;simp only[ri];rw[aq (show¬(n:Int)<n by omega)];simp only[af,ab,LC (a,b,(n:Int),upto n) (show(upto n).length<=10^9 by simp[upto];omega),ad9 a b n Zc,au];cases dI (a,b,(n:Int),[])<;>rfl;have hb:dI (a,b,n,[])=false:=by cases hp:dI (a,b,n,[])with|false=>rfl|true=>have:=BH hp;exact absurd ⟨this.2.2.2.2.1,this.2.2.2.2.2⟩ hn
 obtain⟨f,hf⟩:∃f,fuel=f+1:=⟨fuel-1,by omega⟩
 rw[hf,bj];simp only[ri];have hc:(cond (decide ((0:Int)<n)) (some (decide (n<=16))) (some false))=some false:=by by_cases h0:(0:Int)<n;rw[ax h0,cL];rfl;rw[aq h0];rfl
 rw[hc];simp only[ab,af,LC (a,b,n,[]) (show([]:cc).length<=10^9 by simp),hb];rfl
def fJ (p:dD)(b:Int):Bytes:=kz (3,0,p.2.1,oy p b,0,b)
def kK (l:aw aI)(d:Int)(p:dD):cc->bO->lZ->Nat×bO×lZ
 |[],m,r=>(0,m,r)
 |b::q,m,r=>bif (dg l m d r (fJ p b)).2.2 then
   ((kK l d p q (dg l m d r (fJ p b)).1 (dg l m d r (fJ p b)).2.1).1+1,(kK l d p q (dg l m d r (fJ p b)).1 (dg l m d r (fJ p b)).2.1).2)
  else(0,m,r)
theorem yl (l:aw aI)(m:bO)(d:Int)(r:lZ)(s:Bytes):(dg l m d r s).1.length=m.length:=by
 unfold dg;cases (nG r==0)||((s.length:Int) !=16);case true=>rfl
 cases (hH l m d (mh r r.2.2.2) s true).2 with|false=>rfl|true=>exact lG ..
theorem Mg (l:aw aI)(d:Int)(p:dD):∀(q:cc)(m:bO)(r:lZ),(kK l d p q m r).2.1.length=m.length/\(kK l d p q m r).1<=q.length
 |[],m,r=>⟨rfl,bc _⟩
 |b::q,m,r=>by rw[kK];cases (dg l m d r (fJ p b)).2.2 with|false=>exact⟨rfl,cd _⟩|true=>have:=Mg l d p q (dg l m d r (fJ p b)).1 (dg l m d r (fJ p b)).2.1;simp only[ah,aP];exact⟨by rw[this.1,yl],by omega⟩
theorem akt (r:lZ):0<=nG r:=by
 unfold nG;cases hb:dH r with
 |false=>exact cU _
 |true=>
  have h:=mZ hb;simp only[dH,ae,aJ]at hb;have hu:=hb.2.2.2.2;have h0:0<=bS r:=by unfold bS;split;exact fV _ (by omega);exact cU _
  simp only[ah];rw[ak];omega
theorem Xq (h:¬nG r>0):dg l m d r s=(m,r,false):=by
 have h0:=akt r;have:nG r=0:=by omega
 unfold dg;rw[this];rfl
theorem KN (K:Int->Int->lZ->bO->aB R)(K':Nat->lZ->bO->aB R)(hK:∀(c:Nat) i r m,K (c:Int) i r m=K' c r m)(l:aw aI)(d:Int)(p p2 p3:dD)(hp:p.2.2.2.length<=10^9)(hl:l.length<=10^9):∀(rest pre:cc)(m:bO)(r:lZ)(f:Nat),rest.length<f->pre.length+rest.length<=10^9->m.length<=10^9->
 bj (ph K l d (pre++rest) ((pre++rest).length:Int) p ([]:bO) (0,0,0,0) p2 p3) f ((pre.length:Int),(pre.length:Int),r,m)=K' (pre.length+(kK l d p rest m r).1) (kK l d p rest m r).2.2 (kK l d p rest m r).2.1
 |rest,pre,m,r,0,hf,_,_=>by omega
 |[],pre,m,r,f+1,_,_,_=>by rw[bj];simp only[ph];rw[aq (by simp),af,hK];rfl
 |b::q,pre,m,r,f+1,hf,hn,hm=>by
  simp only[aP]at hf hn;have hi:pre.length<(pre++b::q).length:=by simp
  have hb:(pre++b::q)[pre.length]=b:=by simp
  rw[bj];simp only[ph];rw[ax (by simp;omega),bB hi,hb];simp only[ah,ab,KL p b hp,WZ,NP l m d r _ hl hm];rw[show kz (3,0,p.2.1,oy p b,0,b)=fJ p b from rfl,kK];cases hq:(dg l m d r (fJ p b)).2.2 with
  |false=>simp only[bE,ah,af,hK,dX]
  |true=>
   simp only[aj,af,ah];rw[ak (n:=(pre.length:Int)+1)];have key:=KN K K' hK l d p p2 p3 hp hl q (pre++[b]) (dg l m d r (fJ p b)).1 (dg l m d r (fJ p b)).2.1 f (by omega) (by simp;omega) (by rw[yl];exact hm);have el:((pre++[b]).length:Int)=(pre.length:Int)+1:=by simp
   have el2:(pre++[b]).length=pre.length+1:=by simp
   rw[aR,gC,el,el2]at key;rw[show pre.length+((kK l d p q (dg l m d r (fJ p b)).1 (dg l m d r (fJ p b)).2.1).1+1)=pre.length+1+(kK l d p q (dg l m d r (fJ p b)).1 (dg l m d r (fJ p b)).2.1).1 by omega];exact key
theorem LB (K:Int->lZ->bO->dD->aB R)(l:aw aI)(d:Int)(p p2:dD)(hp:p.2.2.2.length<=10^9)(hl:l.length<=10^9)(A B C:Int):∀(rest:cc)(c:Nat)(m:bO)(r:lZ)(f:Nat),rest.length<f->c+rest.length<=10^9->m.length<=10^9->
 bj (pP K l d p ([]:bO) (0,0,0,0) p2) f ((c:Int),r,m,A,B,C,rest)=K ((c+(kK l d p rest m r).1:Nat):Int) (kK l d p rest m r).2.2 (kK l d p rest m r).2.1 (A,B,C,rest.drop (kK l d p rest m r).1)
 |rest,c,m,r,0,hf,_,_=>by omega
 |[],c,m,r,f+1,_,_,_=>by
  rw[bj];simp only[pP,Nd,ab];have hc:(cond (decide (nG r>0)) (some (decide ((([]:cc).length:Int)>0))) (some false))=some false:=by cases decide (nG r>0)<;>rfl
  rw[hc];rfl
 |b::q,c,m,r,f+1,hf,hn,hm=>by
  simp only[aP]at hf hn;rw[bj];simp only[pP,Nd,ab];by_cases hr:nG r>0;rw[ax hr,ax (show(((b::q).length:Nat):Int)>0 by simp)];have hi:idx (b::q) 0=some b:=rfl;have hs:sub (b::q) 1 ((b::q).length:Int)=some q:=by unfold sub;rw[aH (by simp;omega)];simp
  simp only[ah,ab,hi,al9 p b hp,aoh,aa9 l m d r _ hl hm];rw[show kz (3,0,p.2.1,oy p b,0,b)=fJ p b from rfl,kK];cases hq:(dg l m d r (fJ p b)).2.2 with|false=>rfl|true=>simp only[aj,af,ah,hs,ab];rw[mP,ak (n:=(c:Int)+1),cv];have key:=LB K l d p p2 hp hl A B C q (c+1) (dg l m d r (fJ p b)).1 (dg l m d r (fJ p b)).2.1 f (by omega) (by omega) (by rw[yl];exact hm);rw[show((c+1:Nat):Int)=(c:Int)+1 by omega]at key;refine Eq.trans key ?_;rw[show c+1+(kK l d p q (dg l m d r (fJ p b)).1 (dg l m d r (fJ p b)).2.1).1=c+((kK l d p q (dg l m d r (fJ p b)).1 (dg l m d r (fJ p b)).2.1).1+1) by omega];rfl
  rw[aq hr,kK,Xq hr];rfl
def oX (l:aw aI)(m:bO)(d:Int)(r:lZ)(p:dD):bO×lZ×dD×Int:=
 bif !dH r|| !dI p then(m,r,p,0) else
 ((kK l d p p.2.2.2 m r).2.1,(kK l d p p.2.2.2 m r).2.2,(p.1,p.2.1,p.2.2.1,p.2.2.2.drop (kK l d p p.2.2.2 m r).1),((kK l d p p.2.2.2 m r).1:Int))
theorem ZC (l:aw aI)(m:bO)(d:Int)(r:lZ)(p:dD)(hl:l.length<=10^9)(hm:m.length<=10^9)(hp:p.2.2.2.length<=10^9):ju l m d r p=some (oX l m d r p):=by have D7:=eX;unfold ju oX;simp only[hZ m (show m.length<=1073741824 by omega),wR p hp,Ar,xC p hp,ab];cases dH r;rfl;cases dI p;rfl;simp only[aj,af,ab,cu];have hlen:=(Mg l d p p.2.2.2 m r).2;refine(KN _ (λc r m=>aa (sub p.2.2.2 (c:Int) (p.2.2.2.length:Int)) λPv=>aa (gT Pv) λCk=>some (m,r,(p.1,p.2.1,p.2.2.1,Ck),(c:Int))) (λ_ _ _ _=>rfl) l d p _ p hp hl p.2.2.2 [] m r fuel (by omega) (by simp;omega) hm).trans ?_;rw[dZ,cE,XM _ _ _ hlen (bc _),ab,ca (by rw[aM];exact bc _),md _ (by rw[aM];omega)];rfl
theorem amb (l:aw aI)(m:bO)(d:Int)(r:lZ)(p:dD)(hl:l.length<=10^9)(hm:m.length<=10^9)(hp:p.2.2.2.length<=10^9):Ab l m d r p=some (oX l m d r p):=by have D7:=eX;unfold Ab oX;simp only[Ft m (show m.length<=1073741824 by omega),adz p hp,Sa,LC p hp,ab];cases dH r;rfl;cases dI p;rfl;simp only[aj,af,ab,cu];refine(LB _ l d p _ hp hl p.1 p.2.1 p.2.2.1 p.2.2.2 0 m r fuel (by omega) (by omega) hm).trans ?_;rw[cE]
def kv (p:dD)(n:Int):dD×cc×Bool:=bif dI p&&di n 0 (p.2.2.2.length:Int) then((p.1,p.2.1,p.2.2.1,p.2.2.2.drop n.toNat),p.2.2.2.take n.toNat,true) else(p,[],false)
theorem ahu (p:dD)(n:Int)(h:p.2.2.2.length<=10^9):uk p n=some (kv p n):=by unfold uk kv;rw[wR p h,ab,xC p h,ab,cx];cases dI p;rfl;cases hi:di n 0 (p.2.2.2.length:Int);rfl;have hn:=aU.1 hi;obtain⟨n,rfl⟩:=aD hn.1;simp only[aj,af,ab,cq,ah,au];rw[LN _ n (by omega),ab,md _ (by simp;omega),ab,show sub p.2.2.2 0 (n:Int)=some (p.2.2.2.take n) from by rw[FI (by omega) hn.2,au],ab,md _ (by simp;omega),ab]
theorem Gr:∀l:aw qc,(∀x∈l,0<=x.2.1/\x.2.1<=16)->0<=eS l/\eS l<=16*(l.length:Int)
 |[],_=>by simp[eS]
 |y::l,h=>by have h1:=Gr l (λx hx=>h x (fB _ hx));have h2:=h y (List.mem_cons_self ..);simp only[eS,dm,gu,aP]at h1⊢;omega
theorem ab4 (l:aw qc)(i:Nat)(hi:i<l.length):eS (l.take (i+1))=eS (l.take i)+l[i].2.1:=by rw[bl hi];simp only[eS,cZ,List.sum_append,dm,List.map_nil,gu,List.sum_nil,Int.add_zero]
theorem ahp (t:eR)(h:t.2.2.1.length<=1000000)(hs:∀x∈t.2.2.1,0<=x.2.1/\x.2.1<=16):sD t=some (eS t.2.2.1):=by
 have D7:=eX;unfold sD;refine dG (λi=>(eS (t.2.2.1.take i),(i:Int))) t.2.2.1.length (by omega) (λi nx hi=>?_) (λnx=>?_);have hb:=Gr (t.2.2.1.take i) (λx hx=>hs x (List.mem_of_mem_take hx));have hc:=hs _ (aK hi);have hl:(t.2.2.1.take i).length<=1000000:=by rw[aV];omega
 rw[ab4 _ _ hi];simp only[nS];rw[jP,ah,bB hi,ab,ak (n:=(i:Int)+1),ak];rfl;simp only[nS];rw[cL,af,cO]
def qE (l:aw aI)(d:Int):bO->bO->lZ->aB (bO×lZ)
 |[],m,r=>some (m,r)
 |s::q,m,r=>bif (dg l m d r s).2.2 then qE l d q (dg l m d r s).1 (dg l m d r s).2.1 else none
def apa (m:bO)(r:lZ):aB (bO×lZ)->bO×lZ×Bool
 |some x=>(x.1,x.2,true)
 |none=>(m,r,false)
def uy (l:aw aI)(m:bO)(d:Int)(r:lZ)(q:bO):bO×lZ×Bool:=apa m r (qE l d q m r)
theorem N4 (l:aw aI)(d:Int):∀(q:bO)(m:bO)(r:lZ){x},qE l d q m r=some x->x.1.length=m.length
 |[],m,r,x,h=>by cases h;rfl
 |s::q,m,r,x,h=>by rw[qE]at h;cases hq:(dg l m d r s).2.2 with|false=>rw[hq]at h;cases h|true=>rw[hq]at h;exact(N4 l d q _ _ h).trans (yl ..)
theorem GX (l:aw aI)(d:Int)(M:bO)(A B2:lZ)(B1:bO)(hl:l.length<=10^9)(hM:M.length<=10^9):∀(rest pre:bO)(m:bO)(r:lZ)(f:Nat),rest.length<f->(pre++rest).length<=10^9->m.length<=10^9->
 bj (mJ (λ_ y6 y7=>some (y6,y7,true)) (λy8 _ Em Da _ _=>some (Em,Da,y8)) l d false (pre++rest) ((pre++rest).length:Int) M A B1 B2) f ((pre.length:Int),m,r)=some (apa M A (qE l d rest m r))
 |rest,pre,m,r,0,hf,_,_=>by omega
 |[],pre,m,r,f+1,_,_,_=>by rw[bj];simp only[mJ];rw[aq (by simp),af];rfl
 |s::q,pre,m,r,f+1,hf,hn,hm=>by
  simp only[aP,ai]at hf hn;have hi:pre.length<(pre++s::q).length:=by simp
  have hb:(pre++s::q)[pre.length]=s:=by simp
  rw[bj];simp only[mJ];rw[ax (by simp;omega),bB hi,hb];simp only[ah,ab,NP l m d r _ hl hm];rw[qE];cases hq:(dg l m d r s).2.2 with
  |false=>simp only[bE,ah,af,hZ M,ab];rfl
  |true=>
   simp only[aj,af,ah];rw[ak (n:=(pre.length:Int)+1)];have key:=GX l d M A B2 B1 hl hM q (pre++[s]) (dg l m d r s).1 (dg l m d r s).2.1 f (by omega) (by simp;omega) (by rw[yl];exact hm);have el:((pre++[s]).length:Int)=(pre.length:Int)+1:=by simp
   rw[aR,gC,el]at key;exact key
theorem adl (l:aw aI)(m:bO)(d:Int)(r:lZ)(q:bO)(hl:l.length<=10^9)(hm:m.length<=10^9)(hq:q.length<=10^9):lp l m d r q=some (uy l m d r q):=by have D7:=eX;unfold lp uy;rw[hZ m,ab];exact GX l d m r _ _ hl hm q [] m r fuel (by omega) (by simpa using hq) hm
theorem RB (l:aw aI)(m:bO)(d:Int)(w:Bool):∀(n a r:Nat)(q:aw (Int×Int)),lT l m d w n a r=some q->q.length<=n
 |0,a,r,q,h=>by simp only[lT,bu]at h;subst h;simp
 |n+1,a,r,q,h=>by simp only[lT]at h;split at h;simp only[bu]at h;subst h;simp;split at h;simp only[Option.map_eq_some_iff]at h;obtain⟨q',h1,rfl⟩:=h;have:=RB l m d w n _ _ q' h1;simp only[aP];omega;cases h
theorem Na (l:aw aI)(m:bO)(d a n:Int)(w:Bool):(lb l m d a n w).1.length<=4096:=by
 unfold lb;cases hB:gG l&&(dq m&&di n 0 4096);simp;simp only[ae,aU]at hB;simp only[ah];cases n==0;case true=>simp
 cases decide (a<0);case true=>simp
 simp only[af];split;rename_i q hq;have:=RB _ _ _ _ _ _ _ _ hq;show q.length<=4096;omega;simp
def pJ (m:bO)(p:Int×Int):Bytes:=bif ir m p.1 p.2 then DN m p.1.toNat p.2.toNat else []
theorem I3 (m:bO)(p:Int×Int):(pJ m p).length<=8192:=by unfold pJ;cases h:ir m p.1 p.2 with|false=>simp|true=>simp only[ir,ae,aJ]at h;have:=alT m p.1.toNat p.2.toNat;have:=(mem_iff.1 h.1).2;simp only[ah];omega
theorem yn (m:bO):∀q:aw (Int×Int),(q.flatMap (pJ m)).length<=8192*q.length
 |[]=>by simp
 |p::q=>by have:=yn m q;have:=I3 m p;simp only[List.flatMap_cons,ai,aP];omega
def qS (l:aw aI)(m:bO)(d a n:Int):Bytes×Bool:=
 bif (lb l m d a n false).2 then((lb l m d a n false).1.flatMap (pJ m),true) else([],false)
theorem Wx {β:Type}(g:α->aw β)(l:aw α)(i:Nat)(hi:i<l.length):(l.take (i+1)).flatMap g=(l.take i).flatMap g++g l[i]:=by rw[bl hi,List.flatMap_append];simp
theorem DE (l:aw aI)(m:bO)(d a n:Int)(hl:l.length<=10^9)(hm:m.length<=10^9)(ha:a<=9223372036854775807):qm l m d a n=some (qS l m d a n):=by
 unfold qm qS;rw[ZJ l m d a n false hl hm ha,ab];have hL:=Na l m d a n false;generalize lb l m d a n false=r at hL⊢;cases hr:r.2;rfl;simp only[aj,af,ah];refine(dG (λi=>((r.1.take i).flatMap (pJ m),(i:Int))) r.1.length (by omega) (λi nx hi=>?_) (λnx=>?_));simp only[vT];rw[jP,bB hi,ak];have e:qZ m r.1[i].1 r.1[i].2=some (pJ m r.1[i],ir m r.1[i].1 r.1[i].2):=by rw[ak8 m _ _ hm,pJ];cases ir m r.1[i].1 r.1[i].2<;>rfl
 have h1:=yn m (r.1.take i);have h2:=I3 m r.1[i];simp only[ah,ab,e];rw[aX (by rw[aV]at h1;omega),<-Wx];rfl;simp only[vT];rw[cL,cO];rfl
theorem P7 (l:aw aI)(m:bO)(d a n:Int):(qS l m d a n).1.length<=100000000:=by have hL:=Na l m d a n false;have h1:=yn m (lb l m d a n false).1;unfold qS;cases (lb l m d a n false).2 with|false=>simp|true=>simp only[ah];omega
def tR (s:Bytes):Iv×Int×Bool:=
 bif ((s.length:Int) !=16)||decide (fj s 12>1) then((0,0,0,0,0),0,false) else((dA s 0,dA s 2,dA s 4,dA s 6,fj s 8),fj s 12,true)
theorem ada (s:Bytes)(h:s.length<=10^9):mR s=some (tR s):=by
 unfold mR tR;cases (s.length:Int) !=16;case true=>rfl
 simp only[yR s _ h,yS s _ h,ab,af,cJ];cases decide (fj s 12>1)<;>rfl
def Bd (q:uW):Int:=bif decide (q.2.2<q.2.1) then 1 else 0
theorem Uv (q:uW):ya q=some (Bd q):=by unfold ya Bd;cases decide (q.2.2<q.2.1)<;>rfl
theorem ym {q:uW}(h:gL q=true):0<=q.1/\q.1<=130944/\(q.2.1=2\/q.2.1=4\/q.2.1=8\/q.2.1=16)/\0<=q.2.2/\q.2.2<=2*q.2.1-1:=by simp only[gL,ae,aU]at h;obtain⟨h1,h2,h3⟩:=h;rw[yY h2]at h3;exact⟨h1.1,h1.2,iG.1 h2,h3⟩
def tD (q:uW):Int:=q.1+tmod q.2.2 q.2.1*16
theorem XQ {a:Int}(h:0<=a:=by omega)(hb:0<b:=by omega):0<=tmod a b/\tmod a b<b:=by rw[dR h];exact⟨fV _ (by omega),fY _ hb⟩
theorem XC {q:uW}(h:gL q=true):0<=tmod q.2.2 q.2.1/\tmod q.2.2 q.2.1<16:=by obtain⟨_,_,h3,h4,h5⟩:=ym h;have:=XQ h4 (show 0<q.2.1 by omega);omega
theorem Uz (q:uW)(h:gL q=true):pC q=some (tD q):=by obtain⟨h1,h2,h3,h4,h5⟩:=ym h;have:=XC h;unfold pC tD;rw[lI,ak (n:=tmod q.2.2 q.2.1*16),ak]
def alA (q:uW):uW:=(q.1,q.2.1,tmod (q.2.2+1) (2*q.2.1))
def Lh (l:aw aI)(m:bO)(d:Int)(q:uW):Bool:=
 gL q&&((qS l m d (tD q) 16).2&&((tR (qS l m d (tD q) 16).1).2.2&&((tR (qS l m d (tD q) 16).1).2.1==Bd q)))
def nf (l:aw aI)(m:bO)(d:Int)(q:uW):Iv×uW×Bool:=
 bif Lh l m d q then((tR (qS l m d (tD q) 16).1).1,alA q,true) else((0,0,0,0,0),q,false)
theorem ZE (l:aw aI)(m:bO)(d:Int)(q:uW)(hl:l.length<=10^9)(hm:m.length<=10^9):lD l m d q=some (nf l m d q):=by unfold lD nf Lh;rw[Mu q,ab];cases hq:gL q;rfl;obtain⟨h1,h2,h3,h4,h5⟩:=ym hq;have hs:=XC hq;have hd:=P7 l m d (tD q) 16;simp only[aj,af,Uz q hq,ab,DE l m d (tD q) 16 hl hm (by unfold tD;omega),bt];cases (qS l m d (tD q) 16).2;rfl;simp only[aj,af,ada _ (bq hd (by omega)),ab,bt];cases (tR (qS l m d (tD q) 16).1).2.2;rfl;simp only[aj,af,Uv,ab,bt,bne];cases (tR (qS l m d (tD q) 16).1).2.1==Bd q;rfl;simp only[aj,af,ah];rw[ak (n:=2*q.2.1),lI,ak (n:=q.2.2+1)];rfl
def HW (l:aw aI)(m:bO)(d:Int)(r:bL):Bool:=Gj r&&(nf l m d r.2.2.1).2.2
theorem adg (l:aw aI)(m:bO)(d:Int)(r:bL)(hl:l.length<=10^9)(hm:m.length<=10^9):qo l m d r=some (HW l m d r):=by simp only[qo,Q4,ZE l m d _ hl hm,ab,HW];cases Gj r<;>rfl
theorem ang (p:dD)(i:Int):oy p i= -1\/(0<=oy p i/\oy p i<=200000):=by unfold oy;cases hp:dI p;exact .inl rfl;cases hi:di i 0 (p.2.2.1-1);exact .inl rfl;have h:=BH hp;have h2:=aU.1 hi;have h3:0<=i*p.2.1:=Int.mul_nonneg h2.1 (by omega);have h4:i*p.2.1<=16*512:=Int.mul_le_mul (by omega) (by omega) (by omega) (by omega);simp only[aj,cu,af];exact .inr (by omega)
def ap1 (l:aw aI)(m:bO)(d a n:Int):Bool:=(qS l m d a n).2&&((kR (qS l m d a n).1).2==0)
def Bk (l:aw aI)(m:bO)(d:Int)(s:aw Stream×bL×dD):aw Stream×bL×dD:=
 ((bif ap1 l m d (oy s.2.2 (nf l m d s.2.1.2.2.1).1.1) (nf l m d s.2.1.2.2.1).1.2.1 then GA s.1 (kR (qS l m d (oy s.2.2 (nf l m d s.2.1.2.2.1).1.1) (nf l m d s.2.1.2.2.1).1.2.1).1).1 else s.1),
   (s.2.1.1,s.2.1.2.1,(nf l m d s.2.1.2.2.1).2.1,s.2.1.2.2.2),(Cz s.2.2 [(nf l m d s.2.1.2.2.1).1.1]).1)
def jE (l:aw aI)(m:bO)(d:Int):Nat->aw Stream×bL×dD->Nat×(aw Stream×bL×dD)
 |0,s=>(0,s)
 |k+1,s=>bif !(nf l m d s.2.1.2.2.1).2.2 then(0,s) else((jE l m d k (Bk l m d s)).1+1,(jE l m d k (Bk l m d s)).2)
structure L4 (n:Nat) (s:List Stream×bL×dD):Prop where
 st:dC n (.sl fX) s.1
 pl:s.2.2.2.2.2.length<=n
theorem YV (p:dD)(l:cc):(Cz p l).1.2.2.2.length<=p.2.2.2.length+l.length:=by unfold Cz;cases CA p l with|false=>show p.2.2.2.length<=_;omega|true=>simp[iq]
theorem RJ {s:aw Stream×bL×dD}(h:L4 n s):L4 (n+322) (Bk l m d s):=by
 refine⟨?_,?_⟩;unfold Bk;cases ap1 l m d (oy s.2.2 (nf l m d s.2.1.2.2.1).1.1) (nf l m d s.2.1.2.2.1).1.2.1 with|false=>exact h.st.mono|true=>exact Wo h.st
 have:=YV s.2.2 [(nf l m d s.2.1.2.2.1).1.1];have h2:=h.pl;show(Cz s.2.2 [(nf l m d s.2.1.2.2.1).1.1]).1.2.2.2.length<=_;simp only[aY]at this;omega
theorem KR (K:aw Stream->Int->bL->dD->aB R)(l:aw aI)(m:bO)(d:Int)(N:Nat)(hN:N<=1000)(B1:bO)(B2:bL)(B3:dD)(hl:l.length<=10^9)(hm:m.length<=10^9):∀(k i:Nat)(s:aw Stream×bL×dD)(f:Nat),i+k=N->k<f->L4 (500000000+322*i) s->
 bj (nO K l d (N:Int) B1 B2 B3 m) f (s.1,(i:Int),s.2.1,s.2.2)=K (jE l m d k s).2.1 ((i+(jE l m d k s).1:Nat):Int) (jE l m d k s).2.2.1 (jE l m d k s).2.2.2
 |k,i,s,0,_,hf,_=>by omega
 |0,i,s,f+1,hi,hf,z=>by rw[bj];simp only[nO];rw[cL,af];rfl
 |k+1,i,s,f+1,hi,hf,z=>by have ow:dC 900000000 (.sl fX) s.1:=z.st.mono;have Gf:s.2.2.2.2.2.length<=900000000:=bq z.pl (by omega);rw[bj];simp only[nO];rw[jP];simp only[ah,ZE l m d _ hl hm,ab,jE];cases hnx:(nf l m d s.2.1.2.2.1).2.2 with|false=>rfl|true=>have key:=KR K l m d N hN B1 B2 B3 hl hm k (i+1) (Bk l m d s) f (by omega) (by omega) ((RJ z).st.mono|>λa=>⟨a,bq (RJ z).pl (by omega)⟩);rw[show i+1+(jE l m d k (Bk l m d s)).1=i+((jE l m d k (Bk l m d s)).1+1) by omega]at key;simp only[aj,af];rw[<-key];unfold Bk;generalize nf l m d s.2.1.2.2.1=c;have ha:=ang s.2.2 c.1.1;have hd:=P7 l m d (oy s.2.2 c.1.1) c.1.2.1;simp only[KL _ _ (show s.2.2.2.2.2.length<=10^9 by omega),DE l m d _ c.1.2.1 hl hm (show oy s.2.2 c.1.1<=9223372036854775807 by omega),ab,H5 _ (bq hd (by omega)),WX _ _ ow,Q0 s.2.2 [c.1.1] (show s.2.2.2.2.2.length+1<=10^9 by omega)];rw[ak (n:=(i:Int)+1),show((i+1:Nat):Int)=(i:Int)+1 by omega];unfold ap1;cases (qS l m d (oy s.2.2 c.1.1) c.1.2.1).2<;>cases (kR (qS l m d (oy s.2.2 c.1.1) c.1.2.1).1).2==0<;>rfl
theorem RI {l:aw aI}{m:bO}{d:Int}:∀(k:Nat){s:aw Stream×bL×dD}{n:Nat},L4 n s->L4 (n+322*k) (jE l m d k s).2
 |0,s,n,h=>h
 |k+1,s,n,h=>by rw[jE];cases (nf l m d s.2.1.2.2.1).2.2 with|false=>exact⟨h.st.mono,bq h.pl (by omega)⟩|true=>have:=RI (l:=l) (m:=m) (d:=d) k (RJ (l:=l) (m:=m) (d:=d) h);exact⟨this.st.mono,bq this.pl (by omega)⟩
def jc (l:aw aI)(m:bO)(d:Int)(rx:bL)(pl:dD)(st:aw Stream)(n:Int):bO×bL×dD×aw Stream×Int:=
 bif !Gj rx||(!dI pl|| !di n 0 1000) then(m,rx,pl,st,0) else
 ((oX l m d (jE l m d n.toNat (st,rx,pl)).2.2.1.1 (jE l m d n.toNat (st,rx,pl)).2.2.2).1,
   ((oX l m d (jE l m d n.toNat (st,rx,pl)).2.2.1.1 (jE l m d n.toNat (st,rx,pl)).2.2.2).2.1,(jE l m d n.toNat (st,rx,pl)).2.2.1.2),
   (oX l m d (jE l m d n.toNat (st,rx,pl)).2.2.1.1 (jE l m d n.toNat (st,rx,pl)).2.2.2).2.2.1,(jE l m d n.toNat (st,rx,pl)).2.1,((jE l m d n.toNat (st,rx,pl)).1:Int))
theorem ZH (l:aw aI)(m:bO)(d:Int)(rx:bL)(pl:dD)(st:aw Stream)(n:Int)(hl:l.length<=10^9)(hm:m.length<=10^9)(hp:pl.2.2.2.length<=500000000)(hs:dC 500000000 (.sl fX) st):xO l m d rx pl st n=some (jc l m d rx pl st n):=by
 have D7:=eX;have hsl:st.length<=500000000:=hs.1;unfold xO jc;simp only[hZ m (show m.length<=1073741824 by omega),wR pl (show pl.2.2.2.length<=10^9 by omega),Ba st,Q4,xC pl (show pl.2.2.2.length<=10^9 by omega),cx,ab];cases Gj rx;rfl;cases dI pl;rfl;cases hn:di n 0 1000;rfl;have h:=aU.1 hn;obtain⟨n,rfl⟩:=aD h.1;simp only[aj,af,ab,cu,au];have z:L4 (500000000+322*0) (st,rx,pl):=⟨hs,hp⟩
 have hz:=RI (l:=l) (m:=m) (d:=d) n z;refine(KR _ l m d n (by omega) _ _ _ hl hm n 0 (st,rx,pl) fuel (by omega) (by omega) z).trans ?_;rw[cE];simp only[ZC l m d _ _ hl hm (show(jE l m d n (st,rx,pl)).2.2.2.2.2.2.length<=10^9 from bq hz.pl (by omega)),ab]
def gR (i:Nat):Int:=1280+(i:Int)*1792
theorem aeN (h:i<=8):ar (1280+ar ((i:Int)*1792))=gR i:=by rw[ak (n:=(i:Int)*1792),ak];rfl
theorem Zw (i:Nat)(h:i<=8):tq (i:Int)=some (gR i):=by rw[tq,aeN h]
theorem qC (a b n:Int)(h:n<=1000:=by omega):(gK a b n).1.2.2.2.length<=1000:=by unfold gK;cases dI (a,b,n,[])with|false=>simp|true=>simp[upto];omega
def CX (i:Nat):bL:=((gR i,4,0,0),(gR i+64,4,0),(gR i+64,4,0),((0,0,0,0,0,0,0,0,0,0,0,0,0,0,0,([]:Bytes)),0,0),false,0)
theorem ahl (i:Nat)(h:i<=8):yU (i:Int)=some (CX i,(gK (gR i+128) 384 4).1):=by have hb:gR i=1280+(i:Int)*1792:=rfl;simp only[yU,Zw i h,ab];rw[ak (n:=gR i+128),ak (n:=gR i+64),NN];rfl
def Bm:eR:=((0,16,0,0),(gK 256 128 8).1,([]:aw qc),0)
theorem ahy:Fo=some Bm:=by rw[Fo,NN];rfl
theorem Vj:Ak=some Bm:=by rw[Ak,Oe];rfl
def kZ (l:aw aI)(m:bO)(i:Nat):bO×lZ×dD×Int:=
 oX l (hH l m 0 (gR i) (sK 128) false).1 0 (gR i,4,0,0) (gK (gR i+128) 384 4).1
def Li (h:Host)(i:Nat):Host:=
 ((kZ h.2.1 h.1 i).1,h.2.1,h.2.2.1,h.2.2.2.1.set i ((kZ h.2.1 h.1 i).2.1,(gR i+64,4,0),(gR i+64,4,0),((0,0,0,0,0,0,0,0,0,0,0,0,0,0,0,([]:Bytes)),0,0),false,(match h.2.2.2.1[i]? with|some x=>x.2.2.2.2.2|none=>0)),h.2.2.2.2.1.set i (kZ h.2.1 h.1 i).2.2.1,h.2.2.2.2.2)
theorem aa7 (h:Host)(i:Nat)(hi:i<=8)(h1:i<h.2.2.2.1.length)(h2:i<h.2.2.2.2.1.length)(hl:h.2.1.length<=10^9)(hm:h.1.length<=10^9):yB h (i:Int)=some ((),Li h i):=by have hb:gR i=1280+(i:Int)*1792:=rfl;have hz:gY 128 0=some (sK 128):=R6 128;have hf:=amb h.2.1 (hH h.2.1 h.1 0 (gR i) (sK 128) false).1 0 (gR i,4,0,0) (gK (gR i+128) 384 4).1 hl (by rw[lG];exact hm) (bq (qC (gR i+128) 384 4) (by omega));unfold yB;simp only[aeN hi];rw[ak (n:=gR i+128),ak (n:=gR i+64),Oe,hz];simp only[bB h1,bB h2,ab,Tv h.2.1 h.1 0 (gR i) (sK 128) hl hm (by omega),hf,au,Li,kZ,al h1]
def wM (h:Host)(i:Nat)(n:Int):Int×Host:=
 match h.2.2.2.1[i]?,h.2.2.2.2.1[i]? with
 |some rx,some pl=>
  ((jc h.2.1 h.1 0 rx pl h.2.2.2.2.2.2.2.2.2.1 n).2.2.2.2,(jc h.2.1 h.1 0 rx pl h.2.2.2.2.2.2.2.2.2.1 n).1,h.2.1,h.2.2.1,h.2.2.2.1.set i (jc h.2.1 h.1 0 rx pl h.2.2.2.2.2.2.2.2.2.1 n).2.1,h.2.2.2.2.1.set i (jc h.2.1 h.1 0 rx pl h.2.2.2.2.2.2.2.2.2.1 n).2.2.1,h.2.2.2.2.2.1,h.2.2.2.2.2.2.1,h.2.2.2.2.2.2.2.1,h.2.2.2.2.2.2.2.2.1,(jc h.2.1 h.1 0 rx pl h.2.2.2.2.2.2.2.2.2.1 n).2.2.2.1,h.2.2.2.2.2.2.2.2.2.2)
 |_,_=>(0,h)
theorem W4 (h:Host)(i:Nat)(n:Int)(h1:i<h.2.2.2.1.length)(h2:i<h.2.2.2.2.1.length)(z:dC 500000000 dT h):me h (i:Int) n=some (wM h i n):=by have hl:h.2.1.length<=500000000:=z.2.1.1;have hm:h.1.length<=500000000:=z.1.1;have hp:h.2.2.2.2.1[i].2.2.2.length<=500000000:=(z.2.2.2.2.1.2 _ (aK h2)).2.2.2.1;unfold me;simp only[bB h1,bB h2,ab,ZH h.2.1 h.1 0 _ _ _ n (show h.2.1.length<=10^9 by omega) (show h.1.length<=10^9 by omega) hp z.2.2.2.2.2.2.2.2.2.1,au,wM,al h1,al h2]
theorem nT {t:CT}{l:aw t.D}{x:t.D}(z:dC n (.sl t) l)(hx:dC n t x):dC n (.sl t) (l.set i x):=by refine⟨?_,λy hy=>?_⟩;show(l.set i x).length<=n;rw[az];exact z.1;rcases cK hy with h|h;exact z.2 y h;rw[h];exact hx
theorem UU (hn:128<=n)(h:Ee m):dC n (.sl .str) m:=⟨bq h.2 (by omega),λx hx=>bq (Nat.le_of_eq (h.1 x hx)) hn⟩
theorem abA (hn:128<=n)(z:dC n (.sl .str) m)(a:Int)(s:Bytes):dC n (.sl .str) (lY m a s).1:=by unfold lY;cases hw:ir m a (s.length:Int);exact z;simp only[ir,ae,aJ]at hw;exact UU hn (Ca s.length (nt.1 hw.1) (by omega)).1
theorem aaI (hn:128<=n):∀(q:aw (Int×Int)){m:bO}(s:Bytes),dC n (.sl .str) m->dC n (.sl .str) (Gi q m s)
 |[],m,s,z=>z
 |p::q,m,s,z=>aaI hn q _ (abA hn z _ _)
theorem Hh (hn:128<=n)(z:dC n (.sl .str) m)(l:aw aI)(d a:Int)(s:Bytes)(w:Bool):dC n (.sl .str) (hH l m d a s w).1:=by unfold hH;cases (lb l m d a (s.length:Int) w).2 with|false=>exact z|true=>exact aaI hn _ _ z
theorem Lr (hn:128<=n)(z:dC n (.sl .str) m)(l:aw aI)(d:Int)(r:lZ)(s:Bytes):dC n (.sl .str) (dg l m d r s).1:=by
 unfold dg;cases (nG r==0)||((s.length:Int) !=16);case true=>exact z
 cases (hH l m d (mh r r.2.2.2) s true).2 with|false=>exact z|true=>exact Hh hn z ..
theorem T1 (hn:128<=n)(l:aw aI)(d:Int)(p:dD):∀(q:cc){m:bO}(r:lZ),dC n (.sl .str) m->dC n (.sl .str) (kK l d p q m r).2.1
 |[],m,r,z=>z
 |b::q,m,r,z=>by rw[kK];cases (dg l m d r (fJ p b)).2.2 with|false=>exact z|true=>exact T1 hn l d p q _ (Lr hn z ..)
theorem T3 (hn:128<=n)(z:dC n (.sl .str) m)(l:aw aI)(d:Int)(r:lZ)(p:dD):dC n (.sl .str) (oX l m d r p).1:=by unfold oX;cases !dH r|| !dI p with|true=>exact z|false=>exact T1 hn _ _ _ _ _ z
theorem afc (l:aw aI)(m:bO)(d:Int)(r:lZ)(p:dD):(oX l m d r p).1.length=m.length:=by unfold oX;cases !dH r|| !dI p with|true=>rfl|false=>exact(Mg ..).1
theorem Jr (l:aw aI)(m:bO)(d:Int)(r:lZ)(p:dD):(oX l m d r p).2.2.1.2.2.2.length<=p.2.2.2.length:=by unfold oX;cases !dH r|| !dI p with|true=>exact bc _|false=>show(p.2.2.2.drop _).length<=_;rw[aM];omega
theorem aaB (l:aw aI)(m:bO)(d:Int):∀(k:Nat)(s:aw Stream×bL×dD),(jE l m d k s).2.2.1.2.2.2=s.2.1.2.2.2/\(jE l m d k s).1<=k
 |0,s=>⟨rfl,bc _⟩
 |k+1,s=>by rw[jE];cases (nf l m d s.2.1.2.2.1).2.2 with|false=>exact⟨rfl,cd _⟩|true=>have:=aaB l m d k (Bk l m d s);simp only[aj,af];exact⟨this.1,by omega⟩
theorem UZ (hn:128<=n){rx:bL}{pl:dD}{st:aw Stream}(c:Int)(zm:dC n (.sl .str) m)(zr:dC n fA rx)(zp:dC n lA pl)(zs:dC n (.sl fX) st): dC n (.sl .str) (jc l m d rx pl st c).1/\dC n fA (jc l m d rx pl st c).2.1/\dC (n+322000) lA (jc l m d rx pl st c).2.2.1/\dC (n+322000) (.sl fX) (jc l m d rx pl st c).2.2.2.1/\0<=(jc l m d rx pl st c).2.2.2.2/\(jc l m d rx pl st c).2.2.2.2<=1000:=by
 unfold jc;cases hc: !Gj rx||(!dI pl|| !di c 0 1000)with
 |true=>exact⟨zm,zr,zp.mono,zs.mono,cU _,by show(0:Int)<=1000;omega⟩
 |false=>
  have hi:di c 0 1000=true:=by cases h:di c 0 1000 with|true=>rfl|false=>rw[h]at hc;simp at hc
  have h:=aU.1 hi;have z:=RI (l:=l) (m:=m) (d:=d) c.toNat (s:=(st,rx,pl)) (n:=n) ⟨zs,zp.2.2.2.1⟩;have hx:=aaB l m d c.toNat (st,rx,pl);refine⟨T3 hn zm ..,⟨?_,?_,?_,?_⟩,⟨cG,cG,cG,?_,λ_ _=>trivial⟩,z.st.mono,by show(0:Int)<=((jE l m d c.toNat (st,rx,pl)).1:Int);omega,by show((jE l m d c.toNat (st,rx,pl)).1:Int)<=1000;omega⟩;exact⟨cG,cG,cG,cG⟩;exact⟨cG,cG,cG⟩;exact⟨cG,cG,cG⟩;have e:=congrArg (λq=>dC n fA (rx.1,rx.2.1,rx.2.2.1,q)) hx.1;exact(e.mpr zr).2.2.2;have:=Jr l m d (jE l m d c.toNat (st,rx,pl)).2.2.1.1 (jE l m d c.toNat (st,rx,pl)).2.2.2;have h2:=z.pl;show(oX l m d (jE l m d c.toNat (st,rx,pl)).2.2.1.1 (jE l m d c.toNat (st,rx,pl)).2.2.2).2.2.1.2.2.2.length<=_;omega
theorem ad6 (hn:128<=n)(i:Nat)(c:Int)(z:dC n dT h):dC (n+322000) dT (wM h i c).2:=by unfold wM;rcases h1:h.2.2.2.1[i]? with _|rx;exact z.mono;rcases h2:h.2.2.2.2.1[i]? with _|pl;exact z.mono;have zr:=z.2.2.2.1.2 _ (aL h1);have zp:=z.2.2.2.2.1.2 _ (aL h2);have hp:=UZ hn (l:=h.2.1) (d:=0) c z.1 zr zp z.2.2.2.2.2.2.2.2.2.1;have z':dC (n+322000) dT h:=z.mono;exact⟨hp.1.mono,z'.2.1,z'.2.2.1,nT z'.2.2.2.1 (hp.2.1.mono),nT z'.2.2.2.2.1 hp.2.2.1,z'.2.2.2.2.2.1,z'.2.2.2.2.2.2.1,z'.2.2.2.2.2.2.2.1,z'.2.2.2.2.2.2.2.2.1,hp.2.2.2.1,z'.2.2.2.2.2.2.2.2.2.2⟩
def bC (l:aw aI)(m:bO)(d:Int)(r:lZ):Bytes×lZ×Bool:=
 bif !dH r||(bS r==0) then([],r,false) else
 bif !(qS l m d (mh r r.2.2.1) 16).2 then([],r,false) else
 ((qS l m d (mh r r.2.2.1) 16).1,(r.1,r.2.1,tmod (r.2.2.1+1) (2*r.2.1),r.2.2.2),true)
theorem KX (l:aw aI)(m:bO)(d:Int)(r:lZ)(hl:l.length<=10^9)(hm:m.length<=10^9):vy l m d r=some (bC l m d r):=by
 have hA:=Hr r r.2.2.1;unfold vy bC;simp only[Ar,CG,ab,Uy,DE l m d _ 16 hl hm (show mh r r.2.2.1<=9223372036854775807 by omega)];cases hb:dH r;rfl;have h:=mZ hb;cases bS r==0;case true=>rfl
 simp only[aj,af,ab,cu];cases (qS l m d (mh r r.2.2.1) 16).2;rfl;simp only[aj,af];rw[ak (n:=2*r.2.1),lI,ak (n:=r.2.2.1+1)]
theorem Jc (l:aw aI)(m:bO)(d:Int)(r:lZ):(bC l m d r).1.length<=100000000:=by
 unfold bC;cases !dH r||(bS r==0);case true=>exact cd _
 cases (qS l m d (mh r r.2.2.1) 16).2 with|false=>exact cd _|true=>exact P7 ..
theorem Hv (h:(bC l m d r).2.2=true): dH (bC l m d r).2.1=true/\bS (bC l m d r).2.1=bS r-1/\(bC l m d r).2.1.1=r.1/\(bC l m d r).2.1.2.1=r.2.1/\(bC l m d r).2.1.2.2.2=r.2.2.2:=by
 unfold bC at h⊢;cases hb:dH r with|false=>rw[hb]at h;cases h|true=>?_
 cases hu:bS r==0 with|true=>rw[hb,hu]at h;cases h|false=>?_
 cases hd:(qS l m d (mh r r.2.2.1) 16).2 with|false=>rw[hb,hu,hd]at h;cases h|true=>?_
 simp only[aj,cu,af];have hr:=mZ hb;have hq:=hb;simp only[dH,ae,aJ]at hq;have h1:=hq.2.2.2.2;have hs:=hq.2.1;have WQ:bS r≠0:=by simpa using hu
 have e:tmod (r.2.2.1+1) (2*r.2.1)=(r.2.2.1+1)%(2*r.2.1):=dR (by omega);rw[e];unfold bS at h1 WQ⊢;simp only[hs,cw]at h1 WQ⊢;have key:(r.2.2.2-(r.2.2.1+1)%(2*r.2.1))%(2*r.2.1)=(r.2.2.2-r.2.2.1)%(2*r.2.1)-1/\0<=(r.2.2.1+1)%(2*r.2.1)/\(r.2.2.1+1)%(2*r.2.1)<=2*r.2.1-1:=by rcases hr.2.2.1 with hn|hn|hn|hn<;>rw[hn]at h1 WQ hr⊢<;>omega
 refine⟨?_,key.1,cG,cG,cG⟩;simp only[dH,bS,hs,cw,ae,aJ,aU];refine⟨by omega,cG,by omega,by omega,?_⟩;rw[key.1];omega
theorem AG (h:dH r=true):0<=bS r/\bS r<=16:=by have hr:=mZ h;have hq:=h;simp only[dH,ae,aJ]at hq;refine⟨?_,by have:=hq.2.2.2.2;omega⟩;unfold bS;rw[hq.2.1,aH rfl];exact fV _ (by omega)
def Ns:FW:=(0,0,0,0,0,0)
def E4 (s:Bytes):FW:=((cn s 0:Int),(cn s 1:Int),dA s 2,fj s 4,dA s 8,dA s 10)
def cV (s:Bytes):FW×Bool:=
 bif ((s.length:Int) !=16) then(Ns,false) else bif !(kz (E4 s)==s) then(Ns,false) else(E4 s,true)
theorem Zz (s:Bytes)(h:s.length<=10^9):qV s=some (cV s):=by
 unfold qV cV;cases hn:(s.length:Int) !=16;case true=>rfl
 have hl:s.length=16:=by
  have:((s.length:Int)==16)=true:=by simpa using hn
  have:=bA this;omega
 have b0:=vQ (s[0]'(by omega));have b1:=vQ (s[1]'(by omega));have i0:idx s 0=some (s[0]'(by omega)):=bB (i:=0) (by omega);have i1:idx s 1=some (s[1]'(by omega)):=bB (i:=1) (by omega);have e:(((s[0]'(by omega)).toNat:Int),((s[1]'(by omega)).toNat:Int),dA s 2,fj s 4,dA s 8,dA s 10)=E4 s:=by simp only[E4,cn,cB (show 0<s.length by omega),cB (show 1<s.length by omega)]
 simp only[af,i0,i1,ab,yR s _ h,yS s _ h];rw[jU (n:=(s[0]'(by omega)).toNat),jU (n:=(s[1]'(by omega)).toNat),e,WZ,ab];cases kz (E4 s)==s<;>rfl
theorem acG (h:(cV s).2=true):qg (cV s).1=true:=by
 unfold cV at h⊢;cases hn:(s.length:Int) !=16 with|true=>rw[hn]at h;cases h|false=>?_
 cases he:kz (E4 s)==s with|false=>rw[hn,he]at h;cases h|true=>?_
 simp only[af,aj];cases hd:qg (E4 s)with
 |true=>rfl
 |false=>
  have:kz (E4 s)=[]:=by unfold kz;rw[hd];rfl
  rw[this]at he;cases s with|nil=>simp at hn|cons x y=>cases he
def Is (x:FW):Bool:=bif x.1==1 then(ar (BitVec.toNat (iR x.2.1&&&iR 1))) !=0 else false
def sS (l:aw aI)(m:bO)(d:Int):Nat->aw FW->lZ->aw FW×lZ×Bool
 |0,acc,r=>(acc,r,true)
 |n+1,acc,r=>
  bif !(bC l m d r).2.2|| !(cV (bC l m d r).1).2 then([],(r.1,r.2.1,r.2.2.2,r.2.2.2),false) else
  bif Is (cV (bC l m d r).1).1 then(acc++[(cV (bC l m d r).1).1],(bC l m d r).2.1,true) else
  sS l m d n (acc++[(cV (bC l m d r).1).1]) (bC l m d r).2.1
def du (l:aw aI)(m:bO)(d:Int)(r:lZ):aw FW×lZ×Bool:=
 bif !dH r||(bS r==0) then([],r,false) else sS l m d (bS r).toNat [] r
theorem IL (k0:aw FW->lZ->aB R)(k1:aw FW->Bool->aw FW->lZ->lZ->aB R)(K:aw FW×lZ×Bool->aB R)
 (h0:∀a r,k0 a r=K (a,r,true)) (l:aw aI) (m:bO) (d:Int) (B E:lZ) (h1:∀a r,k1 [] false a r E=K ([],E,false)) (hl:l.length<=10^9) (hm:m.length<=10^9):∀(n:Nat)(acc:aw FW)(r:lZ)(f:Nat),
 n<f->dH r=true->(bS r).toNat=n->acc.length+n<=1000->E=(r.1,r.2.1,r.2.2.2,r.2.2.2)->bj (nR k0 k1 l d ([]:aw FW) false m B E) f (acc,r)=K (sS l m d n acc r)
 |n,acc,r,0,hf,_,_,_,_=>by omega
 |0,acc,r,f+1,hf,hb,hu,ha,hE=>by rw[bj];simp only[nR,CG,ab];rw[cL,af,h0];rfl
 |n+1,acc,r,f+1,hf,hb,hu,ha,hE=>by
  have hlen:=Jc l m d r;have hk:=Hv (l:=l) (m:=m) (d:=d) (r:=r);rw[bj];simp only[nR,CG,ab];rw[jP,ah,KX l m d r hl hm,ab,sS];generalize bC l m d r=t at hlen hk⊢;cases ht:t.2.2 with
  |false=>simp only[bE,ah,je,<-hE,h1]
  |true=>
   have hk:=hk ht;simp only[aj,af,cJ];rw[Zz _ (show t.1.length<=10^9 by omega),ab];generalize cV t.1=x;cases x.2 with
   |false=>simp only[bE,ah,<-hE,h1]
   |true=>
    simp only[aj,af];rw[aX (by rw[aY];omega)];have e:(aa (cond (x.1.1==1) (some ((ar (BitVec.toNat (iR x.1.2.1&&&iR 1))) !=0)) (some false)):(Bool->aB R)->aB R)=λK=>K (Is x.1):=by funext K;unfold Is;cases x.1.1==1<;>rfl
    rw[e];cases Is x.1 with|true=>simp only[ah,h0]|false=>simp only[af];exact IL k0 k1 K h0 l m d B E h1 hl hm n _ _ f (by omega) hk.1 (by omega) (by simp;omega) (by rw[hE,hk.2.2.1,hk.2.2.2.1,hk.2.2.2.2])
theorem Td (l:aw aI)(m:bO)(d:Int)(r:lZ)(hl:l.length<=10^9)(hm:m.length<=10^9):xT l m d r=some (du l m d r):=by
 have D7:=eX;unfold xT du;simp only[Ar,CG,ab];cases hb:dH r;rfl;cases bS r==0;case true=>rfl
 have hu:=AG hb;simp only[aj,af,ab,cu];exact IL _ _ (λx=>some x) (λ_ _=>rfl) l m d _ _ (λ_ _=>rfl) hl hm _ [] r fuel (by omega) hb rfl (by simp;omega) rfl
def CR (x:Int×Int):Bool:=decide (x.1<0)|| !di x.2 0 4096
def oM (l:aw (Int×Int)):Bool:= !l.any CR&&decide ((l.length:Int)<=16)
theorem ad3 (l:aw (Int×Int)):(bif l.any CR then some false else some (decide ((l.length:Int)<=16)))=some (oM l):=by unfold oM;cases l.any CR<;>rfl
theorem Q2 (l:aw (Int×Int))(h:l.length<=10^9):vw l=some (oM l):=by
 unfold vw;rw[<-ad3];refine J9 CR l (by omega) (λi hi nx=>?_) (λnx=>?_);simp only[uc];rw[jP,ah,bB hi,ab,cx,ak];unfold CR;cases decide (l[i].1<0)with|true=>rfl|false=>simp only[af,ab,cJ];rfl
 simp only[uc];rw[cL,af]
theorem MW {l:aw (Int×Int)}(h:oM l=true):l.length<=16/\∀x∈l,0<=x.1/\0<=x.2/\x.2<=4096:=by unfold oM at h;simp only[ae,aJ,aO]at h;refine⟨by omega,λx hx=>?_⟩;have:=List.any_eq_false.1 h.1 x hx;unfold CR at this;simp only[cY,aJ,aO,not_or,Bool.not_eq_false,aU]at this;omega
def dsc (n:Nat)(c:Int)(i:Nat)(x:Int×Int):FW:=(1,(if i+1=n then 1 else 0),x.2,x.1,0,c)
def oV (ps:aw (Int×Int))(c:Int):Nat->aw FW
 |0=>[]
 |i+1=>oV ps c i++[dsc ps.length c i (ps.getD i (0,0))]
theorem Es (ps:aw (Int×Int))(c:Int):∀i,(oV ps c i).length=i
 |0=>rfl
 |i+1=>by rw[oV,ai,Es ps c i];rfl
theorem Mb (ps:aw (Int×Int))(c:Int)(q:FW->Bool):∀i,(oV ps c i).all q=(List.range i).all (λj=>q (dsc ps.length c j (ps.getD j (0,0))))
 |0=>rfl
 |i+1=>by rw[oV,List.all_append,Mb ps c q i,iz,List.all_append];rfl
def kJ (ps:aw (Int×Int))(z c:Int):aw FW:=
 bif ((ps.length:Int)==0)||(!oM ps|| !di z 1 128) then [] else
 bif ([(2,0,0,0,z,c)]++oV ps c ps.length).all qg then [(2,0,0,0,z,c)]++oV ps c ps.length else []
theorem Fi (ps:aw (Int×Int))(z c:Int)(h:ps.length<=10^9:=by omega):∃b,jH ps z c=some (b,kJ ps z c)/\(b=false->kJ ps z c=[]):=by
 unfold jH kJ;rw[Q2 ps h,cx];simp only[ab];cases ((ps.length:Int)==0);case true=>exact⟨false,rfl,λ_=>rfl⟩
 cases oM ps;exact⟨false,rfl,λ_=>rfl⟩;cases di z 1 128;exact⟨false,rfl,λ_=>rfl⟩;simp only[aj,af,ab,cu];refine⟨([(2,0,0,0,z,c)]++oV ps c ps.length).all qg,?_,λhb=>by rw[hb];rfl⟩;refine dG (λi=>(([(2,0,0,0,z,c)]++oV ps c i,(i:Int)):aw FW×Int)) ps.length (by omega) (λi nx hi=>?_) (λnx=>?_);have hl:=Es ps c i;simp only[lR];rw[jP,ah,bB hi,ab,ak (n:=(ps.length:Int)-1),ak];have e:[(2,0,0,0,z,c)]++oV ps c (i+1)=([(2,0,0,0,z,c)]++oV ps c i)++[dsc ps.length c i ps[i]]:=by rw[oV,cB hi,aR]
 rw[e];unfold dsc;by_cases hc:i+1=ps.length;rw[show((i:Int)==(ps.length:Int)-1)=true from by rw[bn];omega,aH hc];simp only[ah];rw[aX (by simp only[ai,aY];omega)];rfl;rw[show((i:Int)==(ps.length:Int)-1)=false from by rw[bM];omega,aG hc];simp only[af];rw[aX (by simp only[ai,aY];omega)];rfl;simp only[lR];rw[cL,af];have hl:=Es ps c ps.length;generalize hq:[(2,0,0,0,z,c)]++oV ps c ps.length=q;have hn:q.length<=1000000001:=by rw[<-hq];simp only[ai,aY];omega
 rw[tM (fin:=some (true,q)) (hit:=some (false,[])) qg q (by omega) (λi hi nx=>?_) (λnx=>?_)];cases q.all qg<;>rfl;simp only[kX];rw[jP,ah,bB hi,ab,ZA,ab,ak];rfl;simp only[kX];rw[cL,af]
def RX (x y:FW):Bool:=(x.1==y.1)&&((x.2.1==y.2.1)&&((x.2.2.1==y.2.2.1)&&((x.2.2.2.1==y.2.2.2.1)&&((x.2.2.2.2.1==y.2.2.2.2.1)&&((x.2.2.2.2.2==y.2.2.2.2.2)&&true)))))
def Nb (a b:aw FW):Bool:=((a.length:Int)==(b.length:Int))&&(List.range a.length).all λi=>RX (a.getD i Ns) (b.getD i Ns)
def mO (l:aw FW):aw (Int×Int):=(l.drop 1).map λx=>(x.2.2.2.1,x.2.2.1)
def fN (l:aw FW):aw (Int×Int)×Int×Int×Bool:=
 match l with
 |h::x::r=>bif Nb (kJ (mO l) h.2.2.2.2.1 h.2.2.2.2.2) l then(mO l,h.2.2.2.2.1,h.2.2.2.2.2,true) else([],0,0,false)
 |_=>([],0,0,false)
theorem agE (ps:aw (Int×Int))(z c:Int):(kJ ps z c).length<=ps.length+1:=by
 unfold kJ;cases ((ps.length:Int)==0)||(!oM ps|| !di z 1 128);case true=>simp
 cases ([(2,0,0,0,z,c)]++oV ps c ps.length).all qg with|false=>simp|true=>simp only[af,ah,ai,aY,Es];omega
theorem W3 (l:aw FW)(hl:l.length<=10^9):qs l=some (fN l):=by
 unfold qs;match l,hl with
 |[],_=>rfl
 |[h],_=>rfl
 |h::y::r,hl=>
  generalize hq:y::r=q;have hq1:1<=q.length:=by rw[<-hq];simp
  have hlen:q.length+1<=10^9:=by rw[<-hq];simpa using hl
  have i0:idx (h::q) 0=some h:=rfl;have s0:sub (h::q) 1 (((h::q).length:Nat):Int)=some q:=FH (l:=h::q) 1 (by simp) (a:=1) rfl;rw[aq (by simp only[aP];omega),af,s0,ab];refine dG (λi=>(((q.take i).map (λx=>(x.2.2.2.1,x.2.2.1)),(i:Int)):aw (Int×Int)×Int)) q.length (by omega) (λi nx hi=>?_) (λnx=>?_);simp only[mT];rw[jP,ah,bB hi,ab,aX (by simp only[bF,aV,aY];omega),ak,bl hi,cZ];rfl;simp only[mT];rw[cL,af,cO];have hp:q.map (λx=>(x.2.2.2.1,x.2.2.1))=mO (h::q):=rfl;have Gf:(mO (h::q)).length=q.length:=by rw[<-hp,bF]
  rw[hp];have hdl:=agE (mO (h::q)) h.2.2.2.2.1 h.2.2.2.2.2;obtain⟨b,hd,hb⟩:=Fi (mO (h::q)) h.2.2.2.2.1 h.2.2.2.2.2;have hR:fN (h::q)=bif Nb (kJ (mO (h::q)) h.2.2.2.2.1 h.2.2.2.2.2) (h::q) then(mO (h::q),h.2.2.2.2.1,h.2.2.2.2.2,true) else([],0,0,false):=by rw[<-hq];rfl
  rw[hR];simp only[i0,ab,hd];have hlc:(((h::q).length:Nat):Int)=(q.length:Int)+1:=by simp only[aP];omega
  generalize kJ (mO (h::q)) h.2.2.2.2.1 h.2.2.2.2.2=w at hdl hb⊢
  have core:∀(K:aB (aw (Int×Int)×Int×Int×Bool))(w':aw FW),w'=w->(bif ((w'.length:Nat):Int) !=(((h::q).length:Nat):Int) then some (([]:aw (Int×Int)),(0:Int),(0:Int),false) else
   bj (iJ (λEm=>some (mO (h::q),h.2.2.2.2.1,h.2.2.2.2.2,true)) (λDa Dg E0 Cb E1=>some (Da,Dg,E0,Cb)) (h::q) (mO (h::q)) h.2.2.2.2.1 h.2.2.2.2.2 w' ((w'.length:Nat):Int)) fuel 0)=some (bif Nb w (h::q) then(mO (h::q),h.2.2.2.2.1,h.2.2.2.2.2,true) else([],0,0,false)):=by
   intro K w' e
   subst e
   unfold Nb
   cases hl:((w'.length:Int)==(((h::q).length:Nat):Int))with
   |false=>simp only[bne,hl,bE,ah,eo,af]
   |true=>
    have hn:w'.length=(h::q).length:=by have:=bA hl;omega
    simp only[bne,hl,aj,af,bt]
    rw[jG (fin:=some (mO (h::q),h.2.2.2.2.1,h.2.2.2.2.2,true)) (hit:=some ([],0,0,false)) (λi=>RX (w'.getD i Ns) ((h::q).getD i Ns)) w'.length (by omega) (λi nx hi=>?_) (λnx=>?_)]
    ·cases (List.range w'.length).all (λi=>RX (w'.getD i Ns) ((h::q).getD i Ns))<;>rfl
    ·have hi2:i<(h::q).length:=by omega
     simp only[iJ]
     rw[jP,ah,bB hi,bB hi2,ab,ab,ak,cB hi,cB hi2];rfl
    ·simp only[iJ]
     rw[cL,af]
  cases b with|true=>exact core none w rfl|false=>exact core none [] (hb rfl).symm
theorem aaA {l:aw FW}(h:(fN l).2.2.2=true):oM (fN l).1=true/\∀p∈(fN l).1,p.1<=4294967295:=by match l,h with|hd::x::r,h=>unfold fN at h⊢;simp only at h⊢;cases hs:Nb (kJ (mO (hd::x::r)) hd.2.2.2.2.1 hd.2.2.2.2.2) (hd::x::r)with|false=>rw[hs]at h;cases h|true=>simp only[ah];generalize hw:mO (hd::x::r)=ps at hs⊢;unfold Nb at hs;simp only[ae]at hs;have hn:=bA hs.1;unfold kJ at hn;cases hc:((ps.length:Int)==0)||(!oM ps|| !di hd.2.2.2.2.1 1 128)with|true=>rw[hc]at hn;simp at hn;omega|false=>rw[hc]at hn;cases ha:([(2,0,0,0,hd.2.2.2.2.1,hd.2.2.2.2.2)]++oV ps hd.2.2.2.2.2 ps.length).all qg with|false=>rw[ha]at hn;simp at hn;omega|true=>simp only[cA,eF]at hc;refine⟨hc.2.1,λp hp=>?_⟩;rw[List.all_append,Mb,ae]at ha;obtain⟨i,hi,rfl⟩:=gw hp;have:=aF.1 ha.2 i (bG.2 hi);rw[cB hi]at this;simp only[qg,dsc,ae,aU]at this;omega
theorem Mc (l:aw aI)(m:bO)(d a n:Int):(qS l m d a n).1.length<=33554432:=by have hL:=Na l m d a n false;have h1:=yn m (lb l m d a n false).1;unfold qS;cases (lb l m d a n false).2 with|false=>simp|true=>simp only[ah];omega
def Fe (l:aw aI)(m:bO)(d:Int):aw (Int×Int)->Bytes->Bytes×Bool
 |[],acc=>(acc,true)
 |p::ps,acc=>bif (qS l m d p.1 p.2).2 then Fe l m d ps (acc++(qS l m d p.1 p.2).1) else([],false)
def lP (l:aw aI)(m:bO)(d:Int)(ps:aw (Int×Int)):Bytes×Bool:=bif oM ps then Fe l m d ps [] else([],false)
def Ku (l:aw aI)(m:bO)(d:Int)(p:Int×Int)(s:Bytes):Except (aB (Bytes×Bool)) Bytes:=
 if(qS l m d p.1 p.2).2=true then .ok (s++(qS l m d p.1 p.2).1) else .error (some ([],false))
theorem Qs (l:aw aI)(m:bO)(d:Int):∀(ps:aw (Int×Int))(s:Bytes),Eg (Ku l m d) (λs=>some (s,true)) ps s=some (Fe l m d ps s)
 |[],s=>rfl
 |p::ps,s=>by rw[Eg,Fe];unfold Ku;cases hd:(qS l m d p.1 p.2).2 with|false=>rfl|true=>rw[aH rfl];exact Qs l m d ps _
theorem NB (l:aw aI)(m:bO)(d:Int):∀(ps:aw (Int×Int))(s:Bytes),(Fe l m d ps s).1.length<=s.length+33554432*ps.length
 |[],s=>by simp[Fe]
 |p::ps,s=>by have h1:=Mc l m d p.1 p.2;rw[Fe];cases (qS l m d p.1 p.2).2 with|false=>simp|true=>have:=NB l m d ps (s++(qS l m d p.1 p.2).1);rw[ai]at this;simp only[ah,aP,Nat.mul_add];omega
theorem YQ (l:aw aI)(m:bO)(d:Int)(ps:aw (Int×Int)):(lP l m d ps).1.length<=10^9:=by unfold lP;cases hp:oM ps with|false=>simp|true=>have:=(MW hp).1;have:=NB l m d ps [];simp only[dZ]at this;simp only[ah];omega
theorem ade (l:aw aI)(m:bO)(d:Int)(ps:aw (Int×Int))(hl:l.length<=10^9)(hm:m.length<=10^9)(hn:ps.length<=10^9)(ha:∀p∈ps,p.1<=9223372036854775807):sg l m d ps=some (lP l m d ps):=by
 unfold sg lP;rw[Q2 ps hn,ab];cases hp:oM ps;rfl;have Zc:=(MW hp).1;simp only[aj,af,ah];rw[<-Qs];refine vF ps (λs i=>(s,(i:Int))) (λi s=>s.length<=33554432*i) (Ku l m d) _ (by omega) (λi hi s nx hI=>?_) (λi hi s s' hI he=>?_) (λs nx hI=>?_) [] (by simp);have h1:=Mc l m d ps[i].1 ps[i].2;simp only[nM];rw[jP,ah,bB hi,ab,DE l m d _ _ hl hm (ha _ (aK hi)),ab];unfold Ku;cases hd:(qS l m d ps[i].1 ps[i].2).2 with|false=>rfl|true=>rw[aH rfl,aX,ak];rfl
 have h1:=Mc l m d ps[i].1 ps[i].2;unfold Ku at he;split at he;injection he with he;rw[<-he,ai];omega;cases he;simp only[nM];rw[cL,af]
def De (t:Bytes):Int:=dA t ((dW t+2:Nat):Int)
def TB (t:Bytes):Int:=TN ((t.take (dW t+20)).drop (dW t))
def aej (t:Bytes):Bytes:=(t.take (dW t+(De t).toNat)).drop (dW t+20)
def anw (t:Bytes):Bytes:=yW (fj t ((dW t+12:Nat):Int)) (fj t ((dW t+16:Nat):Int)) (mf t:Int) (De t-20)
def Nh (t:Bytes):Int:=bif ((mf t:Int)==17)&&(TN (anw t++aej t)==0) then 65535 else TN (anw t++aej t)
def afd (t s:Bytes):Bytes×Bool:=bif ((kR s).2==0)&&((lx (kR s).1).1==t) then dE (kR s).1 else([],false)
def yI (t:Bytes):Bytes×Bool:=afd t (nW t (cy (TB t)) (cy (Nh t)))
theorem O8 {t:Bytes}(h:¬(TOk t/\dA t (Ei t:Int)=0/\dA t (B6 t:Int)=0)):yI t=([],false):=by
 have ha:FX (nW t (cy (TB t)) (cy (Nh t))) t:=I2 t (bT _) (bT _);unfold yI afd;generalize nW t (cy (TB t)) (cy (Nh t))=s at ha⊢;cases h1:(kR s).2==0;rfl;have SH:(kR s).2=0:=by simpa using h1
 cases h2:(lx (kR s).1).1==t;rfl;have XU:(lx (kR s).1).1=t:=eq_of_beq h2;have ht:=arv ha SH;exact absurd ⟨ht,aiX XU (RN SH).2.2.1 ht⟩ h
theorem LP (t:Bytes)(o n:Nat):(t.drop o).take n=(t.take (o+n)).drop o:=by rw[List.drop_take];congr 1;omega
theorem aaE {t:Bytes}(h1:dW t+20<=t.length)(h2:20<=De t)(h3:De t<=(t.length:Int))(h4:t.length<=10^9):BI (fj t ((dW t+12:Nat):Int)) (fj t ((dW t+16:Nat):Int)) (mf t:Int) (De t-20)=true:=by have a1:=Kv (s:=t) (a:=((dW t+12:Nat):Int));have a2:=Kv (s:=t) (a:=((dW t+16:Nat):Int));have a3:=fg t (dW t+9);have a4:=Qu (s:=t) (a:=((dW t+2:Nat):Int));unfold BI;rw[aU.2 a1,aU.2 a2,aU.2 (show 0<=(mf t:Int)/\(mf t:Int)<=255 by unfold mf;omega),aU.2 (show 0<=De t-20/\De t-20<=65535 by unfold De at*;omega)];rfl
theorem ahf (t:Bytes)(hl:t.length<=10^9):zJ t=some (yI t):=by
 have hp:=CS t
 have hk:=LG (mf t)
 have Ui:mf t<256:=fg t (dW t+9)
 have GN:=Lm t
 unfold zJ
 rw[KQ t hl,ab,yR _ _ (by omega),ab]
 cases h1:(iB t).2 with
 |false=>rw[O8 λh=>by have:=h.1.eth;rw[h1]at this;cases this];rfl
 |true=>
 have he:=MV h1
 rw[he.1]
 simp only[aj,af,ab]
 have en:dA (t.drop (dW t)) 2=De t:=Qt (a:=2)
 rw[en]
 by_cases h4:De t<20
 ·rw[ax h4,O8 λh=>by have:=h.1.n1;unfold De at h4;omega];rfl
 rw[aq h4]
 simp only[af,ab]
 by_cases h5:De t>((t.drop (dW t)).length:Int)
 ·rw[ax h5,O8 λh=>by have:=h.1.n2;unfold De at h5;rw[aM]at h5;omega];rfl
 rw[aq h5]
 rw[aM]at h5
 have hdl:(t.drop (dW t)).length=t.length-dW t:=aM ..
 obtain⟨n,hn⟩:=aD (show 0<=De t by omega)
 obtain⟨x,hx,ex⟩:=nI (s:=t.drop (dW t)) (i:=9)
 have hx9:idx (t.drop (dW t)) 9=some x:=hx
 have s1:sub (t.drop (dW t)) 0 20=some ((t.take (dW t+20)).drop (dW t)):=by rw[FI,<-LP];rfl
 have s2:sub (t.drop (dW t)) 20 (De t)=some (aej t):=by rw[afY (l:=t.drop (dW t)) 20 (a:=20) rfl,hn,au,LP,fP];unfold aej;rw[hn];rfl
 have hps:=MZ (fj t ((dW t+12:Nat):Int)) (fj t ((dW t+16:Nat):Int)) (mf t:Int) (De t-20)
 have akS:((aej t).length:Int)=De t-20:=by unfold aej;rw[aM,aV,hn];omega
 have hk2:ar ((UInt8.toNat x:Int))=(mf t:Int):=by rw[ex,nA,jU (show cn t (dW t+9)<9223372036854775808 by unfold mf at Ui;omega)];rfl
 have g12:fj (t.drop (dW t)) 12=fj t ((dW t+12:Nat):Int):=Qv (a:=12)
 have g16:fj (t.drop (dW t)) 16=fj t ((dW t+16:Nat):Int):=Qv (a:=16)
 have hw:ar ((Sc (mf t):Int)+2)=(Sc (mf t):Int)+2:=by rw[ak]
 simp only[af,ab,KW t hl,s1,s2,hx9,yS _ _ (show(t.drop (dW t)).length<=10^9 by omega),hk2,Q3,akS,g12,g16,aaE (show dW t+20<=t.length by omega) (show 20<=De t by omega) (show De t<=(t.length:Int) by omega) hl,ah,aj,Mw _ Ui,hw]
 rw[show yW (fj t ((dW t+12:Nat):Int)) (fj t ((dW t+16:Nat):Int)) (mf t:Int) (De t-20)=anw t from rfl]at hps⊢
 by_cases h6:(Sc (mf t):Int)+2>De t-20
 ·rw[ax h6,O8 λh=>by have:=h.1.n1;unfold De at h6;omega];rfl
 rw[aq h6]
 simp only[af]
 have hck:((t.take (dW t+20)).drop (dW t)).length<=10^9:=by rw[aM,aV];omega
 rw[aX,Pe _ (by rw[ai];omega),ab]
 have sM:∀y:Int,Nh t=y->(aa (kB ((t.take (dW t+20)).drop (dW t))) λr25=>aa (cD r25) λr26=>aa (gS t (Ei t:Int) r26) λXX=>aa (cD y) λr28=>aa (gS XX (B6 t:Int) r28) λr29=>aa (jC r29) λr30=>aa (og r30.1) λXY=>
  aa (bif r30.2 !=0 then some true else bif !XY.2 then some true else some (!(XY.1==t))) λq32=>bif q32 then some (([]:Bytes),false) else aa (iD r30.1) λr33=>some r33)=some (yI t):=by
  intro y hy
  subst hy
  have b1:=bT (TB t)
  have b2:=bT (Nh t)
  rw[Pe _ hck,ab,show TN ((t.take (dW t+20)).drop (dW t))=TB t from rfl]
  rw[mF,ab,Fk t _ _ hl,ab,mF,ab,Fk _ _ _ (by rw[CU];exact hl),ab]
  have hlen:=Hi t (cy (TB t)) (cy (Nh t))
  unfold yI
  rw[show yX (yX t (Ei t:Int) (cy (TB t))) (B6 t:Int) (cy (Nh t))=nW t (cy (TB t)) (cy (Nh t)) from rfl]
  generalize nW t (cy (TB t)) (cy (Nh t))=s at hlen⊢
  simp only[H5 s (by omega),ab,UB,EC,afd,bne]
  cases h1:(kR s).2==0;rfl
  have hsb:=(RN (show(kR s).2=0 by simpa using h1)).2.2.1
  have h2:(lx (kR s).1).2=true:=by unfold lx;rw[hsb];rfl
  rw[h2]
  cases (lx (kR s).1).1==t<;>rfl
 cases h8:(mf t:Int)==17 with
 |false=>exact sM _ (by unfold Nh;rw[h8];rfl)
 |true=>
  simp only[ah,ab]
  cases h7:TN (anw t++aej t)==0 with
  |false=>exact sM _ (by unfold Nh;rw[h7,eM];rfl)
  |true=>exact sM _ (by unfold Nh;rw[h7,h8];rfl)
theorem agM (t:Bytes):(yI t).1.length<=378:=by unfold yI afd;generalize nW t (cy (TB t)) (cy (Nh t))=s;cases ((kR s).2==0)&&((lx (kR s).1).1==t)with|false=>exact cd _|true=>exact yQ _
theorem PT (l:aw aI)(m:bO)(d:Int):∀(n:Nat)(acc:aw FW)(r:lZ),(sS l m d n acc r).1.length<=acc.length+n
 |0,acc,r=>bc _
 |n+1,acc,r=>by
  rw[sS];cases !(bC l m d r).2.2|| !(cV (bC l m d r).1).2;case true=>exact cd _
  cases Is (cV (bC l m d r).1).1 with|true=>simp only[af,ah,ai,aY];omega|false=>have:=PT l m d n (acc++[(cV (bC l m d r).1).1]) (bC l m d r).2.1;simp only[ai,aY]at this;simp only[af];omega
theorem aeh (h:dH r=true):dH (r.1,r.2.1,r.2.2.2,r.2.2.2)=true/\bS (r.1,r.2.1,r.2.2.2,r.2.2.2)=0:=by
 have hr:=mZ h;have hq:=h;simp only[dH,ae,aJ]at hq;have hu:bS (r.1,r.2.1,r.2.2.2,r.2.2.2)=0:=by unfold bS;simp only[Int.sub_self,Int.zero_emod,ite_self]
 refine⟨?_,hu⟩;simp only[dH,ae,aJ,aU,hu,hq.2.1,true_and];omega
theorem No (l:aw aI)(m:bO)(d:Int):∀(n:Nat)(acc:aw FW)(r:lZ),dH r=true->(bS r).toNat=n->
 dH (sS l m d n acc r).2.1=true/\bS (sS l m d n acc r).2.1<=bS r/\(0<bS r->bS (sS l m d n acc r).2.1<bS r)
 |0,acc,r,hb,hu=>⟨hb,cU _,λh=>by omega⟩
 |n+1,acc,r,hb,hu=>by have hk:=Hv (l:=l) (m:=m) (d:=d) (r:=r);have he:=aeh hb;rw[sS];cases hc: !(bC l m d r).2.2|| !(cV (bC l m d r).1).2 with|true=>exact⟨he.1,by show bS (r.1,r.2.1,r.2.2.2,r.2.2.2)<=_;rw[he.2];omega,λ_=>by show bS (r.1,r.2.1,r.2.2.2,r.2.2.2)<_;rw[he.2];omega⟩|false=>simp only[cA,eF]at hc;have hk:=hk hc.1;cases Is (cV (bC l m d r).1).1 with|true=>exact⟨hk.1,by show bS (bC l m d r).2.1<=_;omega,λ_=>by show bS (bC l m d r).2.1<_;omega⟩|false=>have:=No l m d n (acc++[(cV (bC l m d r).1).1]) (bC l m d r).2.1 hk.1 (by omega);simp only[af];exact⟨this.1,by omega,λ_=>by omega⟩
def iu (l:aw aI)(m:bO)(d:Int)(r:lZ):lZ×bO×Int:=
 bif !dH r||(bS r==0) then(r,[],0) else
 bif !(du l m d r).2.2|| !(fN (du l m d r).1).2.2.2 then((du l m d r).2.1,[],2) else
 bif !(lP l m d (fN (du l m d r).1).1).2||(!(yI (lP l m d (fN (du l m d r).1).1).1).2||((kR (yI (lP l m d (fN (du l m d r).1).1).1).1).2 !=0)) then((du l m d r).2.1,[],2) else
 ((du l m d r).2.1,aaZ (kR (yI (lP l m d (fN (du l m d r).1).1).1).1).1 (fN (du l m d r).1).2.1,1)
theorem adj (l:aw aI)(m:bO)(d:Int)(r:lZ)(hl:l.length<=10^9)(hm:m.length<=10^9):su l m d r=some (iu l m d r):=by
 unfold su iu;simp only[Ar,CG,ab,Td l m d r hl hm];cases hb:dH r;rfl;cases bS r==0;case true=>rfl
 have hu:=AG hb;have hcl:(du l m d r).1.length<=16:=by unfold du;cases !dH r||(bS r==0)with|true=>exact cd _|false=>have:=PT l m d (bS r).toNat [] r;simp only[dZ]at this;show(sS l m d (bS r).toNat [] r).1.length<=16;omega
 simp only[aj,af,ab,cu];generalize du l m d r=c at hcl⊢;cases c.2.2;rfl;simp only[aj,af,ab,cJ,W3 c.1 (show c.1.length<=10^9 by omega)];have hpo:=aaA (l:=c.1);generalize fN c.1=p at hpo⊢;cases hp:p.2.2.2;rfl;have hpo:=hpo hp;have Zc:=(MW hpo.1).1;have hg:=YQ l m d p.1;simp only[aj,af,ab,cJ,ade l m d p.1 hl hm (show p.1.length<=10^9 by omega) (λq hq=>Int.le_trans (hpo.2 q hq) (by omega))];generalize lP l m d p.1=g at hg⊢;cases g.2;rfl;have hf:=agM g.1;simp only[aj,af,ab,cJ,ahf g.1 hg];generalize yI g.1=f at hf⊢;cases f.2;rfl;simp only[aj,af,ab,cJ,H5 f.1 (show f.1.length<=10^9 by omega)];generalize kR f.1=i;cases i.2 !=0;case true=>rfl
 simp only[af,ala,ab]
theorem UP (l:aw aI)(m:bO)(d:Int)(r:lZ): ((iu l m d r).2.2=0->(iu l m d r).1=r)/\((iu l m d r).2.2≠0->0<bS r/\dH r=true/\dH (iu l m d r).1=true/\bS (iu l m d r).1<bS r)/\(iu l m d r).2.1.length<=320/\(∀x∈(iu l m d r).2.1,x.length<=382)/\((iu l m d r).2.2=0\/(iu l m d r).2.2=1\/(iu l m d r).2.2=2):=by
 unfold iu;cases hc: !dH r||(bS r==0)with
 |true=>exact⟨λ_=>rfl,λh=>absurd rfl h,cd _,(λx hx=>by cases hx),.inl rfl⟩
 |false=>
  simp only[cA,eF,bM]at hc;have hu:=AG hc.1;have hch:dH (du l m d r).2.1=true/\bS (du l m d r).2.1<bS r:=by have:=No l m d (bS r).toNat [] r hc.1 rfl;unfold du;rw[show(!dH r||(bS r==0))=false from by rw[hc.1];simpa using hc.2];exact⟨this.1,this.2.2 (by omega)⟩
  cases !(du l m d r).2.2|| !(fN (du l m d r).1).2.2.2 with|true=>exact⟨(λh=>by cases h),λ_=>⟨by omega,hc.1,hch⟩,cd _,(λx hx=>by cases hx),.inr (.inr rfl)⟩|false=>cases !(lP l m d (fN (du l m d r).1).1).2||(!(yI (lP l m d (fN (du l m d r).1).1).1).2||((kR (yI (lP l m d (fN (du l m d r).1).1).1).1).2 !=0))with|true=>exact⟨(λh=>by cases h),λ_=>⟨by omega,hc.1,hch⟩,cd _,(λx hx=>by cases hx),.inr (.inr rfl)⟩|false=>have hs:=aiC (kR (yI (lP l m d (fN (du l m d r).1).1).1).1).1 (fN (du l m d r).1).2.1;exact⟨(λh=>by cases h),λ_=>⟨by omega,hc.1,hch⟩,hs.1,hs.2,.inr (.inl rfl)⟩
def nk (l:aw aI)(m:bO)(d:Int):Nat->bO->Nat->Nat->lZ->lZ×bO×Int×Int
 |0,fr,dn,bd,r=>(r,fr,(dn:Int),(bd:Int))
 |n+1,fr,dn,bd,r=>
  bif (iu l m d r).2.2==0 then(r,fr,(dn:Int),(bd:Int)) else
  bif (iu l m d r).2.2==1 then nk l m d n (fr++(iu l m d r).2.1) (dn+1) bd (iu l m d r).1 else
  nk l m d n (fr++(iu l m d r).2.1) dn (bd+1) (iu l m d r).1
def lX (l:aw aI)(m:bO)(d:Int)(r:lZ):lZ×bO×Int×Int:=nk l m d 17 [] 0 0 r
theorem JD (l:aw aI)(m:bO)(d:Int)(hl:l.length<=10^9)(hm:m.length<=10^9):∀(n:Nat)(fr:bO)(dn bd:Nat)(r:lZ)(f:Nat),n<f->(dH r=true->bS r<n)->0<n->fr.length+320*n<=10000->dn+bd+n<=1000->
 bj (oH (λy2 y3 y4 _ _ _ _ y9=>some (y9,y2,y3,y4)) l d ([]:bO) 0 0 m (0,0,0,0)) f (fr,(dn:Int),(bd:Int),r)=some (nk l m d n fr dn bd r)
 |0,fr,dn,bd,r,f,_,_,h0,_,_=>by omega
 |n+1,fr,dn,bd,r,0,hf,_,_,_,_=>by omega
 |n+1,fr,dn,bd,r,f+1,hf,hr,_,jZ,hc=>by have ok:=UP l m d r;rw[bj,nk];simp only[oH,adj l m d r hl hm,ab];generalize iu l m d r=x at ok⊢;cases h0:x.2.2==0 with|true=>simp only[ah,ok.1 (by simpa using h0)]|false=>have hk:=ok.2.1 (by simpa using h0);have hu:=hr hk.2.1;have hu2:=(AG hk.2.2.1).1;simp only[af];cases x.2.2==1 with|true=>simp only[ah];rw[aX,ak];exact JD l m d hl hm n _ (dn+1) bd _ f (by omega) (λ_=>by omega) (by omega) (by rw[ai];omega) (by omega)|false=>simp only[af];rw[aX,ak];exact JD l m d hl hm n _ dn (bd+1) _ f (by omega) (λ_=>by omega) (by omega) (by rw[ai];omega) (by omega)
theorem ahx (l:aw aI)(m:bO)(d:Int)(r:lZ)(hl:l.length<=10^9)(hm:m.length<=10^9):uo l m d r=some (lX l m d r):=by have D7:=eX;unfold uo;exact JD l m d hl hm 17 [] 0 0 r fuel (by omega) (λh=>by have:=(AG h).2;omega) (by omega) (by simp) (by omega)
theorem EV (l:aw aI)(m:bO)(d:Int):∀(n:Nat)(fr:bO)(dn bd:Nat)(r:lZ),(∀x∈fr,x.length<=382)->
 (nk l m d n fr dn bd r).2.1.length<=fr.length+320*n/\(∀x∈(nk l m d n fr dn bd r).2.1,x.length<=382)/\0<=(nk l m d n fr dn bd r).2.2.1/\(nk l m d n fr dn bd r).2.2.1<=(dn+n:Nat)/\0<=(nk l m d n fr dn bd r).2.2.2/\(nk l m d n fr dn bd r).2.2.2<=(bd+n:Nat)
 |0,fr,dn,bd,r,h=>⟨bc _,h,by show(0:Int)<=(dn:Int);omega,by show(dn:Int)<=_;omega,by show(0:Int)<=(bd:Int);omega,by show(bd:Int)<=_;omega⟩
 |n+1,fr,dn,bd,r,h=>by
  have ok:=UP l m d r;rw[nk];generalize iu l m d r=x at ok⊢;have h2:∀y∈fr++x.2.1,y.length<=382:=λy hy=>by rcases aA.1 hy with g|g;exact h y g;exact ok.2.2.2.1 y g
  cases x.2.2==0 with|true=>exact⟨by show fr.length<=_;omega,h,by show(0:Int)<=(dn:Int);omega,by show(dn:Int)<=_;omega,by show(0:Int)<=(bd:Int);omega,by show(bd:Int)<=_;omega⟩|false=>cases x.2.2==1 with|true=>have i:=EV l m d n (fr++x.2.1) (dn+1) bd x.1 h2;rw[ai]at i;simp only[af,ah];exact⟨by omega,i.2.1,i.2.2.1,by omega,i.2.2.2.2.1,by omega⟩|false=>have i:=EV l m d n (fr++x.2.1) dn (bd+1) x.1 h2;rw[ai]at i;simp only[af,ah];exact⟨by omega,i.2.1,i.2.2.1,by omega,i.2.2.2.2.1,by omega⟩
def E5 (v:Vector):Bool:=bif decide (v.2.2.1>=1) then(bif decide (v.2.2.1>=v.1) then true else decide (v.2.2.2.1>=v.2.1)) else false
theorem anE (v:Vector):EF v=some (E5 v):=by unfold EF E5;cases decide (v.2.2.1>=1);rfl;cases decide (v.2.2.1>=v.1)<;>rfl
theorem aog (v:Vector):xh v=some (E5 v):=by unfold xh E5;cases decide (v.2.2.1>=1);rfl;cases decide (v.2.2.1>=v.1)<;>rfl
def uP (v:Vector):Vector:=bif E5 v&& !v.2.2.2.2.1 then(v.1,v.2.1,v.2.2.1,v.2.2.2.1,v.2.2.2.2.1,true) else v
theorem Mp (v:Vector):qA v=some (uP v):=by unfold qA uP;rw[anE,ab];cases E5 v;rfl;cases v.2.2.2.2.1<;>rfl
def Pr (n:Int):Int:=if 1000000<ar (n+1) then 1000000 else ar (n+1)
def evV (v:Vector):Vector:=bif ew v then uP (v.1,v.2.1,Pr v.2.2.1,v.2.2.2) else v
theorem ahb (v:Vector):zE v=some (evV v):=by unfold zE evV;rw[CH,ab,Mp,ab];cases ew v<;>rfl
def AL (v:Vector):Vector:=bif ew v then(bif decide (v.2.2.1>0) then uP (v.1,v.2.1,v.2.2.1,Pr v.2.2.2.1,v.2.2.2.2) else uP v) else v
theorem ahw (v:Vector):wa v=some (AL v):=by unfold wa AL;simp only[CH,ab,Mp];cases ew v;rfl;cases decide (v.2.2.1>0)<;>rfl
def tI (v:Vector):Vector×Bool:=bif ew v&&v.2.2.2.2.2 then((v.1,v.2.1,0,0,true,false),true) else(v,false)
theorem ahv (v:Vector):qy v=some (tI v):=by unfold qy tI;rw[CH,ab];cases ew v;rfl;cases v.2.2.2.2.2<;>rfl
def B8 (v:Vector):Vector:=bif ew v then uP (v.1,v.2.1,v.2.2.1,v.2.2.2.1,false,v.2.2.2.2.2) else v
theorem Q7 (v:Vector):Au v=some (B8 v):=by unfold Au B8;rw[CH,ab,Mp,ab];cases ew v<;>rfl
structure mz (k:Nat) (a b:Host):Prop where
 mem:b.1.length=a.1.length
 maps:b.2.1=a.2.1
 tx:b.2.2.1=a.2.2.1
 rx:b.2.2.2.1.length=a.2.2.2.1.length
 rxs:∀j,k<=j->b.2.2.2.1[j]?=a.2.2.2.1[j]?
 pl:b.2.2.2.2.1.length=a.2.2.2.2.1.length
 vec:b.2.2.2.2.2.1.length=a.2.2.2.2.2.1.length
 abx:∀j,k<=j->b.2.2.2.2.2.1[j]?=a.2.2.2.2.2.1[j]?
 pol:b.2.2.2.2.2.2.1.length=a.2.2.2.2.2.2.1.length
 sN:b.2.2.2.2.2.2.2.1=a.2.2.2.2.2.2.2.1
 Tx:b.2.2.2.2.2.2.2.2.1=a.2.2.2.2.2.2.2.2.1
theorem mz.refl (k:Nat)(a:Host):mz k a a:=⟨rfl,rfl,rfl,rfl,λ_ _=>rfl,rfl,rfl,λ_ _=>rfl,rfl,rfl,rfl⟩
theorem mz.trans {a b c:Host}(h:mz k a b)(g:mz k b c):mz k a c:=⟨g.mem.trans h.mem,g.maps.trans h.maps,g.tx.trans h.tx,g.rx.trans h.rx,λj hj=>(g.rxs j hj).trans (h.rxs j hj),g.pl.trans h.pl,g.vec.trans h.vec,λj hj=>(g.abx j hj).trans (h.abx j hj),g.pol.trans h.pol,g.sN.trans h.sN,g.Tx.trans h.Tx⟩
theorem mz.up {m:Nat}{a b:Host}(h:mz k a b)(hk:k<=m):mz m a b:=⟨h.mem,h.maps,h.tx,h.rx,λj hj=>h.rxs j (by omega),h.pl,h.vec,λj hj=>h.abx j (by omega),h.pol,h.sN,h.Tx⟩
def jt (g:Nat->Host->Host):Nat->Host->Host
 |0,h=>h
 |k+1,h=>g k (jt g k h)
theorem qa (hg:∀k h,mz (k+1) h (g k h))(h:Host):∀k,mz k h (jt g k h)
 |0=>mz.refl 0 h
 |k+1=>((qa hg h k).up (by omega)).trans (hg k _)
theorem FF {d:Nat}(hn:1000<=n)(hg:∀k h m,1000<=m->dC m dT h->dC (m+d) dT (g k h))(z:dC n dT h):∀k,dC (n+d*k) dT (jt g k h)
 |0=>z
 |k+1=>(hg k _ _ (by omega) (FF hn hg z k)).mono (by rw[Nat.mul_add];omega)
def ru (i:Nat)(h:Host):Host:=
 match h.2.2.2.2.2.1[i]? with
 |some v=>(h.1,h.2.1,h.2.2.1,h.2.2.2.1,h.2.2.2.2.1,h.2.2.2.2.2.1.set i (AL v),h.2.2.2.2.2.2)
 |none=>h
theorem zy (i:Nat)(h:Host):mz (i+1) h (ru i h):=by unfold ru;cases h.2.2.2.2.2.1[i]? with|none=>exact mz.refl _ _|some v=>exact⟨rfl,rfl,rfl,rfl,λ_ _=>rfl,rfl,az ..,λj hj=>aE (by omega),rfl,rfl,rfl⟩
theorem Ps {l:aw Vector}{v:Vector}(z:dC n (.sl ix) l):dC n (.sl ix) (l.set i v):=nT z ⟨cG,cG,cG,cG,cG,cG⟩
theorem ai1 (i:Nat)(h:Host)(n:Nat)(hn:1000<=n)(z:dC n dT h):dC (n+0) dT (ru i h):=by unfold ru;cases h.2.2.2.2.2.1[i]? with|none=>exact z|some v=>exact⟨z.1,z.2.1,z.2.2.1,z.2.2.2.1,z.2.2.2.2.1,Ps z.2.2.2.2.2.1,z.2.2.2.2.2.2⟩
def sI (h:Host):Host:=bif eT h then jt ru h.2.2.2.2.2.1.length h else h
theorem amN (hn:1000<=n)(z:dC n dT h):dC n dT (sI h)/\(sI h).2.2.1=h.2.2.1:=by unfold sI;cases eT h with|false=>exact⟨z,rfl⟩|true=>exact⟨(FF hn ai1 z _).mono,(qa zy h _).tx⟩
theorem Q6 (h:Host)(k:Py h)(z:dC 1000000000 dT h):rG h=some (sI h):=by
 have D7:=eX;unfold rG sI;rw[kA h z,ab,xB h k,ab];cases hb:eT h;rfl;have hv:h.2.2.2.2.2.1.length<=10^9:=z.2.2.2.2.2.1.1;simp only[aj,af,ah];refine dG (λi=>((i:Int),jt ru i h)) h.2.2.2.2.2.1.length (by omega) (λi nx hi=>?_) (λnx=>?_);have kk:=qa zy h i;have i1:i<(jt ru i h).2.2.2.2.2.1.length:=by rw[kk.vec];exact hi
 rw[show jt ru (i+1) h=ru i (jt ru i h) from rfl];generalize jt ru i h=s at i1⊢;simp only[ua,ru];rw[jP,ah,al i1];simp only[bB i1,ab,ahw,au];rw[ak];rfl;simp only[ua];rw[cL,af]
structure zC (n:Nat) (h:Host):Prop where
 z:dC n dT h
 t:h.2.2.1.2.1.2.2.2.length+(bK h.2.2.1.2.2.1).length<=n
theorem zC.mono {m:Nat}(k:zC n h)(hn:n<=m:=by omega):zC m h:=⟨k.z.mono hn,bq k.t hn⟩
theorem zC.sz (k:zC n h)(hn:n<=10^9:=by omega):Py h:=by have z:dC 1000000000 dT h:=k.z.mono hn;exact⟨z.1.1,z.2.1.1,z.2.2.1.2.2.1.1,bq k.t hn,z.2.2.2.2.2.2.2.1.2.2.1,z.2.2.2.2.2.2.2.2.1.1.1,z.2.2.2.2.2.2.2.2.1.2.1.1,z.2.2.2.2.2.2.2.2.1.2.2.2.1,λp hp=>(z.2.2.2.2.1.2 p hp).2.2.2.1⟩
theorem zC.of (k:TC dT h<=1048576):zC 1048576 h:=by
 refine⟨LO k,?_⟩;have hb:=aeU h.2.2.1.2.2.1;have h1:TC oQ h.2.2.1<=TC dT h:=by simp only[TC];omega
 have hp:h.2.2.1.2.1.2.2.2.length+TC (.sl lB) h.2.2.1.2.2.1<=TC oQ h.2.2.1:=by simp only[TC];omega
 omega
def ov (p:dD):aw qc->dD
 |[]=>p
 |x::l=>ov (Cz p x.2.2).1 l
theorem Mj:∀(l:aw qc)(p:dD),(ov p l).2.2.2.length<=p.2.2.2.length+(bK l).length
 |[],p=>by simp[ov]
 |x::l,p=>by have h1:=YV p x.2.2;have h2:=Mj l (Cz p x.2.2).1;simp only[ov,bK,List.flatMap_cons,ai]at h2⊢;omega
theorem Uf:∀(l:aw qc)(p:dD)(x:qc),ov p (l++[x])=(Cz (ov p l) x.2.2).1
 |[],p,x=>rfl
 |y::l,p,x=>by rw[List.cons_append,ov,ov,Uf l]
theorem Ye (a b:aw qc):(bK (a++b)).length=(bK a).length+(bK b).length:=by simp only[bK,List.flatMap_append,ai]
theorem Yf (l:aw qc)(n:Nat):(bK (l.take n)).length+(bK (l.drop n)).length=(bK l).length:=by rw[<-Ye,cR]
def kU (t:eR)(n:Int):eR×cc:=
 bif Pq t&&di n 0 (t.2.2.1.length:Int) then((t.1,ov t.2.1 (t.2.2.1.take n.toNat),t.2.2.1.drop n.toNat,t.2.2.2),(t.2.2.1.take n.toNat).map (·.1)) else(t,[])
theorem aoe {l:aw qc}(h:(bK l).length<=10^9):∀x∈l,x.2.2.length<=10^9:=by intro x hx;induction l with|nil=>cases hx|cons y l ih=>simp only[bK,List.flatMap_cons,ai]at h;rcases bU.1 hx with rfl|g;omega;exact ih (by simp only[bK];omega) g
theorem WW (t:eR)(n:Int)(hw:t.2.2.1.length<=10^9)(hs:t.2.1.2.2.2.length+(bK t.2.2.1).length<=10^9):nK t n=some (kU t n):=by
 have hx:=aoe (l:=t.2.2.1) (by omega);unfold nK kU;rw[JA t ⟨by omega,hw,hx⟩,ab,adp t hw hs];simp only[ab,cx];cases Pq t;rfl;cases hn:di n 0 (t.2.2.1.length:Int);rfl;have h:=aU.1 hn;obtain⟨n,rfl⟩:=aD h.1;have hl:n<=t.2.2.1.length:=by omega
 simp only[aj,af,ab,cq,ah,au];rw[FI,ab,au];have htl:(t.2.2.1.take n).length=n:=by rw[aV];omega
 rw[htl];refine dG (λi=>(((t.2.2.1.take i).map (·.1),(i:Int),t.1,ov t.2.1 (t.2.2.1.take i),t.2.2):cc×Int×eR)) n (by omega) (λi nx hi=>?_) (λnx=>?_);have hi2:i<(t.2.2.1.take n).length:=by omega
 have hi3:i<t.2.2.1.length:=by omega
 have e1:(t.2.2.1.take n)[i]=t.2.2.1[i]:=List.getElem_take ..;have g1:=Mj (t.2.2.1.take i) t.2.1;have g2:=Yf t.2.2.1 (i+1);have g3:(bK (t.2.2.1.take (i+1))).length=(bK (t.2.2.1.take i)).length+t.2.2.1[i].2.2.length:=by rw[bl hi3,Ye];simp[bK]
 simp only[kW];rw[jP,ah,bB hi2,e1,ab,Q0 _ _ (by omega),ab,aX (by simp only[bF,aV,aY];omega),ak,bl hi3,Uf,cZ];rfl;simp only[kW];rw[cL,af,FH (l:=t.2.2.1) n hl rfl,ab,KM _ (by rw[aM];omega) (λx Dd=>hx x (List.mem_of_mem_drop Dd)),ab]
theorem TR (n:Int):∀l:aw qc,l.all (qG n)=true->(l.length:Int)<=eS l
 |[],_=>by simp[eS]
 |x::l,h=>by simp only[cz,ae]at h;have:=TR n l h.2;have hx:=h.1;unfold qG at hx;simp only[ae,aU]at hx;simp only[eS,dm,gu,aP]at this⊢;omega
theorem JX (h:Pq t=true):t.2.2.1.length<=16:=by unfold Pq at h;simp only[ae,aJ]at h;have h1:=TR _ _ h.2.2.2.1;have h2:=(mZ h.1).2.2.1;have h3:=h.2.2.2.2.2;omega
theorem Kh (n:Int)(z:dC k oQ t)(hs:t.2.1.2.2.2.length+(bK t.2.2.1).length<=k): dC k oQ (kU t n).1/\(kU t n).1.2.1.2.2.2.length+(bK (kU t n).1.2.2.1).length<=k/\(kU t n).2.length<=16:=by unfold kU;cases h:Pq t&&di n 0 (t.2.2.1.length:Int)with|false=>exact⟨z,hs,cd _⟩|true=>simp only[ae]at h;have Zc:=JX h.1;have g1:=Mj (t.2.2.1.take n.toNat) t.2.1;have g2:=Yf t.2.2.1 n.toNat;have hw:t.2.2.1.length<=k:=z.2.2.1.1;refine⟨⟨z.1,⟨cG,cG,cG,?_,λ_ _=>trivial⟩,⟨?_,λx hx=>z.2.2.1.2 x (List.mem_of_mem_drop hx)⟩,z.2.2.2⟩,?_,?_⟩;show(ov t.2.1 (t.2.2.1.take n.toNat)).2.2.2.length<=k;omega;show(t.2.2.1.drop n.toNat).length<=k;rw[aM];omega;show(ov t.2.1 (t.2.2.1.take n.toNat)).2.2.2.length+(bK (t.2.2.1.drop n.toNat)).length<=k;omega;show((t.2.2.1.take n.toNat).map (·.1)).length<=16;rw[bF,aV];omega
theorem EH {t:CT}{l q:aw t.D}(z:dC n (.sl t) l)(hq:∀y∈q,dC n t y)(hk:q.length<=k):dC (n+k) (.sl t) (l++q):=by refine⟨?_,λy hy=>?_⟩;show(l++q).length<=n+k;have:=z.1;rw[ai];omega;rcases aA.1 hy with h|h;exact(z.2 y h).mono;exact(hq y h).mono
def dy (h:Host):Host:=bif eT h then
    (h.1,h.2.1,(kU ((lX h.2.1 h.1 0 h.2.2.1.1).1,h.2.2.1.2) (if(h.2.2.1.2.2.1.length:Int)<ar ((lX h.2.1 h.1 0 h.2.2.1.1).2.2.1+(lX h.2.1 h.1 0 h.2.2.1.1).2.2.2) then(h.2.2.1.2.2.1.length:Int) else ar ((lX h.2.1 h.1 0 h.2.2.1.1).2.2.1+(lX h.2.1 h.1 0 h.2.2.1.1).2.2.2))).1,
      h.2.2.2.1,h.2.2.2.2.1,h.2.2.2.2.2.1,h.2.2.2.2.2.2.1,h.2.2.2.2.2.2.2.1,h.2.2.2.2.2.2.2.2.1,h.2.2.2.2.2.2.2.2.2.1,h.2.2.2.2.2.2.2.2.2.2.1,h.2.2.2.2.2.2.2.2.2.2.2.1++(lX h.2.1 h.1 0 h.2.2.1.1).2.1,
      h.2.2.2.2.2.2.2.2.2.2.2.2.1++(kU ((lX h.2.1 h.1 0 h.2.2.1.1).1,h.2.2.1.2) (if(h.2.2.1.2.2.1.length:Int)<ar ((lX h.2.1 h.1 0 h.2.2.1.1).2.2.1+(lX h.2.1 h.1 0 h.2.2.1.1).2.2.2) then(h.2.2.1.2.2.1.length:Int) else ar ((lX h.2.1 h.1 0 h.2.2.1.1).2.2.1+(lX h.2.1 h.1 0 h.2.2.1.1).2.2.2))).2,h.2.2.2.2.2.2.2.2.2.2.2.2.2) else h
theorem KY (h:Host)(k:zC 900000000 h):nN h=some (dy h):=by have z:dC 1000000000 dT h:=k.z.mono;have hz:=k.sz;have hm:h.1.length<=900000000:=k.z.1.1;have hl:h.2.1.length<=900000000:=k.z.2.1.1;have hw:h.2.2.1.2.2.1.length<=900000000:=k.z.2.2.1.2.2.1.1;have hwi:h.2.2.2.2.2.2.2.2.2.2.2.1.length<=900000000:=k.z.2.2.2.2.2.2.2.2.2.2.2.1.1;have hco:h.2.2.2.2.2.2.2.2.2.2.2.2.1.length<=900000000:=k.z.2.2.2.2.2.2.2.2.2.2.2.2.1.1;have hA:=EV h.2.1 h.1 0 17 [] 0 0 h.2.2.1.1 (λx hx=>by cases hx);unfold nN dy;rw[kA h z,ab,xB h hz,ab];cases eT h;rfl;simp only[aj,af,ah,ahx h.2.1 h.1 0 _ (show h.2.1.length<=10^9 by omega) (show h.1.length<=10^9 by omega),ab];rw[show nk h.2.1 h.1 0 17 [] 0 0 h.2.2.1.1=lX h.2.1 h.1 0 h.2.2.1.1 from rfl]at hA;generalize lX h.2.1 h.1 0 h.2.2.1.1=x at hA⊢;simp only[dZ]at hA;have hC:=Kh (k:=900000000) (t:=(x.1,h.2.2.1.2)) (if(h.2.2.1.2.2.1.length:Int)<ar (x.2.2.1+x.2.2.2) then(h.2.2.1.2.2.1.length:Int) else ar (x.2.2.1+x.2.2.2)) ⟨⟨cG,cG,cG,cG⟩,k.z.2.2.1.2⟩ k.t;rw[aX,WW (x.1,h.2.2.1.2) _ (by show h.2.2.1.2.2.1.length<=_;omega) (bq k.t (by omega)),ab,aX]
theorem FN (hn:400<=n)(k:zC n h):zC (n+5440) (dy h):=by have k':zC (n+5440) h:=k.mono;have hA:=EV h.2.1 h.1 0 17 [] 0 0 h.2.2.1.1 (λx hx=>by cases hx);unfold dy;cases eT h;exact k';rw[show nk h.2.1 h.1 0 17 [] 0 0 h.2.2.1.1=lX h.2.1 h.1 0 h.2.2.1.1 from rfl]at hA;generalize lX h.2.1 h.1 0 h.2.2.1.1=x at hA⊢;simp only[dZ]at hA;generalize (if(h.2.2.1.2.2.1.length:Int)<ar (x.2.2.1+x.2.2.2) then(h.2.2.1.2.2.1.length:Int) else ar (x.2.2.1+x.2.2.2))=q;have hC:=Kh (k:=n) (t:=(x.1,h.2.2.1.2)) q ⟨⟨cG,cG,cG,cG⟩,k.z.2.2.1.2⟩ k.t;have z:=k'.z;refine⟨⟨z.1,z.2.1,hC.1.mono,z.2.2.2.1,z.2.2.2.2.1,z.2.2.2.2.2.1,z.2.2.2.2.2.2.1,z.2.2.2.2.2.2.2.1,z.2.2.2.2.2.2.2.2.1,z.2.2.2.2.2.2.2.2.2.1,cG,?_,?_,z.2.2.2.2.2.2.2.2.2.2.2.2.2⟩,bq hC.2.1 (by omega)⟩;exact EH (t:=.str) (n:=n) (k:=5440) k.z.2.2.2.2.2.2.2.2.2.2.2.1 (λy hy=>by show y.length<=_;have:=hA.2.1 y hy;omega) (by omega);exact(EH (t:=.int .i64) (n:=n) (k:=16) k.z.2.2.2.2.2.2.2.2.2.2.2.2.1 (λ_ _=>trivial) hC.2.2).mono
def wT (l:aw aI)(d:Int)(p:dD)(z:Nat):cc->Bytes->bO->aw iv->aB (aw iv×bO)
 |[],_,m,a=>some (a,m)
 |b::q,s,m,a=>bif (hH l m d (oy p b) (s.take z) false).2 then wT l d p z q (s.drop z) (hH l m d (oy p b) (s.take z) false).1 (a++[(oy p b,((s.take z).length:Int))]) else none
theorem GF (l:aw aI)(d:Int)(p:dD)(z:Nat):∀(q:cc)(s:Bytes)(m:bO)(a:aw iv){x},wT l d p z q s m a=some x->
 x.2.length=m.length/\x.1.length=a.length+q.length/\∀y∈x.1,y∈a\/((∃b∈q,y.1=oy p b)/\0<=y.2/\y.2<=(z:Int))
 |[],s,m,a,x,h=>by cases h;exact⟨rfl,rfl,λy hy=>Or.inl hy⟩
 |b::q,s,m,a,x,h=>by rw[wT]at h;cases hq:(hH l m d (oy p b) (s.take z) false).2 with|false=>rw[hq]at h;cases h|true=>rw[hq]at h;obtain⟨h1,h2,h3⟩:=GF l d p z q _ _ _ h;rw[lG]at h1;rw[ai,aY]at h2;refine⟨h1,by rw[aP];omega,λy hy=>?_⟩;rcases h3 y hy with g|⟨⟨b',iy,g⟩,g2⟩;rcases aA.1 g with g|g;exact Or.inl g;rw[br.1 g];refine Or.inr ⟨⟨b,List.mem_cons_self ..,rfl⟩,?_,?_⟩;show(0:Int)<=((s.take z).length:Int);omega;show((s.take z).length:Int)<=(z:Int);rw[aV];omega;exact Or.inr ⟨⟨b',fB _ iy,g⟩,g2⟩
theorem VU (p:dD)(i:Int): -1<=oy p i/\oy p i<=139136:=by unfold oy;cases hb: !dI p|| !di i 0 (p.2.2.1-1)with|true=>exact⟨cU _,show(-1:Int)<=139136 by omega⟩|false=>simp only[cA,eF]at hb;have h:=BH hb.1;have h2:=aU.1 hb.2;have h3:0<=i*p.2.1:=Int.mul_nonneg h2.1 (by omega);have h4:i*p.2.1<=16*512:=Int.mul_le_mul (by omega) (by omega) (by omega) (by omega);simp only[af];omega
theorem ajt {p:dD}(hp:dI p=true)(hb:b∈p.2.2.2):0<=oy p b:=by obtain⟨i,hi,rfl⟩:=gw hb;have hq:=hp;simp only[dI,ae]at hq;have:=aF.1 hq.2.2.2 i (bG.2 hi);simp only[Ev,ae,cB hi]at this;have hn:=this.1;have h:=BH hp;have h2:=aU.1 hn;have h3:0<=p.2.2.2[i]*p.2.1:=Int.mul_nonneg h2.1 (by omega);unfold oy;rw[hp,hn];show 0<=p.1+p.2.2.2[i]*p.2.1;omega
theorem abo (s:Bytes)(z:Nat):sub s 0 (if(s.length:Int)<(z:Int) then(s.length:Int) else(z:Int))=some (s.take z):=by by_cases h:(s.length:Int)<(z:Int);rw[aH h,FI,au,cO,ca (by omega)];rw[aG h,FI,au]
theorem Yu (s:Bytes)(z:Nat):sub s ((s.take z).length:Int) (s.length:Int)=some (s.drop z):=by rw[LN _ _ (by rw[aV];omega),aV];by_cases h:z<=s.length;rw[jk h];rw[Nat.min_eq_right (by omega),gN,List.drop_eq_nil_of_le (by omega)]
def aja:aB (aw iv×bO)->aB (Bool×bO×aw iv×Bool)->Prop
 |some x,r=>r=some (true,x.2,x.1,true)
 |none,r=>∃c m,r=some (c,m,[],false)
theorem IP (l:aw aI)(d:Int)(p:dD)(z:Nat)(B:bO)(hp:p.2.2.2.length<=10^9)(hl:l.length<=10^9):∀(rest pre:cc)(s:Bytes)(m:bO)(a:aw iv)(f:Nat),rest.length<f->(pre++rest).length<=1000000->a.length+rest.length<=1000000->m.length<=10^9->
 aja (wT l d p z rest s m a) (bj (lF (λ_ Cb _ Gl=>some (true,Gl,Cb,true)) (λ_ TI XT _ _ _ y23=>some (true,y23,TI,XT)) l d (z:Int) ([]:aw iv) false (pre++rest) ((pre++rest).length:Int) p B) f (s,a,(pre.length:Int),m))
 |rest,pre,s,m,a,0,hf,_,_,_=>by omega
 |[],pre,s,m,a,f+1,_,_,_,_=>by rw[bj];simp only[lF];rw[aq (by simp),af];rfl
 |b::q,pre,s,m,a,f+1,hf,hn,ha,hm=>by
  simp only[aP,ai]at hf hn ha;have hi:pre.length<(pre++b::q).length:=by simp
  have hb:(pre++b::q)[pre.length]=b:=by simp
  have hA:=VU p b;rw[bj];simp only[lF];rw[ax (by simp;omega),bB hi,hb];simp only[ah,ab,abo,Yu,KL p b hp,D9 l m d (oy p b) (s.take z) hl hm];rw[wT];cases hq:(hH l m d (oy p b) (s.take z) false).2 with
  |false=>exact⟨_,_,rfl⟩
  |true=>
   simp only[aj,af,ah];rw[ak (n:=(pre.length:Int)+1),aX (by simp only[aY];omega)];have key:=IP l d p z B hp hl q (pre++[b]) (s.drop z) (hH l m d (oy p b) (s.take z) false).1 (a++[(oy p b,((s.take z).length:Int))]) f (by omega) (by simp;omega) (by simp;omega) (by rw[lG];exact hm);have el:((pre++[b]).length:Int)=(pre.length:Int)+1:=by simp
   rw[aR,gC,el]at key;exact key
theorem ahe (l:aw aI)(m:bO)(d:Int)(p:dD)(q:cc)(s:Bytes)(z:Nat)(hp:p.2.2.2.length<=10^9)(hl:l.length<=10^9)(hm:m.length<=10^9)(hq:q.length<=1000)(h0:0<q.length): aja (wT l d p z q s m []) (pz l m d p q s (z:Int)):=by have D7:=eX;cases q with|nil=>cases h0|cons b q=>simp only[aP]at hq;have hA:=VU p b;have hi:idx (b::q) 0=some b:=rfl;unfold pz;rw[ax (by simp),ah,hi];simp only[ab,abo,Yu,KL p b hp,D9 l m d (oy p b) (s.take z) hl hm];rw[wT];cases hq':(hH l m d (oy p b) (s.take z) false).2 with|false=>exact⟨_,_,rfl⟩|true=>simp only[aj,af,ah];rw[aX (by simp),show ar (0+1)=1 from rfl];exact IP l d p z _ hp hl q [b] (s.drop z) (hH l m d (oy p b) (s.take z) false).1 [(oy p b,((s.take z).length:Int))] fuel (by omega) (by simp;omega) (by simp;omega) (by rw[lG];exact hm)
theorem Ys {ps:aw iv}{z:Int}(h0:0<ps.length)(Zc:ps.length<=16)(hp:∀x∈ps,0<=x.1/\x.1<=200000/\0<=x.2/\x.2<=4096)(hz:di z 1 128=true)(hc:di c 0 65535=true):(kJ ps z c).length=ps.length+1:=by
 have hz2:=aU.1 hz;have hc2:=aU.1 hc;have e1:oM ps=true:=by unfold oM;rw[ae,aO,aJ];refine⟨List.any_eq_false.2 λx hx=>?_,by omega⟩;have:=hp x hx;unfold CR;rw[cL,cJ,aO,Bool.eq_false_iff];intro h;exact h (aU.2 (by omega))
 have e2:([((2:Int),(0:Int),(0:Int),(0:Int),z,c)]++oV ps c ps.length).all qg=true:=by rw[List.all_append,ae];constructor;simp only[cz,List.all_nil,gQ,qg,ae,aU];omega;rw[Mb];refine aF.2 λj hj=>?_;have hj:=bG.1 hj;have:=hp _ (aK hj);simp only[dsc,cB hj,qg,ae,aU];refine⟨by omega,?_,by omega,by omega,by omega,by omega⟩;by_cases hq:j+1=ps.length;rw[aH hq];omega;rw[aG hq];omega
 unfold kJ;rw[e1,hz,e2,show((ps.length:Int)==0)=false from by rw[bM];omega];simp only[aj,cu,af,ah,ai,aY,Es];omega
theorem ZB (K:bO->Int->aB R)(l:aw aI)(d:Int)(q:cc)(ds ds2:aw rN)(t1 t2 t3 t4:eR)(m1 m2 m3:bO)(h:ds.length<=1000): bj (ic K l d q ds2 ds (ds.length:Int) t1 m1 t2 m2 t3 t4 m3) fuel (([]:bO),0)=K (ds.map kz) (ds.length:Int):=by
 have D7:=eX;refine dG (λi=>((ds.take i).map kz,(i:Int))) ds.length (by omega) (λi nx hi=>?_) (λnx=>?_);have e:((ds.take i).map kz).length<=1000:=by simp;omega
 rw[bl hi,cZ];simp only[ic];rw[jP,ah,bB hi,ab,WZ,ab,aX (by simp only[aY];omega),ak];rfl;simp only[ic];rw[cL,af,cO]
def Ap (p:aN)(z:Nat):Nat:=((lx p).1.length+z-1)/z
def Oa (l:aw aI)(m:bO)(d:Int)(t:eR)(c:Int)(n:Nat)(x:aw iv×bO):bO×eR×Bool:=
 bif (uy l x.2 d t.1 ((kJ x.1 c t.2.2.2).map kz)).2.2 then
  ((uy l x.2 d t.1 ((kJ x.1 c t.2.2.2).map kz)).1,((uy l x.2 d t.1 ((kJ x.1 c t.2.2.2).map kz)).2.1,(kv t.2.1 (n:Int)).1,t.2.2.1++[(t.2.2.2,(n:Int)+1,(kv t.2.1 (n:Int)).2.1)],tmod (t.2.2.2+1) 65536),true)
 else(m,t,false)
def IA (t:eR)(n:Nat):Bool:=(kv t.2.1 (n:Int)).2.2&&(!decide ((n:Int)>16)&&(!decide ((n:Int)+1>nG t.1)&& !decide (eS t.2.2.1+(n:Int)+1>t.1.2.1)))
def rR (l:aw aI)(m:bO)(d:Int)(t:eR)(p:aN)(c z:Int):bO×eR×Bool:=
 bif Pq t&&(dS p&&(di z 1 t.2.1.2.1&&di c 1 128)) then
  bif IA t (Ap p z.toNat) then
   match wT l d t.2.1 z.toNat (kv t.2.1 (Ap p z.toNat:Int)).2.1 (lx p).1 m []with
   |some x=>Oa l m d t c (Ap p z.toNat) x
   |none=>(m,t,false)
  else(m,t,false)
 else(m,t,false)
theorem Ss (h:dS p=true):0<(lx p).1.length/\(lx p).1.length<=378:=by have hl:=yQ p;have hs:=Zs h;unfold lx;rw[h];show 0<(nW (dE p).1 (cy 0) (cy 0)).length/\(nW (dE p).1 (cy 0) (cy 0)).length<=378;rw[Hi];omega
theorem apW (len z:Nat)(h:len<=1000)(hz:z<=1000)(h0:0<z):ar (tdiv (ar (ar ((len:Int)+(z:Int))-1)) (z:Int))=(((len+z-1)/z:Nat):Int):=by have hd:(len+z-1)/z<=len+z-1:=Nat.div_le_self ..;rw[ak (n:=(len:Int)+(z:Int)),ak (n:=(len:Int)+(z:Int)-1),show(len:Int)+(z:Int)-1=((len+z-1:Nat):Int) by omega,show tdiv ((len+z-1:Nat):Int) (z:Int)=(((len+z-1)/z:Nat):Int) from rfl];generalize (len+z-1)/z=N at hd⊢;rw[ak]
theorem abl {p:dD}(h:(kv p (n:Int)).2.2=true):dI p=true/\n<=p.2.2.2.length/\(kv p (n:Int)).2.1=p.2.2.2.take n:=by unfold kv at h⊢;cases hq:dI p&&di (n:Int) 0 (p.2.2.2.length:Int)with|false=>rw[hq]at h;cases h|true=>simp only[ae,aU]at hq;exact⟨hq.1,by omega,rfl⟩
theorem agN {z:Nat}{x:aw iv×bO}(ht:Pq t=true)(hz:z<=512)(hc:di c 1 128=true)(h0:0<n)(Zc:n<=16)(hk:(kv t.2.1 (n:Int)).2.2=true)(hx:wT l d t.2.1 z (kv t.2.1 (n:Int)).2.1 s m []=some x):x.2.length=m.length/\(kJ x.1 c t.2.2.2).length=n+1:=by
 obtain⟨hp,hn,hb⟩:=abl hk;rw[hb]at hx;obtain⟨h1,h2,h3⟩:=GF l d t.2.1 z _ _ _ _ hx;simp only[dZ,aV,cE]at h2;have e:x.1.length=n:=by omega
 refine⟨h1,?_⟩;rw[Ys (by omega) (by omega) (λy hy=>?_) hc (by simp only[Pq,ae]at ht;exact ht.2.2.1),e];rcases h3 y hy with g|⟨⟨b,iy,g⟩,g2⟩;cases g;have q1:=ajt hp (List.mem_of_mem_take iy);have q2:=VU t.2.1 b;rw[g];omega
theorem ahn (l:aw aI)(m:bO)(d:Int)(t:eR)(p:aN)(c z:Int)(hl:l.length<=10^9)(hm:m.length<=10^9)(ht:am8 t)(h1:t.2.2.1.length<=10^9)(h2:t.2.1.2.2.2.length+(bK t.2.2.1).length<=10^9):vY l m d t p c z=some (rR l m d t p c z):=by
 have D7:=eX;unfold vY rR;rw[hZ m,ab,JA t ht,ab,adp t h1 h2,ab,nn,cx,cx];simp only[ab];cases hb:Pq t;rfl;cases hp:dS p;rfl;cases hz:di z 1 t.2.1.2.1;rfl;cases hc:di c 1 128;rfl;have hT:=Ss hp;have hz2:=aU.1 hz;have hq:=hb;simp only[Pq,ae]at hq;have Gf:=BH hq.2.1;have Zc:=JX hb;have hrg:=mZ hq.1;have hnx:=aU.1 hq.2.2.1;obtain⟨z,rfl⟩:=aD (by omega:0<=z);have hzn:¬(z:Int)=0:=by omega
 have hS:∀x∈t.2.2.1,0<=x.2.1/\x.2.1<=16:=λx hx=>by have:=aF.1 hq.2.2.2.1 x hx;simp only[qG,ae,aU]at this;omega
 have hcb:=Gr _ hS;have hN:Ap p z<=1000:=by have:Ap p z<=(lx p).1.length+z-1:=Nat.div_le_self ..;omega
 have hN0:0<Ap p z:=Nat.div_pos (by omega) (by omega);have hce:=apW (lx p).1.length z (by omega) (by omega) (by omega);rw[show((lx p).1.length+z-1)/z=Ap p z from rfl]at hce;simp only[aj,af,ab,cq,ah,au,UB,aG hzn,hce,ahu _ _ (show t.2.1.2.2.2.length<=10^9 by omega),Ut,ahp t (by omega) hS,IA];rw[ak (n:=(Ap p z:Int)+1),ak (n:=eS t.2.2.1+(Ap p z:Int)),ak (n:=eS t.2.2.1+(Ap p z:Int)+1)];by_cases g1:(Ap p z:Int)>16;rw[ax g1];simp only[ah,ab,aj,eo,eM,af];rw[aq g1];simp only[bE,af,bt];cases decide ((Ap p z:Int)+1>nG t.1)with|true=>simp only[ah,ab,aj,eo,eM,af]|false=> ?_
 simp only[bE,af,bt,ab];cases decide (eS t.2.2.1+(Ap p z:Int)+1>t.1.2.1)with|true=>simp only[ah,ab,aj,eo,eM,af]|false=> ?_
 simp only[bE,af,gQ,ab];cases hk:(kv t.2.1 (Ap p z:Int)).2.2;rfl;simp only[aj,af,ah,hZ m (show m.length<=1073741824 by omega),ab];obtain⟨_,hkn,Ui⟩:=abl hk;have S6:(kv t.2.1 (Ap p z:Int)).2.1.length=Ap p z:=by rw[Ui,aV];omega
 have key:=ahe l m d t.2.1 (kv t.2.1 (Ap p z:Int)).2.1 (lx p).1 z (by omega) hl hm (by omega) (by omega);cases hx:wT l d t.2.1 z (kv t.2.1 (Ap p z:Int)).2.1 (lx p).1 m []with
 |none=>rw[hx]at key;obtain⟨a,b,e⟩:=key;obtain⟨f,g,_⟩:=Fi [] c t.2.2.2 (by simp);rw[e,ab];simp only[g,ab];cases a<;>cases f<;>rfl
 |some x=>
  rw[hx]at key;have key:pz _ _ _ _ _ _ _=_:=key;obtain⟨x1,x2⟩:=agN hb (by omega) hc hN0 (by omega) hk hx;obtain⟨_,x3,_⟩:=GF l d t.2.1 z _ _ _ _ hx;simp only[dZ]at x3;obtain⟨f,g,hf⟩:=Fi x.1 c t.2.2.2;have hft:f=true:=by cases f with|true=>rfl|false=>have:=hf rfl;rw[this]at x2;cases x2
  subst hft;simp only[key,g,ab,ah,aj,af,aG (show¬(kJ x.1 c t.2.2.2).length=0 by omega),Oa];rw[ZB _ _ _ _ _ _ _ _ _ _ _ _ _ (by omega)];simp only[adl l x.2 d t.1 _ hl (by omega) (show((kJ x.1 c t.2.2.2).map kz).length<=10^9 by rw[bF];omega),ab];cases (uy l x.2 d t.1 ((kJ x.1 c t.2.2.2).map kz)).2.2 with|false=>rfl|true=>simp only[aj,af,ab,ah];rw[aX (by simp only[aY];omega),lI,ak,x2];rfl
def XI (g:Nat->Host->Host):Nat->Host->Host
 |0,h=>h
 |k+1,h=>g k (XI g k h)
structure Dh (a b:Host):Prop where
 maps:b.2.1=a.2.1
 tx:b.2.2.1=a.2.2.1
 rx:b.2.2.2.1.length=a.2.2.2.1.length
 pl:b.2.2.2.2.1.length=a.2.2.2.2.1.length
 vec:b.2.2.2.2.2.1=a.2.2.2.2.2.1
 pol:b.2.2.2.2.2.2.1=a.2.2.2.2.2.2.1
 ret:b.2.2.2.2.2.2.2.2.2.2.2.2.2.1=a.2.2.2.2.2.2.2.2.2.2.2.2.2.1
theorem Dh.refl (a:Host):Dh a a:=⟨rfl,rfl,rfl,rfl,rfl,rfl,rfl⟩
theorem Dh.trans {a b c:Host}(h:Dh a b)(k:Dh b c):Dh a c:=⟨k.1.trans h.1,k.2.trans h.2,k.3.trans h.3,k.4.trans h.4,k.5.trans h.5,k.6.trans h.6,k.7.trans h.7⟩
theorem N2 (h:Host)(i:Nat)(c:Int):Dh h (wM h i c).2:=by unfold wM;rcases h1:h.2.2.2.1[i]? with _|rx;exact Dh.refl h;rcases h2:h.2.2.2.2.1[i]? with _|pl;exact Dh.refl h;exact⟨rfl,rfl,az ..,az ..,rfl,rfl,rfl⟩
def mX (h:Host)(k:Nat):Host:=XI (λi s=>(wM s i 1000).2) k h
theorem Fu (hn:128<=n)(z:dC n dT h):∀k,Dh h (mX h k)/\dC (n+322000*k) dT (mX h k)
 |0=>⟨Dh.refl h,z⟩
 |k+1=>by have i:=Fu hn z k;exact⟨i.1.trans (N2 ..),(ad6 (by omega) k 1000 i.2).mono⟩
def aaQ (h:Host)(l:cc):Host:=(h.1,h.2.1,h.2.2.1,h.2.2.2.1,h.2.2.2.2.1,h.2.2.2.2.2.1,h.2.2.2.2.2.2.1,h.2.2.2.2.2.2.2.1,h.2.2.2.2.2.2.2.2.1,h.2.2.2.2.2.2.2.2.2.1,h.2.2.2.2.2.2.2.2.2.2.1,h.2.2.2.2.2.2.2.2.2.2.2.1,h.2.2.2.2.2.2.2.2.2.2.2.2.1,h.2.2.2.2.2.2.2.2.2.2.2.2.2.1++l,h.2.2.2.2.2.2.2.2.2.2.2.2.2.2)
def XR (h:Host):Host:=(h.1,h.2.1,(Bm.1,Bm.2.1,Bm.2.2.1,h.2.2.1.2.2.2),h.2.2.2)
def Hc (h:Host)(i:Nat)(dr:Int):Host:=
 ((kZ h.2.1 h.1 i).1,h.2.1,h.2.2.1,h.2.2.2.1.set i ((kZ h.2.1 h.1 i).2.1,(CX i).2.1,(CX i).2.2.1,(CX i).2.2.2.1,(CX i).2.2.2.2.1,dr),h.2.2.2.2.1.set i (kZ h.2.1 h.1 i).2.2.1,h.2.2.2.2.2)
def F2 (x:bL):Int:=bif x.2.2.2.2.1 then ar (x.2.2.2.2.2+x.2.2.2.1.2.2) else x.2.2.2.2.2
def wN (i:Nat)(h:Host):Host:=
 match h.2.2.2.1[i]?,h.2.2.2.2.2.1[i]? with
 |some x,some v=>((Hc h i (F2 x)).1,h.2.1,h.2.2.1,(Hc h i (F2 x)).2.2.2.1,(Hc h i (F2 x)).2.2.2.2.1,h.2.2.2.2.2.1.set i (v.1,v.2.1,0,0,false,false),h.2.2.2.2.2.2.1.set i false,h.2.2.2.2.2.2.2)
 |_,_=>h
structure aoD (k:Nat) (a b:Host):Prop where
 mem:b.1.length=a.1.length
 maps:b.2.1=a.2.1
 rx:b.2.2.2.1.length=a.2.2.2.1.length
 pl:b.2.2.2.2.1.length=a.2.2.2.2.1.length
 vec:b.2.2.2.2.2.1.length=a.2.2.2.2.2.1.length
 abx:∀j,k<=j->b.2.2.2.2.2.1[j]?=a.2.2.2.2.2.1[j]?
 pol:b.2.2.2.2.2.2.1.length=a.2.2.2.2.2.2.1.length
theorem UR (l:aw aI)(m:bO)(i:Nat):(kZ l m i).1.length=m.length:=by unfold kZ;rw[afc,lG]
theorem aaP (i:Nat)(h:Host):aoD (i+1) h (wN i h):=by unfold wN;rcases h1:h.2.2.2.1[i]? with _|x;exact⟨rfl,rfl,rfl,rfl,rfl,λ_ _=>rfl,rfl⟩;rcases h2:h.2.2.2.2.2.1[i]? with _|v;exact⟨rfl,rfl,rfl,rfl,rfl,λ_ _=>rfl,rfl⟩;have e1:(Hc h i (F2 x)).1.length=h.1.length:=UR h.2.1 h.1 i;exact⟨e1,rfl,az ..,az ..,az ..,λj hj=>aE (by omega),az ..⟩
def iQ (h:Host)(k:Nat):Host:=XI wN k h
theorem rJ (h:Host):∀k,aoD k h (iQ h k)
 |0=>⟨rfl,rfl,rfl,rfl,rfl,λ_ _=>rfl,rfl⟩
 |k+1=>by have a:=rJ h k;have b:=aaP k (iQ h k);exact⟨b.mem.trans a.mem,b.maps.trans a.maps,b.rx.trans a.rx,b.pl.trans a.pl,b.vec.trans a.vec,λj hj=>(b.abx j hj).trans (a.abx j (by omega)),b.pol.trans a.pol⟩
theorem ah5 (hn:1000<=n)(i:Nat)(d:Int)(z:dC n dT h):dC n dT (Hc h i d):=by unfold Hc kZ;have h4:=qC (gR i+128) 384 4;have hf:=Jr h.2.1 (hH h.2.1 h.1 0 (gR i) (sK 128) false).1 0 (gR i,4,0,0) (gK (gR i+128) 384 4).1;refine⟨T3 (by omega) (Hh (by omega) z.1 ..) ..,z.2.1,z.2.2.1,nT z.2.2.2.1 ?_,nT z.2.2.2.2.1 ?_,z.2.2.2.2.2⟩;refine⟨⟨cG,cG,cG,cG⟩,⟨cG,cG,cG⟩,⟨cG,cG,cG⟩,⟨⟨cG,cG,cG,cG,cG,cG,cG,cG,cG,cG,cG,cG,cG,cG,cG,?_⟩,cG,cG⟩,cG,cG⟩;exact cd _;exact⟨cG,cG,cG,by show List.length _<=_;omega,λ_ _=>trivial⟩
theorem aef (hn:1000<=n)(i:Nat)(z:dC n dT h):dC n dT (wN i h):=by unfold wN;rcases h1:h.2.2.2.1[i]? with _|x;exact z;rcases h2:h.2.2.2.2.2.1[i]? with _|v;exact z;have zo:=ah5 hn i (F2 x) z;exact⟨zo.1,z.2.1,z.2.2.1,zo.2.2.2.1,zo.2.2.2.2.1,nT z.2.2.2.2.2.1 ⟨cG,cG,cG,cG,cG,cG⟩,nT z.2.2.2.2.2.2.1 trivial,z.2.2.2.2.2.2.2⟩
theorem Fy (hn:1000<=n)(z:dC n dT h):∀k,dC n dT (iQ h k)
 |0=>z
 |k+1=>aef hn k (Fy hn z k)
def M6 (W:aw qc)(i:Nat)(s:Host):Host:=match W[i]? with|some x=>aaQ s [x.1]|none=>s
def kj (h:Host):Host:=mX h h.2.2.2.1.length
def returned (h:Host)(k:Nat):Host:=XI (M6 h.2.2.1.2.2.1) k (kj h)
structure aoE (a b:Host):Prop where
 e:b=(a.1,a.2.1,a.2.2.1,a.2.2.2.1,a.2.2.2.2.1,a.2.2.2.2.2.1,a.2.2.2.2.2.2.1,a.2.2.2.2.2.2.2.1,a.2.2.2.2.2.2.2.2.1,a.2.2.2.2.2.2.2.2.2.1,a.2.2.2.2.2.2.2.2.2.2.1,a.2.2.2.2.2.2.2.2.2.2.2.1,a.2.2.2.2.2.2.2.2.2.2.2.2.1,b.2.2.2.2.2.2.2.2.2.2.2.2.2.1,a.2.2.2.2.2.2.2.2.2.2.2.2.2.2)
theorem AF (z:dC n dT (kj h)):∀k,aoE (kj h) (returned h k)/\(returned h k).2.2.2.2.2.2.2.2.2.2.2.2.2.1.length<=n+k
 |0=>⟨⟨rfl⟩,by have:=z.2.2.2.2.2.2.2.2.2.2.2.2.2.1.1;exact bq this (by omega)⟩
 |k+1=>by have i:=AF z k;have e:returned h (k+1)=M6 h.2.2.1.2.2.1 k (returned h k):=rfl;rw[e];unfold M6;cases h.2.2.1.2.2.1[k]? with|none=>exact⟨i.1,bq i.2 (by omega)⟩|some x=>refine⟨⟨?_⟩,?_⟩;show aaQ _ _=_;have e:=i.1.e;generalize returned h k=r at e⊢;rw[e];rfl;show(_++[_]).length<=_;rw[ai,aY];omega
theorem Xv (z:dC n dT (kj h))(k:Nat):dC (n+k) dT (returned h k):=by have i:=AF z k;have z':dC (n+k) dT (kj h):=z.mono;rw[i.1.e];exact⟨z'.1,z'.2.1,z'.2.2.1,z'.2.2.2.1,z'.2.2.2.2.1,z'.2.2.2.2.2.1,z'.2.2.2.2.2.2.1,z'.2.2.2.2.2.2.2.1,z'.2.2.2.2.2.2.2.2.1,z'.2.2.2.2.2.2.2.2.2.1,z'.2.2.2.2.2.2.2.2.2.2.1,z'.2.2.2.2.2.2.2.2.2.2.2.1,z'.2.2.2.2.2.2.2.2.2.2.2.2.1,⟨i.2,λ_ _=>trivial⟩,z'.2.2.2.2.2.2.2.2.2.2.2.2.2.2⟩
theorem abr (hn:1000<=n)(z:dC n dT h):dC n dT (XR h):=by have h4:=qC 256 128 8;exact⟨z.1,z.2.1,⟨⟨cG,cG,cG,cG⟩,⟨cG,cG,cG,by show List.length (gK 256 128 8).1.2.2.2<=n;omega,λ_ _=>trivial⟩,⟨cd _,λx hx=>by cases hx⟩,cG⟩,z.2.2.2⟩
def jq (h:Host):Host:=XR (returned h h.2.2.1.2.2.1.length)
def qF (h:Host):Host:=bif eT h then iQ (jq h) h.2.2.2.1.length else h
theorem QM (hb:eT h=true):tu h=true:=by simp only[eT,ae]at hb;exact hb.2.2.2.2.1
theorem Nt (hn:1000<=n)(z:dC n dT h)(hl:h.2.2.2.1.length<=2):dC (n+644000+h.2.2.1.2.2.1.length) dT (jq h):=by have hp:=Fu (by omega) z h.2.2.2.1.length;exact abr (by omega) (Xv (hp.2.mono) _)
theorem as8 (l:aw aI)(X:bO)(q:bL)(P:dD)(o:bO×lZ×dD×Int)(k:bL×dD->bO×lZ×dD×Int->aB R)(h:ju l X 0 q.1 P=some o):(aa (ju l X 0 (q,P).1.1 (q,P).2) λTr=>k (q,P) Tr)=k (q,P) o:=by show aa (ju l X 0 q.1 P) (λTr=>k (q,P) Tr)=k (q,P) o;rw[h,ab]
theorem Uu (l:aw aI)(m:bO)(i:Nat)(hi:i<=8)(hl:l.length<=10^9)(hm:m.length<=10^9)(k:bL×dD->bO×lZ×dD×Int->aB R): (aa (tq (i:Int)) λCV=>aa (qh 0 128) λXs=>aa (kO l m 0 CV Xs) λCk=>aa (yU (i:Int)) λEZ=>aa (ju l Ck.1 0 EZ.1.1 EZ.2) λTr=>k EZ Tr)=k (CX i,(gK (gR i+128) 384 4).1) (kZ l m i):=by
 have hb:gR i=1280+(i:Int)*1792:=rfl;have Uh:gR i<=9223372036854775807:=by omega
 have hz:qh 0 128=some (sK 128):=afq 128;have hf:=ZC l (hH l m 0 (gR i) (sK 128) false).1 0 (gR i,4,0,0) (gK (gR i+128) 384 4).1 hl (by rw[lG];exact hm) (bq (qC (gR i+128) 384 4) (by omega));rw[Zw i hi,ab,hz,ab,D9 l m 0 (gR i) (sK 128) hl hm Uh,ab,ahl i hi,ab];exact as8 l _ (CX i) _ (kZ l m i) k hf
theorem Tc (K:Int->Host->aB Host)(s0 B:Host)(N:Nat)(hN:N<=2)(h1:s0.2.2.2.1.length=N)(h2:s0.2.2.2.2.1.length=N)(h3:s0.2.2.2.2.2.1.length=N)(h4:s0.2.2.2.2.2.2.1.length=N)(z:dC 900000000 dT s0): bj (mH K (N:Int) B) fuel (0,s0)=K (N:Int) (iQ s0 N):=by
 refine dG (λi=>((i:Int),iQ s0 i)) N (by omega) (λi nx hi=>?_) (λnx=>?_);have kr:=rJ s0 i;have zr:=Fy (by omega) z i;have z1:(iQ s0 i).1.length<=10^9:=bq zr.1.1 (by omega);have z2:(iQ s0 i).2.1.length<=10^9:=bq zr.2.1.1 (by omega);have i1:i<(iQ s0 i).2.2.2.1.length:=by rw[kr.rx,h1];exact hi
 have i2:i<(iQ s0 i).2.2.2.2.1.length:=by rw[kr.pl,h2];exact hi
 have i3:i<(iQ s0 i).2.2.2.2.2.1.length:=by rw[kr.vec,h3];exact hi
 have i4:i<(iQ s0 i).2.2.2.2.2.2.1.length:=by rw[kr.pol,h4];exact hi
 rw[show iQ s0 (i+1)=wN i (iQ s0 i) from rfl];generalize iQ s0 i=s at z1 z2 i1 i2 i3 i4⊢;unfold wN F2 Hc;simp only[al i1,al i3];simp only[mH];rw[jP,ah];simp only[bB i1,ab];rw[Uu s.2.1 s.1 i (by omega) z2 z1,Uu s.2.1 s.1 i (by omega) z2 z1];generalize CX i=q;generalize kZ s.2.1 s.1 i=o;simp only[bB i1,bB i2,bB i3,bB i4,ab];rw[ak (n:=(i:Int)+1),au];cases s.2.2.2.1[i].2.2.2.2.1<;>rfl;simp only[mH];rw[cL,af]
theorem Wq (hq:Dh h (kj h))(hz:dC n dT (kj h)):(jq h).2.2.2.1.length=h.2.2.2.1.length/\(jq h).2.2.2.2.1.length=h.2.2.2.2.1.length/\(jq h).2.2.2.2.2.1=h.2.2.2.2.2.1/\(jq h).2.2.2.2.2.2.1=h.2.2.2.2.2.2.1:=by have er:=(AF hz h.2.2.1.2.2.1.length).1.e;refine⟨?_,?_,?_,?_⟩;show(returned h h.2.2.1.2.2.1.length).2.2.2.1.length=_;rw[er];exact hq.rx;show(returned h h.2.2.1.2.2.1.length).2.2.2.2.1.length=_;rw[er];exact hq.pl;show(returned h h.2.2.1.2.2.1.length).2.2.2.2.2.1=_;rw[er];exact hq.vec;show(returned h h.2.2.1.2.2.1.length).2.2.2.2.2.2.1=_;rw[er];exact hq.pol
theorem IS (h:Host)(k:Py h)(z:dC 100000000 dT h):tf h=some (qF h):=by
 have D7:=eX;unfold tf qF;rw[kA h (z.mono),ab,xB h k,ab];cases hb:eT h;rfl;have hl:=oK (QM hb);have hw:h.2.2.1.2.2.1.length<=100000000:=z.2.2.1.2.2.1.1;have hp:=Fu (n:=100000000) (by omega) z;simp only[aj,af,ah];refine dG (λi=>((i:Int),mX h i)) h.2.2.2.1.length (by omega) (λi nx hi=>?_) (λnx=>?_);simp only[sk];rw[jP,ah,W4 (mX h i) i 1000 (by rw[(hp i).1.rx];exact hi) (by rw[(hp i).1.pl];omega) ((hp i).2.mono),ab,ak];rfl;simp only[sk];rw[cL,af];have hq:=hp h.2.2.2.1.length;have hr:=AF (n:=100000000+322000*h.2.2.2.1.length) hq.2;have e1:(mX h h.2.2.2.1.length).2.2.1.2.2.1=h.2.2.1.2.2.1:=by rw[hq.1.tx]
 rw[e1];refine dG (λi=>((i:Int),returned h i)) h.2.2.1.2.2.1.length (by omega) (λi nx hi=>?_) (λnx=>?_);have hri:=(hr i).2;simp only[qp];rw[jP,ah,bB hi,ab,aX (by rw[aY];omega),ak];rw[show returned h (i+1)=M6 h.2.2.1.2.2.1 i (returned h i) from rfl,M6,al hi];rfl;simp only[qp];rw[cL,af];simp only[ahy,ab];have hE:=Nt (n:=100000000) (by omega) z hl.1;have hk:=Wq hq.1 hq.2;have eN:((List.length (returned h h.2.2.1.2.2.1.length).2.2.2.1:Nat):Int)=(h.2.2.2.1.length:Int):=congrArg Nat.cast hk.1;rw[eN];exact Tc _ (jq h) _ h.2.2.2.1.length hl.1 hk.1 (hk.2.1.trans hl.2.1) (by rw[hk.2.2.1];exact hl.2.2.1) (by rw[hk.2.2.2];exact hl.2.2.2) (hE.mono)
def uQ (x:Iv):Bool:=di x.1 0 65535&&(di x.2.1 0 65535&&(di x.2.2.1 0 65535&&(di x.2.2.2.1 0 65535&&di x.2.2.2.2 0 4294967295)))
theorem Up (x:Iv):nL x=some (uQ x):=by simp only[nL,cx,ab,bQ,cF,uQ]
def Ko (x:Iv)(p:Int):Bytes:=bif uQ x&&di p 0 1 then((((cy x.1++cy x.2.1)++cy x.2.2.1)++cy x.2.2.2.1)++gz x.2.2.2.2)++gz p else []
theorem akY (x:Iv)(p:Int):mS x p=some (Ko x p):=by have h1:=bT x.1;have h2:=bT x.2.1;have h3:=bT x.2.2.1;have h4:=bT x.2.2.2.1;have h5:=dU x.2.2.2.2;have h6:=dU p;unfold mS Ko;simp only[Up,cx,ab,mF,wJ];cases uQ x;rfl;cases di p 0 1;rfl;simp only[aj,af,ab,cq,ah];rw[aX,aX (by simp only[ai];omega),aX (by simp only[ai];omega),aX (by simp only[ai];omega),aX (by simp only[ai];omega)]
def uN (l:aw aI)(m:bO)(d:Int)(q:uW)(x:Iv):bO×uW×Bool:=
 bif !gL q|| !uQ x then(m,q,false) else
 bif !(hH l m d (tD q) (Ko x (Bd q)) true).2 then(m,q,false) else
 ((hH l m d (tD q) (Ko x (Bd q)) true).1,(q.1,q.2.1,tmod (q.2.2+1) (2*q.2.1)),true)
theorem ak7 (l:aw aI)(m:bO)(d:Int)(q:uW)(x:Iv)(hl:l.length<=10^9)(hm:m.length<=10^9):qu l m d q x=some (uN l m d q x):=by unfold qu uN;simp only[Mu,Up,ab,hZ m (show m.length<=1073741824 by omega),Uv,akY];cases hq:gL q;rfl;have h:=ym hq;have hs:=XC hq;cases uQ x;rfl;simp only[aj,af,ab,cu,Uz q hq,Fj l m d _ _ hl hm (show tD q<=9223372036854775807 by unfold tD;omega)];cases hp:(hH l m d (tD q) (Ko x (Bd q)) true).2 with|false=>simp only[bE,ah,M0 hp]|true=>simp only[aj,af];rw[ak (n:=2*q.2.1),lI,ak (n:=q.2.2+1)]
theorem aio (hn:128<=n)(z:dC n (.sl .str) m)(l:aw aI)(d:Int)(q:uW)(x:Iv):dC n (.sl .str) (uN l m d q x).1/\(uN l m d q x).1.length=m.length:=by
 unfold uN;cases !gL q|| !uQ x;case true=>exact⟨z,rfl⟩
 cases (hH l m d (tD q) (Ko x (Bd q)) true).2 with|false=>exact⟨z,rfl⟩|true=>exact⟨Hh hn z ..,lG ..⟩
theorem afI {q:uW}{x:Iv}(h:gL q=true):gL (uN l m d q x).2.1=true/\(uN l m d q x).2.1.1=q.1/\(uN l m d q x).2.1.2.1=q.2.1:=by
 have hq:=ym h;unfold uN;cases !gL q|| !uQ x;case true=>exact⟨h,rfl,rfl⟩
 cases (hH l m d (tD q) (Ko x (Bd q)) true).2 with|false=>exact⟨h,rfl,rfl⟩|true=>refine⟨?_,rfl,rfl⟩;have e:=XQ (a:=q.2.2+1) (b:=2*q.2.1);simp only[af,aj,gL,ae,aU]at h⊢;refine⟨h.1,h.2.1,?_⟩;rw[yY h.2.1];omega
def ik (l:aw aI)(m:bO)(d:Int)(q:bL)(k:Bytes)(s:Bytes):bO×uW×Bool:=
 bif !(cV s).2||(((cV s).1.1 !=3)||decide ((cV s).1.2.2.1<((dE q.2.2.2.1.1).1.length:Int))) then(m,q.2.1,false) else
 bif !(hH l m d (cV s).1.2.2.2.1 (dE q.2.2.2.1.1).1 true).2 then(m,q.2.1,false) else
 uN l (hH l m d (cV s).1.2.2.2.1 (dE q.2.2.2.1.1).1 true).1 d q.2.1 ((cV s).1.2.2.2.2.2,((dE q.2.2.2.1.1).1.length:Int),q.2.2.2.1.2.1,q.2.2.2.1.2.2,wW k (rO (lN q.2.2.2.1.1)))
theorem aht (l:aw aI)(m:bO)(d:Int)(q:bL)(k s:Bytes)(hl:l.length<=10^9)(hm:m.length<=10^9)(hs:s.length<=10^9)(hh:dS q.2.2.2.1.1=true):∃b,yd l m d q k s=some (b,ik l m d q k s)/\(b=false->ik l m d q k s=(m,q.2.1,false)):=by
 unfold yd ik;have oz:=acG (s:=s);simp only[Zz s hs,EC,ab,H3 hh];generalize cV s=x at oz⊢;cases hx:x.2;exact⟨false,rfl,λ_=>rfl⟩;have hd:=oz hx;simp only[qg,ae,aU]at hd;cases x.1.1 !=3;case true=>exact⟨false,rfl,λ_=>rfl⟩
 cases decide (x.1.2.2.1<((dE q.2.2.2.1.1).1.length:Int));case true=>exact⟨false,rfl,λ_=>rfl⟩
 simp only[aj,af,ab,cu,Fj l m d _ _ hl hm (show x.1.2.2.2.1<=9223372036854775807 by omega)];cases (hH l m d x.1.2.2.2.1 (dE q.2.2.2.1.1).1 true).2;exact⟨false,rfl,λ_=>rfl⟩;simp only[aj,af,QY,ab,KO,ak7 l _ d _ _ hl (show(hH l m d x.1.2.2.2.1 (dE q.2.2.2.1.1).1 true).1.length<=10^9 by rw[lG];exact hm)];exact⟨true,rfl,λh=>by cases h⟩
theorem Vq (hn:128<=n){k:Bytes}(z:dC n (.sl .str) m)(hq:gL q.2.1=true): dC n (.sl .str) (ik l m d q k s).1/\(ik l m d q k s).1.length=m.length/\gL (ik l m d q k s).2.1=true/\(ik l m d q k s).2.1.1=q.2.1.1/\(ik l m d q k s).2.1.2.1=q.2.1.2.1:=by
 unfold ik;cases !(cV s).2||(((cV s).1.1 !=3)||decide ((cV s).1.2.2.1<((dE q.2.2.2.1.1).1.length:Int)));case true=>exact⟨z,rfl,hq,rfl,rfl⟩
 cases (hH l m d (cV s).1.2.2.2.1 (dE q.2.2.2.1.1).1 true).2;exact⟨z,rfl,hq,rfl,rfl⟩;have h1:=Hh hn z l d (cV s).1.2.2.2.1 (dE q.2.2.2.1.1).1 true;have h2:=lG l m d (cV s).1.2.2.2.1 (dE q.2.2.2.1.1).1 true;generalize (hH l m d (cV s).1.2.2.2.1 (dE q.2.2.2.1.1).1 true).1=w at h1 h2;have h3:=aio hn h1 l d q.2.1 ((cV s).1.2.2.2.2.2,((dE q.2.2.2.1.1).1.length:Int),q.2.2.2.1.2.1,q.2.2.2.1.2.2,wW k (rO (lN q.2.2.2.1.1)));have h4:=afI (l:=l) (m:=w) (d:=d) (x:=((cV s).1.2.2.2.2.2,((dE q.2.2.2.1.1).1.length:Int),q.2.2.2.1.2.1,q.2.2.2.1.2.2,wW k (rO (lN q.2.2.2.1.1)))) hq;exact⟨h3.1,h3.2.trans h2,h4⟩
def iH (l:aw aI)(m:bO)(d:Int)(q:bL)(k:Bytes):bO×bL:=
 bif !Gj q||(!q.2.2.2.2.1||((k.length:Int) !=16)) then(m,q) else
 bif (bC l m d q.1).2.2&&(ik l m d q k (bC l m d q.1).1).2.2 then
  ((ik l m d q k (bC l m d q.1).1).1,(bC l m d q.1).2.1,(ik l m d q k (bC l m d q.1).1).2.1,q.2.2.1,aiY,false,q.2.2.2.2.2)
 else(m,(bC l m d q.1).2.1,q.2.1,q.2.2.1,aiY,false,ar (q.2.2.2.2.2+q.2.2.2.1.2.2))
theorem abm (h:(bC l m d r).2.2=false):(bC l m d r).2.1=r:=by
 unfold bC at h⊢;cases hc: !dH r||(bS r==0);case true=>rfl
 cases hd:(qS l m d (mh r r.2.2.1) 16).2 with|false=>rfl|true=>rw[hc,hd]at h;cases h
theorem ER (h:Gj q=true):gL q.2.1=true/\(q.2.2.2.2.1=true->dS q.2.2.2.1.1=true):=by unfold Gj at h;simp only[ae]at h;refine⟨h.1.2.1,λhh=>?_⟩;have h2:=h.2;rw[hh]at h2;simp only[ah,ae]at h2;exact h2.1
theorem Mt (l:aw aI)(m:bO)(d:Int)(q:bL)(k:Bytes)(hl:l.length<=10^9)(hm:m.length<=10^9):pj l m d q k=some (iH l m d q k):=by
 have ht:=Jc l m d q.1;have H0:=abm (l:=l) (m:=m) (d:=d) (r:=q.1);unfold pj iH;simp only[Q4,ab,hZ m (show m.length<=1073741824 by omega),KX l m d q.1 hl hm];cases hr:Gj q;rfl;cases hh:q.2.2.2.2.1;rfl;cases (k.length:Int) !=16;case true=>rfl
 obtain⟨b,hb,Uh⟩:=aht l m d q k (bC l m d q.1).1 hl hm (by omega) ((ER hr).2 hh);simp only[aj,af,ab,cu,hb];generalize ik l m d q k (bC l m d q.1).1=s at hb Uh⊢;cases hk:(bC l m d q.1).2.2 with|false=>rw[H0 hk];rfl|true=>?_
 cases b with|true=>cases hs:s.2.2<;>rfl|false=>rw[Uh rfl];rfl
theorem HR (hn:128<=n){k:Bytes}(z:dC n (.sl .str) m)(zq:dC n fA q): dC n (.sl .str) (iH l m d q k).1/\(iH l m d q k).1.length=m.length/\dC n fA (iH l m d q k).2/\(Gj q=true->gL (iH l m d q k).2.2.1=true/\(iH l m d q k).2.2.1.2.1=q.2.1.2.1):=by
 unfold iH;cases hc: !Gj q||(!q.2.2.2.2.1||((k.length:Int) !=16));case true=>exact⟨z,rfl,zq,λh=>⟨(ER h).1,rfl⟩⟩
 simp only[cA,eF]at hc;have hq:=(ER hc.1).1;have hs:=Vq hn (l:=l) (d:=d) (k:=k) (s:=(bC l m d q.1).1) z hq;have e0:dC n fA ((bC l m d q.1).2.1,(ik l m d q k (bC l m d q.1).1).2.1,q.2.2.1,aiY,false,q.2.2.2.2.2):=⟨⟨cG,cG,cG,cG⟩,⟨cG,cG,cG⟩,⟨cG,cG,cG⟩,⟨⟨cG,cG,cG,cG,cG,cG,cG,cG,cG,cG,cG,cG,cG,cG,cG,cd _⟩,cG,cG⟩,cG,cG⟩
 cases (bC l m d q.1).2.2&&(ik l m d q k (bC l m d q.1).1).2.2 with|true=>exact⟨hs.1,hs.2.1,e0,λ_=>⟨hs.2.2.1,hs.2.2.2.2⟩⟩|false=>exact⟨z,rfl,⟨⟨cG,cG,cG,cG⟩,⟨cG,cG,cG⟩,⟨cG,cG,cG⟩,⟨⟨cG,cG,cG,cG,cG,cG,cG,cG,cG,cG,cG,cG,cG,cG,cG,cd _⟩,cG,cG⟩,cG,cG⟩,λ_=>⟨hq,rfl⟩⟩
def evS (k:Nat)(h:Host):Host:=
 match h.2.2.2.2.2.1[k]? with
 |some v=>(h.1,h.2.1,h.2.2.1,h.2.2.2.1,h.2.2.2.2.1,h.2.2.2.2.2.1.set k (evV v),h.2.2.2.2.2.2)
 |none=>h
def evH (k:Nat):Nat->Host->Host
 |0,h=>h
 |i+1,h=>evS k (evH k i h)
theorem akk (k:Nat)(h:Host):mz (k+1) h (evS k h):=by unfold evS;cases h.2.2.2.2.2.1[k]? with|none=>exact mz.refl _ _|some v=>exact⟨rfl,rfl,rfl,rfl,λ_ _=>rfl,rfl,az ..,λj hj=>aE (by omega),rfl,rfl,rfl⟩
theorem Qe (k:Nat)(h:Host):∀i,mz (k+1) h (evH k i h)
 |0=>mz.refl _ _
 |i+1=>(Qe k h i).trans (akk k _)
theorem anq (k:Nat)(z:dC n dT h):dC n dT (evS k h):=by unfold evS;cases h.2.2.2.2.2.1[k]? with|none=>exact z|some v=>exact⟨z.1,z.2.1,z.2.2.1,z.2.2.2.1,z.2.2.2.2.1,Ps z.2.2.2.2.2.1,z.2.2.2.2.2.2⟩
theorem ae9 (k:Nat)(z:dC n dT h):∀i,dC n dT (evH k i h)
 |0=>z
 |i+1=>anq k (ae9 k z i)
theorem ac6 (h:Host)(k:Nat)(b:Int)(h1:k<h.2.2.2.1.length)(h2:k<h.2.2.2.2.2.1.length)(hq:gL h.2.2.2.1[k].2.1=true)(hb:0<=b/\b<=31):mK h (k:Int) b=some ((),evH k ((h.2.2.2.1[k].2.1.2.2-b)%(2*h.2.2.2.1[k].2.1.2.1)).toNat h):=by
 have D7:=eX;have q:=ym hq;unfold mK;rw[bB h1,ab];generalize h.2.2.2.1[k]=x at q⊢;rw[ak (n:=x.2.1.2.2-b),ak (n:=2*x.2.1.2.1),MM _ _,ab];have hm:0<=(x.2.1.2.2-b)%(2*x.2.1.2.1)/\(x.2.1.2.2-b)%(2*x.2.1.2.1)<32:=by have g1:=fV (x.2.1.2.2-b) (show 2*x.2.1.2.1≠0 by omega);have g2:=fY (x.2.1.2.2-b) (show 0<2*x.2.1.2.1 by omega);omega
 generalize (x.2.1.2.2-b)%(2*x.2.1.2.1)=c at hm⊢;obtain⟨c,rfl⟩:=aD hm.1;rw[au];have e0:((c:Int),h)=(((c:Int)-((0:Nat):Int)),evH k 0 h):=by simp[evH]
 rw[e0];refine dG (λi=>((c:Int)-(i:Int),evH k i h)) c (by omega) (λi nx hi=>?_) (λnx=>?_);have kk:=Qe k h i;have i1:k<(evH k i h).2.2.2.2.2.1.length:=by rw[kk.vec];exact h2
 rw[show evH k (i+1) h=evS k (evH k i h) from rfl];generalize evH k i h=s at i1⊢;simp only[sv,evS];rw[jP,ah,al i1];simp only[bB i1,ab,ahb,au];rw[ak,show(c:Int)-(i:Int)-1=(c:Int)-((i+1:Nat):Int) by omega];simp only[sv];rw[cL,af]
def I1 (h:Host)(k:Nat)(f:bO×bL):Host:=(f.1,h.2.1,h.2.2.1,h.2.2.2.1.set k f.2,h.2.2.2.2)
def C9 (h:Host)(k:Nat)(b:Int)(f:bO×bL):Host:=evH k ((f.2.2.1.2.2-b)%(2*f.2.2.1.2.1)).toNat (I1 h k f)
def jY (k:Nat)(h:Host):Host:=
 match h.2.2.2.1[k]? with
 |some x=>C9 h k x.2.1.2.2 (iH h.2.1 h.1 0 x h.2.2.2.2.2.2.2.2.1.2.2.1)
 |none=>h
theorem HD (hf:f.1.length=h.1.length):mz (k+1) h (C9 h k b f):=by
 have a:mz (k+1) h (I1 h k f):=⟨hf,rfl,rfl,az ..,λj hj=>aE (by omega),rfl,rfl,λ_ _=>rfl,rfl,rfl,rfl⟩
 exact a.trans (Qe k (I1 h k f) _)
theorem Sy (z:dC n dT h)(h1:dC n (.sl .str) f.1)(h2:dC n fA f.2):dC n dT (C9 h k b f):=by
 have a:dC n dT (I1 h k f):=⟨h1,z.2.1,z.2.2.1,nT z.2.2.2.1 h2,z.2.2.2.2⟩
 exact ae9 k a _
theorem YN {k:Bytes}:(iH l m d q k).1.length=m.length:=by
 have hs:(ik l m d q k (bC l m d q.1).1).1.length=m.length:=by
  unfold ik;cases !(cV (bC l m d q.1).1).2||(((cV (bC l m d q.1).1).1.1 !=3)||decide ((cV (bC l m d q.1).1).1.2.2.1<((dE q.2.2.2.1.1).1.length:Int)));case true=>rfl
  cases (hH l m d (cV (bC l m d q.1).1).1.2.2.2.1 (dE q.2.2.2.1.1).1 true).2;rfl;have h2:=lG l m d (cV (bC l m d q.1).1).1.2.2.2.1 (dE q.2.2.2.1.1).1 true;simp only[af,aj];unfold uN;cases !gL q.2.1|| !uQ ((cV (bC l m d q.1).1).1.2.2.2.2.2,((dE q.2.2.2.1.1).1.length:Int),q.2.2.2.1.2.1,q.2.2.2.1.2.2,wW k (rO (lN q.2.2.2.1.1)));case true=>exact h2
  cases (hH l (hH l m d (cV (bC l m d q.1).1).1.2.2.2.1 (dE q.2.2.2.1.1).1 true).1 d (tD q.2.1) (Ko ((cV (bC l m d q.1).1).1.2.2.2.2.2,((dE q.2.2.2.1.1).1.length:Int),q.2.2.2.1.2.1,q.2.2.2.1.2.2,wW k (rO (lN q.2.2.2.1.1))) (Bd q.2.1)) true).2 with|false=>exact h2|true=>exact(lG ..).trans h2
 unfold iH;cases !Gj q||(!q.2.2.2.2.1||((k.length:Int) !=16));case true=>rfl
 cases (bC l m d q.1).2.2&&(ik l m d q k (bC l m d q.1).1).2.2 with|true=>exact hs|false=>rfl
theorem wU (k:Nat)(h:Host):mz (k+1) h (jY k h):=by unfold jY;cases h.2.2.2.1[k]? with|none=>exact mz.refl _ _|some x=>exact HD YN
theorem Qr (k:Nat)(h:Host)(n:Nat)(hn:1000<=n)(z:dC n dT h):dC (n+0) dT (jY k h):=by unfold jY;cases hx:h.2.2.2.1[k]? with|none=>exact z|some x=>have hf:=HR (show 128<=n by omega) (l:=h.2.1) (d:=0) (k:=h.2.2.2.2.2.2.2.2.1.2.2.1) z.1 (z.2.2.2.1.2 _ (aL hx));exact Sy z hf.1 hf.2.2.1
def oY (h:Host):Host:=bif eT h then jt jY h.2.2.2.1.length h else h
theorem Mh (hn:1000<=n)(k:zC n h):zC n (oY h):=by unfold oY;cases eT h with|false=>exact k|true=>refine⟨(FF hn Qr k.z _).mono,?_⟩;simp only[ah];rw[(qa wU h _).tx];exact k.t
theorem Jx (hb:eT h=true):∀i (hi:i<h.2.2.2.1.length),Gj h.2.2.2.1[i]=true:=by simp only[eT,aaT,ae]at hb;exact λi hi=>aF.1 hb.2.2.2.2.2.2.1.1 _ (aK hi)
theorem OI (h1:k<h.2.2.2.1.length)(h2:k<h.2.2.2.2.2.1.length)(hq:gL f.2.2.1=true)(hb:0<=b/\b<=31:=by omega): mK (f.1,h.2.1,h.2.2.1,h.2.2.2.1.set k f.2,h.2.2.2.2) (k:Int) b=some ((),C9 h k b f):=by
 have h3:k<(I1 h k f).2.2.2.1.length:=by show k<(h.2.2.2.1.set k f.2).length;rw[az];exact h1
 have e:(I1 h k f).2.2.2.1[k]=f.2:=List.getElem_set_self _;have a:=ac6 (I1 h k f) k b h3 h2 (by rw[e];exact hq) hb;rw[e]at a;exact a
theorem QZ (h:Host)(k:zC 900000000 h):td h=some (oY h):=by
 have D7:=eX;unfold td oY;rw[kA h (k.z.mono),ab,xB h (k.sz),ab];cases hb:eT h;rfl;have hl:=oK (by simp only[eT,ae]at hb;exact hb.2.2.2.2.1:tu h=true);have hr:=Jx hb;simp only[aj,af,ah];refine dG (λi=>((i:Int),jt jY i h)) h.2.2.2.1.length (by omega) (λi nx hi=>?_) (λnx=>?_);have kk:=qa wU h i;have zz:dC 900000000 dT (jt jY i h):=(FF (by omega) Qr k.z i).mono;have i1:i<(jt jY i h).2.2.2.1.length:=by rw[kk.rx];exact hi
 have i2:i<(jt jY i h).2.2.2.2.2.1.length:=by rw[kk.vec];omega
 have e1:(jt jY i h).2.2.2.1[i]=h.2.2.2.1[i]:=by have:=kk.rxs i (bc _);rw[al i1,al hi]at this;exact bP this
 rw[show jt jY (i+1) h=jY i (jt jY i h) from rfl];generalize jt jY i h=s at zz i1 i2 e1⊢;have z1:s.1.length<=900000000:=zz.1.1;have z2:s.2.1.length<=900000000:=zz.2.1.1;have hrx:=hr i hi;rw[<-e1]at hrx;have hqd:=ym (ER hrx).1;have hf:=HR (show 128<=900000000 by omega) (l:=s.2.1) (d:=0) (k:=s.2.2.2.2.2.2.2.2.1.2.2.1) zz.1 (zz.2.2.2.1.2 _ (aK i1));have ev:=OI (h:=s) (k:=i) (b:=s.2.2.2.1[i].2.1.2.2) (f:=iH s.2.1 s.1 0 s.2.2.2.1[i] s.2.2.2.2.2.2.2.2.1.2.2.1) i1 i2 (hf.2.2.2 hrx).1;simp only[sj,jY];rw[jP,ah,al i1];simp only[bB i1,bB hi,ab,Mt s.2.1 s.1 0 _ _ (show s.2.1.length<=10^9 by omega) (show s.1.length<=10^9 by omega),au,<-e1,ev];rw[ak];rfl;simp only[sj];rw[cL,af]
def aay (a b:aN):Bool:=(a.1==b.1)&&((a.2.1==b.2.1)&&((a.2.2.1==b.2.2.1)&&((a.2.2.2.1==b.2.2.2.1)&&((a.2.2.2.2.2.1==b.2.2.2.2.2.1)&&((a.2.2.2.2.2.2.1==b.2.2.2.2.2.2.1)&&((a.2.2.2.2.2.2.2.1==b.2.2.2.2.2.2.2.1)&&((a.2.2.2.2.2.2.2.2.1==b.2.2.2.2.2.2.2.2.1)&&((a.2.2.2.2.2.2.2.2.2.1==b.2.2.2.2.2.2.2.2.2.1)&&((a.2.2.2.2.2.2.2.2.2.2.1==b.2.2.2.2.2.2.2.2.2.2.1)&&((a.2.2.2.2.2.2.2.2.2.2.2.2.1==b.2.2.2.2.2.2.2.2.2.2.2.2.1)&&((a.2.2.2.2.2.2.2.2.2.2.2.2.2.2.1==b.2.2.2.2.2.2.2.2.2.2.2.2.2.2.1))))))))))))
theorem ak6 (a b:aN):zQ a b=some (aay a b):=by unfold zQ aay;simp only[fG,bt,gQ]
def arp (s:qP)(p:aN):Bool:=(p.2.2.2.2.2.2.2.2.2.2.2.1==tmod (ar (s.1.2.2.2.2.2.2.2.2.2.2.2.1+(s.1.2.2.2.2.2.2.2.2.2.2.2.2.2.2.2.length:Int))) 4294967296)&&(p.2.2.2.2.1==tmod (ar (s.1.2.2.2.2.1+s.2.2)) 65536)
def afR (s:qP)(p:aN):Bool:=decide (1<=s.2.1)&&(di s.2.2 1 320&&(decide ((s.1.2.2.2.2.2.2.2.2.2.2.2.2.2.2.2.length:Int)=s.2.1*s.2.2)&&(di (p.2.2.2.2.2.2.2.2.2.2.2.2.2.2.2.length:Int) 1 s.2.1&&decide ((s.1.2.2.2.2.2.2.2.2.2.2.2.2.2.2.2.length:Int)+(p.2.2.2.2.2.2.2.2.2.2.2.2.2.2.2.length:Int)<=320))))
def akD (s:qP)(p:aN):Bool:=dS s.1&&(eY p&&(aay s.1 p&&((p.2.2.2.2.2.2.2.2.1==6)&&((s.1.2.2.2.2.2.2.2.2.2.2.2.2.2.1==16)&&E9 p.2.2.2.2.2.2.2.2.2.2.2.2.2.1))))
def Kf (s:qP)(p:aN):Bool:=akD s p&&(afR s p&&arp s p)
theorem Ll (h:eY p=true)(h6:(p.2.2.2.2.2.2.2.2.1==6)=true):di p.2.2.2.2.2.2.2.2.2.2.2.2.2.1 0 31=true:=by simp only[eY,dS,ae]at h;exact Ig (CD h.1.1) h6
theorem JO (h:eY p=true):p.2.2.2.2.2.2.2.2.2.2.2.2.2.2.2.length<=128:=by simp only[eY,ae,aJ]at h;omega
theorem afn (s:qP)(p:aN):xE s p=some (Kf s p):=by
 unfold xE Kf akD;rw[nn,ab,yT,ab,ak6,ab];cases hs:dS s.1;rfl;cases hp:eY p;rfl;cases aay s.1 p;rfl;cases h6:p.2.2.2.2.2.2.2.2.1==6 with|false=>simp only[bne,h6];rfl|true=>?_
 cases Zc:s.1.2.2.2.2.2.2.2.2.2.2.2.2.2.1==16 with|false=>simp only[bne,h6,Zc];rfl|true=>?_
 have hf:=Ll hp h6;have hsl:=FJ hs;have Gf:=JO hp;simp only[bne,h6,Zc,aj,af,ab,Qk _ hf,bt];cases E9 p.2.2.2.2.2.2.2.2.2.2.2.2.2.1;rfl;simp only[aj,af,cx,ab,bt];rw[aG (show¬(4294967296:Nat)=0 by omega),aG (show¬(65536:Nat)=0 by omega)];simp only[bQ,cF];rw[show((p.2.2.2.2.2.2.2.2.2.2.2.1==tmod (ar (s.1.2.2.2.2.2.2.2.2.2.2.2.1+(s.1.2.2.2.2.2.2.2.2.2.2.2.2.2.2.2.length:Int))) 4294967296)&&(p.2.2.2.2.1==tmod (ar (s.1.2.2.2.2.1+s.2.2)) 65536))=arp s p from rfl];unfold afR;generalize arp s p=q;generalize s.1.2.2.2.2.2.2.2.2.2.2.2.2.2.2.2.length=n at hsl⊢;generalize p.2.2.2.2.2.2.2.2.2.2.2.2.2.2.2.length=m at Gf⊢;rw[ak (n:=(n:Int)+(m:Int))];by_cases h1:s.2.1<1;rw[ax h1,aq (show¬1<=s.2.1 by omega)];rfl;rw[aq h1,ax (show 1<=s.2.1 by omega)];cases h2:di s.2.2 1 320;rfl;have XU:=aU.1 h2;simp only[aj,af,ab,bt];rw[lI,lI];have e1:tmod (n:Int) s.2.2=(n:Int)%s.2.2:=dR (by omega);have e2:tdiv (n:Int) s.2.2=(n:Int)/s.2.2:=Int.tdiv_eq_ediv_of_nonneg (by omega);have hdm:=Int.emod_add_mul_ediv (n:Int) s.2.2;have hq0:0<=(n:Int)/s.2.2:=Int.ediv_nonneg (by omega) (by omega);have hq1:(n:Int)/s.2.2<=(n:Int):=Int.ediv_le_self _ (by omega);rw[e1,e2,ak (n:=(n:Int)/s.2.2)];by_cases h3:(n:Int)=s.2.1*s.2.2;have h4:(n:Int)%s.2.2=0:=by rw[h3];exact Int.mul_emod_left ..
 have h5:(n:Int)/s.2.2=s.2.1:=by rw[h3];exact Int.mul_ediv_cancel _ (by omega)
 rw[h4,h5,ax h3];simp only[fG,aj,af,ab,bt];cases di (m:Int) 1 s.2.1;rfl;cases decide ((n:Int)+(m:Int)<=320)<;>rfl;rw[aq h3];cases h4:(n:Int)%s.2.2==0 with
 |false=>rfl
 |true=>
  have h4':(n:Int)%s.2.2=0:=by simpa using h4
  have h5:((n:Int)/s.2.2==s.2.1)=false:=by rw[bM];intro h5;rw[h4',h5]at hdm;exact h3 (by rw[Int.mul_comm];omega)
  simp only[aj,af,h5,bE,ab,ah];rfl
def IU (s:qP)(p:aN):qP:=bif Kf s p then((s.1.1,s.1.2.1,s.1.2.2.1,s.1.2.2.2.1,s.1.2.2.2.2.1,s.1.2.2.2.2.2.1,s.1.2.2.2.2.2.2.1,s.1.2.2.2.2.2.2.2.1,s.1.2.2.2.2.2.2.2.2.1,s.1.2.2.2.2.2.2.2.2.2.1,s.1.2.2.2.2.2.2.2.2.2.2.1,s.1.2.2.2.2.2.2.2.2.2.2.2.1,s.1.2.2.2.2.2.2.2.2.2.2.2.2.1,p.2.2.2.2.2.2.2.2.2.2.2.2.2.1,s.1.2.2.2.2.2.2.2.2.2.2.2.2.2.2.1,s.1.2.2.2.2.2.2.2.2.2.2.2.2.2.2.2++p.2.2.2.2.2.2.2.2.2.2.2.2.2.2.2),s.2.1,ar (s.2.2+1)) else s
theorem VV {s:qP}(h:Kf s p=true):s.1.2.2.2.2.2.2.2.2.2.2.2.2.2.2.2.length+p.2.2.2.2.2.2.2.2.2.2.2.2.2.2.2.length<=320:=by simp only[Kf,afR,ae,aJ]at h;have:=h.2.1.2.2.2.2;omega
theorem ak4 (s:qP)(p:aN):H6 s p=some (IU s p):=by unfold H6 IU;rw[afn,ab];cases h:Kf s p;rfl;have:=VV h;simp only[aj,af,ah];rw[aX]
def ly (p:aN):qP:=(p,(p.2.2.2.2.2.2.2.2.2.2.2.2.2.2.2.length:Int),1)
theorem adn (p:aN):G2 p=some (ly p):=rfl
def KB (q:bL)(s:qP):bL:=(q.1,q.2.1,q.2.2.1,s,true,q.2.2.2.2.2)
def lL (l:aw aI)(m:bO)(d:Int)(q:bL)(k:Bytes)(p:aN)(c:Bool):bO×bL:=
 bif !Gj q||(!eY p||((k.length:Int) !=16)) then(m,q) else
 bif c&&(q.2.2.2.2.1&&Kf q.2.2.2.1 p) then(m,q.1,q.2.1,q.2.2.1,IU q.2.2.2.1 p,q.2.2.2.2) else
 bif c then((iH l m d q k).1,KB (iH l m d q k).2 (ly p)) else iH l (iH l m d q k).1 d (KB (iH l m d q k).2 (ly p)) k
theorem ac7 (l:aw aI)(m:bO)(d:Int)(q:bL)(k:Bytes)(p:aN)(c:Bool)(hl:l.length<=10^9)(hm:m.length<=10^9):qw l m d q k p c=some (lL l m d q k p c):=by
 unfold qw lL KB;simp only[Q4,yT,ab,hZ m (show m.length<=1073741824 by omega),afn,ak4,Mt l m d q k hl hm,adn,Mt l (iH l m d q k).1 d _ k hl (show(iH l m d q k).1.length<=10^9 by rw[YN];exact hm)];cases Gj q;rfl;cases eY p;rfl;cases (k.length:Int) !=16;case true=>rfl
 cases c;rfl;cases q.2.2.2.2.1;rfl;cases Kf q.2.2.2.1 p<;>rfl
theorem YO {k:Bytes}(h:gL q.2.1=true):gL (iH l m d q k).2.2.1=true:=by
 unfold iH;cases !Gj q||(!q.2.2.2.2.1||((k.length:Int) !=16));case true=>exact h
 have hs:gL (ik l m d q k (bC l m d q.1).1).2.1=true:=by
  unfold ik;cases !(cV (bC l m d q.1).1).2||(((cV (bC l m d q.1).1).1.1 !=3)||decide ((cV (bC l m d q.1).1).1.2.2.1<((dE q.2.2.2.1.1).1.length:Int)));case true=>exact h
  cases (hH l m d (cV (bC l m d q.1).1).1.2.2.2.1 (dE q.2.2.2.1.1).1 true).2;exact h;exact(afI h).1
 cases (bC l m d q.1).2.2&&(ik l m d q k (bC l m d q.1).1).2.2 with|true=>exact hs|false=>exact h
theorem ag3 {s:qP}(h:s.1.2.2.2.2.2.2.2.2.2.2.2.2.2.2.2.length<=n):dC n fA (KB q s):=⟨⟨cG,cG,cG,cG⟩,⟨cG,cG,cG⟩,⟨cG,cG,cG⟩,⟨⟨cG,cG,cG,cG,cG,cG,cG,cG,cG,cG,cG,cG,cG,cG,cG,h⟩,cG,cG⟩,cG,cG⟩
theorem PE (hn:1000<=n){k:Bytes}{c:Bool}(z:dC n (.sl .str) m)(zq:dC n fA q)(hq:gL q.2.1=true): dC n (.sl .str) (lL l m d q k p c).1/\(lL l m d q k p c).1.length=m.length/\dC n fA (lL l m d q k p c).2/\gL (lL l m d q k p c).2.2.1=true:=by
 unfold lL;cases hc: !Gj q||(!eY p||((k.length:Int) !=16));case true=>exact⟨z,rfl,zq,hq⟩
 simp only[cA,eF]at hc;have hp:=JO hc.2.1;cases hj:c&&(q.2.2.2.2.1&&Kf q.2.2.2.1 p)with|true=>simp only[ae]at hj;have:=VV hj.2.2;refine⟨z,rfl,⟨⟨cG,cG,cG,cG⟩,⟨cG,cG,cG⟩,⟨cG,cG,cG⟩,⟨?_,cG,cG⟩,cG,cG⟩,hq⟩;refine⟨cG,cG,cG,cG,cG,cG,cG,cG,cG,cG,cG,cG,cG,cG,cG,?_⟩;unfold IU;rw[hj.2.2];show List.length (q.2.2.2.1.1.2.2.2.2.2.2.2.2.2.2.2.2.2.2.2++p.2.2.2.2.2.2.2.2.2.2.2.2.2.2.2)<=n;rw[ai];omega|false=>have hf:=HR (show 128<=n by omega) (l:=l) (d:=d) (k:=k) z zq;have hfq:=YO (l:=l) (m:=m) (d:=d) (k:=k) hq;have hh:dC n fA (KB (iH l m d q k).2 (ly p)):=ag3 (by show p.2.2.2.2.2.2.2.2.2.2.2.2.2.2.2.length<=n;omega);cases c with|true=>exact⟨hf.1,hf.2.1,hh,hfq⟩|false=>have Dc:=HR (show 128<=n by omega) (l:=l) (d:=d) (k:=k) hf.1 hh;exact⟨Dc.1,Dc.2.1.trans hf.2.1,Dc.2.2.1,YO (q:=KB (iH l m d q k).2 (ly p)) hfq⟩
theorem aaV {r:oe}(h:DP r=true):0<=r.2.2.2.2.2.2.2.2:=by
 by_cases h0:0<=r.2.2.2.2.2.2.2.2;exact h0;exfalso;have e:∀b:Int,di r.2.2.2.2.2.2.2.2 0 b=false:=λb=>by rw[Bool.eq_false_iff];intro hc;have:=aU.1 hc;omega
 have e1:(r.2.2.2.2.2.2.2.2==0)=false:=by rw[bM];omega
 revert h;unfold DP;have z:∀c:Bool,(bif c then false else false)=false:=by intro c;cases c<;>rfl
 simp only[oa,dV,ab,bQ,e,e1,gO,z,af];intro h;cases h
theorem aiS {s:dQ}{q:Int}:rT s q p= -1\/∃n:Nat,rT s q p=(n:Int)/\(n:Int)<q:=by
 unfold rT;cases hb: !fI s q|| !dS p;case true=>exact .inl rfl
 simp only[cA,eF]at hb;have hs:=hb.1;simp only[fI,ae]at hs;simp only[af];cases hd:decide (Iz s.1 p>=0)with
 |true=>obtain⟨n,hn,hl⟩:=YG s.1 p (bA hd);simp only[ah,hn,au,cB hl];cases s.1[n].2.2.2.2.2.2.2.1==1 with|true=>exact .inl rfl|false=>have h1:=aF.1 hs.1.2 _ (aK hl);have h2:=hs.1.1.1.1;simp only[Bf,ae]at h2;have h3:=aaV (aF.1 h2.1 _ (aK hl));simp only[aO,df]at h1;exact .inr ⟨s.1[n].2.2.2.2.2.2.2.2.toNat,by simp only[af];omega,by omega⟩
 |false=>
  simp only[af];cases QF:decide (findF s.2.1 (lN p)>=0)with
  |true=>obtain⟨n,hn,hl⟩:=YF s.2.1 (lN p) (bA QF);simp only[ah,hn,au,cB hl];have h1:=aF.1 hs.2 _ (aK hl);have h2:=hs.1.1.1.2;simp only[uU,ae,bn]at h2;have h3:=aF.1 h2.2 n (bG.2 (by omega));unfold pN Vb at h3;rw[za hl]at h3;simp only[ae,aU]at h3;simp only[aO,df]at h1;exact .inr ⟨s.2.1[n].2.2.toNat,by omega,by omega⟩
  |false=>
   simp only[af];unfold Pn;cases hc: !sH s.2.2 q||decide (E7 s.2.2 (lN p)<0);case true=>exact .inl rfl
   simp only[cA,eF,df]at hc;obtain⟨n,hn,hl⟩:=TY s.2.2 (lN p) hc.2;have h1:=hc.1;simp only[sH,ae]at h1;have h2:=aU.1 (aF.1 h1.2 _ (aK hl));simp only[af,hn,au,cB hl];exact .inr ⟨s.2.2.2[n].toNat,by omega,by omega⟩
def AR (h:Host)(a b c d:Int):Host:=(h.1,h.2.1,h.2.2.1,h.2.2.2.1,h.2.2.2.2.1,h.2.2.2.2.2.1,h.2.2.2.2.2.2.1,h.2.2.2.2.2.2.2.1,h.2.2.2.2.2.2.2.2.1,h.2.2.2.2.2.2.2.2.2.1,h.2.2.2.2.2.2.2.2.2.2.1,h.2.2.2.2.2.2.2.2.2.2.2.1,h.2.2.2.2.2.2.2.2.2.2.2.2.1,h.2.2.2.2.2.2.2.2.2.2.2.2.2.1,ar (h.2.2.2.2.2.2.2.2.2.2.2.2.2.2.1+1),a,b,c,d)
def kS (h:Host)(x:Bytes):Host:=
 bif !eT h then h else
 bif (gn x).2 !=0 then AR h (ar (h.2.2.2.2.2.2.2.2.2.2.2.2.2.2.2.1+1)) h.2.2.2.2.2.2.2.2.2.2.2.2.2.2.2.2.1 h.2.2.2.2.2.2.2.2.2.2.2.2.2.2.2.2.2.1 h.2.2.2.2.2.2.2.2.2.2.2.2.2.2.2.2.2.2 else
 bif !xq h.2.2.2.2.2.2.2.1 (gn x).1 then AR h h.2.2.2.2.2.2.2.2.2.2.2.2.2.2.2.1 (ar (h.2.2.2.2.2.2.2.2.2.2.2.2.2.2.2.2.1+1)) h.2.2.2.2.2.2.2.2.2.2.2.2.2.2.2.2.2.1 h.2.2.2.2.2.2.2.2.2.2.2.2.2.2.2.2.2.2 else
 bif rT h.2.2.2.2.2.2.2.2.1 (h.2.2.2.1.length:Int) (gn x).1== -1 then AR h h.2.2.2.2.2.2.2.2.2.2.2.2.2.2.2.1 h.2.2.2.2.2.2.2.2.2.2.2.2.2.2.2.2.1 (ar (h.2.2.2.2.2.2.2.2.2.2.2.2.2.2.2.2.2.1+1)) h.2.2.2.2.2.2.2.2.2.2.2.2.2.2.2.2.2.2 else
 match h.2.2.2.1[(rT h.2.2.2.2.2.2.2.2.1 (h.2.2.2.1.length:Int) (gn x).1).toNat]? with
 |some q=>C9 (AR h h.2.2.2.2.2.2.2.2.2.2.2.2.2.2.2.1 h.2.2.2.2.2.2.2.2.2.2.2.2.2.2.2.2.1 h.2.2.2.2.2.2.2.2.2.2.2.2.2.2.2.2.2.1 (ar (h.2.2.2.2.2.2.2.2.2.2.2.2.2.2.2.2.2.2+1))) (rT h.2.2.2.2.2.2.2.2.1 (h.2.2.2.1.length:Int) (gn x).1).toNat q.2.1.2.2 (lL h.2.1 h.1 0 q h.2.2.2.2.2.2.2.2.1.2.2.1 (gn x).1 h.2.2.2.2.2.2.2.2.2.2.1)
 |none=>h
theorem KT (h:Host)(x:Bytes)(k:zC 900000000 h)(hx:x.length<=10^9):pq h x=some (kS h x):=by
 have z:=k.z;have z1:h.1.length<=900000000:=z.1.1;have z2:h.2.1.length<=900000000:=z.2.1.1;have zf:h.2.2.2.2.2.2.2.1.2.2.length<=900000000:=z.2.2.2.2.2.2.2.1.2.2.1;have s1:h.2.2.2.2.2.2.2.2.1.1.length<=900000000:=z.2.2.2.2.2.2.2.2.1.1.1;have s2:h.2.2.2.2.2.2.2.2.1.2.1.length<=900000000:=z.2.2.2.2.2.2.2.2.1.2.1.1;have s3:h.2.2.2.2.2.2.2.2.1.2.2.2.length<=900000000:=z.2.2.2.2.2.2.2.2.1.2.2.2.1;unfold pq kS;rw[kA h (z.mono),ab,xB h (k.sz),ab];cases hb:eT h;rfl;have hl:=oK (by simp only[eT,ae]at hb;exact hb.2.2.2.2.1:tu h=true);have hr:=Jx hb;simp only[aj,af,Mv x hx,ab,Zt h.2.2.2.2.2.2.2.1 _ (show h.2.2.2.2.2.2.2.1.2.2.length<=10^9 by omega),ahs h.2.2.2.2.2.2.2.2.1 _ _ (show h.2.2.2.2.2.2.2.2.1.1.length<=10^9 by omega) (show h.2.2.2.2.2.2.2.2.1.2.1.length<=10^9 by omega) (show h.2.2.2.2.2.2.2.2.1.2.2.2.length<=10^9 by omega)];generalize gn x=f;cases f.2 !=0;case true=>rfl
 cases xq h.2.2.2.2.2.2.2.1 f.1;rfl;simp only[aj,af];have ow:=aiS (s:=h.2.2.2.2.2.2.2.2.1) (q:=(h.2.2.2.1.length:Int)) (p:=f.1);generalize rT h.2.2.2.2.2.2.2.2.1 (h.2.2.2.1.length:Int) f.1=r at ow⊢;rcases ow with rfl|⟨n,rfl,hn⟩;rfl;have i1:n<h.2.2.2.1.length:=by omega
 have i2:n<h.2.2.2.2.2.1.length:=by omega
 have hq:=(ER (hr n i1)).1;have hqi:=ym hq;have ha:=PE (show 1000<=900000000 by omega) (l:=h.2.1) (d:=0) (k:=h.2.2.2.2.2.2.2.2.1.2.2.1) (p:=f.1) (c:=h.2.2.2.2.2.2.2.2.2.2.1) z.1 (z.2.2.2.1.2 _ (aK i1)) hq;have ev:=OI (h:=AR h h.2.2.2.2.2.2.2.2.2.2.2.2.2.2.2.1 h.2.2.2.2.2.2.2.2.2.2.2.2.2.2.2.2.1 h.2.2.2.2.2.2.2.2.2.2.2.2.2.2.2.2.2.1 (ar (h.2.2.2.2.2.2.2.2.2.2.2.2.2.2.2.2.2.2+1))) (k:=n) (b:=h.2.2.2.1[n].2.1.2.2) (f:=lL h.2.1 h.1 0 h.2.2.2.1[n] h.2.2.2.2.2.2.2.2.1.2.2.1 f.1 h.2.2.2.2.2.2.2.2.2.2.1) i1 i2 ha.2.2.2;rw[show((n:Int)== -1)=false from by rw[bM];omega,au,al i1];simp only[af,bB i1,ab,ac7 h.2.1 h.1 0 _ _ _ _ (show h.2.1.length<=10^9 by omega) (show h.1.length<=10^9 by omega)];rw[show(mK ((lL h.2.1 h.1 0 h.2.2.2.1[n] h.2.2.2.2.2.2.2.2.1.2.2.1 f.1 h.2.2.2.2.2.2.2.2.2.2.1).1,h.2.1,h.2.2.1,h.2.2.2.1.set n (lL h.2.1 h.1 0 h.2.2.2.1[n] h.2.2.2.2.2.2.2.2.1.2.2.1 f.1 h.2.2.2.2.2.2.2.2.2.2.1).2,h.2.2.2.2.1,h.2.2.2.2.2.1,h.2.2.2.2.2.2.1,h.2.2.2.2.2.2.2.1,h.2.2.2.2.2.2.2.2.1,h.2.2.2.2.2.2.2.2.2.1,h.2.2.2.2.2.2.2.2.2.2.1,h.2.2.2.2.2.2.2.2.2.2.2.1,h.2.2.2.2.2.2.2.2.2.2.2.2.1,h.2.2.2.2.2.2.2.2.2.2.2.2.2.1,ar (h.2.2.2.2.2.2.2.2.2.2.2.2.2.2.1+1),h.2.2.2.2.2.2.2.2.2.2.2.2.2.2.2.1,h.2.2.2.2.2.2.2.2.2.2.2.2.2.2.2.2.1,h.2.2.2.2.2.2.2.2.2.2.2.2.2.2.2.2.2.1,ar (h.2.2.2.2.2.2.2.2.2.2.2.2.2.2.2.2.2.2+1)) (n:Int) h.2.2.2.1[n].2.1.2.2)=_ from ev,ab]
theorem Hk (hn:1000<=n)(x:Bytes)(k:zC n h):zC n (kS h x)/\(kS h x).2.2.1=h.2.2.1/\(kS h x).2.2.2.2.1.length=h.2.2.2.2.1.length:=by
 have z:=k.z;have zc:∀a b c d,zC n (AR h a b c d):=λa b c d=>⟨⟨z.1,z.2.1,z.2.2.1,z.2.2.2.1,z.2.2.2.2.1,z.2.2.2.2.2.1,z.2.2.2.2.2.2.1,z.2.2.2.2.2.2.2.1,z.2.2.2.2.2.2.2.2.1,z.2.2.2.2.2.2.2.2.2.1,z.2.2.2.2.2.2.2.2.2.2.1,z.2.2.2.2.2.2.2.2.2.2.2.1,z.2.2.2.2.2.2.2.2.2.2.2.2.1,z.2.2.2.2.2.2.2.2.2.2.2.2.2.1,cG,cG,cG,cG,cG⟩,k.t⟩
 unfold kS;cases hb:eT h;exact⟨k,rfl,rfl⟩;have hr:=Jx hb;generalize gn x=f;cases f.2 !=0;case true=>exact⟨zc ..,rfl,rfl⟩
 cases xq h.2.2.2.2.2.2.2.1 f.1;exact⟨zc ..,rfl,rfl⟩;simp only[aj,af];generalize rT h.2.2.2.2.2.2.2.2.1 (h.2.2.2.1.length:Int) f.1=r;cases r== -1;case true=>exact⟨zc ..,rfl,rfl⟩
 simp only[af];rcases hq:h.2.2.2.1[r.toNat]? with _|q;exact⟨k,rfl,rfl⟩;obtain⟨hi,hqe⟩:=ay.1 hq;have hqd:=(ER (hr _ hi)).1;rw[hqe]at hqd;have ha:=PE hn (l:=h.2.1) (d:=0) (k:=h.2.2.2.2.2.2.2.2.1.2.2.1) (p:=f.1) (c:=h.2.2.2.2.2.2.2.2.2.2.1) z.1 (z.2.2.2.1.2 _ (aL hq)) hqd;have zc':=zc h.2.2.2.2.2.2.2.2.2.2.2.2.2.2.2.1 h.2.2.2.2.2.2.2.2.2.2.2.2.2.2.2.2.1 h.2.2.2.2.2.2.2.2.2.2.2.2.2.2.2.2.2.1 (ar (h.2.2.2.2.2.2.2.2.2.2.2.2.2.2.2.2.2.2+1));have kk:=HD (h:=AR h h.2.2.2.2.2.2.2.2.2.2.2.2.2.2.2.1 h.2.2.2.2.2.2.2.2.2.2.2.2.2.2.2.2.1 h.2.2.2.2.2.2.2.2.2.2.2.2.2.2.2.2.2.1 (ar (h.2.2.2.2.2.2.2.2.2.2.2.2.2.2.2.2.2.2+1))) (k:=r.toNat) (b:=q.2.1.2.2) (f:=lL h.2.1 h.1 0 q h.2.2.2.2.2.2.2.2.1.2.2.1 f.1 h.2.2.2.2.2.2.2.2.2.2.1) ha.2.1;exact⟨⟨Sy zc'.z ha.1 ha.2.2.1,by rw[kk.tx];exact k.t⟩,kk.tx,kk.pl⟩
theorem Xn (l:aw aI)(m:bO)(d:Int)(rx:bL)(pl:dD)(st:aw Stream)(c:Int):(jc l m d rx pl st c).1.length=m.length:=by unfold jc;cases !Gj rx||(!dI pl|| !di c 0 1000)with|true=>rfl|false=>exact afc ..
def CY (b:Int)(k:Nat)(s:Int×Host):Int×Host:=
 match s.2.2.2.2.2.2.1[k]?,s.2.2.2.2.2.2.2.1[k]?,s.2.2.2.2.1[k]?,s.2.2.2.2.2.1[k]? with
 |some v,some p,some x,some pl=>
  bif p||(tI v).2 then
   (ar (s.1+(jc s.2.2.1 s.2.1 0 x pl s.2.2.2.2.2.2.2.2.2.2.1 b).2.2.2.2),
    (jc s.2.2.1 s.2.1 0 x pl s.2.2.2.2.2.2.2.2.2.2.1 b).1,s.2.2.1,s.2.2.2.1,s.2.2.2.2.1.set k (jc s.2.2.1 s.2.1 0 x pl s.2.2.2.2.2.2.2.2.2.2.1 b).2.1,s.2.2.2.2.2.1.set k (jc s.2.2.1 s.2.1 0 x pl s.2.2.2.2.2.2.2.2.2.2.1 b).2.2.1,
    s.2.2.2.2.2.2.1.set k (bif decide ((jc s.2.2.1 s.2.1 0 x pl s.2.2.2.2.2.2.2.2.2.2.1 b).2.2.2.2<b) then B8 (tI v).1 else(tI v).1),
    s.2.2.2.2.2.2.2.1.set k (!decide ((jc s.2.2.1 s.2.1 0 x pl s.2.2.2.2.2.2.2.2.2.2.1 b).2.2.2.2<b)),s.2.2.2.2.2.2.2.2.1,s.2.2.2.2.2.2.2.2.2.1,(jc s.2.2.1 s.2.1 0 x pl s.2.2.2.2.2.2.2.2.2.2.1 b).2.2.2.1,s.2.2.2.2.2.2.2.2.2.2.2)
  else(s.1,s.2.1,s.2.2.1,s.2.2.2.1,s.2.2.2.2.1,s.2.2.2.2.2.1,s.2.2.2.2.2.2.1.set k (tI v).1,s.2.2.2.2.2.2.2.1.set k false,s.2.2.2.2.2.2.2.2)
 |_,_,_,_=>s
theorem Ob (b:Int)(k:Nat)(s:Int×Host):mz (k+1) s.2 (CY b k s).2:=by unfold CY;rcases s.2.2.2.2.2.2.1[k]? with _|v;exact mz.refl _ _;rcases s.2.2.2.2.2.2.2.1[k]? with _|p;exact mz.refl _ _;rcases s.2.2.2.2.1[k]? with _|x;exact mz.refl _ _;rcases s.2.2.2.2.2.1[k]? with _|pl;exact mz.refl _ _;simp only;cases p||(tI v).2 with|true=>exact⟨Xn ..,rfl,rfl,az ..,λj hj=>aE (by omega),az ..,az ..,λj hj=>aE (by omega),az ..,rfl,rfl⟩|false=>exact⟨rfl,rfl,rfl,rfl,λ_ _=>rfl,rfl,az ..,λj hj=>aE (by omega),az ..,rfl,rfl⟩
theorem aem (b:Int)(k:Nat)(s:Int×Host)(hn:1000<=n)(z:dC n dT s.2):dC (n+322000) dT (CY b k s).2:=by have z':dC (n+322000) dT s.2:=z.mono;unfold CY;rcases s.2.2.2.2.2.2.1[k]? with _|v;exact z';rcases s.2.2.2.2.2.2.2.1[k]? with _|p;exact z';rcases h1:s.2.2.2.2.1[k]? with _|x;exact z';rcases h2:s.2.2.2.2.2.1[k]? with _|pl;exact z';simp only;cases p||(tI v).2 with|true=>have hp:=UZ (by omega) (l:=s.2.2.1) (d:=0) b z.1 (z.2.2.2.1.2 _ (aL h1)) (z.2.2.2.2.1.2 _ (aL h2)) z.2.2.2.2.2.2.2.2.2.1;exact⟨hp.1.mono,z'.2.1,z'.2.2.1,nT z'.2.2.2.1 (hp.2.1.mono),nT z'.2.2.2.2.1 hp.2.2.1,Ps z'.2.2.2.2.2.1,nT z'.2.2.2.2.2.2.1 trivial,z'.2.2.2.2.2.2.2.1,z'.2.2.2.2.2.2.2.2.1,hp.2.2.2.1,z'.2.2.2.2.2.2.2.2.2.2⟩|false=>exact⟨z'.1,z'.2.1,z'.2.2.1,z'.2.2.2.1,z'.2.2.2.2.1,Ps z'.2.2.2.2.2.1,nT z'.2.2.2.2.2.2.1 trivial,z'.2.2.2.2.2.2.2⟩
def pM (b:Int):Nat->Host->Int×Host
 |0,h=>(0,h)
 |k+1,h=>CY b k (pM b k h)
theorem Cl (b:Int)(h:Host):∀k,mz k h (pM b k h).2
 |0=>mz.refl 0 h
 |k+1=>((Cl b h k).up (by omega)).trans (Ob b k _)
theorem JP (b:Int)(hn:1000<=n)(z:dC n dT h):∀k,dC (n+322000*k) dT (pM b k h).2
 |0=>z
 |k+1=>(aem b k _ (by omega) (JP b hn z k)).mono
def jF (h:Host)(b:Int):Host×Int:=bif eT h&&di b 1 1000 then((pM b h.2.2.2.1.length h).2,(pM b h.2.2.2.1.length h).1) else(h,0)
theorem Oc (hn:1000<=n)(b:Int)(k:zC n h):zC (n+644000) (jF h b).1:=by unfold jF;cases hb:eT h&&di b 1 1000 with|false=>exact k.mono|true=>simp only[ae]at hb;have hl:=oK (by have:=hb.1;simp only[eT,ae]at this;exact this.2.2.2.2.1:tu h=true);refine⟨(JP b hn k.z _).mono,?_⟩;simp only[ah];rw[(Cl b h _).tx];exact bq k.t (by omega)
theorem NQ (h:Host)(b:Int)(k:zC 400000000 h):pt h b=some (jF h b):=by
 have D7:=eX;unfold pt jF;rw[kA h (k.z.mono),ab,xB h (k.sz),ab,cx];cases hb:eT h;rfl;cases hi0:di b 1 1000;rfl;have hl:=oK (by simp only[eT,ae]at hb;exact hb.2.2.2.2.1:tu h=true);simp only[aj,af,ab,cq,ah];refine dG (λi=>((pM b i h).1,(i:Int),(pM b i h).2)) h.2.2.2.1.length (by omega) (λi nx hi=>?_) (λnx=>?_);have kk:=Cl b h i;have zz:dC 500000000 dT (pM b i h).2:=(JP b (by omega) k.z i).mono;have i1:i<(pM b i h).2.2.2.2.1.length:=by rw[kk.rx];exact hi
 have i2:i<(pM b i h).2.2.2.2.2.1.length:=by rw[kk.pl];omega
 have i3:i<(pM b i h).2.2.2.2.2.2.1.length:=by rw[kk.vec];omega
 have i4:i<(pM b i h).2.2.2.2.2.2.2.1.length:=by rw[kk.pol];omega
 rw[show pM b (i+1) h=CY b i (pM b i h) from rfl];generalize pM b i h=s at zz i1 i2 i3 i4⊢;have gp:∀(V:aw Vector)(P:aw Bool),me (s.2.1,s.2.2.1,s.2.2.2.1,s.2.2.2.2.1,s.2.2.2.2.2.1,V,P,s.2.2.2.2.2.2.2.2) (i:Int) b=some ((jc s.2.2.1 s.2.1 0 s.2.2.2.2.1[i] s.2.2.2.2.2.1[i] s.2.2.2.2.2.2.2.2.2.2.1 b).2.2.2.2,(jc s.2.2.1 s.2.1 0 s.2.2.2.2.1[i] s.2.2.2.2.2.1[i] s.2.2.2.2.2.2.2.2.2.2.1 b).1,s.2.2.1,s.2.2.2.1,s.2.2.2.2.1.set i (jc s.2.2.1 s.2.1 0 s.2.2.2.2.1[i] s.2.2.2.2.2.1[i] s.2.2.2.2.2.2.2.2.2.2.1 b).2.1,s.2.2.2.2.2.1.set i (jc s.2.2.1 s.2.1 0 s.2.2.2.2.1[i] s.2.2.2.2.2.1[i] s.2.2.2.2.2.2.2.2.2.2.1 b).2.2.1,V,P,s.2.2.2.2.2.2.2.2.1,s.2.2.2.2.2.2.2.2.2.1,(jc s.2.2.1 s.2.1 0 s.2.2.2.2.1[i] s.2.2.2.2.2.1[i] s.2.2.2.2.2.2.2.2.2.2.1 b).2.2.2.1,s.2.2.2.2.2.2.2.2.2.2.2):=by intro V P;have Gf:s.2.2.2.2.2.1[i].2.2.2.length<=500000000:=(zz.2.2.2.2.1.2 _ (aK i2)).2.2.2.1;have hm:s.2.1.length<=500000000:=zz.1.1;have hp:s.2.2.1.length<=500000000:=zz.2.1.1;unfold me;simp only[bB i1,bB i2,ab,ZH s.2.2.1 s.2.1 0 _ _ _ b (show s.2.2.1.length<=10^9 by omega) (show s.2.1.length<=10^9 by omega) Gf zz.2.2.2.2.2.2.2.2.2.1,au]
 have GU:∀V:Vector,s.2.2.2.2.2.2.1.set i V=s.2.2.2.2.2.2.1.set i V:=λ_=>rfl;unfold CY;rw[al i1,al i2,al i3,al i4];simp only[oE];rw[jP,ah];simp only[bB i3,bB i4,ab,ahv,au,gp];generalize tI s.2.2.2.2.2.2.1[i]=w;generalize jc s.2.2.1 s.2.1 0 s.2.2.2.2.1[i] s.2.2.2.2.2.1[i] s.2.2.2.2.2.2.2.2.2.2.1 b=pr;have i5:∀V:Vector,i<(s.2.2.2.2.2.2.1.set i V).length:=λV=>by rw[az];exact i3
 have i6:∀q:Bool,i<(s.2.2.2.2.2.2.2.1.set i q).length:=λq=>by rw[az];exact i4
 have e5:∀V:Vector,idx (s.2.2.2.2.2.2.1.set i V) (i:Int)=some V:=λV=>by rw[bB (i5 V),List.getElem_set_self]
 have e6:∀q:Bool,idx (s.2.2.2.2.2.2.2.1.set i q) (i:Int)=some q:=λq=>by rw[bB (i6 q),List.getElem_set_self]
 rw[ak (n:=(i:Int)+1)];have DD:s.2.2.2.2.2.2.2.1.set i (s.2.2.2.2.2.2.2.1[i])=s.2.2.2.2.2.2.2.1:=List.set_getElem_self ..;generalize hp:s.2.2.2.2.2.2.2.1[i]=p at DD⊢;cases hw:w.2 with
 |true=>simp only[jd,ah,e6,e5,ab,aj,af,Q7,List.set_set];cases decide (pr.2.2.2.2<b)<;>rfl
 |false=>
  simp only[Bool.or_false,af];cases p with
  |false=>rw[DD];rfl
  |true=>
   have e7:idx s.2.2.2.2.2.2.2.1 (i:Int)=some true:=by rw[bB i4,hp]
   simp only[ah,aj,af,e5,e7,ab,Q7,List.set_set];cases decide (pr.2.2.2.2<b)with|true=>rfl|false=>simp only[af,bE,DD];rfl
 simp only[oE];rw[cL,af]
def Cs (b:Int):Nat->Host->Host
 |0,h=>h
 |k+1,h=>(jF (sI (Cs b k h)) b).1
theorem LQ (hn:1000<=n)(k:zC n h):zC n (sI h):=by have:=amN hn k.z;exact⟨this.1,by rw[this.2];exact k.t⟩
theorem Md (b:Int)(hn:1000<=n)(z:zC n h):∀k,zC (n+644000*k) (Cs b k h)
 |0=>z
 |k+1=>(Oc (by omega) b (LQ (by omega) (Md b hn z k))).mono
def txt (_:Int):Bytes:=[]
def Er:(t:CT)->t.D->Nat
 | .int _,_=>1
 | .bool,_=>1
 | .str,_=>1
 | .sl e,xs=>(xs.map (Er e)).sum
 | .pair a b,x=>Er a x.1+Er b x.2
def mkL (f:α->Int->α)(c:α->Nat):aw α->Int->aw α
 |[],_=>[]
 |x::xs,k=>f x k::mkL f c xs (k+c x)
def mk:(t:CT)->t.D->Int->t.D
 | .int _,_,k=>k
 | .bool,_,k=>tmod k 3==0
 | .str,_,k=>txt k
 | .sl e,xs,k=>mkL (mk e) (Er e) xs k
 | .pair a b,x,k=>(mk a x.1 k,mk b x.2 (k+Er a x.1))
structure Px (h:Host):Prop where
 pl:h.2.2.2.2.1.length<=2
 w:h.2.2.1.2.2.1.length<=16
theorem acL (hb:eT h=true):Px h:=by have hl:=oK (by have:=hb;simp only[eT,ae]at this;exact this.2.2.2.2.1:tu h=true);have ht:=JX (t:=h.2.2.1) (by simp only[eT,ae]at hb;exact hb.2.2.1);exact⟨by omega,ht⟩
theorem Qg {a b:Host}(f:Px a)(h:mz k a b):Px b:=⟨by rw[h.pl];exact f.pl,by rw[h.tx];exact f.w⟩
theorem akn (f:Px h):Px (sI h):=by unfold sI;cases eT h with|false=>exact f|true=>exact Qg f (qa zy h _)
theorem agK (f:Px h):Px (oY h):=by unfold oY;cases eT h with|false=>exact f|true=>exact Qg f (qa wU h _)
theorem agL (b:Int)(f:Px h):Px (jF h b).1:=by unfold jF;cases eT h&&di b 1 1000 with|false=>exact f|true=>exact Qg f (Cl b h _)
theorem Wu (f:Px h):Px (dy h):=by unfold dy;cases eT h with|false=>exact f|true=>refine⟨f.pl,?_⟩;simp only[ah];generalize (if(h.2.2.1.2.2.1.length:Int)<ar ((lX h.2.1 h.1 0 h.2.2.1.1).2.2.1+(lX h.2.1 h.1 0 h.2.2.1.1).2.2.2) then(h.2.2.1.2.2.1.length:Int) else ar ((lX h.2.1 h.1 0 h.2.2.1.1).2.2.1+(lX h.2.1 h.1 0 h.2.2.1.1).2.2.2))=q;unfold kU;cases Pq ((lX h.2.1 h.1 0 h.2.2.1.1).1,h.2.2.1.2)&&di q 0 (h.2.2.1.2.2.1.length:Int)with|false=>exact f.w|true=>show(h.2.2.1.2.2.1.drop q.toNat).length<=16;rw[aM];have:=f.w;omega
def ajh (a:Act):aB Bool:=
 aa (aa (some (di a.1 0 6)) λr1=>cond (!r1) (some true) (some (decide ((a.2.2.2.2.1.length:Int)>600)))) λq2=>
 cond q2 (some false) (
 aa (cond (a.1 !=0) (cond (!((a.2.1.1==0)&&((a.2.1.2.1==0)&&((a.2.1.2.2.1==0)&&((a.2.1.2.2.2.1==0)&&((a.2.1.2.2.2.2.1==0)&&((a.2.1.2.2.2.2.2.1==0)&&((a.2.1.2.2.2.2.2.2.1==0)&&((a.2.1.2.2.2.2.2.2.2.1==0)&&((a.2.1.2.2.2.2.2.2.2.2.1==0)&&((a.2.1.2.2.2.2.2.2.2.2.2.1==0)&&((a.2.1.2.2.2.2.2.2.2.2.2.2.1==0)&&((a.2.1.2.2.2.2.2.2.2.2.2.2.2.1==0)&&((a.2.1.2.2.2.2.2.2.2.2.2.2.2.2.1==0)&&((a.2.1.2.2.2.2.2.2.2.2.2.2.2.2.2.1==0)&&((a.2.1.2.2.2.2.2.2.2.2.2.2.2.2.2.2.1==0)&&((a.2.1.2.2.2.2.2.2.2.2.2.2.2.2.2.2.2==([]:Bytes))&&true))))))))))))))))) (some true) (cond (a.2.2.1 !=0) (some true) (some (a.2.2.2.1 !=0)))) (some false)) λq3=>
 cond q3 (some false) (
 aa (cond (a.1==2) (cond (a.1==5) (some true) (some (a.2.2.2.2.2==0))) (cond (a.2.2.2.2.1==([]:Bytes)) (cond (a.1==5) (some true) (some (a.2.2.2.2.2==0))) (some false))) λq4=>some q4))
theorem agk (a:Act):∃b,ajh a=some b:=by simp only[ajh,bQ,ab];exact⟨_,rfl⟩
def Gn (a:Act):Bool:=(ajh a).getD false
theorem am9 (a:Act):ajh a=some (Gn a):=by obtain⟨b,hb⟩:=agk a;simp[Gn,hb]
theorem WU (a:Act):CI a=some (Gn a):=by rw[<-am9];unfold CI;rw[cx];rfl
theorem zC.tx (k:zC n h)(hn:n<=10^9):am8 h.2.2.1:=
 have z:dC 1000000000 dT h:=k.z.mono hn
 ⟨z.2.2.1.2.1.2.2.2.1,z.2.2.1.2.2.1.1,λx hx=>(z.2.2.1.2.2.1.2 x hx).2.2.1⟩
def AH (h:Host)(p:aN)(c z:Int):Host×Bool:=
 bif eT h then(((rR h.2.1 h.1 0 h.2.2.1 p c z).1,h.2.1,(rR h.2.1 h.1 0 h.2.2.1 p c z).2.1,h.2.2.2),(rR h.2.1 h.1 0 h.2.2.1 p c z).2.2) else(h,false)
theorem ahm (h:Host)(p:aN)(c z:Int)(k:zC 900000000 h):zO h p c z=some (AH h p c z):=by have zz:dC 1000000000 dT h:=k.z.mono;unfold zO AH;rw[kA h zz,ab,xB h (k.sz),ab];cases eT h;rfl;simp only[aj,af,ah,ahn _ _ _ _ _ _ _ zz.2.1.1 zz.1.1 (k.tx (by omega)) zz.2.2.1.2.2.1.1 (bq k.t (by omega)),ab]
theorem T4 (hn:128<=n)(l:aw aI)(d:Int)(p:dD)(z:Nat):∀(q:cc)(s:Bytes)(m:bO)(a:aw iv){x},dC n (.sl .str) m->wT l d p z q s m a=some x->dC n (.sl .str) x.2
 |[],s,m,a,x,hm,h=>by cases h;exact hm
 |b::q,s,m,a,x,hm,h=>by rw[wT]at h;cases hq:(hH l m d (oy p b) (s.take z) false).2 with|false=>rw[hq]at h;cases h|true=>rw[hq]at h;exact T4 hn l d p z q _ _ _ (Hh hn hm ..) h
theorem N5 (hn:128<=n)(l:aw aI)(d:Int):∀(q:bO)(m:bO)(r:lZ){x},dC n (.sl .str) m->qE l d q m r=some x->dC n (.sl .str) x.1
 |[],m,r,x,hm,h=>by cases h;exact hm
 |s::q,m,r,x,hm,h=>by rw[qE]at h;cases hq:(dg l m d r s).2.2 with|false=>rw[hq]at h;cases h|true=>rw[hq]at h;exact N5 hn l d q _ _ (Lr hn hm ..) h
theorem aaF (hn:128<=n){q:bO}(hm:dC n (.sl .str) m):dC n (.sl .str) (uy l m d r q).1:=by unfold uy;cases hx:qE l d q m r with|none=>exact hm|some x=>exact N5 hn l d q m r hm hx
theorem aiZ (p:dD)(n:Int):(kv p n).1.2.2.2.length+(kv p n).2.1.length=p.2.2.2.length:=by unfold kv;cases dI p&&di n 0 (p.2.2.2.length:Int)with|false=>rfl|true=>simp only[ah,aM,aV];omega
theorem agu (a:aw qc)(x:qc):(bK (a++[x])).length=(bK a).length+x.2.2.length:=by simp[bK]
theorem aa0:∀l:aw qc,(∀x∈l,1<=x.2.1)->(l.length:Int)<=eS l
 |[],_=>by simp[eS]
 |y::l,h=>by have h1:=aa0 l (λx hx=>h x (fB _ hx));have h2:=h y (List.mem_cons_self ..);simp only[eS,dm,gu,aP]at h1⊢;omega
structure aoG (n:Nat) (m:List Bytes) (t:eR) (r:List Bytes×eR×Bool):Prop where
 mem:dC n (.sl .str) r.1
 tx:dC (n+1) oQ r.2.1
 sum:r.2.1.2.1.2.2.2.length+(bK r.2.1.2.2.1).length<=n
 w:r.2.1.2.2.1.length<=16\/r.2.1.2.2.1=t.2.2.1
theorem U8 (hn:128<=n){z:Int}(d:Int)(hm:dC n (.sl .str) m)(ht:dC n oQ t)(hs:t.2.1.2.2.2.length+(bK t.2.2.1).length<=n):aoG n m t (rR l m d t p c z):=by
 have Xh:aoG n m t (m,t,false):=⟨hm,ht.mono,hs,Or.inr rfl⟩
 unfold rR;cases hg:Pq t&&(dS p&&(di z 1 t.2.1.2.1&&di c 1 128));exact Xh;simp only[ae]at hg;simp only[ah];generalize Ap p z.toNat=k;cases hk:IA t k;exact Xh;simp only[ah];rcases hx:wT l d t.2.1 z.toNat (kv t.2.1 (k:Int)).2.1 (lx p).1 m []with _|x;exact Xh;simp only;unfold Oa;have hpm:=aaF (n:=n) hn (l:=l) (d:=d) (q:=(kJ x.1 c t.2.2.2).map kz) (r:=t.1) (T4 hn l d t.2.1 z.toNat _ _ _ _ hm hx);generalize uy l x.2 d t.1 ((kJ x.1 c t.2.2.2).map kz)=w at hpm⊢;cases w.2.2;exact Xh;have hl:=aiZ t.2.1 (k:Int);have hb:=agu t.2.2.1 (t.2.2.2,(k:Int)+1,(kv t.2.1 (k:Int)).2.1);have hb:(bK (t.2.2.1++[(t.2.2.2,(k:Int)+1,(kv t.2.1 (k:Int)).2.1)])).length=(bK t.2.2.1).length+(kv t.2.1 (k:Int)).2.1.length:=hb;refine⟨hpm,⟨⟨cG,cG,cG,cG⟩,⟨cG,cG,cG,?_,λ_ _=>trivial⟩,?_,cG⟩,?_,Or.inl ?_⟩;show(kv t.2.1 (k:Int)).1.2.2.2.length<=n+1;omega;exact EH (t:=lB) (k:=1) ht.2.2.1 (λy hy=>by rw[br.1 hy];exact⟨cG,cG,by show(kv t.2.1 (k:Int)).2.1.length<=n;omega,λ_ _=>trivial⟩) (by simp);show(kv t.2.1 (k:Int)).1.2.2.2.length+(bK (t.2.2.1++[(t.2.2.2,(k:Int)+1,(kv t.2.1 (k:Int)).2.1)])).length<=n;omega;show(t.2.2.1++[_]).length<=16;have hq:=hg.1;simp only[Pq,ae]at hq;have hrg:=mZ hq.1;have hc:=aa0 t.2.2.1 (λx hx=>by have:=aF.1 hq.2.2.2.1 x hx;simp only[qG,ae,aU]at this;omega);unfold IA at hk;simp only[ae,aO,df]at hk;rw[ai,aY];omega
theorem al4 (hn:1000<=n)(p:aN)(c z:Int)(k:zC n h):zC (n+1) (AH h p c z).1:=by unfold AH;cases eT h;exact k.mono;have zz:=k.z;have s:=U8 (by omega) (l:=h.2.1) (p:=p) (c:=c) (z:=z) 0 zz.1 zz.2.2.1 k.t;have z1:dC (n+1) dT h:=zz.mono;exact⟨⟨s.mem.mono,z1.2.1,s.tx,z1.2.2.2⟩,bq s.sum (by omega)⟩
theorem akm (hn:1000<=n)(p:aN)(c z:Int)(k:zC n h)(f:Px h):Px (AH h p c z).1:=by unfold AH;cases eT h;exact f;have s:=U8 (by omega) (l:=h.2.1) (p:=p) (c:=c) (z:=z) 0 k.z.1 k.z.2.2.1 k.t;refine⟨f.pl,?_⟩;rcases s.w with w|w;exact w;show(rR h.2.1 h.1 0 h.2.2.1 p c z).2.1.2.2.1.length<=16;rw[w];exact f.w
theorem Yz (hn:1000<=n)(x:Bytes)(k:zC n h)(f:Px h):Px (kS h x):=by have:=Hk hn x k;exact⟨by rw[this.2.2];exact f.pl,by rw[this.2.1];exact f.w⟩
theorem N7 (h:Host):∀k,(iQ h k).2.2.1=h.2.2.1
 |0=>rfl
 |k+1=>by show(wN k (iQ h k)).2.2.1=_;rw[<-N7 h k];generalize iQ h k=s;unfold wN;rcases h1:s.2.2.2.1[k]? with _|x;rfl;cases h2:s.2.2.2.2.2.1[k]? with|none=>rfl|some v=>rfl
theorem M5 (hn:1000<=n)(k:zC n h)(f:Px h):zC (n+645000) (qF h)/\Px (qF h):=by
 unfold qF;cases hb:eT h;exact⟨k.mono,f⟩;have hl:=oK (QM hb);have e:=Nt hn k.z hl.1;have hw:=f.w;have hp:=Fu (n:=n) (by omega) k.z h.2.2.2.1.length;have ht:=(AF (n:=n+322000*h.2.2.2.1.length) (h:=h) hp.2 h.2.2.1.2.2.1.length).1.e;have h4:=qC 256 128 8;simp only[ah];have hx:=N7 (jq h) h.2.2.2.1.length;have hk:=(rJ (jq h) h.2.2.2.1.length).pl;have Gf:(jq h).2.2.2.2.1.length=h.2.2.2.2.1.length:=by show(returned h h.2.2.1.2.2.1.length).2.2.2.2.1.length=_;rw[ht];exact hp.1.pl
 refine⟨⟨(Fy (by omega) e _).mono,?_⟩,?_,?_⟩;rw[hx];show(gK 256 128 8).1.2.2.2.length+0<=_;omega;rw[hk,Gf];exact f.pl;rw[hx];show 0<=16;omega
def ako (f:lJ):aw Stream->Int->Int
 |[],_=> -1
 |s::r,i=>if s.1=f then i else ako f r (i+1)
def ajj (a b:aw Stream)(f:lJ):Bool:=
 match idx a (ako f a 0),idx b (ako f b 0)with
 |some x,some y=>decide (x=y)
 |_,_=>false
def axX (b:Bool):Int:=bif b then 1 else 0
def Io (h:Host)(a:Act):Host×Int:=
 bif !eT h|| !Gn a then(h, -1) else
 bif a.1==0 then((AH h a.2.1 a.2.2.1 a.2.2.2.1).1,axX (AH h a.2.1 a.2.2.1 a.2.2.2.1).2) else
 bif a.1==1 then(dy h,0) else
 bif a.1==2 then(kS h a.2.2.2.2.1,0) else
 bif a.1==3 then(oY h,0) else
 bif a.1==4 then(sI h,0) else
 bif a.1==5 then jF h a.2.2.2.2.2 else(qF h,0)
theorem Uq (h:Host)(a:Act)(k:zC 90000000 h)(hx:a.2.2.2.2.1.length<=10^9:=by omega):Fl h a=some (Io h a):=by
 have z:dC 1000000000 dT h:=k.z.mono;unfold Fl Io;rw[xB h (k.sz),ab,WU,ab];cases eT h;simp only[bE,ah,je,ab,kA h z];cases Gn a;simp only[aj,bE,ah,af,jd,ab,kA h z];simp only[aj,af,cu,ab,ahm h _ _ _ (k.mono),KY h (k.mono),KT h _ (k.mono) hx,QZ h (k.mono),Q6 h (k.sz) z,NQ h _ (k.mono),IS h (k.sz) (k.z.mono)];cases a.1==0;case true=>(simp only[ah];cases (AH h a.2.1 a.2.2.1 a.2.2.2.1).2<;>rfl)
 cases a.1==1;case true=>rfl
 cases a.1==2;case true=>rfl
 cases a.1==3;case true=>rfl
 cases a.1==4;case true=>rfl
 cases a.1==5<;>rfl
theorem ana (hn:1000<=n)(a:Act)(k:zC n h)(f:eT h=true\/Px h):zC (n+645000) (Io h a).1/\(eT h=true\/Px h->Px (Io h a).1\/(Io h a).1=h):=by
 have f:Px h:=f.elim acL id;unfold Io;cases !eT h|| !Gn a;case true=>exact⟨k.mono,λ_=>Or.inr rfl⟩
 simp only[af];cases a.1==0;case true=>exact⟨(al4 hn _ _ _ k).mono,λ_=>Or.inl (akm hn _ _ _ k f)⟩
 cases a.1==1;case true=>exact⟨(FN (by omega) k).mono,λ_=>Or.inl (Wu f)⟩
 cases a.1==2;case true=>exact⟨(Hk hn _ k).1.mono,λ_=>Or.inl (Yz hn _ k f)⟩
 cases a.1==3;case true=>exact⟨(Mh hn k).mono,λ_=>Or.inl (agK f)⟩
 cases a.1==4;case true=>exact⟨(LQ hn k).mono,λ_=>Or.inl (akn f)⟩
 cases a.1==5 with|true=>exact⟨(Oc hn _ k).mono,λ_=>Or.inl (agL _ f)⟩|false=>exact⟨(M5 hn k f).1,λ_=>Or.inl (M5 hn k f).2⟩
theorem aji (hn:1000<=n)(a:Act)(k:zC n h)(f:Px h):zC (n+645000) (Io h a).1/\Px (Io h a).1:=by have g:=ana hn a k (Or.inr f);refine⟨g.1,?_⟩;rcases g.2 (Or.inr f)with h1|h1;exact h1;rw[h1];exact f
end
end Go.Pu
