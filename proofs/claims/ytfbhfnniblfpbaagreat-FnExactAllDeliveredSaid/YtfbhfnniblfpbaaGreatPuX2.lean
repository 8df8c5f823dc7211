import Derived.Test.YtfbhfnniblfpbaaGreatPuX1
namespace Go.Pu
open Go.Dn
open Int (tmod)
set_option linter.unusedSimpArgs false
set_option linter.unusedVariables false
noncomputable section
variable {s t x:Bytes} {h:Host} {c d:Int} {k o:Nat} {g:Nat->Host->Host} {p:aR} {R:Type} {l:au aA} {m:bw} {f:bw×bl} {r:kA}
/- Reads and writes by mappings: the pieces, page by page. -/
def S4 (d p:Int)(w:Bool)(x:aA):Bool:=vd d p x&&(x.2.2.2|| !w)
def ve (l:au aA)(d p:Int)(w:Bool):Int:=match l.findIdx? (S4 d p w)with|some i=>(l.getD i S5).2.2.1|none=> -1
theorem aeE (l:au aA)(d p:Int)(w:Bool)(h:l.length<=10^9):AJ l d p w=some (ve l d p w):=by unfold AJ ve;refine Eq.trans (G9 (p:=S4 d p w) (hit:=λi=>aa (idx l i) λx=>some x.2.2.1) (fin:=some (-1)) l (by omega) (λi hi nx=>?_) (λnx=>?_)) ?_;simp only[uB];rw[jo,aU hi,aj (by omega) (by omega)];simp only[af,ab,S4,vd];cases l[i].1==d<;>cases l[i].2.1==p<;>cases l[i].2.2.2<;>cases w<;>rfl;simp only[uB];rw[fO];rfl;cases hf:l.findIdx? (S4 d p w)with|none=>rfl|some i=>obtain⟨hi,_⟩:=List.findIdx?_eq_some_iff_getElem.1 hf;simp only[aU hi,ab,eO hi]
theorem OC (h:fe l=true){i:Nat}(hi:i<l.length):K4 l[i]=true/\∀j (hj:j<i),vd l[i].1 l[i].2.1 (l[j]'(by omega))=false:=by simp only[fe,ah,aW,dm]at h;have:=h.2 i hi;simp only[S3,ah,aW,dm,eO hi,aO]at this;grind
theorem Rp {p:Int}{m:aA}:vd d p m=true↔m.1=d/\m.2.1=p:=by simp[vd]
theorem ad3 (h:fe l=true){p:Int}{i j:Nat}(hi:i<l.length)(hj:j<l.length)(h1:vd d p l[i]=true)(h2:vd d p l[j]=true):i=j:=by grind[Rp,OC]
theorem OJ (h:fe l=true)(d p:Int)(w:Bool)(h1:0<=ve l d p w):ve l d p w<=63/\0<=p/\p<=1023:=by grind[ve,S4,List.findIdx?_eq_some_iff_getElem,OC,Rp,K4,bM]
theorem aa1 (l:au aA)(d:Int)(a:Nat)(w:Bool)(h:l.length<=10^9)(hm:fe l=true)(ha:a<=9223372036854775807): El l d (a:Int) w=some (if 0<=ve l d ((a/128:Nat):Int) w then ve l d ((a/128:Nat):Int) w*128+((a%128:Nat):Int) else-1):=by
 have e1:Int.tdiv (a:Int) 128=((a/128:Nat):Int):=aad a 128;have e2:tmod (a:Int) 128=((a%128:Nat):Int):=Wp a 128;unfold El;rw[fO,ae,mG,e1,e2,aj (by omega) (by omega),U3 l _ _ h,ab];generalize ((a/128:Nat):Int)=p;have tU:=OJ hm d p w;unfold Vx;cases hf:l.findIdx? (vd d p)with
 |none=>
  have hn:ve l d p w= -1:=by grind[ve,S4]
  rw[hn];rfl
 |some i=>
  obtain⟨hi,h2,h3⟩:=List.findIdx?_eq_some_iff_getElem.1 hf;simp only;rw[fO,aU hi];simp only[ae,ab];cases hq:l[i].2.2.2|| !w with
  |true=>
   have hF:ve l d p w=l[i].2.2.1:=by grind[ve,List.findIdx?_eq_some_iff_getElem,S4]
   have h4:=(OC hm hi).1;simp only[K4,ah,bM]at h4
   rw[hF,aF (show 0<=l[i].2.2.1 by omega),show(aa (cond w (some (!l[i].2.2.2)) (some false)) λq3=>cond q3 (some (-1:Int)) _)=_ from by
    have:(cond w (some (!l[i].2.2.2)) (some false))=some false:=by cases w<;>cases hz:l[i].2.2.2<;>rw[hz]at hq<;>first|rfl|cases hq
    rw[this,ab,ae]]
   grind[aj]
  |false=>grind[ve,List.getElem_of_mem,vd,S4,ad3,ab]
def lp (l:au aA)(m:bw)(d:Int)(w:Bool):Nat->Nat->Nat->aw (au (Int×Int))
 |0,_,_=>some []
 |n+1,a,r=>if r=0 then some [] else
  if 0<=ve l d ((a/128:Nat):Int) w/\ve l d ((a/128:Nat):Int) w<(m.length:Int) then
   (lp l m d w n (a+min (128-a%128) r) (r-min (128-a%128) r)).map (λq=>(ve l d ((a/128:Nat):Int) w*128+((a%128:Nat):Int),((min (128-a%128) r:Nat):Int))::q)
  else none
theorem TQ (hm:gx m=true){f:Int}(h0:0<=f){c:Nat}(hc:0<c)(ho:o+c<=128):gj m (f*128+(o:Int)) (c:Int)=decide (f<(m.length:Int)):=by grind[gj]
theorem WD (hm:gx m=true){f:Int}(h0:0<=f):gj m (f*128) 128=decide (f<(m.length:Int)):=by grind[gj]
theorem JF (hl:fe l=true)(hL:l.length<=10^9)(hm:gx m=true)(d:Int)(w:Bool):∀(n a r f:Nat)(acc:au (Int×Int)),r<=n->n<f->acc.length+n<=1000000->a<=9223372036854775807->
 aL (qM (λ(y9:Int) (xe:Int) (B6:au (Int×Int))=>some (B6,true)) (λ(Lx:Int) (KC:Int) (GX:au (Int×Int)) (Qy:Bool) (T0:au (Int×Int))=>some (GX,Qy)) l d w ([]:au (Int×Int)) false m) f ((a:Int),(r:Int),acc)
  =match lp l m d w n a r with|some q=>some (acc++q,true)|none=>some ([],false)
 |n,a,r,0,acc,_,hf,_,_=>by omega
 |0,a,r,f+1,acc,hr,hf,hA,ha=>by rw[aL];simp only[qM];rw[fO];simp[lp]
 |n+1,a,r,f+1,acc,hr,hf,hA,ha=>by
  have h64:=(mem_iff.1 hm).2;rw[aL];simp only[qM,lp];by_cases h0:r=0;rw[fO,aF h0];simp;have e2:tmod (a:Int) 128=((a%128:Nat):Int):=Wp a 128;have tU:=OJ hl d ((a/128:Nat):Int) w;rw[jo,aE h0,aa1 l d a w hL hl ha,ab,mG,e2,aj (n:=128-((a%128:Nat):Int)) (by omega) (by omega)];obtain⟨c,hc⟩:∃c,min (128-a%128) r=c:=⟨_,rfl⟩
  rw[hc,show(if 128-((a%128:Nat):Int)<(r:Int) then 128-((a%128:Nat):Int) else(r:Int))=(c:Int) by split<;>omega];generalize hP:ve l d ((a/128:Nat):Int) w=P at tU⊢;by_cases hP0:0<=P;have tU:=tU hP0;simp only[aF hP0,af];rw[aq (show¬P*128+((a%128:Nat):Int)<0 by omega),Gr m _ _ (by omega),TQ hm hP0 (by omega) (by omega)];simp only[ae,ab];by_cases hP1:P<(m.length:Int);rw[ax hP1,aF ⟨hP0,hP1⟩];simp only[ai,ae];rw[aQ (by simp;omega),aj (n:=(a:Int)+(c:Int)) (by omega) (by omega),aj (n:=(r:Int)-(c:Int)) (by omega) (by omega),aq (show¬(a:Int)+(c:Int)<0 by omega)];simp only[ae,ab];have key:=JF hl hL hm d w n (a+c) (r-c) f (acc++[(P*128+((a%128:Nat):Int),(c:Int))]) (by omega) (by omega) (by simp;omega) (by omega);rw[show((a+c:Nat):Int)=(a:Int)+(c:Int) by omega,show((r-c:Nat):Int)=(r:Int)-(c:Int) by omega]at key;rw[key];cases lp l m d w n (a+c) (r-c)with|none=>rfl|some q=>simp
  rw[aq hP1,mG];rfl;simp only[aE hP0,af];rw[mG,jo];rfl
theorem Kj (hl:fe l=true)(hL:l.length<=10^9)(hm:gx m=true)(d:Int)(w:Bool):∀(n a r f:Nat)(acc:au (Int×Int)),r<=n->n<f->acc.length+n<=1000000->a<=9223372036854775807->
 aL (kz (λ(xe:Int) (B6:Int) (Lx:dR) (KC:dR)=>some (Lx,KC,true)) (λ(GX:Int) (Qy:Int) (T0:dR) (y17:dR) (Y8:Bool) (y19:dR) (y20:dR)=>some (T0,y17,Y8)) l d w ([]:dR) ([]:dR) false m) f ((a:Int),(r:Int),acc.map (·.1),acc.map (·.2))
  =match lp l m d w n a r with|some q=>some ((acc++q).map (·.1),(acc++q).map (·.2),true)|none=>some ([],[],false)
 |n,a,r,0,acc,_,hf,_,_=>by omega
 |0,a,r,f+1,acc,hr,hf,hA,ha=>by rw[aL];simp only[kz];rw[fO];simp[lp]
 |n+1,a,r,f+1,acc,hr,hf,hA,ha=>by
  have h64:=(mem_iff.1 hm).2;rw[aL];simp only[kz,lp];by_cases h0:r=0;rw[fO,aF h0];simp;have e1:Int.tdiv (a:Int) 128=((a/128:Nat):Int):=aad a 128;have e2:tmod (a:Int) 128=((a%128:Nat):Int):=Wp a 128;have tU:=OJ hl d ((a/128:Nat):Int) w;rw[ax (show(r:Int)>0 by omega),ax (show(a:Int)>=0 by omega),aE h0];simp only[af];rw[mG,e1,e2,aj (n:=((a/128:Nat):Int)) (by omega) (by omega),aeE l _ _ w hL,ab,mG,aj (n:=128-((a%128:Nat):Int)) (by omega) (by omega)];obtain⟨c,hc⟩:∃c,min (128-a%128) r=c:=⟨_,rfl⟩
  rw[hc,show(if 128-((a%128:Nat):Int)<(r:Int) then 128-((a%128:Nat):Int) else(r:Int))=(c:Int) by split<;>omega];generalize hP:ve l d ((a/128:Nat):Int) w=P at tU⊢;by_cases hP0:0<=P;have tU:=tU hP0;rw[aq (show¬P<0 by omega),aj (n:=P*128) (by omega) (by omega),GO m _ _ (by omega),WD hm hP0];simp only[ae,ab];by_cases hP1:P<(m.length:Int);rw[ax hP1,aF ⟨hP0,hP1⟩];simp only[ai,ae];rw[aQ (by simp;omega),aQ (by simp;omega),aj (n:=P*128+((a%128:Nat):Int)) (by omega) (by omega),aj (n:=(a:Int)+(c:Int)) (by omega) (by omega),aj (n:=(r:Int)-(c:Int)) (by omega) (by omega)];have key:=Kj hl hL hm d w n (a+c) (r-c) f (acc++[(P*128+((a%128:Nat):Int),(c:Int))]) (by omega) (by omega) (by simp;omega) (by omega);rw[show((a+c:Nat):Int)=(a:Int)+(c:Int) by omega,show((r-c:Nat):Int)=(r:Int)-(c:Int) by omega,List.map_append,List.map_append]at key;refine Eq.trans key ?_;cases lp l m d w n (a+c) (r-c)with|none=>rfl|some q=>simp
  rw[aq hP1,mG];rfl;rw[mG,jo];rfl
def od (l:au aA)(m:bw)(d a n:Int)(w:Bool):au (Int×Int)×Bool:=
 bif fe l&&(gx m&&dw n 0 4096) then
  (bif n==0 then([],true) else bif decide (a<0) then([],false) else match lp l m d w n.toNat a.toNat n.toNat with|some q=>(q,true)|none=>([],false))
 else([],false)
theorem Va (l:au aA)(m:bw)(d a n:Int)(w:Bool)(hl:l.length<=10^9)(hm:m.length<=10^9)(ha:a<=9223372036854775807):yR l m d a n w=some (od l m d a n w):=by
 have vC:=cE;unfold yR od;simp only[JB l hl,IH m hm,cO,ab];cases hB:fe l;rfl;cases hM:gx m;rfl;cases hN:dw n 0 4096;rfl;have hn:=bM.1 hN;simp only[ai,ae,ab,du,af];cases h0:n==0;case true=>rfl
 by_cases hA:a<0;rw[ax hA];rfl;rw[aq hA];simp only[ae];obtain⟨a,rfl⟩:=aG (show 0<=a by omega);obtain⟨n,rfl⟩:=aG hn.1;rw[JF hB hl hM d w n a n fuel [] (by omega) (by omega) (by simp;omega) (by omega)];simp only[az];cases lp l m d w n a n<;>rfl
theorem RO (l:au aA)(m:bw)(d a n:Int)(w:Bool)(hl:l.length<=10^9)(hm:m.length<=10^9)(ha:a<=9223372036854775807):tQ l m d a n w=some ((od l m d a n w).1.map (·.1),(od l m d a n w).1.map (·.2),(od l m d a n w).2):=by
 have vC:=cE;unfold tQ od;simp only[Kg l hl,ES m hm,cz,ab];cases hB:fe l;rfl;cases hM:gx m;rfl;cases hN:dw n 0 4096;rfl;have hn:=bM.1 hN;simp only[ai,ae,ab,du,af];obtain⟨n,rfl⟩:=aG hn.1;cases h0:((n:Int)==0)with
 |true=>
  have:n=0:=by simpa using h0
  subst this;obtain⟨f,hf⟩:∃f,fuel=f+1:=⟨fuel-1,by omega⟩
  rw[hf,aL];rfl
 |false=>
  have hn0:n≠0:=by simpa using h0
  by_cases hA:a<0;obtain⟨f,hf⟩:∃f,fuel=f+1:=⟨fuel-1,by omega⟩
  rw[ax hA,hf,aL];simp only[kz];rw[jo,fO];rfl;rw[aq hA];simp only[ae];obtain⟨a,rfl⟩:=aG (show 0<=a by omega);refine Eq.trans (Kj hB hl hM d w n a n fuel [] (by omega) (by omega) (by simp;omega) (by omega)) ?_;simp only[az];cases lp l m d w n a n<;>rfl
def H3 (x:Bytes)(o:Nat)(t:Bytes):Bytes:=x.take o++(t++x.drop (o+t.length))
theorem abG (h:o+t.length<=x.length):(H3 x o t).length=x.length:=by grind[H3]
theorem abJ (x:Bytes)(o:Nat)(t:Bytes):aM (DG (dc x) o (dc t))=H3 x o t:=by
 have e:DG (dc x) o (dc t)=dc (H3 x o t):=by grind[DG,H3,dc,List.map_take,List.map_drop]
 rw[e,Nx]
theorem ael (h:o+t.length<=x.length):wC x (o:Int) t=H3 x o t:=by grind[wC,fu,H3]
def B5:Nat->bw->Nat->Bytes->bw
 |0,m,_,_=>m
 |n+1,m,a,s=>if s.length=0 then m else
  B5 n (m.set (a/128) (H3 (m.getD (a/128) []) (a%128) (s.take (128-a%128)))) (a+min (128-a%128) s.length) (s.drop (128-a%128))
def EF (m:bw):Prop:=(∀x∈m,x.length=128)/\m.length<=64
theorem Hn:gx m=true↔EF m:=mem_iff
theorem Ld {p:Nat}(h:EF m)(hx:x.length=128):EF (m.set p x):=by refine⟨λy hy=>?_,by rw[aJ];exact h.2⟩;rcases List.mem_or_eq_of_mem_set hy with g|g;exact h.1 y g;rw[g];exact hx
theorem I2 (h:EF m){a:Nat}(hs:s.length≠0)(ha:a+s.length<=128*m.length): ∃(hp:a/128<m.length),(m[a/128]'hp).length=128/\(H3 (m[a/128]'hp) (a%128) (s.take (128-a%128))).length=128:=by
 have hp:a/128<m.length:=by omega
 have hl:=h.1 _ (bc hp);grind[abG]
theorem E9:∀(n:Nat){m:bw}{a:Nat}{s:Bytes},EF m->a+s.length<=128*m.length->EF (B5 n m a s)/\(B5 n m a s).length=m.length
 |0,m,a,s,h,_=>⟨h,rfl⟩
 |n+1,m,a,s,h,ha=>by rw[B5];split;exact⟨h,rfl⟩;rename_i hs;obtain⟨hp,hl,ho⟩:=I2 h hs ha;rw[eO hp];have:=E9 n (m:=m.set (a/128) (H3 m[a/128] (a%128) (s.take (128-a%128)))) (a:=a+min (128-a%128) s.length) (s:=s.drop (128-a%128)) (Ld h ho) (by rw[aJ,bh];omega);rw[aJ]at this;exact this
theorem HZ (K:Int->Bytes->bw->aw R)(K':bw->aw R)(hK:∀a m,K a [] m=K' m):∀(n:Nat)(m:bw)(a:Nat)(s:Bytes)(f:Nat),s.length<=n->n<f->EF m->a+s.length<=128*m.length->
 aL (mS K ([]:bw)) f ((a:Int),s,m)=K' (B5 n m a s)
 |n,m,a,s,0,_,hf,_,_=>by omega
 |n,m,a,s,f+1,hs,hf,hm,ha=>by
  rw[aL];simp only[mS];by_cases h0:s.length=0;have:s=[]:=cr h0;subst this;rw[aq (by simp),ae,hK];cases n<;>simp[B5];cases n with
  |zero=>omega
  |succ n=>
   obtain⟨hp,hl,ho⟩:=I2 hm h0 ha;have h64:=hm.2;have e1:Int.tdiv (a:Int) 128=((a/128:Nat):Int):=aad a 128;have e2:tmod (a:Int) 128=((a%128:Nat):Int):=Wp a 128;rw[jo,af,mG,e1,e2,aj (n:=((a/128:Nat):Int)) (by omega) (by omega),aU hp,ab,aQ (by omega),mG];have pG:sub (dc m[a/128]) ((a%128:Nat):Int) ((dc m[a/128]).length:Int)=some ((dc m[a/128]).drop (a%128)):=by rw[M9 _ _ _ (by rw[JM];omega) (aX _),bB (by rw[bh];exact aX _)]
   rw[pG,ab,mG,ab,ab];have hd:((dc m[a/128]).drop (a%128)).length=128-a%128:=by rw[bh,JM,hl]
   rw[hd];have hdr:s.drop (min (128-a%128) s.length)=s.drop (128-a%128):=by by_cases h3:128-a%128<=s.length;rw[iI h3];rw[Nat.min_eq_right (by omega),cK (aX _),cK (by omega)]
   have ain:sub s (((min (128-a%128) s.length:Nat)):Int) ((s.length:Int))=some (s.drop (128-a%128)):=by rw[<-hdr];unfold sub;rw[zip];simp
   rw[ain,ab,aj (n:=(a:Int)+((min (128-a%128) s.length:Nat):Int)) (by omega) (by omega),az,az,abJ];rw[B5,aE h0,eO hp,show(a:Int)+((min (128-a%128) s.length:Nat):Int)=((a+min (128-a%128) s.length:Nat):Int) by omega];exact HZ K K' hK n _ _ _ f (by rw[bh];omega) (by omega) (Ld hm ho) (by rw[aJ,bh];omega)
theorem Ib (K:Int->Bytes->bw->aw R)(K':bw->aw R)(hK:∀a m,K a [] m=K' m):∀(n:Nat)(m:bw)(a:Nat)(s:Bytes)(f:Nat),s.length<=n->n<f->EF m->a+s.length<=128*m.length->
 aL (na K ([]:bw)) f ((a:Int),s,m)=K' (B5 n m a s)
 |n,m,a,s,0,_,hf,_,_=>by omega
 |n,m,a,s,f+1,hs,hf,hm,ha=>by
  rw[aL];simp only[na];by_cases h0:s.length=0;have:s=[]:=cr h0;subst this;rw[aq (by simp),ae,hK];cases n<;>simp[B5];cases n with
  |zero=>omega
  |succ n=>
   obtain⟨hp,hl,ho⟩:=I2 hm h0 ha;have h64:=hm.2;have e1:Int.tdiv (a:Int) 128=((a/128:Nat):Int):=aad a 128;have e2:tmod (a:Int) 128=((a%128:Nat):Int):=Wp a 128;rw[jo,af,mG,mG,mG,e1,e2,aj (n:=((a/128:Nat):Int)) (by omega) (by omega),aj (n:=128-((a%128:Nat):Int)) (by omega) (by omega),aU hp,ab];obtain⟨c,hc⟩:∃c,min (128-a%128) s.length=c:=⟨_,rfl⟩
   rw[show(if 128-((a%128:Nat):Int)<(s.length:Int) then 128-((a%128:Nat):Int) else(s.length:Int))=(c:Int) by split<;>omega];have ht:s.take c=s.take (128-a%128):=by by_cases h3:128-a%128<=s.length;rw[<-hc,iI h3];rw[<-hc,Nat.min_eq_right (by omega),bB (aX _),bB (by omega)]
   have hdr:s.drop c=s.drop (128-a%128):=by by_cases h3:128-a%128<=s.length;rw[<-hc,iI h3];rw[<-hc,Nat.min_eq_right (by omega),cK (aX _),cK (by omega)]
   have hs1:sub s 0 (c:Int)=some (s.take (128-a%128)):=by rw[<-ht];unfold sub;rw[zip];simp
   have hs2:sub s (c:Int) (s.length:Int)=some (s.drop (128-a%128)):=by rw[<-hdr];unfold sub;rw[zip];simp
   rw[hs1,ab,EV _ _ _ (by omega),ab,ab,ab,hs2,ab,ael (by rw[bn,hl];omega),aj (n:=(a:Int)+(c:Int)) (by omega) (by omega),az];rw[B5,aE h0,eO hp,hc,show(a:Int)+(c:Int)=((a+c:Nat):Int) by omega];exact Ib K K' hK n _ _ _ f (by rw[bh];omega) (by omega) (Ld hm ho) (by rw[aJ,bh];omega)
def xd (m:bw)(a:Int)(s:Bytes):bw×Bool:=bif gj m a (s.length:Int) then(B5 s.length m a.toNat s,true) else(m,false)
theorem XU (m:bw)(a:Int)(s:Bytes)(h:m.length<=10^9)(hs:s.length<=10^9):rT m a s=some (xd m a s):=by have vC:=cE;unfold rT xd;rw[fF m,ab,Gr m _ _ h,ab];cases hw:gj m a (s.length:Int);rfl;simp only[gj,ah,bD]at hw;obtain⟨a,rfl⟩:=aG hw.2.2.1;simp only[ai,ae,af,az];exact HZ _ (λm=>some (m,true)) (λ_ _=>rfl) s.length m a s fuel (aX _) (by omega) (Hn.1 hw.1) (by omega)
theorem YN (m:bw)(a:Int)(s:Bytes)(h:m.length<=10^9)(hs:s.length<=10^9):sB m a s=some (xd m a s):=by have vC:=cE;unfold sB xd;rw[gJ m,ab,GO m _ _ h,ab];cases hw:gj m a (s.length:Int);rfl;simp only[gj,ah,bD]at hw;obtain⟨a,rfl⟩:=aG hw.2.2.1;simp only[ai,ae,af,az];exact Ib _ (λm=>some (m,true)) (λ_ _=>rfl) s.length m a s fuel (aX _) (by omega) (Hn.1 hw.1) (by omega)
theorem GW (m:bw)(a:Int)(s:Bytes):(xd m a s).1.length=m.length:=by grind[xd,gj,E9,Hn]
def Th:au (Int×Int)->bw->Bytes->bw
 |[],m,_=>m
 |p::q,m,s=>Th q (xd m p.1 (s.take p.2.toNat)).1 (s.drop p.2.toNat)
theorem VD:∀(q:au (Int×Int))(m:bw)(s:Bytes),(Th q m s).length=m.length
 |[],m,s=>rfl
 |p::q,m,s=>by rw[Th,VD q,GW]
def Qu (q:au (Int×Int)):Int:=(q.map (·.2)).sum
theorem Z9:∀(q:au (Int×Int)),(∀p∈q,0<=p.2)->0<=Qu q
 |[],_=>Int.le_refl _
 |p::q,h=>by have:=Z9 q (λx hx=>h x (by simp[hx]));grind[Qu]
theorem VH {p:Int×Int}{q:au (Int×Int)}(hc:∀x∈p::q,0<=x.2)(hs:(s.length:Int)=Qu (p::q)):0<=p.2/\p.2<=(s.length:Int)/\((s.drop p.2.toNat).length:Int)=Qu q:=by have h1:=hc p (by simp);have h2:=Z9 q (λx hx=>hc x (by simp[hx]));grind[Qu]
theorem R0 (h0:0<=c)(h1:c<=(s.length:Int)):sub s 0 c=some (s.take c.toNat):=by grind[sub]
theorem Wi (h0:0<=c)(h1:c<=(s.length:Int)):sub s c (s.length:Int)=some (s.drop c.toNat):=by simp_all[sub]
theorem LZ (K:Bytes->Int->bw->aw (bw×Bool))(hK:∀s i m,K s i m=some (m,true)):∀(rest pre:au (Int×Int))(m:bw)(s:Bytes)(f:Nat),rest.length<f->pre.length+rest.length<=1000000->(∀x∈rest,0<=x.2)->(s.length:Int)=Qu rest->m.length<=10^9->s.length<=1000000->
 aL (yQ K (pre++rest) ((pre++rest).length:Int) ([]:bw)) f (s,(pre.length:Int),m)=some (Th rest m s,true)
 |rest,pre,m,s,0,hf,_,_,_,_,_=>by omega
 |[],pre,m,s,f+1,_,_,_,_,_,_=>by rw[aL];simp only[yQ];rw[aq (by simp),ae,hK];rfl
 |p::q,pre,m,s,f+1,hf,hn,hc,hs,hm,hl=>by
  obtain⟨h1,h2,h3⟩:=VH hc hs;simp only[ca]at hf hn;have hi:pre.length<(pre++p::q).length:=by simp
  have hp:(pre++p::q)[pre.length]=p:=by simp
  rw[aL];simp only[yQ];rw[ax (by simp;omega),aU hi,hp,aj (by omega) (by omega)];simp only[af,ab,R0 h1 h2,Wi h1 h2,XU m _ _ hm (show(s.take p.2.toNat).length<=10^9 by rw[bn];omega)];have key:=LZ K hK q (pre++[p]) (xd m p.1 (s.take p.2.toNat)).1 (s.drop p.2.toNat) f (by omega) (by simp;omega) (λx hx=>hc x (by simp[hx])) h3 (by rw[GW];exact hm) (by rw[bh];omega);grind[Th]
theorem Mj (K:Bytes->Int->bw->aw (bw×Bool))(hK:∀s i m,K s i m=some (m,true)):∀(rest pre:au (Int×Int))(m:bw)(s:Bytes)(f:Nat),rest.length<f->pre.length+rest.length<=1000000->(∀x∈rest,0<=x.2)->(s.length:Int)=Qu rest->m.length<=10^9->s.length<=1000000->
 aL (nD K ((pre++rest).map (·.1)) ((pre++rest).map (·.2)) ([]:bw)) f (s,(pre.length:Int),m)=some (Th rest m s,true)
 |rest,pre,m,s,0,hf,_,_,_,_,_=>by omega
 |[],pre,m,s,f+1,_,_,_,_,_,_=>by rw[aL];simp only[nD];rw[aq (by simp),ae,hK];rfl
 |p::q,pre,m,s,f+1,hf,hn,hc,hs,hm,hl=>by
  obtain⟨h1,h2,h3⟩:=VH hc hs;simp only[ca]at hf hn;have hi:pre.length<(pre++p::q).length:=by simp
  have hp:(pre++p::q)[pre.length]=p:=by simp
  have i1:idx ((pre++p::q).map (·.1)) (pre.length:Int)=some p.1:=by grind[aU]
  have i2:idx ((pre++p::q).map (·.2)) (pre.length:Int)=some p.2:=by grind[aU]
  rw[aL];simp only[nD];rw[ax (by simp;omega),i1,i2,aj (by omega) (by omega)];simp only[af,ab,R0 h1 h2,Wi h1 h2,YN m _ _ hm (show(s.take p.2.toNat).length<=10^9 by rw[bn];omega)];have key:=Mj K hK q (pre++[p]) (xd m p.1 (s.take p.2.toNat)).1 (s.drop p.2.toNat) f (by omega) (by simp;omega) (λx hx=>hc x (by simp[hx])) h3 (by rw[GW];exact hm) (by rw[bh];omega);grind[Th]
theorem OO (l:au aA)(m:bw)(d:Int)(w:Bool):∀(n a r:Nat)(q:au (Int×Int)),r<=n->lp l m d w n a r=some q->Qu q=(r:Int)/\(∀p∈q,0<=p.2)/\q.length<=n
 |0,a,r,q,hr,h=>by simp only[lp,aZ]at h;subst h;exact⟨by show(0:Int)=_;omega,by simp,by simp⟩
 |n+1,a,r,q,hr,h=>by simp only[lp]at h;split at h;simp only[aZ]at h;subst h;exact⟨by show(0:Int)=_;omega,by simp,by simp⟩;split at h;simp only[Option.map_eq_some_iff]at h;obtain⟨q',h1,rfl⟩:=h;obtain⟨i1,i2,i3⟩:=OO l m d w n _ _ q' (by omega) h1;refine⟨?_,?_,by simp only[ca];omega⟩;simp only[Qu,List.map_cons,List.sum_cons]at i1⊢;rw[i1];omega;intro p hp;rcases cg.1 hp with rfl|hp;show(0:Int)<=((min (128-a%128) r:Nat):Int);omega;exact i2 p hp;cases h
theorem RG (l:au aA)(m:bw)(d a n:Int)(w:Bool)(h:(od l m d a n w).2=true):Qu (od l m d a n w).1=n/\(∀p∈(od l m d a n w).1,0<=p.2)/\(od l m d a n w).1.length<=4096/\n<=4096:=by
 unfold od at h⊢;cases hB:fe l&&(gx m&&dw n 0 4096)with|false=>grind|true=>?_
 rw[hB]at h;simp only[ah,bM]at hB;simp only[af]at h⊢;cases h0:n==0 with
 |true=>
  have:n=0:=by simpa using h0
  subst this;exact⟨rfl,by simp,by simp,by omega⟩
 |false=>rw[h0]at h;simp only[ae]at h⊢;cases ha:decide (a<0)with|true=>grind|false=>rw[ha]at h;simp only[ae]at h⊢;cases hq:lp l m d w n.toNat a.toNat n.toNat with|none=>grind|some q=>obtain⟨i1,i2,i3⟩:=OO l m d w _ _ _ q (aX _) hq;grind
def mw (l:au aA)(m:bw)(d a:Int)(s:Bytes)(w:Bool):bw×Bool:=
 bif (od l m d a (s.length:Int) w).2 then(Th (od l m d a (s.length:Int) w).1 m s,true) else(m,false)
theorem lT (l:au aA)(m:bw)(d a:Int)(s:Bytes)(w:Bool):(mw l m d a s w).1.length=m.length:=by grind[mw,VD]
theorem U6 (l:au aA)(m:bw)(d a:Int)(s:Bytes)(w:Bool)(hl:l.length<=10^9)(hm:m.length<=10^9)(ha:a<=9223372036854775807):Gt l m d a s w=some (mw l m d a s w):=by have vC:=cE;unfold Gt mw;rw[fF m,ab,Va l m d a _ w hl hm ha,ab];have hS:=RG l m d a (s.length:Int) w;generalize od l m d a (s.length:Int) w=r at hS⊢;cases hr:r.2;rfl;obtain⟨h1,h2,h3,h4⟩:=hS hr;simp only[ai,ae,af];exact LZ _ (λ_ _ _=>rfl) r.1 [] m s fuel (by omega) (by simp;omega) h2 h1.symm hm (by omega)
theorem Az (l:au aA)(m:bw)(d a:Int)(s:Bytes)(hl:l.length<=10^9)(hm:m.length<=10^9)(ha:a<=9223372036854775807):mA l m d a s=some (mw l m d a s true):=by have vC:=cE;unfold mA mw;rw[RO l m d a _ true hl hm ha,ab,gJ m,ab];have hS:=RG l m d a (s.length:Int) true;generalize od l m d a (s.length:Int) true=r at hS⊢;cases hr:r.2;rfl;obtain⟨h1,h2,h3,h4⟩:=hS hr;simp only[ai,ae,af];exact Mj _ (λ_ _ _=>rfl) r.1 [] m s fuel (by omega) (by simp;omega) h2 h1.symm hm (by omega)
theorem Ed (l:au aA)(m:bw)(d a:Int)(s:Bytes)(hl:l.length<=10^9)(hm:m.length<=10^9)(ha:a<=9223372036854775807):pq l m d a s=some (mw l m d a s true):=by simp_all[pq,U6]
def wrM (x:aA):aA:=(x.1,x.2.1,x.2.2.1,true)
theorem getD_map {i:Nat}(hi:i<l.length):(l.map wrM).getD i S5=wrM (l.getD i S5):=by grind
theorem S6 (l:au aA):fe (l.map wrM)=fe l:=by
 unfold fe;rw[cj];congr 1;rw[eT,aW,aW];have key:∀i,i<l.length->S3 (l.map wrM) i=S3 l i:=by
  intro i hi;unfold S3;rw[getD_map hi];congr 1;rw[eT,aW,aW];constructor;intro h j hj;have hjl:j<l.length:=by have:=dm.1 hj;omega
  have:=h j hj;rw[getD_map hjl]at this;exact this;intro h j hj;have hjl:j<l.length:=by have:=dm.1 hj;omega
  rw[getD_map hjl];exact h j hj
 constructor;intro h i hi;rw[<-key i (dm.1 hi)];exact h i hi;intro h i hi;rw[key i (dm.1 hi)];exact h i hi
theorem aeh (l:au aA)(d p:Int):ve (l.map wrM) d p true=ve l d p false:=by grind[ve,S4,wrM,vd,List.findIdx?_eq_some_iff_getElem]
theorem Rx (l:au aA)(m:bw)(d:Int):∀n a r,lp (l.map wrM) m d true n a r=lp l m d false n a r
 |0,a,r=>rfl
 |n+1,a,r=>by simp only[lp,aeh,Rx l m d n]
theorem afQ (l:au aA)(m:bw)(d a:Int)(s:Bytes):mw (l.map wrM) m d a s true=mw l m d a s false:=by
 have e:od (l.map wrM) m d a (s.length:Int) true=od l m d a (s.length:Int) false:=by simp only[od,S6,Rx]
 simp only[mw,e]
theorem Ia (l:au aA)(m:bw)(d a:Int)(s:Bytes)(hl:l.length<=10^9)(hm:m.length<=10^9)(ha:a<=9223372036854775807):rf l m d a s=some (mw l m d a s false):=by unfold rf;refine cd (λi=>((l.take i).map wrM,(i:Int))) l.length (by omega) (λi nx hi=>?_) (λnx=>?_);simp only[qi];rw[jo,aU hi,aj (by omega) (by omega)];simp only[af,ab];rw[aQ (by simp;omega),bg hi,List.map_append];rfl;simp only[qi];rw[fO,ae,cw,Az _ m d a s (by rw[cj];exact hl) hm ha,afQ];rfl
theorem C1 (l:au aA)(m:bw)(d a:Int)(s:Bytes)(hl:l.length<=10^9)(hm:m.length<=10^9)(ha:a<=9223372036854775807:=by omega):jj l m d a s=some (mw l m d a s false):=by simp_all[jj,U6]
def qA (d:Dh):Bool:=dw d.1 0 3&&(dw d.2.1 0 3&&(dw d.2.2.1 0 65535&&(dw d.2.2.2.2.1 0 65535&&(dw d.2.2.2.2.2 0 65535&&dw d.2.2.2.1 0 4294967295))))
theorem U0 (d:Dh):yN d=some (qA d):=by simp only[yN,cO,ab,qA];cases dw d.1 0 3<;>cases dw d.2.1 0 3<;>cases dw d.2.2.1 0 65535<;>cases dw d.2.2.2.2.1 0 65535<;>cases dw d.2.2.2.2.2 0 65535<;>rfl
theorem Kc (d:Dh):rb d=some (qA d):=by simp only[rb,cz,ab,qA];cases dw d.1 0 3<;>cases dw d.2.1 0 3<;>cases dw d.2.2.1 0 65535<;>cases dw d.2.2.2.2.1 0 65535<;>cases dw d.2.2.2.2.2 0 65535<;>rfl
def Ad (d:Dh):Bytes:=
 bif qA d then((((aM [fW d.1,fW d.2.1]++bU d.2.2.1)++iS d.2.2.2.1)++bU d.2.2.2.2.1)++bU d.2.2.2.2.2)++iS 0 else []
theorem Ts (d:Dh):lz d=some (Ad d):=by have h1:=bu d.2.2.1;have h2:=dz d.2.2.2.1;have h3:=bu d.2.2.2.2.1;have h4:=bu d.2.2.2.2.2;have h5:=dz 0;have h0:(aM [fW d.1,fW d.2.1]).length=2:=rfl;unfold lz Ad;rw[Kc,ab];cases qA d;all_goals simp(disch:=omega)[gM,mz,aQ]
theorem SR (d:Dh):lu d=some (Ad d):=by have h1:=bu d.2.2.1;have h2:=dz d.2.2.2.1;have h3:=bu d.2.2.2.2.1;have h4:=bu d.2.2.2.2.2;have h5:=dz 0;have h0:(aM [fW d.1,fW d.2.1]).length=2:=rfl;unfold lu Ad;rw[U0,ab];cases qA d;all_goals simp(disch:=omega)[kD,Bq,aQ]
def vA (r:kA):Int:=bif ft r then ak (r.2.1-cR r) else 0
def Ab (r:kA)(c:Int):Int:=bif !ft r||decide (c<0) then-1 else r.1+tmod c r.2.1*16
theorem qc (h:ft r=true):0<=r.1/\r.1<=130944/\(r.2.1=2\/r.2.1=4\/r.2.1=8\/r.2.1=16)/\0<=r.2.2.1/\r.2.2.1<=2*r.2.1-1/\0<=r.2.2.2/\r.2.2.2<=2*r.2.1-1:=by grind[ft,bM,mx]
theorem DQ (r:kA)(c:Int): -1<=Ab r c/\Ab r c<=200000:=by unfold Ab;cases hc: !ft r||decide (c<0)with|true=>grind|false=>simp only[dh,eo,cM]at hc;have h:=qc hc.1;grind
def dq (l:au aA)(m:bw)(d:Int)(r:kA)(s:Bytes):bw×kA×Bool:=
 bif (vA r==0)||((s.length:Int) !=16) then(m,r,false) else
 bif !(mw l m d (Ab r r.2.2.2) s true).2 then(m,r,false) else
 ((mw l m d (Ab r r.2.2.2) s true).1,(r.1,r.2.1,r.2.2.1,tmod (r.2.2.2+1) (2*r.2.1)),true)
theorem Rz {a:Int}{w:Bool}(h:(mw l m d a s w).2=false):(mw l m d a s w).1=m:=by grind[mw]
theorem Ht (r:kA):pE r=some (vA r):=by grind[pE,vA,zj,ab,BU]
theorem RS (r:kA)(c:Int):nO r c=some (Ab r c):=by
 have tU:=DQ r c;unfold nO;rw[zj,ab];unfold Ab at tU⊢;cases hb:ft r;rfl;have h:=qc hb;by_cases hc:c<0;rw[ax hc];rfl;rw[hb,aq hc]at tU;rw[aq hc];have h2:0<=tmod c r.2.1/\tmod c r.2.1<r.2.1:=by rw[eC (by omega)];exact⟨Int.emod_nonneg _ (by omega),fL _ (by omega)⟩
 simp only[ai,ae,ab,bz]at tU⊢;rw[mG,aj (n:=16*tmod c r.2.1) (by omega) (by omega),aj (by omega) (by omega)];congr 1;omega
theorem Mk (l:au aA)(m:bw)(d:Int)(r:kA)(s:Bytes)(hl:l.length<=10^9)(hm:m.length<=10^9):wQ l m d r s=some (dq l m d r s):=by
 have hA:=DQ r r.2.2.2;unfold wQ dq;simp only[Ht,ab,RS,Az l m d _ s hl hm (show Ab r r.2.2.2<=9223372036854775807 by omega),gJ m (show m.length<=1073741824 by omega)];cases hf:vA r==0;case true=>rfl
 cases (s.length:Int) !=16;case true=>rfl
 have hb:ft r=true:=by grind[vA]
 have h:=qc hb;grind[ab,aj]
theorem Q5 (r:kA):tf r=some (vA r):=by grind[tf,vA,yM,ab,Bo]
theorem Rc (r:kA)(c:Int):nq r c=some (Ab r c):=by
 have tU:=DQ r c;unfold nq;rw[yM,ab];unfold Ab at tU⊢;cases hb:ft r;rfl;have h:=qc hb;by_cases hc:c<0;rw[ax hc];rfl;rw[hb,aq hc]at tU;rw[aq hc];have h2:0<=tmod c r.2.1/\tmod c r.2.1<r.2.1:=by rw[eC (by omega)];exact⟨Int.emod_nonneg _ (by omega),fL _ (by omega)⟩
 simp only[ai,ae,ab,bz]at tU⊢;rw[mG,aj (n:=tmod c r.2.1*16) (by omega) (by omega),aj (by omega) (by omega)]
theorem L0 (l:au aA)(m:bw)(d:Int)(r:kA)(s:Bytes)(hl:l.length<=10^9)(hm:m.length<=10^9):vR l m d r s=some (dq l m d r s):=by
 have hA:=DQ r r.2.2.2;unfold vR dq;simp only[Q5,ab,Rc,Ed l m d _ s hl hm (show Ab r r.2.2.2<=9223372036854775807 by omega),fF m (show m.length<=1073741824 by omega)];cases hf:vA r==0;case true=>rfl
 cases (s.length:Int) !=16;case true=>rfl
 have hb:ft r=true:=by grind[vA]
 have h:=qc hb;grind[ab,Rz,aj]
theorem CK {p:cn}(h:fQ p=true):0<=p.1/\p.1<=130944/\1<=p.2.1/\p.2.1<=512/\0<=p.2.2.1/\p.2.2.1<=16:=by grind[fQ,bM]
def lj (p:cn)(i:Int):Int:=bif !fQ p|| !dw i 0 (p.2.2.1-1) then-1 else p.1+i*p.2.1
theorem Zh {p:cn}{i:Int}(hp:fQ p=true)(hi:dw i 0 (p.2.2.1-1)=true):ak (p.1+ak (i*p.2.1))=p.1+i*p.2.1:=by have h:=CK hp;have h2:=bM.1 hi;have h3:0<=i*p.2.1:=Int.mul_nonneg h2.1 (by omega);have h4:i*p.2.1<=16*512:=Int.mul_le_mul (by omega) (by omega) (by omega) (by omega);grind[aj]
theorem O7 (p:cn)(i:Int)(h:p.2.2.2.length<=10^9):iR p i=some (lj p i):=by grind[iR,lj,tI,ab,fQ,aj,cz,dw,Zh]
theorem Jw (p:cn)(i:Int)(h:p.2.2.2.length<=10^9):fz p i=some (lj p i):=by grind[fz,lj,vE,ab,fQ,aj,cO,dw,Zh]
def upto (n:Nat):dR:=(List.range n).map Int.ofNat
theorem R6 (n:Nat):upto (n+1)=upto n++[(n:Int)]:=by simp[upto,List.range_succ]
theorem aeY {n i:Nat}(h:i<n):(upto n).getD i 0=(i:Int):=by grind[upto]
theorem Yo (a b:Int)(n:Nat)(hn:n<=16):fQ (a,b,(n:Int),upto n)=fQ (a,b,(n:Int),[]):=by
 unfold fQ;congr 3;have h1:(List.range (upto n).length).all (LI (n:Int) (upto n))=true:=by
  rw[aW];intro i hi;have hi:i<n:=by simpa[upto]using hi
  simp only[LI,aeY hi,ah,bM,aO];refine⟨by omega,?_⟩;rw[Bool.eq_false_iff,ne_eq,List.contains_iff_mem];intro hm;simp only[upto,<-List.map_take,List.mem_map]at hm;grind
 rw[h1];rfl
def kK (a b n:Int):cn×Bool:=bif fQ (a,b,n,[]) then((a,b,n,upto n.toNat),true) else((0,0,0,[]),false)
theorem LY (a b n:Int):vO a b n=some (kK a b n):=by
 unfold vO kK;rw[vE _ (by simp),ab];cases hp:fQ (a,b,n,[]);rfl;have tU:=CK hp;obtain⟨n,rfl⟩:=aG (show 0<=n from tU.2.2.2.2.1);have WI:n<=16:=by have:=tU.2.2.2.2.2;simp only at this;omega
 simp only[ai,ae,af,az];refine cd (λi=>((i:Int),a,b,(n:Int),upto i)) n (by omega) (λi nx hi=>?_) (λnx=>?_);simp only[ua];rw[jo,aQ (by simp[upto];omega),aj (by omega) (by omega),R6];rfl;simp only[ua];rw[fO];rfl
theorem Mi (a b n:Int):wO a b n=some (kK a b n):=by
 have vC:=cE;unfold wO kK;by_cases hn:0<=n/\n<=16;obtain⟨n,rfl⟩:=aG hn.1;have WI:n<=16:=by omega
 refine cd (λi=>((i:Int),a,b,(n:Int),upto i)) n (by omega) (λi nx hi=>?_) (λnx=>?_);simp only[oZ];rw[ax (show(i:Int)<n by omega),ax (show(n:Int)<=16 by omega)];simp only[af,ab];rw[aQ (by simp[upto];omega),aj (by omega) (by omega),R6];rfl;simp only[oZ];rw[aq (show¬(n:Int)<n by omega)];simp only[ae,ab,tI (a,b,(n:Int),upto n) (show(upto n).length<=10^9 by simp[upto];omega),Yo a b n WI,az];cases fQ (a,b,(n:Int),[])<;>rfl;have hb:fQ (a,b,n,[])=false:=by cases hp:fQ (a,b,n,[])with|false=>rfl|true=>have:=CK hp;exact absurd ⟨this.2.2.2.2.1,this.2.2.2.2.2⟩ hn
 obtain⟨f,hf⟩:∃f,fuel=f+1:=⟨fuel-1,by omega⟩
 rw[hf,aL];simp only[oZ];have hc:(cond (decide ((0:Int)<n)) (some (decide (n<=16))) (some false))=some false:=by by_cases h0:(0:Int)<n;rw[ax h0,fO];rfl;rw[aq h0];rfl
 rw[hc];simp only[ab,ae,tI (a,b,n,[]) (show([]:dR).length<=10^9 by simp),hb];rfl
def fJ (p:cn)(b:Int):Bytes:=Ad (3,0,p.2.1,lj p b,0,b)
def qC (l:au aA)(d:Int)(p:cn):dR->bw->kA->Nat×bw×kA
 |[],m,r=>(0,m,r)
 |b::q,m,r=>bif (dq l m d r (fJ p b)).2.2 then
   ((qC l d p q (dq l m d r (fJ p b)).1 (dq l m d r (fJ p b)).2.1).1+1,(qC l d p q (dq l m d r (fJ p b)).1 (dq l m d r (fJ p b)).2.1).2)
  else(0,m,r)
theorem wD (l:au aA)(m:bw)(d:Int)(r:kA)(s:Bytes):(dq l m d r s).1.length=m.length:=by grind[dq,lT]
theorem KO (l:au aA)(d:Int)(p:cn):∀(q:dR)(m:bw)(r:kA),(qC l d p q m r).2.1.length=m.length/\(qC l d p q m r).1<=q.length
 |[],m,r=>⟨rfl,aX _⟩
 |b::q,m,r=>by rw[qC];cases (dq l m d r (fJ p b)).2.2 with|false=>grind|true=>have:=KO l d p q (dq l m d r (fJ p b)).1 (dq l m d r (fJ p b)).2.1;grind[wD]
theorem UC (r:kA):0<=vA r:=by unfold vA;cases hb:ft r with|false=>exact Int.le_refl _|true=>have h:=qc hb;grind[ft,cR,aj]
theorem Ti (h:¬vA r>0):dq l m d r s=(m,r,false):=by have h0:=UC r;grind[dq]
theorem Jz (K:Int->Int->kA->bw->aw R)(K':Nat->kA->bw->aw R)(hK:∀(c:Nat) i r m,K (c:Int) i r m=K' c r m)(l:au aA)(d:Int)(p p2 p3:cn)(hp:p.2.2.2.length<=10^9)(hl:l.length<=10^9):∀(rest pre:dR)(m:bw)(r:kA)(f:Nat),rest.length<f->pre.length+rest.length<=10^9->m.length<=10^9->
 aL (ni K l d (pre++rest) ((pre++rest).length:Int) p ([]:bw) (0,0,0,0) p2 p3) f ((pre.length:Int),(pre.length:Int),r,m)=K' (pre.length+(qC l d p rest m r).1) (qC l d p rest m r).2.2 (qC l d p rest m r).2.1
 |rest,pre,m,r,0,hf,_,_=>by omega
 |[],pre,m,r,f+1,_,_,_=>by rw[aL];simp only[ni];rw[aq (by simp),ae,hK];rfl
 |b::q,pre,m,r,f+1,hf,hn,hm=>by
  simp only[ca]at hf hn;have hi:pre.length<(pre++b::q).length:=by simp
  have hb:(pre++b::q)[pre.length]=b:=by simp
  rw[aL];simp only[ni];rw[ax (by simp;omega),aU hi,hb];simp only[af,ab,Jw p b hp,SR,L0 l m d r _ hl hm];rw[show Ad (3,0,p.2.1,lj p b,0,b)=fJ p b from rfl,qC];cases hq:(dq l m d r (fJ p b)).2.2 with|false=>grind|true=>simp only[ai,ae,af];rw[aj (n:=(pre.length:Int)+1) (by omega) (by omega)];have key:=Jz K K' hK l d p p2 p3 hp hl q (pre++[b]) (dq l m d r (fJ p b)).1 (dq l m d r (fJ p b)).2.1 f (by omega) (by simp;omega) (by rw[wD];exact hm);grind
theorem Ke (K:Int->kA->bw->cn->aw R)(l:au aA)(d:Int)(p p2:cn)(hp:p.2.2.2.length<=10^9)(hl:l.length<=10^9)(A B C:Int):∀(rest:dR)(c:Nat)(m:bw)(r:kA)(f:Nat),rest.length<f->c+rest.length<=10^9->m.length<=10^9->
 aL (nE K l d p ([]:bw) (0,0,0,0) p2) f ((c:Int),r,m,A,B,C,rest)=K ((c+(qC l d p rest m r).1:Nat):Int) (qC l d p rest m r).2.2 (qC l d p rest m r).2.1 (A,B,C,rest.drop (qC l d p rest m r).1)
 |rest,c,m,r,0,hf,_,_=>by omega
 |[],c,m,r,f+1,_,_,_=>by
  rw[aL];simp only[nE,Ht,ab];have hc:(cond (decide (vA r>0)) (some (decide ((([]:dR).length:Int)>0))) (some false))=some false:=by cases decide (vA r>0)<;>rfl
  rw[hc];rfl
 |b::q,c,m,r,f+1,hf,hn,hm=>by
  simp only[ca]at hf hn;rw[aL];simp only[nE,Ht,ab];by_cases hr:vA r>0;rw[ax hr,ax (show(((b::q).length:Nat):Int)>0 by simp)];have hi:idx (b::q) 0=some b:=rfl;have hs:sub (b::q) 1 ((b::q).length:Int)=some q:=by unfold sub;rw[aF (by simp;omega)];simp
  simp only[af,ab,hi,O7 p b hp,Ts,Mk l m d r _ hl hm];rw[show Ad (3,0,p.2.1,lj p b,0,b)=fJ p b from rfl,qC];cases hq:(dq l m d r (fJ p b)).2.2 with|false=>rfl|true=>simp only[ai,ae,af,hs,ab];rw[ff (by omega),aj (n:=(c:Int)+1) (by omega) (by omega),bK];have key:=Ke K l d p p2 hp hl A B C q (c+1) (dq l m d r (fJ p b)).1 (dq l m d r (fJ p b)).2.1 f (by omega) (by omega) (by rw[wD];exact hm);rw[show((c+1:Nat):Int)=(c:Int)+1 by omega]at key;refine Eq.trans key ?_;rw[show c+1+(qC l d p q (dq l m d r (fJ p b)).1 (dq l m d r (fJ p b)).2.1).1=c+((qC l d p q (dq l m d r (fJ p b)).1 (dq l m d r (fJ p b)).2.1).1+1) by omega];rfl
  rw[aq hr,qC,Ti hr];rfl
def Bh (l:au aA)(m:bw)(d:Int)(r:kA)(p:cn):bw×kA×cn×Int:=
 bif !ft r|| !fQ p then(m,r,p,0) else
 ((qC l d p p.2.2.2 m r).2.1,(qC l d p p.2.2.2 m r).2.2,(p.1,p.2.1,p.2.2.1,p.2.2.2.drop (qC l d p p.2.2.2 m r).1),((qC l d p p.2.2.2 m r).1:Int))
theorem U2 (l:au aA)(m:bw)(d:Int)(r:kA)(p:cn)(hl:l.length<=10^9)(hm:m.length<=10^9)(hp:p.2.2.2.length<=10^9):iY l m d r p=some (Bh l m d r p):=by have vC:=cE;unfold iY Bh;simp only[fF m (show m.length<=1073741824 by omega),uO p hp,yM,vE p hp,ab];cases ft r;rfl;cases fQ p;rfl;simp only[ai,ae,ab,bz];have hlen:=(KO l d p p.2.2.2 m r).2;refine(Jz _ (λc r m=>aa (sub p.2.2.2 (c:Int) (p.2.2.2.length:Int)) λx14=>aa (fI x14) λzx=>some (m,r,(p.1,p.2.1,p.2.2.1,zx),(c:Int))) (λ_ _ _ _=>rfl) l d p _ p hp hl p.2.2.2 [] m r fuel (by omega) (by simp;omega) hm).trans ?_;grind[M9,ab,nV]
theorem V0 (l:au aA)(m:bw)(d:Int)(r:kA)(p:cn)(hl:l.length<=10^9)(hm:m.length<=10^9)(hp:p.2.2.2.length<=10^9):tK l m d r p=some (Bh l m d r p):=by have vC:=cE;unfold tK Bh;simp only[gJ m (show m.length<=1073741824 by omega),xx p hp,zj,tI p hp,ab];cases ft r;rfl;cases fQ p;rfl;simp only[ai,ae,ab,bz];refine(Ke _ l d p _ hp hl p.1 p.2.1 p.2.2.1 p.2.2.2 0 m r fuel (by omega) (by omega) hm).trans ?_;rw[cc]
def ku (p:cn)(n:Int):cn×dR×Bool:=bif fQ p&&dw n 0 (p.2.2.2.length:Int) then((p.1,p.2.1,p.2.2.1,p.2.2.2.drop n.toNat),p.2.2.2.take n.toNat,true) else(p,[],false)
theorem acd (p:cn)(n:Int)(h:p.2.2.2.length<=10^9):sy p n=some (ku p n):=by unfold sy ku;rw[xx p h,ab,tI p h,ab,cz];grind[bM,ab,CU,aQ,Wh]
theorem aa8 (p:cn)(n:Int)(h:p.2.2.2.length<=10^9):rQ p n=some (ku p n):=by unfold rQ ku;rw[uO p h,ab,vE p h,ab,cO];cases fQ p;rfl;cases hi:dw n 0 (p.2.2.2.length:Int);rfl;have hn:=bM.1 hi;obtain⟨n,rfl⟩:=aG hn.1;simp only[ai,ae,ab,du,af,az];grind[ab,nV,sub]
theorem yK:∀l:au ir,(∀x∈l,0<=x.2.1/\x.2.1<=16)->0<=dL l/\dL l<=16*(l.length:Int)
 |[],_=>by simp[dL]
 |y::l,h=>by have h1:=yK l (λx hx=>h x (dK _ hx));grind[dL]
theorem Nz (l:au ir)(i:Nat)(hi:i<l.length):dL (l.take (i+1))=dL (l.take i)+l[i].2.1:=by grind[bg,dL]
theorem ab9 (t:bI)(h:t.2.2.1.length<=1000000)(hs:∀x∈t.2.2.1,0<=x.2.1/\x.2.1<=16):yF t=some (dL t.2.2.1):=by
 have vC:=cE;unfold yF;refine cd (λi=>(dL (t.2.2.1.take i),(i:Int))) t.2.2.1.length (by omega) (λi nx hi=>?_) (λnx=>?_);have hb:=yK (t.2.2.1.take i) (λx hx=>hs x (List.mem_of_mem_take hx));have hc:=hs _ (bc hi);have hl:(t.2.2.1.take i).length<=1000000:=by rw[bn];omega
 rw[Nz _ _ hi];simp only[sG];rw[jo,af,aU hi,ab,aj (n:=(i:Int)+1) (by omega) (by omega),aj (by omega) (by omega)];rfl;simp only[sG];rw[fO,ae,cw]
theorem aa5 (t:bI)(h:t.2.2.1.length<=1000000)(hs:∀x∈t.2.2.1,0<=x.2.1/\x.2.1<=16):qa t=some (dL t.2.2.1):=by
 have vC:=cE;unfold qa;refine cd (λi=>(dL (t.2.2.1.take i),(i:Int))) t.2.2.1.length (by omega) (λi nx hi=>?_) (λnx=>?_);have hb:=yK (t.2.2.1.take i) (λx hx=>hs x (List.mem_of_mem_take hx));have hc:=hs _ (bc hi);have hl:(t.2.2.1.take i).length<=1000000:=by rw[bn];omega
 rw[Nz _ _ hi];simp only[lP];rw[jo,af,aU hi,ab,aj (n:=(i:Int)+1) (by omega) (by omega),aj (by omega) (by omega)];rfl;simp only[lP];rw[fO,ae,cw]
def Ax (l:au aA)(d:Int):bw->bw->kA->aw (bw×kA)
 |[],m,r=>some (m,r)
 |s::q,m,r=>bif (dq l m d r s).2.2 then Ax l d q (dq l m d r s).1 (dq l m d r s).2.1 else none
def aed (m:bw)(r:kA):aw (bw×kA)->bw×kA×Bool
 |some x=>(x.1,x.2,true)
 |none=>(m,r,false)
def wB (l:au aA)(m:bw)(d:Int)(r:kA)(q:bw):bw×kA×Bool:=aed m r (Ax l d q m r)
theorem Gp (l:au aA)(d:Int)(M:bw)(A B2:kA)(B1:bw)(hl:l.length<=10^9)(hM:M.length<=10^9):∀(rest pre:bw)(m:bw)(r:kA)(f:Nat),rest.length<f->(pre++rest).length<=10^9->m.length<=10^9->
 aL (kH (λ_ y6 y7=>some (y6,y7,true)) (λy8 _ xe B6 _ _=>some (xe,B6,y8)) l d false (pre++rest) ((pre++rest).length:Int) M A B1 B2) f ((pre.length:Int),m,r)=some (aed M A (Ax l d rest m r))
 |rest,pre,m,r,0,hf,_,_=>by omega
 |[],pre,m,r,f+1,_,_,_=>by rw[aL];simp only[kH];rw[aq (by simp),ae];rfl
 |s::q,pre,m,r,f+1,hf,hn,hm=>by
  simp only[ca,ar]at hf hn;have hi:pre.length<(pre++s::q).length:=by simp
  have hb:(pre++s::q)[pre.length]=s:=by simp
  rw[aL];simp only[kH];rw[ax (by simp;omega),aU hi,hb];simp only[af,ab,L0 l m d r _ hl hm];rw[Ax];cases hq:(dq l m d r s).2.2 with|false=>simp only[bR,af,ae,fF M,ab];rfl|true=>simp only[ai,ae,af];rw[aj (n:=(pre.length:Int)+1) (by omega) (by omega)];have key:=Gp l d M A B2 B1 hl hM q (pre++[s]) (dq l m d r s).1 (dq l m d r s).2.1 f (by omega) (by simp;omega) (by rw[wD];exact hm);grind
theorem GL (l:au aA)(d:Int)(M:bw)(A B2:kA)(B1:bw)(hl:l.length<=10^9)(hM:M.length<=10^9):∀(rest pre:bw)(m:bw)(r:kA)(f:Nat),rest.length<f->(pre++rest).length<=10^9->m.length<=10^9->
 aL (kO (λ_ y6 y7=>some (y6,y7,true)) (λy8 _ xe B6 _ _=>some (xe,B6,y8)) l d (pre++rest) false M A B1 B2) f ((pre.length:Int),m,r)=some (aed M A (Ax l d rest m r))
 |rest,pre,m,r,0,hf,_,_=>by omega
 |[],pre,m,r,f+1,_,_,_=>by rw[aL];simp only[kO];rw[aq (by simp),ae];rfl
 |s::q,pre,m,r,f+1,hf,hn,hm=>by
  simp only[ca,ar]at hf hn;have hi:pre.length<(pre++s::q).length:=by simp
  have hb:(pre++s::q)[pre.length]=s:=by simp
  rw[aL];simp only[kO];rw[ax (by simp;omega),aU hi,hb];simp only[af,ab,Mk l m d r _ hl hm];rw[Ax];cases hq:(dq l m d r s).2.2 with|false=>simp only[bR,af,ae,gJ M,ab];rfl|true=>simp only[ai,ae,af];rw[aj (n:=(pre.length:Int)+1) (by omega) (by omega)];have key:=GL l d M A B2 B1 hl hM q (pre++[s]) (dq l m d r s).1 (dq l m d r s).2.1 f (by omega) (by simp;omega) (by rw[wD];exact hm);grind
theorem XP (l:au aA)(m:bw)(d:Int)(r:kA)(q:bw)(hl:l.length<=10^9)(hm:m.length<=10^9)(hq:q.length<=10^9):jH l m d r q=some (wB l m d r q):=by have vC:=cE;unfold jH wB;rw[fF m,ab];exact Gp l d m r _ _ hl hm q [] m r fuel (by omega) (by simpa using hq) hm
theorem YJ (l:au aA)(m:bw)(d:Int)(r:kA)(q:bw)(hl:l.length<=10^9)(hm:m.length<=10^9)(hq:q.length<=10^9):ur l m d r q=some (wB l m d r q):=by have vC:=cE;unfold ur wB;rw[gJ m,ab];exact GL l d m r _ _ hl hm q [] m r fuel (by omega) (by simpa using hq) hm
theorem ON (l:au aA)(m:bw)(d:Int)(w:Bool):∀(n a r:Nat)(q:au (Int×Int)),lp l m d w n a r=some q->q.length<=n
 |0,a,r,q,h=>by simp only[lp,aZ]at h;subst h;simp
 |n+1,a,r,q,h=>by simp only[lp]at h;split at h;simp only[aZ]at h;subst h;simp;split at h;simp only[Option.map_eq_some_iff]at h;obtain⟨q',h1,rfl⟩:=h;have:=ON l m d w n _ _ q' h1;simp only[ca];omega;cases h
theorem Hp (l:au aA)(m:bw)(d a n:Int)(w:Bool):(od l m d a n w).1.length<=4096:=by
 unfold od;cases hB:fe l&&(gx m&&dw n 0 4096);simp;simp only[ah,bM]at hB;simp only[af];cases n==0;case true=>simp
 cases decide (a<0);case true=>simp
 simp only[ae];split;rename_i q hq;have:=ON _ _ _ _ _ _ _ _ hq;show q.length<=4096;omega;simp
def pA (m:bw)(p:Int×Int):Bytes:=bif gj m p.1 p.2 then Aa m p.1.toNat p.2.toNat else []
theorem C6 (m:bw)(p:Int×Int):(pA m p).length<=8192:=by grind[pA,gj,aep,mem_iff]
theorem ra (m:bw):∀q:au (Int×Int),(q.flatMap (pA m)).length<=8192*q.length
 |[]=>by simp
 |p::q=>by have:=ra m q;grind[C6]
def qq (l:au aA)(m:bw)(d a n:Int):Bytes×Bool:=
 bif (od l m d a n false).2 then((od l m d a n false).1.flatMap (pA m),true) else([],false)
theorem Ji {α β:Type}(g:α->au β)(l:au α)(i:Nat)(hi:i<l.length):(l.take (i+1)).flatMap g=(l.take i).flatMap g++g l[i]:=by grind[bg]
theorem Cn (l:au aA)(m:bw)(d a n:Int)(hl:l.length<=10^9)(hm:m.length<=10^9)(ha:a<=9223372036854775807):og l m d a n=some (qq l m d a n):=by
 unfold og qq;rw[Va l m d a n false hl hm ha,ab];have hL:=Hp l m d a n false;generalize od l m d a n false=r at hL⊢;cases hr:r.2;rfl;simp only[ai,ae,af];refine(cd (λi=>((r.1.take i).flatMap (pA m),(i:Int))) r.1.length (by omega) (λi nx hi=>?_) (λnx=>?_));simp only[tY];rw[jo,aU hi,aj (by omega) (by omega)];have e:oQ m r.1[i].1 r.1[i].2=some (pA m r.1[i],gj m r.1[i].1 r.1[i].2):=by rw[adO m _ _ hm,pA];cases gj m r.1[i].1 r.1[i].2<;>rfl
 have h1:=ra m (r.1.take i);have h2:=C6 m r.1[i];simp only[af,ab,e];rw[aQ (by rw[bn]at h1;omega),<-Ji];rfl;simp only[tY];rw[fO,cw];rfl
theorem CP (l:au aA)(m:bw)(d a n:Int)(hl:l.length<=10^9)(hm:m.length<=10^9)(ha:a<=9223372036854775807):oB l m d a n=some (qq l m d a n):=by
 unfold oB qq;rw[RO l m d a n false hl hm ha,ab];have hL:=Hp l m d a n false;generalize od l m d a n false=r at hL⊢;cases hr:r.2;rfl;simp only[ai,ae,af];refine(cd (λi=>((r.1.take i).flatMap (pA m),(i:Int))) r.1.length (by omega) (λi nx hi=>?_) (λnx=>?_));simp only[uo];have i1:idx (r.1.map (·.1)) (i:Int)=some r.1[i].1:=by rw[aU (by simpa using hi),List.getElem_map]
 have i2:idx (r.1.map (·.2)) (i:Int)=some r.1[i].2:=by rw[aU (by simpa using hi),List.getElem_map]
 rw[ax (by rw[cj];omega),i1,i2,aj (by omega) (by omega)];have e:pa m r.1[i].1 r.1[i].2=some (pA m r.1[i],gj m r.1[i].1 r.1[i].2):=by rw[aeH m _ _ hm,pA];cases gj m r.1[i].1 r.1[i].2<;>rfl
 have h1:=ra m (r.1.take i);have h2:=C6 m r.1[i];simp only[af,ab,e];rw[aQ (by rw[bn]at h1;omega),<-Ji];rfl;simp only[uo];rw[aq (by rw[cj];omega),cw];rfl
theorem F2 (l:au aA)(m:bw)(d a n:Int):(qq l m d a n).1.length<=100000000:=by have hL:=Hp l m d a n false;have h1:=ra m (od l m d a n false).1;grind[qq]
def vy (s:Bytes):Fa×Int×Bool:=
 bif ((s.length:Int) !=16)||decide (eS s 12>1) then((0,0,0,0,0),0,false) else((cp s 0,cp s 2,cp s 4,cp s 6,eS s 8),eS s 12,true)
theorem XJ (s:Bytes)(h:s.length<=10^9):kT s=some (vy s):=by
 unfold kT vy;cases (s.length:Int) !=16;case true=>rfl
 simp only[xt s _ h,AU s _ h,ab,ae,cH];grind
theorem YD (s:Bytes)(h:s.length<=10^9):kX s=some (vy s):=by
 unfold kX vy;cases (s.length:Int) !=16;case true=>rfl
 simp only[se s _ h,AZ s _ h,ab,ae,cH];grind
def C4 (q:MS):Int:=bif decide (q.2.2<q.2.1) then 1 else 0
theorem Q8 (q:MS):vY q=some (C4 q):=by grind[vY,C4]
theorem lU {q:MS}(h:gL q=true):0<=q.1/\q.1<=130944/\(q.2.1=2\/q.2.1=4\/q.2.1=8\/q.2.1=16)/\0<=q.2.2/\q.2.2<=2*q.2.1-1:=by grind[gL,bM,Hs,mx]
theorem RP (q:MS)(h:gL q=true):tR q=some (C4 q):=by
 obtain⟨_,_,h3,h4,h5⟩:=lU h;have e:Int.tdiv q.2.2 q.2.1=if q.2.2<q.2.1 then 0 else 1:=by grind
 unfold tR C4;rw[mG,e];by_cases hq:q.2.2<q.2.1;rw[aF hq,ax hq];rfl;rw[aE hq,aq hq];rfl
def lW (q:MS):Int:=q.1+tmod q.2.2 q.2.1*16
theorem M7 {q:MS}(h:gL q=true):0<=tmod q.2.2 q.2.1/\tmod q.2.2 q.2.1<16:=by obtain⟨_,_,h3,h4,h5⟩:=lU h;grind
theorem Rd (q:MS)(h:gL q=true):nv q=some (lW q):=by obtain⟨h1,h2,h3,h4,h5⟩:=lU h;grind[nv,lW,aj]
def aiv (q:MS):MS:=(q.1,q.2.1,tmod (q.2.2+1) (2*q.2.1))
def Ta (l:au aA)(m:bw)(d:Int)(q:MS):Bool:=
 gL q&&((qq l m d (lW q) 16).2&&((vy (qq l m d (lW q) 16).1).2.2&&((vy (qq l m d (lW q) 16).1).2.1==C4 q)))
def tA (l:au aA)(m:bw)(d:Int)(q:MS):Fa×MS×Bool:=
 bif Ta l m d q then((vy (qq l m d (lW q) 16).1).1,aiv q,true) else((0,0,0,0,0),q,false)
theorem adL (l:au aA)(m:bw)(d:Int)(q:MS)(hl:l.length<=10^9)(hm:m.length<=10^9):mP l m d q=some (tA l m d q):=by unfold mP tA Ta;rw[KW q,ab];cases hq:gL q;rfl;obtain⟨h1,h2,h3,h4,h5⟩:=lU hq;have hs:=M7 hq;have hd:=F2 l m d (lW q) 16;simp only[ai,ae,Rd q hq,ab,Cn l m d (lW q) 16 hl hm (by unfold lW;omega),bt];cases (qq l m d (lW q) 16).2;rfl;simp only[ai,ae,XJ _ (aH hd (by omega)),ab,bt];cases (vy (qq l m d (lW q) 16).1).2.2;rfl;simp only[ai,ae,Q8,ab,bt,bne];cases (vy (qq l m d (lW q) 16).1).2.1==C4 q;rfl;simp only[ai,ae,af];rw[aj (n:=2*q.2.1) (by omega) (by omega),mG,aj (n:=q.2.2+1) (by omega) (by omega)];rfl
theorem aeD (l:au aA)(m:bw)(d:Int)(q:MS)(hl:l.length<=10^9)(hm:m.length<=10^9):mY l m d q=some (tA l m d q):=by
 unfold mY tA Ta;rw[Lt q,ab];cases hq:gL q;rfl;obtain⟨h1,h2,h3,h4,h5⟩:=lU hq;have hs:=M7 hq;have hd:=F2 l m d (lW q) 16;have es:ak (q.1+ak (16*tmod q.2.2 q.2.1))=lW q:=by grind[aj,lW]
 simp only[ai,ae];rw[mG,es];simp only[CP l m d (lW q) 16 hl hm (by unfold lW;omega),ab,bt,YD _ (aH hd (by omega)),RP q hq,bne];cases (qq l m d (lW q) 16).2;rfl;cases (vy (qq l m d (lW q) 16).1).2.2;rfl;cases (vy (qq l m d (lW q) 16).1).2.1==C4 q;rfl;simp only[ai,ae,af,ab,bt];rw[aj (n:=2*q.2.1) (by omega) (by omega),mG,aj (n:=q.2.2+1) (by omega) (by omega)];rfl
theorem Zi (p:cn)(i:Int):lj p i= -1\/(0<=lj p i/\lj p i<=200000):=by unfold lj;cases hp:fQ p;exact .inl rfl;cases hi:dw i 0 (p.2.2.1-1);exact .inl rfl;have h:=CK hp;have h2:=bM.1 hi;have h3:0<=i*p.2.1:=Int.mul_nonneg h2.1 (by omega);have h4:i*p.2.1<=16*512:=Int.mul_le_mul (by omega) (by omega) (by omega) (by omega);grind
def aaH (l:au aA)(m:bw)(d a n:Int):Bool:=(qq l m d a n).2&&((vh (qq l m d a n).1).2==0)
theorem afp {n:Int}:aaH l m d (-1) n=false:=by unfold aaH qq od;cases fe l&&(gx m&&dw n 0 4096);rfl;simp only[af];cases n==0 with|true=>rfl|false=>rfl
def DJ (l:au aA)(m:bw)(d:Int)(s:au Stream×bl×cn):au Stream×bl×cn:=
 ((bif aaH l m d (lj s.2.2 (tA l m d s.2.1.2.2.1).1.1) (tA l m d s.2.1.2.2.1).1.2.1 then sU s.1 (vh (qq l m d (lj s.2.2 (tA l m d s.2.1.2.2.1).1.1) (tA l m d s.2.1.2.2.1).1.2.1).1).1 else s.1),
   (s.2.1.1,s.2.1.2.1,(tA l m d s.2.1.2.2.1).2.1,s.2.1.2.2.2),(N0 s.2.2 [(tA l m d s.2.1.2.2.1).1.1]).1)
def iy (l:au aA)(m:bw)(d:Int):Nat->au Stream×bl×cn->Nat×(au Stream×bl×cn)
 |0,s=>(0,s)
 |k+1,s=>bif !(tA l m d s.2.1.2.2.1).2.2 then(0,s) else((iy l m d k (DJ l m d s)).1+1,(iy l m d k (DJ l m d s)).2)
structure FW (n:Nat) (s:List Stream×bl×cn):Prop where
 st:bm n (.sl fi) s.1
 pl:s.2.2.2.2.2.length<=n
theorem UF (p:cn)(l:dR):(N0 p l).1.2.2.2.length<=p.2.2.2.length+l.length:=by grind[N0,Tg]
theorem GF {s:au Stream×bl×cn}{n:Nat}(h:FW n s):FW (n+322) (DJ l m d s):=by
 refine⟨?_,?_⟩;unfold DJ;cases aaH l m d (lj s.2.2 (tA l m d s.2.1.2.2.1).1.1) (tA l m d s.2.1.2.2.1).1.2.1 with|false=>exact h.st.mono|true=>exact Jd h.st
 have:=UF s.2.2 [(tA l m d s.2.1.2.2.1).1.1];have h2:=h.pl;show(N0 s.2.2 [(tA l m d s.2.1.2.2.1).1.1]).1.2.2.2.length<=_;simp only[bf]at this;omega
theorem JD (K:au Stream->Int->bl->cn->aw R)(l:au aA)(m:bw)(d:Int)(N:Nat)(hN:N<=1000)(B1:bw)(B2:bl)(B3:cn)(hl:l.length<=10^9)(hm:m.length<=10^9):∀(k i:Nat)(s:au Stream×bl×cn)(f:Nat),i+k=N->k<f->FW (500000000+322*i) s->
 aL (lM K l d (N:Int) B1 B2 B3 m) f (s.1,(i:Int),s.2.1,s.2.2)=K (iy l m d k s).2.1 ((i+(iy l m d k s).1:Nat):Int) (iy l m d k s).2.2.1 (iy l m d k s).2.2.2
 |k,i,s,0,_,hf,_=>by omega
 |0,i,s,f+1,hi,hf,z=>by rw[aL];simp only[lM];rw[fO,ae];rfl
 |k+1,i,s,f+1,hi,hf,z=>by have lf:bm 900000000 (.sl fi) s.1:=z.st.mono;have B9:s.2.2.2.2.2.length<=900000000:=aH z.pl (by omega);rw[aL];simp only[lM];rw[jo];simp only[af,adL l m d _ hl hm,ab,iy];cases hnx:(tA l m d s.2.1.2.2.1).2.2 with|false=>rfl|true=>have key:=JD K l m d N hN B1 B2 B3 hl hm k (i+1) (DJ l m d s) f (by omega) (by omega) ((GF z).st.mono|>λa=>⟨a,aH (GF z).pl (by omega)⟩);rw[show i+1+(iy l m d k (DJ l m d s)).1=i+((iy l m d k (DJ l m d s)).1+1) by omega]at key;simp only[ai,ae];rw[<-key];unfold DJ;generalize tA l m d s.2.1.2.2.1=c;have ha:=Zi s.2.2 c.1.1;have hd:=F2 l m d (lj s.2.2 c.1.1) c.1.2.1;simp only[Jw _ _ (show s.2.2.2.2.2.length<=10^9 by omega),Cn l m d _ c.1.2.1 hl hm (show lj s.2.2 c.1.1<=9223372036854775807 by omega),ab,Hj _ (aH hd (by omega)),Jy _ _ lf,Oi s.2.2 [c.1.1] (show s.2.2.2.2.2.length+1<=10^9 by omega)];rw[aj (n:=(i:Int)+1) (by omega) (by omega),show((i+1:Nat):Int)=(i:Int)+1 by omega];grind[aaH]
theorem Kh (K:au Stream->Int->bl->cn->aw R)(l:au aA)(m:bw)(d:Int)(N:Nat)(hN:N<=1000)(B1:bw)(B2:bl)(B3:cn)(hl:l.length<=10^9)(hm:m.length<=10^9):∀(k i:Nat)(s:au Stream×bl×cn)(f:Nat),i+k=N->k<f->FW (500000000+322*i) s->
 aL (me K l d (N:Int) m B1 B2 B3) f (s.1,(i:Int),s.2.1,s.2.2)=K (iy l m d k s).2.1 ((i+(iy l m d k s).1:Nat):Int) (iy l m d k s).2.2.1 (iy l m d k s).2.2.2
 |k,i,s,0,_,hf,_=>by omega
 |0,i,s,f+1,hi,hf,z=>by rw[aL];simp only[me];rw[fO,ae];rfl
 |k+1,i,s,f+1,hi,hf,z=>by have lf:bm 900000000 (.sl fi) s.1:=z.st.mono;have B9:s.2.2.2.2.2.length<=900000000:=aH z.pl (by omega);rw[aL];simp only[me];rw[jo];simp only[af,aeD l m d _ hl hm,ab,iy];cases hnx:(tA l m d s.2.1.2.2.1).2.2 with|false=>rfl|true=>have key:=Kh K l m d N hN B1 B2 B3 hl hm k (i+1) (DJ l m d s) f (by omega) (by omega) ((GF z).st.mono|>λa=>⟨a,aH (GF z).pl (by omega)⟩);rw[show i+1+(iy l m d k (DJ l m d s)).1=i+((iy l m d k (DJ l m d s)).1+1) by omega]at key;simp only[ai,ae];rw[<-key];unfold DJ;generalize tA l m d s.2.1.2.2.1=c;have ha:=Zi s.2.2 c.1.1;have hd:=F2 l m d (lj s.2.2 c.1.1) c.1.2.1;simp only[O7 _ _ (show s.2.2.2.2.2.length<=10^9 by omega),CP l m d _ c.1.2.1 hl hm (show lj s.2.2 c.1.1<=9223372036854775807 by omega),ab,Hv _ (aH hd (by omega)),Kb _ _ lf,Pa s.2.2 [c.1.1] (show s.2.2.2.2.2.length+1<=10^9 by omega)];rw[aj (n:=(i:Int)+1) (by omega) (by omega),show((i+1:Nat):Int)=(i:Int)+1 by omega];rcases ha with ha|ha;rw[ha,afp];rfl;rw[ax (show lj s.2.2 c.1.1>=0 by omega)];unfold aaH;cases (qq l m d (lj s.2.2 c.1.1) c.1.2.1).2<;>cases (vh (qq l m d (lj s.2.2 c.1.1) c.1.2.1).1).2==0<;>rfl
theorem JV {l:au aA}{m:bw}{d:Int}:∀(k:Nat){s:au Stream×bl×cn}{n:Nat},FW n s->FW (n+322*k) (iy l m d k s).2
 |0,s,n,h=>h
 |k+1,s,n,h=>by rw[iy];cases (tA l m d s.2.1.2.2.1).2.2 with|false=>exact⟨h.st.mono,aH h.pl (by omega)⟩|true=>have:=JV (l:=l) (m:=m) (d:=d) k (GF (l:=l) (m:=m) (d:=d) h);grind
def ks (l:au aA)(m:bw)(d:Int)(rx:bl)(pl:cn)(st:au Stream)(n:Int):bw×bl×cn×au Stream×Int:=
 bif !OZ rx||(!fQ pl|| !dw n 0 1000) then(m,rx,pl,st,0) else
 ((Bh l m d (iy l m d n.toNat (st,rx,pl)).2.2.1.1 (iy l m d n.toNat (st,rx,pl)).2.2.2).1,
   ((Bh l m d (iy l m d n.toNat (st,rx,pl)).2.2.1.1 (iy l m d n.toNat (st,rx,pl)).2.2.2).2.1,(iy l m d n.toNat (st,rx,pl)).2.2.1.2),
   (Bh l m d (iy l m d n.toNat (st,rx,pl)).2.2.1.1 (iy l m d n.toNat (st,rx,pl)).2.2.2).2.2.1,(iy l m d n.toNat (st,rx,pl)).2.1,((iy l m d n.toNat (st,rx,pl)).1:Int))
theorem U5 (l:au aA)(m:bw)(d:Int)(rx:bl)(pl:cn)(st:au Stream)(n:Int)(hl:l.length<=10^9)(hm:m.length<=10^9)(hp:pl.2.2.2.length<=500000000)(hs:bm 500000000 (.sl fi) st):vP l m d rx pl st n=some (ks l m d rx pl st n):=by
 have vC:=cE;have Zz:st.length<=500000000:=hs.1;unfold vP ks;simp only[fF m (show m.length<=1073741824 by omega),uO pl (show pl.2.2.2.length<=10^9 by omega),tW st,SY,vE pl (show pl.2.2.2.length<=10^9 by omega),cO,ab];cases OZ rx;rfl;cases fQ pl;rfl;cases hn:dw n 0 1000;rfl;have h:=bM.1 hn;obtain⟨n,rfl⟩:=aG h.1;simp only[ai,ae,ab,bz,az];have z:FW (500000000+322*0) (st,rx,pl):=⟨hs,hp⟩
 have hz:=JV (l:=l) (m:=m) (d:=d) n z;refine(JD _ l m d n (by omega) _ _ _ hl hm n 0 (st,rx,pl) fuel (by omega) (by omega) z).trans ?_;rw[cc];simp only[U2 l m d _ _ hl hm (show(iy l m d n (st,rx,pl)).2.2.2.2.2.2.length<=10^9 from aH hz.pl (by omega)),ab]
theorem V6 (l:au aA)(m:bw)(d:Int)(rx:bl)(pl:cn)(st:au Stream)(n:Int)(hl:l.length<=10^9)(hm:m.length<=10^9)(hp:pl.2.2.2.length<=500000000)(hs:bm 500000000 (.sl fi) st):nN l m d rx pl st n=some (ks l m d rx pl st n):=by
 have vC:=cE;have Zz:st.length<=500000000:=hs.1;unfold nN ks;rw[ff (by omega)];simp only[bK,xx pl (show pl.2.2.2.length<=10^9 by omega),gJ m (show m.length<=1073741824 by omega),Tz,tI pl (show pl.2.2.2.length<=10^9 by omega),cz,ab];cases OZ rx;rfl;cases fQ pl;rfl;cases hn:dw n 0 1000;rfl;have h:=bM.1 hn;obtain⟨n,rfl⟩:=aG h.1;simp only[ai,ae,ab,bz,az];have z:FW (500000000+322*0) (st,rx,pl):=⟨hs,hp⟩
 have hz:=JV (l:=l) (m:=m) (d:=d) n z;refine(Kh _ l m d n (by omega) _ _ _ hl hm n 0 (st,rx,pl) fuel (by omega) (by omega) z).trans ?_;rw[cc];simp only[V0 l m d _ _ hl hm (show(iy l m d n (st,rx,pl)).2.2.2.2.2.2.length<=10^9 from aH hz.pl (by omega)),ab]
def jt (i:Nat):Int:=1280+(i:Int)*1792
theorem Ze {i:Nat}(h:i<=8):ak (1280+ak ((i:Int)*1792))=jt i:=by rw[aj (n:=(i:Int)*1792) (by omega) (by omega),aj (by omega) (by omega)];rfl
theorem UX (i:Nat)(h:i<=8):qN (i:Int)=some (jt i):=by rw[qN,Ze h]
theorem wy (a b n:Int)(h:n<=1000:=by omega):(kK a b n).1.2.2.2.length<=1000:=by grind[kK,upto]
def O0 (i:Nat):bl:=((jt i,4,0,0),(jt i+64,4,0),(jt i+64,4,0),((0,0,0,0,0,0,0,0,0,0,0,0,0,0,0,([]:Bytes)),0,0),false,0)
theorem aa2 (i:Nat)(h:i<=8):xv (i:Int)=some (O0 i,(kK (jt i+128) 384 4).1):=by have hb:jt i=1280+(i:Int)*1792:=rfl;simp only[xv,UX i h,ab];rw[aj (n:=jt i+128) (by omega) (by omega),aj (n:=jt i+64) (by omega) (by omega),LY];rfl
def Mt:bI:=((0,16,0,0),(kK 256 128 8).1,([]:au ir),0)
theorem abc:Ek=some Mt:=by rw[Ek,LY];rfl
theorem ach:yH=some Mt:=by rw[yH,Mi];rfl
def FE (l:au aA)(m:bw)(i:Nat):bw×kA×cn×Int:=
 Bh l (mw l m 0 (jt i) (DV 128) false).1 0 (jt i,4,0,0) (kK (jt i+128) 384 4).1
def Rt (h:Host)(i:Nat):Host:=
 ((FE h.2.1 h.1 i).1,h.2.1,h.2.2.1,h.2.2.2.1.set i ((FE h.2.1 h.1 i).2.1,(jt i+64,4,0),(jt i+64,4,0),((0,0,0,0,0,0,0,0,0,0,0,0,0,0,0,([]:Bytes)),0,0),false,(match h.2.2.2.1[i]? with|some x=>x.2.2.2.2.2|none=>0)),h.2.2.2.2.1.set i (FE h.2.1 h.1 i).2.2.1,h.2.2.2.2.2)
theorem V4 (h:Host)(i:Nat)(hi:i<=8)(h1:i<h.2.2.2.1.length)(h2:i<h.2.2.2.2.1.length)(hl:h.2.1.length<=10^9)(hm:h.1.length<=10^9):wY h (i:Int)=some ((),Rt h i):=by have hb:jt i=1280+(i:Int)*1792:=rfl;have hz:sC 128 0=some (DV 128):=V3 128;have hf:=V0 h.2.1 (mw h.2.1 h.1 0 (jt i) (DV 128) false).1 0 (jt i,4,0,0) (kK (jt i+128) 384 4).1 hl (by rw[lT];exact hm) (aH (wy (jt i+128) 384 4) (by omega));unfold wY;simp only[Ze hi];rw[aj (n:=jt i+128) (by omega) (by omega),aj (n:=jt i+64) (by omega) (by omega),Mi,hz];simp only[aU h1,aU h2,ab,Ia h.2.1 h.1 0 (jt i) (DV 128) hl hm (by omega),hf,az,Rt,FE,al h1]
def EH (h:Host)(i:Nat)(n:Int):Int×Host:=
 match h.2.2.2.1[i]?,h.2.2.2.2.1[i]? with
 |some rx,some pl=>
  ((ks h.2.1 h.1 0 rx pl h.2.2.2.2.2.2.2.2.2.1 n).2.2.2.2,(ks h.2.1 h.1 0 rx pl h.2.2.2.2.2.2.2.2.2.1 n).1,h.2.1,h.2.2.1,h.2.2.2.1.set i (ks h.2.1 h.1 0 rx pl h.2.2.2.2.2.2.2.2.2.1 n).2.1,h.2.2.2.2.1.set i (ks h.2.1 h.1 0 rx pl h.2.2.2.2.2.2.2.2.2.1 n).2.2.1,h.2.2.2.2.2.1,h.2.2.2.2.2.2.1,h.2.2.2.2.2.2.2.1,h.2.2.2.2.2.2.2.2.1,(ks h.2.1 h.1 0 rx pl h.2.2.2.2.2.2.2.2.2.1 n).2.2.2.1,h.2.2.2.2.2.2.2.2.2.2)
 |_,_=>(0,h)
theorem SW (h:Host)(i:Nat)(n:Int)(h1:i<h.2.2.2.1.length)(h2:i<h.2.2.2.2.1.length)(z:bm 500000000 da h):kq h (i:Int) n=some (EH h i n):=by have hl:h.2.1.length<=500000000:=z.2.1.1;have hm:h.1.length<=500000000:=z.1.1;have hp:h.2.2.2.2.1[i].2.2.2.length<=500000000:=(z.2.2.2.2.1.2 _ (bc h2)).2.2.2.1;unfold kq;simp only[aU h1,aU h2,ab,U5 h.2.1 h.1 0 _ _ _ n (show h.2.1.length<=10^9 by omega) (show h.1.length<=10^9 by omega) hp z.2.2.2.2.2.2.2.2.2.1,az,EH,al h1,al h2]
theorem oV {n:Nat}{t:CT}{l:au t.D}{i:Nat}{x:t.D}(z:bm n (.sl t) l)(hx:bm n t x):bm n (.sl t) (l.set i x):=by refine⟨?_,λy hy=>?_⟩;show(l.set i x).length<=n;rw[aJ];exact z.1;rcases List.mem_or_eq_of_mem_set hy with h|h;exact z.2 y h;rw[h];exact hx
theorem abL {n:Nat}(hn:128<=n)(h:EF m):bm n (.sl .str) m:=⟨aH h.2 (by omega),λx hx=>aH (Nat.le_of_eq (h.1 x hx)) hn⟩
theorem WE {n:Nat}(hn:128<=n)(z:bm n (.sl .str) m)(a:Int)(s:Bytes):bm n (.sl .str) (xd m a s).1:=by grind[xd,gj,abL,E9,Hn]
theorem VE {n:Nat}(hn:128<=n):∀(q:au (Int×Int)){m:bw}(s:Bytes),bm n (.sl .str) m->bm n (.sl .str) (Th q m s)
 |[],m,s,z=>z
 |p::q,m,s,z=>VE hn q _ (WE hn z _ _)
theorem GG {n:Nat}(hn:128<=n)(z:bm n (.sl .str) m)(l:au aA)(d a:Int)(s:Bytes)(w:Bool):bm n (.sl .str) (mw l m d a s w).1:=by grind[mw,VE]
theorem JX {n:Nat}(hn:128<=n)(z:bm n (.sl .str) m)(l:au aA)(d:Int)(r:kA)(s:Bytes):bm n (.sl .str) (dq l m d r s).1:=by grind[dq,GG]
theorem QO {n:Nat}(hn:128<=n)(l:au aA)(d:Int)(p:cn):∀(q:dR){m:bw}(r:kA),bm n (.sl .str) m->bm n (.sl .str) (qC l d p q m r).2.1
 |[],m,r,z=>z
 |b::q,m,r,z=>by rw[qC];cases (dq l m d r (fJ p b)).2.2 with|false=>exact z|true=>exact QO hn l d p q _ (JX hn z ..)
theorem QP {n:Nat}(hn:128<=n)(z:bm n (.sl .str) m)(l:au aA)(d:Int)(r:kA)(p:cn):bm n (.sl .str) (Bh l m d r p).1:=by unfold Bh;cases !ft r|| !fQ p with|true=>exact z|false=>exact QO hn _ _ _ _ _ z
theorem Zq (l:au aA)(m:bw)(d:Int)(r:kA)(p:cn):(Bh l m d r p).1.length=m.length:=by grind[Bh,KO]
theorem NO (l:au aA)(m:bw)(d:Int)(r:kA)(p:cn):(Bh l m d r p).2.2.1.2.2.2.length<=p.2.2.2.length:=by grind[Bh]
theorem Vz (l:au aA)(m:bw)(d:Int):∀(k:Nat)(s:au Stream×bl×cn),(iy l m d k s).2.2.1.2.2.2=s.2.1.2.2.2/\(iy l m d k s).1<=k
 |0,s=>⟨rfl,aX _⟩
 |k+1,s=>by rw[iy];cases (tA l m d s.2.1.2.2.1).2.2 with|false=>grind|true=>have:=Vz l m d k (DJ l m d s);simp only[ai,ae];exact⟨this.1,by omega⟩
theorem Ry {n:Nat}(hn:128<=n){rx:bl}{pl:cn}{st:au Stream}(c:Int)(zm:bm n (.sl .str) m)(zr:bm n fA rx)(zp:bm n vu pl)(zs:bm n (.sl fi) st): bm n (.sl .str) (ks l m d rx pl st c).1/\bm n fA (ks l m d rx pl st c).2.1/\bm (n+322000) vu (ks l m d rx pl st c).2.2.1/\bm (n+322000) (.sl fi) (ks l m d rx pl st c).2.2.2.1/\0<=(ks l m d rx pl st c).2.2.2.2/\(ks l m d rx pl st c).2.2.2.2<=1000:=by
 unfold ks;cases hc: !OZ rx||(!fQ pl|| !dw c 0 1000)with
 |true=>exact⟨zm,zr,zp.mono,zs.mono,Int.le_refl _,by show(0:Int)<=1000;omega⟩
 |false=>
  have hi:dw c 0 1000=true:=by cases h:dw c 0 1000 with|true=>rfl|false=>rw[h]at hc;simp at hc
  have h:=bM.1 hi;have z:=JV (l:=l) (m:=m) (d:=d) c.toNat (s:=(st,rx,pl)) (n:=n) ⟨zs,zp.2.2.2.1⟩;have hx:=Vz l m d c.toNat (st,rx,pl);refine⟨QP hn zm ..,⟨?_,?_,?_,?_⟩,⟨df,df,df,?_,λ_ _=>trivial⟩,z.st.mono,by show(0:Int)<=((iy l m d c.toNat (st,rx,pl)).1:Int);omega,by show((iy l m d c.toNat (st,rx,pl)).1:Int)<=1000;omega⟩;exact⟨df,df,df,df⟩;exact⟨df,df,df⟩;exact⟨df,df,df⟩;have e:=congrArg (λq=>bm n fA (rx.1,rx.2.1,rx.2.2.1,q)) hx.1;exact(e.mpr zr).2.2.2;have:=NO l m d (iy l m d c.toNat (st,rx,pl)).2.2.1.1 (iy l m d c.toNat (st,rx,pl)).2.2.2;have h2:=z.pl;show(Bh l m d (iy l m d c.toNat (st,rx,pl)).2.2.1.1 (iy l m d c.toNat (st,rx,pl)).2.2.2).2.2.1.2.2.2.length<=_;omega
theorem Yn {n:Nat}(hn:128<=n)(i:Nat)(c:Int)(z:bm n da h):bm (n+322000) da (EH h i c).2:=by unfold EH;rcases h1:h.2.2.2.1[i]? with _|rx;exact z.mono;rcases h2:h.2.2.2.2.1[i]? with _|pl;exact z.mono;have zr:=z.2.2.2.1.2 _ (cL h1);have zp:=z.2.2.2.2.1.2 _ (cL h2);have hp:=Ry hn (l:=h.2.1) (d:=0) c z.1 zr zp z.2.2.2.2.2.2.2.2.2.1;have z':bm (n+322000) da h:=z.mono;exact⟨hp.1.mono,z'.2.1,z'.2.2.1,oV z'.2.2.2.1 (hp.2.1.mono),oV z'.2.2.2.2.1 hp.2.2.1,z'.2.2.2.2.2.1,z'.2.2.2.2.2.2.1,z'.2.2.2.2.2.2.2.1,z'.2.2.2.2.2.2.2.2.1,hp.2.2.2.1,z'.2.2.2.2.2.2.2.2.2.2⟩
def bJ (l:au aA)(m:bw)(d:Int)(r:kA):Bytes×kA×Bool:=
 bif !ft r||(cR r==0) then([],r,false) else
 bif !(qq l m d (Ab r r.2.2.1) 16).2 then([],r,false) else
 ((qq l m d (Ab r r.2.2.1) 16).1,(r.1,r.2.1,tmod (r.2.2.1+1) (2*r.2.1),r.2.2.2),true)
theorem Kk (l:au aA)(m:bw)(d:Int)(r:kA)(hl:l.length<=10^9)(hm:m.length<=10^9):tN l m d r=some (bJ l m d r):=by have hA:=DQ r r.2.2.1;unfold tN bJ;simp only[zj,BU,ab,RS,CP l m d _ 16 hl hm (show Ab r r.2.2.1<=9223372036854775807 by omega)];cases hb:ft r;rfl;have h:=qc hb;grind[ab,aj]
theorem JH (l:au aA)(m:bw)(d:Int)(r:kA)(hl:l.length<=10^9)(hm:m.length<=10^9):th l m d r=some (bJ l m d r):=by have hA:=DQ r r.2.2.1;unfold th bJ;simp only[yM,Bo,ab,Rc,Cn l m d _ 16 hl hm (show Ab r r.2.2.1<=9223372036854775807 by omega)];cases hb:ft r;rfl;have h:=qc hb;grind[ab,aj]
theorem yI (l:au aA)(m:bw)(d:Int)(r:kA):(bJ l m d r).1.length<=100000000:=by grind[bJ,F2]
theorem B0 (h:(bJ l m d r).2.2=true): ft (bJ l m d r).2.1=true/\cR (bJ l m d r).2.1=cR r-1/\(bJ l m d r).2.1.1=r.1/\(bJ l m d r).2.1.2.1=r.2.1/\(bJ l m d r).2.1.2.2.2=r.2.2.2:=by
 unfold bJ at h⊢;cases hb:ft r with|false=>grind|true=>?_
 cases hu:cR r==0 with|true=>grind|false=>?_
 cases hd:(qq l m d (Ab r r.2.2.1) 16).2 with|false=>grind|true=>?_
 grind[qc,ft,cR,bM]
theorem lV (h:ft r=true):0<=cR r/\cR r<=16:=by have hr:=qc h;grind[ft,cR]
def Fi:Dh:=(0,0,0,0,0,0)
def F1 (s:Bytes):Dh:=((bF s 0:Int),(bF s 1:Int),cp s 2,eS s 4,cp s 8,cp s 10)
def dZ (s:Bytes):Dh×Bool:=
 bif ((s.length:Int) !=16) then(Fi,false) else bif !(Ad (F1 s)==s) then(Fi,false) else(F1 s,true)
theorem VX (s:Bytes)(h:s.length<=10^9):oX s=some (dZ s):=by
 unfold oX dZ;cases hn:(s.length:Int) !=16;case true=>rfl
 have hl:s.length=16:=by grind
 have b0:=kc (s[0]'(by omega));have b1:=kc (s[1]'(by omega));have i0:idx s 0=some (s[0]'(by omega)):=aU (i:=0) (by omega);have i1:idx s 1=some (s[1]'(by omega)):=aU (i:=1) (by omega);have e:(((s[0]'(by omega)).toNat:Int),((s[1]'(by omega)).toNat:Int),cp s 2,eS s 4,cp s 8,cp s 10)=F1 s:=by grind[F1,bF]
 simp only[ae,i0,i1,ab,se s _ h,AZ s _ h];rw[fD (n:=(s[0]'(by omega)).toNat) (by omega),fD (n:=(s[1]'(by omega)).toNat) (by omega),e,Ts,ab];cases Ad (F1 s)==s<;>rfl
theorem UY (s:Bytes)(h:s.length<=10^9):oO s=some (dZ s):=by
 unfold oO dZ;cases hn:(s.length:Int) !=16;case true=>rfl
 have hl:s.length=16:=by grind
 have b0:=kc (s[0]'(by omega));have b1:=kc (s[1]'(by omega));have i0:idx s 0=some (s[0]'(by omega)):=aU (i:=0) (by omega);have i1:idx s 1=some (s[1]'(by omega)):=aU (i:=1) (by omega);have e:(((s[0]'(by omega)).toNat:Int),((s[1]'(by omega)).toNat:Int),cp s 2,eS s 4,cp s 8,cp s 10)=F1 s:=by grind[F1,bF]
 simp only[ae,i0,i1,ab,xt s _ h,AU s _ h];rw[fD (n:=(s[0]'(by omega)).toNat) (by omega),fD (n:=(s[1]'(by omega)).toNat) (by omega),e,SR,ab];cases Ad (F1 s)==s<;>rfl
theorem NA (h:(dZ s).2=true):qA (dZ s).1=true:=by grind[dZ,Ad]
def Sp (x:Dh):Bool:=bif x.1==1 then(ak (BitVec.toNat (fE x.2.1&&&fE 1))) !=0 else false
def zB (l:au aA)(m:bw)(d:Int):Nat->au Dh->kA->au Dh×kA×Bool
 |0,acc,r=>(acc,r,true)
 |n+1,acc,r=>
  bif !(bJ l m d r).2.2|| !(dZ (bJ l m d r).1).2 then([],(r.1,r.2.1,r.2.2.2,r.2.2.2),false) else
  bif Sp (dZ (bJ l m d r).1).1 then(acc++[(dZ (bJ l m d r).1).1],(bJ l m d r).2.1,true) else
  zB l m d n (acc++[(dZ (bJ l m d r).1).1]) (bJ l m d r).2.1
def ej (l:au aA)(m:bw)(d:Int)(r:kA):au Dh×kA×Bool:=
 bif !ft r||(cR r==0) then([],r,false) else zB l m d (cR r).toNat [] r
theorem HW (k0:au Dh->kA->aw R)(k1:au Dh->Bool->au Dh->kA->kA->aw R)(K:au Dh×kA×Bool->aw R)
 (h0:∀a r,k0 a r=K (a,r,true)) (l:au aA) (m:bw) (d:Int) (B E:kA) (h1:∀a r,k1 [] false a r E=K ([],E,false)) (hl:l.length<=10^9) (hm:m.length<=10^9):∀(n:Nat)(acc:au Dh)(r:kA)(f:Nat),
 n<f->ft r=true->(cR r).toNat=n->acc.length+n<=1000->E=(r.1,r.2.1,r.2.2.2,r.2.2.2)->aL (lN k0 k1 l d ([]:au Dh) false m B E) f (acc,r)=K (zB l m d n acc r)
 |n,acc,r,0,hf,_,_,_,_=>by omega
 |0,acc,r,f+1,hf,hb,hu,ha,hE=>by rw[aL];simp only[lN,Bo,ab];rw[fO,ae,h0];rfl
 |n+1,acc,r,f+1,hf,hb,hu,ha,hE=>by
  have hlen:=yI l m d r;have hk:=B0 (l:=l) (m:=m) (d:=d) (r:=r);rw[aL];simp only[lN,Bo,ab];rw[jo,af,JH l m d r hl hm,ab,zB];generalize bJ l m d r=t at hlen hk⊢;cases ht:t.2.2 with
  |false=>grind
  |true=>
   have hk:=hk ht;simp only[ai,ae,cH];rw[UY _ (show t.1.length<=10^9 by omega),ab];generalize dZ t.1=x;cases x.2 with
   |false=>grind
   |true=>
    simp only[ai,ae];rw[aQ (by rw[bf];omega)];have e:(aa (cond (x.1.1==1) (some ((ak (BitVec.toNat (fE x.1.2.1&&&fE 1))) !=0)) (some false)):(Bool->aw R)->aw R)=λK=>K (Sp x.1):=by funext K;simp_all[Sp]
    rw[e];cases Sp x.1 with|true=>simp only[af,h0]|false=>simp only[ae];exact HW k0 k1 K h0 l m d B E h1 hl hm n _ _ f (by omega) hk.1 (by omega) (by simp;omega) (by grind)
theorem H8 (k0:au Dh->kA->aw R)(k1:au Dh->Bool->au Dh->kA->kA->aw R)(K:au Dh×kA×Bool->aw R)
 (h0:∀a r,k0 a r=K (a,r,true)) (l:au aA) (m:bw) (d:Int) (B:kA) (h1:∀a r,k1 [] false a r r=K ([],r,false)) (hl:l.length<=10^9) (hm:m.length<=10^9):∀(n:Nat)(acc:au Dh)(r:kA)(f:Nat),
 n<f->ft r=true->(cR r).toNat=n->acc.length+n<=1000->aL (mh k0 k1 l d ([]:au Dh) false m B) f (acc,r)=K (zB l m d n acc r)
 |n,acc,r,0,hf,_,_,_=>by omega
 |0,acc,r,f+1,hf,hb,hu,ha=>by rw[aL];simp only[mh,BU,ab];rw[fO,ae,h0];rfl
 |n+1,acc,r,f+1,hf,hb,hu,ha=>by
  have hlen:=yI l m d r;have hk:=B0 (l:=l) (m:=m) (d:=d) (r:=r);rw[aL];simp only[mh,BU,ab];rw[jo,af,Kk l m d r hl hm,ab,zB];generalize bJ l m d r=t at hlen hk⊢;rw[VX _ (show t.1.length<=10^9 by omega),ab];generalize dZ t.1=x;cases ht:t.2.2 with
  |false=>simp_all
  |true=>
   have hk:=hk ht;simp only[ai,ae,ab,cH];cases x.2 with
   |false=>grind
   |true=>
    simp only[ai,ae];rw[aQ (by rw[bf];omega)];have e:(aa (cond (x.1.1==1) (some ((ak (BitVec.toNat (fE x.1.2.1&&&fE 1))) !=0)) (some false)):(Bool->aw R)->aw R)=λK=>K (Sp x.1):=by funext K;simp_all[Sp]
    rw[e];cases Sp x.1 with|true=>simp only[af,h0]|false=>simp only[ae];exact H8 k0 k1 K h0 l m d B h1 hl hm n _ _ f (by omega) hk.1 (by omega) (by simp;omega)
theorem Qa (l:au aA)(m:bw)(d:Int)(r:kA)(hl:l.length<=10^9)(hm:m.length<=10^9):vS l m d r=some (ej l m d r):=by
 have vC:=cE;unfold vS ej;simp only[yM,Bo,ab];cases hb:ft r;rfl;cases cR r==0;case true=>rfl
 have hu:=lV hb;simp only[ai,ae,ab,bz];exact HW _ _ (λx=>some x) (λ_ _=>rfl) l m d _ _ (λ_ _=>rfl) hl hm _ [] r fuel (by omega) hb rfl (by simp;omega) rfl
theorem Qq (l:au aA)(m:bw)(d:Int)(r:kA)(hl:l.length<=10^9)(hm:m.length<=10^9):wT l m d r=some (ej l m d r):=by
 have vC:=cE;unfold wT ej;simp only[zj,BU,ab];cases hb:ft r;rfl;cases cR r==0;case true=>rfl
 have hu:=lV hb;simp only[ai,ae,ab,bz];exact H8 _ _ (λx=>some x) (λ_ _=>rfl) l m d _ (λ_ _=>rfl) hl hm _ [] r fuel (by omega) hb rfl (by simp;omega)
def zd (x:Int×Int):Bool:=decide (x.1<0)|| !dw x.2 0 4096
def kW (l:au (Int×Int)):Bool:= !l.any zd&&decide ((l.length:Int)<=16)
theorem OR (l:au (Int×Int)):(bif l.any zd then some false else some (decide ((l.length:Int)<=16)))=some (kW l):=by grind[kW]
theorem Oj (l:au (Int×Int))(h:l.length<=10^9):xX l=some (kW l):=by
 rw[<-OR];refine FX zd l (by omega) (λi hi nx=>?_) (λnx=>?_);simp only[rH];rw[jo,af,aU hi,ab,cO,aj (by omega) (by omega)];unfold zd;cases decide (l[i].1<0)with|true=>rfl|false=>rfl
 simp only[rH];rw[fO,ae]
theorem Pb (l:au (Int×Int))(h:l.length<=10^9):yA l=some (kW l):=by
 rw[<-OR];refine FX zd l (by omega) (λi hi nx=>?_) (λnx=>?_);simp only[sn];rw[jo,af,aU hi,ab,ab,cz,aj (by omega) (by omega)];unfold zd;cases decide (l[i].1<0)with|true=>rfl|false=>rfl
 simp only[sn];rw[fO,ae]
theorem DH {l:au (Int×Int)}(h:kW l=true):l.length<=16/\∀x∈l,0<=x.1/\0<=x.2/\x.2<=4096:=by grind[kW,zd,bM]
def dsc (n:Nat)(c:Int)(i:Nat)(x:Int×Int):Dh:=(1,(if i+1=n then 1 else 0),x.2,x.1,0,c)
def sV (ps:au (Int×Int))(c:Int):Nat->au Dh
 |0=>[]
 |i+1=>sV ps c i++[dsc ps.length c i (ps.getD i (0,0))]
theorem AQ (ps:au (Int×Int))(c:Int):∀i,(sV ps c i).length=i
 |0=>rfl
 |i+1=>by rw[sV,ar,AQ ps c i];rfl
theorem G3 (ps:au (Int×Int))(c:Int)(q:Dh->Bool):∀i,(sV ps c i).all q=(List.range i).all (λj=>q (dsc ps.length c j (ps.getD j (0,0))))
 |0=>rfl
 |i+1=>by rw[sV,List.all_append,G3 ps c q i,List.range_succ,List.all_append];rfl
def nW (ps:au (Int×Int))(z c:Int):au Dh:=
 bif ((ps.length:Int)==0)||(!kW ps|| !dw z 1 128) then [] else
 bif ([(2,0,0,0,z,c)]++sV ps c ps.length).all qA then [(2,0,0,0,z,c)]++sV ps c ps.length else []
theorem Ec (ps:au (Int×Int))(z c:Int)(h:ps.length<=10^9:=by omega):∃b,iq ps z c=some (b,nW ps z c)/\(b=false->nW ps z c=[]):=by
 unfold iq nW;rw[Oj ps h,cO];cases ((ps.length:Int)==0);case true=>exact⟨false,rfl,λ_=>rfl⟩
 cases kW ps;exact⟨false,rfl,λ_=>rfl⟩;cases dw z 1 128;exact⟨false,rfl,λ_=>rfl⟩;refine⟨([(2,0,0,0,z,c)]++sV ps c ps.length).all qA,?_,λhb=>by rw[hb];rfl⟩;refine cd (λi=>(([(2,0,0,0,z,c)]++sV ps c i,(i:Int)))) ps.length (by omega) (λi nx hi=>?_) (λnx=>?_);have hl:=AQ ps c i;simp only[kg];rw[jo,af,aU hi,ab,aj (by omega) (by omega),aj (by omega) (by omega)];have e:[(2,0,0,0,z,c)]++sV ps c (i+1)=([(2,0,0,0,z,c)]++sV ps c i)++[dsc ps.length c i ps[i]]:=by rw[sV,eO hi,aP]
 rw[e];unfold dsc;by_cases hc:i+1=ps.length;rw[show((i:Int)==(ps.length)-1)=true from by rw[bC];omega,aF hc];rw[aQ (by simp only[ar,bf];omega)];rfl;rw[show((i:Int)==(ps.length)-1)=false from by rw[cy];omega,aE hc];simp only[ae];rw[aQ (by simp only[ar,bf];omega)];rfl;simp only[kg];rw[fO,ae];have hl:=AQ ps c ps.length;generalize hq:[(2,0,0,0,z,c)]++sV ps c ps.length=q;have hn:q.length<=1000000001:=by rw[<-hq];simp only[ar,bf];omega
 rw[rr (fin:=some (true,q)) qA q (by omega) (λi hi nx=>?_) (λnx=>?_)];cases q.all qA<;>rfl;simp only[jw];rw[jo,af,aU hi,ab,U0,ab,aj (by omega) (by omega)];rfl;simp only[jw];rw[fO,ae]
theorem Kd (ps:au (Int×Int))(z c:Int)(h:ps.length<=10^9):jV ps z c=some (nW ps z c):=by
 unfold jV nW;rw[Pb ps h,cz];cases ((ps.length:Int)==0);case true=>rfl
 cases kW ps;rfl;cases dw z 1 128;rfl;have i0:idx [((2,0,0,0,z,c):Dh)] 0=some (2,0,0,0,z,c):=rfl;simp only[ai,ae,ab,bz,i0,Kc,List.all_append,bO,List.all_nil,gQ];cases qA (2,0,0,0,z,c);rfl;rw[G3];refine(KH (fin:=some ([(2,0,0,0,z,c)]++sV ps c ps.length)) (hit:=some []) (λi=>(([(2,0,0,0,z,c)]++sV ps c i,(i:Int)))) (λj=>qA (dsc ps.length c j (ps.getD j (0,0)))) ps.length (by omega) (λi nx hi _=>?_) (λ_ nx=>?_)).trans ?_;have hl:=AQ ps c i;simp only[kl];rw[jo,af,aU hi,ab,ab,aj (by omega) (by omega),aj (by omega) (by omega)];have e:[(2,0,0,0,z,c)]++sV ps c (i+1)=([(2,0,0,0,z,c)]++sV ps c i)++[dsc ps.length c i ps[i]]:=by rw[sV,eO hi,aP]
 rw[e,eO hi];unfold dsc;by_cases hc:i+1=ps.length;rw[show((i:Int)==(ps.length)-1)=true from by rw[bC];omega,aF hc];simp only[af,Kc,ab];rw[aQ (by simp only[ar,bf];omega)];rfl;rw[show((i:Int)==(ps.length)-1)=false from by rw[cy];omega,aE hc];simp only[ae,Kc,ab];rw[aQ (by simp only[ar,bf];omega)];rfl;simp only[kl];rw[fO,ae];cases (List.range ps.length).all (λj=>qA (dsc ps.length c j (ps.getD j (0,0))))<;>rfl
def GJ (x y:Dh):Bool:=(x.1==y.1)&&((x.2.1==y.2.1)&&((x.2.2.1==y.2.2.1)&&((x.2.2.2.1==y.2.2.2.1)&&((x.2.2.2.2.1==y.2.2.2.2.1)&&((x.2.2.2.2.2==y.2.2.2.2.2)&&true)))))
def EM (a b:au Dh):Bool:=((a.length:Int)==(b.length:Int))&&(List.range a.length).all λi=>GJ (a.getD i Fi) (b.getD i Fi)
theorem ab6 (a b:au Dh)(ha:a.length<=10^9):AK a b=some (EM a b):=by
 unfold AK EM;cases hl:((a.length:Int)==(b.length))with
 |false=>simp only[bne,hl,bR,af,gv]
 |true=>
  have hn:a.length=b.length:=by have:=gT hl;omega
  simp only[bne,hl,ai,ae,bt];rw[ph (λi=>GJ (a.getD i Fi) (b.getD i Fi)) a.length (by omega) (λi nx hi=>?_) (λnx=>?_)];cases (List.range a.length).all (λi=>GJ (a.getD i Fi) (b.getD i Fi))<;>rfl;have hi2:i<b.length:=by omega
  simp only[uC];rw[jo,af,aU hi,aU hi2,ab,ab,aj (by omega) (by omega),eO hi,eO hi2];rfl;simp only[uC];rw[fO,ae]
def gm (l:au Dh):au (Int×Int):=(l.drop 1).map λx=>(x.2.2.2.1,x.2.2.1)
def iP (l:au Dh):au (Int×Int)×Int×Int×Bool:=
 match l with
 |h::x::r=>bif EM (nW (gm l) h.2.2.2.2.1 h.2.2.2.2.2) l then(gm l,h.2.2.2.2.1,h.2.2.2.2.2,true) else([],0,0,false)
 |_=>([],0,0,false)
theorem QF (ps:au (Int×Int))(z c:Int):(nW ps z c).length<=ps.length+1:=by
 unfold nW;cases ((ps.length:Int)==0)||(!kW ps|| !dw z 1 128);case true=>simp
 cases ([(2,0,0,0,z,c)]++sV ps c ps.length).all qA with|false=>simp|true=>simp only[ae,af,ar,bf,AQ];omega
theorem Tw (l:au Dh)(hl:l.length<=10^9):oE l=some (iP l):=by
 unfold oE;match l,hl with
 |[],_=>
  obtain⟨g,hg⟩:∃g,fuel=g+1:=⟨fuel-1,by have:=cE;omega⟩
  rw[hg,aL];rfl
 |h::q,hl=>
  simp only[ca]at hl;refine cd (λi=>(((q.take i).map (λx=>(x.2.2.2.1,x.2.2.1)),((i+1:Nat):Int)))) q.length (by omega) (λi nx hi=>?_) (λnx=>?_);have hi2:i+1<(h::q).length:=by simp;omega
  have e2:(h::q)[i+1]=q[i]:=rfl;simp only[kZ];rw[jo,af,aU hi2,ab,ab,aQ (by simp only[cj,bn,bf];omega),aj (by omega) (by omega),e2,bg hi,List.map_append];rfl;have i0:idx (h::q) 0=some h:=rfl;simp only[kZ];rw[aq (by simp only[ca];omega),ae,cw];have hp:q.map (λx=>(x.2.2.2.1,x.2.2.1))=gm (h::q):=rfl;have B9:(gm (h::q)).length=q.length:=by rw[<-hp,cj]
  rw[hp];have hdl:=QF (gm (h::q)) h.2.2.2.2.1 h.2.2.2.2.2;simp only[i0,ab,Kd (gm (h::q)) _ _ (show(gm (h::q)).length<=10^9 by omega),ab6 _ (h::q) (show(nW (gm (h::q)) h.2.2.2.2.1 h.2.2.2.2.2).length<=10^9 by omega)];cases q with|nil=>rfl|cons x r=>simp only[ae,ab,iP];cases EM (nW (gm (h::x::r)) h.2.2.2.2.1 h.2.2.2.2.2) (h::x::r)<;>rfl
theorem SV (l:au Dh)(hl:l.length<=10^9):oo l=some (iP l):=by
 unfold oo;match l,hl with
 |[],_=>rfl
 |[h],_=>rfl
 |h::y::r,hl=>
  generalize hq:y::r=q;have XE:1<=q.length:=by rw[<-hq];simp
  have hlen:q.length+1<=10^9:=by rw[<-hq];simpa using hl
  have i0:idx (h::q) 0=some h:=rfl;have s0:sub (h::q) 1 (((h::q).length))=some q:=sK 1 (by simp) rfl;rw[aq (by simp only[ca];omega),ae,s0,ab];refine cd (λi=>(((q.take i).map (λx=>(x.2.2.2.1,x.2.2.1)),(i:Int)))) q.length (by omega) (λi nx hi=>?_) (λnx=>?_);simp only[kV];rw[jo,af,aU hi,ab,aQ (by simp only[cj,bn,bf];omega),aj (by omega) (by omega),bg hi,List.map_append];rfl;simp only[kV];rw[fO,ae,cw];have hp:q.map (λx=>(x.2.2.2.1,x.2.2.1))=gm (h::q):=rfl;have B9:(gm (h::q)).length=q.length:=by rw[<-hp,cj]
  rw[hp];have hdl:=QF (gm (h::q)) h.2.2.2.2.1 h.2.2.2.2.2;obtain⟨b,hd,hb⟩:=Ec (gm (h::q)) h.2.2.2.2.1 h.2.2.2.2.2;have hR:iP (h::q)=bif EM (nW (gm (h::q)) h.2.2.2.2.1 h.2.2.2.2.2) (h::q) then(gm (h::q),h.2.2.2.2.1,h.2.2.2.2.2,true) else([],0,0,false):=by rw[<-hq];rfl
  rw[hR];simp only[i0,ab,hd];have hlc:(((h::q).length):Int)=(q.length)+1:=by simp only[ca];omega
  generalize nW (gm (h::q)) h.2.2.2.2.1 h.2.2.2.2.2=w at hdl hb⊢
  have core:∀(K:aw (au (Int×Int)×Int×Int×Bool))(w':au Dh),w'=w->(bif ((w'.length):Int) !=(((h::q).length)) then some (([]),(0),(0),false) else
   aL (fZ (λxe=>some (gm (h::q),h.2.2.2.2.1,h.2.2.2.2.2,true)) (λB6 Lx KC GX Qy=>some (B6,Lx,KC,GX)) (h::q) (gm (h::q)) h.2.2.2.2.1 h.2.2.2.2.2 w' ((w'.length))) fuel 0)=some (bif EM w (h::q) then(gm (h::q),h.2.2.2.2.1,h.2.2.2.2.2,true) else([],0,0,false)):=by
   intro K w' e
   subst e
   unfold EM
   cases hl:((w'.length)==(((h::q).length):Int))with
   |false=>simp only[bne,hl,bR,af,gv,ae]
   |true=>
    simp only[bne,hl,ai,ae,bt]
    rw[ph (fin:=some (gm (h::q),h.2.2.2.2.1,h.2.2.2.2.2,true)) (λi=>GJ (w'.getD i Fi) ((h::q).getD i Fi)) w'.length (by omega) (λi nx hi=>?_) (λnx=>?_)]
    ·cases (List.range w'.length).all (λi=>GJ (w'.getD i Fi) ((h::q).getD i Fi))<;>rfl
    ·have hi2:i<(h::q).length:=by omega
     simp only[fZ]
     rw[jo,af,aU hi,aU hi2,ab,ab,aj (by omega) (by omega),eO hi,eO hi2];rfl
    ·simp only[fZ]
     rw[fO,ae]
  cases b with|true=>exact core none w rfl|false=>exact core none [] (hb rfl).symm
theorem L7 {l:au Dh}(h:(iP l).2.2.2=true):kW (iP l).1=true/\∀p∈(iP l).1,p.1<=4294967295:=by match l,h with|hd::x::r,h=>unfold iP at h⊢;simp only at h⊢;cases hs:EM (nW (gm (hd::x::r)) hd.2.2.2.2.1 hd.2.2.2.2.2) (hd::x::r)with|false=>grind|true=>generalize hw:gm (hd::x::r)=ps at hs⊢;unfold EM at hs;simp only[ah]at hs;have hn:=gT hs.1;unfold nW at hn;cases hc:((ps.length)==0)||(!kW ps|| !dw hd.2.2.2.2.1 1 128)with|true=>grind|false=>cases ha:([(2,0,0,0,hd.2.2.2.2.1,hd.2.2.2.2.2)]++sV ps hd.2.2.2.2.2 ps.length).all qA with|false=>grind|true=>simp only[dh,eo]at hc;refine⟨hc.2.1,λp hp=>?_⟩;rw[List.all_append,G3,ah]at ha;obtain⟨i,hi,rfl⟩:=List.getElem_of_mem hp;simp_all[qA,dsc,bM]
theorem Dl (l:au aA)(m:bw)(d a n:Int):(qq l m d a n).1.length<=33554432:=by grind[Hp,ra,qq]
def D5 (l:au aA)(m:bw)(d:Int):au (Int×Int)->Bytes->Bytes×Bool
 |[],acc=>(acc,true)
 |p::ps,acc=>bif (qq l m d p.1 p.2).2 then D5 l m d ps (acc++(qq l m d p.1 p.2).1) else([],false)
def xM (l:au aA)(m:bw)(d:Int)(ps:au (Int×Int)):Bytes×Bool:=bif kW ps then D5 l m d ps [] else([],false)
def Cj (l:au aA)(m:bw)(d:Int)(p:Int×Int)(s:Bytes):Except (aw (Bytes×Bool)) Bytes:=
 if(qq l m d p.1 p.2).2=true then .ok (s++(qq l m d p.1 p.2).1) else .error (some ([],false))
theorem Iy (l:au aA)(m:bw)(d:Int):∀(ps:au (Int×Int))(s:Bytes),VP (Cj l m d) (λs=>some (s,true)) ps s=some (D5 l m d ps s)
 |[],s=>rfl
 |p::ps,s=>by rw[VP,D5];unfold Cj;cases hd:(qq l m d p.1 p.2).2 with|false=>rfl|true=>exact Iy l m d ps _
theorem LM (l:au aA)(m:bw)(d:Int):∀(ps:au (Int×Int))(s:Bytes),(D5 l m d ps s).1.length<=s.length+33554432*ps.length
 |[],s=>by simp[D5]
 |p::ps,s=>by have h1:=Dl l m d p.1 p.2;rw[D5];cases (qq l m d p.1 p.2).2 with|false=>simp|true=>have:=LM l m d ps (s++(qq l m d p.1 p.2).1);grind
theorem LN (l:au aA)(m:bw)(d:Int)(ps:au (Int×Int)):(xM l m d ps).1.length<=10^9:=by unfold xM;cases hp:kW ps with|false=>simp|true=>have:=(DH hp).1;have:=LM l m d ps [];grind
theorem XL (l:au aA)(m:bw)(d:Int)(ps:au (Int×Int))(hl:l.length<=10^9)(hm:m.length<=10^9)(hn:ps.length<=10^9)(ha:∀p∈ps,p.1<=9223372036854775807):pQ l m d ps=some (xM l m d ps):=by
 unfold pQ xM;rw[Oj ps hn,ab];cases hp:kW ps;rfl;have WI:=(DH hp).1;simp only[ai,ae,af];rw[<-Iy];refine DP ps (λs i=>(s,(i:Int))) (λi s=>s.length<=33554432*i) (Cj l m d) _ (by omega) (λi hi s nx hI=>?_) (λi hi s s' hI he=>?_) (λs nx hI=>?_) [] (by simp);have h1:=Dl l m d ps[i].1 ps[i].2;simp only[lK];rw[jo,af,aU hi,ab,Cn l m d _ _ hl hm (ha _ (bc hi)),ab];unfold Cj;cases hd:(qq l m d ps[i].1 ps[i].2).2 with|false=>rfl|true=>rw[aF rfl,aQ (by omega),aj (by omega) (by omega)];rfl
 have h1:=Dl l m d ps[i].1 ps[i].2;unfold Cj at he;split at he;injection he with he;rw[<-he,ar];omega;cases he;simp only[lK];rw[fO,ae]
theorem YF (l:au aA)(m:bw)(d:Int)(ps:au (Int×Int))(hl:l.length<=10^9)(hm:m.length<=10^9)(hn:ps.length<=10^9)(ha:∀p∈ps,p.1<=9223372036854775807):qf l m d ps=some (xM l m d ps):=by
 unfold qf xM;rw[Pb ps hn,ab];cases hp:kW ps;rfl;have WI:=(DH hp).1;simp only[ai,ae,af];rw[<-Iy];refine DP ps (λs i=>(s,(i:Int))) (λi s=>s.length<=33554432*i) (Cj l m d) _ (by omega) (λi hi s nx hI=>?_) (λi hi s s' hI he=>?_) (λs nx hI=>?_) [] (by simp);have h1:=Dl l m d ps[i].1 ps[i].2;simp only[ma];rw[jo,af,aU hi,ab,ab,CP l m d _ _ hl hm (ha _ (bc hi)),ab];unfold Cj;cases hd:(qq l m d ps[i].1 ps[i].2).2 with|false=>rfl|true=>rw[aF rfl,aQ (by omega),aj (by omega) (by omega)];rfl
 have h1:=Dl l m d ps[i].1 ps[i].2;unfold Cj at he;split at he;injection he with he;rw[<-he,ar];omega;cases he;simp only[ma];rw[fO,ae]
def tz (t:Bytes):Int:=cp t ((bW t+2:Nat):Int)
def MQ (t:Bytes):Int:=Sj ((t.take (bW t+20)).drop (bW t))
def Qk (t:Bytes):Bytes:=(t.take (bW t+(tz t).toNat)).drop (bW t+20)
def afq (t:Bytes):Bytes:=xA (eS t ((bW t+12:Nat):Int)) (eS t ((bW t+16:Nat):Int)) (ix t:Int) (tz t-20)
def Kr (t:Bytes):Int:=bif ((ix t:Int)==17)&&(Sj (afq t++Qk t)==0) then 65535 else Sj (afq t++Qk t)
def Uv (t s:Bytes):Bytes×Bool:=bif ((vh s).2==0)&&((iC (vh s).1).1==t) then eF (vh s).1 else([],false)
def Dr (t:Bytes):Bytes×Bool:=Uv t (qb t (bU (MQ t)) (bU (Kr t)))
theorem Af (h:¬(TOk t/\cp t (xa t:Int)=0/\cp t (rl t:Int)=0)):Dr t=([],false):=by have ha:Fb (qb t (bU (MQ t)) (bU (Kr t))) t:=H6 t (bu _) (bu _);grind[Dr,Uv,vh,ahG,acn]
theorem TJ (t:Bytes)(o n:Nat):(t.drop o).take n=(t.take (o+n)).drop o:=by grind[List.drop_take]
theorem L8 (h1:bW t+20<=t.length)(h2:20<=tz t)(h3:tz t<=(t.length:Int))(h4:t.length<=10^9):Aw (eS t ((bW t+12:Nat):Int)) (eS t ((bW t+16:Nat):Int)) (ix t:Int) (tz t-20)=true:=by have a1:=Du (s:=t) (a:=((bW t+12:Nat):Int));have a2:=Du (s:=t) (a:=((bW t+16:Nat):Int));have a3:=eL t (bW t+9);have a4:=Dt (s:=t) (a:=((bW t+2:Nat):Int));grind[Aw,bM,ix,tz]
theorem ab2 (t:Bytes)(hl:t.length<=10^9):yr t=some (Dr t):=by
 have hp:=ze t
 have hk:=Hz (ix t)
 have QX:ix t<256:=eL t (bW t+9)
 unfold yr
 rw[Pc t hl,ab]
 by_cases h1:t.length<bW t+46
 ·rw[ax h1,Af λh=>by have:=h.1.l1;omega];rfl
 rw[aq h1]
 simp only[ae]
 rw[aq (show¬(xa t:Int)<0 by omega)]
 simp only[ae,se t _ hl,ab]
 cases h2:cp t (xa t:Int) !=0 with
 |true=>simp_all[Af]
 |false=>
 simp only[ae,ab]
 cases h3:cp t (rl t:Int) !=0 with
 |true=>grind[Af]
 |false=>
 have w1:ak ((xa t:Int)-10)=(bW t:Int):=by grind[aj]
 have w2:ak ((bW t:Int)+2)=((bW t+2:Nat):Int):=by grind[aj]
 have w9:ak ((bW t:Int)+9)=((bW t+9:Nat):Int):=by grind[aj]
 have w12:ak ((bW t:Int)+12)=((bW t+12:Nat):Int):=by grind[aj]
 have w16:ak ((bW t:Int)+16)=((bW t+16:Nat):Int):=by grind[aj]
 have w20:ak ((bW t:Int)+20)=((bW t+20:Nat):Int):=by grind[aj]
 have wb:ak ((rl t:Int)+2)=(rl t:Int)+2:=by grind[aj]
 have wc:ak ((rl t:Int)+2-(bW t:Int))=(rl t:Int)+2-(bW t:Int):=by grind[aj]
 have wl:ak ((t.length:Int)-(bW t:Int))=(t.length:Int)-(bW t:Int):=by grind[aj]
 obtain⟨x,hx,ex⟩:=jQ (s:=t) (i:=bW t+9)
 have a4:=Dt (s:=t) (a:=((bW t+2:Nat):Int))
 simp only[ae,ab,w1,w2,w9,hx,wb,wc,wl]
 rw[show cp t ((bW t+2:Nat):Int)=tz t from rfl]at a4⊢
 by_cases h4:tz t<(rl t:Int)+2-(bW t:Int)
 ·rw[ax h4,Af λh=>by have:=h.1.n1;grind[tz]];rfl
 rw[aq h4]
 simp only[ae,ab]
 by_cases h5:tz t>(t.length:Int)-(bW t:Int)
 ·rw[ax h5,Af λh=>by have:=h.1.n2;grind[tz]];rfl
 rw[aq h5]
 obtain⟨n,hn⟩:=aG a4.1
 have wn:ak ((bW t:Int)+tz t)=((bW t+n:Nat):Int):=by grind[aj]
 have wm:ak (tz t-20)=tz t-20:=by grind[aj]
 have s1:sub t (bW t:Int) ((bW t+20:Nat):Int)=some ((t.take (bW t+20)).drop (bW t)):=by grind[Kq,az]
 have s2:sub t ((bW t+20:Nat):Int) ((bW t+n:Nat):Int)=some (Qk t):=by grind[Kq,az,Qk]
 have hps:=Ho (eS t ((bW t+12:Nat):Int)) (eS t ((bW t+16:Nat):Int)) (ix t:Int) (tz t-20)
 have Gl:(Qk t).length<=65535:=by unfold Qk;grind
 have hk2:ak ((UInt8.toNat x:Int))=(ix t:Int):=by grind[fD,ix]
 simp only[ae,ab,w12,w16,w20,wn,wm,s1,s2,AZ t _ hl,hk2,EU,L8 (show bW t+20<=t.length by omega) (show 20<=tz t by omega) (show tz t<=(t.length:Int) by omega) hl,af]
 rw[show xA (eS t ((bW t+12:Nat):Int)) (eS t ((bW t+16:Nat):Int)) (ix t:Int) (tz t-20)=afq t from rfl]at hps⊢
 rw[Ka _ (by grind),ab,aQ (by omega),Ka _ (by rw[ar];omega),ab]
 rw[show Sj ((t.take (bW t+20)).drop (bW t))=MQ t from rfl]
 have la:∀y:Int,Kr t=y->(aa (bS (MQ t)) λFV=>aa (ee t (xa t:Int) FV) λLi=>aa (bS y) λr18=>aa (ee Li (rl t:Int) r18) λZT=>aa (im ZT) λEJ=>
  bif EJ.2 !=0 then some (([]:Bytes),false) else aa (mC EJ.1) λOW=>bif !(OW.1==t) then some (([]:Bytes),false) else aa (gH EJ.1) λr22=>some r22)=some (Dr t):=by
  intro y hy
  subst hy
  rw[gM,ab,EV t _ _ hl,ab,gM,ab,EV _ _ _ (by rw[zg];exact hl),ab]
  have hlen:=CN t (bU (MQ t)) (bU (Kr t))
  unfold Dr
  rw[show wC (wC t (xa t:Int) (bU (MQ t))) (rl t:Int) (bU (Kr t))=qb t (bU (MQ t)) (bU (Kr t)) from rfl]
  grind[Hv,ab,RV,Hu,Uv]
 grind[Kr,ab]
theorem aaX (t:Bytes)(hl:t.length<=10^9):xQ t=some (Dr t):=by
 have hp:=ze t
 have hk:=Hz (ix t)
 have QX:ix t<256:=eL t (bW t+9)
 have Gd:=EG t
 unfold xQ
 rw[JC t hl,ab,xt _ _ (by omega),ab]
 cases h1:(fC t).2 with
 |false=>rw[Af λh=>by have:=h.1.eth;grind];rfl
 |true=>
 have he:=Lf h1
 rw[he.1]
 simp only[ai,ae,ab]
 have en:cp (t.drop (bW t)) 2=tz t:=NY (a:=2)
 rw[en]
 by_cases h4:tz t<20
 ·rw[ax h4,Af λh=>by have:=h.1.n1;grind[tz]];rfl
 rw[aq h4]
 simp only[ae,ab]
 by_cases h5:tz t>((t.drop (bW t)).length:Int)
 ·rw[ax h5,Af λh=>by have:=h.1.n2;grind[tz]];rfl
 rw[aq h5]
 rw[bh]at h5
 have hdl:(t.drop (bW t)).length=t.length-bW t:=bh ..
 obtain⟨n,hn⟩:=aG (show 0<=tz t by omega)
 obtain⟨x,hx,ex⟩:=jQ (s:=t.drop (bW t)) (i:=9)
 have hx9:idx (t.drop (bW t)) 9=some x:=hx
 have s1:sub (t.drop (bW t)) 0 20=some ((t.take (bW t+20)).drop (bW t)):=by grind[CU]
 have s2:sub (t.drop (bW t)) 20 (tz t)=some (Qk t):=by rw[Kq (l:=t.drop (bW t)) 20 (a:=20) rfl (by omega) (by omega),hn,az,TJ,dJ];grind[Qk]
 have hps:=Ho (eS t ((bW t+12:Nat):Int)) (eS t ((bW t+16:Nat):Int)) (ix t:Int) (tz t-20)
 have Gl:((Qk t).length:Int)=tz t-20:=by grind[Qk]
 have hk2:ak ((UInt8.toNat x:Int))=(ix t:Int):=by grind[fD,bF,ix]
 have g12:eS (t.drop (bW t)) 12=eS t ((bW t+12:Nat):Int):=NZ (a:=12)
 have g16:eS (t.drop (bW t)) 16=eS t ((bW t+16:Nat):Int):=NZ (a:=16)
 have hw:ak ((MN (ix t):Int)+2)=(MN (ix t):Int)+2:=by grind[aj]
 simp only[ae,ab,JG t hl,s1,s2,hx9,AU _ _ (show(t.drop (bW t)).length<=10^9 by omega),hk2,Ok,Gl,g12,g16,L8 (show bW t+20<=t.length by omega) (show 20<=tz t by omega) (show tz t<=(t.length:Int) by omega) hl,af,ai,KX _ QX,hw]
 rw[show xA (eS t ((bW t+12:Nat):Int)) (eS t ((bW t+16:Nat):Int)) (ix t:Int) (tz t-20)=afq t from rfl]at hps⊢
 by_cases h6:(MN (ix t):Int)+2>tz t-20
 ·rw[ax h6,Af λh=>by have:=h.1.n1;grind[tz]];rfl
 rw[aq h6]
 simp only[ae]
 have hck:((t.take (bW t+20)).drop (bW t)).length<=10^9:=by grind
 rw[aQ (by omega),M3 _ (by rw[ar];omega),ab]
 have la:∀y:Int,Kr t=y->(aa (iX ((t.take (bW t+20)).drop (bW t))) λr25=>aa (bX r25) λr26=>aa (fj t (xa t:Int) r26) λVK=>aa (bX y) λRA=>aa (fj VK (rl t:Int) RA) λr29=>aa (ig r29) λZU=>aa (ml ZU.1) λYr=>
  aa (bif ZU.2 !=0 then some true else bif !Yr.2 then some true else some (!(Yr.1==t))) λq32=>bif q32 then some (([]:Bytes),false) else aa (gF ZU.1) λTW=>some TW)=some (Dr t):=by
  intro y hy
  subst hy
  have b1:=bu (MQ t)
  have b2:=bu (Kr t)
  rw[M3 _ hck,ab,show Sj ((t.take (bW t+20)).drop (bW t))=MQ t from rfl]
  rw[kD,ab,Ef t _ _ hl,ab,kD,ab,Ef _ _ _ (by rw[zg];exact hl),ab]
  have hlen:=CN t (bU (MQ t)) (bU (Kr t))
  unfold Dr
  rw[show wC (wC t (xa t:Int) (bU (MQ t))) (rl t:Int) (bU (Kr t))=qb t (bU (MQ t)) (bU (Kr t)) from rfl]
  grind[Hj,ab,Rh,Hi,Uv,iC]
 cases h8:(ix t:Int)==17 with
 |false=>simp_all[Kr]
 |true=>
  grind[ab,Kr]
theorem QQ (t:Bytes):(Dr t).1.length<=378:=by grind[Dr,Uv,xr]
theorem Iq (l:au aA)(m:bw)(d:Int):∀(n:Nat)(acc:au Dh)(r:kA),(zB l m d n acc r).1.length<=acc.length+n
 |0,acc,r=>aX _
 |n+1,acc,r=>by
  rw[zB];cases !(bJ l m d r).2.2|| !(dZ (bJ l m d r).1).2;case true=>exact cC _
  cases Sp (dZ (bJ l m d r).1).1 with|true=>grind|false=>have:=Iq l m d n (acc++[(dZ (bJ l m d r).1).1]) (bJ l m d r).2.1;grind
theorem Yv (h:ft r=true):ft (r.1,r.2.1,r.2.2.2,r.2.2.2)=true/\cR (r.1,r.2.1,r.2.2.2,r.2.2.2)=0:=by grind[ft,cR,Int.zero_emod,bM]
theorem LD (l:au aA)(m:bw)(d:Int):∀(n:Nat)(acc:au Dh)(r:kA),ft r=true->(cR r).toNat=n->
 ft (zB l m d n acc r).2.1=true/\cR (zB l m d n acc r).2.1<=cR r/\(0<cR r->cR (zB l m d n acc r).2.1<cR r)
 |0,acc,r,hb,hu=>⟨hb,Int.le_refl _,λh=>by omega⟩
 |n+1,acc,r,hb,hu=>by have hk:=B0 (l:=l) (m:=m) (d:=d) (r:=r);have he:=Yv hb;rw[zB];cases hc: !(bJ l m d r).2.2|| !(dZ (bJ l m d r).1).2 with|true=>grind|false=>simp only[dh,eo]at hc;have hk:=hk hc.1;cases Sp (dZ (bJ l m d r).1).1 with|true=>grind|false=>have:=LD l m d n (acc++[(dZ (bJ l m d r).1).1]) (bJ l m d r).2.1 hk.1 (by omega);grind
def ki (l:au aA)(m:bw)(d:Int)(r:kA):kA×bw×Int:=
 bif !ft r||(cR r==0) then(r,[],0) else
 bif !(ej l m d r).2.2|| !(iP (ej l m d r).1).2.2.2 then((ej l m d r).2.1,[],2) else
 bif !(xM l m d (iP (ej l m d r).1).1).2||(!(Dr (xM l m d (iP (ej l m d r).1).1).1).2||((vh (Dr (xM l m d (iP (ej l m d r).1).1).1).1).2 !=0)) then((ej l m d r).2.1,[],2) else
 ((ej l m d r).2.1,Mf (vh (Dr (xM l m d (iP (ej l m d r).1).1).1).1).1 (iP (ej l m d r).1).2.1,1)
theorem XO (l:au aA)(m:bw)(d:Int)(r:kA)(hl:l.length<=10^9)(hm:m.length<=10^9):pY l m d r=some (ki l m d r):=by
 unfold pY ki;simp only[yM,Bo,ab,Qa l m d r hl hm];cases hb:ft r;rfl;cases cR r==0;case true=>rfl
 have hu:=lV hb;have hcl:(ej l m d r).1.length<=16:=by unfold ej;cases !ft r||(cR r==0)with|true=>exact cC _|false=>have:=Iq l m d (cR r).toNat [] r;grind
 simp only[ai,ae,ab,bz];generalize ej l m d r=c at hcl⊢;cases c.2.2;rfl;simp only[ai,ae,ab,cH,SV c.1 (show c.1.length<=10^9 by omega)];have hpo:=L7 (l:=c.1);grind[DH,LN,ab,XL,QQ,aaX,Hj,Vb]
theorem YI (l:au aA)(m:bw)(d:Int)(r:kA)(hl:l.length<=10^9)(hm:m.length<=10^9):qm l m d r=some (ki l m d r):=by
 unfold qm ki;simp only[zj,BU,ab,Qq l m d r hl hm];cases hb:ft r;rfl;cases cR r==0;case true=>rfl
 have hu:=lV hb;have hcl:(ej l m d r).1.length<=16:=by unfold ej;cases !ft r||(cR r==0)with|true=>exact cC _|false=>have:=Iq l m d (cR r).toNat [] r;grind
 simp only[ai,ae,ab,bz];generalize ej l m d r=c at hcl⊢;simp only[Tw c.1 (show c.1.length<=10^9 by omega),ab];cases c.2.2;rfl;simp only[ai,ae,ab,cH];have hpo:=L7 (l:=c.1);generalize iP c.1=p at hpo⊢;cases hp:p.2.2.2;rfl;have hpo:=hpo hp;have WI:=(DH hpo.1).1;have hg:=LN l m d p.1;simp only[ai,ae,ab,cH,YF l m d p.1 hl hm (show p.1.length<=10^9 by omega) (λq hq=>Int.le_trans (hpo.2 q hq) (by omega))];grind[QQ,ab2,ab,Hv,Wa]
theorem K9 (l:au aA)(m:bw)(d:Int)(r:kA): ((ki l m d r).2.2=0->(ki l m d r).1=r)/\((ki l m d r).2.2≠0->0<cR r/\ft r=true/\ft (ki l m d r).1=true/\cR (ki l m d r).1<cR r)/\(ki l m d r).2.1.length<=320/\(∀x∈(ki l m d r).2.1,x.length<=382)/\((ki l m d r).2.2=0\/(ki l m d r).2.2=1\/(ki l m d r).2.2=2):=by
 unfold ki;cases hc: !ft r||(cR r==0)with
 |true=>grind
 |false=>
  simp only[dh,eo,cy]at hc;have hu:=lV hc.1;have hch:ft (ej l m d r).2.1=true/\cR (ej l m d r).2.1<cR r:=by have:=LD l m d (cR r).toNat [] r hc.1 rfl;grind[ej]
  grind[Hr]
def rm (l:au aA)(m:bw)(d:Int):Nat->bw->Nat->Nat->kA->kA×bw×Int×Int
 |0,fr,dn,bd,r=>(r,fr,(dn:Int),(bd:Int))
 |n+1,fr,dn,bd,r=>
  bif (ki l m d r).2.2==0 then(r,fr,(dn:Int),(bd:Int)) else
  bif (ki l m d r).2.2==1 then rm l m d n (fr++(ki l m d r).2.1) (dn+1) bd (ki l m d r).1 else
  rm l m d n (fr++(ki l m d r).2.1) dn (bd+1) (ki l m d r).1
def km (l:au aA)(m:bw)(d:Int)(r:kA):kA×bw×Int×Int:=rm l m d 17 [] 0 0 r
theorem II (l:au aA)(m:bw)(d:Int)(hl:l.length<=10^9)(hm:m.length<=10^9):∀(n:Nat)(fr:bw)(dn bd:Nat)(r:kA)(f:Nat),n<f->(ft r=true->cR r<n)->0<n->fr.length+320*n<=10000->dn+bd+n<=1000->
 aL (mR (λy2 y3 y4 _ _ _ _ y9=>some (y9,y2,y3,y4)) l d ([]:bw) 0 0 m (0,0,0,0)) f (fr,(dn:Int),(bd:Int),r)=some (rm l m d n fr dn bd r)
 |0,fr,dn,bd,r,f,_,_,h0,_,_=>by omega
 |n+1,fr,dn,bd,r,0,hf,_,_,_,_=>by omega
 |n+1,fr,dn,bd,r,f+1,hf,hr,_,gw,hc=>by have ok:=K9 l m d r;rw[aL,rm];simp only[mR,XO l m d r hl hm,ab];generalize ki l m d r=x at ok⊢;cases h0:x.2.2==0 with|true=>grind|false=>have hk:=ok.2.1 (by simpa using h0);have hu:=hr hk.2.1;have hu2:=(lV hk.2.2.1).1;simp only[ae];cases x.2.2==1 with|true=>simp only[af];rw[aQ (by omega),aj (by omega) (by omega)];exact II l m d hl hm n _ (dn+1) bd _ f (by omega) (λ_=>by omega) (by omega) (by rw[ar];omega) (by omega)|false=>simp only[ae];rw[aQ (by omega),aj (by omega) (by omega)];exact II l m d hl hm n _ dn (bd+1) _ f (by omega) (λ_=>by omega) (by omega) (by rw[ar];omega) (by omega)
theorem IU (l:au aA)(m:bw)(d:Int)(hl:l.length<=10^9)(hm:m.length<=10^9):∀(n:Nat)(fr:bw)(dn bd:Nat)(r:kA)(f:Nat),n<f->(ft r=true->cR r<n)->0<n->fr.length+320*n<=10000->dn+bd+n<=1000->
 aL (mZ (λy2 y3 y4 _ _ _ _ y9=>some (y9,y2,y3,y4)) l d ([]:bw) 0 0 m (0,0,0,0)) f (fr,(dn:Int),(bd:Int),r)=some (rm l m d n fr dn bd r)
 |0,fr,dn,bd,r,f,_,_,h0,_,_=>by omega
 |n+1,fr,dn,bd,r,0,hf,_,_,_,_=>by omega
 |n+1,fr,dn,bd,r,f+1,hf,hr,_,gw,hc=>by have ok:=K9 l m d r;rw[aL,rm];simp only[mZ,YI l m d r hl hm,ab];generalize ki l m d r=x at ok⊢;cases h0:x.2.2==0 with|true=>rfl|false=>have hk:=ok.2.1 (by simpa using h0);have hu:=hr hk.2.1;have hu2:=(lV hk.2.2.1).1;simp only[ae];rw[aQ (by omega)];cases x.2.2==1 with|true=>simp only[af];rw[aj (by omega) (by omega)];exact IU l m d hl hm n _ (dn+1) bd _ f (by omega) (λ_=>by omega) (by omega) (by rw[ar];omega) (by omega)|false=>simp only[ae];rw[aj (by omega) (by omega)];exact IU l m d hl hm n _ dn (bd+1) _ f (by omega) (λ_=>by omega) (by omega) (by rw[ar];omega) (by omega)
theorem abb (l:au aA)(m:bw)(d:Int)(r:kA)(hl:l.length<=10^9)(hm:m.length<=10^9):rR l m d r=some (km l m d r):=by have vC:=cE;unfold rR;exact II l m d hl hm 17 [] 0 0 r fuel (by omega) (λh=>by have:=(lV h).2;omega) (by omega) (by simp) (by omega)
theorem acg (l:au aA)(m:bw)(d:Int)(r:kA)(hl:l.length<=10^9)(hm:m.length<=10^9):sA l m d r=some (km l m d r):=by have vC:=cE;unfold sA;exact IU l m d hl hm 17 [] 0 0 r fuel (by omega) (λh=>by have:=(lV h).2;omega) (by omega) (by simp) (by omega)
theorem DT (l:au aA)(m:bw)(d:Int):∀(n:Nat)(fr:bw)(dn bd:Nat)(r:kA),(∀x∈fr,x.length<=382)->
 (rm l m d n fr dn bd r).2.1.length<=fr.length+320*n/\(∀x∈(rm l m d n fr dn bd r).2.1,x.length<=382)/\0<=(rm l m d n fr dn bd r).2.2.1/\(rm l m d n fr dn bd r).2.2.1<=(dn+n:Nat)/\0<=(rm l m d n fr dn bd r).2.2.2/\(rm l m d n fr dn bd r).2.2.2<=(bd+n:Nat)
 |0,fr,dn,bd,r,h=>⟨aX _,h,by show(0:Int)<=(dn:Int);omega,by show(dn:Int)<=_;omega,by show(0:Int)<=(bd:Int);omega,by show(bd:Int)<=_;omega⟩
 |n+1,fr,dn,bd,r,h=>by
  have ok:=K9 l m d r;rw[rm];generalize ki l m d r=x at ok⊢;have h2:∀y∈fr++x.2.1,y.length<=382:=λy hy=>by grind
  cases x.2.2==0 with|true=>grind|false=>cases x.2.2==1 with|true=>have i:=DT l m d n (fr++x.2.1) (dn+1) bd x.1 h2;grind|false=>have i:=DT l m d n (fr++x.2.1) dn (bd+1) x.1 h2;grind
def acT (v:Vector):Bool:=bif decide (v.2.2.1>=1) then(bif decide (v.2.2.1>=v.1) then true else decide (v.2.2.2.1>=v.2.1)) else false
theorem afy (v:Vector):DA v=some (acT v):=by unfold DA acT;cases decide (v.2.2.1>=1);all_goals simp_all
theorem afX (v:Vector):rj v=some (acT v):=by unfold rj acT;cases decide (v.2.2.1>=1);all_goals simp_all
def FZ (v:Vector):Vector:=bif acT v&& !v.2.2.2.2.1 then(v.1,v.2.1,v.2.2.1,v.2.2.2.1,v.2.2.2.2.1,true) else v
theorem KU (v:Vector):ox v=some (FZ v):=by grind[ox,FZ,afy,ab]
theorem Lq (v:Vector):mD v=some (FZ v):=by grind[mD,FZ,afX,ab]
def upM (n:Int):Int:=if 1000000<ak (n+1) then 1000000 else ak (n+1)
theorem aae (n:Int):(if ak (n+1)<1000000 then ak (n+1) else 1000000)=upM n:=by grind[upM]
def evV (v:Vector):Vector:=bif sM v then FZ (v.1,v.2.1,upM v.2.2.1,v.2.2.2) else v
theorem aaR (v:Vector):xN v=some (evV v):=by unfold xN evV;rw[Bp,ab,KU,ab];cases sM v<;>rfl
theorem abY (v:Vector):yo v=some (evV v):=by grind[yo,evV,xE,ab,aae,Lq]
def Wo (v:Vector):Vector:=bif sM v then(bif decide (v.2.2.1>0) then FZ (v.1,v.2.1,v.2.2.1,upM v.2.2.2.1,v.2.2.2.2) else FZ v) else v
theorem aba (v:Vector):uf v=some (Wo v):=by unfold uf Wo;simp only[Bp,ab,KU];cases sM v;rfl;cases decide (v.2.2.1>0)<;>rfl
theorem acf (v:Vector):uy v=some (Wo v):=by grind[uy,Wo,xE,ab,aae,Lq]
def FI (v:Vector):Vector×Bool:=bif sM v&&v.2.2.2.2.2 then((v.1,v.2.1,0,0,true,false),true) else(v,false)
theorem aa9 (v:Vector):ow v=some (FI v):=by grind[ow,FI,Bp,ab]
theorem ace (v:Vector):oK v=some (FI v):=by grind[oK,FI,xE,ab]
def Kx (v:Vector):Vector:=bif sM v then FZ (v.1,v.2.1,v.2.2.1,v.2.2.2.1,false,v.2.2.2.2.2) else v
theorem On (v:Vector):yO v=some (Kx v):=by grind[yO,Kx,Bp,ab,KU]
theorem Pf (v:Vector):zk v=some (Kx v):=by grind[zk,Kx,xE,ab,Lq]
structure lh (k:Nat) (a b:Host):Prop where
 mem:b.1.length=a.1.length
 maps:b.2.1=a.2.1
 tx:b.2.2.1=a.2.2.1
 rx:b.2.2.2.1.length=a.2.2.2.1.length
 rxs:∀j,k<=j->b.2.2.2.1[j]?=a.2.2.2.1[j]?
 pl:b.2.2.2.2.1.length=a.2.2.2.2.1.length
 vec:b.2.2.2.2.2.1.length=a.2.2.2.2.2.1.length
 WA:∀j,k<=j->b.2.2.2.2.2.1[j]?=a.2.2.2.2.2.1[j]?
 pol:b.2.2.2.2.2.2.1.length=a.2.2.2.2.2.2.1.length
 flt:b.2.2.2.2.2.2.2.1=a.2.2.2.2.2.2.2.1
 ste:b.2.2.2.2.2.2.2.2.1=a.2.2.2.2.2.2.2.2.1
theorem lh.refl (k:Nat)(a:Host):lh k a a:=⟨rfl,rfl,rfl,rfl,λ_ _=>rfl,rfl,rfl,λ_ _=>rfl,rfl,rfl,rfl⟩
theorem lh.trans {a b c:Host}(h:lh k a b)(g:lh k b c):lh k a c:=⟨g.mem.trans h.mem,g.maps.trans h.maps,g.tx.trans h.tx,g.rx.trans h.rx,λj hj=>(g.rxs j hj).trans (h.rxs j hj),g.pl.trans h.pl,g.vec.trans h.vec,λj hj=>(g.WA j hj).trans (h.WA j hj),g.pol.trans h.pol,g.flt.trans h.flt,g.ste.trans h.ste⟩
theorem lh.up {m:Nat}{a b:Host}(h:lh k a b)(hk:k<=m):lh m a b:=⟨h.mem,h.maps,h.tx,h.rx,λj hj=>h.rxs j (by omega),h.pl,h.vec,λj hj=>h.WA j (by omega),h.pol,h.flt,h.ste⟩
def gO (g:Nat->Host->Host):Nat->Host->Host
 |0,h=>h
 |k+1,h=>g k (gO g k h)
theorem sJ (hg:∀k h,lh (k+1) h (g k h))(h:Host):∀k,lh k h (gO g k h)
 |0=>lh.refl 0 h
 |k+1=>((sJ hg h k).up (by omega)).trans (hg k _)
theorem BX {d n:Nat}(hn:1000<=n)(hg:∀k h m,1000<=m->bm m da h->bm (m+d) da (g k h))(z:bm n da h):∀k,bm (n+d*k) da (gO g k h)
 |0=>z
 |k+1=>(hg k _ _ (by omega) (BX hn hg z k)).mono (by rw[Nat.mul_add];omega)
def xc (i:Nat)(h:Host):Host:=
 match h.2.2.2.2.2.1[i]? with
 |some v=>(h.1,h.2.1,h.2.2.1,h.2.2.2.1,h.2.2.2.2.1,h.2.2.2.2.2.1.set i (Wo v),h.2.2.2.2.2.2)
 |none=>h
theorem E4 (i:Nat)(h:Host):lh (i+1) h (xc i h):=by unfold xc;cases h.2.2.2.2.2.1[i]? with|none=>exact lh.refl _ _|some v=>exact⟨rfl,rfl,rfl,rfl,λ_ _=>rfl,rfl,aJ ..,λj hj=>aN (by omega),rfl,rfl,rfl⟩
theorem Ng {n:Nat}{l:au Vector}{i:Nat}{v:Vector}(z:bm n (.sl pN) l):bm n (.sl pN) (l.set i v):=oV z ⟨df,df,df,df,df,df⟩
theorem acu (i:Nat)(h:Host)(n:Nat)(hn:1000<=n)(z:bm n da h):bm (n+0) da (xc i h):=by unfold xc;cases h.2.2.2.2.2.1[i]? with|none=>exact z|some v=>exact⟨z.1,z.2.1,z.2.2.1,z.2.2.2.1,z.2.2.2.2.1,Ng z.2.2.2.2.2.1,z.2.2.2.2.2.2⟩
def FJ (h:Host):Host:=bif dN h then gO xc h.2.2.2.2.2.1.length h else h
theorem aeW {n:Nat}(hn:1000<=n)(z:bm n da h):bm n da (FJ h)/\(FJ h).2.2.1=h.2.2.1:=by unfold FJ;cases dN h with|false=>exact⟨z,rfl⟩|true=>exact⟨(BX hn acu z _).mono,(sJ E4 h _).tx⟩
theorem Ve (h:Host)(k:DX h)(z:bm 1000000000 da h):ta h=some (FJ h):=by
 have vC:=cE;unfold ta FJ;rw[ic h z,ab,oN h k,ab];cases hb:dN h;rfl;have hv:h.2.2.2.2.2.1.length<=10^9:=z.2.2.2.2.2.1.1;simp only[ai,ae,af];refine cd (λi=>((i:Int),gO xc i h)) h.2.2.2.2.2.1.length (by omega) (λi nx hi=>?_) (λnx=>?_);have kk:=sJ E4 h i;have i1:i<(gO xc i h).2.2.2.2.2.1.length:=by rw[kk.vec];exact hi
 rw[show gO xc (i+1) h=xc i (gO xc i h) from rfl];generalize gO xc i h=s at i1⊢;simp only[rG,xc];rw[jo,af,al i1];simp only[aU i1,ab,aba,az];rw[aj (by omega) (by omega)];rfl;simp only[rG];rw[fO,ae]
theorem Wc (h:Host)(k:DX h)(z:bm 1000000000 da h):tM h=some (FJ h):=by
 have vC:=cE;unfold tM FJ;rw[il h z,ab];have hv:h.2.2.2.2.2.1.length<=10^9:=z.2.2.2.2.2.1.1;cases hb:dN h with
 |false=>
  obtain⟨g,hg⟩:∃g,fuel=g+1:=⟨fuel-1,by omega⟩
  rw[hg,aL,nM,lX h k,hb];cases decide ((0:Int)<(h.2.2.2.2.2.1.length:Int))<;>rfl
 |true=>
  simp only[af];refine cd (λi=>((i:Int),gO xc i h)) h.2.2.2.2.2.1.length (by omega) (λi nx hi=>?_) (λnx=>?_);have kk:=sJ E4 h i;have i1:i<(gO xc i h).2.2.2.2.2.1.length:=by rw[kk.vec];exact hi
  have e1:=kk.WA i (aX _);rw[al i1,al hi]at e1;have e2:=cx e1;rw[show gO xc (i+1) h=xc i (gO xc i h) from rfl];generalize gO xc i h=s at i1 e2⊢;simp only[nM,xc,lX h k,hb];rw[jo,af,al i1];simp only[aU i1,aU hi,ab,acf,az,af,e2];rw[aj (by omega) (by omega)];rfl;simp only[nM];rw[fO,ae,ab,ae]
structure vt (n:Nat) (h:Host):Prop where
 z:bm n da h
 t:h.2.2.1.2.1.2.2.2.length+(cb h.2.2.1.2.2.1).length<=n
theorem vt.mono {n m:Nat}(k:vt n h)(hn:n<=m:=by omega):vt m h:=⟨k.z.mono hn,aH k.t hn⟩
theorem vt.sz {n:Nat}(k:vt n h)(hn:n<=10^9:=by omega):DX h:=by have z:bm 1000000000 da h:=k.z.mono hn;exact⟨z.1.1,z.2.1.1,z.2.2.1.2.2.1.1,aH k.t hn,z.2.2.2.2.2.2.2.1.2.2.1,z.2.2.2.2.2.2.2.2.1.1.1,z.2.2.2.2.2.2.2.2.1.2.1.1,z.2.2.2.2.2.2.2.2.1.2.2.2.1,λp hp=>(z.2.2.2.2.1.2 p hp).2.2.2.1⟩
theorem vt.of (k:qs da h<=1048576):vt 1048576 h:=by refine⟨HC k,?_⟩;have hb:=Zj h.2.2.1.2.2.1;simp_all[qs];omega
def uP (p:cn):au ir->cn
 |[]=>p
 |x::l=>uP (N0 p x.2.2).1 l
theorem Hg:∀(l:au ir)(p:cn),(uP p l).2.2.2.length<=p.2.2.2.length+(cb l).length
 |[],p=>by simp[uP]
 |x::l,p=>by have h1:=UF p x.2.2;have h2:=Hg l (N0 p x.2.2).1;grind[uP,cb]
theorem KR:∀(l:au ir)(p:cn)(x:ir),uP p (l++[x])=(N0 (uP p l) x.2.2).1
 |[],p,x=>rfl
 |y::l,p,x=>by rw[List.cons_append,uP,uP,KR l]
theorem Nu (a b:au ir):(cb (a++b)).length=(cb a).length+(cb b).length:=by grind[cb]
theorem Nv (l:au ir)(n:Nat):(cb (l.take n)).length+(cb (l.drop n)).length=(cb l).length:=by rw[<-Nu,cf]
def lq (t:bI)(n:Int):bI×dR:=
 bif PE t&&dw n 0 (t.2.2.1.length:Int) then((t.1,uP t.2.1 (t.2.2.1.take n.toNat),t.2.2.1.drop n.toNat,t.2.2.2),(t.2.2.1.take n.toNat).map (·.1)) else(t,[])
theorem ZZ {l:au ir}(h:(cb l).length<=10^9:=by omega):∀x∈l,x.2.2.length<=10^9:=by intro x hx;induction l with|nil=>cases hx|cons y l ih=>grind[cb]
theorem SQ (t:bI)(n:Int)(hw:t.2.2.1.length<=10^9)(hs:t.2.1.2.2.2.length+(cb t.2.2.1).length<=10^9):lI t n=some (lq t n):=by
 have hx:=ZZ (l:=t.2.2.1);unfold lI lq;rw[IE t ⟨by omega,hw,hx⟩,ab,XT t hw hs];simp only[ab,cO];cases PE t;rfl;cases hn:dw n 0 (t.2.2.1.length:Int);rfl;have h:=bM.1 hn;obtain⟨n,rfl⟩:=aG h.1;have hl:n<=t.2.2.1.length:=by omega
 simp only[ai,ae,ab,du,af,az];rw[CU (by omega) (by omega),ab,az];have htl:(t.2.2.1.take n).length=n:=by rw[bn];omega
 rw[htl];refine cd (λi=>(((t.2.2.1.take i).map (·.1),(i:Int),t.1,uP t.2.1 (t.2.2.1.take i),t.2.2):dR×Int×bI)) n (by omega) (λi nx hi=>?_) (λnx=>?_);have hi2:i<(t.2.2.1.take n).length:=by omega
 have hi3:i<t.2.2.1.length:=by omega
 have e1:(t.2.2.1.take n)[i]=t.2.2.1[i]:=List.getElem_take ..;have g1:=Hg (t.2.2.1.take i) t.2.1;have g2:=Nv t.2.2.1 (i+1);have g3:(cb (t.2.2.1.take (i+1))).length=(cb (t.2.2.1.take i)).length+t.2.2.1[i].2.2.length:=by rw[bg hi3,Nu];simp[cb]
 simp only[jv];rw[jo,af,aU hi2,e1,ab,Oi _ _ (by omega),ab,aQ (by simp only[cj,bn,bf];omega),aj (by omega) (by omega),bg hi3,KR,List.map_append];rfl;simp only[jv];rw[fO,ae,sK (l:=t.2.2.1) n hl rfl,ab,Jx _ (by rw[bh];omega) (λx zY=>hx x (List.mem_of_mem_drop zY)),ab]
theorem Tr (t:bI)(n:Int)(hw:t.2.2.1.length<=10^9)(hs:t.2.1.2.2.2.length+(cb t.2.2.1).length<=10^9):lY t n=some (lq t n):=by
 have hx:=ZZ (l:=t.2.2.1);unfold lY lq;rw[BT t ⟨by omega,hw,hx⟩,ab,YM t hw hs];simp only[ab,cz];cases PE t;rfl;cases hn:dw n 0 (t.2.2.1.length:Int);rfl;have h:=bM.1 hn;obtain⟨n,rfl⟩:=aG h.1;have hl:n<=t.2.2.1.length:=by omega
 simp only[ai,ae,ab,du,af,az];refine cd (λi=>(((t.2.2.1.take i).map (·.1),(i:Int),t.1,uP t.2.1 (t.2.2.1.take i),t.2.2):dR×Int×bI)) n (by omega) (λi nx hi=>?_) (λnx=>?_);have hi3:i<t.2.2.1.length:=by omega
 have g1:=Hg (t.2.2.1.take i) t.2.1;have g2:=Nv t.2.2.1 (i+1);have g3:(cb (t.2.2.1.take (i+1))).length=(cb (t.2.2.1.take i)).length+t.2.2.1[i].2.2.length:=by rw[bg hi3,Nu];simp[cb]
 simp only[jB];rw[jo,af,aU hi3,ab,aQ (by simp only[cj,bn,bf];omega),ab,Pa _ _ (by omega),ab,aj (by omega) (by omega),bg hi3,KR,List.map_append];rfl;simp only[jB];rw[fO,ae,sK (l:=t.2.2.1) n hl rfl,ab]
theorem QE (n:Int):∀l:au ir,l.all (jz n)=true->(l.length:Int)<=dL l
 |[],_=>by simp[dL]
 |x::l,h=>by simp only[bO,ah]at h;have:=QE n l h.2;grind[jz,bM,dL]
theorem E6 {t:bI}(h:PE t=true):t.2.2.1.length<=16:=by unfold PE at h;simp only[ah,bD]at h;have h1:=QE _ _ h.2.2.2.1;have h2:=(qc h.1).2.2.1;omega
theorem D3 {t:bI}(n:Int)(z:bm k qv t)(hs:t.2.1.2.2.2.length+(cb t.2.2.1).length<=k): bm k qv (lq t n).1/\(lq t n).1.2.1.2.2.2.length+(cb (lq t n).1.2.2.1).length<=k/\(lq t n).2.length<=16:=by unfold lq;cases h:PE t&&dw n 0 (t.2.2.1.length:Int)with|false=>exact⟨z,hs,cC _⟩|true=>simp only[ah]at h;have WI:=E6 h.1;have g1:=Hg (t.2.2.1.take n.toNat) t.2.1;have g2:=Nv t.2.2.1 n.toNat;have hw:t.2.2.1.length<=k:=z.2.2.1.1;refine⟨⟨z.1,⟨df,df,df,?_,λ_ _=>trivial⟩,⟨?_,λx hx=>z.2.2.1.2 x (List.mem_of_mem_drop hx)⟩,z.2.2.2⟩,?_,?_⟩;show(uP t.2.1 (t.2.2.1.take n.toNat)).2.2.2.length<=k;omega;show(t.2.2.1.drop n.toNat).length<=k;rw[bh];omega;show(uP t.2.1 (t.2.2.1.take n.toNat)).2.2.2.length+(cb (t.2.2.1.drop n.toNat)).length<=k;omega;show((t.2.2.1.take n.toNat).map (·.1)).length<=16;rw[cj,bn];omega
theorem K3 {n:Nat}{t:CT}{l q:au t.D}(z:bm n (.sl t) l)(hq:∀y∈q,bm n t y)(hk:q.length<=k):bm (n+k) (.sl t) (l++q):=by refine⟨?_,λy hy=>?_⟩;show(l++q).length<=n+k;have:=z.1;rw[ar];omega;rcases ay.1 hy with h|h;exact(z.2 y h).mono;exact(hq y h).mono
def lB (h:Host):Host:=bif dN h then
    (h.1,h.2.1,(lq ((km h.2.1 h.1 0 h.2.2.1.1).1,h.2.2.1.2) (if(h.2.2.1.2.2.1.length:Int)<ak ((km h.2.1 h.1 0 h.2.2.1.1).2.2.1+(km h.2.1 h.1 0 h.2.2.1.1).2.2.2) then(h.2.2.1.2.2.1.length:Int) else ak ((km h.2.1 h.1 0 h.2.2.1.1).2.2.1+(km h.2.1 h.1 0 h.2.2.1.1).2.2.2))).1,
      h.2.2.2.1,h.2.2.2.2.1,h.2.2.2.2.2.1,h.2.2.2.2.2.2.1,h.2.2.2.2.2.2.2.1,h.2.2.2.2.2.2.2.2.1,h.2.2.2.2.2.2.2.2.2.1,h.2.2.2.2.2.2.2.2.2.2.1,h.2.2.2.2.2.2.2.2.2.2.2.1++(km h.2.1 h.1 0 h.2.2.1.1).2.1,
      h.2.2.2.2.2.2.2.2.2.2.2.2.1++(lq ((km h.2.1 h.1 0 h.2.2.1.1).1,h.2.2.1.2) (if(h.2.2.1.2.2.1.length:Int)<ak ((km h.2.1 h.1 0 h.2.2.1.1).2.2.1+(km h.2.1 h.1 0 h.2.2.1.1).2.2.2) then(h.2.2.1.2.2.1.length:Int) else ak ((km h.2.1 h.1 0 h.2.2.1.1).2.2.1+(km h.2.1 h.1 0 h.2.2.1.1).2.2.2))).2,h.2.2.2.2.2.2.2.2.2.2.2.2.2) else h
theorem JI (h:Host)(k:vt 900000000 h):lL h=some (lB h):=by have z:bm 1000000000 da h:=k.z.mono;have hz:=k.sz;have hm:h.1.length<=900000000:=k.z.1.1;have hl:h.2.1.length<=900000000:=k.z.2.1.1;have hw:h.2.2.1.2.2.1.length<=900000000:=k.z.2.2.1.2.2.1.1;have hwi:h.2.2.2.2.2.2.2.2.2.2.2.1.length<=900000000:=k.z.2.2.2.2.2.2.2.2.2.2.2.1.1;have hco:h.2.2.2.2.2.2.2.2.2.2.2.2.1.length<=900000000:=k.z.2.2.2.2.2.2.2.2.2.2.2.2.1.1;have hA:=DT h.2.1 h.1 0 17 [] 0 0 h.2.2.1.1 (λx hx=>by cases hx);unfold lL lB;rw[ic h z,ab,oN h hz,ab];cases dN h;rfl;simp only[ai,ae,af,abb h.2.1 h.1 0 _ (show h.2.1.length<=10^9 by omega) (show h.1.length<=10^9 by omega),ab];rw[show rm h.2.1 h.1 0 17 [] 0 0 h.2.2.1.1=km h.2.1 h.1 0 h.2.2.1.1 from rfl]at hA;generalize km h.2.1 h.1 0 h.2.2.1.1=x at hA⊢;simp only[dU]at hA;have hC:=D3 (k:=900000000) (t:=(x.1,h.2.2.1.2)) (if(h.2.2.1.2.2.1.length:Int)<ak (x.2.2.1+x.2.2.2) then(h.2.2.1.2.2.1.length:Int) else ak (x.2.2.1+x.2.2.2)) ⟨⟨df,df,df,df⟩,k.z.2.2.1.2⟩ k.t;rw[aQ (by omega),SQ (x.1,h.2.2.1.2) _ (by grind) (aH k.t (by omega)),ab,aQ (by omega)]
theorem Kl (h:Host)(k:vt 900000000 h):md h=some (lB h):=by have z:bm 1000000000 da h:=k.z.mono;have hz:=k.sz;have hm:h.1.length<=900000000:=k.z.1.1;have hl:h.2.1.length<=900000000:=k.z.2.1.1;have hw:h.2.2.1.2.2.1.length<=900000000:=k.z.2.2.1.2.2.1.1;have hwi:h.2.2.2.2.2.2.2.2.2.2.2.1.length<=900000000:=k.z.2.2.2.2.2.2.2.2.2.2.2.1.1;have hco:h.2.2.2.2.2.2.2.2.2.2.2.2.1.length<=900000000:=k.z.2.2.2.2.2.2.2.2.2.2.2.2.1.1;have hA:=DT h.2.1 h.1 0 17 [] 0 0 h.2.2.1.1 (λx hx=>by cases hx);unfold md lB;rw[il h z,ab,lX h hz,ab];cases dN h;rfl;simp only[ai,ae,af,acg h.2.1 h.1 0 _ (show h.2.1.length<=10^9 by omega) (show h.1.length<=10^9 by omega),ab];rw[show rm h.2.1 h.1 0 17 [] 0 0 h.2.2.1.1=km h.2.1 h.1 0 h.2.2.1.1 from rfl]at hA;generalize km h.2.1 h.1 0 h.2.2.1.1=x at hA⊢;simp only[dU]at hA;have hC:=D3 (k:=900000000) (t:=(x.1,h.2.2.1.2)) (if(h.2.2.1.2.2.1.length:Int)<ak (x.2.2.1+x.2.2.2) then(h.2.2.1.2.2.1.length:Int) else ak (x.2.2.1+x.2.2.2)) ⟨⟨df,df,df,df⟩,k.z.2.2.1.2⟩ k.t;rw[aQ (by omega),Tr (x.1,h.2.2.1.2) _ (by grind) (aH k.t (by omega)),ab,aQ (by omega)]
theorem AN {n:Nat}(hn:400<=n)(k:vt n h):vt (n+5440) (lB h):=by have k':vt (n+5440) h:=k.mono;have hA:=DT h.2.1 h.1 0 17 [] 0 0 h.2.2.1.1 (λx hx=>by cases hx);unfold lB;cases dN h;exact k';rw[show rm h.2.1 h.1 0 17 [] 0 0 h.2.2.1.1=km h.2.1 h.1 0 h.2.2.1.1 from rfl]at hA;generalize km h.2.1 h.1 0 h.2.2.1.1=x at hA⊢;simp only[dU]at hA;generalize (if(h.2.2.1.2.2.1.length:Int)<ak (x.2.2.1+x.2.2.2) then(h.2.2.1.2.2.1.length:Int) else ak (x.2.2.1+x.2.2.2))=q;have hC:=D3 (k:=n) (t:=(x.1,h.2.2.1.2)) q ⟨⟨df,df,df,df⟩,k.z.2.2.1.2⟩ k.t;have z:=k'.z;refine⟨⟨z.1,z.2.1,hC.1.mono,z.2.2.2.1,z.2.2.2.2.1,z.2.2.2.2.2.1,z.2.2.2.2.2.2.1,z.2.2.2.2.2.2.2.1,z.2.2.2.2.2.2.2.2.1,z.2.2.2.2.2.2.2.2.2.1,df,?_,?_,z.2.2.2.2.2.2.2.2.2.2.2.2.2⟩,aH hC.2.1 (by omega)⟩;exact K3 (t:=.str) (n:=n) (k:=5440) k.z.2.2.2.2.2.2.2.2.2.2.2.1 (λy hy=>by show y.length<=_;grind) (by omega);exact(K3 (t:=.int .i64) (n:=n) (k:=16) k.z.2.2.2.2.2.2.2.2.2.2.2.2.1 (λ_ _=>trivial) hC.2.2).mono
def zV (l:au aA)(d:Int)(p:cn)(z:Nat):dR->Bytes->bw->au eM->aw (au eM×bw)
 |[],_,m,a=>some (a,m)
 |b::q,s,m,a=>bif (mw l m d (lj p b) (s.take z) false).2 then zV l d p z q (s.drop z) (mw l m d (lj p b) (s.take z) false).1 (a++[(lj p b,((s.take z).length:Int))]) else none
theorem Jh (l:au aA)(d:Int)(p:cn)(z:Nat):∀(q:dR)(s:Bytes)(m:bw)(a:au eM){x},zV l d p z q s m a=some x->
 x.2.length=m.length/\x.1.length=a.length+q.length/\∀y∈x.1,y∈a\/((∃b∈q,y.1=lj p b)/\0<=y.2/\y.2<=(z:Int))
 |[],s,m,a,x,h=>by cases h;exact⟨rfl,rfl,λy hy=>Or.inl hy⟩
 |b::q,s,m,a,x,h=>by rw[zV]at h;cases hq:(mw l m d (lj p b) (s.take z) false).2 with|false=>rw[hq]at h;cases h|true=>rw[hq]at h;obtain⟨h1,h2,h3⟩:=Jh l d p z q _ _ _ h;rw[lT]at h1;rw[ar,bf]at h2;refine⟨h1,by rw[ca];omega,λy hy=>?_⟩;rcases h3 y hy with g|⟨⟨b',gn,g⟩,g2⟩;rcases ay.1 g with g|g;exact Or.inl g;rw[eu.1 g];refine Or.inr ⟨⟨b,List.mem_cons_self ..,rfl⟩,?_,?_⟩;show(0:Int)<=((s.take z).length:Int);omega;show((s.take z).length:Int)<=(z:Int);rw[bn];omega;exact Or.inr ⟨⟨b',dK _ gn,g⟩,g2⟩
theorem MT (p:cn)(i:Int): -1<=lj p i/\lj p i<=139136:=by unfold lj;cases hb: !fQ p|| !dw i 0 (p.2.2.1-1)with|true=>grind|false=>simp only[dh,eo]at hb;have h:=CK hb.1;have h2:=bM.1 hb.2;have h3:0<=i*p.2.1:=Int.mul_nonneg h2.1 (by omega);have h4:i*p.2.1<=16*512:=Int.mul_le_mul (by omega) (by omega) (by omega) (by omega);simp only[ae];omega
theorem acL {p:cn}(hp:fQ p=true){b:Int}(hb:b∈p.2.2.2):0<=lj p b:=by obtain⟨i,hi,rfl⟩:=List.getElem_of_mem hb;have hq:=hp;simp only[fQ,ah]at hq;have:=aW.1 hq.2.2.2 i (dm.2 hi);simp only[LI,ah,eO hi]at this;have hn:=this.1;have h:=CK hp;have h2:=bM.1 hn;have h3:0<=p.2.2.2[i]*p.2.1:=Int.mul_nonneg h2.1 (by omega);grind[lj]
theorem Wn (s:Bytes)(z:Nat):sub s 0 (if(s.length:Int)<(z:Int) then(s.length:Int) else(z:Int))=some (s.take z):=by grind[CU,bB]
theorem Ul (s:Bytes)(z:Nat):sub s ((s.take z).length:Int) (s.length:Int)=some (s.drop z):=by grind[Wh,List.drop_eq_nil_of_le]
def acB:aw (au eM×bw)->aw (Bool×bw×au eM×Bool)->Prop
 |some x,r=>r=some (true,x.2,x.1,true)
 |none,r=>∃c m,r=some (c,m,[],false)
theorem HY (l:au aA)(d:Int)(p:cn)(z:Nat)(B:bw)(hp:p.2.2.2.length<=10^9)(hl:l.length<=10^9):∀(rest pre:dR)(s:Bytes)(m:bw)(a:au eM)(f:Nat),rest.length<f->(pre++rest).length<=1000000->a.length+rest.length<=1000000->m.length<=10^9->
 acB (zV l d p z rest s m a) (aL (jS (λ_ GX _ T0=>some (true,T0,GX,true)) (λ_ Y8 y19 _ _ _ y23=>some (true,y23,Y8,y19)) l d (z:Int) ([]:au eM) false (pre++rest) ((pre++rest).length:Int) p B) f (s,a,(pre.length:Int),m))
 |rest,pre,s,m,a,0,hf,_,_,_=>by omega
 |[],pre,s,m,a,f+1,_,_,_,_=>by rw[aL];simp only[jS];rw[aq (by simp),ae];rfl
 |b::q,pre,s,m,a,f+1,hf,hn,ha,hm=>by
  simp only[ca,ar]at hf hn ha;have hi:pre.length<(pre++b::q).length:=by simp
  have hb:(pre++b::q)[pre.length]=b:=by simp
  have hA:=MT p b;rw[aL];simp only[jS];rw[ax (by simp;omega),aU hi,hb];simp only[af,ab,Wn,Ul,Jw p b hp,C1 l m d (lj p b) (s.take z) hl hm];rw[zV];cases hq:(mw l m d (lj p b) (s.take z) false).2 with|false=>exact⟨_,_,rfl⟩|true=>simp only[ai,ae,af];rw[aj (n:=(pre.length:Int)+1) (by omega) (by omega),aQ (by grind)];have key:=HY l d p z B hp hl q (pre++[b]) (s.drop z) (mw l m d (lj p b) (s.take z) false).1 (a++[(lj p b,((s.take z).length:Int))]) f (by omega) (by simp;omega) (by simp;omega) (by rw[lT];exact hm);grind
theorem aaW (l:au aA)(m:bw)(d:Int)(p:cn)(q:dR)(s:Bytes)(z:Nat)(hp:p.2.2.2.length<=10^9)(hl:l.length<=10^9)(hm:m.length<=10^9)(hq:q.length<=1000)(h0:0<q.length): acB (zV l d p z q s m []) (nt l m d p q s (z:Int)):=by have vC:=cE;cases q with|nil=>cases h0|cons b q=>simp only[ca]at hq;have hA:=MT p b;have hi:idx (b::q) 0=some b:=rfl;unfold nt;rw[ax (by simp),af,hi];simp only[ab,Wn,Ul,Jw p b hp,C1 l m d (lj p b) (s.take z) hl hm];rw[zV];cases hq':(mw l m d (lj p b) (s.take z) false).2 with|false=>exact⟨_,_,rfl⟩|true=>simp only[ai,ae,af];rw[aQ (by simp),show ak (0+1)=1 from rfl];exact HY l d p z _ hp hl q [b] (s.drop z) (mw l m d (lj p b) (s.take z) false).1 [(lj p b,((s.take z).length:Int))] fuel (by omega) (by simp;omega) (by simp;omega) (by rw[lT];exact hm)
theorem H9 (K:au eM->Int->bw->aw (bw×bI×Bool))(l:au aA)(d c N:Int)(z:Nat)(t:Bytes)(M:bw)(A B2:bI)(B1:bw)(B3:cn)(hp:A.2.1.2.2.2.length<=10^9)(hl:l.length<=10^9)(hM:M.length<=10^9)(hA:WU A)(ht:t.length<=1000)(hz:z<=1000):∀(rest pre:dR)(m:bw)(a:au eM)(f:Nat),rest.length<f->(pre++rest).length<=1000->a.length+rest.length<=1000000->m.length<=10^9->(∀i<(pre++rest).length,i*z<=t.length)->N=((pre++rest).length:Int)->
 aL (jW K (λy34 _ _ y37 y38 _=>some (y37,y38,y34)) l d c (z:Int) false t N (pre++rest) M A B1 B2 B3) f (a,(pre.length:Int),m)=
  (match zV l d A.2.1 z rest (t.drop (pre.length*z)) m a with|some x=>K x.1 N x.2|none=>some (M,A,false))
 |rest,pre,m,a,0,hf,_,_,_,_,_=>by omega
 |[],pre,m,a,f+1,_,_,_,_,_,hN=>by rw[aL];simp only[jW];rw[aq (by rw[hN];simp),ae,hN,br];rfl
 |b::q,pre,m,a,f+1,hf,hn,ha,hm,hiz,hN=>by
  simp only[ca]at hf ha;have hi:pre.length<(pre++b::q).length:=by simp
  have hb:(pre++b::q)[pre.length]=b:=by simp
  have hB:=MT A.2.1 b;have h1:=hiz pre.length hi;have h2:(pre.length+1)*z=pre.length*z+z:=Nat.succ_mul ..;have hs:sub t (ak ((pre.length:Int)*(z:Int))) (if ak (ak ((pre.length:Int)+1)*(z:Int))<(t.length:Int) then ak (ak ((pre.length:Int)+1)*(z:Int)) else(t.length:Int))=some ((t.drop (pre.length*z)).take z):=by rw[aj (n:=(pre.length:Int)+1) (by omega) (by omega),show(pre.length:Int)*(z:Int)=((pre.length*z:Nat):Int) by simp,show((pre.length:Int)+1)*(z:Int)=((pre.length*z+z:Nat):Int) by rw[<-h2];simp];generalize pre.length*z=g at h1⊢;rw[aj (n:=(g:Int)) (by omega) (by omega),aj (n:=((g+z:Nat):Int)) (by omega) (by omega)];by_cases gq:((g+z:Nat):Int)<(t.length:Int);rw[aF gq];unfold sub;rw[zip];simp only[az,aZ];rw[List.drop_take,Nat.add_sub_cancel_left];rw[aE gq];unfold sub;rw[zip];simp only[az,aZ];rw[bB (aX _),bB (by rw[bh];omega)]
  rw[aL];simp only[jW];rw[jo,af,hs,aU hi,hb];simp only[ab,O7 A.2.1 b hp,Ia l m d (lj A.2.1 b) _ hl hm (show lj A.2.1 b<=9223372036854775807 by omega)];rw[zV];cases hq:(mw l m d (lj A.2.1 b) ((t.drop (pre.length*z)).take z) false).2 with
  |false=>simp only[bR,af,ae,gJ M,BT A hA,ab]
  |true=>
   simp only[ai,ae,af];rw[aj (n:=(pre.length:Int)+1) (by omega) (by omega),aQ (by simp only[bf];omega)];have key:=H9 K l d c N z t M A B2 B1 B3 hp hl hM hA ht hz q (pre++[b]) (mw l m d (lj A.2.1 b) ((t.drop (pre.length*z)).take z) false).1 (a++[(lj A.2.1 b,(((t.drop (pre.length*z)).take z).length:Int))]) f (by omega) (by simpa using hn) (by simp;omega) (by rw[lT];exact hm) (by simpa using hiz) (by simpa using hN);have el:((pre++[b]).length:Int)=(pre.length:Int)+1:=by simp
   have el2:(pre++[b]).length=pre.length+1:=by simp
   rw[aP,List.singleton_append,el,el2,h2,<-dJ]at key;exact key
theorem acS {ps:au eM}{z:Int}(h0:0<ps.length)(WI:ps.length<=16)(hp:∀x∈ps,0<=x.1/\x.1<=200000/\0<=x.2/\x.2<=4096)(hz:dw z 1 128=true)(hc:dw c 0 65535=true):(nW ps z c).length=ps.length+1:=by
 have hz2:=bM.1 hz;have Xw:=bM.1 hc;have e1:kW ps=true:=by unfold kW;rw[ah,aO,bD];refine⟨List.any_eq_false.2 λx hx=>?_,by omega⟩;have:=hp x hx;unfold zd;rw[fO,cH,aO,Bool.eq_false_iff];intro h;exact h (bM.2 (by omega))
 have e2:([((2:Int),(0:Int),(0:Int),(0:Int),z,c)]++sV ps c ps.length).all qA=true:=by rw[List.all_append,ah];constructor;simp only[bO,List.all_nil,gQ,qA,ah,bM];omega;rw[G3];refine aW.2 λj hj=>?_;have hj:=dm.1 hj;have:=hp _ (bc hj);simp only[dsc,eO hj,qA,ah,bM];refine⟨by omega,?_,by omega,by omega,by omega,by omega⟩;by_cases hq:j+1=ps.length;rw[aF hq];omega;rw[aE hq];omega
 unfold nW;rw[e1,hz,e2,show((ps.length:Int)==0)=false from by rw[cy];omega];simp only[ai,bz,ae,af,ar,bf,AQ];omega
theorem U1 (K:bw->Int->aw R)(l:au aA)(d:Int)(q:dR)(ds ds2:au hG)(t1 t2 t3 t4:bI)(m1 m2 m3:bw)(h:ds.length<=1000): aL (fK K l d q ds2 ds (ds.length:Int) t1 m1 t2 m2 t3 t4 m3) fuel (([]:bw),0)=K (ds.map Ad) (ds.length:Int):=by
 have vC:=cE;refine cd (λi=>((ds.take i).map Ad,(i:Int))) ds.length (by omega) (λi nx hi=>?_) (λnx=>?_);have e:((ds.take i).map Ad).length<=1000:=by simp;omega
 rw[bg hi,List.map_append];simp only[fK];rw[jo,af,aU hi,ab,SR,ab,aQ (by simp only[bf];omega),aj (by omega) (by omega)];rfl;simp only[fK];rw[fO,ae,cw]
theorem VZ (K:bw->Int->aw R)(l:au aA)(d n:Int)(q:dR)(ds:au hG)(t1 t2:bI)(p:cn)(m1 m2 m3:bw)(h:ds.length<=1000): aL (jX K l d n q ds m1 t1 m2 t2 p m3) fuel (([]:bw),0)=K (ds.map Ad) (ds.length:Int):=by
 have vC:=cE;refine cd (λi=>((ds.take i).map Ad,(i:Int))) ds.length (by omega) (λi nx hi=>?_) (λnx=>?_);have e:((ds.take i).map Ad).length<=1000:=by simp;omega
 rw[bg hi,List.map_append];simp only[jX];rw[jo,af,aU hi,ab,Ts,ab,aQ (by simp only[bf];omega),aj (by omega) (by omega)];rfl;simp only[jX];rw[fO,ae,cw]
def qy (p:aR)(z:Nat):Nat:=((iC p).1.length+z-1)/z
def ZY (l:au aA)(m:bw)(d:Int)(t:bI)(c:Int)(n:Nat)(x:au eM×bw):bw×bI×Bool:=
 bif (wB l x.2 d t.1 ((nW x.1 c t.2.2.2).map Ad)).2.2 then
  ((wB l x.2 d t.1 ((nW x.1 c t.2.2.2).map Ad)).1,((wB l x.2 d t.1 ((nW x.1 c t.2.2.2).map Ad)).2.1,(ku t.2.1 (n:Int)).1,t.2.2.1++[(t.2.2.2,(n:Int)+1,(ku t.2.1 (n:Int)).2.1)],tmod (t.2.2.2+1) 65536),true)
 else(m,t,false)
def Uw (t:bI)(n:Nat):Bool:=(ku t.2.1 (n:Int)).2.2&&(!decide ((n:Int)>16)&&(!decide ((n:Int)+1>vA t.1)&& !decide (dL t.2.2.1+(n:Int)+1>t.1.2.1)))
def C8 (l:au aA)(m:bw)(d:Int)(t:bI)(p:aR)(c z:Int):bw×bI×Bool:=
 bif PE t&&(dV p&&(dw z 1 t.2.1.2.1&&dw c 1 128)) then
  bif Uw t (qy p z.toNat) then
   match zV l d t.2.1 z.toNat (ku t.2.1 (qy p z.toNat:Int)).2.1 (iC p).1 m []with
   |some x=>ZY l m d t c (qy p z.toNat) x
   |none=>(m,t,false)
  else(m,t,false)
 else(m,t,false)
theorem Pw (h:dV p=true):0<(iC p).1.length/\(iC p).1.length<=378:=by grind[xr,LW,iC,CN]
theorem acM (len z:Nat)(h:len<=1000:=by omega)(hz:z<=1000:=by omega)(h0:0<z:=by omega):ak (Int.tdiv (ak (ak ((len:Int)+(z:Int))-1)) (z:Int))=(((len+z-1)/z:Nat):Int):=by have hd:(len+z-1)/z<=len+z-1:=Nat.div_le_self ..;grind[aj]
theorem Pq {p:cn}{n:Nat}(h:(ku p (n:Int)).2.2=true):fQ p=true/\n<=p.2.2.2.length/\(ku p (n:Int)).2.1=p.2.2.2.take n:=by grind[ku,bM]
theorem QS {t:bI}{z n:Nat}{x:au eM×bw}(ht:PE t=true)(hz:z<=512)(hc:dw c 1 128=true)(h0:0<n)(WI:n<=16)(hk:(ku t.2.1 (n:Int)).2.2=true)(hx:zV l d t.2.1 z (ku t.2.1 (n:Int)).2.1 s m []=some x):x.2.length=m.length/\(nW x.1 c t.2.2.2).length=n+1:=by
 obtain⟨hp,hn,hb⟩:=Pq hk;rw[hb]at hx;obtain⟨h1,h2,h3⟩:=Jh l d t.2.1 z _ _ _ _ hx;simp only[dU,bn,cc]at h2;have e:x.1.length=n:=by omega
 refine⟨h1,?_⟩;rw[acS (by omega) (by omega) (λy hy=>?_) hc (by simp only[PE,ah]at ht;exact ht.2.2.1),e];rcases h3 y hy with g|⟨⟨b,gn,g⟩,g2⟩;cases g;have q1:=acL hp (List.mem_of_mem_take gn);have q2:=MT t.2.1 b;rw[g];omega
theorem ab8 (l:au aA)(m:bw)(d:Int)(t:bI)(p:aR)(c z:Int)(hl:l.length<=10^9)(hm:m.length<=10^9)(ht:WU t)(h1:t.2.2.1.length<=10^9)(h2:t.2.1.2.2.2.length+(cb t.2.2.1).length<=10^9):uw l m d t p c z=some (C8 l m d t p c z):=by
 have vC:=cE;unfold uw C8;rw[RV,ab,YM t h1 h2,ab,cz,cz];have e0:(iC p).2=dV p:=by grind[iC]
 rw[e0];simp only[gJ m,BT t ht,ab];cases hb:PE t;rfl;cases hp:dV p;rfl;cases hz:dw z 1 t.2.1.2.1;rfl;cases hc:dw c 1 128;rfl;have hT:=Pw hp;have hz2:=bM.1 hz;have hq:=hb;simp only[PE,ah]at hq;have B9:=CK hq.2.1;have WI:=E6 hb;have UQ:=qc hq.1;have hnx:=bM.1 hq.2.2.1;obtain⟨z,rfl⟩:=aG (by omega:0<=z);have hzn:(z:Int)≠0:=by omega
 have hS:∀x∈t.2.2.1,0<=x.2.1/\x.2.1<=16:=λx hx=>by grind[jz,bM]
 have hcb:=yK _ hS;have hN:qy p z<=1000:=by have:qy p z<=(iC p).1.length+z-1:=Nat.div_le_self ..;omega
 have hN0:0<qy p z:=Nat.div_pos (by omega) (by omega);have hce:=acM (iC p).1.length z;rw[show((iC p).1.length+z-1)/z=qy p z from rfl]at hce;have hfi: -1<=vA t.1:=by have:=UC t.1;omega
 simp only[ai,ae,ab,du,af,az,aE hzn,hce,acd _ _ (show t.2.1.2.2.2.length<=10^9 by omega),Ht,ab9 t (by omega) hS,Uw];rw[aj (n:=(qy p z:Int)+1) (by omega) (by omega),aj (n:=dL t.2.2.1+(qy p z:Int)) (by omega) (by omega),aj (n:=dL t.2.2.1+(qy p z:Int)+1) (by omega) (by omega)];cases hk:(ku t.2.1 (qy p z:Int)).2.2;rfl;by_cases g1:(qy p z:Int)>16;rw[ax g1];rfl;rw[aq g1];simp only[ai,bR,ae,bt];cases decide ((qy p z:Int)+1>vA t.1);case true=>rfl
 simp only[ai,bR,ae,bt,ab];cases decide (dL t.2.2.1+(qy p z:Int)+1>t.1.2.1);case true=>rfl
 simp only[ai,bR,ae,af,ab];obtain⟨_,hkn,QX⟩:=Pq hk;have hkl:(ku t.2.1 (qy p z:Int)).2.1.length=qy p z:=by rw[QX,bn];omega
 have hiz:∀i<qy p z,i*z<=(iC p).1.length:=λi hi=>by have:=(Nat.le_div_iff_mul_le (by omega:0<z)).1 (show i+1<=((iC p).1.length+z-1)/z from hi);grind
 refine(H9 _ l d c _ z (iC p).1 m t _ _ _ (by omega) hl hm ht (by omega) (by omega) (ku t.2.1 (qy p z:Int)).2.1 [] m [] fuel (by omega) (by rw[bK];omega) (by rw[dU];omega) hm (λi hi=>hiz i (by grind)) (by rw[bK,hkl])).trans ?_;simp only[dU,Nat.zero_mul,ef];cases hx:zV l d t.2.1 z (ku t.2.1 (qy p z:Int)).2.1 (iC p).1 m []with|none=>rfl|some x=>obtain⟨x1,x2⟩:=QS hb (by omega) hc hN0 (by omega) hk hx;obtain⟨_,x3,_⟩:=Jh l d t.2.1 z _ _ _ _ hx;simp only[dU]at x3;simp only[Kd x.1 c t.2.2.2 (by omega),ab,ZY];rw[VZ _ _ _ _ _ _ _ _ _ _ _ _ (by omega)];simp only[YJ l x.2 d t.1 _ hl (by omega) (show((nW x.1 c t.2.2.2).map Ad).length<=10^9 by rw[cj];omega),ab,gJ m (show m.length<=1073741824 by omega),BT t ht];cases (wB l x.2 d t.1 ((nW x.1 c t.2.2.2).map Ad)).2.2 with|false=>rfl|true=>rw[show(((nW x.1 c t.2.2.2).length:Int)==0)=false from by rw[cy];omega];grind[ab,aQ,aj]
theorem aa4 (l:au aA)(m:bw)(d:Int)(t:bI)(p:aR)(c z:Int)(hl:l.length<=10^9)(hm:m.length<=10^9)(ht:WU t)(h1:t.2.2.1.length<=10^9)(h2:t.2.1.2.2.2.length+(cb t.2.2.1).length<=10^9):ud l m d t p c z=some (C8 l m d t p c z):=by
 have vC:=cE;unfold ud C8;rw[fF m,ab,IE t ht,ab,XT t h1 h2,ab,pn,cO,cO];simp only[ab];cases hb:PE t;rfl;cases hp:dV p;rfl;cases hz:dw z 1 t.2.1.2.1;rfl;cases hc:dw c 1 128;rfl;have hT:=Pw hp;have hz2:=bM.1 hz;have hq:=hb;simp only[PE,ah]at hq;have B9:=CK hq.2.1;have WI:=E6 hb;have UQ:=qc hq.1;have hnx:=bM.1 hq.2.2.1;obtain⟨z,rfl⟩:=aG (by omega:0<=z);have hzn:¬(z:Int)=0:=by omega
 have hS:∀x∈t.2.2.1,0<=x.2.1/\x.2.1<=16:=λx hx=>by grind[jz,bM]
 have hcb:=yK _ hS;have hN:qy p z<=1000:=by have:qy p z<=(iC p).1.length+z-1:=Nat.div_le_self ..;omega
 have hN0:0<qy p z:=Nat.div_pos (by omega) (by omega);have hce:=acM (iC p).1.length z;rw[show((iC p).1.length+z-1)/z=qy p z from rfl]at hce;simp only[ai,ae,ab,du,af,az,Rh,aE hzn,hce,aa8 _ _ (show t.2.1.2.2.2.length<=10^9 by omega),Q5,aa5 t (by omega) hS,Uw];rw[aj (n:=(qy p z:Int)+1) (by omega) (by omega),aj (n:=dL t.2.2.1+(qy p z:Int)) (by omega) (by omega),aj (n:=dL t.2.2.1+(qy p z:Int)+1) (by omega) (by omega)];by_cases g1:(qy p z:Int)>16;simp_all;rw[aq g1];simp only[bR,ae,bt];cases decide ((qy p z:Int)+1>vA t.1)with|true=>simp_all|false=> ?_
 simp only[bR,ae,bt,ab];cases decide (dL t.2.2.1+(qy p z:Int)+1>t.1.2.1)with|true=>grind|false=> ?_
 simp only[bR,ae,gQ,ab];cases hk:(ku t.2.1 (qy p z:Int)).2.2;rfl;simp only[ai,ae,af,fF m (show m.length<=1073741824 by omega),ab];obtain⟨_,hkn,QX⟩:=Pq hk;have hkl:(ku t.2.1 (qy p z:Int)).2.1.length=qy p z:=by rw[QX,bn];omega
 have key:=aaW l m d t.2.1 (ku t.2.1 (qy p z:Int)).2.1 (iC p).1 z (by omega) hl hm (by omega) (by omega);cases hx:zV l d t.2.1 z (ku t.2.1 (qy p z:Int)).2.1 (iC p).1 m []with
 |none=>rw[hx]at key;obtain⟨a,b,e⟩:=key;obtain⟨f,g,_⟩:=Ec [] c t.2.2.2 (by simp);simp_all
 |some x=>
  rw[hx]at key;have key:nt _ _ _ _ _ _ _=_:=key;obtain⟨x1,x2⟩:=QS hb (by omega) hc hN0 (by omega) hk hx;obtain⟨_,x3,_⟩:=Jh l d t.2.1 z _ _ _ _ hx;simp only[dU]at x3;obtain⟨f,g,hf⟩:=Ec x.1 c t.2.2.2;have hft:f=true:=by grind
  subst hft;simp only[key,g,ab,af,ai,ae,aE (show¬(nW x.1 c t.2.2.2).length=0 by omega),ZY];grind[U1,XP,ab,aQ,aj]
def TD (g:Nat->Host->Host):Nat->Host->Host
 |0,h=>h
 |k+1,h=>g k (TD g k h)
structure Fc (a b:Host):Prop where
 maps:b.2.1=a.2.1
 tx:b.2.2.1=a.2.2.1
 rx:b.2.2.2.1.length=a.2.2.2.1.length
 pl:b.2.2.2.2.1.length=a.2.2.2.2.1.length
 vec:b.2.2.2.2.2.1=a.2.2.2.2.2.1
 pol:b.2.2.2.2.2.2.1=a.2.2.2.2.2.2.1
 ret:b.2.2.2.2.2.2.2.2.2.2.2.2.2.1=a.2.2.2.2.2.2.2.2.2.2.2.2.2.1
theorem Fc.refl (a:Host):Fc a a:=⟨rfl,rfl,rfl,rfl,rfl,rfl,rfl⟩
theorem Fc.trans {a b c:Host}(h:Fc a b)(k:Fc b c):Fc a c:=⟨k.1.trans h.1,k.2.trans h.2,k.3.trans h.3,k.4.trans h.4,k.5.trans h.5,k.6.trans h.6,k.7.trans h.7⟩
theorem Vy (h:Host)(i:Nat)(c:Int):Fc h (EH h i c).2:=by unfold EH;rcases h1:h.2.2.2.1[i]? with _|rx;exact Fc.refl h;rcases h2:h.2.2.2.2.1[i]? with _|pl;exact Fc.refl h;exact⟨rfl,rfl,aJ ..,aJ ..,rfl,rfl,rfl⟩
def sc (h:Host)(k:Nat):Host:=TD (λi s=>(EH s i 1000).2) k h
theorem BM {n:Nat}(hn:128<=n)(z:bm n da h):∀k,Fc h (sc h k)/\bm (n+322000*k) da (sc h k)
 |0=>⟨Fc.refl h,z⟩
 |k+1=>by have i:=BM hn z k;exact⟨i.1.trans (Vy ..),(Yn (by omega) k 1000 i.2).mono⟩
def aiB (h:Host)(l:dR):Host:=(h.1,h.2.1,h.2.2.1,h.2.2.2.1,h.2.2.2.2.1,h.2.2.2.2.2.1,h.2.2.2.2.2.2.1,h.2.2.2.2.2.2.2.1,h.2.2.2.2.2.2.2.2.1,h.2.2.2.2.2.2.2.2.2.1,h.2.2.2.2.2.2.2.2.2.2.1,h.2.2.2.2.2.2.2.2.2.2.2.1,h.2.2.2.2.2.2.2.2.2.2.2.2.1,h.2.2.2.2.2.2.2.2.2.2.2.2.2.1++l,h.2.2.2.2.2.2.2.2.2.2.2.2.2.2)
def TO (h:Host):Host:=(h.1,h.2.1,(Mt.1,Mt.2.1,Mt.2.2.1,h.2.2.1.2.2.2),h.2.2.2)
def FD (h:Host)(i:Nat)(dr:Int):Host:=
 ((FE h.2.1 h.1 i).1,h.2.1,h.2.2.1,h.2.2.2.1.set i ((FE h.2.1 h.1 i).2.1,(O0 i).2.1,(O0 i).2.2.1,(O0 i).2.2.2.1,(O0 i).2.2.2.2.1,dr),h.2.2.2.2.1.set i (FE h.2.1 h.1 i).2.2.1,h.2.2.2.2.2)
theorem afN {i:Nat}{x:bl}(hx:h.2.2.2.1[i]?=some x):Rt h i=FD h i x.2.2.2.2.2:=by unfold Rt FD;rw[hx];rfl
theorem abD (h:Host){i:Nat}(x:bl)(hi:i<h.2.2.2.1.length):Rt (h.1,h.2.1,h.2.2.1,h.2.2.2.1.set i x,h.2.2.2.2) i=FD h i x.2.2.2.2.2:=by unfold Rt FD;simp only[List.getElem?_set_self hi,List.set_set];rfl
def QI (x:bl):Int:=bif x.2.2.2.2.1 then ak (x.2.2.2.2.2+x.2.2.2.1.2.2) else x.2.2.2.2.2
def BP (i:Nat)(h:Host):Host:=
 match h.2.2.2.1[i]?,h.2.2.2.2.2.1[i]? with
 |some x,some v=>((FD h i (QI x)).1,h.2.1,h.2.2.1,(FD h i (QI x)).2.2.2.1,(FD h i (QI x)).2.2.2.2.1,h.2.2.2.2.2.1.set i (v.1,v.2.1,0,0,false,false),h.2.2.2.2.2.2.1.set i false,h.2.2.2.2.2.2.2)
 |_,_=>h
structure agm (k:Nat) (a b:Host):Prop where
 mem:b.1.length=a.1.length
 maps:b.2.1=a.2.1
 rx:b.2.2.2.1.length=a.2.2.2.1.length
 pl:b.2.2.2.2.1.length=a.2.2.2.2.1.length
 vec:b.2.2.2.2.2.1.length=a.2.2.2.2.2.1.length
 WA:∀j,k<=j->b.2.2.2.2.2.1[j]?=a.2.2.2.2.2.1[j]?
 pol:b.2.2.2.2.2.2.1.length=a.2.2.2.2.2.2.1.length
theorem abC (l:au aA)(m:bw)(i:Nat):(FE l m i).1.length=m.length:=by grind[FE,Zq,lT]
theorem VL (i:Nat)(h:Host):agm (i+1) h (BP i h):=by unfold BP;rcases h1:h.2.2.2.1[i]? with _|x;exact⟨rfl,rfl,rfl,rfl,rfl,λ_ _=>rfl,rfl⟩;rcases h2:h.2.2.2.2.2.1[i]? with _|v;exact⟨rfl,rfl,rfl,rfl,rfl,λ_ _=>rfl,rfl⟩;have e1:=abC h.2.1 h.1 i;exact⟨e1,rfl,aJ ..,aJ ..,aJ ..,λj hj=>aN (by omega),aJ ..⟩
def eH (h:Host)(k:Nat):Host:=TD BP k h
theorem tG (h:Host):∀k,agm k h (eH h k)
 |0=>⟨rfl,rfl,rfl,rfl,rfl,λ_ _=>rfl,rfl⟩
 |k+1=>by have a:=tG h k;have b:=VL k (eH h k);exact⟨b.mem.trans a.mem,b.maps.trans a.maps,b.rx.trans a.rx,b.pl.trans a.pl,b.vec.trans a.vec,λj hj=>(b.WA j hj).trans (a.WA j (by omega)),b.pol.trans a.pol⟩
theorem abB {n:Nat}(hn:1000<=n)(i:Nat)(d:Int)(z:bm n da h):bm n da (FD h i d):=by unfold FD FE;have h4:=wy (jt i+128) 384 4;have hf:=NO h.2.1 (mw h.2.1 h.1 0 (jt i) (DV 128) false).1 0 (jt i,4,0,0) (kK (jt i+128) 384 4).1;refine⟨QP (by omega) (GG (by omega) z.1 ..) ..,z.2.1,z.2.2.1,oV z.2.2.2.1 ?_,oV z.2.2.2.2.1 ?_,z.2.2.2.2.2⟩;refine⟨⟨df,df,df,df⟩,⟨df,df,df⟩,⟨df,df,df⟩,⟨⟨df,df,df,df,df,df,df,df,df,df,df,df,df,df,df,?_⟩,df,df⟩,df,df⟩;exact cC _;exact⟨df,df,df,by omega,λ_ _=>trivial⟩
theorem Yt {n:Nat}(hn:1000<=n)(i:Nat)(z:bm n da h):bm n da (BP i h):=by unfold BP;rcases h1:h.2.2.2.1[i]? with _|x;exact z;rcases h2:h.2.2.2.2.2.1[i]? with _|v;exact z;have zo:=abB hn i (QI x) z;exact⟨zo.1,z.2.1,z.2.2.1,zo.2.2.2.1,zo.2.2.2.2.1,oV z.2.2.2.2.2.1 ⟨df,df,df,df,df,df⟩,oV z.2.2.2.2.2.2.1 trivial,z.2.2.2.2.2.2.2⟩
theorem Ay {n:Nat}(hn:1000<=n)(z:bm n da h):∀k,bm n da (eH h k)
 |0=>z
 |k+1=>Yt hn k (Ay hn z k)
def Yu (W:au ir)(i:Nat)(s:Host):Host:=match W[i]? with|some x=>aiB s [x.1]|none=>s
def polled (h:Host):Host:=sc h h.2.2.2.1.length
def returned (h:Host)(k:Nat):Host:=TD (Yu h.2.2.1.2.2.1) k (polled h)
structure ahL (a b:Host):Prop where
 e:b=(a.1,a.2.1,a.2.2.1,a.2.2.2.1,a.2.2.2.2.1,a.2.2.2.2.2.1,a.2.2.2.2.2.2.1,a.2.2.2.2.2.2.2.1,a.2.2.2.2.2.2.2.2.1,a.2.2.2.2.2.2.2.2.2.1,a.2.2.2.2.2.2.2.2.2.2.1,a.2.2.2.2.2.2.2.2.2.2.2.1,a.2.2.2.2.2.2.2.2.2.2.2.2.1,b.2.2.2.2.2.2.2.2.2.2.2.2.2.1,a.2.2.2.2.2.2.2.2.2.2.2.2.2.2)
theorem vi {n:Nat}(z:bm n da (polled h)):∀k,ahL (polled h) (returned h k)/\(returned h k).2.2.2.2.2.2.2.2.2.2.2.2.2.1.length<=n+k
 |0=>⟨⟨rfl⟩,by have:=z.2.2.2.2.2.2.2.2.2.2.2.2.2.1.1;exact aH this (by omega)⟩
 |k+1=>by have i:=vi z k;have e:returned h (k+1)=Yu h.2.2.1.2.2.1 k (returned h k):=rfl;rw[e];unfold Yu;cases h.2.2.1.2.2.1[k]? with|none=>exact⟨i.1,aH i.2 (by omega)⟩|some x=>refine⟨⟨?_⟩,?_⟩;have e:=i.1.e;rw[e];rfl;show(_++[_]).length<=_;rw[ar,bf];omega
theorem Tm {n:Nat}(z:bm n da (polled h))(k:Nat):bm (n+k) da (returned h k):=by have i:=vi z k;have z':bm (n+k) da (polled h):=z.mono;rw[i.1.e];exact⟨z'.1,z'.2.1,z'.2.2.1,z'.2.2.2.1,z'.2.2.2.2.1,z'.2.2.2.2.2.1,z'.2.2.2.2.2.2.1,z'.2.2.2.2.2.2.2.1,z'.2.2.2.2.2.2.2.2.1,z'.2.2.2.2.2.2.2.2.2.1,z'.2.2.2.2.2.2.2.2.2.2.1,z'.2.2.2.2.2.2.2.2.2.2.2.1,z'.2.2.2.2.2.2.2.2.2.2.2.2.1,⟨i.2,λ_ _=>trivial⟩,z'.2.2.2.2.2.2.2.2.2.2.2.2.2.2⟩
theorem Ww {n:Nat}(hn:1000<=n)(z:bm n da h):bm n da (TO h):=by have h4:=wy 256 128 8;exact⟨z.1,z.2.1,⟨⟨df,df,df,df⟩,⟨df,df,df,by show List.length (kK 256 128 8).1.2.2.2<=n;omega,λ_ _=>trivial⟩,⟨cC _,λx hx=>by cases hx⟩,df⟩,z.2.2.2⟩
def rA (h:Host):Host:=TO (returned h h.2.2.1.2.2.1.length)
def GH (h:Host):Host:=bif dN h then eH (rA h) h.2.2.2.1.length else h
theorem IC (hb:dN h=true):wx h=true:=by grind[dN]
theorem F3 {n:Nat}(hn:1000<=n)(z:bm n da h)(hl:h.2.2.2.1.length<=2):bm (n+644000+h.2.2.1.2.2.1.length) da (rA h):=by have hp:=BM (by omega) z h.2.2.2.1.length;exact Ww (by omega) (Tm (hp.2.mono) _)
theorem aiz (l:au aA)(X:bw)(q:bl)(P:cn)(o:bw×kA×cn×Int)(k:bl×cn->bw×kA×cn×Int->aw R)(h:iY l X 0 q.1 P=some o):(aa (iY l X 0 (q,P).1.1 (q,P).2) λLi=>k (q,P) Li)=k (q,P) o:=by simp_all
theorem Q7 (l:au aA)(m:bw)(i:Nat)(hi:i<=8)(hl:l.length<=10^9)(hm:m.length<=10^9)(k:bl×cn->bw×kA×cn×Int->aw R): (aa (qN (i:Int)) λzP=>aa (nX 0 128) λPQ=>aa (jj l m 0 zP PQ) λzx=>aa (xv (i:Int)) λFV=>aa (iY l zx.1 0 FV.1.1 FV.2) λLi=>k FV Li)=k (O0 i,(kK (jt i+128) 384 4).1) (FE l m i):=by
 have hb:jt i=1280+(i)*1792:=rfl;have FN:jt i<=9223372036854775807:=by omega
 have hz:nX 0 128=some (DV 128):=ZG 128;have hf:=U2 l (mw l m 0 (jt i) (DV 128) false).1 0 (jt i,4,0,0) (kK (jt i+128) 384 4).1 hl (by rw[lT];exact hm) (aH (wy (jt i+128) 384 4) (by omega));rw[UX i hi,ab,hz,ab,C1 l m 0 (jt i) (DV 128) hl hm FN,ab,aa2 i hi,ab];exact aiz l _ (O0 i) _ (FE l m i) k hf
theorem P9 (K:Int->Host->aw Host)(s0 B:Host)(N:Nat)(hN:N<=2)(h1:s0.2.2.2.1.length=N)(h2:s0.2.2.2.2.1.length=N)(h3:s0.2.2.2.2.2.1.length=N)(h4:s0.2.2.2.2.2.2.1.length=N)(z:bm 900000000 da s0): aL (kE K (N:Int) B) fuel (0,s0)=K (N:Int) (eH s0 N):=by
 refine cd (λi=>((i:Int),eH s0 i)) N (by omega) (λi nx hi=>?_) (λnx=>?_);have kr:=tG s0 i;have zr:=Ay (by omega) z i;have z1:(eH s0 i).1.length<=10^9:=aH zr.1.1 (by omega);have z2:(eH s0 i).2.1.length<=10^9:=aH zr.2.1.1 (by omega);have i1:i<(eH s0 i).2.2.2.1.length:=by rw[kr.rx,h1];exact hi
 have i2:i<(eH s0 i).2.2.2.2.1.length:=by rw[kr.pl,h2];exact hi
 have i3:i<(eH s0 i).2.2.2.2.2.1.length:=by rw[kr.vec,h3];exact hi
 have i4:i<(eH s0 i).2.2.2.2.2.2.1.length:=by rw[kr.pol,h4];exact hi
 rw[show eH s0 (i+1)=BP i (eH s0 i) from rfl];generalize eH s0 i=s at z1 z2 i1 i2 i3 i4⊢;unfold BP QI FD;simp only[al i1,al i3];simp only[kE];rw[jo,af];simp only[aU i1,ab];rw[Q7 s.2.1 s.1 i (by omega) z2 z1,Q7 s.2.1 s.1 i (by omega) z2 z1];simp only[aU i2,aU i3,aU i4,ab];rw[aj (by omega) (by omega),az];cases s.2.2.2.1[i].2.2.2.2.1<;>rfl;simp only[kE];rw[fO,ae]
theorem Je {n:Nat}(hq:Fc h (polled h))(hz:bm n da (polled h)):(rA h).2.2.2.1.length=h.2.2.2.1.length/\(rA h).2.2.2.2.1.length=h.2.2.2.2.1.length/\(rA h).2.2.2.2.2.1=h.2.2.2.2.2.1/\(rA h).2.2.2.2.2.2.1=h.2.2.2.2.2.2.1:=by have er:=(vi hz h.2.2.1.2.2.1.length).1.e;refine⟨?_,?_,?_,?_⟩;show(returned h h.2.2.1.2.2.1.length).2.2.2.1.length=_;rw[er];exact hq.rx;show(returned h h.2.2.1.2.2.1.length).2.2.2.2.1.length=_;rw[er];exact hq.pl;show(returned h h.2.2.1.2.2.1.length).2.2.2.2.2.1=_;rw[er];exact hq.vec;show(returned h h.2.2.1.2.2.1.length).2.2.2.2.2.2.1=_;rw[er];exact hq.pol
theorem P8 (h:Host)(k:DX h)(z:bm 100000000 da h):vM h=some (GH h):=by
 unfold vM GH;rw[ic h (z.mono),ab,oN h k,ab];cases hb:dN h;rfl;have hl:=mT (IC hb);have hw:=z.2.2.1.2.2.1.1;have hp:=BM (by omega) z;refine cd (λi=>((i:Int),sc h i)) h.2.2.2.1.length (by omega) (λi nx hi=>?_) (λnx=>?_);simp only[pU];rw[jo,af,SW (sc h i) i 1000 (by rw[(hp i).1.rx];exact hi) (by rw[(hp i).1.pl];omega) ((hp i).2.mono),ab,aj (by omega) (by omega)];rfl;simp only[pU];rw[fO,ae];have hq:=hp h.2.2.2.1.length;have hr:=vi hq.2;have e1:(sc h h.2.2.2.1.length).2.2.1.2.2.1=h.2.2.1.2.2.1:=by rw[hq.1.tx]
 rw[e1];refine cd (λi=>((i:Int),returned h i)) h.2.2.1.2.2.1.length (by omega) (λi nx hi=>?_) (λnx=>?_);have hri:=(hr i).2;simp only[oh];rw[jo,af,aU hi,ab,aQ (by rw[bf];omega),aj (by omega) (by omega)];rw[show returned h (i+1)=Yu h.2.2.1.2.2.1 i (returned h i) from rfl,Yu,al hi];rfl;simp only[oh];rw[fO,ae];simp only[abc,ab];have hE:=F3 (by omega) z hl.1;have hk:=Je hq.1 hq.2;have eN:((List.length (returned h h.2.2.1.2.2.1.length).2.2.2.1))=(h.2.2.2.1.length):=congrArg Nat.cast hk.1;rw[eN];exact P9 _ (rA h) _ h.2.2.2.1.length hl.1 hk.1 (hk.2.1.trans hl.2.1) (by rw[hk.2.2.1];exact hl.2.2.1) (by rw[hk.2.2.2];exact hl.2.2.2) (hE.mono)
theorem Qp (K:Int->Host->aw Host)(h s0 B:Host)(N:Nat)(hN:N<=2)(h1:s0.2.2.2.1.length=N)(h2:s0.2.2.2.2.1.length=N)(h3:s0.2.2.2.2.2.1=h.2.2.2.2.2.1)(h5:h.2.2.2.2.2.1.length=N)(h4:s0.2.2.2.2.2.2.1.length=N)(z:bm 900000000 da s0): aL (kM K h B) fuel (0,s0)=K (N:Int) (eH s0 N):=by
 refine cd (λi=>((i:Int),eH s0 i)) N (by omega) (λi nx hi=>?_) (λnx=>?_);have kr:=tG s0 i;have zr:=Ay (by omega) z i;have z1:(eH s0 i).1.length<=10^9:=aH zr.1.1 (by omega);have z2:(eH s0 i).2.1.length<=10^9:=aH zr.2.1.1 (by omega);have i1:i<(eH s0 i).2.2.2.1.length:=by rw[kr.rx,h1];exact hi
 have iN:(eH s0 i).2.2.2.1.length=N:=by rw[kr.rx,h1]
 have i2:i<(eH s0 i).2.2.2.2.1.length:=by rw[kr.pl,h2];exact hi
 have i3:i<(eH s0 i).2.2.2.2.2.1.length:=by rw[kr.vec,h3,h5];exact hi
 have i4:i<(eH s0 i).2.2.2.2.2.2.1.length:=by rw[kr.pol,h4];exact hi
 have i5:i<h.2.2.2.2.2.1.length:=by rw[h5];exact hi
 have iv:(eH s0 i).2.2.2.2.2.1[i]=h.2.2.2.2.2.1[i]:=by have:=kr.WA i (aX _);rw[al i3,h3,al i5]at this;exact cx this
 rw[show eH s0 (i+1)=BP i (eH s0 i) from rfl];generalize eH s0 i=s at z1 z2 iN i1 i2 i3 i4 iv⊢;have g1:=al i1;unfold BP;rw[g1,al i3];simp only[kM];rw[jo,af];simp only[aU i1,ab];have o1:=V4 s i (by omega) i1 i2 z2 z1;rw[afN g1]at o1;have o2:=λx:bl=>V4 (s.1,s.2.1,s.2.2.1,s.2.2.2.1.set i x,s.2.2.2.2) i (by omega) (by rw[aJ];exact i1) i2 z2 z1;simp only[abD s _ i1]at o2;rw[az,aj (n:=(i)+1) (by omega) (by omega),o1,o2,ab,ab];simp only[aU i5,ab,iv];have j3:∀d,i<(FD s i d).2.2.2.2.2.1.length:=λd=>i3;have j4:∀d,i<(FD s i d).2.2.2.2.2.2.1.length:=λd=>i4;simp only[aU (j3 _),aU (j4 _),ab];unfold QI;cases s.2.2.2.1[i].2.2.2.2.1<;>rfl;have kN:=(tG s0 N).rx;simp only[kM];rw[fO,ae]
theorem Qo (h:Host)(k:DX h)(z:bm 100000000 da h):wM h=some (GH h):=by
 unfold wM GH;rw[il h (z.mono),ab,lX h k,ab];cases hb:dN h;rfl;have hl:=mT (IC hb);have hw:=z.2.2.1.2.2.1.1;have hp:=BM (by omega) z;refine cd (λi=>((i:Int),sc h i)) h.2.2.2.1.length (by omega) (λi nx hi=>?_) (λnx=>?_);have h1:i<(sc h i).2.2.2.1.length:=by rw[(hp i).1.rx];exact hi
 have h2:i<(sc h i).2.2.2.2.1.length:=by rw[(hp i).1.pl];omega
 have zi:bm 500000000 da (sc h i):=(hp i).2.mono;have hz2:=zi.2.1.1;have hz1:=zi.1.1;have em:=(hp i).1.maps;rw[show sc h (i+1)=(EH (sc h i) i 1000).2 from rfl];generalize sc h i=s at h1 h2 zi hz1 hz2 em⊢;have B9:=(zi.2.2.2.2.1.2 _ (bc h2)).2.2.2.1;simp only[qh];rw[jo,af,<-em];simp only[aU h1,aU h2,ab,V6 s.2.1 s.1 0 _ _ _ 1000 (show s.2.1.length<=10^9 by omega) (show s.1.length<=10^9 by omega) B9 zi.2.2.2.2.2.2.2.2.2.1,az,EH,al h1,al h2];rw[aj (by omega) (by omega)];rfl;simp only[qh];rw[fO,ae];have hq:=hp h.2.2.2.1.length;have hr:=vi hq.2;refine cd (λi=>((i:Int),returned h i)) h.2.2.1.2.2.1.length (by omega) (λi nx hi=>?_) (λnx=>?_);have hri:=(hr i).2;simp only[oC];rw[jo,af,aU hi,ab,aQ (by rw[bf];omega),aj (by omega) (by omega)];rw[show returned h (i+1)=Yu h.2.2.1.2.2.1 i (returned h i) from rfl,Yu,al hi];rfl;simp only[oC];rw[fO,ae];simp only[ach,ab];have hE:=F3 (by omega) z hl.1;have hk:=Je hq.1 hq.2;have ex:rA h=((returned h h.2.2.1.2.2.1.length).1,(returned h h.2.2.1.2.2.1.length).2.1,(Mt.1,Mt.2.1,Mt.2.2.1,h.2.2.1.2.2.2),(returned h h.2.2.1.2.2.1.length).2.2.2):=by
  have et:(returned h h.2.2.1.2.2.1.length).2.2.1=h.2.2.1:=by rw[(hr h.2.2.1.2.2.1.length).1.e];exact hq.1.tx
  unfold rA TO;rw[et]
 rw[<-ex];exact Qp _ h (rA h) _ h.2.2.2.1.length hl.1 hk.1 (hk.2.1.trans hl.2.1) hk.2.2.1 hl.2.2.1 (by rw[hk.2.2.2];exact hl.2.2.2) (hE.mono)
def D2 (x:Fa):Bool:=dw x.1 0 65535&&(dw x.2.1 0 65535&&(dw x.2.2.1 0 65535&&(dw x.2.2.2.1 0 65535&&dw x.2.2.2.2 0 4294967295)))
theorem Q3 (x:Fa):lJ x=some (D2 x):=by simp_all[lJ,cO,cm,D2]
theorem RM (x:Fa):lZ x=some (D2 x):=by simp_all[lZ,cz,cm,D2]
def Xi (x:Fa)(p:Int):Bytes:=bif D2 x&&dw p 0 1 then((((bU x.1++bU x.2.1)++bU x.2.2.1)++bU x.2.2.2.1)++iS x.2.2.2.2)++iS p else []
theorem adF (x:Fa)(p:Int):kU x p=some (Xi x p):=by have h1:=bu x.1;have h2:=bu x.2.1;have h3:=bu x.2.2.1;have h4:=bu x.2.2.2.1;have h5:=dz x.2.2.2.2;have h6:=dz p;unfold kU Xi;simp only[Q3,cO,ab,kD,Bq];grind[ab,aQ]
theorem aey (x:Fa)(p:Int):kY x p=some (Xi x p):=by have h1:=bu x.1;have h2:=bu x.2.1;have h3:=bu x.2.2.1;have h4:=bu x.2.2.2.1;have h5:=dz x.2.2.2.2;have h6:=dz p;unfold kY Xi;simp only[RM,cz,ab,gM,mz];grind[ab,aQ]
def DK (l:au aA)(m:bw)(d:Int)(q:MS)(x:Fa):bw×MS×Bool:=
 bif !gL q|| !D2 x then(m,q,false) else
 bif !(mw l m d (lW q) (Xi x (C4 q)) true).2 then(m,q,false) else
 ((mw l m d (lW q) (Xi x (C4 q)) true).1,(q.1,q.2.1,tmod (q.2.2+1) (2*q.2.1)),true)
theorem adN (l:au aA)(m:bw)(d:Int)(q:MS)(x:Fa)(hl:l.length<=10^9)(hm:m.length<=10^9):oq l m d q x=some (DK l m d q x):=by unfold oq DK;simp only[KW,Q3,ab,fF m (show m.length<=1073741824 by omega),Q8,adF];cases hq:gL q;rfl;have h:=lU hq;have hs:=M7 hq;cases D2 x;rfl;simp only[ai,ae,ab,bz,Rd q hq,Ed l m d _ _ hl hm (show lW q<=9223372036854775807 by unfold lW;omega)];grind[Rz,aj]
theorem aeG (l:au aA)(m:bw)(d:Int)(q:MS)(x:Fa)(hl:l.length<=10^9)(hm:m.length<=10^9):oF l m d q x=some (DK l m d q x):=by
 unfold oF DK;simp only[Lt,RM,ab,gJ m (show m.length<=1073741824 by omega),aey];cases hq:gL q;rfl;have h:=lU hq;have hs:=M7 hq;cases D2 x;rfl;have e:ak (q.1+ak (16*tmod q.2.2 q.2.1))=lW q:=by grind[aj,lW]
 simp only[ai,ae,ab,bz,RP q hq,e,Az l m d _ _ hl hm (show lW q<=9223372036854775807 by unfold lW;omega)];grind[aj]
theorem abR {n:Nat}(hn:128<=n)(z:bm n (.sl .str) m)(l:au aA)(d:Int)(q:MS)(x:Fa):bm n (.sl .str) (DK l m d q x).1/\(DK l m d q x).1.length=m.length:=by grind[DK,GG,lT]
theorem afP {q:MS}{x:Fa}(h:gL q=true):gL (DK l m d q x).2.1=true/\(DK l m d q x).2.1.1=q.1/\(DK l m d q x).2.1.2.1=q.2.1:=by have hq:=lU h;grind[DK,gL,bM,Hs]
def nR (l:au aA)(m:bw)(d:Int)(q:bl)(k:Bytes)(s:Bytes):bw×MS×Bool:=
 bif !(dZ s).2||(((dZ s).1.1 !=3)||decide ((dZ s).1.2.2.1<((eF q.2.2.2.1.1).1.length:Int))) then(m,q.2.1,false) else
 bif !(mw l m d (dZ s).1.2.2.2.1 (eF q.2.2.2.1.1).1 true).2 then(m,q.2.1,false) else
 DK l (mw l m d (dZ s).1.2.2.2.1 (eF q.2.2.2.1.1).1 true).1 d q.2.1 ((dZ s).1.2.2.2.2.2,((eF q.2.2.2.1.1).1.length:Int),q.2.2.2.1.2.1,q.2.2.2.1.2.2,Ck k (zF (mi q.2.2.2.1.1)))
theorem acb (l:au aA)(m:bw)(d:Int)(q:bl)(k s:Bytes)(hl:l.length<=10^9)(hm:m.length<=10^9)(hs:s.length<=10^9):yG l m d q s k=some (nR l m d q k s):=by
 unfold yG nR;have jZ:=NA (s:=s);simp only[VX s hs,Hu,ab,gJ m (show m.length<=1073741824 by omega)];generalize dZ s=x at jZ⊢;cases hx:x.2;rfl;have hd:=jZ hx;simp only[qA,ah,bM]at hd;cases x.1.1 !=3;case true=>rfl
 cases decide (x.1.2.2.1<((eF q.2.2.2.1.1).1.length:Int));all_goals grind[ab,Az,O8,Kf,aeG,lT]
theorem aa7 (l:au aA)(m:bw)(d:Int)(q:bl)(k s:Bytes)(hl:l.length<=10^9)(hm:m.length<=10^9)(hs:s.length<=10^9)(hh:dV q.2.2.2.1.1=true):∃b,we l m d q k s=some (b,nR l m d q k s)/\(b=false->nR l m d q k s=(m,q.2.1,false)):=by
 unfold we nR;have jZ:=NA (s:=s);simp only[UY s hs,Hi,ab,Dx hh];generalize dZ s=x at jZ⊢;cases hx:x.2;exact⟨false,rfl,λ_=>rfl⟩;have hd:=jZ hx;simp only[qA,ah,bM]at hd;cases x.1.1 !=3;case true=>simp_all
 cases decide (x.1.2.2.1<((eF q.2.2.2.1.1).1.length:Int));case true=>simp_all
 simp only[ai,ae,ab,bz,Ed l m d _ _ hl hm (show x.1.2.2.2.1<=9223372036854775807 by omega)];cases (mw l m d x.1.2.2.2.1 (eF q.2.2.2.1.1).1 true).2;exact⟨false,rfl,λ_=>rfl⟩;simp only[ai,ae,Og,ab,JA,adN l _ d _ _ hl (show(mw l m d x.1.2.2.2.1 (eF q.2.2.2.1.1).1 true).1.length<=10^9 by rw[lT];exact hm)];grind
theorem ack {n:Nat}(hn:128<=n){q:bl}{k:Bytes}(z:bm n (.sl .str) m)(hq:gL q.2.1=true): bm n (.sl .str) (nR l m d q k s).1/\(nR l m d q k s).1.length=m.length/\gL (nR l m d q k s).2.1=true/\(nR l m d q k s).2.1.1=q.2.1.1/\(nR l m d q k s).2.1.2.1=q.2.1.2.1:=by
 unfold nR;cases !(dZ s).2||(((dZ s).1.1 !=3)||decide ((dZ s).1.2.2.1<((eF q.2.2.2.1.1).1.length:Int)));case true=>grind
 cases (mw l m d (dZ s).1.2.2.2.1 (eF q.2.2.2.1.1).1 true).2;all_goals grind[GG,lT,abR,afP]
def jF (l:au aA)(m:bw)(d:Int)(q:bl)(k:Bytes):bw×bl:=
 bif !OZ q||(!q.2.2.2.2.1||((k.length:Int) !=16)) then(m,q) else
 bif (bJ l m d q.1).2.2&&(nR l m d q k (bJ l m d q.1).1).2.2 then
  ((nR l m d q k (bJ l m d q.1).1).1,(bJ l m d q.1).2.1,(nR l m d q k (bJ l m d q.1).1).2.1,q.2.2.1,ahD,false,q.2.2.2.2.2)
 else(m,(bJ l m d q.1).2.1,q.2.1,q.2.2.1,ahD,false,ak (q.2.2.2.2.2+q.2.2.2.1.2.2))
theorem Wm (h:(bJ l m d r).2.2=false):(bJ l m d r).2.1=r:=by grind[bJ]
theorem zh {q:bl}(h:OZ q=true):gL q.2.1=true/\(q.2.2.2.2.1=true->dV q.2.2.2.1.1=true):=by grind[OZ]
theorem Ls (l:au aA)(m:bw)(d:Int)(q:bl)(k:Bytes)(hl:l.length<=10^9)(hm:m.length<=10^9):nH l m d q k=some (jF l m d q k):=by
 have ht:=yI l m d q.1;unfold nH jF;simp only[Tz,ab,gJ m (show m.length<=1073741824 by omega),Kk l m d q.1 hl hm,acb l m d q k _ hl hm (show(bJ l m d q.1).1.length<=10^9 by omega)];cases OZ q;rfl;cases q.2.2.2.2.1;rfl;cases (k.length:Int) !=16;case true=>rfl
 simp only[ai,ae,ab,bz];cases (bJ l m d q.1).2.2;rfl;cases (nR l m d q k (bJ l m d q.1).1).2.2<;>rfl
theorem KV (l:au aA)(m:bw)(d:Int)(q:bl)(k:Bytes)(hl:l.length<=10^9)(hm:m.length<=10^9):nj l m d q k=some (jF l m d q k):=by
 have ht:=yI l m d q.1;have I4:=Wm (l:=l) (m:=m) (d:=d) (r:=q.1);unfold nj jF;simp only[SY,ab,fF m (show m.length<=1073741824 by omega),JH l m d q.1 hl hm];cases hr:OZ q;rfl;cases hh:q.2.2.2.2.1;rfl;cases (k.length:Int) !=16;case true=>rfl
 obtain⟨b,hb,FN⟩:=aa7 l m d q k (bJ l m d q.1).1 hl hm (by omega) ((zh hr).2 hh);simp only[ai,ae,ab,bz,hb];generalize nR l m d q k (bJ l m d q.1).1=s at hb FN⊢;cases hk:(bJ l m d q.1).2.2 with|false=>rw[I4 hk];rfl|true=>?_
 cases b with|true=>cases hs:s.2.2<;>rfl|false=>rw[FN rfl];rfl
theorem Hd {n:Nat}(hn:128<=n){q:bl}{k:Bytes}(z:bm n (.sl .str) m)(zq:bm n fA q): bm n (.sl .str) (jF l m d q k).1/\(jF l m d q k).1.length=m.length/\bm n fA (jF l m d q k).2/\(OZ q=true->gL (jF l m d q k).2.2.1=true/\(jF l m d q k).2.2.1.2.1=q.2.1.2.1):=by
 unfold jF;cases hc: !OZ q||(!q.2.2.2.2.1||((k.length:Int) !=16));case true=>grind[zh]
 simp only[dh,eo]at hc;have hq:=(zh hc.1).1;have hs:=ack hn (l:=l) (d:=d) (k:=k) (s:=(bJ l m d q.1).1) z hq;have e0:bm n fA ((bJ l m d q.1).2.1,(nR l m d q k (bJ l m d q.1).1).2.1,q.2.2.1,ahD,false,q.2.2.2.2.2):=⟨⟨df,df,df,df⟩,⟨df,df,df⟩,⟨df,df,df⟩,⟨⟨df,df,df,df,df,df,df,df,df,df,df,df,df,df,df,cC _⟩,df,df⟩,df,df⟩
 cases (bJ l m d q.1).2.2&&(nR l m d q k (bJ l m d q.1).1).2.2 with|true=>grind|false=>exact⟨z,rfl,⟨⟨df,df,df,df⟩,⟨df,df,df⟩,⟨df,df,df⟩,⟨⟨df,df,df,df,df,df,df,df,df,df,df,df,df,df,df,cC _⟩,df,df⟩,df,df⟩,λ_=>⟨hq,rfl⟩⟩
def evS (k:Nat)(h:Host):Host:=
 match h.2.2.2.2.2.1[k]? with
 |some v=>(h.1,h.2.1,h.2.2.1,h.2.2.2.1,h.2.2.2.2.1,h.2.2.2.2.2.1.set k (evV v),h.2.2.2.2.2.2)
 |none=>h
def TR (k:Nat):Nat->Host->Host
 |0,h=>h
 |i+1,h=>evS k (TR k i h)
theorem ac6 (k:Nat)(h:Host):lh (k+1) h (evS k h):=by unfold evS;cases h.2.2.2.2.2.1[k]? with|none=>exact lh.refl _ _|some v=>exact⟨rfl,rfl,rfl,rfl,λ_ _=>rfl,rfl,aJ ..,λj hj=>aN (by omega),rfl,rfl,rfl⟩
theorem Jf (k:Nat)(h:Host):∀i,lh (k+1) h (TR k i h)
 |0=>lh.refl _ _
 |i+1=>(Jf k h i).trans (ac6 k _)
theorem afn {n:Nat}(k:Nat)(z:bm n da h):bm n da (evS k h):=by unfold evS;cases h.2.2.2.2.2.1[k]? with|none=>exact z|some v=>exact⟨z.1,z.2.1,z.2.2.1,z.2.2.2.1,z.2.2.2.2.1,Ng z.2.2.2.2.2.1,z.2.2.2.2.2.2⟩
theorem Zo {n:Nat}(k:Nat)(z:bm n da h):∀i,bm n da (TR k i h)
 |0=>z
 |i+1=>afn k (Zo k z i)
theorem XG (h:Host)(k:Nat)(b:Int)(h1:k<h.2.2.2.1.length)(h2:k<h.2.2.2.2.2.1.length)(hq:gL h.2.2.2.1[k].2.1=true)(hb:0<=b/\b<=31):kI h (k:Int) b=some ((),TR k ((h.2.2.2.1[k].2.1.2.2-b)%(2*h.2.2.2.1[k].2.1.2.1)).toNat h):=by
 have vC:=cE;have q:=lU hq;unfold kI;rw[aU h1,ab];generalize h.2.2.2.1[k]=x at q⊢;rw[aj (n:=x.2.1.2.2-b) (by omega) (by omega),aj (n:=2*x.2.1.2.1) (by omega) (by omega),K6 _ _,ab];have hm:0<=(x.2.1.2.2-b)%(2*x.2.1.2.1)/\(x.2.1.2.2-b)%(2*x.2.1.2.1)<32:=by have g1:=Int.emod_nonneg (x.2.1.2.2-b) (show 2*x.2.1.2.1≠0 by omega);have g2:=fL (x.2.1.2.2-b) (show 0<2*x.2.1.2.1 by omega);omega
 generalize (x.2.1.2.2-b)%(2*x.2.1.2.1)=c at hm⊢;obtain⟨c,rfl⟩:=aG hm.1;rw[az];have e0:((c:Int),h)=(((c:Int)-((0:Nat):Int)),TR k 0 h):=by simp[TR]
 rw[e0];refine cd (λi=>((c:Int)-(i:Int),TR k i h)) c (by omega) (λi nx hi=>?_) (λnx=>?_);have kk:=Jf k h i;have i1:k<(TR k i h).2.2.2.2.2.1.length:=by rw[kk.vec];exact h2
 rw[show TR k (i+1) h=evS k (TR k i h) from rfl];generalize TR k i h=s at i1⊢;simp only[pZ,evS];rw[jo,af,al i1];simp only[aU i1,ab,aaR,az];rw[aj (by omega) (by omega),show(c:Int)-(i:Int)-1=(c:Int)-((i+1:Nat):Int) by omega];simp only[pZ];rw[fO,ae]
theorem YA (h:Host)(k:Nat)(b:Int)(h1:k<h.2.2.2.1.length)(h2:k<h.2.2.2.2.2.1.length)(hq:gL h.2.2.2.1[k].2.1=true)(hb:0<=b/\b<=31):kR h (k:Int) b=some ((),TR k ((h.2.2.2.1[k].2.1.2.2-b)%(2*h.2.2.2.1[k].2.1.2.1)).toNat h):=by
 have vC:=cE;have q:=lU hq;unfold kR;rw[aU h1,ab,ab];generalize h.2.2.2.1[k]=x at q⊢;have em:ak (BitVec.toNat (fE (x.2.1.2.2-b)&&&fE (2*x.2.1.2.1-1)))=(x.2.1.2.2-b)%(2*x.2.1.2.1):=by
  have key:∀j:Nat,j<63->2*x.2.1.2.1=2^j->ak (BitVec.toNat (fE (x.2.1.2.2-b)&&&fE (2*x.2.1.2.1-1)))=(x.2.1.2.2-b)%(2*x.2.1.2.1):=by intro j hj e;have:=Dk (x.2.1.2.2-b) j hj;rw[<-e]at this;rw[this];have g1:=Int.emod_nonneg (x.2.1.2.2-b) (show 2*x.2.1.2.1≠0 by omega);have g2:=fL (x.2.1.2.2-b) (show 0<2*x.2.1.2.1 by omega);exact aj (by omega) (by omega)
  rcases q.2.2.1 with e|e|e|e;exact key 2 (by omega) (by rw[e];rfl);exact key 3 (by omega) (by rw[e];rfl);exact key 4 (by omega) (by rw[e];rfl);exact key 5 (by omega) (by rw[e];rfl)
 rw[aj (n:=x.2.1.2.2-b) (by omega) (by omega),aj (n:=2*x.2.1.2.1) (by omega) (by omega),aj (n:=2*x.2.1.2.1-1) (by omega) (by omega),em];have hm:0<=(x.2.1.2.2-b)%(2*x.2.1.2.1)/\(x.2.1.2.2-b)%(2*x.2.1.2.1)<32:=by have g1:=Int.emod_nonneg (x.2.1.2.2-b) (show 2*x.2.1.2.1≠0 by omega);have g2:=fL (x.2.1.2.2-b) (show 0<2*x.2.1.2.1 by omega);omega
 generalize (x.2.1.2.2-b)%(2*x.2.1.2.1)=c at hm⊢;obtain⟨c,rfl⟩:=aG hm.1;rw[az];refine cd (λi=>((i:Int),TR k i h)) c (by omega) (λi nx hi=>?_) (λnx=>?_);have kk:=Jf k h i;have i1:k<(TR k i h).2.2.2.2.2.1.length:=by rw[kk.vec];exact h2
 rw[show TR k (i+1) h=evS k (TR k i h) from rfl];generalize TR k i h=s at i1⊢;simp only[qn,evS];rw[jo,af,al i1];simp only[aU i1,ab,abY,az];rw[aj (by omega) (by omega)];rfl;simp only[qn];rw[fO,ae]
def H5 (h:Host)(k:Nat)(f:bw×bl):Host:=(f.1,h.2.1,h.2.2.1,h.2.2.2.1.set k f.2,h.2.2.2.2)
def Lw (h:Host)(k:Nat)(b:Int)(f:bw×bl):Host:=TR k ((f.2.2.1.2.2-b)%(2*f.2.2.1.2.1)).toNat (H5 h k f)
def jG (k:Nat)(h:Host):Host:=
 match h.2.2.2.1[k]? with
 |some x=>Lw h k x.2.1.2.2 (jF h.2.1 h.1 0 x h.2.2.2.2.2.2.2.2.1.2.2.1)
 |none=>h
theorem Mw {b:Int}(hf:f.1.length=h.1.length):lh (k+1) h (Lw h k b f):=by
 have a:lh (k+1) h (H5 h k f):=⟨hf,rfl,rfl,aJ ..,λj hj=>aN (by omega),rfl,rfl,λ_ _=>rfl,rfl,rfl,rfl⟩
 exact a.trans (Jf k (H5 h k f) _)
theorem PI {n:Nat}{b:Int}(z:bm n da h)(h1:bm n (.sl .str) f.1)(h2:bm n fA f.2):bm n da (Lw h k b f):=by
 have a:bm n da (H5 h k f):=⟨h1,z.2.1,z.2.2.1,oV z.2.2.2.1 h2,z.2.2.2.2⟩
 exact Zo k a _
theorem NX {q:bl}{k:Bytes}:(jF l m d q k).1.length=m.length:=by
 have hs:(nR l m d q k (bJ l m d q.1).1).1.length=m.length:=by
  unfold nR;cases !(dZ (bJ l m d q.1).1).2||(((dZ (bJ l m d q.1).1).1.1 !=3)||decide ((dZ (bJ l m d q.1).1).1.2.2.1<((eF q.2.2.2.1.1).1.length:Int)));case true=>rfl
  cases (mw l m d (dZ (bJ l m d q.1).1).1.2.2.2.1 (eF q.2.2.2.1.1).1 true).2;rfl;have h2:=lT l m d (dZ (bJ l m d q.1).1).1.2.2.2.1 (eF q.2.2.2.1.1).1 true;simp only[ae,ai];unfold DK;cases !gL q.2.1|| !D2 ((dZ (bJ l m d q.1).1).1.2.2.2.2.2,((eF q.2.2.2.1.1).1.length:Int),q.2.2.2.1.2.1,q.2.2.2.1.2.2,Ck k (zF (mi q.2.2.2.1.1)));case true=>exact h2
  cases (mw l (mw l m d (dZ (bJ l m d q.1).1).1.2.2.2.1 (eF q.2.2.2.1.1).1 true).1 d (lW q.2.1) (Xi ((dZ (bJ l m d q.1).1).1.2.2.2.2.2,((eF q.2.2.2.1.1).1.length:Int),q.2.2.2.1.2.1,q.2.2.2.1.2.2,Ck k (zF (mi q.2.2.2.1.1))) (C4 q.2.1)) true).2 with|false=>exact h2|true=>exact(lT ..).trans h2
 unfold jF;grind
theorem Ci (k:Nat)(h:Host):lh (k+1) h (jG k h):=by grind[jG,lh.refl,Mw,NX]
theorem Iw (k:Nat)(h:Host)(n:Nat)(hn:1000<=n)(z:bm n da h):bm (n+0) da (jG k h):=by unfold jG;cases hx:h.2.2.2.1[k]? with|none=>exact z|some x=>have hf:=Hd (show 128<=n by omega) (l:=h.2.1) (d:=0) (k:=h.2.2.2.2.2.2.2.2.1.2.2.1) z.1 (z.2.2.2.1.2 _ (cL hx));exact PI z hf.1 hf.2.2.1
def zD (h:Host):Host:=bif dN h then gO jG h.2.2.2.1.length h else h
theorem Hc {n:Nat}(hn:1000<=n)(k:vt n h):vt n (zD h):=by unfold zD;cases dN h with|false=>exact k|true=>refine⟨(BX hn Iw k.z _).mono,?_⟩;simp only[af];rw[(sJ Ci h _).tx];exact k.t
theorem Bn (hb:dN h=true):∀i (hi:i<h.2.2.2.1.length),OZ h.2.2.2.1[i]=true:=by grind[dN,VM]
theorem Mv {b:Int}(h1:k<h.2.2.2.1.length)(h2:k<h.2.2.2.2.2.1.length)(hq:gL f.2.2.1=true)(hb:0<=b/\b<=31:=by omega): kI (f.1,h.2.1,h.2.2.1,h.2.2.2.1.set k f.2,h.2.2.2.2) (k:Int) b=some ((),Lw h k b f):=by
 have h3:k<(H5 h k f).2.2.2.1.length:=by show k<(h.2.2.2.1.set k f.2).length;rw[aJ];exact h1
 have e:(H5 h k f).2.2.2.1[k]=f.2:=List.getElem_set_self _;have a:=XG (H5 h k f) k b h3 h2 (by rw[e];exact hq) hb;rw[e]at a;exact a
theorem Mx {b:Int}(h1:k<h.2.2.2.1.length)(h2:k<h.2.2.2.2.2.1.length)(hq:gL f.2.2.1=true)(hb:0<=b/\b<=31:=by omega): kR (f.1,h.2.1,h.2.2.1,h.2.2.2.1.set k f.2,h.2.2.2.2) (k:Int) b=some ((),Lw h k b f):=by
 have h3:k<(H5 h k f).2.2.2.1.length:=by show k<(h.2.2.2.1.set k f.2).length;rw[aJ];exact h1
 have e:(H5 h k f).2.2.2.1[k]=f.2:=List.getElem_set_self _;have c:=YA (H5 h k f) k b h3 h2 (by rw[e];exact hq) hb;rw[e]at c;exact c
theorem Oh (h:Host)(k:vt 900000000 h):qI h=some (zD h):=by
 have vC:=cE;unfold qI zD;rw[ic h (k.z.mono),ab,oN h (k.sz),ab];cases hb:dN h;rfl;have hl:=mT (by simp only[dN,ah]at hb;exact hb.2.2.2.2.1:wx h=true);have hr:=Bn hb;simp only[ai,ae,af];refine cd (λi=>((i:Int),gO jG i h)) h.2.2.2.1.length (by omega) (λi nx hi=>?_) (λnx=>?_);have kk:=sJ Ci h i;have zz:bm 900000000 da (gO jG i h):=(BX (by omega) Iw k.z i).mono;have i1:i<(gO jG i h).2.2.2.1.length:=by rw[kk.rx];exact hi
 have i2:i<(gO jG i h).2.2.2.2.2.1.length:=by rw[kk.vec];omega
 have e1:(gO jG i h).2.2.2.1[i]=h.2.2.2.1[i]:=by have:=kk.rxs i (aX _);rw[al i1,al hi]at this;exact cx this
 rw[show gO jG (i+1) h=jG i (gO jG i h) from rfl];generalize gO jG i h=s at zz i1 i2 e1⊢;have z1:s.1.length<=900000000:=zz.1.1;have z2:s.2.1.length<=900000000:=zz.2.1.1;have US:=hr i hi;rw[<-e1]at US;have hqd:=lU (zh US).1;have hf:=Hd (show 128<=900000000 by omega) (l:=s.2.1) (d:=0) (k:=s.2.2.2.2.2.2.2.2.1.2.2.1) zz.1 (zz.2.2.2.1.2 _ (bc i1));have ev:=Mv (h:=s) (k:=i) (b:=s.2.2.2.1[i].2.1.2.2) (f:=jF s.2.1 s.1 0 s.2.2.2.1[i] s.2.2.2.2.2.2.2.2.1.2.2.1) i1 i2 (hf.2.2.2 US).1;simp only[pT,jG];rw[jo,af,al i1];simp only[aU i1,aU hi,ab,KV s.2.1 s.1 0 _ _ (show s.2.1.length<=10^9 by omega) (show s.1.length<=10^9 by omega),az,<-e1,ev];rw[aj (by omega) (by omega)];rfl;simp only[pT];rw[fO,ae]
theorem O9 (h:Host)(k:vt 900000000 h):re h=some (zD h):=by
 have vC:=cE;unfold re zD;rw[il h (k.z.mono),ab];have hv:h.2.2.2.1.length<=900000000:=k.z.2.2.2.1.1;cases hb:dN h with
 |false=>
  obtain⟨g,hg⟩:∃g,fuel=g+1:=⟨fuel-1,by omega⟩
  rw[hg,aL,mc,lX h (k.sz),hb];cases decide ((0:Int)<(h.2.2.2.1.length:Int))<;>rfl
 |true=>
  have hl:=mT (by simp only[dN,ah]at hb;exact hb.2.2.2.2.1:wx h=true);have hr:=Bn hb;simp only[af];refine cd (λi=>((i:Int),gO jG i h)) h.2.2.2.1.length (by omega) (λi nx hi=>?_) (λnx=>?_);have kk:=sJ Ci h i;have zz:bm 900000000 da (gO jG i h):=(BX (by omega) Iw k.z i).mono;have i1:i<(gO jG i h).2.2.2.1.length:=by rw[kk.rx];exact hi
  have i2:i<(gO jG i h).2.2.2.2.2.1.length:=by rw[kk.vec];omega
  have e1:(gO jG i h).2.2.2.1[i]=h.2.2.2.1[i]:=by have:=kk.rxs i (aX _);rw[al i1,al hi]at this;exact cx this
  have em:=kk.maps;have es:=kk.ste;rw[show gO jG (i+1) h=jG i (gO jG i h) from rfl];generalize gO jG i h=s at zz i1 i2 e1 em es⊢;have z1:s.1.length<=900000000:=zz.1.1;have z2:s.2.1.length<=900000000:=zz.2.1.1;have US:=hr i hi;rw[<-e1]at US;have hqd:=lU (zh US).1;have hf:=Hd (show 128<=900000000 by omega) (l:=s.2.1) (d:=0) (k:=s.2.2.2.2.2.2.2.2.1.2.2.1) zz.1 (zz.2.2.2.1.2 _ (bc i1));have ev:=Mx (h:=s) (k:=i) (b:=s.2.2.2.1[i].2.1.2.2) (f:=jF s.2.1 s.1 0 s.2.2.2.1[i] s.2.2.2.2.2.2.2.2.1.2.2.1) i1 i2 (hf.2.2.2 US).1;simp only[mc,jG,lX h (k.sz (by omega)),hb];rw[jo,af,al i1];simp only[aU i1,aU hi,ab,af,<-em,<-es,<-e1,Ls s.2.1 s.1 0 _ _ (show s.2.1.length<=10^9 by omega) (show s.1.length<=10^9 by omega),az,ev];rw[aj (by omega) (by omega)];rfl;simp only[mc];rw[fO,ae,ab,ae]
def OP (a b:aR):Bool:=(a.1==b.1)&&((a.2.1==b.2.1)&&((a.2.2.1==b.2.2.1)&&((a.2.2.2.1==b.2.2.2.1)&&((a.2.2.2.2.2.1==b.2.2.2.2.2.1)&&((a.2.2.2.2.2.2.1==b.2.2.2.2.2.2.1)&&((a.2.2.2.2.2.2.2.1==b.2.2.2.2.2.2.2.1)&&((a.2.2.2.2.2.2.2.2.1==b.2.2.2.2.2.2.2.2.1)&&((a.2.2.2.2.2.2.2.2.2.1==b.2.2.2.2.2.2.2.2.2.1)&&((a.2.2.2.2.2.2.2.2.2.2.1==b.2.2.2.2.2.2.2.2.2.2.1)&&((a.2.2.2.2.2.2.2.2.2.2.2.2.1==b.2.2.2.2.2.2.2.2.2.2.2.2.1)&&((a.2.2.2.2.2.2.2.2.2.2.2.2.2.2.1==b.2.2.2.2.2.2.2.2.2.2.2.2.2.2.1))))))))))))
theorem aeF (a b:aR):yC a b=some (OP a b):=by simp_all[yC,OP]
theorem adM (a b:aR):xZ a b=some (OP a b):=by simp_all[xZ,OP]
def ahB (s:jM)(p:aR):Bool:=(p.2.2.2.2.2.2.2.2.2.2.2.1==tmod (ak (s.1.2.2.2.2.2.2.2.2.2.2.2.1+(s.1.2.2.2.2.2.2.2.2.2.2.2.2.2.2.2.length:Int))) 4294967296)&&(p.2.2.2.2.1==tmod (ak (s.1.2.2.2.2.1+s.2.2)) 65536)
def RK (s:jM)(p:aR):Bool:=decide (1<=s.2.1)&&(dw s.2.2 1 320&&(decide ((s.1.2.2.2.2.2.2.2.2.2.2.2.2.2.2.2.length:Int)=s.2.1*s.2.2)&&(dw (p.2.2.2.2.2.2.2.2.2.2.2.2.2.2.2.length:Int) 1 s.2.1&&decide ((s.1.2.2.2.2.2.2.2.2.2.2.2.2.2.2.2.length:Int)+(p.2.2.2.2.2.2.2.2.2.2.2.2.2.2.2.length:Int)<=320))))
def adj (s:jM)(p:aR):Bool:=dV s.1&&(jx p&&(OP s.1 p&&((p.2.2.2.2.2.2.2.2.1==6)&&((s.1.2.2.2.2.2.2.2.2.2.2.2.2.2.1==16)&&F8 p.2.2.2.2.2.2.2.2.2.2.2.2.2.1))))
def KK (s:jM)(p:aR):Bool:=adj s p&&(RK s p&&ahB s p)
theorem JU (h:jx p=true)(h6:(p.2.2.2.2.2.2.2.2.1==6)=true):dw p.2.2.2.2.2.2.2.2.2.2.2.2.2.1 0 31=true:=by grind[jx,dV,Lo,N7]
theorem IP (h:jx p=true):p.2.2.2.2.2.2.2.2.2.2.2.2.2.2.2.length<=128:=by grind[jx]
theorem Z3 (s:jM)(p:aR):wH s p=some (KK s p):=by
 unfold wH KK adj;rw[sf,ab,ET,ab,aeF,ab];cases hs:dV s.1;rfl;cases hp:jx p;rfl;cases OP s.1 p;rfl;cases h6:p.2.2.2.2.2.2.2.2.1==6 with|false=>simp only[bne,h6];rfl|true=>?_
 cases WI:s.1.2.2.2.2.2.2.2.2.2.2.2.2.2.1==16 with|false=>simp only[bne,h6,WI];rfl|true=>?_
 have hf:=JU hp h6;have Zz:=xJ hs;have B9:=IP hp;simp only[bne,h6,WI,ai,ae,ab,NT _ hf,bt];cases F8 p.2.2.2.2.2.2.2.2.2.2.2.2.2.1;rfl;simp only[ai,ae,cz,ab,bt,cm];have sR:(bif !dw s.2.1 1 320 then some true else bif !dw s.2.2 1 320 then some true else bif !((s.1.2.2.2.2.2.2.2.2.2.2.2.2.2.2.2.length:Int)==ak (s.2.1*s.2.2)) then some true else bif !dw (p.2.2.2.2.2.2.2.2.2.2.2.2.2.2.2.length:Int) 1 s.2.1 then some true else some (decide (ak ((s.1.2.2.2.2.2.2.2.2.2.2.2.2.2.2.2.length:Int)+(p.2.2.2.2.2.2.2.2.2.2.2.2.2.2.2.length:Int))>320)))=some (!RK s p):=by
  unfold RK;generalize s.1.2.2.2.2.2.2.2.2.2.2.2.2.2.2.2.length=n at Zz⊢;generalize p.2.2.2.2.2.2.2.2.2.2.2.2.2.2.2.length=m at B9⊢;rw[aj (n:=(n:Int)+(m:Int)) (by omega) (by omega)];cases h2:dw s.2.2 1 320 with
  |false=>cases dw s.2.1 1 320<;>cases decide (1<=s.2.1)<;>rfl
  |true=>
   have TS:=bM.1 h2;by_cases h1:1<=s.2.1;rw[ax h1];by_cases h3:s.2.1<=320;have hb:s.2.1*s.2.2<=320*320:=Int.mul_le_mul h3 TS.2 (by omega) (by omega);have TU:0<=s.2.1*s.2.2:=Int.mul_nonneg (by omega) (by omega);rw[bM.2 ⟨h1,h3⟩,aj (n:=s.2.1*s.2.2) (by omega) (by omega)];by_cases h4:(n:Int)=s.2.1*s.2.2;rw[show((n:Int)==s.2.1*s.2.2)=true from by rw[bC];exact h4,ax h4];cases dw (m:Int) 1 s.2.1 with|false=>rfl|true=>by_cases h5:(n:Int)+(m:Int)<=320;rw[ax h5,aq (show¬(n:Int)+(m:Int)>320 by omega)];rfl;rw[aq h5,ax (show(n:Int)+(m:Int)>320 by omega)];rfl
   rw[show((n:Int)==s.2.1*s.2.2)=false from by rw[cy];exact h4,aq h4];rfl;have hb:321*1<=s.2.1*s.2.2:=Int.mul_le_mul (by omega) (by omega) (by omega) (by omega);rw[show dw s.2.1 1 320=false from by rw[Bool.eq_false_iff];intro hc;have:=bM.1 hc;omega,aq (show¬(n:Int)=s.2.1*s.2.2 by omega)];rfl;rw[aq h1,show dw s.2.1 1 320=false from by rw[Bool.eq_false_iff];intro hc;have:=bM.1 hc;omega];rfl
 simp only[bne,cm]at sR⊢;rw[cx sR];cases RK s p;rfl;rw[mG,mG];simp only[ai,ae,cm,ab,cF,bt];rfl
theorem ZE (s:jM)(p:aR):vH s p=some (KK s p):=by
 unfold vH KK adj;rw[pn,ab,Ee,ab,adM,ab];cases hs:dV s.1;rfl;cases hp:jx p;rfl;cases OP s.1 p;rfl;cases h6:p.2.2.2.2.2.2.2.2.1==6 with|false=>simp only[bne,h6];rfl|true=>?_
 cases WI:s.1.2.2.2.2.2.2.2.2.2.2.2.2.2.1==16 with|false=>simp only[bne,h6,WI];rfl|true=>?_
 have hf:=JU hp h6;have Zz:=xJ hs;have B9:=IP hp;simp only[bne,h6,WI,ai,ae,ab,NS _ hf,bt];cases F8 p.2.2.2.2.2.2.2.2.2.2.2.2.2.1;rfl;simp only[ai,ae,cO,ab,bt];rw[aE (show¬(4294967296:Nat)=0 by omega),aE (show¬(65536:Nat)=0 by omega)];simp only[cm,cF];rw[show((p.2.2.2.2.2.2.2.2.2.2.2.1==tmod (ak (s.1.2.2.2.2.2.2.2.2.2.2.2.1+(s.1.2.2.2.2.2.2.2.2.2.2.2.2.2.2.2.length:Int))) 4294967296)&&(p.2.2.2.2.1==tmod (ak (s.1.2.2.2.2.1+s.2.2)) 65536))=ahB s p from rfl];unfold RK;generalize ahB s p=q;generalize s.1.2.2.2.2.2.2.2.2.2.2.2.2.2.2.2.length=n at Zz⊢;generalize p.2.2.2.2.2.2.2.2.2.2.2.2.2.2.2.length=m at B9⊢;rw[aj (n:=(n:Int)+(m:Int)) (by omega) (by omega)];by_cases h1:s.2.1<1;rw[ax h1,aq (show¬1<=s.2.1 by omega)];rfl;rw[aq h1,ax (show 1<=s.2.1 by omega)];cases h2:dw s.2.2 1 320;rfl;have TS:=bM.1 h2;simp only[ai,ae,ab,bt];rw[mG,mG];have e1:tmod (n:Int) s.2.2=(n:Int)%s.2.2:=eC (by omega);have e2:Int.tdiv (n:Int) s.2.2=(n:Int)/s.2.2:=Int.tdiv_eq_ediv_of_nonneg (by omega);have hdm:=Int.emod_add_mul_ediv (n:Int) s.2.2;have hq0:0<=(n:Int)/s.2.2:=Int.ediv_nonneg (by omega) (by omega);have XE:(n:Int)/s.2.2<=(n:Int):=Int.ediv_le_self _ (by omega);rw[e1,e2,aj (n:=(n:Int)/s.2.2) (by omega) (by omega)];by_cases h3:(n:Int)=s.2.1*s.2.2;have h4:(n:Int)%s.2.2=0:=by rw[h3];exact Int.mul_emod_left ..
 have h5:(n:Int)/s.2.2=s.2.1:=by rw[h3];exact Int.mul_ediv_cancel _ (by omega)
 rw[h4,h5,ax h3];simp only[beq_self_eq_true,ai,ae,ab,bt];cases dw (m:Int) 1 s.2.1;rfl;cases decide ((n:Int)+(m:Int)<=320)<;>rfl;rw[aq h3];cases h4:(n:Int)%s.2.2==0 with
 |false=>rfl
 |true=>
  have h4':(n:Int)%s.2.2=0:=by simpa using h4
  have h5:((n:Int)/s.2.2==s.2.1)=false:=by rw[cy];intro h5;rw[h4',h5]at hdm;exact h3 (by rw[Int.mul_comm];omega)
  simp only[ai,ae,h5,bR,ab,af];rfl
def Rj (s:jM)(p:aR):jM:=bif KK s p then((s.1.1,s.1.2.1,s.1.2.2.1,s.1.2.2.2.1,s.1.2.2.2.2.1,s.1.2.2.2.2.2.1,s.1.2.2.2.2.2.2.1,s.1.2.2.2.2.2.2.2.1,s.1.2.2.2.2.2.2.2.2.1,s.1.2.2.2.2.2.2.2.2.2.1,s.1.2.2.2.2.2.2.2.2.2.2.1,s.1.2.2.2.2.2.2.2.2.2.2.2.1,s.1.2.2.2.2.2.2.2.2.2.2.2.2.1,p.2.2.2.2.2.2.2.2.2.2.2.2.2.1,s.1.2.2.2.2.2.2.2.2.2.2.2.2.2.2.1,s.1.2.2.2.2.2.2.2.2.2.2.2.2.2.2.2++p.2.2.2.2.2.2.2.2.2.2.2.2.2.2.2),s.2.1,ak (s.2.2+1)) else s
theorem Si {s:jM}(h:KK s p=true):s.1.2.2.2.2.2.2.2.2.2.2.2.2.2.2.2.length+p.2.2.2.2.2.2.2.2.2.2.2.2.2.2.2.length<=320:=by grind[KK,RK]
theorem aeC (s:jM)(p:aR):Hy s p=some (Rj s p):=by unfold Hy Rj;rw[Z3,ab];cases h:KK s p;rfl;have:=Si h;grind[aQ]
theorem adK (s:jM)(p:aR):Hk s p=some (Rj s p):=by unfold Hk Rj;rw[ZE,ab];cases h:KK s p;rfl;have:=Si h;grind[aQ]
def singleR (p:aR):jM:=(p,(p.2.2.2.2.2.2.2.2.2.2.2.2.2.2.2.length:Int),1)
theorem XQ (p:aR):Gs p=some (singleR p):=rfl
theorem YK (p:aR):GP p=some (singleR p):=rfl
def QW (q:bl)(s:jM):bl:=(q.1,q.2.1,q.2.2.1,s,true,q.2.2.2.2.2)
def lD (l:au aA)(m:bw)(d:Int)(q:bl)(k:Bytes)(p:aR)(c:Bool):bw×bl:=
 bif !OZ q||(!jx p||((k.length:Int) !=16)) then(m,q) else
 bif c&&(q.2.2.2.2.1&&KK q.2.2.2.1 p) then(m,q.1,q.2.1,q.2.2.1,Rj q.2.2.2.1 p,q.2.2.2.2) else
 bif c then((jF l m d q k).1,QW (jF l m d q k).2 (singleR p)) else jF l (jF l m d q k).1 d (QW (jF l m d q k).2 (singleR p)) k
theorem XH (l:au aA)(m:bw)(d:Int)(q:bl)(k:Bytes)(p:aR)(c:Bool)(hl:l.length<=10^9)(hm:m.length<=10^9):ou l m d q k p c=some (lD l m d q k p c):=by
 unfold ou lD QW;simp only[SY,Ee,ab,fF m (show m.length<=1073741824 by omega),ZE,adK,KV l m d q k hl hm,XQ,KV l (jF l m d q k).1 d _ k hl (show(jF l m d q k).1.length<=10^9 by rw[NX];exact hm)];cases OZ q;rfl;cases jx p;rfl;cases (k.length:Int) !=16;case true=>rfl
 cases c;rfl;cases q.2.2.2.2.1;rfl;cases KK q.2.2.2.1 p<;>rfl
theorem YB (l:au aA)(m:bw)(d:Int)(q:bl)(k:Bytes)(p:aR)(c:Bool)(hl:l.length<=10^9)(hm:m.length<=10^9):oI l m d q k p c=some (lD l m d q k p c):=by
 unfold oI lD QW;simp only[Tz,ET,ab,gJ m (show m.length<=1073741824 by omega),Z3,aeC,Ls l m d q k hl hm,YK,Ls l (jF l m d q k).1 d _ k hl (show(jF l m d q k).1.length<=10^9 by rw[NX];exact hm)];cases OZ q;rfl;cases jx p;rfl;cases (k.length:Int) !=16;case true=>rfl
 cases c;rfl;cases q.2.2.2.2.1;rfl;cases KK q.2.2.2.1 p<;>rfl
theorem aaK {n:Nat}{q:bl}{s:jM}(h:s.1.2.2.2.2.2.2.2.2.2.2.2.2.2.2.2.length<=n):bm n fA (QW q s):=⟨⟨df,df,df,df⟩,⟨df,df,df⟩,⟨df,df,df⟩,⟨⟨df,df,df,df,df,df,df,df,df,df,df,df,df,df,df,h⟩,df,df⟩,df,df⟩
theorem Il {n:Nat}(hn:1000<=n){q:bl}{k:Bytes}{c:Bool}(z:bm n (.sl .str) m)(zq:bm n fA q)(hq:gL q.2.1=true): bm n (.sl .str) (lD l m d q k p c).1/\(lD l m d q k p c).1.length=m.length/\bm n fA (lD l m d q k p c).2/\gL (lD l m d q k p c).2.2.1=true:=by
 unfold lD;cases hc: !OZ q||(!jx p||((k.length:Int) !=16));case true=>grind
 simp only[dh,eo]at hc;have hp:=IP hc.2.1;cases hj:c&&(q.2.2.2.2.1&&KK q.2.2.2.1 p)with|true=>simp only[ah]at hj;have:=Si hj.2.2;refine⟨z,rfl,⟨⟨df,df,df,df⟩,⟨df,df,df⟩,⟨df,df,df⟩,⟨?_,df,df⟩,df,df⟩,hq⟩;refine⟨df,df,df,df,df,df,df,df,df,df,df,df,df,df,df,?_⟩;unfold Rj;rw[hj.2.2];show List.length (q.2.2.2.1.1.2.2.2.2.2.2.2.2.2.2.2.2.2.2.2++p.2.2.2.2.2.2.2.2.2.2.2.2.2.2.2)<=n;rw[ar];omega|false=>grind[Hd,QW,jF,singleR,aaK]
theorem VO {r:gA}(h:DN r=true):0<=r.2.2.2.2.2.2.2.2:=by
 by_cases h0:0<=r.2.2.2.2.2.2.2.2;exact h0;exfalso;have e:∀b:Int,dw r.2.2.2.2.2.2.2.2 0 b=false:=λb=>by rw[Bool.eq_false_iff];intro hc;have:=bM.1 hc;omega
 have e1:(r.2.2.2.2.2.2.2.2==0)=false:=by rw[cy];omega
 revert h;unfold DN;have z:∀c:Bool,(bif c then false else false)=false:=by intro c;cases c<;>rfl
 simp only[mf,cz,ab,cm,e,e1,eY,z,ae];intro h;cases h
theorem RY {s:eG}{q:Int}:sQ s q p= -1\/∃n:Nat,sQ s q p=(n:Int)/\(n:Int)<q:=by
 unfold sQ;cases hb: !gX s q|| !dV p;case true=>exact .inl rfl
 simp only[dh,eo]at hb;have hs:=hb.1;simp only[gX,ah]at hs;simp only[ae];cases hd:decide (F6 s.1 p>=0)with
 |true=>obtain⟨n,hn,hl⟩:=NQ s.1 p (gT hd);simp only[af,hn,az,eO hl];cases s.1[n].2.2.2.2.2.2.2.1==1 with|true=>exact .inl rfl|false=>have h1:=aW.1 hs.1.2 _ (bc hl);have h2:=hs.1.1.1.1;simp only[BQ,ah]at h2;have h3:=VO (aW.1 h2.1 _ (bc hl));simp only[aO,cM]at h1;exact .inr ⟨s.1[n].2.2.2.2.2.2.2.2.toNat,by grind,by omega⟩
 |false=>
  simp only[ae];cases WK:decide (findF s.2.1 (mi p)>=0)with
  |true=>obtain⟨n,hn,hl⟩:=NP s.2.1 (mi p) (gT WK);simp only[af,hn,az,eO hl];have h1:=aW.1 hs.2 _ (bc hl);have h2:=hs.1.1.1.2;simp only[xb,ah,bC]at h2;have h3:=aW.1 h2.2 n (dm.2 (by omega));unfold nC RL at h3;rw[xC hl]at h3;simp only[ah,bM]at h3;simp only[aO,cM]at h1;exact .inr ⟨s.2.1[n].2.2.toNat,by omega,by omega⟩
  |false=>
   simp only[ae];unfold HA;cases hc: !AL s.2.2 q||decide (CZ s.2.2 (mi p)<0);case true=>exact .inl rfl
   simp only[dh,eo,cM]at hc;obtain⟨n,hn,hl⟩:=KM s.2.2 (mi p) hc.2;have h1:=hc.1;simp only[AL,ah]at h1;have h2:=bM.1 (aW.1 h1.2 _ (bc hl));simp only[ae,hn,az,eO hl];exact .inr ⟨s.2.2.2[n].toNat,by omega,by omega⟩
def F0 (h:Host)(a b c d:Int):Host:=(h.1,h.2.1,h.2.2.1,h.2.2.2.1,h.2.2.2.2.1,h.2.2.2.2.2.1,h.2.2.2.2.2.2.1,h.2.2.2.2.2.2.2.1,h.2.2.2.2.2.2.2.2.1,h.2.2.2.2.2.2.2.2.2.1,h.2.2.2.2.2.2.2.2.2.2.1,h.2.2.2.2.2.2.2.2.2.2.2.1,h.2.2.2.2.2.2.2.2.2.2.2.2.1,h.2.2.2.2.2.2.2.2.2.2.2.2.2.1,ak (h.2.2.2.2.2.2.2.2.2.2.2.2.2.2.1+1),a,b,c,d)
def tF (h:Host)(x:Bytes):Host:=
 bif !dN h then h else
 bif (qZ x).2 !=0 then F0 h (ak (h.2.2.2.2.2.2.2.2.2.2.2.2.2.2.2.1+1)) h.2.2.2.2.2.2.2.2.2.2.2.2.2.2.2.2.1 h.2.2.2.2.2.2.2.2.2.2.2.2.2.2.2.2.2.1 h.2.2.2.2.2.2.2.2.2.2.2.2.2.2.2.2.2.2 else
 bif !qw h.2.2.2.2.2.2.2.1 (qZ x).1 then F0 h h.2.2.2.2.2.2.2.2.2.2.2.2.2.2.2.1 (ak (h.2.2.2.2.2.2.2.2.2.2.2.2.2.2.2.2.1+1)) h.2.2.2.2.2.2.2.2.2.2.2.2.2.2.2.2.2.1 h.2.2.2.2.2.2.2.2.2.2.2.2.2.2.2.2.2.2 else
 bif sQ h.2.2.2.2.2.2.2.2.1 (h.2.2.2.1.length:Int) (qZ x).1== -1 then F0 h h.2.2.2.2.2.2.2.2.2.2.2.2.2.2.2.1 h.2.2.2.2.2.2.2.2.2.2.2.2.2.2.2.2.1 (ak (h.2.2.2.2.2.2.2.2.2.2.2.2.2.2.2.2.2.1+1)) h.2.2.2.2.2.2.2.2.2.2.2.2.2.2.2.2.2.2 else
 match h.2.2.2.1[(sQ h.2.2.2.2.2.2.2.2.1 (h.2.2.2.1.length:Int) (qZ x).1).toNat]? with
 |some q=>Lw (F0 h h.2.2.2.2.2.2.2.2.2.2.2.2.2.2.2.1 h.2.2.2.2.2.2.2.2.2.2.2.2.2.2.2.2.1 h.2.2.2.2.2.2.2.2.2.2.2.2.2.2.2.2.2.1 (ak (h.2.2.2.2.2.2.2.2.2.2.2.2.2.2.2.2.2.2+1))) (sQ h.2.2.2.2.2.2.2.2.1 (h.2.2.2.1.length:Int) (qZ x).1).toNat q.2.1.2.2 (lD h.2.1 h.1 0 q h.2.2.2.2.2.2.2.2.1.2.2.1 (qZ x).1 h.2.2.2.2.2.2.2.2.2.2.1)
 |none=>h
theorem SX (h:Host)(x:Bytes)(k:vt 900000000 h)(hx:x.length<=10^9):rF h x=some (tF h x):=by
 have z:=k.z;have z1:h.1.length<=900000000:=z.1.1;have z2:h.2.1.length<=900000000:=z.2.1.1;have zf:h.2.2.2.2.2.2.2.1.2.2.length<=900000000:=z.2.2.2.2.2.2.2.1.2.2.1;have s1:h.2.2.2.2.2.2.2.2.1.1.length<=900000000:=z.2.2.2.2.2.2.2.2.1.1.1;have s2:h.2.2.2.2.2.2.2.2.1.2.1.length<=900000000:=z.2.2.2.2.2.2.2.2.1.2.1.1;have s3:h.2.2.2.2.2.2.2.2.1.2.2.2.length<=900000000:=z.2.2.2.2.2.2.2.2.1.2.2.2.1;unfold rF tF;rw[ic h (z.mono),ab,oN h (k.sz),ab];cases hb:dN h;rfl;have hl:=mT (by grind[dN]:wx h=true);have hr:=Bn hb;simp only[ai,ae,Q9 x hx,ab,LX h.2.2.2.2.2.2.2.1 _ (show h.2.2.2.2.2.2.2.1.2.2.length<=10^9 by omega),Re h.2.2.2.2.2.2.2.2.1 _ _ (show h.2.2.2.2.2.2.2.2.1.1.length<=10^9 by omega) (show h.2.2.2.2.2.2.2.2.1.2.1.length<=10^9 by omega) (show h.2.2.2.2.2.2.2.2.1.2.2.2.length<=10^9 by omega)];generalize qZ x=f;cases f.2 !=0;case true=>rfl
 cases qw h.2.2.2.2.2.2.2.1 f.1;rfl;simp only[ai,ae];have lf:=RY (s:=h.2.2.2.2.2.2.2.2.1) (q:=(h.2.2.2.1.length:Int)) (p:=f.1);generalize sQ h.2.2.2.2.2.2.2.2.1 (h.2.2.2.1.length:Int) f.1=r at lf⊢;rcases lf with rfl|⟨n,rfl,hn⟩;rfl;have i1:n<h.2.2.2.1.length:=by omega
 have i2:n<h.2.2.2.2.2.1.length:=by omega
 have hq:=(zh (hr n i1)).1;have hqi:=lU hq;have ha:=Il (show 1000<=900000000 by omega) (l:=h.2.1) (d:=0) (k:=h.2.2.2.2.2.2.2.2.1.2.2.1) (p:=f.1) (c:=h.2.2.2.2.2.2.2.2.2.2.1) z.1 (z.2.2.2.1.2 _ (bc i1)) hq;have ev:=Mv (h:=F0 h h.2.2.2.2.2.2.2.2.2.2.2.2.2.2.2.1 h.2.2.2.2.2.2.2.2.2.2.2.2.2.2.2.2.1 h.2.2.2.2.2.2.2.2.2.2.2.2.2.2.2.2.2.1 (ak (h.2.2.2.2.2.2.2.2.2.2.2.2.2.2.2.2.2.2+1))) (k:=n) (b:=h.2.2.2.1[n].2.1.2.2) (f:=lD h.2.1 h.1 0 h.2.2.2.1[n] h.2.2.2.2.2.2.2.2.1.2.2.1 f.1 h.2.2.2.2.2.2.2.2.2.2.1) i1 i2 ha.2.2.2;rw[show((n:Int)== -1)=false from by rw[cy];omega,az,al i1];simp only[ae,aU i1,ab,XH h.2.1 h.1 0 _ _ _ _ (show h.2.1.length<=10^9 by omega) (show h.1.length<=10^9 by omega)];rw[show(kI ((lD h.2.1 h.1 0 h.2.2.2.1[n] h.2.2.2.2.2.2.2.2.1.2.2.1 f.1 h.2.2.2.2.2.2.2.2.2.2.1).1,h.2.1,h.2.2.1,h.2.2.2.1.set n (lD h.2.1 h.1 0 h.2.2.2.1[n] h.2.2.2.2.2.2.2.2.1.2.2.1 f.1 h.2.2.2.2.2.2.2.2.2.2.1).2,h.2.2.2.2.1,h.2.2.2.2.2.1,h.2.2.2.2.2.2.1,h.2.2.2.2.2.2.2.1,h.2.2.2.2.2.2.2.2.1,h.2.2.2.2.2.2.2.2.2.1,h.2.2.2.2.2.2.2.2.2.2.1,h.2.2.2.2.2.2.2.2.2.2.2.1,h.2.2.2.2.2.2.2.2.2.2.2.2.1,h.2.2.2.2.2.2.2.2.2.2.2.2.2.1,ak (h.2.2.2.2.2.2.2.2.2.2.2.2.2.2.1+1),h.2.2.2.2.2.2.2.2.2.2.2.2.2.2.2.1,h.2.2.2.2.2.2.2.2.2.2.2.2.2.2.2.2.1,h.2.2.2.2.2.2.2.2.2.2.2.2.2.2.2.2.2.1,ak (h.2.2.2.2.2.2.2.2.2.2.2.2.2.2.2.2.2.2+1)) (n:Int) h.2.2.2.1[n].2.1.2.2)=_ from ev,ab]
theorem Tx (h:Host)(x:Bytes)(k:vt 900000000 h)(hx:x.length<=10^9):sk h x=some (tF h x):=by
 have z:=k.z;have z1:h.1.length<=900000000:=z.1.1;have z2:h.2.1.length<=900000000:=z.2.1.1;have zf:h.2.2.2.2.2.2.2.1.2.2.length<=900000000:=z.2.2.2.2.2.2.2.1.2.2.1;have s1:h.2.2.2.2.2.2.2.2.1.1.length<=900000000:=z.2.2.2.2.2.2.2.2.1.1.1;have s2:h.2.2.2.2.2.2.2.2.1.2.1.length<=900000000:=z.2.2.2.2.2.2.2.2.1.2.1.1;have s3:h.2.2.2.2.2.2.2.2.1.2.2.2.length<=900000000:=z.2.2.2.2.2.2.2.2.1.2.2.2.1;unfold sk tF;rw[il h (z.mono),ab,lX h (k.sz),ab];cases hb:dN h;rfl;have hl:=mT (by grind[dN]:wx h=true);have hr:=Bn hb;simp only[ai,ae,RQ x hx,ab,Mh h.2.2.2.2.2.2.2.1 _ (show h.2.2.2.2.2.2.2.1.2.2.length<=10^9 by omega),RT h.2.2.2.2.2.2.2.2.1 _ _ (show h.2.2.2.2.2.2.2.2.1.1.length<=10^9 by omega) (show h.2.2.2.2.2.2.2.2.1.2.1.length<=10^9 by omega) (show h.2.2.2.2.2.2.2.2.1.2.2.2.length<=10^9 by omega)];generalize qZ x=f;cases f.2 !=0;case true=>rfl
 cases qw h.2.2.2.2.2.2.2.1 f.1;rfl;simp only[ai,ae];have lf:=RY (s:=h.2.2.2.2.2.2.2.2.1) (q:=(h.2.2.2.1.length:Int)) (p:=f.1);generalize sQ h.2.2.2.2.2.2.2.2.1 (h.2.2.2.1.length:Int) f.1=r at lf⊢;rcases lf with rfl|⟨n,rfl,hn⟩;rfl;have i1:n<h.2.2.2.1.length:=by omega
 have i2:n<h.2.2.2.2.2.1.length:=by omega
 have hq:=(zh (hr n i1)).1;have hqi:=lU hq;have ha:=Il (show 1000<=900000000 by omega) (l:=h.2.1) (d:=0) (k:=h.2.2.2.2.2.2.2.2.1.2.2.1) (p:=f.1) (c:=h.2.2.2.2.2.2.2.2.2.2.1) z.1 (z.2.2.2.1.2 _ (bc i1)) hq;have ev:=Mx (h:=F0 h h.2.2.2.2.2.2.2.2.2.2.2.2.2.2.2.1 h.2.2.2.2.2.2.2.2.2.2.2.2.2.2.2.2.1 h.2.2.2.2.2.2.2.2.2.2.2.2.2.2.2.2.2.1 (ak (h.2.2.2.2.2.2.2.2.2.2.2.2.2.2.2.2.2.2+1))) (k:=n) (b:=h.2.2.2.1[n].2.1.2.2) (f:=lD h.2.1 h.1 0 h.2.2.2.1[n] h.2.2.2.2.2.2.2.2.1.2.2.1 f.1 h.2.2.2.2.2.2.2.2.2.2.1) i1 i2 ha.2.2.2;rw[show((n:Int)== -1)=false from by rw[cy];omega,aq (show¬(n:Int)<0 by omega),az,al i1];simp only[ae,aU i1,ab,YB h.2.1 h.1 0 _ _ _ _ (show h.2.1.length<=10^9 by omega) (show h.1.length<=10^9 by omega)];rw[show(kR ((lD h.2.1 h.1 0 h.2.2.2.1[n] h.2.2.2.2.2.2.2.2.1.2.2.1 f.1 h.2.2.2.2.2.2.2.2.2.2.1).1,h.2.1,h.2.2.1,h.2.2.2.1.set n (lD h.2.1 h.1 0 h.2.2.2.1[n] h.2.2.2.2.2.2.2.2.1.2.2.1 f.1 h.2.2.2.2.2.2.2.2.2.2.1).2,h.2.2.2.2.1,h.2.2.2.2.2.1,h.2.2.2.2.2.2.1,h.2.2.2.2.2.2.2.1,h.2.2.2.2.2.2.2.2.1,h.2.2.2.2.2.2.2.2.2.1,h.2.2.2.2.2.2.2.2.2.2.1,h.2.2.2.2.2.2.2.2.2.2.2.1,h.2.2.2.2.2.2.2.2.2.2.2.2.1,h.2.2.2.2.2.2.2.2.2.2.2.2.2.1,ak (h.2.2.2.2.2.2.2.2.2.2.2.2.2.2.1+1),h.2.2.2.2.2.2.2.2.2.2.2.2.2.2.2.1,h.2.2.2.2.2.2.2.2.2.2.2.2.2.2.2.2.1,h.2.2.2.2.2.2.2.2.2.2.2.2.2.2.2.2.2.1,ak (h.2.2.2.2.2.2.2.2.2.2.2.2.2.2.2.2.2.2+1)) (n:Int) h.2.2.2.1[n].2.1.2.2)=_ from ev,ab]
theorem Ma {n:Nat}(hn:1000<=n)(x:Bytes)(k:vt n h):vt n (tF h x)/\(tF h x).2.2.1=h.2.2.1/\(tF h x).2.2.2.2.1.length=h.2.2.2.2.1.length:=by
 have z:=k.z;have zc:∀a b c d,vt n (F0 h a b c d):=λa b c d=>⟨⟨z.1,z.2.1,z.2.2.1,z.2.2.2.1,z.2.2.2.2.1,z.2.2.2.2.2.1,z.2.2.2.2.2.2.1,z.2.2.2.2.2.2.2.1,z.2.2.2.2.2.2.2.2.1,z.2.2.2.2.2.2.2.2.2.1,z.2.2.2.2.2.2.2.2.2.2.1,z.2.2.2.2.2.2.2.2.2.2.2.1,z.2.2.2.2.2.2.2.2.2.2.2.2.1,z.2.2.2.2.2.2.2.2.2.2.2.2.2.1,df,df,df,df,df⟩,k.t⟩
 unfold tF;cases hb:dN h;exact⟨k,rfl,rfl⟩;have hr:=Bn hb;generalize qZ x=f;cases f.2 !=0;case true=>exact⟨zc ..,rfl,rfl⟩
 cases qw h.2.2.2.2.2.2.2.1 f.1;exact⟨zc ..,rfl,rfl⟩;simp only[ai,ae];generalize sQ h.2.2.2.2.2.2.2.2.1 (h.2.2.2.1.length:Int) f.1=r;cases r== -1;case true=>exact⟨zc ..,rfl,rfl⟩
 simp only[ae];rcases hq:h.2.2.2.1[r.toNat]? with _|q;exact⟨k,rfl,rfl⟩;obtain⟨hi,hqe⟩:=aD.1 hq;have hqd:=(zh (hr _ hi)).1;rw[hqe]at hqd;have ha:=Il hn (l:=h.2.1) (d:=0) (k:=h.2.2.2.2.2.2.2.2.1.2.2.1) (p:=f.1) (c:=h.2.2.2.2.2.2.2.2.2.2.1) z.1 (z.2.2.2.1.2 _ (cL hq)) hqd;have zc':=zc h.2.2.2.2.2.2.2.2.2.2.2.2.2.2.2.1 h.2.2.2.2.2.2.2.2.2.2.2.2.2.2.2.2.1 h.2.2.2.2.2.2.2.2.2.2.2.2.2.2.2.2.2.1 (ak (h.2.2.2.2.2.2.2.2.2.2.2.2.2.2.2.2.2.2+1));have kk:=Mw (h:=F0 h h.2.2.2.2.2.2.2.2.2.2.2.2.2.2.2.1 h.2.2.2.2.2.2.2.2.2.2.2.2.2.2.2.2.1 h.2.2.2.2.2.2.2.2.2.2.2.2.2.2.2.2.2.1 (ak (h.2.2.2.2.2.2.2.2.2.2.2.2.2.2.2.2.2.2+1))) (k:=r.toNat) (b:=q.2.1.2.2) (f:=lD h.2.1 h.1 0 q h.2.2.2.2.2.2.2.2.1.2.2.1 f.1 h.2.2.2.2.2.2.2.2.2.2.1) ha.2.1;exact⟨⟨PI zc'.z ha.1 ha.2.2.1,by rw[kk.tx];exact k.t⟩,kk.tx,kk.pl⟩
end
end Go.Pu
