import Derived.Test.YtbebkmajekhclaaGreatPuX3
namespace Go.Pu
open Go.Dn
open Int (tmod)
set_option linter.unusedSimpArgs false
set_option linter.unusedVariables false
noncomputable section
variable {s:Bytes} {c:cW} {h:Host} {n:Int} {a b hd k r x:Nat} {p:dD} {q:bL} {t:eR} {α:Type} {v:Vector} {ps:aw iv} {L:aw bO} {F P:fM} {m m':bO}
/- The memory of a host as one row of bytes, by the addresses of its device. -/
def mB (m:bO)(i:Nat):UInt8:=(m.getD (37-i/128) []).getD (i%128) 0
theorem an1:gG (bZ 38)=true:=by decide+kernel
structure gI (m:List Bytes):Prop where
 pg:∀x∈m,x.length=128
 ln:m.length=38
theorem gI.ok (h:gI m):dq m=true:=nt.2 ⟨h.pg,by have:=h.ln;omega⟩
theorem gI.of (h:dq m=true)(hl:m.length=38):gI m:=⟨(nt.1 h).1,hl⟩
theorem aid:∀p:Fin 38,∀w:Bool,tB (bZ 38) 0 ((p.val:Nat):Int) w=if w=true/\2<=p.val/\p.val<=9 then-1 else 37-(p.val:Int):=by decide+kernel
theorem an7 {p:Nat}(hp:p<38){w:Bool}(hw:w=true->p<2\/9<p):tB (bZ 38) 0 (p:Int) w=((37-p:Nat):Int):=by have:=aid ⟨p,hp⟩ w;simp only at this;rw[this,aG (by rintro⟨h1,h2,h3⟩;have:=hw h1;omega)];omega
def yo (m:bO)(a n:Nat):Bytes:=(List.range n).map λj=>mB m (a+j)
theorem Lv (m:bO)(a n:Nat):(yo m a n).length=n:=by simp[yo]
theorem alZ (m:bO)(a n j:Nat)(h:j<n):(yo m a n).getD j 0=mB m (a+j):=by rw[cB (by rw[Lv];exact h)];simp[yo]
theorem alY (m:bO)(a c r:Nat):yo m a (c+r)=yo m a c++yo m (a+c) r:=by unfold yo;rw[List.range_add,cZ,List.map_map];congr 1;refine List.map_congr_left λj _=>?_;show mB m (a+(c+j))=mB m (a+c+j);rw[gv]
theorem ad2 (hm:gI m){c:Nat}(h1:a+c<=4864)(h2:a%128+c<=128)(h0:0<c):pJ m (((37-a/128:Nat):Int)*128+((a%128:Nat):Int),(c:Int))=yo m a c:=by
 have hl:=hm.ln;have hp:37-a/128<m.length:=by omega
 unfold pJ;rw[FR hm.ok (by omega) h0,jP,ah];show DN m ((((37-a/128:Nat):Int)*128+((a%128:Nat):Int)).toNat) ((c:Int)).toNat=_;rw[au,<-RO hm.ok hp h2 (by omega)];have hx:=hm.pg _ (aK hp);refine List.ext_getElem (by rw[Lv,aV,aM];omega) λj g1 g2=>?_;rw[Lv]at g2;simp only[List.getElem_take,List.getElem_drop,yo,List.getElem_map,List.getElem_range,mB];have e1:(a+j)/128=a/128:=by omega
 have e2:(a+j)%128=a%128+j:=by omega
 rw[e1,e2,cB hp,cB (by omega)]
theorem alG {x t:Bytes}{o:Nat}(h:o+t.length<=x.length)(j:Nat):(yj x o t).getD j 0=if o<=j/\j<o+t.length then t.getD (j-o) 0 else x.getD j 0:=by
 unfold yj;rw[aW,aW,aW];have hl:(x.take o).length=o:=by rw[aV];omega
 rcases cg j o with g|g;rw[bp (by omega),dL g,lI];rw[bw (by omega),hl];rcases cg (j-o) t.length with g2|g2;rw[bp g2,zip];rw[bw g2,bR,lI];congr 2;omega
theorem aaz (hm:gI m){t:Bytes}(h1:a+t.length<=4864)(h2:a%128+t.length<=128)(h0:0<t.length):gI (lY m (((37-a/128:Nat):Int)*128+((a%128:Nat):Int)) t).1/\∀i,i<4864->mB (lY m (((37-a/128:Nat):Int)*128+((a%128:Nat):Int)) t).1 i=if a<=i/\i<a+t.length then t.getD (i-a) 0 else mB m i:=by
 have hl:=hm.ln;have hp:37-a/128<m.length:=by omega
 have hx:=hm.pg _ (aK hp);have e:(lY m (((37-a/128:Nat):Int)*128+((a%128:Nat):Int)) t).1=m.set (37-a/128) (yj m[37-a/128] (a%128) t):=by
  unfold lY;rw[FR hm.ok (by omega) h0,jP,ah];have e1:(((37-a/128:Nat):Int)*128+((a%128:Nat):Int)).toNat=(37-a/128)*128+a%128:=by omega
  show uV t.length m (((37-a/128:Nat):Int)*128+((a%128:Nat):Int)).toNat t=_;rw[e1];obtain⟨n,hn⟩:∃n,t.length=n+1:=⟨t.length-1,by omega⟩
  rw[hn,uV,lI];have e2:((37-a/128)*128+a%128)/128=37-a/128:=by omega
  have e3:((37-a/128)*128+a%128)%128=a%128:=by omega
  rw[e2,e3,cB hp,ca (by omega),cI (by omega)];cases n with|zero=>rfl|succ n=>rw[uV];rfl
 rw[e];have hov:(yj m[37-a/128] (a%128) t).length=128:=by rw[MS (by omega),hx]
 refine⟨⟨λx Dd=>?_,by rw[az];exact hl⟩,λi hi=>?_⟩;rcases cK Dd with g|g;exact hm.pg x g;rw[g];exact hov;unfold mB;by_cases hq:i/128=a/128;have e5:(m.set (37-a/128) (yj m[37-a/128] (a%128) t)).getD (37-a/128) []=yj m[37-a/128] (a%128) t:=by rw[aW,bf hp];rfl
 rw[hq,e5,alG (by omega)];have hg:m.getD (37-a/128) []=m[37-a/128]:=cB hp _;rw[hg];by_cases hc:a<=i/\i<a+t.length;rw[aH hc,zip];congr 1;omega;rw[aG hc,lI];rw[lI];congr 1;rw[aW,aW,aE (by omega)]
theorem RE (hl:m.length=38){w:Bool}:∀(n a r:Nat),r<=n->a+r<=4864->(w=true->a+r<=256\/1280<=a)->∃q,lT (bZ 38) m 0 w n a r=some q/\
 (∀m',gI m'->q.flatMap (pJ m')=yo m' a r)/\
 ∀m' s,gI m'->s.length=r->gI (Gi q m' s)/\∀i,i<4864->mB (Gi q m' s) i=if a<=i/\i<a+r then s.getD (i-a) 0 else mB m' i
 |0,a,r,hr,_,_=>by
  have:r=0:=by omega
  subst this;exact⟨[],rfl,λm' _=>rfl,λm' s hm _=>⟨hm,λi _=>by rw[lI];rfl⟩⟩
 |n+1,a,r,hr,ha,hw=>by
  rw[lT];by_cases h0:r=0;rw[aH h0];subst h0;exact⟨[],rfl,λm' _=>rfl,λm' s hm _=>⟨hm,λi _=>by rw[lI];rfl⟩⟩;rw[aG h0];have hp:a/128<38:=by omega
  rw[an7 hp (λe=>by have:=hw e;omega),zip];generalize hc:min (128-a%128) r=c;have hc0:0<c:=by omega
  have hc1:a%128+c<=128:=by omega
  have hc2:c<=r:=by omega
  obtain⟨q,e,rd,wr⟩:=RE (w:=w) hl n (a+c) (r-c) (by omega) (by omega) (λe=>by have:=hw e;omega);refine⟨_,by rw[e];rfl,λm' hm=>?_,λm' s hm hs=>?_⟩;rw[List.flatMap_cons,rd m' hm,ad2 hm (by omega) hc1 hc0,<-alY,show c+(r-c)=r by omega];have ht:(s.take c).length=c:=by rw[aV];omega
  have p1:=aaz hm (a:=a) (t:=s.take c) (by omega) (by omega) (by omega);rw[Gi];simp only[au];have p2:=wr _ (s.drop c) p1.1 (by rw[aM];omega);refine⟨p2.1,λi hi=>?_⟩;rw[p2.2 i hi];by_cases g1:a+c<=i/\i<a+c+(r-c)
  rw[aH g1,zip,aW,aW,bR];congr 2;omega;rw[aG g1,p1.2 i hi,ht];by_cases g2:a<=i/\i<a+c;rw[aH g2,zip,aW,aW,dL (by omega)];rw[aG g2,lI]
theorem U6 (hm:gI m){w:Bool}(hr:r<=4096)(ha:a+r<=4864)(hw:w=true->a+r<=256\/1280<=a):∃q,lb (bZ 38) m 0 (a:Int) (r:Int) w=(q,true)/\ (∀m',gI m'->q.flatMap (pJ m')=yo m' a r)/\ ∀m' s,gI m'->s.length=r->gI (Gi q m' s)/\∀i,i<4864->mB (Gi q m' s) i=if a<=i/\i<a+r then s.getD (i-a) 0 else mB m' i:=by unfold lb;rw[an1,hm.ok,aU.2 ⟨by omega,by omega⟩];simp only[cq,ah];by_cases h0:r=0;subst h0;exact⟨[],rfl,λm' _=>rfl,λm' s hm _=>⟨hm,λi _=>by rw[lI];rfl⟩⟩;rw[show((r:Int)==0)=false from by rw[bM];omega,af,cL,af,au,au];obtain⟨q,e,rd,wr⟩:=RE (w:=w) hm.ln r a r (bc r) ha hw;rw[e];exact⟨q,rfl,rd,wr⟩
theorem P8 (hm:gI m)(hr:r<=4096:=by omega)(ha:a+r<=4864:=by omega):qS (bZ 38) m 0 (a:Int) (r:Int)=(yo m a r,true):=by obtain⟨q,e,rd,_⟩:=U6 (w:=false) hm hr ha (by simp);unfold qS;rw[e,ah,rd m hm]
theorem Hj (hm:gI m){w:Bool}(hr:s.length<=4096)(ha:a+s.length<=4864)(hw:w=true->a+s.length<=256\/1280<=a):(hH (bZ 38) m 0 (a:Int) s w).2=true/\gI (hH (bZ 38) m 0 (a:Int) s w).1/\∀i,i<4864->mB (hH (bZ 38) m 0 (a:Int) s w).1 i=if a<=i/\i<a+s.length then s.getD (i-a) 0 else mB m i:=by obtain⟨q,e,_,wr⟩:=U6 (w:=w) hm hr ha hw;unfold hH;rw[e,ah];have h:=wr m s hm rfl;exact⟨rfl,h.1,h.2⟩
theorem Fz {n:Nat}(h:∀j,j<n->mB m' (a+j)=mB m (a+j)):yo m' a n=yo m a n:=List.map_congr_left λj hj=>h j (bG.1 hj)
theorem aaS (h:∀j,j<s.length->mB m (a+j)=s.getD j 0):yo m a s.length=s:=by refine List.ext_getElem (Lv ..) λj g1 g2=>?_;have e:=alZ m a s.length j g2;rw[cB g1,h j g2,cB g2]at e;exact e
def fS (b S hd n:Nat):lZ:=((b:Int),(S:Int),((hd%(2*S):Nat):Int),(((hd+n)%(2*S):Nat):Int))
theorem vE {S n:Nat}(hS:S=4\/S=16)(hb:b<=130944:=by omega)(hn:n<=S:=by omega):dH (fS b S hd n)=true/\bS (fS b S hd n)=(n:Int):=by
 have hs:jn (S:Int)=true:=iG.2 (by omega);have hu:bS (fS b S hd n)=(n:Int):=by unfold bS fS;simp only[hs,cw];rcases hS with rfl|rfl<;>omega
 refine⟨?_,hu⟩;have e:dH (fS b S hd n)=(di (b:Int) 0 130944&&(jn (S:Int)&&(di ((hd%(2*S):Nat):Int) 0 (2*(S:Int)-1)&&(di (((hd+n)%(2*S):Nat):Int) 0 (2*(S:Int)-1)&&decide (bS (fS b S hd n)<=(S:Int)))))):=rfl;rw[e,hu,hs];clear e hu;simp only[ae,aU,aJ,true_and];rcases hS with rfl|rfl<;>omega
theorem ape {S n c:Nat}(hS:S=4\/S=16)(hb:b<=130944)(hn:n<=S):mh (fS b S hd n) ((c%(2*S):Nat):Int)=((b+16*(c%S):Nat):Int):=by unfold mh;rw[(vE hS hb hn).1,cL];show(b:Int)+tmod ((c%(2*S):Nat):Int) (S:Int)*16=_;rw[Hx];rcases hS with rfl|rfl<;>omega
structure uY (m:List Bytes) (b S hd:Nat) (E:List Bytes):Prop where
 len:E.length<=S
 get:∀j,j<E.length->yo m (b+16*((hd+j)%S)) 16=E.getD j []
theorem uY.frame {S:Nat}{E:bO}(r:uY m b S hd E)(hS:S=4\/S=16)(h:∀i,b<=i->i<b+16*S->mB m' i=mB m i):uY m' b S hd E:=⟨r.len,λj hj=>by rw[Fz λi hi=>h _ (by omega) (by rcases hS with rfl|rfl<;>omega)];exact r.get j hj⟩
theorem Ni (hm:gI m){S:Nat}{e:Bytes}{E:bO}(hS:S=4\/S=16)(hb:b+16*S<=4864)(r:uY m b S hd (e::E)):bC (bZ 38) m 0 (fS b S hd (E.length+1))=(e,fS b S (hd+1) E.length,true)/\uY m b S (hd+1) E:=by
 have hl:E.length+1<=S:=r.len;have v:=vE (hd:=hd) hS (show b<=130944 by omega) hl;have sl:=ape (b:=b) (hd:=hd) (n:=E.length+1) (c:=hd) hS (by omega) hl;have g0:yo m (b+16*(hd%S)) 16=e:=r.get 0 (by simp);have d:=P8 hm (a:=b+16*(hd%S)) (r:=16) (by omega) (by rcases hS with rfl|rfl<;>omega);refine⟨?_,⟨by omega,λj hj=>?_⟩⟩;unfold bC;rw[v.1,v.2,show(((E.length+1:Nat):Int)==0)=false from by rw[bM];omega];show(bif false then _ else bif !(qS (bZ 38) m 0 (mh (fS b S hd (E.length+1)) ((hd%(2*S):Nat):Int)) 16).2 then _ else _)=_;rw[af];show(bif !(qS (bZ 38) m 0 (mh (fS b S hd (E.length+1)) ((hd%(2*S):Nat):Int)) 16).2 then _ else((qS (bZ 38) m 0 (mh (fS b S hd (E.length+1)) ((hd%(2*S):Nat):Int)) 16).1,((b:Int),(S:Int),tmod (((hd%(2*S):Nat):Int)+1) (2*(S:Int)),(((hd+(E.length+1))%(2*S):Nat):Int)),true))=_;rw[sl,show((16:Int))=((16:Nat):Int) from rfl,d,g0];simp only[aj,af];have e1:tmod (((hd%(2*S):Nat):Int)+1) (2*(S:Int))=(((hd+1)%(2*S):Nat):Int):=by rw[show((hd%(2*S):Nat):Int)+1=((hd%(2*S)+1:Nat):Int) by omega,show(2*(S:Int))=((2*S:Nat):Int) by omega,Hx];rcases hS with rfl|rfl<;>omega
 rw[e1,show hd+(E.length+1)=hd+1+E.length by omega];rfl;have:=r.get (j+1) (by simp;omega);rw[show hd+(j+1)=hd+1+j by omega]at this;exact this
theorem ai0 {S:Nat}(hS:S=4\/S=16)(hb:b<=130944):bC (bZ 38) m 0 (fS b S hd 0)=([],fS b S hd 0,false):=by have v:=vE (hd:=hd) hS hb (cd S);unfold bC;rw[v.1,v.2];rfl
theorem aaJ (hm:gI m){S:Nat}{E:bO}(hS:S=4\/S=16)(hb:b+16*S<=256\/1280<=b/\b+16*S<=4864)(r:uY m b S hd E)(hn:E.length<S)(hs:s.length=16): (dg (bZ 38) m 0 (fS b S hd E.length) s).2=(fS b S hd (E.length+1),true)/\gI (dg (bZ 38) m 0 (fS b S hd E.length) s).1/\uY (dg (bZ 38) m 0 (fS b S hd E.length) s).1 b S hd (E++[s])/\∀i,i<4864->(i<b\/b+16*S<=i)->mB (dg (bZ 38) m 0 (fS b S hd E.length) s).1 i=mB m i:=by
 have hl:E.length<=S:=r.len;have iy:b<=130944:=by omega
 have v:=vE (hd:=hd) hS iy hl;have sl:=ape (b:=b) (hd:=hd) (n:=E.length) (c:=hd+E.length) hS iy hl;have p:=Hj hm (a:=b+16*((hd+E.length)%S)) (s:=s) (w:=true) (by omega) (by rcases hS with rfl|rfl<;>omega) (λ_=>by rcases hS with rfl|rfl<;>omega);have fr:nG (fS b S hd E.length)=((S-E.length:Nat):Int):=by unfold nG;rw[v.1,v.2,ah];show ar ((S:Int)-(E.length:Int))=_;rw[ak];omega
 have e:dg (bZ 38) m 0 (fS b S hd E.length) s=((hH (bZ 38) m 0 ((b+16*((hd+E.length)%S):Nat):Int) s true).1,fS b S hd (E.length+1),true):=by
  unfold dg;rw[fr,hs,show(((S-E.length:Nat):Int)==0)=false from by rw[bM];omega];show(bif !(hH (bZ 38) m 0 (mh (fS b S hd E.length) (((hd+E.length)%(2*S):Nat):Int)) s true).2 then _ else((hH (bZ 38) m 0 (mh (fS b S hd E.length) (((hd+E.length)%(2*S):Nat):Int)) s true).1,((b:Int),(S:Int),((hd%(2*S):Nat):Int),tmod ((((hd+E.length)%(2*S):Nat):Int)+1) (2*(S:Int))),true))=_;rw[sl,p.1];simp only[aj,af];have e1:tmod ((((hd+E.length)%(2*S):Nat):Int)+1) (2*(S:Int))=(((hd+(E.length+1))%(2*S):Nat):Int):=by rw[show(((hd+E.length)%(2*S):Nat):Int)+1=(((hd+E.length)%(2*S)+1:Nat):Int) by omega,show(2*(S:Int))=((2*S:Nat):Int) by omega,Hx];rcases hS with rfl|rfl<;>omega
  rw[e1];rfl
 rw[e];have p3:=p.2.2;rw[hs]at p3;generalize (hH (bZ 38) m 0 ((b+16*((hd+E.length)%S):Nat):Int) s true).1=m' at p p3⊢;refine⟨rfl,p.2.1,⟨by simp;omega,λj hj=>?_⟩,λi hi ho=>?_⟩;simp only[ai,aY]at hj;rcases cg j E.length with g|g;rw[aW,bp g,<-aW,<-r.get j g];refine Fz λi hi=>?_;rw[p3 _ (by rcases hS with rfl|rfl<;>omega),aG (by rcases hS with rfl|rfl<;>omega)];have hj:j=E.length:=by omega
 subst hj;have e2:(E++[s]).getD E.length []=s:=by simp
 rw[e2];have:=aaS (m:=m') (a:=b+16*((hd+E.length)%S)) (s:=s) λi hi=>by rw[p3 _ (by rcases hS with rfl|rfl<;>omega),zip,Nat.add_sub_cancel_left]
 rw[hs]at this;exact this;rw[p3 i hi,aG (by rcases hS with rfl|rfl<;>omega)]
def phN (x:Nat):Int:=if x%8<4 then 1 else 0
def AQ (b x:Nat):uW:=((b:Int),4,((x%8:Nat):Int))
theorem VX (hb:b<=130944:=by omega):gL (AQ b x)=true/\tD (AQ b x)=((b+16*(x%4):Nat):Int)/\Bd (AQ b x)=phN x/\tmod ((AQ b x).2.2+1) (2*(AQ b x).2.1)=(((x+1)%8:Nat):Int):=by refine⟨?_,?_,?_,?_⟩;unfold gL AQ;simp only[ae,aU];refine⟨by omega,by decide,?_⟩;rw[yY (by decide)];omega;show(b:Int)+tmod ((x%8:Nat):Int) ((4:Nat):Int)*16=_;rw[Hx];omega;unfold phN;show(bif decide (((x%8:Nat):Int)<4) then(1:Int) else 0)=_;by_cases h:x%8<4;rw[aH h,jP];rfl;rw[aG h,cL];rfl;show tmod (((x%8:Nat):Int)+1) (2*4)=_;rw[show((x%8:Nat):Int)+1=((x%8+1:Nat):Int) by omega,show((2:Int)*4)=((8:Nat):Int) from rfl,Hx];omega
abbrev J6:=Iv
variable {Q:Nat->aw J6->bL->Vector->Bool->Prop} {C:aw J6}
structure SN (m:List Bytes) (b x:Nat) (C:List J6):Prop where
 len:C.length<=4
 get:∀j,j<C.length->tR (yo m (b+16*((x+j)%4)) 16)=(C.getD j (0,0,0,0,0),phN (x+j),true)
 Xh:∀j,C.length<=j->j<4->(tR (yo m (b+16*((x+j)%4)) 16)).2.1≠phN (x+j)
theorem SN.frame (r:SN m b x C)(h:∀i,b<=i->i<b+64->mB m' i=mB m i):SN m' b x C:=by have e:∀j,yo m' (b+16*((x+j)%4)) 16=yo m (b+16*((x+j)%4)) 16:=λj=>Fz λi hi=>h _ (by omega) (by omega);exact⟨r.len,λj hj=>by rw[e];exact r.get j hj,λj h1 h2=>by rw[e];exact r.Xh j h1 h2⟩
theorem arh (x:Nat):phN x≠phN (x+4):=by unfold phN;by_cases h:x%8<4;rw[aH h,lI];decide;rw[aG h,zip];decide
theorem ah3 (hm:gI m){c:J6}(hb:b+64<=4864)(r:SN m b x (c::C)):nf (bZ 38) m 0 (AQ b x)=(c,AQ b (x+1),true)/\SN m b (x+1) C:=by have v:=VX (b:=b) (x:=x);have d:=P8 hm (a:=b+16*(x%4)) (r:=16);have g0:=r.get 0 (by simp);rw[dX]at g0;have hl:C.length+1<=4:=r.len;refine⟨?_,⟨by omega,λj hj=>?_,λj h1 h2=>?_⟩⟩;unfold nf Lh;rw[v.1,v.2.1,show((16:Int))=((16:Nat):Int) from rfl,d,g0,v.2.2.1];simp only[bt,fG,ah];unfold alA;rw[v.2.2.2];rfl;have:=r.get (j+1) (by simp;omega);rw[show x+(j+1)=x+1+j by omega]at this;exact this;by_cases h3:j=3;subst h3;rw[show(x+1+3)%4=x%4 by omega,g0,show x+1+3=x+4 by omega];exact arh x;have:=r.Xh (j+1) (by simp;omega) (by omega);rw[show x+(j+1)=x+1+j by omega]at this;exact this
theorem UQ (hm:gI m)(hb:b+64<=4864)(r:SN m b x []):nf (bZ 38) m 0 (AQ b x)=((0,0,0,0,0),AQ b x,false):=by have v:=VX (b:=b) (x:=x);have d:=P8 hm (a:=b+16*(x%4)) (r:=16);have g0:=r.Xh 0 (by simp) (by omega);rw[dX]at g0;unfold nf Lh;rw[v.1,v.2.1,show((16:Int))=((16:Nat):Int) from rfl,d,v.2.2.1,show((tR (yo m (b+16*(x%4)) 16)).2.1==phN x)=false from by rw[bM];exact g0];simp only[eM,af]
theorem HE (x:Int):hY x=x%256:=by simp only[ar,hY,IntKind.wrap,IntKind.bits,IntKind.signed];simp
theorem OG {n:Nat}(h:k=n%256:=by omega):(UInt8.ofNat n).toNat=k:=by rw[h];simp
theorem zA {v:Nat}(h:v<=65535:=by omega):∃a b:UInt8,cy (v:Int)=[a,b]/\a.toNat=v/256/\b.toNat=v%256:=by
 have e:cy (v:Int)=aQ [hY (Int.fdiv (v:Int) (2^(rX 8))),hY (v:Int)]:=by unfold cy dK;rw[dV,aU.2 ⟨by omega,by omega⟩];rfl
 have e8:((2:Int)^(rX 8))=256:=by decide
 rw[e8,Int.fdiv_eq_ediv_of_nonneg _ (by omega),HE,HE]at e;exact⟨_,_,e,OG,OG⟩
theorem Il {v:Nat}(h:v<=4294967295:=by omega):∃a b c d:UInt8,gz (v:Int)=[a,b,c,d]/\a.toNat=v/16777216/\b.toNat=v/65536%256/\c.toNat=v/256%256/\d.toNat=v%256:=by
 have e:gz (v:Int)=aQ [hY (Int.fdiv (v:Int) (2^(rX 24))),hY (Int.fdiv (v:Int) (2^(rX 16))),hY (Int.fdiv (v:Int) (2^(rX 8))),hY (v:Int)]:=by unfold gz gi;rw[dV,aU.2 ⟨by omega,by omega⟩];rfl
 have e8:((2:Int)^(rX 8))=256:=by decide
 have e16:((2:Int)^(rX 16))=65536:=by decide
 have e24:((2:Int)^(rX 24))=16777216:=by decide
 rw[e8,e16,e24,Int.fdiv_eq_ediv_of_nonneg _ (by omega),Int.fdiv_eq_ediv_of_nonneg _ (by omega),Int.fdiv_eq_ediv_of_nonneg _ (by omega),HE,HE,HE,HE]at e;exact⟨_,_,_,_,e,OG,OG,OG,OG⟩
theorem Cd {d:FW}(h:qg d=true):(kz d).length=16/\cV (kz d)=(d,true):=by
 have hb:=h;unfold qg at hb;simp only[ae,aU]at hb;obtain⟨o,f,l,a,s,c⟩:=d;simp only at hb;obtain⟨h1,h2,h3,h4,h5,h6⟩:=hb;obtain⟨o,rfl⟩:=aD h1.1;obtain⟨f,rfl⟩:=aD h2.1;obtain⟨l,rfl⟩:=aD h3.1;obtain⟨s,rfl⟩:=aD h4.1;obtain⟨c,rfl⟩:=aD h5.1;obtain⟨a,rfl⟩:=aD h6.1;obtain⟨l1,l2,el,el1,el2⟩:=zA (v:=l);obtain⟨s1,s2,es,es1,es2⟩:=zA (v:=s);obtain⟨c1,c2,ec,ec1,ec2⟩:=zA (v:=c);obtain⟨a1,a2,a3,a4,ea,ea1,ea2,ea3,ea4⟩:=Il (v:=a);obtain⟨z1,z2,z3,z4,ez,_⟩:=Il (v:=0);have ez:gz 0=[z1,z2,z3,z4]:=ez;have e:kz ((o:Int),(f:Int),(l:Int),(a:Int),(s:Int),(c:Int))=[UInt8.ofNat o,UInt8.ofNat f,l1,l2,a1,a2,a3,a4,s1,s2,c1,c2,z1,z2,z3,z4]:=by unfold kz;rw[h,ah];simp only[el,es,ec,ea,ez];rw[HE,HE,show(o:Int)%256=(o:Int) by omega,show(f:Int)%256=(f:Int) by omega];rfl
 have da:E4 (kz ((o:Int),(f:Int),(l:Int),(a:Int),(s:Int),(c:Int)))=((o:Int),(f:Int),(l:Int),(a:Int),(s:Int),(c:Int)):=by rw[e];show(((UInt8.ofNat o).toNat:Int),((UInt8.ofNat f).toNat:Int),((l1.toNat*256+l2.toNat:Nat):Int),(((a1.toNat*256+a2.toNat)*65536+(a3.toNat*256+a4.toNat):Nat):Int),((s1.toNat*256+s2.toNat:Nat):Int),((c1.toNat*256+c2.toNat:Nat):Int))=_;rw[OG (n:=o) (k:=o),OG (n:=f) (k:=f),el1,el2,es1,es2,ec1,ec2,ea1,ea2,ea3,ea4];simp only[Prod.mk.injEq];refine⟨cG,cG,by omega,by omega,by omega,by omega⟩
 refine⟨by rw[e];rfl,?_⟩;unfold cV;rw[da,fG];have hl:(kz ((o:Int),(f:Int),(l:Int),(a:Int),(s:Int),(c:Int))).length=16:=by rw[e];rfl
 rw[hl];rfl
theorem ajz {x:J6}(h:uQ x=true){p:Nat}(hp:p<=1):(Ko x (p:Int)).length=16/\tR (Ko x (p:Int))=(x,(p:Int),true):=by
 have hb:=h;unfold uQ at hb;simp only[ae,aU]at hb;obtain⟨c,l,s,n,k⟩:=x;simp only at hb;obtain⟨h1,h2,h3,h4,h5⟩:=hb;obtain⟨c,rfl⟩:=aD h1.1;obtain⟨l,rfl⟩:=aD h2.1;obtain⟨s,rfl⟩:=aD h3.1;obtain⟨n,rfl⟩:=aD h4.1;obtain⟨k,rfl⟩:=aD h5.1;obtain⟨c1,c2,ec,ec1,ec2⟩:=zA (v:=c);obtain⟨l1,l2,el,el1,el2⟩:=zA (v:=l);obtain⟨s1,s2,es,es1,es2⟩:=zA (v:=s);obtain⟨n1,n2,en,en1,en2⟩:=zA (v:=n);obtain⟨k1,k2,k3,k4,ek,ek1,ek2,ek3,ek4⟩:=Il (v:=k);obtain⟨p1,p2,p3,p4,ep,ep1,ep2,ep3,ep4⟩:=Il (v:=p);have e:Ko ((c:Int),(l:Int),(s:Int),(n:Int),(k:Int)) (p:Int)=[c1,c2,l1,l2,s1,s2,n1,n2,k1,k2,k3,k4,p1,p2,p3,p4]:=by unfold Ko;rw[h,aU.2 ⟨by omega,by omega⟩];simp only[cq,ah,ec,el,es,en,ek,ep];rfl
 have g:∀q:Nat,q<=1->p1.toNat=0->p2.toNat=0->p3.toNat=0->p4.toNat=q->fj [c1,c2,l1,l2,s1,s2,n1,n2,k1,k2,k3,k4,p1,p2,p3,p4] 12=(q:Int):=by intro q _ g1 g2 g3 g4;show(((p1.toNat*256+p2.toNat)*65536+(p3.toNat*256+p4.toNat):Nat):Int)=_;rw[g1,g2,g3,g4];omega
 have g12:=g p hp (by omega) (by omega) (by omega) (by omega);refine⟨by rw[e];rfl,?_⟩;unfold tR;rw[e,g12,cL];show(bif (((16:Nat):Int) !=16)||false then _ else((((c1.toNat*256+c2.toNat:Nat):Int),((l1.toNat*256+l2.toNat:Nat):Int),((s1.toNat*256+s2.toNat:Nat):Int),((n1.toNat*256+n2.toNat:Nat):Int),(((k1.toNat*256+k2.toNat)*65536+(k3.toNat*256+k4.toNat):Nat):Int)),(p:Int),true))=_;rw[ec1,ec2,el1,el2,es1,es2,en1,en2,ek1,ek2,ek3,ek4];show((_,_,_,_,_),_,_)=_;simp only[Prod.mk.injEq];refine⟨⟨by omega,by omega,by omega,by omega,by omega⟩,cG⟩
theorem arf (x:Nat):∃p:Nat,p<=1/\phN x=(p:Int):=by unfold phN;split;exact⟨1,by omega,rfl⟩;exact⟨0,by omega,rfl⟩
theorem aip (hm:gI m)(hb:1280<=b/\b+64<=4864)(r:SN m b x C)(hn:C.length<4){c:J6}(hc:uQ c=true): (uN (bZ 38) m 0 (AQ b (x+C.length)) c).2=(AQ b (x+C.length+1),true)/\gI (uN (bZ 38) m 0 (AQ b (x+C.length)) c).1/\SN (uN (bZ 38) m 0 (AQ b (x+C.length)) c).1 b x (C++[c])/\∀i,i<4864->(i<b\/b+64<=i)->mB (uN (bZ 38) m 0 (AQ b (x+C.length)) c).1 i=mB m i:=by
 have v:=VX (b:=b) (x:=x+C.length);obtain⟨p,hp,ep⟩:=arf (x+C.length);have bk:=ajz hc hp;rw[<-ep]at bk;generalize hs:Ko c (phN (x+C.length))=s at bk;have q:=Hj hm (a:=b+16*((x+C.length)%4)) (s:=s) (w:=true) (by omega) (by omega) (λ_=>by omega);have e:uN (bZ 38) m 0 (AQ b (x+C.length)) c=((hH (bZ 38) m 0 ((b+16*((x+C.length)%4):Nat):Int) s true).1,AQ b (x+C.length+1),true):=by unfold uN;rw[v.1,hc,v.2.2.1,hs,v.2.1,q.1,v.2.2.2];rfl
 rw[e];have q3:=q.2.2;rw[bk.1]at q3;generalize (hH (bZ 38) m 0 ((b+16*((x+C.length)%4):Nat):Int) s true).1=m' at q q3⊢;have row:yo m' (b+16*((x+C.length)%4)) 16=s:=by
  have:=aaS (m:=m') (a:=b+16*((x+C.length)%4)) (s:=s) λi hi=>by rw[q3 _ (by omega),zip,Nat.add_sub_cancel_left]
  rw[bk.1]at this;exact this
 have apart:∀j,j<4->j≠C.length->yo m' (b+16*((x+j)%4)) 16=yo m (b+16*((x+j)%4)) 16:=λj hj Eo=>Fz λi hi=>by rw[q3 _ (by omega),lI]
 refine⟨rfl,q.2.1,⟨by simp;omega,λj hj=>?_,λj h1 h2=>?_⟩,λi hi ho=>?_⟩;simp only[ai,aY]at hj;by_cases g:j=C.length;subst g;rw[row,bk.2];simp;rw[apart j (by omega) g,r.get j (by omega),aW,aW,bp (by omega)];simp only[ai,aY]at h1;rw[apart j h2 (by omega)];exact r.Xh j (by omega) h2;rw[q3 i hi,lI]
def kT (k:Nat):Nat:=1280+1792*k
def E3 (k c:Nat):FW:=(3,0,384,((kT k+128+384*c:Nat):Int),0,(c:Int))
theorem aeT {c:Nat}(hk:k<=1)(hc:c<4):qg (E3 k c)=true:=by unfold qg E3 kT;simp only[ae,aU];omega
abbrev Ki (C:aw J6):fM:=C.map λc=>c.1.toNat
structure J7 (m:List Bytes) (k:Nat) (q:bL) (p:dD) (hd x:Nat) (P:List Nat) (C:List J6) (F:List Nat):Prop where
 ring:q.1=fS (kT k) 4 hd P.length
 row:uY m (kT k) 4 hd (P.map λc=>kz (E3 k c))
 dev:q.2.1=AQ (kT k+64) (x+C.length)
 drv:q.2.2.1=AQ (kT k+64) x
 com:SN m (kT k+64) x C
 pool:p=(((kT k+128:Nat):Int),384,4,F.map λc:Nat=>(c:Int))
 perm:(Ki C++P++F).Perm [0,1,2,3]
 cok:∀c∈C,0<=c.1
theorem J7.len (s:J7 m k q p hd x P C F):C.length+P.length+F.length=4:=by have:=s.perm.length_eq;simp[Ki]at this;omega
theorem J7.lt (s:J7 m k q p hd x P C F){c:Nat}(h:c∈Ki C++P++F):c<4:=by have:=s.perm.mem_iff.1 h;simp at this;omega
theorem J7.frame (s:J7 m k q p hd x P C F)(h:∀i,kT k<=i->i<kT k+128->mB m' i=mB m i):J7 m' k q p hd x P C F:=⟨s.ring,s.row.frame (Or.inl rfl) λi h1 h2=>h i h1 (by omega),s.dev,s.drv,s.com.frame λi h1 h2=>h i (by omega) (by omega),s.pool,s.perm,s.cok⟩
theorem J7.held (s:J7 m k q p hd x P C F)(u:qP×Bool×Int):J7 m k (q.1,q.2.1,q.2.2.1,u) p hd x P C F:=⟨s.ring,s.row,s.dev,s.drv,s.com,s.pool,s.perm,s.cok⟩
theorem Rv {l:fM}(h:l.Perm [0,1,2,3]):l.Nodup:=h.nodup_iff.2 (by decide)
theorem afF (hb:b<=130944)(h1:∀c∈F,c<4)(h2:F.Nodup):dI ((b:Int),384,4,F.map λc:Nat=>(c:Int))=true:=by
 unfold dI;simp only[ae,aU,aF,bG];refine⟨by omega,by decide,by decide,λi hi=>?_⟩;have hi:i<F.length:=by simpa using hi
 unfold Ev;rw[cB (by simpa using hi),List.getElem_map];have hl:=h1 _ (aK hi);simp only[ae,aU,aO];refine⟨by omega,?_⟩;rw[<-Bool.not_eq_true,List.contains_iff_mem,<-List.map_take];intro hm;obtain⟨y,hy,e⟩:=dB.1 hm;have e:y=F[i]:=by omega
 obtain⟨j,hj,ej⟩:=gw hy;rw[aV]at hj;rw[List.getElem_take]at ej;exact List.pairwise_iff_getElem.1 h2 j i (by omega) hi (by omega) (ej.trans e)
theorem J7.alO (hk:k<=1)(s:J7 m k q p hd x P C F):dI p=true:=by rw[s.pool];refine afF (by unfold kT;omega) (λc hc=>s.lt (by simp[hc])) ?_;have n:=Rv s.perm;exact(aS.1 n).2.1
theorem akA {v:Bytes}(hs:s.length=16)(hv:v.length<=12):0<=wW s v/\wW s v<=4294967295:=by have h:=QE s v (8*v.length);unfold wW;rw[hs,cL];show 0<=((IG s v (8*v.length):Nat):Int)/\((IG s v (8*v.length):Nat):Int)<=4294967295;omega
theorem aiU {l:aw aI}{d:Int}{k:Bytes}{D:FW}(h:cV s=(D,true))(h3:D.1=3)(hl:¬D.2.2.1<((dE q.2.2.2.1.1).1.length:Int))(hp:(hH l m d D.2.2.2.1 (dE q.2.2.2.1.1).1 true).2=true):ik l m d q k s=uN l (hH l m d D.2.2.2.1 (dE q.2.2.2.1.1).1 true).1 d q.2.1 (D.2.2.2.2.2,((dE q.2.2.2.1.1).1.length:Int),q.2.2.2.1.2.1,q.2.2.2.1.2.2,wW k (rO (lN q.2.2.2.1.1))):=by unfold ik;rw[h];simp only[h3,aq hl,hp,bne_self_eq_false,aj,cu,af]
theorem aey (hm:gI m)(hk:k<=1){c:Nat}(s:J7 m k q p hd x (c::P) C F)(hq:Gj q=true)(hh:q.2.2.2.2.1=true)(key:Bytes)(Zi:key.length=16): ∃y:J6,y.1=(c:Int)/\(ik (bZ 38) m 0 q key (kz (E3 k c))).2=(AQ (kT k+64) (x+C.length+1),true)/\gI (ik (bZ 38) m 0 q key (kz (E3 k c))).1/\SN (ik (bZ 38) m 0 q key (kz (E3 k c))).1 (kT k+64) x (C++[y])/\∀i,i<4864->(i<kT k+64\/kT k+1792<=i)->mB (ik (bZ 38) m 0 q key (kz (E3 k c))).1 i=mB m i:=by
 have hc:c<4:=s.lt (by simp);have hl:=s.len;simp only[aP]at hl;have db:=Cd (aeT hk hc);have r:=(RU _).1 hq;have hs:=r.held hh;have hi:=yQ q.2.2.2.1.1;have hn:kT k=1280+1792*k:=rfl;have pf:=Hj hm (a:=kT k+128+384*c) (s:=(dE q.2.2.2.1.1).1) (w:=true) (by omega) (by omega) (λ_=>by omega);generalize hy:(((c:Int),((dE q.2.2.2.1.1).1.length:Int),q.2.2.2.1.2.1,q.2.2.2.1.2.2,wW key (rO (lN q.2.2.2.1.1))):J6)=y;have ok:uQ y=true:=by rw[<-hy];unfold uQ;simp only[ae,aU];have hb:=akA Zi (agY (lN q.2.2.2.1.1));omega
 have cm:=s.com.frame (m':=(hH (bZ 38) m 0 ((kT k+128+384*c:Nat):Int) (dE q.2.2.2.1.1).1 true).1) λi h1 h2=>by rw[pf.2.2 i (by omega),lI]
 have pc:=aip pf.2.1 (b:=kT k+64) (by omega) cm (by omega) ok;have eA:(E3 k c).2.2.2.1=((kT k+128+384*c:Nat):Int):=rfl;have eL:(E3 k c).2.2.1=384:=rfl;have eC:(E3 k c).2.2.2.2.2=(c:Int):=rfl;have e:ik (bZ 38) m 0 q key (kz (E3 k c))=uN (bZ 38) (hH (bZ 38) m 0 ((kT k+128+384*c:Nat):Int) (dE q.2.2.2.1.1).1 true).1 0 (AQ (kT k+64) (x+C.length)) y:=by rw[aiU db.2 rfl (by rw[eL];omega) (by rw[eA];exact pf.1),eA,eC,s.dev,hy]
 rw[e];refine⟨y,by rw[<-hy],pc.1,pc.2.1,pc.2.2.1,λi hi ho=>?_⟩;rw[pc.2.2.2 i hi (by omega),pf.2.2 i hi,lI]
structure VH (m:List Bytes) (k:Nat) (p:dD) (x:Nat) (C:List J6) (F:List Nat) (h:Bool) (f:List Bytes×bL) (n:Nat):Prop where
 mem:gI f.1
 st:∃hd P C',J7 f.1 k f.2 p hd x P C' F/\C'.length=C.length+n
 hold:f.2.2.2.2.2.1=h
 out:∀i,i<4864->(i<kT k\/kT k+1792<=i)->mB f.1 i=mB m i
theorem Jt (hm:gI m)(hk:k<=1)(s:J7 m k q p hd x P C F)(hq:Gj q=true)(key:Bytes)(Zi:key.length=16):∃n,n<=1/\VH m k p x C F false (iH (bZ 38) m 0 q key) n:=by
 have hn:kT k=1280+1792*k:=rfl;unfold iH;rw[hq,Zi];cases hh:q.2.2.2.2.1 with
 |false=>exact⟨0,by omega,hm,⟨hd,P,C,s,rfl⟩,hh,λ_ _ _=>rfl⟩
 |true=>
  simp only[aj,cJ,show(((16:Nat):Int) !=16)=false from rfl,af];cases P with
  |nil=>
   have t:=ai0 (m:=m) (b:=kT k) (S:=4) (hd:=hd) (Or.inl rfl) (by omega);have e:bC (bZ 38) m 0 q.1=([],q.1,false):=by rw[s.ring];exact t
   rw[e];exact⟨0,by omega,hm,⟨hd,[],C,s.held _,rfl⟩,rfl,λ_ _ _=>rfl⟩
  |cons c P=>
   have t:=Ni hm (b:=kT k) (S:=4) (Or.inl rfl) (by omega) (show uY m (kT k) 4 hd (kz (E3 k c)::P.map λc=>kz (E3 k c)) from s.row);have e:bC (bZ 38) m 0 q.1=(kz (E3 k c),fS (kT k) 4 (hd+1) P.length,true):=by rw[s.ring];have:=t.1;rw[bF]at this;exact this
   obtain⟨y,y1,y2,y3,y4,y5⟩:=aey hm hk s hq hh key Zi;rw[e,y2];simp only[cq,ah];refine⟨1,by omega,y3,⟨hd+1,P,C++[y],⟨rfl,?_,by simp;rfl,s.drv,y4,s.pool,?_,λz hz=>?_⟩,by simp⟩,rfl,λi hi ho=>y5 i hi (by omega)⟩;exact t.2.frame (Or.inl rfl) λi h1 h2=>y5 i (by omega) (by omega);refine List.Perm.trans ?_ s.perm;have ey:y.1.toNat=c:=by rw[y1];simp
   simp only[Ki,cZ,dm,List.map_nil,ey,aR,List.cons_append,cv];exact List.Perm.refl _;rcases aA.1 hz with g|g;exact s.cok z g;rw[br.1 g,y1];omega
theorem X9 (hm:gI m)(hk:k<=1)(s:J7 m k q p hd x P C F){N:Int}(hN:N<=500000000000)(hq:Co N q)(key:Bytes)(Zi:key.length=16)(w:aN)(c:Bool):∃n h,n<=2/\VH m k p x C F h (lL (bZ 38) m 0 q key w c) n:=by have hq':Gj q=true:=(RU _).2 (hq.mono);unfold lL;rw[hq',Zi];cases hw:eY w with|false=>exact⟨0,q.2.2.2.2.1,by omega,hm,⟨hd,P,C,s,rfl⟩,rfl,λ_ _ _=>rfl⟩|true=>simp only[aj,cJ,show(((16:Nat):Int) !=16)=false from rfl,af];cases c&&(q.2.2.2.2.1&&Kf q.2.2.2.1 w)with|true=>exact⟨0,q.2.2.2.2.1,by omega,hm,⟨hd,P,C,s.held _,rfl⟩,rfl,λ_ _ _=>rfl⟩|false=>simp only[af];obtain⟨n,hn,fl⟩:=Jt hm hk s hq' key Zi;obtain⟨QF,P2,C2,s2,l2⟩:=fl.st;have hd3:J7 (iH (bZ 38) m 0 q key).1 k (KB (iH (bZ 38) m 0 q key).2 (ly w)) p QF x P2 C2 F:=s2.held _;cases c with|true=>exact⟨n,true,by omega,fl.mem,⟨QF,P2,C2,hd3,l2⟩,rfl,fl.out⟩|false=>have so:=Va hw;have hq2:Gj (KB (iH (bZ 38) m 0 q key).2 (ly w))=true:=(RU _).2 ((afj (Fc (by omega) hq hm.ok (bZ 38) 0 key).2 so.1 so.2.1 so.2.2).mono);obtain⟨n3,hn3,f3⟩:=Jt fl.mem hk hd3 hq2 key Zi;obtain⟨hd4,P4,C4,s4,l4⟩:=f3.st;exact⟨n+n3,false,by omega,f3.mem,⟨hd4,P4,C4,s4,by omega⟩,f3.hold,λi hi ho=>(f3.out i hi ho).trans (fl.out i hi ho)⟩
theorem anh (hk:k<=1)(hp:dI (((kT k+128:Nat):Int),384,4,F.map λc:Nat=>(c:Int))=true){c:Nat}(hc:c<4):oy (((kT k+128:Nat):Int),384,4,F.map λc:Nat=>(c:Int)) (c:Int)=((kT k+128+384*c:Nat):Int):=by unfold oy;rw[hp,aU.2 ⟨by omega,by show(c:Int)<=4-1;omega⟩];show((kT k+128:Nat):Int)+(c:Int)*384=_;omega
theorem Qh (hk:k<=1){hd:Nat}{G:fM}(hp:dI (((kT k+128:Nat):Int),384,4,G.map λc:Nat=>(c:Int))=true):∀(F:fM)(m:bO)(P:fM),gI m->uY m (kT k) 4 hd (P.map λc=>kz (E3 k c))->P.length+F.length<=4->(∀c∈F,c<4)->
 (kK (bZ 38) 0 (((kT k+128:Nat):Int),384,4,G.map λc:Nat=>(c:Int)) (F.map λc:Nat=>(c:Int)) m (fS (kT k) 4 hd P.length)).1=F.length/\
 (kK (bZ 38) 0 (((kT k+128:Nat):Int),384,4,G.map λc:Nat=>(c:Int)) (F.map λc:Nat=>(c:Int)) m (fS (kT k) 4 hd P.length)).2.2=fS (kT k) 4 hd (P++F).length/\
 gI (kK (bZ 38) 0 (((kT k+128:Nat):Int),384,4,G.map λc:Nat=>(c:Int)) (F.map λc:Nat=>(c:Int)) m (fS (kT k) 4 hd P.length)).2.1/\
 uY (kK (bZ 38) 0 (((kT k+128:Nat):Int),384,4,G.map λc:Nat=>(c:Int)) (F.map λc:Nat=>(c:Int)) m (fS (kT k) 4 hd P.length)).2.1 (kT k) 4 hd ((P++F).map λc=>kz (E3 k c))/\
 ∀i,i<4864->(i<kT k\/kT k+64<=i)->mB (kK (bZ 38) 0 (((kT k+128:Nat):Int),384,4,G.map λc:Nat=>(c:Int)) (F.map λc:Nat=>(c:Int)) m (fS (kT k) 4 hd P.length)).2.1 i=mB m i
 |[],m,P,hm,r,_,_=>by rw[bD];exact⟨rfl,rfl,hm,r,λ_ _ _=>rfl⟩
 |c::F,m,P,hm,r,hl,hF=>by
  have hn:kT k=1280+1792*k:=rfl;have hc:c<4:=hF c (by simp);simp only[aP]at hl;have ed:fJ (((kT k+128:Nat):Int),384,4,G.map λc:Nat=>(c:Int)) (c:Int)=kz (E3 k c):=by unfold fJ;rw[anh hk hp hc];rfl
  have pr:=aaJ hm (b:=kT k) (S:=4) (hd:=hd) (Or.inl rfl) (by omega) r (by rw[bF];omega) (Cd (aeT hk hc)).1;rw[bF]at pr;rw[dm,kK,ed,pr.1];simp only[ah];have e1:P.length+1=(P++[c]).length:=by simp
  have r2:uY (dg (bZ 38) m 0 (fS (kT k) 4 hd P.length) (kz (E3 k c))).1 (kT k) 4 hd ((P++[c]).map λc=>kz (E3 k c)):=by rw[cZ];exact pr.2.2.1
  have ih:=Qh hk hp F _ (P++[c]) pr.2.1 r2 (by simp;omega) λy hy=>hF y (by simp[hy]);rw[e1];rw[aR,gC]at ih;exact⟨by rw[ih.1];simp,ih.2.1,ih.2.2.1,ih.2.2.2.1,λi hi ho=>(ih.2.2.2.2 i hi ho).trans (pr.2.2.2 i hi (by omega))⟩
theorem T5 (hm:gI m)(hk:k<=1)(s:J7 m k q p hd x P C F): gI (oX (bZ 38) m 0 q.1 p).1/\J7 (oX (bZ 38) m 0 q.1 p).1 k ((oX (bZ 38) m 0 q.1 p).2.1,q.2) (oX (bZ 38) m 0 q.1 p).2.2.1 hd x (P++F) C []/\∀i,i<4864->(i<kT k\/kT k+64<=i)->mB (oX (bZ 38) m 0 q.1 p).1 i=mB m i:=by
 have hn:kT k=1280+1792*k:=rfl;have hp:=s.alO hk;have hl:=s.len;rw[s.pool]at hp;have fl:=Qh hk (hd:=hd) hp F m P hm s.row (by omega) λc hc=>s.lt (by simp[hc]);have vo:=vE (b:=kT k) (hd:=hd) (n:=P.length) (S:=4) (Or.inl rfl);have e:oX (bZ 38) m 0 q.1 p=((kK (bZ 38) 0 (((kT k+128:Nat):Int),384,4,F.map λc:Nat=>(c:Int)) (F.map λc:Nat=>(c:Int)) m (fS (kT k) 4 hd P.length)).2.1,fS (kT k) 4 hd (P++F).length,(((kT k+128:Nat):Int),384,4,[]),((F.length:Nat):Int)):=by unfold oX;rw[s.pool,s.ring,vo.1,hp];simp only[aj,cu,af,fl.1,fl.2.1];rw[cI (by simp)]
 rw[e];refine⟨fl.2.2.1,⟨rfl,fl.2.2.2.1,s.dev,s.drv,s.com.frame λi h1 h2=>fl.2.2.2.2 i (by omega) (by omega),rfl,?_,s.cok⟩,fl.2.2.2.2⟩;have:=s.perm;rw[aR]at this;rw[bD];exact this
theorem agU {c:Nat}(hp:dI (((kT k+128:Nat):Int),384,4,F.map λc:Nat=>(c:Int))=true)(hp2:dI (((kT k+128:Nat):Int),384,4,(F++[c]).map λc:Nat=>(c:Int))=true):(Cz (((kT k+128:Nat):Int),384,4,F.map λc:Nat=>(c:Int)) [(c:Int)]).1=(((kT k+128:Nat):Int),384,4,(F++[c]).map λc:Nat=>(c:Int)):=by
 have e:iq (((kT k+128:Nat):Int),384,4,F.map λc:Nat=>(c:Int)) [(c:Int)]=(((kT k+128:Nat):Int),384,4,(F++[c]).map λc:Nat=>(c:Int)):=by unfold iq;rw[cZ];rfl
 unfold Cz CA;rw[e,hp,hp2];rfl
theorem ad7 (hm:gI m)(hk:k<=1){s:aw Stream×bL×dD}{c:J6}(r:J7 m k s.2.1 s.2.2 hd x P (c::C) F):(nf (bZ 38) m 0 s.2.1.2.2.1).2.2=true/\J7 m k (Bk (bZ 38) m 0 s).2.1 (Bk (bZ 38) m 0 s).2.2 hd (x+1) P C (F++[c.1.toNat])/\(Bk (bZ 38) m 0 s).2.1.2.2.2=s.2.1.2.2.2:=by
 have hn:kT k=1280+1792*k:=rfl;have nx:=ah3 hm (b:=kT k+64) (by omega) r.com;have en:nf (bZ 38) m 0 s.2.1.2.2.1=(c,AQ (kT k+64) (x+1),true):=by rw[r.drv];exact nx.1
 have hc:((c.1.toNat:Nat):Int)=c.1:=Int.toNat_of_nonneg (r.cok c (by simp));have pm:(Ki C++P++(F++[c.1.toNat])).Perm [0,1,2,3]:=by
  refine List.Perm.trans ?_ r.perm;have:Ki C++P++(F++[c.1.toNat])=(Ki C++P++F)++[c.1.toNat]:=by simp[aR]
  rw[this];exact List.perm_append_comm
 have nd:=Rv pm;have hp:=r.alO hk;rw[r.pool]at hp;have hp2:=afF (b:=kT k+128) (by omega) (F:=F++[c.1.toNat]) (λy hy=>by have:=pm.mem_iff.1 (show y∈Ki C++P++(F++[c.1.toNat]) from aA.2 (Or.inr hy));simp at this;omega) (aS.1 nd).2.1;have eg:(Cz s.2.2 [c.1]).1=(((kT k+128:Nat):Int),384,4,(F++[c.1.toNat]).map λc:Nat=>(c:Int)):=by rw[r.pool,<-hc];have:=agU (k:=k) (c:=c.1.toNat) hp hp2;rw[hc]at this⊢;exact this
 refine⟨by rw[en],?_,rfl⟩;unfold Bk;rw[en];simp only;refine⟨r.ring,r.row,?_,rfl,nx.2,eg,pm,λy hy=>r.cok y (by simp[hy])⟩;rw[show x+1+C.length=x+(c::C).length by simp;omega];exact r.dev
theorem RG (hm:gI m)(hk:k<=1):∀(n:Nat)(s:aw Stream×bL×dD)(x:Nat)(C:aw J6)(F:fM),J7 m k s.2.1 s.2.2 hd x P C F->
 (jE (bZ 38) m 0 n s).1=min n C.length/\(jE (bZ 38) m 0 n s).2.2.1.2.2.2=s.2.1.2.2.2/\∃F',J7 m k (jE (bZ 38) m 0 n s).2.2.1 (jE (bZ 38) m 0 n s).2.2.2 hd (x+min n C.length) P (C.drop n) F'
 |0,s,x,C,F,r=>⟨by rw[Nat.zero_min];rfl,rfl,F,by rw[Nat.zero_min];exact r⟩
 |n+1,s,x,[],F,r=>by
  have hn:kT k=1280+1792*k:=rfl;have nx:=UQ hm (b:=kT k+64) (by omega) r.com;have en:(nf (bZ 38) m 0 s.2.1.2.2.1).2.2=false:=by rw[r.drv,nx]
  rw[jE,en];exact⟨by simp,rfl,F,r⟩
 |n+1,s,x,c::C,F,r=>by have ps:=ad7 hm hk r;have ih:=RG hm hk n (Bk (bZ 38) m 0 s) (x+1) C _ ps.2.1;rw[jE,ps.1];simp only[aj,af];obtain⟨F',hf⟩:=ih.2.2;refine⟨by rw[ih.1];simp only[aP];omega,ih.2.1.trans ps.2.2,F',?_⟩;rw[show x+min (n+1) (c::C).length=x+1+min n C.length by simp only[aP];omega];exact hf
theorem aik (hm:gI m)(hk:k<=1)(s:J7 m k q p hd x P C F)(hq:Gj q=true)(st:aw Stream)(hb:b<=1000): gI (jc (bZ 38) m 0 q p st (b:Int)).1/\(∃x' P',J7 (jc (bZ 38) m 0 q p st (b:Int)).1 k (jc (bZ 38) m 0 q p st (b:Int)).2.1 (jc (bZ 38) m 0 q p st (b:Int)).2.2.1 hd x' P' (C.drop b) [])/\(jc (bZ 38) m 0 q p st (b:Int)).2.2.2.2=((min b C.length:Nat):Int)/\(jc (bZ 38) m 0 q p st (b:Int)).2.1.2.2.2.2.1=q.2.2.2.2.1/\∀i,i<4864->(i<kT k\/kT k+64<=i)->mB (jc (bZ 38) m 0 q p st (b:Int)).1 i=mB m i:=by have hp:=s.alO hk;have pl:=RG hm hk b (st,q,p) x C F s;obtain⟨l1,l2,F',sf⟩:=pl;have ff:=T5 hm hk sf;unfold jc;rw[hq,hp,aU.2 ⟨by omega,by omega⟩];simp only[aj,cu,af,au];exact⟨ff.1,⟨_,_,ff.2.1⟩,by rw[l1],by rw[l2],ff.2.2⟩
theorem PF (k:Nat):gR k=((kT k:Nat):Int):=by unfold gR kT;omega
theorem ai7 (n j:Nat):(sK n).getD j 0=0:=by unfold sK aQ;rw[aW,List.map_replicate,eP];split<;>rfl
theorem am2 (h:∀j,j<16->mB m (a+j)=0):(tR (yo m a 16)).2.1=0:=by
 have e:yo m a 16=List.replicate 16 0:=by unfold yo;refine List.ext_getElem (by simp) λj g1 g2=>?_;simp only[List.getElem_map,List.getElem_range,List.getElem_replicate];exact h j (by simpa using g1)
 rw[e];decide
theorem MQ (hm:gI m)(hk:k<=1)(u:qP×Bool×Int):gI (kZ (bZ 38) m k).1/\(∃P,J7 (kZ (bZ 38) m k).1 k ((kZ (bZ 38) m k).2.1,(gR k+64,4,0),(gR k+64,4,0),u) (kZ (bZ 38) m k).2.2.1 0 0 P [] [])/\∀i,i<4864->(i<kT k\/kT k+1792<=i)->mB (kZ (bZ 38) m k).1 i=mB m i:=by
 have hn:kT k=1280+1792*k:=rfl;have pf:=Hj hm (a:=kT k) (s:=sK 128) (w:=false) (by rw[xi];omega) (by rw[xi];omega) (by simp);rw[xi]at pf;have np:=(Hf (a:=gR k+128) (b:=384) (n:=4) (by rw[PF];omega)).1;have ep:(gK (gR k+128) 384 4).1=(((kT k+128:Nat):Int),384,4,[0,1,2,3].map λc:Nat=>(c:Int)):=by rw[np,PF];rfl
 have er:((gR k,4,0,0):lZ)=fS (kT k) 4 0 0:=by rw[PF];rfl
 have ec:((gR k+64,4,0):uW)=AQ (kT k+64) 0:=by rw[PF];rfl
 have s:J7 (hH (bZ 38) m 0 ((kT k:Nat):Int) (sK 128) false).1 k (fS (kT k) 4 0 0,AQ (kT k+64) 0,AQ (kT k+64) 0,u) (((kT k+128:Nat):Int),384,4,[0,1,2,3].map λc:Nat=>(c:Int)) 0 0 [] [] [0,1,2,3]:=by refine⟨rfl,⟨by simp,λj hj=>by simp at hj⟩,rfl,rfl,⟨by simp,λj hj=>by simp at hj,λj _ hj=>?_⟩,rfl,List.Perm.refl _,λc hc=>by cases hc⟩;rw[am2 λi hi=>?_];unfold phN;rw[zip];decide;rw[pf.2.2 _ (by omega),zip];exact ai7 ..
 have f:=T5 pf.2.1 hk s;unfold kZ;rw[ep,er,ec,PF];refine⟨f.1,⟨_,f.2.1⟩,λi hi ho=>?_⟩;rw[f.2.2 i hi (by omega),pf.2.2 i hi,lI]
def XZ (c:bO):Prop:=∃Gg last,c=Gg++[last]/\(∀e∈Gg,(cV e).2=true/\Is (cV e).1=false)/\(cV last).2=true/\Is (cV last).1=true
structure TxS (m:List Bytes) (t:eR) (hd:Nat) (L:List (List Bytes)):Prop where
 ring:t.1=fS 0 16 hd L.flatten.length
 row:uY m 0 16 hd L.flatten
 Er:L.length=t.2.2.1.length
 ch:∀c∈L,XZ c
 pool:t.2.1.1=256/\t.2.1.2.1=128/\t.2.1.2.2.1=8
theorem TxS.frame (s:TxS m t hd L)(h:∀i,i<256->mB m' i=mB m i):TxS m' t hd L:=⟨s.ring,s.row.frame (Or.inr rfl) λi _ h2=>h i (by omega),s.Er,s.ch,s.pool⟩
theorem PU (hm:gI m):∀(Gg:bO)(last:Bytes)(rest:bO)(hd n:Nat)(acc:aw FW),uY m 0 16 hd (Gg++last::rest)->Gg.length+1<=n->(∀e∈Gg,(cV e).2=true/\Is (cV e).1=false)->(cV last).2=true->Is (cV last).1=true->
 (sS (bZ 38) m 0 n acc (fS 0 16 hd (Gg.length+1+rest.length))).2=(fS 0 16 (hd+(Gg.length+1)) rest.length,true)/\uY m 0 16 (hd+(Gg.length+1)) rest
 |[],last,rest,hd,0,acc,r,hn,_,h1,h2=>by simp at hn
 |[],last,rest,hd,n+1,acc,r,hn,_,h1,h2=>by have t:=Ni hm (b:=0) (S:=16) (Or.inr rfl) (by omega) r;rw[show([]:bO).length+1+rest.length=rest.length+1 by simp;omega,sS,t.1,h1,h2];exact⟨rfl,t.2⟩
 |e::Gg,last,rest,hd,0,acc,r,hn,_,h1,h2=>by simp at hn
 |e::Gg,last,rest,hd,n+1,acc,r,hn,he,h1,h2=>by
  have t:=Ni hm (b:=0) (S:=16) (Or.inr rfl) (by omega) (show uY m 0 16 hd (e::(Gg++last::rest)) from r);have hl:(Gg++last::rest).length=Gg.length+1+rest.length:=by simp;omega
  rw[hl]at t;have g:=he e (by simp);simp only[aP]at hn;rw[show(e::Gg).length+1+rest.length=Gg.length+1+rest.length+1 by simp;omega,sS,t.1,g.1,g.2];simp only[aj,cu,af];have ih:=PU hm Gg last rest (hd+1) n (acc++[(cV e).1]) t.2 (by omega) (λy hy=>he y (by simp[hy])) h1 h2;rw[show hd+((e::Gg).length+1)=hd+1+(Gg.length+1) by simp;omega];exact ih
theorem aat (hm:gI m){c:bO}(hc:XZ c)(r:uY m 0 16 hd (c++L.flatten)):((iu (bZ 38) m 0 (fS 0 16 hd (c++L.flatten).length)).1=fS 0 16 (hd+c.length) L.flatten.length/\uY m 0 16 (hd+c.length) L.flatten)/\((iu (bZ 38) m 0 (fS 0 16 hd (c++L.flatten).length)).2.2=1\/(iu (bZ 38) m 0 (fS 0 16 hd (c++L.flatten).length)).2.2=2):=by
 obtain⟨Gg,last,rfl,h1,h2,h3⟩:=hc;have hl:(Gg++[last]++L.flatten).length=Gg.length+1+L.flatten.length:=by simp;omega
 have el:(Gg++[last]).length=Gg.length+1:=by simp
 have er:Gg++[last]++L.flatten=Gg++last::L.flatten:=by simp
 have Zc:=r.len;rw[hl]at Zc⊢;rw[er]at r;have v:=vE (b:=0) (S:=16) (hd:=hd) (Or.inr rfl) (by omega) Zc;have cf:=PU hm Gg last L.flatten hd (Gg.length+1+L.flatten.length) [] r (by omega) h1 h2 h3;have tk:(du (bZ 38) m 0 (fS 0 16 hd (Gg.length+1+L.flatten.length))).2=(fS 0 16 (hd+(Gg.length+1)) L.flatten.length,true):=by unfold du;rw[v.1,v.2,show(((Gg.length+1+L.flatten.length:Nat):Int)==0)=false from by rw[bM];omega,au];exact cf.1
 rw[el];unfold iu;rw[v.1,v.2,show(((Gg.length+1+L.flatten.length:Nat):Int)==0)=false from by rw[bM];omega,tk];simp only[aj,cJ,af];cases !(fN (du (bZ 38) m 0 (fS 0 16 hd (Gg.length+1+L.flatten.length))).1).2.2.2 with|true=>exact⟨⟨rfl,cf.2⟩,Or.inr rfl⟩|false=>simp only[af];cases !(lP (bZ 38) m 0 (fN (du (bZ 38) m 0 (fS 0 16 hd (Gg.length+1+L.flatten.length))).1).1).2||(!(yI (lP (bZ 38) m 0 (fN (du (bZ 38) m 0 (fS 0 16 hd (Gg.length+1+L.flatten.length))).1).1).1).2||((kR (yI (lP (bZ 38) m 0 (fN (du (bZ 38) m 0 (fS 0 16 hd (Gg.length+1+L.flatten.length))).1).1).1).1).2 !=0))with|true=>exact⟨⟨rfl,cf.2⟩,Or.inr rfl⟩|false=>exact⟨⟨rfl,cf.2⟩,Or.inl rfl⟩
theorem JW (hm:gI m):∀(L:aw bO)(hd n:Nat)(fr:bO)(dn bd:Nat),(∀c∈L,XZ c)->uY m 0 16 hd L.flatten->L.length<n->
 ∃(Iu:Nat)(Ny:bO)(a b:Nat),nk (bZ 38) m 0 n fr dn bd (fS 0 16 hd L.flatten.length)=(fS 0 16 Iu 0,Ny,(a:Int),(b:Int))/\a+b=dn+bd+L.length
 |[],hd,0,fr,dn,bd,_,_,h=>by simp at h
 |[],hd,n+1,fr,dn,bd,_,_,_=>by
  have v:=vE (b:=0) (S:=16) (hd:=hd) (n:=0) (Or.inr rfl);have e:(iu (bZ 38) m 0 (fS 0 16 hd 0)).2.2=0:=by unfold iu;rw[v.1,v.2];rfl
  refine⟨hd,fr,dn,bd,?_,by simp⟩;show nk (bZ 38) m 0 (n+1) fr dn bd (fS 0 16 hd 0)=_;rw[nk,e];rfl
 |c::L,hd,0,fr,dn,bd,_,_,h=>by simp at h
 |c::L,hd,n+1,fr,dn,bd,hc,r,h=>by have hf:(c::L).flatten=c++L.flatten:=List.flatten_cons;rw[hf]at r⊢;simp only[aP]at h;have nx:=aat hm (hc c (by simp)) r;rw[nk,nx.1.1];rcases nx.2 with e|e;obtain⟨Iu,Ny,a,b,g1,g2⟩:=JW hm L (hd+c.length) n (fr++(iu (bZ 38) m 0 (fS 0 16 hd (c++L.flatten).length)).2.1) (dn+1) bd (λy hy=>hc y (by simp[hy])) nx.1.2 (by omega);rw[e];exact⟨Iu,Ny,a,b,g1,by simp only[aP];omega⟩;obtain⟨Iu,Ny,a,b,g1,g2⟩:=JW hm L (hd+c.length) n (fr++(iu (bZ 38) m 0 (fS 0 16 hd (c++L.flatten).length)).2.1) dn (bd+1) (λy hy=>hc y (by simp[hy])) nx.1.2 (by omega);rw[e];exact⟨Iu,Ny,a,b,g1,by simp only[aP];omega⟩
theorem afe:∀(L:aw bO),(∀c∈L,XZ c)->L.length<=L.flatten.length
 |[],_=>bc _
 |c::L,h=>by have:=afe L λy hy=>h y (by simp[hy]);obtain⟨Gg,last,e,_⟩:=h c (by simp);rw[List.flatten_cons,ai,e];simp only[aP,ai,dZ];omega
theorem NC:∀(l:aw qc)(p:dD),(ov p l).1=p.1/\(ov p l).2.1=p.2.1/\(ov p l).2.2.1=p.2.2.1
 |[],p=>⟨rfl,rfl,rfl⟩
 |x::l,p=>by
  have i:=NC l (Cz p x.2.2).1;have g:(Cz p x.2.2).1.1=p.1/\(Cz p x.2.2).1.2.1=p.2.1/\(Cz p x.2.2).1.2.2.1=p.2.2.1:=by unfold Cz;cases CA p x.2.2<;>exact⟨rfl,rfl,rfl⟩
  exact⟨i.1.trans g.1,i.2.1.trans g.2.1,i.2.2.trans g.2.2⟩
theorem abq (g:Good n h)(hn:n<=1000000000000)(ac2:h.2.1=bZ 38)(hm:gI h.1)(s:TxS h.1 h.2.2.1 hd L):∃Iu,(dy h).2.2.1=(fS 0 16 Iu 0,ov h.2.2.1.2.1 h.2.2.1.2.2.1,[],h.2.2.1.2.2.2):=by
 have hl:=s.row.len;have Zc:=afe L s.ch;obtain⟨Iu,fr,a,b,e1,e2⟩:=JW hm L hd 17 [] 0 0 s.ch s.row (by omega);have e:lX h.2.1 h.1 0 h.2.2.1.1=(fS 0 16 Iu 0,fr,(a:Int),(b:Int)):=by rw[ac2,s.ring];exact e1
 have hc:=s.Er;have v:=vE (b:=0) (S:=16) (hd:=Iu) (n:=0) (Or.inr rfl);have eN:(if(h.2.2.1.2.2.1.length:Int)<ar ((a:Int)+(b:Int)) then(h.2.2.1.2.2.1.length:Int) else ar ((a:Int)+(b:Int)))=(h.2.2.1.2.2.1.length:Int):=by rw[ak];split<;>omega
 have tx:=g.tx;have t2:Im (fS 0 16 Iu 0,h.2.2.1.2):=by refine⟨v.1,tx.next,λx hx=>?_,tx.pool,?_⟩;have:=tx.sent x hx;rw[s.ring]at this;exact this;have:=tx.Er;rw[s.ring]at this;exact this
 have ec:kU (fS 0 16 Iu 0,h.2.2.1.2) (h.2.2.1.2.2.1.length:Int)=((fS 0 16 Iu 0,ov h.2.2.1.2.1 h.2.2.1.2.2.1,[],h.2.2.1.2.2.2),h.2.2.1.2.2.1.map (·.1)):=by unfold kU;rw[amP.2 t2,aU.2 ⟨by omega,cU _⟩];simp only[cq,ah,au,cO,gN]
 refine⟨Iu,?_⟩;unfold dy;rw[g.ok hn,e];simp only[ah,eN,ec]
theorem TF (g:Good n h)(hn:n<=1000000000000)(ac2:h.2.1=bZ 38)(hm:gI h.1)(s:TxS h.1 h.2.2.1 hd L):(dy h).2.2.1.2.2.1=[]/\∃Iu,TxS h.1 (dy h).2.2.1 Iu []:=by obtain⟨Iu,et⟩:=abq g hn ac2 hm s;have gs:=NC h.2.2.1.2.2.1 h.2.2.1.2.1;rw[et];exact⟨rfl,Iu,rfl,⟨by simp,λj hj=>by simp at hj⟩,rfl,(λc hc=>by cases hc),gs.1.trans s.pool.1,gs.2.1.trans s.pool.2.1,gs.2.2.trans s.pool.2.2⟩
theorem aeS (hp:p.1=256/\p.2.1=128/\p.2.2.1=8)(hb:dI p=true){b:Int}(h:b∈p.2.2.2):∃a:Nat,oy p b=(a:Int)/\256<=a/\a+128<=1280:=by
 have hi:0<=b/\b<=7:=by unfold dI at hb;simp only[ae,aF,bG]at hb;obtain⟨i,hi,e⟩:=gw h;have:=hb.2.2.2 i hi;unfold Ev at this;rw[cB hi,e,hp.2.2]at this;simp only[ae,aU]at this;omega
 refine⟨(256+b*128).toNat,?_,by omega,by omega⟩;unfold oy;rw[hb,hp.2.2,aU.2 ⟨hi.1,by omega⟩,hp.1,hp.2.1];show(256:Int)+b*128=_;omega
theorem Qj (hp:p.1=256/\p.2.1=128/\p.2.2.1=8)(hb:dI p=true){z:Nat}(hz:z<=128):∀(q:cc)(s:Bytes)(m:bO)(a:aw iv){x},(∀b∈q,b∈p.2.2.2)->gI m->wT (bZ 38) 0 p z q s m a=some x->gI x.2/\∀i,i<4864->(i<256\/1280<=i)->mB x.2 i=mB m i
 |[],s,m,a,x,_,hm,h=>by cases h;exact⟨hm,λ_ _ _=>rfl⟩
 |b::q,s,m,a,x,hq,hm,h=>by
  obtain⟨A,e,a1,a2⟩:=aeS hp hb (hq b (by simp));have hl:(s.take z).length<=128:=by rw[aV];omega
  have pf:=Hj hm (a:=A) (s:=s.take z) (w:=false) (by omega) (by omega) (by simp);rw[wT,e,pf.1]at h;have ih:=Qj hp hb hz q _ _ _ (λy hy=>hq y (by simp[hy])) pf.2.1 h;exact⟨ih.1,λi hi ho=>by rw[ih.2 i hi ho,pf.2.2 i hi,lI]⟩
theorem N6:∀(q:bO)(m:bO)(hd:Nat)(E:bO),gI m->uY m 0 16 hd E->(∀s∈q,s.length=16)->E.length+q.length<=16->∃m',qE (bZ 38) 0 q m (fS 0 16 hd E.length)=some (m',fS 0 16 hd (E++q).length)/\gI m'/\uY m' 0 16 hd (E++q)/\∀i,i<4864->256<=i->mB m' i=mB m i
 |[],m,hd,E,hm,r,_,_=>⟨m,by rw[bD];rfl,hm,by rw[bD];exact r,λ_ _ _=>rfl⟩
 |s::q,m,hd,E,hm,r,hs,hl=>by
  simp only[aP]at hl;have p:=aaJ hm (b:=0) (S:=16) (hd:=hd) (Or.inr rfl) (by omega) r (by omega) (hs s (by simp));have e1:E.length+1=(E++[s]).length:=by simp
  obtain⟨m',g1,g2,g3,g4⟩:=N6 q _ hd (E++[s]) p.2.1 p.2.2.1 (λy hy=>hs y (by simp[hy])) (by simp;omega);rw[aR,gC]at g1 g3;refine⟨m',?_,g2,g3,λi hi ho=>(g4 i hi ho).trans (p.2.2.2 i hi (by omega))⟩;rw[qE,p.1];simp only[ah];rw[e1];exact g1
theorem aka {z c:Int}(h:(kJ ps z c).length=ps.length+1):kJ ps z c=[(2,0,0,0,z,c)]++oV ps c ps.length/\([(2,0,0,0,z,c)]++oV ps c ps.length).all qg=true:=by unfold kJ at h⊢;cases h1:((ps.length:Int)==0)||(!oM ps|| !di z 1 128)with|true=>rw[h1]at h;simp at h|false=>rw[h1]at h;simp only[af]at h⊢;cases h2:([(2,0,0,0,z,c)]++oV ps c ps.length).all qg with|true=>exact⟨rfl,rfl⟩|false=>rw[h2]at h;simp at h
theorem ae8 (f l a s c:Int)(hf:f=0\/f=1):Is (1,f,l,a,s,c)=(f==1):=by rcases hf with rfl|rfl;unfold Is;simp only[fG,ah];decide;unfold Is;simp only[fG,ah];decide
theorem TT (ps:aw iv)(c:Int):∀i,i<ps.length->∀d∈oV ps c i,Is d=false
 |0,_,d,hd=>by cases hd
 |i+1,hi,d,hd=>by rw[oV]at hd;rcases aA.1 hd with g|g;exact TT ps c i (by omega) d g;rw[br.1 g];unfold dsc;rw[lI,ae8 _ _ _ _ _ (Or.inl rfl)];rfl
theorem acH {z c:Int}(h:(kJ ps z c).length=ps.length+1)(h0:0<ps.length):XZ ((kJ ps z c).map kz)/\∀s∈(kJ ps z c).map kz,s.length=16:=by
 obtain⟨e,AX⟩:=aka h;rw[e];rw[aF]at AX;obtain⟨k,hk⟩:∃k,ps.length=k+1:=⟨ps.length-1,by omega⟩
 have ed:oV ps c ps.length=oV ps c k++[dsc ps.length c k (ps.getD k (0,0))]:=by rw[show oV ps c ps.length=oV ps c (k+1) from by rw[hk]];rfl
 rw[ed]at AX⊢;refine⟨⟨([(2,0,0,0,z,c)]++oV ps c k).map kz,kz (dsc ps.length c k (ps.getD k (0,0))),?_,λs hs=>?_,?_,?_⟩,λs hs=>?_⟩;rw[<-aR,cZ];rfl;obtain⟨d,hd,rfl⟩:=dB.1 hs;have QF:d∈[(2,0,0,0,z,c)]++(oV ps c k++[dsc ps.length c k (ps.getD k (0,0))]):=by rw[<-aR];exact bH _ hd
 rw[(Cd (AX d QF)).2];refine⟨rfl,?_⟩;rcases aA.1 hd with g|g;rw[br.1 g];rfl;exact TT ps c k (by omega) d g;rw[(Cd (AX _ (by rw[<-aR];exact bz _ (br.2 rfl)))).2];rw[(Cd (AX _ (by rw[<-aR];exact bz _ (br.2 rfl)))).2];show Is (1,(if k+1=ps.length then 1 else 0),_,_,0,c)=true;rw[aH hk.symm,ae8 _ _ _ _ _ (Or.inr rfl)];rfl;obtain⟨d,hd,rfl⟩:=dB.1 hs;exact(Cd (AX d hd)).1
theorem aiD (hm:gI m)(s:TxS m t hd L)(ht:Im t)(p:aN)(c z:Int):gI (rR (bZ 38) m 0 t p c z).1/\(∃L',TxS (rR (bZ 38) m 0 t p c z).1 (rR (bZ 38) m 0 t p c z).2.1 hd L')/\∀i,i<4864->1280<=i->mB (rR (bZ 38) m 0 t p c z).1 i=mB m i:=by
 have Xh:gI m/\(∃L',TxS m t hd L')/\∀i,i<4864->1280<=i->mB m i=mB m i:=⟨hm,⟨L,s⟩,λ_ _ _=>rfl⟩
 have hb:=ht.free;unfold rR;cases hg:Pq t&&(dS p&&(di z 1 t.2.1.2.1&&di c 1 128));exact Xh;simp only[ae,aU]at hg;simp only[ah];have tl:=Ss hg.2.1;have hz:z.toNat<=128:=by have:=hg.2.2.1.2;rw[s.pool.2.1]at this;omega
 have hk0:0<Ap p z.toNat:=by unfold Ap;refine Nat.div_pos ?_ (by omega);omega
 generalize hk:Ap p z.toNat=k at hk0;cases hf:IA t k;exact Xh;simp only[ah];rcases hx:wT (bZ 38) 0 t.2.1 z.toNat (kv t.2.1 (k:Int)).2.1 (lx p).1 m []with _|x;exact Xh;simp only;unfold IA at hf;simp only[ae,aO,df]at hf;have hti:di (k:Int) 0 (t.2.1.2.2.2.length:Int)=true:=by have:=hf.1;unfold kv at this;cases hq:dI t.2.1&&di (k:Int) 0 (t.2.1.2.2.2.length:Int)with|true=>rw[ae]at hq;exact hq.2|false=>rw[hq]at this;cases this
 have et:kv t.2.1 (k:Int)=((t.2.1.1,t.2.1.2.1,t.2.1.2.2.1,t.2.1.2.2.2.drop k),t.2.1.2.2.2.take k,true):=by unfold kv;rw[hb,hti];rfl
 rw[et]at hx;have hti:=aU.1 hti;have hlen:(t.2.1.2.2.2.take k).length=k:=by rw[aV];omega
 have fw:=Qj s.pool hb hz _ _ _ _ (λb iy=>List.mem_of_mem_take iy) hm hx;have fo:=GF (bZ 38) 0 t.2.1 z.toNat _ _ _ _ hx;have xl:x.1.length=k:=by rw[fo.2.1,hlen];simp
 have Zc:k<=16:=by omega
 have da:=Ys (ps:=x.1) (z:=c) (c:=t.2.2.2) (by omega) (by omega) (λy hy=>by rcases fo.2.2 y hy with g|⟨⟨b,iy,e⟩,g2,g3⟩;cases g;·obtain⟨A,eA,a1,a2⟩:=aeS s.pool hb (List.mem_of_mem_take iy);rw[e,eA];omega) (aU.2 hg.2.2.2) (aU.2 ht.next);have dc:=acH da (by omega);have r2:=s.row.frame (m':=x.2) (Or.inr rfl) λi _ h2=>fw.2 i (by omega) (by omega);have jZ:=hf.2.2.1;have v:=vE (b:=0) (S:=16) (hd:=hd) (Or.inr rfl) (by omega) s.row.len;have efr:nG t.1=((16-L.flatten.length:Nat):Int):=by have:=s.row.len;unfold nG;rw[s.ring,v.1,v.2,ah];show ar ((16:Int)-(L.flatten.length:Int))=_;rw[ak];omega
 rw[efr]at jZ;obtain⟨m',g1,g2,g3,g4⟩:=N6 ((kJ x.1 c t.2.2.2).map kz) x.2 hd L.flatten fw.1 r2 dc.2 (by rw[bF,da];omega);have ep:uy (bZ 38) x.2 0 t.1 ((kJ x.1 c t.2.2.2).map kz)=(m',fS 0 16 hd (L.flatten++(kJ x.1 c t.2.2.2).map kz).length,true):=by unfold uy;rw[s.ring,g1];rfl
 unfold Oa;rw[ep,et];simp only[ah];have efl:L.flatten++(kJ x.1 c t.2.2.2).map kz=(L++[(kJ x.1 c t.2.2.2).map kz]).flatten:=by rw[eO];simp
 rw[efl]at g3⊢;refine⟨g2,⟨L++[(kJ x.1 c t.2.2.2).map kz],rfl,g3,?_,λy hy=>?_,s.pool⟩,λi hi ho=>(g4 i hi (by omega)).trans (fw.2 i hi (by omega))⟩;show(L++[_]).length=(t.2.2.1++[_]).length;rw[ai,ai,s.Er];rfl;rcases aA.1 hy with g|g;exact s.ch y g;rw[br.1 g];exact dc.1
def QI (A:aw J6->bL->Vector->Bool->Prop)(m:bO)(k:Nat)(q:bL)(p:dD)(v:Vector)(b:Bool):Prop:=
 ∃hd x P C F,J7 m k q p hd x P C F/\v.2.1<=3/\v.2.2.2.2.1=b/\(b=false->C≠[]->1<=v.2.2.1)/\A C q v b
theorem QI.frame {A:aw J6->bL->Vector->Bool->Prop}{b:Bool}(s:QI A m k q p v b)(h:∀i,kT k<=i->i<kT k+128->mB m' i=mB m i):QI A m' k q p v b:=by obtain⟨hd,x,P,C,F,s,t⟩:=s;exact⟨hd,x,P,C,F,s.frame h,t⟩
theorem QI.FP {A B:aw J6->bL->Vector->Bool->Prop}{b:Bool}(s:QI A m k q p v b)(h:∀C q v b,A C q v b->B C q v b):QI B m k q p v b:=by obtain⟨hd,x,P,C,F,s,t1,t2,t3,t4⟩:=s;exact⟨hd,x,P,C,F,s,t1,t2,t3,h _ _ _ _ t4⟩
def ajc (A:aw J6->bL->Vector->Bool->Prop)(h:Host)(k:Nat):Prop:=∃q p v b,h.2.2.2.1[k]?=some q/\h.2.2.2.2.1[k]?=some p/\h.2.2.2.2.2.1[k]?=some v/\h.2.2.2.2.2.2.1[k]?=some b/\QI A h.1 k q p v b
structure Live (Q:Nat->List J6->bL->Vector->Bool->Prop) (h:Host):Prop where
 maps:h.2.1=bZ 38
 mem:gI h.1
 tx:∃hd L,TxS h.1 h.2.2.1 hd L
 rx:∀k,k<h.2.2.2.1.length->ajc (Q k) h k
abbrev OK:Nat->aw J6->bL->Vector->Bool->Prop:=λ_ _ _ _ _=>True
theorem Live.step {Q':Nat->aw J6->bL->Vector->Bool->Prop}{h':Host}(f:Live Q h)(hk:k<h.2.2.2.1.length)(h2:h.2.2.2.1.length<=2)(hm:gI h'.1)(e1:h'.2.1=h.2.1)(e2:h'.2.2.1=h.2.2.1)(e3:h'.2.2.2.1.length=h.2.2.2.1.length)(hq:∀j,j≠k->h'.2.2.2.1[j]?=h.2.2.2.1[j]?/\h'.2.2.2.2.1[j]?=h.2.2.2.2.1[j]?/\h'.2.2.2.2.2.1[j]?=h.2.2.2.2.2.1[j]?/\h'.2.2.2.2.2.2.1[j]?=h.2.2.2.2.2.2.1[j]?)(out:∀i,i<4864->(i<kT k\/kT k+1792<=i)->mB h'.1 i=mB h.1 i)(hQ:∀j,j≠k->∀C q v b,Q j C q v b->Q' j C q v b)(hF:ajc (Q' k) h' k):Live Q' h':=by have hn:kT k=1280+1792*k:=rfl;obtain⟨hd,L,s⟩:=f.tx;refine⟨e1.trans f.maps,hm,⟨hd,L,by rw[e2];exact s.frame λi hi=>out i (by omega) (by omega)⟩,λj hj=>?_⟩;by_cases S4:j=k;subst S4;exact hF;rw[e3]at hj;have hj2:kT j=1280+1792*j:=rfl;obtain⟨q,p,v,b,g1,g2,g3,g4,g5⟩:=f.rx j hj;have e:=hq j S4;exact⟨q,p,v,b,by rw[e.1];exact g1,by rw[e.2.1];exact g2,by rw[e.2.2.1];exact g3,by rw[e.2.2.2];exact g4,(g5.FP (hQ j S4)).frame λi h1 h2=>out i (by omega) (by omega)⟩
theorem Live.same {h':Host}(f:Live Q h)(hm:gI h'.1)(e1:h'.2.1=h.2.1)(e3:h'.2.2.2.1=h.2.2.2.1)(e4:h'.2.2.2.2.1=h.2.2.2.2.1)(e5:h'.2.2.2.2.2.1=h.2.2.2.2.2.1)(e6:h'.2.2.2.2.2.2.1=h.2.2.2.2.2.2.1)(ht:∃hd L,TxS h'.1 h'.2.2.1 hd L)(out:∀i,i<4864->1280<=i->mB h'.1 i=mB h.1 i)(h2:h.2.2.2.1.length<=2):Live Q h':=by refine⟨e1.trans f.maps,hm,ht,λk hk=>?_⟩;rw[e3]at hk;have hn:kT k=1280+1792*k:=rfl;obtain⟨q,p,v,b,g1,g2,g3,g4,g5⟩:=f.rx k hk;exact⟨q,p,v,b,by rw[e3];exact g1,by rw[e4];exact g2,by rw[e5];exact g3,by rw[e6];exact g4,g5.frame λi h1 h2=>out i (by omega) (by omega)⟩
theorem Bq (v:Vector):(uP v).1=v.1/\(uP v).2.1=v.2.1/\(uP v).2.2.1=v.2.2.1/\(uP v).2.2.2.1=v.2.2.2.1/\(uP v).2.2.2.2.1=v.2.2.2.2.1:=by unfold uP;cases E5 v&& !v.2.2.2.2.1<;>exact⟨rfl,rfl,rfl,rfl,rfl⟩
theorem agI (hv:ew v=true):(evV v).2.1=v.2.1/\(evV v).2.2.2.2.1=v.2.2.2.2.1/\1<=(evV v).2.2.1:=by have w:=(uL v).1 hv;have u:=aeF w.2.2.1;have c:=Bq (v.1,v.2.1,Pr v.2.2.1,v.2.2.2);unfold evV;rw[hv,ah];exact⟨c.2.1,c.2.2.2.2,by rw[c.2.2.1];show 1<=Pr v.2.2.1;omega⟩
def evN:Nat->Vector->Vector
 |0,v=>v
 |n+1,v=>evV (evN n v)
theorem akj (hv:ew v=true):∀n,ew (evN n v)=true/\(evN n v).2.1=v.2.1/\(evN n v).2.2.2.2.1=v.2.2.2.2.1/\(1<=n->1<=(evN n v).2.2.1)
 |0=>⟨hv,rfl,rfl,λh=>by omega⟩
 |n+1=>by have i:=akj hv n;have s:=agI i.1;exact⟨amT i.1,s.1.trans i.2.1,s.2.1.trans i.2.2.1,λ_=>s.2.2⟩
theorem aki (hv:h.2.2.2.2.2.1[k]?=some v):∀n,evH k n h=(h.1,h.2.1,h.2.2.1,h.2.2.2.1,h.2.2.2.2.1,h.2.2.2.2.2.1.set k (evN n v),h.2.2.2.2.2.2)
 |0=>by obtain⟨hG,e⟩:=ay.1 hv;show h=_;rw[evN,<-e,List.set_getElem_self]
 |n+1=>by obtain⟨hG,e⟩:=ay.1 hv;rw[evH,aki hv n];unfold evS;simp only[bf hG,List.set_set];rfl
theorem Z9 (f:Live Q h)(h2:h.2.2.2.1.length<=2)(hk:k<h.2.2.2.1.length)(hq:h.2.2.2.1[k]?=some q)(hp:h.2.2.2.2.1[k]?=some p)(hv:h.2.2.2.2.2.1[k]?=some v){b:Bool}(hb:h.2.2.2.2.2.2.1[k]?=some b)(s:J7 h.1 k q p hd x P C F)(w3:v.2.1<=3)(wm:v.2.2.2.2.1=b)(wc:b=false->C≠[]->1<=v.2.2.1)(hvb:ew v=true){g:bO×bL}{H:Bool}{n:Nat}(hn:n<=4)(fl:VH h.1 k p x C F H g n): Live (λj C q v b=>(j=k->q.2.2.2.2.1=H)/\(j≠k->Q j C q v b)) (C9 h k q.2.1.2.2 g):=by
 obtain⟨Iu,P',C',s',l'⟩:=fl.st;have hc4:=s.com.len;have ayb:=s'.com.len;have ed:q.2.1.2.2=(((x+C.length)%8:Nat):Int):=by rw[s.dev];rfl
 have ed':g.2.2.1.2.2=(((x+C'.length)%8:Nat):Int)/\g.2.2.1.2.1=4:=by rw[s'.dev];exact⟨rfl,rfl⟩
 have ec:((g.2.2.1.2.2-q.2.1.2.2)%(2*g.2.2.1.2.1)).toNat=n:=by rw[ed'.1,ed'.2,ed,l'];omega
 have S9:(I1 h k g).2.2.2.2.2.1[k]?=some v:=hv;have e:C9 h k q.2.1.2.2 g=(g.1,h.2.1,h.2.2.1,h.2.2.2.1.set k g.2,h.2.2.2.2.1,h.2.2.2.2.2.1.set k (evN n v),h.2.2.2.2.2.2):=by unfold C9;rw[ec,aki S9 n];rfl
 have vk:=akj hvb n;obtain⟨hvl,_⟩:=ay.1 hv;rw[e];refine Live.step (Q:=Q) (Q':=λj C q v b=>(j=k->q.2.2.2.2.1=H)/\(j≠k->Q j C q v b)) f hk h2 fl.mem rfl rfl (az ..) (λj hj=>⟨aE (cl hj),rfl,aE (cl hj),rfl⟩) fl.out (λj hj C q v b hA=>⟨λe=>absurd e hj,λ_=>hA⟩) ?_;refine⟨g.2,p,evN n v,b,bf hk,hp,bf hvl,hb,Iu,x,P',C',F,s',by rw[vk.2.1];exact w3,by rw[vk.2.2.1];exact wm,λiy Cf=>?_,λ_=>fl.hold,λe=>absurd rfl e⟩;rcases Nat.eq_zero_or_pos n with g0|g0;subst g0;refine wc iy λe0=>Cf ?_;rw[e0]at l';exact cr (by simpa using l');exact vk.2.2.2 g0
theorem afw (g:Good n h):h.2.2.2.2.2.2.2.2.1.2.2.1.length=16:=by have:=g.Tx;unfold fI sH at this;simp only[ae,bn]at this;have e:=this.1.1.2.1.1.2;omega
theorem Hz (g:Good n h):h.2.2.2.1.length<=2:=(oK g.lens).1
theorem Z8 (hn:n<=500000000000)(g:Good n h)(f:Live Q h)(hk:k<h.2.2.2.1.length):Live (λj C q v b=>(j=k->q.2.2.2.2.1=false)/\(j≠k->Q j C q v b)) (jY k h):=by
 have h2:=Hz g;obtain⟨q,p,v,b,g1,g2,g3,g4,hd,x,P,C,F,s,w1,w2,w3,_⟩:=f.rx k hk;have rx:=g.rx q (aL g1);obtain⟨c,hc,fl⟩:=Jt f.mem (by omega) s (rx.rx (by omega)) h.2.2.2.2.2.2.2.2.1.2.2.1 (afw g);have e:jY k h=C9 h k q.2.1.2.2 (iH (bZ 38) h.1 0 q h.2.2.2.2.2.2.2.2.1.2.2.1):=by unfold jY;rw[g1,f.maps]
 rw[e];exact Z9 f h2 hk g1 g2 g3 g4 s w1 w2 w3 (g.vec v (aL g3)) (by omega) fl
theorem Live.FP {Q':Nat->aw J6->bL->Vector->Bool->Prop}(f:Live Q h)(hq:∀k,k<h.2.2.2.1.length->∀C q v b,Q k C q v b->Q' k C q v b):Live Q' h:=by refine⟨f.maps,f.mem,f.tx,λk hk=>?_⟩;obtain⟨q,p,v,b,g1,g2,g3,g4,g5⟩:=f.rx k hk;exact⟨q,p,v,b,g1,g2,g3,g4,g5.FP (hq k hk)⟩
abbrev ao9:Nat->aw J6->bL->Vector->Bool->Prop:=λ_ _ q _ _=>q.2.2.2.2.1=false
theorem Rk (hn:n<=400000000000)(g:Good n h)(f:Live Q h):Live ao9 (oY h):=by
 have h2:=Hz g;have key:∀k:Nat,k<=h.2.2.2.1.length->Good (n+320*(k:Int)) (jt jY k h)/\(jt jY k h).2.2.2.1.length=h.2.2.2.1.length/\Live (λj _ q _ _=>j<k->q.2.2.2.2.1=false) (jt jY k h):=by intro k;induction k with|zero=>intro _;exact⟨g.mono,rfl,f.FP λk _ C q v b _ e=>by omega⟩|succ k ih=>intro hk;obtain⟨i1,i2,i3⟩:=ih (by omega);have st:=Z8 (by omega) i1 i3 (k:=k) (by omega);have gl:=ND (by omega) i1 k;have e2:(jY k (jt jY k h)).2.2.2.1.length=(jt jY k h).2.2.2.1.length:=(wU k _).rx;refine⟨gl.mono (by push_cast;omega),e2.trans i2,st.FP λj hj C q v b hA S4=>?_⟩;by_cases h1:j=k;exact hA.1 h1;exact hA.2 h1 (by omega)
 unfold oY;rw[g.ok (by omega),ah];obtain⟨i1,i2,i3⟩:=key h.2.2.2.1.length (bc _);exact i3.FP λj hj C q v b hA=>hA (by omega)
theorem K8 (hn:n<=400000000000)(g:Good n h)(f:Live Q h)(y:Bytes):Live OK (kS h y):=by
 have h2:=Hz g;have loose:Live OK h:=f.FP λ_ _ _ _ _ _ _=>trivial;have Er:∀a b c d,Live OK (AR h a b c d):=λa b c d=>loose.same (h':=AR h a b c d) f.mem rfl rfl rfl rfl rfl f.tx (λ_ _ _=>rfl) h2;unfold kS;rw[g.ok (by omega)];simp only[aj,af];cases (gn y).2 !=0;case true=>exact Er ..
 cases !xq h.2.2.2.2.2.2.2.1 (gn y).1;case true=>exact Er ..
 cases rT h.2.2.2.2.2.2.2.2.1 (h.2.2.2.1.length:Int) (gn y).1== -1;case true=>exact Er ..
 simp only[af];generalize (rT h.2.2.2.2.2.2.2.2.1 (h.2.2.2.1.length:Int) (gn y).1).toNat=k;rcases hq:h.2.2.2.1[k]? with _|q;exact loose;simp only;obtain⟨hk,_⟩:=ay.1 hq;obtain⟨q',p,v,b,g1,g2,g3,g4,hd,x,P,C,F,s,w1,w2,w3,_⟩:=loose.rx k hk;rw[hq]at g1;have g1:=bP g1;subst g1;obtain⟨c,H,hc,fl⟩:=X9 f.mem (by omega) s (by omega) (g.rx q (aL hq)) h.2.2.2.2.2.2.2.2.1.2.2.1 (afw g) (gn y).1 h.2.2.2.2.2.2.2.2.2.2.1;rw[f.maps];have:=Z9 (Er h.2.2.2.2.2.2.2.2.2.2.2.2.2.2.2.1 h.2.2.2.2.2.2.2.2.2.2.2.2.2.2.2.2.1 h.2.2.2.2.2.2.2.2.2.2.2.2.2.2.2.2.2.1 (ar (h.2.2.2.2.2.2.2.2.2.2.2.2.2.2.2.2.2.2+1))) h2 hk hq g2 g3 g4 s w1 w2 w3 (g.vec v (aL g3)) (by omega) fl;exact this.FP λ_ _ _ _ _ _ _=>trivial
theorem ahI (g:Good n h)(f:Live Q h)(p:aN)(c z:Int):Live Q (AH h p c z).1:=by obtain⟨hd,L,s⟩:=f.tx;obtain⟨a,⟨L',b⟩,c'⟩:=aiD f.mem s g.tx p c z;unfold AH;cases eT h with|false=>exact f|true=>rw[f.maps];exact f.same a f.maps.symm rfl rfl rfl rfl ⟨hd,L',b⟩ c' (Hz g)
theorem IX (hn:n<=1000000000000)(g:Good n h)(f:Live Q h):Live Q (dy h)/\(dy h).2.2.1.2.2.1=[]:=by
 obtain⟨hd,L,s⟩:=f.tx;obtain⟨a,Iu,b⟩:=TF g hn f.maps f.mem s;refine⟨?_,a⟩;have e1:(dy h).1=h.1:=by unfold dy;rw[g.ok hn];rfl
 have e2:(dy h).2.1=h.2.1:=by unfold dy;rw[g.ok hn];rfl
 have e3:(dy h).2.2.2.1=h.2.2.2.1:=by unfold dy;rw[g.ok hn];rfl
 have e4:(dy h).2.2.2.2.1=h.2.2.2.2.1:=by unfold dy;rw[g.ok hn];rfl
 have e5:(dy h).2.2.2.2.2.1=h.2.2.2.2.2.1:=by unfold dy;rw[g.ok hn];rfl
 have e6:(dy h).2.2.2.2.2.2.1=h.2.2.2.2.2.2.1:=by unfold dy;rw[g.ok hn];rfl
 exact f.same (by rw[e1];exact f.mem) e2 e3 e4 e5 e6 ⟨Iu,[],by rw[e1];exact b⟩ (λi _ _=>by rw[e1]) (Hz g)
theorem OF (hv:ew v=true):(AL v).1=v.1/\(AL v).2.1=v.2.1/\(AL v).2.2.1=v.2.2.1/\(AL v).2.2.2.2.1=v.2.2.2.2.1/\(1<=v.2.2.1->v.2.2.2.2.1=false->(AL v).2.2.2.2.2=true\/v.2.2.2.1+1<=(AL v).2.2.2.1/\(AL v).2.2.2.1<v.2.1):=by
 have w:=(uL v).1 hv;have vt:=Sw hv;unfold AL at vt⊢;rw[hv]at vt⊢;simp only[ah]at vt⊢;by_cases h:v.2.2.1>0;rw[ax h]at vt⊢;simp only[ah]at vt⊢;have c:=Bq (v.1,v.2.1,v.2.2.1,Pr v.2.2.2.1,v.2.2.2.2);refine⟨c.1,c.2.1,c.2.2.1,c.2.2.2.2,λ_ hm=>?_⟩;have eu:Pr v.2.2.2.1=v.2.2.2.1+1\/Pr v.2.2.2.1=1000000:=by unfold Pr;rw[ak];split<;>omega
 have t3:(uP (v.1,v.2.1,v.2.2.1,Pr v.2.2.2.1,v.2.2.2.2)).2.2.2.1=Pr v.2.2.2.1:=c.2.2.2.1;cases hd:E5 (v.1,v.2.1,v.2.2.1,Pr v.2.2.2.1,v.2.2.2.2)with
 |true=>left;unfold uP;rw[hd,hm];rfl
 |false=>
  right;have nd:¬(1<=v.2.2.1/\(v.1<=v.2.2.1\/v.2.1<=Pr v.2.2.2.1)):=by rw[<-E6 (v.1,v.2.1,v.2.2.1,Pr v.2.2.2.1,v.2.2.2.2),hd];simp
  rw[t3];omega
 rw[aq h]at vt⊢;simp only[af]at vt⊢;have c:=Bq v;exact⟨c.1,c.2.1,c.2.2.1,c.2.2.2.2,λh1=>by omega⟩
theorem adI (g:Good n h){B:Nat->aw J6->bL->Vector->Bool->Prop}(f:Live Q h)(hk:k<h.2.2.2.1.length)(hB:∀C q v b,ew v=true->v.2.1<=3->v.2.2.2.2.1=b->(b=false->C≠[]->1<=v.2.2.1)->Q k C q v b->B k C q (AL v) b):Live (λj C q v b=>(j=k->B k C q v b)/\(j≠k->Q j C q v b)) (ru k h):=by
 obtain⟨q,p,v,b,g1,g2,g3,g4,hd,x,P,C,F,s,w1,w2,w3,w4⟩:=f.rx k hk;have hv:=g.vec v (aL g3);have ts:=OF hv;obtain⟨hvl,_⟩:=ay.1 g3;have e:ru k h=(h.1,h.2.1,h.2.2.1,h.2.2.2.1,h.2.2.2.2.1,h.2.2.2.2.2.1.set k (AL v),h.2.2.2.2.2.2):=by unfold ru;rw[g3]
 rw[e];refine Live.step (Q:=Q) (Q':=λj C q v b=>(j=k->B k C q v b)/\(j≠k->Q j C q v b)) f hk (Hz g) f.mem rfl rfl rfl (λj hj=>⟨rfl,rfl,aE (cl hj),rfl⟩) (λ_ _ _=>rfl) (λj hj C q v b hA=>⟨λe=>absurd e hj,λ_=>hA⟩) ?_;exact⟨q,p,AL v,b,g1,g2,bf hvl,g4,hd,x,P,C,F,s,by rw[ts.2.1];exact w1,by rw[ts.2.2.2.1];exact w2,λe1 e2=>by rw[ts.2.2.1];exact w3 e1 e2,λ_=>hB C q v b hv w1 w2 w3 w4,λe=>absurd rfl e⟩
theorem acY (g:Good n h)(k:Nat):Good n (ru k h):=by unfold ru;cases hv:h.2.2.2.2.2.1[k]? with|none=>exact g|some v=>exact⟨g.mem,g.maps,g.tx,g.sN,by have:=g.lens;unfold tu at this⊢;rw[az];exact this,g.Tx,g.rx,g.pool,tN g.vec (Sw (g.vec v (aL hv))),g.Er⟩
theorem MD (hn:n<=1000000000000)(g:Good n h){B:Nat->aw J6->bL->Vector->Bool->Prop}(f:Live Q h)(hB:∀k C q v b,ew v=true->v.2.1<=3->v.2.2.2.2.1=b->(b=false->C≠[]->1<=v.2.2.1)->Q k C q v b->B k C q (AL v) b):Live B (sI h):=by
 have hl:=oK g.lens;have key:∀k:Nat,k<=h.2.2.2.1.length->Good n (jt ru k h)/\(jt ru k h).2.2.2.1.length=h.2.2.2.1.length/\Live (λj C q v b=>(j<k->B j C q v b)/\(¬j<k->Q j C q v b)) (jt ru k h):=by intro k;induction k with|zero=>intro _;exact⟨g,rfl,f.FP λk _ C q v b hA=>⟨λe=>by omega,λ_=>hA⟩⟩|succ k ih=>intro hk;obtain⟨i1,i2,i3⟩:=ih (by omega);have st:=adI (B:=B) i1 i3 (k:=k) (by omega) (λC q v b a1 a2 a3 a4 hA=>hB k C q v b a1 a2 a3 a4 (hA.2 (by omega)));refine⟨acY i1 k,((zy k _).rx).trans i2,st.FP λj hj C q v b hA=>⟨λS4=>?_,λS4=>?_⟩⟩;by_cases h1:j=k;subst h1;exact hA.1 rfl;exact(hA.2 h1).1 (by omega);exact(hA.2 (by omega)).2 (by omega)
 unfold sI;rw[g.ok hn,ah,hl.2.2.1];obtain⟨i1,i2,i3⟩:=key h.2.2.2.1.length (bc _);exact i3.FP λj hj C q v b hA=>hA.1 (by omega)
theorem abn (hv:ew v=true):(tI v).1.2.1=v.2.1/\(tI v).2=v.2.2.2.2.2/\(v.2.2.2.2.2=true->(tI v).1.2.2.2.2.1=true)/\(v.2.2.2.2.2=false->(tI v).1=v):=by unfold tI;rw[hv];cases hr:v.2.2.2.2.2 with|true=>exact⟨rfl,rfl,λ_=>rfl,λe=>by cases e⟩|false=>exact⟨rfl,rfl,λe=>(by cases e),λ_=>rfl⟩
theorem TG (hv:ew v=true):(B8 v).2.1=v.2.1/\(B8 v).2.2.2.2.1=false:=by unfold B8;rw[hv,ah];have c:=Bq (v.1,v.2.1,v.2.2.1,v.2.2.2.1,false,v.2.2.2.2.2);exact⟨c.2.1,c.2.2.2.2⟩
theorem aaa (hn:n<=1000000000000)(t:Int)(g:Good n h){B:Nat->aw J6->bL->Vector->Bool->Prop}(f:Live Q h)(hk:k<h.2.2.2.1.length){c:Nat}(hc:1<=c/\c<=1000)(hB:∀C q v b q' v' b',ew v=true->v.2.1<=3->v.2.2.2.2.1=b->(b=false->C≠[]->1<=v.2.2.1)->q'.2.2.2.2.1=q.2.2.2.2.1->Q k C q v b-> ((b=false/\v.2.2.2.2.2=false->b'=false->v'=v->B k C q' v' b')/\(b=true\/v.2.2.2.2.2=true->C.length<c->b'=false->B k [] q' v' b')/\(b=true\/v.2.2.2.2.2=true->¬C.length<c->b'=true->B k (C.drop c) q' v' b'))):Live (λj C q v b=>(j=k->B k C q v b)/\(j≠k->Q j C q v b)) (CY (c:Int) k (t,h)).2:=by
 have En:kT k=1280+1792*k:=rfl;have h2:=Hz g;obtain⟨q,p,v,b,g1,g2,g3,g4,hd,x,P,C,F,s,w1,w2,w3,w4⟩:=f.rx k hk;have hv:=g.vec v (aL g3);have tv:=abn hv;have vt:=abw hv;have rq:=(g.rx q (aL g1)).rx hn;obtain⟨m1,⟨x',P',s'⟩,m3,m4,m5⟩:=aik f.mem (by omega) s rq h.2.2.2.2.2.2.2.2.2.1 (b:=c) (by omega);obtain⟨hql,_⟩:=ay.1 g1;obtain⟨Gf,_⟩:=ay.1 g2;obtain⟨hvl,_⟩:=ay.1 g3;obtain⟨hbl,_⟩:=ay.1 g4;unfold CY;simp only[g1,g2,g3,g4,f.maps];generalize hR:jc (bZ 38) h.1 0 q p h.2.2.2.2.2.2.2.2.2.1 (c:Int)=R at m1 s' m3 m4 m5;cases hpt:b||(tI v).2 with
 |false=>
  simp only[cA]at hpt;have hr:v.2.2.2.2.2=false:=by rw[<-tv.2.1];exact hpt.2
  have ev:=tv.2.2.2 hr;simp only[af];refine Live.step (Q:=Q) (Q':=λj C q v b=>(j=k->B k C q v b)/\(j≠k->Q j C q v b)) f hk h2 f.mem f.maps.symm rfl rfl (λj hj=>⟨rfl,rfl,aE (cl hj),aE (cl hj)⟩) (λ_ _ _=>rfl) (λj hj C q v b hA=>⟨λe=>absurd e hj,λ_=>hA⟩) ?_;refine⟨q,p,(tI v).1,false,g1,g2,bf hvl,bf hbl,hd,x,P,C,F,s,by rw[ev];exact w1,by rw[ev,w2];exact hpt.1,λ_ e2=>by rw[ev];exact w3 hpt.1 e2,λ_=>?_,λe=>absurd rfl e⟩;exact(hB C q v b q (tI v).1 false hv w1 w2 w3 rfl w4).1 ⟨hpt.1,hr⟩ rfl ev
 |true=>
  simp only[cY]at hpt;have hpt:b=true\/v.2.2.2.2.2=true:=by rw[<-tv.2.1];exact hpt
  have msk:(tI v).1.2.2.2.2.1=true:=by cases hr:v.2.2.2.2.2 with|true=>exact tv.2.2.1 hr|false=>rw[tv.2.2.2 hr,w2];rcases hpt with e|e;exact e;rw[hr]at e;cases e
  simp only[ah,m3];have um:=TG vt;refine Live.step (Q:=Q) (Q':=λj C q v b=>(j=k->B k C q v b)/\(j≠k->Q j C q v b)) f hk h2 m1 f.maps.symm rfl (az ..) (λj hj=>⟨aE (cl hj),aE (cl hj),aE (cl hj),aE (cl hj)⟩) (λi hi ho=>m5 i hi (by omega)) (λj hj C q v b hA=>⟨λe=>absurd e hj,λ_=>hA⟩) ?_;by_cases hcl:C.length<c;have ed:C.drop c=[]:=cI (by omega);rw[ed]at s';have e1:decide (((min c C.length:Nat):Int)<(c:Int))=true:=jP;rw[e1];refine⟨R.2.1,R.2.2.1,B8 (tI v).1,false,bf hql,bf Gf,bf hvl,bf hbl,hd,x',P',[],[],s',by rw[um.1,tv.1];exact w1,um.2,λ_ e=>absurd rfl e,λ_=>?_,λe=>absurd rfl e⟩;exact(hB C q v b R.2.1 _ false hv w1 w2 w3 m4 w4).2.1 hpt hcl rfl;have e1:decide (((min c C.length:Nat):Int)<(c:Int))=false:=cL;rw[e1];refine⟨R.2.1,R.2.2.1,(tI v).1,true,bf hql,bf Gf,bf hvl,bf hbl,hd,x',P',C.drop c,[],s',by rw[tv.1];exact w1,msk,(λe=>by cases e),λ_=>?_,λe=>absurd rfl e⟩;exact(hB C q v b R.2.1 _ true hv w1 w2 w3 m4 w4).2.2 hpt hcl rfl
theorem K9 (hn:n<=1000000000000)(g:Good n h){B:Nat->aw J6->bL->Vector->Bool->Prop}(f:Live Q h){c:Nat}(hc:1<=c/\c<=1000)(hB:∀k C q v b q' v' b',ew v=true->v.2.1<=3->v.2.2.2.2.1=b->(b=false->C≠[]->1<=v.2.2.1)->q'.2.2.2.2.1=q.2.2.2.2.1->Q k C q v b-> ((b=false/\v.2.2.2.2.2=false->b'=false->v'=v->B k C q' v' b')/\(b=true\/v.2.2.2.2.2=true->C.length<c->b'=false->B k [] q' v' b')/\(b=true\/v.2.2.2.2.2=true->¬C.length<c->b'=true->B k (C.drop c) q' v' b'))):Live B (jF h (c:Int)).1:=by
 have key:∀k:Nat,k<=h.2.2.2.1.length->Good n (pM (c:Int) k h).2/\(pM (c:Int) k h).2.2.2.2.1.length=h.2.2.2.1.length/\Live (λj C q v b=>(j<k->B j C q v b)/\(¬j<k->Q j C q v b)) (pM (c:Int) k h).2:=by intro k;induction k with|zero=>intro _;exact⟨g,rfl,f.FP λk _ C q v b hA=>⟨λe=>by omega,λ_=>hA⟩⟩|succ k ih=>intro hk;obtain⟨i1,i2,i3⟩:=ih (by omega);have st:=aaa (B:=B) hn (pM (c:Int) k h).1 i1 i3 (k:=k) (by omega) hc (λC q v b q' v' b' a1 a2 a3 a4 a5 hA=>hB k C q v b q' v' b' a1 a2 a3 a4 a5 (hA.2 (by omega)));refine⟨NF (c:Int) k i1,((Ob (c:Int) k _).rx).trans i2,st.FP λj hj C q v b hA=>⟨λS4=>?_,λS4=>?_⟩⟩;by_cases h1:j=k;subst h1;exact hA.1 rfl;exact(hA.2 h1).1 (by omega);exact(hA.2 (by omega)).2 (by omega)
 unfold jF;rw[g.ok hn,aU.2 ⟨by omega,by omega⟩];obtain⟨i1,i2,i3⟩:=key h.2.2.2.1.length (bc _);exact i3.FP λj hj C q v b hA=>hA.1 (by show j<_;rw[<-i2];exact hj)
abbrev alx:Nat->aw J6->bL->Vector->Bool->Prop:=λ_ C q _ b=>C=[]/\b=false/\q.2.2.2.2.1=false/\bS q.1=4
theorem afE (hm:gI m)(hk:k<=1)(u:qP×Bool×Int)(hu:u.2.1=false)(h1:v.2.1<=3)(h2:v.2.2.2.2.1=false):QI (alx k) (kZ (bZ 38) m k).1 k ((kZ (bZ 38) m k).2.1,(gR k+64,4,0),(gR k+64,4,0),u) (kZ (bZ 38) m k).2.2.1 v false:=by
 obtain⟨_,⟨P,s⟩,_⟩:=MQ hm hk u;have hl:P.length=4:=by have:=s.perm.length_eq;simpa[Ki]using this
 have hr:=s.ring;simp only at hr;exact⟨0,0,P,[],[],s,h1,h2,λ_ e=>absurd rfl e,rfl,rfl,hu,by show bS (kZ (bZ 38) m k).2.1=4;rw[hr,(vE (Or.inl rfl) (by unfold kT;omega)).2,hl];rfl⟩
structure Di (k:Nat) (h:Host):Prop where
 maps:h.2.1=bZ 38
 mem:gI h.1
 tx:∃hd L,TxS h.1 h.2.2.1 hd L
 lens:h.2.2.2.1.length<=2/\h.2.2.2.2.1.length=h.2.2.2.1.length/\h.2.2.2.2.2.1.length=h.2.2.2.1.length/\h.2.2.2.2.2.2.1.length=h.2.2.2.1.length
 vec:∀v∈h.2.2.2.2.2.1,v.2.1<=3
 rx:∀j,j<k->ajc (alx j) h j
theorem aeg (r:Di k h)(hk:k<h.2.2.2.1.length):Di (k+1) (wN k h):=by
 have hn:kT k=1280+1792*k:=rfl;obtain⟨l1,l2,l3,l4⟩:=r.lens;have hv:k<h.2.2.2.2.2.1.length:=by omega
 have hp:k<h.2.2.2.2.1.length:=by omega
 have hb:k<h.2.2.2.2.2.2.1.length:=by omega
 have hk1:k<=1:=by omega
 unfold wN;simp only[al hk,al hv];unfold Hc;rw[r.maps];obtain⟨o1,⟨P,o2⟩,o3⟩:=MQ r.mem hk1 ((CX k).2.2.2.1,(CX k).2.2.2.2.1,F2 h.2.2.2.1[k]);have hv3:=r.vec _ (aK hv);have q:=afE r.mem hk1 ((CX k).2.2.2.1,(CX k).2.2.2.2.1,F2 h.2.2.2.1[k]) rfl (v:=(h.2.2.2.2.2.1[k].1,h.2.2.2.2.2.1[k].2.1,0,0,false,false)) hv3 rfl;generalize kZ (bZ 38) h.1 k=O at o1 o2 o3 q;obtain⟨hd,L,s⟩:=r.tx;refine⟨rfl,o1,⟨hd,L,s.frame λi hi=>o3 i (by omega) (by omega)⟩,⟨by show(List.set _ _ _).length<=2;rw[az];exact l1,by show(List.set _ _ _).length=(List.set _ _ _).length;rw[az,az];exact l2,by show(List.set _ _ _).length=(List.set _ _ _).length;rw[az,az];exact l3,by show(List.set _ _ _).length=(List.set _ _ _).length;rw[az,az];exact l4⟩,λv S9=>?_,λj hj=>?_⟩;rcases cK S9 with e|e;exact r.vec v e;rw[e];exact hv3;by_cases S4:j=k;subst S4;exact⟨_,_,_,_,bf hk,bf hp,bf hv,bf hb,q⟩;have hj2:kT j=1280+1792*j:=rfl;obtain⟨q',p',v',b',g1,g2,g3,g4,g5⟩:=r.rx j (by omega);refine⟨q',p',v',b',?_,?_,?_,?_,g5.frame λi h1 h2=>o3 i (by omega) (by omega)⟩;show(List.set _ _ _)[j]?=_;rw[aE (cl S4)];exact g1;show(List.set _ _ _)[j]?=_;rw[aE (cl S4)];exact g2;show(List.set _ _ _)[j]?=_;rw[aE (cl S4)];exact g3;show(List.set _ _ _)[j]?=_;rw[aE (cl S4)];exact g4
theorem U3 (r:Di 0 h):∀k,k<=h.2.2.2.1.length->Di k (iQ h k)
 |0,_=>r
 |k+1,hk=>aeg (U3 r k (by omega)) (by have e:=(rJ h k).rx;show k<(iQ h k).2.2.2.1.length;omega)
theorem Di.new (r:Di h.2.2.2.1.length h):Live alx h:=⟨r.maps,r.mem,r.tx,λk hk=>r.rx k hk⟩
theorem Di.live (r:Di h.2.2.2.1.length h):Live OK h:=r.new.FP λ_ _ _ _ _ _ _=>trivial
theorem N1 (h:Host):∀k,Dh h (mX h k)/\(mX h k).1.length=h.1.length
 |0=>⟨Dh.refl h,rfl⟩
 |k+1=>by have i:=N1 h k;refine⟨i.1.trans (N2 ..),Eq.trans ?_ i.2⟩;show(wM (mX h k) k 1000).2.1.length=_;unfold wM;rcases(mX h k).2.2.2.1[k]? with _|rx;rfl;rcases(mX h k).2.2.2.2.1[k]? with _|pl;rfl;exact Xn ..
theorem I4 (h:Host):∀k,aoE (kj h) (returned h k)
 |0=>⟨rfl⟩
 |k+1=>by have i:=I4 h k;have e:returned h (k+1)=M6 h.2.2.1.2.2.1 k (returned h k):=rfl;rw[e];unfold M6;cases h.2.2.1.2.2.1[k]? with|none=>exact i|some x=>refine⟨?_⟩;show aaQ _ _=_;have e:=i.e;generalize returned h k=r at e⊢;rw[e];rfl
theorem ait (hn:n<=1000000000000)(g:Good n h)(f:Live Q h):Live alx (qF h):=by
 have hl:=oK g.lens;have hv:∀v∈h.2.2.2.2.2.1,v.2.1<=3:=by intro v hv;obtain⟨k,hk⟩:=eV hv;obtain⟨hG,_⟩:=ay.1 hk;obtain⟨q,p,v',b,g1,g2,g3,g4,hd,x,P,C,F,s,w1,w2,w3,w4⟩:=f.rx k (by omega);rw[hk]at g3;rw[bP g3];exact w1
 have gp:=Fg g h.2.2.2.1.length;obtain⟨kp,km⟩:=N1 h h.2.2.2.1.length;have e0:kj h=mX h h.2.2.2.1.length:=rfl;have er:=(I4 h h.2.2.1.2.2.1.length).e;rw[<-e0]at gp kp km;have ee:jq h=XR (returned h h.2.2.1.2.2.1.length):=rfl;generalize returned h h.2.2.1.2.2.1.length=R at er ee;have x1:(jq h).1=(kj h).1:=by rw[ee,er];rfl
 have x2:(jq h).2.1=(kj h).2.1:=by rw[ee,er];rfl
 have x3:(jq h).2.2.2.1=(kj h).2.2.2.1:=by rw[ee,er];rfl
 have x4:(jq h).2.2.2.2.1=(kj h).2.2.2.2.1:=by rw[ee,er];rfl
 have x5:(jq h).2.2.2.2.2.1=(kj h).2.2.2.2.2.1:=by rw[ee,er];rfl
 have x6:(jq h).2.2.2.2.2.2.1=(kj h).2.2.2.2.2.2.1:=by rw[ee,er];rfl
 have xt:∃y,(jq h).2.2.1=(Bm.1,Bm.2.1,Bm.2.2.1,y):=⟨_,by rw[ee];rfl⟩
 obtain⟨y,xt⟩:=xt;have np:=(Hf (a:=256) (b:=128) (n:=8)).1;have r0:Di 0 (jq h):=by refine⟨by rw[x2,kp.maps];exact f.maps,by rw[x1];exact gI.of gp.mem (by rw[km];exact f.mem.ln),⟨0,[],?_⟩,?_,λv S9=>?_,λj hj=>by omega⟩;rw[xt];refine⟨rfl,⟨by simp,λj hj=>by simp at hj⟩,rfl,(λc hc=>by cases hc),?_⟩;show(gK 256 128 8).1.1=256/\(gK 256 128 8).1.2.1=128/\(gK 256 128 8).1.2.2.1=8;rw[np];exact⟨rfl,rfl,rfl⟩;rw[x3,x4,x5,x6,kp.rx,kp.pl,kp.vec,kp.pol];exact hl;rw[x5,kp.vec]at S9;exact hv v S9
 unfold qF;rw[g.ok hn,ah];have e3:h.2.2.2.1.length=(jq h).2.2.2.1.length:=by rw[x3,kp.rx]
 have ra:=U3 r0 h.2.2.2.1.length (by omega);refine Di.new ?_;rw[(rJ (jq h) h.2.2.2.1.length).rx,<-e3];exact ra
theorem Rl (hn:n<=1000000000000)(g:Good n h)(f:Live Q h):Live OK (qF h):=(ait hn g f).FP λ_ _ _ _ _ _ _=>trivial
theorem Tf (hn:n<=1000000000000)(g:Good n h)(f:Live Q h)(b:Int):Live OK (jF h b).1:=by
 cases hb:di b 1 1000 with
 |true=>have hb:=aU.1 hb;obtain⟨c,rfl⟩:=aD (show 0<=b by omega);exact K9 hn g f (c:=c) ⟨by omega,by omega⟩ λk C q v b q' v' b' _ _ _ _ _ _=>⟨λ_ _ _=>trivial,λ_ _ _=>trivial,λ_ _ _=>trivial⟩
 |false=>unfold jF;rw[hb,eM];exact f.FP λ_ _ _ _ _ _ _=>trivial
abbrev aaN (r:Nat):Nat->aw J6->bL->Vector->Bool->Prop:=λ_ C q v b=>q.2.2.2.2.1=false/\(C≠[]->C.length+(bif b then 0 else(v.2.1-v.2.2.2.1).toNat)<=r)
abbrev atf (r:Nat):Nat->aw J6->bL->Vector->Bool->Prop:=λ_ C q v b=>q.2.2.2.2.1=false/\(C≠[]->C.length<=r/\(b=false->v.2.2.2.2.2=false->C.length+(v.2.1-v.2.2.2.1).toNat+1<=r))
theorem ahH (g:Good n h)(f:Live ao9 h):Live (aaN 7) h:=by refine⟨f.maps,f.mem,f.tx,λk hk=>?_⟩;obtain⟨q,p,v,b,g1,g2,g3,g4,hd,x,P,C,F,s,w1,w2,w3,w4⟩:=f.rx k hk;have hv:=(uL v).1 (g.vec v (aL g3));have hc:=s.com.len;refine⟨q,p,v,b,g1,g2,g3,g4,hd,x,P,C,F,s,w1,w2,w3,w4,λ_=>?_⟩;cases b with|true=>show C.length+0<=7;omega|false=>show C.length+(v.2.1-v.2.2.2.1).toNat<=7;omega
theorem adH (hn:n<=1000000000000)(g:Good n h){c:Nat}(hc:1<=c/\c<=1000)(f:Live (aaN r) h):Live (aaN (r-1)) (jF (sI h) (c:Int)).1:=by
 have t:Live (atf r) (sI h):=by
  refine MD hn g f λk C q v b hv w1 w2 w3 hA=>⟨hA.1,λhC=>?_⟩
  have ts:=OF hv;have hr:=hA.2 hC;cases b with|true=>have hr:C.length+0<=r:=hr;exact⟨by omega,λe=>by cases e⟩|false=>have hr:C.length+(v.2.1-v.2.2.2.1).toNat<=r:=hr;refine⟨by omega,λ_ e=>?_⟩;rcases ts.2.2.2.2 (w3 rfl hC) w2 with g1|g1;rw[e]at g1;cases g1;rw[ts.2.1];omega
 refine K9 hn (HV g) t hc λk C q v b q' v' b' hv w1 w2 w3 hq hA=>⟨λhb iy S9=>⟨hq.trans hA.1,λhC=>?_⟩,λ_ _ _=>⟨hq.trans hA.1,λe=>absurd rfl e⟩,λ_ hl iy=>⟨hq.trans hA.1,λhC=>?_⟩⟩
 have:=(hA.2 hC).2 hb.1 hb.2;subst iy S9;show C.length+(v'.2.1-v'.2.2.2.1).toNat<=r-1;omega;subst iy;have hC':C≠[]:=λe=>hC (by rw[e];simp);have:=(hA.2 hC').1;have:0<C.length:=List.length_pos_iff.2 hC';show(C.drop c).length+0<=r-1;rw[aM];omega
theorem DC (b:Int)(g:Good n h):∀k,Good n (Cs b k h)
 |0=>g
 |k+1=>Ky (HV (DC b g k)) b
theorem NT (hn:n<=1000000000000)(g:Good n h){c:Nat}(hc:1<=c/\c<=1000)(f:Live (aaN r) h):∀k,Live (aaN (r-k)) (Cs (c:Int) k h)
 |0=>f
 |k+1=>by have i:=NT hn g hc f k;have:=adH hn (DC (c:Int) g k) hc i;rw[show r-(k+1)=r-k-1 by omega];exact this
theorem aou:TxS m Bm 0 []:=by have np:=(Hf (a:=256) (b:=128) (n:=8)).1;refine⟨rfl,⟨by simp,λj hj=>by simp at hj⟩,rfl,(λc hc=>by cases hc),?_⟩;show(gK 256 128 8).1.1=256/\(gK 256 128 8).1.2.1=128/\(gK 256 128 8).1.2.2.1=8;rw[np];exact⟨rfl,rfl,rfl⟩
theorem ahG (f:Filter)(s:dQ)(c:Bool):Di 0 (QO f s c 38):=by refine⟨rfl,⟨λx hx=>?_,?_⟩,⟨0,[],aou⟩,⟨cd _,rfl,rfl,rfl⟩,(λv hv=>by cases hv),λj hj=>by omega⟩;have hx:x∈List.replicate 38 (sK 128):=hx;rw[(List.mem_replicate.1 hx).2];exact xi 128;show(List.replicate 38 (sK 128)).length=38;simp
theorem afh {l:aw α}{j:Nat}(hl:l.length=k)(hj:j<k)(x y:α):((l++[x]).set k y)[j]?=l[j]?:=by rw[aE (by omega),bp (by omega)]
theorem YT {l:aw α}(hl:l.length=k)(x y:α):((l++[x]).set k y)[k]?=some y:=bf (by simp;omega)
theorem afi {l:aw α}{j:Nat}(hl:l.length=k)(hj:j<k)(x:α):(l++[x])[j]?=l[j]?:=bp (by omega)
theorem WA {l:aw α}(hl:l.length=k)(x:α):(l++[x])[k]?=some x:=by rw[<-hl];simp
theorem ah6 (r:Di h.2.2.2.1.length h)(hk:h.2.2.2.1.length<=1)(h3:v.2.1<=3/\v.2.2.2.2.1=false):Di (h.2.2.2.1.length+1) (Li (h.1,h.2.1,h.2.2.1,h.2.2.2.1++[((0,0,0,0),(0,0,0),(0,0,0),((0,0,0,0,0,0,0,0,0,0,0,0,0,0,0,([]:Bytes)),0,0),false,0)],h.2.2.2.2.1++[(0,0,0,([]:cc))],h.2.2.2.2.2.1++[v],h.2.2.2.2.2.2.1++[false],h.2.2.2.2.2.2.2) h.2.2.2.1.length)/\(Li (h.1,h.2.1,h.2.2.1,h.2.2.2.1++[((0,0,0,0),(0,0,0),(0,0,0),((0,0,0,0,0,0,0,0,0,0,0,0,0,0,0,([]:Bytes)),0,0),false,0)],h.2.2.2.2.1++[(0,0,0,([]:cc))],h.2.2.2.2.2.1++[v],h.2.2.2.2.2.2.1++[false],h.2.2.2.2.2.2.2) h.2.2.2.1.length).2.2.2.1.length=h.2.2.2.1.length+1:=by obtain⟨l0,l2,l3,l4⟩:=r.lens;generalize S5:h.2.2.2.1.length=k at*;have l1:=S5;have hn:kT k=1280+1792*k:=rfl;unfold Li;simp only[WA l1,r.maps];obtain⟨o1,⟨P,o2⟩,o3⟩:=MQ r.mem hk (((0,0,0,0,0,0,0,0,0,0,0,0,0,0,0,([]:Bytes)),0,0),false,0);have q:=afE r.mem hk (((0,0,0,0,0,0,0,0,0,0,0,0,0,0,0,([]:Bytes)),0,0),false,0) rfl (v:=v) h3.1 h3.2;generalize kZ (bZ 38) h.1 k=O at o1 o2 o3 q;obtain⟨hd,L,st⟩:=r.tx;refine⟨⟨rfl,o1,⟨hd,L,st.frame λi hi=>o3 i (by omega) (by omega)⟩,?_,λw hw=>?_,λj hj=>?_⟩,?_⟩;show(List.set _ _ _).length<=2/\(List.set _ _ _).length=(List.set _ _ _).length/\(_++[_]).length=(List.set _ _ _).length/\(_++[_]).length=(List.set _ _ _).length;simp only[az,ai,aY];omega;rcases aA.1 hw with e|e;exact r.vec w e;rw[br.1 e];exact h3.1;by_cases S4:j=k;subst S4;exact⟨_,_,v,false,YT l1 _ _,YT l2 _ _,WA l3 v,WA l4 false,q⟩;have hj2:kT j=1280+1792*j:=rfl;obtain⟨q',p',v',b',g1,g2,g3,g4,g5⟩:=r.rx j (by omega);exact⟨q',p',v',b',(afh l1 (by omega) _ _).trans g1,(afh l2 (by omega) _ _).trans g2,(afi l3 (by omega) v).trans g3,(afi l4 (by omega) false).trans g4,g5.frame λi h1 h2=>o3 i (by omega) (by omega)⟩;show(List.set _ _ _).length=_;simp only[az,ai,aY];omega
theorem QN (f:Filter)(s:dQ)(c:Bool):∀vs:aw Vector,vs.length<=2->(∀v∈vs,v.2.1<=3/\v.2.2.2.2.1=false)->Di (Bj f s c vs).2.2.2.1.length (Bj f s c vs)/\(Bj f s c vs).2.2.2.1.length=vs.length
 |[],_,_=>⟨ahG f s c,rfl⟩
 |v::vs,hl,hv=>by simp only[aP]at hl;have i:=QN f s c vs (by omega) λw hw=>hv w (by simp[hw]);have o:=ah6 (v:=v) i.1 (by omega) (hv v (by simp));rw[Bj];rw[i.2]at o;refine⟨?_,by rw[o.2];rfl⟩;rw[o.2];exact o.1
theorem agA {k:Host}(e:TP h=TP k)(f:Live Q k):Live Q h:=by obtain⟨a1,a2,a3,a4,a5,a6,a7,a8⟩:=h;obtain⟨b1,b2,b3,b4,b5,b6,b7,b8⟩:=k;unfold TP at e;simp only[Prod.mk.injEq]at e;obtain⟨rfl,rfl,rfl,rfl,rfl,rfl,rfl⟩:=e;exact⟨f.maps,f.mem,f.tx,f.rx⟩
theorem agT (f:Iw h):Live alx h:=by obtain⟨fl,s,c,vs,hl,e,hv⟩:=f.is;exact agA e (QN fl s c vs hl hv).1.new
theorem acW (f:Iw h):Live OK h:=(agT f).FP λ_ _ _ _ _ _ _=>trivial
theorem amW (f:α->α)(l:aw α)(i:Nat)(h:i<l.length):((l.take i).map f++l.drop i).set i (f l[i])=(l.take (i+1)).map f++l.drop (i+1):=by
 have e:((l.take i).map f).length=i:=by simp;omega
 rw[List.set_append_right _ _ (by omega),e,iC,bW h,List.set_cons_zero,bl h,cZ,aR];rfl
theorem amU (f:α->α)(l:aw α)(i:Nat)(h:i<l.length)(h2:i<((l.take i).map f++l.drop i).length):((l.take i).map f++l.drop i)[i]=l[i]:=by
 have e:((l.take i).map f).length=i:=by simp;omega
 rw[List.getElem_append_right (by omega)];simp only[e,iC,List.getElem_drop,dX]
theorem amV (f:α->α)(l:aw α)(i:Nat)(h:i<=l.length):((l.take i).map f++l.drop i).length=l.length:=by simp;omega
theorem ac8 {R:Type}(K:Int->Host->aB R)(b:Int)(r:Nat)(hr:r<=200)(h:Host)(z:zC 200000000 h)(v8 v29 v30:Int)(b6 b7:cW): bj (pa K b (r:Int) v8 v29 v30 b6 b7) fuel (0,h)=K (r:Int) (Cs b r h):=by have D7:=eX;refine dG (λi=>((i:Int),Cs b i h)) r (by omega) (λi nx hi=>?_) (λnx=>?_);have zi:=Md b (by omega) z i;have z2:=LQ (by omega) zi;simp only[pa];rw[jP,ah,Q6 _ (zi.sz) (zi.z.mono),ab,NQ _ b (z2.mono),ab,ak];rfl;simp only[pa];rw[cL,af]
def vf (b:Int)(r:Nat)(h:Host):Host:=Cs b r (oY h)
def PR (c:cW)(b r:Int):cW:=bif jT c&&(di b 1 1000&&di r 0 200) then(c.1.map (vf b r.toNat),c.2) else c
theorem akX (c:cW)(b r:Int)(k:Bn 200000000 c):zG c b r=some (PR c b r):=by
 have D7:=eX;unfold zG PR;rw[nJ c (k.z.mono),ab,xz c (k.sz),cx,cx];simp only[ab];cases hb:jT c;rfl;cases hi0:di b 1 1000;rfl;cases hi1:di r 0 200;rfl;have hr:=aU.1 hi1;obtain⟨r,rfl⟩:=aD hr.1;have h3:=(Jn hb).2.2;simp only[aj,af,ab,cq,ah,au];refine dG (λi=>((i:Int),((c.1.take i).map (vf b r)++c.1.drop i,c.2))) c.1.length (by omega) (λi nx hi=>?_) (λnx=>?_);have hl:=amV (vf b r) c.1 i (by omega);have hg:=amU (vf b r) c.1 i hi;have hs:=amW (vf b r) c.1 i hi;have hx:=k.h _ (aK hi);generalize (c.1.take i).map (vf b r)++c.1.drop i=W at hl hg hs⊢;have hW:i<W.length:=by omega
 simp only[tU];rw[jP,ah,bB hW,ab,hg,QZ _ (hx.mono),ab,ac8 _ b r (by omega) _ (Mh (by omega) hx)];simp only[ab,au];rw[ak,show Cs b r (oY c.1[i])=vf b r c.1[i] from rfl,hs];rfl;simp only[tU];rw[cL,af,cO,gN,bD]
theorem aju {n:Nat}(hn:1000<=n)(b:Int)(r:Nat)(hr:r<=200)(z:zC n h):zC (n+128800000) (vf b r h):=(Md b hn (Mh hn z) r).mono
theorem ajv {n:Nat}(hn:1000<=n)(b r:Int)(z:Bn n c):Bn (n+128800000) (PR c b r)/\(PR c b r).1.length=c.1.length:=by
 unfold PR;cases hb:jT c&&(di b 1 1000&&di r 0 200);exact⟨z.mono,rfl⟩;simp only[ae]at hb;have hr:=aU.1 hb.2.2;have hh:∀x∈c.1.map (vf b r.toNat),zC (n+128800000) x:=by intro x hx;obtain⟨y,hy,rfl⟩:=dB.1 hx;exact aju hn b r.toNat (by omega) (z.h y hy)
 have z':=z.mono (show n<=n+128800000 by omega);refine⟨⟨⟨⟨?_,λx hx=>(hh x hx).z⟩,z'.z.2⟩,hh⟩,bF ..⟩;show(c.1.map (vf b r.toNat)).length<=_;rw[bF];exact z'.z.1.1
abbrev sP (c:cW):Prop:=∀h∈c.1,Live OK h
theorem H8 (l:sP c)(lh:Live OK h)(k:Nat):sP (R3 c k h):=by intro x hx;rcases cK hx with e|e;exact l x e;rw[e];exact lh
theorem UH {f:Host->Host}(hf:∀h∈c.1,Live OK (f h)){X:aw aZ×aw bN×bO×lZ×cc×bO}:sP (c.1.map f,X):=by intro x hx;obtain⟨h,hh,rfl⟩:=dB.1 hx;exact hf h hh
theorem gk.afl (g:gk n c)(hh:h∈c.1):Good n h:=by obtain⟨i,hi⟩:=eV hh;exact g.at hi
theorem adG (hn:n<=400000000000)(g:gk n c)(l:sP c)(ps:aw Port)(v:Int)(p:aN)(j:Nat):sP (dp ps v p c j):=by unfold dp;cases j==0 with|true=>exact l|false=>simp only[af];cases hc:c.1[j-1]? with|none=>exact l|some h=>exact H8 l (K8 hn (g.at hc) (l h (aL hc)) _) _
theorem UI (ps:aw Port)(v:Int)(p:aN):∀(q:fM){n:Int}{c:cW},n+641*(q.length:Int)<=400000000000->gk n c->sP c->sP (M8 ps v p c q)
 |[],n,c,_,_,l=>l
 |j::q,n,c,hn,g,l=>by simp only[aP]at hn;exact UI ps v p q (n:=n+641) (by omega) (QC (by omega) g ps v p j) (adG (by omega) g l ps v p j)
theorem IW (hn:n<=390000000000)(g:gk n c)(l:sP c)(e:Int)(p:aN):sP (od c e p):=by unfold od;cases decide (oW (dw c.2.2.1).1 e p<0)with|true=>exact l|false=>have h1:=DX (dw c.2.2.1).1 e p;have h2:=(U1 c.2.2.1).1;exact UI _ _ _ _ (by omega) g l
theorem Xa (hn:n<=390000000000)(g:gk n c)(l:sP c)(e:Int)(p:aN):sP (qM c e p):=by unfold qM;cases jT c&&eY p with|true=>exact IW hn g l e p|false=>exact l
theorem adF (hn:n<=380000000000)(g:gk n c)(l:sP c)(k:Int)(x:Bytes):sP (Bl (dw c.2.2.1).1 k c x):=by have q:=QA (by omega) g k (gn x).1;unfold Bl;cases (vH c.2.1 (dw c.2.2.1).1 k (gn x).1).2.2 with|true=>exact Xa (by omega) q l _ _|false=>exact l
theorem NS (k:Int)(ps:aw Port):∀(q:bO){n:Int}{c:cW},n+2565*(q.length:Int)<=380000000000->ps=(dw c.2.2.1).1->gk n c->sP c->sP (ES ps k c q)
 |[],n,c,_,_,_,l=>l
 |x::q,n,c,hn,hp,g,l=>by simp only[aP]at hn;have s:=Qy (by omega) g k x;have t:=adF (by omega) g l k x;rw[<-hp]at s t;exact NS k ps q (n:=n+2565) (by omega) (by rw[(JF ps k c x).boxes];exact hp) s t
theorem alk (hn:n<=300000000000)(g:gk n c)(l:sP c)(k:Int):sP (tP c k):=by unfold tP;cases jT c&&(!decide (k<0)&& !decide (k>=(c.1.length:Int)));exact l;simp only[ah];cases hc:c.1[k.toNat]? with|none=>exact l|some h=>have q:=HU g (cU n) hc (D4 (g.at hc)) (Fb h);have t:=H8 l (IX (by omega) (g.at hc) (l h (aL hc))).1 k.toNat;have hl:=Ia h;exact NS k (dw c.2.2.1).1 (Lg h) (c:=R3 c k.toNat (dy h)) (by omega) rfl q t
theorem alm (hn:n<=400000000000)(g:Good n h)(f:Live OK h)(a:Act):Live OK (Io h a).1:=by
 unfold Io;cases !eT h|| !Gn a;case true=>exact f
 simp only[af];cases a.1==0;case true=>exact ahI g f _ _ _
 cases a.1==1;case true=>exact(IX (by omega) g f).1
 cases a.1==2;case true=>exact K8 hn g f _
 cases a.1==3 with|true=>exact(Rk hn g f).FP λ_ _ _ _ _ _ _=>trivial|false=>?_
 cases a.1==4 with|true=>exact MD (by omega) g f λ_ _ _ _ _ _ _ _ _ _=>trivial|false=>?_
 cases a.1==5 with|true=>exact Tf (by omega) g f _|false=>exact Rl (by omega) g f
theorem Z7 {N:Nat}{a:eJ}(hn:n<=10000000000)(hN:1000<=N/\N<=50000000)(g:gk n c)(z:Bn N c)(l:sP c)(ha:qd (c.1.length:Int) a):Ends (ta c a) (λr=>sP r.1):=by
 have p:=mw g.uM;have hlen:=g.len;have z9:dC 1000000000 uZ c:=z.z.mono;have zh:∀h∈c.1,zC 90000000 h:=λh hh=>(z.h h hh).mono;unfold ta;rw[nJ c z9,ab,xz c (z.sz),g.ok (by omega),ab];have ok:py a (c.2.1.length:Int)=some true:=by unfold py;simp only[WU,cx,ab,ha.ok,ah];rw[ak (n:=(c.2.1.length:Int)-1),aU.2 ⟨ha.fn.1,by have:=ha.fn.2;omega⟩,ah,aU.2 ha.kind,ah,aU.2 ha.part];rfl
 simp only[aj,af,ok,ab];obtain⟨k,hk⟩:∃k:Nat,a.2.1=k:=⟨a.2.1.toNat,by have:=ha.fn.1;omega⟩
 have SI:=ha.fn;rw[hk]at SI;have S6:k<c.1.length:=by omega
 have Ui:k<c.2.2.1.length:=by omega
 refine Ends.cond (λk1=>?_) λk1=>?_;rw[F8 c _ _ (z.z.mono) (z.sz),ab,hk];have hb:=al Ui;by_cases e1:a.2.2.2.1.1=c.2.2.1[k].2.1+1;obtain⟨h,b',eh,e2,_,_,e5,e6⟩:=Np g (by omega) hb (m:=a.2.2.2.1) e1;rw[e2];have lh:=l h (aL eh);exact Ends.pure (H8 l (h:=tJ h b'.1) ⟨lh.maps,lh.mem,lh.tx,lh.rx⟩ k);have e2:∃x,oT c.2.2.1 k a.2.2.2.1=(c.2.2.1,x):=by by_cases e3:a.2.2.2.1.1=c.2.2.1[k].2.1;exact⟨_,PM g.uM hb e3⟩;exact⟨_,Nm g.uM hb e3 e1⟩
 obtain⟨x,e2⟩:=e2;rw[Nq g (by omega) hb e2];exact Ends.pure l;refine Ends.cond (λk2=>?_) λk2=>?_;have hf:=Jl g.L7;refine(abg (f:=c.2.2.2.1) (s:=a.2.2.2.2.1) (by have:=ha.img;omega)).bind λr6 p6=>(Vu hf p6.1 p6.2 a.2.2.2.2.2 (by have:=ha.part;omega)).bind λf' p7=>?_;rw[RQ _ _ c.1 _ (by omega) zh,Uo (show lg f'=true from p7.1),ab];exact Ends.pure (UH λh hh=>Rl (by omega) (g.afl hh) (l h hh));have ac:=ha.act;have bound:=ac.2.1;refine Ends.cond (λk3=>?_) λk3=>?_;rw[QW c _ (z.mono),ab];exact Ends.pure (alk (by omega) g l _);refine Ends.cond (λk4=>?_) λk4=>?_
 ·rw[F9 c _ (z.mono),ab];refine Ends.pure ?_;show sP (pK c _);unfold pK;cases !jT c;case true=>exact l
  cases (gn a.2.2.1.2.2.2.2.1).2==0 with|true=>exact IW (by omega) (GL g) l 0 _|false=>exact l
 refine Ends.cond (λk5=>?_) λk5=>?_;show Ends (bj (ll _ (c.1.length:Int) _) fuel (0,c.1,c.2)) _;rw[Vt _ _ c.1 _ (by omega) zh];rw[NR c.2.1 1,ab];exact(PB g.clock).bind λr24 p24=>Ends.pure (UH λh hh=>MD (by omega) (g.afl hh) (l h hh) λ_ _ _ _ _ _ _ _ _ _=>trivial);rw[hk,bB S6,ab];have zk:=z.h _ (aK S6);rw[Uq _ _ (zk.mono),ab,ab,ab];have hm:=aK S6;exact Ends.pure (H8 l (alm (by omega) (g.afl hm) (l _ hm) a.2.2.1) _)
theorem Ends.and {o:aB α}{P Q:α->Prop}(h:Ends o P)(k:Ends o Q):Ends o λx=>P x/\Q x:=by obtain⟨x,e,hp⟩:=h;obtain⟨y,e2,hq⟩:=k;rw[e]at e2;have e2:=bP e2;subst e2;exact⟨x,e,hp,hq⟩
theorem abX (d:Gm c):sP c:=by intro h hh;obtain⟨i,hi⟩:=eV hh;obtain⟨hG,_⟩:=ay.1 hi;exact acW (d.host i h _ hi (al (by rw[<-d.len];exact hG))).1
theorem Xz {c0:cW}(d:Gm c0){l:aw eJ}(hl:l.length<=40)(ha:∀a∈l,qd (c0.1.length:Int) a):Ends (BE c0 l) λr=>VI c0 l.length r.1/\sP r.1:=by
 have st:=VI.start d;unfold BE;rw[nJ c0 (st.sz.z.mono),ab,xz c0 (st.sz.sz),st.SY.ok (by omega),ab];simp only[aj,af,ab];rw[cL,af];refine Ends.ye (λx=>0<=x.2.1/\x.2.1<=(l.length:Int)/\(x.1.length:Int)=x.2.1/\VI c0 x.2.1.toNat x.2.2/\sP x.2.2) (λx=>((l.length:Int)-x.2.1).toNat) ⟨by simp,by simp,by simp,st,abX d⟩ (by simp;omega) λx nx hx hn=>?_;obtain⟨q,i,c⟩:=x;obtain⟨x1,x2,x3,x4,x5⟩:=hx;simp only at x1 x2 x3 x4 x5;obtain⟨i,rfl⟩:∃k:Nat,i=k:=⟨i.toNat,by omega⟩
 rw[au]at x4;unfold Bb;refine Ends.cond (λk=>?_) λk=>?_;have k:=bA k;simp only at k⊢;have hi:i<l.length:=by omega
 rw[bB hi,ab];have hai:=ha _ (aK hi);refine((x4.step (by omega) hai).and (Z7 (by omega) ⟨by omega,by omega⟩ x4.SY x4.sz x5 (by rw[x4.len];exact hai))).bind λr p=>Ends.room (by simp;omega) ?_;rw[ak (n:=(i:Int)+1)];have e:((i:Int)+1).toNat=i+1:=by omega
 exact hn _ ⟨by show 0<=(i:Int)+1;omega,by show(i:Int)+1<=_;omega,by show((q++[_]).length:Int)=(i:Int)+1;simp;omega,by show VI c0 ((i:Int)+1).toNat r.1;rw[e];exact p.1.2,p.2⟩ (by show((l.length:Int)-((i:Int)+1)).toNat<((l.length:Int)-(i:Int)).toNat;omega);have k:=eH k;simp only at k⊢;have e:i=l.length:=by omega
 subst e;exact Ends.pure ⟨x4,x5⟩
theorem agw (hn:n<=300000000000)(g:Good n h)(f:Live Q h){c:Nat}(hc:1<=c/\c<=1000)(hr:7<=r):Good (n+640) (vf (c:Int) r h)/\∀q∈(vf (c:Int) r h).2.2.2.1,q.2.2.2.2.1=false/\HW (vf (c:Int) r h).2.1 (vf (c:Int) r h).1 0 q=false:=by
 have gf:=Jv (by omega) g;have ff:=Rk (by omega) g f;have gd:=DC (c:Int) gf r;have fd:=NT (by omega) gf hc (ahH gf ff) r;rw[show 7-r=0 by omega]at fd;refine⟨gd,λq hq=>?_⟩;have hq:q∈(Cs (c:Int) r (oY h)).2.2.2.1:=hq;obtain⟨k,hk⟩:=eV hq;obtain⟨hG,_⟩:=ay.1 hk;have h2:=Hz gd;obtain⟨q',p,v,b,g1,g2,g3,g4,hd,x,P,C,F,s,w1,w2,w3,w4,w5⟩:=fd.rx k hG;rw[hk]at g1;have g1:=bP g1;subst g1;have hC:C=[]:=by cases C with|nil=>rfl|cons y C=>have:=w5 (by simp);simp at this
 subst hC;have nx:=UQ fd.mem (b:=kT k+64) (by unfold kT;omega) s.com;refine⟨w4,?_⟩;show HW (Cs (c:Int) r (oY h)).2.1 (Cs (c:Int) r (oY h)).1 0 q=false;unfold HW;rw[fd.maps,s.drv,nx,eM]
theorem ajw (b:Int)(r:Nat)(h:Host):sN (vf b r h)=sN h:=by unfold vf;induction r with|zero=>exact Uc h|succ k ih=>exact((Nx _ b).trans (Qq _)).trans ih
theorem agx (a:cc)(ha:agf (.sl (.int .u8)) a):G5 a=some true:=by
 refine Ends.true ?_;unfold G5;refine apR rfl λhl=>?_;rw[af];refine(agy hl).bind λr2 p2=>?_;obtain⟨c0,l⟩:=r2;simp only at p2⊢;obtain⟨d,hn,aw7⟩:=p2;refine(Xz d (by omega) aw7).bind λr3 p3=>(ar6 ha hl (i:=0) (by omega) (by omega)).bind λr4 p4=>Ends.ifn (by decide) ?_;obtain⟨y,ys⟩:=r3;simp only at p3⊢;obtain⟨rd,lv⟩:=p3;have t0:=Int.tmod_nonneg 4 p4.1;have t1:=Int.tmod_lt_of_pos r4 (b:=4) (by omega);rw[ak];obtain⟨c,hc⟩:=aD (show 0<=1+tmod r4 4 by omega);rw[hc,akX y _ _ (rd.sz.mono),ab];have gy:=rd.SY.mono (show 4+14000000*(l.length:Int)<=10^9 by omega);have e:PR y (c:Int) 30=(y.1.map (vf (c:Int) 30),y.2):=by unfold PR;rw[gy.ok (by omega),aU.2 ⟨by omega,by omega⟩];rfl
 have zc:=(ajv (by omega) (c:Int) 30 rd.sz).1;rw[e]at zc⊢;have gc:gk (1000000000+640) (y.1.map (vf (c:Int) 30),y.2):=Mk gy (by omega) (λh g=>by have gf:=Jv (by omega) g;exact DC (c:Int) gf 30) (ajw (c:Int) 30);have AX:∀h∈y.1.map (vf (c:Int) 30),∀q∈h.2.2.2.1,q.2.2.2.2.1=false/\HW h.2.1 h.1 0 q=false:=by intro h hh;obtain⟨x,hx,rfl⟩:=dB.1 hh;exact(agw (by omega) (gy.afl hx) (lv x hx) (c:=c) (r:=30) (by omega) (by omega)).2
 have hlen:(y.1.map (vf (c:Int) 30)).length=c0.1.length:=by rw[bF];exact rd.len
 have p:=mw d.uM;have dl:=d.len;generalize y.1.map (vf (c:Int) 30)=W at zc gc AX hlen⊢;have zl:∀h∈W,zC 150000000 h:=λh hh=>(zc.h h hh).mono;refine Ends.ye (λx=>0<=x/\x<=(W.length:Int)) (λx=>((W.length:Int)-x).toNat) ⟨by simp,by simp⟩ (by simp;omega) λx nx hx hm=>?_;unfold CM;refine Ends.cond (λk=>?_) λ_=>?_;have k:x<(W.length:Int):=bA k;obtain⟨j,rfl⟩:∃k:Nat,x=k:=⟨x.toNat,by have:=hx.1;omega⟩
 have hj:j<W.length:=by omega
 have hw:=AX _ (aK hj);have zj:=zl _ (aK hj);have SK:W[j].2.2.2.1.length<=150000000:=zj.z.2.2.2.1.1;refine Ends.ye (λi=>0<=i/\i<=(W[j].2.2.2.1.length:Int)) (λi=>((W[j].2.2.2.1.length:Int)-i).toNat) ⟨by simp,by simp⟩ (by simp;omega) λi ni hi hm2=>?_;unfold Bc;have ej:idx (W,y.2).1 (j:Int)=some W[j]:=bB hj;rw[ej,ab];refine Ends.cond (λk2=>?_) λ_=>?_;have k2:=bA k2;obtain⟨m,rfl⟩:∃k:Nat,i=k:=⟨i.toNat,by have:=hi.1;omega⟩
 have hm3:m<W[j].2.2.2.1.length:=by omega
 have hq:=hw _ (aK hm3);simp only[ab,bB hm3,hq.1,af];rw[adg _ _ 0 _ (bq zj.z.2.1.1 (by omega)) (bq zj.z.1.1 (by omega)),ab,hq.2,ab,af,ak];exact hm2 _ ⟨by omega,by omega⟩ (by omega);rw[ak];exact hm _ ⟨by omega,by omega⟩ (by omega);have oz:=xz (W,y.2) (zc.sz);rw[gc.ok (by omega)]at oz;have hu:y.2.2.2.2.2.2.length<=10^9:=bq rd.sz.z.2.2.2.2.2.2.1 (by omega);rw[oz,ab,ah];simp only[hlen,fG,ah];rw[RY _ hu,ab];exact Ends.pure rfl
end
end Go.Pu
