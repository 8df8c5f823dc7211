import Derived.KernelRfl
import Derived.Test.YtfbhfnniblfpbaaGreatPuX2
namespace Go.Pu
open Go.Dn
set_option linter.unusedSimpArgs false
set_option linter.unusedVariables false
noncomputable section
variable {h:Host} {s:iV} {l:au aA}
/- A host's service of its interrupts: the program's and the reference's results are one. -/
theorem afO (l:au aA)(m:bw)(d:Int)(rx:bl)(pl:cn)(st:au Stream)(c:Int):(ks l m d rx pl st c).1.length=m.length:=by grind[ks,Zq]
def EO (b:Int)(k:Nat)(s:Int×Host):Int×Host:=
 match s.2.2.2.2.2.2.1[k]?,s.2.2.2.2.2.2.2.1[k]?,s.2.2.2.2.1[k]?,s.2.2.2.2.2.1[k]? with
 |some v,some p,some x,some pl=>
  bif p||(FI v).2 then
   (ak (s.1+(ks s.2.2.1 s.2.1 0 x pl s.2.2.2.2.2.2.2.2.2.2.1 b).2.2.2.2),
    (ks s.2.2.1 s.2.1 0 x pl s.2.2.2.2.2.2.2.2.2.2.1 b).1,s.2.2.1,s.2.2.2.1,s.2.2.2.2.1.set k (ks s.2.2.1 s.2.1 0 x pl s.2.2.2.2.2.2.2.2.2.2.1 b).2.1,s.2.2.2.2.2.1.set k (ks s.2.2.1 s.2.1 0 x pl s.2.2.2.2.2.2.2.2.2.2.1 b).2.2.1,
    s.2.2.2.2.2.2.1.set k (bif decide ((ks s.2.2.1 s.2.1 0 x pl s.2.2.2.2.2.2.2.2.2.2.1 b).2.2.2.2<b) then Kx (FI v).1 else(FI v).1),
    s.2.2.2.2.2.2.2.1.set k (!decide ((ks s.2.2.1 s.2.1 0 x pl s.2.2.2.2.2.2.2.2.2.2.1 b).2.2.2.2<b)),s.2.2.2.2.2.2.2.2.1,s.2.2.2.2.2.2.2.2.2.1,(ks s.2.2.1 s.2.1 0 x pl s.2.2.2.2.2.2.2.2.2.2.1 b).2.2.2.1,s.2.2.2.2.2.2.2.2.2.2.2)
  else(s.1,s.2.1,s.2.2.1,s.2.2.2.1,s.2.2.2.2.1,s.2.2.2.2.2.1,s.2.2.2.2.2.2.1.set k (FI v).1,s.2.2.2.2.2.2.2.1.set k false,s.2.2.2.2.2.2.2.2)
 |_,_,_,_=>s
theorem VT (b:Int)(k:Nat)(s:Int×Host):lh (k+1) s.2 (EO b k s).2:=by unfold EO;rcases s.2.2.2.2.2.2.1[k]? with _|v;exact lh.refl _ _;rcases s.2.2.2.2.2.2.2.1[k]? with _|p;exact lh.refl _ _;rcases s.2.2.2.2.1[k]? with _|x;exact lh.refl _ _;rcases s.2.2.2.2.2.1[k]? with _|pl;exact lh.refl _ _;simp only;cases p||(FI v).2 with|true=>exact⟨afO ..,rfl,rfl,aJ ..,λj hj=>aN (by omega),aJ ..,aJ ..,λj hj=>aN (by omega),aJ ..,rfl,rfl⟩|false=>exact⟨rfl,rfl,rfl,rfl,λ_ _=>rfl,rfl,aJ ..,λj hj=>aN (by omega),aJ ..,rfl,rfl⟩
theorem Yx (b:Int)(k:Nat)(s:Int×Host){n:Nat}(hn:1000<=n)(z:bm n da s.2):bm (n+322000) da (EO b k s).2:=by have z':bm (n+322000) da s.2:=z.mono;unfold EO;rcases s.2.2.2.2.2.2.1[k]? with _|v;exact z';rcases s.2.2.2.2.2.2.2.1[k]? with _|p;exact z';rcases h1:s.2.2.2.2.1[k]? with _|x;exact z';rcases h2:s.2.2.2.2.2.1[k]? with _|pl;exact z';simp only;cases p||(FI v).2 with|true=>have hp:=Ry (by omega) (l:=s.2.2.1) (d:=0) b z.1 (z.2.2.2.1.2 _ (cL h1)) (z.2.2.2.2.1.2 _ (cL h2)) z.2.2.2.2.2.2.2.2.2.1;exact⟨hp.1.mono,z'.2.1,z'.2.2.1,oV z'.2.2.2.1 (hp.2.1.mono),oV z'.2.2.2.2.1 hp.2.2.1,Ng z'.2.2.2.2.2.1,oV z'.2.2.2.2.2.2.1 trivial,z'.2.2.2.2.2.2.2.1,z'.2.2.2.2.2.2.2.2.1,hp.2.2.2.1,z'.2.2.2.2.2.2.2.2.2.2⟩|false=>exact⟨z'.1,z'.2.1,z'.2.2.1,z'.2.2.2.1,z'.2.2.2.2.1,Ng z'.2.2.2.2.2.1,oV z'.2.2.2.2.2.2.1 trivial,z'.2.2.2.2.2.2.2⟩
def jL (b:Int):Nat->Host->Int×Host
 |0,h=>(0,h)
 |k+1,h=>EO b k (jL b k h)
theorem AY (b:Int)(h:Host):∀k,lh k h (jL b k h).2
 |0=>lh.refl 0 h
 |k+1=>((AY b h k).up (by omega)).trans (VT b k _)
theorem EN (b:Int){n:Nat}(hn:1000<=n)(z:bm n da h):∀k,bm (n+322000*k) da (jL b k h).2
 |0=>z
 |k+1=>(Yx b k _ (by omega) (EN b hn z k)).mono
def tH (h:Host)(b:Int):Host×Int:=bif dN h&&dw b 1 1000 then((jL b h.2.2.2.1.length h).2,(jL b h.2.2.2.1.length h).1) else(h,0)
theorem Mg {n:Nat}(hn:1000<=n)(b:Int)(k:vt n h):vt (n+644000) (tH h b).1:=by unfold tH;cases hb:dN h&&dw b 1 1000 with|false=>exact k.mono|true=>simp only[ah]at hb;have hl:=mT (by grind[dN]:wx h=true);refine⟨(EN b hn k.z _).mono,?_⟩;simp only[af];rw[(AY b h _).tx];exact aH k.t (by omega)
theorem L1 (h:Host)(b:Int)(k:vt 400000000 h):np h b=some (tH h b):=by
 have vC:=cE;unfold np tH;rw[ic h (k.z.mono),ab,oN h (k.sz),ab,cO];cases hb:dN h;rfl;cases hi0:dw b 1 1000;rfl;have hl:=mT (by simp only[dN,ah]at hb;exact hb.2.2.2.2.1:wx h=true);simp only[ai,ae,ab,du,af];refine cd (λi=>((jL b i h).1,(i:Int),(jL b i h).2)) h.2.2.2.1.length (by omega) (λi nx hi=>?_) (λnx=>?_);have kk:=AY b h i;have zz:bm 500000000 da (jL b i h).2:=(EN b (by omega) k.z i).mono;have i1:i<(jL b i h).2.2.2.2.1.length:=by rw[kk.rx];exact hi
 have i2:i<(jL b i h).2.2.2.2.2.1.length:=by rw[kk.pl];omega
 have i3:i<(jL b i h).2.2.2.2.2.2.1.length:=by rw[kk.vec];omega
 have i4:i<(jL b i h).2.2.2.2.2.2.2.1.length:=by rw[kk.pol];omega
 rw[show jL b (i+1) h=EO b i (jL b i h) from rfl];generalize jL b i h=s at zz i1 i2 i3 i4⊢;have gp:∀(V:au Vector)(P:au Bool),kq (s.2.1,s.2.2.1,s.2.2.2.1,s.2.2.2.2.1,s.2.2.2.2.2.1,V,P,s.2.2.2.2.2.2.2.2) (i:Int) b=some ((ks s.2.2.1 s.2.1 0 s.2.2.2.2.1[i] s.2.2.2.2.2.1[i] s.2.2.2.2.2.2.2.2.2.2.1 b).2.2.2.2,(ks s.2.2.1 s.2.1 0 s.2.2.2.2.1[i] s.2.2.2.2.2.1[i] s.2.2.2.2.2.2.2.2.2.2.1 b).1,s.2.2.1,s.2.2.2.1,s.2.2.2.2.1.set i (ks s.2.2.1 s.2.1 0 s.2.2.2.2.1[i] s.2.2.2.2.2.1[i] s.2.2.2.2.2.2.2.2.2.2.1 b).2.1,s.2.2.2.2.2.1.set i (ks s.2.2.1 s.2.1 0 s.2.2.2.2.1[i] s.2.2.2.2.2.1[i] s.2.2.2.2.2.2.2.2.2.2.1 b).2.2.1,V,P,s.2.2.2.2.2.2.2.2.1,s.2.2.2.2.2.2.2.2.2.1,(ks s.2.2.1 s.2.1 0 s.2.2.2.2.1[i] s.2.2.2.2.2.1[i] s.2.2.2.2.2.2.2.2.2.2.1 b).2.2.2.1,s.2.2.2.2.2.2.2.2.2.2.2):=by intro V P;have B9:s.2.2.2.2.2.1[i].2.2.2.length<=500000000:=(zz.2.2.2.2.1.2 _ (bc i2)).2.2.2.1;have hm:s.2.1.length<=500000000:=zz.1.1;have hp:s.2.2.1.length<=500000000:=zz.2.1.1;unfold kq;simp only[aU i1,aU i2,ab,U5 s.2.2.1 s.2.1 0 _ _ _ b (show s.2.2.1.length<=10^9 by omega) (show s.2.1.length<=10^9 by omega) B9 zz.2.2.2.2.2.2.2.2.2.1,az]
 have Eb:∀V:Vector,s.2.2.2.2.2.2.1.set i V=s.2.2.2.2.2.2.1.set i V:=λ_=>rfl;unfold EO;rw[al i1,al i2,al i3,al i4];simp only[mO];rw[jo,af];simp only[aU i3,aU i4,ab,aa9,az,gp];generalize FI s.2.2.2.2.2.2.1[i]=w;generalize ks s.2.2.1 s.2.1 0 s.2.2.2.2.1[i] s.2.2.2.2.2.1[i] s.2.2.2.2.2.2.2.2.2.2.1 b=pr;have i5:∀V:Vector,i<(s.2.2.2.2.2.2.1.set i V).length:=λV=>by rw[aJ];exact i3
 have i6:∀q:Bool,i<(s.2.2.2.2.2.2.2.1.set i q).length:=λq=>by rw[aJ];exact i4
 have e5:∀V:Vector,idx (s.2.2.2.2.2.2.1.set i V) (i:Int)=some V:=λV=>by rw[aU (i5 V),List.getElem_set_self]
 have e6:∀q:Bool,idx (s.2.2.2.2.2.2.2.1.set i q) (i:Int)=some q:=λq=>by rw[aU (i6 q),List.getElem_set_self]
 rw[aj (n:=(i:Int)+1) (by omega) (by omega)];have Cm:s.2.2.2.2.2.2.2.1.set i (s.2.2.2.2.2.2.2.1[i])=s.2.2.2.2.2.2.2.1:=List.set_getElem_self ..;generalize hp:s.2.2.2.2.2.2.2.1[i]=p at Cm⊢;cases hw:w.2 with
 |true=>simp only[Bool.or_true,af,e6,e5,ab,ai,ae,On,List.set_set];cases decide (pr.2.2.2.2<b)<;>rfl
 |false=>
  simp only[Bool.or_false,ae];cases p with
  |false=>rw[Cm];rfl
  |true=>
   have e7:idx s.2.2.2.2.2.2.2.1 (i:Int)=some true:=by rw[aU i4,hp]
   simp only[af,ai,ae,e5,e7,ab,On,List.set_set];cases decide (pr.2.2.2.2<b)with|true=>rfl|false=>simp only[ae,bR,Cm];rfl
 simp only[mO];rw[fO,ae]
theorem Ml (h:Host)(b:Int)(k:vt 400000000 h):nL h b=some (tH h b):=by
 have vC:=cE;unfold nL tH;rw[il h (k.z.mono),ab,lX h (k.sz),ab,cz];cases hb:dN h;rfl;cases hi0:dw b 1 1000;rfl;have hl:=mT (by simp only[dN,ah]at hb;exact hb.2.2.2.2.1:wx h=true);simp only[ai,ae,ab,du,af];refine cd (λi=>((jL b i h).1,(i:Int),(jL b i h).2)) h.2.2.2.1.length (by omega) (λi nx hi=>?_) (λnx=>?_);have kk:=AY b h i;have zz:bm 500000000 da (jL b i h).2:=(EN b (by omega) k.z i).mono;have i1:i<(jL b i h).2.2.2.2.1.length:=by rw[kk.rx];exact hi
 have i2:i<(jL b i h).2.2.2.2.2.1.length:=by rw[kk.pl];omega
 have i3:i<(jL b i h).2.2.2.2.2.2.1.length:=by rw[kk.vec];omega
 have i4:i<(jL b i h).2.2.2.2.2.2.2.1.length:=by rw[kk.pol];omega
 have em:=kk.maps;rw[show jL b (i+1) h=EO b i (jL b i h) from rfl];generalize jL b i h=s at zz i1 i2 i3 i4 em⊢;have B9:s.2.2.2.2.2.1[i].2.2.2.length<=500000000:=(zz.2.2.2.2.1.2 _ (bc i2)).2.2.2.1;have hm:s.2.1.length<=500000000:=zz.1.1;have hp:s.2.2.1.length<=500000000:=zz.2.1.1;have gp:=V6 s.2.2.1 s.2.1 0 s.2.2.2.2.1[i] s.2.2.2.2.2.1[i] s.2.2.2.2.2.2.2.2.2.2.1 b (show s.2.2.1.length<=10^9 by omega) (show s.2.1.length<=10^9 by omega) B9 zz.2.2.2.2.2.2.2.2.2.1;unfold EO;rw[al i1,al i2,al i3,al i4];simp only[mW];rw[jo,af,<-em];simp only[aU i1,aU i2,aU i3,aU i4,ab,ace,az,gp];generalize FI s.2.2.2.2.2.2.1[i]=w;generalize ks s.2.2.1 s.2.1 0 s.2.2.2.2.1[i] s.2.2.2.2.2.1[i] s.2.2.2.2.2.2.2.2.2.2.1 b=pr;have i5:∀V:Vector,i<(s.2.2.2.2.2.2.1.set i V).length:=λV=>by rw[aJ];exact i3
 have i6:∀q:Bool,i<(s.2.2.2.2.2.2.2.1.set i q).length:=λq=>by rw[aJ];exact i4
 have e5:∀V:Vector,idx (s.2.2.2.2.2.2.1.set i V) (i:Int)=some V:=λV=>by rw[aU (i5 V),List.getElem_set_self]
 have e6:∀q:Bool,idx (s.2.2.2.2.2.2.2.1.set i q) (i:Int)=some q:=λq=>by rw[aU (i6 q),List.getElem_set_self]
 rw[aj (n:=(i:Int)+1) (by omega) (by omega)];generalize s.2.2.2.2.2.2.2.1[i]=p;cases p with|true=>simp only[jE,af,e6,e5,ab,ai,ae,Pf,List.set_set];cases decide (pr.2.2.2.2<b)<;>rfl|false=>simp only[cH,ae,e6,e5,ab,Pf,List.set_set];cases w.2 with|false=>rfl|true=>simp only[ai,ae,af];cases decide (pr.2.2.2.2<b)<;>rfl
 simp only[mW];rw[aq (by have:=(AY b h h.2.2.2.1.length).rx;omega),ae]
def ND (b:Int):Nat->Host->Host
 |0,h=>h
 |k+1,h=>(tH (FJ (ND b k h)) b).1
theorem Ks {n:Nat}(hn:1000<=n)(k:vt n h):vt n (FJ h):=by have:=aeW hn k.z;exact⟨this.1,by rw[this.2];exact k.t⟩
theorem G4 (b:Int){n:Nat}(hn:1000<=n)(z:vt n h):∀k,vt (n+644000*k) (ND b k h)
 |0=>z
 |k+1=>(Mg (by omega) b (Ks (by omega) (G4 b hn z k))).mono
def CY (h:Host)(b r:Int):Host:=bif dN h&&(dw b 1 1000&&dw r 0 200) then ND b r.toNat (zD (lB h)) else h
theorem QG {n:Nat}(hn:1000<=n)(b r:Int)(z:vt n h):vt (n+128805440) (CY h b r):=by unfold CY;cases hb:dN h&&(dw b 1 1000&&dw r 0 200)with|false=>exact z.mono|true=>simp only[ah]at hb;have hr:=bM.1 hb.2.2;exact(G4 b (by omega) (Hc (by omega) (AN (by omega) z)) r.toNat).mono
theorem aaU (h:Host)(b r:Int)(k:vt 200000000 h):vI h b r=some (CY h b r):=by have vC:=cE;unfold vI CY;rw[ic h (k.z.mono),ab,oN h (k.sz),cO,cO];simp only[ab];cases hb:dN h;rfl;cases hi0:dw b 1 1000;rfl;cases hi1:dw r 0 200;rfl;have hr:=bM.1 hi1;obtain⟨r,rfl⟩:=aG hr.1;have zt:=AN (by omega) k;have zf:=Hc (by omega) zt;simp only[ai,ae,ab,du,af,JI h (k.mono),Oh _ (zt.mono),az];refine cd (λi=>((i:Int),ND b i (zD (lB h)))) r (by omega) (λi nx hi=>?_) (λnx=>?_);have zi:=G4 b (by omega) zf i;have z2:=Ks (by omega) zi;simp only[pP];rw[jo,af,Ve _ (zi.sz) (zi.z.mono),ab,L1 _ b (z2.mono),ab,aj (by omega) (by omega)];rfl;simp only[pP];rw[fO,ae]
theorem ab0 (h:Host)(b r:Int)(k:vt 200000000 h):wI h b r=some (CY h b r):=by have vC:=cE;unfold wI CY;rw[lX h (k.sz),cz,cz,il h (k.z.mono)];simp only[ab];cases hb:dN h;rfl;cases hi0:dw b 1 1000;rfl;cases hi1:dw r 0 200;rfl;have hr:=bM.1 hi1;obtain⟨r,rfl⟩:=aG hr.1;have zt:=AN (by omega) k;have zf:=Hc (by omega) zt;simp only[ai,ae,ab,du,af,Kl h (k.mono),O9 _ (zt.mono),az];refine cd (λi=>((i:Int),ND b i (zD (lB h)))) r (by omega) (λi nx hi=>?_) (λnx=>?_);have zi:=G4 b (by omega) zf i;have z2:=Ks (by omega) zi;simp only[qe];rw[jo,af,Wc _ (zi.sz) (zi.z.mono),ab,Ml _ b (z2.mono),ab,aj (by omega) (by omega)];rfl;simp only[qe];rw[fO,ae]
def txt (_:Int):Bytes:=[]
def cnt:(t:CT)->t.D->Nat
 | .int _,_=>1
 | .bool,_=>1
 | .str,_=>1
 | .sl e,xs=>(xs.map (cnt e)).sum
 | .pair a b,x=>cnt a x.1+cnt b x.2
def mkL {α:Type}(f:α->Int->α)(c:α->Nat):au α->Int->au α
 |[],_=>[]
 |x::xs,k=>f x k::mkL f c xs (k+c x)
def mk:(t:CT)->t.D->Int->t.D
 | .int _,_,k=>k
 | .bool,_,k=>Int.tmod k 3==0
 | .str,_,k=>txt k
 | .sl e,xs,k=>mkL (mk e) (cnt e) xs k
 | .pair a b,x,k=>(mk a x.1 k,mk b x.2 (k+cnt a x.1))
structure Lz (h:Host):Prop where
 pl:h.2.2.2.2.1.length<=2
 w:h.2.2.1.2.2.1.length<=16
theorem Sv (hb:dN h=true):Lz h:=by have hl:=mT (by grind[dN]:wx h=true);have ht:=E6 (t:=h.2.2.1) (by grind[dN]);exact⟨by omega,ht⟩
theorem NN {a b:Host}{k:Nat}(f:Lz a)(h:lh k a b):Lz b:=⟨by rw[h.pl];exact f.pl,by rw[h.tx];exact f.w⟩
theorem ac9 (f:Lz h):Lz (FJ h):=by grind[FJ,NN,sJ,E4]
theorem aaC (f:Lz h):Lz (zD h):=by grind[zD,NN,sJ,Ci]
theorem aaD (b:Int)(f:Lz h):Lz (tH h b).1:=by grind[tH,NN,AY]
theorem Sw (f:Lz h):Lz (lB h):=by unfold lB;cases dN h with|false=>exact f|true=>refine⟨f.pl,?_⟩;simp only[af];generalize (if(h.2.2.1.2.2.1.length:Int)<ak ((km h.2.1 h.1 0 h.2.2.1.1).2.2.1+(km h.2.1 h.1 0 h.2.2.1.1).2.2.2) then(h.2.2.1.2.2.1.length:Int) else ak ((km h.2.1 h.1 0 h.2.2.1.1).2.2.1+(km h.2.1 h.1 0 h.2.2.1.1).2.2.2))=q;unfold lq;cases PE ((km h.2.1 h.1 0 h.2.2.1.1).1,h.2.2.1.2)&&dw q 0 (h.2.2.1.2.2.1.length:Int)with|false=>exact f.w|true=>show(h.2.2.1.2.2.1.drop q.toNat).length<=16;rw[bh];have:=f.w;omega
def xD (s:iV)(p:aR)(z:Int):iV:=bif DR s then(s.1,s.2.1,s.2.2.1,s.2.2.2.1,s.2.2.2.2++Mf p z) else s
theorem TA (s:iV)(p:aR)(z:Int)(h:bm 100000000 lC s):tO s p z=some (xD s p z):=by have hl:=(Hr p z).1;have hs:s.2.2.2.2.length<=100000000:=h.2.2.2.2.1;have h':bm 1000000000 lC s:=h.mono;simp only[tO,ER s h',Pe s h'.1.2.2.1 h'.2.1.1.1 h'.2.1.2.1.1 h'.2.1.2.2.2.1,Wa,ab,xD];grind[aQ]
theorem SZ (s:iV)(p:aR)(z:Int)(h:bm 100000000 lC s):ya s p z=some (xD s p z):=by have hl:=(Hr p z).1;have hs:s.2.2.2.2.length<=100000000:=h.2.2.2.2.1;have h':bm 1000000000 lC s:=h.mono;simp only[ya,Ai s h',Ol s h'.1.2.2.1 h'.2.1.1.1 h'.2.1.2.1.1 h'.2.1.2.2.2.1,Vb,ab,xD];grind[aQ]
theorem Qm {n:Nat}(h:bm n lC s)(p:aR)(z:Int)(hn:382<=n):bm (n+320) lC (xD s p z):=by have hl:=Hr p z;unfold xD;cases DR s with|false=>exact h.mono|true=>have h':bm (n+320) lC s:=h.mono;refine⟨h'.1,h'.2.1,h'.2.2.1,h'.2.2.2.1,?_,λx hx=>?_⟩;have:s.2.2.2.2.length<=n:=h.2.2.2.2.1;show(s.2.2.2.2++Mf p z).length<=_;rw[ar];omega;rcases ay.1 hx with hx|hx;exact h'.2.2.2.2.2 x hx;have:=hl.2 x hx;show x.length<=_;omega
def ae2 (a:Act):aw Bool:=
 aa (aa (some (dw a.1 0 6)) λr1=>cond (!r1) (some true) (some (decide ((a.2.2.2.2.1.length:Int)>600)))) λq2=>
 cond q2 (some false) (
 aa (cond (a.1 !=0) (cond (!((a.2.1.1==0)&&((a.2.1.2.1==0)&&((a.2.1.2.2.1==0)&&((a.2.1.2.2.2.1==0)&&((a.2.1.2.2.2.2.1==0)&&((a.2.1.2.2.2.2.2.1==0)&&((a.2.1.2.2.2.2.2.2.1==0)&&((a.2.1.2.2.2.2.2.2.2.1==0)&&((a.2.1.2.2.2.2.2.2.2.2.1==0)&&((a.2.1.2.2.2.2.2.2.2.2.2.1==0)&&((a.2.1.2.2.2.2.2.2.2.2.2.2.1==0)&&((a.2.1.2.2.2.2.2.2.2.2.2.2.2.1==0)&&((a.2.1.2.2.2.2.2.2.2.2.2.2.2.2.1==0)&&((a.2.1.2.2.2.2.2.2.2.2.2.2.2.2.2.1==0)&&((a.2.1.2.2.2.2.2.2.2.2.2.2.2.2.2.2.1==0)&&((a.2.1.2.2.2.2.2.2.2.2.2.2.2.2.2.2.2==([]:Bytes))&&true))))))))))))))))) (some true) (cond (a.2.2.1 !=0) (some true) (some (a.2.2.2.1 !=0)))) (some false)) λq3=>
 cond q3 (some false) (
 aa (cond (a.1==2) (cond (a.1==5) (some true) (some (a.2.2.2.2.2==0))) (cond (a.2.2.2.2.1==([]:Bytes)) (cond (a.1==5) (some true) (some (a.2.2.2.2.2==0))) (some false))) λq4=>some q4))
theorem aai (a:Act):∃b,ae2 a=some b:=by simp_all[ae2,cm]
def Mz (a:Act):Bool:=(ae2 a).getD false
theorem Zb (a:Act):ae2 a=some (Mz a):=by obtain⟨b,hb⟩:=aai a;simp[Mz,hb]
theorem Z1 (a:Act):BV a=some (Mz a):=by rw[<-Zb];unfold BV;rw[cz];rfl
theorem ZC (a:Act):Br a=some (Mz a):=by rw[<-Zb];unfold Br;rw[cO];rfl
def aot:Act:=(0,pk0,0,0,([]:Bytes),0)
def Wf (v:Int)(a:Act)(s:iV):iV:=
 bif !Mz a then s else bif a.1==2 then BN s a.2.2.2.2.1 else bif (a.1==0)&&(v==1) then xD s a.2.1 a.2.2.1 else s
theorem acj {v:Int}{a:Act}{n:Nat}(hn:382<=n)(h:bm n lC s):bm (n+322) lC (Wf v a s):=by
 have h':bm (n+322) lC s:=h.mono;unfold Wf;cases Mz a;exact h';cases a.1==2;case true=>exact Tk h
 cases (a.1==0)&&(v==1)with|true=>exact(Qm h a.2.1 a.2.2.1 hn).mono|false=>exact h'
def Yw (l:au Act)(v:dR)(s:iV):Nat->iV
 |0=>s
 |i+1=>Wf (v.getD i 0) (l.getD i aot) (Yw l v s i)
theorem J1 {l:au Act}{v:dR}{n:Nat}(hn:382<=n)(h:bm n lC s):∀i,bm (n+322*i) lC (Yw l v s i)
 |0=>h
 |i+1=>(acj (by omega) (J1 hn h i)).mono
def wE (s:iV)(l:au Act)(v:dR):iV:=
 bif !DR s||(decide ((l.length:Int)>40)||((v.length:Int) !=(l.length:Int))) then s else Yw l v s l.length
theorem J2 {l:au Act}{v:dR}{n:Nat}(hn:382<=n)(h:bm n lC s):bm (n+12880) lC (wE s l v):=by unfold wE;cases hc: !DR s||(decide ((l.length:Int)>40)||((v.length:Int) !=(l.length:Int)))with|true=>exact h.mono|false=>simp only[dh,cM]at hc;exact(J1 hn h l.length).mono
theorem U9 (s:iV)(l:au Act)(v:dR)(h:bm 10000000 lC s)(hl:bm 100000000 (.sl CV) l):Aq s l v=some (wE s l v):=by
 have z9:bm 1000000000 lC s:=h.mono;unfold Aq wE;simp only[Ai s z9,Ol s z9.1.2.2.1 z9.2.1.1.1 z9.2.1.2.1.1 z9.2.1.2.2.2.1,ab];cases DR s;rfl;cases h4:decide ((l.length:Int)>40);case true=>rfl
 cases hv:(v.length:Int) !=(l.length:Int);case true=>rfl
 have h40:l.length<=40:=by have:=of_decide_eq_false h4;omega
 have hvl:v.length=l.length:=by simp at hv;omega
 simp only[ai,ae,ab,bz];refine cd (λi=>((i:Int),Yw l v s i)) l.length (by omega) (λi nx hi=>?_) (λnx=>?_);have hR:=(J1 (l:=l) (v:=v) (show 382<=10000000 by omega) h i).mono (show 10000000+322*i<=100000000 by omega);have hx:(l[i].2.2.2.2.1).length<=100000000:=(hl.2 _ (bc hi)).2.2.2.2.1;simp only[uc];rw[jo,aU hi,aj (by omega) (by omega)];simp only[af,ab,ZC,U7 _ _ hR (show(l[i].2.2.2.2.1).length<=10^9 by omega),SZ _ _ _ hR,aU (show i<v.length by omega)];rw[Yw,eO hi,eO (show i<v.length by omega)];unfold Wf;cases Mz l[i]<;>cases l[i].1==2<;>cases l[i].1==0<;>cases v[i]==1<;>rfl;simp only[uc];rw[fO];rfl
theorem V9 (s:iV)(l:au Act)(v:dR)(h:bm 10000000 lC s)(hl:bm 100000000 (.sl CV) l):AF s l v=some (wE s l v):=by
 have z9:bm 1000000000 lC s:=h.mono;unfold AF wE;simp only[ER s z9,Pe s z9.1.2.2.1 z9.2.1.1.1 z9.2.1.2.1.1 z9.2.1.2.2.2.1,ab];cases DR s;rfl;cases h4:decide ((l.length:Int)>40);case true=>rfl
 cases hv:(v.length:Int) !=(l.length:Int);case true=>rfl
 have h40:l.length<=40:=by have:=of_decide_eq_false h4;omega
 have hvl:v.length=l.length:=by simp at hv;omega
 simp only[ai,ae,ab,bz];refine cd (λi=>((i:Int),Yw l v s i)) l.length (by omega) (λi nx hi=>?_) (λnx=>?_);have hR:=(J1 (l:=l) (v:=v) (show 382<=10000000 by omega) h i).mono (show 10000000+322*i<=100000000 by omega);have hx:(l[i].2.2.2.2.1).length<=100000000:=(hl.2 _ (bc hi)).2.2.2.2.1;simp only[uv];rw[jo,aU hi,aj (by omega) (by omega)];simp only[af,ab,Z1,V7 _ _ hR (show(l[i].2.2.2.2.1).length<=10^9 by omega),TA _ _ _ hR,aU (show i<v.length by omega)];rw[Yw,eO hi,eO (show i<v.length by omega)];unfold Wf;cases Mz l[i];rfl;by_cases h2:l[i].1=2;rw[h2];rfl;rw[show(l[i].1==2)=false from by simpa using h2];cases l[i].1==0<;>cases v[i]==1<;>rfl;simp only[uv];rw[fO];rfl
theorem vt.tx {n:Nat}(k:vt n h)(hn:n<=10^9):WU h.2.2.1:=
 have z:bm 1000000000 da h:=k.z.mono hn
 ⟨z.2.2.1.2.1.2.2.2.1,z.2.2.1.2.2.1.1,λx hx=>(z.2.2.1.2.2.1.2 x hx).2.2.1⟩
def FG (h:Host)(p:aR)(c z:Int):Host×Bool:=
 bif dN h then(((C8 h.2.1 h.1 0 h.2.2.1 p c z).1,h.2.1,(C8 h.2.1 h.1 0 h.2.2.1 p c z).2.1,h.2.2.2),(C8 h.2.1 h.1 0 h.2.2.1 p c z).2.2) else(h,false)
theorem aa3 (h:Host)(p:aR)(c z:Int)(k:vt 900000000 h):xV h p c z=some (FG h p c z):=by have zz:bm 1000000000 da h:=k.z.mono;unfold xV FG;rw[ic h zz,ab,oN h (k.sz),ab];cases dN h;rfl;simp only[ai,ae,af,aa4 _ _ _ _ _ _ _ zz.2.1.1 zz.1.1 (k.tx (by omega)) zz.2.2.1.2.2.1.1 (aH k.t (by omega)),ab]
theorem ab7 (h:Host)(p:aR)(c z:Int)(k:vt 900000000 h):yx h p c z=some (FG h p c z):=by have zz:bm 1000000000 da h:=k.z.mono;unfold yx FG;rw[il h zz,ab,lX h (k.sz),ab];cases dN h;rfl;simp only[ai,ae,af,ab8 _ _ _ _ _ _ _ zz.2.1.1 zz.1.1 (k.tx (by omega)) zz.2.2.1.2.2.1.1 (aH k.t (by omega)),ab]
theorem QR {n:Nat}(hn:128<=n)(l:au aA)(d:Int)(p:cn)(z:Nat):∀(q:dR)(s:Bytes)(m:bw)(a:au eM){x},bm n (.sl .str) m->zV l d p z q s m a=some x->bm n (.sl .str) x.2
 |[],s,m,a,x,hm,h=>by cases h;exact hm
 |b::q,s,m,a,x,hm,h=>by rw[zV]at h;cases hq:(mw l m d (lj p b) (s.take z) false).2 with|false=>grind|true=>rw[hq]at h;exact QR hn l d p z q _ _ _ (GG hn hm ..) h
theorem L9 {n:Nat}(hn:128<=n)(l:au aA)(d:Int):∀(q:bw)(m:bw)(r:kA){x},bm n (.sl .str) m->Ax l d q m r=some x->bm n (.sl .str) x.1
 |[],m,r,x,hm,h=>by cases h;exact hm
 |s::q,m,r,x,hm,h=>by rw[Ax]at h;cases hq:(dq l m d r s).2.2 with|false=>grind|true=>rw[hq]at h;exact L9 hn l d q _ _ (JX hn hm ..) h
theorem VB {n:Nat}(hn:128<=n){d:Int}{q:bw}{m:bw}{r:kA}(hm:bm n (.sl .str) m):bm n (.sl .str) (wB l m d r q).1:=by unfold wB;cases hx:Ax l d q m r with|none=>exact hm|some x=>exact L9 hn l d q m r hm hx
theorem acs (p:cn)(n:Int):(ku p n).1.2.2.2.length+(ku p n).2.1.length=p.2.2.2.length:=by grind[ku]
theorem aao (a:au ir)(x:ir):(cb (a++[x])).length=(cb a).length+x.2.2.length:=by simp[cb]
theorem VS:∀l:au ir,(∀x∈l,1<=x.2.1)->(l.length:Int)<=dL l
 |[],_=>by simp[dL]
 |y::l,h=>by have h1:=VS l (λx hx=>h x (dK _ hx));grind[dL]
structure ago (n:Nat) (m:List Bytes) (t:bI) (r:List Bytes×bI×Bool):Prop where
 mem:bm n (.sl .str) r.1
 tx:bm (n+1) qv r.2.1
 sum:r.2.1.2.1.2.2.2.length+(cb r.2.1.2.2.1).length<=n
 w:r.2.1.2.2.1.length<=16\/r.2.1.2.2.1=t.2.2.1
theorem RI {n:Nat}(hn:128<=n){m:bw}{t:bI}{p:aR}{c z:Int}(d:Int)(hm:bm n (.sl .str) m)(ht:bm n qv t)(hs:t.2.1.2.2.2.length+(cb t.2.2.1).length<=n):ago n m t (C8 l m d t p c z):=by
 have Yj:ago n m t (m,t,false):=⟨hm,ht.mono,hs,Or.inr rfl⟩
 unfold C8;cases hg:PE t&&(dV p&&(dw z 1 t.2.1.2.1&&dw c 1 128));exact Yj;simp only[ah]at hg;simp only[af];generalize qy p z.toNat=k;cases hk:Uw t k;exact Yj;simp only[af];rcases hx:zV l d t.2.1 z.toNat (ku t.2.1 (k:Int)).2.1 (iC p).1 m []with _|x;exact Yj;simp only;unfold ZY;have hpm:=VB (n:=n) hn (l:=l) (d:=d) (q:=(nW x.1 c t.2.2.2).map Ad) (r:=t.1) (QR hn l d t.2.1 z.toNat _ _ _ _ hm hx);generalize wB l x.2 d t.1 ((nW x.1 c t.2.2.2).map Ad)=w at hpm⊢;cases w.2.2;exact Yj;have hl:=acs t.2.1 (k:Int);have hb:=aao t.2.2.1 (t.2.2.2,(k:Int)+1,(ku t.2.1 (k:Int)).2.1);have hb:(cb (t.2.2.1++[(t.2.2.2,(k:Int)+1,(ku t.2.1 (k:Int)).2.1)])).length=(cb t.2.2.1).length+(ku t.2.1 (k:Int)).2.1.length:=hb;refine⟨hpm,⟨⟨df,df,df,df⟩,⟨df,df,df,?_,λ_ _=>trivial⟩,?_,df⟩,?_,Or.inl ?_⟩;show(ku t.2.1 (k:Int)).1.2.2.2.length<=n+1;omega;exact K3 (t:=xi) (k:=1) ht.2.2.1 (λy hy=>by rw[eu.1 hy];exact⟨df,df,by show(ku t.2.1 (k:Int)).2.1.length<=n;omega,λ_ _=>trivial⟩) (by simp);show(ku t.2.1 (k:Int)).1.2.2.2.length+(cb (t.2.2.1++[(t.2.2.2,(k:Int)+1,(ku t.2.1 (k:Int)).2.1)])).length<=n;omega;show(t.2.2.1++[_]).length<=16;have hq:=hg.1;simp only[PE,ah]at hq;have UQ:=qc hq.1;have hc:=VS t.2.2.1 (λx hx=>by have:=aW.1 hq.2.2.2.1 x hx;simp only[jz,ah,bM]at this;omega);unfold Uw at hk;simp only[ah,aO,cM]at hk;rw[ar,bf];omega
theorem aew {n:Nat}(hn:1000<=n)(p:aR)(c z:Int)(k:vt n h):vt (n+1) (FG h p c z).1:=by unfold FG;cases dN h;exact k.mono;have zz:=k.z;have s:=RI (by omega) (l:=h.2.1) (p:=p) (c:=c) (z:=z) 0 zz.1 zz.2.2.1 k.t;have z1:bm (n+1) da h:=zz.mono;exact⟨⟨s.mem.mono,z1.2.1,s.tx,z1.2.2.2⟩,aH s.sum (by omega)⟩
theorem ac8 {n:Nat}(hn:1000<=n)(p:aR)(c z:Int)(k:vt n h)(f:Lz h):Lz (FG h p c z).1:=by unfold FG;cases dN h;exact f;have s:=RI (by omega) (l:=h.2.1) (p:=p) (c:=c) (z:=z) 0 k.z.1 k.z.2.2.1 k.t;refine⟨f.pl,?_⟩;rcases s.w with w|w;exact w;show(C8 h.2.1 h.1 0 h.2.2.1 p c z).2.1.2.2.1.length<=16;rw[w];exact f.w
theorem Us {n:Nat}(hn:1000<=n)(x:Bytes)(k:vt n h)(f:Lz h):Lz (tF h x):=by have:=Ma hn x k;exact⟨by rw[this.2.2];exact f.pl,by rw[this.2.1];exact f.w⟩
theorem Mb (h:Host):∀k,(eH h k).2.2.1=h.2.2.1
 |0=>rfl
 |k+1=>by show(BP k (eH h k)).2.2.1=_;rw[<-Mb h k];grind[BP]
theorem abU {n:Nat}(hn:1000<=n)(k:vt n h)(f:Lz h):vt (n+645000) (GH h)/\Lz (GH h):=by
 unfold GH;cases hb:dN h;exact⟨k.mono,f⟩;have hl:=mT (IC hb);have e:=F3 hn k.z hl.1;have hw:=f.w;have hp:=BM (n:=n) (by omega) k.z h.2.2.2.1.length;have ht:=(vi (n:=n+322000*h.2.2.2.1.length) (h:=h) hp.2 h.2.2.1.2.2.1.length).1.e;have h4:=wy 256 128 8;simp only[af];have hx:=Mb (rA h) h.2.2.2.1.length;have hk:=(tG (rA h) h.2.2.2.1.length).pl;have B9:(rA h).2.2.2.2.1.length=h.2.2.2.2.1.length:=by show(returned h h.2.2.1.2.2.1.length).2.2.2.2.1.length=_;rw[ht];exact hp.1.pl
 refine⟨⟨(Ay (by omega) e _).mono,?_⟩,?_,?_⟩;rw[hx];show(kK 256 128 8).1.2.2.2.length+0<=_;omega;rw[hk,B9];exact f.pl;rw[hx];show 0<=16;omega
def yL (f:fg):au Stream->Int->Int
 |[],_=> -1
 |s::r,i=>if s.1=f then i else yL f r (i+1)
theorem Oq {T:(Int->aw Int)->Int->aw Int}(a:au Stream)(f:fg)(h:a.length<=1073741824)(hs:∀i (hi:i<a.length) nx,T nx (i:Int)=cond (decide (a[i].1=f)) (some (i:Int)) (nx ((i+1:Nat):Int)))(hf:∀nx,T nx (a.length:Int)=some (-1)): aL T fuel 0=some (yL f a 0):=by
 have vC:=cE;have key:∀n i,i<=a.length->a.length-i<n->aL T n (i:Int)=some (yL f (a.drop i) i):=by
  intro n;induction n with
  |zero=>intro i _ h;omega
  |succ n ih=>
   intro i hi hn;rw[aL];rcases bL i a.length with gq|zX;rw[hs i gq,bQ gq,yL];by_cases hq:a[i].1=f;simp[hq];simp only[hq,decide_false,ae,bV];exact ih (i+1) (by omega) (by omega);have:i=a.length:=by omega
   subst this;rw[hf,gu];rfl
 exact key fuel 0 (by omega) (by omega)
theorem RN (a:au Stream)(f:fg)(h:a.length<=1073741824):gW a f=some (yL f a 0):=by unfold gW;refine Oq a f h (λi hi nx=>?_) (λnx=>?_);simp only[jY];rw[jo,aU hi,aj (by omega) (by omega)];simp only[af,ab,Jj];rfl;simp only[jY];rw[fO];rfl
theorem Q6 (a:au Stream)(f:fg)(h:a.length<=1073741824):gU a f=some (yL f a 0):=by unfold gU;refine Oq a f h (λi hi nx=>?_) (λnx=>?_);simp only[jR];rw[jo,aU hi,aj (by omega) (by omega)];simp only[af,ab,Jj];rfl;simp only[jR];rw[fO];rfl
theorem NR (f:fg):∀(a:au Stream)(i:Int),(yL f a i= -1/\∀s∈a,s.1≠f)\/∃n:Nat,n<a.length/\yL f a i=i+n/\∃s∈a,s.1=f
 |[],_=> .inl ⟨rfl,by simp⟩
 |s::r,i=>by unfold yL;by_cases h:s.1=f;rw[aF h];exact .inr ⟨0,by simp,by simp,s,by simp,h⟩;rw[aE h];rcases NR f r (i+1)with⟨h1,h2⟩|⟨n,h1,h2,s',h3,h4⟩;exact .inl ⟨h1,by intro t ht;rcases cg.1 ht with rfl|ht;exact h;exact h2 t ht⟩;exact .inr ⟨n+1,by simp;omega,by rw[h2];push_cast;omega,s',by simp[h3],h4⟩
theorem G8 (f:fg)(a:au Stream):(yL f a 0= -1/\∀s∈a,s.1≠f)\/∃x,0<=yL f a 0/\idx a (yL f a 0)=some x:=by rcases NR f a 0 with h|⟨n,h1,h2,_⟩;exact .inl h;refine .inr ⟨a[n],by rw[h2];omega,?_⟩;rw[h2,Int.zero_add];exact aU h1
theorem RZ (p q:Stream):((p.1.1==q.1.1)&&((p.1.2.1==q.1.2.1)&&((p.1.2.2.1==q.1.2.2.1)&&((p.1.2.2.2.1==q.1.2.2.2.1)&&((p.1.2.2.2.2==q.1.2.2.2.2)&&((p.2.1==q.2.1)&&((p.2.2.1==q.2.2.1)&&((p.2.2.2==q.2.2.2)&&true))))))))=decide (p=q):=by grind
def sN (a b:au Stream)(f:fg):Bool:=
 match idx a (yL f a 0),idx b (yL f b 0)with
 |some x,some y=>decide (x=y)
 |_,_=>false
theorem WV (a b:au Stream)(f:fg):sN a b f=sN b a f:=by grind[sN]
theorem J3 (a b:au Stream)(f:fg)(ha:a.length<=1073741824)(hb:b.length<=1073741824):qO a b f=some (sN a b f):=by unfold qO sN;rw[Q6 a f ha,Q6 b f hb];simp only[ab,RZ];rcases G8 f a with⟨h1,_⟩|⟨x,h1,h2⟩;rw[h1];rfl;rw[ax (show yL f a 0>=0 from h1),h2];rcases G8 f b with⟨k1,_⟩|⟨y,k1,k2⟩;rw[k1];rfl;rw[ax (show yL f b 0>=0 from k1),k2];simp
theorem Nl {T:(Int->aw Bool)->Int->aw Bool}{fin:aw Bool}(p:Stream->Bool)(a:au Stream)(h:a.length<=1073741824)(hs:∀i (hi:i<a.length) nx,T nx (i:Int)=cond (!(p a[i])) (some false) (nx ((i+1:Nat):Int)))(hf:∀nx,T nx (a.length:Int)=fin): aL T fuel 0=cond (a.all p) fin (some false):=by
 have vC:=cE;have key:∀n i,i<=a.length->a.length-i<n->aL T n (i:Int)=cond ((a.drop i).all p) fin (some false):=by
  intro n;induction n with
  |zero=>intro i _ h;omega
  |succ n ih=>
   intro i hi hn;rw[aL];rcases bL i a.length with gq|zX;rw[hs i gq,bQ gq,bO];cases hq:p a[i]with|false=>rfl|true=>exact ih (i+1) (by omega) (by omega)
   have:i=a.length:=by omega
   subst this;rw[hf,gu];rfl
 exact key fuel 0 (by omega) (by omega)
theorem adQ (a b:au Stream)(ha:a.length<=1073741824)(hb:b.length<=1073741824):xY a b=some (a.all (λs=>sN a b s.1)&&b.all (λs=>sN a b s.1)):=by
 unfold xY;rw[Nl (λs=>sN a b s.1) a ha (λi hi nx=>?hs) (λnx=>?hf)]
 case hs=>
  grind[rK,aU,aj,ab,J3]
 case hf=>
  simp only[rK]
  rw[fO]
  simp only[ae]
  rfl
 rw[Nl (λs=>sN a b s.1) b hb (λi hi nx=>?hs) (λnx=>?hf)]
 case hs=>
  grind[rL,aU,aj,ab,J3]
 case hf=>
  simp only[rL]
  rw[fO]
  simp only[ae]
  rfl
 grind
theorem Pg (a b:au Stream)(ha:a.length<=1073741824)(hb:b.length<=1073741824):rk a b=some (a.all (λs=>sN a b s.1)):=by
 unfold rk;rw[Nl (λs=>sN a b s.1) a ha (λi hi nx=>?hs) (λnx=>?hf)]
 case hs=>
  simp only[qo]
  rw[jo,aU hi,aj (by omega) (by omega)]
  simp only[af,ab,RN _ _ ha,RN _ _ hb,RZ]
  rcases G8 a[i].1 a with⟨h1,h3⟩|⟨x,h1,h2⟩
  ·exact absurd rfl (h3 a[i] (bc hi))
  ·unfold sN
   rw[h2]
   rcases G8 a[i].1 b with⟨k1,_⟩|⟨y,k1,k2⟩
   ·rw[k1];rfl
   ·rw[aq (show¬yL a[i].1 b 0<0 by omega),k2]
    simp
 case hf=>
  simp only[qo]
  rw[fO]
  simp only[ae]
  rfl
 cases a.all (λs=>sN a b s.1)<;>rfl
theorem aeI (a b:au Stream)(ha:a.length<=1073741824)(hb:b.length<=1073741824):yB a b=some (a.all (λs=>sN a b s.1)&&b.all (λs=>sN a b s.1)):=by unfold yB;rw[Pg a b ha hb,Pg b a hb ha];have:(λs:Stream=>sN b a s.1)=λs=>sN a b s.1:=funext λs=>WV b a s.1;simp_all
def uQ (h:Host):Int:=h.2.2.2.1.foldl (λn q=>ak (n+q.2.2.2.2.2)) 0
theorem FH (h:Host)(hl:h.2.2.2.1.length<=10^9):nK h=some (uQ h):=by unfold nK uQ;refine fold_iter h.2.2.2.1 (λ(s:Int) i=>(s,(i:Int))) (λn q=>ak (n+q.2.2.2.2.2)) (λs=>some s) (by omega) (λi hi s nx=>?_) (λs nx=>?_) 0;simp only[mV];rw[jo,aU hi,aj (n:=(i:Int)+1) (by omega) (by omega)];rfl;simp only[mV];rw[fO];rfl
theorem Fo (h:Host)(hl:h.2.2.2.1.length<=10^9):nn h=some (uQ h):=by unfold nn uQ;refine fold_iter h.2.2.2.1 (λ(s:Int) i=>(s,(i:Int))) (λn q=>ak (n+q.2.2.2.2.2)) (λs=>some s) (by omega) (λi hi s nx=>?_) (λs nx=>?_) 0;simp only[mN];rw[jo,aU hi,aj (n:=(i:Int)+1) (by omega) (by omega)];rfl;simp only[mN];rw[fO];rfl
def apf (b:Bool):Int:=bif b then 1 else 0
def MA (h:Host)(a:Act):Host×Int:=
 bif !dN h|| !Mz a then(h, -1) else
 bif a.1==0 then((FG h a.2.1 a.2.2.1 a.2.2.2.1).1,apf (FG h a.2.1 a.2.2.1 a.2.2.2.1).2) else
 bif a.1==1 then(lB h,0) else
 bif a.1==2 then(tF h a.2.2.2.2.1,0) else
 bif a.1==3 then(zD h,0) else
 bif a.1==4 then(FJ h,0) else
 bif a.1==5 then tH h a.2.2.2.2.2 else(GH h,0)
theorem aaT (h:Host)(a:Act)(k:vt 90000000 h)(hx:a.2.2.2.2.1.length<=10^9):Ei h a=some (MA h a):=by
 have z:bm 1000000000 da h:=k.z.mono;unfold Ei MA;rw[oN h (k.sz),ab,ZC,ab];cases dN h;simp only[bR,af,jE,ab,ic h z];cases Mz a;simp only[ai,bR,af,ae,Bool.or_true,ab,ic h z];simp only[ai,ae,bz,ab,aa3 h _ _ _ (k.mono),JI h (k.mono),SX h _ (k.mono) hx,Oh h (k.mono),Ve h (k.sz (by omega)) z,L1 h _ (k.mono),P8 h (k.sz (by omega)) (k.z.mono)];cases a.1==0;case true=>(simp only[af];cases (FG h a.2.1 a.2.2.1 a.2.2.2.1).2<;>rfl)
 cases a.1==1;all_goals grind
theorem abZ (h:Host)(a:Act)(k:vt 90000000 h)(hx:a.2.2.2.2.1.length<=10^9):EY h a=some (MA h a):=by
 have z:bm 1000000000 da h:=k.z.mono;unfold EY MA;rw[lX h (k.sz),ab,Z1,ab];cases dN h;simp only[bR,af,jE,ab,il h z];cases Mz a;simp only[ai,bR,af,ae,Bool.or_true,ab,il h z];simp only[ai,ae,bz,ab,ab7 h _ _ _ (k.mono),Kl h (k.mono),Tx h _ (k.mono) hx,O9 h (k.mono),Wc h (k.sz (by omega)) z,Ml h _ (k.mono),Qo h (k.sz (by omega)) (k.z.mono)];cases a.1==0;case true=>(simp only[af];cases (FG h a.2.1 a.2.2.1 a.2.2.2.1).2<;>rfl)
 cases a.1==1;all_goals grind
theorem ae3 {n:Nat}(hn:1000<=n)(a:Act)(k:vt n h)(f:dN h=true\/Lz h):vt (n+645000) (MA h a).1/\(dN h=true\/Lz h->Lz (MA h a).1\/(MA h a).1=h):=by
 have f:Lz h:=f.elim Sv id;unfold MA;cases !dN h|| !Mz a;case true=>exact⟨k.mono,λ_=>Or.inr rfl⟩
 simp only[ae];cases a.1==0;case true=>exact⟨(aew hn _ _ _ k).mono,λ_=>Or.inl (ac8 hn _ _ _ k f)⟩
 cases a.1==1;case true=>exact⟨(AN (by omega) k).mono,λ_=>Or.inl (Sw f)⟩
 cases a.1==2;case true=>exact⟨(Ma hn _ k).1.mono,λ_=>Or.inl (Us hn _ k f)⟩
 cases a.1==3;case true=>exact⟨(Hc hn k).mono,λ_=>Or.inl (aaC f)⟩
 cases a.1==4;case true=>exact⟨(Ks hn k).mono,λ_=>Or.inl (ac9 f)⟩
 cases a.1==5 with|true=>exact⟨(Mg hn _ k).mono,λ_=>Or.inl (aaD _ f)⟩|false=>grind[abU]
theorem acG {n:Nat}(hn:1000<=n)(a:Act)(k:vt n h)(f:Lz h):vt (n+645000) (MA h a).1/\Lz (MA h a).1:=by grind[ae3]
def agE (s:Host×dR)(a:Act):Host×dR:=((MA s.1 a).1,s.2++[(MA s.1 a).2])
def Ll (h:Host)(l:au Act):Host×dR:=l.foldl agE (h,[])
theorem Lm (h:Host)(l:au Act)(i:Nat)(hi:i<l.length):Ll h (l.take (i+1))=agE (Ll h (l.take i)) l[i]:=by rw[bg hi,Ll,List.foldl_append];rfl
theorem JZ {n:Nat}(hn:1000<=n)(k:vt n h)(f:Lz h)(l:au Act):∀i,i<=l.length->vt (n+645000*i) (Ll h (l.take i)).1/\Lz (Ll h (l.take i)).1/\(Ll h (l.take i)).2.length=i
 |0,_=>⟨k,f,rfl⟩
 |i+1,hi=>by have g:=JZ hn k f l i (by omega);have e:=acG (by omega) (l[i]'(by omega)) g.1 g.2.1;rw[Lm h l i (by omega)];refine⟨e.1.mono,e.2,?_⟩;show(_++[_]).length=_;grind
def jU (h:Host)(l:au Act):Host×dR:=bif !dN h||decide ((l.length:Int)>40) then(h,[]) else Ll h l
theorem U8 (h:Host)(l:au Act)(k:vt 50000000 h)(hx:∀a∈l,a.2.2.2.2.1.length<=10^9):Ap h l=some (jU h l):=by
 have vC:=cE;unfold Ap jU;rw[ic h (k.z.mono),ab,oN h (k.sz),ab];cases hb:dN h;rfl;cases hl:decide ((l.length:Int)>40);case true=>rfl
 rw[cM]at hl;simp only[ai,ae,ab,bz];refine cd (λi=>((Ll h (l.take i)).2,(i:Int),(Ll h (l.take i)).1)) l.length (by omega) (λi nx hi=>?_) (λnx=>?_);have g:=JZ (by omega) k (Sv hb) l i (by omega);rw[Lm h l i hi];generalize Ll h (l.take i)=s at g⊢;simp only[ub];rw[jo,af,aU hi,ab,aaT _ _ (g.1.mono) (hx _ (bc hi)),ab,aQ (by rw[g.2.2,bf];omega),aj (by omega) (by omega)];rfl;simp only[ub];rw[fO,ae,cw]
theorem V8 (h:Host)(l:au Act)(k:vt 50000000 h)(hx:∀a∈l,a.2.2.2.2.1.length<=10^9):AE h l=some (jU h l):=by
 have vC:=cE;unfold AE jU;rw[il h (k.z.mono),ab,lX h (k.sz),ab];cases hb:dN h;rfl;cases hl:decide ((l.length:Int)>40);case true=>rfl
 rw[cM]at hl;simp only[ai,ae,ab,bz];refine cd (λi=>((Ll h (l.take i)).2,(i:Int),(Ll h (l.take i)).1)) l.length (by omega) (λi nx hi=>?_) (λnx=>?_);have g:=JZ (by omega) k (Sv hb) l i (by omega);rw[Lm h l i hi];generalize Ll h (l.take i)=s at g⊢;simp only[uu];rw[jo,af,aU hi,ab,abZ _ _ (g.1.mono) (hx _ (bc hi)),ab,aQ (by rw[g.2.2,bf];omega),aj (by omega) (by omega)];rfl;simp only[uu];rw[fO,ae,cw]
theorem Me {n:Nat}(hn:1000<=n)(k:vt n h)(l:au Act):vt (n+25800000) (jU h l).1/\(jU h l).2.length<=40/\((jU h l).1=h\/Lz (jU h l).1):=by
 unfold jU;cases hb:dN h;exact⟨k.mono,cC _,Or.inl rfl⟩;cases hl:decide ((l.length:Int)>40);case true=>exact⟨k.mono,cC _,Or.inl rfl⟩
 rw[cM]at hl;have g:=JZ hn k (Sv hb) l l.length (aX _);rw[cw]at g;exact⟨g.1.mono,by grind,Or.inr g.2.1⟩
def aeu (a b:au Stream):Bool:=a.all (λs=>sN a b s.1)&&b.all (λs=>sN a b s.1)
def acH (h:Host)(l:au Act):Bool:=
 !(!dN h||decide ((l.length:Int)>40))&&(aeu (CY (jU h l).1 4 100).2.2.2.2.2.2.2.2.2.1 (wE (J8 h) l (jU h l).2).2.2.2.1&&(uQ (CY (jU h l).1 4 100)==uQ h))
theorem afw (h:Host)(l:au Act)(k:vt 1048576 h)(hx:bm 1048576 (.sl CV) l):pO h l=some (acH h l):=by
 have hxx:∀a∈l,a.2.2.2.2.1.length<=10^9:=λa ha=>aH (hx.2 a ha).2.2.2.2.1 (by omega);have g:=Me (by omega) k l;have hS:=Lp h k.z;have hU:=J2 (l:=l) (v:=(jU h l).2) (by omega) hS;unfold pO acH;rw[oN h (k.sz),ab];cases dN h;rfl;cases decide ((l.length:Int)>40);case true=>rfl
 simp only[ai,bR,ae,ab,bz,bt];rw[U8 h l (k.mono) hxx,ab];generalize jU h l=r at g hU⊢;have gd:=QG (by omega) 4 100 g.1;rw[aaU _ _ _ (g.1.mono),ab,XR h (k.z.mono) (k.sz),ab,U9 _ _ _ (hS.mono) (hx.mono),ab];generalize CY r.1 4 100=q at gd⊢;generalize wE (J8 h) l r.2=u at hU⊢;rw[adQ _ _ (aH gd.z.2.2.2.2.2.2.2.2.2.1.1 (by omega)) (aH hU.2.2.2.1.1 (by omega)),ab,Fo q (aH gd.z.2.2.2.1.1 (by omega)),ab,Fo h (aH k.z.2.2.2.1.1 (by omega)),ab];simp(disch:=omega)[aeu]
theorem afV (h:Host)(l:au Act)(k:vt 1048576 h)(hx:bm 1048576 (.sl CV) l):qd h l=some (acH h l):=by
 have hxx:∀a∈l,a.2.2.2.2.1.length<=10^9:=λa ha=>aH (hx.2 a ha).2.2.2.2.1 (by omega);have g:=Me (by omega) k l;have hS:=Lp h k.z;have hU:=J2 (l:=l) (v:=(jU h l).2) (by omega) hS;unfold qd acH;rw[lX h (k.sz),ab];cases dN h;rfl;cases decide ((l.length:Int)>40);case true=>rfl
 simp only[ai,bR,ae,ab,bz,bt];rw[V8 h l (k.mono) hxx,ab];generalize jU h l=r at g hU⊢;have gd:=QG (by omega) 4 100 g.1;rw[ab0 _ _ _ (g.1.mono),ab,YL h (k.z.mono) (k.sz),ab,V9 _ _ _ (hS.mono) (hx.mono),ab];generalize CY r.1 4 100=q at gd⊢;generalize wE (J8 h) l r.2=u at hU⊢;rw[aeI _ _ (aH gd.z.2.2.2.2.2.2.2.2.2.1.1 (by omega)) (aH hU.2.2.2.1.1 (by omega)),ab,FH q (aH gd.z.2.2.2.1.1 (by omega)),ab,FH h (aH k.z.2.2.2.1.1 (by omega)),ab];simp(disch:=omega)[aeu]
theorem I5 (a:Host)(l:au Act)(ha:rq da a)(Gg:rq (.sl CV) l):mr a l=some true:=by unfold mr;refine(af6 a ha).use (by omega) (by omega) λhl=>?_;refine(af5 l Gg).use (by omega) (by omega) λzH=>?_;have hA:bm 1048576 da a:=HC (by omega);have hL:bm 1048576 (.sl CV) l:=HC (by omega);have hz:vt 1048576 a:=vt.of (by omega);have hs:=afV a l hz hL;have hi:=afw a l hz hL;generalize acH a l=r at hs hi;simp (disch:=omega) only[agd a hA,agc l hL,ab,hs,hi,afh a (hA.mono),afg l (hL.mono),beq_self_eq_true,bne_self_eq_false,ai,ae]
end
end Go.Pu
