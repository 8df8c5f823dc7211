import Derived.KernelRfl
import Derived.Test.YtbebkmajekhclaaGreatPuX1
namespace Go.Pu
open Go.Dn
open BitVec (toNat)
open Int (tmod)
set_option linter.unusedSimpArgs false
set_option linter.unusedVariables false
noncomputable section
variable {s t x:Bytes} {h:Host} {b c d:Int} {a i k n o:Nat} {g:Nat->Host->Host} {p:aD} {q:cU} {R α:Type} {l:aw aN} {m:bV} {f:bV×cU} {r:od}
/- Templates and their checksums: the program's and the reference's results are one. -/
theorem kb {y:Bytes}(h:i<x.length):ch (x++y) i=ch x i:=by unfold ch;rw[bu,bu,bK h]
theorem wT {y:Bytes}(h:x.length<=i):ch (x++y) i=ch y (i-x.length):=by unfold ch;rw[bu,bu,bA h]
theorem Yj (h:i<n):ch (x.take n) i=ch x i:=by unfold ch;rw[bu,bu,dV h]
theorem DM:ch (x.drop n) i=ch x (n+i):=by unfold ch;rw[bu,bu,bS]
theorem Xl {p:Bytes}(h:i<a\/a+p.length<=i:=by omega):ch (yG s (a:Int) p) i=ch s i:=by
 unfold yG fG;by_cases hw:(0:Int)<=a/\(a:Int)+(p.length:Int)<=(s.length:Int)
 rw[au hw,ah,ax];have ht:(s.take a).length=a:=by rw[aP];omega
 rcases h with h|h;rw[kb (by rw[ai];omega),kb (by omega),Yj h];rw[wT (by rw[ai];omega),DM,ai,ht];congr 1;omega;rw[aq hw];rfl
theorem afM {p:Bytes}{j:Nat}(hw:a+p.length<=s.length)(hj:j<p.length:=by omega):ch (yG s (a:Int) p) (a+j)=ch p j:=by
 unfold yG fG;rw[au ⟨by omega,by omega⟩,ah,ax];have ht:(s.take a).length=a:=by rw[aP];omega
 rw[kb (by rw[ai];omega),wT (by omega),ht];congr 1;omega
theorem wU:cP s (a:Int)=bif decide (a+2<=s.length) then((ch s a*256+ch s (a+1):Nat):Int) else-1:=by unfold cP fG;rw[ax,show decide ((0:Int)<=a/\(a:Int)+2<=(s.length:Int))=decide (a+2<=s.length) from decide_eq_decide.2 (by omega)]
theorem Hy (hl:s.length=t.length)(h0:ch s a=ch t a)(h1:ch s (a+1)=ch t (a+1)):cP s (a:Int)=cP t (a:Int):=by rw[wU,wU,hl,h0,h1]
theorem ac4:cP (s.drop k) (a:Int)=cP s ((k+a:Nat):Int):=by rw[wU,wU,DM,DM,aS,show k+(a+1)=k+a+1 by omega,show decide (a+2<=s.length-k)=decide (k+a+2<=s.length) from decide_eq_decide.2 (by omega)]
theorem Uk:eK s (a:Int)=bif decide (a+4<=s.length) then(((ch s a*256+ch s (a+1))*65536+(ch s (a+2)*256+ch s (a+3)):Nat):Int) else-1:=by unfold eK fG;rw[ax,show decide ((0:Int)<=a/\(a:Int)+4<=(s.length:Int))=decide (a+4<=s.length) from decide_eq_decide.2 (by omega)]
theorem YX (hl:s.length=t.length)(h:∀j,j<4->ch s (a+j)=ch t (a+j)):eK s (a:Int)=eK t (a:Int):=by rw[Uk,Uk,hl,show ch s a=ch t a from h 0 (by omega),h 1 (by omega),h 2 (by omega),h 3 (by omega)]
def du (s:Bytes):Nat:=bif cP s 12==33024 then 18 else 14
def oF (s:Bytes):Nat:=ch s (du s+9)
def aiQ (k:Nat):Nat:=bif (k:Int)==6 then 16 else 6
def Cn (s:Bytes):Nat:=du s+10
def xf (s:Bytes):Nat:=du s+20+aiQ (oF s)
theorem PJ (k:Nat):aiQ k=16/\k=6\/aiQ k=6/\k≠6:=by unfold aiQ;by_cases h:k=6;subst h;exact .inl ⟨rfl,rfl⟩;exact .inr ⟨by rw[show((k:Int)==6)=false from by rw[cg];omega];rfl,h⟩
theorem P3 (s:Bytes):du s=18/\(cP s 12==33024)=true\/du s=14/\(cP s 12==33024)=false:=by unfold du;cases cP s 12==33024 with|true=>exact .inl ⟨rfl,rfl⟩|false=>exact .inr ⟨rfl,rfl⟩
theorem Sn (s:Bytes)(h:s.length<=10^9):yv s=some (bif decide (s.length<du s+46) then(-1, -1) else((Cn s:Int),(xf s:Int))):=by
 unfold yv;rw[tW s 12 h,ab];have hk:=eJ s (du s+9)
 have core:∀o:Nat,du s=o->(o=18\/o=14)->(bif decide ((s.length:Int)<ar ((o:Int)+46)) then some ((-1),(-1)) else
  aa (idx s (ar ((o:Int)+9))) λx2=>bif (ar ((UInt8.toNat x2:Int)))==6 then some (ar ((o:Int)+10),ar ((o:Int)+36)) else some (ar ((o:Int)+10),ar ((o:Int)+26)))=some (bif decide (s.length<du s+46) then(-1, -1) else((Cn s:Int),(xf s:Int))):=by
  intro o ho h2
  rw[aj (n:=(o:Int)+9),aj (n:=(o:Int)+10),aj (n:=(o:Int)+46),aj (n:=(o:Int)+36),aj (n:=(o:Int)+26),ho]
  by_cases hl:s.length<o+46
  ·rw[au (show(s.length:Int)<(o:Int)+46 by omega),au hl];rfl
  ·obtain⟨x,hx,ex⟩:=mK (s:=s) (i:=o+9)
   rw[aq (show¬(s.length:Int)<(o:Int)+46 by omega),aq hl,ae,ae,show(o:Int)+9=((o+9:Nat):Int) by omega,hx,ab,ex,gY (by rw[<-ho];omega),show ch s (o+9)=oF s by unfold oF;rw[ho]]
   unfold Cn xf aiQ
   rw[ho]
   cases (oF s:Int)==6 with
   |true=>simp only[ah];congr 2
   |false=>simp only[ae];congr 2
 rcases P3 s with⟨h1,h2⟩|⟨h1,h2⟩;rw[h2,ah];exact core 18 h1 (.inl rfl);rw[h2,ae];exact core 14 h1 (.inr rfl)
theorem afD {a:Int}(h:cY a 0 281474976710655=true):(mac a).length=6:=by
 have ha:=aX.1 h;have e:mac a=cC (Int.fdiv a (2^(qO 32)))++gw (ar (toNat (fQ a&&&fQ 4294967295))):=by unfold mac jj;rw[nI];simp only[iS,kI,ab];have h1:=cr (Int.fdiv a (2^(qO 32)));have h2:=dT (ar (toNat (fQ a&&&fQ 4294967295)));rw[aL];rfl
 have e2:(2:Int)^(qO 32)=4294967296:=rfl;rw[e,ai,KK,SL,alv,e2];rw[show cY (Int.fdiv a 4294967296) 0 65535=true from aX.2 (by rw[Int.fdiv_eq_ediv_of_nonneg _ (by omega)];omega),show cY (a%4294967296) 0 4294967295=true from aX.2 (by omega)];rfl
theorem N4 (h:dw p=true):du (dS p).1+46<=(dS p).1.length:=by
 have hh:ql p=true:=by simp only[dw,af]at h;exact h.1
 have hp:=Xh (ipP p).1;have hi:=MV h;unfold dS anv YA at hi⊢;rw[h,ah]at hi⊢;cases he:tz (p.1,p.2.1,p.2.2.1,2048,pad (ipP p).1)with|false=>rw[he]at hi;cases hi|true=>?_
 simp only[ah];simp only[ql,af]at hh;have m1:=afD hh.1;have m2:=afD hh.2.1;have hv:=aX.1 hh.2.2.1;have w1:(cC 33024).length=2:=rfl;have w3:(cC 2048).length=2:=rfl;generalize pad (ipP p).1=bd at hp⊢;unfold T6;simp only;generalize mac p.1=M1 at m1⊢;generalize mac p.2.1=M2 at m2⊢;by_cases hc:p.2.2.1>=0;have w2:(cC p.2.2.1).length=2:=by rw[KK,aX.2 (by omega)];rfl
 rw[au hc,ah];have hb:du (((((M1++M2)++cC 33024)++cC p.2.2.1)++cC 2048)++bd)=18:=by
  unfold du;have e12:cP (((((M1++M2)++cC 33024)++cC p.2.2.1)++cC 2048)++bd) ((12:Nat):Int)=33024:=by rw[wU,au (by simp only[ai];omega),ah];rw[kb (by simp only[ai];omega),kb (by simp only[ai];omega),kb (by simp only[ai];omega),wT (by simp only[ai];omega)];rw[kb (by simp only[ai];omega),kb (by simp only[ai];omega),kb (by simp only[ai];omega),wT (by simp only[ai];omega)];rw[ai,m1,m2];rfl
  rw[show(12:Int)=((12:Nat):Int) from rfl,e12];rfl
 rw[hb];simp only[ai];omega;rw[aq hc,ae];have hb:du (((M1++M2)++cC 2048)++bd)=14:=by
  unfold du;have e12:cP (((M1++M2)++cC 2048)++bd) ((12:Nat):Int)=2048:=by rw[wU,au (by simp only[ai];omega),ah];rw[kb (by simp only[ai];omega),wT (by simp only[ai];omega)];rw[kb (by simp only[ai];omega),wT (by simp only[ai];omega)];rw[ai,m1,m2];rfl
  rw[show(12:Int)=((12:Nat):Int) from rfl,e12];rfl
 rw[hb];simp only[ai];omega
def mT (t:Bytes)(x y:Bytes):Bytes:=yG (yG t (Cn t:Int) x) (xf t:Int) y
theorem HT (t x y:Bytes):(mT t x y).length=t.length:=by unfold mT;rw[xS,xS]
def kJ (p:aD):Bytes×Bool:=bif dw p then(mT (dS p).1 (cC 0) (cC 0),true) else([],false)
theorem ak3 (h:dw p=false):dS p=([],false):=by unfold dS;rw[h];rfl
theorem Vx (p:aD):nw p=some (kJ p):=by have hl:=CA p;unfold nw kJ mT;rw[FC,ab];cases h:dw p with|false=>rw[ak3 h];rfl|true=>have hs:=N4 h;rw[MV h];simp only[al,ae,ah,Sn _ (show(dS p).1.length<=10^9 by omega),ab,iS];rw[cD,ae];simp only[Ae _ _ _ (show(dS p).1.length<=10^9 by omega),Ae _ _ _ (show(yG (dS p).1 (Cn (dS p).1:Int) (cC 0)).length<=10^9 by rw[xS];omega),ab]
def GJ (s t:Bytes):Prop:=s.length=t.length/\∀i,i<Cn t\/(Cn t+2<=i/\i<xf t)\/xf t+2<=i->ch s i=ch t i
theorem Db (t:Bytes):(du t=14\/du t=18)/\Cn t=du t+10/\du t+26<=xf t/\xf t<=du t+36/\(xf t=du t+36/\oF t=6\/xf t=du t+26/\oF t≠6):=by have h1:=P3 t;have h2:=PJ (oF t);unfold Cn xf;omega
theorem JG (t:Bytes){y:Bytes}(hx:x.length<=2)(hy:y.length<=2):GJ (mT t x y) t:=by have:=Db t;refine⟨HT t x y,λi hi=>?_⟩;unfold mT;rw[Xl,Xl]
theorem GJ.body (h:GJ s t):du s=du t:=by have:=Db t;unfold du;have e:cP s ((12:Nat):Int)=cP t ((12:Nat):Int):=Hy h.1 (h.2 _ (by omega)) (h.2 _ (by omega));rw[show(12:Int)=((12:Nat):Int) from rfl,e]
theorem GJ.kind (h:GJ s t):oF s=oF t:=by have:=Db t;unfold oF;rw[h.body,h.2 _ (by omega)]
theorem GJ.arx (h:GJ s t):Cn s=Cn t/\xf s=xf t:=by unfold Cn xf;rw[h.body,h.kind];exact⟨rfl,rfl⟩
theorem GJ.atf (h:GJ s t):cP s ((du t+2:Nat):Int)=cP t ((du t+2:Nat):Int):=by have:=Db t;exact Hy h.1 (h.2 _ (by omega)) (h.2 _ (by omega))
structure TOk (t:Bytes):Prop where
 eth:(gj t).2=true
 bd:(gj t).1.2.2.2.2=t.drop (du t)
 l1:du t+46<=t.length
 n1:20+aiQ (oF t)+2<=cP t ((du t+2:Nat):Int)
 n2:cP t ((du t+2:Nat):Int)<=(t.length:Int)-(du t:Int)
theorem U6 (h:(gj s).2=true):(gj s).1.2.2.2.2=s.drop (du s)/\18<=s.length/\46<=s.length-du s/\s.length-du s<=400:=by
 unfold gj at h⊢;by_cases h8:(s.length:Int)<18;rw[au h8]at h;cases h;rw[aq h8]at h⊢;simp only[ae]at h⊢;rcases P3 s with⟨h1,h2⟩|⟨h1,h2⟩;rw[h2]at h⊢;simp only[ah]at h⊢;cases he:tz (Kg s)with|false=>rw[he]at h;cases h|true=>rw[h1];simp only[tz,af,aX,Kg,aS]at he;simp only[ah,Kg];refine⟨cq,by omega,by omega,by omega⟩
 rw[h2]at h⊢;simp only[ae]at h⊢;cases he:tz (AJ s)with|false=>rw[he]at h;cases h|true=>rw[h1];simp only[tz,af,aX,AJ,aS]at he;simp only[ah,AJ];refine⟨cq,by omega,by omega,by omega⟩
theorem aaR (h:(kU s).2=0):(gj s).2=true/\(md (gj s).1.2.2.2.2).2=true/\dw (kU s).1=true/\ (sS (md (gj s).1.2.2.2.2).1.2.2.2.2.1 (md (gj s).1.2.2.2.2).1.2.2.2.2.2.1 (md (gj s).1.2.2.2.2).1.2.2.2.1 (md (gj s).1.2.2.2.2).1.2.2.2.2.2.2).2=true:=by
 unfold kU at h⊢;simp only at h⊢;generalize gj s=e at h⊢;cases h1: !e.2||(e.1.2.2.2.1 !=2048)with|true=>rw[h1]at h;cases h|false=>?_
 rw[h1]at h;simp only[ae]at h⊢;generalize md e.1.2.2.2.2=i at h⊢;cases h2:i.2 with|false=>rw[h2]at h;cases h|true=>?_
 rw[h2]at h;simp only[al,ae]at h⊢;generalize sS i.1.2.2.2.2.1 i.1.2.2.2.2.2.1 i.1.2.2.2.1 i.1.2.2.2.2.2.2=g at h⊢;cases h3:g.2 with|false=>rw[h3]at h;cases h|true=>?_
 rw[h3]at h;simp only[al,ae]at h⊢;cases h4:dw (e.1.1,e.1.2.1,e.1.2.2.1,i.1.1,i.1.2.1,i.1.2.2.1,i.1.2.2.2.2.1,i.1.2.2.2.2.2.1,g.1)with|false=>rw[h4]at h;cases h|true=>?_
 simp only[cI,dX]at h1;exact⟨h1.1,cq,h4,cq⟩
theorem alP {b:Bytes}(h:(md b).2=true):20<=cP b 2/\cP b 2<=(b.length:Int)/\(md b).1=F9 b:=by
 unfold md at h⊢;cases h1:decide ((b.length:Int)<20)||(decide (cP b 2<20)||decide (cP b 2>(b.length:Int)))with|true=>rw[h1]at h;cases h|false=>?_
 rw[h1]at h;simp only[ae]at h⊢;cases h2:(X1 (F9 b)).2&&((X1 (F9 b)).1==b.take (cP b 2).toNat)with|false=>rw[h2]at h;cases h|true=>?_
 simp only[cI,cH]at h1;exact⟨by omega,by omega,rfl⟩
theorem ah4 {a k:Int}(h:(sS a b k s).2=true):k=6/\20<=s.length\/k=17/\8<=s.length:=by unfold sS at h;cases h1:(k==6)&&decide ((s.length:Int)>=20)with|true=>simp only[af,ba,aG]at h1;exact .inl ⟨h1.1,by omega⟩|false=>rw[h1]at h;simp only[ae]at h;cases h2:(k==17)&&decide ((s.length:Int)>=8)with|true=>simp only[af,ba,aG]at h2;exact .inr ⟨h2.1,by omega⟩|false=>rw[h2]at h;cases h
theorem agM (hl:s.length=t.length)(h:∀i,i<18->ch s i=ch t i)(hs:(gj s).2=true):(gj t).2=true:=by
 have g16:∀a,a+2<=18->cP s ((a:Nat):Int)=cP t ((a:Nat):Int):=λa ha=>Hy hl (h _ (by omega)) (h _ (by omega));have g32:∀a,a+4<=18->eK s ((a:Nat):Int)=eK t ((a:Nat):Int):=λa ha=>YX hl (λj hj=>h _ (by omega));have e0:JB s 0=JB t 0:=by unfold JB;rw[show(0:Int)=((0:Nat):Int) from rfl,g16 0 (by omega),show((0:Nat):Int)+2=((2:Nat):Int) from rfl,g32 2 (by omega)]
 have e6:JB s 6=JB t 6:=by unfold JB;rw[show(6:Int)=((6:Nat):Int) from rfl,g16 6 (by omega),show((6:Nat):Int)+2=((8:Nat):Int) from rfl,g32 8 (by omega)]
 have e12:cP s 12=cP t 12:=g16 12 (by omega);have e14:cP s 14=cP t 14:=g16 14 (by omega);have e16:cP s 16=cP t 16:=g16 16 (by omega);have b1:tz (Kg s)=tz (Kg t):=by unfold tz Kg;rw[e0,e6,e14,e16];simp only[aS,hl]
 have b2:tz (AJ s)=tz (AJ t):=by unfold tz AJ;rw[e0,e6,e12];simp only[aS,hl]
 unfold gj at hs⊢;rw[hl,e12,b1,b2]at hs;cases h8:decide ((t.length:Int)<18)with|true=>rw[h8]at hs;cases hs|false=>?_
 rw[h8]at hs;cases h12:cP t 12==33024 with
 |true=>rw[h12]at hs;cases hb:tz (Kg t)with|true=>rfl|false=>rw[hb]at hs;cases hs
 |false=>rw[h12]at hs;cases hb:tz (AJ t)with|true=>rfl|false=>rw[hb]at hs;cases hs
theorem arF (ha:GJ s t)(h:(kU s).2=0):TOk t:=by
 have hp:=Db t;obtain⟨h1,h2,_,h4⟩:=aaR h;have he:=U6 h1;rw[he.1]at h2 h4;have hi:=alP h2;have hs:=ah4 h4;rw[hi.2.2]at hs;have e1:(gj t).2=true:=agM ha.1 (λi hi=>ha.2 i (by omega)) h1;have e2:=U6 e1;have en:cP (s.drop (du s)) 2=cP t ((du t+2:Nat):Int):=by have:cP (s.drop (du s)) ((2:Nat):Int)=cP s ((du s+2:Nat):Int):=ac4;rw[show(2:Int)=((2:Nat):Int) from rfl,this,ha.body,ha.atf]
 have ek:(F9 (s.drop (du s))).2.2.2.1=(oF t:Int):=by show(ch (s.drop (du s)) 9:Int)=_;rw[DM,<-ha.kind];rfl
 have eg:(F9 (s.drop (du s))).2.2.2.2.2.2.length=(cP t ((du t+2:Nat):Int)).toNat-20:=by show(((s.drop (du s)).take (cP (s.drop (du s)) 2).toNat).drop 20).length=_;rw[en,aS,aP];have:=hi.2.1;rw[en]at this;omega
 rw[ek,eg]at hs;rw[en]at hi;have hn:=hi.2.1;rw[aS,ha.1,ha.body]at hn;have hk:=PJ (oF t);exact⟨e1,e2.1,by omega,by omega,by omega⟩
theorem aiY (h:(kJ p).1=t)(hs:dw p=true)(ht:TOk t):cP t (Cn t:Int)=0/\cP t (xf t:Int)=0:=by
 unfold kJ at h;rw[hs]at h;simp only[ah]at h;have w0:(cC 0).length=2:=rfl;have ha:GJ (mT (dS p).1 (cC 0) (cC 0)) (dS p).1:=JG _ (by omega) (by omega);rw[h]at ha;have hp:=Db t;have Ha:=ha.arx;have hl:=ht.l1;have Cz:=ha.1;have KQ:=ht.n1;have Fc:=ht.n2;have hk:=PJ (oF t);have hB:xf t+2<=t.length:=by omega
 have b0:ch (cC 0) 0=0:=rfl;have b1:ch (cC 0) 1=0:=rfl;rw[wU,wU,iH,au hB,ah,ah];have eB:∀j,j<2->ch t (xf t+j)=ch (cC 0) j:=by intro j hj;rw[<-h];unfold mT;rw[show xf (yG (yG (dS p).1 (Cn (dS p).1:Int) (cC 0)) (xf (dS p).1:Int) (cC 0))=xf (dS p).1 from by have:=Ha.2;rw[<-h]at this;exact this];exact afM (by rw[xS,w0];omega)
 have eA:∀j,j<2->ch t (Cn t+j)=ch (cC 0) j:=by intro j hj;rw[<-h];unfold mT;rw[show Cn (yG (yG (dS p).1 (Cn (dS p).1:Int) (cC 0)) (xf (dS p).1:Int) (cC 0))=Cn (dS p).1 from by have:=Ha.1;rw[<-h]at this;exact this];rw[Xl];exact afM (by rw[w0];omega)
 have a0:=eA 0 (by omega);have a1:=eA 1 (by omega);have c0:=eB 0 (by omega);have c1:=eB 1 (by omega);rw[eN]at a0 c0;rw[a0,a1,c0,c1,b0,b1];exact⟨rfl,rfl⟩
theorem aoF (l:aw α)(i j:Nat)(h:i<=j)(h2:j<=l.length):sub l (i:Int) (j:Int)=some ((l.drop i).take (j-i)):=by unfold sub;rw[zip];simp[List.take_drop,Nat.add_sub_cancel' h]
theorem amT (a k:Nat):Int.tdiv (a:Int) (k:Int)=((a/k:Nat):Int):=(Int.ofNat_tdiv a k).symm
theorem amW (a k:Nat):tmod (a:Int) (k:Int)=((a%k:Nat):Int):=(Int.ofNat_tmod a k).symm
theorem mem_iff:dv m=true↔(∀x∈m,x.length=128)/\m.length<=64:=by simp only[dv,af,aF,ba,aG];constructor;rintro⟨h1,h2⟩;exact⟨λx hx=>by have:=h1 x hx;omega,by omega⟩;rintro⟨h1,h2⟩;exact⟨λx hx=>by have:=h1 x hx;omega,by omega⟩
theorem YK:∀{m:bV},(∀x∈m,x.length=128)->m.flatten.length=128*m.length
 |[],_=>rfl
 |x::m,h=>by have:=YK (m:=m) (λy hy=>h y (by simp[hy]));have:=h x (by simp);simp only[List.flatten_cons,ai,bg];omega
theorem Uh:∀{m:bV}(_:∀x∈m,x.length=128)(p:Nat)(hp:p<m.length)(o c:Nat),o+c<=128->(m.flatten.drop (128*p+o)).take c=(m[p].drop o).take c
 |x::m,h,0,hp,o,c,ho=>by have:=h x (by simp);simp only[List.flatten_cons,List.getElem_cons_zero];rw[List.drop_append_of_le_length (by omega),List.take_append_of_le_length (by simp;omega)];simp
 |x::m,h,p+1,hp,o,c,ho=>by have hx:=h x (by simp);simp only[List.flatten_cons,List.getElem_cons_succ];rw[show 128*(p+1)+o=x.length+(128*p+o) by omega,List.drop_length_add_append];exact Uh (m:=m) (λy hy=>h y (by simp[hy])) p (by simpa using hp) o c ho
def Fw (m:bV)(a n:Nat):Bytes:=(m.flatten.drop a).take n
theorem Vd (h:dv m=true)(hn:a+n<=128*m.length):(Fw m a n).length=n:=by have:=YK (mem_iff.1 h).1;simp only[Fw,aP,aS];omega
theorem alV (m:bV)(a n:Nat):(Fw m a n).length<=n:=by simp[Fw];omega
theorem aif (m:bV)(a k c:Nat):Fw m a (k+c)=Fw m a k++Fw m (a+k) c:=by unfold Fw;rw[List.take_add,fE]
theorem aed (h:dv m=true){p:Nat}(hp:p<m.length){c:Nat}(ho:o+c<=128)(ha:a=128*p+o):(m[p].drop o).take c=Fw m a c:=by subst ha;exact(Uh (mem_iff.1 h).1 p hp o c ho).symm
def je (m:bV)(a n:Int):Bool:=dv m&&decide (0<=n/\0<=a/\a+n<=128*(m.length:Int))
theorem H8 (m:bV)(a n:Int)(h:m.length<=10^9):lU m a n=some (je m a n):=by unfold lU je;rw[Gu m h,ab,aj (n:=128*(m.length:Int))];cases hm:dv m with|false=>rfl|true=>simp only[ah,aZ];by_cases h1:n>=0;by_cases h3:a>=0;by_cases h2:a<=128*(m.length:Int);rw[aj (n:=128*(m.length:Int)-a)];simp only[au h1,au h2,au h3,ah,ab];exact congrArg some (decide_eq_decide.2 (by omega));simp only[au h1,aq h2,au h3,ah,ae,ab];exact congrArg some (cD).symm;simp only[au h1,aq h3,ah,ae,ab];exact congrArg some (cD).symm;simp only[aq h1,ae,ab];exact congrArg some (cD).symm
theorem Me (hm:dv m=true)(K:Int->Int->Bytes->az R):∀(n r k a f:Nat),r<=n->n<f->a+k+r<=128*m.length->
 bh (lS K m) f (((a+k:Nat):Int),(r:Int),Fw m a k)=K ((a+k+r:Nat):Int) 0 (Fw m a (k+r))
 |n,r,k,a,0,_,hf,_=>by omega
 |n,0,k,a,f+1,hr,hf,hb=>by rw[bh];simp only[lS];rw[cD,ae];rfl
 |0,r+1,k,a,f+1,hr,hf,hb=>by omega
 |n+1,r+1,k,a,f+1,hr,hf,hb=>by
  have h64:=(mem_iff.1 hm).2;have hl:=Vd hm (show a+k<=128*m.length by omega);obtain⟨p,hp⟩:∃p,(a+k)/128=p:=⟨_,rfl⟩
  obtain⟨o,ho⟩:∃o,(a+k)%128=o:=⟨_,rfl⟩
  have hpo:a+k=128*p+o:=by omega
  have ho2:o<128:=by omega
  have Ha:p<m.length:=by omega
  obtain⟨c,hc⟩:∃c,min (r+1) (128-o)=c:=⟨_,rfl⟩
  have hpg:=(mem_iff.1 hm).1 _ (aB Ha);have e1:Int.tdiv ((a+k:Nat):Int) 128=(p:Int):=by rw[<-hp];exact amT (a+k) 128
  have e2:tmod ((a+k:Nat):Int) 128=(o:Int):=by rw[<-ho];exact amW (a+k) 128
  have key:=Me hm K n (r+1-c) (k+c) a f (by omega) (by omega) (by omega);rw[bh];simp only[lS,e1,e2];rw[iH,ah,nI,nI,aj (n:=(p:Int)),bc Ha,ab];rw[aj (n:=128-(o:Int))];rw[show(if 128-(o:Int)<((r+1:Nat):Int) then 128-(o:Int) else((r+1:Nat):Int))=(c:Int) by split<;>omega];rw[aj (n:=(o:Int)+(c:Int)),show(o:Int)+(c:Int)=((o+c:Nat):Int) by omega];rw[aoF _ _ _ (by omega) (by omega),ab,show o+c-o=c by omega,aed hm Ha (show o+c<=128 by omega) hpo];have Cz:=Vd hm (show a+k+c<=128*m.length by omega);rw[Cz,hl,aL,aj (n:=((a+k:Nat):Int)+(c:Int)),aj (n:=((r+1:Nat):Int)-(c:Int)),<-aif];rw[show((a+k:Nat):Int)+(c:Int)=((a+(k+c):Nat):Int) by omega,show((r+1:Nat):Int)-(c:Int)=((r+1-c:Nat):Int) by omega];rw[show k+c+(r+1-c)=k+(r+1) by omega,show a+(k+c)+(r+1-c)=a+k+(r+1) by omega]at key;exact key
theorem amj (m:bV)(a n:Int)(h:m.length<=10^9):qF m a n=some (bif je m a n then(Fw m a.toNat n.toNat,true) else([],false)):=by have GS:=fb;unfold qF;rw[H8 m a n h,ab];cases hw:je m a n with|false=>rfl|true=>simp only[je,af,aG]at hw;obtain⟨hm,h1,h2,h3⟩:=hw;have h64:=(mem_iff.1 hm).2;simp only[al,ae,ah];obtain⟨a,rfl⟩:=aO h2;obtain⟨n,rfl⟩:=aO h1;have:=Me hm (λ(y4:Int) (y5:Int) (y6:Bytes)=>some (y6,true)) n n 0 a fuel (by omega) (by omega) (by omega);rw[cO,eN]at this;exact this
def To (d p:Int)(w:Bool)(x:aN):Bool:=xN d p x&&(x.2.2.2|| !w)
def G1 (l:aw aN)(d p:Int)(w:Bool):Int:=match l.findIdx? (To d p w)with|some i=>(l.getD i RB).2.2.1|none=> -1
theorem amg (l:aw aN)(d p:Int)(w:Bool)(h:l.length<=10^9):Ck l d p w=some (G1 l d p w):=by unfold Ck G1;refine Eq.trans (Cv (p:=To d p w) (hit:=λi=>aa (idx l i) λx=>some x.2.2.1) (fin:=some (-1)) l (by omega) (λi hi nx=>?_) (λnx=>?_)) ?_;simp only[wu];rw[iH,bc hi,aj];simp only[ah,ab,To,xN];cases l[i].1==d<;>cases l[i].2.1==p<;>cases l[i].2.2.2<;>cases w<;>rfl;simp only[wu];rw[cD];rfl;cases hf:l.findIdx? (To d p w)with|none=>rfl|some i=>obtain⟨hi,_⟩:=List.findIdx?_eq_some_iff_getElem.1 hf;simp only[bc hi,ab,bN hi]
theorem alu (h:gF l=true)(hi:i<l.length):RA l[i]=true/\∀j (hj:j<i),xN l[i].1 l[i].2.1 (l[j]'(by omega))=false:=by simp only[gF,af,aF,bE]at h;have:=h.2 i hi;simp only[Rz,af,aF,bE,bN hi,aM]at this;exact⟨this.1,λj hj=>by have:=this.2 j hj;rwa[bN (by omega)]at this⟩
theorem ahC {p:Int}{m:aN}:xN d p m=true↔m.1=d/\m.2.1=p:=by simp[xN]
theorem alM (h:gF l=true)(d p:Int)(w:Bool)(h1:0<=G1 l d p w):G1 l d p w<=63/\0<=p/\p<=1023:=by unfold G1 at h1⊢;cases hf:l.findIdx? (To d p w)with|none=>rw[hf]at h1;simp at h1|some i=>obtain⟨hi,h2,_⟩:=List.findIdx?_eq_some_iff_getElem.1 hf;have h3:=(alu h hi).1;simp only[To,af,ahC]at h2;simp only[RA,af,aX]at h3;simp only[bN hi];omega
def sT (l:aw aN)(m:bV)(d:Int)(w:Bool):Nat->Nat->Nat->az (aw (Int×Int))
 |0,_,_=>some []
 |n+1,a,r=>if r=0 then some [] else
  if 0<=G1 l d ((a/128:Nat):Int) w/\G1 l d ((a/128:Nat):Int) w<(m.length:Int) then
   (sT l m d w n (a+min (128-a%128) r) (r-min (128-a%128) r)).map (λq=>(G1 l d ((a/128:Nat):Int) w*128+((a%128:Nat):Int),((min (128-a%128) r:Nat):Int))::q)
  else none
theorem abH (hm:dv m=true){f:Int}(h0:0<=f):je m (f*128) 128=decide (f<(m.length:Int)):=by rw[je,hm,aZ];exact decide_eq_decide.2 (by omega)
theorem Mg (hl:gF l=true)(hL:l.length<=10^9)(hm:dv m=true)(d:Int)(w:Bool):∀(n a r f:Nat)(acc:aw (Int×Int)),r<=n->n<f->acc.length+n<=1000000->a<=9223372036854775807->
 bh (lG (λ(EV:Int) (Dw:Int) (Cs:bQ) (EW:bQ)=>some (Cs,EW,true)) (λ(BB:Int) (CJ:Int) (J1:bQ) (TP:bQ) (y18:Bool) (y19:bQ) (y20:bQ)=>some (J1,TP,y18)) l d w ([]:bQ) ([]:bQ) false m) f ((a:Int),(r:Int),acc.map (·.1),acc.map (·.2))
  =match sT l m d w n a r with|some q=>some ((acc++q).map (·.1),(acc++q).map (·.2),true)|none=>some ([],[],false)
 |n,a,r,0,acc,_,hf,_,_=>by omega
 |0,a,r,f+1,acc,hr,hf,hA,ha=>by rw[bh];simp only[lG];rw[cD];simp[sT]
 |n+1,a,r,f+1,acc,hr,hf,hA,ha=>by
  have h64:=(mem_iff.1 hm).2;rw[bh];simp only[lG,sT];by_cases h0:r=0;rw[cD,aI h0];simp;have e1:Int.tdiv (a:Int) 128=((a/128:Nat):Int):=amT a 128;have e2:tmod (a:Int) 128=((a%128:Nat):Int):=amW a 128;have yK:=alM hl d ((a/128:Nat):Int) w;rw[au (show(r:Int)>0 by omega),au (show(a:Int)>=0 by omega),aK h0];simp only[ah];rw[nI,e1,e2,aj (n:=((a/128:Nat):Int)),amg l _ _ w hL,ab,nI,aj (n:=128-((a%128:Nat):Int))];obtain⟨c,hc⟩:∃c,min (128-a%128) r=c:=⟨_,rfl⟩
  rw[hc,show(if 128-((a%128:Nat):Int)<(r:Int) then 128-((a%128:Nat):Int) else(r:Int))=(c:Int) by split<;>omega];generalize hP:G1 l d ((a/128:Nat):Int) w=P at yK⊢;by_cases hP0:0<=P;have yK:=yK hP0;rw[aq (show¬P<0 by omega),aj (n:=P*128),H8 m _ _ (by omega),abH hm hP0];simp only[ae,ab];by_cases hP1:P<(m.length:Int);rw[au hP1,aI ⟨hP0,hP1⟩];simp only[al,ae];rw[aL (by simp;omega),aL (by simp;omega),aj (n:=P*128+((a%128:Nat):Int)),aj (n:=(a:Int)+(c:Int)),aj (n:=(r:Int)-(c:Int))];have key:=Mg hl hL hm d w n (a+c) (r-c) f (acc++[(P*128+((a%128:Nat):Int),(c:Int))]) (by omega) (by omega) (by simp;omega) (by omega);rw[show((a+c:Nat):Int)=(a:Int)+(c:Int) by omega,show((r-c:Nat):Int)=(r:Int)-(c:Int) by omega,eH,eH]at key;refine Eq.trans key ?_;cases sT l m d w n (a+c) (r-c)with|none=>rfl|some q=>simp
  rw[aq hP1,nI];rfl;rw[nI,iH];rfl
def mr (l:aw aN)(m:bV)(d a n:Int)(w:Bool):aw (Int×Int)×Bool:=
 bif gF l&&(dv m&&cY n 0 4096) then
  (bif n==0 then([],true) else bif decide (a<0) then([],false) else match sT l m d w n.toNat a.toNat n.toNat with|some q=>(q,true)|none=>([],false))
 else([],false)
theorem Vs (l:aw aN)(m:bV)(d a n:Int)(w:Bool)(hl:l.length<=10^9)(hm:m.length<=10^9)(ha:a<=9223372036854775807):vD l m d a n w=some ((mr l m d a n w).1.map (·.1),(mr l m d a n w).1.map (·.2),(mr l m d a n w).2):=by
 have GS:=fb;unfold vD mr;simp only[Mb l hl,Gu m hm,cn,ab];cases hB:gF l;rfl;cases hM:dv m;rfl;cases hN:cY n 0 4096;rfl;have hn:=aX.1 hN;simp only[al,ae,ab,bW,ah];obtain⟨n,rfl⟩:=aO hn.1;cases h0:((n:Int)==0)with
 |true=>
  have:n=0:=by simpa using h0
  subst this;obtain⟨f,hf⟩:∃f,fuel=f+1:=⟨fuel-1,by omega⟩
  rw[hf,bh];rfl
 |false=>
  have hn0:n≠0:=by simpa using h0
  by_cases hA:a<0;obtain⟨f,hf⟩:∃f,fuel=f+1:=⟨fuel-1,by omega⟩
  rw[au hA,hf,bh];simp only[lG];rw[iH,cD];rfl;rw[aq hA];simp only[ae];obtain⟨a,rfl⟩:=aO (show 0<=a by omega);refine Eq.trans (Mg hB hl hM d w n a n fuel [] (by omega) (by omega) (by simp;omega) (by omega)) ?_;simp only[ax];cases sT l m d w n a n<;>rfl
def JE (x:Bytes)(o:Nat)(t:Bytes):Bytes:=x.take o++(t++x.drop (o+t.length))
theorem U3 (h:o+t.length<=x.length):(JE x o t).length=x.length:=by simp only[JE,ai,aP,aS];omega
theorem alR (h:o+t.length<=x.length):yG x (o:Int) t=JE x o t:=by unfold yG fG;rw[au ⟨by omega,by omega⟩];simp only[ah,ax,JE,bj]
def ET:Nat->bV->Nat->Bytes->bV
 |0,m,_,_=>m
 |n+1,m,a,s=>if s.length=0 then m else
  ET n (m.set (a/128) (JE (m.getD (a/128) []) (a%128) (s.take (128-a%128)))) (a+min (128-a%128) s.length) (s.drop (128-a%128))
def Gf (m:bV):Prop:=(∀x∈m,x.length=128)/\m.length<=64
theorem tT:dv m=true↔Gf m:=mem_iff
theorem U5 {p:Nat}(h:Gf m)(hx:x.length=128):Gf (m.set p x):=by refine⟨λy hy=>?_,by rw[ay];exact h.2⟩;rcases cd hy with g|g;exact h.1 y g;rw[g];exact hx
theorem KL (h:Gf m)(hs:s.length≠0)(ha:a+s.length<=128*m.length): ∃(hp:a/128<m.length),(m[a/128]'hp).length=128/\(JE (m[a/128]'hp) (a%128) (s.take (128-a%128))).length=128:=by
 have hp:a/128<m.length:=by omega
 have hl:=h.1 _ (aB hp);refine⟨hp,hl,?_⟩;rw[U3 (by rw[aP,hl];omega),hl]
theorem Cr:∀(n:Nat){m:bV}{a:Nat}{s:Bytes},Gf m->a+s.length<=128*m.length->Gf (ET n m a s)/\(ET n m a s).length=m.length
 |0,m,a,s,h,_=>⟨h,rfl⟩
 |n+1,m,a,s,h,ha=>by rw[ET];split;exact⟨h,rfl⟩;rename_i hs;obtain⟨hp,hl,ho⟩:=KL h hs ha;rw[bN hp];have:=Cr n (m:=m.set (a/128) (JE m[a/128] (a%128) (s.take (128-a%128)))) (a:=a+min (128-a%128) s.length) (s:=s.drop (128-a%128)) (U5 h ho) (by rw[ay,aS];omega);rw[ay]at this;exact this
theorem JR (K:Int->Bytes->bV->az R)(K':bV->az R)(hK:∀a m,K a [] m=K' m):∀(n:Nat)(m:bV)(a:Nat)(s:Bytes)(f:Nat),s.length<=n->n<f->Gf m->a+s.length<=128*m.length->
 bh (oc K ([]:bV)) f ((a:Int),s,m)=K' (ET n m a s)
 |n,m,a,s,0,_,hf,_,_=>by omega
 |n,m,a,s,f+1,hs,hf,hm,ha=>by
  rw[bh];simp only[oc];by_cases h0:s.length=0;have:s=[]:=cQ h0;subst this;rw[aq (by simp),ae,hK];cases n<;>simp[ET];cases n with
  |zero=>omega
  |succ n=>
   obtain⟨hp,hl,ho⟩:=KL hm h0 ha;have h64:=hm.2;have e1:Int.tdiv (a:Int) 128=((a/128:Nat):Int):=amT a 128;have e2:tmod (a:Int) 128=((a%128:Nat):Int):=amW a 128;rw[iH,ah,nI,nI,nI,e1,e2,aj (n:=((a/128:Nat):Int)),aj (n:=128-((a%128:Nat):Int)),bc hp,ab];obtain⟨c,hc⟩:∃c,min (128-a%128) s.length=c:=⟨_,rfl⟩
   rw[show(if 128-((a%128:Nat):Int)<(s.length:Int) then 128-((a%128:Nat):Int) else(s.length:Int))=(c:Int) by split<;>omega];have ht:s.take c=s.take (128-a%128):=by by_cases h3:128-a%128<=s.length;rw[<-hc,ju h3];rw[<-hc,Nat.min_eq_right (by omega),cx (bt _),cx (by omega)]
   have hdr:s.drop c=s.drop (128-a%128):=by by_cases h3:128-a%128<=s.length;rw[<-hc,ju h3];rw[<-hc,Nat.min_eq_right (by omega),dP (bt _),dP (by omega)]
   have hs1:sub s 0 (c:Int)=some (s.take (128-a%128)):=by rw[<-ht];unfold sub;rw[zip];simp
   have hs2:sub s (c:Int) (s.length:Int)=some (s.drop (128-a%128)):=by rw[<-hdr];unfold sub;rw[zip];simp
   rw[hs1,ab,Ae _ _ _,ab,ab,ab,hs2,ab,alR (by rw[aP,hl];omega),aj (n:=(a:Int)+(c:Int)),ax];rw[ET,aK h0,bN hp,hc,show(a:Int)+(c:Int)=((a+c:Nat):Int) by omega];exact JR K K' hK n _ _ _ f (by rw[aS];omega) (by omega) (U5 hm ho) (by rw[ay,aS];omega)
def wF (m:bV)(a:Int)(s:Bytes):bV×Bool:=bif je m a (s.length:Int) then(ET s.length m a.toNat s,true) else(m,false)
theorem aeF (m:bV)(a:Int)(s:Bytes)(h:m.length<=10^9)(hs:s.length<=10^9):ux m a s=some (wF m a s):=by have GS:=fb;unfold ux wF;rw[iR m,ab,H8 m _ _ h,ab];cases hw:je m a (s.length:Int);rfl;simp only[je,af,aG]at hw;obtain⟨a,rfl⟩:=aO hw.2.2.1;simp only[al,ae,ah,ax];exact JR _ (λm=>some (m,true)) (λ_ _=>rfl) s.length m a s fuel (bt _) (by omega) (tT.1 hw.1) (by omega)
theorem OZ (m:bV)(a:Int)(s:Bytes):(wF m a s).1.length=m.length:=by unfold wF;cases hw:je m a (s.length:Int);rfl;simp only[je,af,aG]at hw;exact(Cr s.length (tT.1 hw.1) (by omega)).2
def RX:aw (Int×Int)->bV->Bytes->bV
 |[],m,_=>m
 |p::q,m,s=>RX q (wF m p.1 (s.take p.2.toNat)).1 (s.drop p.2.toNat)
theorem aaN:∀(q:aw (Int×Int))(m:bV)(s:Bytes),(RX q m s).length=m.length
 |[],m,s=>rfl
 |p::q,m,s=>by rw[RX,aaN q,OZ]
def Sz (q:aw (Int×Int)):Int:=(q.map (·.2)).sum
theorem af9:∀(q:aw (Int×Int)),(∀p∈q,0<=p.2)->0<=Sz q
 |[],_=>dB _
 |p::q,h=>by have:=af9 q (λx hx=>h x (by simp[hx]));have:=h p (by simp);simp only[Sz,db,eI]at*;omega
theorem alS {p:Int×Int}{q:aw (Int×Int)}(hc:∀x∈p::q,0<=x.2)(hs:(s.length:Int)=Sz (p::q)):0<=p.2/\p.2<=(s.length:Int)/\((s.drop p.2.toNat).length:Int)=Sz q:=by
 have h1:=hc p (by simp);have h2:=af9 q (λx hx=>hc x (by simp[hx]));have h3:Sz (p::q)=p.2+Sz q:=by simp[Sz]
 rw[h3]at hs;refine⟨h1,by omega,?_⟩;rw[aS];omega
theorem aiX (h0:0<=c)(h1:c<=(s.length:Int)):sub s 0 c=some (s.take c.toNat):=by unfold sub;rw[zip];simp
theorem amo (h0:0<=c)(h1:c<=(s.length:Int)):sub s c (s.length:Int)=some (s.drop c.toNat):=by unfold sub;rw[zip];simp
theorem On (K:Bytes->Int->bV->az (bV×Bool))(hK:∀s i m,K s i m=some (m,true)):∀(rest pre:aw (Int×Int))(m:bV)(s:Bytes)(f:Nat),rest.length<f->pre.length+rest.length<=1000000->(∀x∈rest,0<=x.2)->(s.length:Int)=Sz rest->m.length<=10^9->s.length<=1000000->
 bh (oO K ((pre++rest).map (·.1)) ((pre++rest).map (·.2)) ([]:bV)) f (s,(pre.length:Int),m)=some (RX rest m s,true)
 |rest,pre,m,s,0,hf,_,_,_,_,_=>by omega
 |[],pre,m,s,f+1,_,_,_,_,_,_=>by rw[bh];simp only[oO];rw[aq (by simp),ae,hK];rfl
 |p::q,pre,m,s,f+1,hf,hn,hc,hs,hm,hl=>by
  obtain⟨h1,h2,h3⟩:=alS hc hs;simp only[bg]at hf hn;have hi:pre.length<(pre++p::q).length:=by simp
  have hp:(pre++p::q)[pre.length]=p:=by simp
  have i1:idx ((pre++p::q).map (·.1)) (pre.length:Int)=some p.1:=by rw[bc (by simp),List.getElem_map,hp]
  have i2:idx ((pre++p::q).map (·.2)) (pre.length:Int)=some p.2:=by rw[bc (by simp),List.getElem_map,hp]
  rw[bh];simp only[oO];rw[au (by simp;omega),i1,i2,aj];simp only[ah,ab,aiX h1 h2,amo h1 h2,aeF m _ _ hm (show(s.take p.2.toNat).length<=10^9 by rw[aP];omega)];have key:=On K hK q (pre++[p]) (wF m p.1 (s.take p.2.toNat)).1 (s.drop p.2.toNat) f (by omega) (by simp;omega) (λx hx=>hc x (by simp[hx])) h3 (by rw[OZ];exact hm) (by rw[aS];omega);have el:((pre++[p]).length:Int)=(pre.length:Int)+1:=by simp
  rw[bj,List.singleton_append,el]at key;rw[RX];exact key
theorem RN (l:aw aN)(m:bV)(d:Int)(w:Bool):∀(n a r:Nat)(q:aw (Int×Int)),r<=n->sT l m d w n a r=some q->Sz q=(r:Int)/\(∀p∈q,0<=p.2)/\q.length<=n
 |0,a,r,q,hr,h=>by simp only[sT,bq]at h;subst h;exact⟨by show(0:Int)=_;omega,by simp,by simp⟩
 |n+1,a,r,q,hr,h=>by simp only[sT]at h;split at h;simp only[bq]at h;subst h;exact⟨by show(0:Int)=_;omega,by simp,by simp⟩;split at h;simp only[Option.map_eq_some_iff]at h;obtain⟨q',h1,rfl⟩:=h;obtain⟨i1,i2,i3⟩:=RN l m d w n _ _ q' (by omega) h1;refine⟨?_,?_,by simp only[bg];omega⟩;simp only[Sz,db,eI]at i1⊢;rw[i1];omega;intro p hp;rcases bZ.1 hp with rfl|hp;show(0:Int)<=((min (128-a%128) r:Nat):Int);omega;exact i2 p hp;cases h
theorem aim (l:aw aN)(m:bV)(d a n:Int)(w:Bool)(h:(mr l m d a n w).2=true):Sz (mr l m d a n w).1=n/\(∀p∈(mr l m d a n w).1,0<=p.2)/\(mr l m d a n w).1.length<=4096/\n<=4096:=by
 unfold mr at h⊢;cases hB:gF l&&(dv m&&cY n 0 4096)with|false=>rw[hB]at h;simp at h|true=>?_
 rw[hB]at h;simp only[af,aX]at hB;simp only[ah]at h⊢;cases h0:n==0 with
 |true=>
  have:n=0:=by simpa using h0
  subst this;exact⟨rfl,by simp,by simp,by omega⟩
 |false=>rw[h0]at h;simp only[ae]at h⊢;cases ha:decide (a<0)with|true=>rw[ha]at h;simp at h|false=>rw[ha]at h;simp only[ae]at h⊢;cases hq:sT l m d w n.toNat a.toNat n.toNat with|none=>rw[hq]at h;cases h|some q=>obtain⟨i1,i2,i3⟩:=RN l m d w _ _ _ q (bt _) hq;exact⟨by simp only;rw[i1];omega,i2,by simp only;omega,by omega⟩
def kH (l:aw aN)(m:bV)(d a:Int)(s:Bytes)(w:Bool):bV×Bool:=
 bif (mr l m d a (s.length:Int) w).2 then(RX (mr l m d a (s.length:Int) w).1 m s,true) else(m,false)
theorem vq (l:aw aN)(m:bV)(d a:Int)(s:Bytes)(w:Bool):(kH l m d a s w).1.length=m.length:=by unfold kH;cases (mr l m d a (s.length:Int) w).2 with|false=>rfl|true=>exact aaN _ _ _
theorem B6 (l:aw aN)(m:bV)(d a:Int)(s:Bytes)(hl:l.length<=10^9)(hm:m.length<=10^9)(ha:a<=9223372036854775807):nv l m d a s=some (kH l m d a s true):=by have GS:=fb;unfold nv kH;rw[Vs l m d a _ true hl hm ha,ab,iR m,ab];have hS:=aim l m d a (s.length:Int) true;generalize mr l m d a (s.length:Int) true=r at hS⊢;cases hr:r.2;rfl;obtain⟨h1,h2,h3,h4⟩:=hS hr;simp only[al,ae,ah];exact On _ (λ_ _ _=>rfl) r.1 [] m s fuel (by omega) (by simp;omega) h2 h1.symm hm (by omega)
def wrM (x:aN):aN:=(x.1,x.2.1,x.2.2.1,true)
theorem getD_map (hi:i<l.length):(l.map wrM).getD i RB=wrM (l.getD i RB):=by rw[bN (by simpa using hi),bN hi,List.getElem_map]
theorem W8 (l:aw aN):gF (l.map wrM)=gF l:=by
 unfold gF;rw[bw];congr 1;rw[cG,aF,aF];have key:∀i,i<l.length->Rz (l.map wrM) i=Rz l i:=by
  intro i hi;unfold Rz;rw[getD_map hi];congr 1;rw[cG,aF,aF];constructor;intro h j hj;have X0:j<l.length:=by have:=bE.1 hj;omega
  have:=h j hj;rw[getD_map X0]at this;exact this;intro h j hj;have X0:j<l.length:=by have:=bE.1 hj;omega
  rw[getD_map X0];exact h j hj
 constructor;intro h i hi;rw[<-key i (bE.1 hi)];exact h i hi;intro h i hi;rw[key i (bE.1 hi)];exact h i hi
theorem alN (l:aw aN)(d p:Int):G1 (l.map wrM) d p true=G1 l d p false:=by
 unfold G1;rw[List.findIdx?_map];have e:(To d p true∘wrM)=To d p false:=by funext x;simp only[Function.comp,To,xN,wrM,bH,iJ,gb]
 rw[e];cases hf:l.findIdx? (To d p false)with|none=>rfl|some i=>obtain⟨hi,_⟩:=List.findIdx?_eq_some_iff_getElem.1 hf;simp only[getD_map hi];rfl
theorem U8 (l:aw aN)(m:bV)(d:Int):∀n a r,sT (l.map wrM) m d true n a r=sT l m d false n a r
 |0,a,r=>rfl
 |n+1,a,r=>by simp only[sT,alN,U8 l m d n]
theorem aon (l:aw aN)(m:bV)(d a:Int)(s:Bytes):kH (l.map wrM) m d a s true=kH l m d a s false:=by
 have e:mr (l.map wrM) m d a (s.length:Int) true=mr l m d a (s.length:Int) false:=by simp only[mr,W8,U8]
 simp only[kH,e]
theorem JQ (l:aw aN)(m:bV)(d a:Int)(s:Bytes)(hl:l.length<=10^9)(hm:m.length<=10^9)(ha:a<=9223372036854775807):tf l m d a s=some (kH l m d a s false):=by unfold tf;refine cK (λi=>((l.take i).map wrM,(i:Int))) l.length (by omega) (λi nx hi=>?_) (λnx=>?_);simp only[rZ];rw[iH,bc hi,aj];simp only[ah,ab];rw[aL (by simp;omega),aV hi,eH];rfl;simp only[rZ];rw[cD,ae,cf,B6 _ m d a s (by rw[bw];exact hl) hm ha,aon];rfl
def AI (d:Ja):Bool:=cY d.1 0 3&&(cY d.2.1 0 3&&(cY d.2.2.1 0 65535&&(cY d.2.2.2.2.1 0 65535&&(cY d.2.2.2.2.2 0 65535&&cY d.2.2.2.1 0 4294967295))))
theorem L6 (d:Ja):ta d=some (AI d):=by simp only[ta,cn,ab,AI];cases cY d.1 0 3<;>cases cY d.2.1 0 3<;>cases cY d.2.2.1 0 65535<;>cases cY d.2.2.2.2.1 0 65535<;>cases cY d.2.2.2.2.2 0 65535<;>rfl
def E3 (d:Ja):Bytes:=
 bif AI d then((((bf [iA d.1,iA d.2.1]++cC d.2.2.1)++gw d.2.2.2.1)++cC d.2.2.2.2.1)++cC d.2.2.2.2.2)++gw 0 else []
theorem XD (d:Ja):mC d=some (E3 d):=by have h1:=cr d.2.2.1;have h2:=dT d.2.2.2.1;have h3:=cr d.2.2.2.2.1;have h4:=cr d.2.2.2.2.2;have h5:=dT 0;have h0:(bf [iA d.1,iA d.2.1]).length=2:=rfl;unfold mC E3;rw[L6,ab];cases AI d;rfl;simp only[al,ae,ah,iS,kI,ab];rw[aL,aL (by simp only[ai];omega),aL (by simp only[ai];omega),aL (by simp only[ai];omega),aL (by simp only[ai];omega)]
def uH (r:od):Int:=bif dF r then ar (r.2.1-cl r) else 0
def wZ (r:od)(c:Int):Int:=bif !dF r||decide (c<0) then-1 else r.1+tmod c r.2.1*16
theorem nT (h:dF r=true):0<=r.1/\r.1<=130944/\(r.2.1=2\/r.2.1=4\/r.2.1=8\/r.2.1=16)/\0<=r.2.2.1/\r.2.2.1<=2*r.2.1-1/\0<=r.2.2.2/\r.2.2.2<=2*r.2.1-1:=by simp only[dF,af,aX]at h;exact⟨h.1.1,h.1.2,hR.1 h.2.1,h.2.2.1.1,h.2.2.1.2,h.2.2.2.1.1,h.2.2.2.1.2⟩
theorem Se (r:od)(c:Int): -1<=wZ r c/\wZ r c<=200000:=by
 unfold wZ;cases hc: !dF r||decide (c<0)with
 |true=>exact⟨dB _,by simp⟩
 |false=>
  simp only[cI,dX,cH]at hc;have h:=nT hc.1;have h2:0<=tmod c r.2.1/\tmod c r.2.1<r.2.1:=by rw[ed (by omega)];exact⟨fH _ (by omega),fK _ (by omega)⟩
  simp only[ae];omega
def eu (l:aw aN)(m:bV)(d:Int)(r:od)(s:Bytes):bV×od×Bool:=
 bif (uH r==0)||((s.length:Int) !=16) then(m,r,false) else
 bif !(kH l m d (wZ r r.2.2.2) s true).2 then(m,r,false) else
 ((kH l m d (wZ r r.2.2.2) s true).1,(r.1,r.2.1,r.2.2.1,tmod (r.2.2.2+1) (2*r.2.1)),true)
theorem aie {a:Int}{w:Bool}(h:(kH l m d a s w).2=false):(kH l m d a s w).1=m:=by unfold kH at h⊢;cases hr:(mr l m d a (s.length:Int) w).2 with|false=>rfl|true=>rw[hr]at h;cases h
theorem IZ (r:od):ra r=some (uH r):=by unfold ra uH;rw[Bc,ab];cases dF r;rfl;simp only[al,ae,ah,Dm,ab]
theorem Vv (r:od)(c:Int):pe r c=some (wZ r c):=by
 have yK:=Se r c;unfold pe;rw[Bc,ab];unfold wZ at yK⊢;cases hb:dF r;rfl;have h:=nT hb;by_cases hc:c<0;rw[au hc];rfl;rw[hb,aq hc]at yK;rw[aq hc];have h2:0<=tmod c r.2.1/\tmod c r.2.1<r.2.1:=by rw[ed (by omega)];exact⟨fH _ (by omega),fK _ (by omega)⟩
 simp only[al,ae,ab,cc]at yK⊢;rw[nI,aj (n:=16*tmod c r.2.1),aj];congr 1;omega
theorem Oo (l:aw aN)(m:bV)(d:Int)(r:od)(s:Bytes)(hl:l.length<=10^9)(hm:m.length<=10^9):yk l m d r s=some (eu l m d r s):=by
 have hA:=Se r r.2.2.2;unfold yk eu;simp only[IZ,ab,Vv,B6 l m d _ s hl hm (show wZ r r.2.2.2<=9223372036854775807 by omega),iR m (show m.length<=1073741824 by omega)];cases hf:uH r==0;case true=>rfl
 cases (s.length:Int) !=16;case true=>rfl
 have hb:dF r=true:=by cases hb:dF r with|true=>rfl|false=>unfold uH at hf;rw[hb]at hf;cases hf
 have h:=nT hb;simp only[ae,ab,cc];cases hp:(kH l m d (wZ r r.2.2.2) s true).2 with|false=>simp only[bH,ah,aie hp]|true=>simp only[al,ae];rw[aj (n:=2*r.2.1),nI,aj (n:=r.2.2.2+1)]
theorem Gi {p:ei}(h:dN p=true):0<=p.1/\p.1<=130944/\1<=p.2.1/\p.2.1<=512/\0<=p.2.2.1/\p.2.2.1<=16:=by simp only[dN,af,aX]at h;exact⟨h.1.1,h.1.2,h.2.1.1,h.2.1.2,h.2.2.1.1,h.2.2.1.2⟩
def uM (p:ei)(i:Int):Int:=bif !dN p|| !cY i 0 (p.2.2.1-1) then-1 else p.1+i*p.2.1
theorem anl {p:ei}{i:Int}(hp:dN p=true)(hi:cY i 0 (p.2.2.1-1)=true):ar (p.1+ar (i*p.2.1))=p.1+i*p.2.1:=by have h:=Gi hp;have h2:=aX.1 hi;have h3:0<=i*p.2.1:=Int.mul_nonneg h2.1 (by omega);have h4:i*p.2.1<=16*512:=Int.mul_le_mul (by omega) (by omega) (by omega) (by omega);rw[aj (n:=i*p.2.1),aj]
theorem Sf (p:ei)(i:Int)(h:p.2.2.2.length<=10^9):jD p i=some (uM p i):=by unfold jD uM;rw[vt p h,ab];cases hp:dN p;rfl;have yK:=Gi hp;rw[aj (n:=p.2.2.1-1),cn];cases hi:cY i 0 (p.2.2.1-1);rfl;simp only[al,ae,ab,cc,anl hp hi]
def upto (n:Nat):bQ:=(List.range n).map Int.ofNat
theorem ai2 (n:Nat):upto (n+1)=upto n++[(n:Int)]:=by simp[upto,gz]
theorem am0 (h:i<n):(upto n).getD i 0=(i:Int):=by rw[bN (by simpa[upto]using h)];simp[upto]
theorem ad7 (a b:Int)(n:Nat)(hn:n<=16):dN (a,b,(n:Int),upto n)=dN (a,b,(n:Int),[]):=by
 unfold dN;congr 3;have h1:(List.range (upto n).length).all (Hx (n:Int) (upto n))=true:=by
  rw[aF];intro i hi;have hi:i<n:=by simpa[upto]using hi
  simp only[Hx,am0 hi,af,aX,aM];refine⟨by omega,?_⟩;rw[Bool.eq_false_iff,ne_eq,List.contains_iff_mem];intro hm;simp only[upto,<-List.map_take,dH]at hm;obtain⟨j,hj,he⟩:=hm;rw[List.take_range]at hj;have:=bE.1 hj;have:(j:Int)=(i:Int):=he;omega
 rw[h1];rfl
def kR (a b n:Int):ei×Bool:=bif dN (a,b,n,[]) then((a,b,n,upto n.toNat),true) else((0,0,0,[]),false)
theorem Om (a b n:Int):yh a b n=some (kR a b n):=by
 have GS:=fb;unfold yh kR;by_cases hn:0<=n/\n<=16;obtain⟨n,rfl⟩:=aO hn.1;have h16:n<=16:=by omega
 refine cK (λi=>((i:Int),a,b,(n:Int),upto i)) n (by omega) (λi nx hi=>?_) (λnx=>?_);simp only[qD];rw[au (show(i:Int)<n by omega),au (show(n:Int)<=16 by omega)];simp only[ah,ab];rw[aL (by simp[upto];omega),aj,ai2];rfl;simp only[qD];rw[aq (show¬(n:Int)<n by omega)];simp only[ae,ab,vt (a,b,(n:Int),upto n) (show(upto n).length<=10^9 by simp[upto];omega),ad7 a b n h16,ax];cases dN (a,b,(n:Int),[])<;>rfl;have hb:dN (a,b,n,[])=false:=by cases hp:dN (a,b,n,[])with|false=>rfl|true=>have:=Gi hp;exact absurd ⟨this.2.2.2.2.1,this.2.2.2.2.2⟩ hn
 obtain⟨f,hf⟩:∃f,fuel=f+1:=⟨fuel-1,by omega⟩
 rw[hf,bh];simp only[qD];have hc:(cond (decide ((0:Int)<n)) (some (decide (n<=16))) (some false))=some false:=by by_cases h0:(0:Int)<n;rw[au h0,cD];rfl;rw[aq h0];rfl
 rw[hc];simp only[ab,ae,vt (a,b,n,[]) (show([]:bQ).length<=10^9 by simp),hb];rfl
def iB (p:ei)(b:Int):Bytes:=E3 (3,0,p.2.1,uM p b,0,b)
def uG (l:aw aN)(d:Int)(p:ei):bQ->bV->od->Nat×bV×od
 |[],m,r=>(0,m,r)
 |b::q,m,r=>bif (eu l m d r (iB p b)).2.2 then
   ((uG l d p q (eu l m d r (iB p b)).1 (eu l m d r (iB p b)).2.1).1+1,(uG l d p q (eu l m d r (iB p b)).1 (eu l m d r (iB p b)).2.1).2)
  else(0,m,r)
theorem Gk (l:aw aN)(m:bV)(d:Int)(r:od)(s:Bytes):(eu l m d r s).1.length=m.length:=by
 unfold eu;cases (uH r==0)||((s.length:Int) !=16);case true=>rfl
 cases (kH l m d (wZ r r.2.2.2) s true).2 with|false=>rfl|true=>exact vq ..
theorem T8 (l:aw aN)(d:Int)(p:ei):∀(q:bQ)(m:bV)(r:od),(uG l d p q m r).2.1.length=m.length/\(uG l d p q m r).1<=q.length
 |[],m,r=>⟨rfl,bt _⟩
 |b::q,m,r=>by rw[uG];cases (eu l m d r (iB p b)).2.2 with|false=>exact⟨rfl,bC _⟩|true=>have:=T8 l d p q (eu l m d r (iB p b)).1 (eu l m d r (iB p b)).2.1;simp only[ah,bg];exact⟨by rw[this.1,Gk],by omega⟩
theorem YU (r:od):0<=uH r:=by
 unfold uH;cases hb:dF r with
 |false=>exact dB _
 |true=>
  have h:=nT hb;simp only[dF,af,aG]at hb;have hu:=hb.2.2.2.2;have h0:0<=cl r:=by unfold cl;split;exact fH _ (by omega);exact dB _
  simp only[ah];rw[aj];omega
theorem Xm (h:¬uH r>0):eu l m d r s=(m,r,false):=by
 have h0:=YU r;have:uH r=0:=by omega
 unfold eu;rw[this];rfl
theorem L8 (K:Int->od->bV->ei->az R)(l:aw aN)(d:Int)(p p2:ei)(hp:p.2.2.2.length<=10^9)(hl:l.length<=10^9)(A B C:Int):∀(rest:bQ)(c:Nat)(m:bV)(r:od)(f:Nat),rest.length<f->c+rest.length<=10^9->m.length<=10^9->
 bh (oQ K l d p ([]:bV) (0,0,0,0) p2) f ((c:Int),r,m,A,B,C,rest)=K ((c+(uG l d p rest m r).1:Nat):Int) (uG l d p rest m r).2.2 (uG l d p rest m r).2.1 (A,B,C,rest.drop (uG l d p rest m r).1)
 |rest,c,m,r,0,hf,_,_=>by omega
 |[],c,m,r,f+1,_,_,_=>by
  rw[bh];simp only[oQ,IZ,ab];have hc:(cond (decide (uH r>0)) (some (decide ((([]:bQ).length:Int)>0))) (some false))=some false:=by cases decide (uH r>0)<;>rfl
  rw[hc];rfl
 |b::q,c,m,r,f+1,hf,hn,hm=>by
  simp only[bg]at hf hn;rw[bh];simp only[oQ,IZ,ab];by_cases hr:uH r>0;rw[au hr,au (show(((b::q).length:Nat):Int)>0 by simp)];have hi:idx (b::q) 0=some b:=rfl;have hs:sub (b::q) 1 ((b::q).length:Int)=some q:=by unfold sub;rw[aI (by simp;omega)];simp
  simp only[ah,ab,hi,Sf p b hp,XD,Oo l m d r _ hl hm];rw[show E3 (3,0,p.2.1,uM p b,0,b)=iB p b from rfl,uG];cases hq:(eu l m d r (iB p b)).2.2 with|false=>rfl|true=>simp only[al,ae,ah,hs,ab];rw[gq,aj (n:=(c:Int)+1),bz];have key:=L8 K l d p p2 hp hl A B C q (c+1) (eu l m d r (iB p b)).1 (eu l m d r (iB p b)).2.1 f (by omega) (by omega) (by rw[Gk];exact hm);rw[show((c+1:Nat):Int)=(c:Int)+1 by omega]at key;refine Eq.trans key ?_;rw[show c+1+(uG l d p q (eu l m d r (iB p b)).1 (eu l m d r (iB p b)).2.1).1=c+((uG l d p q (eu l m d r (iB p b)).1 (eu l m d r (iB p b)).2.1).1+1) by omega];rfl
  rw[aq hr,uG,Xm hr];rfl
def yH (l:aw aN)(m:bV)(d:Int)(r:od)(p:ei):bV×od×ei×Int:=
 bif !dF r|| !dN p then(m,r,p,0) else
 ((uG l d p p.2.2.2 m r).2.1,(uG l d p p.2.2.2 m r).2.2,(p.1,p.2.1,p.2.2.1,p.2.2.2.drop (uG l d p p.2.2.2 m r).1),((uG l d p p.2.2.2 m r).1:Int))
theorem abh (l:aw aN)(m:bV)(d:Int)(r:od)(p:ei)(hl:l.length<=10^9)(hm:m.length<=10^9)(hp:p.2.2.2.length<=10^9):vw l m d r p=some (yH l m d r p):=by have GS:=fb;unfold vw yH;simp only[iR m (show m.length<=1073741824 by omega),yT p hp,Bc,vt p hp,ab];cases dF r;rfl;cases dN p;rfl;simp only[al,ae,ab,cc];refine(L8 _ l d p _ hp hl p.1 p.2.1 p.2.2.1 p.2.2.2 0 m r fuel (by omega) (by omega) hm).trans ?_;rw[cO]
def lX (p:ei)(n:Int):ei×bQ×Bool:=bif dN p&&cY n 0 (p.2.2.2.length:Int) then((p.1,p.2.1,p.2.2.1,p.2.2.2.drop n.toNat),p.2.2.2.take n.toNat,true) else(p,[],false)
theorem aiM (p:ei)(n:Int)(h:p.2.2.2.length<=10^9):uu p n=some (lX p n):=by unfold uu lX;rw[yT p h,ab,vt p h,ab,cn];cases dN p;rfl;cases hi:cY n 0 (p.2.2.2.length:Int);rfl;have hn:=aX.1 hi;obtain⟨n,rfl⟩:=aO hn.1;simp only[al,ae,ab,bW,ah,ax];rw[show sub p.2.2.2 0 (n:Int)=some (p.2.2.2.take n) from by rw[Mp (by omega) hn.2,ax],ab,aL (by simp;omega),Mo _ n (by omega),ab,aL (by simp;omega)];rfl
theorem Hh:∀l:aw xb,(∀x∈l,0<=x.2.1/\x.2.1<=16)->0<=dI l/\dI l<=16*(l.length:Int)
 |[],_=>by simp[dI]
 |y::l,h=>by have h1:=Hh l (λx hx=>h x (eY _ hx));have h2:=h y (List.mem_cons_self ..);simp only[dI,db,eI,bg]at h1⊢;omega
theorem ab6 (l:aw xb)(i:Nat)(hi:i<l.length):dI (l.take (i+1))=dI (l.take i)+l[i].2.1:=by rw[aV hi];simp only[dI,eH,List.sum_append,db,List.map_nil,eI,List.sum_nil,Int.add_zero]
theorem aiH (t:dx)(h:t.2.2.1.length<=1000000)(hs:∀x∈t.2.2.1,0<=x.2.1/\x.2.1<=16):Ay t=some (dI t.2.2.1):=by
 have GS:=fb;unfold Ay;refine cK (λi=>(dI (t.2.2.1.take i),(i:Int))) t.2.2.1.length (by omega) (λi nx hi=>?_) (λnx=>?_);have hb:=Hh (t.2.2.1.take i) (λx hx=>hs x (List.mem_of_mem_take hx));have hc:=hs _ (aB hi);have hl:(t.2.2.1.take i).length<=1000000:=by rw[aP];omega
 rw[ab6 _ _ hi];simp only[uz];rw[iH,ah,bc hi,ab,aj (n:=(i:Int)+1),aj];rfl;simp only[uz];rw[cD,ae,cf]
def Aa (l:aw aN)(d:Int):bV->bV->od->az (bV×od)
 |[],m,r=>some (m,r)
 |s::q,m,r=>bif (eu l m d r s).2.2 then Aa l d q (eu l m d r s).1 (eu l m d r s).2.1 else none
def aph (m:bV)(r:od):az (bV×od)->bV×od×Bool
 |some x=>(x.1,x.2,true)
 |none=>(m,r,false)
def Ab (l:aw aN)(m:bV)(d:Int)(r:od)(q:bV):bV×od×Bool:=aph m r (Aa l d q m r)
theorem H5 (l:aw aN)(d:Int)(M:bV)(A B2:od)(B1:bV)(hl:l.length<=10^9)(hM:M.length<=10^9):∀(rest pre:bV)(m:bV)(r:od)(f:Nat),rest.length<f->(pre++rest).length<=10^9->m.length<=10^9->
 bh (lT (λ_ y6 y7=>some (y6,y7,true)) (λy8 _ EV Dw _ _=>some (EV,Dw,y8)) l d (pre++rest) false M A B1 B2) f ((pre.length:Int),m,r)=some (aph M A (Aa l d rest m r))
 |rest,pre,m,r,0,hf,_,_=>by omega
 |[],pre,m,r,f+1,_,_,_=>by rw[bh];simp only[lT];rw[aq (by simp),ae];rfl
 |s::q,pre,m,r,f+1,hf,hn,hm=>by
  simp only[bg,ai]at hf hn;have hi:pre.length<(pre++s::q).length:=by simp
  have hb:(pre++s::q)[pre.length]=s:=by simp
  rw[bh];simp only[lT];rw[au (by simp;omega),bc hi,hb];simp only[ah,ab,Oo l m d r _ hl hm];rw[Aa];cases hq:(eu l m d r s).2.2 with
  |false=>simp only[bH,ah,ae,iR M,ab];rfl
  |true=>
   simp only[al,ae,ah];rw[aj (n:=(pre.length:Int)+1)];have key:=H5 l d M A B2 B1 hl hM q (pre++[s]) (eu l m d r s).1 (eu l m d r s).2.1 f (by omega) (by simp;omega) (by rw[Gk];exact hm);have el:((pre++[s]).length:Int)=(pre.length:Int)+1:=by simp
   rw[bj,List.singleton_append,el]at key;exact key
theorem aeB (l:aw aN)(m:bV)(d:Int)(r:od)(q:bV)(hl:l.length<=10^9)(hm:m.length<=10^9)(hq:q.length<=10^9):we l m d r q=some (Ab l m d r q):=by have GS:=fb;unfold we Ab;rw[iR m,ab];exact H5 l d m r _ _ hl hm q [] m r fuel (by omega) (by simpa using hq) hm
theorem RM (l:aw aN)(m:bV)(d:Int)(w:Bool):∀(n a r:Nat)(q:aw (Int×Int)),sT l m d w n a r=some q->q.length<=n
 |0,a,r,q,h=>by simp only[sT,bq]at h;subst h;simp
 |n+1,a,r,q,h=>by simp only[sT]at h;split at h;simp only[bq]at h;subst h;simp;split at h;simp only[Option.map_eq_some_iff]at h;obtain⟨q',h1,rfl⟩:=h;have:=RM l m d w n _ _ q' h1;simp only[bg];omega;cases h
theorem No (l:aw aN)(m:bV)(d a n:Int)(w:Bool):(mr l m d a n w).1.length<=4096:=by
 unfold mr;cases hB:gF l&&(dv m&&cY n 0 4096);simp;simp only[af,aX]at hB;simp only[ah];cases n==0;case true=>simp
 cases decide (a<0);case true=>simp
 simp only[ae];split;rename_i q hq;have:=RM _ _ _ _ _ _ _ _ hq;show q.length<=4096;omega;simp
def yX (m:bV)(p:Int×Int):Bytes:=bif je m p.1 p.2 then Fw m p.1.toNat p.2.toNat else []
theorem JJ (m:bV)(p:Int×Int):(yX m p).length<=8192:=by unfold yX;cases h:je m p.1 p.2 with|false=>simp|true=>simp only[je,af,aG]at h;have:=alV m p.1.toNat p.2.toNat;have:=(mem_iff.1 h.1).2;simp only[ah];omega
theorem xU (m:bV):∀q:aw (Int×Int),(q.flatMap (yX m)).length<=8192*q.length
 |[]=>by simp
 |p::q=>by have:=xU m q;have:=JJ m p;simp only[List.flatMap_cons,ai,bg];omega
def uN (l:aw aN)(m:bV)(d a n:Int):Bytes×Bool:=
 bif (mr l m d a n false).2 then((mr l m d a n false).1.flatMap (yX m),true) else([],false)
theorem Wx {β:Type}(g:α->aw β)(l:aw α)(i:Nat)(hi:i<l.length):(l.take (i+1)).flatMap g=(l.take i).flatMap g++g l[i]:=by rw[aV hi,List.flatMap_append];simp
theorem Eh (l:aw aN)(m:bV)(d a n:Int)(hl:l.length<=10^9)(hm:m.length<=10^9)(ha:a<=9223372036854775807):pQ l m d a n=some (uN l m d a n):=by
 unfold pQ uN;rw[Vs l m d a n false hl hm ha,ab];have hL:=No l m d a n false;generalize mr l m d a n false=r at hL⊢;cases hr:r.2;rfl;simp only[al,ae,ah];refine(cK (λi=>((r.1.take i).flatMap (yX m),(i:Int))) r.1.length (by omega) (λi nx hi=>?_) (λnx=>?_));simp only[vW];have i1:idx (r.1.map (·.1)) (i:Int)=some r.1[i].1:=by rw[bc (by simpa using hi),List.getElem_map]
 have i2:idx (r.1.map (·.2)) (i:Int)=some r.1[i].2:=by rw[bc (by simpa using hi),List.getElem_map]
 rw[au (by rw[bw];omega),i1,i2,aj];have e:qF m r.1[i].1 r.1[i].2=some (yX m r.1[i],je m r.1[i].1 r.1[i].2):=by rw[amj m _ _ hm,yX];cases je m r.1[i].1 r.1[i].2<;>rfl
 have h1:=xU m (r.1.take i);have h2:=JJ m r.1[i];simp only[ah,ab,e];rw[aL (by rw[aP]at h1;omega),<-Wx];rfl;simp only[vW];rw[aq (by rw[bw];omega),cf];rfl
theorem Qs (l:aw aN)(m:bV)(d a n:Int):(uN l m d a n).1.length<=100000000:=by have hL:=No l m d a n false;have h1:=xU m (mr l m d a n false).1;unfold uN;cases (mr l m d a n false).2 with|false=>simp|true=>simp only[ah];omega
def FN (s:Bytes):Hc×Int×Bool:=
 bif ((s.length:Int) !=16)||decide (eK s 12>1) then((0,0,0,0,0),0,false) else((cP s 0,cP s 2,cP s 4,cP s 6,eK s 8),eK s 12,true)
theorem aet (s:Bytes)(h:s.length<=10^9):me s=some (FN s):=by
 unfold me FN;cases (s.length:Int) !=16;case true=>rfl
 simp only[tW s _ h,zg s _ h,ab,ae,cZ];cases decide (eK s 12>1)<;>rfl
def C9 (q:uK):Int:=bif decide (q.2.2<q.2.1) then 1 else 0
theorem xT {q:uK}(h:gn q=true):0<=q.1/\q.1<=130944/\(q.2.1=2\/q.2.1=4\/q.2.1=8\/q.2.1=16)/\0<=q.2.2/\q.2.2<=2*q.2.1-1:=by simp only[gn,af,aX]at h;obtain⟨h1,h2,h3⟩:=h;rw[CG h2]at h3;exact⟨h1.1,h1.2,hR.1 h2,h3⟩
theorem Vt (q:uK)(h:gn q=true):vE q=some (C9 q):=by
 obtain⟨_,_,h3,h4,h5⟩:=xT h;have e:Int.tdiv q.2.2 q.2.1=if q.2.2<q.2.1 then 0 else 1:=by rw[Int.tdiv_eq_ediv_of_nonneg h4];split;exact Int.ediv_eq_zero_of_lt h4 (by assumption);rcases h3 with g|g|g|g<;>(rw[g];omega)
 unfold vE C9;rw[nI,e];by_cases hq:q.2.2<q.2.1;rw[aI hq,au hq];rfl;rw[aK hq,aq hq];rfl
def sX (q:uK):Int:=q.1+tmod q.2.2 q.2.1*16
theorem XV {a:Int}(h:0<=a:=by omega)(hb:0<b:=by omega):0<=tmod a b/\tmod a b<b:=by rw[ed h];exact⟨fH _ (by omega),fK _ hb⟩
theorem afY {q:uK}(h:gn q=true):0<=tmod q.2.2 q.2.1/\tmod q.2.2 q.2.1<16:=by obtain⟨_,_,h3,h4,h5⟩:=xT h;have:=XV h4 (show 0<q.2.1 by omega);omega
def apg (q:uK):uK:=(q.1,q.2.1,tmod (q.2.2+1) (2*q.2.1))
def Xd (l:aw aN)(m:bV)(d:Int)(q:uK):Bool:=
 gn q&&((uN l m d (sX q) 16).2&&((FN (uN l m d (sX q) 16).1).2.2&&((FN (uN l m d (sX q) 16).1).2.1==C9 q)))
def uJ (l:aw aN)(m:bV)(d:Int)(q:uK):Hc×uK×Bool:=
 bif Xd l m d q then((FN (uN l m d (sX q) 16).1).1,apg q,true) else((0,0,0,0,0),q,false)
theorem amf (l:aw aN)(m:bV)(d:Int)(q:uK)(hl:l.length<=10^9)(hm:m.length<=10^9):nY l m d q=some (uJ l m d q):=by
 unfold nY uJ Xd;rw[Ny q,ab];cases hq:gn q;rfl;obtain⟨h1,h2,h3,h4,h5⟩:=xT hq;have hs:=afY hq;have hd:=Qs l m d (sX q) 16;have es:ar (q.1+ar (16*tmod q.2.2 q.2.1))=sX q:=by rw[aj (n:=16*tmod q.2.2 q.2.1),aj,sX];omega
 simp only[al,ae];rw[nI,es];simp only[Eh l m d (sX q) 16 hl hm (by unfold sX;omega),ab,aZ,aet _ (bp hd (by omega)),Vt q hq,bne];cases (uN l m d (sX q) 16).2;rfl;cases (FN (uN l m d (sX q) 16).1).2.2;rfl;cases (FN (uN l m d (sX q) 16).1).2.1==C9 q;rfl;simp only[al,ae,ah,ab,aZ];rw[aj (n:=2*q.2.1),nI,aj (n:=q.2.2+1)];rfl
theorem anm (p:ei)(i:Int):uM p i= -1\/(0<=uM p i/\uM p i<=200000):=by unfold uM;cases hp:dN p;exact .inl rfl;cases hi:cY i 0 (p.2.2.1-1);exact .inl rfl;have h:=Gi hp;have h2:=aX.1 hi;have h3:0<=i*p.2.1:=Int.mul_nonneg h2.1 (by omega);have h4:i*p.2.1<=16*512:=Int.mul_le_mul (by omega) (by omega) (by omega) (by omega);simp only[al,cc,ae];exact .inr (by omega)
def akJ (l:aw aN)(m:bV)(d a n:Int):Bool:=(uN l m d a n).2&&((kU (uN l m d a n).1).2==0)
theorem anE {n:Int}:akJ l m d (-1) n=false:=by unfold akJ uN mr;cases gF l&&(dv m&&cY n 0 4096);rfl;simp only[ah];cases n==0 with|true=>simp only[ah,List.flatMap_nil];rfl|false=>rfl
def HQ (l:aw aN)(m:bV)(d:Int)(s:aw Stream×cU×ei):aw Stream×cU×ei:=
 ((bif akJ l m d (uM s.2.2 (uJ l m d s.2.1.2.2.1).1.1) (uJ l m d s.2.1.2.2.1).1.2.1 then xk s.1 (kU (uN l m d (uM s.2.2 (uJ l m d s.2.1.2.2.1).1.1) (uJ l m d s.2.1.2.2.1).1.2.1).1).1 else s.1),
   (s.2.1.1,s.2.1.2.1,(uJ l m d s.2.1.2.2.1).2.1,s.2.1.2.2.2),(Hz s.2.2 [(uJ l m d s.2.1.2.2.1).1.1]).1)
def kS (l:aw aN)(m:bV)(d:Int):Nat->aw Stream×cU×ei->Nat×(aw Stream×cU×ei)
 |0,s=>(0,s)
 |k+1,s=>bif !(uJ l m d s.2.1.2.2.1).2.2 then(0,s) else((kS l m d k (HQ l m d s)).1+1,(kS l m d k (HQ l m d s)).2)
structure MG (n:Nat) (s:List Stream×cU×ei):Prop where
 st:cB n (.sl dU) s.1
 pl:s.2.2.2.2.2.length<=n
theorem Zb (p:ei)(l:bQ):(Hz p l).1.2.2.2.length<=p.2.2.2.length+l.length:=by unfold Hz;cases BH p l with|false=>show p.2.2.2.length<=_;omega|true=>simp[ic]
theorem RT {s:aw Stream×cU×ei}(h:MG n s):MG (n+322) (HQ l m d s):=by
 refine⟨?_,?_⟩;unfold HQ;cases akJ l m d (uM s.2.2 (uJ l m d s.2.1.2.2.1).1.1) (uJ l m d s.2.1.2.2.1).1.2.1 with|false=>exact h.st.mono|true=>exact La h.st
 have:=Zb s.2.2 [(uJ l m d s.2.1.2.2.1).1.1];have h2:=h.pl;show(Hz s.2.2 [(uJ l m d s.2.1.2.2.1).1.1]).1.2.2.2.length<=_;simp only[aW]at this;omega
theorem Md (K:aw Stream->Int->cU->ei->az R)(l:aw aN)(m:bV)(d:Int)(N:Nat)(hN:N<=1000)(B1:bV)(B2:cU)(B3:ei)(hl:l.length<=10^9)(hm:m.length<=10^9):∀(k i:Nat)(s:aw Stream×cU×ei)(f:Nat),i+k=N->k<f->MG (500000000+322*i) s->
 bh (nd K l d (N:Int) m B1 B2 B3) f (s.1,(i:Int),s.2.1,s.2.2)=K (kS l m d k s).2.1 ((i+(kS l m d k s).1:Nat):Int) (kS l m d k s).2.2.1 (kS l m d k s).2.2.2
 |k,i,s,0,_,hf,_=>by omega
 |0,i,s,f+1,hi,hf,z=>by rw[bh];simp only[nd];rw[cD,ae];rfl
 |k+1,i,s,f+1,hi,hf,z=>by have nD:cB 900000000 (.sl dU) s.1:=z.st.mono;have Ha:s.2.2.2.2.2.length<=900000000:=bp z.pl (by omega);rw[bh];simp only[nd];rw[iH];simp only[ah,amf l m d _ hl hm,ab,kS];cases hnx:(uJ l m d s.2.1.2.2.1).2.2 with|false=>rfl|true=>have key:=Md K l m d N hN B1 B2 B3 hl hm k (i+1) (HQ l m d s) f (by omega) (by omega) ((RT z).st.mono|>λa=>⟨a,bp (RT z).pl (by omega)⟩);rw[show i+1+(kS l m d k (HQ l m d s)).1=i+((kS l m d k (HQ l m d s)).1+1) by omega]at key;simp only[al,ae];rw[<-key];unfold HQ;generalize uJ l m d s.2.1.2.2.1=c;have ha:=anm s.2.2 c.1.1;have hd:=Qs l m d (uM s.2.2 c.1.1) c.1.2.1;simp only[Sf _ _ (show s.2.2.2.2.2.length<=10^9 by omega),Eh l m d _ c.1.2.1 hl hm (show uM s.2.2 c.1.1<=9223372036854775807 by omega),ab,I2 _ (bp hd (by omega)),XB _ _ nD,Sh s.2.2 [c.1.1] (show s.2.2.2.2.2.length+1<=10^9 by omega)];rw[aj (n:=(i:Int)+1),show((i+1:Nat):Int)=(i:Int)+1 by omega];rcases ha with ha|ha;rw[ha,anE];rfl;rw[au (show uM s.2.2 c.1.1>=0 by omega)];unfold akJ;cases (uN l m d (uM s.2.2 c.1.1) c.1.2.1).2<;>cases (kU (uN l m d (uM s.2.2 c.1.1) c.1.2.1).1).2==0<;>rfl
theorem RS {l:aw aN}{m:bV}{d:Int}:∀(k:Nat){s:aw Stream×cU×ei}{n:Nat},MG n s->MG (n+322*k) (kS l m d k s).2
 |0,s,n,h=>h
 |k+1,s,n,h=>by rw[kS];cases (uJ l m d s.2.1.2.2.1).2.2 with|false=>exact⟨h.st.mono,bp h.pl (by omega)⟩|true=>have:=RS (l:=l) (m:=m) (d:=d) k (RT (l:=l) (m:=m) (d:=d) h);exact⟨this.st.mono,bp this.pl (by omega)⟩
def mS (l:aw aN)(m:bV)(d:Int)(rx:cU)(pl:ei)(st:aw Stream)(n:Int):bV×cU×ei×aw Stream×Int:=
 bif !KS rx||(!dN pl|| !cY n 0 1000) then(m,rx,pl,st,0) else
 ((yH l m d (kS l m d n.toNat (st,rx,pl)).2.2.1.1 (kS l m d n.toNat (st,rx,pl)).2.2.2).1,
   ((yH l m d (kS l m d n.toNat (st,rx,pl)).2.2.1.1 (kS l m d n.toNat (st,rx,pl)).2.2.2).2.1,(kS l m d n.toNat (st,rx,pl)).2.2.1.2),
   (yH l m d (kS l m d n.toNat (st,rx,pl)).2.2.1.1 (kS l m d n.toNat (st,rx,pl)).2.2.2).2.2.1,(kS l m d n.toNat (st,rx,pl)).2.1,((kS l m d n.toNat (st,rx,pl)).1:Int))
theorem abn (l:aw aN)(m:bV)(d:Int)(rx:cU)(pl:ei)(st:aw Stream)(n:Int)(hl:l.length<=10^9)(hm:m.length<=10^9)(hp:pl.2.2.2.length<=500000000)(hs:cB 500000000 (.sl dU) st):pc l m d rx pl st n=some (mS l m d rx pl st n):=by
 have GS:=fb;have hsl:st.length<=500000000:=hs.1;unfold pc mS;rw[gq];simp only[bz,yT pl (show pl.2.2.2.length<=10^9 by omega),iR m (show m.length<=1073741824 by omega),XJ,vt pl (show pl.2.2.2.length<=10^9 by omega),cn,ab];cases KS rx;rfl;cases dN pl;rfl;cases hn:cY n 0 1000;rfl;have h:=aX.1 hn;obtain⟨n,rfl⟩:=aO h.1;simp only[al,ae,ab,cc,ax];have z:MG (500000000+322*0) (st,rx,pl):=⟨hs,hp⟩
 have hz:=RS (l:=l) (m:=m) (d:=d) n z;refine(Md _ l m d n (by omega) _ _ _ hl hm n 0 (st,rx,pl) fuel (by omega) (by omega) z).trans ?_;rw[cO];simp only[abh l m d _ _ hl hm (show(kS l m d n (st,rx,pl)).2.2.2.2.2.2.length<=10^9 from bp hz.pl (by omega)),ab]
def lr (i:Nat):Int:=1280+(i:Int)*1792
theorem ani (h:i<=8):ar (1280+ar ((i:Int)*1792))=lr i:=by rw[aj (n:=(i:Int)*1792),aj];rfl
theorem tR (a b n:Int)(h:n<=1000:=by omega):(kR a b n).1.2.2.2.length<=1000:=by unfold kR;cases dN (a,b,n,[])with|false=>simp|true=>simp[upto];omega
def R5 (i:Nat):cU:=((lr i,4,0,0),(lr i+64,4,0),(lr i+64,4,0),((0,0,0,0,0,0,0,0,0,0,0,0,0,0,0,([]:Bytes)),0,0),false,0)
def Ep:dx:=((0,16,0,0),(kR 256 128 8).1,([]:aw xb),0)
theorem Nz:vG=some Ep:=by rw[vG,Om];rfl
def xQ (l:aw aN)(m:bV)(i:Nat):bV×od×ei×Int:=
 yH l (kH l m 0 (lr i) (Dx 128) false).1 0 (lr i,4,0,0) (kR (lr i+128) 384 4).1
def JD (h:Host)(i:Nat):Host:=
 ((xQ h.2.1 h.1 i).1,h.2.1,h.2.2.1,h.2.2.2.1.set i ((xQ h.2.1 h.1 i).2.1,(lr i+64,4,0),(lr i+64,4,0),((0,0,0,0,0,0,0,0,0,0,0,0,0,0,0,([]:Bytes)),0,0),false,(match h.2.2.2.1[i]? with|some x=>x.2.2.2.2.2|none=>0)),h.2.2.2.2.1.set i (xQ h.2.1 h.1 i).2.2.1,h.2.2.2.2.2)
theorem Mc (h:Host)(i:Nat)(hi:i<=8)(h1:i<h.2.2.2.1.length)(h2:i<h.2.2.2.2.1.length)(hl:h.2.1.length<=10^9)(hm:h.1.length<=10^9):qe h (i:Int)=some ((),JD h i):=by have hb:lr i=1280+(i:Int)*1792:=rfl;have hz:fZ 128 0=some (Dx 128):=Si 128;have hf:=abh h.2.1 (kH h.2.1 h.1 0 (lr i) (Dx 128) false).1 0 (lr i,4,0,0) (kR (lr i+128) 384 4).1 hl (by rw[vq];exact hm) (bp (tR (lr i+128) 384 4) (by omega));unfold qe;simp only[ani hi];rw[aj (n:=lr i+128),aj (n:=lr i+64),Om,hz];simp only[bc h1,bc h2,ab,JQ h.2.1 h.1 0 (lr i) (Dx 128) hl hm (by omega),hf,ax,JD,xQ,ak h1]
def Dc (h:Host)(i:Nat)(n:Int):Int×Host:=
 match h.2.2.2.1[i]?,h.2.2.2.2.1[i]? with
 |some rx,some pl=>
  ((mS h.2.1 h.1 0 rx pl h.2.2.2.2.2.2.2.2.2.1 n).2.2.2.2,(mS h.2.1 h.1 0 rx pl h.2.2.2.2.2.2.2.2.2.1 n).1,h.2.1,h.2.2.1,h.2.2.2.1.set i (mS h.2.1 h.1 0 rx pl h.2.2.2.2.2.2.2.2.2.1 n).2.1,h.2.2.2.2.1.set i (mS h.2.1 h.1 0 rx pl h.2.2.2.2.2.2.2.2.2.1 n).2.2.1,h.2.2.2.2.2.1,h.2.2.2.2.2.2.1,h.2.2.2.2.2.2.2.1,h.2.2.2.2.2.2.2.2.1,(mS h.2.1 h.1 0 rx pl h.2.2.2.2.2.2.2.2.2.1 n).2.2.2.1,h.2.2.2.2.2.2.2.2.2.2)
 |_,_=>(0,h)
theorem mP {t:CT}{l:aw t.D}{x:t.D}(z:cB n (.sl t) l)(hx:cB n t x):cB n (.sl t) (l.set i x):=by refine⟨?_,λy hy=>?_⟩;show(l.set i x).length<=n;rw[ay];exact z.1;rcases cd hy with h|h;exact z.2 y h;rw[h];exact hx
theorem U4 (hn:128<=n)(h:Gf m):cB n (.sl .str) m:=⟨bp h.2 (by omega),λx hx=>bp (Nat.le_of_eq (h.1 x hx)) hn⟩
theorem abI (hn:128<=n)(z:cB n (.sl .str) m)(a:Int)(s:Bytes):cB n (.sl .str) (wF m a s).1:=by unfold wF;cases hw:je m a (s.length:Int);exact z;simp only[je,af,aG]at hw;exact U4 hn (Cr s.length (tT.1 hw.1) (by omega)).1
theorem aaO (hn:128<=n):∀(q:aw (Int×Int)){m:bV}(s:Bytes),cB n (.sl .str) m->cB n (.sl .str) (RX q m s)
 |[],m,s,z=>z
 |p::q,m,s,z=>aaO hn q _ (abI hn z _ _)
theorem HS (hn:128<=n)(z:cB n (.sl .str) m)(l:aw aN)(d a:Int)(s:Bytes)(w:Bool):cB n (.sl .str) (kH l m d a s w).1:=by unfold kH;cases (mr l m d a (s.length:Int) w).2 with|false=>exact z|true=>exact aaO hn _ _ z
theorem LV (hn:128<=n)(z:cB n (.sl .str) m)(l:aw aN)(d:Int)(r:od)(s:Bytes):cB n (.sl .str) (eu l m d r s).1:=by
 unfold eu;cases (uH r==0)||((s.length:Int) !=16);case true=>exact z
 cases (kH l m d (wZ r r.2.2.2) s true).2 with|false=>exact z|true=>exact HS hn z ..
theorem T9 (hn:128<=n)(l:aw aN)(d:Int)(p:ei):∀(q:bQ){m:bV}(r:od),cB n (.sl .str) m->cB n (.sl .str) (uG l d p q m r).2.1
 |[],m,r,z=>z
 |b::q,m,r,z=>by rw[uG];cases (eu l m d r (iB p b)).2.2 with|false=>exact z|true=>exact T9 hn l d p q _ (LV hn z ..)
theorem Ua (hn:128<=n)(z:cB n (.sl .str) m)(l:aw aN)(d:Int)(r:od)(p:ei):cB n (.sl .str) (yH l m d r p).1:=by unfold yH;cases !dF r|| !dN p with|true=>exact z|false=>exact T9 hn _ _ _ _ _ z
theorem afm (l:aw aN)(m:bV)(d:Int)(r:od)(p:ei):(yH l m d r p).1.length=m.length:=by unfold yH;cases !dF r|| !dN p with|true=>rfl|false=>exact(T8 ..).1
theorem Kh (l:aw aN)(m:bV)(d:Int)(r:od)(p:ei):(yH l m d r p).2.2.1.2.2.2.length<=p.2.2.2.length:=by unfold yH;cases !dF r|| !dN p with|true=>exact bt _|false=>show(p.2.2.2.drop _).length<=_;rw[aS];omega
theorem aaG (l:aw aN)(m:bV)(d:Int):∀(k:Nat)(s:aw Stream×cU×ei),(kS l m d k s).2.2.1.2.2.2=s.2.1.2.2.2/\(kS l m d k s).1<=k
 |0,s=>⟨rfl,bt _⟩
 |k+1,s=>by rw[kS];cases (uJ l m d s.2.1.2.2.1).2.2 with|false=>exact⟨rfl,bC _⟩|true=>have:=aaG l m d k (HQ l m d s);simp only[al,ae];exact⟨this.1,by omega⟩
theorem U9 (hn:128<=n){rx:cU}{pl:ei}{st:aw Stream}(c:Int)(zm:cB n (.sl .str) m)(zr:cB n fB rx)(zp:cB n nC pl)(zs:cB n (.sl dU) st): cB n (.sl .str) (mS l m d rx pl st c).1/\cB n fB (mS l m d rx pl st c).2.1/\cB (n+322000) nC (mS l m d rx pl st c).2.2.1/\cB (n+322000) (.sl dU) (mS l m d rx pl st c).2.2.2.1/\0<=(mS l m d rx pl st c).2.2.2.2/\(mS l m d rx pl st c).2.2.2.2<=1000:=by
 unfold mS;cases hc: !KS rx||(!dN pl|| !cY c 0 1000)with
 |true=>exact⟨zm,zr,zp.mono,zs.mono,dB _,by show(0:Int)<=1000;omega⟩
 |false=>
  have hi:cY c 0 1000=true:=by cases h:cY c 0 1000 with|true=>rfl|false=>rw[h]at hc;simp at hc
  have h:=aX.1 hi;have z:=RS (l:=l) (m:=m) (d:=d) c.toNat (s:=(st,rx,pl)) (n:=n) ⟨zs,zp.2.2.2.1⟩;have hx:=aaG l m d c.toNat (st,rx,pl);refine⟨Ua hn zm ..,⟨?_,?_,?_,?_⟩,⟨cq,cq,cq,?_,λ_ _=>trivial⟩,z.st.mono,by show(0:Int)<=((kS l m d c.toNat (st,rx,pl)).1:Int);omega,by show((kS l m d c.toNat (st,rx,pl)).1:Int)<=1000;omega⟩;exact⟨cq,cq,cq,cq⟩;exact⟨cq,cq,cq⟩;exact⟨cq,cq,cq⟩;have e:=congrArg (λq=>cB n fB (rx.1,rx.2.1,rx.2.2.1,q)) hx.1;exact(e.mpr zr).2.2.2;have:=Kh l m d (kS l m d c.toNat (st,rx,pl)).2.2.1.1 (kS l m d c.toNat (st,rx,pl)).2.2.2;have h2:=z.pl;show(yH l m d (kS l m d c.toNat (st,rx,pl)).2.2.1.1 (kS l m d c.toNat (st,rx,pl)).2.2.2).2.2.1.2.2.2.length<=_;omega
theorem ad5 (hn:128<=n)(i:Nat)(c:Int)(z:cB n dz h):cB (n+322000) dz (Dc h i c).2:=by unfold Dc;rcases h1:h.2.2.2.1[i]? with _|rx;exact z.mono;rcases h2:h.2.2.2.2.1[i]? with _|pl;exact z.mono;have zr:=z.2.2.2.1.2 _ (aU h1);have zp:=z.2.2.2.2.1.2 _ (aU h2);have hp:=U9 hn (l:=h.2.1) (d:=0) c z.1 zr zp z.2.2.2.2.2.2.2.2.2.1;have z':cB (n+322000) dz h:=z.mono;exact⟨hp.1.mono,z'.2.1,z'.2.2.1,mP z'.2.2.2.1 (hp.2.1.mono),mP z'.2.2.2.2.1 hp.2.2.1,z'.2.2.2.2.2.1,z'.2.2.2.2.2.2.1,z'.2.2.2.2.2.2.2.1,z'.2.2.2.2.2.2.2.2.1,hp.2.2.2.1,z'.2.2.2.2.2.2.2.2.2.2⟩
def bL (l:aw aN)(m:bV)(d:Int)(r:od):Bytes×od×Bool:=
 bif !dF r||(cl r==0) then([],r,false) else
 bif !(uN l m d (wZ r r.2.2.1) 16).2 then([],r,false) else
 ((uN l m d (wZ r r.2.2.1) 16).1,(r.1,r.2.1,tmod (r.2.2.1+1) (2*r.2.1),r.2.2.2),true)
theorem Mh (l:aw aN)(m:bV)(d:Int)(r:od)(hl:l.length<=10^9)(hm:m.length<=10^9):vB l m d r=some (bL l m d r):=by
 have hA:=Se r r.2.2.1;unfold vB bL;simp only[Bc,Dm,ab,Vv,Eh l m d _ 16 hl hm (show wZ r r.2.2.1<=9223372036854775807 by omega)];cases hb:dF r;rfl;have h:=nT hb;cases cl r==0;case true=>rfl
 simp only[al,ae,ab,cc];cases (uN l m d (wZ r r.2.2.1) 16).2;rfl;simp only[al,ae];rw[aj (n:=2*r.2.1),nI,aj (n:=r.2.2.1+1)]
theorem JV (l:aw aN)(m:bV)(d:Int)(r:od):(bL l m d r).1.length<=100000000:=by
 unfold bL;cases !dF r||(cl r==0);case true=>exact bC _
 cases (uN l m d (wZ r r.2.2.1) 16).2 with|false=>exact bC _|true=>exact Qs ..
theorem Ie (h:(bL l m d r).2.2=true): dF (bL l m d r).2.1=true/\cl (bL l m d r).2.1=cl r-1/\(bL l m d r).2.1.1=r.1/\(bL l m d r).2.1.2.1=r.2.1/\(bL l m d r).2.1.2.2.2=r.2.2.2:=by
 unfold bL at h⊢;cases hb:dF r with|false=>rw[hb]at h;cases h|true=>?_
 cases hu:cl r==0 with|true=>rw[hb,hu]at h;cases h|false=>?_
 cases hd:(uN l m d (wZ r r.2.2.1) 16).2 with|false=>rw[hb,hu,hd]at h;cases h|true=>?_
 simp only[al,cc,ae];have hr:=nT hb;have hq:=hb;simp only[dF,af,aG]at hq;have h1:=hq.2.2.2.2;have hs:=hq.2.1;have WR:cl r≠0:=by simpa using hu
 have e:tmod (r.2.2.1+1) (2*r.2.1)=(r.2.2.1+1)%(2*r.2.1):=ed (by omega);rw[e];unfold cl at h1 WR⊢;simp only[hs,cz]at h1 WR⊢;have key:(r.2.2.2-(r.2.2.1+1)%(2*r.2.1))%(2*r.2.1)=(r.2.2.2-r.2.2.1)%(2*r.2.1)-1/\0<=(r.2.2.1+1)%(2*r.2.1)/\(r.2.2.1+1)%(2*r.2.1)<=2*r.2.1-1:=by rcases hr.2.2.1 with hn|hn|hn|hn<;>rw[hn]at h1 WR hr⊢<;>omega
 refine⟨?_,key.1,cq,cq,cq⟩;simp only[dF,cl,hs,cz,af,aG,aX];refine⟨by omega,cq,by omega,by omega,?_⟩;rw[key.1];omega
theorem Ba (h:dF r=true):0<=cl r/\cl r<=16:=by have hr:=nT h;have hq:=h;simp only[dF,af,aG]at hq;refine⟨?_,by have:=hq.2.2.2.2;omega⟩;unfold cl;rw[hq.2.1,aI rfl];exact fH _ (by omega)
def NN:Ja:=(0,0,0,0,0,0)
def Hr (s:Bytes):Ja:=((ch s 0:Int),(ch s 1:Int),cP s 2,eK s 4,cP s 8,cP s 10)
def dJ (s:Bytes):Ja×Bool:=
 bif ((s.length:Int) !=16) then(NN,false) else bif !(E3 (Hr s)==s) then(NN,false) else(Hr s,true)
theorem abf (s:Bytes)(h:s.length<=10^9):qA s=some (dJ s):=by
 unfold qA dJ;cases hn:(s.length:Int) !=16;case true=>rfl
 have hl:s.length=16:=by
  have:((s.length:Int)==16)=true:=by simpa using hn
  have:=br this;omega
 have b0:=mH (s[0]'(by omega));have b1:=mH (s[1]'(by omega));have i0:idx s 0=some (s[0]'(by omega)):=bc (i:=0) (by omega);have i1:idx s 1=some (s[1]'(by omega)):=bc (i:=1) (by omega);have e:(((s[0]'(by omega)).toNat:Int),((s[1]'(by omega)).toNat:Int),cP s 2,eK s 4,cP s 8,cP s 10)=Hr s:=by simp only[Hr,ch,bN (show 0<s.length by omega),bN (show 1<s.length by omega)]
 simp only[ae,i0,i1,ab,tW s _ h,zg s _ h];rw[gY (n:=(s[0]'(by omega)).toNat),gY (n:=(s[1]'(by omega)).toNat),e,XD,ab];cases E3 (Hr s)==s<;>rfl
theorem acK (h:(dJ s).2=true):AI (dJ s).1=true:=by
 unfold dJ at h⊢;cases hn:(s.length:Int) !=16 with|true=>rw[hn]at h;cases h|false=>?_
 cases he:E3 (Hr s)==s with|false=>rw[hn,he]at h;cases h|true=>?_
 simp only[ae,al];cases hd:AI (Hr s)with
 |true=>rfl
 |false=>
  have:E3 (Hr s)=[]:=by unfold E3;rw[hd];rfl
  rw[this]at he;cases s with|nil=>simp at hn|cons x y=>cases he
def acP (x:Ja):Bool:=bif x.1==1 then(ar (toNat (fQ x.2.1&&&fQ 1))) !=0 else false
def xi (l:aw aN)(m:bV)(d:Int):Nat->aw Ja->od->aw Ja×od×Bool
 |0,acc,r=>(acc,r,true)
 |n+1,acc,r=>
  bif !(bL l m d r).2.2|| !(dJ (bL l m d r).1).2 then([],(r.1,r.2.1,r.2.2.2,r.2.2.2),false) else
  bif acP (dJ (bL l m d r).1).1 then(acc++[(dJ (bL l m d r).1).1],(bL l m d r).2.1,true) else
  xi l m d n (acc++[(dJ (bL l m d r).1).1]) (bL l m d r).2.1
def dE (l:aw aN)(m:bV)(d:Int)(r:od):aw Ja×od×Bool:=
 bif !dF r||(cl r==0) then([],r,false) else xi l m d (cl r).toNat [] r
theorem JM (k0:aw Ja->od->az R)(k1:aw Ja->Bool->aw Ja->od->od->az R)(K:aw Ja×od×Bool->az R)
 (h0:∀a r,k0 a r=K (a,r,true)) (l:aw aN) (m:bV) (d:Int) (B:od) (h1:∀a r,k1 [] false a r r=K ([],r,false)) (hl:l.length<=10^9) (hm:m.length<=10^9):∀(n:Nat)(acc:aw Ja)(r:od)(f:Nat),
 n<f->dF r=true->(cl r).toNat=n->acc.length+n<=1000->bh (nj k0 k1 l d ([]:aw Ja) false m B) f (acc,r)=K (xi l m d n acc r)
 |n,acc,r,0,hf,_,_,_=>by omega
 |0,acc,r,f+1,hf,hb,hu,ha=>by rw[bh];simp only[nj,Dm,ab];rw[cD,ae,h0];rfl
 |n+1,acc,r,f+1,hf,hb,hu,ha=>by
  have hlen:=JV l m d r;have hk:=Ie (l:=l) (m:=m) (d:=d) (r:=r);rw[bh];simp only[nj,Dm,ab];rw[iH,ah,Mh l m d r hl hm,ab,xi];generalize bL l m d r=t at hlen hk⊢;rw[abf _ (show t.1.length<=10^9 by omega),ab];generalize dJ t.1=x;cases ht:t.2.2 with
  |false=>simp only[bH,ah,gb,ab,h1]
  |true=>
   have hk:=hk ht;simp only[al,ae,ab,cZ];cases x.2 with
   |false=>simp only[bH,ah,h1]
   |true=>
    simp only[al,ae];rw[aL (by rw[aW];omega)];have e:(aa (cond (x.1.1==1) (some ((ar (toNat (fQ x.1.2.1&&&fQ 1))) !=0)) (some false)):(Bool->az R)->az R)=λK=>K (acP x.1):=by funext K;unfold acP;cases x.1.1==1<;>rfl
    rw[e];cases acP x.1 with|true=>simp only[ah,h0]|false=>simp only[ae];exact JM k0 k1 K h0 l m d B h1 hl hm n _ _ f (by omega) hk.1 (by omega) (by simp;omega)
theorem TD (l:aw aN)(m:bV)(d:Int)(r:od)(hl:l.length<=10^9)(hm:m.length<=10^9):yp l m d r=some (dE l m d r):=by
 have GS:=fb;unfold yp dE;simp only[Bc,Dm,ab];cases hb:dF r;rfl;cases cl r==0;case true=>rfl
 have hu:=Ba hb;simp only[al,ae,ab,cc];exact JM _ _ (λx=>some x) (λ_ _=>rfl) l m d _ (λ_ _=>rfl) hl hm _ [] r fuel (by omega) hb rfl (by simp;omega)
def Da (x:Int×Int):Bool:=decide (x.1<0)|| !cY x.2 0 4096
def pM (l:aw (Int×Int)):Bool:= !l.any Da&&decide ((l.length:Int)<=16)
theorem ad4 (l:aw (Int×Int)):(bif l.any Da then some false else some (decide ((l.length:Int)<=16)))=some (pM l):=by unfold pM;cases l.any Da<;>rfl
theorem Sm (l:aw (Int×Int))(h:l.length<=10^9):vA l=some (pM l):=by
 unfold vA;rw[<-ad4];refine KV Da l (by omega) (λi hi nx=>?_) (λnx=>?_);simp only[ui];rw[iH,ah,bc hi,ab,ab,cn,aj];unfold Da;cases decide (l[i].1<0)with|true=>rfl|false=>simp only[ae,ab,cZ];rfl
 simp only[ui];rw[cD,ae]
theorem Nd {l:aw (Int×Int)}(h:pM l=true):l.length<=16/\∀x∈l,0<=x.1/\0<=x.2/\x.2<=4096:=by unfold pM at h;simp only[af,aG,aM]at h;refine⟨by omega,λx hx=>?_⟩;have:=List.any_eq_false.1 h.1 x hx;unfold Da at this;simp only[dk,aG,aM,not_or,Bool.not_eq_false,aX]at this;omega
def dsc (n:Nat)(c:Int)(i:Nat)(x:Int×Int):Ja:=(1,(if i+1=n then 1 else 0),x.2,x.1,0,c)
def CM (ps:aw (Int×Int))(c:Int):Nat->aw Ja
 |0=>[]
 |i+1=>CM ps c i++[dsc ps.length c i (ps.getD i (0,0))]
theorem Iw (ps:aw (Int×Int))(c:Int):∀i,(CM ps c i).length=i
 |0=>rfl
 |i+1=>by rw[CM,ai,Iw ps c i];rfl
theorem Iv (ps:aw (Int×Int))(c:Int)(q:Ja->Bool):∀i,(CM ps c i).all q=(List.range i).all (λj=>q (dsc ps.length c j (ps.getD j (0,0))))
 |0=>rfl
 |i+1=>by rw[CM,List.all_append,Iv ps c q i,gz,List.all_append];rfl
def uX (ps:aw (Int×Int))(z c:Int):aw Ja:=
 bif ((ps.length:Int)==0)||(!pM ps|| !cY z 1 128) then [] else
 bif ([(2,0,0,0,z,c)]++CM ps c ps.length).all AI then [(2,0,0,0,z,c)]++CM ps c ps.length else []
theorem L7 (ps:aw (Int×Int))(z c:Int)(h:ps.length<=10^9):kV ps z c=some (uX ps z c):=by
 unfold kV uX;rw[Sm ps h,cn];simp only[ab];cases ((ps.length:Int)==0);case true=>rfl
 cases pM ps;rfl;cases cY z 1 128;rfl;have i0:idx [((2,0,0,0,z,c):Ja)] 0=some (2,0,0,0,z,c):=rfl;simp only[al,ae,ab,cc,i0,L6,List.all_append,bX,List.all_nil,fC];cases AI (2,0,0,0,z,c);rfl;simp only[al,ae,aZ];rw[Iv];refine(Ir (fin:=some ([(2,0,0,0,z,c)]++CM ps c ps.length)) (hit:=some []) (λi=>(([(2,0,0,0,z,c)]++CM ps c i,(i:Int)):aw Ja×Int)) (λj=>AI (dsc ps.length c j (ps.getD j (0,0)))) ps.length (by omega) (λi nx hi _=>?_) (λ_ nx=>?_)).trans ?_;have hl:=Iw ps c i;simp only[lj];rw[iH,ah,bc hi,ab,ab,aj (n:=(ps.length:Int)-1),aj];have e:[(2,0,0,0,z,c)]++CM ps c (i+1)=([(2,0,0,0,z,c)]++CM ps c i)++[dsc ps.length c i ps[i]]:=by rw[CM,bN hi,bj]
 rw[e,bN hi];unfold dsc;by_cases hc:i+1=ps.length;rw[show((i:Int)==(ps.length:Int)-1)=true from by rw[ba];omega,aI hc];simp only[ah,L6,ab];rw[aL (by simp only[ai,aW];omega)];rfl;rw[show((i:Int)==(ps.length:Int)-1)=false from by rw[cg];omega,aK hc];simp only[ae,L6,ab];rw[aL (by simp only[ai,aW];omega)];rfl;simp only[lj];rw[cD,ae];cases (List.range ps.length).all (λj=>AI (dsc ps.length c j (ps.getD j (0,0))))<;>rfl
def R7 (x y:Ja):Bool:=(x.1==y.1)&&((x.2.1==y.2.1)&&((x.2.2.1==y.2.2.1)&&((x.2.2.2.1==y.2.2.2.1)&&((x.2.2.2.2.1==y.2.2.2.2.1)&&((x.2.2.2.2.2==y.2.2.2.2.2)&&true)))))
def Np (a b:aw Ja):Bool:=((a.length:Int)==(b.length:Int))&&(List.range a.length).all λi=>R7 (a.getD i NN) (b.getD i NN)
theorem aiD (a b:aw Ja)(ha:a.length<=10^9):Cl a b=some (Np a b):=by
 unfold Cl Np;cases hl:((a.length:Int)==(b.length:Int))with
 |false=>simp only[bne,hl,bH,ah,eF]
 |true=>
  have hn:a.length=b.length:=by have:=br hl;omega
  simp only[bne,hl,al,ae,aZ];rw[gO (fin:=some true) (hit:=some false) (λi=>R7 (a.getD i NN) (b.getD i NN)) a.length (by omega) (λi nx hi=>?_) (λnx=>?_)];cases (List.range a.length).all (λi=>R7 (a.getD i NN) (b.getD i NN))<;>rfl;have hi2:i<b.length:=by omega
  simp only[wv];rw[iH,ah,bc hi,bc hi2,ab,ab,aj,bN hi,bN hi2];rfl;simp only[wv];rw[cD,ae]
def qw (l:aw Ja):aw (Int×Int):=(l.drop 1).map λx=>(x.2.2.2.1,x.2.2.1)
def gk (l:aw Ja):aw (Int×Int)×Int×Int×Bool:=
 match l with
 |h::x::r=>bif Np (uX (qw l) h.2.2.2.2.1 h.2.2.2.2.2) l then(qw l,h.2.2.2.2.1,h.2.2.2.2.2,true) else([],0,0,false)
 |_=>([],0,0,false)
theorem agK (ps:aw (Int×Int))(z c:Int):(uX ps z c).length<=ps.length+1:=by
 unfold uX;cases ((ps.length:Int)==0)||(!pM ps|| !cY z 1 128);case true=>simp
 cases ([(2,0,0,0,z,c)]++CM ps c ps.length).all AI with|false=>simp|true=>simp only[ae,ah,ai,aW,Iw];omega
theorem XI (l:aw Ja)(hl:l.length<=10^9):pV l=some (gk l):=by
 unfold pV;match l,hl with
 |[],_=>
  obtain⟨g,hg⟩:∃g,fuel=g+1:=⟨fuel-1,by have:=fb;omega⟩
  rw[hg,bh];rfl
 |h::q,hl=>
  simp only[bg]at hl;have he:∀i,i<=q.length->(q.map λx=>(x.2.2.2.1,x.2.2.1)).take i=(q.take i).map λx=>(x.2.2.2.1,x.2.2.1):=λi hi=>by rw[List.map_take]
  refine cK (λi=>(((q.take i).map (λx=>(x.2.2.2.1,x.2.2.1)),((i+1:Nat):Int)):aw (Int×Int)×Int)) q.length (by omega) (λi nx hi=>?_) (λnx=>?_);have hi2:i+1<(h::q).length:=by simp;omega
  have e2:(h::q)[i+1]=q[i]:=rfl;simp only[mh];rw[au (by simp only[bg];omega),ah,bc hi2,ab,ab,aL (by simp only[bw,aP,aW];omega),aj,e2,aV hi,eH];rfl;have i0:idx (h::q) 0=some h:=rfl;simp only[mh];rw[aq (by simp only[bg];omega),ae,cf];have hp:q.map (λx=>(x.2.2.2.1,x.2.2.1))=qw (h::q):=rfl;have Ha:(qw (h::q)).length=q.length:=by rw[<-hp,bw]
  rw[hp];have hdl:=agK (qw (h::q)) h.2.2.2.2.1 h.2.2.2.2.2;simp only[i0,ab,L7 (qw (h::q)) _ _ (show(qw (h::q)).length<=10^9 by omega),aiD _ (h::q) (show(uX (qw (h::q)) h.2.2.2.2.1 h.2.2.2.2.2).length<=10^9 by omega)];cases q with
  |nil=>rfl
  |cons x r=>
   have:(((qw (h::x::r)).length:Int)==0)=false:=by rw[Ha];rfl
   rw[this];simp only[ae,ab,gk];cases Np (uX (qw (h::x::r)) h.2.2.2.2.1 h.2.2.2.2.2) (h::x::r)<;>rfl
theorem aaE {l:aw Ja}(h:(gk l).2.2.2=true):pM (gk l).1=true/\∀p∈(gk l).1,p.1<=4294967295:=by match l,h with|hd::x::r,h=>unfold gk at h⊢;simp only at h⊢;cases hs:Np (uX (qw (hd::x::r)) hd.2.2.2.2.1 hd.2.2.2.2.2) (hd::x::r)with|false=>rw[hs]at h;cases h|true=>simp only[ah];generalize hw:qw (hd::x::r)=ps at hs⊢;unfold Np at hs;simp only[af]at hs;have hn:=br hs.1;unfold uX at hn;cases hc:((ps.length:Int)==0)||(!pM ps|| !cY hd.2.2.2.2.1 1 128)with|true=>rw[hc]at hn;simp at hn;omega|false=>rw[hc]at hn;cases ha:([(2,0,0,0,hd.2.2.2.2.1,hd.2.2.2.2.2)]++CM ps hd.2.2.2.2.2 ps.length).all AI with|false=>rw[ha]at hn;simp at hn;omega|true=>simp only[cI,dX]at hc;refine⟨hc.2.1,λp hp=>?_⟩;rw[List.all_append,Iv,af]at ha;obtain⟨i,hi,rfl⟩:=List.getElem_of_mem hp;have:=aF.1 ha.2 i (bE.2 hi);rw[bN hi]at this;simp only[AI,dsc,af,aX]at this;omega
theorem MM (l:aw aN)(m:bV)(d a n:Int):(uN l m d a n).1.length<=33554432:=by have hL:=No l m d a n false;have h1:=xU m (mr l m d a n false).1;unfold uN;cases (mr l m d a n false).2 with|false=>simp|true=>simp only[ah];omega
def FV (l:aw aN)(m:bV)(d:Int):aw (Int×Int)->Bytes->Bytes×Bool
 |[],acc=>(acc,true)
 |p::ps,acc=>bif (uN l m d p.1 p.2).2 then FV l m d ps (acc++(uN l m d p.1 p.2).1) else([],false)
def nL (l:aw aN)(m:bV)(d:Int)(ps:aw (Int×Int)):Bytes×Bool:=bif pM ps then FV l m d ps [] else([],false)
def Li (l:aw aN)(m:bV)(d:Int)(p:Int×Int)(s:Bytes):Except (az (Bytes×Bool)) Bytes:=
 if(uN l m d p.1 p.2).2=true then .ok (s++(uN l m d p.1 p.2).1) else .error (some ([],false))
theorem QQ (l:aw aN)(m:bV)(d:Int):∀(ps:aw (Int×Int))(s:Bytes),EK (Li l m d) (λs=>some (s,true)) ps s=some (FV l m d ps s)
 |[],s=>rfl
 |p::ps,s=>by rw[EK,FV];unfold Li;cases hd:(uN l m d p.1 p.2).2 with|false=>rfl|true=>rw[aI rfl];exact QQ l m d ps _
theorem NX (l:aw aN)(m:bV)(d:Int):∀(ps:aw (Int×Int))(s:Bytes),(FV l m d ps s).1.length<=s.length+33554432*ps.length
 |[],s=>by simp[FV]
 |p::ps,s=>by have h1:=MM l m d p.1 p.2;rw[FV];cases (uN l m d p.1 p.2).2 with|false=>simp|true=>have:=NX l m d ps (s++(uN l m d p.1 p.2).1);rw[ai]at this;simp only[ah,bg,Nat.mul_add];omega
theorem YW (l:aw aN)(m:bV)(d:Int)(ps:aw (Int×Int)):(nL l m d ps).1.length<=10^9:=by unfold nL;cases hp:pM ps with|false=>simp|true=>have:=(Nd hp).1;have:=NX l m d ps [];simp only[da]at this;simp only[ah];omega
theorem aew (l:aw aN)(m:bV)(d:Int)(ps:aw (Int×Int))(hl:l.length<=10^9)(hm:m.length<=10^9)(hn:ps.length<=10^9)(ha:∀p∈ps,p.1<=9223372036854775807):rV l m d ps=some (nL l m d ps):=by
 unfold rV nL;rw[Sm ps hn,ab];cases hp:pM ps;rfl;have h16:=(Nd hp).1;simp only[al,ae,ah];rw[<-QQ];refine sV ps (λs i=>(s,(i:Int))) (λi s=>s.length<=33554432*i) (Li l m d) _ (by omega) (λi hi s nx hI=>?_) (λi hi s s' hI he=>?_) (λs nx hI=>?_) [] (by simp);have h1:=MM l m d ps[i].1 ps[i].2;simp only[mZ];rw[iH,ah,bc hi,ab,ab,Eh l m d _ _ hl hm (ha _ (aB hi)),ab];unfold Li;cases hd:(uN l m d ps[i].1 ps[i].2).2 with|false=>rfl|true=>rw[aI rfl,aL,aj];rfl
 have h1:=MM l m d ps[i].1 ps[i].2;unfold Li at he;split at he;injection he with he;rw[<-he,ai];omega;cases he;simp only[mZ];rw[cD,ae]
def Fi (t:Bytes):Int:=cP t ((du t+2:Nat):Int)
def TH (t:Bytes):Int:=TW ((t.take (du t+20)).drop (du t))
def aek (t:Bytes):Bytes:=(t.take (du t+(Fi t).toNat)).drop (du t+20)
def anF (t:Bytes):Bytes:=yW (eK t ((du t+12:Nat):Int)) (eK t ((du t+16:Nat):Int)) (oF t:Int) (Fi t-20)
def Pk (t:Bytes):Int:=bif ((oF t:Int)==17)&&(TW (anF t++aek t)==0) then 65535 else TW (anF t++aek t)
def afn (t s:Bytes):Bytes×Bool:=bif ((kU s).2==0)&&((kJ (kU s).1).1==t) then dS (kU s).1 else([],false)
def BG (t:Bytes):Bytes×Bool:=afn t (mT t (cC (TH t)) (cC (Pk t)))
theorem Lc (h:¬(TOk t/\cP t (Cn t:Int)=0/\cP t (xf t:Int)=0)):BG t=([],false):=by
 have ha:GJ (mT t (cC (TH t)) (cC (Pk t))) t:=JG t (cr _) (cr _);unfold BG afn;generalize mT t (cC (TH t)) (cC (Pk t))=s at ha⊢;cases h1:(kU s).2==0;rfl;have SP:(kU s).2=0:=by simpa using h1
 cases h2:(kJ (kU s).1).1==t;rfl;have WC:(kJ (kU s).1).1=t:=eq_of_beq h2;have ht:=arF ha SP;exact absurd ⟨ht,aiY WC (aaR SP).2.2.1 ht⟩ h
theorem aaK (h1:du t+20<=t.length)(h2:20<=Fi t)(h3:Fi t<=(t.length:Int))(h4:t.length<=10^9):B5 (eK t ((du t+12:Nat):Int)) (eK t ((du t+16:Nat):Int)) (oF t:Int) (Fi t-20)=true:=by have a1:=E7 (s:=t) (a:=((du t+12:Nat):Int));have a2:=E7 (s:=t) (a:=((du t+16:Nat):Int));have a3:=eJ t (du t+9);have a4:=E6 (s:=t) (a:=((du t+2:Nat):Int));unfold B5;rw[aX.2 a1,aX.2 a2,aX.2 (show 0<=(oF t:Int)/\(oF t:Int)<=255 by unfold oF;omega),aX.2 (show 0<=Fi t-20/\Fi t-20<=65535 by unfold Fi at*;omega)];rfl
theorem aiz (t:Bytes)(hl:t.length<=10^9):Aj t=some (BG t):=by
 have hp:=Db t
 have hk:=PJ (oF t)
 have Zq:oF t<256:=eJ t (du t+9)
 unfold Aj
 rw[Sn t hl,ab]
 by_cases h1:t.length<du t+46
 ·rw[au h1,Lc λh=>by have:=h.1.l1;omega];rfl
 rw[aq h1]
 simp only[ae]
 rw[aq (show¬(Cn t:Int)<0 by omega)]
 simp only[ae,tW t _ hl,ab]
 cases h2:cP t (Cn t:Int) !=0 with
 |true=>rw[Lc λh=>by rw[h.2.1]at h2;cases h2];rfl
 |false=>
 simp only[ae,ab]
 cases h3:cP t (xf t:Int) !=0 with
 |true=>rw[Lc λh=>by rw[h.2.2]at h3;cases h3];rfl
 |false=>
 have w1:ar ((Cn t:Int)-10)=(du t:Int):=by rw[aj];omega
 have w2:ar ((du t:Int)+2)=((du t+2:Nat):Int):=by rw[aj];omega
 have w9:ar ((du t:Int)+9)=((du t+9:Nat):Int):=by rw[aj];omega
 have w12:ar ((du t:Int)+12)=((du t+12:Nat):Int):=by rw[aj];omega
 have w16:ar ((du t:Int)+16)=((du t+16:Nat):Int):=by rw[aj];omega
 have w20:ar ((du t:Int)+20)=((du t+20:Nat):Int):=by rw[aj];omega
 have wb:ar ((xf t:Int)+2)=(xf t:Int)+2:=by rw[aj]
 have wc:ar ((xf t:Int)+2-(du t:Int))=(xf t:Int)+2-(du t:Int):=by rw[aj]
 have wl:ar ((t.length:Int)-(du t:Int))=(t.length:Int)-(du t:Int):=by rw[aj]
 obtain⟨x,hx,ex⟩:=mK (s:=t) (i:=du t+9)
 have a4:=E6 (s:=t) (a:=((du t+2:Nat):Int))
 simp only[ae,ab,w1,w2,w9,hx,wb,wc,wl]
 rw[show cP t ((du t+2:Nat):Int)=Fi t from rfl]at a4⊢
 by_cases h4:Fi t<(xf t:Int)+2-(du t:Int)
 ·rw[au h4,Lc λh=>by have:=h.1.n1;unfold Fi at h4;omega];rfl
 rw[aq h4]
 simp only[ae,ab]
 by_cases h5:Fi t>(t.length:Int)-(du t:Int)
 ·rw[au h5,Lc λh=>by have:=h.1.n2;unfold Fi at h5;omega];rfl
 rw[aq h5]
 obtain⟨n,hn⟩:=aO a4.1
 have wn:ar ((du t:Int)+Fi t)=((du t+n:Nat):Int):=by rw[hn,aj];omega
 have wm:ar (Fi t-20)=Fi t-20:=by rw[aj]
 have s1:sub t (du t:Int) ((du t+20:Nat):Int)=some ((t.take (du t+20)).drop (du t)):=by rw[PK (l:=t) (du t) rfl,ax]
 have s2:sub t ((du t+20:Nat):Int) ((du t+n:Nat):Int)=some (aek t):=by rw[PK (l:=t) (du t+20) rfl,ax];unfold aek;rw[hn];rfl
 have hps:=Nh (eK t ((du t+12:Nat):Int)) (eK t ((du t+16:Nat):Int)) (oF t:Int) (Fi t-20)
 have anL:(aek t).length<=65535:=by unfold aek;rw[aS,aP,hn];omega
 have Uy:ar ((UInt8.toNat x:Int))=(oF t:Int):=by rw[ex,gY (show ch t (du t+9)<9223372036854775808 by unfold oF at Zq;omega)];rfl
 simp only[ae,ab,w12,w16,w20,wn,wm,s1,s2,zg t _ hl,Uy,Gv,aaK (show du t+20<=t.length by omega) (show 20<=Fi t by omega) (show Fi t<=(t.length:Int) by omega) hl,ah]
 rw[show yW (eK t ((du t+12:Nat):Int)) (eK t ((du t+16:Nat):Int)) (oF t:Int) (Fi t-20)=anF t from rfl]at hps⊢
 rw[L5 _ (by rw[aS,aP];omega),ab,aL,L5 _ (by rw[ai];omega),ab]
 rw[show TW ((t.take (du t+20)).drop (du t))=TH t from rfl]
 have pB:∀y:Int,Pk t=y->(aa (cy (TH t)) λVb=>aa (eR t (Cn t:Int) Vb) λXo=>aa (cy y) λSV=>aa (eR Xo (xf t:Int) SV) λr19=>aa (jd r19) λr20=>
  bif r20.2 !=0 then some (([]:Bytes),false) else aa (nw r20.1) λPG=>bif !(PG.1==t) then some (([]:Bytes),false) else aa (hY r20.1) λr22=>some r22)=some (BG t):=by
  intro y hy
  subst hy
  rw[iS,ab,Ae t _ _ hl,ab,iS,ab,Ae _ _ _ (by rw[xS];exact hl),ab]
  have hlen:=HT t (cC (TH t)) (cC (Pk t))
  unfold BG
  rw[show yG (yG t (Cn t:Int) (cC (TH t))) (xf t:Int) (cC (Pk t))=mT t (cC (TH t)) (cC (Pk t)) from rfl]
  generalize mT t (cC (TH t)) (cC (Pk t))=s at hlen⊢
  simp only[I2 s (by omega),ab,Vx,FC,afn,bne]
  cases (kU s).2==0;rfl
  cases (kJ (kU s).1).1==t<;>rfl
 cases h7:TW (anF t++aek t)==0 with
 |false=>exact pB _ (by unfold Pk;rw[h7,iu];rfl)
 |true=>
  simp only[ah,ab]
  cases h8:(oF t:Int)==17 with
  |false=>exact pB _ (by unfold Pk;rw[h8];rfl)
  |true=>exact pB _ (by unfold Pk;rw[h7,h8];rfl)
theorem agQ (t:Bytes):(BG t).1.length<=378:=by unfold BG afn;generalize mT t (cC (TH t)) (cC (Pk t))=s;cases ((kU s).2==0)&&((kJ (kU s).1).1==t)with|false=>exact bC _|true=>exact CA _
theorem Qe (l:aw aN)(m:bV)(d:Int):∀(n:Nat)(acc:aw Ja)(r:od),(xi l m d n acc r).1.length<=acc.length+n
 |0,acc,r=>bt _
 |n+1,acc,r=>by
  rw[xi];cases !(bL l m d r).2.2|| !(dJ (bL l m d r).1).2;case true=>exact bC _
  cases acP (dJ (bL l m d r).1).1 with|true=>simp only[ae,ah,ai,aW];omega|false=>have:=Qe l m d n (acc++[(dJ (bL l m d r).1).1]) (bL l m d r).2.1;simp only[ai,aW]at this;simp only[ae];omega
theorem aeh (h:dF r=true):dF (r.1,r.2.1,r.2.2.2,r.2.2.2)=true/\cl (r.1,r.2.1,r.2.2.2,r.2.2.2)=0:=by
 have hr:=nT h;have hq:=h;simp only[dF,af,aG]at hq;have hu:cl (r.1,r.2.1,r.2.2.2,r.2.2.2)=0:=by unfold cl;simp only[Int.sub_self,Int.zero_emod,ite_self]
 refine⟨?_,hu⟩;simp only[dF,af,aG,aX,hu,hq.2.1,true_and];omega
theorem NK (l:aw aN)(m:bV)(d:Int):∀(n:Nat)(acc:aw Ja)(r:od),dF r=true->(cl r).toNat=n->
 dF (xi l m d n acc r).2.1=true/\cl (xi l m d n acc r).2.1<=cl r/\(0<cl r->cl (xi l m d n acc r).2.1<cl r)
 |0,acc,r,hb,hu=>⟨hb,dB _,λh=>by omega⟩
 |n+1,acc,r,hb,hu=>by have hk:=Ie (l:=l) (m:=m) (d:=d) (r:=r);have he:=aeh hb;rw[xi];cases hc: !(bL l m d r).2.2|| !(dJ (bL l m d r).1).2 with|true=>exact⟨he.1,by show cl (r.1,r.2.1,r.2.2.2,r.2.2.2)<=_;rw[he.2];omega,λ_=>by show cl (r.1,r.2.1,r.2.2.2,r.2.2.2)<_;rw[he.2];omega⟩|false=>simp only[cI,dX]at hc;have hk:=hk hc.1;cases acP (dJ (bL l m d r).1).1 with|true=>exact⟨hk.1,by show cl (bL l m d r).2.1<=_;omega,λ_=>by show cl (bL l m d r).2.1<_;omega⟩|false=>have:=NK l m d n (acc++[(dJ (bL l m d r).1).1]) (bL l m d r).2.1 hk.1 (by omega);simp only[ae];exact⟨this.1,by omega,λ_=>by omega⟩
def jm (l:aw aN)(m:bV)(d:Int)(r:od):od×bV×Int:=
 bif !dF r||(cl r==0) then(r,[],0) else
 bif !(dE l m d r).2.2|| !(gk (dE l m d r).1).2.2.2 then((dE l m d r).2.1,[],2) else
 bif !(nL l m d (gk (dE l m d r).1).1).2||(!(BG (nL l m d (gk (dE l m d r).1).1).1).2||((kU (BG (nL l m d (gk (dE l m d r).1).1).1).1).2 !=0)) then((dE l m d r).2.1,[],2) else
 ((dE l m d r).2.1,JL (kU (BG (nL l m d (gk (dE l m d r).1).1).1).1).1 (gk (dE l m d r).1).2.1,1)
theorem aeA (l:aw aN)(m:bV)(d:Int)(r:od)(hl:l.length<=10^9)(hm:m.length<=10^9):sg l m d r=some (jm l m d r):=by
 unfold sg jm;simp only[Bc,Dm,ab,TD l m d r hl hm];cases hb:dF r;rfl;cases cl r==0;case true=>rfl
 have hu:=Ba hb;have hcl:(dE l m d r).1.length<=16:=by unfold dE;cases !dF r||(cl r==0)with|true=>exact bC _|false=>have:=Qe l m d (cl r).toNat [] r;simp only[da]at this;show(xi l m d (cl r).toNat [] r).1.length<=16;omega
 simp only[al,ae,ab,cc];generalize dE l m d r=c at hcl⊢;simp only[XI c.1 (show c.1.length<=10^9 by omega),ab];cases c.2.2;rfl;simp only[al,ae,ab,cZ];have hpo:=aaE (l:=c.1);generalize gk c.1=p at hpo⊢;cases hp:p.2.2.2;rfl;have hpo:=hpo hp;have h16:=(Nd hpo.1).1;have hg:=YW l m d p.1;simp only[al,ae,ab,cZ,aew l m d p.1 hl hm (show p.1.length<=10^9 by omega) (λq hq=>Int.le_trans (hpo.2 q hq) (by omega))];generalize nL l m d p.1=g at hg⊢;have hf:=agQ g.1;simp only[aiz g.1 hg,ab];generalize BG g.1=f at hf⊢;simp only[I2 f.1 (show f.1.length<=10^9 by omega),ab];generalize kU f.1=i;cases g.2;rfl;cases f.2;rfl;cases i.2 !=0;case true=>rfl
 simp only[al,ae,ab,cc,amk]
theorem UZ (l:aw aN)(m:bV)(d:Int)(r:od): ((jm l m d r).2.2=0->(jm l m d r).1=r)/\((jm l m d r).2.2≠0->0<cl r/\dF r=true/\dF (jm l m d r).1=true/\cl (jm l m d r).1<cl r)/\(jm l m d r).2.1.length<=320/\(∀x∈(jm l m d r).2.1,x.length<=382)/\((jm l m d r).2.2=0\/(jm l m d r).2.2=1\/(jm l m d r).2.2=2):=by
 unfold jm;cases hc: !dF r||(cl r==0)with
 |true=>exact⟨λ_=>rfl,λh=>absurd rfl h,bC _,(λx hx=>by cases hx),.inl rfl⟩
 |false=>
  simp only[cI,dX,cg]at hc;have hu:=Ba hc.1;have hch:dF (dE l m d r).2.1=true/\cl (dE l m d r).2.1<cl r:=by have:=NK l m d (cl r).toNat [] r hc.1 rfl;unfold dE;rw[show(!dF r||(cl r==0))=false from by rw[hc.1];simpa using hc.2];exact⟨this.1,this.2.2 (by omega)⟩
  cases !(dE l m d r).2.2|| !(gk (dE l m d r).1).2.2.2 with|true=>exact⟨(λh=>by cases h),λ_=>⟨by omega,hc.1,hch⟩,bC _,(λx hx=>by cases hx),.inr (.inr rfl)⟩|false=>cases !(nL l m d (gk (dE l m d r).1).1).2||(!(BG (nL l m d (gk (dE l m d r).1).1).1).2||((kU (BG (nL l m d (gk (dE l m d r).1).1).1).1).2 !=0))with|true=>exact⟨(λh=>by cases h),λ_=>⟨by omega,hc.1,hch⟩,bC _,(λx hx=>by cases hx),.inr (.inr rfl)⟩|false=>have hs:=Nr (kU (BG (nL l m d (gk (dE l m d r).1).1).1).1).1 (gk (dE l m d r).1).2.1;exact⟨(λh=>by cases h),λ_=>⟨by omega,hc.1,hch⟩,hs.1,hs.2,.inr (.inl rfl)⟩
def rn (l:aw aN)(m:bV)(d:Int):Nat->bV->Nat->Nat->od->od×bV×Int×Int
 |0,fr,dn,bd,r=>(r,fr,(dn:Int),(bd:Int))
 |n+1,fr,dn,bd,r=>
  bif (jm l m d r).2.2==0 then(r,fr,(dn:Int),(bd:Int)) else
  bif (jm l m d r).2.2==1 then rn l m d n (fr++(jm l m d r).2.1) (dn+1) bd (jm l m d r).1 else
  rn l m d n (fr++(jm l m d r).2.1) dn (bd+1) (jm l m d r).1
def lY (l:aw aN)(m:bV)(d:Int)(r:od):od×bV×Int×Int:=rn l m d 17 [] 0 0 r
theorem KC (l:aw aN)(m:bV)(d:Int)(hl:l.length<=10^9)(hm:m.length<=10^9):∀(n:Nat)(fr:bV)(dn bd:Nat)(r:od)(f:Nat),n<f->(dF r=true->cl r<n)->0<n->fr.length+320*n<=10000->dn+bd+n<=1000->
 bh (oa (λy2 y3 y4 _ _ _ _ y9=>some (y9,y2,y3,y4)) l d ([]:bV) 0 0 m (0,0,0,0)) f (fr,(dn:Int),(bd:Int),r)=some (rn l m d n fr dn bd r)
 |0,fr,dn,bd,r,f,_,_,h0,_,_=>by omega
 |n+1,fr,dn,bd,r,0,hf,_,_,_,_=>by omega
 |n+1,fr,dn,bd,r,f+1,hf,hr,_,jt,hc=>by have ok:=UZ l m d r;rw[bh,rn];simp only[oa,aeA l m d r hl hm,ab];generalize jm l m d r=x at ok⊢;cases h0:x.2.2==0 with|true=>rfl|false=>have hk:=ok.2.1 (by simpa using h0);have hu:=hr hk.2.1;have hu2:=(Ba hk.2.2.1).1;simp only[ae];rw[aL];cases x.2.2==1 with|true=>simp only[ah];rw[aj];exact KC l m d hl hm n _ (dn+1) bd _ f (by omega) (λ_=>by omega) (by omega) (by rw[ai];omega) (by omega)|false=>simp only[ae];rw[aj];exact KC l m d hl hm n _ dn (bd+1) _ f (by omega) (λ_=>by omega) (by omega) (by rw[ai];omega) (by omega)
theorem aiP (l:aw aN)(m:bV)(d:Int)(r:od)(hl:l.length<=10^9)(hm:m.length<=10^9):uv l m d r=some (lY l m d r):=by have GS:=fb;unfold uv;exact KC l m d hl hm 17 [] 0 0 r fuel (by omega) (λh=>by have:=(Ba h).2;omega) (by omega) (by simp) (by omega)
theorem FE (l:aw aN)(m:bV)(d:Int):∀(n:Nat)(fr:bV)(dn bd:Nat)(r:od),(∀x∈fr,x.length<=382)->
 (rn l m d n fr dn bd r).2.1.length<=fr.length+320*n/\(∀x∈(rn l m d n fr dn bd r).2.1,x.length<=382)/\0<=(rn l m d n fr dn bd r).2.2.1/\(rn l m d n fr dn bd r).2.2.1<=(dn+n:Nat)/\0<=(rn l m d n fr dn bd r).2.2.2/\(rn l m d n fr dn bd r).2.2.2<=(bd+n:Nat)
 |0,fr,dn,bd,r,h=>⟨bt _,h,by show(0:Int)<=(dn:Int);omega,by show(dn:Int)<=_;omega,by show(0:Int)<=(bd:Int);omega,by show(bd:Int)<=_;omega⟩
 |n+1,fr,dn,bd,r,h=>by
  have ok:=UZ l m d r;rw[rn];generalize jm l m d r=x at ok⊢;have h2:∀y∈fr++x.2.1,y.length<=382:=λy hy=>by rcases aA.1 hy with g|g;exact h y g;exact ok.2.2.2.1 y g
  cases x.2.2==0 with|true=>exact⟨by show fr.length<=_;omega,h,by show(0:Int)<=(dn:Int);omega,by show(dn:Int)<=_;omega,by show(0:Int)<=(bd:Int);omega,by show(bd:Int)<=_;omega⟩|false=>cases x.2.2==1 with|true=>have i:=FE l m d n (fr++x.2.1) (dn+1) bd x.1 h2;rw[ai]at i;simp only[ae,ah];exact⟨by omega,i.2.1,i.2.2.1,by omega,i.2.2.2.2.1,by omega⟩|false=>have i:=FE l m d n (fr++x.2.1) dn (bd+1) x.1 h2;rw[ai]at i;simp only[ae,ah];exact⟨by omega,i.2.1,i.2.2.1,by omega,i.2.2.2.2.1,by omega⟩
def Kf (v:Vector):Bool:=bif decide (v.2.2.1>=1) then(bif decide (v.2.2.1>=v.1) then true else decide (v.2.2.2.1>=v.2.1)) else false
theorem af3 (v:Vector):tj v=some (Kf v):=by unfold tj Kf;cases decide (v.2.2.1>=1);rfl;cases decide (v.2.2.1>=v.1)<;>rfl
def Hf (v:Vector):Vector:=bif Kf v&& !v.2.2.2.2.1 then(v.1,v.2.1,v.2.2.1,v.2.2.2.1,v.2.2.2.2.1,true) else v
theorem Nt (v:Vector):nz v=some (Hf v):=by obtain⟨a,b,c,d,e,f⟩:=v;unfold nz Hf;rw[af3,ab];cases f<;>cases Kf (a,b,c,d,e,_)<;>cases e<;>rfl
def upM (n:Int):Int:=if 1000000<ar (n+1) then 1000000 else ar (n+1)
theorem agn (n:Int):(if ar (n+1)<1000000 then ar (n+1) else 1000000)=upM n:=by unfold upM;split<;>split<;>omega
def evV (v:Vector):Vector:=bif fy v then Hf (v.1,v.2.1,upM v.2.2.1,v.2.2.2) else v
theorem aiv (v:Vector):Af v=some (evV v):=by unfold Af evV;rw[sZ,ab,agn,Nt,ab];cases fy v<;>rfl
def abA (v:Vector):Vector:=bif fy v then(bif decide (v.2.2.1>0) then Hf (v.1,v.2.1,v.2.2.1,upM v.2.2.2.1,v.2.2.2.2) else Hf v) else v
theorem aiO (v:Vector):wk v=some (abA v):=by unfold wk abA;simp only[sZ,ab,agn,Nt];cases fy v;rfl;cases decide (v.2.2.1>0)<;>rfl
def G5 (v:Vector):Vector×Bool:=bif fy v&&v.2.2.2.2.2 then((v.1,v.2.1,0,0,true,false),true) else(v,false)
theorem aiN (v:Vector):qb v=some (G5 v):=by unfold qb G5;rw[sZ,ab];cases fy v;rfl;cases v.2.2.2.2.2<;>rfl
def Mu (v:Vector):Vector:=bif fy v then Hf (v.1,v.2.1,v.2.2.1,v.2.2.2.1,false,v.2.2.2.2.2) else v
theorem Sp (v:Vector):Bd v=some (Mu v):=by unfold Bd Mu;rw[sZ,ab,Nt,ab];cases fy v<;>rfl
structure lI (k:Nat) (a b:Host):Prop where
 mem:b.1.length=a.1.length
 maps:b.2.1=a.2.1
 tx:b.2.2.1=a.2.2.1
 rx:b.2.2.2.1.length=a.2.2.2.1.length
 rxs:∀j,k<=j->b.2.2.2.1[j]?=a.2.2.2.1[j]?
 pl:b.2.2.2.2.1.length=a.2.2.2.2.1.length
 vec:b.2.2.2.2.2.1.length=a.2.2.2.2.2.1.length
 TM:∀j,k<=j->b.2.2.2.2.2.1[j]?=a.2.2.2.2.2.1[j]?
 pol:b.2.2.2.2.2.2.1.length=a.2.2.2.2.2.2.1.length
 sF:b.2.2.2.2.2.2.2.1=a.2.2.2.2.2.2.2.1
 SW:b.2.2.2.2.2.2.2.2.1=a.2.2.2.2.2.2.2.2.1
theorem lI.refl (k:Nat)(a:Host):lI k a a:=⟨rfl,rfl,rfl,rfl,λ_ _=>rfl,rfl,rfl,λ_ _=>rfl,rfl,rfl,rfl⟩
theorem lI.trans {a b c:Host}(h:lI k a b)(g:lI k b c):lI k a c:=⟨g.mem.trans h.mem,g.maps.trans h.maps,g.tx.trans h.tx,g.rx.trans h.rx,λj hj=>(g.rxs j hj).trans (h.rxs j hj),g.pl.trans h.pl,g.vec.trans h.vec,λj hj=>(g.TM j hj).trans (h.TM j hj),g.pol.trans h.pol,g.sF.trans h.sF,g.SW.trans h.SW⟩
theorem lI.up {m:Nat}{a b:Host}(h:lI k a b)(hk:k<=m):lI m a b:=⟨h.mem,h.maps,h.tx,h.rx,λj hj=>h.rxs j (by omega),h.pl,h.vec,λj hj=>h.TM j (by omega),h.pol,h.sF,h.SW⟩
def mu (g:Nat->Host->Host):Nat->Host->Host
 |0,h=>h
 |k+1,h=>g k (mu g k h)
theorem uC (hg:∀k h,lI (k+1) h (g k h))(h:Host):∀k,lI k h (mu g k h)
 |0=>lI.refl 0 h
 |k+1=>((uC hg h k).up (by omega)).trans (hg k _)
theorem GA {d:Nat}(hn:1000<=n)(hg:∀k h m,1000<=m->cB m dz h->cB (m+d) dz (g k h))(z:cB n dz h):∀k,cB (n+d*k) dz (mu g k h)
 |0=>z
 |k+1=>(hg k _ _ (by omega) (GA hn hg z k)).mono (by rw[Nat.mul_add];omega)
def Bj (i:Nat)(h:Host):Host:=
 match h.2.2.2.2.2.1[i]? with
 |some v=>(h.1,h.2.1,h.2.2.1,h.2.2.2.1,h.2.2.2.2.1,h.2.2.2.2.2.1.set i (abA v),h.2.2.2.2.2.2)
 |none=>h
theorem GG (i:Nat)(h:Host):lI (i+1) h (Bj i h):=by unfold Bj;cases h.2.2.2.2.2.1[i]? with|none=>exact lI.refl _ _|some v=>exact⟨rfl,rfl,rfl,rfl,λ_ _=>rfl,rfl,ay ..,λj hj=>aR (by omega),rfl,rfl,rfl⟩
theorem PM {l:aw Vector}{v:Vector}(z:cB n (.sl ir) l):cB n (.sl ir) (l.set i v):=mP z ⟨cq,cq,cq,cq,cq,cq⟩
theorem ai1 (i:Nat)(h:Host)(n:Nat)(hn:1000<=n)(z:cB n dz h):cB (n+0) dz (Bj i h):=by unfold Bj;cases h.2.2.2.2.2.1[i]? with|none=>exact z|some v=>exact⟨z.1,z.2.1,z.2.2.1,z.2.2.2.1,z.2.2.2.2.1,PM z.2.2.2.2.2.1,z.2.2.2.2.2.2⟩
def Bi (h:Host):Host:=bif eL h then mu Bj h.2.2.2.2.2.1.length h else h
theorem amU (hn:1000<=n)(z:cB n dz h):cB n dz (Bi h)/\(Bi h).2.2.1=h.2.2.1:=by unfold Bi;cases eL h with|false=>exact⟨z,rfl⟩|true=>exact⟨(GA hn ai1 z _).mono,(uC GG h _).tx⟩
theorem abr (h:Host)(k:J2 h)(z:cB 1000000000 dz h):vy h=some (Bi h):=by
 have GS:=fb;unfold vy Bi;rw[jU h z,ab];have hv:h.2.2.2.2.2.1.length<=10^9:=z.2.2.2.2.2.1.1;cases hb:eL h with
 |false=>
  obtain⟨g,hg⟩:∃g,fuel=g+1:=⟨fuel-1,by omega⟩
  rw[hg,bh,oX,sY h k,hb];cases decide ((0:Int)<(h.2.2.2.2.2.1.length:Int))<;>rfl
 |true=>
  simp only[ah];refine cK (λi=>((i:Int),mu Bj i h)) h.2.2.2.2.2.1.length (by omega) (λi nx hi=>?_) (λnx=>?_);have kk:=uC GG h i;have i1:i<(mu Bj i h).2.2.2.2.2.1.length:=by rw[kk.vec];exact hi
  have e1:=kk.TM i (bt _);rw[ak i1,ak hi]at e1;have e2:=bM e1;rw[show mu Bj (i+1) h=Bj i (mu Bj i h) from rfl];generalize mu Bj i h=s at i1 e2⊢;simp only[oX,Bj,sY h k,hb];rw[iH,ah,ak i1];simp only[bc i1,bc hi,ab,aiO,ax,ah,e2];rw[aj];rfl;simp only[oX];rw[cD,ae,ab,ae]
structure Dz (n:Nat) (h:Host):Prop where
 z:cB n dz h
 t:h.2.2.1.2.1.2.2.2.length+(bG h.2.2.1.2.2.1).length<=n
theorem Dz.mono {m:Nat}(k:Dz n h)(hn:n<=m:=by omega):Dz m h:=⟨k.z.mono hn,bp k.t hn⟩
theorem Dz.sz (k:Dz n h)(hn:n<=10^9:=by omega):J2 h:=by have z:cB 1000000000 dz h:=k.z.mono hn;exact⟨z.1.1,z.2.1.1,z.2.2.1.2.2.1.1,bp k.t hn,z.2.2.2.2.2.2.2.1.2.2.1,z.2.2.2.2.2.2.2.2.1.1.1,z.2.2.2.2.2.2.2.2.1.2.1.1,z.2.2.2.2.2.2.2.2.1.2.2.2.1,λp hp=>(z.2.2.2.2.1.2 p hp).2.2.2.1⟩
theorem Dz.of (k:TI dz h<=1048576):Dz 1048576 h:=by
 refine⟨Mq k,?_⟩;have hb:=ae5 h.2.2.1.2.2.1;have h1:TI mF h.2.2.1<=TI dz h:=by simp only[TI];omega
 have hp:h.2.2.1.2.1.2.2.2.length+TI (.sl ru) h.2.2.1.2.2.1<=TI mF h.2.2.1:=by simp only[TI];omega
 omega
def sG (p:ei):aw xb->ei
 |[]=>p
 |x::l=>sG (Hz p x.2.2).1 l
theorem MQ:∀(l:aw xb)(p:ei),(sG p l).2.2.2.length<=p.2.2.2.length+(bG l).length
 |[],p=>by simp[sG]
 |x::l,p=>by have h1:=Zb p x.2.2;have h2:=MQ l (Hz p x.2.2).1;simp only[sG,bG,List.flatMap_cons,ai]at h2⊢;omega
theorem Uo:∀(l:aw xb)(p:ei)(x:xb),sG p (l++[x])=(Hz (sG p l) x.2.2).1
 |[],p,x=>rfl
 |y::l,p,x=>by rw[List.cons_append,sG,sG,Uo l]
theorem Yg (a b:aw xb):(bG (a++b)).length=(bG a).length+(bG b).length:=by simp only[bG,List.flatMap_append,ai]
theorem Yh (l:aw xb)(n:Nat):(bG (l.take n)).length+(bG (l.drop n)).length=(bG l).length:=by rw[<-Yg,cW]
def mw (t:dx)(n:Int):dx×bQ:=
 bif Pm t&&cY n 0 (t.2.2.1.length:Int) then((t.1,sG t.2.1 (t.2.2.1.take n.toNat),t.2.2.1.drop n.toNat,t.2.2.2),(t.2.2.1.take n.toNat).map (·.1)) else(t,[])
theorem aot {l:aw xb}(h:(bG l).length<=10^9):∀x∈l,x.2.2.length<=10^9:=by intro x hx;induction l with|nil=>cases hx|cons y l ih=>simp only[bG,List.flatMap_cons,ai]at h;rcases bZ.1 hx with rfl|g;omega;exact ih (by simp only[bG];omega) g
theorem XA (t:dx)(n:Int)(hw:t.2.2.1.length<=10^9)(hs:t.2.1.2.2.2.length+(bG t.2.2.1).length<=10^9):mW t n=some (mw t n):=by
 have hx:=aot (l:=t.2.2.1) (by omega);unfold mW mw;rw[Dl t ⟨by omega,hw,hx⟩,ab,aeE t hw hs];simp only[ab,cn];cases Pm t;rfl;cases hn:cY n 0 (t.2.2.1.length:Int);rfl;have h:=aX.1 hn;obtain⟨n,rfl⟩:=aO h.1;have hl:n<=t.2.2.1.length:=by omega
 simp only[al,ae,ab,bW,ah,ax];refine cK (λi=>(((t.2.2.1.take i).map (·.1),(i:Int),t.1,sG t.2.1 (t.2.2.1.take i),t.2.2):bQ×Int×dx)) n (by omega) (λi nx hi=>?_) (λnx=>?_);have hi3:i<t.2.2.1.length:=by omega
 have g1:=MQ (t.2.2.1.take i) t.2.1;have g2:=Yh t.2.2.1 (i+1);have g3:(bG (t.2.2.1.take (i+1))).length=(bG (t.2.2.1.take i)).length+t.2.2.1[i].2.2.length:=by rw[aV hi3,Yg];simp[bG]
 simp only[kz];rw[iH,ah,bc hi3,ab,aL (by simp only[bw,aP,aW];omega),ab,Sh _ _ (by omega),ab,aj,aV hi3,Uo,eH];rfl;simp only[kz];rw[cD,ae,yA (l:=t.2.2.1) n hl rfl,ab]
theorem TZ (n:Int):∀l:aw xb,l.all (jT n)=true->(l.length:Int)<=dI l
 |[],_=>by simp[dI]
 |x::l,h=>by simp only[bX,af]at h;have:=TZ n l h.2;have hx:=h.1;unfold jT at hx;simp only[af,aX]at hx;simp only[dI,db,eI,bg]at this⊢;omega
theorem KG {t:dx}(h:Pm t=true):t.2.2.1.length<=16:=by unfold Pm at h;simp only[af,aG]at h;have h1:=TZ _ _ h.2.2.2.1;have h2:=(nT h.1).2.2.1;have h3:=h.2.2.2.2.2;omega
theorem K2 {t:dx}(n:Int)(z:cB k mF t)(hs:t.2.1.2.2.2.length+(bG t.2.2.1).length<=k): cB k mF (mw t n).1/\(mw t n).1.2.1.2.2.2.length+(bG (mw t n).1.2.2.1).length<=k/\(mw t n).2.length<=16:=by unfold mw;cases h:Pm t&&cY n 0 (t.2.2.1.length:Int)with|false=>exact⟨z,hs,bC _⟩|true=>simp only[af]at h;have h16:=KG h.1;have g1:=MQ (t.2.2.1.take n.toNat) t.2.1;have g2:=Yh t.2.2.1 n.toNat;have hw:t.2.2.1.length<=k:=z.2.2.1.1;refine⟨⟨z.1,⟨cq,cq,cq,?_,λ_ _=>trivial⟩,⟨?_,λx hx=>z.2.2.1.2 x (List.mem_of_mem_drop hx)⟩,z.2.2.2⟩,?_,?_⟩;show(sG t.2.1 (t.2.2.1.take n.toNat)).2.2.2.length<=k;omega;show(t.2.2.1.drop n.toNat).length<=k;rw[aS];omega;show(sG t.2.1 (t.2.2.1.take n.toNat)).2.2.2.length+(bG (t.2.2.1.drop n.toNat)).length<=k;omega;show((t.2.2.1.take n.toNat).map (·.1)).length<=16;rw[bw,aP];omega
theorem Fh {t:CT}{l q:aw t.D}(z:cB n (.sl t) l)(hq:∀y∈q,cB n t y)(hk:q.length<=k):cB (n+k) (.sl t) (l++q):=by refine⟨?_,λy hy=>?_⟩;show(l++q).length<=n+k;have:=z.1;rw[ai];omega;rcases aA.1 hy with h|h;exact(z.2 y h).mono;exact(hq y h).mono
def gy (h:Host):Host:=bif eL h then
    (h.1,h.2.1,(mw ((lY h.2.1 h.1 0 h.2.2.1.1).1,h.2.2.1.2) (if(h.2.2.1.2.2.1.length:Int)<ar ((lY h.2.1 h.1 0 h.2.2.1.1).2.2.1+(lY h.2.1 h.1 0 h.2.2.1.1).2.2.2) then(h.2.2.1.2.2.1.length:Int) else ar ((lY h.2.1 h.1 0 h.2.2.1.1).2.2.1+(lY h.2.1 h.1 0 h.2.2.1.1).2.2.2))).1,
      h.2.2.2.1,h.2.2.2.2.1,h.2.2.2.2.2.1,h.2.2.2.2.2.2.1,h.2.2.2.2.2.2.2.1,h.2.2.2.2.2.2.2.2.1,h.2.2.2.2.2.2.2.2.2.1,h.2.2.2.2.2.2.2.2.2.2.1,h.2.2.2.2.2.2.2.2.2.2.2.1++(lY h.2.1 h.1 0 h.2.2.1.1).2.1,
      h.2.2.2.2.2.2.2.2.2.2.2.2.1++(mw ((lY h.2.1 h.1 0 h.2.2.1.1).1,h.2.2.1.2) (if(h.2.2.1.2.2.1.length:Int)<ar ((lY h.2.1 h.1 0 h.2.2.1.1).2.2.1+(lY h.2.1 h.1 0 h.2.2.1.1).2.2.2) then(h.2.2.1.2.2.1.length:Int) else ar ((lY h.2.1 h.1 0 h.2.2.1.1).2.2.1+(lY h.2.1 h.1 0 h.2.2.1.1).2.2.2))).2,h.2.2.2.2.2.2.2.2.2.2.2.2.2) else h
theorem Mi (h:Host)(k:Dz 900000000 h):nb h=some (gy h):=by have z:cB 1000000000 dz h:=k.z.mono;have hz:=k.sz;have hm:h.1.length<=900000000:=k.z.1.1;have hl:h.2.1.length<=900000000:=k.z.2.1.1;have hw:h.2.2.1.2.2.1.length<=900000000:=k.z.2.2.1.2.2.1.1;have hwi:h.2.2.2.2.2.2.2.2.2.2.2.1.length<=900000000:=k.z.2.2.2.2.2.2.2.2.2.2.2.1.1;have hco:h.2.2.2.2.2.2.2.2.2.2.2.2.1.length<=900000000:=k.z.2.2.2.2.2.2.2.2.2.2.2.2.1.1;have hA:=FE h.2.1 h.1 0 17 [] 0 0 h.2.2.1.1 (λx hx=>by cases hx);unfold nb gy;rw[jU h z,ab,sY h hz,ab];cases eL h;rfl;simp only[al,ae,ah,aiP h.2.1 h.1 0 _ (show h.2.1.length<=10^9 by omega) (show h.1.length<=10^9 by omega),ab];rw[show rn h.2.1 h.1 0 17 [] 0 0 h.2.2.1.1=lY h.2.1 h.1 0 h.2.2.1.1 from rfl]at hA;generalize lY h.2.1 h.1 0 h.2.2.1.1=x at hA⊢;simp only[da]at hA;have hC:=K2 (k:=900000000) (t:=(x.1,h.2.2.1.2)) (if(h.2.2.1.2.2.1.length:Int)<ar (x.2.2.1+x.2.2.2) then(h.2.2.1.2.2.1.length:Int) else ar (x.2.2.1+x.2.2.2)) ⟨⟨cq,cq,cq,cq⟩,k.z.2.2.1.2⟩ k.t;rw[aL,XA (x.1,h.2.2.1.2) _ (by show h.2.2.1.2.2.1.length<=_;omega) (bp k.t (by omega)),ab,aL]
theorem GH (hn:400<=n)(k:Dz n h):Dz (n+5440) (gy h):=by have k':Dz (n+5440) h:=k.mono;have hA:=FE h.2.1 h.1 0 17 [] 0 0 h.2.2.1.1 (λx hx=>by cases hx);unfold gy;cases eL h;exact k';rw[show rn h.2.1 h.1 0 17 [] 0 0 h.2.2.1.1=lY h.2.1 h.1 0 h.2.2.1.1 from rfl]at hA;generalize lY h.2.1 h.1 0 h.2.2.1.1=x at hA⊢;simp only[da]at hA;generalize (if(h.2.2.1.2.2.1.length:Int)<ar (x.2.2.1+x.2.2.2) then(h.2.2.1.2.2.1.length:Int) else ar (x.2.2.1+x.2.2.2))=q;have hC:=K2 (k:=n) (t:=(x.1,h.2.2.1.2)) q ⟨⟨cq,cq,cq,cq⟩,k.z.2.2.1.2⟩ k.t;have z:=k'.z;refine⟨⟨z.1,z.2.1,hC.1.mono,z.2.2.2.1,z.2.2.2.2.1,z.2.2.2.2.2.1,z.2.2.2.2.2.2.1,z.2.2.2.2.2.2.2.1,z.2.2.2.2.2.2.2.2.1,z.2.2.2.2.2.2.2.2.2.1,cq,?_,?_,z.2.2.2.2.2.2.2.2.2.2.2.2.2⟩,bp hC.2.1 (by omega)⟩;exact Fh (t:=.str) (n:=n) (k:=5440) k.z.2.2.2.2.2.2.2.2.2.2.2.1 (λy hy=>by show y.length<=_;have:=hA.2.1 y hy;omega) (by omega);exact(Fh (t:=.int .i64) (n:=n) (k:=16) k.z.2.2.2.2.2.2.2.2.2.2.2.2.1 (λ_ _=>trivial) hC.2.2).mono
def D3 (l:aw aN)(d:Int)(p:ei)(z:Nat):bQ->Bytes->bV->aw qi->az (aw qi×bV)
 |[],_,m,a=>some (a,m)
 |b::q,s,m,a=>bif (kH l m d (uM p b) (s.take z) false).2 then D3 l d p z q (s.drop z) (kH l m d (uM p b) (s.take z) false).1 (a++[(uM p b,((s.take z).length:Int))]) else none
theorem QF (l:aw aN)(d:Int)(p:ei)(z:Nat):∀(q:bQ)(s:Bytes)(m:bV)(a:aw qi){x},D3 l d p z q s m a=some x->
 x.2.length=m.length/\x.1.length=a.length+q.length/\∀y∈x.1,y∈a\/((∃b∈q,y.1=uM p b)/\0<=y.2/\y.2<=(z:Int))
 |[],s,m,a,x,h=>by cases h;exact⟨rfl,rfl,λy hy=>Or.inl hy⟩
 |b::q,s,m,a,x,h=>by rw[D3]at h;cases hq:(kH l m d (uM p b) (s.take z) false).2 with|false=>rw[hq]at h;cases h|true=>rw[hq]at h;obtain⟨h1,h2,h3⟩:=QF l d p z q _ _ _ h;rw[vq]at h1;rw[ai,aW]at h2;refine⟨h1,by rw[bg];omega,λy hy=>?_⟩;rcases h3 y hy with g|⟨⟨b',iz,g⟩,g2⟩;rcases aA.1 g with g|g;exact Or.inl g;rw[bI.1 g];refine Or.inr ⟨⟨b,List.mem_cons_self ..,rfl⟩,?_,?_⟩;show(0:Int)<=((s.take z).length:Int);omega;show((s.take z).length:Int)<=(z:Int);rw[aP];omega;exact Or.inr ⟨⟨b',eY _ iz,g⟩,g2⟩
theorem ae4 (p:ei)(i:Int): -1<=uM p i/\uM p i<=139136:=by unfold uM;cases hb: !dN p|| !cY i 0 (p.2.2.1-1)with|true=>exact⟨dB _,show(-1:Int)<=139136 by omega⟩|false=>simp only[cI,dX]at hb;have h:=Gi hb.1;have h2:=aX.1 hb.2;have h3:0<=i*p.2.1:=Int.mul_nonneg h2.1 (by omega);have h4:i*p.2.1<=16*512:=Int.mul_le_mul (by omega) (by omega) (by omega) (by omega);simp only[ae];omega
theorem ajs {p:ei}(hp:dN p=true)(hb:b∈p.2.2.2):0<=uM p b:=by obtain⟨i,hi,rfl⟩:=List.getElem_of_mem hb;have hq:=hp;simp only[dN,af]at hq;have:=aF.1 hq.2.2.2 i (bE.2 hi);simp only[Hx,af,bN hi]at this;have hn:=this.1;have h:=Gi hp;have h2:=aX.1 hn;have h3:0<=p.2.2.2[i]*p.2.1:=Int.mul_nonneg h2.1 (by omega);unfold uM;rw[hp,hn];show 0<=p.1+p.2.2.2[i]*p.2.1;omega
theorem JN (K:aw qi->Int->bV->az (bV×dx×Bool))(l:aw aN)(d c N:Int)(z:Nat)(t:Bytes)(M:bV)(A B2:dx)(B1:bV)(B3:ei)(hp:A.2.1.2.2.2.length<=10^9)(hl:l.length<=10^9)(hM:M.length<=10^9)(hA:ajf A)(ht:t.length<=1000)(hz:z<=1000):∀(rest pre:bQ)(m:bV)(a:aw qi)(f:Nat),rest.length<f->(pre++rest).length<=1000->a.length+rest.length<=1000000->m.length<=10^9->(∀i<(pre++rest).length,i*z<=t.length)->N=((pre++rest).length:Int)->
 bh (kW K (λy34 _ _ y37 y38 _=>some (y37,y38,y34)) l d c (z:Int) false t N (pre++rest) M A B1 B2 B3) f (a,(pre.length:Int),m)=
  (match D3 l d A.2.1 z rest (t.drop (pre.length*z)) m a with|some x=>K x.1 N x.2|none=>some (M,A,false))
 |rest,pre,m,a,0,hf,_,_,_,_,_=>by omega
 |[],pre,m,a,f+1,_,_,_,_,_,hN=>by rw[bh];simp only[kW];rw[aq (by rw[hN];simp),ae,hN,bR];rfl
 |b::q,pre,m,a,f+1,hf,hn,ha,hm,hiz,hN=>by
  simp only[bg]at hf ha;have hi:pre.length<(pre++b::q).length:=by simp
  have hb:(pre++b::q)[pre.length]=b:=by simp
  have hB:=ae4 A.2.1 b;have h1:=hiz pre.length hi;have h2:(pre.length+1)*z=pre.length*z+z:=Nat.succ_mul ..;have hs:sub t (ar ((pre.length:Int)*(z:Int))) (if ar (ar ((pre.length:Int)+1)*(z:Int))<(t.length:Int) then ar (ar ((pre.length:Int)+1)*(z:Int)) else(t.length:Int))=some ((t.drop (pre.length*z)).take z):=by rw[aj (n:=(pre.length:Int)+1),show(pre.length:Int)*(z:Int)=((pre.length*z:Nat):Int) by simp,show((pre.length:Int)+1)*(z:Int)=((pre.length*z+z:Nat):Int) by rw[<-h2];simp];generalize pre.length*z=g at h1⊢;rw[aj (n:=(g:Int)),aj (n:=((g+z:Nat):Int))];by_cases gr:((g+z:Nat):Int)<(t.length:Int);rw[aI gr];unfold sub;rw[zip];simp only[ax,bq];rw[List.drop_take,Nat.add_sub_cancel_left];rw[aK gr];unfold sub;rw[zip];simp only[ax,bq];rw[cx (bt _),cx (by rw[aS];omega)]
  rw[bh];simp only[kW];rw[iH,ah,hs,bc hi,hb];simp only[ab,Sf A.2.1 b hp,JQ l m d (uM A.2.1 b) _ hl hm (show uM A.2.1 b<=9223372036854775807 by omega)];rw[D3];cases hq:(kH l m d (uM A.2.1 b) ((t.drop (pre.length*z)).take z) false).2 with
  |false=>simp only[bH,ah,ae,iR M,Dl A hA,ab]
  |true=>
   simp only[al,ae,ah];rw[aj (n:=(pre.length:Int)+1),aL (by simp only[aW];omega)];have key:=JN K l d c N z t M A B2 B1 B3 hp hl hM hA ht hz q (pre++[b]) (kH l m d (uM A.2.1 b) ((t.drop (pre.length*z)).take z) false).1 (a++[(uM A.2.1 b,(((t.drop (pre.length*z)).take z).length:Int))]) f (by omega) (by simpa using hn) (by simp;omega) (by rw[vq];exact hm) (by simpa using hiz) (by simpa using hN);have el:((pre++[b]).length:Int)=(pre.length:Int)+1:=by simp
   have el2:(pre++[b]).length=pre.length+1:=by simp
   rw[bj,List.singleton_append,el,el2,h2,<-fE]at key;exact key
theorem akq {ps:aw qi}{z:Int}(h0:0<ps.length)(h16:ps.length<=16)(hp:∀x∈ps,0<=x.1/\x.1<=200000/\0<=x.2/\x.2<=4096)(hz:cY z 1 128=true)(hc:cY c 0 65535=true):(uX ps z c).length=ps.length+1:=by
 have hz2:=aX.1 hz;have Zm:=aX.1 hc;have e1:pM ps=true:=by unfold pM;rw[af,aM,aG];refine⟨List.any_eq_false.2 λx hx=>?_,by omega⟩;have:=hp x hx;unfold Da;rw[cD,cZ,aM,Bool.eq_false_iff];intro h;exact h (aX.2 (by omega))
 have e2:([((2:Int),(0:Int),(0:Int),(0:Int),z,c)]++CM ps c ps.length).all AI=true:=by rw[List.all_append,af];constructor;simp only[bX,List.all_nil,fC,AI,af,aX];omega;rw[Iv];refine aF.2 λj hj=>?_;have hj:=bE.1 hj;have:=hp _ (aB hj);simp only[dsc,bN hj,AI,af,aX];refine⟨by omega,?_,by omega,by omega,by omega,by omega⟩;by_cases hq:j+1=ps.length;rw[aI hq];omega;rw[aK hq];omega
 unfold uX;rw[e1,hz,e2,show((ps.length:Int)==0)=false from by rw[cg];omega];simp only[al,cc,ae,ah,ai,aW,Iw];omega
theorem abg (K:bV->Int->az R)(l:aw aN)(d n:Int)(q:bQ)(ds:aw Bm)(t1 t2:dx)(p:ei)(m1 m2 m3:bV)(h:ds.length<=1000): bh (kX K l d n q ds m1 t1 m2 t2 p m3) fuel (([]:bV),0)=K (ds.map E3) (ds.length:Int):=by
 have GS:=fb;refine cK (λi=>((ds.take i).map E3,(i:Int))) ds.length (by omega) (λi nx hi=>?_) (λnx=>?_);have e:((ds.take i).map E3).length<=1000:=by simp;omega
 rw[aV hi,eH];simp only[kX];rw[iH,ah,bc hi,ab,XD,ab,aL (by simp only[aW];omega),aj];rfl;simp only[kX];rw[cD,ae,cf]
def DD (p:aD)(z:Nat):Nat:=((kJ p).1.length+z-1)/z
def Vm (l:aw aN)(m:bV)(d:Int)(t:dx)(c:Int)(n:Nat)(x:aw qi×bV):bV×dx×Bool:=
 bif (Ab l x.2 d t.1 ((uX x.1 c t.2.2.2).map E3)).2.2 then
  ((Ab l x.2 d t.1 ((uX x.1 c t.2.2.2).map E3)).1,((Ab l x.2 d t.1 ((uX x.1 c t.2.2.2).map E3)).2.1,(lX t.2.1 (n:Int)).1,t.2.2.1++[(t.2.2.2,(n:Int)+1,(lX t.2.1 (n:Int)).2.1)],tmod (t.2.2.2+1) 65536),true)
 else(m,t,false)
def QJ (t:dx)(n:Nat):Bool:=(lX t.2.1 (n:Int)).2.2&&(!decide ((n:Int)>16)&&(!decide ((n:Int)+1>uH t.1)&& !decide (dI t.2.2.1+(n:Int)+1>t.1.2.1)))
def Dg (l:aw aN)(m:bV)(d:Int)(t:dx)(p:aD)(c z:Int):bV×dx×Bool:=
 bif Pm t&&(dw p&&(cY z 1 t.2.1.2.1&&cY c 1 128)) then
  bif QJ t (DD p z.toNat) then
   match D3 l d t.2.1 z.toNat (lX t.2.1 (DD p z.toNat:Int)).2.1 (kJ p).1 m []with
   |some x=>Vm l m d t c (DD p z.toNat) x
   |none=>(m,t,false)
  else(m,t,false)
 else(m,t,false)
theorem aeQ (h:dw p=true):0<(kJ p).1.length/\(kJ p).1.length<=378:=by have hl:=CA p;have hs:=N4 h;unfold kJ;rw[h];show 0<(mT (dS p).1 (cC 0) (cC 0)).length/\(mT (dS p).1 (cC 0) (cC 0)).length<=378;rw[HT];omega
theorem ap9 (len z:Nat)(h:len<=1000)(hz:z<=1000)(h0:0<z):ar (Int.tdiv (ar (ar ((len:Int)+(z:Int))-1)) (z:Int))=(((len+z-1)/z:Nat):Int):=by have hd:(len+z-1)/z<=len+z-1:=Nat.div_le_self ..;rw[aj (n:=(len:Int)+(z:Int)),aj (n:=(len:Int)+(z:Int)-1),show(len:Int)+(z:Int)-1=((len+z-1:Nat):Int) by omega,show Int.tdiv ((len+z-1:Nat):Int) (z:Int)=(((len+z-1)/z:Nat):Int) from rfl];generalize (len+z-1)/z=N at hd⊢;rw[aj]
theorem aby {p:ei}(h:(lX p (n:Int)).2.2=true):dN p=true/\n<=p.2.2.2.length/\(lX p (n:Int)).2.1=p.2.2.2.take n:=by unfold lX at h⊢;cases hq:dN p&&cY (n:Int) 0 (p.2.2.2.length:Int)with|false=>rw[hq]at h;cases h|true=>simp only[af,aX]at hq;exact⟨hq.1,by omega,rfl⟩
theorem agR {t:dx}{z:Nat}{x:aw qi×bV}(ht:Pm t=true)(hz:z<=512)(hc:cY c 1 128=true)(h0:0<n)(h16:n<=16)(hk:(lX t.2.1 (n:Int)).2.2=true)(hx:D3 l d t.2.1 z (lX t.2.1 (n:Int)).2.1 s m []=some x):x.2.length=m.length/\(uX x.1 c t.2.2.2).length=n+1:=by
 obtain⟨hp,hn,hb⟩:=aby hk;rw[hb]at hx;obtain⟨h1,h2,h3⟩:=QF l d t.2.1 z _ _ _ _ hx;simp only[da,aP,cO]at h2;have e:x.1.length=n:=by omega
 refine⟨h1,?_⟩;rw[akq (by omega) (by omega) (λy hy=>?_) hc (by simp only[Pm,af]at ht;exact ht.2.2.1),e];rcases h3 y hy with g|⟨⟨b,iz,g⟩,g2⟩;cases g;have q1:=ajs hp (List.mem_of_mem_take iz);have q2:=ae4 t.2.1 b;rw[g];omega
theorem aiF (l:aw aN)(m:bV)(d:Int)(t:dx)(p:aD)(c z:Int)(hl:l.length<=10^9)(hm:m.length<=10^9)(ht:ajf t)(h1:t.2.2.1.length<=10^9)(h2:t.2.1.2.2.2.length+(bG t.2.2.1).length<=10^9):wi l m d t p c z=some (Dg l m d t p c z):=by
 have GS:=fb;unfold wi Dg;rw[Vx,ab,aeE t h1 h2,ab,cn,cn];have e0:(kJ p).2=dw p:=by unfold kJ;cases dw p<;>rfl
 rw[e0];simp only[iR m,Dl t ht,ab];cases hb:Pm t;rfl;cases hp:dw p;rfl;cases hz:cY z 1 t.2.1.2.1;rfl;cases hc:cY c 1 128;rfl;have hT:=aeQ hp;have hz2:=aX.1 hz;have hq:=hb;simp only[Pm,af]at hq;have Ha:=Gi hq.2.1;have h16:=KG hb;have hrg:=nT hq.1;have hnx:=aX.1 hq.2.2.1;obtain⟨z,rfl⟩:=aO (by omega:0<=z);have hzn:(z:Int)≠0:=by omega
 have hS:∀x∈t.2.2.1,0<=x.2.1/\x.2.1<=16:=λx hx=>by have:=aF.1 hq.2.2.2.1 x hx;simp only[jT,af,aX]at this;omega
 have hcb:=Hh _ hS;have hN:DD p z<=1000:=by have:DD p z<=(kJ p).1.length+z-1:=Nat.div_le_self ..;omega
 have hN0:0<DD p z:=Nat.div_pos (by omega) (by omega);have hce:=ap9 (kJ p).1.length z (by omega) (by omega) (by omega);rw[show((kJ p).1.length+z-1)/z=DD p z from rfl]at hce;have hfi: -1<=uH t.1:=by have:=YU t.1;omega
 simp only[al,ae,ab,bW,ah,ax,aK hzn,hce,aiM _ _ (show t.2.1.2.2.2.length<=10^9 by omega),IZ,aiH t (by omega) hS,QJ];rw[aj (n:=(DD p z:Int)+1),aj (n:=dI t.2.2.1+(DD p z:Int)),aj (n:=dI t.2.2.1+(DD p z:Int)+1)];cases hk:(lX t.2.1 (DD p z:Int)).2.2;rfl;by_cases g1:(DD p z:Int)>16;rw[au g1];rfl;rw[aq g1];simp only[al,bH,ae,aZ];cases decide ((DD p z:Int)+1>uH t.1);case true=>rfl
 simp only[al,bH,ae,aZ,ab];cases decide (dI t.2.2.1+(DD p z:Int)+1>t.1.2.1);case true=>rfl
 simp only[al,bH,ae,ah,ab];obtain⟨_,hkn,Zq⟩:=aby hk;have SQ:(lX t.2.1 (DD p z:Int)).2.1.length=DD p z:=by rw[Zq,aP];omega
 have hiz:∀i<DD p z,i*z<=(kJ p).1.length:=λi hi=>by have:=(Nat.le_div_iff_mul_le (by omega:0<z)).1 (show i+1<=((kJ p).1.length+z-1)/z from hi);rw[Nat.succ_mul]at this;omega
 refine(JN _ l d c _ z (kJ p).1 m t _ _ _ (by omega) hl hm ht (by omega) (by omega) (lX t.2.1 (DD p z:Int)).2.1 [] m [] fuel (by omega) (by rw[bz];omega) (by rw[da];omega) hm (λi hi=>hiz i (by rw[bz,SQ]at hi;exact hi)) (by rw[bz,SQ])).trans ?_;simp only[da,Nat.zero_mul,eG];cases hx:D3 l d t.2.1 z (lX t.2.1 (DD p z:Int)).2.1 (kJ p).1 m []with|none=>rfl|some x=>obtain⟨x1,x2⟩:=agR hb (by omega) hc hN0 (by omega) hk hx;obtain⟨_,x3,_⟩:=QF l d t.2.1 z _ _ _ _ hx;simp only[da]at x3;simp only[L7 x.1 c t.2.2.2 (by omega),ab,Vm];rw[abg _ _ _ _ _ _ _ _ _ _ _ _ (by omega)];simp only[aeB l x.2 d t.1 _ hl (by omega) (show((uX x.1 c t.2.2.2).map E3).length<=10^9 by rw[bw];omega),ab,iR m (show m.length<=1073741824 by omega),Dl t ht];cases (Ab l x.2 d t.1 ((uX x.1 c t.2.2.2).map E3)).2.2 with|false=>rfl|true=>rw[show(((uX x.1 c t.2.2.2).length:Int)==0)=false from by rw[cg];omega];simp only[al,ae,ab,ah];rw[aL (by simp only[aW];omega),nI,aj]
def XM (g:Nat->Host->Host):Nat->Host->Host
 |0,h=>h
 |k+1,h=>g k (XM g k h)
structure GK (a b:Host):Prop where
 maps:b.2.1=a.2.1
 tx:b.2.2.1=a.2.2.1
 rx:b.2.2.2.1.length=a.2.2.2.1.length
 pl:b.2.2.2.2.1.length=a.2.2.2.2.1.length
 vec:b.2.2.2.2.2.1=a.2.2.2.2.2.1
 pol:b.2.2.2.2.2.2.1=a.2.2.2.2.2.2.1
 ret:b.2.2.2.2.2.2.2.2.2.2.2.2.2.1=a.2.2.2.2.2.2.2.2.2.2.2.2.2.1
theorem GK.refl (a:Host):GK a a:=⟨rfl,rfl,rfl,rfl,rfl,rfl,rfl⟩
theorem GK.trans {a b c:Host}(h:GK a b)(k:GK b c):GK a c:=⟨k.1.trans h.1,k.2.trans h.2,k.3.trans h.3,k.4.trans h.4,k.5.trans h.5,k.6.trans h.6,k.7.trans h.7⟩
theorem aaF (h:Host)(i:Nat)(c:Int):GK h (Dc h i c).2:=by unfold Dc;rcases h1:h.2.2.2.1[i]? with _|rx;exact GK.refl h;rcases h2:h.2.2.2.2.1[i]? with _|pl;exact GK.refl h;exact⟨rfl,rfl,ay ..,ay ..,rfl,rfl,rfl⟩
def rP (h:Host)(k:Nat):Host:=XM (λi s=>(Dc s i 1000).2) k h
theorem Gg (hn:128<=n)(z:cB n dz h):∀k,GK h (rP h k)/\cB (n+322000*k) dz (rP h k)
 |0=>⟨GK.refl h,z⟩
 |k+1=>by have i:=Gg hn z k;exact⟨i.1.trans (aaF ..),(ad5 (by omega) k 1000 i.2).mono⟩
def afR (h:Host)(l:bQ):Host:=(h.1,h.2.1,h.2.2.1,h.2.2.2.1,h.2.2.2.2.1,h.2.2.2.2.2.1,h.2.2.2.2.2.2.1,h.2.2.2.2.2.2.2.1,h.2.2.2.2.2.2.2.2.1,h.2.2.2.2.2.2.2.2.2.1,h.2.2.2.2.2.2.2.2.2.2.1,h.2.2.2.2.2.2.2.2.2.2.2.1,h.2.2.2.2.2.2.2.2.2.2.2.2.1,h.2.2.2.2.2.2.2.2.2.2.2.2.2.1++l,h.2.2.2.2.2.2.2.2.2.2.2.2.2.2)
def XW (h:Host):Host:=(h.1,h.2.1,(Ep.1,Ep.2.1,Ep.2.2.1,h.2.2.1.2.2.2),h.2.2.2)
def C8 (h:Host)(i:Nat)(dr:Int):Host:=
 ((xQ h.2.1 h.1 i).1,h.2.1,h.2.2.1,h.2.2.2.1.set i ((xQ h.2.1 h.1 i).2.1,(R5 i).2.1,(R5 i).2.2.1,(R5 i).2.2.2.1,(R5 i).2.2.2.2.1,dr),h.2.2.2.2.1.set i (xQ h.2.1 h.1 i).2.2.1,h.2.2.2.2.2)
theorem aok {x:cU}(hx:h.2.2.2.1[i]?=some x):JD h i=C8 h i x.2.2.2.2.2:=by unfold JD C8;rw[hx];rfl
theorem ahY (h:Host)(x:cU)(hi:i<h.2.2.2.1.length):JD (h.1,h.2.1,h.2.2.1,h.2.2.2.1.set i x,h.2.2.2.2) i=C8 h i x.2.2.2.2.2:=by unfold JD C8;simp only[cw hi,List.set_set];rfl
def Jk (x:cU):Int:=bif x.2.2.2.2.1 then ar (x.2.2.2.2.2+x.2.2.2.1.2.2) else x.2.2.2.2.2
def yZ (i:Nat)(h:Host):Host:=
 match h.2.2.2.1[i]?,h.2.2.2.2.2.1[i]? with
 |some x,some v=>((C8 h i (Jk x)).1,h.2.1,h.2.2.1,(C8 h i (Jk x)).2.2.2.1,(C8 h i (Jk x)).2.2.2.2.1,h.2.2.2.2.2.1.set i (v.1,v.2.1,0,0,false,false),h.2.2.2.2.2.2.1.set i false,h.2.2.2.2.2.2.2)
 |_,_=>h
structure aoS (k:Nat) (a b:Host):Prop where
 mem:b.1.length=a.1.length
 maps:b.2.1=a.2.1
 rx:b.2.2.2.1.length=a.2.2.2.1.length
 pl:b.2.2.2.2.1.length=a.2.2.2.2.1.length
 vec:b.2.2.2.2.2.1.length=a.2.2.2.2.2.1.length
 TM:∀j,k<=j->b.2.2.2.2.2.1[j]?=a.2.2.2.2.2.1[j]?
 pol:b.2.2.2.2.2.2.1.length=a.2.2.2.2.2.2.1.length
theorem U0 (l:aw aN)(m:bV)(i:Nat):(xQ l m i).1.length=m.length:=by unfold xQ;rw[afm,vq]
theorem aaU (i:Nat)(h:Host):aoS (i+1) h (yZ i h):=by unfold yZ;rcases h1:h.2.2.2.1[i]? with _|x;exact⟨rfl,rfl,rfl,rfl,rfl,λ_ _=>rfl,rfl⟩;rcases h2:h.2.2.2.2.2.1[i]? with _|v;exact⟨rfl,rfl,rfl,rfl,rfl,λ_ _=>rfl,rfl⟩;have e1:(C8 h i (Jk x)).1.length=h.1.length:=U0 h.2.1 h.1 i;exact⟨e1,rfl,ay ..,ay ..,ay ..,λj hj=>aR (by omega),ay ..⟩
def im (h:Host)(k:Nat):Host:=XM yZ k h
theorem Ac (h:Host):∀k,aoS k h (im h k)
 |0=>⟨rfl,rfl,rfl,rfl,rfl,λ_ _=>rfl,rfl⟩
 |k+1=>by have a:=Ac h k;have b:=aaU k (im h k);exact⟨b.mem.trans a.mem,b.maps.trans a.maps,b.rx.trans a.rx,b.pl.trans a.pl,b.vec.trans a.vec,λj hj=>(b.TM j hj).trans (a.TM j (by omega)),b.pol.trans a.pol⟩
theorem ahX (hn:1000<=n)(i:Nat)(d:Int)(z:cB n dz h):cB n dz (C8 h i d):=by unfold C8 xQ;have h4:=tR (lr i+128) 384 4;have hf:=Kh h.2.1 (kH h.2.1 h.1 0 (lr i) (Dx 128) false).1 0 (lr i,4,0,0) (kR (lr i+128) 384 4).1;refine⟨Ua (by omega) (HS (by omega) z.1 ..) ..,z.2.1,z.2.2.1,mP z.2.2.2.1 ?_,mP z.2.2.2.2.1 ?_,z.2.2.2.2.2⟩;refine⟨⟨cq,cq,cq,cq⟩,⟨cq,cq,cq⟩,⟨cq,cq,cq⟩,⟨⟨cq,cq,cq,cq,cq,cq,cq,cq,cq,cq,cq,cq,cq,cq,cq,?_⟩,cq,cq⟩,cq,cq⟩;exact bC _;exact⟨cq,cq,cq,by show List.length _<=_;omega,λ_ _=>trivial⟩
theorem aef (hn:1000<=n)(i:Nat)(z:cB n dz h):cB n dz (yZ i h):=by unfold yZ;rcases h1:h.2.2.2.1[i]? with _|x;exact z;rcases h2:h.2.2.2.2.2.1[i]? with _|v;exact z;have zo:=ahX hn i (Jk x) z;exact⟨zo.1,z.2.1,z.2.2.1,zo.2.2.2.1,zo.2.2.2.2.1,mP z.2.2.2.2.2.1 ⟨cq,cq,cq,cq,cq,cq⟩,mP z.2.2.2.2.2.2.1 trivial,z.2.2.2.2.2.2.2⟩
theorem Gp (hn:1000<=n)(z:cB n dz h):∀k,cB n dz (im h k)
 |0=>z
 |k+1=>aef hn k (Gp hn z k)
def Xs (W:aw xb)(i:Nat)(s:Host):Host:=match W[i]? with|some x=>afR s [x.1]|none=>s
def polled (h:Host):Host:=rP h h.2.2.2.1.length
def returned (h:Host)(k:Nat):Host:=XM (Xs h.2.2.1.2.2.1) k (polled h)
structure arU (a b:Host):Prop where
 e:b=(a.1,a.2.1,a.2.2.1,a.2.2.2.1,a.2.2.2.2.1,a.2.2.2.2.2.1,a.2.2.2.2.2.2.1,a.2.2.2.2.2.2.2.1,a.2.2.2.2.2.2.2.2.1,a.2.2.2.2.2.2.2.2.2.1,a.2.2.2.2.2.2.2.2.2.2.1,a.2.2.2.2.2.2.2.2.2.2.2.1,a.2.2.2.2.2.2.2.2.2.2.2.2.1,b.2.2.2.2.2.2.2.2.2.2.2.2.2.1,a.2.2.2.2.2.2.2.2.2.2.2.2.2.2)
theorem AZ (z:cB n dz (polled h)):∀k,arU (polled h) (returned h k)/\(returned h k).2.2.2.2.2.2.2.2.2.2.2.2.2.1.length<=n+k
 |0=>⟨⟨rfl⟩,by have:=z.2.2.2.2.2.2.2.2.2.2.2.2.2.1.1;exact bp this (by omega)⟩
 |k+1=>by have i:=AZ z k;have e:returned h (k+1)=Xs h.2.2.1.2.2.1 k (returned h k):=rfl;rw[e];unfold Xs;cases h.2.2.1.2.2.1[k]? with|none=>exact⟨i.1,bp i.2 (by omega)⟩|some x=>refine⟨⟨?_⟩,?_⟩;show afR _ _=_;have e:=i.1.e;generalize returned h k=r at e⊢;rw[e];rfl;show(_++[_]).length<=_;rw[ai,aW];omega
theorem Xt (z:cB n dz (polled h))(k:Nat):cB (n+k) dz (returned h k):=by have i:=AZ z k;have z':cB (n+k) dz (polled h):=z.mono;rw[i.1.e];exact⟨z'.1,z'.2.1,z'.2.2.1,z'.2.2.2.1,z'.2.2.2.2.1,z'.2.2.2.2.2.1,z'.2.2.2.2.2.2.1,z'.2.2.2.2.2.2.2.1,z'.2.2.2.2.2.2.2.2.1,z'.2.2.2.2.2.2.2.2.2.1,z'.2.2.2.2.2.2.2.2.2.2.1,z'.2.2.2.2.2.2.2.2.2.2.2.1,z'.2.2.2.2.2.2.2.2.2.2.2.2.1,⟨i.2,λ_ _=>trivial⟩,z'.2.2.2.2.2.2.2.2.2.2.2.2.2.2⟩
theorem abB (hn:1000<=n)(z:cB n dz h):cB n dz (XW h):=by have h4:=tR 256 128 8;exact⟨z.1,z.2.1,⟨⟨cq,cq,cq,cq⟩,⟨cq,cq,cq,by show List.length (kR 256 128 8).1.2.2.2<=n;omega,λ_ _=>trivial⟩,⟨bC _,λx hx=>by cases hx⟩,cq⟩,z.2.2.2⟩
def ry (h:Host):Host:=XW (returned h h.2.2.1.2.2.1.length)
def xV (h:Host):Host:=bif eL h then im (ry h) h.2.2.2.1.length else h
theorem Q6 (hb:eL h=true):qu h=true:=by simp only[eL,af]at hb;exact hb.2.2.2.2.1
theorem NO (hn:1000<=n)(z:cB n dz h)(hl:h.2.2.2.1.length<=2):cB (n+644000+h.2.2.1.2.2.1.length) dz (ry h):=by have hp:=Gg (by omega) z h.2.2.2.1.length;exact abB (by omega) (Xt (hp.2.mono) _)
theorem Wq (hq:GK h (polled h))(hz:cB n dz (polled h)):(ry h).2.2.2.1.length=h.2.2.2.1.length/\(ry h).2.2.2.2.1.length=h.2.2.2.2.1.length/\(ry h).2.2.2.2.2.1=h.2.2.2.2.2.1/\(ry h).2.2.2.2.2.2.1=h.2.2.2.2.2.2.1:=by have er:=(AZ hz h.2.2.1.2.2.1.length).1.e;refine⟨?_,?_,?_,?_⟩;show(returned h h.2.2.1.2.2.1.length).2.2.2.1.length=_;rw[er];exact hq.rx;show(returned h h.2.2.1.2.2.1.length).2.2.2.2.1.length=_;rw[er];exact hq.pl;show(returned h h.2.2.1.2.2.1.length).2.2.2.2.2.1=_;rw[er];exact hq.vec;show(returned h h.2.2.1.2.2.1.length).2.2.2.2.2.2.1=_;rw[er];exact hq.pol
theorem TC (K:Int->Host->az Host)(h s0 B:Host)(N:Nat)(hN:N<=2)(h1:s0.2.2.2.1.length=N)(h2:s0.2.2.2.2.1.length=N)(h3:s0.2.2.2.2.2.1=h.2.2.2.2.2.1)(h5:h.2.2.2.2.2.1.length=N)(h4:s0.2.2.2.2.2.2.1.length=N)(z:cB 900000000 dz s0): bh (lQ K h B) fuel (0,s0)=K (N:Int) (im s0 N):=by
 refine cK (λi=>((i:Int),im s0 i)) N (by omega) (λi nx hi=>?_) (λnx=>?_);have kr:=Ac s0 i;have zr:=Gp (by omega) z i;have z1:(im s0 i).1.length<=10^9:=bp zr.1.1 (by omega);have z2:(im s0 i).2.1.length<=10^9:=bp zr.2.1.1 (by omega);have i1:i<(im s0 i).2.2.2.1.length:=by rw[kr.rx,h1];exact hi
 have iN:(im s0 i).2.2.2.1.length=N:=by rw[kr.rx,h1]
 have i2:i<(im s0 i).2.2.2.2.1.length:=by rw[kr.pl,h2];exact hi
 have i3:i<(im s0 i).2.2.2.2.2.1.length:=by rw[kr.vec,h3,h5];exact hi
 have i4:i<(im s0 i).2.2.2.2.2.2.1.length:=by rw[kr.pol,h4];exact hi
 have i5:i<h.2.2.2.2.2.1.length:=by rw[h5];exact hi
 have iv:(im s0 i).2.2.2.2.2.1[i]=h.2.2.2.2.2.1[i]:=by have:=kr.TM i (bt _);rw[ak i3,h3,ak i5]at this;exact bM this
 rw[show im s0 (i+1)=yZ i (im s0 i) from rfl];generalize im s0 i=s at z1 z2 iN i1 i2 i3 i4 iv⊢;have g1:=ak i1;unfold yZ;rw[g1,ak i3];simp only[lQ];rw[iH,ah];simp only[bc i1,ab];have o1:=Mc s i (by omega) i1 i2 z2 z1;rw[aok g1]at o1;have o2:=λx:cU=>Mc (s.1,s.2.1,s.2.2.1,s.2.2.2.1.set i x,s.2.2.2.2) i (by omega) (by rw[ay];exact i1) i2 z2 z1;simp only[ahY s _ i1]at o2;rw[ax,aj (n:=(i:Int)+1),o1,o2,ab,ab];simp only[bc i5,ab,iv];have j3:∀d,i<(C8 s i d).2.2.2.2.2.1.length:=λd=>i3;have j4:∀d,i<(C8 s i d).2.2.2.2.2.2.1.length:=λd=>i4;simp only[bc (j3 _),bc (j4 _),ab];unfold Jk;cases s.2.2.2.1[i].2.2.2.2.1<;>rfl;have kN:=(Ac s0 N).rx;simp only[lQ];rw[cD,ae]
theorem JP (h:Host)(k:J2 h)(z:cB 100000000 dz h):td h=some (xV h):=by
 have GS:=fb;unfold td xV;rw[jU h (z.mono),ab,sY h k,ab];cases hb:eL h;rfl;have hl:=rN (Q6 hb);have hw:h.2.2.1.2.2.1.length<=100000000:=z.2.2.1.2.2.1.1;have hp:=Gg (n:=100000000) (by omega) z;simp only[al,ae,ah];refine cK (λi=>((i:Int),rP h i)) h.2.2.2.1.length (by omega) (λi nx hi=>?_) (λnx=>?_);have h1:i<(rP h i).2.2.2.1.length:=by rw[(hp i).1.rx];exact hi
 have h2:i<(rP h i).2.2.2.2.1.length:=by rw[(hp i).1.pl];omega
 have zi:cB 500000000 dz (rP h i):=(hp i).2.mono;have hz2:(rP h i).2.1.length<=500000000:=zi.2.1.1;have hz1:(rP h i).1.length<=500000000:=zi.1.1;have em:=(hp i).1.maps;rw[show rP h (i+1)=(Dc (rP h i) i 1000).2 from rfl];generalize rP h i=s at h1 h2 zi hz1 hz2 em⊢;have Ha:s.2.2.2.2.1[i].2.2.2.length<=500000000:=(zi.2.2.2.2.1.2 _ (aB h2)).2.2.2.1;simp only[rY];rw[iH,ah,<-em];simp only[bc h1,bc h2,ab,abn s.2.1 s.1 0 _ _ _ 1000 (show s.2.1.length<=10^9 by omega) (show s.1.length<=10^9 by omega) Ha zi.2.2.2.2.2.2.2.2.2.1,ax,Dc,ak h1,ak h2];rw[aj];rfl;simp only[rY];rw[cD,ae];have hq:=hp h.2.2.2.1.length;have hr:=AZ (n:=100000000+322000*h.2.2.2.1.length) hq.2;refine cK (λi=>((i:Int),returned h i)) h.2.2.1.2.2.1.length (by omega) (λi nx hi=>?_) (λnx=>?_);have hri:=(hr i).2;simp only[pT];rw[iH,ah,bc hi,ab,aL (by rw[aW];omega),aj];rw[show returned h (i+1)=Xs h.2.2.1.2.2.1 i (returned h i) from rfl,Xs,ak hi];rfl;simp only[pT];rw[cD,ae];simp only[Nz,ab];have hE:=NO (n:=100000000) (by omega) z hl.1;have hk:=Wq hq.1 hq.2;have ex:ry h=((returned h h.2.2.1.2.2.1.length).1,(returned h h.2.2.1.2.2.1.length).2.1,(Ep.1,Ep.2.1,Ep.2.2.1,h.2.2.1.2.2.2),(returned h h.2.2.1.2.2.1.length).2.2.2):=by
  have et:(returned h h.2.2.1.2.2.1.length).2.2.1=h.2.2.1:=by rw[(hr h.2.2.1.2.2.1.length).1.e];exact hq.1.tx
  unfold ry XW;rw[et]
 rw[<-ex];exact TC _ h (ry h) _ h.2.2.2.1.length hl.1 hk.1 (hk.2.1.trans hl.2.1) hk.2.2.1 hl.2.2.1 (by rw[hk.2.2.2];exact hl.2.2.2) (hE.mono)
def Ev (x:Hc):Bool:=cY x.1 0 65535&&(cY x.2.1 0 65535&&(cY x.2.2.1 0 65535&&(cY x.2.2.2.1 0 65535&&cY x.2.2.2.2 0 4294967295)))
theorem Vq (x:Hc):mX x=some (Ev x):=by simp only[mX,cn,ab,bB,cF,Ev]
def Wr (x:Hc)(p:Int):Bytes:=bif Ev x&&cY p 0 1 then((((cC x.1++cC x.2.1)++cC x.2.2.1)++cC x.2.2.2.1)++gw x.2.2.2.2)++gw p else []
theorem ama (x:Hc)(p:Int):mf x p=some (Wr x p):=by have h1:=cr x.1;have h2:=cr x.2.1;have h3:=cr x.2.2.1;have h4:=cr x.2.2.2.1;have h5:=dT x.2.2.2.2;have h6:=dT p;unfold mf Wr;simp only[Vq,cn,ab,iS,kI];cases Ev x;rfl;cases cY p 0 1;rfl;simp only[al,ae,ab,bW,ah];rw[aL,aL (by simp only[ai];omega),aL (by simp only[ai];omega),aL (by simp only[ai];omega),aL (by simp only[ai];omega)]
def Fv (l:aw aN)(m:bV)(d:Int)(q:uK)(x:Hc):bV×uK×Bool:=
 bif !gn q|| !Ev x then(m,q,false) else
 bif !(kH l m d (sX q) (Wr x (C9 q)) true).2 then(m,q,false) else
 ((kH l m d (sX q) (Wr x (C9 q)) true).1,(q.1,q.2.1,tmod (q.2.2+1) (2*q.2.1)),true)
theorem ami (l:aw aN)(m:bV)(d:Int)(q:uK)(x:Hc)(hl:l.length<=10^9)(hm:m.length<=10^9):pW l m d q x=some (Fv l m d q x):=by
 unfold pW Fv;simp only[Ny,Vq,ab,iR m (show m.length<=1073741824 by omega),ama];cases hq:gn q;rfl;have h:=xT hq;have hs:=afY hq;cases Ev x;rfl;have e:ar (q.1+ar (16*tmod q.2.2 q.2.1))=sX q:=by rw[aj (n:=16*tmod q.2.2 q.2.1),aj];unfold sX;omega
 simp only[al,ae,ab,cc,Vt q hq,e,B6 l m d _ _ hl hm (show sX q<=9223372036854775807 by unfold sX;omega)];rw[nI];cases hp:(kH l m d (sX q) (Wr x (C9 q)) true).2 with|false=>rfl|true=>simp only[al,ae];rw[aj (n:=2*q.2.1),nI,aj (n:=q.2.2+1)]
theorem aid (hn:128<=n)(z:cB n (.sl .str) m)(l:aw aN)(d:Int)(q:uK)(x:Hc):cB n (.sl .str) (Fv l m d q x).1/\(Fv l m d q x).1.length=m.length:=by
 unfold Fv;cases !gn q|| !Ev x;case true=>exact⟨z,rfl⟩
 cases (kH l m d (sX q) (Wr x (C9 q)) true).2 with|false=>exact⟨z,rfl⟩|true=>exact⟨HS hn z ..,vq ..⟩
theorem afN {q:uK}{x:Hc}(h:gn q=true):gn (Fv l m d q x).2.1=true/\(Fv l m d q x).2.1.1=q.1/\(Fv l m d q x).2.1.2.1=q.2.1:=by
 have hq:=xT h;unfold Fv;cases !gn q|| !Ev x;case true=>exact⟨h,rfl,rfl⟩
 cases (kH l m d (sX q) (Wr x (C9 q)) true).2 with|false=>exact⟨h,rfl,rfl⟩|true=>refine⟨?_,rfl,rfl⟩;have e:=XV (a:=q.2.2+1) (b:=2*q.2.1);simp only[ae,al,gn,af,aX]at h⊢;refine⟨h.1,h.2.1,?_⟩;rw[CG h.2.1];omega
def kt (l:aw aN)(m:bV)(d:Int)(q:cU)(k:Bytes)(s:Bytes):bV×uK×Bool:=
 bif !(dJ s).2||(((dJ s).1.1 !=3)||decide ((dJ s).1.2.2.1<((dS q.2.2.2.1.1).1.length:Int))) then(m,q.2.1,false) else
 bif !(kH l m d (dJ s).1.2.2.2.1 (dS q.2.2.2.1.1).1 true).2 then(m,q.2.1,false) else
 Fv l (kH l m d (dJ s).1.2.2.2.1 (dS q.2.2.2.1.1).1 true).1 d q.2.1 ((dJ s).1.2.2.2.2.2,((dS q.2.2.2.1.1).1.length:Int),q.2.2.2.1.2.1,q.2.2.2.1.2.2,xn k (sI (jx q.2.2.2.1.1)))
theorem aiL (l:aw aN)(m:bV)(d:Int)(q:cU)(k s:Bytes)(hl:l.length<=10^9)(hm:m.length<=10^9)(hs:s.length<=10^9):Az l m d q s k=some (kt l m d q k s):=by
 unfold Az kt;have px:=acK (s:=s);simp only[abf s hs,FC,ab,iR m (show m.length<=1073741824 by omega)];generalize dJ s=x at px⊢;cases hx:x.2;rfl;have hd:=px hx;simp only[AI,af,aX]at hd;cases x.1.1 !=3;case true=>rfl
 cases decide (x.1.2.2.1<((dS q.2.2.2.1.1).1.length:Int));case true=>rfl
 simp only[al,ae,ab,cc,B6 l m d _ _ hl hm (show x.1.2.2.2.1<=9223372036854775807 by omega)];cases (kH l m d x.1.2.2.2.1 (dS q.2.2.2.1.1).1 true).2;rfl;simp only[al,ae,L9,ab,Ma,ami l _ d _ _ hl (show(kH l m d x.1.2.2.2.1 (dS q.2.2.2.1.1).1 true).1.length<=10^9 by rw[vq];exact hm)]
theorem VE (hn:128<=n){k:Bytes}(z:cB n (.sl .str) m)(hq:gn q.2.1=true): cB n (.sl .str) (kt l m d q k s).1/\(kt l m d q k s).1.length=m.length/\gn (kt l m d q k s).2.1=true/\(kt l m d q k s).2.1.1=q.2.1.1/\(kt l m d q k s).2.1.2.1=q.2.1.2.1:=by
 unfold kt;cases !(dJ s).2||(((dJ s).1.1 !=3)||decide ((dJ s).1.2.2.1<((dS q.2.2.2.1.1).1.length:Int)));case true=>exact⟨z,rfl,hq,rfl,rfl⟩
 cases (kH l m d (dJ s).1.2.2.2.1 (dS q.2.2.2.1.1).1 true).2;exact⟨z,rfl,hq,rfl,rfl⟩;have h1:=HS hn z l d (dJ s).1.2.2.2.1 (dS q.2.2.2.1.1).1 true;have h2:=vq l m d (dJ s).1.2.2.2.1 (dS q.2.2.2.1.1).1 true;generalize (kH l m d (dJ s).1.2.2.2.1 (dS q.2.2.2.1.1).1 true).1=w at h1 h2;have h3:=aid hn h1 l d q.2.1 ((dJ s).1.2.2.2.2.2,((dS q.2.2.2.1.1).1.length:Int),q.2.2.2.1.2.1,q.2.2.2.1.2.2,xn k (sI (jx q.2.2.2.1.1)));have h4:=afN (l:=l) (m:=w) (d:=d) (x:=((dJ s).1.2.2.2.2.2,((dS q.2.2.2.1.1).1.length:Int),q.2.2.2.1.2.1,q.2.2.2.1.2.2,xn k (sI (jx q.2.2.2.1.1)))) hq;exact⟨h3.1,h3.2.trans h2,h4⟩
def ki (l:aw aN)(m:bV)(d:Int)(q:cU)(k:Bytes):bV×cU:=
 bif !KS q||(!q.2.2.2.2.1||((k.length:Int) !=16)) then(m,q) else
 bif (bL l m d q.1).2.2&&(kt l m d q k (bL l m d q.1).1).2.2 then
  ((kt l m d q k (bL l m d q.1).1).1,(bL l m d q.1).2.1,(kt l m d q k (bL l m d q.1).1).2.1,q.2.2.1,aiZ,false,q.2.2.2.2.2)
 else(m,(bL l m d q.1).2.1,q.2.1,q.2.2.1,aiZ,false,ar (q.2.2.2.2.2+q.2.2.2.1.2.2))
theorem HY (h:KS q=true):gn q.2.1=true/\(q.2.2.2.2.1=true->dw q.2.2.2.1.1=true):=by unfold KS at h;simp only[af]at h;refine⟨h.1.2.1,λhh=>?_⟩;have h2:=h.2;rw[hh]at h2;simp only[ah,af]at h2;exact h2.1
theorem Nw (l:aw aN)(m:bV)(d:Int)(q:cU)(k:Bytes)(hl:l.length<=10^9)(hm:m.length<=10^9):oS l m d q k=some (ki l m d q k):=by
 have ht:=JV l m d q.1;unfold oS ki;simp only[XJ,ab,iR m (show m.length<=1073741824 by omega),Mh l m d q.1 hl hm,aiL l m d q k _ hl hm (show(bL l m d q.1).1.length<=10^9 by omega)];cases KS q;rfl;cases q.2.2.2.2.1;rfl;cases (k.length:Int) !=16;case true=>rfl
 simp only[al,ae,ab,cc];cases (bL l m d q.1).2.2;rfl;cases (kt l m d q k (bL l m d q.1).1).2.2<;>rfl
theorem IC (hn:128<=n){k:Bytes}(z:cB n (.sl .str) m)(zq:cB n fB q): cB n (.sl .str) (ki l m d q k).1/\(ki l m d q k).1.length=m.length/\cB n fB (ki l m d q k).2/\(KS q=true->gn (ki l m d q k).2.2.1=true/\(ki l m d q k).2.2.1.2.1=q.2.1.2.1):=by
 unfold ki;cases hc: !KS q||(!q.2.2.2.2.1||((k.length:Int) !=16));case true=>exact⟨z,rfl,zq,λh=>⟨(HY h).1,rfl⟩⟩
 simp only[cI,dX]at hc;have hq:=(HY hc.1).1;have hs:=VE hn (l:=l) (d:=d) (k:=k) (s:=(bL l m d q.1).1) z hq;have e0:cB n fB ((bL l m d q.1).2.1,(kt l m d q k (bL l m d q.1).1).2.1,q.2.2.1,aiZ,false,q.2.2.2.2.2):=⟨⟨cq,cq,cq,cq⟩,⟨cq,cq,cq⟩,⟨cq,cq,cq⟩,⟨⟨cq,cq,cq,cq,cq,cq,cq,cq,cq,cq,cq,cq,cq,cq,cq,bC _⟩,cq,cq⟩,cq,cq⟩
 cases (bL l m d q.1).2.2&&(kt l m d q k (bL l m d q.1).1).2.2 with|true=>exact⟨hs.1,hs.2.1,e0,λ_=>⟨hs.2.2.1,hs.2.2.2.2⟩⟩|false=>exact⟨z,rfl,⟨⟨cq,cq,cq,cq⟩,⟨cq,cq,cq⟩,⟨cq,cq,cq⟩,⟨⟨cq,cq,cq,cq,cq,cq,cq,cq,cq,cq,cq,cq,cq,cq,cq,bC _⟩,cq,cq⟩,cq,cq⟩,λ_=>⟨hq,rfl⟩⟩
def evS (k:Nat)(h:Host):Host:=
 match h.2.2.2.2.2.1[k]? with
 |some v=>(h.1,h.2.1,h.2.2.1,h.2.2.2.1,h.2.2.2.2.1,h.2.2.2.2.2.1.set k (evV v),h.2.2.2.2.2.2)
 |none=>h
def evH (k:Nat):Nat->Host->Host
 |0,h=>h
 |i+1,h=>evS k (evH k i h)
theorem aky (k:Nat)(h:Host):lI (k+1) h (evS k h):=by unfold evS;cases h.2.2.2.2.2.1[k]? with|none=>exact lI.refl _ _|some v=>exact⟨rfl,rfl,rfl,rfl,λ_ _=>rfl,rfl,ay ..,λj hj=>aR (by omega),rfl,rfl,rfl⟩
theorem QB (k:Nat)(h:Host):∀i,lI (k+1) h (evH k i h)
 |0=>lI.refl _ _
 |i+1=>(QB k h i).trans (aky k _)
theorem anw (k:Nat)(z:cB n dz h):cB n dz (evS k h):=by unfold evS;cases h.2.2.2.2.2.1[k]? with|none=>exact z|some v=>exact⟨z.1,z.2.1,z.2.2.1,z.2.2.2.1,z.2.2.2.2.1,PM z.2.2.2.2.2.1,z.2.2.2.2.2.2⟩
theorem afj (k:Nat)(z:cB n dz h):∀i,cB n dz (evH k i h)
 |0=>z
 |i+1=>anw k (afj k z i)
theorem aep (h:Host)(k:Nat)(b:Int)(h1:k<h.2.2.2.1.length)(h2:k<h.2.2.2.2.2.1.length)(hq:gn h.2.2.2.1[k].2.1=true)(hb:0<=b/\b<=31):lV h (k:Int) b=some ((),evH k ((h.2.2.2.1[k].2.1.2.2-b)%(2*h.2.2.2.1[k].2.1.2.1)).toNat h):=by
 have GS:=fb;have q:=xT hq;unfold lV;rw[bc h1,ab,ab];generalize h.2.2.2.1[k]=x at q⊢;have em:ar (toNat (fQ (x.2.1.2.2-b)&&&fQ (2*x.2.1.2.1-1)))=(x.2.1.2.2-b)%(2*x.2.1.2.1):=by
  have key:∀j:Nat,j<63->2*x.2.1.2.1=2^j->ar (toNat (fQ (x.2.1.2.2-b)&&&fQ (2*x.2.1.2.1-1)))=(x.2.1.2.2-b)%(2*x.2.1.2.1):=by intro j hj e;have:=E1 (x.2.1.2.2-b) j hj;rw[<-e]at this;rw[this];have g1:=fH (x.2.1.2.2-b) (show 2*x.2.1.2.1≠0 by omega);have g2:=fK (x.2.1.2.2-b) (show 0<2*x.2.1.2.1 by omega);exact aj
  rcases q.2.2.1 with e|e|e|e;exact key 2 (by omega) (by rw[e];rfl);exact key 3 (by omega) (by rw[e];rfl);exact key 4 (by omega) (by rw[e];rfl);exact key 5 (by omega) (by rw[e];rfl)
 rw[aj (n:=x.2.1.2.2-b),aj (n:=2*x.2.1.2.1),aj (n:=2*x.2.1.2.1-1),em];have hm:0<=(x.2.1.2.2-b)%(2*x.2.1.2.1)/\(x.2.1.2.2-b)%(2*x.2.1.2.1)<32:=by have g1:=fH (x.2.1.2.2-b) (show 2*x.2.1.2.1≠0 by omega);have g2:=fK (x.2.1.2.2-b) (show 0<2*x.2.1.2.1 by omega);omega
 generalize (x.2.1.2.2-b)%(2*x.2.1.2.1)=c at hm⊢;obtain⟨c,rfl⟩:=aO hm.1;rw[ax];refine cK (λi=>((i:Int),evH k i h)) c (by omega) (λi nx hi=>?_) (λnx=>?_);have kk:=QB k h i;have i1:k<(evH k i h).2.2.2.2.2.1.length:=by rw[kk.vec];exact h2
 rw[show evH k (i+1) h=evS k (evH k i h) from rfl];generalize evH k i h=s at i1⊢;simp only[si,evS];rw[iH,ah,ak i1];simp only[bc i1,ab,aiv,ax];rw[aj];rfl;simp only[si];rw[cD,ae]
def LW (h:Host)(k:Nat)(f:bV×cU):Host:=(f.1,h.2.1,h.2.2.1,h.2.2.2.1.set k f.2,h.2.2.2.2)
def KJ (h:Host)(k:Nat)(b:Int)(f:bV×cU):Host:=evH k ((f.2.2.1.2.2-b)%(2*f.2.2.1.2.1)).toNat (LW h k f)
def re (k:Nat)(h:Host):Host:=
 match h.2.2.2.1[k]? with
 |some x=>KJ h k x.2.1.2.2 (ki h.2.1 h.1 0 x h.2.2.2.2.2.2.2.2.1.2.2.1)
 |none=>h
theorem OX (hf:f.1.length=h.1.length):lI (k+1) h (KJ h k b f):=by
 have a:lI (k+1) h (LW h k f):=⟨hf,rfl,rfl,ay ..,λj hj=>aR (by omega),rfl,rfl,λ_ _=>rfl,rfl,rfl,rfl⟩
 exact a.trans (QB k (LW h k f) _)
theorem SK (z:cB n dz h)(h1:cB n (.sl .str) f.1)(h2:cB n fB f.2):cB n dz (KJ h k b f):=by
 have a:cB n dz (LW h k f):=⟨h1,z.2.1,z.2.2.1,mP z.2.2.2.1 h2,z.2.2.2.2⟩
 exact afj k a _
theorem YQ {k:Bytes}:(ki l m d q k).1.length=m.length:=by
 have hs:(kt l m d q k (bL l m d q.1).1).1.length=m.length:=by
  unfold kt;cases !(dJ (bL l m d q.1).1).2||(((dJ (bL l m d q.1).1).1.1 !=3)||decide ((dJ (bL l m d q.1).1).1.2.2.1<((dS q.2.2.2.1.1).1.length:Int)));case true=>rfl
  cases (kH l m d (dJ (bL l m d q.1).1).1.2.2.2.1 (dS q.2.2.2.1.1).1 true).2;rfl;have h2:=vq l m d (dJ (bL l m d q.1).1).1.2.2.2.1 (dS q.2.2.2.1.1).1 true;simp only[ae,al];unfold Fv;cases !gn q.2.1|| !Ev ((dJ (bL l m d q.1).1).1.2.2.2.2.2,((dS q.2.2.2.1.1).1.length:Int),q.2.2.2.1.2.1,q.2.2.2.1.2.2,xn k (sI (jx q.2.2.2.1.1)));case true=>exact h2
  cases (kH l (kH l m d (dJ (bL l m d q.1).1).1.2.2.2.1 (dS q.2.2.2.1.1).1 true).1 d (sX q.2.1) (Wr ((dJ (bL l m d q.1).1).1.2.2.2.2.2,((dS q.2.2.2.1.1).1.length:Int),q.2.2.2.1.2.1,q.2.2.2.1.2.2,xn k (sI (jx q.2.2.2.1.1))) (C9 q.2.1)) true).2 with|false=>exact h2|true=>exact(vq ..).trans h2
 unfold ki;cases !KS q||(!q.2.2.2.2.1||((k.length:Int) !=16));case true=>rfl
 cases (bL l m d q.1).2.2&&(kt l m d q k (bL l m d q.1).1).2.2 with|true=>exact hs|false=>rfl
theorem D4 (k:Nat)(h:Host):lI (k+1) h (re k h):=by unfold re;cases h.2.2.2.1[k]? with|none=>exact lI.refl _ _|some x=>exact OX YQ
theorem QO (k:Nat)(h:Host)(n:Nat)(hn:1000<=n)(z:cB n dz h):cB (n+0) dz (re k h):=by unfold re;cases hx:h.2.2.2.1[k]? with|none=>exact z|some x=>have hf:=IC (show 128<=n by omega) (l:=h.2.1) (d:=0) (k:=h.2.2.2.2.2.2.2.2.1.2.2.1) z.1 (z.2.2.2.1.2 _ (aU hx));exact SK z hf.1 hf.2.2.1
def CQ (h:Host):Host:=bif eL h then mu re h.2.2.2.1.length h else h
theorem agV (hn:1000<=n)(k:Dz n h):Dz n (CQ h):=by unfold CQ;cases eL h with|false=>exact k|true=>refine⟨(GA hn QO k.z _).mono,?_⟩;simp only[ah];rw[(uC D4 h _).tx];exact k.t
theorem Kq (hb:eL h=true):∀i (hi:i<h.2.2.2.1.length),KS h.2.2.2.1[i]=true:=by simp only[eL,Vf,af]at hb;exact λi hi=>aF.1 hb.2.2.2.2.2.2.1.1 _ (aB hi)
theorem OY (h1:k<h.2.2.2.1.length)(h2:k<h.2.2.2.2.2.1.length)(hq:gn f.2.2.1=true)(hb:0<=b/\b<=31:=by omega): lV (f.1,h.2.1,h.2.2.1,h.2.2.2.1.set k f.2,h.2.2.2.2) (k:Int) b=some ((),KJ h k b f):=by
 have h3:k<(LW h k f).2.2.2.1.length:=by show k<(h.2.2.2.1.set k f.2).length;rw[ay];exact h1
 have e:(LW h k f).2.2.2.1[k]=f.2:=List.getElem_set_self _;have c:=aep (LW h k f) k b h3 h2 (by rw[e];exact hq) hb;rw[e]at c;exact c
theorem aeu (h:Host)(k:Dz 900000000 h):ye h=some (CQ h):=by
 have GS:=fb;unfold ye CQ;rw[jU h (k.z.mono),ab];have hv:h.2.2.2.1.length<=900000000:=k.z.2.2.2.1.1;cases hb:eL h with
 |false=>
  obtain⟨g,hg⟩:∃g,fuel=g+1:=⟨fuel-1,by omega⟩
  rw[hg,bh,na,sY h (k.sz),hb];cases decide ((0:Int)<(h.2.2.2.1.length:Int))<;>rfl
 |true=>
  have hl:=rN (by simp only[eL,af]at hb;exact hb.2.2.2.2.1:qu h=true);have hr:=Kq hb;simp only[ah];refine cK (λi=>((i:Int),mu re i h)) h.2.2.2.1.length (by omega) (λi nx hi=>?_) (λnx=>?_);have kk:=uC D4 h i;have zz:cB 900000000 dz (mu re i h):=(GA (by omega) QO k.z i).mono;have i1:i<(mu re i h).2.2.2.1.length:=by rw[kk.rx];exact hi
  have i2:i<(mu re i h).2.2.2.2.2.1.length:=by rw[kk.vec];omega
  have e1:(mu re i h).2.2.2.1[i]=h.2.2.2.1[i]:=by have:=kk.rxs i (bt _);rw[ak i1,ak hi]at this;exact bM this
  have em:=kk.maps;have es:=kk.SW;rw[show mu re (i+1) h=re i (mu re i h) from rfl];generalize mu re i h=s at zz i1 i2 e1 em es⊢;have z1:s.1.length<=900000000:=zz.1.1;have z2:s.2.1.length<=900000000:=zz.2.1.1;have hrx:=hr i hi;rw[<-e1]at hrx;have hqd:=xT (HY hrx).1;have hf:=IC (show 128<=900000000 by omega) (l:=s.2.1) (d:=0) (k:=s.2.2.2.2.2.2.2.2.1.2.2.1) zz.1 (zz.2.2.2.1.2 _ (aB i1));have ev:=OY (h:=s) (k:=i) (b:=s.2.2.2.1[i].2.1.2.2) (f:=ki s.2.1 s.1 0 s.2.2.2.1[i] s.2.2.2.2.2.2.2.2.1.2.2.1) i1 i2 (hf.2.2.2 hrx).1;simp only[na,re,sY h (k.sz),hb];rw[iH,ah,ak i1];simp only[bc i1,bc hi,ab,ah,<-em,<-es,<-e1,Nw s.2.1 s.1 0 _ _ (show s.2.1.length<=10^9 by omega) (show s.1.length<=10^9 by omega),ax,ev];rw[aj];rfl;simp only[na];rw[cD,ae,ab,ae]
def aaD (a b:aD):Bool:=(a.1==b.1)&&((a.2.1==b.2.1)&&((a.2.2.1==b.2.2.1)&&((a.2.2.2.1==b.2.2.2.1)&&((a.2.2.2.2.2.1==b.2.2.2.2.2.1)&&((a.2.2.2.2.2.2.1==b.2.2.2.2.2.2.1)&&((a.2.2.2.2.2.2.2.1==b.2.2.2.2.2.2.2.1)&&((a.2.2.2.2.2.2.2.2.1==b.2.2.2.2.2.2.2.2.1)&&((a.2.2.2.2.2.2.2.2.2.1==b.2.2.2.2.2.2.2.2.2.1)&&((a.2.2.2.2.2.2.2.2.2.2.1==b.2.2.2.2.2.2.2.2.2.2.1)&&((a.2.2.2.2.2.2.2.2.2.2.2.2.1==b.2.2.2.2.2.2.2.2.2.2.2.2.1)&&((a.2.2.2.2.2.2.2.2.2.2.2.2.2.2.1==b.2.2.2.2.2.2.2.2.2.2.2.2.2.2.1))))))))))))
theorem amh (a b:aD):As a b=some (aaD a b):=by unfold As aaD;simp only[gG,aZ,fC]
def ayY (s:uF)(p:aD):Bool:=(p.2.2.2.2.2.2.2.2.2.2.2.1==tmod (ar (s.1.2.2.2.2.2.2.2.2.2.2.2.1+(s.1.2.2.2.2.2.2.2.2.2.2.2.2.2.2.2.length:Int))) 4294967296)&&(p.2.2.2.2.1==tmod (ar (s.1.2.2.2.2.1+s.2.2)) 65536)
def Vn (s:uF)(p:aD):Bool:=decide (1<=s.2.1)&&(cY s.2.2 1 320&&(decide ((s.1.2.2.2.2.2.2.2.2.2.2.2.2.2.2.2.length:Int)=s.2.1*s.2.2)&&(cY (p.2.2.2.2.2.2.2.2.2.2.2.2.2.2.2.length:Int) 1 s.2.1&&decide ((s.1.2.2.2.2.2.2.2.2.2.2.2.2.2.2.2.length:Int)+(p.2.2.2.2.2.2.2.2.2.2.2.2.2.2.2.length:Int)<=320))))
def akN (s:uF)(p:aD):Bool:=dw s.1&&(eQ p&&(aaD s.1 p&&((p.2.2.2.2.2.2.2.2.1==6)&&((s.1.2.2.2.2.2.2.2.2.2.2.2.2.2.1==16)&&FR p.2.2.2.2.2.2.2.2.2.2.2.2.2.1))))
def O3 (s:uF)(p:aD):Bool:=akN s p&&(Vn s p&&ayY s p)
theorem LN (h:eQ p=true)(h6:(p.2.2.2.2.2.2.2.2.1==6)=true):cY p.2.2.2.2.2.2.2.2.2.2.2.2.2.1 0 31=true:=by simp only[eQ,dw,af]at h;exact IW (CU h.1.1) h6
theorem Ky (h:eQ p=true):p.2.2.2.2.2.2.2.2.2.2.2.2.2.2.2.length<=128:=by simp only[eQ,af,aG]at h;omega
theorem af1 (s:uF)(p:aD):xX s p=some (O3 s p):=by
 unfold xX O3 akN;rw[oN,ab,zj,ab,amh,ab];cases hs:dw s.1;rfl;cases hp:eQ p;rfl;cases aaD s.1 p;rfl;cases h6:p.2.2.2.2.2.2.2.2.1==6 with|false=>simp only[bne,h6];rfl|true=>?_
 cases h16:s.1.2.2.2.2.2.2.2.2.2.2.2.2.2.1==16 with|false=>simp only[bne,h6,h16];rfl|true=>?_
 have hf:=LN hp h6;have hsl:=Du hs;have Ha:=Ky hp;simp only[bne,h6,h16,al,ae,ab,Ki _ hf,aZ];cases FR p.2.2.2.2.2.2.2.2.2.2.2.2.2.1;rfl;simp only[al,ae,cn,ab,aZ,bB];have uU:(bif !cY s.2.1 1 320 then some true else bif !cY s.2.2 1 320 then some true else bif !((s.1.2.2.2.2.2.2.2.2.2.2.2.2.2.2.2.length:Int)==ar (s.2.1*s.2.2)) then some true else bif !cY (p.2.2.2.2.2.2.2.2.2.2.2.2.2.2.2.length:Int) 1 s.2.1 then some true else some (decide (ar ((s.1.2.2.2.2.2.2.2.2.2.2.2.2.2.2.2.length:Int)+(p.2.2.2.2.2.2.2.2.2.2.2.2.2.2.2.length:Int))>320)))=some (!Vn s p):=by
  unfold Vn;generalize s.1.2.2.2.2.2.2.2.2.2.2.2.2.2.2.2.length=n at hsl⊢;generalize p.2.2.2.2.2.2.2.2.2.2.2.2.2.2.2.length=m at Ha⊢;rw[aj (n:=(n:Int)+(m:Int))];cases h2:cY s.2.2 1 320 with
  |false=>cases cY s.2.1 1 320<;>cases decide (1<=s.2.1)<;>rfl
  |true=>
   have WC:=aX.1 h2;by_cases h1:1<=s.2.1;rw[au h1];by_cases h3:s.2.1<=320;have hb:s.2.1*s.2.2<=320*320:=Int.mul_le_mul h3 WC.2 (by omega) (by omega);have Uw:0<=s.2.1*s.2.2:=Int.mul_nonneg (by omega) (by omega);rw[aX.2 ⟨h1,h3⟩,aj (n:=s.2.1*s.2.2)];by_cases h4:(n:Int)=s.2.1*s.2.2;rw[show((n:Int)==s.2.1*s.2.2)=true from by rw[ba];exact h4,au h4];cases cY (m:Int) 1 s.2.1 with|false=>rfl|true=>by_cases h5:(n:Int)+(m:Int)<=320;rw[au h5,aq (show¬(n:Int)+(m:Int)>320 by omega)];rfl;rw[aq h5,au (show(n:Int)+(m:Int)>320 by omega)];rfl
   rw[show((n:Int)==s.2.1*s.2.2)=false from by rw[cg];exact h4,aq h4];rfl;have hb:321*1<=s.2.1*s.2.2:=Int.mul_le_mul (by omega) (by omega) (by omega) (by omega);rw[show cY s.2.1 1 320=false from by rw[Bool.eq_false_iff];intro hc;have:=aX.1 hc;omega,aq (show¬(n:Int)=s.2.1*s.2.2 by omega)];rfl;rw[aq h1,show cY s.2.1 1 320=false from by rw[Bool.eq_false_iff];intro hc;have:=aX.1 hc;omega];rfl
 simp only[bne,bB]at uU⊢;rw[bM uU];cases Vn s p;rfl;rw[nI,nI];simp only[al,ae,bB,ab,cF,aZ];rfl
def Jy (s:uF)(p:aD):uF:=bif O3 s p then((s.1.1,s.1.2.1,s.1.2.2.1,s.1.2.2.2.1,s.1.2.2.2.2.1,s.1.2.2.2.2.2.1,s.1.2.2.2.2.2.2.1,s.1.2.2.2.2.2.2.2.1,s.1.2.2.2.2.2.2.2.2.1,s.1.2.2.2.2.2.2.2.2.2.1,s.1.2.2.2.2.2.2.2.2.2.2.1,s.1.2.2.2.2.2.2.2.2.2.2.2.1,s.1.2.2.2.2.2.2.2.2.2.2.2.2.1,p.2.2.2.2.2.2.2.2.2.2.2.2.2.1,s.1.2.2.2.2.2.2.2.2.2.2.2.2.2.2.1,s.1.2.2.2.2.2.2.2.2.2.2.2.2.2.2.2++p.2.2.2.2.2.2.2.2.2.2.2.2.2.2.2),s.2.1,ar (s.2.2+1)) else s
theorem VX {s:uF}(h:O3 s p=true):s.1.2.2.2.2.2.2.2.2.2.2.2.2.2.2.2.length+p.2.2.2.2.2.2.2.2.2.2.2.2.2.2.2.length<=320:=by simp only[O3,Vn,af,aG]at h;have:=h.2.1.2.2.2.2;omega
theorem ame (s:uF)(p:aD):I5 s p=some (Jy s p):=by unfold I5 Jy;rw[af1,ab];cases h:O3 s p;rfl;have:=VX h;simp only[al,ae,ah];rw[aL]
def nB (p:aD):uF:=(p,(p.2.2.2.2.2.2.2.2.2.2.2.2.2.2.2.length:Int),1)
theorem aeD (p:aD):H9 p=some (nB p):=rfl
def Q1 (q:cU)(s:uF):cU:=(q.1,q.2.1,q.2.2.1,s,true,q.2.2.2.2.2)
def pA (l:aw aN)(m:bV)(d:Int)(q:cU)(k:Bytes)(p:aD)(c:Bool):bV×cU:=
 bif !KS q||(!eQ p||((k.length:Int) !=16)) then(m,q) else
 bif c&&(q.2.2.2.2.1&&O3 q.2.2.2.1 p) then(m,q.1,q.2.1,q.2.2.1,Jy q.2.2.2.1 p,q.2.2.2.2) else
 bif c then((ki l m d q k).1,Q1 (ki l m d q k).2 (nB p)) else ki l (ki l m d q k).1 d (Q1 (ki l m d q k).2 (nB p)) k
theorem aeq (l:aw aN)(m:bV)(d:Int)(q:cU)(k:Bytes)(p:aD)(c:Bool)(hl:l.length<=10^9)(hm:m.length<=10^9):pY l m d q k p c=some (pA l m d q k p c):=by
 unfold pY pA Q1;simp only[XJ,zj,ab,iR m (show m.length<=1073741824 by omega),af1,ame,Nw l m d q k hl hm,aeD,Nw l (ki l m d q k).1 d _ k hl (show(ki l m d q k).1.length<=10^9 by rw[YQ];exact hm)];cases KS q;rfl;cases eQ p;rfl;cases (k.length:Int) !=16;case true=>rfl
 cases c;rfl;cases q.2.2.2.2.1;rfl;cases O3 q.2.2.2.1 p<;>rfl
theorem YR {k:Bytes}(h:gn q.2.1=true):gn (ki l m d q k).2.2.1=true:=by
 unfold ki;cases !KS q||(!q.2.2.2.2.1||((k.length:Int) !=16));case true=>exact h
 have hs:gn (kt l m d q k (bL l m d q.1).1).2.1=true:=by
  unfold kt;cases !(dJ (bL l m d q.1).1).2||(((dJ (bL l m d q.1).1).1.1 !=3)||decide ((dJ (bL l m d q.1).1).1.2.2.1<((dS q.2.2.2.1.1).1.length:Int)));case true=>exact h
  cases (kH l m d (dJ (bL l m d q.1).1).1.2.2.2.1 (dS q.2.2.2.1.1).1 true).2;exact h;exact(afN h).1
 cases (bL l m d q.1).2.2&&(kt l m d q k (bL l m d q.1).1).2.2 with|true=>exact hs|false=>exact h
theorem ag5 {s:uF}(h:s.1.2.2.2.2.2.2.2.2.2.2.2.2.2.2.2.length<=n):cB n fB (Q1 q s):=⟨⟨cq,cq,cq,cq⟩,⟨cq,cq,cq⟩,⟨cq,cq,cq⟩,⟨⟨cq,cq,cq,cq,cq,cq,cq,cq,cq,cq,cq,cq,cq,cq,cq,h⟩,cq,cq⟩,cq,cq⟩
theorem PY (hn:1000<=n){k:Bytes}{c:Bool}(z:cB n (.sl .str) m)(zq:cB n fB q)(hq:gn q.2.1=true): cB n (.sl .str) (pA l m d q k p c).1/\(pA l m d q k p c).1.length=m.length/\cB n fB (pA l m d q k p c).2/\gn (pA l m d q k p c).2.2.1=true:=by
 unfold pA;cases hc: !KS q||(!eQ p||((k.length:Int) !=16));case true=>exact⟨z,rfl,zq,hq⟩
 simp only[cI,dX]at hc;have hp:=Ky hc.2.1;cases hj:c&&(q.2.2.2.2.1&&O3 q.2.2.2.1 p)with|true=>simp only[af]at hj;have:=VX hj.2.2;refine⟨z,rfl,⟨⟨cq,cq,cq,cq⟩,⟨cq,cq,cq⟩,⟨cq,cq,cq⟩,⟨?_,cq,cq⟩,cq,cq⟩,hq⟩;refine⟨cq,cq,cq,cq,cq,cq,cq,cq,cq,cq,cq,cq,cq,cq,cq,?_⟩;unfold Jy;rw[hj.2.2];show List.length (q.2.2.2.1.1.2.2.2.2.2.2.2.2.2.2.2.2.2.2.2++p.2.2.2.2.2.2.2.2.2.2.2.2.2.2.2)<=n;rw[ai];omega|false=>have hf:=IC (show 128<=n by omega) (l:=l) (d:=d) (k:=k) z zq;have hfq:=YR (l:=l) (m:=m) (d:=d) (k:=k) hq;have hh:cB n fB (Q1 (ki l m d q k).2 (nB p)):=ag5 (by show p.2.2.2.2.2.2.2.2.2.2.2.2.2.2.2.length<=n;omega);cases c with|true=>exact⟨hf.1,hf.2.1,hh,hfq⟩|false=>have CV:=IC (show 128<=n by omega) (l:=l) (d:=d) (k:=k) hf.1 hh;exact⟨CV.1,CV.2.1.trans hf.2.1,CV.2.2.1,YR (q:=Q1 (ki l m d q k).2 (nB p)) hfq⟩
theorem aaY {r:kL}(h:Df r=true):0<=r.2.2.2.2.2.2.2.2:=by
 by_cases h0:0<=r.2.2.2.2.2.2.2.2;exact h0;exfalso;have e:∀b:Int,cY r.2.2.2.2.2.2.2.2 0 b=false:=λb=>by rw[Bool.eq_false_iff];intro hc;have:=aX.1 hc;omega
 have e1:(r.2.2.2.2.2.2.2.2==0)=false:=by rw[cg];omega
 revert h;unfold Df;have z:∀c:Bool,(bif c then false else false)=false:=by intro c;cases c<;>rfl
 simp only[lv,cn,ab,bB,e,e1,fY,z,ae];intro h;cases h
theorem aiS {s:dA}{q:Int}:rk s q p= -1\/∃n:Nat,rk s q p=(n:Int)/\(n:Int)<q:=by
 unfold rk;cases hb: !eC s q|| !dw p;case true=>exact .inl rfl
 simp only[cI,dX]at hb;have hs:=hb.1;simp only[eC,af]at hs;simp only[ae];cases hd:decide (E5 s.1 p>=0)with
 |true=>obtain⟨n,hn,hl⟩:=QI s.1 p (br hd);simp only[ah,hn,ax,bN hl];cases s.1[n].2.2.2.2.2.2.2.1==1 with|true=>exact .inl rfl|false=>have h1:=aF.1 hs.1.2 _ (aB hl);have h2:=hs.1.1.1.1;simp only[za,af]at h2;have h3:=aaY (aF.1 h2.1 _ (aB hl));simp only[aM,cH]at h1;exact .inr ⟨s.1[n].2.2.2.2.2.2.2.2.toNat,by simp only[ae];omega,by omega⟩
 |false=>
  simp only[ae];cases Ux:decide (findF s.2.1 (jx p)>=0)with
  |true=>obtain⟨n,hn,hl⟩:=QH s.2.1 (jx p) (br Ux);simp only[ah,hn,ax,bN hl];have h1:=aF.1 hs.2 _ (aB hl);have h2:=hs.1.1.1.2;simp only[rl,af,ba]at h2;have h3:=aF.1 h2.2 n (bE.2 (by omega));unfold oM Vo at h3;rw[ze hl]at h3;simp only[af,aX]at h3;simp only[aM,cH]at h1;exact .inr ⟨s.2.1[n].2.2.toNat,by omega,by omega⟩
  |false=>
   simp only[ae];unfold I6;cases hc: !sj s.2.2 q||decide (Bp s.2.2 (jx p)<0);case true=>exact .inl rfl
   simp only[cI,dX,cH]at hc;obtain⟨n,hn,hl⟩:=MN s.2.2 (jx p) hc.2;have h1:=hc.1;simp only[sj,af]at h1;have h2:=aX.1 (aF.1 h1.2 _ (aB hl));simp only[ae,hn,ax,bN hl];exact .inr ⟨s.2.2.2[n].toNat,by omega,by omega⟩
def FM (h:Host)(a b c d:Int):Host:=(h.1,h.2.1,h.2.2.1,h.2.2.2.1,h.2.2.2.2.1,h.2.2.2.2.2.1,h.2.2.2.2.2.2.1,h.2.2.2.2.2.2.2.1,h.2.2.2.2.2.2.2.2.1,h.2.2.2.2.2.2.2.2.2.1,h.2.2.2.2.2.2.2.2.2.2.1,h.2.2.2.2.2.2.2.2.2.2.2.1,h.2.2.2.2.2.2.2.2.2.2.2.2.1,h.2.2.2.2.2.2.2.2.2.2.2.2.2.1,ar (h.2.2.2.2.2.2.2.2.2.2.2.2.2.2.1+1),a,b,c,d)
def oK (h:Host)(x:Bytes):Host:=
 bif !eL h then h else
 bif (eM x).2 !=0 then FM h (ar (h.2.2.2.2.2.2.2.2.2.2.2.2.2.2.2.1+1)) h.2.2.2.2.2.2.2.2.2.2.2.2.2.2.2.2.1 h.2.2.2.2.2.2.2.2.2.2.2.2.2.2.2.2.2.1 h.2.2.2.2.2.2.2.2.2.2.2.2.2.2.2.2.2.2 else
 bif !su h.2.2.2.2.2.2.2.1 (eM x).1 then FM h h.2.2.2.2.2.2.2.2.2.2.2.2.2.2.2.1 (ar (h.2.2.2.2.2.2.2.2.2.2.2.2.2.2.2.2.1+1)) h.2.2.2.2.2.2.2.2.2.2.2.2.2.2.2.2.2.1 h.2.2.2.2.2.2.2.2.2.2.2.2.2.2.2.2.2.2 else
 bif rk h.2.2.2.2.2.2.2.2.1 (h.2.2.2.1.length:Int) (eM x).1== -1 then FM h h.2.2.2.2.2.2.2.2.2.2.2.2.2.2.2.1 h.2.2.2.2.2.2.2.2.2.2.2.2.2.2.2.2.1 (ar (h.2.2.2.2.2.2.2.2.2.2.2.2.2.2.2.2.2.1+1)) h.2.2.2.2.2.2.2.2.2.2.2.2.2.2.2.2.2.2 else
 match h.2.2.2.1[(rk h.2.2.2.2.2.2.2.2.1 (h.2.2.2.1.length:Int) (eM x).1).toNat]? with
 |some q=>KJ (FM h h.2.2.2.2.2.2.2.2.2.2.2.2.2.2.2.1 h.2.2.2.2.2.2.2.2.2.2.2.2.2.2.2.2.1 h.2.2.2.2.2.2.2.2.2.2.2.2.2.2.2.2.2.1 (ar (h.2.2.2.2.2.2.2.2.2.2.2.2.2.2.2.2.2.2+1))) (rk h.2.2.2.2.2.2.2.2.1 (h.2.2.2.1.length:Int) (eM x).1).toNat q.2.1.2.2 (pA h.2.1 h.1 0 q h.2.2.2.2.2.2.2.2.1.2.2.1 (eM x).1 h.2.2.2.2.2.2.2.2.2.2.1)
 |none=>h
theorem Mf (h:Host)(x:Bytes)(k:Dz 900000000 h)(hx:x.length<=10^9):oW h x=some (oK h x):=by
 have z:=k.z;have z1:h.1.length<=900000000:=z.1.1;have z2:h.2.1.length<=900000000:=z.2.1.1;have zf:h.2.2.2.2.2.2.2.1.2.2.length<=900000000:=z.2.2.2.2.2.2.2.1.2.2.1;have s1:h.2.2.2.2.2.2.2.2.1.1.length<=900000000:=z.2.2.2.2.2.2.2.2.1.1.1;have s2:h.2.2.2.2.2.2.2.2.1.2.1.length<=900000000:=z.2.2.2.2.2.2.2.2.1.2.1.1;have s3:h.2.2.2.2.2.2.2.2.1.2.2.2.length<=900000000:=z.2.2.2.2.2.2.2.2.1.2.2.2.1;unfold oW oK;rw[jU h (z.mono),ab,sY h (k.sz),ab];cases hb:eL h;rfl;have hl:=rN (by simp only[eL,af]at hb;exact hb.2.2.2.2.1:qu h=true);have hr:=Kq hb;simp only[al,ae,I1 x hx,ab,abb h.2.2.2.2.2.2.2.1 _ (show h.2.2.2.2.2.2.2.1.2.2.length<=10^9 by omega),aiK h.2.2.2.2.2.2.2.2.1 _ _ (show h.2.2.2.2.2.2.2.2.1.1.length<=10^9 by omega) (show h.2.2.2.2.2.2.2.2.1.2.1.length<=10^9 by omega) (show h.2.2.2.2.2.2.2.2.1.2.2.2.length<=10^9 by omega)];generalize eM x=f;cases f.2 !=0;case true=>rfl
 cases su h.2.2.2.2.2.2.2.1 f.1;rfl;simp only[al,ae];have nD:=aiS (s:=h.2.2.2.2.2.2.2.2.1) (q:=(h.2.2.2.1.length:Int)) (p:=f.1);generalize rk h.2.2.2.2.2.2.2.2.1 (h.2.2.2.1.length:Int) f.1=r at nD⊢;rcases nD with rfl|⟨n,rfl,hn⟩;rfl;have i1:n<h.2.2.2.1.length:=by omega
 have i2:n<h.2.2.2.2.2.1.length:=by omega
 have hq:=(HY (hr n i1)).1;have hqi:=xT hq;have ha:=PY (show 1000<=900000000 by omega) (l:=h.2.1) (d:=0) (k:=h.2.2.2.2.2.2.2.2.1.2.2.1) (p:=f.1) (c:=h.2.2.2.2.2.2.2.2.2.2.1) z.1 (z.2.2.2.1.2 _ (aB i1)) hq;have ev:=OY (h:=FM h h.2.2.2.2.2.2.2.2.2.2.2.2.2.2.2.1 h.2.2.2.2.2.2.2.2.2.2.2.2.2.2.2.2.1 h.2.2.2.2.2.2.2.2.2.2.2.2.2.2.2.2.2.1 (ar (h.2.2.2.2.2.2.2.2.2.2.2.2.2.2.2.2.2.2+1))) (k:=n) (b:=h.2.2.2.1[n].2.1.2.2) (f:=pA h.2.1 h.1 0 h.2.2.2.1[n] h.2.2.2.2.2.2.2.2.1.2.2.1 f.1 h.2.2.2.2.2.2.2.2.2.2.1) i1 i2 ha.2.2.2;rw[show((n:Int)== -1)=false from by rw[cg];omega,aq (show¬(n:Int)<0 by omega),ax,ak i1];simp only[ae,bc i1,ab,aeq h.2.1 h.1 0 _ _ _ _ (show h.2.1.length<=10^9 by omega) (show h.1.length<=10^9 by omega)];rw[show(lV ((pA h.2.1 h.1 0 h.2.2.2.1[n] h.2.2.2.2.2.2.2.2.1.2.2.1 f.1 h.2.2.2.2.2.2.2.2.2.2.1).1,h.2.1,h.2.2.1,h.2.2.2.1.set n (pA h.2.1 h.1 0 h.2.2.2.1[n] h.2.2.2.2.2.2.2.2.1.2.2.1 f.1 h.2.2.2.2.2.2.2.2.2.2.1).2,h.2.2.2.2.1,h.2.2.2.2.2.1,h.2.2.2.2.2.2.1,h.2.2.2.2.2.2.2.1,h.2.2.2.2.2.2.2.2.1,h.2.2.2.2.2.2.2.2.2.1,h.2.2.2.2.2.2.2.2.2.2.1,h.2.2.2.2.2.2.2.2.2.2.2.1,h.2.2.2.2.2.2.2.2.2.2.2.2.1,h.2.2.2.2.2.2.2.2.2.2.2.2.2.1,ar (h.2.2.2.2.2.2.2.2.2.2.2.2.2.2.1+1),h.2.2.2.2.2.2.2.2.2.2.2.2.2.2.2.1,h.2.2.2.2.2.2.2.2.2.2.2.2.2.2.2.2.1,h.2.2.2.2.2.2.2.2.2.2.2.2.2.2.2.2.2.1,ar (h.2.2.2.2.2.2.2.2.2.2.2.2.2.2.2.2.2.2+1)) (n:Int) h.2.2.2.1[n].2.1.2.2)=_ from ev,ab]
theorem HU (hn:1000<=n)(x:Bytes)(k:Dz n h):Dz n (oK h x)/\(oK h x).2.2.1=h.2.2.1/\(oK h x).2.2.2.2.1.length=h.2.2.2.2.1.length:=by
 have z:=k.z;have zc:∀a b c d,Dz n (FM h a b c d):=λa b c d=>⟨⟨z.1,z.2.1,z.2.2.1,z.2.2.2.1,z.2.2.2.2.1,z.2.2.2.2.2.1,z.2.2.2.2.2.2.1,z.2.2.2.2.2.2.2.1,z.2.2.2.2.2.2.2.2.1,z.2.2.2.2.2.2.2.2.2.1,z.2.2.2.2.2.2.2.2.2.2.1,z.2.2.2.2.2.2.2.2.2.2.2.1,z.2.2.2.2.2.2.2.2.2.2.2.2.1,z.2.2.2.2.2.2.2.2.2.2.2.2.2.1,cq,cq,cq,cq,cq⟩,k.t⟩
 unfold oK;cases hb:eL h;exact⟨k,rfl,rfl⟩;have hr:=Kq hb;generalize eM x=f;cases f.2 !=0;case true=>exact⟨zc ..,rfl,rfl⟩
 cases su h.2.2.2.2.2.2.2.1 f.1;exact⟨zc ..,rfl,rfl⟩;simp only[al,ae];generalize rk h.2.2.2.2.2.2.2.2.1 (h.2.2.2.1.length:Int) f.1=r;cases r== -1;case true=>exact⟨zc ..,rfl,rfl⟩
 simp only[ae];rcases hq:h.2.2.2.1[r.toNat]? with _|q;exact⟨k,rfl,rfl⟩;obtain⟨hi,hqe⟩:=aC.1 hq;have hqd:=(HY (hr _ hi)).1;rw[hqe]at hqd;have ha:=PY hn (l:=h.2.1) (d:=0) (k:=h.2.2.2.2.2.2.2.2.1.2.2.1) (p:=f.1) (c:=h.2.2.2.2.2.2.2.2.2.2.1) z.1 (z.2.2.2.1.2 _ (aU hq)) hqd;have zc':=zc h.2.2.2.2.2.2.2.2.2.2.2.2.2.2.2.1 h.2.2.2.2.2.2.2.2.2.2.2.2.2.2.2.2.1 h.2.2.2.2.2.2.2.2.2.2.2.2.2.2.2.2.2.1 (ar (h.2.2.2.2.2.2.2.2.2.2.2.2.2.2.2.2.2.2+1));have kk:=OX (h:=FM h h.2.2.2.2.2.2.2.2.2.2.2.2.2.2.2.1 h.2.2.2.2.2.2.2.2.2.2.2.2.2.2.2.2.1 h.2.2.2.2.2.2.2.2.2.2.2.2.2.2.2.2.2.1 (ar (h.2.2.2.2.2.2.2.2.2.2.2.2.2.2.2.2.2.2+1))) (k:=r.toNat) (b:=q.2.1.2.2) (f:=pA h.2.1 h.1 0 q h.2.2.2.2.2.2.2.2.1.2.2.1 f.1 h.2.2.2.2.2.2.2.2.2.2.1) ha.2.1;exact⟨⟨SK zc'.z ha.1 ha.2.2.1,by rw[kk.tx];exact k.t⟩,kk.tx,kk.pl⟩
theorem aom (l:aw aN)(m:bV)(d:Int)(rx:cU)(pl:ei)(st:aw Stream)(c:Int):(mS l m d rx pl st c).1.length=m.length:=by unfold mS;cases !KS rx||(!dN pl|| !cY c 0 1000)with|true=>rfl|false=>exact afm ..
def Gs (b:Int)(k:Nat)(s:Int×Host):Int×Host:=
 match s.2.2.2.2.2.2.1[k]?,s.2.2.2.2.2.2.2.1[k]?,s.2.2.2.2.1[k]?,s.2.2.2.2.2.1[k]? with
 |some v,some p,some x,some pl=>
  bif p||(G5 v).2 then
   (ar (s.1+(mS s.2.2.1 s.2.1 0 x pl s.2.2.2.2.2.2.2.2.2.2.1 b).2.2.2.2),
    (mS s.2.2.1 s.2.1 0 x pl s.2.2.2.2.2.2.2.2.2.2.1 b).1,s.2.2.1,s.2.2.2.1,s.2.2.2.2.1.set k (mS s.2.2.1 s.2.1 0 x pl s.2.2.2.2.2.2.2.2.2.2.1 b).2.1,s.2.2.2.2.2.1.set k (mS s.2.2.1 s.2.1 0 x pl s.2.2.2.2.2.2.2.2.2.2.1 b).2.2.1,
    s.2.2.2.2.2.2.1.set k (bif decide ((mS s.2.2.1 s.2.1 0 x pl s.2.2.2.2.2.2.2.2.2.2.1 b).2.2.2.2<b) then Mu (G5 v).1 else(G5 v).1),
    s.2.2.2.2.2.2.2.1.set k (!decide ((mS s.2.2.1 s.2.1 0 x pl s.2.2.2.2.2.2.2.2.2.2.1 b).2.2.2.2<b)),s.2.2.2.2.2.2.2.2.1,s.2.2.2.2.2.2.2.2.2.1,(mS s.2.2.1 s.2.1 0 x pl s.2.2.2.2.2.2.2.2.2.2.1 b).2.2.2.1,s.2.2.2.2.2.2.2.2.2.2.2)
  else(s.1,s.2.1,s.2.2.1,s.2.2.2.1,s.2.2.2.2.1,s.2.2.2.2.2.1,s.2.2.2.2.2.2.1.set k (G5 v).1,s.2.2.2.2.2.2.2.1.set k false,s.2.2.2.2.2.2.2.2)
 |_,_,_,_=>s
theorem aa4 (b:Int)(k:Nat)(s:Int×Host):lI (k+1) s.2 (Gs b k s).2:=by unfold Gs;rcases s.2.2.2.2.2.2.1[k]? with _|v;exact lI.refl _ _;rcases s.2.2.2.2.2.2.2.1[k]? with _|p;exact lI.refl _ _;rcases s.2.2.2.2.1[k]? with _|x;exact lI.refl _ _;rcases s.2.2.2.2.2.1[k]? with _|pl;exact lI.refl _ _;simp only;cases p||(G5 v).2 with|true=>exact⟨aom ..,rfl,rfl,ay ..,λj hj=>aR (by omega),ay ..,ay ..,λj hj=>aR (by omega),ay ..,rfl,rfl⟩|false=>exact⟨rfl,rfl,rfl,rfl,λ_ _=>rfl,rfl,ay ..,λj hj=>aR (by omega),ay ..,rfl,rfl⟩
theorem aem (b:Int)(k:Nat)(s:Int×Host)(hn:1000<=n)(z:cB n dz s.2):cB (n+322000) dz (Gs b k s).2:=by have z':cB (n+322000) dz s.2:=z.mono;unfold Gs;rcases s.2.2.2.2.2.2.1[k]? with _|v;exact z';rcases s.2.2.2.2.2.2.2.1[k]? with _|p;exact z';rcases h1:s.2.2.2.2.1[k]? with _|x;exact z';rcases h2:s.2.2.2.2.2.1[k]? with _|pl;exact z';simp only;cases p||(G5 v).2 with|true=>have hp:=U9 (by omega) (l:=s.2.2.1) (d:=0) b z.1 (z.2.2.2.1.2 _ (aU h1)) (z.2.2.2.2.1.2 _ (aU h2)) z.2.2.2.2.2.2.2.2.2.1;exact⟨hp.1.mono,z'.2.1,z'.2.2.1,mP z'.2.2.2.1 (hp.2.1.mono),mP z'.2.2.2.2.1 hp.2.2.1,PM z'.2.2.2.2.2.1,mP z'.2.2.2.2.2.2.1 trivial,z'.2.2.2.2.2.2.2.1,z'.2.2.2.2.2.2.2.2.1,hp.2.2.2.1,z'.2.2.2.2.2.2.2.2.2.2⟩|false=>exact⟨z'.1,z'.2.1,z'.2.2.1,z'.2.2.2.1,z'.2.2.2.2.1,PM z'.2.2.2.2.2.1,mP z'.2.2.2.2.2.2.1 trivial,z'.2.2.2.2.2.2.2⟩
def uS (b:Int):Nat->Host->Int×Host
 |0,h=>(0,h)
 |k+1,h=>Gs b k (uS b k h)
theorem CF (b:Int)(h:Host):∀k,lI k h (uS b k h).2
 |0=>lI.refl 0 h
 |k+1=>((CF b h k).up (by omega)).trans (aa4 b k _)
theorem Kz (b:Int)(hn:1000<=n)(z:cB n dz h):∀k,cB (n+322000*k) dz (uS b k h).2
 |0=>z
 |k+1=>(aem b k _ (by omega) (Kz b hn z k)).mono
def sW (h:Host)(b:Int):Host×Int:=bif eL h&&cY b 1 1000 then((uS b h.2.2.2.1.length h).2,(uS b h.2.2.2.1.length h).1) else(h,0)
theorem aa5 (hn:1000<=n)(b:Int)(k:Dz n h):Dz (n+644000) (sW h b).1:=by unfold sW;cases hb:eL h&&cY b 1 1000 with|false=>exact k.mono|true=>simp only[af]at hb;have hl:=rN (by have:=hb.1;simp only[eL,af]at this;exact this.2.2.2.2.1:qu h=true);refine⟨(Kz b hn k.z _).mono,?_⟩;simp only[ah];rw[(CF b h _).tx];exact bp k.t (by omega)
theorem abo (h:Host)(b:Int)(k:Dz 400000000 h):ud h b=some (sW h b):=by
 have GS:=fb;unfold ud sW;rw[jU h (k.z.mono),ab,sY h (k.sz),ab,cn];cases hb:eL h;rfl;cases hi0:cY b 1 1000;rfl;have hl:=rN (by simp only[eL,af]at hb;exact hb.2.2.2.2.1:qu h=true);simp only[al,ae,ab,bW,ah];refine cK (λi=>((uS b i h).1,(i:Int),(uS b i h).2)) h.2.2.2.1.length (by omega) (λi nx hi=>?_) (λnx=>?_);have kk:=CF b h i;have zz:cB 500000000 dz (uS b i h).2:=(Kz b (by omega) k.z i).mono;have i1:i<(uS b i h).2.2.2.2.1.length:=by rw[kk.rx];exact hi
 have i2:i<(uS b i h).2.2.2.2.2.1.length:=by rw[kk.pl];omega
 have i3:i<(uS b i h).2.2.2.2.2.2.1.length:=by rw[kk.vec];omega
 have i4:i<(uS b i h).2.2.2.2.2.2.2.1.length:=by rw[kk.pol];omega
 have em:=kk.maps;rw[show uS b (i+1) h=Gs b i (uS b i h) from rfl];generalize uS b i h=s at zz i1 i2 i3 i4 em⊢;have Ha:s.2.2.2.2.2.1[i].2.2.2.length<=500000000:=(zz.2.2.2.2.1.2 _ (aB i2)).2.2.2.1;have hm:s.2.1.length<=500000000:=zz.1.1;have hp:s.2.2.1.length<=500000000:=zz.2.1.1;have gp:=abn s.2.2.1 s.2.1 0 s.2.2.2.2.1[i] s.2.2.2.2.2.1[i] s.2.2.2.2.2.2.2.2.2.2.1 b (show s.2.2.1.length<=10^9 by omega) (show s.2.1.length<=10^9 by omega) Ha zz.2.2.2.2.2.2.2.2.2.1;unfold Gs;rw[ak i1,ak i2,ak i3,ak i4];simp only[nW];rw[iH,ah,<-em];simp only[bc i1,bc i2,bc i3,bc i4,ab,aiN,ax,gp];generalize G5 s.2.2.2.2.2.2.1[i]=w;generalize mS s.2.2.1 s.2.1 0 s.2.2.2.2.1[i] s.2.2.2.2.2.1[i] s.2.2.2.2.2.2.2.2.2.2.1 b=pr;have i5:∀V:Vector,i<(s.2.2.2.2.2.2.1.set i V).length:=λV=>by rw[ay];exact i3
 have i6:∀q:Bool,i<(s.2.2.2.2.2.2.2.1.set i q).length:=λq=>by rw[ay];exact i4
 have e5:∀V:Vector,idx (s.2.2.2.2.2.2.1.set i V) (i:Int)=some V:=λV=>by rw[bc (i5 V),List.getElem_set_self]
 have e6:∀q:Bool,idx (s.2.2.2.2.2.2.2.1.set i q) (i:Int)=some q:=λq=>by rw[bc (i6 q),List.getElem_set_self]
 rw[aj (n:=(i:Int)+1)];generalize s.2.2.2.2.2.2.2.1[i]=p;cases p with|true=>simp only[gb,ah,e6,e5,ab,al,ae,Sp,List.set_set];cases decide (pr.2.2.2.2<b)<;>rfl|false=>simp only[cZ,ae,e6,e5,ab,Sp,List.set_set];cases w.2 with|false=>rfl|true=>simp only[al,ae,ah];cases decide (pr.2.2.2.2<b)<;>rfl
 simp only[nW];rw[aq (by have:=(CF b h h.2.2.2.1.length).rx;omega),ae]
theorem abz (hn:1000<=n)(k:Dz n h):Dz n (Bi h):=by have:=amU hn k.z;exact⟨this.1,by rw[this.2];exact k.t⟩
def txt (_:Int):Bytes:=[]
def Kb:(t:CT)->t.D->Nat
 | .int _,_=>1
 | .bool,_=>1
 | .str,_=>1
 | .sl e,xs=>(xs.map (Kb e)).sum
 | .pair a b,x=>Kb a x.1+Kb b x.2
def mkL (f:α->Int->α)(c:α->Nat):aw α->Int->aw α
 |[],_=>[]
 |x::xs,k=>f x k::mkL f c xs (k+c x)
def mk:(t:CT)->t.D->Int->t.D
 | .int _,_,k=>k
 | .bool,_,k=>tmod k 3==0
 | .str,_,k=>txt k
 | .sl e,xs,k=>mkL (mk e) (Kb e) xs k
 | .pair a b,x,k=>(mk a x.1 k,mk b x.2 (k+Kb a x.1))
structure PR (h:Host):Prop where
 pl:h.2.2.2.2.1.length<=2
 w:h.2.2.1.2.2.1.length<=16
theorem acT (hb:eL h=true):PR h:=by have hl:=rN (by have:=hb;simp only[eL,af]at this;exact this.2.2.2.2.1:qu h=true);have ht:=KG (t:=h.2.2.1) (by simp only[eL,af]at hb;exact hb.2.2.1);exact⟨by omega,ht⟩
theorem QD {a b:Host}(f:PR a)(h:lI k a b):PR b:=⟨by rw[h.pl];exact f.pl,by rw[h.tx];exact f.w⟩
theorem akB (f:PR h):PR (Bi h):=by unfold Bi;cases eL h with|false=>exact f|true=>exact QD f (uC GG h _)
theorem agO (f:PR h):PR (CQ h):=by unfold CQ;cases eL h with|false=>exact f|true=>exact QD f (uC D4 h _)
theorem agP (b:Int)(f:PR h):PR (sW h b).1:=by unfold sW;cases eL h&&cY b 1 1000 with|false=>exact f|true=>exact QD f (CF b h _)
theorem Wu (f:PR h):PR (gy h):=by unfold gy;cases eL h with|false=>exact f|true=>refine⟨f.pl,?_⟩;simp only[ah];generalize (if(h.2.2.1.2.2.1.length:Int)<ar ((lY h.2.1 h.1 0 h.2.2.1.1).2.2.1+(lY h.2.1 h.1 0 h.2.2.1.1).2.2.2) then(h.2.2.1.2.2.1.length:Int) else ar ((lY h.2.1 h.1 0 h.2.2.1.1).2.2.1+(lY h.2.1 h.1 0 h.2.2.1.1).2.2.2))=q;unfold mw;cases Pm ((lY h.2.1 h.1 0 h.2.2.1.1).1,h.2.2.1.2)&&cY q 0 (h.2.2.1.2.2.1.length:Int)with|false=>exact f.w|true=>show(h.2.2.1.2.2.1.drop q.toNat).length<=16;rw[aS];have:=f.w;omega
def aji (a:Act):az Bool:=
 aa (aa (some (cY a.1 0 6)) λr1=>cond (!r1) (some true) (some (decide ((a.2.2.2.2.1.length:Int)>600)))) λq2=>
 cond q2 (some false) (
 aa (cond (a.1 !=0) (cond (!((a.2.1.1==0)&&((a.2.1.2.1==0)&&((a.2.1.2.2.1==0)&&((a.2.1.2.2.2.1==0)&&((a.2.1.2.2.2.2.1==0)&&((a.2.1.2.2.2.2.2.1==0)&&((a.2.1.2.2.2.2.2.2.1==0)&&((a.2.1.2.2.2.2.2.2.2.1==0)&&((a.2.1.2.2.2.2.2.2.2.2.1==0)&&((a.2.1.2.2.2.2.2.2.2.2.2.1==0)&&((a.2.1.2.2.2.2.2.2.2.2.2.2.1==0)&&((a.2.1.2.2.2.2.2.2.2.2.2.2.2.1==0)&&((a.2.1.2.2.2.2.2.2.2.2.2.2.2.2.1==0)&&((a.2.1.2.2.2.2.2.2.2.2.2.2.2.2.2.1==0)&&((a.2.1.2.2.2.2.2.2.2.2.2.2.2.2.2.2.1==0)&&((a.2.1.2.2.2.2.2.2.2.2.2.2.2.2.2.2.2==([]:Bytes))&&true))))))))))))))))) (some true) (cond (a.2.2.1 !=0) (some true) (some (a.2.2.2.1 !=0)))) (some false)) λq3=>
 cond q3 (some false) (
 aa (cond (a.1==2) (cond (a.1==5) (some true) (some (a.2.2.2.2.2==0))) (cond (a.2.2.2.2.1==([]:Bytes)) (cond (a.1==5) (some true) (some (a.2.2.2.2.2==0))) (some false))) λq4=>some q4))
theorem agw (a:Act):∃b,aji a=some b:=by simp only[aji,bB,ab];exact⟨_,rfl⟩
def G8 (a:Act):Bool:=(aji a).getD false
theorem aeY (a:Act):aji a=some (G8 a):=by obtain⟨b,hb⟩:=agw a;simp[G8,hb]
theorem afZ (a:Act):Dp a=some (G8 a):=by rw[<-aeY];unfold Dp;rw[cn];rfl
theorem anN (a:Act):F4 a=some (G8 a):=by rw[<-aeY];unfold F4;rw[dW];rfl
def axP:Act:=(0,pk0,0,0,([]:Bytes),0)
theorem Dz.tx (k:Dz n h)(hn:n<=10^9):ajf h.2.2.1:=
 have z:cB 1000000000 dz h:=k.z.mono hn
 ⟨z.2.2.1.2.1.2.2.2.1,z.2.2.1.2.2.1.1,λx hx=>(z.2.2.1.2.2.1.2 x hx).2.2.1⟩
def Fz (h:Host)(p:aD)(c z:Int):Host×Bool:=
 bif eL h then(((Dg h.2.1 h.1 0 h.2.2.1 p c z).1,h.2.1,(Dg h.2.1 h.1 0 h.2.2.1 p c z).2.1,h.2.2.2),(Dg h.2.1 h.1 0 h.2.2.1 p c z).2.2) else(h,false)
theorem aiE (h:Host)(p:aD)(c z:Int)(k:Dz 900000000 h):Ap h p c z=some (Fz h p c z):=by have zz:cB 1000000000 dz h:=k.z.mono;unfold Ap Fz;rw[jU h zz,ab,sY h (k.sz),ab];cases eL h;rfl;simp only[al,ae,ah,aiF _ _ _ _ _ _ _ zz.2.1.1 zz.1.1 (k.tx (by omega)) zz.2.2.1.2.2.1.1 (bp k.t (by omega)),ab]
theorem Ub (hn:128<=n)(l:aw aN)(d:Int)(p:ei)(z:Nat):∀(q:bQ)(s:Bytes)(m:bV)(a:aw qi){x},cB n (.sl .str) m->D3 l d p z q s m a=some x->cB n (.sl .str) x.2
 |[],s,m,a,x,hm,h=>by cases h;exact hm
 |b::q,s,m,a,x,hm,h=>by rw[D3]at h;cases hq:(kH l m d (uM p b) (s.take z) false).2 with|false=>rw[hq]at h;cases h|true=>rw[hq]at h;exact Ub hn l d p z q _ _ _ (HS hn hm ..) h
theorem Og (hn:128<=n)(l:aw aN)(d:Int):∀(q:bV)(m:bV)(r:od){x},cB n (.sl .str) m->Aa l d q m r=some x->cB n (.sl .str) x.1
 |[],m,r,x,hm,h=>by cases h;exact hm
 |s::q,m,r,x,hm,h=>by rw[Aa]at h;cases hq:(eu l m d r s).2.2 with|false=>rw[hq]at h;cases h|true=>rw[hq]at h;exact Og hn l d q _ _ (LV hn hm ..) h
theorem aaL (hn:128<=n){q:bV}(hm:cB n (.sl .str) m):cB n (.sl .str) (Ab l m d r q).1:=by unfold Ab;cases hx:Aa l d q m r with|none=>exact hm|some x=>exact Og hn l d q m r hm hx
theorem ai0 (p:ei)(n:Int):(lX p n).1.2.2.2.length+(lX p n).2.1.length=p.2.2.2.length:=by unfold lX;cases dN p&&cY n 0 (p.2.2.2.length:Int)with|false=>rfl|true=>simp only[ah,aS,aP];omega
theorem agF (a:aw xb)(x:xb):(bG (a++[x])).length=(bG a).length+x.2.2.length:=by simp[bG]
theorem aa3:∀l:aw xb,(∀x∈l,1<=x.2.1)->(l.length:Int)<=dI l
 |[],_=>by simp[dI]
 |y::l,h=>by have h1:=aa3 l (λx hx=>h x (eY _ hx));have h2:=h y (List.mem_cons_self ..);simp only[dI,db,eI,bg]at h1⊢;omega
structure aoU (n:Nat) (m:List Bytes) (t:dx) (r:List Bytes×dx×Bool):Prop where
 mem:cB n (.sl .str) r.1
 tx:cB (n+1) mF r.2.1
 sum:r.2.1.2.1.2.2.2.length+(bG r.2.1.2.2.1).length<=n
 w:r.2.1.2.2.1.length<=16\/r.2.1.2.2.1=t.2.2.1
theorem Vl (hn:128<=n){t:dx}{z:Int}(d:Int)(hm:cB n (.sl .str) m)(ht:cB n mF t)(hs:t.2.1.2.2.2.length+(bG t.2.2.1).length<=n):aoU n m t (Dg l m d t p c z):=by
 have old:aoU n m t (m,t,false):=⟨hm,ht.mono,hs,Or.inr rfl⟩
 unfold Dg;cases hg:Pm t&&(dw p&&(cY z 1 t.2.1.2.1&&cY c 1 128));exact old;simp only[af]at hg;simp only[ah];generalize DD p z.toNat=k;cases hk:QJ t k;exact old;simp only[ah];rcases hx:D3 l d t.2.1 z.toNat (lX t.2.1 (k:Int)).2.1 (kJ p).1 m []with _|x;exact old;simp only;unfold Vm;have hpm:=aaL (n:=n) hn (l:=l) (d:=d) (q:=(uX x.1 c t.2.2.2).map E3) (r:=t.1) (Ub hn l d t.2.1 z.toNat _ _ _ _ hm hx);generalize Ab l x.2 d t.1 ((uX x.1 c t.2.2.2).map E3)=w at hpm⊢;cases w.2.2;exact old;have hl:=ai0 t.2.1 (k:Int);have hb:=agF t.2.2.1 (t.2.2.2,(k:Int)+1,(lX t.2.1 (k:Int)).2.1);have hb:(bG (t.2.2.1++[(t.2.2.2,(k:Int)+1,(lX t.2.1 (k:Int)).2.1)])).length=(bG t.2.2.1).length+(lX t.2.1 (k:Int)).2.1.length:=hb;refine⟨hpm,⟨⟨cq,cq,cq,cq⟩,⟨cq,cq,cq,?_,λ_ _=>trivial⟩,?_,cq⟩,?_,Or.inl ?_⟩;show(lX t.2.1 (k:Int)).1.2.2.2.length<=n+1;omega;exact Fh (t:=ru) (k:=1) ht.2.2.1 (λy hy=>by rw[bI.1 hy];exact⟨cq,cq,by show(lX t.2.1 (k:Int)).2.1.length<=n;omega,λ_ _=>trivial⟩) (by simp);show(lX t.2.1 (k:Int)).1.2.2.2.length+(bG (t.2.2.1++[(t.2.2.2,(k:Int)+1,(lX t.2.1 (k:Int)).2.1)])).length<=n;omega;show(t.2.2.1++[_]).length<=16;have hq:=hg.1;simp only[Pm,af]at hq;have hrg:=nT hq.1;have hc:=aa3 t.2.2.1 (λx hx=>by have:=aF.1 hq.2.2.2.1 x hx;simp only[jT,af,aX]at this;omega);unfold QJ at hk;simp only[af,aM,cH]at hk;rw[ai,aW];omega
theorem al6 (hn:1000<=n)(p:aD)(c z:Int)(k:Dz n h):Dz (n+1) (Fz h p c z).1:=by unfold Fz;cases eL h;exact k.mono;have zz:=k.z;have s:=Vl (by omega) (l:=h.2.1) (p:=p) (c:=c) (z:=z) 0 zz.1 zz.2.2.1 k.t;have z1:cB (n+1) dz h:=zz.mono;exact⟨⟨s.mem.mono,z1.2.1,s.tx,z1.2.2.2⟩,bp s.sum (by omega)⟩
theorem akA (hn:1000<=n)(p:aD)(c z:Int)(k:Dz n h)(f:PR h):PR (Fz h p c z).1:=by unfold Fz;cases eL h;exact f;have s:=Vl (by omega) (l:=h.2.1) (p:=p) (c:=c) (z:=z) 0 k.z.1 k.z.2.2.1 k.t;refine⟨f.pl,?_⟩;rcases s.w with w|w;exact w;show(Dg h.2.1 h.1 0 h.2.2.1 p c z).2.1.2.2.1.length<=16;rw[w];exact f.w
theorem YC (hn:1000<=n)(x:Bytes)(k:Dz n h)(f:PR h):PR (oK h x):=by have:=HU hn x k;exact⟨by rw[this.2.2];exact f.pl,by rw[this.2.1];exact f.w⟩
theorem Oh (h:Host):∀k,(im h k).2.2.1=h.2.2.1
 |0=>rfl
 |k+1=>by show(yZ k (im h k)).2.2.1=_;rw[<-Oh h k];generalize im h k=s;unfold yZ;rcases h1:s.2.2.2.1[k]? with _|x;rfl;cases h2:s.2.2.2.2.2.1[k]? with|none=>rfl|some v=>rfl
theorem Nj (hn:1000<=n)(k:Dz n h)(f:PR h):Dz (n+645000) (xV h)/\PR (xV h):=by
 unfold xV;cases hb:eL h;exact⟨k.mono,f⟩;have hl:=rN (Q6 hb);have e:=NO hn k.z hl.1;have hw:=f.w;have hp:=Gg (n:=n) (by omega) k.z h.2.2.2.1.length;have ht:=(AZ (n:=n+322000*h.2.2.2.1.length) (h:=h) hp.2 h.2.2.1.2.2.1.length).1.e;have h4:=tR 256 128 8;simp only[ah];have hx:=Oh (ry h) h.2.2.2.1.length;have hk:=(Ac (ry h) h.2.2.2.1.length).pl;have Ha:(ry h).2.2.2.2.1.length=h.2.2.2.2.1.length:=by show(returned h h.2.2.1.2.2.1.length).2.2.2.2.1.length=_;rw[ht];exact hp.1.pl
 refine⟨⟨(Gp (by omega) e _).mono,?_⟩,?_,?_⟩;rw[hx];show(kR 256 128 8).1.2.2.2.length+0<=_;omega;rw[hk,Ha];exact f.pl;rw[hx];show 0<=16;omega
def akC (f:jk):aw Stream->Int->Int
 |[],_=> -1
 |s::r,i=>if s.1=f then i else akC f r (i+1)
def ajk (a b:aw Stream)(f:jk):Bool:=
 match idx a (akC f a 0),idx b (akC f b 0)with
 |some x,some y=>decide (x=y)
 |_,_=>false
def ayW (b:Bool):Int:=bif b then 1 else 0
def O1 (h:Host)(a:Act):Host×Int:=
 bif !eL h|| !G8 a then(h, -1) else
 bif a.1==0 then((Fz h a.2.1 a.2.2.1 a.2.2.2.1).1,ayW (Fz h a.2.1 a.2.2.1 a.2.2.2.1).2) else
 bif a.1==1 then(gy h,0) else
 bif a.1==2 then(oK h a.2.2.2.2.1,0) else
 bif a.1==3 then(CQ h,0) else
 bif a.1==4 then(Bi h,0) else
 bif a.1==5 then sW h a.2.2.2.2.2 else(xV h,0)
theorem aix (h:Host)(a:Act)(k:Dz 90000000 h)(hx:a.2.2.2.2.1.length<=10^9):Gw h a=some (O1 h a):=by
 have z:cB 1000000000 dz h:=k.z.mono;unfold Gw O1;rw[sY h (k.sz),ab,afZ,ab];cases eL h;simp only[bH,ah,gb,ab,jU h z];cases G8 a;simp only[al,bH,ah,ae,iJ,ab,jU h z];simp only[al,ae,cc,ab,aiE h _ _ _ (k.mono),Mi h (k.mono),Mf h _ (k.mono) hx,aeu h (k.mono),abr h (k.sz) z,abo h _ (k.mono),JP h (k.sz) (k.z.mono)];cases a.1==0;case true=>(simp only[ah];cases (Fz h a.2.1 a.2.2.1 a.2.2.2.1).2<;>rfl)
 cases a.1==1;case true=>rfl
 cases a.1==2;case true=>rfl
 cases a.1==3;case true=>rfl
 cases a.1==4;case true=>rfl
 cases a.1==5<;>rfl
theorem anf (hn:1000<=n)(a:Act)(k:Dz n h)(f:eL h=true\/PR h):Dz (n+645000) (O1 h a).1/\(eL h=true\/PR h->PR (O1 h a).1\/(O1 h a).1=h):=by
 have f:PR h:=f.elim acT id;unfold O1;cases !eL h|| !G8 a;case true=>exact⟨k.mono,λ_=>Or.inr rfl⟩
 simp only[ae];cases a.1==0;case true=>exact⟨(al6 hn _ _ _ k).mono,λ_=>Or.inl (akA hn _ _ _ k f)⟩
 cases a.1==1;case true=>exact⟨(GH (by omega) k).mono,λ_=>Or.inl (Wu f)⟩
 cases a.1==2;case true=>exact⟨(HU hn _ k).1.mono,λ_=>Or.inl (YC hn _ k f)⟩
 cases a.1==3;case true=>exact⟨(agV hn k).mono,λ_=>Or.inl (agO f)⟩
 cases a.1==4;case true=>exact⟨(abz hn k).mono,λ_=>Or.inl (akB f)⟩
 cases a.1==5 with|true=>exact⟨(aa5 hn _ k).mono,λ_=>Or.inl (agP _ f)⟩|false=>exact⟨(Nj hn k f).1,λ_=>Or.inl (Nj hn k f).2⟩
theorem ajj (hn:1000<=n)(a:Act)(k:Dz n h)(f:PR h):Dz (n+645000) (O1 h a).1/\PR (O1 h a).1:=by have g:=anf hn a k (Or.inr f);refine⟨g.1,?_⟩;rcases g.2 (Or.inr f)with h1|h1;exact h1;rw[h1];exact f
end
end Go.Pu
