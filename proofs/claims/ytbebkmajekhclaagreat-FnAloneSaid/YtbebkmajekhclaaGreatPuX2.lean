import Derived.Test.YtbebkmajekhclaaGreatPuX1
namespace Go.Pu
open Go.Dn
open Int (tdiv tmod)
set_option linter.unusedSimpArgs false
set_option linter.unusedVariables false
noncomputable section
variable {s t x:Bytes} {h:Host} {b c d:Int} {a i k n o:Nat} {g:Nat->Host->Host} {p:aJ} {q:cp} {R:Type} {l:aw aE} {m:bN} {f:bN×cp} {r:lB}
/- Templates and their checksums: the program's and the reference's results are one. -/
theorem jS {y:Bytes}(h:i<x.length):bV (x++y) i=bV x i:=by unfold bV;rw[bK,bK,bE h]
theorem vI {y:Bytes}(h:x.length<=i):bV (x++y) i=bV y (i-x.length):=by unfold bV;rw[bK,bK,bz h]
theorem V8 (h:i<n):bV (x.take n) i=bV x i:=by unfold bV;rw[bK,bK,eC h]
theorem mG:bV (x.drop n) i=bV x (n+i):=by unfold bV;rw[bK,bK,bS]
theorem Vb {p:Bytes}(h:i<a\/a+p.length<=i:=by omega):bV (ya s (a:Int) p) i=bV s i:=by
 unfold ya fA;by_cases hw:(0:Int)<=a/\(a:Int)+(p.length:Int)<=(s.length:Int)
 rw[au hw,ah,ax];have ht:(s.take a).length=a:=by rw[aV];omega
 rcases h with h|h;rw[jS (by rw[ai];omega),jS (by omega),V8 h];rw[vI (by rw[ai];omega),mG,ai,ht];congr 1;omega;rw[aq hw];rfl
theorem adN {p:Bytes}{j:Nat}(hw:a+p.length<=s.length)(hj:j<p.length:=by omega):bV (ya s (a:Int) p) (a+j)=bV p j:=by
 unfold ya fA;rw[au ⟨by omega,by omega⟩,ah,ax];have ht:(s.take a).length=a:=by rw[aV];omega
 rw[jS (by rw[ai];omega),vI (by omega),ht];congr 1;omega
theorem vN:dc s (a:Int)=bif decide (a+2<=s.length) then((bV s a*256+bV s (a+1):Nat):Int) else-1:=by unfold dc fA;rw[ax,show decide ((0:Int)<=a/\(a:Int)+2<=(s.length:Int))=decide (a+2<=s.length) from decide_eq_decide.2 (by omega)]
theorem FM (hl:s.length=t.length)(h0:bV s a=bV t a)(h1:bV s (a+1)=bV t (a+1)):dc s (a:Int)=dc t (a:Int):=by rw[vN,vN,hl,h0,h1]
theorem OM:dc (s.drop k) (a:Int)=dc s ((k+a:Nat):Int):=by rw[vN,vN,mG,mG,aL,show k+(a+1)=k+a+1 by omega,show decide (a+2<=s.length-k)=decide (k+a+2<=s.length) from decide_eq_decide.2 (by omega)]
theorem GU:eM s (a:Int)=bif decide (a+4<=s.length) then(((bV s a*256+bV s (a+1))*65536+(bV s (a+2)*256+bV s (a+3)):Nat):Int) else-1:=by unfold eM fA;rw[ax,show decide ((0:Int)<=a/\(a:Int)+4<=(s.length:Int))=decide (a+4<=s.length) from decide_eq_decide.2 (by omega)]
theorem OO:eM (s.drop k) (a:Int)=eM s ((k+a:Nat):Int):=by rw[GU,GU,mG,mG,mG,mG,aL,show k+(a+1)=k+a+1 by omega,show k+(a+2)=k+a+2 by omega,show k+(a+3)=k+a+3 by omega,show decide (a+4<=s.length-k)=decide (k+a+4<=s.length) from decide_eq_decide.2 (by omega)]
theorem WS (hl:s.length=t.length)(h:∀j,j<4->bV s (a+j)=bV t (a+j)):eM s (a:Int)=eM t (a:Int):=by rw[GU,GU,hl,show bV s a=bV t a from h 0 (by omega),h 1 (by omega),h 2 (by omega),h 3 (by omega)]
def dK (s:Bytes):Nat:=bif dc s 12==33024 then 18 else 14
def kY (s:Bytes):Nat:=bV s (dK s+9)
def Qh (k:Nat):Nat:=bif (k:Int)==6 then 16 else 6
def Dr (s:Bytes):Nat:=dK s+10
def Bj (s:Bytes):Nat:=dK s+20+Qh (kY s)
theorem Kr (k:Nat):Qh k=16/\k=6\/Qh k=6/\k≠6:=by unfold Qh;by_cases h:k=6;subst h;exact .inl ⟨rfl,rfl⟩;exact .inr ⟨by rw[show((k:Int)==6)=false from by rw[cr];omega];rfl,h⟩
theorem N6 (s:Bytes):dK s=18/\(dc s 12==33024)=true\/dK s=14/\(dc s 12==33024)=false:=by unfold dK;cases dc s 12==33024 with|true=>exact .inl ⟨rfl,rfl⟩|false=>exact .inr ⟨rfl,rfl⟩
theorem Ld (k:Nat)(h:k<256):fT (k:Int)=some (Qh k:Int):=by unfold fT Qh;cases (k:Int)==6<;>rfl
theorem JN (s:Bytes)(h:s.length<=10^9):se s=some ((Dr s:Int),(Bj s:Int)):=by
 unfold se;rw[xQ s 12 h,ab];have hk:=eD s (dK s+9)
 have core:∀o:Nat,dK s=o->(o=18\/o=14)->(bif decide (ar ((o:Int)+9)<(s.length:Int)) then
  aa (idx s (ar ((o:Int)+9))) λx2=>aa (fT (ar ((UInt8.toNat x2:Int)))) λr3=>some (ar ((o:Int)+10),ar ((ar ((o:Int)+20))+r3))
  else aa (fT 0) λr4=>some (ar ((o:Int)+10),ar ((ar ((o:Int)+20))+r4)))=some ((Dr s:Int),(Bj s:Int)):=by
  intro o ho h2
  have hs:=Kr (kY s)
  rw[al (n:=(o:Int)+9),al (n:=(o:Int)+10),al (n:=(o:Int)+20)]
  unfold Dr Bj
  rw[ho]
  by_cases hl:o+9<s.length
  ·obtain⟨x,hx,ex⟩:=mO hl
   rw[iU,ah,show(o:Int)+9=((o+9:Nat):Int) by omega,hx,ab,ex,jt (by rw[<-ho];omega),Ld _ (by rw[<-ho];exact hk),ab,show bV s (o+9)=kY s by unfold kY;rw[ho],al]
   congr 1
  ·have hz:kY s=0:=by unfold kY;rw[ho];exact H8
   have h0:fT 0=some (Qh 0:Int):=Ld 0 (by omega)
   rw[cz,af,h0,ab,<-hz,al]
   congr 1
 rcases N6 s with⟨h1,h2⟩|⟨h1,h2⟩;rw[h2,ah];exact core 18 h1 (.inl rfl);rw[h2,af];exact core 14 h1 (.inr rfl)
theorem adD {a:Int}(h:cS a 0 281474976710655=true):(mac a).length=6:=by
 have ha:=aX.1 h;have e:mac a=cj (Int.fdiv a (2^(tU 32)))++gu (ar (BitVec.toNat (ie a&&&ie 4294967295))):=by unfold mac jl;rw[nX];simp only[pO,nr,ab];have h1:=bQ (Int.fdiv a (2^(tU 32)));have h2:=dT (ar (BitVec.toNat (ie a&&&ie 4294967295)));rw[aO];rfl
 have e2:(2:Int)^(tU 32)=4294967296:=rfl;rw[e,ai,IQ,QD,aoP,e2];rw[show cS (Int.fdiv a 4294967296) 0 65535=true from aX.2 (by rw[Int.fdiv_eq_ediv_of_nonneg _ (by omega)];omega),show cS (a%4294967296) 0 4294967295=true from aX.2 (by omega)];rfl
theorem Xl (h:dJ p=true):dK (dM p).1+46<=(dM p).1.length:=by
 have hh:qW p=true:=by simp only[dJ,ae]at h;exact h.1
 have hp:=U8 (ipP p).1;have hi:=G2 h;unfold dM ak9 Wu at hi⊢;rw[h,ah]at hi⊢;cases he:uc (p.1,p.2.1,p.2.2.1,2048,pad (ipP p).1)with|false=>rw[he]at hi;cases hi|true=>?_
 simp only[ah];simp only[qW,ae]at hh;have m1:=adD hh.1;have m2:=adD hh.2.1;have hv:=aX.1 hh.2.2.1;have w1:(cj 33024).length=2:=rfl;have w3:(cj 2048).length=2:=rfl;generalize pad (ipP p).1=bd at hp⊢;unfold RO;simp only;generalize mac p.1=M1 at m1⊢;generalize mac p.2.1=M2 at m2⊢;by_cases hc:p.2.2.1>=0;have w2:(cj p.2.2.1).length=2:=by rw[IQ,aX.2 (by omega)];rfl
 rw[au hc,ah];have hb:dK (((((M1++M2)++cj 33024)++cj p.2.2.1)++cj 2048)++bd)=18:=by
  unfold dK;have e12:dc (((((M1++M2)++cj 33024)++cj p.2.2.1)++cj 2048)++bd) ((12:Nat):Int)=33024:=by rw[vN,au (by simp only[ai];omega),ah];rw[jS (by simp only[ai];omega),jS (by simp only[ai];omega),jS (by simp only[ai];omega),vI (by simp only[ai];omega)];rw[jS (by simp only[ai];omega),jS (by simp only[ai];omega),jS (by simp only[ai];omega),vI (by simp only[ai];omega)];rw[ai,m1,m2];rfl
  rw[show(12:Int)=((12:Nat):Int) from rfl,e12];rfl
 rw[hb];simp only[ai];omega;rw[aq hc,af];have hb:dK (((M1++M2)++cj 2048)++bd)=14:=by
  unfold dK;have e12:dc (((M1++M2)++cj 2048)++bd) ((12:Nat):Int)=2048:=by rw[vN,au (by simp only[ai];omega),ah];rw[jS (by simp only[ai];omega),vI (by simp only[ai];omega)];rw[jS (by simp only[ai];omega),vI (by simp only[ai];omega)];rw[ai,m1,m2];rfl
  rw[show(12:Int)=((12:Nat):Int) from rfl,e12];rfl
 rw[hb];simp only[ai];omega
def nd (t:Bytes)(x y:Bytes):Bytes:=ya (ya t (Dr t:Int) x) (Bj t:Int) y
theorem Gf (t x y:Bytes):(nd t x y).length=t.length:=by unfold nd;rw[B9,B9]
def kS (p:aJ):Bytes×Bool:=bif dJ p then(nd (dM p).1 (cj 0) (cj 0),true) else([],false)
theorem aiK (h:dJ p=false):dM p=([],false):=by unfold dM;rw[h];rfl
theorem St (p:aJ):nm p=some (kS p):=by have hl:=Br p;have w0:=bQ 0;unfold nm kS nd;rw[DM,ab];cases h:dJ p with|false=>rw[aiK h];rfl|true=>rw[G2 h];simp only[aj,af,ah,JN _ (show(dM p).1.length<=10^9 by omega),ab,lH,Em _ _ _ (show(dM p).1.length<=10^9 by omega) (show(cj 0).length<=10^9 by omega),Em _ _ _ (show(ya (dM p).1 (Dr (dM p).1:Int) (cj 0)).length<=10^9 by rw[B9];omega) (show(cj 0).length<=10^9 by omega)]
def EZ (s t:Bytes):Prop:=s.length=t.length/\∀i,i<Dr t\/(Dr t+2<=i/\i<Bj t)\/Bj t+2<=i->bV s i=bV t i
theorem B8 (t:Bytes):(dK t=14\/dK t=18)/\Dr t=dK t+10/\dK t+26<=Bj t/\Bj t<=dK t+36/\(Bj t=dK t+36/\kY t=6\/Bj t=dK t+26/\kY t≠6):=by have h1:=N6 t;have h2:=Kr (kY t);unfold Dr Bj;omega
theorem HO (t:Bytes){y:Bytes}(hx:x.length<=2)(hy:y.length<=2):EZ (nd t x y) t:=by have:=B8 t;refine⟨Gf t x y,λi hi=>?_⟩;unfold nd;rw[Vb,Vb]
theorem EZ.body (h:EZ s t):dK s=dK t:=by have:=B8 t;unfold dK;have e:dc s ((12:Nat):Int)=dc t ((12:Nat):Int):=FM h.1 (h.2 _ (by omega)) (h.2 _ (by omega));rw[show(12:Int)=((12:Nat):Int) from rfl,e]
theorem EZ.kind (h:EZ s t):kY s=kY t:=by have:=B8 t;unfold kY;rw[h.body,h.2 _ (by omega)]
theorem EZ.ao8 (h:EZ s t):Dr s=Dr t/\Bj s=Bj t:=by unfold Dr Bj;rw[h.body,h.kind];exact⟨rfl,rfl⟩
theorem EZ.aqY (h:EZ s t):dc s ((dK t+2:Nat):Int)=dc t ((dK t+2:Nat):Int):=by have:=B8 t;exact FM h.1 (h.2 _ (by omega)) (h.2 _ (by omega))
structure TOk (t:Bytes):Prop where
 eth:(gS t).2=true
 bd:(gS t).1.2.2.2.2=t.drop (dK t)
 l1:dK t+46<=t.length
 n1:20+Qh (kY t)+2<=dc t ((dK t+2:Nat):Int)
 n2:dc t ((dK t+2:Nat):Int)<=(t.length:Int)-(dK t:Int)
theorem LA (h:(gS s).2=true):(gS s).1.2.2.2.2=s.drop (dK s)/\18<=s.length/\46<=s.length-dK s/\s.length-dK s<=400:=by
 unfold gS at h⊢;by_cases h8:(s.length:Int)<18;rw[au h8]at h;cases h;rw[aq h8]at h⊢;simp only[af]at h⊢;rcases N6 s with⟨h1,h2⟩|⟨h1,h2⟩;rw[h2]at h⊢;simp only[ah]at h⊢;cases he:uc (KV s)with|false=>rw[he]at h;cases h|true=>rw[h1];simp only[uc,ae,aX,KV,aL]at he;simp only[ah,KV];refine⟨cy,by omega,by omega,by omega⟩
 rw[h2]at h⊢;simp only[af]at h⊢;cases he:uc (BH s)with|false=>rw[he]at h;cases h|true=>rw[h1];simp only[uc,ae,aX,BH,aL]at he;simp only[ah,BH];refine⟨cy,by omega,by omega,by omega⟩
theorem PW (h:(kl s).2=0):(gS s).2=true/\(pM (gS s).1.2.2.2.2).2=true/\dJ (kl s).1=true/\ (zN (pM (gS s).1.2.2.2.2).1.2.2.2.2.1 (pM (gS s).1.2.2.2.2).1.2.2.2.2.2.1 (pM (gS s).1.2.2.2.2).1.2.2.2.1 (pM (gS s).1.2.2.2.2).1.2.2.2.2.2.2).2=true:=by
 unfold kl at h⊢;simp only at h⊢;generalize gS s=e at h⊢;cases h1: !e.2||(e.1.2.2.2.1 !=2048)with|true=>rw[h1]at h;cases h|false=>?_
 rw[h1]at h;simp only[af]at h⊢;generalize pM e.1.2.2.2.2=i at h⊢;cases h2:i.2 with|false=>rw[h2]at h;cases h|true=>?_
 rw[h2]at h;simp only[aj,af]at h⊢;generalize zN i.1.2.2.2.2.1 i.1.2.2.2.2.2.1 i.1.2.2.2.1 i.1.2.2.2.2.2.2=g at h⊢;cases h3:g.2 with|false=>rw[h3]at h;cases h|true=>?_
 rw[h3]at h;simp only[aj,af]at h⊢;cases h4:dJ (e.1.1,e.1.2.1,e.1.2.2.1,i.1.1,i.1.2.1,i.1.2.2.1,i.1.2.2.2.2.1,i.1.2.2.2.2.2.1,g.1)with|false=>rw[h4]at h;cases h|true=>?_
 simp only[cu,dV]at h1;exact⟨h1.1,cy,h4,cy⟩
theorem ajw {b:Bytes}(h:(pM b).2=true):20<=dc b 2/\dc b 2<=(b.length:Int)/\(pM b).1=Iu b:=by
 unfold pM at h⊢;cases h1:decide ((b.length:Int)<20)||(decide (dc b 2<20)||decide (dc b 2>(b.length:Int)))with|true=>rw[h1]at h;cases h|false=>?_
 rw[h1]at h;simp only[af]at h⊢;cases h2:(ZI (Iu b)).2&&((ZI (Iu b)).1==b.take (dc b 2).toNat)with|false=>rw[h2]at h;cases h|true=>?_
 simp only[cu,cY]at h1;exact⟨by omega,by omega,rfl⟩
theorem af7 {a k:Int}(h:(zN a b k s).2=true):k=6/\20<=s.length\/k=17/\8<=s.length:=by unfold zN at h;cases h1:(k==6)&&decide ((s.length:Int)>=20)with|true=>simp only[ae,aZ,aF]at h1;exact .inl ⟨h1.1,by omega⟩|false=>rw[h1]at h;simp only[af]at h;cases h2:(k==17)&&decide ((s.length:Int)>=8)with|true=>simp only[ae,aZ,aF]at h2;exact .inr ⟨h2.1,by omega⟩|false=>rw[h2]at h;cases h
theorem aeI (hl:s.length=t.length)(h:∀i,i<18->bV s i=bV t i)(hs:(gS s).2=true):(gS t).2=true:=by
 have g16:∀a,a+2<=18->dc s ((a:Nat):Int)=dc t ((a:Nat):Int):=λa ha=>FM hl (h _ (by omega)) (h _ (by omega));have g32:∀a,a+4<=18->eM s ((a:Nat):Int)=eM t ((a:Nat):Int):=λa ha=>WS hl (λj hj=>h _ (by omega));have e0:HK s 0=HK t 0:=by unfold HK;rw[show(0:Int)=((0:Nat):Int) from rfl,g16 0 (by omega),show((0:Nat):Int)+2=((2:Nat):Int) from rfl,g32 2 (by omega)]
 have e6:HK s 6=HK t 6:=by unfold HK;rw[show(6:Int)=((6:Nat):Int) from rfl,g16 6 (by omega),show((6:Nat):Int)+2=((8:Nat):Int) from rfl,g32 8 (by omega)]
 have e12:dc s 12=dc t 12:=g16 12 (by omega);have e14:dc s 14=dc t 14:=g16 14 (by omega);have e16:dc s 16=dc t 16:=g16 16 (by omega);have b1:uc (KV s)=uc (KV t):=by unfold uc KV;rw[e0,e6,e14,e16];simp only[aL,hl]
 have b2:uc (BH s)=uc (BH t):=by unfold uc BH;rw[e0,e6,e12];simp only[aL,hl]
 unfold gS at hs⊢;rw[hl,e12,b1,b2]at hs;cases h8:decide ((t.length:Int)<18)with|true=>rw[h8]at hs;cases hs|false=>?_
 rw[h8]at hs;cases h12:dc t 12==33024 with
 |true=>rw[h12]at hs;cases hb:uc (KV t)with|true=>rfl|false=>rw[hb]at hs;cases hs
 |false=>rw[h12]at hs;cases hb:uc (BH t)with|true=>rfl|false=>rw[hb]at hs;cases hs
theorem apm (ha:EZ s t)(h:(kl s).2=0):TOk t:=by
 have hp:=B8 t;obtain⟨h1,h2,_,h4⟩:=PW h;have he:=LA h1;rw[he.1]at h2 h4;have hi:=ajw h2;have hs:=af7 h4;rw[hi.2.2]at hs;have e1:(gS t).2=true:=aeI ha.1 (λi hi=>ha.2 i (by omega)) h1;have e2:=LA e1;have en:dc (s.drop (dK s)) 2=dc t ((dK t+2:Nat):Int):=by have:dc (s.drop (dK s)) ((2:Nat):Int)=dc s ((dK s+2:Nat):Int):=OM;rw[show(2:Int)=((2:Nat):Int) from rfl,this,ha.body,ha.aqY]
 have ek:(Iu (s.drop (dK s))).2.2.2.1=(kY t:Int):=by show(bV (s.drop (dK s)) 9:Int)=_;rw[mG,<-ha.kind];rfl
 have eg:(Iu (s.drop (dK s))).2.2.2.2.2.2.length=(dc t ((dK t+2:Nat):Int)).toNat-20:=by show(((s.drop (dK s)).take (dc (s.drop (dK s)) 2).toNat).drop 20).length=_;rw[en,aL,aV];have:=hi.2.1;rw[en]at this;omega
 rw[ek,eg]at hs;rw[en]at hi;have hn:=hi.2.1;rw[aL,ha.1,ha.body]at hn;have hk:=Kr (kY t);exact⟨e1,e2.1,by omega,by omega,by omega⟩
theorem agP (h:(kS p).1=t)(hs:dJ p=true)(ht:TOk t):dc t (Dr t:Int)=0/\dc t (Bj t:Int)=0:=by
 unfold kS at h;rw[hs]at h;simp only[ah]at h;have w0:(cj 0).length=2:=rfl;have ha:EZ (nd (dM p).1 (cj 0) (cj 0)) (dM p).1:=HO _ (by omega) (by omega);rw[h]at ha;have hp:=B8 t;have GZ:=ha.ao8;have hl:=ht.l1;have Bq:=ha.1;have IX:=ht.n1;have Dh:=ht.n2;have hk:=Kr (kY t);have hB:Bj t+2<=t.length:=by omega
 have b0:bV (cj 0) 0=0:=rfl;have b1:bV (cj 0) 1=0:=rfl;rw[vN,vN,iU,au hB,ah,ah];have eB:∀j,j<2->bV t (Bj t+j)=bV (cj 0) j:=by intro j hj;rw[<-h];unfold nd;rw[show Bj (ya (ya (dM p).1 (Dr (dM p).1:Int) (cj 0)) (Bj (dM p).1:Int) (cj 0))=Bj (dM p).1 from by have:=GZ.2;rw[<-h]at this;exact this];exact adN (by rw[B9,w0];omega)
 have eA:∀j,j<2->bV t (Dr t+j)=bV (cj 0) j:=by intro j hj;rw[<-h];unfold nd;rw[show Dr (ya (ya (dM p).1 (Dr (dM p).1:Int) (cj 0)) (Bj (dM p).1:Int) (cj 0))=Dr (dM p).1 from by have:=GZ.1;rw[<-h]at this;exact this];rw[Vb];exact adN (by rw[w0];omega)
 have a0:=eA 0 (by omega);have a1:=eA 1 (by omega);have c0:=eB 0 (by omega);have c1:=eB 1 (by omega);rw[eG]at a0 c0;rw[a0,a1,c0,c1,b0,b1];exact⟨rfl,rfl⟩
theorem Ob (s:Bytes):aM (dz s)=s:=by
 unfold aM dz;rw[List.map_map];conv=>rhs;rw[<-List.map_id s]
 refine List.map_congr_left λb _=>?_;simp
theorem ai3 (s t:Bytes):dz (s++t)=dz s++dz t:=ee
theorem JU (s:Bytes):(dz s).length=s.length:=bL ..
theorem VA {α:Type}(l:aw α)(i j:Nat)(h:i<=j)(h2:j<=l.length):sub l (i:Int) (j:Int)=some ((l.drop i).take (j-i)):=by unfold sub;rw[zip];simp[List.take_drop,Nat.add_sub_cancel' h]
theorem Zo (a k:Nat):tdiv (a:Int) (k:Int)=((a/k:Nat):Int):=(Int.ofNat_tdiv a k).symm
theorem Tk (a k:Nat):tmod (a:Int) (k:Int)=((a%k:Nat):Int):=(Int.ofNat_tmod a k).symm
theorem mem_iff:cV m=true↔(∀x∈m,x.length=128)/\m.length<=64:=by simp only[cV,ae,aD,aZ,aF];constructor;rintro⟨h1,h2⟩;exact⟨λx hx=>by have:=h1 x hx;omega,by omega⟩;rintro⟨h1,h2⟩;exact⟨λx hx=>by have:=h1 x hx;omega,by omega⟩
theorem WH:∀{m:bN},(∀x∈m,x.length=128)->m.flatten.length=128*m.length
 |[],_=>rfl
 |x::m,h=>by have:=WH (m:=m) (λy hy=>h y (by simp[hy]));have:=h x (by simp);simp only[List.flatten_cons,ai,ba];omega
theorem RZ:∀{m:bN}(_:∀x∈m,x.length=128)(p:Nat)(hp:p<m.length)(o c:Nat),o+c<=128->(m.flatten.drop (128*p+o)).take c=(m[p].drop o).take c
 |x::m,h,0,hp,o,c,ho=>by have:=h x (by simp);simp only[List.flatten_cons,List.getElem_cons_zero];rw[List.drop_append_of_le_length (by omega),List.take_append_of_le_length (by simp;omega)];simp
 |x::m,h,p+1,hp,o,c,ho=>by have hx:=h x (by simp);simp only[List.flatten_cons,List.getElem_cons_succ];rw[show 128*(p+1)+o=x.length+(128*p+o) by omega,List.drop_length_add_append];exact RZ (m:=m) (λy hy=>h y (by simp[hy])) p (by simpa using hp) o c ho
def D0 (m:bN)(a n:Nat):Bytes:=(m.flatten.drop a).take n
theorem LL (h:cV m=true)(hn:a+n<=128*m.length):(D0 m a n).length=n:=by have:=WH (mem_iff.1 h).1;simp only[D0,aV,aL];omega
theorem ajC (m:bN)(a n:Nat):(D0 m a n).length<=n:=by simp[D0];omega
theorem agi (m:bN)(a k c:Nat):D0 m a (k+c)=D0 m a k++D0 m (a+k) c:=by unfold D0;rw[List.take_add,fw]
theorem acj (h:cV m=true){p:Nat}(hp:p<m.length){c:Nat}(ho:o+c<=128)(ha:a=128*p+o):(m[p].drop o).take c=D0 m a c:=by subst ha;exact(RZ (mem_iff.1 h).1 p hp o c ho).symm
def gM (m:bN)(a n:Int):Bool:=cV m&&decide (0<=n/\0<=a/\a+n<=128*(m.length:Int))
theorem F3 (m:bN)(a n:Int)(h:m.length<=10^9):vR m a n=some (gM m a n):=by unfold vR gM;rw[Is m h,ab,al (n:=(m.length:Int)*128)];cases hm:cV m with|false=>rfl|true=>simp only[ah,bl];by_cases h1:n>=0;by_cases h2:n<=(m.length:Int)*128;rw[al (n:=(m.length:Int)*128-n)];by_cases h3:a>=0;simp only[au h1,au h2,au h3,ah,ab];exact congrArg some (decide_eq_decide.2 (by omega));simp only[au h1,au h2,aq h3,ah,af,ab];exact congrArg some (cz).symm;simp only[au h1,aq h2,ah,af,ab];exact congrArg some (cz).symm;simp only[aq h1,af,ab];exact congrArg some (cz).symm
theorem MI (m:bN)(a n:Int)(h:m.length<=10^9):oU m a n=some (gM m a n):=by unfold oU gM;rw[EF m h,ab,al (n:=128*(m.length:Int))];cases hm:cV m with|false=>rfl|true=>simp only[ah,bl];by_cases h1:n>=0;by_cases h3:a>=0;by_cases h2:a<=128*(m.length:Int);rw[al (n:=128*(m.length:Int)-a)];simp only[au h1,au h2,au h3,ah,ab];exact congrArg some (decide_eq_decide.2 (by omega));simp only[au h1,aq h2,au h3,ah,af,ab];exact congrArg some (cz).symm;simp only[au h1,aq h3,ah,af,ab];exact congrArg some (cz).symm;simp only[aq h1,af,ab];exact congrArg some (cz).symm
theorem JJ (hm:cV m=true)(K:Int->bP->ay R):∀(n r k a f:Nat),r<=n->n<f->a+k+r<=128*m.length->
 bc (lK K ((k+r:Nat):Int) m) f (((a+k:Nat):Int),dz (D0 m a k))=K ((a+k+r:Nat):Int) (dz (D0 m a (k+r)))
 |n,r,k,a,0,_,hf,_=>by omega
 |n,0,k,a,f+1,hr,hf,hb=>by rw[bc];simp only[lK,JU,LL hm (show a+k<=128*m.length by omega),eG];rw[cz,af]
 |0,r+1,k,a,f+1,hr,hf,hb=>by omega
 |n+1,r+1,k,a,f+1,hr,hf,hb=>by
  have h64:=(mem_iff.1 hm).2;have hl:=LL hm (show a+k<=128*m.length by omega);obtain⟨p,hp⟩:∃p,(a+k)/128=p:=⟨_,rfl⟩
  obtain⟨o,ho⟩:∃o,(a+k)%128=o:=⟨_,rfl⟩
  have hpo:a+k=128*p+o:=by omega
  have ho2:o<128:=by omega
  have GZ:p<m.length:=by omega
  obtain⟨c,hc⟩:∃c,min (r+1) (128-o)=c:=⟨_,rfl⟩
  have hpg:=(mem_iff.1 hm).1 _ (aI GZ);have e1:tdiv ((a+k:Nat):Int) 128=(p:Int):=by rw[<-hp];exact Zo (a+k) 128
  have e2:tmod ((a+k:Nat):Int) 128=(o:Int):=by rw[<-ho];exact Tk (a+k) 128
  have key:=JJ hm K n (r+1-c) (k+c) a f (by omega) (by omega) (by omega);rw[bc];simp only[lK,JU,hl,e1,e2];rw[iU,ah,nX,al (n:=(p:Int)),bj GZ,ab,nX];rw[al (n:=(o:Int)+((k+(r+1):Nat):Int)),al (n:=(o:Int)+((k+(r+1):Nat):Int)-(k:Int))];rw[show(if(o:Int)+((k+(r+1):Nat):Int)-(k:Int)<128 then(o:Int)+((k+(r+1):Nat):Int)-(k:Int) else 128)=((o+c:Nat):Int) by split<;>omega];rw[VA _ _ _ (by omega) (by omega),ab,show o+c-o=c by omega,acj hm GZ (show o+c<=128 by omega) hpo];have Bq:=LL hm (show a+k+c<=128*m.length by omega);rw[Bq,aO,al,<-ai3,<-agi];rw[show((a+k:Nat):Int)+(c:Int)=((a+(k+c):Nat):Int) by omega];rw[show k+c+(r+1-c)=k+(r+1) by omega,show a+(k+c)+(r+1-c)=a+k+(r+1) by omega]at key;exact key
theorem aiY (m:bN)(a n:Int)(h:m.length<=10^9):qg m a n=some (bif gM m a n then(D0 m a.toNat n.toNat,true) else([],false)):=by have Df:=eo;unfold qg;rw[F3 m a n h,ab];cases hw:gM m a n with|false=>rfl|true=>simp only[gM,ae,aF]at hw;obtain⟨hm,h1,h2,h3⟩:=hw;have h64:=(mem_iff.1 hm).2;simp only[aj,af,ah];rw[zip,aO];obtain⟨a,rfl⟩:=aQ h2;obtain⟨n,rfl⟩:=aQ h1;have:=JJ hm (λ(y4:Int) (y5:bP)=>some (aM y5,true)) n n 0 a fuel (by omega) (by omega) (by omega);rw[cx,eG]at this;refine Eq.trans this ?_;simp only[Ob,ax]
def Ix (d p:Int)(w:Bool)(x:aE):Bool:=sf d p x&&(x.2.2.2|| !w)
def uy (l:aw aE)(d p:Int)(w:Bool):Int:=match l.findIdx? (Ix d p w)with|some i=>(l.getD i No).2.2.1|none=> -1
theorem aj0 (l:aw aE)(d p:Int)(w:Bool)(h:l.length<=10^9):Bf l d p w=some (uy l d p w):=by unfold Bf uy;refine Eq.trans (GO (p:=Ix d p w) (hit:=λi=>aa (idx l i) λx=>some x.2.2.1) (fin:=some (-1)) l (by omega) (λi hi nx=>?_) (λnx=>?_)) ?_;simp only[vp];rw[iU,bj hi,al];simp only[ah,ab,Ix,sf];cases l[i].1==d<;>cases l[i].2.1==p<;>cases l[i].2.2.2<;>cases w<;>rfl;simp only[vp];rw[cz];rfl;cases hf:l.findIdx? (Ix d p w)with|none=>rfl|some i=>obtain⟨hi,_⟩:=List.findIdx?_eq_some_iff_getElem.1 hf;simp only[bj hi,ab,cH hi]
theorem J2 (h:eE l=true)(hi:i<l.length):Iw l[i]=true/\∀j (hj:j<i),sf l[i].1 l[i].2.1 (l[j]'(by omega))=false:=by simp only[eE,ae,aD,bD]at h;have:=h.2 i hi;simp only[Nn,ae,aD,bD,cH hi,aK]at this;exact⟨this.1,λj hj=>by have:=this.2 j hj;rwa[cH (by omega)]at this⟩
theorem Ll {p:Int}{m:aE}:sf d p m=true↔m.1=d/\m.2.1=p:=by simp[sf]
theorem ajd (h:eE l=true){p:Int}{j:Nat}(hi:i<l.length)(hj:j<l.length)(h1:sf d p l[i]=true)(h2:sf d p l[j]=true):i=j:=by have a:=Ll.1 h1;have b:=Ll.1 h2;rcases Nat.lt_trichotomy i j with h3|h3|h3;have:=(J2 h hj).2 i h3;rw[b.1,b.2,h1]at this;cases this;exact h3;have:=(J2 h hi).2 j h3;rw[a.1,a.2,h2]at this;cases this
theorem PH (h:eE l=true)(d p:Int)(w:Bool)(h1:0<=uy l d p w):uy l d p w<=63/\0<=p/\p<=1023:=by unfold uy at h1⊢;cases hf:l.findIdx? (Ix d p w)with|none=>rw[hf]at h1;simp at h1|some i=>obtain⟨hi,h2,_⟩:=List.findIdx?_eq_some_iff_getElem.1 hf;have h3:=(J2 h hi).1;simp only[Ix,ae,Ll]at h2;simp only[Iw,ae,aX]at h3;simp only[cH hi];omega
theorem afi (l:aw aE)(d:Int)(a:Nat)(w:Bool)(h:l.length<=10^9)(hm:eE l=true)(ha:a<=9223372036854775807): Er l d (a:Int) w=some (if 0<=uy l d ((a/128:Nat):Int) w then uy l d ((a/128:Nat):Int) w*128+((a%128:Nat):Int) else-1):=by
 have e1:tdiv (a:Int) 128=((a/128:Nat):Int):=Zo a 128;have e2:tmod (a:Int) 128=((a%128:Nat):Int):=Tk a 128;unfold Er;rw[cz,af,nX,e1,e2,al,Xx l _ _ h,ab];generalize ((a/128:Nat):Int)=p;have tV:=PH hm d p w;unfold Ym;cases hf:l.findIdx? (sf d p)with
 |none=>
  have hn:uy l d p w= -1:=by unfold uy;rw[List.findIdx?_eq_none_iff]at hf;rw[List.findIdx?_eq_none_iff.2 (λx hx=>by rw[Ix,hf x hx];rfl)]
  rw[hn];rfl
 |some i=>
  obtain⟨hi,h2,h3⟩:=List.findIdx?_eq_some_iff_getElem.1 hf;simp only;rw[cz,bj hi];simp only[af,ab];cases hq:l[i].2.2.2|| !w with
  |true=>
   have hF:uy l d p w=l[i].2.2.1:=by unfold uy;rw[List.findIdx?_eq_some_iff_getElem.2 ⟨hi,by rw[Ix,h2,hq];rfl,λj hj=>by have:=h3 j hj;rw[Ix,Bool.eq_false_iff.2 this];simp⟩];exact congrArg (λx:aE=>x.2.2.1) (cH hi No)
   have h4:=(J2 hm hi).1;simp only[Iw,ae,aX]at h4
   rw[hF,aH (show 0<=l[i].2.2.1 by omega),show(aa (cond w (some (!l[i].2.2.2)) (some false)) λq3=>cond q3 (some (-1:Int)) _)=_ from by
    have:(cond w (some (!l[i].2.2.2)) (some false))=some false:=by cases w<;>cases hz:l[i].2.2.2<;>rw[hz]at hq<;>first|rfl|cases hq
    rw[this,ab,af]]
   rw[aG (show¬(128:Nat)=0 by omega),al (n:=l[i].2.2.1*128),al]
  |false=>
   have hF:uy l d p w= -1:=by unfold uy;rw[List.findIdx?_eq_none_iff.2 (λx hx=>by obtain⟨j,hj,rfl⟩:=List.getElem_of_mem hx;cases hx2:sf d p l[j]with|false=>rw[Ix,hx2];rfl|true=>have:=ajd hm hi hj h2 hx2;subst this;rw[Ix,hq];simp)]
   rw[hF,aG (show¬(0:Int)<= -1 by omega)];cases w with|false=>simp at hq|true=>simp only[aj,Bool.or_false]at hq;simp only[ah,hq,ab,bw]
def mq (l:aw aE)(m:bN)(d:Int)(w:Bool):Nat->Nat->Nat->ay (aw (Int×Int))
 |0,_,_=>some []
 |n+1,a,r=>if r=0 then some [] else
  if 0<=uy l d ((a/128:Nat):Int) w/\uy l d ((a/128:Nat):Int) w<(m.length:Int) then
   (mq l m d w n (a+min (128-a%128) r) (r-min (128-a%128) r)).map (λq=>(uy l d ((a/128:Nat):Int) w*128+((a%128:Nat):Int),((min (128-a%128) r:Nat):Int))::q)
  else none
theorem VG (hm:cV m=true){f:Int}(h0:0<=f){c:Nat}(hc:0<c)(ho:o+c<=128):gM m (f*128+(o:Int)) (c:Int)=decide (f<(m.length:Int)):=by rw[gM,hm,bl];exact decide_eq_decide.2 (by omega)
theorem Zz (hm:cV m=true){f:Int}(h0:0<=f):gM m (f*128) 128=decide (f<(m.length:Int)):=by rw[gM,hm,bl];exact decide_eq_decide.2 (by omega)
theorem JL (hl:eE l=true)(hL:l.length<=10^9)(hm:cV m=true)(d:Int)(w:Bool):∀(n a r f:Nat)(acc:aw (Int×Int)),r<=n->n<f->acc.length+n<=1000000->a<=9223372036854775807->
 bc (rZ (λ(y9:Int) (Bx:Int) (Aq:aw (Int×Int))=>some (Aq,true)) (λ(zW:Int) (Dv:Int) (xF:aw (Int×Int)) (Dx:Bool) (Fi:aw (Int×Int))=>some (xF,Dx)) l d w ([]:aw (Int×Int)) false m) f ((a:Int),(r:Int),acc)
  =match mq l m d w n a r with|some q=>some (acc++q,true)|none=>some ([],false)
 |n,a,r,0,acc,_,hf,_,_=>by omega
 |0,a,r,f+1,acc,hr,hf,hA,ha=>by rw[bc];simp only[rZ];rw[cz];simp[mq]
 |n+1,a,r,f+1,acc,hr,hf,hA,ha=>by
  have h64:=(mem_iff.1 hm).2;rw[bc];simp only[rZ,mq];by_cases h0:r=0;rw[cz,aH h0];simp;have e2:tmod (a:Int) 128=((a%128:Nat):Int):=Tk a 128;have tV:=PH hl d ((a/128:Nat):Int) w;rw[iU,aG h0,afi l d a w hL hl ha,ab,nX,e2,al (n:=128-((a%128:Nat):Int))];obtain⟨c,hc⟩:∃c,min (128-a%128) r=c:=⟨_,rfl⟩
  rw[hc,show(if 128-((a%128:Nat):Int)<(r:Int) then 128-((a%128:Nat):Int) else(r:Int))=(c:Int) by split<;>omega];generalize hP:uy l d ((a/128:Nat):Int) w=P at tV⊢;by_cases hP0:0<=P;have tV:=tV hP0;simp only[aH hP0,ah];rw[aq (show¬P*128+((a%128:Nat):Int)<0 by omega),F3 m _ _ (by omega),VG hm hP0 (by omega) (by omega)];simp only[af,ab];by_cases hP1:P<(m.length:Int);rw[au hP1,aH ⟨hP0,hP1⟩];simp only[aj,af];rw[aO (by simp;omega),al (n:=(a:Int)+(c:Int)),al (n:=(r:Int)-(c:Int)),aq (show¬(a:Int)+(c:Int)<0 by omega)];simp only[af,ab];have key:=JL hl hL hm d w n (a+c) (r-c) f (acc++[(P*128+((a%128:Nat):Int),(c:Int))]) (by omega) (by omega) (by simp;omega) (by omega);rw[show((a+c:Nat):Int)=(a:Int)+(c:Int) by omega,show((r-c:Nat):Int)=(r:Int)-(c:Int) by omega]at key;rw[key];cases mq l m d w n (a+c) (r-c)with|none=>rfl|some q=>simp
  rw[aq hP1,nX];rfl;simp only[aG hP0,ah];rw[nX,iU];rfl
theorem Kq (hl:eE l=true)(hL:l.length<=10^9)(hm:cV m=true)(d:Int)(w:Bool):∀(n a r f:Nat)(acc:aw (Int×Int)),r<=n->n<f->acc.length+n<=1000000->a<=9223372036854775807->
 bc (lA (λ(Bx:Int) (Aq:Int) (zW:bP) (Dv:bP)=>some (zW,Dv,true)) (λ(xF:Int) (Dx:Int) (Fi:bP) (Ry:bP) (QE:Bool) (QF:bP) (VH:bP)=>some (Fi,Ry,QE)) l d w ([]:bP) ([]:bP) false m) f ((a:Int),(r:Int),acc.map (·.1),acc.map (·.2))
  =match mq l m d w n a r with|some q=>some ((acc++q).map (·.1),(acc++q).map (·.2),true)|none=>some ([],[],false)
 |n,a,r,0,acc,_,hf,_,_=>by omega
 |0,a,r,f+1,acc,hr,hf,hA,ha=>by rw[bc];simp only[lA];rw[cz];simp[mq]
 |n+1,a,r,f+1,acc,hr,hf,hA,ha=>by
  have h64:=(mem_iff.1 hm).2;rw[bc];simp only[lA,mq];by_cases h0:r=0;rw[cz,aH h0];simp;have e1:tdiv (a:Int) 128=((a/128:Nat):Int):=Zo a 128;have e2:tmod (a:Int) 128=((a%128:Nat):Int):=Tk a 128;have tV:=PH hl d ((a/128:Nat):Int) w;rw[au (show(r:Int)>0 by omega),au (show(a:Int)>=0 by omega),aG h0];simp only[ah];rw[nX,e1,e2,al (n:=((a/128:Nat):Int)),aj0 l _ _ w hL,ab,nX,al (n:=128-((a%128:Nat):Int))];obtain⟨c,hc⟩:∃c,min (128-a%128) r=c:=⟨_,rfl⟩
  rw[hc,show(if 128-((a%128:Nat):Int)<(r:Int) then 128-((a%128:Nat):Int) else(r:Int))=(c:Int) by split<;>omega];generalize hP:uy l d ((a/128:Nat):Int) w=P at tV⊢;by_cases hP0:0<=P;have tV:=tV hP0;rw[aq (show¬P<0 by omega),al (n:=P*128),MI m _ _ (by omega),Zz hm hP0];simp only[af,ab];by_cases hP1:P<(m.length:Int);rw[au hP1,aH ⟨hP0,hP1⟩];simp only[aj,af];rw[aO (by simp;omega),aO (by simp;omega),al (n:=P*128+((a%128:Nat):Int)),al (n:=(a:Int)+(c:Int)),al (n:=(r:Int)-(c:Int))];have key:=Kq hl hL hm d w n (a+c) (r-c) f (acc++[(P*128+((a%128:Nat):Int),(c:Int))]) (by omega) (by omega) (by simp;omega) (by omega);rw[show((a+c:Nat):Int)=(a:Int)+(c:Int) by omega,show((r-c:Nat):Int)=(r:Int)-(c:Int) by omega,ee,ee]at key;refine Eq.trans key ?_;cases mq l m d w n (a+c) (r-c)with|none=>rfl|some q=>simp
  rw[aq hP1,nX];rfl;rw[nX,iU];rfl
def kZ (l:aw aE)(m:bN)(d a n:Int)(w:Bool):aw (Int×Int)×Bool:=
 bif eE l&&(cV m&&cS n 0 4096) then
  (bif n==0 then([],true) else bif decide (a<0) then([],false) else match mq l m d w n.toNat a.toNat n.toNat with|some q=>(q,true)|none=>([],false))
 else([],false)
theorem XB (l:aw aE)(m:bN)(d a n:Int)(w:Bool)(hl:l.length<=10^9)(hm:m.length<=10^9)(ha:a<=9223372036854775807):zG l m d a n w=some (kZ l m d a n w):=by
 have Df:=eo;unfold zG kZ;simp only[JG l hl,Is m hm,cl,ab];cases hB:eE l;rfl;cases hM:cV m;rfl;cases hN:cS n 0 4096;rfl;have hn:=aX.1 hN;simp only[aj,af,ab,cG,ah];cases h0:n==0;case true=>rfl
 by_cases hA:a<0;rw[au hA];rfl;rw[aq hA];simp only[af];obtain⟨a,rfl⟩:=aQ (show 0<=a by omega);obtain⟨n,rfl⟩:=aQ hn.1;rw[JL hB hl hM d w n a n fuel [] (by omega) (by omega) (by simp;omega) (by omega)];simp only[ax];cases mq l m d w n a n<;>rfl
theorem agD (l:aw aE)(m:bN)(d a n:Int)(w:Bool)(hl:l.length<=10^9)(hm:m.length<=10^9)(ha:a<=9223372036854775807):zd l m d a n w=some ((kZ l m d a n w).1.map (·.1),(kZ l m d a n w).1.map (·.2),(kZ l m d a n w).2):=by
 have Df:=eo;unfold zd kZ;simp only[Ko l hl,EF m hm,dq,ab];cases hB:eE l;rfl;cases hM:cV m;rfl;cases hN:cS n 0 4096;rfl;have hn:=aX.1 hN;simp only[aj,af,ab,cG,ah];obtain⟨n,rfl⟩:=aQ hn.1;cases h0:((n:Int)==0)with
 |true=>
  have:n=0:=by simpa using h0
  subst this;obtain⟨f,hf⟩:∃f,fuel=f+1:=⟨fuel-1,by omega⟩
  rw[hf,bc];rfl
 |false=>
  have hn0:n≠0:=by simpa using h0
  by_cases hA:a<0;obtain⟨f,hf⟩:∃f,fuel=f+1:=⟨fuel-1,by omega⟩
  rw[au hA,hf,bc];simp only[lA];rw[iU,cz];rfl;rw[aq hA];simp only[af];obtain⟨a,rfl⟩:=aQ (show 0<=a by omega);refine Eq.trans (Kq hB hl hM d w n a n fuel [] (by omega) (by omega) (by simp;omega) (by omega)) ?_;simp only[ax];cases mq l m d w n a n<;>rfl
def DX (x:Bytes)(o:Nat)(t:Bytes):Bytes:=x.take o++(t++x.drop (o+t.length))
theorem SM (h:o+t.length<=x.length):(DX x o t).length=x.length:=by simp only[DX,ai,aV,aL];omega
theorem af5 (x:Bytes)(o:Nat)(t:Bytes):aM (DY (dz x) o (dz t))=DX x o t:=by
 have e:DY (dz x) o (dz t)=dz (DX x o t):=by simp only[DY,DX,dz,ee,List.map_take,List.map_drop,bL]
 rw[e,Ob]
theorem ajy (h:o+t.length<=x.length):ya x (o:Int) t=DX x o t:=by unfold ya fA;rw[au ⟨by omega,by omega⟩];simp only[ah,ax,DX,aY]
def yq:Nat->bN->Nat->Bytes->bN
 |0,m,_,_=>m
 |n+1,m,a,s=>if s.length=0 then m else
  yq n (m.set (a/128) (DX (m.getD (a/128) []) (a%128) (s.take (128-a%128)))) (a+min (128-a%128) s.length) (s.drop (128-a%128))
def Dm (m:bN):Prop:=(∀x∈m,x.length=128)/\m.length<=64
theorem qI:cV m=true↔Dm m:=mem_iff
theorem Lz {p:Nat}(h:Dm m)(hx:x.length=128):Dm (m.set p x):=by refine⟨λy hy=>?_,by rw[aB];exact h.2⟩;rcases dv hy with g|g;exact h.1 y g;rw[g];exact hx
theorem EW (h:Dm m)(hs:s.length≠0)(ha:a+s.length<=128*m.length): ∃(hp:a/128<m.length),(m[a/128]'hp).length=128/\(DX (m[a/128]'hp) (a%128) (s.take (128-a%128))).length=128:=by
 have hp:a/128<m.length:=by omega
 have hl:=h.1 _ (aI hp);refine⟨hp,hl,?_⟩;rw[SM (by rw[aV,hl];omega),hl]
theorem Bm:∀(n:Nat){m:bN}{a:Nat}{s:Bytes},Dm m->a+s.length<=128*m.length->Dm (yq n m a s)/\(yq n m a s).length=m.length
 |0,m,a,s,h,_=>⟨h,rfl⟩
 |n+1,m,a,s,h,ha=>by rw[yq];split;exact⟨h,rfl⟩;rename_i hs;obtain⟨hp,hl,ho⟩:=EW h hs ha;rw[cH hp];have:=Bm n (m:=m.set (a/128) (DX m[a/128] (a%128) (s.take (128-a%128)))) (a:=a+min (128-a%128) s.length) (s:=s.drop (128-a%128)) (Lz h ho) (by rw[aB,aL];omega);rw[aB]at this;exact this
theorem HH (K:Int->Bytes->bN->ay R)(K':bN->ay R)(hK:∀a m,K a [] m=K' m):∀(n:Nat)(m:bN)(a:Nat)(s:Bytes)(f:Nat),s.length<=n->n<f->Dm m->a+s.length<=128*m.length->
 bc (nO K ([]:bN)) f ((a:Int),s,m)=K' (yq n m a s)
 |n,m,a,s,0,_,hf,_,_=>by omega
 |n,m,a,s,f+1,hs,hf,hm,ha=>by
  rw[bc];simp only[nO];by_cases h0:s.length=0;have:s=[]:=cm h0;subst this;rw[aq (by simp),af,hK];cases n<;>simp[yq];cases n with
  |zero=>omega
  |succ n=>
   obtain⟨hp,hl,ho⟩:=EW hm h0 ha;have h64:=hm.2;have e1:tdiv (a:Int) 128=((a/128:Nat):Int):=Zo a 128;have e2:tmod (a:Int) 128=((a%128:Nat):Int):=Tk a 128;rw[iU,ah,nX,e1,e2,al (n:=((a/128:Nat):Int)),bj hp,ab,aO,nX];have qO:sub (dz m[a/128]) ((a%128:Nat):Int) ((dz m[a/128]).length:Int)=some ((dz m[a/128]).drop (a%128)):=by rw[VA _ _ _ (by rw[JU];omega) (bh _),cd (by rw[aL];exact bh _)]
   rw[qO,ab,nX,ab,ab];have hd:((dz m[a/128]).drop (a%128)).length=128-a%128:=by rw[aL,JU,hl]
   rw[hd];have hdr:s.drop (min (128-a%128) s.length)=s.drop (128-a%128):=by by_cases h3:128-a%128<=s.length;rw[iI h3];rw[Nat.min_eq_right (by omega),dg (bh _),dg (by omega)]
   have aqy:sub s (((min (128-a%128) s.length:Nat)):Int) ((s.length:Int))=some (s.drop (128-a%128)):=by rw[<-hdr];unfold sub;rw[zip];simp
   rw[aqy,ab,al (n:=(a:Int)+((min (128-a%128) s.length:Nat):Int)),ax,ax,af5];rw[yq,aG h0,cH hp,show(a:Int)+((min (128-a%128) s.length:Nat):Int)=((a+min (128-a%128) s.length:Nat):Int) by omega];exact HH K K' hK n _ _ _ f (by rw[aL];omega) (by omega) (Lz hm ho) (by rw[aB,aL];omega)
theorem HS (K:Int->Bytes->bN->ay R)(K':bN->ay R)(hK:∀a m,K a [] m=K' m):∀(n:Nat)(m:bN)(a:Nat)(s:Bytes)(f:Nat),s.length<=n->n<f->Dm m->a+s.length<=128*m.length->
 bc (nU K ([]:bN)) f ((a:Int),s,m)=K' (yq n m a s)
 |n,m,a,s,0,_,hf,_,_=>by omega
 |n,m,a,s,f+1,hs,hf,hm,ha=>by
  rw[bc];simp only[nU];by_cases h0:s.length=0;have:s=[]:=cm h0;subst this;rw[aq (by simp),af,hK];cases n<;>simp[yq];cases n with
  |zero=>omega
  |succ n=>
   obtain⟨hp,hl,ho⟩:=EW hm h0 ha;have h64:=hm.2;have e1:tdiv (a:Int) 128=((a/128:Nat):Int):=Zo a 128;have e2:tmod (a:Int) 128=((a%128:Nat):Int):=Tk a 128;rw[iU,ah,nX,nX,nX,e1,e2,al (n:=((a/128:Nat):Int)),al (n:=128-((a%128:Nat):Int)),bj hp,ab];obtain⟨c,hc⟩:∃c,min (128-a%128) s.length=c:=⟨_,rfl⟩
   rw[show(if 128-((a%128:Nat):Int)<(s.length:Int) then 128-((a%128:Nat):Int) else(s.length:Int))=(c:Int) by split<;>omega];have ht:s.take c=s.take (128-a%128):=by by_cases h3:128-a%128<=s.length;rw[<-hc,iI h3];rw[<-hc,Nat.min_eq_right (by omega),cd (bh _),cd (by omega)]
   have hdr:s.drop c=s.drop (128-a%128):=by by_cases h3:128-a%128<=s.length;rw[<-hc,iI h3];rw[<-hc,Nat.min_eq_right (by omega),dg (bh _),dg (by omega)]
   have hs1:sub s 0 (c:Int)=some (s.take (128-a%128)):=by rw[<-ht];unfold sub;rw[zip];simp
   have Xi:sub s (c:Int) (s.length:Int)=some (s.drop (128-a%128)):=by rw[<-hdr];unfold sub;rw[zip];simp
   rw[hs1,ab,NP _ _ _,ab,ab,ab,Xi,ab,ajy (by rw[aV,hl];omega),al (n:=(a:Int)+(c:Int)),ax];rw[yq,aG h0,cH hp,hc,show(a:Int)+(c:Int)=((a+c:Nat):Int) by omega];exact HS K K' hK n _ _ _ f (by rw[aL];omega) (by omega) (Lz hm ho) (by rw[aB,aL];omega)
def pU (m:bN)(a:Int)(s:Bytes):bN×Bool:=bif gM m a (s.length:Int) then(yq s.length m a.toNat s,true) else(m,false)
theorem abB (m:bN)(a:Int)(s:Bytes)(h:m.length<=10^9)(hs:s.length<=10^9):sW m a s=some (pU m a s):=by have Df:=eo;unfold sW pU;rw[gB m,ab,F3 m _ _ h,ab];cases hw:gM m a (s.length:Int);rfl;simp only[gM,ae,aF]at hw;obtain⟨a,rfl⟩:=aQ hw.2.2.1;simp only[aj,af,ah,ax];exact HH _ (λm=>some (m,true)) (λ_ _=>rfl) s.length m a s fuel (bh _) (by omega) (qI.1 hw.1) (by omega)
theorem acE (m:bN)(a:Int)(s:Bytes)(h:m.length<=10^9)(hs:s.length<=10^9):tr m a s=some (pU m a s):=by have Df:=eo;unfold tr pU;rw[Eu m,ab,MI m _ _ h,ab];cases hw:gM m a (s.length:Int);rfl;simp only[gM,ae,aF]at hw;obtain⟨a,rfl⟩:=aQ hw.2.2.1;simp only[aj,af,ah,ax];exact HS _ (λm=>some (m,true)) (λ_ _=>rfl) s.length m a s fuel (bh _) (by omega) (qI.1 hw.1) (by omega)
theorem GD (m:bN)(a:Int)(s:Bytes):(pU m a s).1.length=m.length:=by unfold pU;cases hw:gM m a (s.length:Int);rfl;simp only[gM,ae,aF]at hw;exact(Bm s.length (qI.1 hw.1) (by omega)).2
def LG:aw (Int×Int)->bN->Bytes->bN
 |[],m,_=>m
 |p::q,m,s=>LG q (pU m p.1 (s.take p.2.toNat)).1 (s.drop p.2.toNat)
theorem Yy:∀(q:aw (Int×Int))(m:bN)(s:Bytes),(LG q m s).length=m.length
 |[],m,s=>rfl
 |p::q,m,s=>by rw[LG,Yy q,GD]
def Nw (q:aw (Int×Int)):Int:=(q.map (·.2)).sum
theorem ad7:∀(q:aw (Int×Int)),(∀p∈q,0<=p.2)->0<=Nw q
 |[],_=>cX _
 |p::q,h=>by have:=ad7 q (λx hx=>h x (by simp[hx]));have:=h p (by simp);simp only[Nw,da,fi]at*;omega
theorem YC {p:Int×Int}{q:aw (Int×Int)}(hc:∀x∈p::q,0<=x.2)(hs:(s.length:Int)=Nw (p::q)):0<=p.2/\p.2<=(s.length:Int)/\((s.drop p.2.toNat).length:Int)=Nw q:=by
 have h1:=hc p (by simp);have h2:=ad7 q (λx hx=>hc x (by simp[hx]));have h3:Nw (p::q)=p.2+Nw q:=by simp[Nw]
 rw[h3]at hs;refine⟨h1,by omega,?_⟩;rw[aL];omega
theorem Ti (h0:0<=c)(h1:c<=(s.length:Int)):sub s 0 c=some (s.take c.toNat):=by unfold sub;rw[zip];simp
theorem Zh (h0:0<=c)(h1:c<=(s.length:Int)):sub s c (s.length:Int)=some (s.drop c.toNat):=by unfold sub;rw[zip];simp
theorem Mp (K:Bytes->Int->bN->ay (bN×Bool))(hK:∀s i m,K s i m=some (m,true)):∀(rest pre:aw (Int×Int))(m:bN)(s:Bytes)(f:Nat),rest.length<f->pre.length+rest.length<=1000000->(∀x∈rest,0<=x.2)->(s.length:Int)=Nw rest->m.length<=10^9->s.length<=1000000->
 bc (zF K (pre++rest) ((pre++rest).length:Int) ([]:bN)) f (s,(pre.length:Int),m)=some (LG rest m s,true)
 |rest,pre,m,s,0,hf,_,_,_,_,_=>by omega
 |[],pre,m,s,f+1,_,_,_,_,_,_=>by rw[bc];simp only[zF];rw[aq (by simp),af,hK];rfl
 |p::q,pre,m,s,f+1,hf,hn,hc,hs,hm,hl=>by
  obtain⟨h1,h2,h3⟩:=YC hc hs;simp only[ba]at hf hn;have hi:pre.length<(pre++p::q).length:=by simp
  have hp:(pre++p::q)[pre.length]=p:=by simp
  rw[bc];simp only[zF];rw[au (by simp;omega),bj hi,hp,al];simp only[ah,ab,Ti h1 h2,Zh h1 h2,abB m _ _ hm (show(s.take p.2.toNat).length<=10^9 by rw[aV];omega)];have key:=Mp K hK q (pre++[p]) (pU m p.1 (s.take p.2.toNat)).1 (s.drop p.2.toNat) f (by omega) (by simp;omega) (λx hx=>hc x (by simp[hx])) h3 (by rw[GD];exact hm) (by rw[aL];omega);have el:((pre++[p]).length:Int)=(pre.length:Int)+1:=by simp
  rw[aY,List.singleton_append,el]at key;rw[LG];exact key
theorem MH (K:Bytes->Int->bN->ay (bN×Bool))(hK:∀s i m,K s i m=some (m,true)):∀(rest pre:aw (Int×Int))(m:bN)(s:Bytes)(f:Nat),rest.length<f->pre.length+rest.length<=1000000->(∀x∈rest,0<=x.2)->(s.length:Int)=Nw rest->m.length<=10^9->s.length<=1000000->
 bc (oI K ((pre++rest).map (·.1)) ((pre++rest).map (·.2)) ([]:bN)) f (s,(pre.length:Int),m)=some (LG rest m s,true)
 |rest,pre,m,s,0,hf,_,_,_,_,_=>by omega
 |[],pre,m,s,f+1,_,_,_,_,_,_=>by rw[bc];simp only[oI];rw[aq (by simp),af,hK];rfl
 |p::q,pre,m,s,f+1,hf,hn,hc,hs,hm,hl=>by
  obtain⟨h1,h2,h3⟩:=YC hc hs;simp only[ba]at hf hn;have hi:pre.length<(pre++p::q).length:=by simp
  have hp:(pre++p::q)[pre.length]=p:=by simp
  have i1:idx ((pre++p::q).map (·.1)) (pre.length:Int)=some p.1:=by rw[bj (by simp),List.getElem_map,hp]
  have i2:idx ((pre++p::q).map (·.2)) (pre.length:Int)=some p.2:=by rw[bj (by simp),List.getElem_map,hp]
  rw[bc];simp only[oI];rw[au (by simp;omega),i1,i2,al];simp only[ah,ab,Ti h1 h2,Zh h1 h2,acE m _ _ hm (show(s.take p.2.toNat).length<=10^9 by rw[aV];omega)];have key:=MH K hK q (pre++[p]) (pU m p.1 (s.take p.2.toNat)).1 (s.drop p.2.toNat) f (by omega) (by simp;omega) (λx hx=>hc x (by simp[hx])) h3 (by rw[GD];exact hm) (by rw[aL];omega);have el:((pre++[p]).length:Int)=(pre.length:Int)+1:=by simp
  rw[aY,List.singleton_append,el]at key;rw[LG];exact key
theorem PL (l:aw aE)(m:bN)(d:Int)(w:Bool):∀(n a r:Nat)(q:aw (Int×Int)),r<=n->mq l m d w n a r=some q->Nw q=(r:Int)/\(∀p∈q,0<=p.2)/\q.length<=n
 |0,a,r,q,hr,h=>by simp only[mq,bp]at h;subst h;exact⟨by show(0:Int)=_;omega,by simp,by simp⟩
 |n+1,a,r,q,hr,h=>by simp only[mq]at h;split at h;simp only[bp]at h;subst h;exact⟨by show(0:Int)=_;omega,by simp,by simp⟩;split at h;simp only[Option.map_eq_some_iff]at h;obtain⟨q',h1,rfl⟩:=h;obtain⟨i1,i2,i3⟩:=PL l m d w n _ _ q' (by omega) h1;refine⟨?_,?_,by simp only[ba];omega⟩;simp only[Nw,da,fi]at i1⊢;rw[i1];omega;intro p hp;rcases bM.1 hp with rfl|hp;show(0:Int)<=((min (128-a%128) r:Nat):Int);omega;exact i2 p hp;cases h
theorem SY (l:aw aE)(m:bN)(d a n:Int)(w:Bool)(h:(kZ l m d a n w).2=true):Nw (kZ l m d a n w).1=n/\(∀p∈(kZ l m d a n w).1,0<=p.2)/\(kZ l m d a n w).1.length<=4096/\n<=4096:=by
 unfold kZ at h⊢;cases hB:eE l&&(cV m&&cS n 0 4096)with|false=>rw[hB]at h;simp at h|true=>?_
 rw[hB]at h;simp only[ae,aX]at hB;simp only[ah]at h⊢;cases h0:n==0 with
 |true=>
  have:n=0:=by simpa using h0
  subst this;exact⟨rfl,by simp,by simp,by omega⟩
 |false=>rw[h0]at h;simp only[af]at h⊢;cases ha:decide (a<0)with|true=>rw[ha]at h;simp at h|false=>rw[ha]at h;simp only[af]at h⊢;cases hq:mq l m d w n.toNat a.toNat n.toNat with|none=>rw[hq]at h;cases h|some q=>obtain⟨i1,i2,i3⟩:=PL l m d w _ _ _ q (bh _) hq;exact⟨by simp only;rw[i1];omega,i2,by simp only;omega,by omega⟩
def iM (l:aw aE)(m:bN)(d a:Int)(s:Bytes)(w:Bool):bN×Bool:=
 bif (kZ l m d a (s.length:Int) w).2 then(LG (kZ l m d a (s.length:Int) w).1 m s,true) else(m,false)
theorem kE (l:aw aE)(m:bN)(d a:Int)(s:Bytes)(w:Bool):(iM l m d a s w).1.length=m.length:=by unfold iM;cases (kZ l m d a (s.length:Int) w).2 with|false=>rfl|true=>exact Yy _ _ _
theorem XA (l:aw aE)(m:bN)(d a:Int)(s:Bytes)(w:Bool)(hl:l.length<=10^9)(hm:m.length<=10^9)(ha:a<=9223372036854775807):F5 l m d a s w=some (iM l m d a s w):=by have Df:=eo;unfold F5 iM;rw[gB m,ab,XB l m d a _ w hl hm ha,ab];have hS:=SY l m d a (s.length:Int) w;generalize kZ l m d a (s.length:Int) w=r at hS⊢;cases hr:r.2;rfl;obtain⟨h1,h2,h3,h4⟩:=hS hr;simp only[aj,af,ah];exact Mp _ (λ_ _ _=>rfl) r.1 [] m s fuel (by omega) (by simp;omega) h2 h1.symm hm (by omega)
theorem Km (l:aw aE)(m:bN)(d a:Int)(s:Bytes)(hl:l.length<=10^9)(hm:m.length<=10^9)(ha:a<=9223372036854775807):uC l m d a s=some (iM l m d a s true):=by have Df:=eo;unfold uC iM;rw[agD l m d a _ true hl hm ha,ab,Eu m,ab];have hS:=SY l m d a (s.length:Int) true;generalize kZ l m d a (s.length:Int) true=r at hS⊢;cases hr:r.2;rfl;obtain⟨h1,h2,h3,h4⟩:=hS hr;simp only[aj,af,ah];exact MH _ (λ_ _ _=>rfl) r.1 [] m s fuel (by omega) (by simp;omega) h2 h1.symm hm (by omega)
theorem El (l:aw aE)(m:bN)(d a:Int)(s:Bytes)(hl:l.length<=10^9)(hm:m.length<=10^9)(ha:a<=9223372036854775807):qG l m d a s=some (iM l m d a s true):=by rw[qG,XA l m d a s true hl hm ha];rfl
def wrM (x:aE):aE:=(x.1,x.2.1,x.2.2.1,true)
theorem getD_map (hi:i<l.length):(l.map wrM).getD i No=wrM (l.getD i No):=by rw[cH (by simpa using hi),cH hi,List.getElem_map]
theorem UY (l:aw aE):eE (l.map wrM)=eE l:=by
 unfold eE;rw[bL];congr 1;rw[cq,aD,aD];have key:∀i,i<l.length->Nn (l.map wrM) i=Nn l i:=by
  intro i hi;unfold Nn;rw[getD_map hi];congr 1;rw[cq,aD,aD];constructor;intro h j hj;have hjl:j<l.length:=by have:=bD.1 hj;omega
  have:=h j hj;rw[getD_map hjl]at this;exact this;intro h j hj;have hjl:j<l.length:=by have:=bD.1 hj;omega
  rw[getD_map hjl];exact h j hj
 constructor;intro h i hi;rw[<-key i (bD.1 hi)];exact h i hi;intro h i hi;rw[key i (bD.1 hi)];exact h i hi
theorem aju (l:aw aE)(d p:Int):uy (l.map wrM) d p true=uy l d p false:=by
 unfold uy;rw[List.findIdx?_map];have e:(Ix d p true∘wrM)=Ix d p false:=by funext x;simp only[Function.comp,Ix,sf,wrM,bw,iA,iB]
 rw[e];cases hf:l.findIdx? (Ix d p false)with|none=>rfl|some i=>obtain⟨hi,_⟩:=List.findIdx?_eq_some_iff_getElem.1 hf;simp only[getD_map hi];rfl
theorem SP (l:aw aE)(m:bN)(d:Int):∀n a r,mq (l.map wrM) m d true n a r=mq l m d false n a r
 |0,a,r=>rfl
 |n+1,a,r=>by simp only[mq,aju,SP l m d n]
theorem alS (l:aw aE)(m:bN)(d a:Int)(s:Bytes):iM (l.map wrM) m d a s true=iM l m d a s false:=by
 have e:kZ (l.map wrM) m d a (s.length:Int) true=kZ l m d a (s.length:Int) false:=by simp only[kZ,UY,SP]
 simp only[iM,e]
theorem Rn (l:aw aE)(m:bN)(d a:Int)(s:Bytes)(hl:l.length<=10^9)(hm:m.length<=10^9)(ha:a<=9223372036854775807):xk l m d a s=some (iM l m d a s false):=by unfold xk;refine dC (λi=>((l.take i).map wrM,(i:Int))) l.length (by omega) (λi nx hi=>?_) (λnx=>?_);simp only[rz];rw[iU,bj hi,al];simp only[ah,ab];rw[aO (by simp;omega),bn hi,ee];rfl;simp only[rz];rw[cz,af,cO,Km _ m d a s (by rw[bL];exact hl) hm ha,alS];rfl
theorem Di (l:aw aE)(m:bN)(d a:Int)(s:Bytes)(hl:l.length<=10^9)(hm:m.length<=10^9)(ha:a<=9223372036854775807:=by omega):jW l m d a s=some (iM l m d a s false):=by rw[jW,XA l m d a s false hl hm ha];rfl
def vK (d:GG):Bool:=cS d.1 0 3&&(cS d.2.1 0 3&&(cS d.2.2.1 0 65535&&(cS d.2.2.2.2.1 0 65535&&(cS d.2.2.2.2.2 0 65535&&cS d.2.2.2.1 0 4294967295))))
theorem Xt (d:GG):zB d=some (vK d):=by simp only[zB,cl,ab,vK];cases cS d.1 0 3<;>cases cS d.2.1 0 3<;>cases cS d.2.2.1 0 65535<;>cases cS d.2.2.2.2.1 0 65535<;>cases cS d.2.2.2.2.2 0 65535<;>rfl
theorem ajT (d:GG):C0 d=some (vK d):=by simp only[C0,dq,ab,vK];cases cS d.1 0 3<;>cases cS d.2.1 0 3<;>cases cS d.2.2.1 0 65535<;>cases cS d.2.2.2.2.1 0 65535<;>cases cS d.2.2.2.2.2 0 65535<;>rfl
def Av (d:GG):Bytes:=
 bif vK d then((((aM [gO d.1,gO d.2.1]++cj d.2.2.1)++gu d.2.2.2.1)++cj d.2.2.2.2.1)++cj d.2.2.2.2.2)++gu 0 else []
theorem al1 (d:GG):vf d=some (Av d):=by have h1:=bQ d.2.2.1;have h2:=dT d.2.2.2.1;have h3:=bQ d.2.2.2.2.1;have h4:=bQ d.2.2.2.2.2;have h5:=dT 0;have h0:(aM [gO d.1,gO d.2.1]).length=2:=rfl;unfold vf Av;rw[ajT,ab];cases vK d;rfl;simp only[aj,af,ah,pO,nr,ab];rw[aO,aO (by simp only[ai];omega),aO (by simp only[ai];omega),aO (by simp only[ai];omega),aO (by simp only[ai];omega)]
theorem UL (d:GG):mA d=some (Av d):=by have h1:=bQ d.2.2.1;have h2:=dT d.2.2.2.1;have h3:=bQ d.2.2.2.2.1;have h4:=bQ d.2.2.2.2.2;have h5:=dT 0;have h0:(aM [gO d.1,gO d.2.1]).length=2:=rfl;unfold mA Av;rw[Xt,ab];cases vK d;rfl;simp only[aj,af,ah,lH,vC,ab];rw[aO,aO (by simp only[ai];omega),aO (by simp only[ai];omega),aO (by simp only[ai];omega),aO (by simp only[ai];omega)]
def pZ (r:lB):Int:=bif dx r then ar (r.2.1-bR r) else 0
def ql (r:lB)(c:Int):Int:=bif !dx r||decide (c<0) then-1 else r.1+tmod c r.2.1*16
theorem md (h:dx r=true):0<=r.1/\r.1<=130944/\(r.2.1=2\/r.2.1=4\/r.2.1=8\/r.2.1=16)/\0<=r.2.2.1/\r.2.2.1<=2*r.2.1-1/\0<=r.2.2.2/\r.2.2.2<=2*r.2.1-1:=by simp only[dx,ae,aX]at h;exact⟨h.1.1,h.1.2,gV.1 h.2.1,h.2.2.1.1,h.2.2.1.2,h.2.2.2.1.1,h.2.2.2.1.2⟩
theorem Gq (r:lB)(c:Int): -1<=ql r c/\ql r c<=200000:=by
 unfold ql;cases hc: !dx r||decide (c<0)with
 |true=>exact⟨cX _,by simp⟩
 |false=>
  simp only[cu,dV,cY]at hc;have h:=md hc.1;have h2:0<=tmod c r.2.1/\tmod c r.2.1<r.2.1:=by rw[dG (by omega)];exact⟨fC _ (by omega),fF _ (by omega)⟩
  simp only[af];omega
def di (l:aw aE)(m:bN)(d:Int)(r:lB)(s:Bytes):bN×lB×Bool:=
 bif (pZ r==0)||((s.length:Int) !=16) then(m,r,false) else
 bif !(iM l m d (ql r r.2.2.2) s true).2 then(m,r,false) else
 ((iM l m d (ql r r.2.2.2) s true).1,(r.1,r.2.1,r.2.2.1,tmod (r.2.2.2+1) (2*r.2.1)),true)
theorem LH {a:Int}{w:Bool}(h:(iM l m d a s w).2=false):(iM l m d a s w).1=m:=by unfold iM at h⊢;cases hr:(kZ l m d a (s.length:Int) w).2 with|false=>rfl|true=>rw[hr]at h;cases h
theorem LS (r:lB):uE r=some (pZ r):=by unfold uE pZ;rw[Gr,ab];cases dx r;rfl;simp only[aj,af,ah,Zc,ab]
theorem agG (r:lB)(c:Int):tk r c=some (ql r c):=by
 have tV:=Gq r c;unfold tk;rw[Gr,ab];unfold ql at tV⊢;cases hb:dx r;rfl;have h:=md hb;by_cases hc:c<0;rw[au hc];rfl;rw[hb,aq hc]at tV;rw[aq hc];have h2:0<=tmod c r.2.1/\tmod c r.2.1<r.2.1:=by rw[dG (by omega)];exact⟨fC _ (by omega),fF _ (by omega)⟩
 simp only[aj,af,ab,cB]at tV⊢;rw[nX,al (n:=16*tmod c r.2.1),al];congr 1;omega
theorem YY (l:aw aE)(m:bN)(d:Int)(r:lB)(s:Bytes)(hl:l.length<=10^9)(hm:m.length<=10^9):AU l m d r s=some (di l m d r s):=by
 have hA:=Gq r r.2.2.2;unfold AU di;simp only[LS,ab,agG,Km l m d _ s hl hm (show ql r r.2.2.2<=9223372036854775807 by omega),Eu m (show m.length<=1073741824 by omega)];cases hf:pZ r==0;case true=>rfl
 cases (s.length:Int) !=16;case true=>rfl
 have hb:dx r=true:=by cases hb:dx r with|true=>rfl|false=>unfold pZ at hf;rw[hb]at hf;cases hf
 have h:=md hb;simp only[af,ab,cB];cases hp:(iM l m d (ql r r.2.2.2) s true).2 with|false=>simp only[bw,ah,LH hp]|true=>simp only[aj,af];rw[al (n:=2*r.2.1),nX,al (n:=r.2.2.2+1)]
theorem Sl (r:lB):uo r=some (pZ r):=by unfold uo pZ;rw[zA,ab];cases dx r;rfl;simp only[aj,af,ah,BR,ab]
theorem Sq (r:lB)(c:Int):ov r c=some (ql r c):=by
 have tV:=Gq r c;unfold ov;rw[zA,ab];unfold ql at tV⊢;cases hb:dx r;rfl;have h:=md hb;by_cases hc:c<0;rw[au hc];rfl;rw[hb,aq hc]at tV;rw[aq hc];have h2:0<=tmod c r.2.1/\tmod c r.2.1<r.2.1:=by rw[dG (by omega)];exact⟨fC _ (by omega),fF _ (by omega)⟩
 simp only[aj,af,ab,cB]at tV⊢;rw[nX,al (n:=tmod c r.2.1*16),al]
theorem Mq (l:aw aE)(m:bN)(d:Int)(r:lB)(s:Bytes)(hl:l.length<=10^9)(hm:m.length<=10^9):wN l m d r s=some (di l m d r s):=by
 have hA:=Gq r r.2.2.2;unfold wN di;simp only[Sl,ab,Sq,El l m d _ s hl hm (show ql r r.2.2.2<=9223372036854775807 by omega),gB m (show m.length<=1073741824 by omega)];cases hf:pZ r==0;case true=>rfl
 cases (s.length:Int) !=16;case true=>rfl
 have hb:dx r=true:=by cases hb:dx r with|true=>rfl|false=>unfold pZ at hf;rw[hb]at hf;cases hf
 have h:=md hb;simp only[af,ab,cB];cases hp:(iM l m d (ql r r.2.2.2) s true).2 with|false=>simp only[bw,ah,LH hp]|true=>simp only[aj,af];rw[al (n:=2*r.2.1),nX,al (n:=r.2.2.2+1)]
theorem AL {p:dj}(h:dI p=true):0<=p.1/\p.1<=130944/\1<=p.2.1/\p.2.1<=512/\0<=p.2.2.1/\p.2.2.1<=16:=by simp only[dI,ae,aX]at h;exact⟨h.1.1,h.1.2,h.2.1.1,h.2.1.2,h.2.2.1.1,h.2.2.1.2⟩
def pX (p:dj)(i:Int):Int:=bif !dI p|| !cS i 0 (p.2.2.1-1) then-1 else p.1+i*p.2.1
theorem ac2 {p:dj}{i:Int}(hp:dI p=true)(hi:cS i 0 (p.2.2.1-1)=true):ar (p.1+ar (i*p.2.1))=p.1+i*p.2.1:=by have h:=AL hp;have h2:=aX.1 hi;have h3:0<=i*p.2.1:=Int.mul_nonneg h2.1 (by omega);have h4:i*p.2.1<=16*512:=Int.mul_le_mul (by omega) (by omega) (by omega) (by omega);rw[al (n:=i*p.2.1),al]
theorem ajS (p:dj)(i:Int)(h:p.2.2.2.length<=10^9):pP p i=some (pX p i):=by unfold pP pX;rw[zQ p h,ab];cases hp:dI p;rfl;have tV:=AL hp;rw[al (n:=p.2.2.1-1),dq];cases hi:cS i 0 (p.2.2.1-1);rfl;simp only[aj,af,ab,cB,ac2 hp hi]
theorem JC (p:dj)(i:Int)(h:p.2.2.2.length<=10^9):gx p i=some (pX p i):=by unfold gx pX;rw[wy p h,ab];cases hp:dI p;rfl;have tV:=AL hp;rw[al (n:=p.2.2.1-1),cl];cases hi:cS i 0 (p.2.2.1-1);rfl;simp only[aj,af,ab,cB,ac2 hp hi]
def upto (n:Nat):bP:=(List.range n).map Int.ofNat
theorem Tl (n:Nat):upto (n+1)=upto n++[(n:Int)]:=by simp[upto,gP]
theorem akH (h:i<n):(upto n).getD i 0=(i:Int):=by rw[cH (by simpa[upto]using h)];simp[upto]
theorem ace (a b:Int)(n:Nat)(hn:n<=16):dI (a,b,(n:Int),upto n)=dI (a,b,(n:Int),[]):=by
 unfold dI;congr 3;have h1:(List.range (upto n).length).all (FL (n:Int) (upto n))=true:=by
  rw[aD];intro i hi;have hi:i<n:=by simpa[upto]using hi
  simp only[FL,akH hi,ae,aX,aK];refine⟨by omega,?_⟩;rw[Bool.eq_false_iff,ne_eq,List.contains_iff_mem];intro hm;simp only[upto,<-List.map_take,eF]at hm;obtain⟨j,hj,he⟩:=hm;rw[List.take_range]at hj;have:=bD.1 hj;have:(j:Int)=(i:Int):=he;omega
 rw[h1];rfl
def iz (a b n:Int):dj×Bool:=bif dI (a,b,n,[]) then((a,b,n,upto n.toNat),true) else((0,0,0,[]),false)
theorem Mo (a b n:Int):wK a b n=some (iz a b n):=by
 unfold wK iz;rw[wy _ (by simp),ab];cases hp:dI (a,b,n,[]);rfl;have tV:=AL hp;obtain⟨n,rfl⟩:=aQ (show 0<=n from tV.2.2.2.2.1);have h16:n<=16:=by have:=tV.2.2.2.2.2;simp only at this;omega
 simp only[aj,af,ah,ax];refine dC (λi=>((i:Int),a,b,(n:Int),upto i)) n (by omega) (λi nx hi=>?_) (λnx=>?_);simp only[uP];rw[iU,aO (by simp[upto];omega),al,Tl];rfl;simp only[uP];rw[cz];rfl
theorem MG (a b n:Int):xm a b n=some (iz a b n):=by
 have Df:=eo;unfold xm iz;by_cases hn:0<=n/\n<=16;obtain⟨n,rfl⟩:=aQ hn.1;have h16:n<=16:=by omega
 refine dC (λi=>((i:Int),a,b,(n:Int),upto i)) n (by omega) (λi nx hi=>?_) (λnx=>?_);simp only[qo];rw[au (show(i:Int)<n by omega),au (show(n:Int)<=16 by omega)];simp only[ah,ab];rw[aO (by simp[upto];omega),al,Tl];rfl;simp only[qo];rw[aq (show¬(n:Int)<n by omega)];simp only[af,ab,zQ (a,b,(n:Int),upto n) (show(upto n).length<=10^9 by simp[upto];omega),ace a b n h16,ax];cases dI (a,b,(n:Int),[])<;>rfl;have hb:dI (a,b,n,[])=false:=by cases hp:dI (a,b,n,[])with|false=>rfl|true=>have:=AL hp;exact absurd ⟨this.2.2.2.2.1,this.2.2.2.2.2⟩ hn
 obtain⟨f,hf⟩:∃f,fuel=f+1:=⟨fuel-1,by omega⟩
 rw[hf,bc];simp only[qo];have hc:(cond (decide ((0:Int)<n)) (some (decide (n<=16))) (some false))=some false:=by by_cases h0:(0:Int)<n;rw[au h0,cz];rfl;rw[aq h0];rfl
 rw[hc];simp only[ab,af,zQ (a,b,n,[]) (show([]:bP).length<=10^9 by simp),hb];rfl
def fJ (p:dj)(b:Int):Bytes:=Av (3,0,p.2.1,pX p b,0,b)
def nz (l:aw aE)(d:Int)(p:dj):bP->bN->lB->Nat×bN×lB
 |[],m,r=>(0,m,r)
 |b::q,m,r=>bif (di l m d r (fJ p b)).2.2 then
   ((nz l d p q (di l m d r (fJ p b)).1 (di l m d r (fJ p b)).2.1).1+1,(nz l d p q (di l m d r (fJ p b)).1 (di l m d r (fJ p b)).2.1).2)
  else(0,m,r)
theorem xg (l:aw aE)(m:bN)(d:Int)(r:lB)(s:Bytes):(di l m d r s).1.length=m.length:=by
 unfold di;cases (pZ r==0)||((s.length:Int) !=16);case true=>rfl
 cases (iM l m d (ql r r.2.2.2) s true).2 with|false=>rfl|true=>exact kE ..
theorem KX (l:aw aE)(d:Int)(p:dj):∀(q:bP)(m:bN)(r:lB),(nz l d p q m r).2.1.length=m.length/\(nz l d p q m r).1<=q.length
 |[],m,r=>⟨rfl,bh _⟩
 |b::q,m,r=>by rw[nz];cases (di l m d r (fJ p b)).2.2 with|false=>exact⟨rfl,cf _⟩|true=>have:=KX l d p q (di l m d r (fJ p b)).1 (di l m d r (fJ p b)).2.1;simp only[ah,ba];exact⟨by rw[this.1,xg],by omega⟩
theorem aij (r:lB):0<=pZ r:=by
 unfold pZ;cases hb:dx r with
 |false=>exact cX _
 |true=>
  have h:=md hb;simp only[dx,ae,aF]at hb;have hu:=hb.2.2.2.2;have h0:0<=bR r:=by unfold bR;split;exact fC _ (by omega);exact cX _
  simp only[ah];rw[al];omega
theorem Vc (h:¬pZ r>0):di l m d r s=(m,r,false):=by
 have h0:=aij r;have:pZ r=0:=by omega
 unfold di;rw[this];rfl
theorem JE (K:Int->Int->lB->bN->ay R)(K':Nat->lB->bN->ay R)(hK:∀(c:Nat) i r m,K (c:Int) i r m=K' c r m)(l:aw aE)(d:Int)(p p2 p3:dj)(hp:p.2.2.2.length<=10^9)(hl:l.length<=10^9):∀(rest pre:bP)(m:bN)(r:lB)(f:Nat),rest.length<f->pre.length+rest.length<=10^9->m.length<=10^9->
 bc (og K l d (pre++rest) ((pre++rest).length:Int) p ([]:bN) (0,0,0,0) p2 p3) f ((pre.length:Int),(pre.length:Int),r,m)=K' (pre.length+(nz l d p rest m r).1) (nz l d p rest m r).2.2 (nz l d p rest m r).2.1
 |rest,pre,m,r,0,hf,_,_=>by omega
 |[],pre,m,r,f+1,_,_,_=>by rw[bc];simp only[og];rw[aq (by simp),af,hK];rfl
 |b::q,pre,m,r,f+1,hf,hn,hm=>by
  simp only[ba]at hf hn;have hi:pre.length<(pre++b::q).length:=by simp
  have hb:(pre++b::q)[pre.length]=b:=by simp
  rw[bc];simp only[og];rw[au (by simp;omega),bj hi,hb];simp only[ah,ab,JC p b hp,UL,Mq l m d r _ hl hm];rw[show Av (3,0,p.2.1,pX p b,0,b)=fJ p b from rfl,nz];cases hq:(di l m d r (fJ p b)).2.2 with
  |false=>simp only[bw,ah,af,hK,eG]
  |true=>
   simp only[aj,af,ah];rw[al (n:=(pre.length:Int)+1)];have key:=JE K K' hK l d p p2 p3 hp hl q (pre++[b]) (di l m d r (fJ p b)).1 (di l m d r (fJ p b)).2.1 f (by omega) (by simp;omega) (by rw[xg];exact hm);have el:((pre++[b]).length:Int)=(pre.length:Int)+1:=by simp
   have el2:(pre++[b]).length=pre.length+1:=by simp
   rw[aY,List.singleton_append,el,el2]at key;rw[show pre.length+((nz l d p q (di l m d r (fJ p b)).1 (di l m d r (fJ p b)).2.1).1+1)=pre.length+1+(nz l d p q (di l m d r (fJ p b)).1 (di l m d r (fJ p b)).2.1).1 by omega];exact key
theorem Kn (K:Int->lB->bN->dj->ay R)(l:aw aE)(d:Int)(p p2:dj)(hp:p.2.2.2.length<=10^9)(hl:l.length<=10^9)(A B C:Int):∀(rest:bP)(c:Nat)(m:bN)(r:lB)(f:Nat),rest.length<f->c+rest.length<=10^9->m.length<=10^9->
 bc (oJ K l d p ([]:bN) (0,0,0,0) p2) f ((c:Int),r,m,A,B,C,rest)=K ((c+(nz l d p rest m r).1:Nat):Int) (nz l d p rest m r).2.2 (nz l d p rest m r).2.1 (A,B,C,rest.drop (nz l d p rest m r).1)
 |rest,c,m,r,0,hf,_,_=>by omega
 |[],c,m,r,f+1,_,_,_=>by
  rw[bc];simp only[oJ,LS,ab];have hc:(cond (decide (pZ r>0)) (some (decide ((([]:bP).length:Int)>0))) (some false))=some false:=by cases decide (pZ r>0)<;>rfl
  rw[hc];rfl
 |b::q,c,m,r,f+1,hf,hn,hm=>by
  simp only[ba]at hf hn;rw[bc];simp only[oJ,LS,ab];by_cases hr:pZ r>0;rw[au hr,au (show(((b::q).length:Nat):Int)>0 by simp)];have hi:idx (b::q) 0=some b:=rfl;have hs:sub (b::q) 1 ((b::q).length:Int)=some q:=by unfold sub;rw[aH (by simp;omega)];simp
  simp only[ah,ab,hi,ajS p b hp,al1,YY l m d r _ hl hm];rw[show Av (3,0,p.2.1,pX p b,0,b)=fJ p b from rfl,nz];cases hq:(di l m d r (fJ p b)).2.2 with|false=>rfl|true=>simp only[aj,af,ah,hs,ab];rw[lS,al (n:=(c:Int)+1),ch];have key:=Kn K l d p p2 hp hl A B C q (c+1) (di l m d r (fJ p b)).1 (di l m d r (fJ p b)).2.1 f (by omega) (by omega) (by rw[xg];exact hm);rw[show((c+1:Nat):Int)=(c:Int)+1 by omega]at key;refine Eq.trans key ?_;rw[show c+1+(nz l d p q (di l m d r (fJ p b)).1 (di l m d r (fJ p b)).2.1).1=c+((nz l d p q (di l m d r (fJ p b)).1 (di l m d r (fJ p b)).2.1).1+1) by omega];rfl
  rw[aq hr,nz,Vc hr];rfl
def vM (l:aw aE)(m:bN)(d:Int)(r:lB)(p:dj):bN×lB×dj×Int:=
 bif !dx r|| !dI p then(m,r,p,0) else
 ((nz l d p p.2.2.2 m r).2.1,(nz l d p p.2.2.2 m r).2.2,(p.1,p.2.1,p.2.2.1,p.2.2.2.drop (nz l d p p.2.2.2 m r).1),((nz l d p p.2.2.2 m r).1:Int))
theorem Xv (l:aw aE)(m:bN)(d:Int)(r:lB)(p:dj)(hl:l.length<=10^9)(hm:m.length<=10^9)(hp:p.2.2.2.length<=10^9):iV l m d r p=some (vM l m d r p):=by have Df:=eo;unfold iV vM;simp only[gB m (show m.length<=1073741824 by omega),vJ p hp,zA,wy p hp,ab];cases dx r;rfl;cases dI p;rfl;simp only[aj,af,ab,cB];have hlen:=(KX l d p p.2.2.2 m r).2;refine(JE _ (λc r m=>aa (sub p.2.2.2 (c:Int) (p.2.2.2.length:Int)) λM9=>aa (gq M9) λAp=>some (m,r,(p.1,p.2.1,p.2.2.1,Ap),(c:Int))) (λ_ _ _ _=>rfl) l d p _ p hp hl p.2.2.2 [] m r fuel (by omega) (by simp;omega) hm).trans ?_;rw[ed,cx,VA _ _ _ hlen (bh _),ab,cd (by rw[aL];exact bh _),kV _ (by rw[aL];omega)];rfl
theorem ajU (l:aw aE)(m:bN)(d:Int)(r:lB)(p:dj)(hl:l.length<=10^9)(hm:m.length<=10^9)(hp:p.2.2.2.length<=10^9):yS l m d r p=some (vM l m d r p):=by have Df:=eo;unfold yS vM;simp only[Eu m (show m.length<=1073741824 by omega),Pp p hp,Gr,zQ p hp,ab];cases dx r;rfl;cases dI p;rfl;simp only[aj,af,ab,cB];refine(Kn _ l d p _ hp hl p.1 p.2.1 p.2.2.1 p.2.2.2 0 m r fuel (by omega) (by omega) hm).trans ?_;rw[cx]
def lg (p:dj)(n:Int):dj×bP×Bool:=bif dI p&&cS n 0 (p.2.2.2.length:Int) then((p.1,p.2.1,p.2.2.1,p.2.2.2.drop n.toNat),p.2.2.2.take n.toNat,true) else(p,[],false)
theorem afs (p:dj)(n:Int)(h:p.2.2.2.length<=10^9):sT p n=some (lg p n):=by unfold sT lg;rw[vJ p h,ab,wy p h,ab,cl];cases dI p;rfl;cases hi:cS n 0 (p.2.2.2.length:Int);rfl;have hn:=aX.1 hi;obtain⟨n,rfl⟩:=aQ hn.1;simp only[aj,af,ab,cG,ah,ax];rw[Kx _ n (by omega),ab,kV _ (by simp;omega),ab,show sub p.2.2.2 0 (n:Int)=some (p.2.2.2.take n) from by rw[EO (by omega) hn.2,ax],ab,kV _ (by simp;omega),ab]
theorem Fp:∀l:aw pa,(∀x∈l,0<=x.2.1/\x.2.1<=16)->0<=dL l/\dL l<=16*(l.length:Int)
 |[],_=>by simp[dL]
 |y::l,h=>by have h1:=Fp l (λx hx=>h x (eR _ hx));have h2:=h y (List.mem_cons_self ..);simp only[dL,da,fi,ba]at h1⊢;omega
theorem aag (l:aw pa)(i:Nat)(hi:i<l.length):dL (l.take (i+1))=dL (l.take i)+l[i].2.1:=by rw[bn hi];simp only[dL,ee,List.sum_append,da,List.map_nil,fi,List.sum_nil,Int.add_zero]
theorem afn (t:dU)(h:t.2.2.1.length<=1000000)(hs:∀x∈t.2.2.1,0<=x.2.1/\x.2.1<=16):ru t=some (dL t.2.2.1):=by
 have Df:=eo;unfold ru;refine dC (λi=>(dL (t.2.2.1.take i),(i:Int))) t.2.2.1.length (by omega) (λi nx hi=>?_) (λnx=>?_);have hb:=Fp (t.2.2.1.take i) (λx hx=>hs x (List.mem_of_mem_take hx));have hc:=hs _ (aI hi);have hl:(t.2.2.1.take i).length<=1000000:=by rw[aV];omega
 rw[aag _ _ hi];simp only[mY];rw[iU,ah,bj hi,ab,al (n:=(i:Int)+1),al];rfl;simp only[mY];rw[cz,af,cO]
def tc (l:aw aE)(d:Int):bN->bN->lB->ay (bN×lB)
 |[],m,r=>some (m,r)
 |s::q,m,r=>bif (di l m d r s).2.2 then tc l d q (di l m d r s).1 (di l m d r s).2.1 else none
def amT (m:bN)(r:lB):ay (bN×lB)->bN×lB×Bool
 |some x=>(x.1,x.2,true)
 |none=>(m,r,false)
def xf (l:aw aE)(m:bN)(d:Int)(r:lB)(q:bN):bN×lB×Bool:=amT m r (tc l d q m r)
theorem MA (l:aw aE)(d:Int):∀(q:bN)(m:bN)(r:lB){x},tc l d q m r=some x->x.1.length=m.length
 |[],m,r,x,h=>by cases h;rfl
 |s::q,m,r,x,h=>by rw[tc]at h;cases hq:(di l m d r s).2.2 with|false=>rw[hq]at h;cases h|true=>rw[hq]at h;exact(MA l d q _ _ h).trans (xg ..)
theorem F0 (l:aw aE)(d:Int)(M:bN)(A B2:lB)(B1:bN)(hl:l.length<=10^9)(hM:M.length<=10^9):∀(rest pre:bN)(m:bN)(r:lB)(f:Nat),rest.length<f->(pre++rest).length<=10^9->m.length<=10^9->
 bc (lL (λ_ y6 y7=>some (y6,y7,true)) (λy8 _ Bx Aq _ _=>some (Bx,Aq,y8)) l d false (pre++rest) ((pre++rest).length:Int) M A B1 B2) f ((pre.length:Int),m,r)=some (amT M A (tc l d rest m r))
 |rest,pre,m,r,0,hf,_,_=>by omega
 |[],pre,m,r,f+1,_,_,_=>by rw[bc];simp only[lL];rw[aq (by simp),af];rfl
 |s::q,pre,m,r,f+1,hf,hn,hm=>by
  simp only[ba,ai]at hf hn;have hi:pre.length<(pre++s::q).length:=by simp
  have hb:(pre++s::q)[pre.length]=s:=by simp
  rw[bc];simp only[lL];rw[au (by simp;omega),bj hi,hb];simp only[ah,ab,Mq l m d r _ hl hm];rw[tc];cases hq:(di l m d r s).2.2 with
  |false=>simp only[bw,ah,af,gB M,ab];rfl
  |true=>
   simp only[aj,af,ah];rw[al (n:=(pre.length:Int)+1)];have key:=F0 l d M A B2 B1 hl hM q (pre++[s]) (di l m d r s).1 (di l m d r s).2.1 f (by omega) (by simp;omega) (by rw[xg];exact hm);have el:((pre++[s]).length:Int)=(pre.length:Int)+1:=by simp
   rw[aY,List.singleton_append,el]at key;exact key
theorem abw (l:aw aE)(m:bN)(d:Int)(r:lB)(q:bN)(hl:l.length<=10^9)(hm:m.length<=10^9)(hq:q.length<=10^9):ku l m d r q=some (xf l m d r q):=by have Df:=eo;unfold ku xf;rw[gB m,ab];exact F0 l d m r _ _ hl hm q [] m r fuel (by omega) (by simpa using hq) hm
theorem PK (l:aw aE)(m:bN)(d:Int)(w:Bool):∀(n a r:Nat)(q:aw (Int×Int)),mq l m d w n a r=some q->q.length<=n
 |0,a,r,q,h=>by simp only[mq,bp]at h;subst h;simp
 |n+1,a,r,q,h=>by simp only[mq]at h;split at h;simp only[bp]at h;subst h;simp;split at h;simp only[Option.map_eq_some_iff]at h;obtain⟨q',h1,rfl⟩:=h;have:=PK l m d w n _ _ q' h1;simp only[ba];omega;cases h
theorem LP (l:aw aE)(m:bN)(d a n:Int)(w:Bool):(kZ l m d a n w).1.length<=4096:=by
 unfold kZ;cases hB:eE l&&(cV m&&cS n 0 4096);simp;simp only[ae,aX]at hB;simp only[ah];cases n==0;case true=>simp
 cases decide (a<0);case true=>simp
 simp only[af];split;rename_i q hq;have:=PK _ _ _ _ _ _ _ _ hq;show q.length<=4096;omega;simp
def yb (m:bN)(p:Int×Int):Bytes:=bif gM m p.1 p.2 then D0 m p.1.toNat p.2.toNat else []
theorem HP (m:bN)(p:Int×Int):(yb m p).length<=8192:=by unfold yb;cases h:gM m p.1 p.2 with|false=>simp|true=>simp only[gM,ae,aF]at h;have:=ajC m p.1.toNat p.2.toNat;have:=(mem_iff.1 h.1).2;simp only[ah];omega
theorem xi (m:bN):∀q:aw (Int×Int),(q.flatMap (yb m)).length<=8192*q.length
 |[]=>by simp
 |p::q=>by have:=xi m q;have:=HP m p;simp only[List.flatMap_cons,ai,ba];omega
def tM (l:aw aE)(m:bN)(d a n:Int):Bytes×Bool:=
 bif (kZ l m d a n false).2 then((kZ l m d a n false).1.flatMap (yb m),true) else([],false)
theorem Ul {α β:Type}(g:α->aw β)(l:aw α)(i:Nat)(hi:i<l.length):(l.take (i+1)).flatMap g=(l.take i).flatMap g++g l[i]:=by rw[bn hi,List.flatMap_append];simp
theorem CN (l:aw aE)(m:bN)(d a n:Int)(hl:l.length<=10^9)(hm:m.length<=10^9)(ha:a<=9223372036854775807):pw l m d a n=some (tM l m d a n):=by
 unfold pw tM;rw[XB l m d a n false hl hm ha,ab];have hL:=LP l m d a n false;generalize kZ l m d a n false=r at hL⊢;cases hr:r.2;rfl;simp only[aj,af,ah];refine(dC (λi=>((r.1.take i).flatMap (yb m),(i:Int))) r.1.length (by omega) (λi nx hi=>?_) (λnx=>?_));simp only[uN];rw[iU,bj hi,al];have e:qg m r.1[i].1 r.1[i].2=some (yb m r.1[i],gM m r.1[i].1 r.1[i].2):=by rw[aiY m _ _ hm,yb];cases gM m r.1[i].1 r.1[i].2<;>rfl
 have h1:=xi m (r.1.take i);have h2:=HP m r.1[i];simp only[ah,ab,e];rw[aO (by rw[aV]at h1;omega),<-Ul];rfl;simp only[uN];rw[cz,cO];rfl
theorem Ou (l:aw aE)(m:bN)(d a n:Int):(tM l m d a n).1.length<=100000000:=by have hL:=LP l m d a n false;have h1:=xi m (kZ l m d a n false).1;unfold tM;cases (kZ l m d a n false).2 with|false=>simp|true=>simp only[ah];omega
def Eb (s:Bytes):IS×Int×Bool:=
 bif ((s.length:Int) !=16)||decide (eM s 12>1) then((0,0,0,0,0),0,false) else((dc s 0,dc s 2,dc s 4,dc s 6,eM s 8),eM s 12,true)
theorem abm (s:Bytes)(h:s.length<=10^9):lV s=some (Eb s):=by
 unfold lV Eb;cases (s.length:Int) !=16;case true=>rfl
 simp only[xQ s _ h,xR s _ h,ab,af,cA];cases decide (eM s 12>1)<;>rfl
def B6 (q:tX):Int:=bif decide (q.2.2<q.2.1) then 1 else 0
theorem Sn (q:tX):wY q=some (B6 q):=by unfold wY B6;cases decide (q.2.2<q.2.1)<;>rfl
theorem xh {q:tX}(h:fY q=true):0<=q.1/\q.1<=130944/\(q.2.1=2\/q.2.1=4\/q.2.1=8\/q.2.1=16)/\0<=q.2.2/\q.2.2<=2*q.2.1-1:=by simp only[fY,ae,aX]at h;obtain⟨h1,h2,h3⟩:=h;rw[Bw h2]at h3;exact⟨h1.1,h1.2,gV.1 h2,h3⟩
def tK (q:tX):Int:=q.1+tmod q.2.2 q.2.1*16
theorem VE {a:Int}(h:0<=a:=by omega)(hb:0<b:=by omega):0<=tmod a b/\tmod a b<b:=by rw[dG h];exact⟨fC _ (by omega),fF _ hb⟩
theorem Vo {q:tX}(h:fY q=true):0<=tmod q.2.2 q.2.1/\tmod q.2.2 q.2.1<16:=by obtain⟨_,_,h3,h4,h5⟩:=xh h;have:=VE h4 (show 0<q.2.1 by omega);omega
theorem Sr (q:tX)(h:fY q=true):oz q=some (tK q):=by obtain⟨h1,h2,h3,h4,h5⟩:=xh h;have:=Vo h;unfold oz tK;rw[nX,al (n:=tmod q.2.2 q.2.1*16),al]
def amS (q:tX):tX:=(q.1,q.2.1,tmod (q.2.2+1) (2*q.2.1))
def U4 (l:aw aE)(m:bN)(d:Int)(q:tX):Bool:=
 fY q&&((tM l m d (tK q) 16).2&&((Eb (tM l m d (tK q) 16).1).2.2&&((Eb (tM l m d (tK q) 16).1).2.1==B6 q)))
def tH (l:aw aE)(m:bN)(d:Int)(q:tX):IS×tX×Bool:=
 bif U4 l m d q then((Eb (tM l m d (tK q) 16).1).1,amS q,true) else((0,0,0,0,0),q,false)
theorem aiV (l:aw aE)(m:bN)(d:Int)(q:tX)(hl:l.length<=10^9)(hm:m.length<=10^9):nK l m d q=some (tH l m d q):=by unfold nK tH U4;rw[Lb q,ab];cases hq:fY q;rfl;obtain⟨h1,h2,h3,h4,h5⟩:=xh hq;have hs:=Vo hq;have hd:=Ou l m d (tK q) 16;simp only[aj,af,Sr q hq,ab,CN l m d (tK q) 16 hl hm (by unfold tK;omega),bl];cases (tM l m d (tK q) 16).2;rfl;simp only[aj,af,abm _ (bq hd (by omega)),ab,bl];cases (Eb (tM l m d (tK q) 16).1).2.2;rfl;simp only[aj,af,Sn,ab,bl,bne];cases (Eb (tM l m d (tK q) 16).1).2.1==B6 q;rfl;simp only[aj,af,ah];rw[al (n:=2*q.2.1),nX,al (n:=q.2.2+1)];rfl
theorem ak2 (p:dj)(i:Int):pX p i= -1\/(0<=pX p i/\pX p i<=200000):=by unfold pX;cases hp:dI p;exact .inl rfl;cases hi:cS i 0 (p.2.2.1-1);exact .inl rfl;have h:=AL hp;have h2:=aX.1 hi;have h3:0<=i*p.2.1:=Int.mul_nonneg h2.1 (by omega);have h4:i*p.2.1<=16*512:=Int.mul_le_mul (by omega) (by omega) (by omega) (by omega);simp only[aj,cB,af];exact .inr (by omega)
def anR (l:aw aE)(m:bN)(d a n:Int):Bool:=(tM l m d a n).2&&((kl (tM l m d a n).1).2==0)
def Gc (l:aw aE)(m:bN)(d:Int)(s:aw Stream×cp×dj):aw Stream×cp×dj:=
 ((bif anR l m d (pX s.2.2 (tH l m d s.2.1.2.2.1).1.1) (tH l m d s.2.1.2.2.1).1.2.1 then Fz s.1 (kl (tM l m d (pX s.2.2 (tH l m d s.2.1.2.2.1).1.1) (tH l m d s.2.1.2.2.1).1.2.1).1).1 else s.1),
   (s.2.1.1,s.2.1.2.1,(tH l m d s.2.1.2.2.1).2.1,s.2.1.2.2.2),(FN s.2.2 [(tH l m d s.2.1.2.2.1).1.1]).1)
def kD (l:aw aE)(m:bN)(d:Int):Nat->aw Stream×cp×dj->Nat×(aw Stream×cp×dj)
 |0,s=>(0,s)
 |k+1,s=>bif !(tH l m d s.2.1.2.2.1).2.2 then(0,s) else((kD l m d k (Gc l m d s)).1+1,(kD l m d k (Gc l m d s)).2)
structure KM (n:Nat) (s:List Stream×cp×dj):Prop where
 st:dh n (.sl fL) s.1
 pl:s.2.2.2.2.2.length<=n
theorem WV (p:dj)(l:bP):(FN p l).1.2.2.2.length<=p.2.2.2.length+l.length:=by unfold FN;cases Ao p l with|false=>show p.2.2.2.length<=_;omega|true=>simp[hG]
theorem PQ {s:aw Stream×cp×dj}(h:KM n s):KM (n+322) (Gc l m d s):=by
 refine⟨?_,?_⟩;unfold Gc;cases anR l m d (pX s.2.2 (tH l m d s.2.1.2.2.1).1.1) (tH l m d s.2.1.2.2.1).1.2.1 with|false=>exact h.st.mono|true=>exact Uc h.st
 have:=WV s.2.2 [(tH l m d s.2.1.2.2.1).1.1];have h2:=h.pl;show(FN s.2.2 [(tH l m d s.2.1.2.2.1).1.1]).1.2.2.2.length<=_;simp only[bf]at this;omega
theorem JI (K:aw Stream->Int->cp->dj->ay R)(l:aw aE)(m:bN)(d:Int)(N:Nat)(hN:N<=1000)(B1:bN)(B2:cp)(B3:dj)(hl:l.length<=10^9)(hm:m.length<=10^9):∀(k i:Nat)(s:aw Stream×cp×dj)(f:Nat),i+k=N->k<f->KM (500000000+322*i) s->
 bc (mU K l d (N:Int) B1 B2 B3 m) f (s.1,(i:Int),s.2.1,s.2.2)=K (kD l m d k s).2.1 ((i+(kD l m d k s).1:Nat):Int) (kD l m d k s).2.2.1 (kD l m d k s).2.2.2
 |k,i,s,0,_,hf,_=>by omega
 |0,i,s,f+1,hi,hf,z=>by rw[bc];simp only[mU];rw[cz,af];rfl
 |k+1,i,s,f+1,hi,hf,z=>by have nA:dh 900000000 (.sl fL) s.1:=z.st.mono;have GZ:s.2.2.2.2.2.length<=900000000:=bq z.pl (by omega);rw[bc];simp only[mU];rw[iU];simp only[ah,aiV l m d _ hl hm,ab,kD];cases hnx:(tH l m d s.2.1.2.2.1).2.2 with|false=>rfl|true=>have key:=JI K l m d N hN B1 B2 B3 hl hm k (i+1) (Gc l m d s) f (by omega) (by omega) ((PQ z).st.mono|>λa=>⟨a,bq (PQ z).pl (by omega)⟩);rw[show i+1+(kD l m d k (Gc l m d s)).1=i+((kD l m d k (Gc l m d s)).1+1) by omega]at key;simp only[aj,af];rw[<-key];unfold Gc;generalize tH l m d s.2.1.2.2.1=c;have ha:=ak2 s.2.2 c.1.1;have hd:=Ou l m d (pX s.2.2 c.1.1) c.1.2.1;simp only[JC _ _ (show s.2.2.2.2.2.length<=10^9 by omega),CN l m d _ c.1.2.1 hl hm (show pX s.2.2 c.1.1<=9223372036854775807 by omega),ab,G4 _ (bq hd (by omega)),UJ _ _ nA,Pa s.2.2 [c.1.1] (show s.2.2.2.2.2.length+1<=10^9 by omega)];rw[al (n:=(i:Int)+1),show((i+1:Nat):Int)=(i:Int)+1 by omega];unfold anR;cases (tM l m d (pX s.2.2 c.1.1) c.1.2.1).2<;>cases (kl (tM l m d (pX s.2.2 c.1.1) c.1.2.1).1).2==0<;>rfl
theorem PO {l:aw aE}{m:bN}{d:Int}:∀(k:Nat){s:aw Stream×cp×dj}{n:Nat},KM n s->KM (n+322*k) (kD l m d k s).2
 |0,s,n,h=>h
 |k+1,s,n,h=>by rw[kD];cases (tH l m d s.2.1.2.2.1).2.2 with|false=>exact⟨h.st.mono,bq h.pl (by omega)⟩|true=>have:=PO (l:=l) (m:=m) (d:=d) k (PQ (l:=l) (m:=m) (d:=d) h);exact⟨this.st.mono,bq this.pl (by omega)⟩
def kj (l:aw aE)(m:bN)(d:Int)(rx:cp)(pl:dj)(st:aw Stream)(n:Int):bN×cp×dj×aw Stream×Int:=
 bif !HQ rx||(!dI pl|| !cS n 0 1000) then(m,rx,pl,st,0) else
 ((vM l m d (kD l m d n.toNat (st,rx,pl)).2.2.1.1 (kD l m d n.toNat (st,rx,pl)).2.2.2).1,
   ((vM l m d (kD l m d n.toNat (st,rx,pl)).2.2.1.1 (kD l m d n.toNat (st,rx,pl)).2.2.2).2.1,(kD l m d n.toNat (st,rx,pl)).2.2.1.2),
   (vM l m d (kD l m d n.toNat (st,rx,pl)).2.2.1.1 (kD l m d n.toNat (st,rx,pl)).2.2.2).2.2.1,(kD l m d n.toNat (st,rx,pl)).2.1,((kD l m d n.toNat (st,rx,pl)).1:Int))
theorem Xz (l:aw aE)(m:bN)(d:Int)(rx:cp)(pl:dj)(st:aw Stream)(n:Int)(hl:l.length<=10^9)(hm:m.length<=10^9)(hp:pl.2.2.2.length<=500000000)(hs:dh 500000000 (.sl fL) st):wL l m d rx pl st n=some (kj l m d rx pl st n):=by
 have Df:=eo;have hsl:st.length<=500000000:=hs.1;unfold wL kj;simp only[gB m (show m.length<=1073741824 by omega),vJ pl (show pl.2.2.2.length<=10^9 by omega),Ae st,UR,wy pl (show pl.2.2.2.length<=10^9 by omega),cl,ab];cases HQ rx;rfl;cases dI pl;rfl;cases hn:cS n 0 1000;rfl;have h:=aX.1 hn;obtain⟨n,rfl⟩:=aQ h.1;simp only[aj,af,ab,cB,ax];have z:KM (500000000+322*0) (st,rx,pl):=⟨hs,hp⟩
 have hz:=PO (l:=l) (m:=m) (d:=d) n z;refine(JI _ l m d n (by omega) _ _ _ hl hm n 0 (st,rx,pl) fuel (by omega) (by omega) z).trans ?_;rw[cx];simp only[Xv l m d _ _ hl hm (show(kD l m d n (st,rx,pl)).2.2.2.2.2.2.length<=10^9 from bq hz.pl (by omega)),ab]
def ia (i:Nat):Int:=1280+(i:Int)*1792
theorem acY (h:i<=8):ar (1280+ar ((i:Int)*1792))=ia i:=by rw[al (n:=(i:Int)*1792),al];rfl
theorem Xp (i:Nat)(h:i<=8):sa (i:Int)=some (ia i):=by rw[sa,acY h]
theorem pL (a b n:Int)(h:n<=1000:=by omega):(iz a b n).1.2.2.2.length<=1000:=by unfold iz;cases dI (a,b,n,[])with|false=>simp|true=>simp[upto];omega
def Gk (i:Nat):cp:=((ia i,4,0,0),(ia i+64,4,0),(ia i+64,4,0),((0,0,0,0,0,0,0,0,0,0,0,0,0,0,0,([]:Bytes)),0,0),false,0)
theorem afj (i:Nat)(h:i<=8):xU (i:Int)=some (Gk i,(iz (ia i+128) 384 4).1):=by have hb:ia i=1280+(i:Int)*1792:=rfl;simp only[xU,Xp i h,ab];rw[al (n:=ia i+128),al (n:=ia i+64),Mo];rfl
def Fh:dU:=((0,16,0,0),(iz 256 128 8).1,([]:aw pa),0)
theorem afw:Ep=some Fh:=by rw[Ep,Mo];rfl
theorem Ta:zg=some Fh:=by rw[zg,MG];rfl
def tI (l:aw aE)(m:bN)(i:Nat):bN×lB×dj×Int:=
 vM l (iM l m 0 (ia i) (xK 128) false).1 0 (ia i,4,0,0) (iz (ia i+128) 384 4).1
def SJ (h:Host)(i:Nat):Host:=
 ((tI h.2.1 h.1 i).1,h.2.1,h.2.2.1,h.2.2.2.1.set i ((tI h.2.1 h.1 i).2.1,(ia i+64,4,0),(ia i+64,4,0),((0,0,0,0,0,0,0,0,0,0,0,0,0,0,0,([]:Bytes)),0,0),false,(match h.2.2.2.1[i]? with|some x=>x.2.2.2.2.2|none=>0)),h.2.2.2.2.1.set i (tI h.2.1 h.1 i).2.2.1,h.2.2.2.2.2)
theorem YW (h:Host)(i:Nat)(hi:i<=8)(h1:i<h.2.2.2.1.length)(h2:i<h.2.2.2.2.1.length)(hl:h.2.1.length<=10^9)(hm:h.1.length<=10^9):xw h (i:Int)=some ((),SJ h i):=by have hb:ia i=1280+(i:Int)*1792:=rfl;have hz:gz 128 0=some (xK 128):=Qb 128;have hf:=ajU h.2.1 (iM h.2.1 h.1 0 (ia i) (xK 128) false).1 0 (ia i,4,0,0) (iz (ia i+128) 384 4).1 hl (by rw[kE];exact hm) (bq (pL (ia i+128) 384 4) (by omega));unfold xw;simp only[acY hi];rw[al (n:=ia i+128),al (n:=ia i+64),MG,hz];simp only[bj h1,bj h2,ab,Rn h.2.1 h.1 0 (ia i) (xK 128) hl hm (by omega),hf,ax,SJ,tI,ak h1]
def xY (h:Host)(i:Nat)(n:Int):Int×Host:=
 match h.2.2.2.1[i]?,h.2.2.2.2.1[i]? with
 |some rx,some pl=>
  ((kj h.2.1 h.1 0 rx pl h.2.2.2.2.2.2.2.2.2.1 n).2.2.2.2,(kj h.2.1 h.1 0 rx pl h.2.2.2.2.2.2.2.2.2.1 n).1,h.2.1,h.2.2.1,h.2.2.2.1.set i (kj h.2.1 h.1 0 rx pl h.2.2.2.2.2.2.2.2.2.1 n).2.1,h.2.2.2.2.1.set i (kj h.2.1 h.1 0 rx pl h.2.2.2.2.2.2.2.2.2.1 n).2.2.1,h.2.2.2.2.2.1,h.2.2.2.2.2.2.1,h.2.2.2.2.2.2.2.1,h.2.2.2.2.2.2.2.2.1,(kj h.2.1 h.1 0 rx pl h.2.2.2.2.2.2.2.2.2.1 n).2.2.2.1,h.2.2.2.2.2.2.2.2.2.2)
 |_,_=>(0,h)
theorem UQ (h:Host)(i:Nat)(n:Int)(h1:i<h.2.2.2.1.length)(h2:i<h.2.2.2.2.1.length)(z:dh 500000000 dk h):kX h (i:Int) n=some (xY h i n):=by have hl:h.2.1.length<=500000000:=z.2.1.1;have hm:h.1.length<=500000000:=z.1.1;have hp:h.2.2.2.2.1[i].2.2.2.length<=500000000:=(z.2.2.2.2.1.2 _ (aI h2)).2.2.2.1;unfold kX;simp only[bj h1,bj h2,ab,Xz h.2.1 h.1 0 _ _ _ n (show h.2.1.length<=10^9 by omega) (show h.1.length<=10^9 by omega) hp z.2.2.2.2.2.2.2.2.2.1,ax,xY,ak h1,ak h2]
theorem mZ {t:CT}{l:aw t.D}{x:t.D}(z:dh n (.sl t) l)(hx:dh n t x):dh n (.sl t) (l.set i x):=by refine⟨?_,λy hy=>?_⟩;show(l.set i x).length<=n;rw[aB];exact z.1;rcases dv hy with h|h;exact z.2 y h;rw[h];exact hx
theorem SN (hn:128<=n)(h:Dm m):dh n (.sl .str) m:=⟨bq h.2 (by omega),λx hx=>bq (Nat.le_of_eq (h.1 x hx)) hn⟩
theorem ZA (hn:128<=n)(z:dh n (.sl .str) m)(a:Int)(s:Bytes):dh n (.sl .str) (pU m a s).1:=by unfold pU;cases hw:gM m a (s.length:Int);exact z;simp only[gM,ae,aF]at hw;exact SN hn (Bm s.length (qI.1 hw.1) (by omega)).1
theorem Yz (hn:128<=n):∀(q:aw (Int×Int)){m:bN}(s:Bytes),dh n (.sl .str) m->dh n (.sl .str) (LG q m s)
 |[],m,s,z=>z
 |p::q,m,s,z=>Yz hn q _ (ZA hn z _ _)
theorem Ge (hn:128<=n)(z:dh n (.sl .str) m)(l:aw aE)(d a:Int)(s:Bytes)(w:Bool):dh n (.sl .str) (iM l m d a s w).1:=by unfold iM;cases (kZ l m d a (s.length:Int) w).2 with|false=>exact z|true=>exact Yz hn _ _ z
theorem Kd (hn:128<=n)(z:dh n (.sl .str) m)(l:aw aE)(d:Int)(r:lB)(s:Bytes):dh n (.sl .str) (di l m d r s).1:=by
 unfold di;cases (pZ r==0)||((s.length:Int) !=16);case true=>exact z
 cases (iM l m d (ql r r.2.2.2) s true).2 with|false=>exact z|true=>exact Ge hn z ..
theorem RQ (hn:128<=n)(l:aw aE)(d:Int)(p:dj):∀(q:bP){m:bN}(r:lB),dh n (.sl .str) m->dh n (.sl .str) (nz l d p q m r).2.1
 |[],m,r,z=>z
 |b::q,m,r,z=>by rw[nz];cases (di l m d r (fJ p b)).2.2 with|false=>exact z|true=>exact RQ hn l d p q _ (Kd hn z ..)
theorem RR (hn:128<=n)(z:dh n (.sl .str) m)(l:aw aE)(d:Int)(r:lB)(p:dj):dh n (.sl .str) (vM l m d r p).1:=by unfold vM;cases !dx r|| !dI p with|true=>exact z|false=>exact RQ hn _ _ _ _ _ z
theorem adm (l:aw aE)(m:bN)(d:Int)(r:lB)(p:dj):(vM l m d r p).1.length=m.length:=by unfold vM;cases !dx r|| !dI p with|true=>rfl|false=>exact(KX ..).1
theorem Ie (l:aw aE)(m:bN)(d:Int)(r:lB)(p:dj):(vM l m d r p).2.2.1.2.2.2.length<=p.2.2.2.length:=by unfold vM;cases !dx r|| !dI p with|true=>exact bh _|false=>show(p.2.2.2.drop _).length<=_;rw[aL];omega
theorem Yr (l:aw aE)(m:bN)(d:Int):∀(k:Nat)(s:aw Stream×cp×dj),(kD l m d k s).2.2.1.2.2.2=s.2.1.2.2.2/\(kD l m d k s).1<=k
 |0,s=>⟨rfl,bh _⟩
 |k+1,s=>by rw[kD];cases (tH l m d s.2.1.2.2.1).2.2 with|false=>exact⟨rfl,cf _⟩|true=>have:=Yr l m d k (Gc l m d s);simp only[aj,af];exact⟨this.1,by omega⟩
theorem SR (hn:128<=n){rx:cp}{pl:dj}{st:aw Stream}(c:Int)(zm:dh n (.sl .str) m)(zr:dh n eY rx)(zp:dh n jP pl)(zs:dh n (.sl fL) st): dh n (.sl .str) (kj l m d rx pl st c).1/\dh n eY (kj l m d rx pl st c).2.1/\dh (n+322000) jP (kj l m d rx pl st c).2.2.1/\dh (n+322000) (.sl fL) (kj l m d rx pl st c).2.2.2.1/\0<=(kj l m d rx pl st c).2.2.2.2/\(kj l m d rx pl st c).2.2.2.2<=1000:=by
 unfold kj;cases hc: !HQ rx||(!dI pl|| !cS c 0 1000)with
 |true=>exact⟨zm,zr,zp.mono,zs.mono,cX _,by show(0:Int)<=1000;omega⟩
 |false=>
  have hi:cS c 0 1000=true:=by cases h:cS c 0 1000 with|true=>rfl|false=>rw[h]at hc;simp at hc
  have h:=aX.1 hi;have z:=PO (l:=l) (m:=m) (d:=d) c.toNat (s:=(st,rx,pl)) (n:=n) ⟨zs,zp.2.2.2.1⟩;have hx:=Yr l m d c.toNat (st,rx,pl);refine⟨RR hn zm ..,⟨?_,?_,?_,?_⟩,⟨cy,cy,cy,?_,λ_ _=>trivial⟩,z.st.mono,by show(0:Int)<=((kD l m d c.toNat (st,rx,pl)).1:Int);omega,by show((kD l m d c.toNat (st,rx,pl)).1:Int)<=1000;omega⟩;exact⟨cy,cy,cy,cy⟩;exact⟨cy,cy,cy⟩;exact⟨cy,cy,cy⟩;have e:=congrArg (λq=>dh n eY (rx.1,rx.2.1,rx.2.2.1,q)) hx.1;exact(e.mpr zr).2.2.2;have:=Ie l m d (kD l m d c.toNat (st,rx,pl)).2.2.1.1 (kD l m d c.toNat (st,rx,pl)).2.2.2;have h2:=z.pl;show(vM l m d (kD l m d c.toNat (st,rx,pl)).2.2.1.1 (kD l m d c.toNat (st,rx,pl)).2.2.2).2.2.1.2.2.2.length<=_;omega
theorem acb (hn:128<=n)(i:Nat)(c:Int)(z:dh n dk h):dh (n+322000) dk (xY h i c).2:=by unfold xY;rcases h1:h.2.2.2.1[i]? with _|rx;exact z.mono;rcases h2:h.2.2.2.2.1[i]? with _|pl;exact z.mono;have zr:=z.2.2.2.1.2 _ (aW h1);have zp:=z.2.2.2.2.1.2 _ (aW h2);have hp:=SR hn (l:=h.2.1) (d:=0) c z.1 zr zp z.2.2.2.2.2.2.2.2.2.1;have z':dh (n+322000) dk h:=z.mono;exact⟨hp.1.mono,z'.2.1,z'.2.2.1,mZ z'.2.2.2.1 (hp.2.1.mono),mZ z'.2.2.2.2.1 hp.2.2.1,z'.2.2.2.2.2.1,z'.2.2.2.2.2.2.1,z'.2.2.2.2.2.2.2.1,z'.2.2.2.2.2.2.2.2.1,hp.2.2.2.1,z'.2.2.2.2.2.2.2.2.2.2⟩
def bB (l:aw aE)(m:bN)(d:Int)(r:lB):Bytes×lB×Bool:=
 bif !dx r||(bR r==0) then([],r,false) else
 bif !(tM l m d (ql r r.2.2.1) 16).2 then([],r,false) else
 ((tM l m d (ql r r.2.2.1) 16).1,(r.1,r.2.1,tmod (r.2.2.1+1) (2*r.2.1),r.2.2.2),true)
theorem JO (l:aw aE)(m:bN)(d:Int)(r:lB)(hl:l.length<=10^9)(hm:m.length<=10^9):uq l m d r=some (bB l m d r):=by
 have hA:=Gq r r.2.2.1;unfold uq bB;simp only[zA,BR,ab,Sq,CN l m d _ 16 hl hm (show ql r r.2.2.1<=9223372036854775807 by omega)];cases hb:dx r;rfl;have h:=md hb;cases bR r==0;case true=>rfl
 simp only[aj,af,ab,cB];cases (tM l m d (ql r r.2.2.1) 16).2;rfl;simp only[aj,af];rw[al (n:=2*r.2.1),nX,al (n:=r.2.2.1+1)]
theorem HY (l:aw aE)(m:bN)(d:Int)(r:lB):(bB l m d r).1.length<=100000000:=by
 unfold bB;cases !dx r||(bR r==0);case true=>exact cf _
 cases (tM l m d (ql r r.2.2.1) 16).2 with|false=>exact cf _|true=>exact Ou ..
theorem Gw (h:(bB l m d r).2.2=true): dx (bB l m d r).2.1=true/\bR (bB l m d r).2.1=bR r-1/\(bB l m d r).2.1.1=r.1/\(bB l m d r).2.1.2.1=r.2.1/\(bB l m d r).2.1.2.2.2=r.2.2.2:=by
 unfold bB at h⊢;cases hb:dx r with|false=>rw[hb]at h;cases h|true=>?_
 cases hu:bR r==0 with|true=>rw[hb,hu]at h;cases h|false=>?_
 cases hd:(tM l m d (ql r r.2.2.1) 16).2 with|false=>rw[hb,hu,hd]at h;cases h|true=>?_
 simp only[aj,cB,af];have hr:=md hb;have hq:=hb;simp only[dx,ae,aF]at hq;have h1:=hq.2.2.2.2;have hs:=hq.2.1;have UD:bR r≠0:=by simpa using hu
 have e:tmod (r.2.2.1+1) (2*r.2.1)=(r.2.2.1+1)%(2*r.2.1):=dG (by omega);rw[e];unfold bR at h1 UD⊢;simp only[hs,cg]at h1 UD⊢;have key:(r.2.2.2-(r.2.2.1+1)%(2*r.2.1))%(2*r.2.1)=(r.2.2.2-r.2.2.1)%(2*r.2.1)-1/\0<=(r.2.2.1+1)%(2*r.2.1)/\(r.2.2.1+1)%(2*r.2.1)<=2*r.2.1-1:=by rcases hr.2.2.1 with hn|hn|hn|hn<;>rw[hn]at h1 UD hr⊢<;>omega
 refine⟨?_,key.1,cy,cy,cy⟩;simp only[dx,bR,hs,cg,ae,aF,aX];refine⟨by omega,cy,by omega,by omega,?_⟩;rw[key.1];omega
theorem zP (h:dx r=true):0<=bR r/\bR r<=16:=by have hr:=md h;have hq:=h;simp only[dx,ae,aF]at hq;refine⟨?_,by have:=hq.2.2.2.2;omega⟩;unfold bR;rw[hq.2.1,aH rfl];exact fC _ (by omega)
def L6:GG:=(0,0,0,0,0,0)
def FA (s:Bytes):GG:=((bV s 0:Int),(bV s 1:Int),dc s 2,eM s 4,dc s 8,dc s 10)
def dw (s:Bytes):GG×Bool:=
 bif ((s.length:Int) !=16) then(L6,false) else bif !(Av (FA s)==s) then(L6,false) else(FA s,true)
theorem Xs (s:Bytes)(h:s.length<=10^9):qc s=some (dw s):=by
 unfold qc dw;cases hn:(s.length:Int) !=16;case true=>rfl
 have hl:s.length=16:=by
  have:((s.length:Int)==16)=true:=by simpa using hn
  have:=bt this;omega
 have b0:=uJ (s[0]'(by omega));have b1:=uJ (s[1]'(by omega));have i0:idx s 0=some (s[0]'(by omega)):=bj (i:=0) (by omega);have i1:idx s 1=some (s[1]'(by omega)):=bj (i:=1) (by omega);have e:(((s[0]'(by omega)).toNat:Int),((s[1]'(by omega)).toNat:Int),dc s 2,eM s 4,dc s 8,dc s 10)=FA s:=by simp only[FA,bV,cH (show 0<s.length by omega),cH (show 1<s.length by omega)]
 simp only[af,i0,i1,ab,xQ s _ h,xR s _ h];rw[jt (n:=(s[0]'(by omega)).toNat),jt (n:=(s[1]'(by omega)).toNat),e,UL,ab];cases Av (FA s)==s<;>rfl
theorem aaR (h:(dw s).2=true):vK (dw s).1=true:=by
 unfold dw at h⊢;cases hn:(s.length:Int) !=16 with|true=>rw[hn]at h;cases h|false=>?_
 cases he:Av (FA s)==s with|false=>rw[hn,he]at h;cases h|true=>?_
 simp only[af,aj];cases hd:vK (FA s)with
 |true=>rfl
 |false=>
  have:Av (FA s)=[]:=by unfold Av;rw[hd];rfl
  rw[this]at he;cases s with|nil=>simp at hn|cons x y=>cases he
def aaT (x:GG):Bool:=bif x.1==1 then(ar (BitVec.toNat (ie x.2.1&&&ie 1))) !=0 else false
def wg (l:aw aE)(m:bN)(d:Int):Nat->aw GG->lB->aw GG×lB×Bool
 |0,acc,r=>(acc,r,true)
 |n+1,acc,r=>
  bif !(bB l m d r).2.2|| !(dw (bB l m d r).1).2 then([],(r.1,r.2.1,r.2.2.2,r.2.2.2),false) else
  bif aaT (dw (bB l m d r).1).1 then(acc++[(dw (bB l m d r).1).1],(bB l m d r).2.1,true) else
  wg l m d n (acc++[(dw (bB l m d r).1).1]) (bB l m d r).2.1
def dF (l:aw aE)(m:bN)(d:Int)(r:lB):aw GG×lB×Bool:=
 bif !dx r||(bR r==0) then([],r,false) else wg l m d (bR r).toNat [] r
theorem HC (k0:aw GG->lB->ay R)(k1:aw GG->Bool->aw GG->lB->lB->ay R)(K:aw GG×lB×Bool->ay R)
 (h0:∀a r,k0 a r=K (a,r,true)) (l:aw aE) (m:bN) (d:Int) (B E:lB) (h1:∀a r,k1 [] false a r E=K ([],E,false)) (hl:l.length<=10^9) (hm:m.length<=10^9):∀(n:Nat)(acc:aw GG)(r:lB)(f:Nat),
 n<f->dx r=true->(bR r).toNat=n->acc.length+n<=1000->E=(r.1,r.2.1,r.2.2.2,r.2.2.2)->bc (mX k0 k1 l d ([]:aw GG) false m B E) f (acc,r)=K (wg l m d n acc r)
 |n,acc,r,0,hf,_,_,_,_=>by omega
 |0,acc,r,f+1,hf,hb,hu,ha,hE=>by rw[bc];simp only[mX,BR,ab];rw[cz,af,h0];rfl
 |n+1,acc,r,f+1,hf,hb,hu,ha,hE=>by
  have hlen:=HY l m d r;have hk:=Gw (l:=l) (m:=m) (d:=d) (r:=r);rw[bc];simp only[mX,BR,ab];rw[iU,ah,JO l m d r hl hm,ab,wg];generalize bB l m d r=t at hlen hk⊢;cases ht:t.2.2 with
  |false=>simp only[bw,ah,iB,<-hE,h1]
  |true=>
   have hk:=hk ht;simp only[aj,af,cA];rw[Xs _ (show t.1.length<=10^9 by omega),ab];generalize dw t.1=x;cases x.2 with
   |false=>simp only[bw,ah,<-hE,h1]
   |true=>
    simp only[aj,af];rw[aO (by rw[bf];omega)];have e:(aa (cond (x.1.1==1) (some ((ar (BitVec.toNat (ie x.1.2.1&&&ie 1))) !=0)) (some false)):(Bool->ay R)->ay R)=λK=>K (aaT x.1):=by funext K;unfold aaT;cases x.1.1==1<;>rfl
    rw[e];cases aaT x.1 with|true=>simp only[ah,h0]|false=>simp only[af];exact HC k0 k1 K h0 l m d B E h1 hl hm n _ _ f (by omega) hk.1 (by omega) (by simp;omega) (by rw[hE,hk.2.2.1,hk.2.2.2.1,hk.2.2.2.2])
theorem Q7 (l:aw aE)(m:bN)(d:Int)(r:lB)(hl:l.length<=10^9)(hm:m.length<=10^9):wQ l m d r=some (dF l m d r):=by
 have Df:=eo;unfold wQ dF;simp only[zA,BR,ab];cases hb:dx r;rfl;cases bR r==0;case true=>rfl
 have hu:=zP hb;simp only[aj,af,ab,cB];exact HC _ _ (λx=>some x) (λ_ _=>rfl) l m d _ _ (λ_ _=>rfl) hl hm _ [] r fuel (by omega) hb rfl (by simp;omega) rfl
def B7 (x:Int×Int):Bool:=decide (x.1<0)|| !cS x.2 0 4096
def pN (l:aw (Int×Int)):Bool:= !l.any B7&&decide ((l.length:Int)<=16)
theorem ab8 (l:aw (Int×Int)):(bif l.any B7 then some false else some (decide ((l.length:Int)<=16)))=some (pN l):=by unfold pN;cases l.any B7<;>rfl
theorem Pc (l:aw (Int×Int))(h:l.length<=10^9):um l=some (pN l):=by
 unfold um;rw[<-ab8];refine I4 B7 l (by omega) (λi hi nx=>?_) (λnx=>?_);simp only[sL];rw[iU,ah,bj hi,ab,cl,al];unfold B7;cases decide (l[i].1<0)with|true=>rfl|false=>simp only[af,ab,cA];rfl
 simp only[sL];rw[cz,af]
theorem LB {l:aw (Int×Int)}(h:pN l=true):l.length<=16/\∀x∈l,0<=x.1/\0<=x.2/\x.2<=4096:=by unfold pN at h;simp only[ae,aF,aK]at h;refine⟨by omega,λx hx=>?_⟩;have:=List.any_eq_false.1 h.1 x hx;unfold B7 at this;simp only[cQ,aF,aK,not_or,Bool.not_eq_false,aX]at this;omega
def dsc (n:Nat)(c:Int)(i:Nat)(x:Int×Int):GG:=(1,(if i+1=n then 1 else 0),x.2,x.1,0,c)
def Al (ps:aw (Int×Int))(c:Int):Nat->aw GG
 |0=>[]
 |i+1=>Al ps c i++[dsc ps.length c i (ps.getD i (0,0))]
theorem Dz (ps:aw (Int×Int))(c:Int):∀i,(Al ps c i).length=i
 |0=>rfl
 |i+1=>by rw[Al,ai,Dz ps c i];rfl
theorem KT (ps:aw (Int×Int))(c:Int)(q:GG->Bool):∀i,(Al ps c i).all q=(List.range i).all (λj=>q (dsc ps.length c j (ps.getD j (0,0))))
 |0=>rfl
 |i+1=>by rw[Al,List.all_append,KT ps c q i,gP,List.all_append];rfl
def rL (ps:aw (Int×Int))(z c:Int):aw GG:=
 bif ((ps.length:Int)==0)||(!pN ps|| !cS z 1 128) then [] else
 bif ([(2,0,0,0,z,c)]++Al ps c ps.length).all vK then [(2,0,0,0,z,c)]++Al ps c ps.length else []
theorem Ek (ps:aw (Int×Int))(z c:Int)(h:ps.length<=10^9:=by omega):∃b,jc ps z c=some (b,rL ps z c)/\(b=false->rL ps z c=[]):=by
 unfold jc rL;rw[Pc ps h,cl];simp only[ab];cases ((ps.length:Int)==0);case true=>exact⟨false,rfl,λ_=>rfl⟩
 cases pN ps;exact⟨false,rfl,λ_=>rfl⟩;cases cS z 1 128;exact⟨false,rfl,λ_=>rfl⟩;simp only[aj,af,ab,cB];refine⟨([(2,0,0,0,z,c)]++Al ps c ps.length).all vK,?_,λhb=>by rw[hb];rfl⟩;refine dC (λi=>(([(2,0,0,0,z,c)]++Al ps c i,(i:Int)):aw GG×Int)) ps.length (by omega) (λi nx hi=>?_) (λnx=>?_);have hl:=Dz ps c i;simp only[kM];rw[iU,ah,bj hi,ab,al (n:=(ps.length:Int)-1),al];have e:[(2,0,0,0,z,c)]++Al ps c (i+1)=([(2,0,0,0,z,c)]++Al ps c i)++[dsc ps.length c i ps[i]]:=by rw[Al,cH hi,aY]
 rw[e];unfold dsc;by_cases hc:i+1=ps.length;rw[show((i:Int)==(ps.length:Int)-1)=true from by rw[aZ];omega,aH hc];simp only[ah];rw[aO (by simp only[ai,bf];omega)];rfl;rw[show((i:Int)==(ps.length:Int)-1)=false from by rw[cr];omega,aG hc];simp only[af];rw[aO (by simp only[ai,bf];omega)];rfl;simp only[kM];rw[cz,af];have hl:=Dz ps c ps.length;generalize hq:[(2,0,0,0,z,c)]++Al ps c ps.length=q;have hn:q.length<=1000000001:=by rw[<-hq];simp only[ai,bf];omega
 rw[qC (fin:=some (true,q)) (hit:=some (false,[])) vK q (by omega) (λi hi nx=>?_) (λnx=>?_)];cases q.all vK<;>rfl;simp only[kf];rw[iU,ah,bj hi,ab,Xt,ab,al];rfl;simp only[kf];rw[cz,af]
def P3 (x y:GG):Bool:=(x.1==y.1)&&((x.2.1==y.2.1)&&((x.2.2.1==y.2.2.1)&&((x.2.2.2.1==y.2.2.2.1)&&((x.2.2.2.2.1==y.2.2.2.2.1)&&((x.2.2.2.2.2==y.2.2.2.2.2)&&true)))))
def LQ (a b:aw GG):Bool:=((a.length:Int)==(b.length:Int))&&(List.range a.length).all λi=>P3 (a.getD i L6) (b.getD i L6)
def lQ (l:aw GG):aw (Int×Int):=(l.drop 1).map λx=>(x.2.2.2.1,x.2.2.1)
def gk (l:aw GG):aw (Int×Int)×Int×Int×Bool:=
 match l with
 |h::x::r=>bif LQ (rL (lQ l) h.2.2.2.2.1 h.2.2.2.2.2) l then(lQ l,h.2.2.2.2.1,h.2.2.2.2.2,true) else([],0,0,false)
 |_=>([],0,0,false)
theorem aeG (ps:aw (Int×Int))(z c:Int):(rL ps z c).length<=ps.length+1:=by
 unfold rL;cases ((ps.length:Int)==0)||(!pN ps|| !cS z 1 128);case true=>simp
 cases ([(2,0,0,0,z,c)]++Al ps c ps.length).all vK with|false=>simp|true=>simp only[af,ah,ai,bf,Dz];omega
theorem UP (l:aw GG)(hl:l.length<=10^9):pA l=some (gk l):=by
 unfold pA;match l,hl with
 |[],_=>rfl
 |[h],_=>rfl
 |h::y::r,hl=>
  generalize hq:y::r=q;have hq1:1<=q.length:=by rw[<-hq];simp
  have hlen:q.length+1<=10^9:=by rw[<-hq];simpa using hl
  have i0:idx (h::q) 0=some h:=rfl;have s0:sub (h::q) 1 (((h::q).length:Nat):Int)=some q:=EN (l:=h::q) 1 (by simp) (a:=1) rfl;rw[aq (by simp only[ba];omega),af,s0,ab];refine dC (λi=>(((q.take i).map (λx=>(x.2.2.2.1,x.2.2.1)),(i:Int)):aw (Int×Int)×Int)) q.length (by omega) (λi nx hi=>?_) (λnx=>?_);simp only[lX];rw[iU,ah,bj hi,ab,aO (by simp only[bL,aV,bf];omega),al,bn hi,ee];rfl;simp only[lX];rw[cz,af,cO];have hp:q.map (λx=>(x.2.2.2.1,x.2.2.1))=lQ (h::q):=rfl;have GZ:(lQ (h::q)).length=q.length:=by rw[<-hp,bL]
  rw[hp];have hdl:=aeG (lQ (h::q)) h.2.2.2.2.1 h.2.2.2.2.2;obtain⟨b,hd,hb⟩:=Ek (lQ (h::q)) h.2.2.2.2.1 h.2.2.2.2.2;have hR:gk (h::q)=bif LQ (rL (lQ (h::q)) h.2.2.2.2.1 h.2.2.2.2.2) (h::q) then(lQ (h::q),h.2.2.2.2.1,h.2.2.2.2.2,true) else([],0,0,false):=by rw[<-hq];rfl
  rw[hR];simp only[i0,ab,hd];have hlc:(((h::q).length:Nat):Int)=(q.length:Int)+1:=by simp only[ba];omega
  generalize rL (lQ (h::q)) h.2.2.2.2.1 h.2.2.2.2.2=w at hdl hb⊢
  have core:∀(K:ay (aw (Int×Int)×Int×Int×Bool))(w':aw GG),w'=w->(bif ((w'.length:Nat):Int) !=(((h::q).length:Nat):Int) then some (([]:aw (Int×Int)),(0:Int),(0:Int),false) else
   bc (gY (λBx=>some (lQ (h::q),h.2.2.2.2.1,h.2.2.2.2.2,true)) (λAq zW Dv xF Dx=>some (Aq,zW,Dv,xF)) (h::q) (lQ (h::q)) h.2.2.2.2.1 h.2.2.2.2.2 w' ((w'.length:Nat):Int)) fuel 0)=some (bif LQ w (h::q) then(lQ (h::q),h.2.2.2.2.1,h.2.2.2.2.2,true) else([],0,0,false)):=by
   intro K w' e
   subst e
   unfold LQ
   cases hl:((w'.length:Int)==(((h::q).length:Nat):Int))with
   |false=>simp only[bne,hl,bw,ah,dQ,af]
   |true=>
    have hn:w'.length=(h::q).length:=by have:=bt hl;omega
    simp only[bne,hl,aj,af,bl]
    rw[iK (fin:=some (lQ (h::q),h.2.2.2.2.1,h.2.2.2.2.2,true)) (hit:=some ([],0,0,false)) (λi=>P3 (w'.getD i L6) ((h::q).getD i L6)) w'.length (by omega) (λi nx hi=>?_) (λnx=>?_)]
    ·cases (List.range w'.length).all (λi=>P3 (w'.getD i L6) ((h::q).getD i L6))<;>rfl
    ·have hi2:i<(h::q).length:=by omega
     simp only[gY]
     rw[iU,ah,bj hi,bj hi2,ab,ab,al,cH hi,cH hi2];rfl
    ·simp only[gY]
     rw[cz,af]
  cases b with|true=>exact core none w rfl|false=>exact core none [] (hb rfl).symm
theorem Yp {l:aw GG}(h:(gk l).2.2.2=true):pN (gk l).1=true/\∀p∈(gk l).1,p.1<=4294967295:=by match l,h with|hd::x::r,h=>unfold gk at h⊢;simp only at h⊢;cases hs:LQ (rL (lQ (hd::x::r)) hd.2.2.2.2.1 hd.2.2.2.2.2) (hd::x::r)with|false=>rw[hs]at h;cases h|true=>simp only[ah];generalize hw:lQ (hd::x::r)=ps at hs⊢;unfold LQ at hs;simp only[ae]at hs;have hn:=bt hs.1;unfold rL at hn;cases hc:((ps.length:Int)==0)||(!pN ps|| !cS hd.2.2.2.2.1 1 128)with|true=>rw[hc]at hn;simp at hn;omega|false=>rw[hc]at hn;cases ha:([(2,0,0,0,hd.2.2.2.2.1,hd.2.2.2.2.2)]++Al ps hd.2.2.2.2.2 ps.length).all vK with|false=>rw[ha]at hn;simp at hn;omega|true=>simp only[cu,dV]at hc;refine⟨hc.2.1,λp hp=>?_⟩;rw[List.all_append,KT,ae]at ha;obtain⟨i,hi,rfl⟩:=List.getElem_of_mem hp;have:=aD.1 ha.2 i (bD.2 hi);rw[cH hi]at this;simp only[vK,dsc,ae,aX]at this;omega
theorem KU (l:aw aE)(m:bN)(d a n:Int):(tM l m d a n).1.length<=33554432:=by have hL:=LP l m d a n false;have h1:=xi m (kZ l m d a n false).1;unfold tM;cases (kZ l m d a n false).2 with|false=>simp|true=>simp only[ah];omega
def Eg (l:aw aE)(m:bN)(d:Int):aw (Int×Int)->Bytes->Bytes×Bool
 |[],acc=>(acc,true)
 |p::ps,acc=>bif (tM l m d p.1 p.2).2 then Eg l m d ps (acc++(tM l m d p.1 p.2).1) else([],false)
def nG (l:aw aE)(m:bN)(d:Int)(ps:aw (Int×Int)):Bytes×Bool:=bif pN ps then Eg l m d ps [] else([],false)
def Jn (l:aw aE)(m:bN)(d:Int)(p:Int×Int)(s:Bytes):Except (ay (Bytes×Bool)) Bytes:=
 if(tM l m d p.1 p.2).2=true then .ok (s++(tM l m d p.1 p.2).1) else .error (some ([],false))
theorem OL (l:aw aE)(m:bN)(d:Int):∀(ps:aw (Int×Int))(s:Bytes),Dq (Jn l m d) (λs=>some (s,true)) ps s=some (Eg l m d ps s)
 |[],s=>rfl
 |p::ps,s=>by rw[Dq,Eg];unfold Jn;cases hd:(tM l m d p.1 p.2).2 with|false=>rfl|true=>rw[aH rfl];exact OL l m d ps _
theorem Me (l:aw aE)(m:bN)(d:Int):∀(ps:aw (Int×Int))(s:Bytes),(Eg l m d ps s).1.length<=s.length+33554432*ps.length
 |[],s=>by simp[Eg]
 |p::ps,s=>by have h1:=KU l m d p.1 p.2;rw[Eg];cases (tM l m d p.1 p.2).2 with|false=>simp|true=>have:=Me l m d ps (s++(tM l m d p.1 p.2).1);rw[ai]at this;simp only[ah,ba,Nat.mul_add];omega
theorem WR (l:aw aE)(m:bN)(d:Int)(ps:aw (Int×Int)):(nG l m d ps).1.length<=10^9:=by unfold nG;cases hp:pN ps with|false=>simp|true=>have:=(LB hp).1;have:=Me l m d ps [];simp only[ed]at this;simp only[ah];omega
theorem abp (l:aw aE)(m:bN)(d:Int)(ps:aw (Int×Int))(hl:l.length<=10^9)(hm:m.length<=10^9)(hn:ps.length<=10^9)(ha:∀p∈ps,p.1<=9223372036854775807):qZ l m d ps=some (nG l m d ps):=by
 unfold qZ nG;rw[Pc ps hn,ab];cases hp:pN ps;rfl;have h16:=(LB hp).1;simp only[aj,af,ah];rw[<-OL];refine uz ps (λs i=>(s,(i:Int))) (λi s=>s.length<=33554432*i) (Jn l m d) _ (by omega) (λi hi s nx hI=>?_) (λi hi s s' hI he=>?_) (λs nx hI=>?_) [] (by simp);have h1:=KU l m d ps[i].1 ps[i].2;simp only[mS];rw[iU,ah,bj hi,ab,CN l m d _ _ hl hm (ha _ (aI hi)),ab];unfold Jn;cases hd:(tM l m d ps[i].1 ps[i].2).2 with|false=>rfl|true=>rw[aH rfl,aO,al];rfl
 have h1:=KU l m d ps[i].1 ps[i].2;unfold Jn at he;split at he;injection he with he;rw[<-he,ai];omega;cases he;simp only[mS];rw[cz,af]
def Ct (t:Bytes):Int:=dc t ((dK t+2:Nat):Int)
def Rs (t:Bytes):Int:=RE ((t.take (dK t+20)).drop (dK t))
def acs (t:Bytes):Bytes:=(t.take (dK t+(Ct t).toNat)).drop (dK t+20)
def alg (t:Bytes):Bytes:=xZ (eM t ((dK t+12:Nat):Int)) (eM t ((dK t+16:Nat):Int)) (kY t:Int) (Ct t-20)
def LX (t:Bytes):Int:=bif ((kY t:Int)==17)&&(RE (alg t++acs t)==0) then 65535 else RE (alg t++acs t)
def adn (t s:Bytes):Bytes×Bool:=bif ((kl s).2==0)&&((kS (kl s).1).1==t) then dM (kl s).1 else([],false)
def Am (t:Bytes):Bytes×Bool:=adn t (nd t (cj (Rs t)) (cj (LX t)))
theorem ND (h:¬(TOk t/\dc t (Dr t:Int)=0/\dc t (Bj t:Int)=0)):Am t=([],false):=by
 have ha:EZ (nd t (cj (Rs t)) (cj (LX t))) t:=HO t (bQ _) (bQ _);unfold Am adn;generalize nd t (cj (Rs t)) (cj (LX t))=s at ha⊢;cases h1:(kl s).2==0;rfl;have QJ:(kl s).2=0:=by simpa using h1
 cases h2:(kS (kl s).1).1==t;rfl;have VJ:(kS (kl s).1).1=t:=eq_of_beq h2;have ht:=apm ha QJ;exact absurd ⟨ht,agP VJ (PW QJ).2.2.1 ht⟩ h
theorem Kz (t:Bytes)(o n:Nat):(t.drop o).take n=(t.take (o+n)).drop o:=by rw[List.drop_take];congr 1;omega
theorem Yv (h1:dK t+20<=t.length)(h2:20<=Ct t)(h3:Ct t<=(t.length:Int))(h4:t.length<=10^9):AM (eM t ((dK t+12:Nat):Int)) (eM t ((dK t+16:Nat):Int)) (kY t:Int) (Ct t-20)=true:=by have a1:=Jo (s:=t) (a:=((dK t+12:Nat):Int));have a2:=Jo (s:=t) (a:=((dK t+16:Nat):Int));have a3:=eD t (dK t+9);have a4:=ON (s:=t) (a:=((dK t+2:Nat):Int));unfold AM;rw[aX.2 a1,aX.2 a2,aX.2 (show 0<=(kY t:Int)/\(kY t:Int)<=255 by unfold kY;omega),aX.2 (show 0<=Ct t-20/\Ct t-20<=65535 by unfold Ct at*;omega)];rfl
theorem afd (t:Bytes)(hl:t.length<=10^9):yy t=some (Am t):=by
 have hp:=B8 t
 have hk:=Kr (kY t)
 have VM:kY t<256:=eD t (dK t+9)
 have FP:=J8 t
 unfold yy
 rw[JH t hl,ab,xQ _ _ (by omega),ab]
 cases h1:(gS t).2 with
 |false=>rw[ND λh=>by have:=h.1.eth;rw[h1]at this;cases this];rfl
 |true=>
 have he:=LA h1
 rw[he.1]
 simp only[aj,af,ab]
 have en:dc (t.drop (dK t)) 2=Ct t:=OM (a:=2)
 rw[en]
 by_cases h4:Ct t<20
 ·rw[au h4,ND λh=>by have:=h.1.n1;unfold Ct at h4;omega];rfl
 rw[aq h4]
 simp only[af,ab]
 by_cases h5:Ct t>((t.drop (dK t)).length:Int)
 ·rw[au h5,ND λh=>by have:=h.1.n2;unfold Ct at h5;rw[aL]at h5;omega];rfl
 rw[aq h5]
 rw[aL]at h5
 have hdl:(t.drop (dK t)).length=t.length-dK t:=aL ..
 obtain⟨n,hn⟩:=aQ (show 0<=Ct t by omega)
 obtain⟨x,hx,ex⟩:=mO (s:=t.drop (dK t)) (i:=9)
 have hx9:idx (t.drop (dK t)) 9=some x:=hx
 have s1:sub (t.drop (dK t)) 0 20=some ((t.take (dK t+20)).drop (dK t)):=by rw[EO,<-Kz];rfl
 have s2:sub (t.drop (dK t)) 20 (Ct t)=some (acs t):=by rw[ad5 (l:=t.drop (dK t)) 20 (a:=20) rfl,hn,ax,Kz,fw];unfold acs;rw[hn];rfl
 have hps:=LF (eM t ((dK t+12:Nat):Int)) (eM t ((dK t+16:Nat):Int)) (kY t:Int) (Ct t-20)
 have aiI:((acs t).length:Int)=Ct t-20:=by unfold acs;rw[aL,aV,hn];omega
 have hk2:ar ((UInt8.toNat x:Int))=(kY t:Int):=by rw[ex,mG,jt (show bV t (dK t+9)<9223372036854775808 by unfold kY at VM;omega)];rfl
 have g12:eM (t.drop (dK t)) 12=eM t ((dK t+12:Nat):Int):=OO (a:=12)
 have g16:eM (t.drop (dK t)) 16=eM t ((dK t+16:Nat):Int):=OO (a:=16)
 have hw:ar ((Qh (kY t):Int)+2)=(Qh (kY t):Int)+2:=by rw[al]
 simp only[af,ab,JN t hl,s1,s2,hx9,xR _ _ (show(t.drop (dK t)).length<=10^9 by omega),hk2,Pd,aiI,g12,g16,Yv (show dK t+20<=t.length by omega) (show 20<=Ct t by omega) (show Ct t<=(t.length:Int) by omega) hl,ah,aj,Ld _ VM,hw]
 rw[show xZ (eM t ((dK t+12:Nat):Int)) (eM t ((dK t+16:Nat):Int)) (kY t:Int) (Ct t-20)=alg t from rfl]at hps⊢
 by_cases h6:(Qh (kY t):Int)+2>Ct t-20
 ·rw[au h6,ND λh=>by have:=h.1.n1;unfold Ct at h6;omega];rfl
 rw[aq h6]
 simp only[af]
 have hck:((t.take (dK t+20)).drop (dK t)).length<=10^9:=by rw[aL,aV];omega
 rw[aO,NK _ (by rw[ai];omega),ab]
 have pq:∀y:Int,LX t=y->(aa (jJ ((t.take (dK t+20)).drop (dK t))) λr25=>aa (cw r25) λZJ=>aa (gn t (Dr t:Int) ZJ) λVO=>aa (cw y) λr28=>aa (gn VO (Bj t:Int) r28) λr29=>aa (ja r29) λZK=>aa (nm ZK.1) λVP=>
  aa (bif ZK.2 !=0 then some true else bif !VP.2 then some true else some (!(VP.1==t))) λq32=>bif q32 then some (([]:Bytes),false) else aa (gT ZK.1) λr33=>some r33)=some (Am t):=by
  intro y hy
  subst hy
  have b1:=bQ (Rs t)
  have b2:=bQ (LX t)
  rw[NK _ hck,ab,show RE ((t.take (dK t+20)).drop (dK t))=Rs t from rfl]
  rw[lH,ab,Em t _ _ hl,ab,lH,ab,Em _ _ _ (by rw[B9];exact hl),ab]
  have hlen:=Gf t (cj (Rs t)) (cj (LX t))
  unfold Am
  rw[show ya (ya t (Dr t:Int) (cj (Rs t))) (Bj t:Int) (cj (LX t))=nd t (cj (Rs t)) (cj (LX t)) from rfl]
  generalize nd t (cj (Rs t)) (cj (LX t))=s at hlen⊢
  simp only[G4 s (by omega),ab,St,DM,adn,bne]
  cases h1:(kl s).2==0;rfl
  have hsb:=(PW (show(kl s).2=0 by simpa using h1)).2.2.1
  have h2:(kS (kl s).1).2=true:=by unfold kS;rw[hsb];rfl
  rw[h2]
  cases (kS (kl s).1).1==t<;>rfl
 cases h8:(kY t:Int)==17 with
 |false=>exact pq _ (by unfold LX;rw[h8];rfl)
 |true=>
  simp only[ah,ab]
  cases h7:RE (alg t++acs t)==0 with
  |false=>exact pq _ (by unfold LX;rw[h7,ft];rfl)
  |true=>exact pq _ (by unfold LX;rw[h7,h8];rfl)
theorem aeM (t:Bytes):(Am t).1.length<=378:=by unfold Am adn;generalize nd t (cj (Rs t)) (cj (LX t))=s;cases ((kl s).2==0)&&((kS (kl s).1).1==t)with|false=>exact cf _|true=>exact Br _
theorem Oe (l:aw aE)(m:bN)(d:Int):∀(n:Nat)(acc:aw GG)(r:lB),(wg l m d n acc r).1.length<=acc.length+n
 |0,acc,r=>bh _
 |n+1,acc,r=>by
  rw[wg];cases !(bB l m d r).2.2|| !(dw (bB l m d r).1).2;case true=>exact cf _
  cases aaT (dw (bB l m d r).1).1 with|true=>simp only[af,ah,ai,bf];omega|false=>have:=Oe l m d n (acc++[(dw (bB l m d r).1).1]) (bB l m d r).2.1;simp only[ai,bf]at this;simp only[af];omega
theorem aco (h:dx r=true):dx (r.1,r.2.1,r.2.2.2,r.2.2.2)=true/\bR (r.1,r.2.1,r.2.2.2,r.2.2.2)=0:=by
 have hr:=md h;have hq:=h;simp only[dx,ae,aF]at hq;have hu:bR (r.1,r.2.1,r.2.2.2,r.2.2.2)=0:=by unfold bR;simp only[Int.sub_self,Int.zero_emod,ite_self]
 refine⟨?_,hu⟩;simp only[dx,ae,aF,aX,hu,hq.2.1,true_and];omega
theorem L3 (l:aw aE)(m:bN)(d:Int):∀(n:Nat)(acc:aw GG)(r:lB),dx r=true->(bR r).toNat=n->
 dx (wg l m d n acc r).2.1=true/\bR (wg l m d n acc r).2.1<=bR r/\(0<bR r->bR (wg l m d n acc r).2.1<bR r)
 |0,acc,r,hb,hu=>⟨hb,cX _,λh=>by omega⟩
 |n+1,acc,r,hb,hu=>by have hk:=Gw (l:=l) (m:=m) (d:=d) (r:=r);have he:=aco hb;rw[wg];cases hc: !(bB l m d r).2.2|| !(dw (bB l m d r).1).2 with|true=>exact⟨he.1,by show bR (r.1,r.2.1,r.2.2.2,r.2.2.2)<=_;rw[he.2];omega,λ_=>by show bR (r.1,r.2.1,r.2.2.2,r.2.2.2)<_;rw[he.2];omega⟩|false=>simp only[cu,dV]at hc;have hk:=hk hc.1;cases aaT (dw (bB l m d r).1).1 with|true=>exact⟨hk.1,by show bR (bB l m d r).2.1<=_;omega,λ_=>by show bR (bB l m d r).2.1<_;omega⟩|false=>have:=L3 l m d n (acc++[(dw (bB l m d r).1).1]) (bB l m d r).2.1 hk.1 (by omega);simp only[af];exact⟨this.1,by omega,λ_=>by omega⟩
def jq (l:aw aE)(m:bN)(d:Int)(r:lB):lB×bN×Int:=
 bif !dx r||(bR r==0) then(r,[],0) else
 bif !(dF l m d r).2.2|| !(gk (dF l m d r).1).2.2.2 then((dF l m d r).2.1,[],2) else
 bif !(nG l m d (gk (dF l m d r).1).1).2||(!(Am (nG l m d (gk (dF l m d r).1).1).1).2||((kl (Am (nG l m d (gk (dF l m d r).1).1).1).1).2 !=0)) then((dF l m d r).2.1,[],2) else
 ((dF l m d r).2.1,YL (kl (Am (nG l m d (gk (dF l m d r).1).1).1).1).1 (gk (dF l m d r).1).2.1,1)
theorem abu (l:aw aE)(m:bN)(d:Int)(r:lB)(hl:l.length<=10^9)(hm:m.length<=10^9):rk l m d r=some (jq l m d r):=by
 unfold rk jq;simp only[zA,BR,ab,Q7 l m d r hl hm];cases hb:dx r;rfl;cases bR r==0;case true=>rfl
 have hu:=zP hb;have hcl:(dF l m d r).1.length<=16:=by unfold dF;cases !dx r||(bR r==0)with|true=>exact cf _|false=>have:=Oe l m d (bR r).toNat [] r;simp only[ed]at this;show(wg l m d (bR r).toNat [] r).1.length<=16;omega
 simp only[aj,af,ab,cB];generalize dF l m d r=c at hcl⊢;cases c.2.2;rfl;simp only[aj,af,ab,cA,UP c.1 (show c.1.length<=10^9 by omega)];have hpo:=Yp (l:=c.1);generalize gk c.1=p at hpo⊢;cases hp:p.2.2.2;rfl;have hpo:=hpo hp;have h16:=(LB hpo.1).1;have hg:=WR l m d p.1;simp only[aj,af,ab,cA,abp l m d p.1 hl hm (show p.1.length<=10^9 by omega) (λq hq=>Int.le_trans (hpo.2 q hq) (by omega))];generalize nG l m d p.1=g at hg⊢;cases g.2;rfl;have hf:=aeM g.1;simp only[aj,af,ab,cA,afd g.1 hg];generalize Am g.1=f at hf⊢;cases f.2;rfl;simp only[aj,af,ab,cA,G4 f.1 (show f.1.length<=10^9 by omega)];generalize kl f.1=i;cases i.2 !=0;case true=>rfl
 simp only[af,ai0,ab]
theorem SH (l:aw aE)(m:bN)(d:Int)(r:lB): ((jq l m d r).2.2=0->(jq l m d r).1=r)/\((jq l m d r).2.2≠0->0<bR r/\dx r=true/\dx (jq l m d r).1=true/\bR (jq l m d r).1<bR r)/\(jq l m d r).2.1.length<=320/\(∀x∈(jq l m d r).2.1,x.length<=382)/\((jq l m d r).2.2=0\/(jq l m d r).2.2=1\/(jq l m d r).2.2=2):=by
 unfold jq;cases hc: !dx r||(bR r==0)with
 |true=>exact⟨λ_=>rfl,λh=>absurd rfl h,cf _,(λx hx=>by cases hx),.inl rfl⟩
 |false=>
  simp only[cu,dV,cr]at hc;have hu:=zP hc.1;have hch:dx (dF l m d r).2.1=true/\bR (dF l m d r).2.1<bR r:=by have:=L3 l m d (bR r).toNat [] r hc.1 rfl;unfold dF;rw[show(!dx r||(bR r==0))=false from by rw[hc.1];simpa using hc.2];exact⟨this.1,this.2.2 (by omega)⟩
  cases !(dF l m d r).2.2|| !(gk (dF l m d r).1).2.2.2 with|true=>exact⟨(λh=>by cases h),λ_=>⟨by omega,hc.1,hch⟩,cf _,(λx hx=>by cases hx),.inr (.inr rfl)⟩|false=>cases !(nG l m d (gk (dF l m d r).1).1).2||(!(Am (nG l m d (gk (dF l m d r).1).1).1).2||((kl (Am (nG l m d (gk (dF l m d r).1).1).1).1).2 !=0))with|true=>exact⟨(λh=>by cases h),λ_=>⟨by omega,hc.1,hch⟩,cf _,(λx hx=>by cases hx),.inr (.inr rfl)⟩|false=>have hs:=agu (kl (Am (nG l m d (gk (dF l m d r).1).1).1).1).1 (gk (dF l m d r).1).2.1;exact⟨(λh=>by cases h),λ_=>⟨by omega,hc.1,hch⟩,hs.1,hs.2,.inr (.inl rfl)⟩
def qR (l:aw aE)(m:bN)(d:Int):Nat->bN->Nat->Nat->lB->lB×bN×Int×Int
 |0,fr,dn,bd,r=>(r,fr,(dn:Int),(bd:Int))
 |n+1,fr,dn,bd,r=>
  bif (jq l m d r).2.2==0 then(r,fr,(dn:Int),(bd:Int)) else
  bif (jq l m d r).2.2==1 then qR l m d n (fr++(jq l m d r).2.1) (dn+1) bd (jq l m d r).1 else
  qR l m d n (fr++(jq l m d r).2.1) dn (bd+1) (jq l m d r).1
def lU (l:aw aE)(m:bN)(d:Int)(r:lB):lB×bN×Int×Int:=qR l m d 17 [] 0 0 r
theorem It (l:aw aE)(m:bN)(d:Int)(hl:l.length<=10^9)(hm:m.length<=10^9):∀(n:Nat)(fr:bN)(dn bd:Nat)(r:lB)(f:Nat),n<f->(dx r=true->bR r<n)->0<n->fr.length+320*n<=10000->dn+bd+n<=1000->
 bc (nN (λy2 y3 y4 _ _ _ _ y9=>some (y9,y2,y3,y4)) l d ([]:bN) 0 0 m (0,0,0,0)) f (fr,(dn:Int),(bd:Int),r)=some (qR l m d n fr dn bd r)
 |0,fr,dn,bd,r,f,_,_,h0,_,_=>by omega
 |n+1,fr,dn,bd,r,0,hf,_,_,_,_=>by omega
 |n+1,fr,dn,bd,r,f+1,hf,hr,_,jH,hc=>by have ok:=SH l m d r;rw[bc,qR];simp only[nN,abu l m d r hl hm,ab];generalize jq l m d r=x at ok⊢;cases h0:x.2.2==0 with|true=>simp only[ah,ok.1 (by simpa using h0)]|false=>have hk:=ok.2.1 (by simpa using h0);have hu:=hr hk.2.1;have hu2:=(zP hk.2.2.1).1;simp only[af];cases x.2.2==1 with|true=>simp only[ah];rw[aO,al];exact It l m d hl hm n _ (dn+1) bd _ f (by omega) (λ_=>by omega) (by omega) (by rw[ai];omega) (by omega)|false=>simp only[af];rw[aO,al];exact It l m d hl hm n _ dn (bd+1) _ f (by omega) (λ_=>by omega) (by omega) (by rw[ai];omega) (by omega)
theorem afv (l:aw aE)(m:bN)(d:Int)(r:lB)(hl:l.length<=10^9)(hm:m.length<=10^9):sU l m d r=some (lU l m d r):=by have Df:=eo;unfold sU;exact It l m d hl hm 17 [] 0 0 r fuel (by omega) (λh=>by have:=(zP h).2;omega) (by omega) (by simp) (by omega)
theorem D6 (l:aw aE)(m:bN)(d:Int):∀(n:Nat)(fr:bN)(dn bd:Nat)(r:lB),(∀x∈fr,x.length<=382)->
 (qR l m d n fr dn bd r).2.1.length<=fr.length+320*n/\(∀x∈(qR l m d n fr dn bd r).2.1,x.length<=382)/\0<=(qR l m d n fr dn bd r).2.2.1/\(qR l m d n fr dn bd r).2.2.1<=(dn+n:Nat)/\0<=(qR l m d n fr dn bd r).2.2.2/\(qR l m d n fr dn bd r).2.2.2<=(bd+n:Nat)
 |0,fr,dn,bd,r,h=>⟨bh _,h,by show(0:Int)<=(dn:Int);omega,by show(dn:Int)<=_;omega,by show(0:Int)<=(bd:Int);omega,by show(bd:Int)<=_;omega⟩
 |n+1,fr,dn,bd,r,h=>by
  have ok:=SH l m d r;rw[qR];generalize jq l m d r=x at ok⊢;have h2:∀y∈fr++x.2.1,y.length<=382:=λy hy=>by rcases az.1 hy with g|g;exact h y g;exact ok.2.2.2.1 y g
  cases x.2.2==0 with|true=>exact⟨by show fr.length<=_;omega,h,by show(0:Int)<=(dn:Int);omega,by show(dn:Int)<=_;omega,by show(0:Int)<=(bd:Int);omega,by show(bd:Int)<=_;omega⟩|false=>cases x.2.2==1 with|true=>have i:=D6 l m d n (fr++x.2.1) (dn+1) bd x.1 h2;rw[ai]at i;simp only[af,ah];exact⟨by omega,i.2.1,i.2.2.1,by omega,i.2.2.2.2.1,by omega⟩|false=>have i:=D6 l m d n (fr++x.2.1) dn (bd+1) x.1 h2;rw[ai]at i;simp only[af,ah];exact⟨by omega,i.2.1,i.2.2.1,by omega,i.2.2.2.2.1,by omega⟩
def FB (v:Vector):Bool:=bif decide (v.2.2.1>=1) then(bif decide (v.2.2.1>=v.1) then true else decide (v.2.2.2.1>=v.2.1)) else false
theorem alp (v:Vector):DQ v=some (FB v):=by unfold DQ FB;cases decide (v.2.2.1>=1);rfl;cases decide (v.2.2.1>=v.1)<;>rfl
theorem al0 (v:Vector):vX v=some (FB v):=by unfold vX FB;cases decide (v.2.2.1>=1);rfl;cases decide (v.2.2.1>=v.1)<;>rfl
def Fo (v:Vector):Vector:=bif FB v&& !v.2.2.2.2.1 then(v.1,v.2.1,v.2.2.1,v.2.2.2.1,v.2.2.2.2.1,true) else v
theorem K6 (v:Vector):pJ v=some (Fo v):=by unfold pJ Fo;rw[alp,ab];cases FB v;rfl;cases v.2.2.2.2.1<;>rfl
def upM (n:Int):Int:=if 1000000<ar (n+1) then 1000000 else ar (n+1)
def evV (v:Vector):Vector:=bif fg v then Fo (v.1,v.2.1,upM v.2.2.1,v.2.2.2) else v
theorem ae7 (v:Vector):yu v=some (evV v):=by unfold yu evV;rw[BS,ab,K6,ab];cases fg v<;>rfl
def Zq (v:Vector):Vector:=bif fg v then(bif decide (v.2.2.1>0) then Fo (v.1,v.2.1,v.2.2.1,upM v.2.2.2.1,v.2.2.2.2) else Fo v) else v
theorem afu (v:Vector):uU v=some (Zq v):=by unfold uU Zq;simp only[BS,ab,K6];cases fg v;rfl;cases decide (v.2.2.1>0)<;>rfl
def Fg (v:Vector):Vector×Bool:=bif fg v&&v.2.2.2.2.2 then((v.1,v.2.1,0,0,true,false),true) else(v,false)
theorem aft (v:Vector):pG v=some (Fg v):=by unfold pG Fg;rw[BS,ab];cases fg v;rfl;cases v.2.2.2.2.2<;>rfl
def KD (v:Vector):Vector:=bif fg v then Fo (v.1,v.2.1,v.2.2.1,v.2.2.2.1,false,v.2.2.2.2.2) else v
theorem Pf (v:Vector):zD v=some (KD v):=by unfold zD KD;rw[BS,ab,K6,ab];cases fg v<;>rfl
structure lC (k:Nat) (a b:Host):Prop where
 mem:b.1.length=a.1.length
 maps:b.2.1=a.2.1
 tx:b.2.2.1=a.2.2.1
 rx:b.2.2.2.1.length=a.2.2.2.1.length
 rxs:∀j,k<=j->b.2.2.2.1[j]?=a.2.2.2.1[j]?
 pl:b.2.2.2.2.1.length=a.2.2.2.2.1.length
 vec:b.2.2.2.2.2.1.length=a.2.2.2.2.2.1.length
 Zw:∀j,k<=j->b.2.2.2.2.2.1[j]?=a.2.2.2.2.2.1[j]?
 pol:b.2.2.2.2.2.2.1.length=a.2.2.2.2.2.2.1.length
 sB:b.2.2.2.2.2.2.2.1=a.2.2.2.2.2.2.2.1
 Vu:b.2.2.2.2.2.2.2.2.1=a.2.2.2.2.2.2.2.2.1
theorem lC.refl (k:Nat)(a:Host):lC k a a:=⟨rfl,rfl,rfl,rfl,λ_ _=>rfl,rfl,rfl,λ_ _=>rfl,rfl,rfl,rfl⟩
theorem lC.trans {a b c:Host}(h:lC k a b)(g:lC k b c):lC k a c:=⟨g.mem.trans h.mem,g.maps.trans h.maps,g.tx.trans h.tx,g.rx.trans h.rx,λj hj=>(g.rxs j hj).trans (h.rxs j hj),g.pl.trans h.pl,g.vec.trans h.vec,λj hj=>(g.Zw j hj).trans (h.Zw j hj),g.pol.trans h.pol,g.sB.trans h.sB,g.Vu.trans h.Vu⟩
theorem lC.up {m:Nat}{a b:Host}(h:lC k a b)(hk:k<=m):lC m a b:=⟨h.mem,h.maps,h.tx,h.rx,λj hj=>h.rxs j (by omega),h.pl,h.vec,λj hj=>h.Zw j (by omega),h.pol,h.sB,h.Vu⟩
def mr (g:Nat->Host->Host):Nat->Host->Host
 |0,h=>h
 |k+1,h=>g k (mr g k h)
theorem oW (hg:∀k h,lC (k+1) h (g k h))(h:Host):∀k,lC k h (mr g k h)
 |0=>lC.refl 0 h
 |k+1=>((oW hg h k).up (by omega)).trans (hg k _)
theorem EL {d:Nat}(hn:1000<=n)(hg:∀k h m,1000<=m->dh m dk h->dh (m+d) dk (g k h))(z:dh n dk h):∀k,dh (n+d*k) dk (mr g k h)
 |0=>z
 |k+1=>(hg k _ _ (by omega) (EL hn hg z k)).mono (by rw[Nat.mul_add];omega)
def zV (i:Nat)(h:Host):Host:=
 match h.2.2.2.2.2.1[i]? with
 |some v=>(h.1,h.2.1,h.2.2.1,h.2.2.2.1,h.2.2.2.2.1,h.2.2.2.2.2.1.set i (Zq v),h.2.2.2.2.2.2)
 |none=>h
theorem Cm (i:Nat)(h:Host):lC (i+1) h (zV i h):=by unfold zV;cases h.2.2.2.2.2.1[i]? with|none=>exact lC.refl _ _|some v=>exact⟨rfl,rfl,rfl,rfl,λ_ _=>rfl,rfl,aB ..,λj hj=>aP (by omega),rfl,rfl,rfl⟩
theorem NT {l:aw Vector}{v:Vector}(z:dh n (.sl gW) l):dh n (.sl gW) (l.set i v):=mZ z ⟨cy,cy,cy,cy,cy,cy⟩
theorem agS (i:Nat)(h:Host)(n:Nat)(hn:1000<=n)(z:dh n dk h):dh (n+0) dk (zV i h):=by unfold zV;cases h.2.2.2.2.2.1[i]? with|none=>exact z|some v=>exact⟨z.1,z.2.1,z.2.2.1,z.2.2.2.1,z.2.2.2.2.1,NT z.2.2.2.2.2.1,z.2.2.2.2.2.2⟩
def xB (h:Host):Host:=bif dN h then mr zV h.2.2.2.2.2.1.length h else h
theorem akC (hn:1000<=n)(z:dh n dk h):dh n dk (xB h)/\(xB h).2.2.1=h.2.2.1:=by unfold xB;cases dN h with|false=>exact⟨z,rfl⟩|true=>exact⟨(EL hn agS z _).mono,(oW Cm h _).tx⟩
theorem XF (h:Host)(k:H2 h)(z:dh 1000000000 dk h):ui h=some (xB h):=by
 have Df:=eo;unfold ui xB;rw[jI h z,ab,wx h k,ab];cases hb:dN h;rfl;have hv:h.2.2.2.2.2.1.length<=10^9:=z.2.2.2.2.2.1.1;simp only[aj,af,ah];refine dC (λi=>((i:Int),mr zV i h)) h.2.2.2.2.2.1.length (by omega) (λi nx hi=>?_) (λnx=>?_);have kk:=oW Cm h i;have i1:i<(mr zV i h).2.2.2.2.2.1.length:=by rw[kk.vec];exact hi
 rw[show mr zV (i+1) h=zV i (mr zV i h) from rfl];generalize mr zV i h=s at i1⊢;simp only[sJ,zV];rw[iU,ah,ak i1];simp only[bj i1,ab,afu,ax];rw[al];rfl;simp only[sJ];rw[cz,af]
structure BB (n:Nat) (h:Host):Prop where
 z:dh n dk h
 t:h.2.2.1.2.1.2.2.2.length+(bA h.2.2.1.2.2.1).length<=n
theorem BB.mono {m:Nat}(k:BB n h)(hn:n<=m:=by omega):BB m h:=⟨k.z.mono hn,bq k.t hn⟩
theorem BB.sz (k:BB n h)(hn:n<=10^9:=by omega):H2 h:=by have z:dh 1000000000 dk h:=k.z.mono hn;exact⟨z.1.1,z.2.1.1,z.2.2.1.2.2.1.1,bq k.t hn,z.2.2.2.2.2.2.2.1.2.2.1,z.2.2.2.2.2.2.2.2.1.1.1,z.2.2.2.2.2.2.2.2.1.2.1.1,z.2.2.2.2.2.2.2.2.1.2.2.2.1,λp hp=>(z.2.2.2.2.1.2 p hp).2.2.2.1⟩
theorem BB.of (k:Rt dk h<=1048576):BB 1048576 h:=by
 refine⟨Ky k,?_⟩;have hb:=ac3 h.2.2.1.2.2.1;have h1:Rt mD h.2.2.1<=Rt dk h:=by simp only[Rt];omega
 have hp:h.2.2.1.2.1.2.2.2.length+Rt (.sl kU) h.2.2.1.2.2.1<=Rt mD h.2.2.1:=by simp only[Rt];omega
 omega
def rN (p:dj):aw pa->dj
 |[]=>p
 |x::l=>rN (FN p x.2.2).1 l
theorem KZ:∀(l:aw pa)(p:dj),(rN p l).2.2.2.length<=p.2.2.2.length+(bA l).length
 |[],p=>by simp[rN]
 |x::l,p=>by have h1:=WV p x.2.2;have h2:=KZ l (FN p x.2.2).1;simp only[rN,bA,List.flatMap_cons,ai]at h2⊢;omega
theorem R4:∀(l:aw pa)(p:dj)(x:pa),rN p (l++[x])=(FN (rN p l) x.2.2).1
 |[],p,x=>rfl
 |y::l,p,x=>by rw[List.cons_append,rN,rN,R4 l]
theorem V5 (a b:aw pa):(bA (a++b)).length=(bA a).length+(bA b).length:=by simp only[bA,List.flatMap_append,ai]
theorem V6 (l:aw pa)(n:Nat):(bA (l.take n)).length+(bA (l.drop n)).length=(bA l).length:=by rw[<-V5,cE]
def mu (t:dU)(n:Int):dU×bP:=
 bif M6 t&&cS n 0 (t.2.2.1.length:Int) then((t.1,rN t.2.1 (t.2.2.1.take n.toNat),t.2.2.1.drop n.toNat,t.2.2.2),(t.2.2.1.take n.toNat).map (·.1)) else(t,[])
theorem alY {l:aw pa}(h:(bA l).length<=10^9):∀x∈l,x.2.2.length<=10^9:=by intro x hx;induction l with|nil=>cases hx|cons y l ih=>simp only[bA,List.flatMap_cons,ai]at h;rcases bM.1 hx with rfl|g;omega;exact ih (by simp only[bA];omega) g
theorem UI (t:dU)(n:Int)(hw:t.2.2.1.length<=10^9)(hs:t.2.1.2.2.2.length+(bA t.2.2.1).length<=10^9):mQ t n=some (mu t n):=by
 have hx:=alY (l:=t.2.2.1) (by omega);unfold mQ mu;rw[Iq t ⟨by omega,hw,hx⟩,ab,abA t hw hs];simp only[ab,cl];cases M6 t;rfl;cases hn:cS n 0 (t.2.2.1.length:Int);rfl;have h:=aX.1 hn;obtain⟨n,rfl⟩:=aQ h.1;have hl:n<=t.2.2.1.length:=by omega
 simp only[aj,af,ab,cG,ah,ax];rw[EO,ab,ax];have htl:(t.2.2.1.take n).length=n:=by rw[aV];omega
 rw[htl];refine dC (λi=>(((t.2.2.1.take i).map (·.1),(i:Int),t.1,rN t.2.1 (t.2.2.1.take i),t.2.2):bP×Int×dU)) n (by omega) (λi nx hi=>?_) (λnx=>?_);have hi2:i<(t.2.2.1.take n).length:=by omega
 have hi3:i<t.2.2.1.length:=by omega
 have e1:(t.2.2.1.take n)[i]=t.2.2.1[i]:=List.getElem_take ..;have g1:=KZ (t.2.2.1.take i) t.2.1;have g2:=V6 t.2.2.1 (i+1);have g3:(bA (t.2.2.1.take (i+1))).length=(bA (t.2.2.1.take i)).length+t.2.2.1[i].2.2.length:=by rw[bn hi3,V5];simp[bA]
 simp only[kc];rw[iU,ah,bj hi2,e1,ab,Pa _ _ (by omega),ab,aO (by simp only[bL,aV,bf];omega),al,bn hi3,R4,ee];rfl;simp only[kc];rw[cz,af,EN (l:=t.2.2.1) n hl rfl,ab,JD _ (by rw[aL];omega) (λx Cp=>hx x (List.mem_of_mem_drop Cp)),ab]
theorem RH (n:Int):∀l:aw pa,l.all (jN n)=true->(l.length:Int)<=dL l
 |[],_=>by simp[dL]
 |x::l,h=>by simp only[bX,ae]at h;have:=RH n l h.2;have hx:=h.1;unfold jN at hx;simp only[ae,aX]at hx;simp only[dL,da,fi,ba]at this⊢;omega
theorem IK {t:dU}(h:M6 t=true):t.2.2.1.length<=16:=by unfold M6 at h;simp only[ae,aF]at h;have h1:=RH _ _ h.2.2.2.1;have h2:=(md h.1).2.2.1;have h3:=h.2.2.2.2.2;omega
theorem Jb {t:dU}(n:Int)(z:dh k mD t)(hs:t.2.1.2.2.2.length+(bA t.2.2.1).length<=k): dh k mD (mu t n).1/\(mu t n).1.2.1.2.2.2.length+(bA (mu t n).1.2.2.1).length<=k/\(mu t n).2.length<=16:=by unfold mu;cases h:M6 t&&cS n 0 (t.2.2.1.length:Int)with|false=>exact⟨z,hs,cf _⟩|true=>simp only[ae]at h;have h16:=IK h.1;have g1:=KZ (t.2.2.1.take n.toNat) t.2.1;have g2:=V6 t.2.2.1 n.toNat;have hw:t.2.2.1.length<=k:=z.2.2.1.1;refine⟨⟨z.1,⟨cy,cy,cy,?_,λ_ _=>trivial⟩,⟨?_,λx hx=>z.2.2.1.2 x (List.mem_of_mem_drop hx)⟩,z.2.2.2⟩,?_,?_⟩;show(rN t.2.1 (t.2.2.1.take n.toNat)).2.2.2.length<=k;omega;show(t.2.2.1.drop n.toNat).length<=k;rw[aL];omega;show(rN t.2.1 (t.2.2.1.take n.toNat)).2.2.2.length+(bA (t.2.2.1.drop n.toNat)).length<=k;omega;show((t.2.2.1.take n.toNat).map (·.1)).length<=16;rw[bL,aV];omega
theorem DR {t:CT}{l q:aw t.D}(z:dh n (.sl t) l)(hq:∀y∈q,dh n t y)(hk:q.length<=k):dh (n+k) (.sl t) (l++q):=by refine⟨?_,λy hy=>?_⟩;show(l++q).length<=n+k;have:=z.1;rw[ai];omega;rcases az.1 hy with h|h;exact(z.2 y h).mono;exact(hq y h).mono
def fW (h:Host):Host:=bif dN h then
    (h.1,h.2.1,(mu ((lU h.2.1 h.1 0 h.2.2.1.1).1,h.2.2.1.2) (if(h.2.2.1.2.2.1.length:Int)<ar ((lU h.2.1 h.1 0 h.2.2.1.1).2.2.1+(lU h.2.1 h.1 0 h.2.2.1.1).2.2.2) then(h.2.2.1.2.2.1.length:Int) else ar ((lU h.2.1 h.1 0 h.2.2.1.1).2.2.1+(lU h.2.1 h.1 0 h.2.2.1.1).2.2.2))).1,
      h.2.2.2.1,h.2.2.2.2.1,h.2.2.2.2.2.1,h.2.2.2.2.2.2.1,h.2.2.2.2.2.2.2.1,h.2.2.2.2.2.2.2.2.1,h.2.2.2.2.2.2.2.2.2.1,h.2.2.2.2.2.2.2.2.2.2.1,h.2.2.2.2.2.2.2.2.2.2.2.1++(lU h.2.1 h.1 0 h.2.2.1.1).2.1,
      h.2.2.2.2.2.2.2.2.2.2.2.2.1++(mu ((lU h.2.1 h.1 0 h.2.2.1.1).1,h.2.2.1.2) (if(h.2.2.1.2.2.1.length:Int)<ar ((lU h.2.1 h.1 0 h.2.2.1.1).2.2.1+(lU h.2.1 h.1 0 h.2.2.1.1).2.2.2) then(h.2.2.1.2.2.1.length:Int) else ar ((lU h.2.1 h.1 0 h.2.2.1.1).2.2.1+(lU h.2.1 h.1 0 h.2.2.1.1).2.2.2))).2,h.2.2.2.2.2.2.2.2.2.2.2.2.2) else h
theorem JP (h:Host)(k:BB 900000000 h):mT h=some (fW h):=by have z:dh 1000000000 dk h:=k.z.mono;have hz:=k.sz;have hm:h.1.length<=900000000:=k.z.1.1;have hl:h.2.1.length<=900000000:=k.z.2.1.1;have hw:h.2.2.1.2.2.1.length<=900000000:=k.z.2.2.1.2.2.1.1;have hwi:h.2.2.2.2.2.2.2.2.2.2.2.1.length<=900000000:=k.z.2.2.2.2.2.2.2.2.2.2.2.1.1;have hco:h.2.2.2.2.2.2.2.2.2.2.2.2.1.length<=900000000:=k.z.2.2.2.2.2.2.2.2.2.2.2.2.1.1;have hA:=D6 h.2.1 h.1 0 17 [] 0 0 h.2.2.1.1 (λx hx=>by cases hx);unfold mT fW;rw[jI h z,ab,wx h hz,ab];cases dN h;rfl;simp only[aj,af,ah,afv h.2.1 h.1 0 _ (show h.2.1.length<=10^9 by omega) (show h.1.length<=10^9 by omega),ab];rw[show qR h.2.1 h.1 0 17 [] 0 0 h.2.2.1.1=lU h.2.1 h.1 0 h.2.2.1.1 from rfl]at hA;generalize lU h.2.1 h.1 0 h.2.2.1.1=x at hA⊢;simp only[ed]at hA;have hC:=Jb (k:=900000000) (t:=(x.1,h.2.2.1.2)) (if(h.2.2.1.2.2.1.length:Int)<ar (x.2.2.1+x.2.2.2) then(h.2.2.1.2.2.1.length:Int) else ar (x.2.2.1+x.2.2.2)) ⟨⟨cy,cy,cy,cy⟩,k.z.2.2.1.2⟩ k.t;rw[aO,UI (x.1,h.2.2.1.2) _ (by show h.2.2.1.2.2.1.length<=_;omega) (bq k.t (by omega)),ab,aO]
theorem ET (hn:400<=n)(k:BB n h):BB (n+5440) (fW h):=by have k':BB (n+5440) h:=k.mono;have hA:=D6 h.2.1 h.1 0 17 [] 0 0 h.2.2.1.1 (λx hx=>by cases hx);unfold fW;cases dN h;exact k';rw[show qR h.2.1 h.1 0 17 [] 0 0 h.2.2.1.1=lU h.2.1 h.1 0 h.2.2.1.1 from rfl]at hA;generalize lU h.2.1 h.1 0 h.2.2.1.1=x at hA⊢;simp only[ed]at hA;generalize (if(h.2.2.1.2.2.1.length:Int)<ar (x.2.2.1+x.2.2.2) then(h.2.2.1.2.2.1.length:Int) else ar (x.2.2.1+x.2.2.2))=q;have hC:=Jb (k:=n) (t:=(x.1,h.2.2.1.2)) q ⟨⟨cy,cy,cy,cy⟩,k.z.2.2.1.2⟩ k.t;have z:=k'.z;refine⟨⟨z.1,z.2.1,hC.1.mono,z.2.2.2.1,z.2.2.2.2.1,z.2.2.2.2.2.1,z.2.2.2.2.2.2.1,z.2.2.2.2.2.2.2.1,z.2.2.2.2.2.2.2.2.1,z.2.2.2.2.2.2.2.2.2.1,cy,?_,?_,z.2.2.2.2.2.2.2.2.2.2.2.2.2⟩,bq hC.2.1 (by omega)⟩;exact DR (t:=.str) (n:=n) (k:=5440) k.z.2.2.2.2.2.2.2.2.2.2.2.1 (λy hy=>by show y.length<=_;have:=hA.2.1 y hy;omega) (by omega);exact(DR (t:=.int .i64) (n:=n) (k:=16) k.z.2.2.2.2.2.2.2.2.2.2.2.2.1 (λ_ _=>trivial) hC.2.2).mono
def zx (l:aw aE)(d:Int)(p:dj)(z:Nat):bP->Bytes->bN->aw hY->ay (aw hY×bN)
 |[],_,m,a=>some (a,m)
 |b::q,s,m,a=>bif (iM l m d (pX p b) (s.take z) false).2 then zx l d p z q (s.drop z) (iM l m d (pX p b) (s.take z) false).1 (a++[(pX p b,((s.take z).length:Int))]) else none
theorem Jj (l:aw aE)(d:Int)(p:dj)(z:Nat):∀(q:bP)(s:Bytes)(m:bN)(a:aw hY){x},zx l d p z q s m a=some x->
 x.2.length=m.length/\x.1.length=a.length+q.length/\∀y∈x.1,y∈a\/((∃b∈q,y.1=pX p b)/\0<=y.2/\y.2<=(z:Int))
 |[],s,m,a,x,h=>by cases h;exact⟨rfl,rfl,λy hy=>Or.inl hy⟩
 |b::q,s,m,a,x,h=>by rw[zx]at h;cases hq:(iM l m d (pX p b) (s.take z) false).2 with|false=>rw[hq]at h;cases h|true=>rw[hq]at h;obtain⟨h1,h2,h3⟩:=Jj l d p z q _ _ _ h;rw[kE]at h1;rw[ai,bf]at h2;refine⟨h1,by rw[ba];omega,λy hy=>?_⟩;rcases h3 y hy with g|⟨⟨b',ix,g⟩,g2⟩;rcases az.1 g with g|g;exact Or.inl g;rw[bF.1 g];refine Or.inr ⟨⟨b,List.mem_cons_self ..,rfl⟩,?_,?_⟩;show(0:Int)<=((s.take z).length:Int);omega;show((s.take z).length:Int)<=(z:Int);rw[aV];omega;exact Or.inr ⟨⟨b',eR _ ix,g⟩,g2⟩
theorem TI (p:dj)(i:Int): -1<=pX p i/\pX p i<=139136:=by unfold pX;cases hb: !dI p|| !cS i 0 (p.2.2.1-1)with|true=>exact⟨cX _,show(-1:Int)<=139136 by omega⟩|false=>simp only[cu,dV]at hb;have h:=AL hb.1;have h2:=aX.1 hb.2;have h3:0<=i*p.2.1:=Int.mul_nonneg h2.1 (by omega);have h4:i*p.2.1<=16*512:=Int.mul_le_mul (by omega) (by omega) (by omega) (by omega);simp only[af];omega
theorem ahp {p:dj}(hp:dI p=true)(hb:b∈p.2.2.2):0<=pX p b:=by obtain⟨i,hi,rfl⟩:=List.getElem_of_mem hb;have hq:=hp;simp only[dI,ae]at hq;have:=aD.1 hq.2.2.2 i (bD.2 hi);simp only[FL,ae,cH hi]at this;have hn:=this.1;have h:=AL hp;have h2:=aX.1 hn;have h3:0<=p.2.2.2[i]*p.2.1:=Int.mul_nonneg h2.1 (by omega);unfold pX;rw[hp,hn];show 0<=p.1+p.2.2.2[i]*p.2.1;omega
theorem Zn (s:Bytes)(z:Nat):sub s 0 (if(s.length:Int)<(z:Int) then(s.length:Int) else(z:Int))=some (s.take z):=by by_cases h:(s.length:Int)<(z:Int);rw[aH h,EO,ax,cO,cd (by omega)];rw[aG h,EO,ax]
theorem Ws (s:Bytes)(z:Nat):sub s ((s.take z).length:Int) (s.length:Int)=some (s.drop z):=by rw[Kx _ _ (by rw[aV];omega),aV];by_cases h:z<=s.length;rw[iI h];rw[Nat.min_eq_right (by omega),ig,List.drop_eq_nil_of_le (by omega)]
def ag6:ay (aw hY×bN)->ay (Bool×bN×aw hY×Bool)->Prop
 |some x,r=>r=some (true,x.2,x.1,true)
 |none,r=>∃c m,r=some (c,m,[],false)
theorem HE (l:aw aE)(d:Int)(p:dj)(z:Nat)(B:bN)(hp:p.2.2.2.length<=10^9)(hl:l.length<=10^9):∀(rest pre:bP)(s:Bytes)(m:bN)(a:aw hY)(f:Nat),rest.length<f->(pre++rest).length<=1000000->a.length+rest.length<=1000000->m.length<=10^9->
 ag6 (zx l d p z rest s m a) (bc (kC (λ_ xF _ Fi=>some (true,Fi,xF,true)) (λ_ QE QF _ _ _ y23=>some (true,y23,QE,QF)) l d (z:Int) ([]:aw hY) false (pre++rest) ((pre++rest).length:Int) p B) f (s,a,(pre.length:Int),m))
 |rest,pre,s,m,a,0,hf,_,_,_=>by omega
 |[],pre,s,m,a,f+1,_,_,_,_=>by rw[bc];simp only[kC];rw[aq (by simp),af];rfl
 |b::q,pre,s,m,a,f+1,hf,hn,ha,hm=>by
  simp only[ba,ai]at hf hn ha;have hi:pre.length<(pre++b::q).length:=by simp
  have hb:(pre++b::q)[pre.length]=b:=by simp
  have hA:=TI p b;rw[bc];simp only[kC];rw[au (by simp;omega),bj hi,hb];simp only[ah,ab,Zn,Ws,JC p b hp,Di l m d (pX p b) (s.take z) hl hm];rw[zx];cases hq:(iM l m d (pX p b) (s.take z) false).2 with
  |false=>exact⟨_,_,rfl⟩
  |true=>
   simp only[aj,af,ah];rw[al (n:=(pre.length:Int)+1),aO (by simp only[bf];omega)];have key:=HE l d p z B hp hl q (pre++[b]) (s.drop z) (iM l m d (pX p b) (s.take z) false).1 (a++[(pX p b,((s.take z).length:Int))]) f (by omega) (by simp;omega) (by simp;omega) (by rw[kE];exact hm);have el:((pre++[b]).length:Int)=(pre.length:Int)+1:=by simp
   rw[aY,List.singleton_append,el]at key;exact key
theorem afc (l:aw aE)(m:bN)(d:Int)(p:dj)(q:bP)(s:Bytes)(z:Nat)(hp:p.2.2.2.length<=10^9)(hl:l.length<=10^9)(hm:m.length<=10^9)(hq:q.length<=1000)(h0:0<q.length): ag6 (zx l d p z q s m []) (ow l m d p q s (z:Int)):=by have Df:=eo;cases q with|nil=>cases h0|cons b q=>simp only[ba]at hq;have hA:=TI p b;have hi:idx (b::q) 0=some b:=rfl;unfold ow;rw[au (by simp),ah,hi];simp only[ab,Zn,Ws,JC p b hp,Di l m d (pX p b) (s.take z) hl hm];rw[zx];cases hq':(iM l m d (pX p b) (s.take z) false).2 with|false=>exact⟨_,_,rfl⟩|true=>simp only[aj,af,ah];rw[aO (by simp),show ar (0+1)=1 from rfl];exact HE l d p z _ hp hl q [b] (s.drop z) (iM l m d (pX p b) (s.take z) false).1 [(pX p b,((s.take z).length:Int))] fuel (by omega) (by simp;omega) (by simp;omega) (by rw[kE];exact hm)
theorem ah2 {ps:aw hY}{z:Int}(h0:0<ps.length)(h16:ps.length<=16)(hp:∀x∈ps,0<=x.1/\x.1<=200000/\0<=x.2/\x.2<=4096)(hz:cS z 1 128=true)(hc:cS c 0 65535=true):(rL ps z c).length=ps.length+1:=by
 have hz2:=aX.1 hz;have hc2:=aX.1 hc;have e1:pN ps=true:=by unfold pN;rw[ae,aK,aF];refine⟨List.any_eq_false.2 λx hx=>?_,by omega⟩;have:=hp x hx;unfold B7;rw[cz,cA,aK,Bool.eq_false_iff];intro h;exact h (aX.2 (by omega))
 have e2:([((2:Int),(0:Int),(0:Int),(0:Int),z,c)]++Al ps c ps.length).all vK=true:=by rw[List.all_append,ae];constructor;simp only[bX,List.all_nil,dy,vK,ae,aX];omega;rw[KT];refine aD.2 λj hj=>?_;have hj:=bD.1 hj;have:=hp _ (aI hj);simp only[dsc,cH hj,vK,ae,aX];refine⟨by omega,?_,by omega,by omega,by omega,by omega⟩;by_cases hq:j+1=ps.length;rw[aH hq];omega;rw[aG hq];omega
 unfold rL;rw[e1,hz,e2,show((ps.length:Int)==0)=false from by rw[cr];omega];simp only[aj,cB,af,ah,ai,bf,Dz];omega
theorem Xu (K:bN->Int->ay R)(l:aw aE)(d:Int)(q:bP)(ds ds2:aw qM)(t1 t2 t3 t4:dU)(m1 m2 m3:bN)(h:ds.length<=1000): bc (gG K l d q ds2 ds (ds.length:Int) t1 m1 t2 m2 t3 t4 m3) fuel (([]:bN),0)=K (ds.map Av) (ds.length:Int):=by
 have Df:=eo;refine dC (λi=>((ds.take i).map Av,(i:Int))) ds.length (by omega) (λi nx hi=>?_) (λnx=>?_);have e:((ds.take i).map Av).length<=1000:=by simp;omega
 rw[bn hi,ee];simp only[gG];rw[iU,ah,bj hi,ab,UL,ab,aO (by simp only[bf];omega),al];rfl;simp only[gG];rw[cz,af,cO]
def BF (p:aJ)(z:Nat):Nat:=((kS p).1.length+z-1)/z
def P7 (l:aw aE)(m:bN)(d:Int)(t:dU)(c:Int)(n:Nat)(x:aw hY×bN):bN×dU×Bool:=
 bif (xf l x.2 d t.1 ((rL x.1 c t.2.2.2).map Av)).2.2 then
  ((xf l x.2 d t.1 ((rL x.1 c t.2.2.2).map Av)).1,((xf l x.2 d t.1 ((rL x.1 c t.2.2.2).map Av)).2.1,(lg t.2.1 (n:Int)).1,t.2.2.1++[(t.2.2.2,(n:Int)+1,(lg t.2.1 (n:Int)).2.1)],tmod (t.2.2.2+1) 65536),true)
 else(m,t,false)
def L9 (t:dU)(n:Nat):Bool:=(lg t.2.1 (n:Int)).2.2&&(!decide ((n:Int)>16)&&(!decide ((n:Int)+1>pZ t.1)&& !decide (dL t.2.2.1+(n:Int)+1>t.1.2.1)))
def yd (l:aw aE)(m:bN)(d:Int)(t:dU)(p:aJ)(c z:Int):bN×dU×Bool:=
 bif M6 t&&(dJ p&&(cS z 1 t.2.1.2.1&&cS c 1 128)) then
  bif L9 t (BF p z.toNat) then
   match zx l d t.2.1 z.toNat (lg t.2.1 (BF p z.toNat:Int)).2.1 (kS p).1 m []with
   |some x=>P7 l m d t c (BF p z.toNat) x
   |none=>(m,t,false)
  else(m,t,false)
 else(m,t,false)
theorem acR (h:dJ p=true):0<(kS p).1.length/\(kS p).1.length<=378:=by have hl:=Br p;have hs:=Xl h;unfold kS;rw[h];show 0<(nd (dM p).1 (cj 0) (cj 0)).length/\(nd (dM p).1 (cj 0) (cj 0)).length<=378;rw[Gf];omega
theorem anN (len z:Nat)(h:len<=1000)(hz:z<=1000)(h0:0<z):ar (tdiv (ar (ar ((len:Int)+(z:Int))-1)) (z:Int))=(((len+z-1)/z:Nat):Int):=by have hd:(len+z-1)/z<=len+z-1:=Nat.div_le_self ..;rw[al (n:=(len:Int)+(z:Int)),al (n:=(len:Int)+(z:Int)-1),show(len:Int)+(z:Int)-1=((len+z-1:Nat):Int) by omega,show tdiv ((len+z-1:Nat):Int) (z:Int)=(((len+z-1)/z:Nat):Int) from rfl];generalize (len+z-1)/z=N at hd⊢;rw[al]
theorem Zl {p:dj}(h:(lg p (n:Int)).2.2=true):dI p=true/\n<=p.2.2.2.length/\(lg p (n:Int)).2.1=p.2.2.2.take n:=by unfold lg at h⊢;cases hq:dI p&&cS (n:Int) 0 (p.2.2.2.length:Int)with|false=>rw[hq]at h;cases h|true=>simp only[ae,aX]at hq;exact⟨hq.1,by omega,rfl⟩
theorem aeN {t:dU}{z:Nat}{x:aw hY×bN}(ht:M6 t=true)(hz:z<=512)(hc:cS c 1 128=true)(h0:0<n)(h16:n<=16)(hk:(lg t.2.1 (n:Int)).2.2=true)(hx:zx l d t.2.1 z (lg t.2.1 (n:Int)).2.1 s m []=some x):x.2.length=m.length/\(rL x.1 c t.2.2.2).length=n+1:=by
 obtain⟨hp,hn,hb⟩:=Zl hk;rw[hb]at hx;obtain⟨h1,h2,h3⟩:=Jj l d t.2.1 z _ _ _ _ hx;simp only[ed,aV,cx]at h2;have e:x.1.length=n:=by omega
 refine⟨h1,?_⟩;rw[ah2 (by omega) (by omega) (λy hy=>?_) hc (by simp only[M6,ae]at ht;exact ht.2.2.1),e];rcases h3 y hy with g|⟨⟨b,ix,g⟩,g2⟩;cases g;have q1:=ahp hp (List.mem_of_mem_take ix);have q2:=TI t.2.1 b;rw[g];omega
theorem afl (l:aw aE)(m:bN)(d:Int)(t:dU)(p:aJ)(c z:Int)(hl:l.length<=10^9)(hm:m.length<=10^9)(ht:akV t)(h1:t.2.2.1.length<=10^9)(h2:t.2.1.2.2.2.length+(bA t.2.2.1).length<=10^9):uS l m d t p c z=some (yd l m d t p c z):=by
 have Df:=eo;unfold uS yd;rw[gB m,ab,Iq t ht,ab,abA t h1 h2,ab,mx,cl,cl];simp only[ab];cases hb:M6 t;rfl;cases hp:dJ p;rfl;cases hz:cS z 1 t.2.1.2.1;rfl;cases hc:cS c 1 128;rfl;have hT:=acR hp;have hz2:=aX.1 hz;have hq:=hb;simp only[M6,ae]at hq;have GZ:=AL hq.2.1;have h16:=IK hb;have ZF:=md hq.1;have hnx:=aX.1 hq.2.2.1;obtain⟨z,rfl⟩:=aQ (by omega:0<=z);have hzn:¬(z:Int)=0:=by omega
 have hS:∀x∈t.2.2.1,0<=x.2.1/\x.2.1<=16:=λx hx=>by have:=aD.1 hq.2.2.2.1 x hx;simp only[jN,ae,aX]at this;omega
 have hcb:=Fp _ hS;have hN:BF p z<=1000:=by have:BF p z<=(kS p).1.length+z-1:=Nat.div_le_self ..;omega
 have hN0:0<BF p z:=Nat.div_pos (by omega) (by omega);have hce:=anN (kS p).1.length z (by omega) (by omega) (by omega);rw[show((kS p).1.length+z-1)/z=BF p z from rfl]at hce;simp only[aj,af,ab,cG,ah,ax,St,aG hzn,hce,afs _ _ (show t.2.1.2.2.2.length<=10^9 by omega),Sl,afn t (by omega) hS,L9];rw[al (n:=(BF p z:Int)+1),al (n:=dL t.2.2.1+(BF p z:Int)),al (n:=dL t.2.2.1+(BF p z:Int)+1)];by_cases g1:(BF p z:Int)>16;rw[au g1];simp only[ah,ab,aj,dQ,ft,af];rw[aq g1];simp only[bw,af,bl];cases decide ((BF p z:Int)+1>pZ t.1)with|true=>simp only[ah,ab,aj,dQ,ft,af]|false=> ?_
 simp only[bw,af,bl,ab];cases decide (dL t.2.2.1+(BF p z:Int)+1>t.1.2.1)with|true=>simp only[ah,ab,aj,dQ,ft,af]|false=> ?_
 simp only[bw,af,dy,ab];cases hk:(lg t.2.1 (BF p z:Int)).2.2;rfl;simp only[aj,af,ah,gB m (show m.length<=1073741824 by omega),ab];obtain⟨_,hkn,VM⟩:=Zl hk;have Xa:(lg t.2.1 (BF p z:Int)).2.1.length=BF p z:=by rw[VM,aV];omega
 have key:=afc l m d t.2.1 (lg t.2.1 (BF p z:Int)).2.1 (kS p).1 z (by omega) hl hm (by omega) (by omega);cases hx:zx l d t.2.1 z (lg t.2.1 (BF p z:Int)).2.1 (kS p).1 m []with
 |none=>rw[hx]at key;obtain⟨a,b,e⟩:=key;obtain⟨f,g,_⟩:=Ek [] c t.2.2.2 (by simp);rw[e,ab];simp only[g,ab];cases a<;>cases f<;>rfl
 |some x=>
  rw[hx]at key;have key:ow _ _ _ _ _ _ _=_:=key;obtain⟨x1,x2⟩:=aeN hb (by omega) hc hN0 (by omega) hk hx;obtain⟨_,x3,_⟩:=Jj l d t.2.1 z _ _ _ _ hx;simp only[ed]at x3;obtain⟨f,g,hf⟩:=Ek x.1 c t.2.2.2;have hft:f=true:=by cases f with|true=>rfl|false=>have:=hf rfl;rw[this]at x2;cases x2
  subst hft;simp only[key,g,ab,ah,aj,af,aG (show¬(rL x.1 c t.2.2.2).length=0 by omega),P7];rw[Xu _ _ _ _ _ _ _ _ _ _ _ _ _ (by omega)];simp only[abw l x.2 d t.1 _ hl (by omega) (show((rL x.1 c t.2.2.2).map Av).length<=10^9 by rw[bL];omega),ab];cases (xf l x.2 d t.1 ((rL x.1 c t.2.2.2).map Av)).2.2 with|false=>rfl|true=>simp only[aj,af,ab,ah];rw[aO (by simp only[bf];omega),nX,al,x2];rfl
def Vv (g:Nat->Host->Host):Nat->Host->Host
 |0,h=>h
 |k+1,h=>g k (Vv g k h)
structure E0 (a b:Host):Prop where
 maps:b.2.1=a.2.1
 tx:b.2.2.1=a.2.2.1
 rx:b.2.2.2.1.length=a.2.2.2.1.length
 pl:b.2.2.2.2.1.length=a.2.2.2.2.1.length
 vec:b.2.2.2.2.2.1=a.2.2.2.2.2.1
 pol:b.2.2.2.2.2.2.1=a.2.2.2.2.2.2.1
 ret:b.2.2.2.2.2.2.2.2.2.2.2.2.2.1=a.2.2.2.2.2.2.2.2.2.2.2.2.2.1
theorem E0.refl (a:Host):E0 a a:=⟨rfl,rfl,rfl,rfl,rfl,rfl,rfl⟩
theorem E0.trans {a b c:Host}(h:E0 a b)(k:E0 b c):E0 a c:=⟨k.1.trans h.1,k.2.trans h.2,k.3.trans h.3,k.4.trans h.4,k.5.trans h.5,k.6.trans h.6,k.7.trans h.7⟩
theorem Yq (h:Host)(i:Nat)(c:Int):E0 h (xY h i c).2:=by unfold xY;rcases h1:h.2.2.2.1[i]? with _|rx;exact E0.refl h;rcases h2:h.2.2.2.2.1[i]? with _|pl;exact E0.refl h;exact⟨rfl,rfl,aB ..,aB ..,rfl,rfl,rfl⟩
def uZ (h:Host)(k:Nat):Host:=Vv (λi s=>(xY s i 1000).2) k h
theorem Ey (hn:128<=n)(z:dh n dk h):∀k,E0 h (uZ h k)/\dh (n+322000*k) dk (uZ h k)
 |0=>⟨E0.refl h,z⟩
 |k+1=>by have i:=Ey hn z k;exact⟨i.1.trans (Yq ..),(acb (by omega) k 1000 i.2).mono⟩
def adS (h:Host)(l:bP):Host:=(h.1,h.2.1,h.2.2.1,h.2.2.2.1,h.2.2.2.2.1,h.2.2.2.2.2.1,h.2.2.2.2.2.2.1,h.2.2.2.2.2.2.2.1,h.2.2.2.2.2.2.2.2.1,h.2.2.2.2.2.2.2.2.2.1,h.2.2.2.2.2.2.2.2.2.2.1,h.2.2.2.2.2.2.2.2.2.2.2.1,h.2.2.2.2.2.2.2.2.2.2.2.2.1,h.2.2.2.2.2.2.2.2.2.2.2.2.2.1++l,h.2.2.2.2.2.2.2.2.2.2.2.2.2.2)
def aei (h:Host):Host:=(h.1,h.2.1,(Fh.1,Fh.2.1,Fh.2.2.1,h.2.2.1.2.2.2),h.2.2.2)
def HM (h:Host)(i:Nat)(dr:Int):Host:=
 ((tI h.2.1 h.1 i).1,h.2.1,h.2.2.1,h.2.2.2.1.set i ((tI h.2.1 h.1 i).2.1,(Gk i).2.1,(Gk i).2.2.1,(Gk i).2.2.2.1,(Gk i).2.2.2.2.1,dr),h.2.2.2.2.1.set i (tI h.2.1 h.1 i).2.2.1,h.2.2.2.2.2)
def Hr (x:cp):Int:=bif x.2.2.2.2.1 then ar (x.2.2.2.2.2+x.2.2.2.1.2.2) else x.2.2.2.2.2
def yc (i:Nat)(h:Host):Host:=
 match h.2.2.2.1[i]?,h.2.2.2.2.2.1[i]? with
 |some x,some v=>((HM h i (Hr x)).1,h.2.1,h.2.2.1,(HM h i (Hr x)).2.2.2.1,(HM h i (Hr x)).2.2.2.2.1,h.2.2.2.2.2.1.set i (v.1,v.2.1,0,0,false,false),h.2.2.2.2.2.2.1.set i false,h.2.2.2.2.2.2.2)
 |_,_=>h
structure amn (k:Nat) (a b:Host):Prop where
 mem:b.1.length=a.1.length
 maps:b.2.1=a.2.1
 rx:b.2.2.2.1.length=a.2.2.2.1.length
 pl:b.2.2.2.2.1.length=a.2.2.2.2.1.length
 vec:b.2.2.2.2.2.1.length=a.2.2.2.2.2.1.length
 Zw:∀j,k<=j->b.2.2.2.2.2.1[j]?=a.2.2.2.2.2.1[j]?
 pol:b.2.2.2.2.2.2.1.length=a.2.2.2.2.2.2.1.length
theorem SI (l:aw aE)(m:bN)(i:Nat):(tI l m i).1.length=m.length:=by unfold tI;rw[adm,kE]
theorem YE (i:Nat)(h:Host):amn (i+1) h (yc i h):=by unfold yc;rcases h1:h.2.2.2.1[i]? with _|x;exact⟨rfl,rfl,rfl,rfl,rfl,λ_ _=>rfl,rfl⟩;rcases h2:h.2.2.2.2.2.1[i]? with _|v;exact⟨rfl,rfl,rfl,rfl,rfl,λ_ _=>rfl,rfl⟩;have e1:(HM h i (Hr x)).1.length=h.1.length:=SI h.2.1 h.1 i;exact⟨e1,rfl,aB ..,aB ..,aB ..,λj hj=>aP (by omega),aB ..⟩
def iO (h:Host)(k:Nat):Host:=Vv yc k h
theorem yM (h:Host):∀k,amn k h (iO h k)
 |0=>⟨rfl,rfl,rfl,rfl,rfl,λ_ _=>rfl,rfl⟩
 |k+1=>by have a:=yM h k;have b:=YE k (iO h k);exact⟨b.mem.trans a.mem,b.maps.trans a.maps,b.rx.trans a.rx,b.pl.trans a.pl,b.vec.trans a.vec,λj hj=>(b.Zw j hj).trans (a.Zw j (by omega)),b.pol.trans a.pol⟩
theorem af0 (hn:1000<=n)(i:Nat)(d:Int)(z:dh n dk h):dh n dk (HM h i d):=by unfold HM tI;have h4:=pL (ia i+128) 384 4;have hf:=Ie h.2.1 (iM h.2.1 h.1 0 (ia i) (xK 128) false).1 0 (ia i,4,0,0) (iz (ia i+128) 384 4).1;refine⟨RR (by omega) (Ge (by omega) z.1 ..) ..,z.2.1,z.2.2.1,mZ z.2.2.2.1 ?_,mZ z.2.2.2.2.1 ?_,z.2.2.2.2.2⟩;refine⟨⟨cy,cy,cy,cy⟩,⟨cy,cy,cy⟩,⟨cy,cy,cy⟩,⟨⟨cy,cy,cy,cy,cy,cy,cy,cy,cy,cy,cy,cy,cy,cy,cy,?_⟩,cy,cy⟩,cy,cy⟩;exact cf _;exact⟨cy,cy,cy,by show List.length _<=_;omega,λ_ _=>trivial⟩
theorem acm (hn:1000<=n)(i:Nat)(z:dh n dk h):dh n dk (yc i h):=by unfold yc;rcases h1:h.2.2.2.1[i]? with _|x;exact z;rcases h2:h.2.2.2.2.2.1[i]? with _|v;exact z;have zo:=af0 hn i (Hr x) z;exact⟨zo.1,z.2.1,z.2.2.1,zo.2.2.2.1,zo.2.2.2.2.1,mZ z.2.2.2.2.2.1 ⟨cy,cy,cy,cy,cy,cy⟩,mZ z.2.2.2.2.2.2.1 trivial,z.2.2.2.2.2.2.2⟩
theorem EC (hn:1000<=n)(z:dh n dk h):∀k,dh n dk (iO h k)
 |0=>z
 |k+1=>acm hn k (EC hn z k)
def PZ (W:aw pa)(i:Nat)(s:Host):Host:=match W[i]? with|some x=>adS s [x.1]|none=>s
def polled (h:Host):Host:=uZ h h.2.2.2.1.length
def returned (h:Host)(k:Nat):Host:=Vv (PZ h.2.2.1.2.2.1) k (polled h)
structure apE (a b:Host):Prop where
 e:b=(a.1,a.2.1,a.2.2.1,a.2.2.2.1,a.2.2.2.2.1,a.2.2.2.2.2.1,a.2.2.2.2.2.2.1,a.2.2.2.2.2.2.2.1,a.2.2.2.2.2.2.2.2.1,a.2.2.2.2.2.2.2.2.2.1,a.2.2.2.2.2.2.2.2.2.2.1,a.2.2.2.2.2.2.2.2.2.2.2.1,a.2.2.2.2.2.2.2.2.2.2.2.2.1,b.2.2.2.2.2.2.2.2.2.2.2.2.2.1,a.2.2.2.2.2.2.2.2.2.2.2.2.2.2)
theorem zO (z:dh n dk (polled h)):∀k,apE (polled h) (returned h k)/\(returned h k).2.2.2.2.2.2.2.2.2.2.2.2.2.1.length<=n+k
 |0=>⟨⟨rfl⟩,by have:=z.2.2.2.2.2.2.2.2.2.2.2.2.2.1.1;exact bq this (by omega)⟩
 |k+1=>by have i:=zO z k;have e:returned h (k+1)=PZ h.2.2.1.2.2.1 k (returned h k):=rfl;rw[e];unfold PZ;cases h.2.2.1.2.2.1[k]? with|none=>exact⟨i.1,bq i.2 (by omega)⟩|some x=>refine⟨⟨?_⟩,?_⟩;show adS _ _=_;have e:=i.1.e;generalize returned h k=r at e⊢;rw[e];rfl;show(_++[_]).length<=_;rw[ai,bf];omega
theorem Vh (z:dh n dk (polled h))(k:Nat):dh (n+k) dk (returned h k):=by have i:=zO z k;have z':dh (n+k) dk (polled h):=z.mono;rw[i.1.e];exact⟨z'.1,z'.2.1,z'.2.2.1,z'.2.2.2.1,z'.2.2.2.2.1,z'.2.2.2.2.2.1,z'.2.2.2.2.2.2.1,z'.2.2.2.2.2.2.2.1,z'.2.2.2.2.2.2.2.2.1,z'.2.2.2.2.2.2.2.2.2.1,z'.2.2.2.2.2.2.2.2.2.2.1,z'.2.2.2.2.2.2.2.2.2.2.2.1,z'.2.2.2.2.2.2.2.2.2.2.2.2.1,⟨i.2,λ_ _=>trivial⟩,z'.2.2.2.2.2.2.2.2.2.2.2.2.2.2⟩
theorem Zr (hn:1000<=n)(z:dh n dk h):dh n dk (aei h):=by have h4:=pL 256 128 8;exact⟨z.1,z.2.1,⟨⟨cy,cy,cy,cy⟩,⟨cy,cy,cy,by show List.length (iz 256 128 8).1.2.2.2<=n;omega,λ_ _=>trivial⟩,⟨cf _,λx hx=>by cases hx⟩,cy⟩,z.2.2.2⟩
def sy (h:Host):Host:=aei (returned h h.2.2.1.2.2.1.length)
def tQ (h:Host):Host:=bif dN h then iO (sy h) h.2.2.2.1.length else h
theorem O0 (hb:dN h=true):nB h=true:=by simp only[dN,ae]at hb;exact hb.2.2.2.2.1
theorem L7 (hn:1000<=n)(z:dh n dk h)(hl:h.2.2.2.1.length<=2):dh (n+644000+h.2.2.1.2.2.1.length) dk (sy h):=by have hp:=Ey (by omega) z h.2.2.2.1.length;exact Zr (by omega) (Vh (hp.2.mono) _)
theorem aq6 (l:aw aE)(X:bN)(q:cp)(P:dj)(o:bN×lB×dj×Int)(k:cp×dj->bN×lB×dj×Int->ay R)(h:iV l X 0 q.1 P=some o):(aa (iV l X 0 (q,P).1.1 (q,P).2) λPV=>k (q,P) PV)=k (q,P) o:=by show aa (iV l X 0 q.1 P) (λPV=>k (q,P) PV)=k (q,P) o;rw[h,ab]
theorem Sm (l:aw aE)(m:bN)(i:Nat)(hi:i<=8)(hl:l.length<=10^9)(hm:m.length<=10^9)(k:cp×dj->bN×lB×dj×Int->ay R): (aa (sa (i:Int)) λCa=>aa (pg 0 128) λVe=>aa (jW l m 0 Ca Ve) λAp=>aa (xU (i:Int)) λDw=>aa (iV l Ap.1 0 Dw.1.1 Dw.2) λPV=>k Dw PV)=k (Gk i,(iz (ia i+128) 384 4).1) (tI l m i):=by
 have hb:ia i=1280+(i:Int)*1792:=rfl;have R8:ia i<=9223372036854775807:=by omega
 have hz:pg 0 128=some (xK 128):=adx 128;have hf:=Xv l (iM l m 0 (ia i) (xK 128) false).1 0 (ia i,4,0,0) (iz (ia i+128) 384 4).1 hl (by rw[kE];exact hm) (bq (pL (ia i+128) 384 4) (by omega));rw[Xp i hi,ab,hz,ab,Di l m 0 (ia i) (xK 128) hl hm R8,ab,afj i hi,ab];exact aq6 l _ (Gk i) _ (tI l m i) k hf
theorem Q6 (K:Int->Host->ay Host)(s0 B:Host)(N:Nat)(hN:N<=2)(h1:s0.2.2.2.1.length=N)(h2:s0.2.2.2.2.1.length=N)(h3:s0.2.2.2.2.2.1.length=N)(h4:s0.2.2.2.2.2.2.1.length=N)(z:dh 900000000 dk s0): bc (lJ K (N:Int) B) fuel (0,s0)=K (N:Int) (iO s0 N):=by
 refine dC (λi=>((i:Int),iO s0 i)) N (by omega) (λi nx hi=>?_) (λnx=>?_);have kr:=yM s0 i;have zr:=EC (by omega) z i;have z1:(iO s0 i).1.length<=10^9:=bq zr.1.1 (by omega);have z2:(iO s0 i).2.1.length<=10^9:=bq zr.2.1.1 (by omega);have i1:i<(iO s0 i).2.2.2.1.length:=by rw[kr.rx,h1];exact hi
 have i2:i<(iO s0 i).2.2.2.2.1.length:=by rw[kr.pl,h2];exact hi
 have i3:i<(iO s0 i).2.2.2.2.2.1.length:=by rw[kr.vec,h3];exact hi
 have i4:i<(iO s0 i).2.2.2.2.2.2.1.length:=by rw[kr.pol,h4];exact hi
 rw[show iO s0 (i+1)=yc i (iO s0 i) from rfl];generalize iO s0 i=s at z1 z2 i1 i2 i3 i4⊢;unfold yc Hr HM;simp only[ak i1,ak i3];simp only[lJ];rw[iU,ah];simp only[bj i1,ab];rw[Sm s.2.1 s.1 i (by omega) z2 z1,Sm s.2.1 s.1 i (by omega) z2 z1];generalize Gk i=q;generalize tI s.2.1 s.1 i=o;simp only[bj i1,bj i2,bj i3,bj i4,ab];rw[al (n:=(i:Int)+1),ax];cases s.2.2.2.1[i].2.2.2.2.1<;>rfl;simp only[lJ];rw[cz,af]
theorem Ue (hq:E0 h (polled h))(hz:dh n dk (polled h)):(sy h).2.2.2.1.length=h.2.2.2.1.length/\(sy h).2.2.2.2.1.length=h.2.2.2.2.1.length/\(sy h).2.2.2.2.2.1=h.2.2.2.2.2.1/\(sy h).2.2.2.2.2.2.1=h.2.2.2.2.2.2.1:=by have er:=(zO hz h.2.2.1.2.2.1.length).1.e;refine⟨?_,?_,?_,?_⟩;show(returned h h.2.2.1.2.2.1.length).2.2.2.1.length=_;rw[er];exact hq.rx;show(returned h h.2.2.1.2.2.1.length).2.2.2.2.1.length=_;rw[er];exact hq.pl;show(returned h h.2.2.1.2.2.1.length).2.2.2.2.2.1=_;rw[er];exact hq.vec;show(returned h h.2.2.1.2.2.1.length).2.2.2.2.2.2.1=_;rw[er];exact hq.pol
theorem HG (h:Host)(k:H2 h)(z:dh 100000000 dk h):rT h=some (tQ h):=by
 have Df:=eo;unfold rT tQ;rw[jI h (z.mono),ab,wx h k,ab];cases hb:dN h;rfl;have hl:=nQ (O0 hb);have hw:h.2.2.1.2.2.1.length<=100000000:=z.2.2.1.2.2.1.1;have hp:=Ey (n:=100000000) (by omega) z;simp only[aj,af,ah];refine dC (λi=>((i:Int),uZ h i)) h.2.2.2.1.length (by omega) (λi nx hi=>?_) (λnx=>?_);simp only[re];rw[iU,ah,UQ (uZ h i) i 1000 (by rw[(hp i).1.rx];exact hi) (by rw[(hp i).1.pl];omega) ((hp i).2.mono),ab,al];rfl;simp only[re];rw[cz,af];have hq:=hp h.2.2.2.1.length;have hr:=zO (n:=100000000+322000*h.2.2.2.1.length) hq.2;have e1:(uZ h h.2.2.2.1.length).2.2.1.2.2.1=h.2.2.1.2.2.1:=by rw[hq.1.tx]
 rw[e1];refine dC (λi=>((i:Int),returned h i)) h.2.2.1.2.2.1.length (by omega) (λi nx hi=>?_) (λnx=>?_);have hri:=(hr i).2;simp only[py];rw[iU,ah,bj hi,ab,aO (by rw[bf];omega),al];rw[show returned h (i+1)=PZ h.2.2.1.2.2.1 i (returned h i) from rfl,PZ,ak hi];rfl;simp only[py];rw[cz,af];simp only[afw,ab];have hE:=L7 (n:=100000000) (by omega) z hl.1;have hk:=Ue hq.1 hq.2;have eN:((List.length (returned h h.2.2.1.2.2.1.length).2.2.2.1:Nat):Int)=(h.2.2.2.1.length:Int):=congrArg Nat.cast hk.1;rw[eN];exact Q6 _ (sy h) _ h.2.2.2.1.length hl.1 hk.1 (hk.2.1.trans hl.2.1) (by rw[hk.2.2.1];exact hl.2.2.1) (by rw[hk.2.2.2];exact hl.2.2.2) (hE.mono)
def BG (x:IS):Bool:=cS x.1 0 65535&&(cS x.2.1 0 65535&&(cS x.2.2.1 0 65535&&(cS x.2.2.2.1 0 65535&&cS x.2.2.2.2 0 4294967295)))
theorem Si (x:IS):mR x=some (BG x):=by simp only[mR,cl,ab,br,cF,BG]
def Uf (x:IS)(p:Int):Bytes:=bif BG x&&cS p 0 1 then((((cj x.1++cj x.2.1)++cj x.2.2.1)++cj x.2.2.2.1)++gu x.2.2.2.2)++gu p else []
theorem aiN (x:IS)(p:Int):lW x p=some (Uf x p):=by have h1:=bQ x.1;have h2:=bQ x.2.1;have h3:=bQ x.2.2.1;have h4:=bQ x.2.2.2.1;have h5:=dT x.2.2.2.2;have h6:=dT p;unfold lW Uf;simp only[Si,cl,ab,lH,vC];cases BG x;rfl;cases cS p 0 1;rfl;simp only[aj,af,ab,cG,ah];rw[aO,aO (by simp only[ai];omega),aO (by simp only[ai];omega),aO (by simp only[ai];omega),aO (by simp only[ai];omega)]
def CW (l:aw aE)(m:bN)(d:Int)(q:tX)(x:IS):bN×tX×Bool:=
 bif !fY q|| !BG x then(m,q,false) else
 bif !(iM l m d (tK q) (Uf x (B6 q)) true).2 then(m,q,false) else
 ((iM l m d (tK q) (Uf x (B6 q)) true).1,(q.1,q.2.1,tmod (q.2.2+1) (2*q.2.1)),true)
theorem aiX (l:aw aE)(m:bN)(d:Int)(q:tX)(x:IS)(hl:l.length<=10^9)(hm:m.length<=10^9):pC l m d q x=some (CW l m d q x):=by unfold pC CW;simp only[Lb,Si,ab,gB m (show m.length<=1073741824 by omega),Sn,aiN];cases hq:fY q;rfl;have h:=xh hq;have hs:=Vo hq;cases BG x;rfl;simp only[aj,af,ab,cB,Sr q hq,El l m d _ _ hl hm (show tK q<=9223372036854775807 by unfold tK;omega)];cases hp:(iM l m d (tK q) (Uf x (B6 q)) true).2 with|false=>simp only[bw,ah,LH hp]|true=>simp only[aj,af];rw[al (n:=2*q.2.1),nX,al (n:=q.2.2+1)]
theorem agh (hn:128<=n)(z:dh n (.sl .str) m)(l:aw aE)(d:Int)(q:tX)(x:IS):dh n (.sl .str) (CW l m d q x).1/\(CW l m d q x).1.length=m.length:=by
 unfold CW;cases !fY q|| !BG x;case true=>exact⟨z,rfl⟩
 cases (iM l m d (tK q) (Uf x (B6 q)) true).2 with|false=>exact⟨z,rfl⟩|true=>exact⟨Ge hn z ..,kE ..⟩
theorem adO {q:tX}{x:IS}(h:fY q=true):fY (CW l m d q x).2.1=true/\(CW l m d q x).2.1.1=q.1/\(CW l m d q x).2.1.2.1=q.2.1:=by
 have hq:=xh h;unfold CW;cases !fY q|| !BG x;case true=>exact⟨h,rfl,rfl⟩
 cases (iM l m d (tK q) (Uf x (B6 q)) true).2 with|false=>exact⟨h,rfl,rfl⟩|true=>refine⟨?_,rfl,rfl⟩;have e:=VE (a:=q.2.2+1) (b:=2*q.2.1);simp only[af,aj,fY,ae,aX]at h⊢;refine⟨h.1,h.2.1,?_⟩;rw[Bw h.2.1];omega
def iT (l:aw aE)(m:bN)(d:Int)(q:cp)(k:Bytes)(s:Bytes):bN×tX×Bool:=
 bif !(dw s).2||(((dw s).1.1 !=3)||decide ((dw s).1.2.2.1<((dM q.2.2.2.1.1).1.length:Int))) then(m,q.2.1,false) else
 bif !(iM l m d (dw s).1.2.2.2.1 (dM q.2.2.2.1.1).1 true).2 then(m,q.2.1,false) else
 CW l (iM l m d (dw s).1.2.2.2.1 (dM q.2.2.2.1.1).1 true).1 d q.2.1 ((dw s).1.2.2.2.2.2,((dM q.2.2.2.1.1).1.length:Int),q.2.2.2.1.2.1,q.2.2.2.1.2.2,BL k (wo (nk q.2.2.2.1.1)))
theorem afr (l:aw aE)(m:bN)(d:Int)(q:cp)(k s:Bytes)(hl:l.length<=10^9)(hm:m.length<=10^9)(hs:s.length<=10^9)(hh:dJ q.2.2.2.1.1=true):∃b,xb l m d q k s=some (b,iT l m d q k s)/\(b=false->iT l m d q k s=(m,q.2.1,false)):=by
 unfold xb iT;have oY:=aaR (s:=s);simp only[Xs s hs,DM,ab,G2 hh];generalize dw s=x at oY⊢;cases hx:x.2;exact⟨false,rfl,λ_=>rfl⟩;have hd:=oY hx;simp only[vK,ae,aX]at hd;cases x.1.1 !=3;case true=>exact⟨false,rfl,λ_=>rfl⟩
 cases decide (x.1.2.2.1<((dM q.2.2.2.1.1).1.length:Int));case true=>exact⟨false,rfl,λ_=>rfl⟩
 simp only[aj,af,ab,cB,El l m d _ _ hl hm (show x.1.2.2.2.1<=9223372036854775807 by omega)];cases (iM l m d x.1.2.2.2.1 (dM q.2.2.2.1.1).1 true).2;exact⟨false,rfl,λ_=>rfl⟩;simp only[aj,af,O9,ab,JF,aiX l _ d _ _ hl (show(iM l m d x.1.2.2.2.1 (dM q.2.2.2.1.1).1 true).1.length<=10^9 by rw[kE];exact hm)];exact⟨true,rfl,λh=>by cases h⟩
theorem Th (hn:128<=n){k:Bytes}(z:dh n (.sl .str) m)(hq:fY q.2.1=true): dh n (.sl .str) (iT l m d q k s).1/\(iT l m d q k s).1.length=m.length/\fY (iT l m d q k s).2.1=true/\(iT l m d q k s).2.1.1=q.2.1.1/\(iT l m d q k s).2.1.2.1=q.2.1.2.1:=by
 unfold iT;cases !(dw s).2||(((dw s).1.1 !=3)||decide ((dw s).1.2.2.1<((dM q.2.2.2.1.1).1.length:Int)));case true=>exact⟨z,rfl,hq,rfl,rfl⟩
 cases (iM l m d (dw s).1.2.2.2.1 (dM q.2.2.2.1.1).1 true).2;exact⟨z,rfl,hq,rfl,rfl⟩;have h1:=Ge hn z l d (dw s).1.2.2.2.1 (dM q.2.2.2.1.1).1 true;have h2:=kE l m d (dw s).1.2.2.2.1 (dM q.2.2.2.1.1).1 true;generalize (iM l m d (dw s).1.2.2.2.1 (dM q.2.2.2.1.1).1 true).1=w at h1 h2;have h3:=agh hn h1 l d q.2.1 ((dw s).1.2.2.2.2.2,((dM q.2.2.2.1.1).1.length:Int),q.2.2.2.1.2.1,q.2.2.2.1.2.2,BL k (wo (nk q.2.2.2.1.1)));have h4:=adO (l:=l) (m:=w) (d:=d) (x:=((dw s).1.2.2.2.2.2,((dM q.2.2.2.1.1).1.length:Int),q.2.2.2.1.2.1,q.2.2.2.1.2.2,BL k (wo (nk q.2.2.2.1.1)))) hq;exact⟨h3.1,h3.2.trans h2,h4⟩
def jo (l:aw aE)(m:bN)(d:Int)(q:cp)(k:Bytes):bN×cp:=
 bif !HQ q||(!q.2.2.2.2.1||((k.length:Int) !=16)) then(m,q) else
 bif (bB l m d q.1).2.2&&(iT l m d q k (bB l m d q.1).1).2.2 then
  ((iT l m d q k (bB l m d q.1).1).1,(bB l m d q.1).2.1,(iT l m d q k (bB l m d q.1).1).2.1,q.2.2.1,agQ,false,q.2.2.2.2.2)
 else(m,(bB l m d q.1).2.1,q.2.1,q.2.2.1,agQ,false,ar (q.2.2.2.2.2+q.2.2.2.1.2.2))
theorem Zm (h:(bB l m d r).2.2=false):(bB l m d r).2.1=r:=by
 unfold bB at h⊢;cases hc: !dx r||(bR r==0);case true=>rfl
 cases hd:(tM l m d (ql r r.2.2.1) 16).2 with|false=>rfl|true=>rw[hc,hd]at h;cases h
theorem D2 (h:HQ q=true):fY q.2.1=true/\(q.2.2.2.2.1=true->dJ q.2.2.2.1.1=true):=by unfold HQ at h;simp only[ae]at h;refine⟨h.1.2.1,λhh=>?_⟩;have h2:=h.2;rw[hh]at h2;simp only[ah,ae]at h2;exact h2.1
theorem La (l:aw aE)(m:bN)(d:Int)(q:cp)(k:Bytes)(hl:l.length<=10^9)(hm:m.length<=10^9):oh l m d q k=some (jo l m d q k):=by
 have ht:=HY l m d q.1;have GY:=Zm (l:=l) (m:=m) (d:=d) (r:=q.1);unfold oh jo;simp only[UR,ab,gB m (show m.length<=1073741824 by omega),JO l m d q.1 hl hm];cases hr:HQ q;rfl;cases hh:q.2.2.2.2.1;rfl;cases (k.length:Int) !=16;case true=>rfl
 obtain⟨b,hb,R8⟩:=afr l m d q k (bB l m d q.1).1 hl hm (by omega) ((D2 hr).2 hh);simp only[aj,af,ab,cB,hb];generalize iT l m d q k (bB l m d q.1).1=s at hb R8⊢;cases hk:(bB l m d q.1).2.2 with|false=>rw[GY hk];rfl|true=>?_
 cases b with|true=>cases hs:s.2.2<;>rfl|false=>rw[R8 rfl];rfl
theorem GR (hn:128<=n){k:Bytes}(z:dh n (.sl .str) m)(zq:dh n eY q): dh n (.sl .str) (jo l m d q k).1/\(jo l m d q k).1.length=m.length/\dh n eY (jo l m d q k).2/\(HQ q=true->fY (jo l m d q k).2.2.1=true/\(jo l m d q k).2.2.1.2.1=q.2.1.2.1):=by
 unfold jo;cases hc: !HQ q||(!q.2.2.2.2.1||((k.length:Int) !=16));case true=>exact⟨z,rfl,zq,λh=>⟨(D2 h).1,rfl⟩⟩
 simp only[cu,dV]at hc;have hq:=(D2 hc.1).1;have hs:=Th hn (l:=l) (d:=d) (k:=k) (s:=(bB l m d q.1).1) z hq;have e0:dh n eY ((bB l m d q.1).2.1,(iT l m d q k (bB l m d q.1).1).2.1,q.2.2.1,agQ,false,q.2.2.2.2.2):=⟨⟨cy,cy,cy,cy⟩,⟨cy,cy,cy⟩,⟨cy,cy,cy⟩,⟨⟨cy,cy,cy,cy,cy,cy,cy,cy,cy,cy,cy,cy,cy,cy,cy,cf _⟩,cy,cy⟩,cy,cy⟩
 cases (bB l m d q.1).2.2&&(iT l m d q k (bB l m d q.1).1).2.2 with|true=>exact⟨hs.1,hs.2.1,e0,λ_=>⟨hs.2.2.1,hs.2.2.2.2⟩⟩|false=>exact⟨z,rfl,⟨⟨cy,cy,cy,cy⟩,⟨cy,cy,cy⟩,⟨cy,cy,cy⟩,⟨⟨cy,cy,cy,cy,cy,cy,cy,cy,cy,cy,cy,cy,cy,cy,cy,cf _⟩,cy,cy⟩,cy,cy⟩,λ_=>⟨hq,rfl⟩⟩
def evS (k:Nat)(h:Host):Host:=
 match h.2.2.2.2.2.1[k]? with
 |some v=>(h.1,h.2.1,h.2.2.1,h.2.2.2.1,h.2.2.2.2.1,h.2.2.2.2.2.1.set k (evV v),h.2.2.2.2.2.2)
 |none=>h
def evH (k:Nat):Nat->Host->Host
 |0,h=>h
 |i+1,h=>evS k (evH k i h)
theorem ah9 (k:Nat)(h:Host):lC (k+1) h (evS k h):=by unfold evS;cases h.2.2.2.2.2.1[k]? with|none=>exact lC.refl _ _|some v=>exact⟨rfl,rfl,rfl,rfl,λ_ _=>rfl,rfl,aB ..,λj hj=>aP (by omega),rfl,rfl,rfl⟩
theorem OA (k:Nat)(h:Host):∀i,lC (k+1) h (evH k i h)
 |0=>lC.refl _ _
 |i+1=>(OA k h i).trans (ah9 k _)
theorem ala (k:Nat)(z:dh n dk h):dh n dk (evS k h):=by unfold evS;cases h.2.2.2.2.2.1[k]? with|none=>exact z|some v=>exact⟨z.1,z.2.1,z.2.2.1,z.2.2.2.1,z.2.2.2.2.1,NT z.2.2.2.2.2.1,z.2.2.2.2.2.2⟩
theorem adj (k:Nat)(z:dh n dk h):∀i,dh n dk (evH k i h)
 |0=>z
 |i+1=>ala k (adj k z i)
theorem abi (h:Host)(k:Nat)(b:Int)(h1:k<h.2.2.2.1.length)(h2:k<h.2.2.2.2.2.1.length)(hq:fY h.2.2.2.1[k].2.1=true)(hb:0<=b/\b<=31):lM h (k:Int) b=some ((),evH k ((h.2.2.2.1[k].2.1.2.2-b)%(2*h.2.2.2.1[k].2.1.2.1)).toNat h):=by
 have Df:=eo;have q:=xh hq;unfold lM;rw[bj h1,ab];generalize h.2.2.2.1[k]=x at q⊢;rw[al (n:=x.2.1.2.2-b),al (n:=2*x.2.1.2.1),Ls _ _,ab];have hm:0<=(x.2.1.2.2-b)%(2*x.2.1.2.1)/\(x.2.1.2.2-b)%(2*x.2.1.2.1)<32:=by have g1:=fC (x.2.1.2.2-b) (show 2*x.2.1.2.1≠0 by omega);have g2:=fF (x.2.1.2.2-b) (show 0<2*x.2.1.2.1 by omega);omega
 generalize (x.2.1.2.2-b)%(2*x.2.1.2.1)=c at hm⊢;obtain⟨c,rfl⟩:=aQ hm.1;rw[ax];have e0:((c:Int),h)=(((c:Int)-((0:Nat):Int)),evH k 0 h):=by simp[evH]
 rw[e0];refine dC (λi=>((c:Int)-(i:Int),evH k i h)) c (by omega) (λi nx hi=>?_) (λnx=>?_);have kk:=OA k h i;have i1:k<(evH k i h).2.2.2.2.2.1.length:=by rw[kk.vec];exact h2
 rw[show evH k (i+1) h=evS k (evH k i h) from rfl];generalize evH k i h=s at i1⊢;simp only[rl,evS];rw[iU,ah,ak i1];simp only[bj i1,ab,ae7,ax];rw[al,show(c:Int)-(i:Int)-1=(c:Int)-((i+1:Nat):Int) by omega];simp only[rl];rw[cz,af]
def Ke (h:Host)(k:Nat)(f:bN×cp):Host:=(f.1,h.2.1,h.2.2.1,h.2.2.2.1.set k f.2,h.2.2.2.2)
def IP (h:Host)(k:Nat)(b:Int)(f:bN×cp):Host:=evH k ((f.2.2.1.2.2-b)%(2*f.2.2.1.2.1)).toNat (Ke h k f)
def qN (k:Nat)(h:Host):Host:=
 match h.2.2.2.1[k]? with
 |some x=>IP h k x.2.1.2.2 (jo h.2.1 h.1 0 x h.2.2.2.2.2.2.2.2.1.2.2.1)
 |none=>h
theorem GC (hf:f.1.length=h.1.length):lC (k+1) h (IP h k b f):=by
 have a:lC (k+1) h (Ke h k f):=⟨hf,rfl,rfl,aB ..,λj hj=>aP (by omega),rfl,rfl,λ_ _=>rfl,rfl,rfl,rfl⟩
 exact a.trans (OA k (Ke h k f) _)
theorem QC (z:dh n dk h)(h1:dh n (.sl .str) f.1)(h2:dh n eY f.2):dh n dk (IP h k b f):=by
 have a:dh n dk (Ke h k f):=⟨h1,z.2.1,z.2.2.1,mZ z.2.2.2.1 h2,z.2.2.2.2⟩
 exact adj k a _
theorem WN {k:Bytes}:(jo l m d q k).1.length=m.length:=by
 have hs:(iT l m d q k (bB l m d q.1).1).1.length=m.length:=by
  unfold iT;cases !(dw (bB l m d q.1).1).2||(((dw (bB l m d q.1).1).1.1 !=3)||decide ((dw (bB l m d q.1).1).1.2.2.1<((dM q.2.2.2.1.1).1.length:Int)));case true=>rfl
  cases (iM l m d (dw (bB l m d q.1).1).1.2.2.2.1 (dM q.2.2.2.1.1).1 true).2;rfl;have h2:=kE l m d (dw (bB l m d q.1).1).1.2.2.2.1 (dM q.2.2.2.1.1).1 true;simp only[af,aj];unfold CW;cases !fY q.2.1|| !BG ((dw (bB l m d q.1).1).1.2.2.2.2.2,((dM q.2.2.2.1.1).1.length:Int),q.2.2.2.1.2.1,q.2.2.2.1.2.2,BL k (wo (nk q.2.2.2.1.1)));case true=>exact h2
  cases (iM l (iM l m d (dw (bB l m d q.1).1).1.2.2.2.1 (dM q.2.2.2.1.1).1 true).1 d (tK q.2.1) (Uf ((dw (bB l m d q.1).1).1.2.2.2.2.2,((dM q.2.2.2.1.1).1.length:Int),q.2.2.2.1.2.1,q.2.2.2.1.2.2,BL k (wo (nk q.2.2.2.1.1))) (B6 q.2.1)) true).2 with|false=>exact h2|true=>exact(kE ..).trans h2
 unfold jo;cases !HQ q||(!q.2.2.2.2.1||((k.length:Int) !=16));case true=>rfl
 cases (bB l m d q.1).2.2&&(iT l m d q k (bB l m d q.1).1).2.2 with|true=>exact hs|false=>rfl
theorem zy (k:Nat)(h:Host):lC (k+1) h (qN k h):=by unfold qN;cases h.2.2.2.1[k]? with|none=>exact lC.refl _ _|some x=>exact GC WN
theorem OK (k:Nat)(h:Host)(n:Nat)(hn:1000<=n)(z:dh n dk h):dh (n+0) dk (qN k h):=by unfold qN;cases hx:h.2.2.2.1[k]? with|none=>exact z|some x=>have hf:=GR (show 128<=n by omega) (l:=h.2.1) (d:=0) (k:=h.2.2.2.2.2.2.2.2.1.2.2.1) z.1 (z.2.2.2.1.2 _ (aW hx));exact QC z hf.1 hf.2.2.1
def xP (h:Host):Host:=bif dN h then mr qN h.2.2.2.1.length h else h
theorem aeR (hn:1000<=n)(k:BB n h):BB n (xP h):=by unfold xP;cases dN h with|false=>exact k|true=>refine⟨(EL hn OK k.z _).mono,?_⟩;simp only[ah];rw[(oW zy h _).tx];exact k.t
theorem Il (hb:dN h=true):∀i (hi:i<h.2.2.2.1.length),HQ h.2.2.2.1[i]=true:=by simp only[dN,SW,ae]at hb;exact λi hi=>aD.1 hb.2.2.2.2.2.2.1.1 _ (aI hi)
theorem M8 (h1:k<h.2.2.2.1.length)(h2:k<h.2.2.2.2.2.1.length)(hq:fY f.2.2.1=true)(hb:0<=b/\b<=31:=by omega): lM (f.1,h.2.1,h.2.2.1,h.2.2.2.1.set k f.2,h.2.2.2.2) (k:Int) b=some ((),IP h k b f):=by
 have h3:k<(Ke h k f).2.2.2.1.length:=by show k<(h.2.2.2.1.set k f.2).length;rw[aB];exact h1
 have e:(Ke h k f).2.2.2.1[k]=f.2:=List.getElem_set_self _;have a:=abi (Ke h k f) k b h3 h2 (by rw[e];exact hq) hb;rw[e]at a;exact a
theorem abn (h:Host)(k:BB 900000000 h):wG h=some (xP h):=by
 have Df:=eo;unfold wG xP;rw[jI h (k.z.mono),ab,wx h (k.sz),ab];cases hb:dN h;rfl;have hl:=nQ (by simp only[dN,ae]at hb;exact hb.2.2.2.2.1:nB h=true);have hr:=Il hb;simp only[aj,af,ah];refine dC (λi=>((i:Int),mr qN i h)) h.2.2.2.1.length (by omega) (λi nx hi=>?_) (λnx=>?_);have kk:=oW zy h i;have zz:dh 900000000 dk (mr qN i h):=(EL (by omega) OK k.z i).mono;have i1:i<(mr qN i h).2.2.2.1.length:=by rw[kk.rx];exact hi
 have i2:i<(mr qN i h).2.2.2.2.2.1.length:=by rw[kk.vec];omega
 have e1:(mr qN i h).2.2.2.1[i]=h.2.2.2.1[i]:=by have:=kk.rxs i (bh _);rw[ak i1,ak hi]at this;exact cc this
 rw[show mr qN (i+1) h=qN i (mr qN i h) from rfl];generalize mr qN i h=s at zz i1 i2 e1⊢;have z1:s.1.length<=900000000:=zz.1.1;have z2:s.2.1.length<=900000000:=zz.2.1.1;have hrx:=hr i hi;rw[<-e1]at hrx;have hqd:=xh (D2 hrx).1;have hf:=GR (show 128<=900000000 by omega) (l:=s.2.1) (d:=0) (k:=s.2.2.2.2.2.2.2.2.1.2.2.1) zz.1 (zz.2.2.2.1.2 _ (aI i1));have ev:=M8 (h:=s) (k:=i) (b:=s.2.2.2.1[i].2.1.2.2) (f:=jo s.2.1 s.1 0 s.2.2.2.1[i] s.2.2.2.2.2.2.2.2.1.2.2.1) i1 i2 (hf.2.2.2 hrx).1;simp only[rb,qN];rw[iU,ah,ak i1];simp only[bj i1,bj hi,ab,La s.2.1 s.1 0 _ _ (show s.2.1.length<=10^9 by omega) (show s.1.length<=10^9 by omega),ax,<-e1,ev];rw[al];rfl;simp only[rb];rw[cz,af]
def Yo (a b:aJ):Bool:=(a.1==b.1)&&((a.2.1==b.2.1)&&((a.2.2.1==b.2.2.1)&&((a.2.2.2.1==b.2.2.2.1)&&((a.2.2.2.2.2.1==b.2.2.2.2.2.1)&&((a.2.2.2.2.2.2.1==b.2.2.2.2.2.2.1)&&((a.2.2.2.2.2.2.2.1==b.2.2.2.2.2.2.2.1)&&((a.2.2.2.2.2.2.2.2.1==b.2.2.2.2.2.2.2.2.1)&&((a.2.2.2.2.2.2.2.2.2.1==b.2.2.2.2.2.2.2.2.2.1)&&((a.2.2.2.2.2.2.2.2.2.2.1==b.2.2.2.2.2.2.2.2.2.2.1)&&((a.2.2.2.2.2.2.2.2.2.2.2.2.1==b.2.2.2.2.2.2.2.2.2.2.2.2.1)&&((a.2.2.2.2.2.2.2.2.2.2.2.2.2.2.1==b.2.2.2.2.2.2.2.2.2.2.2.2.2.2.1))))))))))))
theorem aiW (a b:aJ):yF a b=some (Yo a b):=by unfold yF Yo;simp only[beq_self_eq_true,bl,dy]
def apf (s:tF)(p:aJ):Bool:=(p.2.2.2.2.2.2.2.2.2.2.2.1==tmod (ar (s.1.2.2.2.2.2.2.2.2.2.2.2.1+(s.1.2.2.2.2.2.2.2.2.2.2.2.2.2.2.2.length:Int))) 4294967296)&&(p.2.2.2.2.1==tmod (ar (s.1.2.2.2.2.1+s.2.2)) 65536)
def adY (s:tF)(p:aJ):Bool:=decide (1<=s.2.1)&&(cS s.2.2 1 320&&(decide ((s.1.2.2.2.2.2.2.2.2.2.2.2.2.2.2.2.length:Int)=s.2.1*s.2.2)&&(cS (p.2.2.2.2.2.2.2.2.2.2.2.2.2.2.2.length:Int) 1 s.2.1&&decide ((s.1.2.2.2.2.2.2.2.2.2.2.2.2.2.2.2.length:Int)+(p.2.2.2.2.2.2.2.2.2.2.2.2.2.2.2.length:Int)<=320))))
def ait (s:tF)(p:aJ):Bool:=dJ s.1&&(eJ p&&(Yo s.1 p&&((p.2.2.2.2.2.2.2.2.1==6)&&((s.1.2.2.2.2.2.2.2.2.2.2.2.2.2.1==16)&&Ee p.2.2.2.2.2.2.2.2.2.2.2.2.2.1))))
def KR (s:tF)(p:aJ):Bool:=ait s p&&(adY s p&&apf s p)
theorem J7 (h:eJ p=true)(h6:(p.2.2.2.2.2.2.2.2.1==6)=true):cS p.2.2.2.2.2.2.2.2.2.2.2.2.2.1 0 31=true:=by simp only[eJ,dJ,ae]at h;exact Hd (BO h.1.1) h6
theorem ID (h:eJ p=true):p.2.2.2.2.2.2.2.2.2.2.2.2.2.2.2.length<=128:=by simp only[eJ,ae,aF]at h;omega
theorem adu (s:tF)(p:aJ):wA s p=some (KR s p):=by
 unfold wA KR ait;rw[mx,ab,xS,ab,aiW,ab];cases hs:dJ s.1;rfl;cases hp:eJ p;rfl;cases Yo s.1 p;rfl;cases h6:p.2.2.2.2.2.2.2.2.1==6 with|false=>simp only[bne,h6];rfl|true=>?_
 cases h16:s.1.2.2.2.2.2.2.2.2.2.2.2.2.2.1==16 with|false=>simp only[bne,h6,h16];rfl|true=>?_
 have hf:=J7 hp h6;have hsl:=EP hs;have GZ:=ID hp;simp only[bne,h6,h16,aj,af,ab,OE _ hf,bl];cases Ee p.2.2.2.2.2.2.2.2.2.2.2.2.2.1;rfl;simp only[aj,af,cl,ab,bl];rw[aG (show¬(4294967296:Nat)=0 by omega),aG (show¬(65536:Nat)=0 by omega)];simp only[br,cF];rw[show((p.2.2.2.2.2.2.2.2.2.2.2.1==tmod (ar (s.1.2.2.2.2.2.2.2.2.2.2.2.1+(s.1.2.2.2.2.2.2.2.2.2.2.2.2.2.2.2.length:Int))) 4294967296)&&(p.2.2.2.2.1==tmod (ar (s.1.2.2.2.2.1+s.2.2)) 65536))=apf s p from rfl];unfold adY;generalize apf s p=q;generalize s.1.2.2.2.2.2.2.2.2.2.2.2.2.2.2.2.length=n at hsl⊢;generalize p.2.2.2.2.2.2.2.2.2.2.2.2.2.2.2.length=m at GZ⊢;rw[al (n:=(n:Int)+(m:Int))];by_cases h1:s.2.1<1;rw[au h1,aq (show¬1<=s.2.1 by omega)];rfl;rw[aq h1,au (show 1<=s.2.1 by omega)];cases h2:cS s.2.2 1 320;rfl;have VJ:=aX.1 h2;simp only[aj,af,ab,bl];rw[nX,nX];have e1:tmod (n:Int) s.2.2=(n:Int)%s.2.2:=dG (by omega);have e2:tdiv (n:Int) s.2.2=(n:Int)/s.2.2:=Int.tdiv_eq_ediv_of_nonneg (by omega);have hdm:=Int.emod_add_mul_ediv (n:Int) s.2.2;have hq0:0<=(n:Int)/s.2.2:=Int.ediv_nonneg (by omega) (by omega);have hq1:(n:Int)/s.2.2<=(n:Int):=Int.ediv_le_self _ (by omega);rw[e1,e2,al (n:=(n:Int)/s.2.2)];by_cases h3:(n:Int)=s.2.1*s.2.2;have h4:(n:Int)%s.2.2=0:=by rw[h3];exact Int.mul_emod_left ..
 have h5:(n:Int)/s.2.2=s.2.1:=by rw[h3];exact Int.mul_ediv_cancel _ (by omega)
 rw[h4,h5,au h3];simp only[beq_self_eq_true,aj,af,ab,bl];cases cS (m:Int) 1 s.2.1;rfl;cases decide ((n:Int)+(m:Int)<=320)<;>rfl;rw[aq h3];cases h4:(n:Int)%s.2.2==0 with
 |false=>rfl
 |true=>
  have h4':(n:Int)%s.2.2=0:=by simpa using h4
  have h5:((n:Int)/s.2.2==s.2.1)=false:=by rw[cr];intro h5;rw[h4',h5]at hdm;exact h3 (by rw[Int.mul_comm];omega)
  simp only[aj,af,h5,bw,ab,ah];rfl
def HI (s:tF)(p:aJ):tF:=bif KR s p then((s.1.1,s.1.2.1,s.1.2.2.1,s.1.2.2.2.1,s.1.2.2.2.2.1,s.1.2.2.2.2.2.1,s.1.2.2.2.2.2.2.1,s.1.2.2.2.2.2.2.2.1,s.1.2.2.2.2.2.2.2.2.1,s.1.2.2.2.2.2.2.2.2.2.1,s.1.2.2.2.2.2.2.2.2.2.2.1,s.1.2.2.2.2.2.2.2.2.2.2.2.1,s.1.2.2.2.2.2.2.2.2.2.2.2.2.1,p.2.2.2.2.2.2.2.2.2.2.2.2.2.1,s.1.2.2.2.2.2.2.2.2.2.2.2.2.2.2.1,s.1.2.2.2.2.2.2.2.2.2.2.2.2.2.2.2++p.2.2.2.2.2.2.2.2.2.2.2.2.2.2.2),s.2.1,ar (s.2.2+1)) else s
theorem TJ {s:tF}(h:KR s p=true):s.1.2.2.2.2.2.2.2.2.2.2.2.2.2.2.2.length+p.2.2.2.2.2.2.2.2.2.2.2.2.2.2.2.length<=320:=by simp only[KR,adY,ae,aF]at h;have:=h.2.1.2.2.2.2;omega
theorem aiT (s:tF)(p:aJ):G5 s p=some (HI s p):=by unfold G5 HI;rw[adu,ab];cases h:KR s p;rfl;have:=TJ h;simp only[aj,af,ah];rw[aO]
def nv (p:aJ):tF:=(p,(p.2.2.2.2.2.2.2.2.2.2.2.2.2.2.2.length:Int),1)
theorem aby (p:aJ):F4 p=some (nv p):=rfl
def OW (q:cp)(s:tF):cp:=(q.1,q.2.1,q.2.2.1,s,true,q.2.2.2.2.2)
def mE (l:aw aE)(m:bN)(d:Int)(q:cp)(k:Bytes)(p:aJ)(c:Bool):bN×cp:=
 bif !HQ q||(!eJ p||((k.length:Int) !=16)) then(m,q) else
 bif c&&(q.2.2.2.2.1&&KR q.2.2.2.1 p) then(m,q.1,q.2.1,q.2.2.1,HI q.2.2.2.1 p,q.2.2.2.2) else
 bif c then((jo l m d q k).1,OW (jo l m d q k).2 (nv p)) else jo l (jo l m d q k).1 d (OW (jo l m d q k).2 (nv p)) k
theorem abj (l:aw aE)(m:bN)(d:Int)(q:cp)(k:Bytes)(p:aJ)(c:Bool)(hl:l.length<=10^9)(hm:m.length<=10^9):pE l m d q k p c=some (mE l m d q k p c):=by
 unfold pE mE OW;simp only[UR,xS,ab,gB m (show m.length<=1073741824 by omega),adu,aiT,La l m d q k hl hm,aby,La l (jo l m d q k).1 d _ k hl (show(jo l m d q k).1.length<=10^9 by rw[WN];exact hm)];cases HQ q;rfl;cases eJ p;rfl;cases (k.length:Int) !=16;case true=>rfl
 cases c;rfl;cases q.2.2.2.2.1;rfl;cases KR q.2.2.2.1 p<;>rfl
theorem WO {k:Bytes}(h:fY q.2.1=true):fY (jo l m d q k).2.2.1=true:=by
 unfold jo;cases !HQ q||(!q.2.2.2.2.1||((k.length:Int) !=16));case true=>exact h
 have hs:fY (iT l m d q k (bB l m d q.1).1).2.1=true:=by
  unfold iT;cases !(dw (bB l m d q.1).1).2||(((dw (bB l m d q.1).1).1.1 !=3)||decide ((dw (bB l m d q.1).1).1.2.2.1<((dM q.2.2.2.1.1).1.length:Int)));case true=>exact h
  cases (iM l m d (dw (bB l m d q.1).1).1.2.2.2.1 (dM q.2.2.2.1.1).1 true).2;exact h;exact(adO h).1
 cases (bB l m d q.1).2.2&&(iT l m d q k (bB l m d q.1).1).2.2 with|true=>exact hs|false=>exact h
theorem aeZ {s:tF}(h:s.1.2.2.2.2.2.2.2.2.2.2.2.2.2.2.2.length<=n):dh n eY (OW q s):=⟨⟨cy,cy,cy,cy⟩,⟨cy,cy,cy⟩,⟨cy,cy,cy⟩,⟨⟨cy,cy,cy,cy,cy,cy,cy,cy,cy,cy,cy,cy,cy,cy,cy,h⟩,cy,cy⟩,cy,cy⟩
theorem N2 (hn:1000<=n){k:Bytes}{c:Bool}(z:dh n (.sl .str) m)(zq:dh n eY q)(hq:fY q.2.1=true): dh n (.sl .str) (mE l m d q k p c).1/\(mE l m d q k p c).1.length=m.length/\dh n eY (mE l m d q k p c).2/\fY (mE l m d q k p c).2.2.1=true:=by
 unfold mE;cases hc: !HQ q||(!eJ p||((k.length:Int) !=16));case true=>exact⟨z,rfl,zq,hq⟩
 simp only[cu,dV]at hc;have hp:=ID hc.2.1;cases hj:c&&(q.2.2.2.2.1&&KR q.2.2.2.1 p)with|true=>simp only[ae]at hj;have:=TJ hj.2.2;refine⟨z,rfl,⟨⟨cy,cy,cy,cy⟩,⟨cy,cy,cy⟩,⟨cy,cy,cy⟩,⟨?_,cy,cy⟩,cy,cy⟩,hq⟩;refine⟨cy,cy,cy,cy,cy,cy,cy,cy,cy,cy,cy,cy,cy,cy,cy,?_⟩;unfold HI;rw[hj.2.2];show List.length (q.2.2.2.1.1.2.2.2.2.2.2.2.2.2.2.2.2.2.2.2++p.2.2.2.2.2.2.2.2.2.2.2.2.2.2.2)<=n;rw[ai];omega|false=>have hf:=GR (show 128<=n by omega) (l:=l) (d:=d) (k:=k) z zq;have hfq:=WO (l:=l) (m:=m) (d:=d) (k:=k) hq;have hh:dh n eY (OW (jo l m d q k).2 (nv p)):=aeZ (by show p.2.2.2.2.2.2.2.2.2.2.2.2.2.2.2.length<=n;omega);cases c with|true=>exact⟨hf.1,hf.2.1,hh,hfq⟩|false=>have Ax:=GR (show 128<=n by omega) (l:=l) (d:=d) (k:=k) hf.1 hh;exact⟨Ax.1,Ax.2.1.trans hf.2.1,Ax.2.2.1,WO (q:=OW (jo l m d q k).2 (nv p)) hfq⟩
theorem YH {r:mi}(h:CX r=true):0<=r.2.2.2.2.2.2.2.2:=by
 by_cases h0:0<=r.2.2.2.2.2.2.2.2;exact h0;exfalso;have e:∀b:Int,cS r.2.2.2.2.2.2.2.2 0 b=false:=λb=>by rw[Bool.eq_false_iff];intro hc;have:=aX.1 hc;omega
 have e1:(r.2.2.2.2.2.2.2.2==0)=false:=by rw[cr];omega
 revert h;unfold CX;have z:∀c:Bool,(bif c then false else false)=false:=by intro c;cases c<;>rfl
 simp only[ni,dq,ab,br,e,e1,ga,z,af];intro h;cases h
theorem agL {s:df}{q:Int}:tS s q p= -1\/∃n:Nat,tS s q p=(n:Int)/\(n:Int)<q:=by
 unfold tS;cases hb: !eK s q|| !dJ p;case true=>exact .inl rfl
 simp only[cu,dV]at hb;have hs:=hb.1;simp only[eK,ae]at hs;simp only[af];cases hd:decide (Hs s.1 p>=0)with
 |true=>obtain⟨n,hn,hl⟩:=WD s.1 p (bt hd);simp only[ah,hn,ax,cH hl];cases s.1[n].2.2.2.2.2.2.2.1==1 with|true=>exact .inl rfl|false=>have h1:=aD.1 hs.1.2 _ (aI hl);have h2:=hs.1.1.1.1;simp only[Ah,ae]at h2;have h3:=YH (aD.1 h2.1 _ (aI hl));simp only[aK,cY]at h1;exact .inr ⟨s.1[n].2.2.2.2.2.2.2.2.toNat,by simp only[af];omega,by omega⟩
 |false=>
  simp only[af];cases VL:decide (findF s.2.1 (nk p)>=0)with
  |true=>obtain⟨n,hn,hl⟩:=WC s.2.1 (nk p) (bt VL);simp only[ah,hn,ax,cH hl];have h1:=aD.1 hs.2 _ (aI hl);have h2:=hs.1.1.1.2;simp only[tT,ae,aZ]at h2;have h3:=aD.1 h2.2 n (bD.2 (by omega));unfold oH S2 at h3;rw[yf hl]at h3;simp only[ae,aX]at h3;simp only[aK,cY]at h1;exact .inr ⟨s.2.1[n].2.2.toNat,by omega,by omega⟩
  |false=>
   simp only[af];unfold NQ;cases hc: !tB s.2.2 q||decide (Ec s.2.2 (nk p)<0);case true=>exact .inl rfl
   simp only[cu,dV,cY]at hc;obtain⟨n,hn,hl⟩:=RN s.2.2 (nk p) hc.2;have h1:=hc.1;simp only[tB,ae]at h1;have h2:=aX.1 (aD.1 h1.2 _ (aI hl));simp only[af,hn,ax,cH hl];exact .inr ⟨s.2.2.2[n].toNat,by omega,by omega⟩
def Da (h:Host)(a b c d:Int):Host:=(h.1,h.2.1,h.2.2.1,h.2.2.2.1,h.2.2.2.2.1,h.2.2.2.2.2.1,h.2.2.2.2.2.2.1,h.2.2.2.2.2.2.2.1,h.2.2.2.2.2.2.2.2.1,h.2.2.2.2.2.2.2.2.2.1,h.2.2.2.2.2.2.2.2.2.2.1,h.2.2.2.2.2.2.2.2.2.2.2.1,h.2.2.2.2.2.2.2.2.2.2.2.2.1,h.2.2.2.2.2.2.2.2.2.2.2.2.2.1,ar (h.2.2.2.2.2.2.2.2.2.2.2.2.2.2.1+1),a,b,c,d)
def lR (h:Host)(x:Bytes):Host:=
 bif !dN h then h else
 bif (gv x).2 !=0 then Da h (ar (h.2.2.2.2.2.2.2.2.2.2.2.2.2.2.2.1+1)) h.2.2.2.2.2.2.2.2.2.2.2.2.2.2.2.2.1 h.2.2.2.2.2.2.2.2.2.2.2.2.2.2.2.2.2.1 h.2.2.2.2.2.2.2.2.2.2.2.2.2.2.2.2.2.2 else
 bif !zu h.2.2.2.2.2.2.2.1 (gv x).1 then Da h h.2.2.2.2.2.2.2.2.2.2.2.2.2.2.2.1 (ar (h.2.2.2.2.2.2.2.2.2.2.2.2.2.2.2.2.1+1)) h.2.2.2.2.2.2.2.2.2.2.2.2.2.2.2.2.2.1 h.2.2.2.2.2.2.2.2.2.2.2.2.2.2.2.2.2.2 else
 bif tS h.2.2.2.2.2.2.2.2.1 (h.2.2.2.1.length:Int) (gv x).1== -1 then Da h h.2.2.2.2.2.2.2.2.2.2.2.2.2.2.2.1 h.2.2.2.2.2.2.2.2.2.2.2.2.2.2.2.2.1 (ar (h.2.2.2.2.2.2.2.2.2.2.2.2.2.2.2.2.2.1+1)) h.2.2.2.2.2.2.2.2.2.2.2.2.2.2.2.2.2.2 else
 match h.2.2.2.1[(tS h.2.2.2.2.2.2.2.2.1 (h.2.2.2.1.length:Int) (gv x).1).toNat]? with
 |some q=>IP (Da h h.2.2.2.2.2.2.2.2.2.2.2.2.2.2.2.1 h.2.2.2.2.2.2.2.2.2.2.2.2.2.2.2.2.1 h.2.2.2.2.2.2.2.2.2.2.2.2.2.2.2.2.2.1 (ar (h.2.2.2.2.2.2.2.2.2.2.2.2.2.2.2.2.2.2+1))) (tS h.2.2.2.2.2.2.2.2.1 (h.2.2.2.1.length:Int) (gv x).1).toNat q.2.1.2.2 (mE h.2.1 h.1 0 q h.2.2.2.2.2.2.2.2.1.2.2.1 (gv x).1 h.2.2.2.2.2.2.2.2.2.2.1)
 |none=>h
theorem JK (h:Host)(x:Bytes)(k:BB 900000000 h)(hx:x.length<=10^9):ot h x=some (lR h x):=by
 have z:=k.z;have z1:h.1.length<=900000000:=z.1.1;have z2:h.2.1.length<=900000000:=z.2.1.1;have zf:h.2.2.2.2.2.2.2.1.2.2.length<=900000000:=z.2.2.2.2.2.2.2.1.2.2.1;have s1:h.2.2.2.2.2.2.2.2.1.1.length<=900000000:=z.2.2.2.2.2.2.2.2.1.1.1;have s2:h.2.2.2.2.2.2.2.2.1.2.1.length<=900000000:=z.2.2.2.2.2.2.2.2.1.2.1.1;have s3:h.2.2.2.2.2.2.2.2.1.2.2.2.length<=900000000:=z.2.2.2.2.2.2.2.2.1.2.2.2.1;unfold ot lR;rw[jI h (z.mono),ab,wx h (k.sz),ab];cases hb:dN h;rfl;have hl:=nQ (by simp only[dN,ae]at hb;exact hb.2.2.2.2.1:nB h=true);have hr:=Il hb;simp only[aj,af,Lc x hx,ab,Xm h.2.2.2.2.2.2.2.1 _ (show h.2.2.2.2.2.2.2.1.2.2.length<=10^9 by omega),afq h.2.2.2.2.2.2.2.2.1 _ _ (show h.2.2.2.2.2.2.2.2.1.1.length<=10^9 by omega) (show h.2.2.2.2.2.2.2.2.1.2.1.length<=10^9 by omega) (show h.2.2.2.2.2.2.2.2.1.2.2.2.length<=10^9 by omega)];generalize gv x=f;cases f.2 !=0;case true=>rfl
 cases zu h.2.2.2.2.2.2.2.1 f.1;rfl;simp only[aj,af];have nA:=agL (s:=h.2.2.2.2.2.2.2.2.1) (q:=(h.2.2.2.1.length:Int)) (p:=f.1);generalize tS h.2.2.2.2.2.2.2.2.1 (h.2.2.2.1.length:Int) f.1=r at nA⊢;rcases nA with rfl|⟨n,rfl,hn⟩;rfl;have i1:n<h.2.2.2.1.length:=by omega
 have i2:n<h.2.2.2.2.2.1.length:=by omega
 have hq:=(D2 (hr n i1)).1;have hqi:=xh hq;have ha:=N2 (show 1000<=900000000 by omega) (l:=h.2.1) (d:=0) (k:=h.2.2.2.2.2.2.2.2.1.2.2.1) (p:=f.1) (c:=h.2.2.2.2.2.2.2.2.2.2.1) z.1 (z.2.2.2.1.2 _ (aI i1)) hq;have ev:=M8 (h:=Da h h.2.2.2.2.2.2.2.2.2.2.2.2.2.2.2.1 h.2.2.2.2.2.2.2.2.2.2.2.2.2.2.2.2.1 h.2.2.2.2.2.2.2.2.2.2.2.2.2.2.2.2.2.1 (ar (h.2.2.2.2.2.2.2.2.2.2.2.2.2.2.2.2.2.2+1))) (k:=n) (b:=h.2.2.2.1[n].2.1.2.2) (f:=mE h.2.1 h.1 0 h.2.2.2.1[n] h.2.2.2.2.2.2.2.2.1.2.2.1 f.1 h.2.2.2.2.2.2.2.2.2.2.1) i1 i2 ha.2.2.2;rw[show((n:Int)== -1)=false from by rw[cr];omega,ax,ak i1];simp only[af,bj i1,ab,abj h.2.1 h.1 0 _ _ _ _ (show h.2.1.length<=10^9 by omega) (show h.1.length<=10^9 by omega)];rw[show(lM ((mE h.2.1 h.1 0 h.2.2.2.1[n] h.2.2.2.2.2.2.2.2.1.2.2.1 f.1 h.2.2.2.2.2.2.2.2.2.2.1).1,h.2.1,h.2.2.1,h.2.2.2.1.set n (mE h.2.1 h.1 0 h.2.2.2.1[n] h.2.2.2.2.2.2.2.2.1.2.2.1 f.1 h.2.2.2.2.2.2.2.2.2.2.1).2,h.2.2.2.2.1,h.2.2.2.2.2.1,h.2.2.2.2.2.2.1,h.2.2.2.2.2.2.2.1,h.2.2.2.2.2.2.2.2.1,h.2.2.2.2.2.2.2.2.2.1,h.2.2.2.2.2.2.2.2.2.2.1,h.2.2.2.2.2.2.2.2.2.2.2.1,h.2.2.2.2.2.2.2.2.2.2.2.2.1,h.2.2.2.2.2.2.2.2.2.2.2.2.2.1,ar (h.2.2.2.2.2.2.2.2.2.2.2.2.2.2.1+1),h.2.2.2.2.2.2.2.2.2.2.2.2.2.2.2.1,h.2.2.2.2.2.2.2.2.2.2.2.2.2.2.2.2.1,h.2.2.2.2.2.2.2.2.2.2.2.2.2.2.2.2.2.1,ar (h.2.2.2.2.2.2.2.2.2.2.2.2.2.2.2.2.2.2+1)) (n:Int) h.2.2.2.1[n].2.1.2.2)=_ from ev,ab]
theorem Gg (hn:1000<=n)(x:Bytes)(k:BB n h):BB n (lR h x)/\(lR h x).2.2.1=h.2.2.1/\(lR h x).2.2.2.2.1.length=h.2.2.2.2.1.length:=by
 have z:=k.z;have zc:∀a b c d,BB n (Da h a b c d):=λa b c d=>⟨⟨z.1,z.2.1,z.2.2.1,z.2.2.2.1,z.2.2.2.2.1,z.2.2.2.2.2.1,z.2.2.2.2.2.2.1,z.2.2.2.2.2.2.2.1,z.2.2.2.2.2.2.2.2.1,z.2.2.2.2.2.2.2.2.2.1,z.2.2.2.2.2.2.2.2.2.2.1,z.2.2.2.2.2.2.2.2.2.2.2.1,z.2.2.2.2.2.2.2.2.2.2.2.2.1,z.2.2.2.2.2.2.2.2.2.2.2.2.2.1,cy,cy,cy,cy,cy⟩,k.t⟩
 unfold lR;cases hb:dN h;exact⟨k,rfl,rfl⟩;have hr:=Il hb;generalize gv x=f;cases f.2 !=0;case true=>exact⟨zc ..,rfl,rfl⟩
 cases zu h.2.2.2.2.2.2.2.1 f.1;exact⟨zc ..,rfl,rfl⟩;simp only[aj,af];generalize tS h.2.2.2.2.2.2.2.2.1 (h.2.2.2.1.length:Int) f.1=r;cases r== -1;case true=>exact⟨zc ..,rfl,rfl⟩
 simp only[af];rcases hq:h.2.2.2.1[r.toNat]? with _|q;exact⟨k,rfl,rfl⟩;obtain⟨hi,hqe⟩:=aC.1 hq;have hqd:=(D2 (hr _ hi)).1;rw[hqe]at hqd;have ha:=N2 hn (l:=h.2.1) (d:=0) (k:=h.2.2.2.2.2.2.2.2.1.2.2.1) (p:=f.1) (c:=h.2.2.2.2.2.2.2.2.2.2.1) z.1 (z.2.2.2.1.2 _ (aW hq)) hqd;have zc':=zc h.2.2.2.2.2.2.2.2.2.2.2.2.2.2.2.1 h.2.2.2.2.2.2.2.2.2.2.2.2.2.2.2.2.1 h.2.2.2.2.2.2.2.2.2.2.2.2.2.2.2.2.2.1 (ar (h.2.2.2.2.2.2.2.2.2.2.2.2.2.2.2.2.2.2+1));have kk:=GC (h:=Da h h.2.2.2.2.2.2.2.2.2.2.2.2.2.2.2.1 h.2.2.2.2.2.2.2.2.2.2.2.2.2.2.2.2.1 h.2.2.2.2.2.2.2.2.2.2.2.2.2.2.2.2.2.1 (ar (h.2.2.2.2.2.2.2.2.2.2.2.2.2.2.2.2.2.2+1))) (k:=r.toNat) (b:=q.2.1.2.2) (f:=mE h.2.1 h.1 0 q h.2.2.2.2.2.2.2.2.1.2.2.1 f.1 h.2.2.2.2.2.2.2.2.2.2.1) ha.2.1;exact⟨⟨QC zc'.z ha.1 ha.2.2.1,by rw[kk.tx];exact k.t⟩,kk.tx,kk.pl⟩
end
end Go.Pu
